/- The law that a request with a field more may not be asked. -/
import Derived.Test.YtalkhhfinogecaaB8
namespace Go.AW
open Go Go.Proofs

def sizes : Int → List Int → Bool
  | _, [] => true
  | m, n :: r => if n > m then false else sizes (IntKind.i64.wrap (m - n)) r

def sizesAt (m : Int) (l : List Int) : Nat → Int
  | 0 => m
  | k + 1 => IntKind.i64.wrap (sizesAt m l k - l.getD k 0)

theorem sizes_at (m : Int) (l : List Int) : ∀ k, k ≤ l.length → (∀ j < k, ¬ l.getD j 0 > sizesAt m l j) → sizes m l = sizes (sizesAt m l k) (l.drop k)
  | 0, _, _ => rfl
  | k + 1, hk, h => by
    rw [sizes_at m l k (by omega) (fun j hj => h j (by omega)), List.drop_eq_getElem_cons (by omega)]
    have hg : l.getD k 0 = l[k] := by simp [List.getD, List.getElem?_eq_getElem (by omega : k < l.length)]
    have := h k (by omega)
    simp only [sizes, sizesAt]
    rw [hg] at this ⊢
    rw [if_neg this]

theorem plain_Sizes (m : Int) (l : List Int) (hb : l.length ≤ 1000) : PCall PP 57 [I64 m, .fr (.sl 1 8 (l.map intE))] (B1 (sizes m l)) := by
  refine pcall_of TTok Try.func57 rfl rfl rfl rfl rfl rfl (fun hfit => ?_)
  have hl : (l.map intE).length = l.length := List.length_map _
  (repeat' ((conv => whnf); first | refine bsplit (fun _ => ?_) (fun _ => ?_) | refine adraw ?_ | refine leave ?_ | refine And.intro (by first | assumption | omega) ?_)) <;> (try (conv => whnf))
  refine aloopI (fun i : Nat => [(0, I64 (sizesAt m l i)), (7, .fr (.sl 1 8 (l.map intE))), (8, I64 l.length), (9, I64 i)]) (fun _ => []) (fun i => l.length - i)
    (fun i => i ≤ l.length ∧ ∀ j < i, ¬ l.getD j 0 > sizesAt m l j) 0 ⟨by omega, by intro j h; omega⟩ (.same ⟨rfl, rfl, congrArg (fun n : Nat => I64 n) hl, rfl, trivial⟩ rfl) ?_
  rintro i ⟨hi, hin⟩
  (repeat' ((conv => whnf); first | refine bsplit (fun _ => ?_) (fun _ => ?_) | refine adraw ?_ | refine leave ?_ | refine And.intro (by first | assumption | omega) ?_)) <;> (try (conv => whnf))
  · rename_i h1
    have hi2 : i < l.length := by simp at h1; omega
    have hx : l[i]? = some (l.getD i 0) := by simp [List.getD, hi2]
    refine aidx rfl hx ?_
    (repeat' ((conv => whnf); first | refine bsplit (fun _ => ?_) (fun _ => ?_) | refine adraw ?_ | refine leave ?_ | refine And.intro (by first | assumption | omega) ?_)) <;> (try (conv => whnf))
    · rename_i h2
      have h2' : l.getD i 0 > sizesAt m l i := of_decide_eq_true h2
      refine ⟨b1_inj ?_⟩
      rw [sizes_at m l i hi hin, List.drop_eq_getElem_cons hi2]
      have hg : l.getD i 0 = l[i] := by simp [List.getD, hi2]
      rw [hg] at h2'
      simp only [sizes, if_pos h2']
    · rename_i h2
      have h2' : ¬ l.getD i 0 > sizesAt m l i := of_decide_eq_false h2
      exact ⟨⟨i + 1, by omega, fun j hj => by
        by_cases hji : j = i
        · subst hji; exact h2'
        · exact hin j (by omega)⟩, by show l.length - (i + 1) < l.length - i; omega, .same ⟨rfl, rfl, rfl, i64_inj (wrap_add hi2 (by omega)), trivial⟩ rfl⟩
  · rename_i h1
    have hi2 : i = l.length := by simp at h1; omega
    subst hi2
    refine ⟨b1_inj ?_⟩
    rw [sizes_at m l l.length hi hin, List.drop_length]
    rfl

def few28 (r : Req) : Bool := sizes 60 [(r.commands.length : Int), (r.answers.length : Int)]
theorem law28_few (r : Req) : PCall PP 23 [fv r.enc] (B1 (few28 r)) := by
  refine pcall_of TTok Try.func23 rfl rfl rfl rfl rfl rfl (fun hfit => ?_)
  have hl1 : (r.commands.map Cmd.enc).length = r.commands.length := List.length_map _
  have hl2 : (r.answers.map Ans.enc).length = r.answers.length := List.length_map _
  (repeat' ((conv => whnf); first | refine bsplit (fun _ => ?_) (fun _ => ?_) | refine adraw ?_ | refine leave ?_ | refine acall (plain_Sizes 60 [((r.commands.map Cmd.enc).length : Int), ((r.answers.map Ans.enc).length : Int)] (by simp)) ?_ | refine dcall (plain_Sizes 60 [((r.commands.map Cmd.enc).length : Int), ((r.answers.map Ans.enc).length : Int)] (by simp)) ?_ | refine GCall.sym _ (fun _ => PC.own (plain_Sizes 60 [((r.commands.map Cmd.enc).length : Int), ((r.answers.map Ans.enc).length : Int)] (by simp))) ?_ | refine And.intro (by first | assumption | omega) ?_)) <;> (try (conv => whnf))
  exact ⟨by rw [hl1, hl2]; rfl⟩

def runOf (n : Int) : Int := IntKind.i64.wrap (1 + IntKind.i64.wrap ((IntKind.u64.wrap n).tmod 5))
theorem runOf_range (n : Int) : 1 ≤ runOf n ∧ runOf n ≤ 5 := by
  have h1 : 0 ≤ IntKind.u64.wrap n := by
    simp only [IntKind.wrap, IntKind.signed, IntKind.bits]
    simp
    omega
  have h2 : 0 ≤ (IntKind.u64.wrap n).tmod 5 := Int.tmod_nonneg _ h1
  have h3 : (IntKind.u64.wrap n).tmod 5 < 5 := Int.tmod_lt_of_pos _ (by omega)
  unfold runOf
  rw [i64_small (n := (IntKind.u64.wrap n).tmod 5) (by omega) (by omega), i64_small (by omega) (by omega)]
  omega

theorem limOk_iff (r : Req) : limOk r = 0 ↔ fieldsOf r.kind ≠ 0 ∧ bare r = true ∧ words r = true ∧ okV r.value = 0 ∧ counts r = true ∧ (hasF r.kind 128 && polOk r.policy != 0) = false ∧ taskOk r = 0 := by
  unfold limOk
  cases h1 : (fieldsOf r.kind == 0) with
  | true => simp at h1; simp [h1]
  | false =>
    have h1' : fieldsOf r.kind ≠ 0 := by simpa using h1
    cases h2 : bare r <;> cases h3 : words r <;> cases h4 : (okV r.value != 0) <;> cases h5 : counts r <;> cases h6 : (hasF r.kind 128 && polOk r.policy != 0) <;> simp_all

theorem limOk_or (r : Req) (h : taskOk r = 0) : limOk r = 0 ∨ limOk r = 1 := by
  unfold limOk
  repeat' split
  all_goals first | (right; rfl) | (left; exact h)

theorem has16 {k : Int} (h : 1 ≤ k ∧ k ≤ 13) : (((fieldsOf k).tdiv 16).tmod 2 == 1) = hasF k 16 := by
  have : k = 1 ∨ k = 2 ∨ k = 3 ∨ k = 4 ∨ k = 5 ∨ k = 6 ∨ k = 7 ∨ k = 8 ∨ k = 9 ∨ k = 10 ∨ k = 11 ∨ k = 12 ∨ k = 13 := by omega
  rcases this with rfl | rfl | rfl | rfl | rfl | rfl | rfl | rfl | rfl | rfl | rfl | rfl | rfl <;> rfl

theorem apart_run {r : Req} (h : limOk r = 0) (n : Int) : (limOk { r with run := runOf n } == 0) = hasF r.kind 16 := by
  have hr := runOf_range n
  obtain ⟨h1, h2, h3, h4, h5, h6, h7⟩ := (limOk_iff r).1 h
  cases hf : hasF r.kind 16 with
  | true =>
    have : limOk { r with run := runOf n } = 0 := by
      rw [limOk_iff]
      refine ⟨h1, ?_, h3, h4, ?_, h6, h7⟩
      · simp only [bare, hf] at h2 ⊢
        simpa using h2
      · simp only [counts, hf] at h5 ⊢
        have e : (decide (runOf n ≥ 1) && decide (runOf n ≤ 10)) = true := by simp; omega
        rw [e]
        simp only [Bool.not_true, Bool.false_or, Bool.and_eq_true] at h5 ⊢
        exact ⟨h5.1, trivial⟩
    simp [this]
  | false =>
    have : limOk { r with run := runOf n } ≠ 0 := by
      rw [ne_eq, limOk_iff]
      rintro ⟨_, g2, _⟩
      have e : (runOf n != 0) = true := by simp; omega
      simp only [bare, hf, e] at g2
      simp at g2
    simpa using this

theorem byteAt_append {a b : ByteArray} (h : 0 < a.size) : byteAt (a ++ b) 0 = byteAt a 0 := by
  have h2 : 0 < (a ++ b).size := by rw [ByteArray.size_append]; omega
  simp only [byteAt, h, h2, dif_pos]
  rw [ByteArray.getElem_append_left h]

theorem apart_flow {r : Req} (h : limOk r = 0) : limOk { r with flow := ⟨#[46]⟩ ++ r.flow } = 1 := by
  have h7 := ((limOk_iff r).1 h).2.2.2.2.2.2
  rcases limOk_or { r with flow := ⟨#[46]⟩ ++ r.flow } h7 with h0 | h0
  · have hw := ((limOk_iff _).1 h0).2.2.1
    exfalso
    have hn : nameOk (⟨#[46]⟩ ++ r.flow) = false := by
      simp only [nameOk]
      rw [byteAt_append (by decide)]
      have : first (byteAt ⟨#[46]⟩ 0) = false := rfl
      rw [this]; simp
    simp only [words, hn] at hw
    simp at hw
  · exact h0

theorem flow_short {r : Req} (h : limOk r = 0) : r.flow.size ≤ 24 := by
  have hw := ((limOk_iff _).1 h).2.2.1
  have hn : nameOk r.flow = true := by
    cases hn : nameOk r.flow with
    | true => rfl
    | false => simp [words, hn] at hw
  simp only [nameOk, Bool.and_eq_true, Bool.not_eq_true', Bool.or_eq_false_iff, decide_eq_false_iff_not] at hn
  omega

theorem law_LimitsApart (r : Req) (n : Int) : PCall PP 5 [fv r.enc, I64 n] (B1 true) := by
  refine pcall_of TTok Try.func5 rfl rfl rfl rfl rfl rfl (fun hfit => ?_)
  (repeat' ((conv => whnf); first | refine bsplit (fun _ => ?_) (fun _ => ?_) | refine adraw ?_ | refine leave ?_ | refine acall (law28_few r) ?_ | refine dcall (law28_few r) ?_ | refine GCall.sym _ (fun _ => PC.own (law28_few r)) ?_ | refine acall (limits_Check r) ?_ | refine dcall (limits_Check r) ?_ | refine GCall.sym _ (fun _ => PC.own (limits_Check r)) ?_ | refine acall (law28_awake) ?_ | refine dcall (law28_awake) ?_ | refine GCall.sym _ (fun _ => PC.own (law28_awake)) ?_ | refine And.intro (by first | assumption | omega) ?_)) <;> (try (conv => whnf))
  · exact ⟨rfl⟩
  rename_i h
  have h0 : limOk r = 0 := by rw [Bool.cond_true_left] at h; simp at h; exact h.2
  have hk : 1 ≤ r.kind ∧ r.kind ≤ 13 := fieldsOf_range (by simpa using ((limOk_iff r).1 h0).1)
  have hfl := flow_short h0
  have h46 : (⟨#[46]⟩ : ByteArray).size = 1 := rfl
  (repeat' ((conv => whnf); first | refine bsplit (fun _ => ?_) (fun _ => ?_) | refine adraw ?_ | refine leave ?_ | refine acall (limits_Check { r with run := runOf n }) ?_ | refine dcall (limits_Check { r with run := runOf n }) ?_ | refine GCall.sym _ (fun _ => PC.own (limits_Check { r with run := runOf n })) ?_ | refine acall (limits_Check { r with flow := ⟨#[46]⟩ ++ r.flow }) ?_ | refine dcall (limits_Check { r with flow := ⟨#[46]⟩ ++ r.flow }) ?_ | refine GCall.sym _ (fun _ => PC.own (limits_Check { r with flow := ⟨#[46]⟩ ++ r.flow })) ?_ | refine acall (limits_Fields _) ?_ | refine dcall (limits_Fields _) ?_ | refine GCall.sym _ (fun _ => PC.own (limits_Fields _)) ?_ | refine acall (law28_awake) ?_ | refine dcall (law28_awake) ?_ | refine GCall.sym _ (fun _ => PC.own (law28_awake)) ?_ | refine And.intro (by first | assumption | omega) ?_)) <;> (try (conv => whnf))
  · rename_i h1
    have hs : IntKind.i64.wrap ((fieldsOf r.kind).tdiv 16) = (fieldsOf r.kind).tdiv 16 := by
      have : r.kind = 1 ∨ r.kind = 2 ∨ r.kind = 3 ∨ r.kind = 4 ∨ r.kind = 5 ∨ r.kind = 6 ∨ r.kind = 7 ∨ r.kind = 8 ∨ r.kind = 9 ∨ r.kind = 10 ∨ r.kind = 11 ∨ r.kind = 12 ∨ r.kind = 13 := by omega
      rcases this with e | e | e | e | e | e | e | e | e | e | e | e | e <;> rw [e] <;> rfl
    rw [hs, has16 hk, apart_run h0] at h1
    simp at h1
  · rw [apart_flow h0]
    exact ⟨rfl⟩

end Go.AW
