/- A value's size; whether one may be. -/
import Derived.Test.YtalkhhfinogecaaB4
namespace Go.AW
open Go Go.Proofs

def badV (v : Val) : Bool := !only v || decide ((v.text.size : Int) > 200) || decide ((v.list.length : Int) > 12) || (canon v.bits != v.bits)
def szs (f : Val → Int) : Int → List Val → Int
  | acc, [] => acc
  | acc, x :: r => if f x < 0 then -1 else szs f (acc + f x) r
def sz : Nat → Val → Int
  | 0, v => if badV v = true then -1 else if (v.kind == 1) = true then 9 else if (v.kind == 2) = true then 9 else if (v.kind == 3) = true then 2 + v.text.size else if (v.kind == 4) = true then -1 else 1
  | d + 1, v => if badV v = true then -1 else if (v.kind == 1) = true then 9 else if (v.kind == 2) = true then 9 else if (v.kind == 3) = true then 2 + v.text.size else if (v.kind == 4) = true then szs (sz d) 2 v.list else 1

def bnd : Nat → Int
  | 0 => 210
  | d + 1 => 13 * bnd d

theorem bnd_pos : ∀ d, 210 ≤ bnd d
  | 0 => by simp [bnd]
  | d + 1 => by have := bnd_pos d; simp only [bnd]; omega

theorem szs_le {f : Val → Int} {B : Int} (hB : 0 ≤ B) : ∀ (l : List Val) (acc : Int), 0 ≤ acc → (∀ x ∈ l, f x ≤ B) → szs f acc l ≤ acc + l.length * B
  | [], acc, _, _ => by simp [szs]
  | x :: r, acc, h, hf => by
    simp only [szs]
    have hl : ((x :: r).length : Int) * B = r.length * B + B := by rw [List.length_cons]; push_cast; rw [Int.add_mul, Int.one_mul]
    have hm : 0 ≤ (r.length : Int) * B := Int.mul_nonneg (Int.natCast_nonneg _) hB
    have hx := hf x List.mem_cons_self
    split
    · omega
    · have ih := szs_le hB r (acc + f x) (by omega) (fun y hy => hf y (List.mem_cons_of_mem _ hy))
      omega

theorem badV_false {v : Val} (h : ¬ badV v = true) : v.text.size ≤ 200 ∧ v.list.length ≤ 12 := by
  simp only [badV, Bool.or_eq_true, not_or, decide_eq_true_eq] at h
  omega

theorem sz_le : ∀ (d : Nat) (v : Val), sz d v ≤ bnd d
  | 0, v => by
    simp only [sz, bnd]
    repeat' split
    all_goals first | omega | skip
    rename_i h _ _ _
    have := badV_false h
    omega
  | d + 1, v => by
    have h1 := bnd_pos d
    simp only [sz, bnd]
    repeat' split
    all_goals first | omega | skip
    · rename_i h _ _ _
      have := badV_false h
      omega
    · rename_i h _ _ _ _
      have h2 := (badV_false h).2
      have h3 := szs_le (f := sz d) (B := bnd d) (by omega) v.list 2 (by omega) (fun x _ => sz_le d x)
      have h4 : (v.list.length : Int) * bnd d ≤ 12 * bnd d := Int.mul_le_mul_of_nonneg_right (by omega) (by omega)
      omega

theorem i64_small {n : Int} (h : -1000000000000 ≤ n) (k : n ≤ 1000000000000) : IntKind.i64.wrap n = n := by
  rw [IntWalk.i64_in _ (by omega)]

theorem badV_eq (v : Val) : (bif bif bif !only v then true else decide ((v.text.size : Int) > 200) then true else decide (((Val.encs v.list).length : Int) > 12) then true else canon v.bits != v.bits) = badV v := by
  rw [encs_length]; simp only [badV, Bool.cond_true_left]

theorem szs_at {f : Val → Int} {l : List Val} {k : Nat} {x : Val} {acc : Int} (h : l[k]? = some x) : szs f acc (l.drop k) = if f x < 0 then -1 else szs f (acc + f x) (l.drop (k + 1)) := by
  obtain ⟨hk, rfl⟩ := List.getElem?_eq_some_iff.1 h
  rw [List.drop_eq_getElem_cons hk]; rfl

theorem value_size : ∀ (d : Nat) (v : Val), d ≤ 4 → PCall PP 109 [fv v.enc, I64 d] (I64 (sz d v))
  | 0, v, hd => by
    refine pcall_of TTok Try.func109 rfl rfl rfl rfl rfl rfl (fun hfit => ?_)
    (repeat' ((conv => whnf); first | refine bsplit (fun _ => ?_) (fun _ => ?_) | refine adraw ?_ | refine leave ?_ | refine acall (value_only v) ?_ | refine dcall (value_only v) ?_ | refine GCall.sym _ (fun _ => PC.own (value_only v)) ?_ | refine acall (floats_Canon _) ?_ | refine dcall (floats_Canon _) ?_ | refine GCall.sym _ (fun _ => PC.own (floats_Canon _)) ?_)) <;> (try (conv => whnf))
    all_goals
      rename_i h1
      simp only [badV_eq] at *
      refine ⟨?_⟩
      simp only [sz, *, if_true, Bool.false_eq_true, if_false]
      try rfl
    · have := badV_false (v := v) (by simp_all)
      rw [i64_small (n := 1 + v.text.size) (by omega) (by omega), i64_small (by omega) (by omega)]
      exact i64_inj (by omega)
  | d + 1, v, hd => by
    have hbn := bnd_pos d
    have hbn2 : bnd d ≤ 210 * 28561 := by
      have : d = 0 ∨ d = 1 ∨ d = 2 ∨ d = 3 := by omega
      rcases this with rfl | rfl | rfl | rfl <;> simp [bnd]
    refine pcall_of TTok Try.func109 rfl rfl rfl rfl rfl rfl (fun hfit => ?_)
    have hb := (Val.fit (fitV_fv hfit.1)).1
    have hl := encs_length v.list
    (repeat' ((conv => whnf); first | refine bsplit (fun _ => ?_) (fun _ => ?_) | refine adraw ?_ | refine leave ?_ | refine acall (value_only v) ?_ | refine dcall (value_only v) ?_ | refine GCall.sym _ (fun _ => PC.own (value_only v)) ?_ | refine acall (floats_Canon _) ?_ | refine dcall (floats_Canon _) ?_ | refine GCall.sym _ (fun _ => PC.own (floats_Canon _)) ?_)) <;> (try (conv => whnf))
    iterate 3
      · simp only [badV_eq] at *
        refine ⟨?_⟩
        simp only [sz, *, if_true, Bool.false_eq_true, if_false]
        try rfl
    · rename_i h0 _ _ _
      simp only [badV_eq] at *
      refine ⟨?_⟩
      simp only [sz, *, if_true, Bool.false_eq_true, if_false]
      have := badV_false (v := v) (by simp [h0])
      rw [i64_small (n := 1 + v.text.size) (by omega) (by omega), i64_small (by omega) (by omega)]
      exact i64_inj (by omega)
    · rename_i h0 h1 h2 h3 h4
      simp only [badV_eq] at h0
      have hbad := badV_false (v := v) (by simp [h0])
      have hspec : sz (d + 1) v = szs (sz d) 2 v.list := by simp only [sz, *, if_true, Bool.false_eq_true, if_false]
      refine aloopI (fun x : Nat × Int => [(1, I64 ((d + 1 : Nat) : Int)), (2, .ptr 0 0), (5, I64 x.2), (54, .fr (.sl 5 64 (Val.encs v.list))), (55, I64 v.list.length), (56, I64 x.1)]) (fun _ => [.cells (v.enc.map .fr)]) (fun x => v.list.length - x.1)
        (fun x => x.1 ≤ v.list.length ∧ 0 ≤ x.2 ∧ x.2 ≤ 2 + x.1 * bnd d ∧ szs (sz d) 2 v.list = szs (sz d) x.2 (v.list.drop x.1)) (0, 2) ⟨by simp, by simp, by simp, by simp⟩
        (.same ⟨rfl, rfl, rfl, rfl, congrArg (fun n : Nat => I64 n) hl, rfl, trivial⟩ rfl) ?_
      rintro ⟨k, acc⟩ ⟨hk, ha0, ha1, hs⟩
      simp only at hk ha0 ha1 hs
      (repeat' ((conv => whnf); first | refine bsplit (fun _ => ?_) (fun _ => ?_) | refine adraw ?_ | refine leave ?_)) <;> (try (conv => whnf))
      · rename_i h6
        have hk2 : k < v.list.length := by simp at h6; omega
        obtain ⟨x, hx⟩ : ∃ x, v.list[k]? = some x := ⟨_, List.getElem?_eq_getElem hk2⟩
        rw [szs_at hx] at hs
        have hsub : IntKind.i64.wrap (((d + 1 : Nat) : Int) - 1) = (d : Int) := by rw [i64_small (by omega) (by omega)]; omega
        have hkb : (k : Int) * bnd d ≤ 12 * bnd d := Int.mul_le_mul_of_nonneg_right (by omega) (by omega)
        have hsx := sz_le d x
        have hk1 : ((k + 1 : Nat) : Int) * bnd d = k * bnd d + bnd d := by push_cast; rw [Int.add_mul, Int.one_mul]
        refine aidx (Val.encs_eq _) hx ?_
        (repeat' ((conv => whnf); first | refine bsplit (fun _ => ?_) (fun _ => ?_) | refine adraw ?_ | refine leave ?_ | refine acall ((hsub ▸ value_size d x (by omega))) ?_ | refine dcall ((hsub ▸ value_size d x (by omega))) ?_ | refine GCall.sym _ (fun _ => PC.own ((hsub ▸ value_size d x (by omega)))) ?_)) <;> (try (conv => whnf))
        · rename_i h7
          have h7' : sz d x < 0 := by simpa using h7
          rw [if_pos h7'] at hs
          exact ⟨by rw [hspec, hs]⟩
        · rename_i h7
          have h7' : ¬ sz d x < 0 := by simpa using h7
          rw [if_neg h7'] at hs
          exact ⟨⟨(k + 1, acc + sz d x), by show k + 1 ≤ _; omega, by show 0 ≤ acc + sz d x; omega, by show acc + sz d x ≤ 2 + ((k + 1 : Nat) : Int) * bnd d; omega, hs⟩, by show v.list.length - (k + 1) < v.list.length - k; omega,
            .trunc [_] ⟨rfl, rfl, i64_inj (i64_small (n := acc + sz d x) (by omega) (by omega)), rfl, rfl, i64_inj (wrap_add hk2 (by omega)), trivial⟩ rfl rfl rfl⟩
      · rename_i h6
        have hk2 : k = v.list.length := by simp at h6; omega
        subst hk2
        refine ⟨?_⟩
        rw [hspec, hs, List.drop_length]; rfl
    · simp only [badV_eq] at *
      refine ⟨?_⟩
      simp only [sz, *, if_true, Bool.false_eq_true, if_false]

def okV (v : Val) : Int := if (decide (sz 4 v < 0) || decide (sz 4 v > 1000)) = true then 1 else 0

theorem value_Check (v : Val) : PCall PP 60 [fv v.enc] (I64 (okV v)) := by
  refine pcall_of TTok Try.func60 rfl rfl rfl rfl rfl rfl (fun hfit => ?_)
  (repeat' ((conv => whnf); first | refine bsplit (fun _ => ?_) (fun _ => ?_) | refine adraw ?_ | refine leave ?_ | refine acall (value_size 4 v (by omega)) ?_ | refine dcall (value_size 4 v (by omega)) ?_ | refine GCall.sym _ (fun _ => PC.own (value_size 4 v (by omega))) ?_)) <;> (try (conv => whnf))
  all_goals (refine ⟨?_⟩; (try simp only [Bool.cond_false_right, Bool.cond_true_left] at *); simp_all [Bool.cond_eq_ite, okV])

end Go.AW
