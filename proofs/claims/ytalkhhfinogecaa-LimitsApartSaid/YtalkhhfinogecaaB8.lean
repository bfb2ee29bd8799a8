/- The law of the fields of requests. -/
import Derived.Test.YtalkhhfinogecaaB7
namespace Go.AW
open Go Go.Proofs

def intE (n : Int) : List F := [.sc (.int .i64 n)]
theorem ref28_in (k : Int) (l : List Int) (hb : l.length ≤ 1000) : PCall PP 56 [I64 k, .fr (.sl 1 8 (l.map intE))] (B1 (l.any fun x => x == k)) := by
  refine pcall_of TTok Try.func56 rfl rfl rfl rfl rfl rfl (fun hfit => ?_)
  have hl : (l.map intE).length = l.length := List.length_map _
  (repeat' ((conv => whnf); first | refine bsplit (fun _ => ?_) (fun _ => ?_) | refine adraw ?_ | refine leave ?_)) <;> (try (conv => whnf))
  refine aloopI (fun i : Nat => [(0, I64 k), (1, .fr (.sl 1 8 (l.map intE))), (5, I64 i)]) (fun _ => []) (fun i => l.length - i) (fun i => i ≤ l.length ∧ ∀ j < i, ∀ x, l[j]? = some x → (x == k) = false) 0
    ⟨by omega, by intro j h; omega⟩ (.same ⟨rfl, rfl, rfl, trivial⟩ rfl) ?_
  rintro i ⟨hi, hin⟩
  (repeat' ((conv => whnf); first | refine bsplit (fun _ => ?_) (fun _ => ?_) | refine adraw ?_ | refine leave ?_)) <;> (try (conv => whnf))
  · rename_i h1
    have hi2 : i < l.length := by simp at h1; omega
    obtain ⟨x, hx⟩ : ∃ x, l[i]? = some x := ⟨_, List.getElem?_eq_getElem hi2⟩
    refine aidx rfl hx ?_
    (repeat' ((conv => whnf); first | refine bsplit (fun _ => ?_) (fun _ => ?_) | refine adraw ?_ | refine leave ?_)) <;> (try (conv => whnf))
    · rename_i h2
      exact ⟨b1_inj (any_of (p := fun x => x == k) hx h2).symm⟩
    · rename_i h2
      exact ⟨⟨i + 1, by omega, fun j hj x' hx' => by
        by_cases hji : j = i
        · subst hji; rw [hx] at hx'; cases hx'; exact h2
        · exact hin j (by omega) x' hx'⟩, by show l.length - (i + 1) < l.length - i; omega, .same ⟨rfl, rfl, i64_inj (wrap_add hi2 (by omega)), trivial⟩ rfl⟩
  · rename_i h1
    have hi2 : l.length ≤ i := by simp at h1; omega
    exact ⟨b1_inj (any_no (p := fun x => x == k) fun j x hx => hin j (by have := (List.getElem?_eq_some_iff.1 hx).1; omega) x hx).symm⟩

theorem ref28_Fields (k : Int) : PCall PP 21 [I64 k] (I64 (fieldsOf k)) := by
  by_cases h : 1 ≤ k ∧ k ≤ 13
  · have : k = 1 ∨ k = 2 ∨ k = 3 ∨ k = 4 ∨ k = 5 ∨ k = 6 ∨ k = 7 ∨ k = 8 ∨ k = 9 ∨ k = 10 ∨ k = 11 ∨ k = 12 ∨ k = 13 := by omega
    clear h
    rcases this with rfl | rfl | rfl | rfl | rfl | rfl | rfl | rfl | rfl | rfl | rfl | rfl | rfl
    all_goals
      refine pcall_of TTok Try.func21 rfl rfl rfl rfl rfl rfl (fun _ => ?_)
      (repeat' ((conv => whnf); first | refine bsplit (fun _ => ?_) (fun _ => ?_) | refine adraw ?_ | refine leave ?_ | refine acall (ref28_in _ [1, 2, 3, 5, 6, 7, 8] (by decide)) ?_ | refine dcall (ref28_in _ [1, 2, 3, 5, 6, 7, 8] (by decide)) ?_ | refine GCall.sym _ (fun _ => PC.own (ref28_in _ [1, 2, 3, 5, 6, 7, 8] (by decide))) ?_ | refine acall (ref28_in _ [1, 2, 3, 4, 7, 12] (by decide)) ?_ | refine dcall (ref28_in _ [1, 2, 3, 4, 7, 12] (by decide)) ?_ | refine GCall.sym _ (fun _ => PC.own (ref28_in _ [1, 2, 3, 4, 7, 12] (by decide))) ?_ | refine acall (ref28_in _ [1, 2, 3, 4, 5] (by decide)) ?_ | refine dcall (ref28_in _ [1, 2, 3, 4, 5] (by decide)) ?_ | refine GCall.sym _ (fun _ => PC.own (ref28_in _ [1, 2, 3, 4, 5] (by decide))) ?_ | refine acall (ref28_in _ [11, 12] (by decide)) ?_ | refine dcall (ref28_in _ [11, 12] (by decide)) ?_ | refine GCall.sym _ (fun _ => PC.own (ref28_in _ [11, 12] (by decide))) ?_ | refine acall (ref28_in _ [1, 3, 5, 8, 10, 11, 12] (by decide)) ?_ | refine dcall (ref28_in _ [1, 3, 5, 8, 10, 11, 12] (by decide)) ?_ | refine GCall.sym _ (fun _ => PC.own (ref28_in _ [1, 3, 5, 8, 10, 11, 12] (by decide))) ?_ | refine acall (ref28_in _ [4, 5] (by decide)) ?_ | refine dcall (ref28_in _ [4, 5] (by decide)) ?_ | refine GCall.sym _ (fun _ => PC.own (ref28_in _ [4, 5] (by decide))) ?_ | refine acall (ref28_in _ [1, 3] (by decide)) ?_ | refine dcall (ref28_in _ [1, 3] (by decide)) ?_ | refine GCall.sym _ (fun _ => PC.own (ref28_in _ [1, 3] (by decide))) ?_)) <;> (try (conv => whnf))
      exact ⟨rfl⟩
  · have h0 : fieldsOf k = 0 := by
      cases hf : (fieldsOf k == 0) with
      | true => simpa using hf
      | false => exact absurd (fieldsOf_range hf) h
    have hk : (decide (k < 1) || decide (k > 13)) = true := by simp; omega
    refine pcall_of TTok Try.func21 rfl rfl rfl rfl rfl rfl (fun _ => ?_)
    conv => whnf
    refine bsplit (fun _ => ?_) (fun h2 => ?_)
    · (repeat' ((conv => whnf); first | refine bsplit (fun _ => ?_) (fun _ => ?_) | refine adraw ?_ | refine leave ?_)) <;> (try (conv => whnf))
      exact ⟨by rw [h0]⟩
    · rw [Bool.cond_true_left, hk] at h2; cases h2

def reqA (n : ByteArray) : Req := ⟨9, ⟨#[97]⟩, ⟨#[]⟩, n, Val.zero, 0, 0, 0, ⟨0, 0, 0⟩, [], []⟩

theorem law28_awake : PCall PP 22 [] (B1 true) := by
  refine pcall_of TTok Try.func22 rfl rfl rfl rfl rfl rfl (fun _ => ?_)
  (repeat' ((conv => whnf); first | refine bsplit (fun _ => ?_) (fun _ => ?_) | refine adraw ?_ | refine leave ?_ | refine acall (limits_Check (reqA ⟨#[]⟩)) ?_ | refine dcall (limits_Check (reqA ⟨#[]⟩)) ?_ | refine GCall.sym _ (fun _ => PC.own (limits_Check (reqA ⟨#[]⟩))) ?_ | refine acall (limits_Check (reqA ⟨#[120]⟩)) ?_ | refine dcall (limits_Check (reqA ⟨#[120]⟩)) ?_ | refine GCall.sym _ (fun _ => PC.own (limits_Check (reqA ⟨#[120]⟩))) ?_ | refine acall (limits_Fields _) ?_ | refine dcall (limits_Fields _) ?_ | refine GCall.sym _ (fun _ => PC.own (limits_Fields _)) ?_)) <;> (try (conv => whnf))
  exact ⟨rfl⟩

theorem law_LimitsFields (kind : Int) : PCall PP 4 [I64 kind] (B1 true) := by
  refine pcall_of TTok Try.func4 rfl rfl rfl rfl rfl rfl (fun _ => ?_)
  (repeat' ((conv => whnf); first | refine bsplit (fun _ => ?_) (fun _ => ?_) | refine adraw ?_ | refine leave ?_)) <;> (try (conv => whnf))
  refine aloopI (fun i : Nat => [(0, I64 kind), (4, I64 i)]) (fun _ => []) (fun i => 20 - i) (fun i => i ≤ 20) 0 (by omega) (.same ⟨rfl, rfl, trivial⟩ rfl) ?_
  intro i hi
  (repeat' ((conv => whnf); first | refine bsplit (fun _ => ?_) (fun _ => ?_) | refine adraw ?_ | refine leave ?_ | refine acall (limits_Fields _) ?_ | refine dcall (limits_Fields _) ?_ | refine GCall.sym _ (fun _ => PC.own (limits_Fields _)) ?_ | refine acall (ref28_Fields _) ?_ | refine dcall (ref28_Fields _) ?_ | refine GCall.sym _ (fun _ => PC.own (ref28_Fields _)) ?_ | refine acall (law28_awake) ?_ | refine dcall (law28_awake) ?_ | refine GCall.sym _ (fun _ => PC.own (law28_awake)) ?_)) <;> (try (conv => whnf))
  · rename_i h1 h2
    simp at h2
  · rename_i h1 h2
    have hi2 : i < 20 := by simp at h1; omega
    exact ⟨⟨i + 1, by omega⟩, by show 20 - (i + 1) < 20 - i; omega, .same ⟨rfl, i64_inj (wrap_add hi2 (by omega)), trivial⟩ rfl⟩
  · exact ⟨by simp⟩

end Go.AW
