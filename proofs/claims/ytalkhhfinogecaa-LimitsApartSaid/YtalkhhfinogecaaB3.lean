/- Floats' kinds; values that may be; sameness of values. -/
import Derived.Test.YtalkhhfinogecaaB2
namespace Go.AW
open Go Go.Proofs

def andU (a b : Int) : Int := IntKind.u64.wrap (BitVec.ofInt 64 a &&& BitVec.ofInt 64 b).toNat

theorem andU_eq (a b : Int) : IntKind.u64.wrap (BitVec.ofInt IntKind.u64.bits a &&& BitVec.ofInt IntKind.u64.bits b).toNat = andU a b := rfl

def fkind (x : Int) : Int :=
  bif (andU x 9218868437227405312 == 9218868437227405312) && (andU x 4503599627370495 != 0) then 1
  else bif andU x 9218868437227405312 == 9218868437227405312 then 2
  else bif (andU x 9218868437227405312 == 0) && (andU x 4503599627370495 == 0) then 3
  else bif andU x 9218868437227405312 == 0 then 4 else 5

theorem floats_Kind (x : Int) : PCall PP 140 [U64 x] (I64 (fkind x)) := by
  refine pcall_of TTok Try.func140 rfl rfl rfl rfl rfl rfl (fun _ => ?_)
  (repeat' ((conv => whnf); first | refine bsplit (fun _ => ?_) (fun _ => ?_) | refine adraw ?_ | refine leave ?_)) <;> (try (conv => whnf))
  all_goals simp only [andU_eq] at *
  all_goals (refine ⟨?_⟩; (try simp only [Bool.cond_false_right, Bool.cond_true_left] at *); simp_all [Bool.cond_eq_ite, fkind])

def canon (x : Int) : Int := bif fkind x == 1 then 9221120237041090560 else x
theorem floats_Canon (x : Int) : PCall PP 139 [U64 x] (U64 (canon x)) := by
  refine pcall_of TTok Try.func139 rfl rfl rfl rfl rfl rfl (fun _ => ?_)
  (repeat' ((conv => whnf); first | refine bsplit (fun _ => ?_) (fun _ => ?_) | refine adraw ?_ | refine leave ?_ | refine acall (floats_Kind _) ?_ | refine dcall (floats_Kind _) ?_ | refine GCall.sym _ (fun _ => PC.own (floats_Kind _)) ?_)) <;> (try (conv => whnf))
  all_goals (refine ⟨?_⟩; (try simp only [Bool.cond_false_right, Bool.cond_true_left] at *); simp_all [Bool.cond_eq_ite, canon])

def okAt (v : Val) (j : Nat) : Bool := ((j : Int) == v.kind) || !(((j : Int) == 1 && v.int != 0) || ((j : Int) == 2 && v.bits != 0) || ((j : Int) == 3 && !decide (v.text = ⟨#[]⟩)) || ((j : Int) == 4 && decide ((v.list.length : Int) > 0)))
def only (v : Val) : Bool := (List.range 5).all (okAt v) && (decide (v.kind ≥ 0) && decide (v.kind ≤ 4))

theorem value_only (v : Val) : PCall PP 138 [fv v.enc] (B1 (only v)) := by
  refine pcall_of TTok Try.func138 rfl rfl rfl rfl rfl rfl (fun _ => ?_)
  have hl := encs_length v.list
  (repeat' ((conv => whnf); first | refine bsplit (fun _ => ?_) (fun _ => ?_) | refine adraw ?_ | refine leave ?_)) <;> (try (conv => whnf))
  refine aloopI (fun k : Nat => [(1, .ptr 0 0), (4, I64 k)]) (fun _ => [.cells (v.enc.map .fr)]) (fun k => 5 - k) (fun k => k ≤ 5 ∧ ∀ j < k, okAt v j = true) 0 ⟨by omega, by simp⟩ (.same ⟨rfl, rfl, trivial⟩ rfl) ?_
  rintro k ⟨hk, hin⟩
  have next : k < 5 → okAt v k = true → (k + 1 ≤ 5 ∧ ∀ j < k + 1, okAt v j = true) := fun h1 h2 => ⟨by omega, fun j hj => by
    by_cases hjk : j = k
    · subst hjk; exact h2
    · exact hin j (by omega)⟩
  have bad : k < 5 → okAt v k = false → only v = false := fun h1 h2 => by
    have : (List.range 5).all (okAt v) = false := by
      rw [List.all_eq_false]
      exact ⟨k, by simpa using h1, by simpa using h2⟩
    simp only [only, this, Bool.false_and]
  (repeat' ((conv => whnf); first | refine bsplit (fun _ => ?_) (fun _ => ?_) | refine adraw ?_ | refine leave ?_)) <;> (try (conv => whnf))
  · rename_i h1 h2
    have hk2 : k < 5 := by simp at h1; omega
    exact ⟨⟨k + 1, next hk2 (by simp only [okAt, h2, Bool.true_or])⟩, by show 5 - (k + 1) < 5 - k; omega, .same ⟨rfl, i64_inj (wrap_add hk2 (by omega)), trivial⟩ rfl⟩
  · rename_i h1 h2 h3
    have hk2 : k < 5 := by simp at h1; omega
    exact ⟨b1_inj (bad hk2 (by simp only [okAt]; simp_all)).symm⟩
  · rename_i h1 h2 h3 h4
    have hk2 : k < 5 := by simp at h1; omega
    exact ⟨b1_inj (bad hk2 (by simp only [okAt]; simp_all)).symm⟩
  · rename_i h1 h2 h3 h4 h5
    have hk2 : k < 5 := by simp at h1; omega
    exact ⟨b1_inj (bad hk2 (by simp only [okAt]; simp_all)).symm⟩
  · rename_i h1 h2 h3 h4 h5 h6
    have hk2 : k < 5 := by simp at h1; omega
    exact ⟨b1_inj (bad hk2 (by simp only [okAt]; simp_all)).symm⟩
  · rename_i h1 h2 h3 h4 h5 h6
    have hk2 : k < 5 := by simp at h1; omega
    exact ⟨⟨k + 1, next hk2 (by simp only [okAt]; simp_all; grind)⟩, by show 5 - (k + 1) < 5 - k; omega, .same ⟨rfl, i64_inj (wrap_add hk2 (by omega)), trivial⟩ rfl⟩
  · rename_i h1
    have hk2 : k = 5 := by simp at h1; omega
    subst hk2
    refine ⟨?_⟩
    have : (List.range 5).all (okAt v) = true := by
      rw [List.all_eq_true]
      intro j hj
      exact hin j (by simp at hj; omega)
    simp only [only, this, Bool.true_and, Bool.cond_false_right]

end Go.AW
