/- The interface's structs; names; floats' kinds. -/
import Derived.Test.YtalkhhfinogecaaB1
namespace Go.AW
open Go Go.Proofs

def inner (c : Int) : Bool :=
  (((decide (c ≥ 48) && decide (c ≤ 57)) || (decide (IntKind.u8.wrap (BitVec.ofInt 8 c ||| BitVec.ofInt 8 32).toNat ≥ 97) && decide (IntKind.u8.wrap (BitVec.ofInt 8 c ||| BitVec.ofInt 8 32).toNat ≤ 122))) || c == 95) || c == 45 || c == 46

theorem names_inner (c : Int) : PCall PP 137 [U8 c] (B1 (inner c)) := by
  refine pcall_of TTok Try.func137 rfl rfl rfl rfl rfl rfl (fun _ => ?_)
  (repeat' ((conv => whnf); first | refine bsplit (fun _ => ?_) (fun _ => ?_) | refine adraw ?_ | refine leave ?_)) <;> (try (conv => whnf))
  refine ⟨?_⟩
  simp only [inner, Bool.cond_false_right, Bool.cond_true_left]
  rfl

def first (c : Int) : Bool := (inner c && c != 45) && c != 46
theorem names_first (c : Int) : PCall PP 136 [U8 c] (B1 (first c)) := by
  refine pcall_of TTok Try.func136 rfl rfl rfl rfl rfl rfl (fun _ => ?_)
  (repeat' ((conv => whnf); first | refine bsplit (fun _ => ?_) (fun _ => ?_) | refine adraw ?_ | refine leave ?_ | refine acall (names_inner _) ?_ | refine dcall (names_inner _) ?_ | refine GCall.sym _ (fun _ => PC.own (names_inner _)) ?_)) <;> (try (conv => whnf))
  refine ⟨?_⟩
  simp only [first, Bool.cond_false_right, Bool.cond_true_left]

theorem names_Text (s : ByteArray) : PCall PP 108 [S1 s] (B1 (decide ((s.size : Int) ≤ 200))) := by
  refine pcall_of TTok Try.func108 rfl rfl rfl rfl rfl rfl (fun _ => ?_)
  (repeat' ((conv => whnf); first | refine bsplit (fun _ => ?_) (fun _ => ?_) | refine adraw ?_ | refine leave ?_)) <;> (try (conv => whnf))
  exact ⟨rfl⟩

def byteAt (s : ByteArray) (k : Nat) : Int := if h : k < s.size then (s[k]'h).toNat else 0

def nameOk (s : ByteArray) : Bool := !(decide (s = ⟨#[]⟩) || decide ((s.size : Int) > 24)) && (first (byteAt s 0) && (List.range s.size).all fun k => inner (byteAt s k))

theorem byteAt_eq {s : ByteArray} {k : Nat} (h : k < s.size) : ((s[k]'h).toNat : Int) = byteAt s k := by simp [byteAt, h]

theorem size_pos {s : ByteArray} (h : s ≠ ⟨#[]⟩) : 0 < s.size := by
  rcases Nat.eq_zero_or_pos s.size with h0 | h0
  · exfalso; apply h
    obtain ⟨⟨d⟩⟩ := s
    cases d with
    | nil => rfl
    | cons a r => simp [ByteArray.size] at h0
  · exact h0

theorem names_Name (s : ByteArray) : PCall PP 107 [S1 s] (B1 (nameOk s)) := by
  refine pcall_of TTok Try.func107 rfl rfl rfl rfl rfl rfl (fun hf => ?_)
  (repeat' ((conv => whnf); first | refine bsplit (fun _ => ?_) (fun _ => ?_) | refine adraw ?_ | refine leave ?_)) <;> (try (conv => whnf))
  · rename_i h
    refine ⟨?_⟩
    rw [Bool.cond_true_left] at h
    simp only [nameOk, h, Bool.not_true, Bool.false_and]
  · rename_i h
    rw [Bool.cond_true_left] at h
    have h0 : 0 < s.size := size_pos (by simp at h; exact h.1)
    have hsz : s.size ≤ 24 := by simp at h; omega
    have hn : nameOk s = (first (byteAt s 0) && (List.range s.size).all fun k => inner (byteAt s k)) := by simp only [nameOk, h, Bool.not_false, Bool.true_and]
    refine astr (k := 0) h0 rfl ?_
    rw [byteAt_eq h0]
    (repeat' ((conv => whnf); first | refine bsplit (fun _ => ?_) (fun _ => ?_) | refine adraw ?_ | refine leave ?_ | refine acall (names_first _) ?_ | refine dcall (names_first _) ?_ | refine GCall.sym _ (fun _ => PC.own (names_first _)) ?_)) <;> (try (conv => whnf))
    refine aloop (fun k : {k : Nat // k ≤ s.size ∧ ∀ j < k, inner (byteAt s j) = true} => [(0, S1 s), (3, B1 (first (byteAt s 0))), (16, I64 s.size), (17, I64 k.1)]) (fun _ => []) (fun k => s.size - k.1) ⟨0, by simp⟩ (.same ⟨rfl, rfl, rfl, rfl, trivial⟩ rfl) ?_
    rintro ⟨k, hk, hin⟩
    (repeat' ((conv => whnf); first | refine bsplit (fun _ => ?_) (fun _ => ?_) | refine adraw ?_ | refine leave ?_)) <;> (try (conv => whnf))
    · rename_i h1
      have hk2 : k < s.size := by simp at h1; omega
      refine astr hk2 rfl ?_
      rw [byteAt_eq hk2]
      (repeat' ((conv => whnf); first | refine bsplit (fun _ => ?_) (fun _ => ?_) | refine adraw ?_ | refine leave ?_ | refine acall (names_inner _) ?_ | refine dcall (names_inner _) ?_ | refine GCall.sym _ (fun _ => PC.own (names_inner _)) ?_)) <;> (try (conv => whnf))
      · rename_i h2
        refine ⟨?_⟩
        have : ((List.range s.size).all fun k => inner (byteAt s k)) = false := by
          rw [List.all_eq_false]
          exact ⟨k, by simpa using hk2, by simpa using h2⟩
        rw [hn, this, Bool.and_false]
      · rename_i h2
        refine ⟨⟨k + 1, by omega, fun j hj => ?_⟩, by show s.size - (k + 1) < s.size - k; omega, .same ⟨rfl, rfl, rfl, congrArg _ (congrArg _ (congrArg _ (wrap_add hk2 (by omega)))), trivial⟩ rfl⟩
        by_cases hjk : j = k
        · subst hjk; simpa using h2
        · exact hin j (by omega)
    · rename_i h1
      have hk2 : k = s.size := by simp at h1; omega
      refine ⟨?_⟩
      have : ((List.range s.size).all fun k => inner (byteAt s k)) = true := by
        rw [List.all_eq_true]
        intro j hj
        exact hin j (by simp at hj; omega)
      rw [hn, this, Bool.and_true]

end Go.AW
