/- AW, part 7: all pure operations together. -/
import Derived.Test.YtalkhhfinogecaaA6
namespace Go.AW
open Go Go.RowKit
variable {Γ : Ctx} {H : Heap} {w : World} {μ : List Plc} {a : Act} {o : Oper}

theorem boundI_some {E : Env} {x : Option Operand} {d i : Int} (hx : ∀ y, x = some y → Rep Γ w μ (opd E y) (a.eval y)) (h : boundI E x d = some i) :
    (x = none ∧ i = d) ∨ ∃ y k, x = some y ∧ a.eval y = .int k i := by
  unfold boundI at h
  cases x with
  | none => cases h; exact .inl ⟨rfl, rfl⟩
  | some y =>
    have hy := hx y rfl
    simp only at h
    split at h
    · rename_i k i' he
      cases h
      rw [he] at hy
      exact .inr ⟨y, k, rfl, rep_int hy⟩
    · cases h

theorem bounds_ok {P : Program} {isS : Bool} {lo hi : Option Operand} {n c : Nat} {l h : Int} (hl : (lo = none ∧ l = 0) ∨ ∃ y k, lo = some y ∧ a.eval y = .int k l)
    (hh : (hi = none ∧ h = n) ∨ ∃ y k, hi = some y ∧ a.eval y = .int k h) (h0 : 0 ≤ l) (h1 : l ≤ h) (h2 : h ≤ c) :
    (Instr.sliceBounds isS n c (lo.map a.eval) (hi.map a.eval) none).run P w = .ok (l.toNat, h.toNat, c) w := by
  have sb : ∀ (v : Value) (k : IntKind) (i : Int) (y : Nat) (code : BoundsCode), v = .int k i → 0 ≤ i → i ≤ y → (Instr.sliceBound v y code).run P w = .ok i.toNat w := by
    intro v k i y code hv e1 e2
    have e : 0 ≤ i ∧ i ≤ (y : Int) := ⟨e1, e2⟩
    subst hv
    unfold Instr.sliceBound
    simp only [asIntOf, Sem.run_bind, Sem.run_pure, Result.andThen_ok]
    rw [if_pos e]
    rfl
  unfold Instr.sliceBounds
  rcases hl with ⟨rfl, rfl⟩ | ⟨y, k, rfl, hy⟩ <;> rcases hh with ⟨rfl, rfl⟩ | ⟨y', k', rfl, hy'⟩
  · simp
  · simp only [Option.map_none, Option.map_some, Sem.run_bind, Sem.run_pure, Result.andThen_ok, sb _ _ _ _ _ hy' (by omega) h2]; rfl
  · simp only [Option.map_none, Option.map_some, Sem.run_bind, Sem.run_pure, Result.andThen_ok, sb _ _ l n _ hy h0 (by omega)]; rfl
  · simp only [Option.map_some, Sem.run_bind, Sem.run_pure, Result.andThen_ok, sb _ _ _ _ _ hy' (by omega) h2, sb _ _ l h.toNat _ hy h0 (by omega)]

theorem sliceStr_ok {T : TTab} (hT : TOk Γ.P T) {E : Env} {t : Nat} {x : Operand} {lo hi : Option Operand} {n1 n2 : Nat} {z : List F} {s : ByteArray} {l h : Int} (hm : Mem Γ H w μ) (ho : o.op = .slice t x lo hi none)
    (ht : T.get t = some ⟨.str, n1, n2, z⟩) (hx : Rep Γ w μ (.fr (.sc (.string s))) (a.eval x)) (hlo : ∀ y, lo = some y → Rep Γ w μ (opd E y) (a.eval y)) (hhi : ∀ y, hi = some y → Rep Γ w μ (opd E y) (a.eval y))
    (hl : boundI E lo 0 = some l) (hh : boundI E hi s.size = some h) (h0 : 0 ≤ l ∧ l ≤ h ∧ h ≤ (s.size : Int)) : ValOk Γ H w μ a o (S1 (s.extract l.toNat h.toNat)) := by
  obtain ⟨d, hd, hk⟩ := (hT t _ ht).kind
  cases d <;> try exact hk.elim
  have hx' := rep_sc hx
  have hb := bounds_ok (P := Γ.P) (w := w) (isS := false) (n := s.size) (c := s.size) (boundI_some hlo hl) (boundI_some hhi hh) h0.1 h0.2.1 h0.2.2
  refine .same (cv := .string (s.extract l.toNat h.toNat)) hm ?_ (rep_mk _ rfl)
  unfold execOp
  simp only [ho, hx', Instr.sliceAt, Instr.slice, Sem.run_bind, run_underlying hd w, Result.andThen_ok, Option.map_none, Option.isSome_none, Bool.false_eq_true, if_false, hb, Sem.run_pure]

theorem sliceSl_ok {T : TTab} (hT : TOk Γ.P T) {E : Env} {t e' : Nat} {x : Operand} {lo hi : Option Operand} {n1 n2 : Nat} {z : List F} {ti : TI} {es : List (List F)} {l h : Int} (hm : Mem Γ H w μ) (ho : o.op = .slice t x lo hi none)
    (ht : T.get t = some ⟨.sli e', n1, n2, z⟩) (he : T.get e' = some ti) {nb : Nat} (hx : Rep Γ w μ (.fr (.sl ti.sz nb es)) (a.eval x)) (hlo : ∀ y, lo = some y → Rep Γ w μ (opd E y) (a.eval y)) (hhi : ∀ y, hi = some y → Rep Γ w μ (opd E y) (a.eval y))
    (hl : boundI E lo 0 = some l) (hh : boundI E hi es.length = some h) (h0 : 0 ≤ l ∧ l ≤ h ∧ h ≤ (es.length : Int)) :
    ValOk Γ H w μ a o (.fr (.sl ti.sz nb ((es.take h.toNat).drop l.toNat))) := by
  obtain ⟨d, hd, hk⟩ := (hT t _ ht).kind
  cases d <;> try exact hk.elim
  rename_i e''
  obtain rfl : e' = e'' := hk
  have hcap : ∀ ad n c, a.eval x = .slice ad n c → n ≤ c := by
    intro ad n c hc
    rw [hc] at hx
    cases hx with
    | fr f v hf =>
      cases hf with
      | nil => exact Nat.zero_le _
      | sl _ _ _ _ _ _ _ _ hcl => exact hcl
  have fin : ∀ ad cap, a.eval x = .slice ad es.length cap → (execOp a.eval o).run Γ.P w = .ok (.value (.slice (if cap = l.toNat then ad else ad.map (·.add (l.toNat * ti.sz))) (h.toNat - l.toNat) (cap - l.toNat))) w := by
    intro ad cap hc
    have := hcap _ _ _ hc
    have hb := bounds_ok (P := Γ.P) (w := w) (isS := true) (n := es.length) (c := cap) (boundI_some hlo hl) (boundI_some hhi hh) h0.1 h0.2.1 (by omega)
    unfold execOp
    simp only [ho, hc, Instr.sliceAt, Instr.slice, Sem.run_bind, run_underlying hd w, Result.andThen_ok, Option.map_none, hb, Sem.run_pure, (hT _ _ he).size w]
  have hlen : ((es.take h.toNat).drop l.toNat).length = h.toNat - l.toNat := by rw [List.length_drop, List.length_take]; omega
  generalize hcx : a.eval x = cx at hx
  have done : ∀ v, (execOp a.eval o).run Γ.P w = .ok (.value v) w → Rep Γ w μ (.fr (.sl ti.sz nb ((es.take h.toNat).drop l.toNat))) v → ValOk Γ H w μ a o (.fr (.sl ti.sz nb ((es.take h.toNat).drop l.toNat))) := fun v h1 h2 => .same hm h1 h2
  cases hx with
  | fr f v hf =>
    cases hf with
    | nil n nb ad cap =>
      have h3 := fin ad cap (by simpa using hcx)
      refine done _ h3 ?_
      have hz : h.toNat - l.toNat = 0 := by simp at h0; omega
      rw [hz]
      simp only [List.take_nil, List.drop_nil]
      exact .fr _ _ (.nil _ _ _ _)
    | sl n nb es k o1 cap cv hk1 hcl hb1 hn hc hr =>
      have h3 := fin _ cap hcx
      have hle := hcap _ _ _ hcx
      refine done _ h3 ?_
      by_cases hz : h.toNat - l.toNat = 0
      · rw [hz]
        have : (es.take h.toNat).drop l.toNat = [] := List.eq_nil_of_length_eq_zero (by rw [hlen, hz])
        rw [this]
        exact .fr _ _ (.nil _ _ _ _)
      · rw [if_neg (by omega), ← hlen]
        simp only [Option.map_some, Addr.add_mid]
        have hget : ∀ (i : Nat) (e : List F), ((es.take h.toNat).drop l.toNat)[i]? = some e → es[l.toNat + i]? = some e := fun i e hi => by
          rw [List.getElem?_drop, List.getElem?_take] at hi
          by_cases hq : l.toNat + i < h.toNat
          · rw [if_pos hq] at hi; exact hi
          · rw [if_neg hq] at hi; cases hi
        have hle2 : ((es.take h.toNat).drop l.toNat).length ≤ es.length := by rw [hlen]; omega
        refine .fr _ _ (.sl ti.sz nb _ k (o1 + l.toNat * ti.sz) _ (fun i j => cv (l.toNat + i) j) hk1 (by rw [hlen]; omega) (Nat.le_trans (Nat.mul_le_mul_right _ hle2) hb1) (fun i e hi => hn _ e (hget i e hi)) (fun i e j f hi hj => ?_) (fun i e j f hi hj => hr _ e j f (hget i e hi) hj))
        have := hc _ e j f (hget i e hi) hj
        rw [← this]
        congr 2
        rw [Nat.add_mul]; omega

theorem arr_field {T : TTab} (hT : TOk Γ.P T) {t e' : Nat} {x i : Operand} {n n1 n2 q : Nat} {z : List F} {ti : TI} {k : IntKind} (ho : o.op = .indexAddr t x i) (ht : T.get t = some ⟨.arr n e', n1, n2, z⟩) (he : T.get e' = some ti)
    (hi : Rep Γ w μ (.fr (.sc (.int k (.ofNat q)))) (a.eval i)) (hq : q < n) {b p : Nat} (hx : a.eval x = .pointer (some ⟨b, p, none⟩)) :
    (execOp a.eval o).run Γ.P w = .ok (.value (.pointer (some ⟨b, p + q * ti.sz, none⟩))) w := by
  have hi' := rep_int hi
  obtain ⟨d, hd, hk⟩ := (hT t _ ht).kind
  cases d <;> try exact hk.elim
  obtain ⟨rfl, rfl⟩ := hk
  have h1 : (0 : Int) ≤ Int.ofNat q := Int.natCast_nonneg q
  have h2 : Int.ofNat q < (n : Int) := by simpa using hq
  unfold execOp
  simp only [ho, hx, hi', Instr.indexAt, asIntOf, Instr.sureAddr, Sem.run_bind, Sem.run_pure, Result.andThen_ok, run_underlying hd w, h1, h2, and_self, if_true, (hT _ _ he).size w, Addr.add_mid]
  rfl

end Go.AW
