/- AW, part 10: the operations that write: a store into a block of the call's own, an append to a buffer. -/
import Derived.Test.YtalkhhfinogecaaA9
namespace Go.AW
open Go Go.RowKit
variable {Γ : Ctx} {H : Heap} {w : World} {μ : List Plc} {a : Act} {o : Oper}

structure Ok (Γ : Ctx) (nt : Nat) (E : Env) (H : Heap) (a : Act) (w : World) (μ : List Plc) : Prop where
  mem : Mem Γ H w μ
  size : a.tmps.size = nt
  env : EnvOk Γ w μ E a.tmps
  defers : a.defers = []

/-! ### A store -/
theorem setCells_heap (k : Nat) : ∀ (vs : List Value) (q : Nat) (w : World) (c : Array Value) (e : TypeId), w.heap[k]? = some (.cells c e (0, 0)) → q + vs.length ≤ c.size →
    ∃ c', (w.setCells k q vs).heap[k]? = some (.cells c' e (0, 0)) ∧ c'.toList = c.toList.take q ++ vs ++ c.toList.drop (q + vs.length)
  | [], q, w, c, e, h, _ => ⟨c, h, by simp⟩
  | v :: vs, q, w, c, e, h, hl => by
    simp only [List.length_cons] at hl
    have h1 : (w.setCell ⟨k, q, none⟩ v).heap[k]? = some (.cells (c.setIfInBounds q v) e (0, 0)) := by
      simp [World.setCell, Array.getElem?_modify, h]
    obtain ⟨c', h2, h3⟩ := setCells_heap k vs (q + 1) (w.setCell ⟨k, q, none⟩ v) _ e h1 (by simp; omega)
    refine ⟨c', h2, ?_⟩
    rw [h3, Array.toList_setIfInBounds, List.drop_set_of_lt (by omega)]
    have hlt : q < c.toList.length := by simp; omega
    have e2 : (c.toList.set q v).take (q + 1) = c.toList.take q ++ [v] := by
      rw [List.take_set, List.take_succ_eq_append_getElem hlt, List.set_append_right _ _ (by simp; omega)]
      have : q - min q c.size = 0 := by simp at hlt; omega
      simp [this]
    rw [e2]
    have e3 : q + 1 + vs.length = q + (vs.length + 1) := by omega
    simp [e3]

theorem setCells_other (k : Nat) : ∀ (vs : List Value) (q : Nat) (w : World) (k' : Nat), k' ≠ k → (w.setCells k q vs).heap[k']? = w.heap[k']?
  | [], _, _, _, _ => rfl
  | v :: vs, q, w, k', h => by
    show ((w.setCell ⟨k, q, none⟩ v).setCells k (q + 1) vs).heap[k']? = _
    rw [setCells_other k vs (q + 1) _ k' h, Below.heap_setCell _ _ _ _ h]

theorem setCells_rest (k : Nat) : ∀ (vs : List Value) (q : Nat) (w : World), (w.setCells k q vs).heap.size = w.heap.size ∧ (w.setCells k q vs).os = w.os ∧ (w.setCells k q vs).tape = w.tape ∧ (w.setCells k q vs).output = w.output
  | [], _, _ => ⟨rfl, rfl, rfl, rfl⟩
  | v :: vs, q, w => by
    obtain ⟨h1, h2, h3, h4⟩ := setCells_rest k vs (q + 1) (w.setCell ⟨k, q, none⟩ v)
    exact ⟨h1.trans (by simp), h2, h3, h4⟩

/-- One block of the call's own is written; all else stands. -/
theorem Mem.write {w' : World} {b k : Nat} {l : Plc} {x : Blk} (hm : Mem Γ H w μ) (hl : μ[b]? = some l) (hk : l.block = some k) (hs : w'.heap.size = w.heap.size) (hb : ∀ k', k' ≠ k → w'.heap[k']? = w.heap[k']?)
    (h1 : w'.os = w.os) (h2 : w'.tape = w.tape) (h3 : w'.output = w.output) (hx : Pres Γ w μ w' μ → BlkOk Γ w' μ x l) : Mem Γ (setB H b x) w' μ ∧ Pres Γ w μ w' μ := by
  have hown : owned μ k := ⟨b, l, hl, hk⟩
  have hp : Pres Γ w μ w' μ := ⟨fun k' ⟨i1, i2, i3⟩ => ⟨i1, by rw [hs]; exact i2, i3⟩, fun k' hk' => hb k' (fun e => hk'.2.2 (e ▸ hown)), .refl _⟩
  rw [setB_eq]
  refine ⟨⟨by simp [hm.len], fun k' hk' => by rw [hs]; exact hm.below k' hk', hm.own0, hm.inj, fun i y l' hi hl' => ?_, ?_, hm.i0⟩, hp⟩
  · by_cases hib : i = b
    · subst hib
      rw [hl] at hl'; cases hl'
      have hlt : i < H.length := by rw [← hm.len]; exact (List.getElem?_eq_some_iff.1 hl).1
      rw [List.getElem?_set_self hlt] at hi
      cases hi
      exact hx hp
    · rw [List.getElem?_set_ne (Ne.symm hib)] at hi
      exact (hm.blk i y l' hi hl').pres hp (fun k' hk' => hb k' (fun e => hib (hm.inj i b l' l k hl' hl (e ▸ hk') hk)))
  · refine ⟨h1.trans hm.ext.os, h2.trans hm.ext.tape, h3.trans hm.ext.output, by rw [hs]; exact hm.ext.size, fun k' hk' ho => ?_⟩
    rw [hb k' ?_]
    · exact hm.ext.block k' hk' ho
    · intro e; subst e
      rcases hm.own0 k' hown with h | h
      · exact ho h
      · omega

theorem run_storeAny {P : Program} {t : Nat} {ti : TI} (ht : TiOk P t ti) {k q : Nat} {v : Value} (hv : v.cells.size = ti.sz) (hc : ∀ j, j < ti.sz → (w.cell? ⟨k, q + j, none⟩).isSome = true) (hf : ∀ j, j < ti.sz → w.frozen? ⟨k, q + j, none⟩ = false)
    (h1 : ∀ u ∈ v.cells.toList, u.oneCell' = true) : (Instr.storeAt t (.pointer (some ⟨k, q, none⟩)) v).run P w = .ok () (w.setCells k q v.cells.toList) := by
  have hl : v.cells.toList.length = ti.sz := by simpa using hv
  have := run_storeCells_cells (P := P) k q v.cells.toList 0 w (fun j hj => by simpa using hc j (by omega)) (fun j hj => by simpa using hf j (by omega)) h1
  simp only [Nat.add_zero] at this
  simp only [Instr.storeAt, Instr.sureAddr, storeVar, Sem.run_bind, Sem.run_pure, Result.andThen_ok, ht.size w, hv, ne_eq, not_true, if_false, this]

theorem store_ok {T : TTab} (hT : TOk Γ.P T) (hm : Mem Γ H w μ) {t : Nat} {x y : Operand} {b q : Nat} {xs c ys : List V} {u : V} (ho : o.op = .store t x y) (hx : Rep Γ w μ (.ptr b q) (a.eval x)) (hy : Rep Γ w μ u (a.eval y))
    (hb : H[b]? = some (.cells xs)) {ti : TI} (hti : T.get t = some ti) (hc : cellsN ti.sz u = some c) (hs : splice q c xs = some ys) :
    ∃ w', (execOp a.eval o).run Γ.P w = .ok .skip w' ∧ Mem Γ (setB H b (.cells ys)) w' μ ∧ Pres Γ w μ w' μ := by
  obtain ⟨k, hv, hl⟩ := rep_ptr hx
  have hok := hm.blk b _ _ hb hl
  · obtain ⟨cells, e, h1, h2, h3, h4⟩ := hok
    obtain ⟨h5, h6⟩ := pw_cellsN hy hc
    obtain ⟨h7, h8⟩ := (get_pw h2 h3 h4).splice h5 hs
    have hcl : (a.eval y).cells.toList.length = ti.sz := by simpa using h6
    rw [hcl] at h7 h8
    simp only [Array.length_toList] at h8
    have hrun := run_storeAny (P := Γ.P) (w := w) (k := k) (q := q) (hT t ti hti) h6
      (fun j hj => by rw [cell_of h1 (q + j) (by omega)]; rfl) (fun j hj => by simp [World.frozen?, h1])
      (fun z hz => by
        obtain ⟨i, hi⟩ := List.getElem?_of_mem hz
        have hlt : i < c.length := by have := (List.getElem?_eq_some_iff.1 hi).1; rw [h5.1]; exact this
        obtain ⟨v', e1, e2⟩ := h5.2 i c[i] (by simp)
        rw [hi] at e1; cases e1; exact e2.2)
    refine ⟨_, by unfold execOp; simp only [ho, hv, Sem.run_bind, hrun, Result.andThen_ok, Sem.run_pure]; rfl, ?_⟩
    obtain ⟨r1, r2, r3, r4⟩ := setCells_rest k (a.eval y).cells.toList q w
    refine hm.write hl rfl r1 (fun k' hk' => setCells_other k _ q w k' hk') r2 r3 r4 (fun hp => ?_)
    obtain ⟨c', e1, e2⟩ := setCells_heap k (a.eval y).cells.toList q w cells e h1 (by rw [hcl]; exact h8)
    rw [hcl] at e2
    have h9 : PW (Rep1 Γ (w.setCells k q (a.eval y).cells.toList) μ) ys c'.toList := by
      rw [e2]
      exact h7.mono (fun _ _ ⟨r1, r2⟩ => ⟨hp.rep r1, r2⟩)
    obtain ⟨g1, g2, g3⟩ := pw_get h9
    exact ⟨c', e, e1, g1, g2, g3⟩

/-! ### An append -/
/-- The rows of values that an append takes. -/
structure Src (Γ : Ctx) (w : World) (μ : List Plc) (n : Nat) (ys : List (List F)) (v : Value) (news : List Value) : Prop where
  len : news.length = ys.length * n
  rows : ∀ r ∈ ys, r.length = n
  rep : ∀ (i : Nat) (f : F), ys.flatten[i]? = some f → ∃ u, news[i]? = some u ∧ RepFr Γ w μ f u
  one : ∀ u ∈ news, u.oneCell' = true
  val : (∃ ad c, v = .slice (some ad) ys.length c ∧ ∀ (j : Nat) (u : Value), news[j]? = some u → w.cell? (ad.add j) = some u) ∨ (ys = [] ∧ ∃ c, v = .slice none 0 c)

theorem flat_div {α : Type} {n : Nat} (hn : 0 < n) : ∀ (ls : List (List α)) (q : Nat) (x : α), (∀ r ∈ ls, r.length = n) → ls.flatten[q]? = some x → ∃ r, ls[q / n]? = some r ∧ r[q % n]? = some x
  | [], q, x, _, h => by simp at h
  | l :: ls, q, x, hl, h => by
    have hl0 := hl l (by simp)
    rw [List.flatten_cons] at h
    by_cases hq : q < n
    · rw [List.getElem?_append_left (by omega)] at h
      exact ⟨l, by rw [Nat.div_eq_of_lt hq]; rfl, by rw [Nat.mod_eq_of_lt hq]; exact h⟩
    · rw [List.getElem?_append_right (by omega), hl0] at h
      obtain ⟨r, h1, h2⟩ := flat_div hn ls (q - n) x (fun r hr => hl r (by simp [hr])) h
      have e1 : q / n = (q - n) / n + 1 := by rw [Nat.div_eq_sub_div hn (by omega)]
      have e2 : q % n = (q - n) % n := by rw [Nat.mod_eq_sub_mod (by omega)]
      exact ⟨r, by rw [e1]; simpa using h1, by rw [e2]; exact h2⟩

theorem flat_get' {α : Type} {sz : Nat} : ∀ (ls : List (List α)) (i j : Nat) (l : List α), (∀ x ∈ ls, x.length = sz) → ls[i]? = some l → j < sz → ls.flatten[i * sz + j]? = l[j]?
  | [], i, j, l, _, h, _ => by simp at h
  | x :: ls, i, j, l, hs, h, hj => by
    have hx : x.length = sz := hs x (by simp)
    cases i with
    | zero =>
      simp at h; subst h
      rw [List.flatten_cons, Nat.zero_mul, Nat.zero_add, List.getElem?_append_left (by omega)]
    | succ i =>
      rw [List.flatten_cons, List.getElem?_append_right (by rw [hx, Nat.succ_mul]; omega), hx]
      have e : (i + 1) * sz + j - sz = i * sz + j := by rw [Nat.succ_mul]; omega
      rw [e]
      exact flat_get' ls i j l (fun y hy => hs y (by simp [hy])) (by simpa using h) hj

theorem flat_length {α : Type} {sz : Nat} (ls : List (List α)) (hs : ∀ x ∈ ls, x.length = sz) : ls.flatten.length = ls.length * sz := by
  induction ls with
  | nil => simp
  | cons l ls ih => rw [List.flatten_cons, List.length_append, ih (fun x hx => hs x (by simp [hx])), hs l (by simp), List.length_cons, Nat.succ_mul, Nat.add_comm]

theorem src_of (hm : Mem Γ H w μ) {n : Nat} (hn : 0 < n) {x : V} {v : Value} {ys : List (List F)} (h : Rep Γ w μ x v) (hy : rowsOf n x H = some ys) : ∃ news, Src Γ w μ n ys v news := by
  unfold rowsOf at hy
  split at hy
  · rename_i m nb es
    split at hy
    · rename_i hmn
      cases hy
      have := Nat.eq_of_beq_eq_true hmn
      subst this
      cases h with
      | fr f v h =>
        cases h with
        | nil m nb ad c =>
          refine ⟨[], by simp, by simp, by simp, by simp, ?_⟩
          cases ad with
          | none => exact .inr ⟨rfl, c, rfl⟩
          | some ad => exact .inl ⟨ad, c, rfl, by simp⟩
        | sl m nb es k q c cv hk hcl hb1 hl hc hr =>
          have hrows : ∀ r ∈ ys, r.length = m := fun r hr => by obtain ⟨i, hi⟩ := List.getElem?_of_mem hr; exact hl i r hi
          let ls : List (List Value) := (List.range ys.length).map fun i => (List.range m).map (cv i)
          have hls : ∀ l ∈ ls, l.length = m := by intro l hl'; simp only [ls, List.mem_map] at hl'; obtain ⟨i, _, rfl⟩ := hl'; simp
          have hget : ∀ i j, i < ys.length → j < m → ls.flatten[i * m + j]? = some (cv i j) := fun i j hi hj => by
            rw [flat_get' ls i j ((List.range m).map (cv i)) hls (by simp [ls, hi]) hj]; simp [hj]
          have hel : ∀ i j, i < ys.length → j < m → ∃ e f, ys[i]? = some e ∧ e[j]? = some f := fun i j hi hj => by
            refine ⟨ys[i], (ys[i])[j]'(by rw [hrows _ (List.getElem_mem hi)]; exact hj), by simp, by simp⟩
          have hinv : ∀ (p : Nat) (u : Value), ls.flatten[p]? = some u → p / m < ys.length ∧ u = cv (p / m) (p % m) ∧ p = p / m * m + p % m := fun p u hp => by
            have hlt := (List.getElem?_eq_some_iff.1 hp).1
            rw [flat_length ls hls] at hlt
            have h1 : p / m < ys.length := by rw [Nat.div_lt_iff_lt_mul hn]; simpa [ls] using hlt
            have h2 : p = p / m * m + p % m := by rw [Nat.mul_comm]; exact (Nat.div_add_mod p m).symm
            rw [h2, hget _ _ h1 (Nat.mod_lt _ hn)] at hp
            cases hp
            exact ⟨h1, rfl, h2⟩
          refine ⟨ls.flatten, by rw [flat_length ls hls]; simp [ls], hrows, ?_, ?_, .inl ⟨⟨k, q, none⟩, c, rfl, ?_⟩⟩
          · intro p f hp
            obtain ⟨r, h1, h2⟩ := flat_div hn ys p f hrows hp
            have hi := (List.getElem?_eq_some_iff.1 h1).1
            refine ⟨cv (p / m) (p % m), ?_, hr _ _ _ _ h1 h2⟩
            have := hget (p / m) (p % m) hi (Nat.mod_lt _ hn)
            rw [Nat.mul_comm, Nat.div_add_mod] at this
            exact this
          · intro u hu
            obtain ⟨p, hp⟩ := List.getElem?_of_mem hu
            obtain ⟨h1, rfl, h3⟩ := hinv p u hp
            obtain ⟨e, f, e1, e2⟩ := hel _ _ h1 (Nat.mod_lt p hn)
            exact (hr _ _ _ _ e1 e2).one
          · intro p u hp
            obtain ⟨h1, rfl, h3⟩ := hinv p u hp
            obtain ⟨e, f, e1, e2⟩ := hel _ _ h1 (Nat.mod_lt p hn)
            rw [Addr.add_mid, ← hc _ _ _ _ e1 e2, Nat.add_assoc, ← h3]
    · cases hy
  · cases hy
    rw [rep_sc h]
    exact ⟨[], by simp, by simp, by simp, by simp, .inr ⟨rfl, 0, rfl⟩⟩
  · rename_i b
    split at hy
    · rename_i e m nb es hb
      split at hy
      · rename_i hmn
        cases hy
        have := Nat.eq_of_beq_eq_true hmn
        subst this
        rw [nth_eq] at hb
        cases h with
        | buf b q c ad hl =>
          obtain ⟨h1, _, h2, vs, h3, h4⟩ := hm.blk _ _ _ hb hl
          subst h1
          have hfl := flat_length ys h2
          have hrep : ∀ (i : Nat) (f : F), ys.flatten[i]? = some f → ∃ u, vs[i]? = some u ∧ RepFr Γ w μ f u := fun i f hf => by
            have hi : i < vs.length := by have := (List.getElem?_eq_some_iff.1 hf).1; rw [h3.1]; omega
            exact ⟨vs[i], by simp, by have := h4 i f hf; simpa [List.getD, hi] using this⟩
          refine ⟨vs, h3.1, h2, hrep, ?_, ?_⟩
          · intro u hu
            obtain ⟨p, hp⟩ := List.getElem?_of_mem hu
            have hlt := (List.getElem?_eq_some_iff.1 hp).1
            obtain ⟨u', e1, e2⟩ := hrep p (ys.flatten[p]'(by rw [hfl, ← h3.1]; exact hlt)) (by simp)
            rw [hp] at e1; cases e1; exact e2.one
          · rcases h3.2 with ⟨hv, h0⟩ | ⟨g, cap, cur, hv, _⟩
            · exact .inr ⟨List.eq_nil_of_length_eq_zero h0, 0, by rw [hv]⟩
            · refine .inl ⟨⟨g, 0, none⟩, cap, hv, ?_⟩
              exact World.ownsRow.cells h3 (by rw [hv]; rfl)
        | bdead b v hl h1 => exact (hm.blk _ _ _ hb hl).elim
      · cases hy
    · cases hy
  · cases hy

end Go.AW
