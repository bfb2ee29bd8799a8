/- AW, part 6: new memory; the last pure operations; all of them together. -/
import Derived.Test.YtalkhhfinogecaaA5
namespace Go.AW
open Go Go.RowKit
variable {Γ : Ctx} {H : Heap} {w : World} {μ : List Plc} {a : Act} {o : Oper}

/-- Memory grows, and what was there stays. -/
theorem Mem.grow {w' : World} (hm : Mem Γ H w μ) (hs : w.heap.size ≤ w'.heap.size) (hb : ∀ k, k < w.heap.size → w'.heap[k]? = w.heap[k]?) (h1 : w'.os = w.os) (h2 : w'.tape = w.tape) (h3 : w'.output = w.output) :
    Mem Γ H w' μ ∧ Pres Γ w μ w' μ := by
  have hp : Pres Γ w μ w' μ := ⟨fun k ⟨i1, i2, i3⟩ => ⟨i1, Nat.lt_of_lt_of_le i2 hs, i3⟩, fun k hk => hb k hk.2.1, .refl _⟩
  refine ⟨⟨hm.len, fun k hk => Nat.lt_of_lt_of_le (hm.below k hk) hs, hm.own0, hm.inj, fun i b l hi hl => ?_, ?_, hm.i0⟩, hp⟩
  · exact (hm.blk i b l hi hl).pres hp (fun k hk => hb k (hm.below k ⟨i, l, hl, hk⟩))
  · exact ⟨h1.trans hm.ext.os, h2.trans hm.ext.tape, h3.trans hm.ext.output, Nat.le_trans hm.ext.size hs, fun k hk ho => (hb k (Nat.lt_of_lt_of_le hk hm.ext.size)).trans (hm.ext.block k hk ho)⟩

theorem Mem.alloc (hm : Mem Γ H w μ) (ob : Obj) : Mem Γ H (w.alloc ob) μ ∧ Pres Γ w μ (w.alloc ob) μ :=
  hm.grow (by simp) (fun k hk => Below.heap_alloc w ob k hk) rfl rfl rfl

theorem imm_new (hm : Mem Γ H w μ) (ob : Obj) : Imm Γ (w.alloc ob) μ w.heap.size :=
  ⟨.inr hm.ext.size, by simp, fun h => by have := hm.below _ h; omega⟩

theorem heap_new (w : World) (ob : Obj) : (w.alloc ob).heap[w.heap.size]? = some ob := by show (w.heap.push ob)[w.heap.size]? = some ob; simp

theorem allF_some {l : List V} {fs : List F} (h : allF l = some fs) : l = fs.map .fr := by
  induction l generalizing fs with
  | nil => have h' : some [] = some fs := h; cases h'; rfl
  | cons v l ih =>
    cases v with
    | fr f =>
      have h' : (match allF l with | some s => some (f :: s) | none => none) = some fs := h
      cases hl : allF l with
      | none => rw [hl] at h'; cases h'
      | some s => rw [hl] at h'; cases h'; simp [ih hl]
    | _ => cases h

theorem rowsF_cons {z : List F} {n : Nat} {v : V} {l : List V} {es : List (List F)} (h : rowsF z n (v :: l) = some es) :
    ∃ c e s, cellsN n v = some c ∧ allF (nrmL z c) = some e ∧ rowsF z n l = some s ∧ es = e :: s := by
  have h' : (match cellsN n v with
    | some c => (match allF (nrmL z c), rowsF z n l with
      | some e, some s => some (e :: s)
      | _, _ => none)
    | none => none) = some es := h
  cases hc : cellsN n v with
  | none => rw [hc] at h'; cases h'
  | some c =>
    cases he : allF (nrmL z c) with
    | none => simp only [hc, he] at h'; cases h'
    | some e =>
      cases hs : rowsF z n l with
      | none => simp only [hc, he, hs] at h'; cases h'
      | some s => simp only [hc, he, hs] at h'; cases h'; exact ⟨c, e, s, rfl, he, rfl, rfl⟩

/-- A frozen row and the cells that it stands for. -/
def RowRep (Γ : Ctx) (w : World) (μ : List Plc) (e : List F) (vs : List Value) : Prop := e.length = vs.length ∧ ∀ (j : Nat) (f : F), e[j]? = some f → ∃ v, vs[j]? = some v ∧ RepFr Γ w μ f v

theorem row_of {z : List F} {c : List V} {vs : List Value} {e : List F} (h : PW (Rep1 Γ w μ) c vs) (he : allF (nrmL z c) = some e) : RowRep Γ w μ e vs := by
  have h1 := allF_some he
  have hl : e.length = c.length := by have := congrArg List.length h1; rw [nrmL_length] at this; simpa using this.symm
  refine ⟨by rw [hl]; exact h.1, fun j f hf => ?_⟩
  have h2 : (nrmL z c)[j]? = some (.fr f) := by rw [h1, List.getElem?_map, hf]; rfl
  rw [nrmL_get] at h2
  cases hq : c[j]? with
  | none => rw [hq] at h2; simp at h2
  | some x =>
    rw [hq] at h2; simp at h2
    obtain ⟨v, h3, h4⟩ := h.2 j x hq
    refine ⟨v, h3, ?_⟩
    have : Rep Γ w μ (.fr f) v := by
      rw [← h2]
      split
      · exact rep_nrm1 _ h4.1
      · exact h4.1
    cases this with
    | fr f v h => exact h

theorem fill_seq {sz : Nat} : ∀ (ps : List (Nat × Value)) (m : Nat) (pre rest : List Value) (cells : Array Value), seqB m (ps.map Prod.fst) = true → (∀ p ∈ ps, p.2.cells.size = sz) → cells.toList = pre ++ rest → pre.length = m * sz → rest.length = ps.length * sz →
    ∃ cells' : Array Value, Instr.fill (fun i => some (i * sz, sz)) cells ps = some cells' ∧ cells'.toList = pre ++ ps.flatMap fun p => p.2.cells.toList
  | [], m, pre, rest, cells, _, _, hc, _, hr => ⟨cells, rfl, by
      have : rest = [] := List.eq_nil_of_length_eq_zero (by simpa using hr)
      simp [hc, this]⟩
  | p :: ps, m, pre, rest, cells, hs, hz, hc, hp, hr => by
    have hs' : (match Nat.beq p.1 m with | true => seqB (m + 1) (ps.map Prod.fst) | false => false) = true := hs
    cases hb : Nat.beq p.1 m with
    | false => rw [hb] at hs'; cases hs'
    | true =>
      rw [hb] at hs'
      have hm := Nat.eq_of_beq_eq_true hb
      obtain ⟨i, v⟩ := p
      obtain rfl : i = m := hm
      have hv : v.cells.size = sz := hz (i, v) (by simp)
      have hlen : (ps.length + 1) * sz = ps.length * sz + sz := Nat.succ_mul _ _
      have hcs : cells.size = pre.length + rest.length := by rw [← Array.length_toList, hc, List.length_append]
      obtain ⟨c1, h1, h2⟩ := fill_step (place := fun i => some (i * sz, sz)) (cells := cells) (i := i) (rest := ps) rfl hv (by rw [List.length_cons] at hr; omega)
      have hvl : v.cells.toList.length = sz := by simpa using hv
      have e1 : c1.toList = (pre ++ v.cells.toList) ++ rest.drop sz := by
        rw [h2, hc, hvl, ← hp, List.take_left, List.drop_append]
        simp
      obtain ⟨c2, h3, h4⟩ := fill_seq ps (i + 1) (pre ++ v.cells.toList) (rest.drop sz) c1 hs' (fun p hp => hz p (by simp [hp])) e1
        (by rw [List.length_append, hvl, hp, Nat.succ_mul]) (by rw [List.length_drop]; rw [List.length_cons] at hr; omega)
      exact ⟨c2, by rw [h1]; exact h3, by rw [h4]; simp⟩

theorem flat_get {sz : Nat} : ∀ (ls : List (List Value)) (i j : Nat) (l : List Value), (∀ x ∈ ls, x.length = sz) → ls[i]? = some l → j < sz → ls.flatten[i * sz + j]? = l[j]?
  | [], i, j, l, _, h, _ => by simp at h
  | x :: ls, i, j, l, hs, h, hj => by
    have hx : x.length = sz := hs x (by simp)
    cases i with
    | zero =>
      simp at h; subst h
      rw [List.flatten_cons, Nat.zero_mul, Nat.zero_add, List.getElem?_append_left (by omega)]
    | succ i =>
      rw [List.flatten_cons, List.getElem?_append_right (by rw [hx, Nat.succ_mul]; omega), hx]
      have e : (i + 1) * sz + j - sz = i * sz + j := by rw [Nat.succ_mul]; omega
      rw [e]
      exact flat_get ls i j l (fun y hy => hs y (by simp [hy])) (by simpa using h) hj

/-- Rows, one behind the other, in a new block: a frozen slice. -/
theorem rep_rows (hm : Mem Γ H w μ) {sz nb : Nat} {es : List (List F)} {ls : List (List Value)} {ob : Obj} {c : Array Value} {et : TypeId} (hob : ob = .cells c et) (hsz : ∀ x ∈ ls, x.length = sz)
    (hr : ∀ (i : Nat) (e : List F), es[i]? = some e → ∃ l, ls[i]? = some l ∧ RowRep Γ w μ e l) (hc : c.toList.take (ls.flatten.length) = ls.flatten) (cap : Nat) (hcap : es.length ≤ cap) (hnb : es.length * nb ≤ 140737488355328) :
    Rep Γ (w.alloc ob) μ (.fr (.sl sz nb es)) (.slice (some ⟨w.heap.size, 0, none⟩) es.length cap) := by
  subst hob
  have hp := (hm.alloc (.cells c et)).2
  have hrow : ∀ (i : Nat) (e : List F), es[i]? = some e → e.length = sz := fun i e he => by
    obtain ⟨l, h1, h2⟩ := hr i e he
    rw [h2.1]; exact hsz l (List.mem_of_getElem? h1)
  refine .fr _ _ (.sl sz nb es w.heap.size 0 cap (fun i j => c.getD (i * sz + j) undef) (imm_new hm _) hcap hnb hrow ?_ ?_)
  all_goals
    intro i e j f he hf
    obtain ⟨l, h1, h2⟩ := hr i e he
    obtain ⟨v, h3, h4⟩ := h2.2 j f hf
    have hj : j < sz := by have := (List.getElem?_eq_some_iff.1 hf).1; have := hrow i e he; omega
    have h5 := flat_get ls i j l hsz h1 hj
    rw [h3] at h5
    have h6 : i * sz + j < ls.flatten.length := (List.getElem?_eq_some_iff.1 h5).1
    have h7 : c.toList[i * sz + j]? = some v := by rw [← hc, List.getElem?_take, if_pos h6] at h5; exact h5
    have h8 : c[i * sz + j]? = some v := by simpa using h7
    have h9 : c.getD (i * sz + j) undef = v := by simp [Array.getD_eq_getD_getElem?, h8]
  · rw [h9]
    simp only [World.cell?, heap_new, Option.isSome_none, Bool.false_eq_true, if_false, Nat.zero_add]
    exact h8
  · simp only [h9]
    exact hp.repF h4

theorem buildSlice_ok {T : TTab} (hT : TOk Γ.P T) {E : Env} {t e' len : Nat} {ps : Array (Nat × Operand)} {n1 n2 : Nat} {z : List F} {ti : TI} {es : List (List F)} (hm : Mem Γ H w μ)
    (ho : o.op = .buildSlice t len ps) (hE : ∀ p ∈ ps.toList, Rep Γ w μ (opd E p.2) (a.eval p.2)) (ht : T.get t = some ⟨.sli e', n1, n2, z⟩) (he : T.get e' = some ti)
    (hs : seqB 0 (ps.toList.map Prod.fst) = true) (hlen : ps.toList.length = len) (h24 : len * ti.sz ≤ 16777216) (hby : len * ti.by_ ≤ 140737488355328) (hrows : rowsF ti.zero ti.sz (ps.toList.map fun p => opd E p.2) = some es) : ValOk Γ H w μ a o (.fr (.sl ti.sz ti.by_ es)) := by
  obtain ⟨d, hd, hk⟩ := (hT t _ ht).kind
  cases d <;> try exact hk.elim
  rename_i e''
  obtain rfl : e' = e'' := hk
  obtain ⟨zv, hz1, hz2, hz3⟩ := zero_pw (w := w) (μ := μ) (hT _ _ he)
  -- the rows
  have hl : ∀ (l : List (Nat × Operand)) (es : List (List F)), (∀ p ∈ l, Rep Γ w μ (opd E p.2) (a.eval p.2)) → rowsF ti.zero ti.sz (l.map fun p => opd E p.2) = some es →
      es.length = l.length ∧ (∀ p ∈ l, (a.eval p.2).cells.size = ti.sz) ∧ ∀ (i : Nat) (e : List F), es[i]? = some e → ∃ q, (l.map fun p => (a.eval p.2).cells.toList)[i]? = some q ∧ RowRep Γ w μ e q := by
    intro l
    induction l with
    | nil => intro es _ h; have h' : some [] = some es := h; cases h'; exact ⟨rfl, by simp, by intro i e h; simp at h⟩
    | cons p l ih =>
      intro es hE h
      obtain ⟨c, e, s, h1, h2, h3, rfl⟩ := rowsF_cons h
      obtain ⟨h4, h5, h6⟩ := ih s (fun p hp => hE p (by simp [hp])) h3
      obtain ⟨h7, h8⟩ := pw_cellsN (hE p (by simp)) h1
      refine ⟨by simp [h4], fun q hq => ?_, fun i e' he' => ?_⟩
      · rcases List.mem_cons.1 hq with rfl | hq
        · exact h8
        · exact h5 q hq
      · cases i with
        | zero => simp at he'; subst he'; exact ⟨_, rfl, row_of h7 h2⟩
        | succ i => simpa using h6 i e' (by simpa using he')
  obtain ⟨h1, h2, h3⟩ := hl ps.toList es hE hrows
  have hmap : (ps.map fun x => (x.1, a.eval x.2)).toList = ps.toList.map fun p => (p.1, a.eval p.2) := by simp
  have fin : ∀ zc : Array Value, ∃ cells' : Array Value, Instr.fill (fun i => some (i * ti.sz, ti.sz)) ((Array.range (len * ti.sz)).map (zc[· % zc.size]!)) (ps.toList.map fun p => (p.1, a.eval p.2)) = some cells' ∧
      Rep Γ (w.alloc (.cells cells' e')) μ (.fr (.sl ti.sz ti.by_ es)) (.slice (some ⟨w.heap.size, 0, none⟩) len len) := by
    intro zc
    obtain ⟨cells', h4, h5⟩ := fill_seq (sz := ti.sz) (ps.toList.map fun p => (p.1, a.eval p.2)) 0 [] ((Array.range (len * ti.sz)).map (zc[· % zc.size]!)).toList ((Array.range (len * ti.sz)).map (zc[· % zc.size]!))
      (by rw [List.map_map]; exact hs) (by intro p hp; obtain ⟨q, h6, rfl⟩ := List.mem_map.1 hp; exact h2 q h6) (by simp) (by simp) (by simp [← hlen])
    have hflat : cells'.toList = (ps.toList.map fun p => (a.eval p.2).cells.toList).flatten := by rw [h5, List.flatMap_map]; simp [List.flatMap]
    have hrep := rep_rows hm (c := cells') (et := e') (sz := ti.sz) rfl (by intro x hx; obtain ⟨q, h6, rfl⟩ := List.mem_map.1 hx; simpa using h2 q h6) h3 (by rw [hflat]; exact List.take_length) len (by rw [h1, hlen]; exact Nat.le_refl _) (nb := ti.by_) (by rw [h1, hlen]; exact hby)
    have hlen' : es.length = len := by rw [h1, hlen]
    rw [hlen'] at hrep
    exact ⟨cells', h4, hrep⟩
  by_cases h0 : len * ti.sz = 0
  · obtain ⟨cells', h4, hrep⟩ := fin #[]
    refine ⟨_, _, ?_, (hm.alloc _).1, (hm.alloc _).2, hrep⟩
    unfold execOp
    simp only [ho, Instr.buildSlice, Sem.run_bind, run_underlying hd w, Result.andThen_ok, (hT _ _ he).size w, hmap]
    rw [if_neg (by omega), if_pos h0]
    simp only [Sem.run_bind, Sem.run_pure, Result.andThen_ok, h4, newRow, newObj]
    rfl
  · obtain ⟨cells', h4, hrep⟩ := fin zv.cells
    refine ⟨_, _, ?_, (hm.alloc _).1, (hm.alloc _).2, hrep⟩
    unfold execOp
    simp only [ho, Instr.buildSlice, Sem.run_bind, run_underlying hd w, Result.andThen_ok, (hT _ _ he).size w, hmap]
    rw [if_neg (by omega), if_neg h0]
    simp only [Sem.run_bind, hz1, Sem.run_pure, Result.andThen_ok, h4, newRow, newObj]
    rfl

end Go.AW
