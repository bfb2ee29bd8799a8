
/- AW, part 18: what the walks of Go's own slices.Insert and slices.Delete want: copies of rows of elements of any size, overlaps of two blocks. -/
import Derived.Test.YtjnnggpjhidcmabGreatMB
import Derived.Laws.CopyRow
import Derived.Lib.AppendZeros
import Derived.Laws.Externs
import Derived.Shelf.RegionOpenPlain
import Derived.Test.YtjnnggpjhidcmabGreatMC
import Derived.WalkKit
import Derived.Lib.Walk
import Derived.Lib.SliceRun
import Derived.Lib.AppendZerosOnto
import Derived.Laws.IdiomCopy
namespace Go.AW
open Go Go.RowKit
variable {P : Program}

/-- 'copy' within rows, for elements of any size. -/
theorem run_copy_rowK (w : World) (dT sT ty elem : TypeId) (g o dLen dCap : Nat) (a : Addr) (sLen sCap m sz : Nat) (cur : Array Value) (t : TypeId) (cs : List Value)
    (hu : P.underlying dT = some (.slice elem)) (hs : (P.info? elem).map (·.size) = some sz) (hg : w.heap[g]? = some (.cells cur t (0, 0))) (hm : m = Nat.min sLen dLen) (hn : cs.length = m * sz)
    (hsrc : ∀ j v, cs[j]? = some v → w.cell? (a.add j) = some v) (hfit : o + cs.length ≤ cur.size) (h1 : ∀ v ∈ cs, v.oneCell' = true) :
    (Builtin.copy_ #[dT, sT] ty #[.slice (some ⟨g, o, none⟩) dLen dCap, .slice (some a) sLen sCap]).run P w =
      .ok (goInt m) (w.setRow g (cur.toList.take o ++ cs ++ cur.toList.drop (o + cs.length)).toArray) := by
  have hl := run_loadCells_list (P := P) w a cs hsrc
  have hst := run_storeCells_at P g o t cs 0 cur w hg (by simpa using hfit) h1
  cases hq : P.info? elem with
  | none => simp [hq] at hs
  | some i =>
    have hi : i.size = sz := by simpa [hq] using hs
    simp [Builtin.copy_, run_underlying hu, Builtin.lenOf, Builtin.firstCells, sizeOf, typeInfo, hq, hi, ← hm, ← hn, hl, hst]

theorem wp_copy_run (w : World) {o : Oper} {a : Act} {K : Act → World → Prop} {Q : Exit → Act → World → Prop} (d s : Operand) (t t' : TypeId)
    (ho : o.op = .call { callee := .builtin .copy, args := #[d, s], argTypes := #[t, t'] }) (v u : Value) (hd : a.eval d = v) (hs : a.eval s = u) {v' : Value} {w' : World}
    (hr : (Builtin.copy_ #[t, t'] o.type #[v, u]).run P w = .ok v' w') (h : K (a.put o.dst v') w') : o.wp P a w K Q := by
  unfold Oper.wp execOp
  simp only [ho, resolve, invoke, builtin, Sem.run_bind, Sem.run_pure, Result.andThen_ok, List.map_toArray, List.map_cons, List.map_nil, hd, hs, hr]
  exact h

theorem wpList_copy_run (w : World) {ops : Array Oper} {rest : List Oper} {o : Oper} {a : Act} {Q : Exit → Act → World → Prop} (hgd : o.guard = none) (d s : Operand) (t t' : TypeId)
    (ho : o.op = .call { callee := .builtin .copy, args := #[d, s], argTypes := #[t, t'] }) (v u : Value) (hd : a.eval d = v) (hs : a.eval s = u) {v' : Value} {w' : World}
    (hr : (Builtin.copy_ #[t, t'] o.type #[v, u]).run P w = .ok v' w') (h : wpList P ops Q rest (a.put o.dst v') w') : wpList P ops Q (o :: rest) a w :=
  wpList_plain hgd fun _ hK => wp_copy_run w d s t t' ho v u hd hs hr (hK _ _ h)

theorem step_copy_run {ops : Array Oper} {o : Oper} {a : Act} {w : World} {K : Act → World → Prop} {Q : Exit → Act → World → Prop} {E : Prop}
    (hg : o.guard = none) (d x : Operand) (dT sT : TypeId) (hop : o.op = Op.call { callee := Callee.builtin Builtin.copy, args := #[d, x], argTypes := #[dT, sT] })
    (v u : Value) (hd : a.eval d = v) (hx : a.eval x = u) {v' : Value} {w' : World} (hr : (Builtin.copy_ #[dT, sT] o.type #[v, u]).run P w = .ok v' w') (hK : K (a.put o.dst v') w') :
    if Region.wanted o (yielded ops a.tmps) = true then Oper.wp P o a w K Q else E := by
  have hw : Region.wanted o (yielded ops a.tmps) = true := by simp [Region.wanted, hg]
  rw [if_pos hw]
  exact wp_copy_run w d x dT sT hop v u hd hx hr hK

theorem step_append_run {ops : Array Oper} {o : Oper} {a : Act} {w : World} {K : Act → World → Prop} {Q : Exit → Act → World → Prop} {E : Prop}
    (hg : o.guard = none) (s x : Operand) (t tn : TypeId) (hop : o.op = Op.call { callee := Callee.builtin Builtin.append, args := #[s, x], argTypes := #[t, tn] })
    (v u : Value) (hd : a.eval s = v) (hx : a.eval x = u) {v' : Value} {w' : World} (hr : (Builtin.append_ #[t, tn] o.type #[v, u]).run P w = .ok v' w') (hK : K (a.put o.dst v') w') :
    if Region.wanted o (yielded ops a.tmps) = true then Oper.wp P o a w K Q else E := by
  have hw : Region.wanted o (yielded ops a.tmps) = true := by simp [Region.wanted, hg]
  rw [if_pos hw]
  exact Lib.wp_append_run w s x t tn hop v u hd hx v' w' hr hK

/-- Two blocks: a row of the call's own, and another one: they do not overlap. -/
theorem run_overlaps_two (w : World) (tS tR e : TypeId) (ht : P.underlying tS = some (.slice e)) (size : Nat) (hz : ∀ w, (Go.sizeOf e).run P w = .ok size w)
    (a b : Addr) (la ca lb cb : Nat) (hne : a.block ≠ b.block) (cA cB : Array Value) (tA tB : TypeId) (fA : Nat × Nat) (hA : w.heap[a.block]? = some (.cells cA tA fA)) (hB : w.heap[b.block]? = some (.cells cB tB (0, 0))) (h0 : cA.size ≠ 0) :
    (Extern.SlicesOverlaps.overlaps #[tS, tS] #[tR] #[.slice (some a) la ca, .slice (some b) lb cb]).run P w = .ok (.bool false) w := by
  have hnb : (a.block != b.block) = true := by simpa using hne
  have hnb' : (a.block == b.block) = false := by simpa using hne
  have hsa : w.shape? a.block = some (tA, cA.size) := by simp [World.shape?, hA]
  have hsb : w.shape? b.block = some (tB, cB.size) := by simp [World.shape?, hB]
  have hfb : ∀ o, w.frozen? { block := b.block, off := o } = false := fun o => by simp [World.frozen?, hB]
  have hfb' : w.frozen? b = false := by simp [World.frozen?, hB]
  change Sem.run P (α := Value) (do
    let some t := (#[tS, tS] : Array TypeId)[0]? | stuck "slices.overlaps: no parameter types"
    let .slice elem ← underlying t | stuck "slices.overlaps: slice type expected"
    let size ← sizeOf elem
    match (some a : Option Addr), (some b : Option Addr) with
    | some a, some b =>
      if la = 0 ∨ lb = 0 ∨ size = 0 then pure (Value.bool false)
      else if a.block != b.block && (← frozen a) && (← frozen b) then unsupported .addressObserved
      else do
        if a.block != b.block then do
          noView a; noView b
          if ← mayBeOne a b then return Value.bool ((← choose (.extern "sameAddr.stringBytes" 2)) == 1)
        pure (Value.bool (a.block == b.block && a.off < b.off + lb * size && b.off < a.off + la * size))
    | _, _ => pure (Value.bool false)) w = _
  by_cases hl0 : la = 0 ∨ lb = 0 ∨ size = 0
  · simp [run_underlying ht, hz, hl0]
  · obtain ⟨k, hk⟩ : ∃ k, cA.size = k + 1 := ⟨cA.size - 1, by omega⟩
    rw [hk] at hsa
    cases hfa : w.frozen? a <;> cases hfe : w.frozen? { block := a.block, off := k + 1 } <;>
      simp [run_underlying ht, hz, hl0, hnb, hnb', frozen, noView, viewAt, mayBeOne, stringish, shape, Sem.run, hsa, hsb, hfa, hfe, hfb, hfb']

theorem flatten_take {α : Type} {sz : Nat} : ∀ (ls : List (List α)) (i : Nat), (∀ x ∈ ls, x.length = sz) → (ls.take i).flatten = ls.flatten.take (i * sz)
  | [], i, _ => by simp
  | l :: ls, 0, _ => by simp
  | l :: ls, i + 1, h => by
    have hl := h l (by simp)
    rw [List.take_succ_cons, List.flatten_cons, List.flatten_cons, flatten_take ls i (fun x hx => h x (by simp [hx]))]
    have : (i + 1) * sz = l.length + i * sz := by rw [hl, Nat.succ_mul]; omega
    rw [this, List.take_length_add_append]
theorem flatten_drop {α : Type} {sz : Nat} : ∀ (ls : List (List α)) (i : Nat), (∀ x ∈ ls, x.length = sz) → (ls.drop i).flatten = ls.flatten.drop (i * sz)
  | [], i, _ => by simp
  | l :: ls, 0, _ => by simp
  | l :: ls, i + 1, h => by
    have hl := h l (by simp)
    rw [List.drop_succ_cons, List.flatten_cons, flatten_drop ls i (fun x hx => h x (by simp [hx]))]
    have : (i + 1) * sz = l.length + i * sz := by rw [hl, Nat.succ_mul]; omega
    rw [this, List.drop_length_add_append]

/-- Two lists, piece by piece, one for the other. -/
theorem rep_insert {Γ : Ctx} {w : World} {μ : List Plc} {fs gs : List F} {vs news : List Value} {k : Nat} (h1 : ∀ (i : Nat) (f : F), fs[i]? = some f → RepFr Γ w μ f (vs.getD i undef)) (h2 : ∀ (i : Nat) (f : F), gs[i]? = some f → RepFr Γ w μ f (news.getD i undef))
    (hl : vs.length = fs.length) (hn : news.length = gs.length) (hk : k ≤ fs.length) : ∀ (i : Nat) (f : F), (fs.take k ++ gs ++ fs.drop k)[i]? = some f → RepFr Γ w μ f ((vs.take k ++ news ++ vs.drop k).getD i undef) := by
  intro i f hf
  have hfk : (fs.take k).length = k := by rw [List.length_take]; omega
  have hvk : (vs.take k).length = k := by rw [List.length_take]; omega
  simp only [List.getD_eq_getElem?_getD] at *
  rw [List.append_assoc] at hf ⊢
  by_cases ha : i < k
  · rw [List.getElem?_append_left (by omega), List.getElem?_take, if_pos ha] at hf
    rw [List.getElem?_append_left (by omega), List.getElem?_take, if_pos ha]
    exact h1 i f hf
  · rw [List.getElem?_append_right (by omega), hfk] at hf
    rw [List.getElem?_append_right (by omega), hvk]
    by_cases hb : i - k < gs.length
    · rw [List.getElem?_append_left (by omega)] at hf ⊢
      exact h2 _ f hf
    · rw [List.getElem?_append_right (by omega), List.getElem?_drop] at hf
      rw [List.getElem?_append_right (by omega), List.getElem?_drop, hn]
      exact h1 _ f hf

end Go.AW

/- slices.Insert, by its text. -/
namespace Go.AW
open Go Go.Proofs Go.RowKit Go.Lib

set_option maxHeartbeats 4000000 in
set_option maxRecDepth 100000 in
theorem timers_insert_end (w : World) (ad : Option Nat) (n cap vb vo vc : Nat) (vs news : List Value) (hown : w.ownsRow 0 78 2 (hdrV ad n cap) n vs) (hnl : news.length = 2) (h1 : ∀ u ∈ news, u.oneCell' = true)
    (hnews : ∀ (j : Nat) (u : Value), news[j]? = some u → w.cell? ((⟨vb, vo, none⟩ : Addr).add j) = some u) (hfit : (n + 1) * 24 ≤ 140737488355328) :
    Calls PP 179 #[hdrV ad n cap, .int .i64 n, .slice (some ⟨vb, vo, none⟩) 1 vc] w fun e w' =>
      ∃ ad' cap', e = .returned (hdrV ad' (n + 1) cap') ∧ w'.ownsRow 0 78 2 (hdrV ad' (n + 1) cap') (n + 1) (vs ++ news) ∧ w.heap.size ≤ w'.heap.size ∧ (∀ k, k < w.heap.size → ad ≠ some k → w'.heap[k]? = w.heap[k]?) ∧
        w'.os = w.os ∧ w'.tape = w.tape ∧ w'.output = w.output ∧ ∀ k, ad' = some k → ad = some k ∨ (w.heap.size ≤ k ∧ k < w'.heap.size) := by
  obtain ⟨d, hd, hkk⟩ := (TTok.tok 32 _ rfl).kind
  cases d <;> try exact hkk.elim
  rename_i e'
  obtain rfl : 78 = e' := hkk
  have happ := fun ty => app_run (P := PP) (t := 32) (ty := ty) hd (TTok.tok 78 _ rfl) (Nat.zero_le _) hown (q := 1) (news := news) (by simpa using hnl) h1 (.inl ⟨⟨vb, vo, none⟩, vc, rfl, hnews⟩) (by decide) hfit
  rcases hown.2 with ⟨hnil, rfl⟩ | ⟨g, cap0, cur, hvv, hbg, hg, hnc, hcm, hcs, htake⟩
  · cases ad with
    | some g => simp [hdrV] at hnil
    | none =>
      simp only [hdrV, Option.map_none, Value.slice.injEq, true_and] at hnil
      subst hnil
      simp only [hdrV, Option.map_none] at happ ⊢
      obtain ⟨ad', cap', w', g1, g2, g3, g4, g5, g6, g7, g8⟩ := happ 32
      go_enter Tryz.func179, Tryz.ntmps179
      go_wp2_with (at_builtin; refine Lib.wpList_append_run _ rfl _ _ _ _ rfl _ _ rfl rfl _ _ g1 ?_)
      go_ret
      exact ⟨ad', cap', rfl, g2, g3, g4, g5, g6, g7, g8⟩
  cases ad with
  | none => simp [hdrV] at hvv
  | some g' =>
    simp only [hdrV, Option.map_some, Value.slice.injEq, Option.some.injEq, Addr.mk.injEq] at hvv
    obtain ⟨⟨rfl, _⟩, _, rfl⟩ := hvv
    simp only [hdrV, Option.map_some] at happ ⊢
    have hc63 : cap ≤ 9223372036854775807 := by unfold maxLen at hcm; omega
    have hn0 : (0 : Int) ≤ (n : Int) := by omega
    obtain ⟨ad', cap', w', g1, g2, g3, g4, g5, g6, g7, g8⟩ := happ 32
    go_enter Tryz.func179, Tryz.ntmps179
    go_wp2_with (at_builtin; refine Lib.wpList_append_run _ rfl _ _ _ _ rfl _ _ rfl rfl _ _ g1 ?_)
    all_goals go_wp2_with (at_builtin; refine Lib.wpList_append_run _ rfl _ _ _ _ rfl _ _ rfl rfl _ _ g1 ?_)
    all_goals go_ret
    all_goals exact ⟨ad', cap', rfl, g2, g3, by simpa using g4, g5, g6, g7, by simpa using g8⟩

set_option maxHeartbeats 4000000 in
set_option maxRecDepth 100000 in
theorem timers_insert_room (w : World) (g n cap i vb vo vc : Nat) (cur : Array Value) (news : List Value) (hg : w.heap[g]? = some (.cells cur 78 (0, 0))) (hcs : cur.size = cap * 2) (hc63 : cap ≤ 9223372036854775807) (hi : i < n) (hroom : n + 1 ≤ cap)
    (h1c : ∀ u ∈ cur.toList.take (n * 2), u.oneCell' = true) (hnl : news.length = 2) (h1 : ∀ u ∈ news, u.oneCell' = true) (hnews : ∀ (j : Nat) (u : Value), news[j]? = some u → w.cell? ((⟨vb, vo, none⟩ : Addr).add j) = some u)
    (hvg : vb ≠ g) (cv : Array Value) (ev : TypeId) (fv : Nat × Nat) (hv : w.heap[vb]? = some (.cells cv ev fv)) (hv0 : cv.size ≠ 0) :
    Calls PP 179 #[.slice (some ⟨g, 0, none⟩) n cap, .int .i64 i, .slice (some ⟨vb, vo, none⟩) 1 vc] w fun e w' =>
      e = .returned (.slice (some ⟨g, 0, none⟩) (n + 1) cap) ∧ ∃ cur' : Array Value, w'.heap[g]? = some (.cells cur' 78 (0, 0)) ∧ cur'.toList = cur.toList.take (i * 2) ++ news ++ (cur.toList.take (n * 2)).drop (i * 2) ++ cur.toList.drop ((n + 1) * 2) ∧
        w'.heap.size = w.heap.size ∧ (∀ k, k ≠ g → w'.heap[k]? = w.heap[k]?) ∧ w'.os = w.os ∧ w'.tape = w.tape ∧ w'.output = w.output := by
  obtain ⟨d, hd, hkk⟩ := (TTok.tok 32 _ rfl).kind
  cases d <;> try exact hkk.elim
  rename_i e'
  obtain rfl : 78 = e' := hkk
  have hz1 : ¬ ((1 : Int) = 0) := by omega
  have hz2 : ¬ ((i : Int) = (n : Int)) := by omega
  have hz3 : ¬ ((cap : Int) < (n : Int) + 1) := by omega
  have hw1 : IntKind.i64.wrap ((i : Int) + 1) = (i : Int) + 1 := by rw [IntKind.wrap_i64]; omega
  have hw2 : IntKind.i64.wrap ((n : Int) + 1) = (n : Int) + 1 := by rw [IntKind.wrap_i64]; omega
  have hb1 : (0 : Int) ≤ (i : Int) + 1 := by omega
  have htn : ((i : Int) + 1).toNat = i + 1 := by omega
  have htn2 : ((n : Int) + 1).toNat = n + 1 := by omega
  have hb2 : ¬ (cap = i + 1) := by omega
  have hb3 : (i : Int) ≤ (n : Int) + 1 := by omega
  have hb4 : ¬ (cap = i) := by omega
  have hb5 : (i : Int) ≤ n := by omega
  have hb6 : (n : Int) + 1 ≤ cap := by omega
  have hb7 : (0 : Int) ≤ (n : Int) + 1 := by omega
  have mixed : PP.follows .mixedOrders = true := by kernel_rfl
  have hov : ∀ o lb cb, (callFunc 192 #[.slice (some ⟨vb, vo, none⟩) 1 vc, .slice (some ⟨g, o, none⟩) lb cb]).run PP w = .ok (.value (.bool false)) w := fun o lb cb => by
    rw [run_callFunc_extern Tryz.func192 (by kernel_rfl) (by kernel_rfl) (by kernel_rfl) (e := Extern.SlicesOverlaps.overlaps #[32, 32] #[4]) (by kernel_rfl),
      run_overlaps_two w 32 4 78 hd 2 ((TTok.tok 78 _ rfl).size) ⟨vb, vo, none⟩ ⟨g, o, none⟩ 1 vc lb cb hvg cv cur ev 78 fv hv hg hv0]
    rfl
  have hcell : ∀ (W : World) (a : Addr), W.heap = w.heap → W.cell? a = w.cell? a := fun W a h => by simp [World.cell?, h]
  have hsz : (PP.info? 78).map (·.size) = some 2 := (TTok.tok 78 _ rfl).size'
  have hcl : cur.toList.length = cap * 2 := by simpa using hcs
  obtain ⟨cs1, hcs1⟩ : ∃ cs1, cs1 = (cur.toList.take (n * 2)).drop (i * 2) := ⟨_, rfl⟩
  have hl1 : cs1.length = (n - i) * 2 := by rw [hcs1, List.length_drop, List.length_take, hcl]; omega
  obtain ⟨cur1, hcur1⟩ : ∃ cur1 : Array Value, cur1 = (cur.toList.take ((i + 1) * 2) ++ cs1 ++ cur.toList.drop ((i + 1) * 2 + cs1.length)).toArray := ⟨_, rfl⟩
  have hcur1l : cur1.size = cap * 2 := by rw [hcur1]; simp [hl1, hcs]; omega
  obtain ⟨cur2, hcur2⟩ : ∃ cur2 : Array Value, cur2 = (cur1.toList.take (i * 2) ++ news ++ cur1.toList.drop (i * 2 + news.length)).toArray := ⟨_, rfl⟩
  have hcp1 : ∀ (W : World), W.heap = w.heap → ∀ ty dc sc, (Builtin.copy_ #[32, 32] ty #[.slice (some ⟨g, (i + 1) * 2, none⟩) (n - i) dc, .slice (some ⟨g, i * 2, none⟩) (n + 1 - i) sc]).run PP W = .ok (goInt ((n - i : Nat) : Nat)) (W.setRow g cur1) := fun W hW ty dc sc => by
    rw [hcur1]
    exact run_copy_rowK W 32 32 ty 78 g ((i + 1) * 2) (n - i) dc ⟨g, i * 2, none⟩ (n + 1 - i) sc (n - i) 2 cur 78 cs1 hd hsz (by rw [hW]; exact hg) (by simp only [Nat.min_def]; split <;> omega) hl1
      (fun j v hj => by
        rw [hcell W _ hW, Addr.add_lit]
        simp only [World.cell?, hg, Option.isSome_none, Bool.false_eq_true, if_false]
        rw [hcs1, List.getElem?_drop, List.getElem?_take] at hj
        split at hj
        · simpa using hj
        · cases hj) (by rw [hl1, hcs]; omega) (fun v hv => h1c v (by rw [hcs1] at hv; exact List.mem_of_mem_drop hv))
  have hcp2 : ∀ (W : World), W.heap = (w.setRow g cur1).heap → ∀ ty dc sc, (Builtin.copy_ #[32, 32] ty #[.slice (some ⟨g, i * 2, none⟩) (n + 1 - i) dc, .slice (some ⟨vb, vo, none⟩) 1 sc]).run PP W = .ok (goInt ((1 : Nat) : Nat)) (W.setRow g cur2) := fun W hW ty dc sc => by
    rw [hcur2]
    exact run_copy_rowK W 32 32 ty 78 g (i * 2) (n + 1 - i) dc ⟨vb, vo, none⟩ 1 sc 1 2 cur1 78 news hd hsz (by rw [hW]; exact setRow_heap w g cur cur1 78 (0, 0) hg) (by simp only [Nat.min_def]; split <;> omega) (by omega)
      (fun j v hj => by
        have := hnews j v hj
        rw [Addr.add_lit] at this ⊢
        simp only [World.cell?] at this ⊢
        rw [hW, setRow_other w g vb cur1 hvg]
        exact this) (by rw [hnl, hcur1l]; omega) h1
  have hal : (cur.toList.take ((i + 1) * 2)).length = i * 2 + 2 := by rw [List.length_take, hcl]; omega
  have hfin : cur2.toList = cur.toList.take (i * 2) ++ news ++ (cur.toList.take (n * 2)).drop (i * 2) ++ cur.toList.drop ((n + 1) * 2) := by
    have e1 : cur1.toList.take (i * 2) = cur.toList.take (i * 2) := by
      rw [hcur1]
      simp only [List.append_assoc]
      rw [List.take_append_of_le_length (by rw [hal]; omega), List.take_take, Nat.min_eq_left (by omega)]
    have e2 : cur1.toList.drop (i * 2 + news.length) = cs1 ++ cur.toList.drop ((n + 1) * 2) := by
      rw [hcur1, hnl, ← hal]
      simp only [List.append_assoc]
      rw [List.drop_left, hl1]
      congr 2; omega
    rw [hcur2]
    simp only [e1, e2, ← hcs1, List.append_assoc]
  have hset1 : (w.drew.setRow g cur1).heap[g]? = some (.cells cur1 78 (0, 0)) := setRow_heap w g cur cur1 78 (0, 0) hg
  clear hcur2 hcur1 hcs1 hl1 hcur1l hcl hal
  go_enter Tryz.func179, Tryz.ntmps179
  go_wp2_with (simp only [hov])
  go_region_law_o (refine step_copy_run rfl _ _ 32 32 rfl (.slice (some ⟨g, (i + 1) * 2, none⟩) (n - i) (cap - (i + 1))) (.slice (some ⟨g, i * 2, none⟩) (n + 1 - i) (cap - i)) (by simp [Act.eval, Act.put]) (by simp [Act.eval, Act.put]) (hcp1 w.drew rfl _ _ _) ?_)
  go_wp2_with (simp only [hcp2 (w.drew.setRow g cur1) rfl])
  go_ret
  refine ⟨rfl, cur2, setRow_heap _ g cur1 cur2 78 (0, 0) hset1, hfin, by simp [World.setRow], fun k hk => ?_, rfl, rfl, rfl⟩
  rw [setRow_other _ g k cur2 hk, setRow_other _ g k cur1 hk]; rfl

end Go.AW

/- slices.Insert, by its text: where there is no room. -/
namespace Go.AW
open Go Go.Proofs Go.RowKit Go.Lib

set_option maxHeartbeats 4000000 in
set_option maxRecDepth 100000 in
theorem timers_insert_grow (w : World) (g n cap i vb vo vc : Nat) (cur : Array Value) (news : List Value) (hg : w.heap[g]? = some (.cells cur 78 (0, 0))) (hcs : cur.size = cap * 2) (hc63 : cap ≤ 9223372036854775807) (hi : i < n) (hnc : n ≤ cap) (hroom : cap < n + 1)
    (hfit : (n + 1) * 24 ≤ 140737488355328) (h1c : ∀ u ∈ cur.toList.take (n * 2), u.oneCell' = true) (hnl : news.length = 2) (h1 : ∀ u ∈ news, u.oneCell' = true) (hnews : ∀ (j : Nat) (u : Value), news[j]? = some u → w.cell? ((⟨vb, vo, none⟩ : Addr).add j) = some u)
    (hvw : vb < w.heap.size) :
    Calls PP 179 #[.slice (some ⟨g, 0, none⟩) n cap, .int .i64 i, .slice (some ⟨vb, vo, none⟩) 1 vc] w fun e w' =>
      ∃ G, e = .returned (.slice (some ⟨w.heap.size, 0, none⟩) (n + 1) G) ∧ n + 1 ≤ G ∧ G ≤ maxLen ∧ ∃ cur' : Array Value, w'.heap[w.heap.size]? = some (.cells cur' 78 (0, 0)) ∧ cur'.size = G * 2 ∧ cur'.toList.take ((n + 1) * 2) = cur.toList.take (i * 2) ++ news ++ (cur.toList.take (n * 2)).drop (i * 2) ∧
        w'.heap.size = w.heap.size + 1 ∧ (∀ k, k < w.heap.size → w'.heap[k]? = w.heap[k]?) ∧ w'.os = w.os ∧ w'.tape = w.tape ∧ w'.output = w.output := by
  obtain ⟨d, hd, hkk⟩ := (TTok.tok 32 _ rfl).kind
  cases d <;> try exact hkk.elim
  rename_i e'
  obtain rfl : 78 = e' := hkk
  obtain ⟨d3, hd3, hkk3⟩ := (TTok.tok 3 _ rfl).kind
  cases d3 <;> try exact hkk3.elim
  rename_i kk
  obtain rfl : IntKind.i64 = kk := hkk3
  obtain ⟨ti, z, hti, htsz, htby, htz, hzs, _, _⟩ := (TTok.tok 78 _ rfl).info
  have htsz : ti.size = 2 := htsz
  have htby : ti.bytes = 24 := htby
  have hzs : z.cells.size = 2 := hzs
  have hz1 : ¬ ((1 : Int) = 0) := by omega
  have hz2 : ¬ ((i : Int) = (n : Int)) := by omega
  have hz3 : (cap : Int) < (n : Int) + 1 := by omega
  have hw1 : IntKind.i64.wrap ((i : Int) + 1) = (i : Int) + 1 := by rw [IntKind.wrap_i64]; omega
  have hw2 : IntKind.i64.wrap ((n : Int) + 1) = (n : Int) + 1 := by rw [IntKind.wrap_i64]; omega
  have hw3 : IntKind.i64.wrap ((n : Int) + 1 - i) = (n : Int) + 1 - i := by rw [IntKind.wrap_i64]; omega
  have hb1 : (0 : Int) ≤ (i : Int) + 1 := by omega
  have htn : ((i : Int) + 1).toNat = i + 1 := by omega
  have hb3 : (i : Int) ≤ (n : Int) + 1 := by omega
  have hb5 : (i : Int) ≤ n := by omega
  have hb8 : (i : Int) + 1 ≤ (n : Int) + 1 := by omega
  have hci : ¬ (cap = i) := by omega
  have mixed : PP.follows .mixedOrders = true := by kernel_rfl
  have hsz : (PP.info? 78).map (·.size) = some 2 := (TTok.tok 78 _ rfl).size'
  have hcl : cur.toList.length = cap * 2 := by simpa using hcs
  have hgw : g < w.heap.size := (Array.getElem?_eq_some_iff.1 hg).1
  have hik : i + (n + 1 - i) = n + 1 := by omega
  have hkk : (n : Int) + 1 - (i : Int) = ((n + 1 - i : Nat) : Int) := by omega
  have hcellg : ∀ (W : World) (o : Nat), W.heap[g]? = w.heap[g]? → W.cell? ⟨g, o, none⟩ = cur.toList[o]? := fun W o h => by simp [World.cell?, h, hg]
  have hold : (Builtin.firstCells ti.size i (.slice (some ⟨g, 0, none⟩) i cap)).run PP w.drew = .ok (cur.toList.take (i * 2)).toArray w.drew := by
    rw [htsz]
    exact run_firstCells_some w.drew 2 i ⟨g, 0, none⟩ i cap (cur.toList.take (i * 2)) (by rw [List.length_take, hcl]; omega) (fun j v hj => by
      rw [Addr.add_lit, hcellg w.drew _ rfl, Nat.zero_add]
      rw [List.getElem?_take] at hj
      split at hj
      · exact hj
      · cases hj)
  obtain ⟨G, hG⟩ : ∃ G, G = grownCap w (n + 1) cap 78 := ⟨_, rfl⟩
  obtain ⟨ROW, hROW⟩ : ∃ ROW : Array Value, ROW = (cur.toList.take (i * 2)).toArray ++ Builtin.zeroCells z.cells (n + 1 - i) ++ Builtin.zeroCells z.cells (G - (n + 1)) := ⟨_, rfl⟩
  have hrz : ∀ ty, (Builtin.append_ #[32, 3] ty #[.slice (some ⟨g, 0, none⟩) i cap, .int .i64 ((n : Int) + 1 - (i : Int))]).run PP w = .ok (.slice (some ⟨w.heap.size, 0, none⟩) (n + 1) G) (w.drew.alloc (.cells ROW 78)) := fun ty => by
    have h := Lib.run_append_grow_zeros w 32 3 ty 78 ti z .i64 .i64 hd hd3 hti htz (some ⟨g, 0, none⟩) i cap (cur.toList.take (i * 2)) hold (n + 1 - i) (by omega) (by omega) (by omega) (by omega) (by rw [htby]; omega) (by rw [htby, hik]; exact growslice_fits hroom hfit)
    rw [hik, ← hG, ← hROW] at h
    rw [hkk]
    exact h
  have hGn : n + 1 ≤ G := by rw [hG]; exact grownCap_ge w _ _ _
  have hGm : G ≤ maxLen := by rw [hG]; exact grownCap_le_maxLen w (n + 1) cap 78 (by unfold maxLen; omega)
  have hROWl : ROW.size = G * 2 := by
    rw [hROW]
    simp only [Array.size_append, List.size_toArray, size_zeroCells, hzs, List.length_take, hcl]
    omega
  have hROWt : ROW.toList.take (i * 2) = cur.toList.take (i * 2) := by
    rw [hROW]
    simp only [Array.toList_append, List.append_assoc]
    rw [List.take_append_of_le_length (by rw [List.length_take, hcl]; omega), List.take_take, Nat.min_self]
  obtain ⟨W1, hW1⟩ : ∃ W1, W1 = w.drew.alloc (.cells ROW 78) := ⟨_, rfl⟩
  rw [← hW1] at hrz
  have hW1n : W1.heap[w.heap.size]? = some (.cells ROW 78 (0, 0)) := by rw [hW1]; exact heap_alloc_new w.drew _
  have hW1o : ∀ k, k < w.heap.size → W1.heap[k]? = w.heap[k]? := fun k hk => by rw [hW1]; exact Below.heap_alloc w.drew _ k hk
  obtain ⟨row1, hrow1⟩ : ∃ row1 : Array Value, row1 = (ROW.toList.take (i * 2) ++ news ++ ROW.toList.drop (i * 2 + news.length)).toArray := ⟨_, rfl⟩
  have hrow1l : row1.size = G * 2 := by rw [hrow1]; simp [hnl, hROWl]; omega
  obtain ⟨cs1, hcs1⟩ : ∃ cs1, cs1 = (cur.toList.take (n * 2)).drop (i * 2) := ⟨_, rfl⟩
  have hl1 : cs1.length = (n - i) * 2 := by rw [hcs1, List.length_drop, List.length_take, hcl]; omega
  obtain ⟨row2, hrow2⟩ : ∃ row2 : Array Value, row2 = (row1.toList.take ((i + 1) * 2) ++ cs1 ++ row1.toList.drop ((i + 1) * 2 + cs1.length)).toArray := ⟨_, rfl⟩
  have hcp1 : ∀ ty dc sc, (Builtin.copy_ #[32, 32] ty #[.slice (some ⟨w.heap.size, i * 2, none⟩) (n + 1 - i) dc, .slice (some ⟨vb, vo, none⟩) 1 sc]).run PP W1 = .ok (goInt ((1 : Nat) : Nat)) (W1.setRow w.heap.size row1) := fun ty dc sc => by
    rw [hrow1]
    exact run_copy_rowK W1 32 32 ty 78 w.heap.size (i * 2) (n + 1 - i) dc ⟨vb, vo, none⟩ 1 sc 1 2 ROW 78 news hd hsz hW1n (by simp only [Nat.min_def]; split <;> omega) (by omega)
      (fun j v hj => by
        have := hnews j v hj
        rw [Addr.add_lit] at this ⊢
        simp only [World.cell?] at this ⊢
        rw [hW1o vb hvw]
        exact this) (by rw [hnl, hROWl]; omega) h1
  have hW2n : (W1.setRow w.heap.size row1).heap[w.heap.size]? = some (.cells row1 78 (0, 0)) := setRow_heap W1 w.heap.size ROW row1 78 (0, 0) hW1n
  have hW2o : ∀ k, k < w.heap.size → (W1.setRow w.heap.size row1).heap[k]? = w.heap[k]? := fun k hk => by rw [setRow_other W1 _ k row1 (by omega)]; exact hW1o k hk
  have hcp2 : ∀ ty dc sc, (Builtin.copy_ #[32, 32] ty #[.slice (some ⟨w.heap.size, (i + 1) * 2, none⟩) (n - i) dc, .slice (some ⟨g, i * 2, none⟩) (n - i) sc]).run PP (W1.setRow w.heap.size row1).drew = .ok (goInt ((n - i : Nat) : Nat)) ((W1.setRow w.heap.size row1).drew.setRow w.heap.size row2) := fun ty dc sc => by
    rw [hrow2]
    exact run_copy_rowK _ 32 32 ty 78 w.heap.size ((i + 1) * 2) (n - i) dc ⟨g, i * 2, none⟩ (n - i) sc (n - i) 2 row1 78 cs1 hd hsz hW2n (by simp only [Nat.min_def]; split <;> omega) hl1
      (fun j v hj => by
        rw [Addr.add_lit, hcellg (W1.setRow w.heap.size row1).drew _ (hW2o g hgw)]
        rw [hcs1, List.getElem?_drop, List.getElem?_take] at hj
        split at hj
        · exact hj
        · cases hj) (by rw [hl1, hrow1l]; omega) (fun v hv => h1c v (by rw [hcs1] at hv; exact List.mem_of_mem_drop hv))
  have hfin : row2.size = G * 2 ∧ row2.toList.take ((n + 1) * 2) = cur.toList.take (i * 2) ++ news ++ (cur.toList.take (n * 2)).drop (i * 2) := by
    have hlt : (cur.toList.take (i * 2)).length = i * 2 := by rw [List.length_take, hcl]; omega
    have e1 : row1.toList.take ((i + 1) * 2) = cur.toList.take (i * 2) ++ news := by
      rw [hrow1, hROWt]
      have : (i + 1) * 2 = (cur.toList.take (i * 2) ++ news).length := by rw [List.length_append, hlt, hnl]; omega
      rw [this]
      exact List.take_left
    refine ⟨by rw [hrow2]; simp [hl1, hrow1l]; omega, ?_⟩
    rw [hrow2, e1, ← hcs1]
    have : (n + 1) * 2 = (cur.toList.take (i * 2) ++ news ++ cs1).length := by rw [List.length_append, List.length_append, hlt, hnl, hl1]; omega
    rw [this]
    exact List.take_left
  have hsz1 : W1.heap.size = w.heap.size + 1 := by rw [hW1]; simp
  have hos : W1.os = w.os ∧ W1.tape = w.tape ∧ W1.output = w.output := by rw [hW1]; exact ⟨rfl, rfl, rfl⟩
  clear hrow2 hrow1 hcs1 hl1 hrow1l hcl hROW hROWt hROWl hG hold hkk hik hW1
  have hGi : ¬ (G = i) := by omega
  have hGim : ¬ (G = i + 1) := by omega
  go_enter Tryz.func179, Tryz.ntmps179
  go_wp2_with (at_builtin; refine Lib.wpList_append_run _ rfl _ _ _ _ rfl _ _ rfl rfl _ _ (hrz _) ?_)
  go_wp2_with (simp only [hcp1])
  go_region_law_o (refine step_copy_run rfl _ _ 32 32 rfl (.slice (some ⟨w.heap.size, (i + 1) * 2, none⟩) (n - i) (G - (i + 1))) (.slice (some ⟨g, i * 2, none⟩) (n - i) (cap - i)) (by simp [Act.eval, Act.put]) (by simp [Act.eval, Act.put]) (hcp2 _ _ _) ?_)
  go_wp2
  go_ret
  refine ⟨G, rfl, hGn, hGm, row2, setRow_heap _ w.heap.size row1 row2 78 (0, 0) hW2n, hfin.1, hfin.2, ?_, fun k hk => ?_, hos.1, hos.2.1, hos.2.2⟩
  · simp [World.setRow, hsz1]
  · rw [setRow_other _ w.heap.size k row2 (by omega)]
    exact hW2o k hk

end Go.AW

/- slices.Insert: what a call comes to. -/
namespace Go.AW
open Go Go.Proofs Go.RowKit

theorem timers_insert_run (w : World) (ad : Option Nat) (n cap i vb vo vc : Nat) (vs news : List Value) (hown : w.ownsRow 0 78 2 (hdrV ad n cap) n vs) (hi : i ≤ n) (hfit : (n + 1) * 24 ≤ 140737488355328) (h1c : ∀ u ∈ vs, u.oneCell' = true)
    (hnl : news.length = 2) (h1 : ∀ u ∈ news, u.oneCell' = true) (hnews : ∀ (j : Nat) (u : Value), news[j]? = some u → w.cell? ((⟨vb, vo, none⟩ : Addr).add j) = some u) (hvg : ∀ g, ad = some g → vb ≠ g) :
    Calls PP 179 #[hdrV ad n cap, .int .i64 i, .slice (some ⟨vb, vo, none⟩) 1 vc] w fun e w' =>
      ∃ ad' cap', e = .returned (hdrV ad' (n + 1) cap') ∧ w'.ownsRow 0 78 2 (hdrV ad' (n + 1) cap') (n + 1) (vs.take (i * 2) ++ news ++ vs.drop (i * 2)) ∧ w.heap.size ≤ w'.heap.size ∧ (∀ k, k < w.heap.size → ad ≠ some k → w'.heap[k]? = w.heap[k]?) ∧
        w'.os = w.os ∧ w'.tape = w.tape ∧ w'.output = w.output ∧ ∀ k, ad' = some k → ad = some k ∨ (w.heap.size ≤ k ∧ k < w'.heap.size) := by
  have hvl : vs.length = n * 2 := hown.1
  -- the variadic argument's block
  obtain ⟨u0, hu0⟩ : ∃ u, news[0]? = some u := ⟨news[0]'(by omega), by simp⟩
  have hc0 := hnews 0 u0 hu0
  rw [Addr.add_lit, Nat.add_zero] at hc0
  have hblk : ∃ cv ev fv, w.heap[vb]? = some (.cells cv ev fv) ∧ cv.size ≠ 0 := by
    simp only [World.cell?] at hc0
    split at hc0
    · rename_i c e f hh
      refine ⟨c, e, f, hh, fun h0 => ?_⟩
      simp [h0] at hc0
    · cases hc0
  obtain ⟨cv, ev, fv, hv, hv0⟩ := hblk
  have hvw : vb < w.heap.size := (Array.getElem?_eq_some_iff.1 hv).1
  by_cases hin : i = n
  · subst hin
    have := timers_insert_end w ad i cap vb vo vc vs news hown hnl h1 hnews hfit
    refine this.mono fun e w' ⟨ad', cap', g1, g2, g3⟩ => ⟨ad', cap', g1, ?_, g3⟩
    have e1 : vs.take (i * 2) = vs := List.take_of_length_le (by omega)
    have e2 : vs.drop (i * 2) = [] := List.drop_of_length_le (by omega)
    rw [e1, e2, List.append_nil]
    exact g2
  · have hlt : i < n := by omega
    rcases hown.2 with ⟨_, h0⟩ | ⟨g, cap0, cur, hvv, hbg, hg, hnc, hcm, hcs, htake⟩
    · omega
    · cases ad with
      | none => simp [hdrV] at hvv
      | some g' =>
        simp only [hdrV, Option.map_some, Value.slice.injEq, Option.some.injEq, Addr.mk.injEq] at hvv
        obtain ⟨⟨rfl, _⟩, _, rfl⟩ := hvv
        have hc63 : cap ≤ 9223372036854775807 := by unfold maxLen at hcm; omega
        have hgw : g' < w.heap.size := (Array.getElem?_eq_some_iff.1 hg).1
        have hlen : (vs.take (i * 2) ++ news ++ vs.drop (i * 2)).length = (n + 1) * 2 := by simp [hvl, hnl]; omega
        have hcl : cur.toList.length = cap * 2 := by simpa using hcs
        by_cases hroom : n + 1 ≤ cap
        · refine (timers_insert_room w g' n cap i vb vo vc cur news hg hcs hc63 hlt hroom (by rw [htake]; exact h1c) hnl h1 hnews (hvg g' rfl) cv ev fv hv hv0).mono fun e w' ⟨g1, cur', g2, g3, g4, g5, g6, g7, g8⟩ => ?_
          rw [htake] at g3
          have e1 : cur.toList.take (i * 2) = vs.take (i * 2) := by rw [← htake, List.take_take, Nat.min_eq_left (by omega)]
          rw [e1] at g3
          have hl' : cur'.size = cap * 2 := by
            have := congrArg List.length g3
            simp only [Array.length_toList, List.length_append, List.length_take, List.length_drop, hcl, hvl, hnl] at this
            omega
          refine ⟨some g', cap, g1, ⟨hlen, .inr ⟨g', cap, cur', rfl, hbg, g2, hroom, hcm, hl', ?_⟩⟩, by omega, fun k _ hk => g5 k (fun e => hk (by rw [e])), g6, g7, g8, fun k hk => .inl hk⟩
          rw [g3, ← hlen]
          exact List.take_left
        · refine (timers_insert_grow w g' n cap i vb vo vc cur news hg hcs hc63 hlt hnc (by omega) hfit (by rw [htake]; exact h1c) hnl h1 hnews hvw).mono fun e w' ⟨G, g1, gn, gm, cur', g2, gs, g3, g4, g5, g6, g7, g8⟩ => ?_
          rw [htake] at g3
          have e1 : cur.toList.take (i * 2) = vs.take (i * 2) := by rw [← htake, List.take_take, Nat.min_eq_left (by omega)]
          rw [e1] at g3
          exact ⟨some w.heap.size, G, g1, ⟨hlen, .inr ⟨w.heap.size, G, cur', rfl, Nat.zero_le _, g2, gn, gm, gs, g3⟩⟩, by omega, fun k hk _ => g5 k hk, g6, g7, g8, fun k hk => .inr (by cases hk; omega)⟩

theorem timers_Insert (l : List Tim) (i : Nat) (t : Tim) (hi : i ≤ l.length) (hfit : (l.length + 1) * 24 ≤ 140737488355328) :
    HCall PP 179 [.buf 0, I64 i, FT [t]] [BT l] (.buf 1) [.dead, BT (l.take i ++ t :: l.drop i)] := by
  constructor
  intro w I μ0 cargs hm hr
  obtain ⟨hsz, hreps⟩ := hr
  have r0 := hreps 0 _ rfl
  have r1 := rep_sc (hreps 1 _ rfl)
  have r2 := hreps 2 _ rfl
  have hc : cargs = #[cargs.getD 0 undef, cargs.getD 1 undef, cargs.getD 2 undef] := by
    apply Array.ext
    · simpa using hsz
    · intro j h1 h2
      have h3 : cargs.size = 3 := hsz
      match j, h1 with
      | 0, _ => simp [Array.getD, h3]
      | 1, _ => simp [Array.getD, h3]
      | 2, _ => simp [Array.getD, h3]
      | j + 3, h => omega
  rw [hc, r1]
  have hml : (l.map Tim.enc).length = l.length := List.length_map _
  have hrows : ∀ r ∈ l.map Tim.enc, r.length = 2 := by intro r hr; obtain ⟨x, _, rfl⟩ := List.mem_map.1 hr; rfl
  generalize cargs.getD 0 undef = c0 at r0
  generalize cargs.getD 2 undef = c2 at r2
  cases r0 with
  | bdead b v hl h1 => exact (hm.blk 0 _ _ rfl hl).elim
  | buf b m cp ad hl =>
    obtain ⟨g1, g0, g2, vs, g3, g4⟩ := hm.blk 0 _ _ rfl hl
    rw [hml] at g1
    subst g1
    cases r2 with
    | fr f v hf =>
      cases hf with
      | sl n b es k o c cv hk hcl hb1 hn hcc hrr =>
        have hvl : vs.length = l.length * 2 := g3.1
        have hfl : (l.map Tim.enc).flatten.length = l.length * 2 := by rw [flat_length _ hrows, hml]
        have h1c : ∀ u ∈ vs, u.oneCell' = true := by
          intro u hu
          obtain ⟨j, hj⟩ := List.getElem?_of_mem hu
          have hlt := (List.getElem?_eq_some_iff.1 hj).1
          have := g4 j ((l.map Tim.enc).flatten[j]'(by rw [hfl, ← hvl]; exact hlt)) (by simp)
          have := this.one
          simpa [List.getD, hj] using this
        have hel : t.enc.length = 2 := rfl
        have hgn : ∀ (j : Nat) (u : Value), ((List.range 2).map (cv 0))[j]? = some u → ∃ f, t.enc[j]? = some f ∧ u = cv 0 j := by
          intro j u hj
          rw [List.getElem?_map] at hj
          have hlt : j < 2 := by
            cases hq : (List.range 2)[j]? with
            | none => rw [hq] at hj; cases hj
            | some x => have := (List.getElem?_eq_some_iff.1 hq).1; simpa using this
          rw [List.getElem?_range hlt] at hj
          cases hj
          exact ⟨t.enc[j]'(by rw [hel]; exact hlt), by simp, rfl⟩
        have hnews : ∀ (j : Nat) (u : Value), ((List.range 2).map (cv 0))[j]? = some u → w.cell? ((⟨k, o, none⟩ : Addr).add j) = some u := by
          intro j u hj
          obtain ⟨f, hf, rfl⟩ := hgn j u hj
          rw [Addr.add_lit]
          have := hcc 0 t.enc j f rfl hf
          simpa using this
        have h1n : ∀ u ∈ (List.range 2).map (cv 0), u.oneCell' = true := by
          intro u hu
          obtain ⟨j, hj⟩ := List.getElem?_of_mem hu
          obtain ⟨f, hf, rfl⟩ := hgn j u hj
          exact (hrr 0 t.enc j f rfl hf).one
        have hvg : ∀ g, ad = some g → k ≠ g := fun g hg e => hk.2.2 ⟨0, _, hl, by rw [e]; exact hg⟩
        have hcalls := timers_insert_run w ad l.length cp i k o c vs ((List.range 2).map (cv 0)) g3 hi hfit h1c (by simp) h1n hnews hvg
        refine .inl ⟨?_, hcalls.mono ?_⟩
        · have hfn := Tryz.func179
          unfold callFunc
          simp only [Sem.run_bind, run_program, Result.andThen_ok, hfn, Sem.run_pure]
          rfl
        · rintro e w' ⟨ad', cap', rfl, g5, g6, g7, g8, g9, g10, g11⟩
          refine ⟨_, rfl, ?_⟩
          have hnl : (l.take i ++ t :: l.drop i).length = l.length + 1 := by simp; omega
          obtain ⟨μ', hm', hp', hl'⟩ := hm.growB (w' := w') (l := .hdr ad' (l.length + 1) cap') (nb := BT (l.take i ++ t :: l.drop i)) hl g6 g7 g8 g9 g10 g11 (fun μ' hp => by
            refine ⟨by rw [List.length_map, hnl], by rw [List.length_map, hnl]; exact hfit, by intro r hr; obtain ⟨x, _, rfl⟩ := List.mem_map.1 hr; rfl, _, g5, ?_⟩
            have e : ((l.take i ++ t :: l.drop i).map Tim.enc).flatten = (l.map Tim.enc).flatten.take (i * 2) ++ t.enc ++ (l.map Tim.enc).flatten.drop (i * 2) := by
              rw [List.map_append, List.map_cons, List.flatten_append, List.flatten_cons, List.map_take, List.map_drop, flatten_take _ _ hrows, flatten_drop _ _ hrows, List.append_assoc]
            rw [e]
            exact rep_insert (fun j f hj => hp.repF (g4 j f hj)) (fun j f hj => by
              have hlt : j < 2 := by have := (List.getElem?_eq_some_iff.1 hj).1; rw [hel] at this; exact this
              have e2 : ((List.range 2).map (cv 0)).getD j undef = cv 0 j := by simp [List.getD, hlt]
              rw [e2]
              exact hp.repF (hrr 0 t.enc j f rfl hj)) (by rw [hvl, hfl]) (by simp [hel]) (by rw [hfl]; omega))
          exact ⟨μ', hm', .buf _ _ _ _ hl'⟩

end Go.AW

/- slices.Delete of one element, by its text. -/
namespace Go.AW
open Go Go.Proofs Go.RowKit Go.Lib

set_option maxHeartbeats 4000000 in
set_option maxRecDepth 100000 in
theorem timers_delete (w : World) (g n cap i : Nat) (cur : Array Value) (hg : w.heap[g]? = some (.cells cur 78 (0, 0))) (hcs : cur.size = cap * 2) (hc63 : cap ≤ 9223372036854775807) (hi : i < n) (hnc : n ≤ cap)
    (h1c : ∀ u ∈ cur.toList.take (n * 2), u.oneCell' = true) :
    Calls PP 180 #[.slice (some ⟨g, 0, none⟩) n cap, .int .i64 i, .int .i64 ((i : Int) + 1)] w fun e w' =>
      e = .returned (.slice (some ⟨g, 0, none⟩) (n - 1) cap) ∧ ∃ cur' : Array Value, w'.heap[g]? = some (.cells cur' 78 (0, 0)) ∧ cur'.size = cap * 2 ∧ cur'.toList.take ((n - 1) * 2) = cur.toList.take (i * 2) ++ (cur.toList.take (n * 2)).drop ((i + 1) * 2) ∧
        w'.heap.size = w.heap.size ∧ (∀ k, k ≠ g → w'.heap[k]? = w.heap[k]?) ∧ w'.os = w.os ∧ w'.tape = w.tape ∧ w'.output = w.output := by
  obtain ⟨d, hd, hkk⟩ := (TTok.tok 32 _ rfl).kind
  cases d <;> try exact hkk.elim
  rename_i e'
  obtain rfl : 78 = e' := hkk
  obtain ⟨ti, z, hti, htsz, htby, htz, hzs, hzl, hzc⟩ := (TTok.tok 78 _ rfl).info
  have htsz : ti.size = 2 := htsz
  have hzs : z.cells.size = 2 := hzs
  have hzv : ∀ W, (zeroValue 78).run PP W = .ok z W := fun W => by simp [zeroValue, typeInfo, hti, htz]
  have hz1c : ∀ u ∈ z.cells.toList, u.oneCell' = true := by
    obtain ⟨z', h1, h2, h3⟩ := zero_pw (Γ := ⟨PP, w, fun _ => False, []⟩) (w := w) (μ := []) (TTok.tok 78 _ rfl)
    rw [hzv w] at h1
    cases h1
    intro u hu
    obtain ⟨j, hj⟩ := List.getElem?_of_mem hu
    have hlt := (List.getElem?_eq_some_iff.1 hj).1
    obtain ⟨v', e1, e2⟩ := h2.2 j _ (List.getElem?_eq_getElem (by have := h2.1; omega))
    rw [hj] at e1; cases e1; exact e2.2
  have hz1 : ¬ ((i : Int) = (i : Int) + 1) := by omega
  have hb1 : (0 : Int) ≤ (i : Int) + 1 := by omega
  have htn : ((i : Int) + 1).toNat = i + 1 := by omega
  have hb2 : (i : Int) + 1 ≤ n := by omega
  have hb3 : (i : Int) ≤ (i : Int) + 1 := by omega
  have hb4 : (i : Int) ≤ cap := by omega
  have hb5 : (n : Int) ≤ cap := by omega
  have hb6 : ¬ (n = i) := by omega
  have hb7 : i + (n - (i + 1)) = n - 1 := by omega
  have hb8 : ¬ (cap = n - 1) := by omega
  have hb9 : n - (n - 1) = 1 := by omega
  have hb10 : n - 1 ≤ n := by omega
  have hb11 : ((n - 1 : Nat) : Int) ≤ n := by omega
  have mixed : PP.follows .mixedOrders = true := by kernel_rfl
  have hsz : (PP.info? 78).map (·.size) = some 2 := (TTok.tok 78 _ rfl).size'
  have hcl : cur.toList.length = cap * 2 := by simpa using hcs
  obtain ⟨cs1, hcs1⟩ : ∃ cs1, cs1 = (cur.toList.take (n * 2)).drop ((i + 1) * 2) := ⟨_, rfl⟩
  have hl1 : cs1.length = (n - (i + 1)) * 2 := by rw [hcs1, List.length_drop, List.length_take, hcl]; omega
  obtain ⟨cur1, hcur1⟩ : ∃ cur1 : Array Value, cur1 = (cur.toList.take (i * 2) ++ cs1 ++ cur.toList.drop (i * 2 + cs1.length)).toArray := ⟨_, rfl⟩
  have hcur1l : cur1.size = cap * 2 := by rw [hcur1]; simp [hl1, hcs]; omega
  obtain ⟨cur2, hcur2⟩ : ∃ cur2 : Array Value, cur2 = (cur1.toList.take ((n - 1) * 2) ++ z.cells.toList ++ cur1.toList.drop ((n - 1) * 2 + z.cells.toList.length)).toArray := ⟨_, rfl⟩
  have happ : ∀ (ad : Addr), (cap ≠ i + 1 → ad = ⟨g, (i + 1) * 2, none⟩) → ∀ ty sc, (Builtin.append_ #[32, 32] ty #[.slice (some ⟨g, 0, none⟩) i cap, .slice (some ad) (n - (i + 1)) sc]).run PP w.drew = .ok (.slice (some ⟨g, 0, none⟩) (n - 1) cap) (w.drew.setRow g cur1) := fun ad had ty sc => by
    have h := run_append_room (P := PP) w.drew 32 ty 78 ti hd hti g i cap cur hg ad (n - (i + 1)) sc cs1 (by rw [htsz]; exact hl1) (fun j v hj => by
      have hne : cap ≠ i + 1 := fun h => by
        have := (List.getElem?_eq_some_iff.1 hj).1
        rw [hl1] at this; omega
      rw [had hne, Addr.add_lit]
      simp only [World.cell?, show w.drew.heap[g]? = _ from hg, Option.isSome_none, Bool.false_eq_true, if_false]
      rw [hcs1, List.getElem?_drop, List.getElem?_take] at hj
      split at hj
      · simpa using hj
      · cases hj) (fun v hv => h1c v (by rw [hcs1] at hv; exact List.mem_of_mem_drop hv)) (by omega) (by rw [htsz, hl1, hcs]; omega)
    rw [htsz, hb7, ← hcur1] at h
    exact h
  have hset1 : (w.drew.setRow g cur1).heap[g]? = some (.cells cur1 78 (0, 0)) := setRow_heap w g cur cur1 78 (0, 0) hg
  have hclr : ∀ ty sc, (Builtin.clear_ #[32] ty #[.slice (some ⟨g, (n - 1) * 2, none⟩) 1 sc]).run PP (w.drew.setRow g cur1) = .ok (.tuple #[]) ((w.drew.setRow g cur1).setRow g cur2) := fun ty sc => by
    have hzz : (Builtin.zeroCells z.cells 1).toList = z.cells.toList := by
      apply List.ext_getElem?
      intro j
      by_cases hj : j < 2
      · have e1 : j % z.cells.size = j := Nat.mod_eq_of_lt (by omega)
        simp [Builtin.zeroCells, hzs, hj, e1, Nat.mod_eq_of_lt hj]
      · rw [List.getElem?_eq_none (by simp [Builtin.zeroCells, hzs]; omega), List.getElem?_eq_none (by simp [hzs]; omega)]
    have hst := run_storeCells_at PP g ((n - 1) * 2) 78 z.cells.toList 0 cur1 (w.drew.setRow g cur1) hset1 (by simp [hzs, hcur1l]; omega) hz1c
    simp only [Nat.add_zero] at hst
    rw [← hcur2] at hst
    simp [Builtin.clear_, run_underlying hd, hzv, hzz, hst]
  have hfin : cur2.size = cap * 2 ∧ cur2.toList.take ((n - 1) * 2) = cur.toList.take (i * 2) ++ (cur.toList.take (n * 2)).drop ((i + 1) * 2) := by
    have hlt : (cur.toList.take (i * 2)).length = i * 2 := by rw [List.length_take, hcl]; omega
    have hlen : (cur.toList.take (i * 2) ++ cs1).length = (n - 1) * 2 := by rw [List.length_append, hlt, hl1]; omega
    have e1 : cur1.toList.take ((n - 1) * 2) = cur.toList.take (i * 2) ++ cs1 := by
      rw [hcur1, ← hlen]
      exact List.take_left
    refine ⟨by rw [hcur2]; simp [hzs, hcur1l]; omega, ?_⟩
    rw [hcur2, e1, ← hcs1, ← hlen]
    simp only [List.append_assoc]
    rw [← List.append_assoc]
    exact List.take_left
  clear hcur2 hcur1 hcs1 hl1 hcur1l hcl
  by_cases hcap : cap = i + 1
  · subst hcap
    go_enter Tryz.func180, Tryz.ntmps180
    go_wp2
    go_region_law_o (refine step_append_run rfl _ _ 32 32 rfl (.slice (some ⟨g, 0, none⟩) i (i + 1)) (.slice (some ⟨g, 0, none⟩) (n - (i + 1)) 0) (by simp [Act.eval, Act.put]) (by simp [Act.eval, Act.put]; omega) (happ ⟨g, 0, none⟩ (fun h => absurd rfl h) _ _) ?_)
    go_wp2_with (simp only [hclr])
    go_ret
    refine ⟨rfl, cur2, setRow_heap _ g cur1 cur2 78 (0, 0) hset1, hfin.1, hfin.2, by simp [World.setRow], fun k hk => ?_, rfl, rfl, rfl⟩
    rw [setRow_other _ g k cur2 hk, setRow_other _ g k cur1 hk]; rfl
  · go_enter Tryz.func180, Tryz.ntmps180
    go_wp2
    go_region_law_o (refine step_append_run rfl _ _ 32 32 rfl (.slice (some ⟨g, 0, none⟩) i cap) (.slice (some ⟨g, (i + 1) * 2, none⟩) (n - (i + 1)) (cap - (i + 1))) (by simp [Act.eval, Act.put]) (by simp [Act.eval, Act.put]) (happ ⟨g, (i + 1) * 2, none⟩ (fun _ => rfl) _ _) ?_)
    go_wp2_with (simp only [hclr])
    go_ret
    refine ⟨rfl, cur2, setRow_heap _ g cur1 cur2 78 (0, 0) hset1, hfin.1, hfin.2, by simp [World.setRow], fun k hk => ?_, rfl, rfl, rfl⟩
    rw [setRow_other _ g k cur2 hk, setRow_other _ g k cur1 hk]; rfl

end Go.AW

/- slices.Delete: what a call comes to. -/
namespace Go.AW
open Go Go.Proofs Go.RowKit

/-- A list, with a piece of it left out. -/
theorem timers_rep_delete {Γ : Ctx} {w : World} {μ : List Plc} {fs : List F} {vs : List Value} {k m : Nat} (h1 : ∀ (i : Nat) (f : F), fs[i]? = some f → RepFr Γ w μ f (vs.getD i undef)) (hl : vs.length = fs.length) (hk : k ≤ fs.length) :
    ∀ (i : Nat) (f : F), (fs.take k ++ fs.drop m)[i]? = some f → RepFr Γ w μ f ((vs.take k ++ vs.drop m).getD i undef) := by
  intro i f hf
  have hfk : (fs.take k).length = k := by rw [List.length_take]; omega
  have hvk : (vs.take k).length = k := by rw [List.length_take]; omega
  simp only [List.getD_eq_getElem?_getD] at *
  by_cases ha : i < k
  · rw [List.getElem?_append_left (by omega), List.getElem?_take, if_pos ha] at hf
    rw [List.getElem?_append_left (by omega), List.getElem?_take, if_pos ha]
    exact h1 i f hf
  · rw [List.getElem?_append_right (by omega), hfk, List.getElem?_drop] at hf
    rw [List.getElem?_append_right (by omega), hvk, List.getElem?_drop]
    exact h1 _ f hf

theorem timers_Delete (l : List Tim) (i : Nat) (hi : i < l.length) : HCall PP 180 [.buf 0, I64 i, I64 ((i : Int) + 1)] [BT l] (.buf 1) [.dead, BT (l.take i ++ l.drop (i + 1))] := by
  constructor
  intro w I μ0 cargs hm hr
  obtain ⟨hsz, hreps⟩ := hr
  have r0 := hreps 0 _ rfl
  have r1 := rep_sc (hreps 1 _ rfl)
  have r2 := rep_sc (hreps 2 _ rfl)
  have hc : cargs = #[cargs.getD 0 undef, cargs.getD 1 undef, cargs.getD 2 undef] := by
    apply Array.ext
    · simpa using hsz
    · intro j h1 h2
      have h3 : cargs.size = 3 := hsz
      match j, h1 with
      | 0, _ => simp [Array.getD, h3]
      | 1, _ => simp [Array.getD, h3]
      | 2, _ => simp [Array.getD, h3]
      | j + 3, h => omega
  rw [hc, r1, r2]
  have hml : (l.map Tim.enc).length = l.length := List.length_map _
  have hrows : ∀ r ∈ l.map Tim.enc, r.length = 2 := by intro r hr; obtain ⟨x, _, rfl⟩ := List.mem_map.1 hr; rfl
  generalize cargs.getD 0 undef = c0 at r0
  cases r0 with
  | bdead b v hl h1 => exact (hm.blk 0 _ _ rfl hl).elim
  | buf b m cp ad hl =>
    obtain ⟨g1, g0, g2, vs, g3, g4⟩ := hm.blk 0 _ _ rfl hl
    rw [hml] at g1
    subst g1
    have hvl : vs.length = l.length * 2 := g3.1
    have hfl : (l.map Tim.enc).flatten.length = l.length * 2 := by rw [flat_length _ hrows, hml]
    have h1c : ∀ u ∈ vs, u.oneCell' = true := by
      intro u hu
      obtain ⟨j, hj⟩ := List.getElem?_of_mem hu
      have hlt := (List.getElem?_eq_some_iff.1 hj).1
      have := g4 j ((l.map Tim.enc).flatten[j]'(by rw [hfl, ← hvl]; exact hlt)) (by simp)
      have := this.one
      simpa [List.getD, hj] using this
    rcases g3.2 with ⟨_, h0⟩ | ⟨g, cap0, cur, hvv, hbg, hg, hnc, hcm, hcs, htake⟩
    · omega
    · cases ad with
      | none => simp [hdrV] at hvv
      | some g' =>
        simp only [hdrV, Option.map_some, Value.slice.injEq, Option.some.injEq, Addr.mk.injEq] at hvv
        obtain ⟨⟨rfl, _⟩, _, rfl⟩ := hvv
        have hc63 : cp ≤ 9223372036854775807 := by unfold maxLen at hcm; omega
        have hcalls := timers_delete w g' l.length cp i cur hg hcs hc63 hi hnc (by rw [htake]; exact h1c)
        refine .inl ⟨?_, hcalls.mono ?_⟩
        · have hfn := Tryz.func180
          unfold callFunc
          simp only [Sem.run_bind, run_program, Result.andThen_ok, hfn, Sem.run_pure]
          rfl
        · rintro e w' ⟨rfl, cur', k1, k2, k3, k4, k5, k6, k7, k8⟩
          refine ⟨_, rfl, ?_⟩
          have hnl : (l.take i ++ l.drop (i + 1)).length = l.length - 1 := by simp; omega
          have hlen : (vs.take (i * 2) ++ vs.drop ((i + 1) * 2)).length = (l.length - 1) * 2 := by simp [hvl]; omega
          have e1 : cur.toList.take (i * 2) = vs.take (i * 2) := by rw [← htake, List.take_take, Nat.min_eq_left (by omega)]
          rw [htake, e1] at k3
          obtain ⟨μ', hm', hp', hl'⟩ := hm.growB (w' := w') (l := .hdr (some g') (l.length - 1) cp) (nb := BT (l.take i ++ l.drop (i + 1))) hl (by omega) (fun k _ hk => k5 k (fun e => hk (by rw [e]))) k6 k7 k8 (fun k hk => .inl hk) (fun μ' hp => by
            refine ⟨by rw [List.length_map, hnl], by rw [List.length_map, hnl]; simp only [hml] at g0; omega, by intro r hr; obtain ⟨x, _, rfl⟩ := List.mem_map.1 hr; rfl, _, ⟨hlen, .inr ⟨g', cp, cur', rfl, hbg, k1, by omega, hcm, k2, k3⟩⟩, ?_⟩
            have e : ((l.take i ++ l.drop (i + 1)).map Tim.enc).flatten = (l.map Tim.enc).flatten.take (i * 2) ++ (l.map Tim.enc).flatten.drop ((i + 1) * 2) := by
              rw [List.map_append, List.flatten_append, List.map_take, List.map_drop, flatten_take _ _ hrows, flatten_drop _ _ hrows]
            rw [e]
            exact timers_rep_delete (fun j f hj => hp.repF (g4 j f hj)) (by rw [hvl, hfl]) (by rw [hfl]; omega))
          exact ⟨μ', hm', .buf _ _ _ _ hl'⟩

end Go.AW

/- slices.Insert, by its text. -/
namespace Go.AW
open Go Go.Proofs Go.RowKit Go.Lib

set_option maxHeartbeats 4000000 in
set_option maxRecDepth 100000 in
theorem upds_insert_end (w : World) (ad : Option Nat) (n cap vb vo vc : Nat) (vs news : List Value) (hown : w.ownsRow 0 80 12 (hdrV ad n cap) n vs) (hnl : news.length = 12) (h1 : ∀ u ∈ news, u.oneCell' = true)
    (hnews : ∀ (j : Nat) (u : Value), news[j]? = some u → w.cell? ((⟨vb, vo, none⟩ : Addr).add j) = some u) (hfit : (n + 1) * 152 ≤ 140737488355328) :
    Calls PP 182 #[hdrV ad n cap, .int .i64 n, .slice (some ⟨vb, vo, none⟩) 1 vc] w fun e w' =>
      ∃ ad' cap', e = .returned (hdrV ad' (n + 1) cap') ∧ w'.ownsRow 0 80 12 (hdrV ad' (n + 1) cap') (n + 1) (vs ++ news) ∧ w.heap.size ≤ w'.heap.size ∧ (∀ k, k < w.heap.size → ad ≠ some k → w'.heap[k]? = w.heap[k]?) ∧
        w'.os = w.os ∧ w'.tape = w.tape ∧ w'.output = w.output ∧ ∀ k, ad' = some k → ad = some k ∨ (w.heap.size ≤ k ∧ k < w'.heap.size) := by
  obtain ⟨d, hd, hkk⟩ := (TTok.tok 33 _ rfl).kind
  cases d <;> try exact hkk.elim
  rename_i e'
  obtain rfl : 80 = e' := hkk
  have happ := fun ty => app_run (P := PP) (t := 33) (ty := ty) hd (TTok.tok 80 _ rfl) (Nat.zero_le _) hown (q := 1) (news := news) (by simpa using hnl) h1 (.inl ⟨⟨vb, vo, none⟩, vc, rfl, hnews⟩) (by decide) hfit
  rcases hown.2 with ⟨hnil, rfl⟩ | ⟨g, cap0, cur, hvv, hbg, hg, hnc, hcm, hcs, htake⟩
  · cases ad with
    | some g => simp [hdrV] at hnil
    | none =>
      simp only [hdrV, Option.map_none, Value.slice.injEq, true_and] at hnil
      subst hnil
      simp only [hdrV, Option.map_none] at happ ⊢
      obtain ⟨ad', cap', w', g1, g2, g3, g4, g5, g6, g7, g8⟩ := happ 33
      go_enter Tryz.func182, Tryz.ntmps182
      go_wp2_with (at_builtin; refine Lib.wpList_append_run _ rfl _ _ _ _ rfl _ _ rfl rfl _ _ g1 ?_)
      go_ret
      exact ⟨ad', cap', rfl, g2, g3, g4, g5, g6, g7, g8⟩
  cases ad with
  | none => simp [hdrV] at hvv
  | some g' =>
    simp only [hdrV, Option.map_some, Value.slice.injEq, Option.some.injEq, Addr.mk.injEq] at hvv
    obtain ⟨⟨rfl, _⟩, _, rfl⟩ := hvv
    simp only [hdrV, Option.map_some] at happ ⊢
    have hc63 : cap ≤ 9223372036854775807 := by unfold maxLen at hcm; omega
    have hn0 : (0 : Int) ≤ (n : Int) := by omega
    obtain ⟨ad', cap', w', g1, g2, g3, g4, g5, g6, g7, g8⟩ := happ 33
    go_enter Tryz.func182, Tryz.ntmps182
    go_wp2_with (at_builtin; refine Lib.wpList_append_run _ rfl _ _ _ _ rfl _ _ rfl rfl _ _ g1 ?_)
    all_goals go_wp2_with (at_builtin; refine Lib.wpList_append_run _ rfl _ _ _ _ rfl _ _ rfl rfl _ _ g1 ?_)
    all_goals go_ret
    all_goals exact ⟨ad', cap', rfl, g2, g3, by simpa using g4, g5, g6, g7, by simpa using g8⟩

set_option maxHeartbeats 4000000 in
set_option maxRecDepth 100000 in
theorem upds_insert_room (w : World) (g n cap i vb vo vc : Nat) (cur : Array Value) (news : List Value) (hg : w.heap[g]? = some (.cells cur 80 (0, 0))) (hcs : cur.size = cap * 12) (hc63 : cap ≤ 9223372036854775807) (hi : i < n) (hroom : n + 1 ≤ cap)
    (h1c : ∀ u ∈ cur.toList.take (n * 12), u.oneCell' = true) (hnl : news.length = 12) (h1 : ∀ u ∈ news, u.oneCell' = true) (hnews : ∀ (j : Nat) (u : Value), news[j]? = some u → w.cell? ((⟨vb, vo, none⟩ : Addr).add j) = some u)
    (hvg : vb ≠ g) (cv : Array Value) (ev : TypeId) (fv : Nat × Nat) (hv : w.heap[vb]? = some (.cells cv ev fv)) (hv0 : cv.size ≠ 0) :
    Calls PP 182 #[.slice (some ⟨g, 0, none⟩) n cap, .int .i64 i, .slice (some ⟨vb, vo, none⟩) 1 vc] w fun e w' =>
      e = .returned (.slice (some ⟨g, 0, none⟩) (n + 1) cap) ∧ ∃ cur' : Array Value, w'.heap[g]? = some (.cells cur' 80 (0, 0)) ∧ cur'.toList = cur.toList.take (i * 12) ++ news ++ (cur.toList.take (n * 12)).drop (i * 12) ++ cur.toList.drop ((n + 1) * 12) ∧
        w'.heap.size = w.heap.size ∧ (∀ k, k ≠ g → w'.heap[k]? = w.heap[k]?) ∧ w'.os = w.os ∧ w'.tape = w.tape ∧ w'.output = w.output := by
  obtain ⟨d, hd, hkk⟩ := (TTok.tok 33 _ rfl).kind
  cases d <;> try exact hkk.elim
  rename_i e'
  obtain rfl : 80 = e' := hkk
  have hz1 : ¬ ((1 : Int) = 0) := by omega
  have hz2 : ¬ ((i : Int) = (n : Int)) := by omega
  have hz3 : ¬ ((cap : Int) < (n : Int) + 1) := by omega
  have hw1 : IntKind.i64.wrap ((i : Int) + 1) = (i : Int) + 1 := by rw [IntKind.wrap_i64]; omega
  have hw2 : IntKind.i64.wrap ((n : Int) + 1) = (n : Int) + 1 := by rw [IntKind.wrap_i64]; omega
  have hb1 : (0 : Int) ≤ (i : Int) + 1 := by omega
  have htn : ((i : Int) + 1).toNat = i + 1 := by omega
  have htn2 : ((n : Int) + 1).toNat = n + 1 := by omega
  have hb2 : ¬ (cap = i + 1) := by omega
  have hb3 : (i : Int) ≤ (n : Int) + 1 := by omega
  have hb4 : ¬ (cap = i) := by omega
  have hb5 : (i : Int) ≤ n := by omega
  have hb6 : (n : Int) + 1 ≤ cap := by omega
  have hb7 : (0 : Int) ≤ (n : Int) + 1 := by omega
  have mixed : PP.follows .mixedOrders = true := by kernel_rfl
  have hov : ∀ o lb cb, (callFunc 194 #[.slice (some ⟨vb, vo, none⟩) 1 vc, .slice (some ⟨g, o, none⟩) lb cb]).run PP w = .ok (.value (.bool false)) w := fun o lb cb => by
    rw [run_callFunc_extern Tryz.func194 (by kernel_rfl) (by kernel_rfl) (by kernel_rfl) (e := Extern.SlicesOverlaps.overlaps #[33, 33] #[4]) (by kernel_rfl),
      run_overlaps_two w 33 4 80 hd 12 ((TTok.tok 80 _ rfl).size) ⟨vb, vo, none⟩ ⟨g, o, none⟩ 1 vc lb cb hvg cv cur ev 80 fv hv hg hv0]
    rfl
  have hcell : ∀ (W : World) (a : Addr), W.heap = w.heap → W.cell? a = w.cell? a := fun W a h => by simp [World.cell?, h]
  have hsz : (PP.info? 80).map (·.size) = some 12 := (TTok.tok 80 _ rfl).size'
  have hcl : cur.toList.length = cap * 12 := by simpa using hcs
  obtain ⟨cs1, hcs1⟩ : ∃ cs1, cs1 = (cur.toList.take (n * 12)).drop (i * 12) := ⟨_, rfl⟩
  have hl1 : cs1.length = (n - i) * 12 := by rw [hcs1, List.length_drop, List.length_take, hcl]; omega
  obtain ⟨cur1, hcur1⟩ : ∃ cur1 : Array Value, cur1 = (cur.toList.take ((i + 1) * 12) ++ cs1 ++ cur.toList.drop ((i + 1) * 12 + cs1.length)).toArray := ⟨_, rfl⟩
  have hcur1l : cur1.size = cap * 12 := by rw [hcur1]; simp [hl1, hcs]; omega
  obtain ⟨cur2, hcur2⟩ : ∃ cur2 : Array Value, cur2 = (cur1.toList.take (i * 12) ++ news ++ cur1.toList.drop (i * 12 + news.length)).toArray := ⟨_, rfl⟩
  have hcp1 : ∀ (W : World), W.heap = w.heap → ∀ ty dc sc, (Builtin.copy_ #[33, 33] ty #[.slice (some ⟨g, (i + 1) * 12, none⟩) (n - i) dc, .slice (some ⟨g, i * 12, none⟩) (n + 1 - i) sc]).run PP W = .ok (goInt ((n - i : Nat) : Nat)) (W.setRow g cur1) := fun W hW ty dc sc => by
    rw [hcur1]
    exact run_copy_rowK W 33 33 ty 80 g ((i + 1) * 12) (n - i) dc ⟨g, i * 12, none⟩ (n + 1 - i) sc (n - i) 12 cur 80 cs1 hd hsz (by rw [hW]; exact hg) (by simp only [Nat.min_def]; split <;> omega) hl1
      (fun j v hj => by
        rw [hcell W _ hW, Addr.add_lit]
        simp only [World.cell?, hg, Option.isSome_none, Bool.false_eq_true, if_false]
        rw [hcs1, List.getElem?_drop, List.getElem?_take] at hj
        split at hj
        · simpa using hj
        · cases hj) (by rw [hl1, hcs]; omega) (fun v hv => h1c v (by rw [hcs1] at hv; exact List.mem_of_mem_drop hv))
  have hcp2 : ∀ (W : World), W.heap = (w.setRow g cur1).heap → ∀ ty dc sc, (Builtin.copy_ #[33, 33] ty #[.slice (some ⟨g, i * 12, none⟩) (n + 1 - i) dc, .slice (some ⟨vb, vo, none⟩) 1 sc]).run PP W = .ok (goInt ((1 : Nat) : Nat)) (W.setRow g cur2) := fun W hW ty dc sc => by
    rw [hcur2]
    exact run_copy_rowK W 33 33 ty 80 g (i * 12) (n + 1 - i) dc ⟨vb, vo, none⟩ 1 sc 1 12 cur1 80 news hd hsz (by rw [hW]; exact setRow_heap w g cur cur1 80 (0, 0) hg) (by simp only [Nat.min_def]; split <;> omega) (by omega)
      (fun j v hj => by
        have := hnews j v hj
        rw [Addr.add_lit] at this ⊢
        simp only [World.cell?] at this ⊢
        rw [hW, setRow_other w g vb cur1 hvg]
        exact this) (by rw [hnl, hcur1l]; omega) h1
  have hal : (cur.toList.take ((i + 1) * 12)).length = i * 12 + 12 := by rw [List.length_take, hcl]; omega
  have hfin : cur2.toList = cur.toList.take (i * 12) ++ news ++ (cur.toList.take (n * 12)).drop (i * 12) ++ cur.toList.drop ((n + 1) * 12) := by
    have e1 : cur1.toList.take (i * 12) = cur.toList.take (i * 12) := by
      rw [hcur1]
      simp only [List.append_assoc]
      rw [List.take_append_of_le_length (by rw [hal]; omega), List.take_take, Nat.min_eq_left (by omega)]
    have e2 : cur1.toList.drop (i * 12 + news.length) = cs1 ++ cur.toList.drop ((n + 1) * 12) := by
      rw [hcur1, hnl, ← hal]
      simp only [List.append_assoc]
      rw [List.drop_left, hl1]
      congr 2; omega
    rw [hcur2]
    simp only [e1, e2, ← hcs1, List.append_assoc]
  have hset1 : (w.drew.setRow g cur1).heap[g]? = some (.cells cur1 80 (0, 0)) := setRow_heap w g cur cur1 80 (0, 0) hg
  clear hcur2 hcur1 hcs1 hl1 hcur1l hcl hal
  go_enter Tryz.func182, Tryz.ntmps182
  go_wp2_with (simp only [hov])
  go_region_law_o (refine step_copy_run rfl _ _ 33 33 rfl (.slice (some ⟨g, (i + 1) * 12, none⟩) (n - i) (cap - (i + 1))) (.slice (some ⟨g, i * 12, none⟩) (n + 1 - i) (cap - i)) (by simp [Act.eval, Act.put]) (by simp [Act.eval, Act.put]) (hcp1 w.drew rfl _ _ _) ?_)
  go_wp2_with (simp only [hcp2 (w.drew.setRow g cur1) rfl])
  go_ret
  refine ⟨rfl, cur2, setRow_heap _ g cur1 cur2 80 (0, 0) hset1, hfin, by simp [World.setRow], fun k hk => ?_, rfl, rfl, rfl⟩
  rw [setRow_other _ g k cur2 hk, setRow_other _ g k cur1 hk]; rfl

end Go.AW

/- slices.Insert, by its text: where there is no room. -/
namespace Go.AW
open Go Go.Proofs Go.RowKit Go.Lib

set_option maxHeartbeats 4000000 in
set_option maxRecDepth 100000 in
theorem upds_insert_grow (w : World) (g n cap i vb vo vc : Nat) (cur : Array Value) (news : List Value) (hg : w.heap[g]? = some (.cells cur 80 (0, 0))) (hcs : cur.size = cap * 12) (hc63 : cap ≤ 9223372036854775807) (hi : i < n) (hnc : n ≤ cap) (hroom : cap < n + 1)
    (hfit : (n + 1) * 152 ≤ 140737488355328) (h1c : ∀ u ∈ cur.toList.take (n * 12), u.oneCell' = true) (hnl : news.length = 12) (h1 : ∀ u ∈ news, u.oneCell' = true) (hnews : ∀ (j : Nat) (u : Value), news[j]? = some u → w.cell? ((⟨vb, vo, none⟩ : Addr).add j) = some u)
    (hvw : vb < w.heap.size) :
    Calls PP 182 #[.slice (some ⟨g, 0, none⟩) n cap, .int .i64 i, .slice (some ⟨vb, vo, none⟩) 1 vc] w fun e w' =>
      ∃ G, e = .returned (.slice (some ⟨w.heap.size, 0, none⟩) (n + 1) G) ∧ n + 1 ≤ G ∧ G ≤ maxLen ∧ ∃ cur' : Array Value, w'.heap[w.heap.size]? = some (.cells cur' 80 (0, 0)) ∧ cur'.size = G * 12 ∧ cur'.toList.take ((n + 1) * 12) = cur.toList.take (i * 12) ++ news ++ (cur.toList.take (n * 12)).drop (i * 12) ∧
        w'.heap.size = w.heap.size + 1 ∧ (∀ k, k < w.heap.size → w'.heap[k]? = w.heap[k]?) ∧ w'.os = w.os ∧ w'.tape = w.tape ∧ w'.output = w.output := by
  obtain ⟨d, hd, hkk⟩ := (TTok.tok 33 _ rfl).kind
  cases d <;> try exact hkk.elim
  rename_i e'
  obtain rfl : 80 = e' := hkk
  obtain ⟨d3, hd3, hkk3⟩ := (TTok.tok 3 _ rfl).kind
  cases d3 <;> try exact hkk3.elim
  rename_i kk
  obtain rfl : IntKind.i64 = kk := hkk3
  obtain ⟨ti, z, hti, htsz, htby, htz, hzs, _, _⟩ := (TTok.tok 80 _ rfl).info
  have htsz : ti.size = 12 := htsz
  have htby : ti.bytes = 152 := htby
  have hzs : z.cells.size = 12 := hzs
  have hz1 : ¬ ((1 : Int) = 0) := by omega
  have hz2 : ¬ ((i : Int) = (n : Int)) := by omega
  have hz3 : (cap : Int) < (n : Int) + 1 := by omega
  have hw1 : IntKind.i64.wrap ((i : Int) + 1) = (i : Int) + 1 := by rw [IntKind.wrap_i64]; omega
  have hw2 : IntKind.i64.wrap ((n : Int) + 1) = (n : Int) + 1 := by rw [IntKind.wrap_i64]; omega
  have hw3 : IntKind.i64.wrap ((n : Int) + 1 - i) = (n : Int) + 1 - i := by rw [IntKind.wrap_i64]; omega
  have hb1 : (0 : Int) ≤ (i : Int) + 1 := by omega
  have htn : ((i : Int) + 1).toNat = i + 1 := by omega
  have hb3 : (i : Int) ≤ (n : Int) + 1 := by omega
  have hb5 : (i : Int) ≤ n := by omega
  have hb8 : (i : Int) + 1 ≤ (n : Int) + 1 := by omega
  have hci : ¬ (cap = i) := by omega
  have mixed : PP.follows .mixedOrders = true := by kernel_rfl
  have hsz : (PP.info? 80).map (·.size) = some 12 := (TTok.tok 80 _ rfl).size'
  have hcl : cur.toList.length = cap * 12 := by simpa using hcs
  have hgw : g < w.heap.size := (Array.getElem?_eq_some_iff.1 hg).1
  have hik : i + (n + 1 - i) = n + 1 := by omega
  have hkk : (n : Int) + 1 - (i : Int) = ((n + 1 - i : Nat) : Int) := by omega
  have hcellg : ∀ (W : World) (o : Nat), W.heap[g]? = w.heap[g]? → W.cell? ⟨g, o, none⟩ = cur.toList[o]? := fun W o h => by simp [World.cell?, h, hg]
  have hold : (Builtin.firstCells ti.size i (.slice (some ⟨g, 0, none⟩) i cap)).run PP w.drew = .ok (cur.toList.take (i * 12)).toArray w.drew := by
    rw [htsz]
    exact run_firstCells_some w.drew 12 i ⟨g, 0, none⟩ i cap (cur.toList.take (i * 12)) (by rw [List.length_take, hcl]; omega) (fun j v hj => by
      rw [Addr.add_lit, hcellg w.drew _ rfl, Nat.zero_add]
      rw [List.getElem?_take] at hj
      split at hj
      · exact hj
      · cases hj)
  obtain ⟨G, hG⟩ : ∃ G, G = grownCap w (n + 1) cap 80 := ⟨_, rfl⟩
  obtain ⟨ROW, hROW⟩ : ∃ ROW : Array Value, ROW = (cur.toList.take (i * 12)).toArray ++ Builtin.zeroCells z.cells (n + 1 - i) ++ Builtin.zeroCells z.cells (G - (n + 1)) := ⟨_, rfl⟩
  have hrz : ∀ ty, (Builtin.append_ #[33, 3] ty #[.slice (some ⟨g, 0, none⟩) i cap, .int .i64 ((n : Int) + 1 - (i : Int))]).run PP w = .ok (.slice (some ⟨w.heap.size, 0, none⟩) (n + 1) G) (w.drew.alloc (.cells ROW 80)) := fun ty => by
    have h := Lib.run_append_grow_zeros w 33 3 ty 80 ti z .i64 .i64 hd hd3 hti htz (some ⟨g, 0, none⟩) i cap (cur.toList.take (i * 12)) hold (n + 1 - i) (by omega) (by omega) (by omega) (by omega) (by rw [htby]; omega) (by rw [htby, hik]; exact growslice_fits hroom hfit)
    rw [hik, ← hG, ← hROW] at h
    rw [hkk]
    exact h
  have hGn : n + 1 ≤ G := by rw [hG]; exact grownCap_ge w _ _ _
  have hGm : G ≤ maxLen := by rw [hG]; exact grownCap_le_maxLen w (n + 1) cap 80 (by unfold maxLen; omega)
  have hROWl : ROW.size = G * 12 := by
    rw [hROW]
    simp only [Array.size_append, List.size_toArray, size_zeroCells, hzs, List.length_take, hcl]
    omega
  have hROWt : ROW.toList.take (i * 12) = cur.toList.take (i * 12) := by
    rw [hROW]
    simp only [Array.toList_append, List.append_assoc]
    rw [List.take_append_of_le_length (by rw [List.length_take, hcl]; omega), List.take_take, Nat.min_self]
  obtain ⟨W1, hW1⟩ : ∃ W1, W1 = w.drew.alloc (.cells ROW 80) := ⟨_, rfl⟩
  rw [← hW1] at hrz
  have hW1n : W1.heap[w.heap.size]? = some (.cells ROW 80 (0, 0)) := by rw [hW1]; exact heap_alloc_new w.drew _
  have hW1o : ∀ k, k < w.heap.size → W1.heap[k]? = w.heap[k]? := fun k hk => by rw [hW1]; exact Below.heap_alloc w.drew _ k hk
  obtain ⟨row1, hrow1⟩ : ∃ row1 : Array Value, row1 = (ROW.toList.take (i * 12) ++ news ++ ROW.toList.drop (i * 12 + news.length)).toArray := ⟨_, rfl⟩
  have hrow1l : row1.size = G * 12 := by rw [hrow1]; simp [hnl, hROWl]; omega
  obtain ⟨cs1, hcs1⟩ : ∃ cs1, cs1 = (cur.toList.take (n * 12)).drop (i * 12) := ⟨_, rfl⟩
  have hl1 : cs1.length = (n - i) * 12 := by rw [hcs1, List.length_drop, List.length_take, hcl]; omega
  obtain ⟨row2, hrow2⟩ : ∃ row2 : Array Value, row2 = (row1.toList.take ((i + 1) * 12) ++ cs1 ++ row1.toList.drop ((i + 1) * 12 + cs1.length)).toArray := ⟨_, rfl⟩
  have hcp1 : ∀ ty dc sc, (Builtin.copy_ #[33, 33] ty #[.slice (some ⟨w.heap.size, i * 12, none⟩) (n + 1 - i) dc, .slice (some ⟨vb, vo, none⟩) 1 sc]).run PP W1 = .ok (goInt ((1 : Nat) : Nat)) (W1.setRow w.heap.size row1) := fun ty dc sc => by
    rw [hrow1]
    exact run_copy_rowK W1 33 33 ty 80 w.heap.size (i * 12) (n + 1 - i) dc ⟨vb, vo, none⟩ 1 sc 1 12 ROW 80 news hd hsz hW1n (by simp only [Nat.min_def]; split <;> omega) (by omega)
      (fun j v hj => by
        have := hnews j v hj
        rw [Addr.add_lit] at this ⊢
        simp only [World.cell?] at this ⊢
        rw [hW1o vb hvw]
        exact this) (by rw [hnl, hROWl]; omega) h1
  have hW2n : (W1.setRow w.heap.size row1).heap[w.heap.size]? = some (.cells row1 80 (0, 0)) := setRow_heap W1 w.heap.size ROW row1 80 (0, 0) hW1n
  have hW2o : ∀ k, k < w.heap.size → (W1.setRow w.heap.size row1).heap[k]? = w.heap[k]? := fun k hk => by rw [setRow_other W1 _ k row1 (by omega)]; exact hW1o k hk
  have hcp2 : ∀ ty dc sc, (Builtin.copy_ #[33, 33] ty #[.slice (some ⟨w.heap.size, (i + 1) * 12, none⟩) (n - i) dc, .slice (some ⟨g, i * 12, none⟩) (n - i) sc]).run PP (W1.setRow w.heap.size row1).drew = .ok (goInt ((n - i : Nat) : Nat)) ((W1.setRow w.heap.size row1).drew.setRow w.heap.size row2) := fun ty dc sc => by
    rw [hrow2]
    exact run_copy_rowK _ 33 33 ty 80 w.heap.size ((i + 1) * 12) (n - i) dc ⟨g, i * 12, none⟩ (n - i) sc (n - i) 12 row1 80 cs1 hd hsz hW2n (by simp only [Nat.min_def]; split <;> omega) hl1
      (fun j v hj => by
        rw [Addr.add_lit, hcellg (W1.setRow w.heap.size row1).drew _ (hW2o g hgw)]
        rw [hcs1, List.getElem?_drop, List.getElem?_take] at hj
        split at hj
        · exact hj
        · cases hj) (by rw [hl1, hrow1l]; omega) (fun v hv => h1c v (by rw [hcs1] at hv; exact List.mem_of_mem_drop hv))
  have hfin : row2.size = G * 12 ∧ row2.toList.take ((n + 1) * 12) = cur.toList.take (i * 12) ++ news ++ (cur.toList.take (n * 12)).drop (i * 12) := by
    have hlt : (cur.toList.take (i * 12)).length = i * 12 := by rw [List.length_take, hcl]; omega
    have e1 : row1.toList.take ((i + 1) * 12) = cur.toList.take (i * 12) ++ news := by
      rw [hrow1, hROWt]
      have : (i + 1) * 12 = (cur.toList.take (i * 12) ++ news).length := by rw [List.length_append, hlt, hnl]; omega
      rw [this]
      exact List.take_left
    refine ⟨by rw [hrow2]; simp [hl1, hrow1l]; omega, ?_⟩
    rw [hrow2, e1, ← hcs1]
    have : (n + 1) * 12 = (cur.toList.take (i * 12) ++ news ++ cs1).length := by rw [List.length_append, List.length_append, hlt, hnl, hl1]; omega
    rw [this]
    exact List.take_left
  have hsz1 : W1.heap.size = w.heap.size + 1 := by rw [hW1]; simp
  have hos : W1.os = w.os ∧ W1.tape = w.tape ∧ W1.output = w.output := by rw [hW1]; exact ⟨rfl, rfl, rfl⟩
  clear hrow2 hrow1 hcs1 hl1 hrow1l hcl hROW hROWt hROWl hG hold hkk hik hW1
  have hGi : ¬ (G = i) := by omega
  have hGim : ¬ (G = i + 1) := by omega
  go_enter Tryz.func182, Tryz.ntmps182
  go_wp2_with (at_builtin; refine Lib.wpList_append_run _ rfl _ _ _ _ rfl _ _ rfl rfl _ _ (hrz _) ?_)
  go_wp2_with (simp only [hcp1])
  go_region_law_o (refine step_copy_run rfl _ _ 33 33 rfl (.slice (some ⟨w.heap.size, (i + 1) * 12, none⟩) (n - i) (G - (i + 1))) (.slice (some ⟨g, i * 12, none⟩) (n - i) (cap - i)) (by simp [Act.eval, Act.put]) (by simp [Act.eval, Act.put]) (hcp2 _ _ _) ?_)
  go_wp2
  go_ret
  refine ⟨G, rfl, hGn, hGm, row2, setRow_heap _ w.heap.size row1 row2 80 (0, 0) hW2n, hfin.1, hfin.2, ?_, fun k hk => ?_, hos.1, hos.2.1, hos.2.2⟩
  · simp [World.setRow, hsz1]
  · rw [setRow_other _ w.heap.size k row2 (by omega)]
    exact hW2o k hk

end Go.AW

/- slices.Insert: what a call comes to. -/
namespace Go.AW
open Go Go.Proofs Go.RowKit

theorem upds_insert_run (w : World) (ad : Option Nat) (n cap i vb vo vc : Nat) (vs news : List Value) (hown : w.ownsRow 0 80 12 (hdrV ad n cap) n vs) (hi : i ≤ n) (hfit : (n + 1) * 152 ≤ 140737488355328) (h1c : ∀ u ∈ vs, u.oneCell' = true)
    (hnl : news.length = 12) (h1 : ∀ u ∈ news, u.oneCell' = true) (hnews : ∀ (j : Nat) (u : Value), news[j]? = some u → w.cell? ((⟨vb, vo, none⟩ : Addr).add j) = some u) (hvg : ∀ g, ad = some g → vb ≠ g) :
    Calls PP 182 #[hdrV ad n cap, .int .i64 i, .slice (some ⟨vb, vo, none⟩) 1 vc] w fun e w' =>
      ∃ ad' cap', e = .returned (hdrV ad' (n + 1) cap') ∧ w'.ownsRow 0 80 12 (hdrV ad' (n + 1) cap') (n + 1) (vs.take (i * 12) ++ news ++ vs.drop (i * 12)) ∧ w.heap.size ≤ w'.heap.size ∧ (∀ k, k < w.heap.size → ad ≠ some k → w'.heap[k]? = w.heap[k]?) ∧
        w'.os = w.os ∧ w'.tape = w.tape ∧ w'.output = w.output ∧ ∀ k, ad' = some k → ad = some k ∨ (w.heap.size ≤ k ∧ k < w'.heap.size) := by
  have hvl : vs.length = n * 12 := hown.1
  -- the variadic argument's block
  obtain ⟨u0, hu0⟩ : ∃ u, news[0]? = some u := ⟨news[0]'(by omega), by simp⟩
  have hc0 := hnews 0 u0 hu0
  rw [Addr.add_lit, Nat.add_zero] at hc0
  have hblk : ∃ cv ev fv, w.heap[vb]? = some (.cells cv ev fv) ∧ cv.size ≠ 0 := by
    simp only [World.cell?] at hc0
    split at hc0
    · rename_i c e f hh
      refine ⟨c, e, f, hh, fun h0 => ?_⟩
      simp [h0] at hc0
    · cases hc0
  obtain ⟨cv, ev, fv, hv, hv0⟩ := hblk
  have hvw : vb < w.heap.size := (Array.getElem?_eq_some_iff.1 hv).1
  by_cases hin : i = n
  · subst hin
    have := upds_insert_end w ad i cap vb vo vc vs news hown hnl h1 hnews hfit
    refine this.mono fun e w' ⟨ad', cap', g1, g2, g3⟩ => ⟨ad', cap', g1, ?_, g3⟩
    have e1 : vs.take (i * 12) = vs := List.take_of_length_le (by omega)
    have e2 : vs.drop (i * 12) = [] := List.drop_of_length_le (by omega)
    rw [e1, e2, List.append_nil]
    exact g2
  · have hlt : i < n := by omega
    rcases hown.2 with ⟨_, h0⟩ | ⟨g, cap0, cur, hvv, hbg, hg, hnc, hcm, hcs, htake⟩
    · omega
    · cases ad with
      | none => simp [hdrV] at hvv
      | some g' =>
        simp only [hdrV, Option.map_some, Value.slice.injEq, Option.some.injEq, Addr.mk.injEq] at hvv
        obtain ⟨⟨rfl, _⟩, _, rfl⟩ := hvv
        have hc63 : cap ≤ 9223372036854775807 := by unfold maxLen at hcm; omega
        have hgw : g' < w.heap.size := (Array.getElem?_eq_some_iff.1 hg).1
        have hlen : (vs.take (i * 12) ++ news ++ vs.drop (i * 12)).length = (n + 1) * 12 := by simp [hvl, hnl]; omega
        have hcl : cur.toList.length = cap * 12 := by simpa using hcs
        by_cases hroom : n + 1 ≤ cap
        · refine (upds_insert_room w g' n cap i vb vo vc cur news hg hcs hc63 hlt hroom (by rw [htake]; exact h1c) hnl h1 hnews (hvg g' rfl) cv ev fv hv hv0).mono fun e w' ⟨g1, cur', g2, g3, g4, g5, g6, g7, g8⟩ => ?_
          rw [htake] at g3
          have e1 : cur.toList.take (i * 12) = vs.take (i * 12) := by rw [← htake, List.take_take, Nat.min_eq_left (by omega)]
          rw [e1] at g3
          have hl' : cur'.size = cap * 12 := by
            have := congrArg List.length g3
            simp only [Array.length_toList, List.length_append, List.length_take, List.length_drop, hcl, hvl, hnl] at this
            omega
          refine ⟨some g', cap, g1, ⟨hlen, .inr ⟨g', cap, cur', rfl, hbg, g2, hroom, hcm, hl', ?_⟩⟩, by omega, fun k _ hk => g5 k (fun e => hk (by rw [e])), g6, g7, g8, fun k hk => .inl hk⟩
          rw [g3, ← hlen]
          exact List.take_left
        · refine (upds_insert_grow w g' n cap i vb vo vc cur news hg hcs hc63 hlt hnc (by omega) hfit (by rw [htake]; exact h1c) hnl h1 hnews hvw).mono fun e w' ⟨G, g1, gn, gm, cur', g2, gs, g3, g4, g5, g6, g7, g8⟩ => ?_
          rw [htake] at g3
          have e1 : cur.toList.take (i * 12) = vs.take (i * 12) := by rw [← htake, List.take_take, Nat.min_eq_left (by omega)]
          rw [e1] at g3
          exact ⟨some w.heap.size, G, g1, ⟨hlen, .inr ⟨w.heap.size, G, cur', rfl, Nat.zero_le _, g2, gn, gm, gs, g3⟩⟩, by omega, fun k hk _ => g5 k hk, g6, g7, g8, fun k hk => .inr (by cases hk; omega)⟩

theorem upds_Insert (l : List Upd) (i : Nat) (t : Upd) (hi : i ≤ l.length) (hfit : (l.length + 1) * 152 ≤ 140737488355328) :
    HCall PP 182 [.buf 0, I64 i, FU [t]] [BU l] (.buf 1) [.dead, BU (l.take i ++ t :: l.drop i)] := by
  constructor
  intro w I μ0 cargs hm hr
  obtain ⟨hsz, hreps⟩ := hr
  have r0 := hreps 0 _ rfl
  have r1 := rep_sc (hreps 1 _ rfl)
  have r2 := hreps 2 _ rfl
  have hc : cargs = #[cargs.getD 0 undef, cargs.getD 1 undef, cargs.getD 2 undef] := by
    apply Array.ext
    · simpa using hsz
    · intro j h1 h2
      have h3 : cargs.size = 3 := hsz
      match j, h1 with
      | 0, _ => simp [Array.getD, h3]
      | 1, _ => simp [Array.getD, h3]
      | 2, _ => simp [Array.getD, h3]
      | j + 3, h => omega
  rw [hc, r1]
  have hml : (l.map Upd.enc).length = l.length := List.length_map _
  have hrows : ∀ r ∈ l.map Upd.enc, r.length = 12 := by intro r hr; obtain ⟨x, _, rfl⟩ := List.mem_map.1 hr; rfl
  generalize cargs.getD 0 undef = c0 at r0
  generalize cargs.getD 2 undef = c2 at r2
  cases r0 with
  | bdead b v hl h1 => exact (hm.blk 0 _ _ rfl hl).elim
  | buf b m cp ad hl =>
    obtain ⟨g1, g0, g2, vs, g3, g4⟩ := hm.blk 0 _ _ rfl hl
    rw [hml] at g1
    subst g1
    cases r2 with
    | fr f v hf =>
      cases hf with
      | sl n b es k o c cv hk hcl hb1 hn hcc hrr =>
        have hvl : vs.length = l.length * 12 := g3.1
        have hfl : (l.map Upd.enc).flatten.length = l.length * 12 := by rw [flat_length _ hrows, hml]
        have h1c : ∀ u ∈ vs, u.oneCell' = true := by
          intro u hu
          obtain ⟨j, hj⟩ := List.getElem?_of_mem hu
          have hlt := (List.getElem?_eq_some_iff.1 hj).1
          have := g4 j ((l.map Upd.enc).flatten[j]'(by rw [hfl, ← hvl]; exact hlt)) (by simp)
          have := this.one
          simpa [List.getD, hj] using this
        have hel : t.enc.length = 12 := rfl
        have hgn : ∀ (j : Nat) (u : Value), ((List.range 12).map (cv 0))[j]? = some u → ∃ f, t.enc[j]? = some f ∧ u = cv 0 j := by
          intro j u hj
          rw [List.getElem?_map] at hj
          have hlt : j < 12 := by
            cases hq : (List.range 12)[j]? with
            | none => rw [hq] at hj; cases hj
            | some x => have := (List.getElem?_eq_some_iff.1 hq).1; simpa using this
          rw [List.getElem?_range hlt] at hj
          cases hj
          exact ⟨t.enc[j]'(by rw [hel]; exact hlt), by simp, rfl⟩
        have hnews : ∀ (j : Nat) (u : Value), ((List.range 12).map (cv 0))[j]? = some u → w.cell? ((⟨k, o, none⟩ : Addr).add j) = some u := by
          intro j u hj
          obtain ⟨f, hf, rfl⟩ := hgn j u hj
          rw [Addr.add_lit]
          have := hcc 0 t.enc j f rfl hf
          simpa using this
        have h1n : ∀ u ∈ (List.range 12).map (cv 0), u.oneCell' = true := by
          intro u hu
          obtain ⟨j, hj⟩ := List.getElem?_of_mem hu
          obtain ⟨f, hf, rfl⟩ := hgn j u hj
          exact (hrr 0 t.enc j f rfl hf).one
        have hvg : ∀ g, ad = some g → k ≠ g := fun g hg e => hk.2.2 ⟨0, _, hl, by rw [e]; exact hg⟩
        have hcalls := upds_insert_run w ad l.length cp i k o c vs ((List.range 12).map (cv 0)) g3 hi hfit h1c (by simp) h1n hnews hvg
        refine .inl ⟨?_, hcalls.mono ?_⟩
        · have hfn := Tryz.func182
          unfold callFunc
          simp only [Sem.run_bind, run_program, Result.andThen_ok, hfn, Sem.run_pure]
          rfl
        · rintro e w' ⟨ad', cap', rfl, g5, g6, g7, g8, g9, g10, g11⟩
          refine ⟨_, rfl, ?_⟩
          have hnl : (l.take i ++ t :: l.drop i).length = l.length + 1 := by simp; omega
          obtain ⟨μ', hm', hp', hl'⟩ := hm.growB (w' := w') (l := .hdr ad' (l.length + 1) cap') (nb := BU (l.take i ++ t :: l.drop i)) hl g6 g7 g8 g9 g10 g11 (fun μ' hp => by
            refine ⟨by rw [List.length_map, hnl], by rw [List.length_map, hnl]; exact hfit, by intro r hr; obtain ⟨x, _, rfl⟩ := List.mem_map.1 hr; rfl, _, g5, ?_⟩
            have e : ((l.take i ++ t :: l.drop i).map Upd.enc).flatten = (l.map Upd.enc).flatten.take (i * 12) ++ t.enc ++ (l.map Upd.enc).flatten.drop (i * 12) := by
              rw [List.map_append, List.map_cons, List.flatten_append, List.flatten_cons, List.map_take, List.map_drop, flatten_take _ _ hrows, flatten_drop _ _ hrows, List.append_assoc]
            rw [e]
            exact rep_insert (fun j f hj => hp.repF (g4 j f hj)) (fun j f hj => by
              have hlt : j < 12 := by have := (List.getElem?_eq_some_iff.1 hj).1; rw [hel] at this; exact this
              have e2 : ((List.range 12).map (cv 0)).getD j undef = cv 0 j := by simp [List.getD, hlt]
              rw [e2]
              exact hp.repF (hrr 0 t.enc j f rfl hj)) (by rw [hvl, hfl]) (by simp [hel]) (by rw [hfl]; omega))
          exact ⟨μ', hm', .buf _ _ _ _ hl'⟩

end Go.AW

