/- From a call out of every heap to a call as the rows ask for it. -/
import Derived.Test.YtfgnoaaaacaebaaMC
import Derived.DataReads
import Derived.ChangeArms
import Derived.OpenShut
import Derived.SizedLaws
import Derived.Carry
import Derived.Test.YtfgnoaaaacaebaaMH
namespace Go.AW
open Go Go.Proofs Go.RowKit

/-- A law's call: what the walk says, as the rows ask for it. -/
theorem PCall.calls {P : Program} {g : Nat} {fn : Func} {args : List V} {b : Bool} (h : PCall P g args (B1 b)) (hf : P.funcs[g]? = some fn) (hb : fn.body.isNone = false) (hn : (fn.name == "runtime.NumGoroutine") = false)
    {w : World} {cargs : Array Value} (hr : ∃ I : Nat → Prop, (∀ k, I k → k < w.heap.size) ∧ cargs.size = args.length ∧ ∀ (i : Nat) (x : V), args[i]? = some x → RepV w I [] x (cargs.getD i undef)) :
    Calls P g cargs w fun e w' => e = .returned (.bool b) ∧ Below w.heap.size w w' := by
  obtain ⟨I, hI, hl, hargs⟩ := hr
  let Γ : Ctx := ⟨P, w, I, []⟩
  have hno : ∀ k, ¬ owned ([] : List Plc) k := fun k ⟨i, l, h, _⟩ => by simp at h
  have hm : Mem Γ [] w [] := Mem.start _ _ _ (fun k hk => hI k hk)
  have hra : RepArgs Γ w [] args cargs := ⟨hl, fun i x hx => (hargs i x hx).mono (fun k hk => ⟨.inl hk, hI k hk, hno k⟩) (fun _ _ => rfl) (.refl _)⟩
  have henter : (callFunc g cargs).run P w = .ok (.enter g cargs) w := by
    unfold callFunc
    simp only [Sem.run_bind, run_program, Result.andThen_ok, hf, hn, Bool.false_eq_true, if_false, hb, Sem.run_pure]
  rcases h.go Γ [] w [] cargs rfl hm hra with ⟨_, h2⟩ | ⟨v, w', h1, _⟩
  · refine h2.mono fun e w' ⟨v, he, hm', _, hv⟩ => ?_
    subst he
    rw [rep_sc hv]
    exact ⟨rfl, hm'.ext.os, hm'.ext.tape, hm'.ext.output, hm'.ext.size, fun k hk => hm'.ext.block k hk (hno k)⟩
  · rw [henter] at h1; cases h1

end Go.AW

/- What is read of the arguments: frozen cells, typed. -/
namespace Go.AW
open Go Go.Proofs Go.RowKit

noncomputable def byOf (T : TTab) (t : Nat) : Nat := match T.get t with | some i => i.by_ | none => 0

/-- Cells of a type. -/
noncomputable def Typed (T : TTab) : Nat → Nat → List F → Prop
  | 0, _, _ => False
  | n + 1, t, fs => match T.get t with
    | some ti => (match ti.k with
      | .int k => ∃ x, fs = [.sc (.int k x)] ∧ (Lit.int k x).wf = true
      | .bool => ∃ b, fs = [.sc (.bool b)]
      | .str => ∃ s : ByteArray, fs = [.sc (.string s)] ∧ s.size ≤ 140737488351232
      | .sli e => ∃ es, fs = [.sl (szOf T e) (byOf T e) es] ∧ ∀ r ∈ es, Typed T n e r
      | .st fl _ => ∃ ps : List (List F), fs = ps.flatten ∧ ps.length = fl.length ∧ ∀ (i : Nat) (p : List F) (f : Nat × Nat), ps[i]? = some p → fl[i]? = some f → Typed T n f.2 p
      | _ => False)
    | none => False

noncomputable def tiles (T : TTab) : List (Nat × Nat) → Nat → Nat → Bool
  | [], o, n => o == n
  | (q, t) :: r, o, n => q == o && tiles T r (o + szOf T t) n

/-- Types that are read so. -/
noncomputable def okD (T : TTab) (D : List Nat) : Bool := D.all fun t => match T.get t with
  | some ti => (match ti.k with
    | .int _ => ti.sz == 1
    | .bool => ti.sz == 1
    | .str => ti.sz == 1
    | .sli e => ti.sz == 1 && D.contains e && Nat.blt 0 (szOf T e)
    | .st fl _ => fl.all (fun f => D.contains f.2) && tiles T fl 0 ti.sz
    | _ => false)
  | none => false

theorem exists_list {α : Type} {Q : Nat → α → Prop} : ∀ (n : Nat), (∀ i, i < n → ∃ r, Q i r) → ∃ es : List α, es.length = n ∧ ∀ i r, es[i]? = some r → Q i r
  | 0, _ => ⟨[], rfl, fun i r h => by simp at h⟩
  | n + 1, h => by
    obtain ⟨es, h1, h2⟩ := exists_list n fun i hi => h i (by omega)
    obtain ⟨r, hr⟩ := h n (by omega)
    refine ⟨es ++ [r], by simp [h1], fun i x hx => ?_⟩
    by_cases hi : i < n
    · rw [List.getElem?_append_left (by omega)] at hx; exact h2 i x hx
    · rw [List.getElem?_append_right (by omega)] at hx
      have : i - es.length = 0 := by
        have := (List.getElem?_eq_some_iff.1 hx).1
        simp at this; omega
      rw [this] at hx; simp at hx; subst hx
      have : i = n := by omega
      subst this; exact hr

theorem cells?_get {w : World} {base : Nat} {a : Addr} {n : Nat} {cs : List Value} (h : w.cells? base a n = some cs) : cs.length = n ∧ ∀ j, j < n → w.cell? (a.add j) = some (cs.getD j undef) := by
  unfold World.cells? at h
  split at h
  · have hl := mapM_some_length h
    simp only [List.length_range] at hl
    refine ⟨hl, fun j hj => ?_⟩
    have := mapM_some_get h j j (by simp [hj])
    rw [this]
    simp [List.getD, hl, hj]
  · cases h

theorem cellsOf_eq {P : Program} {T : TTab} (hT : TOk P T) {t : Nat} {ti : TI} (h : T.get t = some ti) : P.cellsOf t = ti.sz := by
  simp [Program.cellsOf, (hT t ti h).size']

theorem szOf_eq {T : TTab} {t : Nat} {ti : TI} (h : T.get t = some ti) : szOf T t = ti.sz := by simp [szOf, h]
theorem byOf_eq {T : TTab} {t : Nat} {ti : TI} (h : T.get t = some ti) : byOf T t = ti.by_ := by simp [byOf, h]

theorem bytesOf_eq {P : Program} {T : TTab} (hT : TOk P T) {t : Nat} {ti : TI} (h : T.get t = some ti) : P.bytesOf t = ti.by_ := by
  obtain ⟨i, z, h1, _, h2, _⟩ := (hT t ti h).info
  simp [Program.bytesOf, h1, h2]

/-- What stands below the heap's end. -/
abbrev RF (w : World) : F → Value → Prop := RepF w (fun k => k < w.heap.size)

structure Read (T : TTab) (w : World) (n t : Nat) (cs : List Value) (fs : List F) : Prop where
  typed : Typed T n t fs
  len : fs.length = cs.length
  rep : ∀ (i : Nat) (f : F), fs[i]? = some f → RF w f (cs.getD i undef)

theorem read_one {T : TTab} {w : World} {n t : Nat} {v : Value} {f : F} (h : Typed T n t [f]) (hr : RF w f v) : Read T w n t [v] [f] :=
  ⟨h, rfl, fun i g hg => by
    cases i with
    | zero => cases hg; exact hr
    | succ i => simp at hg⟩

section
variable {H : Type} {enc : TypeId × Value → H} {P : Program} {T : TTab} {w : World} {sp : Nat → Bool} {D : List Nat}

theorem lit_weights {t : Nat} {s : List UInt8} : DataW.weights (H := H) P t (.lit (.string s)) = [s.length] := by simp [DataW.weights]

/-- The pieces of a struct, one behind the other. -/
theorem pieces {n : Nat} {cs : List Value} : ∀ (fl : List (Nat × Nat)) (q m : Nat), tiles T fl q m = true → m = cs.length →
    (∀ (i : Nat) (f : Nat × Nat), fl[i]? = some f → ∃ fs, Read T w n f.2 ((cs.drop f.1).take (szOf T f.2)) fs) → q ≤ m →
    ∃ ps : List (List F), ps.length = fl.length ∧ (∀ (i : Nat) (p : List F) (f : Nat × Nat), ps[i]? = some p → fl[i]? = some f → Typed T n f.2 p) ∧ q + ps.flatten.length = m ∧ ∀ (i : Nat) (f : F), ps.flatten[i]? = some f → RF w f (cs.getD (q + i) undef)
  | [], q, m, ht, hm, _, _ => by
    have : q = m := by simpa [tiles] using ht
    exact ⟨[], rfl, fun i p f h => by simp at h, by simpa using this, fun i f h => by simp at h⟩
  | (q', t) :: fl, q, m, ht, hm, hr, hq => by
    simp only [tiles, Bool.and_eq_true, beq_iff_eq] at ht
    obtain ⟨rfl, ht⟩ := ht
    obtain ⟨p, hp⟩ := hr 0 (q', t) rfl
    have hqm : ∀ (fl : List (Nat × Nat)) (q : Nat), tiles T fl q m = true → q ≤ m := by
      intro fl
      induction fl with
      | nil =>
        intro q h
        have : q = m := by simpa [tiles] using h
        omega
      | cons x fl ih => intro q h; simp only [tiles, Bool.and_eq_true, beq_iff_eq] at h; have := ih _ h.2; omega
    have hle := hqm fl _ ht
    obtain ⟨ps, h1, h2, h3, h4⟩ := pieces fl _ m ht hm (fun i f hi => hr (i + 1) f (by simpa using hi)) hle
    have hpl : p.length = szOf T t := by
      have := hp.len
      simp only [List.length_take, List.length_drop] at this
      omega
    refine ⟨p :: ps, by simp [h1], fun i p' f hi hf => ?_, by rw [List.flatten_cons, List.length_append]; omega, fun i f hi => ?_⟩
    · cases i with
      | zero => simp at hi hf; subst hi; subst hf; exact hp.typed
      | succ i => exact h2 i p' f (by simpa using hi) (by simpa using hf)
    · rw [List.flatten_cons] at hi
      by_cases hlt : i < p.length
      · rw [List.getElem?_append_left hlt] at hi
        have := hp.rep i f hi
        have e : ((cs.drop q').take (szOf T t)).getD i undef = cs.getD (q' + i) undef := by
          simp only [List.getD_eq_getElem?_getD, List.getElem?_take, List.getElem?_drop]
          rw [if_pos (by omega)]
        rw [e] at this; exact this
      · rw [List.getElem?_append_right (by omega)] at hi
        have := h4 _ f hi
        have e : q' + szOf T t + (i - p.length) = q' + i := by omega
        rw [e] at this; exact this

theorem weights_each {ts : List Nat} {ds : List (DataW H)} {i t : Nat} {d : DataW H} (ht : ts[i]? = some t) (hd : ds[i]? = some d) {x : Nat} (hx : x ∈ d.weights P t) : x ∈ DataW.weightsEach P ts ds :=
  DataW.weights_mem_each ht hd x hx

theorem weights_all {e : Nat} : ∀ {ds : List (DataW H)} {i : Nat} {d : DataW H}, ds[i]? = some d → ∀ {x : Nat}, x ∈ d.weights P e → x ∈ DataW.weightsAll P e ds
  | [], i, d, h, x, hx => by simp at h
  | y :: ds, i, d, h, x, hx => by
    simp only [DataW.weightsAll]
    cases i with
    | zero => simp at h; subst h; exact List.mem_append_left _ hx
    | succ i => exact List.mem_append_right _ (weights_all (by simpa using h) hx)

theorem trod_read (hT : TOk P T) (hD : okD T D = true) : ∀ (fuel t : Nat) (cs : List Value) (d : DataW H) (ps : List MemPlace), t ∈ D → DataW.trod enc P w 0 sp true fuel t cs = some (d, ps) → (∀ x ∈ d.weights P t, x ≤ reachBytes) →
    ∃ fs, Read T w fuel t cs fs
  | 0, t, cs, d, ps, _, h, _ => by simp [DataW.trod] at h
  | fuel + 1, t, cs, d, ps, ht, h, hw => by
    have hk := List.all_eq_true.1 hD t ht
    cases hti : T.get t with
    | none => rw [hti] at hk; cases hk
    | some ti =>
      rw [hti] at hk
      simp only at hk
      obtain ⟨dd, hdd, hkk⟩ := (hT t ti hti).kind
      cases hkind : ti.k with
      | int k =>
        rw [hkind] at hkk
        cases dd <;> try exact hkk.elim
        rename_i k'
        obtain rfl : k = k' := hkk
        obtain ⟨n, rfl, _, hwf⟩ := DataW.trod_int hdd h
        exact ⟨_, read_one (by simp only [Typed, hti, hkind]; exact ⟨n, rfl, hwf⟩) (.sc _ rfl)⟩
      | bool =>
        rw [hkind] at hkk
        cases dd <;> try exact hkk.elim
        obtain ⟨b, rfl, _⟩ := DataW.trod_bool hdd h
        exact ⟨_, read_one (by simp only [Typed, hti, hkind]; exact ⟨b, rfl⟩) (.sc _ rfl)⟩
      | str =>
        rw [hkind] at hkk
        cases dd <;> try exact hkk.elim
        obtain ⟨s, rfl, hx, _⟩ := DataW.trod_string hdd h
        cases hx
        have hs := hw s.data.toList.length (by rw [lit_weights]; simp)
        have hs' : s.size ≤ 140737488351232 := by
          have e : s.data.toList.length = s.size := by rw [Array.length_toList]; rfl
          have : reachBytes = 140737488351232 := rfl
          omega
        exact ⟨_, read_one (by simp only [Typed, hti, hkind]; exact ⟨s, rfl, hs'⟩) (.sc _ rfl)⟩
      | sli e =>
        rw [hkind] at hkk hk
        cases dd <;> try exact hkk.elim
        rename_i e'
        obtain rfl : e = e' := hkk
        simp only [Bool.and_eq_true] at hk
        have heD : e ∈ D := by simpa using hk.1.2
        have hpos : 0 < szOf T e := by simpa [Nat.blt_eq] using hk.2
        have hke := List.all_eq_true.1 hD e heD
        obtain ⟨tie, htie⟩ : ∃ tie, T.get e = some tie := by
          cases hq : T.get e with
          | none => rw [hq] at hke; cases hke
          | some x => exact ⟨x, rfl⟩
        have hce := cellsOf_eq hT htie
        have hse := szOf_eq htie
        have hbe := bytesOf_eq hT htie
        have hye := byOf_eq htie
        rcases DataW.trod_slice hdd h with ⟨rfl, _⟩ | ⟨a, len, cap, elems, rest, n, hn, rfl, hx, hb, hlc, hcm, hlen, hel, _, _⟩
        · exact ⟨_, read_one (by simp only [Typed, hti, hkind]; exact ⟨[], rfl, by simp⟩) (.nil _ _ _ _)⟩
        · cases hx
          obtain rfl : fuel = n := by omega
          have hwt : (elems.length + rest.length) * P.bytesOf e ≤ reachBytes := by
            refine hw _ ?_
            simp only [DataW.weights, hdd]
            simp
          have hone : ∀ i, i < len → ∃ r : List F, ∃ ci : List Value, w.cells? 0 (a.add (i * szOf T e)) (szOf T e) = some ci ∧ Read T w fuel e ci r := by
            intro i hi
            have h1 := hel i hi
            rw [hce, ← hse] at h1
            have hei : elems[i]? = some elems[i] := by simp
            rw [hei, Option.bind_eq_some_iff] at h1
            obtain ⟨ci, h2, h3⟩ := h1
            obtain ⟨r, hr⟩ := trod_read hT hD fuel e ci elems[i].1 elems[i].2 heD h3 (fun x hx => hw x (by
              simp only [DataW.weights, hdd]
              refine List.mem_cons_of_mem _ (List.mem_append_left _ (weights_all (i := i) (d := elems[i].1) (by rw [List.getElem?_map, hei]; rfl) hx))))
            exact ⟨r, ci, h2, hr⟩
          obtain ⟨es, hes, hq⟩ := exists_list len hone
          have hreach : reachBytes = 140737488351232 := rfl
          by_cases h0 : es = []
          · subst h0
            have hl0 : len = 0 := by simpa using hes.symm
            subst hl0
            exact ⟨_, read_one (by simp only [Typed, hti, hkind]; exact ⟨[], rfl, by simp⟩) (.nil _ _ _ _)⟩
          · have hlpos : 0 < len := by
              rw [← hes]; exact List.length_pos_iff.2 h0
            -- the address stands in a block's row
            have hspot : a.spot = none ∧ a.block < w.heap.size := by
              obtain ⟨r, hr⟩ : ∃ r, es[0]? = some r := ⟨es[0]'(by omega), by simp⟩
              obtain ⟨ci, h2, h3⟩ := hq 0 r hr
              obtain ⟨h4, h5⟩ := cells?_get h2
              have h6 := h5 0 hpos
              rw [Nat.zero_mul] at h6
              have e1 : (a.add 0).add 0 = a := by simp [Addr.add]
              rw [e1] at h6
              unfold World.cell? at h6
              split at h6
              · rename_i hh
                split at h6
                · cases h6
                · rename_i hs
                  exact ⟨by simpa using hs, (Array.getElem?_eq_some_iff.1 hh).1⟩
              · cases h6
            obtain ⟨k, o, spt⟩ := a
            simp only at hspot
            obtain ⟨rfl, hkl⟩ := hspot
            have hcell : ∀ (i : Nat) (r : List F) (j : Nat) (f : F), es[i]? = some r → r[j]? = some f → ∃ v, w.cell? ⟨k, o + i * szOf T e + j, none⟩ = some v ∧ RF w f v := by
              intro i r j f hi hj
              obtain ⟨ci, h2, h3⟩ := hq i r hi
              obtain ⟨h4, h5⟩ := cells?_get h2
              have hjl : j < szOf T e := by have := (List.getElem?_eq_some_iff.1 hj).1; rw [h3.len, h4] at this; exact this
              refine ⟨ci.getD j undef, ?_, h3.rep j f hj⟩
              have := h5 j hjl
              rw [Addr.add_mid, Addr.add_mid] at this
              exact this
            have hrowlen : ∀ (i : Nat) (r : List F), es[i]? = some r → r.length = szOf T e := fun i r hi => by
              obtain ⟨ci, h2, h3⟩ := hq i r hi
              rw [h3.len, (cells?_get h2).1]
            refine ⟨_, read_one (f := .sl (szOf T e) (byOf T e) es) (by
              simp only [Typed, hti, hkind]
              refine ⟨es, rfl, fun r hr => ?_⟩
              obtain ⟨i, hi⟩ := List.getElem?_of_mem hr
              obtain ⟨ci, _, h3⟩ := hq i r hi
              exact h3.typed) ?_⟩
            have hb2 : es.length * byOf T e ≤ 140737488355328 := by
              rw [hbe, ← hye, hlen] at hwt
              have : len * byOf T e ≤ (len + rest.length) * byOf T e := Nat.mul_le_mul_right _ (by omega)
              rw [hes]; omega
            rw [← hes]
            exact .sl (szOf T e) (byOf T e) es k o cap (fun i j => (w.cell? ⟨k, o + i * szOf T e + j, none⟩).getD undef) hkl (by omega) hb2 hrowlen
              (fun i r j f hi hj => by obtain ⟨v, h7, _⟩ := hcell i r j f hi hj; rw [h7]; rfl) (fun i r j f hi hj => by obtain ⟨v, h7, h8⟩ := hcell i r j f hi hj; rw [h7]; exact h8)
      | st fl q =>
        rw [hkind] at hkk hk
        cases dd <;> try exact hkk.elim
        rename_i gs
        have hkk' : gs.toList.map (fun f => (f.offset, f.type)) = fl := hkk
        simp only [Bool.and_eq_true, List.all_eq_true] at hk
        obtain ⟨xs, n, hn, hx, hcl, hxl, hel⟩ := DataW.trod_struct hdd h
        cases hx
        obtain rfl : fuel = n := by omega
        rw [cellsOf_eq hT hti] at hcl
        obtain ⟨pcs, h1, h2, h3, h4⟩ := pieces (T := T) (w := w) (n := fuel) (cs := cs) fl 0 ti.sz hk.2 hcl.symm (fun i f hi => by
          rw [← hkk', List.getElem?_map] at hi
          cases hg : gs.toList[i]? with
          | none => rw [hg] at hi; cases hi
          | some g =>
            rw [hg] at hi
            cases hi
            have hg' : gs[i]? = some g := by simpa using hg
            have hgD : g.type ∈ D := by
              have := hk.1 (g.offset, g.type) (by rw [← hkk']; exact List.mem_map.2 ⟨g, List.mem_of_getElem? hg, rfl⟩)
              simpa using this
            obtain ⟨tig, htig⟩ : ∃ tig, T.get g.type = some tig := by
              have := List.all_eq_true.1 hD g.type hgD
              cases hq : T.get g.type with
              | none => rw [hq] at this; cases this
              | some x => exact ⟨x, rfl⟩
            have h5 := hel i g hg'
            rw [cellsOf_eq hT htig, ← szOf_eq htig] at h5
            have hil : i < xs.length := by rw [hxl]; exact (Array.getElem?_eq_some_iff.1 hg').1
            have hxi : xs[i]? = some xs[i] := by simp
            rw [hxi] at h5
            exact trod_read hT hD fuel g.type _ xs[i].1 xs[i].2 hgD h5 (fun x hx => hw x (by
              simp only [DataW.weights, hdd]
              exact weights_each (i := i) (t := g.type) (d := xs[i].1) (by rw [List.getElem?_map, hg]; rfl) (by rw [List.getElem?_map, hxi]; rfl) hx))) (by omega)
        refine ⟨pcs.flatten, by simp only [Typed, hti, hkind]; exact ⟨pcs, rfl, h1, h2⟩, by omega, fun i f hi => ?_⟩
        have := h4 i f hi
        rw [Nat.zero_add] at this; exact this
      | _ => rw [hkind] at hk; cases hk

end

end Go.AW

/- The interface's structs, read. -/
namespace Go.AW
open Go Go.Proofs Go.RowKit

section
variable {T : TTab} {n t : Nat} {fs : List F} {ti : TI}
theorem typed_int {k : IntKind} (h : Typed T n t fs) (ht : T.get t = some ti) (hk : ti.k = .int k) : ∃ x, fs = [.sc (.int k x)] ∧ (Lit.int k x).wf = true := by
  cases n with
  | zero => exact h.elim
  | succ n => simpa only [Typed, ht, hk] using h
theorem typed_bool (h : Typed T n t fs) (ht : T.get t = some ti) (hk : ti.k = .bool) : ∃ b, fs = [.sc (.bool b)] := by
  cases n with
  | zero => exact h.elim
  | succ n => simpa only [Typed, ht, hk] using h
theorem typed_str (h : Typed T n t fs) (ht : T.get t = some ti) (hk : ti.k = .str) : ∃ s : ByteArray, fs = [.sc (.string s)] ∧ s.size ≤ 140737488351232 := by
  cases n with
  | zero => exact h.elim
  | succ n => simpa only [Typed, ht, hk] using h
theorem typed_sli {e : Nat} (h : Typed T n t fs) (ht : T.get t = some ti) (hk : ti.k = .sli e) : ∃ m es, n = m + 1 ∧ fs = [.sl (szOf T e) (byOf T e) es] ∧ ∀ r ∈ es, Typed T m e r := by
  cases n with
  | zero => exact h.elim
  | succ n =>
    have h' : ∃ es, fs = [.sl (szOf T e) (byOf T e) es] ∧ ∀ r ∈ es, Typed T n e r := by simpa only [Typed, ht, hk] using h
    obtain ⟨es, h1, h2⟩ := h'
    exact ⟨n, es, rfl, h1, h2⟩
theorem typed_st {fl : List (Nat × Nat)} {q : Bool} (h : Typed T n t fs) (ht : T.get t = some ti) (hk : ti.k = .st fl q) :
    ∃ m ps, n = m + 1 ∧ fs = List.flatten ps ∧ ps.length = fl.length ∧ ∀ (i : Nat) (p : List F) (f : Nat × Nat), ps[i]? = some p → fl[i]? = some f → Typed T m f.2 p := by
  cases n with
  | zero => exact h.elim
  | succ n =>
    have h' : ∃ ps : List (List F), fs = ps.flatten ∧ ps.length = fl.length ∧ ∀ (i : Nat) (p : List F) (f : Nat × Nat), ps[i]? = some p → fl[i]? = some f → Typed T n f.2 p := by simpa only [Typed, ht, hk] using h
    obtain ⟨ps, h1, h2, h3⟩ := h'
    exact ⟨n, ps, rfl, h1, h2, h3⟩
end

theorem exists_map {α : Type} {enc : α → List F} {Q : α → Prop} : ∀ {es : List (List F)}, (∀ r ∈ es, ∃ x, r = enc x ∧ Q x) → ∃ l : List α, es = l.map enc ∧ ∀ x ∈ l, Q x
  | [], _ => ⟨[], rfl, by simp⟩
  | r :: es, h => by
    obtain ⟨x, rfl, hx⟩ := h r List.mem_cons_self
    obtain ⟨l, rfl, hl⟩ := exists_map fun r hr => h r (List.mem_cons_of_mem _ hr)
    refine ⟨x :: l, rfl, fun y hy => ?_⟩
    rcases List.mem_cons.1 hy with rfl | hy
    · exact hx
    · exact hl y hy

abbrev i64w (x : Int) : Prop := (Lit.int .i64 x).wf = true
abbrev u64w (x : Int) : Prop := (Lit.int .u64 x).wf = true
abbrev strw (s : ByteArray) : Prop := s.size ≤ 140737488351232

inductive Val.Wf : Val → Prop where
  | mk (k i b : Int) (t : ByteArray) (l : List Val) (h1 : i64w k) (h2 : i64w i) (h3 : u64w b) (h4 : strw t) (h5 : ∀ x ∈ l, Val.Wf x) : Val.Wf (.mk k i b t l)

theorem typed_val : ∀ (n : Nat) (fs : List F), Typed TT n 35 fs → ∃ v : Val, fs = v.enc ∧ v.Wf := by
  intro n
  induction n using Nat.strongRecOn with
  | _ n ih =>
    intro fs h
    obtain ⟨m, ps, rfl, rfl, hl, hp⟩ := typed_st h rfl rfl
    match ps, hl with
    | [p0, p1, p2, p3, p4], _ =>
      obtain ⟨k, rfl, h1⟩ := typed_int (hp 0 p0 _ rfl rfl) rfl rfl
      obtain ⟨i, rfl, h2⟩ := typed_int (hp 1 p1 _ rfl rfl) rfl rfl
      obtain ⟨b, rfl, h3⟩ := typed_int (hp 2 p2 _ rfl rfl) rfl rfl
      obtain ⟨t, rfl, h4⟩ := typed_str (hp 3 p3 _ rfl rfl) rfl rfl
      obtain ⟨m2, es, rfl, rfl, h5⟩ := typed_sli (hp 4 p4 _ rfl rfl) rfl rfl
      obtain ⟨l, rfl, h6⟩ := exists_map (enc := Val.enc) (Q := Val.Wf) fun r hr => ih m2 (by omega) r (h5 r hr)
      refine ⟨.mk k i b t l, ?_, .mk k i b t l h1 h2 h3 h4 h6⟩
      rw [← Val.encs_eq]
      rfl

structure Pol.Wf (p : Pol) : Prop where
  h1 : i64w p.first
  h2 : u64w p.coef
  h3 : i64w p.most

theorem typed_pol {n : Nat} {fs : List F} (h : Typed TT n 37 fs) : ∃ v : Pol, fs = v.enc ∧ v.Wf := by
  obtain ⟨m, ps, rfl, rfl, hl, hp⟩ := typed_st h rfl rfl
  match ps, hl with
  | [p0, p1, p2], _ =>
    obtain ⟨k, rfl, h1⟩ := typed_int (hp 0 p0 _ rfl rfl) rfl rfl
    obtain ⟨i, rfl, h2⟩ := typed_int (hp 1 p1 _ rfl rfl) rfl rfl
    obtain ⟨b, rfl, h3⟩ := typed_int (hp 2 p2 _ rfl rfl) rfl rfl
    exact ⟨⟨k, i, b⟩, rfl, h1, h2, h3⟩

end Go.AW

/- The rows: what they share. -/
namespace Go.AW
open Go Go.Proofs Go.RowKit

/-- A struct's argument. -/
theorem read_struct {H : Type} {enc : TypeId × Value → H} {P : Program} {T : TTab} {w : World} {sp : Nat → Bool} {D : List Nat} (hT : TOk P T) (hD : okD T D = true) {t : Nat} (htD : t ∈ D) {ti : TI} {fl : List (Nat × Nat)} {q : Bool} (hti : T.get t = some ti) (hk : ti.k = .st fl q)
    {base : Nat} {v : Value} {d : DataW H} {ps : List MemPlace} (hv : Value.okWide P w .any base t v) (h : DataW.Trod enc P w 0 sp true t v d ps) (hw : ∀ x ∈ d.weights P t, x ≤ reachBytes) :
    ∃ n fs, Typed T n t fs ∧ RepV w (fun k => k < w.heap.size) [] (fv fs) v := by
  obtain ⟨fuel, hf⟩ := h
  obtain ⟨fs, hr⟩ := trod_read hT hD fuel t _ d ps htD hf hw
  obtain ⟨dd, hdd, hkk⟩ := (hT t ti hti).kind
  rw [hk] at hkk
  cases dd <;> try exact hkk.elim
  unfold Value.okWide at hv
  rw [hdd] at hv
  obtain ⟨cs, rfl, _, _⟩ := hv
  refine ⟨fuel, fs, hr.typed, ?_⟩
  have hl : fs.length = cs.size := by simpa [Value.cells] using hr.len
  have hget : ∀ i, (Value.agg cs).cells.toList.getD i undef = cs.getD i undef := fun i => by simp [Value.cells, List.getD_eq_getElem?_getD, Array.getD_eq_getD_getElem?]
  refine .agg _ _ (by simp [hl]) (fun i hi => ?_) (fun i x hx => ?_)
  · have hi' : i < fs.length := by omega
    have := (hr.rep i fs[i] (by simp)).one
    rw [hget] at this; exact this
  · rw [List.getElem?_map] at hx
    cases hq : fs[i]? with
    | none => rw [hq] at hx; cases hx
    | some f =>
      rw [hq] at hx; cases hx
      have := hr.rep i f hq
      rw [hget] at this
      exact .fr _ _ this

end Go.AW

/- What is read is in its ranges; a slice's argument. -/
namespace Go.AW
open Go Go.Proofs Go.RowKit

theorem wf_u64 {x : Int} (h : u64w x) : U64R x := by
  have h' : (Lit.int .u64 x).wf = true := h
  simp only [Lit.wf, IntKind.min, IntKind.max, IntKind.signed, IntKind.bits] at h'
  simp at h'
  exact ⟨by omega, by omega⟩

theorem Val.Wf.u {v : Val} (h : v.Wf) : v.U := by
  induction h with
  | mk k i b t l h1 h2 h3 h4 h5 ih => exact .mk k i b t l (wf_u64 h3) ih

/-- A slice's argument. -/
theorem read_slice {H : Type} {enc : TypeId × Value → H} {P : Program} {T : TTab} {w : World} {sp : Nat → Bool} {D : List Nat} (hT : TOk P T) (hD : okD T D = true) {t : Nat} (htD : t ∈ D) {ti : TI} {e : Nat} (hti : T.get t = some ti) (hk : ti.k = .sli e)
    {base : Nat} {v : Value} {d : DataW H} {ps : List MemPlace} (hv : Value.okWide P w .any base t v) (h : DataW.Trod enc P w 0 sp true t v d ps) (hw : ∀ x ∈ d.weights P t, x ≤ reachBytes) :
    ∃ n f, Typed T n t [f] ∧ RepV w (fun k => k < w.heap.size) [] (.fr f) v := by
  obtain ⟨fuel, hf⟩ := h
  obtain ⟨fs, hr⟩ := trod_read hT hD fuel t _ d ps htD hf hw
  have hl := hr.len
  have hty := hr.typed
  obtain ⟨m, es, _, rfl, _⟩ := typed_sli hty hti hk
  have h1 : v.cells.size = 1 := by simpa using hl.symm
  have hc : v.cells.toList = [v] := by
    obtain ⟨dd, hdd, hkk⟩ := (hT t ti hti).kind
    rw [hk] at hkk
    cases dd <;> try exact hkk.elim
    unfold Value.okWide at hv
    rw [hdd] at hv
    cases v <;> first | rfl | (exfalso; simp at hv; done) | skip
    exfalso
    have hv' : Cell.okWide P w .any base t (.agg _) := hv
    unfold Cell.okWide at hv'
    rw [hdd] at hv'
    simp at hv'
    simp [Cell.ok, hdd] at hv'
  refine ⟨fuel, _, hty, ?_⟩
  have := hr.rep 0 _ rfl
  rw [hc] at this
  exact .fr _ _ this

end Go.AW

/- What is read of commands. -/
namespace Go.AW
open Go Go.Proofs Go.RowKit

structure Cmd.Wf (c : Cmd) : Prop where
  h1 : i64w c.kind
  h2 : strw c.name
  h3 : c.value.Wf
  h4 : i64w c.delay

theorem typed_cmd {n : Nat} {fs : List F} (h : Typed TT n 79 fs) : ∃ v : Cmd, fs = v.enc ∧ v.Wf := by
  obtain ⟨m, ps, rfl, rfl, hl, hp⟩ := typed_st h rfl rfl
  match ps, hl with
  | [p0, p1, p2, p3], _ =>
    obtain ⟨k, rfl, h1⟩ := typed_int (hp 0 p0 _ rfl rfl) rfl rfl
    obtain ⟨i, rfl, h2⟩ := typed_str (hp 1 p1 _ rfl rfl) rfl rfl
    obtain ⟨v, rfl, h3⟩ := typed_val _ _ (hp 2 p2 _ rfl rfl)
    obtain ⟨d, rfl, h4⟩ := typed_int (hp 3 p3 _ rfl rfl) rfl rfl
    exact ⟨⟨k, i, v, d⟩, rfl, h1, h2, h3, h4⟩

theorem typed_cmds {n : Nat} {f : F} (h : Typed TT n 38 [f]) : ∃ a : List Cmd, f = .sl 8 96 (a.map Cmd.enc) ∧ ∀ e ∈ a, e.Wf := by
  obtain ⟨m, es, _, he, hes⟩ := typed_sli h rfl rfl
  obtain ⟨a, rfl, ha⟩ := exists_map (enc := Cmd.enc) (Q := Cmd.Wf) fun r hr => typed_cmd (hes r hr)
  refine ⟨a, ?_, ha⟩
  injection he

end Go.AW

/- What is read of states and events. -/
namespace Go.AW
open Go Go.Proofs Go.RowKit

structure Tsk.Wf (t : Tsk) : Prop where
  h1 : i64w t.state
  h2 : i64w t.attempt
  h3 : i64w t.due
  h4 : i64w t.event
  h5 : i64w t.seen
def Tsk.enc (t : Tsk) : List F := [.sc (.int .i64 t.state), .sc (.int .i64 t.attempt), .sc (.int .i64 t.due), .sc (.int .i64 t.event), .sc (.int .i64 t.seen)]
theorem typed_tsk {n : Nat} {fs : List F} (h : Typed TT n 48 fs) : ∃ v : Tsk, fs = v.enc ∧ v.Wf := by
  obtain ⟨m, ps, rfl, rfl, hl, hp⟩ := typed_st h rfl rfl
  match ps, hl with
  | [p0, p1, p2, p3, p4], _ =>
    obtain ⟨a, rfl, h1⟩ := typed_int (hp 0 p0 _ rfl rfl) rfl rfl
    obtain ⟨b, rfl, h2⟩ := typed_int (hp 1 p1 _ rfl rfl) rfl rfl
    obtain ⟨c, rfl, h3⟩ := typed_int (hp 2 p2 _ rfl rfl) rfl rfl
    obtain ⟨d, rfl, h4⟩ := typed_int (hp 3 p3 _ rfl rfl) rfl rfl
    obtain ⟨e, rfl, h5⟩ := typed_int (hp 4 p4 _ rfl rfl) rfl rfl
    exact ⟨⟨a, b, c, d, e⟩, rfl, h1, h2, h3, h4, h5⟩

structure Tim.Wf (t : Tim) : Prop where
  h1 : strw t.name
  h2 : i64w t.due
theorem typed_tim {n : Nat} {fs : List F} (h : Typed TT n 56 fs) : ∃ v : Tim, fs = v.enc ∧ v.Wf := by
  obtain ⟨m, ps, rfl, rfl, hl, hp⟩ := typed_st h rfl rfl
  match ps, hl with
  | [p0, p1], _ =>
    obtain ⟨a, rfl, h1⟩ := typed_str (hp 0 p0 _ rfl rfl) rfl rfl
    obtain ⟨b, rfl, h2⟩ := typed_int (hp 1 p1 _ rfl rfl) rfl rfl
    exact ⟨⟨a, b⟩, rfl, h1, h2⟩

structure Upd.Wf (u : Upd) : Prop where
  h1 : strw u.name
  h2 : u.value.Wf
  h3 : i64w u.stage
  h4 : u.outcome.Wf
theorem typed_upd {n : Nat} {fs : List F} (h : Typed TT n 58 fs) : ∃ v : Upd, fs = v.enc ∧ v.Wf := by
  obtain ⟨m, ps, rfl, rfl, hl, hp⟩ := typed_st h rfl rfl
  match ps, hl with
  | [p0, p1, p2, p3], _ =>
    obtain ⟨a, rfl, h1⟩ := typed_str (hp 0 p0 _ rfl rfl) rfl rfl
    obtain ⟨b, rfl, h2⟩ := typed_val _ _ (hp 1 p1 _ rfl rfl)
    obtain ⟨c, rfl, h3⟩ := typed_int (hp 2 p2 _ rfl rfl) rfl rfl
    obtain ⟨d, rfl, h4⟩ := typed_val _ _ (hp 3 p3 _ rfl rfl)
    exact ⟨⟨a, b, c, d⟩, rfl, h1, h2, h3, h4⟩

structure St.Wf (s : St) : Prop where
  run : i64w s.run
  status : i64w s.status
  count : i64w s.count
  time : i64w s.time
  deadline : i64w s.deadline
  from_ : i64w s.from_
  signals : i64w s.signals
  type : strw s.type
  input : s.input.Wf
  policy : s.policy.Wf
  task : s.task.Wf
  timers : ∀ t ∈ s.timers, t.Wf
  updates : ∀ u ∈ s.updates, u.Wf
  result : s.result.Wf
  reason : strw s.reason

theorem typed_state {n : Nat} {fs : List F} (h : Typed TT n 52 fs) : ∃ v : St, fs = v.enc ∧ v.Wf := by
  obtain ⟨m, ps, rfl, rfl, hl, hp⟩ := typed_st h rfl rfl
  match ps, hl with
  | [p0, p1, p2, p3, p4, p5, p6, p7, p8, p9, p10, p11, p12, p13, p14, p15, p16], _ =>
    obtain ⟨a0, rfl, h0⟩ := typed_int (hp 0 p0 _ rfl rfl) rfl rfl
    obtain ⟨a1, rfl, h1⟩ := typed_int (hp 1 p1 _ rfl rfl) rfl rfl
    obtain ⟨a2, rfl, h2⟩ := typed_int (hp 2 p2 _ rfl rfl) rfl rfl
    obtain ⟨a3, rfl, h3⟩ := typed_int (hp 3 p3 _ rfl rfl) rfl rfl
    obtain ⟨a4, rfl, h4⟩ := typed_int (hp 4 p4 _ rfl rfl) rfl rfl
    obtain ⟨a5, rfl, h5⟩ := typed_int (hp 5 p5 _ rfl rfl) rfl rfl
    obtain ⟨a6, rfl, h6⟩ := typed_int (hp 6 p6 _ rfl rfl) rfl rfl
    obtain ⟨a7, rfl, h7⟩ := typed_str (hp 7 p7 _ rfl rfl) rfl rfl
    obtain ⟨a8, rfl, h8⟩ := typed_val _ _ (hp 8 p8 _ rfl rfl)
    obtain ⟨a9, rfl, h9⟩ := typed_pol (hp 9 p9 _ rfl rfl)
    obtain ⟨a10, rfl, h10⟩ := typed_tsk (hp 10 p10 _ rfl rfl)
    obtain ⟨a11, rfl⟩ := typed_bool (hp 11 p11 _ rfl rfl) rfl rfl
    obtain ⟨a12, rfl⟩ := typed_bool (hp 12 p12 _ rfl rfl) rfl rfl
    obtain ⟨m2, e13, _, rfl, h13⟩ := typed_sli (hp 13 p13 _ rfl rfl) rfl rfl
    obtain ⟨m3, e14, _, rfl, h14⟩ := typed_sli (hp 14 p14 _ rfl rfl) rfl rfl
    obtain ⟨a15, rfl, h15⟩ := typed_val _ _ (hp 15 p15 _ rfl rfl)
    obtain ⟨a16, rfl, h16⟩ := typed_str (hp 16 p16 _ rfl rfl) rfl rfl
    obtain ⟨a13, rfl, g13⟩ := exists_map (enc := Tim.enc) (Q := Tim.Wf) fun r hr => typed_tim (h13 r hr)
    obtain ⟨a14, rfl, g14⟩ := exists_map (enc := Upd.enc) (Q := Upd.Wf) fun r hr => typed_upd (h14 r hr)
    exact ⟨⟨a0, a1, a2, a3, a4, a5, a6, a7, a8, a9, a10, a11, a12, a13, a14, a15, a16⟩, rfl, h0, h1, h2, h3, h4, h5, h6, h7, h8, h9, h10, g13, g14, h15, h16⟩

theorem St.Wf.u {s : St} (h : s.Wf) : s.U := ⟨h.input.u, h.result.u, wf_u64 h.policy.h2, fun u hu => ⟨(h.updates u hu).h2.u, (h.updates u hu).h4.u⟩⟩

structure Ev.Wf (e : Ev) : Prop where
  kind : i64w e.kind
  time : i64w e.time
  num : i64w e.num
  due : i64w e.due
  name : strw e.name
  value : e.value.Wf
  policy : e.policy.Wf
theorem typed_ev {n : Nat} {fs : List F} (h : Typed TT n 66 fs) : ∃ v : Ev, fs = v.enc ∧ v.Wf := by
  obtain ⟨m, ps, rfl, rfl, hl, hp⟩ := typed_st h rfl rfl
  match ps, hl with
  | [p0, p1, p2, p3, p4, p5, p6], _ =>
    obtain ⟨a0, rfl, h0⟩ := typed_int (hp 0 p0 _ rfl rfl) rfl rfl
    obtain ⟨a1, rfl, h1⟩ := typed_int (hp 1 p1 _ rfl rfl) rfl rfl
    obtain ⟨a2, rfl, h2⟩ := typed_int (hp 2 p2 _ rfl rfl) rfl rfl
    obtain ⟨a3, rfl, h3⟩ := typed_int (hp 3 p3 _ rfl rfl) rfl rfl
    obtain ⟨a4, rfl, h4⟩ := typed_str (hp 4 p4 _ rfl rfl) rfl rfl
    obtain ⟨a5, rfl, h5⟩ := typed_val _ _ (hp 5 p5 _ rfl rfl)
    obtain ⟨a6, rfl, h6⟩ := typed_pol (hp 6 p6 _ rfl rfl)
    exact ⟨⟨a0, a1, a2, a3, a4, a5, a6⟩, rfl, h0, h1, h2, h3, h4, h5, h6⟩

end Go.AW

/- What is read of updates that wait. -/
namespace Go.AW
open Go Go.Proofs Go.RowKit

structure Ask.Wf (a : Ask) : Prop where
  h1 : i64w a.op
  h2 : strw a.name
  h3 : a.value.Wf

theorem typed_ask {n : Nat} {fs : List F} (h : Typed TT n 75 fs) : ∃ v : Ask, fs = v.enc ∧ v.Wf := by
  obtain ⟨m, ps, rfl, rfl, hl, hp⟩ := typed_st h rfl rfl
  match ps, hl with
  | [p0, p1, p2], _ =>
    obtain ⟨k, rfl, h1⟩ := typed_int (hp 0 p0 _ rfl rfl) rfl rfl
    obtain ⟨i, rfl, h2⟩ := typed_str (hp 1 p1 _ rfl rfl) rfl rfl
    obtain ⟨v, rfl, h3⟩ := typed_val _ _ (hp 2 p2 _ rfl rfl)
    exact ⟨⟨k, i, v⟩, rfl, h1, h2, h3⟩
theorem typed_asks {n : Nat} {f : F} (h : Typed TT n 70 [f]) : ∃ a : List Ask, f = .sl 7 88 (a.map Ask.enc) ∧ ∀ e ∈ a, e.Wf := by
  obtain ⟨m, es, _, he, hes⟩ := typed_sli h rfl rfl
  obtain ⟨a, rfl, ha⟩ := exists_map (enc := Ask.enc) (Q := Ask.Wf) fun r hr => typed_ask (hes r hr)
  refine ⟨a, ?_, ha⟩
  injection he

end Go.AW

