/- AW, part 14C: a function by its body. -/
import Derived.Test.YtalkhhfinogecaaA14B
namespace Go.AW
open Go Go.RowKit
variable {Γ : Ctx} {nt : Nat} {E : Env} {H : Heap} {w : World} {μ : List Plc} {a : Act}

/-! ### A function -/
/-- One result. -/
noncomputable def resV (T : TTab) (E : Env) (H : Heap) (r : ResultVar) (t : Nat) : Option V := match r with
  | .tmp d => some (nrmV T t (fz1 H (look E d)))
  | .cell d t' => (match Nat.beq t t', T.get t' with
    | true, some ti => (match look E d with
      | .ptr b o => (match nth H b with
        | some (.cells xs) => (match loadV ti (dropL o xs) with | some v => some (nrmV T t (fz1 H v)) | none => none)
        | _ => none)
      | _ => none)
    | _, _ => none)

noncomputable def resL (T : TTab) (E : Env) (H : Heap) (rs : List (ResultVar × Nat)) : Option (List V) :=
  List.rec (motive := fun _ => Option (List V)) (some []) (fun p _ ih => match resV T E H p.1 p.2, ih with | some v, some l => some (v :: l) | _, _ => none) rs

def oneOf : List V → V
  | [v] => v
  | l => .tup l

/-- What is answered, and what is to be answered. -/
structure ARes (x v : V) : Prop where
  h : x = v

noncomputable def fcV (l : List V) : (List V → Prop) → Prop := List.rec (motive := fun _ => (List V → Prop) → Prop) (fun K => K []) (fun x _ ih K => fc1 x fun x => ih fun r => K (x :: r)) l

theorem fcV_eq (l : List V) (K : List V → Prop) : fcV l K = K l := by
  induction l generalizing K with
  | nil => rfl
  | cons x r ih => show fc1 x (fun x => fcV r fun r => K (x :: r)) = K (x :: r); rw [fc1_eq, ih]

noncomputable def ARet (x : Option (List V)) (v : V) : Prop := match x with
  | some l => fcV l fun l => (match l with | [x] => ARes x v | l => ARes (.tup l) v)
  | none => False

theorem ARet.h {x : Option (List V)} {v : V} (h : ARet x v) : ∃ l, x = some l ∧ oneOf l = v := by
  unfold ARet at h
  split at h
  · rw [fcV_eq] at h
    split at h
    · exact ⟨_, rfl, h.h⟩
    · rename_i l hne
      refine ⟨_, rfl, ?_⟩
      rw [← h.h]
      unfold oneOf
      split
      · exact absurd rfl (hne _)
      · rfl
  · exact h.elim

noncomputable def retK (T : TTab) (rs : List (ResultVar × Nat)) (v : V) : AExit → Env → Heap → Prop
  | .exit _, _, _ => False
  | .normal, E, H => ARet (resL T E H rs) v
  | .ret, E, H => ARet (resL T E H rs) v

noncomputable def argE (n : Nat) (args : List V) : Env :=
  List.rec (motive := fun _ => Nat → Env) (fun _ => []) (fun v _ ih n => (n, v) :: ih (n + 1)) args n

def resRun (tmps : Array Value) : ResultVar → Sem Value
  | .tmp t => pure (tmps.getD t undef)
  | .cell a t => do loadVar t (← asAddr (tmps.getD a undef))

theorem resV_ok {T : TTab} (hT : TOk Γ.P T) (hm : Mem Γ H w μ) {tmps : Array Value} (hE : EnvOk Γ w μ E tmps) {r : ResultVar} {t : Nat} {v : V} (h : resV T E H r t = some v) :
    ∃ cv, (resRun tmps r).run Γ.P w = .ok cv w ∧ RepV w (Imm Γ w []) [] v cv := by
  cases r with
  | tmp d =>
    cases h
    exact ⟨_, rfl, rep_nrmV T t (rep_fz1 hm (hE d))⟩
  | cell d t' =>
    simp only [resV] at h
    split at h
    · rename_i ti htt hti
      split at h
      · rename_i b o hb
        have hr := hE d
        rw [hb] at hr
        obtain ⟨k, hv, hl⟩ := rep_ptr hr
        split at h
        · rename_i xs hx
          rw [nth_eq] at hx
          have hok := hm.blk b _ _ hx hl
          split at h
          · rename_i u hu
            cases h
            obtain ⟨cv, hcv⟩ := block_cells (o := o) hok
            obtain ⟨r, h1, h2⟩ := run_loadV (P := Γ.P) (hT t' ti hti) hu _ o cv hcv
            refine ⟨r, ?_, rep_nrmV T t (rep_fz1 hm h2)⟩
            simp only [resRun, hv, asAddr, Sem.run_bind, Sem.run_pure, Result.andThen_ok]
            simpa [Instr.loadAt, Instr.sureAddr] using h1
          · cases h
        · cases h
      · cases h
    · cases h

theorem resL_ok {T : TTab} (hT : TOk Γ.P T) (hm : Mem Γ H w μ) {tmps : Array Value} (hE : EnvOk Γ w μ E tmps) : ∀ (rs : List (ResultVar × Nat)) (l : List V), resL T E H rs = some l →
    ∃ cvs : List Value, ((rs.map Prod.fst).mapM (resRun tmps)).run Γ.P w = .ok cvs w ∧ cvs.length = l.length ∧ ∀ (i : Nat) (x : V), l[i]? = some x → RepV w (Imm Γ w []) [] x (cvs.getD i undef)
  | [], l, h => by
    have h' : some [] = some l := h
    cases h'
    exact ⟨[], by simp, rfl, by intro i x h; simp at h⟩
  | p :: rs, l, h => by
    have h' : (match resV T E H p.1 p.2, resL T E H rs with | some v, some l => some (v :: l) | _, _ => none) = some l := h
    cases h1 : resV T E H p.1 p.2 with
    | none => rw [h1] at h'; cases h'
    | some v =>
      cases h2 : resL T E H rs with
      | none => rw [h1, h2] at h'; cases h'
      | some l' =>
        rw [h1, h2] at h'; cases h'
        obtain ⟨cv, h3, h4⟩ := resV_ok hT hm hE h1
        obtain ⟨cvs, h5, h6, h7⟩ := resL_ok hT hm hE rs l' h2
        refine ⟨cv :: cvs, ?_, by simp [h6], fun i x hx => ?_⟩
        · simp only [List.map_cons, List.mapM_cons, Sem.run_bind, h3, h5, Result.andThen_ok, Sem.run_pure]
        · cases i with
          | zero => simp at hx; subst hx; exact h4
          | succ i => simpa using h7 i x (by simpa using hx)

theorem argE_look (args : List V) : ∀ (n t : Nat), look (argE n args) t = if n ≤ t then (match args[t - n]? with | some v => v | none => .bad) else .bad := by
  induction args with
  | nil => intro n t; show V.bad = _; split <;> simp
  | cons v args ih =>
    intro n t
    show look ((n, v) :: argE (n + 1) args) t = _
    rw [look_cons, ih]
    by_cases h : n = t
    · subst h; simp
    · rw [if_neg h]
      by_cases h1 : n ≤ t
      · rw [if_pos (by omega), if_pos h1]
        have : t - n = (t - (n + 1)) + 1 := by omega
        rw [this]; simp
      · rw [if_neg (by omega), if_neg h1]

theorem results_eq (fn : Func) (tmps : Array Value) : results fn tmps = (do
    let vs ← fn.results.mapM (resRun tmps)
    pure (if h : vs.size = 1 then vs[0] else .tuple vs)) := by
  unfold results
  congr 1

/-- What lies in memory fits into it. -/
inductive FitF : F → Prop where
  | sc (v : Value) : FitF (.sc v)
  | sl (n b : Nat) (es : List (List F)) (h : es.length * b ≤ 140737488355328) (k : ∀ (i : Nat) (e : List F) (j : Nat) (f : F), es[i]? = some e → e[j]? = some f → FitF f) : FitF (.sl n b es)

theorem RepF.fit {I : Nat → Prop} {f : F} {v : Value} (h : RepF w I f v) : FitF f := by
  induction h with
  | sc v h => exact .sc v
  | nil n b a c => exact .sl _ _ _ (by simp) (by intro i e j f h; simp at h)
  | sl n b es k o c cv hk hcl hb hn hc hr ih => exact .sl _ _ _ hb ih

def Fit (l : List F) : Prop := ∀ f ∈ l, FitF f

def FitV : V → Prop
  | .fr f => FitF f
  | .agg xs => ∀ x ∈ xs, ∀ f, x = .fr f → FitF f
  | _ => True

def FitL : List V → Prop
  | [] => True
  | x :: r => FitV x ∧ FitL r

theorem fitL_of {l : List V} (h : ∀ x ∈ l, FitV x) : FitL l := by
  induction l with
  | nil => trivial
  | cons x r ih => exact ⟨h x (by simp), ih fun y hy => h y (by simp [hy])⟩

theorem fitV_fv {l : List F} (h : FitV (fv l)) : Fit l := fun f hf => h (.fr f) (List.mem_map.2 ⟨f, hf, rfl⟩) f rfl

theorem rep_fit {I : Nat → Prop} {μ : List Plc} {x : V} {v : Value} (h : RepV w I μ x v) : FitV x := by
  cases h with
  | fr f v h => exact h.fit
  | agg xs vs hl h1 h =>
    intro x hx f hf
    subst hf
    obtain ⟨i, hi⟩ := List.getElem?_of_mem hx
    have := h i _ hi
    cases this with
    | fr f v h => exact h.fit
  | _ => trivial

/-- A FUNCTION BY ITS BODY: what the evaluator says of it, it answers, out of whatever state. -/
theorem pcall_of {P : Program} {T : TTab} (hT : POk P T) {g : Nat} {fn : Func} {c : Code} {args : List V} {v : V} (hf : P.funcs[g]? = some fn) (hb : fn.body = some c) (hn : (fn.name == "runtime.NumGoroutine") = false)
    (hc : codeOK fn.ntmps c = true) (ha : Nat.ble args.length fn.ntmps = true) (hcl : args.all (cl1 0) = true) (hl : fn.results.toList.length = fn.resultTypes.toList.length)
    (h : FitL args → xcode P T c (argE 0 args) [] (retK T (fn.results.toList.zip fn.resultTypes.toList) v)) : PCall P g args v := by
  constructor
  intro Γ H w μ cargs hP hm hr
  subst hP
  refine .inl ⟨?_, ?_⟩
  · unfold callFunc
    simp only [Sem.run_bind, run_program, Result.andThen_ok, hf, hn, Bool.false_eq_true, if_false, hb, Option.isNone_some, Sem.run_pure]
  · let Γ' : Ctx := ⟨Γ.P, w, Imm Γ w μ, []⟩
    have hno : ∀ k, ¬ owned ([] : List Plc) k := fun k ⟨i, l, h, _⟩ => by simp at h
    have hm' : Mem Γ' [] w [] := ⟨rfl, fun k h => absurd h (hno k), fun k h => absurd h (hno k), fun i j l l' k h => by simp at h, fun i b l h => by simp at h,
      ⟨rfl, rfl, rfl, Nat.le_refl _, fun _ _ _ => rfl⟩, fun k hk => ⟨hk.2.1, hno k⟩⟩
    have himm : ∀ k, Imm Γ w μ k → Imm Γ' w [] k := fun k hk => ⟨.inl hk, hk.2.1, hno k⟩
    have hle : args.length ≤ fn.ntmps := by simpa [Nat.ble_eq] using ha
    have hsz : (cargs ++ Array.replicate (fn.ntmps - cargs.size) undef).size = fn.ntmps := by
      have := hr.1
      simp only [Array.size_append, Array.size_replicate]; omega
    have hE : EnvOk Γ' w [] (argE 0 args) (cargs ++ Array.replicate (fn.ntmps - cargs.size) undef) := by
      intro t
      rw [argE_look, if_pos (Nat.zero_le _), Nat.sub_zero]
      cases hq : args[t]? with
      | none => exact .bad _
      | some x =>
        have hlt : t < cargs.size := by have := (List.getElem?_eq_some_iff.1 hq).1; rw [hr.1]; exact this
        have e : (cargs ++ Array.replicate (fn.ntmps - cargs.size) undef).getD t undef = cargs.getD t undef := by
          simp [Array.getD_eq_getD_getElem?, Array.getElem?_append, hlt]
        rw [e]
        have h1 := rep_cl1 (n := 0) (I' := Imm Γ' w []) (hr.2 t x hq) (List.all_eq_true.1 hcl x (List.mem_of_getElem? hq)) himm
        simpa using h1
    refine calls_of_wp hf hb ?_
    refine wp_mono (xcode_sound hT c Γ' fn.ntmps _ _ _ _ w [] rfl hc (h (fitL_of fun x hx => by obtain ⟨i, hi⟩ := List.getElem?_of_mem hx; exact rep_fit (hr.2 i x hi))) ⟨hm', hsz, hE, rfl⟩) ?_
    rintro e a' w' ⟨x, E', H', μ', he, hk, hok⟩
    have fin : ARet (resL T E' H' (fn.results.toList.zip fn.resultTypes.toList)) v → a'.defers = [] ∧ ∃ cv, (results fn a'.tmps).run Γ.P w' = .ok cv w' ∧ ∃ v', Ending.returned cv = .returned v' ∧ Mem Γ H w' μ ∧ Pres Γ w μ w' μ ∧ Rep Γ w' μ v v' := by
      intro hret
      obtain ⟨l, hl1, rfl⟩ := hret.h
      obtain ⟨cvs, h1, h2, h3⟩ := resL_ok (Γ := Γ') hT.tok hok.mem hok.env _ l hl1
      rw [List.map_fst_zip (by omega)] at h1
      obtain ⟨h4, h5⟩ := hm.grow (w' := w') hok.mem.ext.size (fun k hk => hok.mem.ext.block k hk (hno k)) hok.mem.ext.os hok.mem.ext.tape hok.mem.ext.output
      have himm' : ∀ k, Imm Γ' w' [] k → Imm Γ w' μ k := by
        rintro k ⟨i1, i2, _⟩
        rcases i1 with i1 | i1
        · exact h5.imm k i1
        · exact ⟨.inr (Nat.le_trans hm.ext.size i1), i2, fun ho => by have := hm.below k ho; have : w.heap.size ≤ k := i1; omega⟩
      have hrun : (results fn a'.tmps).run Γ.P w' = .ok (if h : cvs.toArray.size = 1 then cvs.toArray[0] else .tuple cvs.toArray) w' := by
        rw [results_eq, Sem.run_bind, Array.mapM_eq_mapM_toList, Sem.run_map]
        have h1' : (List.mapM (resRun a'.tmps) fn.results.toList).run Γ.P w' = .ok cvs w' := h1
        rw [h1']
        rfl
      refine ⟨hok.defers, _, hrun, _, rfl, h4, h5, ?_⟩
      have hrep : RepV w' (Imm Γ' w' []) [] (oneOf l) (if h : cvs.toArray.size = 1 then cvs.toArray[0] else .tuple cvs.toArray) := by
        by_cases h6 : cvs.toArray.size = 1
        · rw [dif_pos h6]
          have h7 : cvs.length = 1 := by simpa using h6
          obtain ⟨x, rfl⟩ : ∃ x, l = [x] := List.length_eq_one_iff.1 (by omega)
          obtain ⟨u, rfl⟩ : ∃ u, cvs = [u] := List.length_eq_one_iff.1 h7
          simpa [oneOf] using h3 0 x rfl
        · rw [dif_neg h6]
          have h7 : oneOf l = .tup l := by
            unfold oneOf
            split
            · simp at h2; simp [h2] at h6
            · rfl
          rw [h7]
          exact .tup _ _ (by simpa using h2) (fun i x hx => by
            have := h3 i x hx
            simpa [List.getD_eq_getElem?_getD, Array.getD_eq_getD_getElem?] using this)
      exact hrep.mono himm' (fun _ _ => rfl) (fun i l h => by simp at h)
    cases he with
    | normal => exact fin hk
    | exit j => exact hk.elim
    | ret => exact fin hk

end Go.AW
