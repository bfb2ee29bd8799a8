
/- From a call out of every heap to a call as the rows ask for it. -/
import Derived.Test.YtjnnggpjhidcmabGreatMC
namespace Go.AW
open Go Go.Proofs Go.RowKit

/-- A law's call: what the walk says, as the rows ask for it. -/
theorem PCall.calls {P : Program} {g : Nat} {fn : Func} {args : List V} {b : Bool} (h : PCall P g args (B1 b)) (hf : P.funcs[g]? = some fn) (hb : fn.body.isNone = false) (hn : (fn.name == "runtime.NumGoroutine") = false)
    {w : World} {cargs : Array Value} (hr : ∃ I : Nat → Prop, (∀ k, I k → k < w.heap.size) ∧ cargs.size = args.length ∧ ∀ (i : Nat) (x : V), args[i]? = some x → RepV w I [] x (cargs.getD i undef)) :
    Calls P g cargs w fun e w' => e = .returned (.bool b) ∧ Below w.heap.size w w' := by
  obtain ⟨I, hI, hl, hargs⟩ := hr
  let Γ : Ctx := ⟨P, w, I, []⟩
  have hno : ∀ k, ¬ owned ([] : List Plc) k := fun k ⟨i, l, h, _⟩ => by simp at h
  have hm : Mem Γ [] w [] := Mem.start _ _ _ (fun k hk => hI k hk)
  have hra : RepArgs Γ w [] args cargs := ⟨hl, fun i x hx => (hargs i x hx).mono (fun k hk => ⟨.inl hk, hI k hk, hno k⟩) (fun _ _ => rfl) (.refl _)⟩
  have henter : (callFunc g cargs).run P w = .ok (.enter g cargs) w := by
    unfold callFunc
    simp only [Sem.run_bind, run_program, Result.andThen_ok, hf, hn, Bool.false_eq_true, if_false, hb, Sem.run_pure]
  rcases h.go Γ [] w [] cargs rfl hm hra with ⟨_, h2⟩ | ⟨v, w', h1, _⟩
  · refine h2.mono fun e w' ⟨v, he, hm', _, hv⟩ => ?_
    subst he
    rw [rep_sc hv]
    exact ⟨rfl, hm'.ext.os, hm'.ext.tape, hm'.ext.output, hm'.ext.size, fun k hk => hm'.ext.block k hk (hno k)⟩
  · rw [henter] at h1; cases h1

end Go.AW

