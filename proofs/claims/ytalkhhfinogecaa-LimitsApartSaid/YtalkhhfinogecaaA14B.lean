/- AW, part 14B: code, loops. -/
import Derived.Test.YtalkhhfinogecaaA14
namespace Go.AW
open Go Go.RowKit

noncomputable def codeOK (nt : Nat) : Code → Bool
  | .region _ ops draw => ops.toList.all (operOK nt) && (match draw with | true => drawOK ops.toList | false => true)
  | .seq a b => codeOK nt a && codeOK nt b
  | .cond _ a b => codeOK nt a && codeOK nt b
  | .block _ a => codeOK nt a
  | .loop a => codeOK nt a
  | .scope a => codeOK nt a
  | _ => true

structure POk (P : Program) (T : TTab) : Prop where
  tok : TOk P T
  mix : P.follows .mixedOrders = true

/-- What is to be shown of a region whose order is drawn. -/
structure ADraw (P : Program) (T : TTab) (ops : List Oper) (E : Env) (H : Heap) (K : Env → Heap → Prop) : Prop where
  h : ∃ E' H', ANx E' H' E H ∧ xg P true (DCall P) T 4294967296 ops ops 0 [] E' [] H' K

theorem adraw {P : Program} {T : TTab} {ops : List Oper} {E : Env} {H : Heap} {K : Env → Heap → Prop} (h : xg P true (DCall P) T 4294967296 ops ops 0 [] E [] H K) : ADraw P T ops E H K := ⟨E, H, .refl, h⟩
theorem adrawV {P : Program} {T : TTab} {ops : List Oper} {E : Env} {H : Heap} {K : Env → Heap → Prop} (E' : Env) (H' : Heap) (hv : ANx E' H' E H) (h : xg P true (DCall P) T 4294967296 ops ops 0 [] E' [] H' K) : ADraw P T ops E H K := ⟨E', H', hv, h⟩

section
variable {Γ : Ctx} {nt : Nat} {E : Env} {H : Heap} {w : World} {μ : List Plc} {a : Act}

/-! ### Code -/
inductive AEq : AExit → Exit → Prop where
  | normal : AEq .normal .normal
  | exit (id : Nat) : AEq (.exit id) (.exit id)
  | ret : AEq .ret .ret

def liftK (Γ : Ctx) (nt : Nat) (K : AExit → Env → Heap → Prop) : Exit → Act → World → Prop := fun e a w => ∃ x E H μ, AEq x e ∧ K x E H ∧ Ok Γ nt E H a w μ

/-- What is to be shown of a loop. -/
structure ALoop (P : Program) (T : TTab) (c : Code) (E : Env) (H : Heap) (K : AExit → Env → Heap → Prop) : Prop where
  go : ∀ Γ nt a w μ, Γ.P = P → POk P T → codeOK nt c = true → Ok Γ nt E H a w μ → (Code.loop c).wp P (liftK Γ nt K) a w

noncomputable def xcode (P : Program) (T : TTab) (c : Code) : Env → Heap → (AExit → Env → Heap → Prop) → Prop :=
  Code.rec (motive := fun _ => Env → Heap → (AExit → Env → Heap → Prop) → Prop)
    (fun E H K => K .normal E H)
    (fun _ ops draw E H K => (match draw with | true => ADraw P T ops.toList E H (K .normal) | false => xg P false (ACall P) T 4294967296 ops.toList ops.toList 0 [] E [] H (K .normal)))
    (fun _ _ iha ihb E H K => iha E H fun x e h => match x with
      | .normal => ihb e h K
      | .exit j => K (.exit j) e h
      | .ret => K .ret e h)
    (fun c _ _ iha ihb E H K => match c with
      | .tmp t => (match look E t with
        | .fr (.sc (.bool v)) => bsel v (iha ((t, B1 true) :: E) H K) (ihb ((t, B1 false) :: E) H K)
        | _ => False)
      | .const (.bool v) => bsel v (iha E H K) (ihb E H K)
      | _ => False)
    (fun id _ ih E H K => ih E H (blockK id K))
    (fun a _ E H K => ALoop P T a E H K)
    (fun _ _ _ _ _ _ _ _ _ => False)
    (fun id E H K => K (.exit id) E H)
    (fun _ ih E H K => ih E H K)
    (fun _ E H K => K .normal E H)
    (fun _ _ _ _ => False)
    (fun E H K => K .ret E H)
    (fun _ _ _ _ => False) c

theorem callsOk_acall : CallsOk Γ (ACall Γ.P) := fun _ _ _ _ _ h => h

theorem xcode_sound {P : Program} {T : TTab} (hT : POk P T) : ∀ (c : Code) (Γ : Ctx) (nt : Nat) (E : Env) (H : Heap) (K : AExit → Env → Heap → Prop) (a : Act) (w : World) (μ : List Plc),
    Γ.P = P → codeOK nt c = true → xcode P T c E H K → Ok Γ nt E H a w μ → c.wp P (liftK Γ nt K) a w
  | .skip, Γ, nt, E, H, K, a, w, μ, hP, hc, h, hok => wp_skip ⟨_, E, H, μ, .normal, h, hok⟩
  | .region id ops draw, Γ, nt, E, H, K, a, w, μ, hP, hc, h, hok => by
    subst hP
    simp only [codeOK, Bool.and_eq_true, List.all_eq_true] at hc
    cases draw with
    | false =>
      have h' : xg Γ.P false (ACall Γ.P) T 4294967296 ops.toList ops.toList 0 [] E [] H (K .normal) := h
      refine wp_region ?_
      have := xg_sound (nt := nt) (Q := liftK Γ nt K) hT.tok callsOk_acall ops.toList 0 [] E [] H (look E) a w μ (by simp) hc.1 h' ⟨fun _ => .inr rfl, fun p hp => by cases hp⟩ hok.mem hok.size hok.env hok.defers (fun E' H' a' w' μ' hk ho => ⟨_, E', H', μ', .normal, hk, ho⟩)
      rw [List.range_eq_range']
      simpa using this
    | true =>
      have h' : ADraw Γ.P T ops.toList E H (K .normal) := h
      obtain ⟨E1, H1, hv, hx⟩ := h'.h
      obtain ⟨μ1, hok1⟩ := hv.ok hok
      exact xreg_draw hT.mix hT.tok hc.2 hc.1 hx hok1 (fun E' H' a' w' μ' hk ho => ⟨_, E', H', μ', .normal, hk, ho⟩)
  | .seq x y, Γ, nt, E, H, K, a, w, μ, hP, hc, h, hok => by
    simp only [codeOK, Bool.and_eq_true] at hc
    refine wp_seq (wp_mono (xcode_sound hT x Γ nt E H _ a w μ hP hc.1 h hok) ?_)
    rintro e a' w' ⟨x', E', H', μ', he, hk, hok'⟩
    cases he with
    | normal => exact xcode_sound hT y Γ nt E' H' K a' w' μ' hP hc.2 hk hok'
    | exit id => exact ⟨_, E', H', μ', .exit id, hk, hok'⟩
    | ret => exact ⟨_, E', H', μ', .ret, hk, hok'⟩
  | .cond c x y, Γ, nt, E, H, K, a, w, μ, hP, hc, h, hok => by
    simp only [codeOK, Bool.and_eq_true] at hc
    cases c with
    | tmp t =>
      have h' : (match look E t with
        | .fr (.sc (.bool v)) => bsel v (xcode P T x ((t, B1 true) :: E) H K) (xcode P T y ((t, B1 false) :: E) H K)
        | _ => False) := h
      have hr := hok.env t
      split at h'
      · rename_i b hb
        rw [hb] at hr
        have hv : a.eval (.tmp t) = .bool b := rep_sc hr
        have hok' : Ok Γ nt ((t, B1 b) :: E) H a w μ := ⟨hok.mem, hok.size, hok.env.cons hr, hok.defers⟩
        cases b with
        | true => exact wp_cond_true hv (xcode_sound hT x Γ nt _ H K a w μ hP hc.1 h' hok')
        | false => exact wp_cond_false hv (xcode_sound hT y Γ nt _ H K a w μ hP hc.2 h' hok')
      · exact h'.elim
    | const v =>
      cases v with
      | bool b =>
        have h' : bsel b (xcode P T x E H K) (xcode P T y E H K) := h
        cases b with
        | true => exact wp_cond_true rfl (xcode_sound hT x Γ nt _ H K a w μ hP hc.1 h' hok)
        | false => exact wp_cond_false rfl (xcode_sound hT y Γ nt _ H K a w μ hP hc.2 h' hok)
      | _ => exact False.elim h
    | global g => exact False.elim h
    | func f => exact False.elim h
  | .block id x, Γ, nt, E, H, K, a, w, μ, hP, hc, h, hok => by
    refine wp_block (wp_mono (xcode_sound hT x Γ nt E H _ a w μ hP hc h hok) ?_)
    rintro e a' w' ⟨x', E', H', μ', he, hk, hok'⟩
    cases he with
    | normal => exact ⟨_, E', H', μ', .normal, hk, hok'⟩
    | exit j =>
      simp only [Exit.inBlock]
      have hk' : (match Nat.beq j id with | true => K .normal E' H' | false => K (.exit j) E' H') := hk
      cases hj : Nat.beq j id with
      | true => rw [hj] at hk'; rw [if_pos (Nat.eq_of_beq_eq_true hj)]; exact ⟨_, E', H', μ', .normal, hk', hok'⟩
      | false => rw [hj] at hk'; rw [if_neg (Nat.ne_of_beq_eq_false hj)]; exact ⟨_, E', H', μ', .exit j, hk', hok'⟩
    | ret => exact ⟨_, E', H', μ', .ret, hk, hok'⟩
  | .loop x, Γ, nt, E, H, K, a, w, μ, hP, hc, h, hok => by
    have h' : ALoop P T x E H K := h
    exact h'.go Γ nt a w μ hP hT hc hok
  | .rangeFunc f ps x y, Γ, nt, E, H, K, a, w, μ, hP, hc, h, hok => False.elim h
  | .exit id, Γ, nt, E, H, K, a, w, μ, hP, hc, h, hok => wp_exit ⟨_, E, H, μ, .exit id, h, hok⟩
  | .scope x, Γ, nt, E, H, K, a, w, μ, hP, hc, h, hok => by
    refine wp_scope_straight (wp_mono (xcode_sound hT x Γ nt E H K a w μ hP hc h hok) ?_)
    rintro e a' w' ⟨x', E', H', μ', he, hk, hok'⟩
    cases he with
    | normal => exact ⟨_, E', H', μ', .normal, hk, hok'⟩
    | exit j => exact ⟨_, E', H', μ', .exit j, hk, hok'⟩
    | ret => exact ⟨_, E', H', μ', .ret, hk, hok'⟩
  | .label l, Γ, nt, E, H, K, a, w, μ, hP, hc, h, hok => wp_label ⟨_, E, H, μ, .normal, h, hok⟩
  | .goto l, Γ, nt, E, H, K, a, w, μ, hP, hc, h, hok => False.elim h
  | .ret, Γ, nt, E, H, K, a, w, μ, hP, hc, h, hok => wp_ret ⟨_, E, H, μ, .ret, h, hok⟩
  | .refuse s, Γ, nt, E, H, K, a, w, μ, hP, hc, h, hok => False.elim h


/-! ### A loop -/
/-- A round's end: the loop's head again, nearer to its end. -/
structure ANext {α : Type} (EE : α → Env) (HH : α → Heap) (m : α → Nat) (x : α) (E : Env) (H : Heap) : Prop where
  h : ∃ y, m y < m x ∧ ANx (EE y) (HH y) E H

/-- A loop is left. -/
structure ALeave (K : Env → Heap → Prop) (E : Env) (H : Heap) : Prop where
  h : ∃ E' H', ANx E' H' E H ∧ K E' H'

theorem leave {K : Env → Heap → Prop} {E : Env} {H : Heap} (h : K E H) : ALeave K E H := ⟨E, H, .refl, h⟩
theorem leaveV {K : Env → Heap → Prop} {E : Env} {H : Heap} (E' : Env) (H' : Heap) (hv : ANx E' H' E H) (h : K E' H') : ALeave K E H := ⟨E', H', hv, h⟩

def loopK {α : Type} (EE : α → Env) (HH : α → Heap) (m : α → Nat) (x : α) (K : AExit → Env → Heap → Prop) : AExit → Env → Heap → Prop
  | .normal, E, H => ANext EE HH m x E H
  | .exit j, E, H => ALeave (K (.exit j)) E H
  | .ret, E, H => K .ret E H

theorem aloop {P : Program} {T : TTab} {c : Code} {K : AExit → Env → Heap → Prop} {α : Type} (EE : α → Env) (HH : α → Heap) (m : α → Nat) (x0 : α) (h0 : ANx (EE x0) (HH x0) E H)
    (round : ∀ x, xcode P T c (EE x) (HH x) (loopK EE HH m x K)) : ALoop P T c E H K := by
  constructor
  intro Γ nt a w μ hP hT hc hok
  have h1 : ∃ x μ', Ok Γ nt (EE x) (HH x) a w μ' ∧ m x = m x0 := by
    obtain ⟨μ', hok'⟩ := h0.ok hok
    exact ⟨x0, μ', hok', rfl⟩
  have hwp : (Code.loop c).wp P (liftK Γ nt K) a w := by
    let I : Act → World → Prop := fun a w => ∃ x μ, Ok Γ nt (EE x) (HH x) a w μ
    classical
    let ms : Act → World → Nat → Prop := fun a w n => ∃ x μ, Ok Γ nt (EE x) (HH x) a w μ ∧ m x = n
    have key : ∀ n a w, ms a w n → ∀ (b : Frame) (k : List Item) (cs : List Frame), ∃ e a' w', liftK Γ nt K e a' w' ∧ Arrives P (lone (b.at a (.code c :: .inLoop c :: k)) cs w) b k cs e a' w' := by
      intro n
      induction n using Nat.strongRecOn with
      | _ n ih =>
        rintro a w ⟨x, μ, hok, hm⟩ b k cs
        obtain ⟨e, a₁, w₁, hq, harr⟩ := xcode_sound hT c Γ nt (EE x) (HH x) _ a w μ hP hc (round x) hok b (.inLoop c :: k) cs
        obtain ⟨x', E', H', μ', he, hk, hok'⟩ := hq
        cases he with
        | normal =>
          obtain ⟨y, hlt, hnx⟩ := hk.h
          obtain ⟨μ2, hok2⟩ := hnx.ok hok'
          have hnext : ms a₁ w₁ (m y) := ⟨y, μ2, hok2, rfl⟩
          obtain ⟨e₂, a₂, w₂, hq₂, harr₂⟩ := ih (m y) (by omega) a₁ w₁ hnext b k cs
          exact ⟨e₂, a₂, w₂, hq₂, .of_steps (Steps.trans harr (.one step_inLoop)) harr₂⟩
        | exit id =>
          obtain ⟨E2, H2, hv, hk2⟩ := hk.h
          obtain ⟨μ2, hok2⟩ := hv.ok hok'
          exact ⟨_, a₁, w₁, ⟨_, E2, H2, μ2, .exit id, hk2, hok2⟩, .pass (x := .inLoop c) rfl (fun _ _ => .inl (by simp)) harr⟩
        | ret => exact ⟨_, a₁, w₁, ⟨_, E', H', μ', .ret, hk, hok'⟩, .pass (x := .inLoop c) rfl (fun _ _ => .inl (by simp)) harr⟩
    intro b k cs
    obtain ⟨x, μ', hok', hm⟩ := h1
    obtain ⟨e, a', w', hq, harr⟩ := key (m x0) a w ⟨x, μ', hok', hm⟩ b k cs
    exact ⟨e, a', w', hq, .of_steps (.one step_loop) harr⟩
  exact hwp


end

end Go.AW
