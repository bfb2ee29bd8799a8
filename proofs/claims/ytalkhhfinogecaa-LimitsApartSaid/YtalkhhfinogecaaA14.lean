/- AW, part 14: the same state, seen otherwise. -/
import Derived.Test.YtalkhhfinogecaaA13C
namespace Go.AW
open Go Go.RowKit
variable {Γ : Ctx} {nt : Nat} {E : Env} {H : Heap} {w : World} {μ : List Plc} {a : Act}

/-! ### Views -/
noncomputable def SubE (A E : Env) : Prop := List.rec (motive := fun _ => Prop) True (fun p _ ih => look E p.1 = p.2 ∧ ih) A

theorem subE_look {A E : Env} (h : SubE A E) (t : Nat) : look A t = .bad ∨ look A t = look E t := by
  induction A with
  | nil => exact .inl rfl
  | cons p A ih =>
    have h' : look E p.1 = p.2 ∧ SubE A E := h
    obtain ⟨u, v⟩ := p
    rw [look_cons]
    split
    · rename_i he; subst he; exact .inr h'.1.symm
    · exact ih h'.2

def cl0 (n : Nat) : V → Bool
  | .fr _ => true
  | .fptr _ _ => true
  | .ptr b _ => Nat.blt b n
  | .buf b => Nat.blt b n
  | .bad => true
  | _ => false

def cl1 (n : Nat) : V → Bool
  | .agg xs => xs.all (cl0 n)
  | .clo _ xs => xs.all (cl0 n)
  | .tup xs => xs.all (cl0 n)
  | .ifc _ x => cl0 n x
  | v => cl0 n v

def clE (n : Nat) (E : Env) : Bool := E.all fun p => cl1 n p.2
def clH (n : Nat) (H : Heap) : Bool := H.all fun
  | .cells xs => xs.all (cl0 n)
  | _ => true

/-- A buffer is given another one's number, which is free. -/
noncomputable def rn0 (b' b : Nat) : V → V
  | .buf c => (match Nat.beq c b' with | true => .buf b | false => (match Nat.beq c b with | true => .bad | false => .buf c))
  | .ptr c o => (match Nat.beq c b' with | true => .bad | false => (match Nat.beq c b with | true => .bad | false => .ptr c o))
  | .fr f => .fr f
  | .fptr e o => .fptr e o
  | _ => .bad

noncomputable def rn1 (b' b : Nat) : V → V
  | .agg xs => .agg (xs.map (rn0 b' b))
  | .clo f xs => .clo f (xs.map (rn0 b' b))
  | .tup xs => .tup (xs.map (rn0 b' b))
  | .ifc t x => .ifc t (rn0 b' b x)
  | v => rn0 b' b v

noncomputable def rnB (b' b : Nat) : Blk → Blk
  | .cells xs => .cells (xs.map (rn0 b' b))
  | x => x

noncomputable def rnE (b' b : Nat) (E : Env) : Env := E.map fun p => (p.1, rn1 b' b p.2)
noncomputable def rnH (b' b : Nat) (H : Heap) : Heap := match nth H b' with
  | some x => setB (setB (H.map (rnB b' b)) b x) b' .dead
  | none => H

noncomputable def rnOK (b' b : Nat) (H : Heap) : Bool := match Nat.beq b b' with
  | true => false
  | false => (match nth H b, nth H b' with
    | some .dead, some (.buf _ _ _ _) => true
    | _, _ => false)

/-- A buffer counts as settled. -/
def fr0 (b n nb : Nat) (es : List (List F)) : V → V
  | .buf c => (match Nat.beq c b with | true => .fr (.sl n nb es) | false => .buf c)
  | .ptr c o => .ptr c o
  | .fr f => .fr f
  | .fptr e o => .fptr e o
  | _ => .bad

def fr1 (b n nb : Nat) (es : List (List F)) : V → V
  | .agg xs => .agg (xs.map (fr0 b n nb es))
  | .clo f xs => .clo f (xs.map (fr0 b n nb es))
  | .tup xs => .tup (xs.map (fr0 b n nb es))
  | .ifc t x => .ifc t (fr0 b n nb es x)
  | v => fr0 b n nb es v

def frB (b n nb : Nat) (es : List (List F)) : Blk → Blk
  | .cells xs => .cells (xs.map (fr0 b n nb es))
  | x => x

noncomputable def frV (b : Nat) (H : Heap) (v : V) : V := match nth H b with
  | some (.buf _ n nb es) => fr1 b n nb es v
  | _ => v
noncomputable def frE (b : Nat) (H : Heap) (E : Env) : Env := match nth H b with
  | some (.buf _ n nb es) => E.map fun p => (p.1, fr1 b n nb es p.2)
  | _ => E
noncomputable def frH (b : Nat) (H : Heap) : Heap := match nth H b with
  | some (.buf _ n nb es) => setB (H.map (frB b n nb es)) b .dead
  | _ => H

/-- The state, seen otherwise: A and B instead of E and H. -/
inductive ANx (A : Env) (B : Heap) : Env → Heap → Prop where
  | refl : ANx A B A B
  | same {E : Env} {H : Heap} (h : SubE A E) (hh : B = H) : ANx A B E H
  | trunc {E : Env} {H : Heap} (J : Heap) (h : SubE A E) (hh : H = B ++ J) (cE : clE B.length A = true) (cH : clH B.length B = true) : ANx A B E H
  | move {E : Env} {H : Heap} (b' b : Nat) (hb : rnOK b' b H = true) (h : ANx A B (rnE b' b E) (rnH b' b H)) : ANx A B E H
  | frz {E : Env} {H : Heap} (b : Nat) (h : ANx A B (frE b H E) (frH b H)) : ANx A B E H
  | thaw {E : Env} {H : Heap} (d e n nb : Nat) (hn : look E d = .fr (.sc (.slice none 0 0))) (h : ANx A B ((d, .buf H.length) :: E) (H ++ [.buf e n nb []])) : ANx A B E H
  | let_ {E : Env} {H : Heap} (d : Nat) {v : V} (hv : look E d = v) (h : ANx A B ((d, v) :: E) H) : ANx A B E H

theorem rep_cl0 {I I' : Nat → Prop} {μ : List Plc} {n : Nat} {x : V} {v : Value} (h : RepV w I μ x v) (hc : cl0 n x = true) (hI : ∀ k, I k → I' k) : RepV w I' (μ.take n) x v := by
  have hg : ∀ (b : Nat) (l : Plc), Nat.blt b n = true → μ[b]? = some l → (μ.take n)[b]? = some l := fun b l hb hl => by
    rw [List.getElem?_take, if_pos (by simpa [Nat.blt_eq] using hb)]; exact hl
  cases h with
  | fr f v h => exact .fr f v (h.mono hI (fun _ _ => rfl))
  | ptr b o k hl => exact .ptr b o k (hg _ _ hc hl)
  | fptr es o k o0 cv hk hcc hr => exact .fptr es o k o0 cv (hI _ hk) hcc (fun j f hj => (hr j f hj).mono hI (fun _ _ => rfl))
  | buf b m c a hl => exact .buf b m c a (hg _ _ hc hl)
  | bdead b v hl h1 => exact .bdead b v (hg _ _ hc hl) h1
  | bad v => exact .bad v
  | _ => cases hc

theorem rep_cl1 {I I' : Nat → Prop} {μ : List Plc} {n : Nat} {x : V} {v : Value} (h : RepV w I μ x v) (hc : cl1 n x = true) (hI : ∀ k, I k → I' k) : RepV w I' (μ.take n) x v := by
  cases h with
  | agg xs vs hl h1 h => exact .agg xs vs hl h1 (fun i y hy => rep_cl0 (h i y hy) (List.all_eq_true.1 hc y (List.mem_of_getElem? hy)) hI)
  | clo f xs vs hl h => exact .clo f xs vs hl (fun i y hy => rep_cl0 (h i y hy) (List.all_eq_true.1 hc y (List.mem_of_getElem? hy)) hI)
  | tup xs vs hl h => exact .tup xs vs hl (fun i y hy => rep_cl0 (h i y hy) (List.all_eq_true.1 hc y (List.mem_of_getElem? hy)) hI)
  | ifc t x v h => exact .ifc t x v (rep_cl0 h hc hI)
  | fr f v h => exact rep_cl0 (.fr f v h) hc hI
  | ptr b o k hl => exact rep_cl0 (.ptr b o k hl) hc hI
  | fptr es o k o0 cv hk hcc hr => exact rep_cl0 (.fptr es o k o0 cv hk hcc hr) hc hI
  | buf b m c a hl => exact rep_cl0 (.buf b m c a hl) hc hI
  | bdead b v hl h1 => exact rep_cl0 (.bdead b v hl h1) hc hI
  | bad v => exact .bad v

theorem look_mem {P : V → Bool} (hP : P .bad = true) {E : Env} (h : E.all (fun p => P p.2) = true) (t : Nat) : P (look E t) = true := by
  induction E with
  | nil => exact hP
  | cons p E ih =>
    obtain ⟨u, v⟩ := p
    simp only [List.all_cons, Bool.and_eq_true] at h
    rw [look_cons]
    split
    · exact h.1
    · exact ih h.2

/-- Blocks that nobody needs any more are let go. -/
theorem Mem.take {J : Heap} (hm : Mem Γ (H ++ J) w μ) (hc : clH H.length H = true) : Mem Γ H w (μ.take H.length) ∧ (∀ k, Imm Γ w μ k → Imm Γ w (μ.take H.length) k) := by
  have hget : ∀ i l, (μ.take H.length)[i]? = some l → i < H.length ∧ μ[i]? = some l := fun i l h => by
    rw [List.getElem?_take] at h
    by_cases hi : i < H.length
    · rw [if_pos hi] at h; exact ⟨hi, h⟩
    · rw [if_neg hi] at h; cases h
  have hown : ∀ k, owned (μ.take H.length) k → owned μ k := fun k ⟨i, l, h, hk⟩ => ⟨i, l, (hget i l h).2, hk⟩
  have himm : ∀ k, Imm Γ w μ k → Imm Γ w (μ.take H.length) k := fun k ⟨i1, i2, i3⟩ => ⟨i1, i2, fun h => i3 (hown k h)⟩
  refine ⟨⟨by rw [List.length_take, hm.len]; simp, fun k hk => hm.below k (hown k hk), fun k hk => hm.own0 k (hown k hk), fun i j l1 l2 k hi hj => hm.inj i j l1 l2 k (hget i l1 hi).2 (hget j l2 hj).2, fun i b l hi hl => ?_, hm.ext, hm.i0⟩, himm⟩
  obtain ⟨hlt, hl'⟩ := hget i l hl
  have hb := hm.blk i b l (by rw [List.getElem?_append_left hlt]; exact hi) hl'
  cases b with
  | cells xs =>
    cases l with
    | at_ k =>
      obtain ⟨c, e, h1, h2, h3, h4⟩ := hb
      have hcx := List.all_eq_true.1 hc _ (List.mem_of_getElem? hi)
      exact ⟨c, e, h1, h2, h3, fun j x hx => rep_cl0 (h4 j x hx) (List.all_eq_true.1 hcx x (List.mem_of_getElem? hx)) himm⟩
    | hdr => exact hb.elim
    | none => exact hb.elim
    | free => exact hb.elim
  | buf e n nb es =>
    cases l with
    | at_ => exact hb.elim
    | hdr ad m c =>
      obtain ⟨h1, h0, h2, vs, h3, h4⟩ := hb
      exact ⟨h1, h0, h2, vs, h3, fun j f hf => (h4 j f hf).mono himm (fun _ _ => rfl)⟩
    | none => exact hb.elim
    | free => exact hb.elim
  | dead => trivial

theorem look_map (g : V → V) (hg : g .bad = .bad) (E : Env) (t : Nat) : look (E.map fun p => (p.1, g p.2)) t = g (look E t) := by
  induction E with
  | nil => exact hg.symm
  | cons p E ih =>
    obtain ⟨u, v⟩ := p
    rw [List.map_cons, look_cons, look_cons]
    split
    · rfl
    · exact ih

theorem rep_rn0 {I : Nat → Prop} {μ μ' : List Plc} {b' b : Nat} (ho : ∀ i l, i ≠ b → i ≠ b' → μ[i]? = some l → μ'[i]? = some l) (hb : ∀ l, μ[b']? = some l → μ'[b]? = some l) {x : V} {v : Value} (h : RepV w I μ x v) : RepV w I μ' (rn0 b' b x) v := by
  cases h with
  | fr f v h => exact .fr f v h
  | ptr c o k hl =>
    simp only [rn0]
    split
    · exact .bad _
    · rename_i h1
      split
      · exact .bad _
      · rename_i h2
        exact .ptr _ _ _ (ho _ _ (Nat.ne_of_beq_eq_false h2) (Nat.ne_of_beq_eq_false h1) hl)
  | fptr es o k o0 cv hk hcc hr => exact .fptr es o k o0 cv hk hcc hr
  | buf c m cap a hl =>
    simp only [rn0]
    split
    · rename_i h1
      have := Nat.eq_of_beq_eq_true h1
      subst this
      exact .buf _ _ _ _ (hb _ hl)
    · rename_i h1
      split
      · exact .bad _
      · rename_i h2
        exact .buf _ _ _ _ (ho _ _ (Nat.ne_of_beq_eq_false h2) (Nat.ne_of_beq_eq_false h1) hl)
  | bdead c v hl h0 =>
    simp only [rn0]
    split
    · rename_i h1
      have := Nat.eq_of_beq_eq_true h1
      subst this
      exact .bdead _ _ (hb _ hl) h0
    · rename_i h1
      split
      · exact .bad _
      · rename_i h2
        exact .bdead _ _ (ho _ _ (Nat.ne_of_beq_eq_false h2) (Nat.ne_of_beq_eq_false h1) hl) h0
  | _ => exact .bad _

theorem rep_rn1 {I : Nat → Prop} {μ μ' : List Plc} {b' b : Nat} (ho : ∀ i l, i ≠ b → i ≠ b' → μ[i]? = some l → μ'[i]? = some l) (hb : ∀ l, μ[b']? = some l → μ'[b]? = some l) {x : V} {v : Value} (h : RepV w I μ x v) : RepV w I μ' (rn1 b' b x) v := by
  have many : ∀ {xs : List V} {g : Nat → Value}, (∀ (i : Nat) (x : V), xs[i]? = some x → RepV w I μ x (g i)) → ∀ (i : Nat) (x : V), (xs.map (rn0 b' b))[i]? = some x → RepV w I μ' x (g i) := by
    intro xs g hx i x hi
    rw [List.getElem?_map] at hi
    cases hq : xs[i]? with
    | none => rw [hq] at hi; cases hi
    | some y => rw [hq] at hi; cases hi; exact rep_rn0 ho hb (hx i y hq)
  cases h with
  | agg xs vs hl h1 h => exact .agg _ _ (by simpa using hl) h1 (many h)
  | clo f xs vs hl h => exact .clo _ _ _ (by simpa using hl) (many h)
  | ifc t x v h => exact .ifc _ _ _ (rep_rn0 ho hb h)
  | tup xs vs hl h => exact .tup _ _ (by simpa using hl) (many h)
  | fr f v h => exact rep_rn0 ho hb (.fr f v h)
  | ptr c q k hl => exact rep_rn0 ho hb (.ptr c q k hl)
  | fptr es q k o0 cv hk hc hr => exact rep_rn0 ho hb (.fptr es q k o0 cv hk hc hr)
  | buf c m cap ad hl => exact rep_rn0 ho hb (.buf c m cap ad hl)
  | bdead c v hl h1 => exact rep_rn0 ho hb (.bdead c v hl h1)
  | bad v => exact .bad v

theorem Ok.move {b' b : Nat} (hok : Ok Γ nt E H a w μ) (hb : rnOK b' b H = true) : ∃ μ', Ok Γ nt (rnE b' b E) (rnH b' b H) a w μ' := by
  unfold rnOK at hb
  split at hb
  · cases hb
  · rename_i hne
    have hne := Nat.ne_of_beq_eq_false hne
    split at hb
    · rename_i e n nb es h1 h2
      have hm := hok.mem
      have e2 := h2
      rw [nth_eq] at h1 h2
      have hblt : b < μ.length := by rw [hm.len]; exact (List.getElem?_eq_some_iff.1 h1).1
      have hblt' : b' < μ.length := by rw [hm.len]; exact (List.getElem?_eq_some_iff.1 h2).1
      obtain ⟨l, hl⟩ : ∃ l, μ[b']? = some l := ⟨μ[b'], by simp⟩
      let μ' := (μ.set b l).set b' .none
      have ho : ∀ i l', i ≠ b → i ≠ b' → μ[i]? = some l' → μ'[i]? = some l' := fun i l' h1 h2 h => by
        simp only [μ']; rw [List.getElem?_set_ne (Ne.symm h2), List.getElem?_set_ne (Ne.symm h1)]; exact h
      have hbb : μ'[b]? = some l := by simp only [μ']; rw [List.getElem?_set_ne (Ne.symm hne), List.getElem?_set_self hblt]
      have hb'b : μ'[b']? = some .none := by simp only [μ']; rw [List.getElem?_set_self (by simpa using hblt')]
      have hget : ∀ i l', μ'[i]? = some l' → (i ≠ b ∧ i ≠ b' ∧ μ[i]? = some l') ∨ (i = b ∧ l' = l) ∨ (i = b' ∧ l' = .none) := fun i l' h => by
        by_cases e1 : i = b'
        · subst e1; rw [hb'b] at h; cases h; exact .inr (.inr ⟨rfl, rfl⟩)
        · by_cases e2 : i = b
          · subst e2; rw [hbb] at h; cases h; exact .inr (.inl ⟨rfl, rfl⟩)
          · refine .inl ⟨e2, e1, ?_⟩
            simp only [μ'] at h
            rwa [List.getElem?_set_ne (Ne.symm e1), List.getElem?_set_ne (Ne.symm e2)] at h
      -- what the free number owned: nothing
      have hown : ∀ k, owned μ' k → owned μ k := by
        rintro k ⟨i, l', h, hk⟩
        rcases hget i l' h with ⟨_, _, h⟩ | ⟨rfl, rfl⟩ | ⟨_, rfl⟩
        · exact ⟨i, l', h, hk⟩
        · exact ⟨b', _, hl, hk⟩
        · cases hk
      have himm : ∀ k, Imm Γ w μ k → Imm Γ w μ' k := fun k ⟨i1, i2, i3⟩ => ⟨i1, i2, fun h => i3 (hown k h)⟩
      have hr0 : ∀ {x : V} {v : Value}, Rep Γ w μ x v → Rep Γ w μ' (rn0 b' b x) v := fun h => rep_rn0 ho (fun l' h' => by rw [hl] at h'; cases h'; exact hbb) (h.mono himm (fun _ _ => rfl) (.refl _))
      have hr1 : ∀ {x : V} {v : Value}, Rep Γ w μ x v → Rep Γ w μ' (rn1 b' b x) v := fun h => rep_rn1 ho (fun l' h' => by rw [hl] at h'; cases h'; exact hbb) (h.mono himm (fun _ _ => rfl) (.refl _))
      have hrH : rnH b' b H = ((H.map (rnB b' b)).set b (.buf e n nb es)).set b' .dead := by
        unfold rnH; rw [e2]; simp only [setB_eq]
      refine ⟨μ', ⟨?_, hok.size, fun t => ?_, hok.defers⟩⟩
      · rw [hrH]
        refine ⟨by simp [μ', hm.len], fun k hk => hm.below k (hown k hk), fun k hk => hm.own0 k (hown k hk), fun i j l1 l2 k hi hj hik hjk => ?_, fun i bl l' hi hl' => ?_, hm.ext, hm.i0⟩
        · rcases hget i l1 hi with ⟨n1, n2, hi2⟩ | ⟨ei, rfl⟩ | ⟨_, rfl⟩
          · rcases hget j l2 hj with ⟨m1, m2, hj2⟩ | ⟨ej, rfl⟩ | ⟨_, rfl⟩
            · exact hm.inj i j l1 l2 k hi2 hj2 hik hjk
            · exact absurd (hm.inj i b' l1 _ k hi2 hl hik hjk) n2
            · cases hjk
          · rcases hget j l2 hj with ⟨m1, m2, hj2⟩ | ⟨ej, rfl⟩ | ⟨_, rfl⟩
            · exact absurd (hm.inj j b' l2 _ k hj2 hl hjk hik) m2
            · rw [ei, ej]
            · cases hjk
          · cases hik
        · rcases hget i l' hl' with ⟨n1, n2, h⟩ | ⟨rfl, rfl⟩ | ⟨rfl, rfl⟩
          · rw [List.getElem?_set_ne (Ne.symm n2), List.getElem?_set_ne (Ne.symm n1), List.getElem?_map] at hi
            cases hq : H[i]? with
            | none => rw [hq] at hi; cases hi
            | some bl0 =>
              rw [hq] at hi; simp only [Option.map_some, Option.some.injEq] at hi; subst hi
              have hbo := hm.blk i bl0 l' hq h
              cases bl0 with
              | cells xs =>
                cases l' with
                | at_ k =>
                  obtain ⟨cc, e, g1, g2, g3, g4⟩ := hbo
                  refine ⟨cc, e, g1, by simpa using g2, g3, fun j x hx' => ?_⟩
                  rw [List.getElem?_map] at hx'
                  cases hq2 : xs[j]? with
                  | none => rw [hq2] at hx'; cases hx'
                  | some y => rw [hq2] at hx'; cases hx'; exact hr0 (g4 j y hq2)
                | hdr => exact hbo.elim
                | none => exact hbo.elim
                | free => exact hbo.elim
              | buf e n nb es =>
                cases l' with
                | at_ => exact hbo.elim
                | hdr a' m' c' =>
                  obtain ⟨g1, g0, g2, vs, g3, g4⟩ := hbo
                  exact ⟨g1, g0, g2, vs, g3, fun j f hf => (g4 j f hf).mono himm (fun _ _ => rfl)⟩
                | none => exact hbo.elim
                | free => exact hbo.elim
              | dead => trivial
          · rw [List.getElem?_set_ne (Ne.symm hne), List.getElem?_set_self (by simpa [hm.len] using hblt)] at hi
            cases hi
            have hbo := hm.blk b' _ l' h2 hl
            cases l' with
            | at_ => exact hbo.elim
            | hdr a' m' c' =>
              obtain ⟨g1, g0, g2, vs, g3, g4⟩ := hbo
              exact ⟨g1, g0, g2, vs, g3, fun j f hf => (g4 j f hf).mono himm (fun _ _ => rfl)⟩
            | none => exact hbo.elim
            | free => exact hbo.elim
          · rw [List.getElem?_set_self (by simpa [hm.len] using hblt')] at hi
            cases hi; trivial
      · unfold rnE
        rw [look_map (rn1 b' b) rfl]
        exact hr1 (hok.env t)
    · cases hb


/-! ### Freezing -/
theorem rep_fr0 {I I' : Nat → Prop} {μ μ' : List Plc} {b n nb : Nat} {es : List (List F)} (ho : ∀ i l, i ≠ b → μ[i]? = some l → μ'[i]? = some l) (hpt : ∀ k, μ[b]? ≠ some (.at_ k)) (hI : ∀ k, I k → I' k)
    (hb : ∀ v, RepV w I μ (.buf b) v → RepV w I' μ' (.fr (.sl n nb es)) v) {x : V} {v : Value} (h : RepV w I μ x v) : RepV w I' μ' (fr0 b n nb es x) v := by
  cases h with
  | fr f v h => exact .fr f v (h.mono hI (fun _ _ => rfl))
  | ptr c o k hl =>
    by_cases hc : c = b
    · subst hc; exact absurd hl (hpt k)
    · exact .ptr _ _ _ (ho _ _ hc hl)
  | fptr es o k o0 cv hk hcc hr => exact .fptr es o k o0 cv (hI _ hk) hcc (fun j f hj => (hr j f hj).mono hI (fun _ _ => rfl))
  | buf c m cap a hl =>
    simp only [fr0]
    split
    · rename_i h1
      have := Nat.eq_of_beq_eq_true h1
      subst this
      exact hb _ (.buf _ _ _ _ hl)
    · rename_i h1
      exact .buf _ _ _ _ (ho _ _ (Nat.ne_of_beq_eq_false h1) hl)
  | bdead c v hl h0 =>
    simp only [fr0]
    split
    · rename_i h1
      have := Nat.eq_of_beq_eq_true h1
      subst this
      exact hb _ (.bdead _ _ hl h0)
    · rename_i h1
      exact .bdead _ _ (ho _ _ (Nat.ne_of_beq_eq_false h1) hl) h0
  | _ => exact .bad _

theorem rep_fr1 {I I' : Nat → Prop} {μ μ' : List Plc} {b n nb : Nat} {es : List (List F)} (ho : ∀ i l, i ≠ b → μ[i]? = some l → μ'[i]? = some l) (hpt : ∀ k, μ[b]? ≠ some (.at_ k)) (hI : ∀ k, I k → I' k)
    (hb : ∀ v, RepV w I μ (.buf b) v → RepV w I' μ' (.fr (.sl n nb es)) v) {x : V} {v : Value} (h : RepV w I μ x v) : RepV w I' μ' (fr1 b n nb es x) v := by
  have many : ∀ {xs : List V} {g : Nat → Value}, (∀ (i : Nat) (x : V), xs[i]? = some x → RepV w I μ x (g i)) → ∀ (i : Nat) (x : V), (xs.map (fr0 b n nb es))[i]? = some x → RepV w I' μ' x (g i) := by
    intro xs g hx i x hi
    rw [List.getElem?_map] at hi
    cases hq : xs[i]? with
    | none => rw [hq] at hi; cases hi
    | some y => rw [hq] at hi; cases hi; exact rep_fr0 ho hpt hI hb (hx i y hq)
  cases h with
  | agg xs vs hl h1 h => exact .agg _ _ (by simpa using hl) h1 (many h)
  | clo f xs vs hl h => exact .clo _ _ _ (by simpa using hl) (many h)
  | ifc t x v h => exact .ifc _ _ _ (rep_fr0 ho hpt hI hb h)
  | tup xs vs hl h => exact .tup _ _ (by simpa using hl) (many h)
  | fr f v h => exact rep_fr0 ho hpt hI hb (.fr f v h)
  | ptr c q k hl => exact rep_fr0 ho hpt hI hb (.ptr c q k hl)
  | fptr es q k o0 cv hk hc hr => exact rep_fr0 ho hpt hI hb (.fptr es q k o0 cv hk hc hr)
  | buf c m cap ad hl => exact rep_fr0 ho hpt hI hb (.buf c m cap ad hl)
  | bdead c v hl h1 => exact rep_fr0 ho hpt hI hb (.bdead c v hl h1)
  | bad v => exact .bad v

theorem Mem.freeze {b e n nb : Nat} {es : List (List F)} (hm : Mem Γ H w μ) (h1 : H[b]? = some (.buf e n nb es)) :
    ∃ μ', Mem Γ ((H.map (frB b n nb es)).set b .dead) w μ' ∧ ∀ x v, Rep Γ w μ x v → Rep Γ w μ' (fr1 b n nb es x) v := by
  have hblt : b < μ.length := by rw [hm.len]; exact (List.getElem?_eq_some_iff.1 h1).1
  obtain ⟨l, hl⟩ : ∃ l, μ[b]? = some l := ⟨μ[b], by simp⟩
  have hbo := hm.blk b _ l h1 hl
  cases l with
  | at_ => exact hbo.elim
  | none => exact hbo.elim
  | free => exact hbo.elim
  | hdr ad m c =>
    obtain ⟨g1, g0, g2, vs, g3, g4⟩ := hbo
    subst g1
    have ho : ∀ i l', i ≠ b → μ[i]? = some l' → (μ.set b .none)[i]? = some l' := fun i l' hi h => by rw [List.getElem?_set_ne (Ne.symm hi)]; exact h
    have hb0 : (μ.set b .none)[b]? = some .none := List.getElem?_set_self hblt
    have hget : ∀ i l', (μ.set b .none)[i]? = some l' → (i ≠ b ∧ μ[i]? = some l') ∨ (i = b ∧ l' = .none) := fun i l' h => by
      by_cases hi : i = b
      · subst hi; rw [hb0] at h; cases h; exact .inr ⟨rfl, rfl⟩
      · rw [List.getElem?_set_ne (Ne.symm hi)] at h; exact .inl ⟨hi, h⟩
    have hown : ∀ k, owned (μ.set b .none) k → owned μ k := by
      rintro k ⟨i, l', h, hk⟩
      rcases hget i l' h with ⟨_, h⟩ | ⟨_, rfl⟩
      · exact ⟨i, l', h, hk⟩
      · cases hk
    have himm : ∀ k, Imm Γ w μ k → Imm Γ w (μ.set b .none) k := fun k ⟨i1, i2, i3⟩ => ⟨i1, i2, fun h => i3 (hown k h)⟩
    have hpt : ∀ k, μ[b]? ≠ some (.at_ k) := fun k h => by rw [hl] at h; cases h
    have hbuf : ∀ v, RepV w (Imm Γ w μ) μ (.buf b) v → RepV w (Imm Γ w (μ.set b .none)) (μ.set b .none) (.fr (.sl n nb es)) v := by
      intro v hv
      cases hv with
      | bdead b v hl' _ => rw [hl] at hl'; cases hl'
      | buf b m' c' ad' hl' =>
        rw [hl] at hl'
        cases hl'
        by_cases h0 : es = []
        · subst h0; exact .fr _ _ (.nil _ _ _ _)
        · rcases g3.2 with ⟨hv, hz⟩ | ⟨g, cap, cur, hv, hg, hh, hcap, _, hcs, htake⟩
          · exact absurd (List.eq_nil_of_length_eq_zero hz) h0
          · have hgo : owned μ g := by
              cases ad with
              | none => simp [hdrV] at hv
              | some g' => simp only [hdrV, Option.map_some, Value.slice.injEq, Option.some.injEq, Addr.mk.injEq] at hv; exact ⟨b, _, hl, by rw [← hv.1.1]; rfl⟩
            have hng : ¬ owned (μ.set b .none) g := by
              rintro ⟨i, l', h, hk⟩
              rcases hget i l' h with ⟨hi, h⟩ | ⟨_, rfl⟩
              · refine hi (hm.inj i b l' _ g h hl hk ?_)
                cases ad with
                | none => simp [hdrV] at hv
                | some g' => simp only [hdrV, Option.map_some, Value.slice.injEq, Option.some.injEq, Addr.mk.injEq] at hv; rw [← hv.1.1]; rfl
              · cases hk
            rw [hv]
            have hgi : Imm Γ w (μ.set b .none) g := ⟨.inr hg, by have := (Array.getElem?_eq_some_iff.1 hh).1; exact this, hng⟩
            have hn : ∀ (i : Nat) (r : List F), es[i]? = some r → r.length = n := fun i r hr => g2 r (List.mem_of_getElem? hr)
            have key : ∀ (i : Nat) (r : List F) (j : Nat) (f : F), es[i]? = some r → r[j]? = some f → w.cell? ⟨g, 0 + i * n + j, none⟩ = some (vs.getD (i * n + j) undef) ∧ RepFr Γ w μ f (vs.getD (i * n + j) undef) := by
              intro i r j f hr hf
              have hj : j < n := by have := (List.getElem?_eq_some_iff.1 hf).1; rw [hn i r hr] at this; exact this
              have hfl := flat_get' es i j r g2 hr hj
              rw [hf] at hfl
              refine ⟨?_, g4 _ f hfl⟩
              have hlt : i * n + j < vs.length := by rw [g3.1, ← flat_length es g2]; exact (List.getElem?_eq_some_iff.1 hfl).1
              have hcell := World.ownsRow.cells g3 (g := g) (by rw [hv]; rfl) (i * n + j) vs[i * n + j] (by simp)
              rw [Addr.add_mid] at hcell
              rw [Nat.add_assoc, hcell]
              simp [List.getD, hlt]
            exact .fr _ _ (.sl n nb es g 0 cap (fun i j => vs.getD (i * n + j) undef) hgi hcap g0 hn (fun i r j f hr hf => (key i r j f hr hf).1) (fun i r j f hr hf => (key i r j f hr hf).2.mono himm (fun _ _ => rfl)))
    have hr0 : ∀ {x : V} {v : Value}, Rep Γ w μ x v → Rep Γ w (μ.set b .none) (fr0 b n nb es x) v := fun h => rep_fr0 ho hpt himm hbuf h
    refine ⟨μ.set b .none, ⟨by simp [hm.len], fun k hk => hm.below k (hown k hk), fun k hk => hm.own0 k (hown k hk), fun i j l1 l2 k hi hj hik hjk => ?_, fun i bl l' hi hl' => ?_, hm.ext, hm.i0⟩, fun x v h => rep_fr1 ho hpt himm hbuf h⟩
    · rcases hget i l1 hi with ⟨n1, hi2⟩ | ⟨_, rfl⟩
      · rcases hget j l2 hj with ⟨m1, hj2⟩ | ⟨_, rfl⟩
        · exact hm.inj i j l1 l2 k hi2 hj2 hik hjk
        · cases hjk
      · cases hik
    · rcases hget i l' hl' with ⟨n1, h⟩ | ⟨rfl, rfl⟩
      · rw [List.getElem?_set_ne (Ne.symm n1), List.getElem?_map] at hi
        cases hq : H[i]? with
        | none => rw [hq] at hi; cases hi
        | some bl0 =>
          rw [hq] at hi; simp only [Option.map_some, Option.some.injEq] at hi; subst hi
          have hbo := hm.blk i bl0 l' hq h
          cases bl0 with
          | cells xs =>
            cases l' with
            | at_ k =>
              obtain ⟨cc, e, q1, q2, q3, q4⟩ := hbo
              refine ⟨cc, e, q1, by simpa using q2, q3, fun j x hx' => ?_⟩
              rw [List.getElem?_map] at hx'
              cases hq2 : xs[j]? with
              | none => rw [hq2] at hx'; cases hx'
              | some y => rw [hq2] at hx'; cases hx'; exact hr0 (q4 j y hq2)
            | hdr => exact hbo.elim
            | none => exact hbo.elim
            | free => exact hbo.elim
          | buf e n nb es =>
            cases l' with
            | at_ => exact hbo.elim
            | hdr a' m' c' =>
              obtain ⟨q1, q0, q2, vs, q3, q4⟩ := hbo
              exact ⟨q1, q0, q2, vs, q3, fun j f hf => (q4 j f hf).mono himm (fun _ _ => rfl)⟩
            | none => exact hbo.elim
            | free => exact hbo.elim
          | dead => trivial
      · rw [List.getElem?_set_self (by simpa [hm.len] using hblt)] at hi
        cases hi; trivial

theorem Ok.freeze {b : Nat} (hok : Ok Γ nt E H a w μ) : ∃ μ', Ok Γ nt (frE b H E) (frH b H) a w μ' := by
  unfold frE frH
  rw [nth_eq]
  cases hb : H[b]? with
  | none => exact ⟨μ, hok⟩
  | some x =>
    cases x with
    | buf e n nb es =>
      obtain ⟨μ', h1, h2⟩ := hok.mem.freeze hb
      refine ⟨μ', ⟨by show Mem Γ (setB (H.map (frB b n nb es)) b .dead) w μ'; rw [setB_eq]; exact h1, hok.size, fun t => ?_, hok.defers⟩⟩
      have := h2 _ _ (hok.env t)
      show Rep Γ w μ' (look (E.map fun p => (p.1, fr1 b n nb es p.2)) t) _
      rw [look_map (fr1 b n nb es) rfl]
      exact this
    | _ => exact ⟨μ, hok⟩

theorem acallF {P : Program} {g : Nat} {args : List V} {E : Env} {H : Heap} {K : V → Env → Heap → Prop} {v : V} (b : Nat) (h : PCall P g (args.map (frV b H)) v) (k : K v (frE b H E) (frH b H)) : ACall P g args E H K := by
  constructor
  intro Γ w μ cargs tmps hP hm hE hr
  have key : ∃ μ', Mem Γ (frH b H) w μ' ∧ EnvOk Γ w μ' (frE b H E) tmps ∧ RepArgs Γ w μ' (args.map (frV b H)) cargs := by
    unfold frE frH
    have e : ∀ x, frV b H x = (match H[b]? with | some (.buf _ n nb es) => fr1 b n nb es x | _ => x) := fun x => by unfold frV; rw [nth_eq]
    rw [nth_eq]
    cases hb : H[b]? with
    | none =>
      refine ⟨μ, hm, hE, ?_⟩
      have : args.map (frV b H) = args := by
        conv => rhs; rw [← List.map_id args]
        exact List.map_congr_left fun x _ => by rw [e, hb]; rfl
      rw [this]; exact hr
    | some x =>
      cases x with
      | buf e' n nb es =>
        obtain ⟨μ', h1, h2⟩ := hm.freeze hb
        refine ⟨μ', by show Mem Γ (setB (H.map (frB b n nb es)) b .dead) w μ'; rw [setB_eq]; exact h1, fun t => ?_, by simpa using hr.1, fun i x hx => ?_⟩
        · show Rep Γ w μ' (look (E.map fun p => (p.1, fr1 b n nb es p.2)) t) _
          rw [look_map (fr1 b n nb es) rfl]
          exact h2 _ _ (hE t)
        · rw [List.getElem?_map] at hx
          cases hq : args[i]? with
          | none => rw [hq] at hx; cases hx
          | some y => rw [hq] at hx; cases hx; rw [e, hb]; exact h2 _ _ (hr.2 i y hq)
      | _ =>
        refine ⟨μ, hm, hE, ?_⟩
        have : args.map (frV b H) = args := by
          conv => rhs; rw [← List.map_id args]
          exact List.map_congr_left fun x _ => by rw [e, hb]; rfl
        rw [this]; exact hr
  obtain ⟨μ', h1, h2, h3⟩ := key
  exact (h.go Γ _ w μ' cargs hP h1 h3).mono fun _ _ ⟨q1, q2, q3⟩ => ⟨v, _, _, μ', k, q1, h2.pres q2, q3⟩

theorem Ok.thaw {d e n nb : Nat} (hok : Ok Γ nt E H a w μ) (hn : look E d = .fr (.sc (.slice none 0 0))) : ∃ μ', Ok Γ nt ((d, .buf H.length) :: E) (H ++ [.buf e n nb []]) a w μ' := by
  have hr := hok.env d
  rw [hn] at hr
  have hv := rep_sc hr
  obtain ⟨h1, h2⟩ := hok.mem.push (w' := w) (nb := .buf e n nb []) (l := .hdr none 0 0) (Nat.le_refl _) (fun _ _ => rfl) rfl rfl rfl (by intro k hk; cases hk)
    (fun _ => ⟨rfl, by simp, by simp, [], World.ownsRow_nil w _ e n, by intro i f hf; simp at hf⟩)
  refine ⟨_, h1, hok.size, fun t => ?_, hok.defers⟩
  rw [look_cons]
  split
  · rename_i he; subst he
    rw [hv]
    exact .buf H.length 0 0 none (by rw [← hok.mem.len]; simp)
  · exact h2.rep (hok.env t)

theorem ANx.ok {A : Env} {B : Heap} {E : Env} {H : Heap} (h : ANx A B E H) : ∀ {μ : List Plc}, Ok Γ nt E H a w μ → ∃ μ', Ok Γ nt A B a w μ' := by
  induction h with
  | refl => exact fun hok => ⟨_, hok⟩
  | same h hh =>
    intro μ hok
    refine ⟨μ, ⟨by rw [hh]; exact hok.mem, hok.size, fun t => ?_, hok.defers⟩⟩
    rcases subE_look h t with h | h
    · rw [h]; exact .bad _
    · rw [h]; exact hok.env t
  | trunc J hsub hh cE cH =>
    intro μ hok
    subst hh
    obtain ⟨h1, h2⟩ := hok.mem.take cH
    refine ⟨_, ⟨h1, hok.size, fun t => ?_, hok.defers⟩⟩
    rcases subE_look hsub t with h | h
    · rw [h]; exact .bad _
    · have h3 := hok.env t
      rw [← h] at h3
      exact rep_cl1 h3 (look_mem (P := cl1 B.length) rfl cE t) h2
  | move b' b hb h ih =>
    intro μ hok
    obtain ⟨μ', hok'⟩ := hok.move hb
    exact ih hok'
  | frz b h ih =>
    intro μ hok
    obtain ⟨μ', hok'⟩ := hok.freeze (b := b)
    exact ih hok'
  | thaw d e n nb hn h ih =>
    intro μ hok
    obtain ⟨μ', hok'⟩ := hok.thaw (e := e) (n := n) (nb := nb) hn
    exact ih hok'
  | let_ d hv h ih =>
    intro μ hok
    exact ih ⟨hok.mem, hok.size, fun t => by rw [look_same hv]; exact hok.env t, hok.defers⟩

end Go.AW
