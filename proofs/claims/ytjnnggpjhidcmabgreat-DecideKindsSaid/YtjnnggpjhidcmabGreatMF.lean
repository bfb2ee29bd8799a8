
/- States: where a timer stands; a timer more, or less. -/
import Derived.Test.YtjnnggpjhidcmabGreatMC
import Derived.Test.YtjnnggpjhidcmabGreatME
import Derived.Test.YtjnnggpjhidcmabGreatMB
namespace Go.AW
open Go Go.Proofs

theorem tim_IndexFunc (g : Nat) (es : List F) (p : Tim → Bool) (l : List Tim) (h : ∀ x, PCall PP g [fv x.enc, .fptr es 0] (B1 (p x))) :
    PCall PP 138 [FT l, .clo g [.fptr es 0]] (I64 (idxI p l 0)) := by
  refine pcall_of TTok Tryz.func138 rfl rfl rfl rfl rfl rfl (fun hfit => ?_)
  have hb : l.length * 24 ≤ 140737488355328 := fit_rows (show FitF _ from hfit.1)
  have hl : (l.map Tim.enc).length = l.length := List.length_map _
  (repeat' ((conv => whnf); first | refine bsplit (fun _ => ?_) (fun _ => ?_) | refine adraw ?_ | refine leave ?_ | refine And.intro (by first | assumption | omega | (simp; omega)) ?_)) <;> (try (conv => whnf))
  refine aloopK [0, 1, 7] (fun k : Nat => [(8, I64 k)]) (fun _ => _) (fun k => l.length - k) (fun k => k ≤ l.length ∧ idxI p l 0 = idxI p (l.drop k) k) 0 ⟨by omega, rfl⟩ ⟨rfl, trivial⟩ rfl ?_
  conv => whnf
  rintro k ⟨hk, hR⟩
  (repeat' ((conv => whnf); first | refine bsplit (fun _ => ?_) (fun _ => ?_) | refine adraw ?_ | refine leave ?_ | refine And.intro (by first | assumption | omega | (simp; omega)) ?_)) <;> (try (conv => whnf))
  · rename_i h1
    rw [hl] at h1
    have hk2 := ltx h1
    obtain ⟨x, hx⟩ := getx l hk2
    rw [drop_cons hx] at hR
    simp only [idxI] at hR
    refine aidx rfl hx ?_
    (repeat' ((conv => whnf); first | refine bsplit (fun _ => ?_) (fun _ => ?_) | refine adraw ?_ | refine leave ?_ | refine acall (h x) ?_ | refine dcall (h x) ?_ | refine GCall.sym _ (fun hg => PC.own (h x)) ?_ | refine And.intro (by first | assumption | omega | (simp; omega)) ?_)) <;> (try (conv => whnf))
    · rename_i h2
      rw [h2, if_pos rfl] at hR
      rw [hR]
      exact ⟨rfl⟩
    · rename_i h2
      rw [h2] at hR
      exact ⟨⟨k + 1, by omega, by rw [hR]; rfl⟩, by show l.length - (k + 1) < l.length - k; omega, (.same (subE_append ⟨i64_inj (wrap_add hk2 (by omega)), trivial⟩ (by repeat' (first | exact trivial | refine ⟨rfl, ?_⟩))) rfl)⟩
  · rename_i h1
    rw [hl] at h1
    have hk2 := gex hk h1
    rw [hk2, List.drop_length] at hR
    rw [hR]
    exact ⟨rfl⟩

abbrev SC (s : ByteArray) : F := .sc (.string s)
theorem state_place1 (name : ByteArray) (t : Tim) : PCall PP 190 [fv t.enc, .fptr [SC name] 0] (B1 (decide (t.name = name))) := by
  refine pcall_of TTok Tryz.func190 rfl rfl rfl rfl rfl rfl (fun hfit => ?_)
  (repeat' ((conv => whnf); first | refine bsplit (fun _ => ?_) (fun _ => ?_) | refine adraw ?_ | refine leave ?_ | refine And.intro (by first | assumption | omega | (simp; omega)) ?_)) <;> (try (conv => whnf))
  exact ⟨rfl⟩
theorem state_place2 (name : ByteArray) (t : Tim) : PCall PP 191 [fv t.enc, .fptr [SC name] 0] (B1 (!sless t.name name)) := by
  refine pcall_of TTok Tryz.func191 rfl rfl rfl rfl rfl rfl (fun hfit => ?_)
  (repeat' ((conv => whnf); first | refine bsplit (fun _ => ?_) (fun _ => ?_) | refine adraw ?_ | refine leave ?_ | refine And.intro (by first | assumption | omega | (simp; omega)) ?_)) <;> (try (conv => whnf))
  exact ⟨rfl⟩

theorem idxI_cases {α : Type} (p : α → Bool) : ∀ (l : List α) (k : Nat), (idxI p l k = -1 ∧ ∀ x ∈ l, p x = false) ∨ ∃ i x, l[i]? = some x ∧ p x = true ∧ (∀ j y, j < i → l[j]? = some y → p y = false) ∧ idxI p l k = ((k + i : Nat) : Int)
  | [], k => .inl ⟨rfl, by simp⟩
  | x :: r, k => by
    cases h : p x with
    | true => exact .inr ⟨0, x, rfl, h, by omega, by simp [idxI, h]⟩
    | false =>
      rcases idxI_cases p r (k + 1) with ⟨h1, h2⟩ | ⟨i, u, h1, h2, h3, h4⟩
      · left; exact ⟨by simp only [idxI, h, Bool.false_eq_true, if_false]; exact_mod_cast h1, by intro y hy; rcases List.mem_cons.1 hy with rfl | hy; exact h; exact h2 y hy⟩
      · right
        refine ⟨i + 1, u, by simpa using h1, h2, fun j y hj hy => ?_, ?_⟩
        · cases j with
          | zero => simp at hy; subst hy; exact h
          | succ j => exact h3 j y (by omega) (by simpa using hy)
        · simp only [idxI, h, Bool.false_eq_true, if_false]
          have h5 : idxI p r (((k + 1 : Nat) : Int)) = ((k + 1 + i : Nat) : Int) := h4
          push_cast at h5 ⊢
          rw [h5]; omega

/-- The place of the first, else the list's end. -/
def idxN {α : Type} (p : α → Bool) : List α → Nat
  | [] => 0
  | x :: r => if p x = true then 0 else idxN p r + 1
theorem idxN_le {α : Type} (p : α → Bool) : ∀ l : List α, idxN p l ≤ l.length
  | [] => Nat.le_refl _
  | x :: r => by
    simp only [idxN]; split
    · omega
    · have := idxN_le p r; simp; omega
theorem idxI_N {α : Type} (p : α → Bool) : ∀ (l : List α) (k : Nat), (idxI p l k = -1 ∧ l.any p = false ∧ idxN p l = l.length) ∨ (idxI p l k = ((k + idxN p l : Nat) : Int) ∧ l.any p = true ∧ idxN p l < l.length)
  | [], k => .inl ⟨rfl, rfl, rfl⟩
  | x :: r, k => by
    cases h : p x with
    | true => right; exact ⟨by simp [idxI, idxN, h], by simp [h], by simp [idxN, h]⟩
    | false =>
      rcases idxI_N p r (k + 1) with ⟨h1, h2, h3⟩ | ⟨h1, h2, h3⟩
      · left
        exact ⟨by simp only [idxI, h, Bool.false_eq_true, if_false]; exact_mod_cast h1, by simp [h, h2], by simp [idxN, h, h3]⟩
      · right
        refine ⟨?_, by simp [h, h2], by simp [idxN, h]; omega⟩
        simp only [idxI, idxN, h, Bool.false_eq_true, if_false]
        have h5 : idxI p r (((k + 1 : Nat) : Int)) = ((k + 1 + idxN p r : Nat) : Int) := h1
        push_cast at h5 ⊢
        rw [h5]; omega

def hasT (name : ByteArray) (l : List Tim) : Bool := l.any fun t => decide (t.name = name)
def placeT (name : ByteArray) (l : List Tim) : Nat := if hasT name l = true then idxN (fun t => decide (t.name = name)) l else idxN (fun t => !sless t.name name) l
theorem placeT_le (name : ByteArray) (l : List Tim) : placeT name l ≤ l.length := by unfold placeT; split <;> exact idxN_le _ _
theorem placeT_lt {name : ByteArray} {l : List Tim} (h : hasT name l = true) : placeT name l < l.length := by
  unfold placeT
  rw [if_pos h]
  rcases idxI_N (fun t => decide (t.name = name)) l 0 with ⟨_, h2, _⟩ | ⟨_, _, h3⟩
  · unfold hasT at h; rw [h2] at h; cases h
  · exact h3

theorem state_place (l : List Tim) (name : ByteArray) : PCall PP 178 [FT l, S1 name] (.tup [I64 (placeT name l), B1 (hasT name l)]) := by
  refine pcall_of TTok Tryz.func178 rfl rfl rfl rfl rfl rfl (fun hfit => ?_)
  have hl : (l.map Tim.enc).length = l.length := List.length_map _
  have h1 := idxI_N (fun t : Tim => decide (t.name = name)) l 0
  have h2 := idxI_N (fun t : Tim => !sless t.name name) l 0
  rw [show ((0 : Nat) : Int) = 0 from rfl] at h1 h2
  simp only [Nat.zero_add] at h1 h2
  (repeat' ((conv => whnf); first | refine bsplit (fun _ => ?_) (fun _ => ?_) | refine adraw ?_ | refine leave ?_ | refine acallB (tim_IndexFunc _ [SC name] _ l (state_place1 name)) ?_ | refine acallB (tim_IndexFunc _ [SC name] _ l (state_place2 name)) ?_ | refine And.intro (by first | assumption | omega | (simp; omega)) ?_)) <;> (try (conv => whnf))
  · rename_i h
    rcases h1 with ⟨g1, g2, g3⟩ | ⟨g1, g2, g3⟩
    · rw [g1] at h; simp at h
    · have e : hasT name l = true := g2
      rw [g1]; unfold placeT; rw [e]; exact ⟨rfl⟩
  · rename_i h h3
    rcases h1 with ⟨g1, g2, g3⟩ | ⟨g1, g2, g3⟩
    · have e : hasT name l = false := g2
      rcases h2 with ⟨k1, k2, k3⟩ | ⟨k1, k2, k3⟩
      · rw [hl]; unfold placeT; rw [e]; simp only [Bool.false_eq_true, if_false]; rw [k3]; exact ⟨rfl⟩
      · rw [k1] at h3; simp at h3; omega
    · rw [g1] at h; simp at h
  · rename_i h h3
    rcases h1 with ⟨g1, g2, g3⟩ | ⟨g1, g2, g3⟩
    · have e : hasT name l = false := g2
      rcases h2 with ⟨k1, k2, k3⟩ | ⟨k1, k2, k3⟩
      · rw [k1] at h3; simp at h3
      · rw [k1]; unfold placeT; rw [e]; exact ⟨rfl⟩
    · rw [g1] at h; simp at h

end Go.AW

/- States: a timer more, a timer less. -/
namespace Go.AW
open Go Go.Proofs

def insT (i : Nat) (t : Tim) (l : List Tim) : List Tim := l.take i ++ t :: l.drop i
def timerX (s : St) (e : Ev) : Int := if hasT e.name s.timers = true then 20 else if decide ((s.timers.length : Int) ≥ 10) = true then 7 else 0
def timerSt (s : St) (e : Ev) : St := if hasT e.name s.timers = true then s else if decide ((s.timers.length : Int) ≥ 10) = true then s else { s with timers := insT (placeT e.name s.timers) ⟨e.name, e.due⟩ s.timers }

set_option maxRecDepth 100000 in
theorem state_timer (s : St) (e : Ev) : HCall PP 166 [.ptr 0 0, fv e.enc] (HS s) (I64 (timerX s e)) (HS (timerSt s e)) := by
  refine hcall_of TTok Tryz.func166 rfl rfl rfl rfl rfl (fun _ => ?_)
  have hl : (s.timers.map Tim.enc).length = s.timers.length := List.length_map _
  have hp := placeT_le e.name s.timers
  unfold timerX timerSt
  (repeat' ((conv => whnf); first | refine bsplit (fun _ => ?_) (fun _ => ?_) | refine adrawT 12 [0] (by decide +kernel) ?_ | refine adraw ?_ | refine leave ?_ | refine dcallB (state_place s.timers e.name) ?_ | refine ahcall [1] (timers_Insert s.timers (placeT e.name s.timers) ⟨e.name, e.due⟩ hp (by simp only [decide_eq_false_iff_not, List.length_map] at *; omega)) ?_ | refine And.intro (by first | assumption | omega | (simp; omega)) ?_)) <;> (try (conv => whnf))
  · rename_i h
    rw [h]
    exact ⟨[(4, I64 20)], _, .trunc [_] ⟨rfl, trivial⟩ rfl rfl rfl rfl, rfl, rfl⟩
  · rename_i h h2
    rw [hl] at h2
    rw [h, h2]
    exact ⟨[(4, I64 7)], _, .trunc [_] ⟨rfl, trivial⟩ rfl rfl rfl rfl, rfl, rfl⟩
  · rename_i h h2
    rw [hl] at h2
    rw [h, h2]
    exact ⟨[(4, I64 0)], _, .move 5 1 rfl (.trunc [_, _, _] ⟨rfl, trivial⟩ rfl rfl rfl rfl), rfl, rfl⟩

/-- When the timer at a place is due. -/
def dueT (i : Nat) (l : List Tim) : Int := match l[i]? with
  | some t => t.due
  | none => 0
theorem timers_DeleteW (l : List Tim) (i : Nat) (hi : i < l.length) : HCall PP 180 [.buf 0, I64 i, I64 (IntKind.i64.wrap ((i : Int) + 1))] [BT l] (.buf 1) [.dead, BT (l.take i ++ l.drop (i + 1))] := by
  constructor
  intro w I μ0 cargs hm hr
  have hb : l.length * 24 ≤ 140737488355328 := by
    have h0 := hr.2 0 (.buf 0) rfl
    generalize cargs.getD 0 undef = cx at h0
    cases h0 with
    | bdead b v hl h1 => exact (hm.blk 0 (BT l) _ rfl hl).elim
    | buf b m c ad hl =>
      obtain ⟨_, g0, _⟩ := hm.blk 0 (BT l) _ rfl hl
      simpa using g0
  have e : IntKind.i64.wrap ((i : Int) + 1) = (i : Int) + 1 := by have := wrap_add hi (by omega); rw [this]; push_cast; rfl
  rw [e] at hr
  exact (timers_Delete l i hi).go w I μ0 cargs hm hr

def offBad (s : St) (e : Ev) : Bool := !hasT e.name s.timers || (e.kind == 10 && decide (dueT (placeT e.name s.timers) s.timers > e.time))
def offSt (s : St) (e : Ev) : St := if offBad s e = true then s else { s with timers := s.timers.take (placeT e.name s.timers) ++ s.timers.drop (placeT e.name s.timers + 1), fresh := s.fresh || e.kind == 10 }

set_option maxRecDepth 100000 in
theorem state_off (s : St) (e : Ev) : HCall PP 167 [.ptr 0 0, fv e.enc] (HS s) (I64 (if offBad s e = true then 20 else 0)) (HS (offSt s e)) := by
  refine hcall_of TTok Tryz.func167 rfl rfl rfl rfl rfl (fun _ => ?_)
  have hl : (s.timers.map Tim.enc).length = s.timers.length := List.length_map _
  have hp := placeT_le e.name s.timers
  have hside : ∀ b, (eqw (!hasT e.name s.timers) false && b) = true → (0 : Int) ≤ (placeT e.name s.timers : Int) ∧ (placeT e.name s.timers : Int) < ((s.timers.map Tim.enc).length : Int) := fun b h => by
    simp only [Bool.and_eq_true] at h
    have h1 : hasT e.name s.timers = true := by simpa [eqw] using h.1
    have := placeT_lt h1
    rw [hl]; omega
  have hload : ∀ b, (eqw (!hasT e.name s.timers) false && b) = true → ∃ f, ((s.timers.map Tim.enc).flatten)[((placeT e.name s.timers : Int)).toNat * 2 + 1]? = some f ∧ I64 (dueT (placeT e.name s.timers) s.timers) = V.fr f := fun b h => by
    simp only [Bool.and_eq_true] at h
    have h1 : hasT e.name s.timers = true := by simpa [eqw] using h.1
    have h2 := placeT_lt h1
    obtain ⟨t, ht⟩ : ∃ t, s.timers[placeT e.name s.timers]? = some t := ⟨_, List.getElem?_eq_getElem h2⟩
    refine ⟨.sc (.int .i64 t.due), ?_, by unfold dueT; rw [ht]⟩
    rw [Int.toNat_natCast, flat_get' (sz := 2) _ _ 1 t.enc (by intro r hr; obtain ⟨x, _, rfl⟩ := List.mem_map.1 hr; rfl) (by rw [List.getElem?_map, ht]; rfl) (by omega)]
    rfl
  unfold offSt
  (repeat' ((conv => whnf); first | refine bsplit (fun _ => ?_) (fun _ => ?_) | refine adraw ?_ | refine leave ?_ | refine dcallB (state_place s.timers e.name) ?_ | refine And.intro (hside _) ?_ | refine GEx.mk ⟨_, hload _, ?_⟩ | refine And.intro (by first | assumption | omega | (simp; omega)) ?_)) <;> (try (conv => whnf))
  · rename_i h
    simp only [Bool.cond_true_left, Bool.cond_false_right] at h
    have h' : offBad s e = true := h
    rw [h']
    exact ⟨[(4, I64 20)], _, .trunc [_] ⟨rfl, trivial⟩ rfl rfl rfl rfl, rfl, rfl⟩
  · rename_i h
    simp only [Bool.cond_true_left, Bool.cond_false_right] at h
    have h' : offBad s e = false := h
    have h1 : hasT e.name s.timers = true := by
      unfold offBad at h'
      simp only [Bool.or_eq_false_iff] at h'
      simpa using h'.1
    (repeat' ((conv => whnf); first | refine bsplit (fun _ => ?_) (fun _ => ?_) | refine adraw ?_ | refine leave ?_ | refine ahcall [1] (timers_DeleteW s.timers (placeT e.name s.timers) (placeT_lt h1)) ?_ | refine And.intro (by first | assumption | omega | (simp; omega)) ?_)) <;> (try (conv => whnf))
    simp only [Bool.cond_true_left]
    rw [h']
    exact ⟨[(4, I64 0)], _, .move 5 1 rfl (.trunc [_, _, _] ⟨rfl, trivial⟩ rfl rfl rfl rfl), rfl, rfl⟩

end Go.AW

/- States: an update more; an outcome. -/
namespace Go.AW
open Go Go.Proofs

theorem cmp_isNaN (x : ByteArray) : PCall PP 159 [S1 x] (B1 false) := by
  refine pcall_of TTok Tryz.func159 rfl rfl rfl rfl rfl rfl (fun hfit => ?_)
  (repeat' ((conv => whnf); first | refine bsplit (fun _ => ?_) (fun _ => ?_) | refine adraw ?_ | refine leave ?_ | refine And.intro (by first | assumption | omega | (simp; omega)) ?_)) <;> (try (conv => whnf))
  exact ⟨b1_inj (by simp)⟩

def cmpS (a b : ByteArray) : Int := if sless a b = true then -1 else if (!(sless a b || decide (a = b))) = true then 1 else 0
theorem cmp_Compare (a b : ByteArray) : PCall PP 142 [S1 a, S1 b] (I64 (cmpS a b)) := by
  refine pcall_of TTok Tryz.func142 rfl rfl rfl rfl rfl rfl (fun hfit => ?_)
  (repeat' ((conv => whnf); first | refine bsplit (fun _ => ?_) (fun _ => ?_) | refine adraw ?_ | refine leave ?_ | refine acall (cmp_isNaN _) ?_ | refine dcall (cmp_isNaN _) ?_ | refine GCall.sym _ (fun hg => PC.own (cmp_isNaN _)) ?_ | refine And.intro (by first | assumption | omega | (simp; omega)) ?_)) <;> (try (conv => whnf))
  all_goals (refine ⟨?_⟩; (try simp only [Bool.cond_false_right, Bool.cond_true_left] at *) <;> first | (simp only [cmpS, *, if_true, Bool.false_eq_true, if_false]; done) | (simp_all [Bool.cond_eq_ite, cmpS]; done) | (simp_all [Bool.cond_eq_ite, cmpS]; grind))

theorem upd_IndexFuncF (g : Nat) (es : List F) (p : Upd → Bool) (l : List Upd) (h : ∀ x, PCall PP g [fv x.enc, .fptr es 0] (B1 (p x))) :
    PCall PP 78 [FU l, .clo g [.fptr es 0]] (I64 (idxI p l 0)) := by
  refine pcall_of TTok Tryz.func78 rfl rfl rfl rfl rfl rfl (fun hfit => ?_)
  have hb : l.length * 152 ≤ 140737488355328 := fit_rows (show FitF _ from hfit.1)
  have hl : (l.map Upd.enc).length = l.length := List.length_map _
  (repeat' ((conv => whnf); first | refine bsplit (fun _ => ?_) (fun _ => ?_) | refine adraw ?_ | refine leave ?_ | refine And.intro (by first | assumption | omega | (simp; omega)) ?_)) <;> (try (conv => whnf))
  refine aloopK [0, 1, 7] (fun k : Nat => [(8, I64 k)]) (fun _ => _) (fun k => l.length - k) (fun k => k ≤ l.length ∧ idxI p l 0 = idxI p (l.drop k) k) 0 ⟨by omega, rfl⟩ ⟨rfl, trivial⟩ rfl ?_
  conv => whnf
  rintro k ⟨hk, hR⟩
  (repeat' ((conv => whnf); first | refine bsplit (fun _ => ?_) (fun _ => ?_) | refine adraw ?_ | refine leave ?_ | refine And.intro (by first | assumption | omega | (simp; omega)) ?_)) <;> (try (conv => whnf))
  · rename_i h1
    rw [hl] at h1
    have hk2 := ltx h1
    obtain ⟨x, hx⟩ := getx l hk2
    rw [drop_cons hx] at hR
    simp only [idxI] at hR
    refine aidx rfl hx ?_
    (repeat' ((conv => whnf); first | refine bsplit (fun _ => ?_) (fun _ => ?_) | refine adraw ?_ | refine leave ?_ | refine acall (h x) ?_ | refine dcall (h x) ?_ | refine GCall.sym _ (fun hg => PC.own (h x)) ?_ | refine And.intro (by first | assumption | omega | (simp; omega)) ?_)) <;> (try (conv => whnf))
    · rename_i h2
      rw [h2, if_pos rfl] at hR
      rw [hR]
      exact ⟨rfl⟩
    · rename_i h2
      rw [h2] at hR
      exact ⟨⟨k + 1, by omega, by rw [hR]; rfl⟩, by show l.length - (k + 1) < l.length - k; omega, (.same (subE_append ⟨i64_inj (wrap_add hk2 (by omega)), trivial⟩ (by repeat' (first | exact trivial | refine ⟨rfl, ?_⟩))) rfl)⟩
  · rename_i h1
    rw [hl] at h1
    have hk2 := gex hk h1
    rw [hk2, List.drop_length] at hR
    rw [hR]
    exact ⟨rfl⟩

theorem state_accepted1 (e : Ev) (u : Upd) : PCall PP 181 [fv u.enc, .fptr e.enc 0] (B1 (decide (cmpS u.name e.name ≥ 0))) := by
  refine pcall_of TTok Tryz.func181 rfl rfl rfl rfl rfl rfl (fun hfit => ?_)
  (repeat' ((conv => whnf); first | refine bsplit (fun _ => ?_) (fun _ => ?_) | refine adraw ?_ | refine leave ?_ | refine acall (cmp_Compare _ _) ?_ | refine dcall (cmp_Compare _ _) ?_ | refine GCall.sym _ (fun hg => PC.own (cmp_Compare _ _)) ?_ | refine And.intro (by first | assumption | omega | (simp; omega)) ?_)) <;> (try (conv => whnf))
  exact ⟨rfl⟩
theorem state_outcome1 (e : Ev) (u : Upd) : PCall PP 183 [fv u.enc, .fptr e.enc 0] (B1 (decide (u.name = e.name))) := by
  refine pcall_of TTok Tryz.func183 rfl rfl rfl rfl rfl rfl (fun hfit => ?_)
  (repeat' ((conv => whnf); first | refine bsplit (fun _ => ?_) (fun _ => ?_) | refine adraw ?_ | refine leave ?_ | refine And.intro (by first | assumption | omega | (simp; omega)) ?_)) <;> (try (conv => whnf))
  exact ⟨rfl⟩

def accI (s : St) (e : Ev) : Nat := idxN (fun u => decide (cmpS u.name e.name ≥ 0)) s.updates
def accX (s : St) (e : Ev) : Int := if (findU e.name s.updates).isSome = true then 20 else if decide ((s.updates.length : Int) ≥ 10) = true then 7 else 0
def accSt (s : St) (e : Ev) : St := if (findU e.name s.updates).isSome = true then s else if decide ((s.updates.length : Int) ≥ 10) = true then s
  else { s with updates := s.updates.take (accI s e) ++ ⟨e.name, e.value, 1, Val.zero⟩ :: s.updates.drop (accI s e) }

set_option maxRecDepth 100000 in
theorem state_accepted (s : St) (e : Ev) : HCall PP 168 [.ptr 0 0, fv e.enc] (HS s) (I64 (accX s e)) (HS (accSt s e)) := by
  refine hcall_of TTok Tryz.func168 rfl rfl rfl rfl rfl (fun _ => ?_)
  have hl : (s.updates.map Upd.enc).length = s.updates.length := List.length_map _
  have hidx := upd_IndexFuncF _ e.enc _ s.updates (state_accepted1 e)
  have hi := idxI_N (fun u => decide (cmpS u.name e.name ≥ 0)) s.updates 0
  rw [show ((0 : Nat) : Int) = 0 from rfl, Nat.zero_add] at hi
  unfold accX accSt
  have hle : accI s e ≤ s.updates.length := idxN_le _ _
  rcases hi with ⟨h1, h2, h3⟩ | ⟨h1, h2, h3⟩
  · rw [h1] at hidx
    (repeat' ((conv => whnf); first | refine bsplit (fun _ => ?_) (fun _ => ?_) | refine adrawT 12 [0] (by decide +kernel) ?_ | refine adraw ?_ | refine leave ?_ | refine dcallB (pcall_thin (state_Update s e.name)) ?_ | refine acallB hidx ?_ | refine ahcall [2] (upds_Insert s.updates (s.updates.map Upd.enc).length ⟨e.name, e.value, 1, Val.zero⟩ (by rw [hl]; omega) (by simp only [decide_eq_false_iff_not, List.length_map] at *; omega)) ?_ | refine And.intro (by first | assumption | omega | (simp; omega)) ?_)) <;> (try (conv => whnf))
    · rename_i h
      rw [h]
      exact ⟨[(4, I64 20)], _, .trunc [_, _] ⟨rfl, trivial⟩ rfl rfl rfl rfl, rfl, rfl⟩
    · rename_i h h4
      rw [hl] at h4
      rw [h, h4]
      exact ⟨[(4, I64 7)], _, .trunc [_, _] ⟨rfl, trivial⟩ rfl rfl rfl rfl, rfl, rfl⟩
    · rename_i h h4
      rw [hl] at h4
      rw [h, h4]
      have e1 : accI s e = (s.updates.map Upd.enc).length := by rw [hl]; exact h3
      rw [e1]
      exact ⟨[(4, I64 0)], _, .move 6 2 rfl (.trunc [_, _, _, _] ⟨rfl, trivial⟩ rfl rfl rfl rfl), rfl, rfl⟩
  · rw [h1] at hidx
    (repeat' ((conv => whnf); first | refine bsplit (fun _ => ?_) (fun _ => ?_) | refine adrawT 12 [0] (by decide +kernel) ?_ | refine adraw ?_ | refine leave ?_ | refine dcallB (pcall_thin (state_Update s e.name)) ?_ | refine acallB hidx ?_ | refine ahcall [2] (upds_Insert s.updates (accI s e) ⟨e.name, e.value, 1, Val.zero⟩ hle (by simp only [decide_eq_false_iff_not, List.length_map] at *; omega)) ?_ | refine And.intro (by first | assumption | omega | (simp; omega)) ?_)) <;> (try (conv => whnf))
    · rename_i h
      rw [h]
      exact ⟨[(4, I64 20)], _, .trunc [_, _] ⟨rfl, trivial⟩ rfl rfl rfl rfl, rfl, rfl⟩
    · rename_i h h4
      rw [hl] at h4
      rw [h, h4]
      exact ⟨[(4, I64 7)], _, .trunc [_, _] ⟨rfl, trivial⟩ rfl rfl rfl rfl, rfl, rfl⟩
    · rename_i h h4
      rw [hl] at h4
      rw [h, h4]
      exact ⟨[(4, I64 0)], _, .move 6 2 rfl (.trunc [_, _, _, _] ⟨rfl, trivial⟩ rfl rfl rfl rfl), rfl, rfl⟩

end Go.AW

/- States: an update's outcome. -/
namespace Go.AW
open Go Go.Proofs

theorem flat_put {n : Nat} {r r' c : List F} {off : Nat} (ho : off + c.length ≤ n) (hr' : r' = r.take off ++ c ++ r.drop (off + c.length)) : ∀ (es : List (List F)) (i : Nat), (∀ x ∈ es, x.length = n) → es[i]? = some r →
    (es.set i r').flatten = es.flatten.take (i * n + off) ++ c ++ es.flatten.drop (i * n + off + c.length) ∧ i * n + off + c.length ≤ es.flatten.length
  | [], i, _, h => by simp at h
  | x :: es, 0, hes, h => by
    simp at h
    subst h
    have hx := hes x (by simp)
    have h1 : (x ++ es.flatten).take off = x.take off := List.take_append_of_le_length (by omega)
    have h2 : (x ++ es.flatten).drop (off + c.length) = x.drop (off + c.length) ++ es.flatten := List.drop_append_of_le_length (by omega)
    simp only [List.set_cons_zero, List.flatten_cons, Nat.zero_mul, Nat.zero_add, hr', h1, h2, List.append_assoc, List.length_append]
    exact ⟨trivial, by omega⟩
  | x :: es, i + 1, hes, h => by
    have hx := hes x (by simp)
    obtain ⟨h1, h2⟩ := flat_put ho hr' es i (fun y hy => hes y (by simp [hy])) (by simpa using h)
    have e1 : (i + 1) * n + off = x.length + (i * n + off) := by rw [Nat.add_mul, hx]; omega
    have e2 : x.length + (i * n + off) + c.length = x.length + (i * n + off + c.length) := by omega
    simp only [List.set_cons_succ, List.flatten_cons, h1, e1, e2, List.take_length_add_append, List.drop_length_add_append, List.append_assoc, List.length_append]
    exact ⟨trivial, by omega⟩

def outI (s : St) (e : Ev) : Nat := idxN (fun u => decide (u.name = e.name)) s.updates
def stageU (i : Nat) (l : List Upd) : Int := match l[i]? with
  | some u => u.stage
  | none => 1
def outBad (s : St) (e : Ev) : Bool := !(s.updates.any fun u => decide (u.name = e.name)) || stageU (outI s e) s.updates != 1
def outU (v : Val) (i : Nat) (l : List Upd) : List Upd := match l[i]? with
  | some u => l.set i { u with stage := 2, outcome := v }
  | none => l
def outSt (s : St) (e : Ev) : St := if outBad s e = true then s else { s with updates := outU e.value (outI s e) s.updates }

set_option maxRecDepth 100000 in
theorem state_outcome (s : St) (e : Ev) : HCall PP 169 [.ptr 0 0, fv e.enc] (HS s) (I64 (if outBad s e = true then 20 else 0)) (HS (outSt s e)) := by
  refine hcall_of TTok Tryz.func169 rfl rfl rfl rfl rfl (fun _ => ?_)
  have hl : (s.updates.map Upd.enc).length = s.updates.length := List.length_map _
  have hidx := upd_IndexFuncF _ e.enc _ s.updates (state_outcome1 e)
  have hi := idxI_N (fun u => decide (u.name = e.name)) s.updates 0
  rw [show ((0 : Nat) : Int) = 0 from rfl, Nat.zero_add] at hi
  rcases hi with ⟨h1, h2, h3⟩ | ⟨h1, h2, h3⟩
  · rw [h1] at hidx
    have hb : outBad s e = true := by unfold outBad; rw [h2]; rfl
    unfold outSt
    rw [hb]
    (repeat' ((conv => whnf); first | refine bsplit (fun _ => ?_) (fun _ => ?_) | refine adraw ?_ | refine leave ?_ | refine acallB hidx ?_ | refine And.intro (fun h => by cases h) ?_ | refine GEx.mk ⟨.fr (.sc (.int .i64 0)), fun h => absurd h (by decide), ?_⟩ | refine And.intro (by first | assumption | omega | (simp; omega)) ?_)) <;> (try (conv => whnf))
    exact ⟨[(4, I64 20)], _, .trunc [_] ⟨rfl, trivial⟩ rfl rfl rfl rfl, rfl, rfl⟩
  · rw [h1] at hidx
    obtain ⟨u, hu⟩ : ∃ u, s.updates[outI s e]? = some u := ⟨_, List.getElem?_eq_getElem h3⟩
    have hload : ((s.updates.map Upd.enc).flatten)[((outI s e : Nat) : Int).toNat * 12 + 6]? = some (.sc (.int .i64 u.stage)) := by
      rw [Int.toNat_natCast, flat_get' (sz := 12) _ _ 6 u.enc (by intro r hr; obtain ⟨x, _, rfl⟩ := List.mem_map.1 hr; rfl) (by rw [List.getElem?_map, hu]; rfl) (by omega)]
      rfl
    have hside : (0 : Int) ≤ ((outI s e : Nat) : Int) ∧ ((outI s e : Nat) : Int) < ((s.updates.map Upd.enc).length : Int) := by
      rw [hl]; have h4 : outI s e < s.updates.length := h3; omega
    have hidx' : PCall PP 78 [FU s.updates, .clo 183 [.fptr e.enc 0]] (I64 (outI s e)) := hidx
    have h3' : outI s e < s.updates.length := h3
    have hneg : decide (((outI s e : Nat) : Int) < 0) = false := by simp
    have hbad : outBad s e = (u.stage != 1) := by unfold outBad stageU; rw [h2, hu]; rfl
    have hrow : ∀ (l : List Upd), ∀ r ∈ l.map Upd.enc, r.length = 12 := by intro l r hr; obtain ⟨x, _, rfl⟩ := List.mem_map.1 hr; rfl
    have hu1 : (s.updates.map Upd.enc)[outI s e]? = some u.enc := by rw [List.getElem?_map, hu]; rfl
    obtain ⟨hf1, hq1⟩ := flat_put (n := 12) (r := u.enc) (r' := Upd.enc { u with stage := 2 }) (c := [.sc (.int .i64 2)]) (off := 6) (by simp) rfl (s.updates.map Upd.enc) (outI s e) (hrow _) hu1
    rw [← List.map_set] at hf1
    have hu2 : ((s.updates.set (outI s e) { u with stage := 2 }).map Upd.enc)[outI s e]? = some (Upd.enc { u with stage := 2 }) := by rw [List.getElem?_map, List.getElem?_set_self h3']; rfl
    obtain ⟨hf2, hq2⟩ := flat_put (n := 12) (r := Upd.enc { u with stage := 2 }) (r' := Upd.enc { u with stage := 2, outcome := e.value }) (c := e.value.enc) (off := 7) (by simp [Val.enc]) rfl ((s.updates.set (outI s e) { u with stage := 2 }).map Upd.enc) (outI s e) (hrow _) hu2
    rw [← List.map_set, List.set_set] at hf2
    unfold outSt
    (repeat' ((conv => whnf); first | refine bsplit (fun _ => ?_) (fun _ => ?_) | refine adrawT 13 [9] (by decide +kernel) ?_ | refine adraw ?_ | refine leave ?_ | refine acallB hidx' ?_ | refine And.intro (fun _ => hside) ?_ | refine And.intro hside ?_ | refine GEx.mk ⟨.fr (.sc (.int .i64 u.stage)), fun _ => ⟨_, hload, rfl⟩, ?_⟩ | refine dcall (value_Clone e.value) ?_ | refine aop_bpstore (c := [.sc (.int .i64 2)]) TTok.tok _ rfl rfl rfl rfl (by simp) (hrow _) hq1 hf1 ?_ | refine aop_bpstore (c := e.value.enc) TTok.tok _ rfl rfl rfl rfl (by simp) (hrow _) hq2 hf2 ?_ | refine And.intro (by first | assumption | omega | (simp; omega)) ?_)) <;> (try (conv => whnf))
    · rename_i h
      rw [hneg] at h
      simp only [cond_false] at h
      rw [hbad, h]
      exact ⟨[(4, I64 20)], _, .trunc [_] ⟨rfl, trivial⟩ rfl rfl rfl rfl, rfl, rfl⟩
    · rename_i h
      rw [hneg] at h
      simp only [cond_false] at h
      rw [hbad, h]
      simp only [outU, hu]
      exact ⟨[(4, I64 0)], _, .trunc [_] ⟨rfl, trivial⟩ rfl rfl rfl rfl, rfl, rfl⟩

end Go.AW

/- States: the end of a run; every event; a step. -/
namespace Go.AW
open Go Go.Proofs

def closedX (s : St) (e : Ev) : Int :=
  if (e.kind == 17) = true then (if (s.cancel && s.task.state == 0 && !s.fresh) = true then 0 else 20)
  else if (e.kind == 15 || e.kind == 16) = true then (if (s.task.state == 0 && !s.fresh) = true then 0 else 20)
  else if (e.kind == 19) = true then (if (decide (s.deadline > 0) && decide (s.deadline ≤ e.time)) = true then 0 else 20)
  else 0
def closedSt (s : St) (e : Ev) : St := { s with status := IntKind.i64.wrap (IntKind.i64.wrap (2 + e.kind) - 15), task := ⟨0, 0, 0, 0, 0⟩, timers := [], result := e.value, reason := e.name }

set_option maxRecDepth 100000 in
theorem state_closed (s : St) (e : Ev) : HCall PP 170 [.ptr 0 0, fv e.enc] (HS s) (I64 (closedX s e)) (HS (closedSt s e)) := by
  refine hcall_of TTok Tryz.func170 rfl rfl rfl rfl rfl (fun _ => ?_)
  unfold closedX
  (repeat' ((conv => whnf); first | refine bsplit (fun _ => ?_) (fun _ => ?_) | refine adraw ?_ | refine leave ?_ | refine acall (state_so _) ?_ | refine dcall (state_so _) ?_ | refine GCall.sym _ (fun hg => PC.own (state_so _)) ?_ | refine And.intro (by first | assumption | omega | (simp; omega)) ?_)) <;> (try (conv => whnf))
  all_goals simp only [*, Bool.cond_false_right, Bool.cond_true_left, if_true, Bool.false_eq_true, if_false, Bool.or_true, Bool.true_or, Bool.or_false]
  all_goals exact ⟨[(4, I64 _)], _, .frz 1 (.thawC 0 23 78 2 24 rfl rfl (.move 4 1 rfl (.trunc [_, _] ⟨rfl, trivial⟩ rfl rfl rfl rfl))), rfl, rfl⟩

def turnX (s : St) (e : Ev) : Int :=
  if (e.kind == 1) = true then 0 else if (e.kind == 2) = true then (if (s.task.state != 0) = true then 20 else 0) else if (e.kind == 3) = true then (if (s.task.state != 1) = true then 20 else 0)
  else if (e.kind == 4 || e.kind == 5 || e.kind == 6) = true then (if goneBad s e = true then 20 else 0) else if (e.kind == 7 || e.kind == 8) = true then (if (e.kind == 8 && s.cancel) = true then 20 else 0)
  else if (e.kind == 9) = true then timerX s e else if (e.kind == 10 || e.kind == 11) = true then (if offBad s e = true then 20 else 0) else if (e.kind == 12) = true then accX s e
  else if (e.kind == 13) = true then (if outBad s e = true then 20 else 0) else if (e.kind == 14) = true then 0 else closedX s e
def turnSt (s : St) (e : Ev) : St :=
  if (e.kind == 1) = true then startedSt s e else if (e.kind == 2) = true then scheduledSt s e else if (e.kind == 3) = true then takenSt s e
  else if (e.kind == 4 || e.kind == 5 || e.kind == 6) = true then goneSt s e else if (e.kind == 7 || e.kind == 8) = true then toldSt s e
  else if (e.kind == 9) = true then timerSt s e else if (e.kind == 10 || e.kind == 11) = true then offSt s e else if (e.kind == 12) = true then accSt s e
  else if (e.kind == 13) = true then outSt s e else if (e.kind == 14) = true then s else closedSt s e

set_option maxRecDepth 100000 in
theorem state_turn (s : St) (e : Ev) : HCall PP 147 [.ptr 0 0, fv e.enc] (HS s) (I64 (turnX s e)) (HS (turnSt s e)) := by
  refine hcall_of TTok Tryz.func147 rfl rfl rfl rfl rfl (fun _ => ?_)
  unfold turnX turnSt
  (repeat' ((conv => whnf); first | refine bsplit (fun _ => ?_) (fun _ => ?_) | refine adraw ?_ | refine leave ?_ | refine ahcall [0, 1, 2] (state_started s e) ?_ | refine ahcall [0, 1, 2] (state_scheduled s e) ?_ | refine ahcall [0, 1, 2] (state_taken s e) ?_ | refine ahcall [0, 1, 2] (state_gone s e) ?_ | refine ahcall [0, 1, 2] (state_told s e) ?_ | refine ahcall [0, 1, 2] (state_timer s e) ?_ | refine ahcall [0, 1, 2] (state_off s e) ?_ | refine ahcall [0, 1, 2] (state_accepted s e) ?_ | refine ahcall [0, 1, 2] (state_outcome s e) ?_ | refine ahcall [0, 1, 2] (state_closed s e) ?_ | refine And.intro (by first | assumption | omega | (simp; omega)) ?_)) <;> (try (conv => whnf))
  all_goals simp only [*, if_true, Bool.false_eq_true, if_false, Bool.or_true, Bool.true_or, Bool.or_false]
  all_goals first
    | exact ⟨[(4, I64 _)], _, .move 5 1 rfl (.move 6 2 rfl (.trunc [_, _, _, _] ⟨rfl, trivial⟩ rfl rfl rfl rfl)), rfl, rfl⟩
    | exact ⟨[(4, I64 _)], _, .trunc [_] ⟨rfl, trivial⟩ rfl rfl rfl rfl, rfl, rfl⟩

end Go.AW

/- States: a step. -/
namespace Go.AW
open Go Go.Proofs

def stepX (s : St) (e : Ev) : Int := if (maySt s e != 0) = true then maySt s e else if (turnX s e != 0) = true then turnX s e else 0
def stepSt (s : St) (e : Ev) : St := if (maySt s e != 0) = true then s else if (turnX s e != 0) = true then s else { turnSt s e with count := IntKind.i64.wrap ((turnSt s e).count + 1), time := e.time }

set_option maxRecDepth 100000 in
theorem state_Step (s : St) (e : Ev) : PCall PP 128 [fv s.enc, fv e.enc] (.tup [fv (stepSt s e).enc, I64 (stepX s e)]) := by
  refine pcall_of TTok Tryz.func128 rfl rfl rfl rfl rfl rfl (fun _ => ?_)
  unfold stepX stepSt
  (repeat' ((conv => whnf); first | refine bsplit (fun _ => ?_) (fun _ => ?_) | refine adraw ?_ | refine leave ?_ | refine acall (state_may s e) ?_ | refine dcall (state_may s e) ?_ | refine GCall.sym _ (fun hg => PC.own (state_may s e)) ?_ | refine ahcall [] (state_CloneH s) ?_ | refine acall (event_Clone e) ?_ | refine dcall (event_Clone e) ?_ | refine GCall.sym _ (fun hg => PC.own (event_Clone e)) ?_ | refine ahcall [7, 5, 6] (state_turn s e) ?_ | refine And.intro (by first | assumption | omega | (simp; omega)) ?_)) <;> (try (conv => whnf))
  all_goals simp only [*, if_true, Bool.false_eq_true, if_false]
  all_goals exact ⟨rfl⟩

end Go.AW

/- Histories: the state behind some events. -/
namespace Go.AW
open Go Go.Proofs

abbrev FE (l : List Ev) : V := .fr (.sl 13 136 (l.map Ev.enc))

def walkGo : St → List Ev → Nat → St × Nat × Int
  | s, [], k => (s, k, 0)
  | s, e :: r, k => if (stepX s e != 0) = true then (s, k, stepX s e) else walkGo (stepSt s e) r (k + 1)
abbrev walkV (x : St × Nat × Int) : V := .tup [fv x.1.enc, I64 x.2.1, I64 x.2.2]

theorem fold_nothing (s : St) : PCall PP 108 [fv s.enc] (.tup []) := by
  refine pcall_of TTok Tryz.func108 rfl rfl rfl rfl rfl rfl (fun _ => ?_)
  (repeat' ((conv => whnf); first | refine bsplit (fun _ => ?_) (fun _ => ?_) | refine adraw ?_ | refine leave ?_ | refine And.intro (by first | assumption | omega | (simp; omega)) ?_)) <;> (try (conv => whnf))
  exact ⟨rfl⟩

set_option maxRecDepth 100000 in
theorem fold_walk (see : Nat) (hs : ∀ s : St, PCall PP see [fv s.enc] (.tup [])) (s : St) (l : List Ev) : PCall PP 107 [fv s.enc, FE l, .clo see []] (walkV (walkGo s l 0)) := by
  refine pcall_of TTok Tryz.func107 rfl rfl rfl rfl rfl rfl (fun hfit => ?_)
  have hb : l.length * 136 ≤ 140737488355328 := fit_rows (show FitF _ from hfit.2.1)
  have hl : (l.map Ev.enc).length = l.length := List.length_map _
  (repeat' ((conv => whnf); first | refine bsplit (fun _ => ?_) (fun _ => ?_) | refine adraw ?_ | refine leave ?_ | refine And.intro (by first | assumption | omega | (simp; omega)) ?_)) <;> (try (conv => whnf))
  refine aloopK [1, 2, 3, 6, 13, 14] (fun x : Nat × St => [(15, I64 x.1)]) (fun x => [.cells (x.2.enc.map .fr), _]) (fun x => l.length - x.1) (fun x => x.1 ≤ l.length ∧ walkGo s l 0 = walkGo x.2 (l.drop x.1) x.1) (0, s) ⟨by simp, rfl⟩ ⟨rfl, trivial⟩ rfl ?_
  conv => whnf
  rintro ⟨k, t⟩ ⟨hk, hR⟩
  simp only at hk hR
  (repeat' ((conv => whnf); first | refine bsplit (fun _ => ?_) (fun _ => ?_) | refine adraw ?_ | refine leave ?_ | refine And.intro (by first | assumption | omega | (simp; omega)) ?_)) <;> (try (conv => whnf))
  · rename_i h1
    rw [hl] at h1
    have hk2 := ltx h1
    obtain ⟨x, hx⟩ := getx l hk2
    rw [drop_cons hx] at hR
    simp only [walkGo] at hR
    refine aidx rfl hx ?_
    (repeat' ((conv => whnf); first | refine bsplit (fun _ => ?_) (fun _ => ?_) | refine adraw ?_ | refine leave ?_ | refine acall (state_Step t x) ?_ | refine dcall (state_Step t x) ?_ | refine GCall.sym _ (fun hg => PC.own (state_Step t x)) ?_ | refine acall (hs (stepSt t x)) ?_ | refine dcall (hs (stepSt t x)) ?_ | refine GCall.sym _ (fun hg => PC.own (hs (stepSt t x))) ?_ | refine And.intro (by first | assumption | omega | (simp; omega)) ?_)) <;> (try (conv => whnf))
    · rename_i h2
      rw [h2, if_pos rfl] at hR
      rw [hR]
      exact ⟨rfl⟩
    · rename_i h2
      rw [h2] at hR
      exact ⟨⟨(k + 1, stepSt t x), by show k + 1 ≤ _; omega, by rw [hR]; rfl⟩, by show l.length - (k + 1) < l.length - k; omega, (.trunc [_, _] (subE_append ⟨i64_inj (wrap_add hk2 (by omega)), trivial⟩ (by repeat' (first | exact trivial | refine ⟨rfl, ?_⟩))) rfl rfl rfl rfl)⟩
  · rename_i h1
    rw [hl] at h1
    have hk2 := gex hk h1
    rw [hk2, List.drop_length] at hR
    rw [hR]
    subst hk2
    exact ⟨by rw [hl]; rfl⟩

/-- A state of which only the run is set. -/
def stN (run : Int) : St := ⟨run, 0, 0, 0, 0, 0, 0, ⟨#[]⟩, Val.zero, ⟨0, 0, 0⟩, ⟨0, 0, 0, 0, 0⟩, false, false, [], [], Val.zero, ⟨#[]⟩⟩
def runBad (run : Int) : Bool := decide (run < 1) || decide (run > 10)

set_option maxRecDepth 100000 in
theorem fold_Extend (s : St) (l : List Ev) : PCall PP 73 [fv s.enc, FE l] (walkV (walkGo s l 0)) := by
  refine pcall_of TTok Tryz.func73 rfl rfl rfl rfl rfl rfl (fun _ => ?_)
  (repeat' ((conv => whnf); first | refine bsplit (fun _ => ?_) (fun _ => ?_) | refine adraw ?_ | refine leave ?_ | refine acall (state_Clone s) ?_ | refine dcall (state_Clone s) ?_ | refine GCall.sym _ (fun hg => PC.own (state_Clone s)) ?_ | refine acall (fold_walk _ fold_nothing s l) ?_ | refine dcall (fold_walk _ fold_nothing s l) ?_ | refine GCall.sym _ (fun hg => PC.own (fold_walk _ fold_nothing s l)) ?_ | refine And.intro (by first | assumption | omega | (simp; omega)) ?_)) <;> (try (conv => whnf))
  exact ⟨rfl⟩

set_option maxRecDepth 100000 in
theorem fold_origin (run : Int) : PCall PP 106 [I64 run] (.tup [fv (stN (if runBad run = true then 0 else run)).enc, I64 (if runBad run = true then 1 else 0)]) := by
  refine pcall_of TTok Tryz.func106 rfl rfl rfl rfl rfl rfl (fun _ => ?_)
  (repeat' ((conv => whnf); first | refine bsplit (fun _ => ?_) (fun _ => ?_) | refine adraw ?_ | refine leave ?_ | refine And.intro (by first | assumption | omega | (simp; omega)) ?_)) <;> (try (conv => whnf))
  all_goals (rename_i h; simp only [Bool.cond_true_left] at h; have h' : runBad run = _ := h; rw [h']; exact ⟨rfl⟩)

def buildGo (run : Int) (l : List Ev) : St × Nat × Int := if runBad run = true then (stN 0, 0, 1) else walkGo (stN run) l 0
set_option maxRecDepth 100000 in
theorem fold_Build (run : Int) (l : List Ev) : PCall PP 72 [I64 run, FE l] (walkV (buildGo run l)) := by
  refine pcall_of TTok Tryz.func72 rfl rfl rfl rfl rfl rfl (fun _ => ?_)
  have h1 := fold_origin run
  unfold buildGo
  cases hr : runBad run with
  | true =>
    rw [hr] at h1
    (repeat' ((conv => whnf); first | refine bsplit (fun _ => ?_) (fun _ => ?_) | refine adraw ?_ | refine leave ?_ | refine acall (h1) ?_ | refine dcall (h1) ?_ | refine GCall.sym _ (fun hg => PC.own (h1)) ?_ | refine And.intro (by first | assumption | omega | (simp; omega)) ?_)) <;> (try (conv => whnf))
    exact ⟨rfl⟩
  | false =>
    rw [hr] at h1
    (repeat' ((conv => whnf); first | refine bsplit (fun _ => ?_) (fun _ => ?_) | refine adraw ?_ | refine leave ?_ | refine acall (h1) ?_ | refine dcall (h1) ?_ | refine GCall.sym _ (fun hg => PC.own (h1)) ?_ | refine acall (fold_walk _ fold_nothing (stN run) l) ?_ | refine dcall (fold_walk _ fold_nothing (stN run) l) ?_ | refine GCall.sym _ (fun hg => PC.own (fold_walk _ fold_nothing (stN run) l)) ?_ | refine And.intro (by first | assumption | omega | (simp; omega)) ?_)) <;> (try (conv => whnf))
    exact ⟨rfl⟩

end Go.AW

