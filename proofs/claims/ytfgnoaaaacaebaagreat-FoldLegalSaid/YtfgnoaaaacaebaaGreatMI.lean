/- The references of states: a step's parts. -/
import Derived.Test.YtfgnoaaaacaebaaGreatMG
import Derived.Test.YtfgnoaaaacaebaaGreatMF
namespace Go.AW
open Go Go.Proofs

def pT (name : ByteArray) (t : Tim) : Bool := decide (t.name = name)
theorem ref16_timer (s : St) (name : ByteArray) : PCall PP 138 [fv s.enc, S1 name] (I64 (idxI (pT name) s.timers 0)) := by
  refine pcall_of TTok Tryz.func138 rfl rfl rfl rfl rfl rfl (fun hfit => ?_)
  have hf0 : FitV (fv s.enc) := hfit.1
  have hb := (st_fit (s := s) (fitV_fv (l := s.enc) hf0)).1
  have hl : (s.timers.map Tim.enc).length = s.timers.length := List.length_map _
  (repeat' ((conv => whnf); first | refine bsplit (fun _ => ?_) (fun _ => ?_) | refine adraw ?_ | refine leave ?_ | refine And.intro (by first | assumption | omega | (simp; omega)) ?_)) <;> (try (conv => whnf))
  refine aloopK [1, 2] (fun k : Nat => [(5, I64 k)]) (fun _ => _) (fun k => s.timers.length - k) (fun k => k ≤ s.timers.length ∧ idxI (pT name) s.timers 0 = idxI (pT name) (s.timers.drop k) k) 0 ⟨by omega, rfl⟩ ⟨rfl, trivial⟩ rfl ?_
  conv => whnf
  rintro k ⟨hk, hR⟩
  (repeat' ((conv => whnf); first | refine bsplit (fun _ => ?_) (fun _ => ?_) | refine adraw ?_ | refine leave ?_ | refine And.intro (by first | assumption | omega | (simp; omega)) ?_)) <;> (try (conv => whnf))
  · rename_i h1
    rw [hl] at h1
    have hk2 := ltx h1
    obtain ⟨x, hx⟩ := getx s.timers hk2
    rw [drop_cons hx] at hR
    simp only [idxI] at hR
    refine aidx rfl hx ?_
    (repeat' ((conv => whnf); first | refine bsplit (fun _ => ?_) (fun _ => ?_) | refine adraw ?_ | refine leave ?_ | refine And.intro (by first | assumption | omega | (simp; omega)) ?_)) <;> (try (conv => whnf))
    · rename_i h2
      have h3 : pT name x = true := h2
      rw [h3, if_pos rfl] at hR
      rw [hR]; exact ⟨rfl⟩
    · rename_i h2
      have h3 : pT name x = false := h2
      rw [h3] at hR
      exact ⟨⟨k + 1, by omega, by rw [hR]; rfl⟩, by show s.timers.length - (k + 1) < s.timers.length - k; omega, (.same (subE_append ⟨i64_inj (wrap_add hk2 (by omega)), trivial⟩ (by repeat' (first | exact trivial | refine ⟨rfl, ?_⟩))) rfl)⟩
  · rename_i h1
    rw [hl] at h1
    have hk2 := gex hk h1
    rw [hk2, List.drop_length] at hR
    rw [hR]; exact ⟨rfl⟩

set_option maxRecDepth 100000 in
theorem ref16_Clone (s : St) : PCall PP 99 [fv s.enc] (fv s.enc) := by
  refine pcall_of TTok Tryz.func99 rfl rfl rfl rfl rfl rfl (fun hfit => ?_)
  have hf0 : FitV (fv s.enc) := hfit.1
  obtain ⟨hb1, hb⟩ := st_fit (s := s) (fitV_fv (l := s.enc) hf0)
  have hl : (s.updates.map Upd.enc).length = s.updates.length := List.length_map _
  have hl2 : (s.timers.map Tim.enc).length = s.timers.length := List.length_map _
  (repeat' ((conv => whnf); first | refine bsplit (fun _ => ?_) (fun _ => ?_) | refine adraw ?_ | refine leave ?_ | refine acall (ref05_Clone _) ?_ | refine dcall (ref05_Clone _) ?_ | refine GCall.sym _ (fun hg => PC.own (ref05_Clone _)) ?_ | refine And.intro (by first | assumption | omega | (simp; omega)) ?_)) <;> (try (conv => whnf))
  refine aloopV _ _ (.thaw 3 47 12 152 rfl .refl) ?_
  refine aloopK [1, 2] (fun k : Nat => [(3, .buf 3), (4, I64 k)]) (fun k => [_, _, _, .buf 47 12 152 ((s.updates.map Upd.enc).take k)]) (fun k => s.updates.length - k) (fun k => k ≤ s.updates.length) 0 (by omega) ⟨rfl, rfl, trivial⟩ rfl ?_
  conv => whnf
  intro k hk
  (repeat' ((conv => whnf); first | refine bsplit (fun _ => ?_) (fun _ => ?_) | refine adraw ?_ | refine leave ?_ | refine And.intro (by first | assumption | omega | (simp; omega)) ?_)) <;> (try (conv => whnf))
  · rename_i h1
    rw [hl] at h1
    have hk2 := ltx h1
    obtain ⟨x, hx⟩ := getx s.updates hk2
    have ht : (s.updates.map Upd.enc).take (k + 1) = (s.updates.map Upd.enc).take k ++ [x.enc] := take_snoc (by rw [List.getElem?_map, hx]; rfl)
    refine aidx rfl hx ?_
    (repeat' ((conv => whnf); first | refine bsplit (fun _ => ?_) (fun _ => ?_) | refine adraw ?_ | refine leave ?_ | refine acall (ref05_Clone x.value) ?_ | refine dcall (ref05_Clone x.value) ?_ | refine GCall.sym _ (fun hg => PC.own (ref05_Clone x.value)) ?_ | refine acall (ref05_Clone x.outcome) ?_ | refine dcall (ref05_Clone x.outcome) ?_ | refine GCall.sym _ (fun hg => PC.own (ref05_Clone x.outcome)) ?_ | refine And.intro (by first | assumption | omega | (simp; omega)) ?_)) <;> (try (conv => whnf))
    exact ⟨⟨k + 1, by omega⟩, by show s.updates.length - (k + 1) < s.updates.length - k; omega, .move 5 3 rfl (.trunc [_, _] (subE_append ⟨rfl, i64_inj (wrap_add hk2 (by omega)), trivial⟩ (by repeat' (first | exact trivial | refine ⟨rfl, ?_⟩))) (by rw [ht]; rfl) rfl rfl rfl)⟩
  · rename_i h1
    rw [hl] at h1
    have hk2 := gex hk h1
    have e : (s.updates.map Upd.enc).take k = s.updates.map Upd.enc := List.take_of_length_le (by rw [hl]; omega)
    rw [e]
    (repeat' ((conv => whnf); first | refine bsplit (fun _ => ?_) (fun _ => ?_) | refine adraw ?_ | refine leave ?_ | refine And.intro (by first | assumption | omega | (simp; omega)) ?_)) <;> (try (conv => whnf))
    exact ⟨rfl⟩

set_option maxRecDepth 100000 in
theorem ref16_tasks (s : St) (e : Ev) (h1 : 1 ≤ e.kind) (h6 : e.kind ≤ 6) : PCall PP 121 [fv s.enc, fv e.enc] (.tup [fv (turnSt s e).enc, I64 (turnX s e)]) := by
  refine pcall_of TTok Tryz.func121 rfl rfl rfl rfl rfl rfl (fun _ => ?_)
  obtain ⟨k, t, n, d, nm, v, p⟩ := e
  have hk : k = 1 ∨ k = 2 ∨ k = 3 ∨ k = 4 ∨ k = 5 ∨ k = 6 := by simp only at h1 h6; omega
  rcases hk with rfl | rfl | rfl | rfl | rfl | rfl
  · (repeat' ((conv => whnf); first | refine bsplit (fun _ => ?_) (fun _ => ?_) | refine adraw ?_ | refine leave ?_ | refine acall (ref05_Clone _) ?_ | refine dcall (ref05_Clone _) ?_ | refine GCall.sym _ (fun hg => PC.own (ref05_Clone _)) ?_ | refine And.intro (by first | assumption | omega | (simp; omega)) ?_)) <;> (try (conv => whnf))
    exact ⟨rfl⟩
  · have e1 : turnSt s ⟨2, t, n, d, nm, v, p⟩ = scheduledSt s ⟨2, t, n, d, nm, v, p⟩ := rfl
    have e2 : turnX s ⟨2, t, n, d, nm, v, p⟩ = if (s.task.state != 0) = true then 20 else 0 := rfl
    rw [e1, e2]
    unfold scheduledSt
    (repeat' ((conv => whnf); first | refine bsplit (fun _ => ?_) (fun _ => ?_) | refine adraw ?_ | refine leave ?_ | refine And.intro (by first | assumption | omega | (simp; omega)) ?_)) <;> (try (conv => whnf))
    · rename_i h
      have h' : (s.task.state != 0) = true := by simpa using h
      rw [h']; exact ⟨rfl⟩
    · rename_i h
      have h' : (s.task.state != 0) = false := by simpa using h
      rw [h']; exact ⟨rfl⟩
  · have e1 : turnSt s ⟨3, t, n, d, nm, v, p⟩ = takenSt s ⟨3, t, n, d, nm, v, p⟩ := rfl
    have e2 : turnX s ⟨3, t, n, d, nm, v, p⟩ = if (s.task.state != 1) = true then 20 else 0 := rfl
    rw [e1, e2]
    unfold takenSt
    (repeat' ((conv => whnf); first | refine bsplit (fun _ => ?_) (fun _ => ?_) | refine adraw ?_ | refine leave ?_ | refine And.intro (by first | assumption | omega | (simp; omega)) ?_)) <;> (try (conv => whnf))
    · rename_i h
      have h' : (s.task.state != 1) = true := by simpa using h
      rw [h']; exact ⟨rfl⟩
    · rename_i h
      have h' : (s.task.state != 1) = false := by simpa using h
      rw [h']; exact ⟨rfl⟩
  · have e1 : turnSt s ⟨4, t, n, d, nm, v, p⟩ = goneSt s ⟨4, t, n, d, nm, v, p⟩ := rfl
    have e2 : turnX s ⟨4, t, n, d, nm, v, p⟩ = if goneBad s ⟨4, t, n, d, nm, v, p⟩ = true then 20 else 0 := rfl
    rw [e1, e2]
    unfold goneSt
    (repeat' ((conv => whnf); first | refine bsplit (fun _ => ?_) (fun _ => ?_) | refine adraw ?_ | refine leave ?_ | refine And.intro (by first | assumption | omega | (simp; omega)) ?_)) <;> (try (conv => whnf))
    · rename_i h
      have h' : goneBad s ⟨4, t, n, d, nm, v, p⟩ = true := by simpa [goneBad] using h
      rw [h']; exact ⟨rfl⟩
    · rename_i h
      have h' : goneBad s ⟨4, t, n, d, nm, v, p⟩ = false := by simpa [goneBad] using h
      rw [h']; exact ⟨rfl⟩
  · have e1 : turnSt s ⟨5, t, n, d, nm, v, p⟩ = goneSt s ⟨5, t, n, d, nm, v, p⟩ := rfl
    have e2 : turnX s ⟨5, t, n, d, nm, v, p⟩ = if goneBad s ⟨5, t, n, d, nm, v, p⟩ = true then 20 else 0 := rfl
    rw [e1, e2]
    unfold goneSt
    (repeat' ((conv => whnf); first | refine bsplit (fun _ => ?_) (fun _ => ?_) | refine adraw ?_ | refine leave ?_ | refine And.intro (by first | assumption | omega | (simp; omega)) ?_)) <;> (try (conv => whnf))
    · rename_i h
      have h' : goneBad s ⟨5, t, n, d, nm, v, p⟩ = true := by simpa [goneBad] using h
      rw [h']; exact ⟨rfl⟩
    · rename_i h h2
      have h' : goneBad s ⟨5, t, n, d, nm, v, p⟩ = false := by simpa [goneBad] using h
      have h3 : decide (n > 0) = true := by simpa using h2
      rw [h']
      simp only [Bool.false_eq_true, if_false]
      rw [h3]; exact ⟨rfl⟩
    · rename_i h h2
      have h' : goneBad s ⟨5, t, n, d, nm, v, p⟩ = false := by simpa [goneBad] using h
      have h3 : decide (n > 0) = false := by simpa using h2
      rw [h']
      simp only [Bool.false_eq_true, if_false]
      rw [h3]; exact ⟨rfl⟩
  · have e1 : turnSt s ⟨6, t, n, d, nm, v, p⟩ = goneSt s ⟨6, t, n, d, nm, v, p⟩ := rfl
    have e2 : turnX s ⟨6, t, n, d, nm, v, p⟩ = if goneBad s ⟨6, t, n, d, nm, v, p⟩ = true then 20 else 0 := rfl
    rw [e1, e2]
    unfold goneSt
    (repeat' ((conv => whnf); first | refine bsplit (fun _ => ?_) (fun _ => ?_) | refine adraw ?_ | refine leave ?_ | refine And.intro (by first | assumption | omega | (simp; omega)) ?_)) <;> (try (conv => whnf))
    · rename_i h
      have h' : goneBad s ⟨6, t, n, d, nm, v, p⟩ = true := by simpa [goneBad] using h
      rw [h']; exact ⟨rfl⟩
    · rename_i h
      have h' : goneBad s ⟨6, t, n, d, nm, v, p⟩ = false := by simpa [goneBad] using h
      rw [h']; exact ⟨rfl⟩

/-! ### Signals, timers -/
theorem pT_has (name : ByteArray) (l : List Tim) : (idxI (pT name) l 0 = -1 ∧ hasT name l = false) ∨ (idxI (pT name) l 0 = (placeT name l : Int) ∧ hasT name l = true) := by
  rcases idxI_N (pT name) l 0 with ⟨h1, h2, _⟩ | ⟨h1, h2, _⟩
  · exact .inl ⟨by simpa using h1, h2⟩
  · refine .inr ⟨?_, h2⟩
    have e : hasT name l = true := h2
    unfold placeT
    rw [e, if_pos rfl]
    have h1' : idxI (pT name) l ((0 : Nat) : Int) = ((0 + idxN (pT name) l : Nat) : Int) := h1
    rw [Nat.zero_add] at h1'
    exact h1'

set_option maxRecDepth 100000 in
theorem ref16_signals (s : St) (e : Ev) (h1 : 7 ≤ e.kind) (h6 : e.kind ≤ 11) : PCall PP 122 [fv s.enc, fv e.enc] (.tup [fv (turnSt s e).enc, I64 (turnX s e)]) := by
  refine pcall_of TTok Tryz.func122 rfl rfl rfl rfl rfl rfl (fun hfit => ?_)
  have hf0 : FitV (fv s.enc) := hfit.1
  obtain ⟨hb1, hb⟩ := st_fit (s := s) (fitV_fv (l := s.enc) hf0)
  have hl : (s.timers.map Tim.enc).length = s.timers.length := List.length_map _
  obtain ⟨k, t, n, d, nm, v, p⟩ := e
  have ht := ref16_timer s nm
  have hk : k = 7 ∨ k = 8 ∨ k = 9 ∨ k = 10 ∨ k = 11 := by simp only at h1 h6; omega
  rcases hk with rfl | rfl | rfl | rfl | rfl
  · (repeat' ((conv => whnf); first | refine bsplit (fun _ => ?_) (fun _ => ?_) | refine adraw ?_ | refine leave ?_ | refine acall (ht) ?_ | refine dcall (ht) ?_ | refine GCall.sym _ (fun hg => PC.own (ht)) ?_ | refine And.intro (by first | assumption | omega | (simp; omega)) ?_)) <;> (try (conv => whnf))
    exact ⟨rfl⟩
  · have e1 : turnSt s ⟨8, t, n, d, nm, v, p⟩ = if s.cancel = true then s else { s with cancel := true, fresh := true } := rfl
    have e2 : turnX s ⟨8, t, n, d, nm, v, p⟩ = if s.cancel = true then 20 else 0 := rfl
    rw [e1, e2]
    (repeat' ((conv => whnf); first | refine bsplit (fun _ => ?_) (fun _ => ?_) | refine adraw ?_ | refine leave ?_ | refine acall (ht) ?_ | refine dcall (ht) ?_ | refine GCall.sym _ (fun hg => PC.own (ht)) ?_ | refine And.intro (by first | assumption | omega | (simp; omega)) ?_)) <;> (try (conv => whnf))
    · rename_i h
      rw [if_pos h, if_pos h]; exact ⟨rfl⟩
    · rename_i h
      rw [if_neg (by rw [h]; decide), if_neg (by rw [h]; decide)]; exact ⟨rfl⟩
  · have e1 : turnSt s ⟨9, t, n, d, nm, v, p⟩ = timerSt s ⟨9, t, n, d, nm, v, p⟩ := rfl
    have e2 : turnX s ⟨9, t, n, d, nm, v, p⟩ = timerX s ⟨9, t, n, d, nm, v, p⟩ := rfl
    rw [e1, e2]
    unfold timerX timerSt
    simp only
    rcases pT_has nm s.timers with ⟨g1, g2⟩ | ⟨g1, g2⟩
    · rw [g1] at ht
      rw [g2]
      (repeat' ((conv => whnf); first | refine bsplit (fun _ => ?_) (fun _ => ?_) | refine adraw ?_ | refine leave ?_ | refine acall (ht) ?_ | refine dcall (ht) ?_ | refine GCall.sym _ (fun hg => PC.own (ht)) ?_ | refine And.intro (by first | assumption | omega | (simp; omega)) ?_)) <;> (try (conv => whnf))
      · rename_i h
        rw [hl] at h
        rw [h]; exact ⟨rfl⟩
      · rename_i h
        rw [hl] at h
        rw [h]
        have h10 : s.timers.length < 10 := by have := of_decide_eq_false h; omega
        have htk : ∀ k, k ≤ s.timers.length → ((s.timers.map Tim.enc).take k).length = k := fun k hk => by rw [List.length_take, hl]; omega
        refine aloopV _ _ (.thaw 7 71 2 24 rfl .refl) ?_
        refine aloopK [2, 3, 4] (fun k : Nat => [(7, .buf 3), (8, I64 k)]) (fun k => [_, _, _, .buf 71 2 24 ((s.timers.map Tim.enc).take k)]) (fun k => s.timers.length - k)
          (fun k => k ≤ s.timers.length ∧ idxN (fun t : Tim => !sless t.name nm) s.timers = k + idxN (fun t : Tim => !sless t.name nm) (s.timers.drop k)) 0 ⟨by omega, by simp⟩ ⟨rfl, rfl, trivial⟩ rfl ?_
        conv => whnf
        rintro k ⟨hk, hR⟩
        have hkl := htk k hk
        (repeat' ((conv => whnf); first | refine bsplit (fun _ => ?_) (fun _ => ?_) | refine adraw ?_ | refine leave ?_ | refine And.intro (by first | assumption | omega | (simp; omega)) ?_)) <;> (try (conv => whnf))
        refine GIdx.mk ⟨((s.timers[k]?).getD ⟨nm, 0⟩).enc, fun hg => ?_, ?_⟩
        · rw [hl] at hg
          have hk2 : k < s.timers.length := by simpa [eqw] using hg
          exact ⟨Int.natCast_nonneg _, by rw [Int.toNat_natCast, List.getElem?_map, List.getElem?_eq_getElem hk2]; rfl⟩
        · (repeat' ((conv => whnf); first | refine bsplit (fun _ => ?_) (fun _ => ?_) | refine adraw ?_ | refine leave ?_ | refine And.intro (by first | assumption | omega | (simp; omega)) ?_)) <;> (try (conv => whnf))
          · rename_i h2
            rw [hl] at h2
            have hk2 : k < s.timers.length := by
              cases hd : decide ((k : Int) < (s.timers.length : Int)) with
              | true => have := of_decide_eq_true hd; omega
              | false => rw [hd] at h2; cases h2
            obtain ⟨x, hx⟩ := getx s.timers hk2
            rw [hx] at h2
            have hd : decide ((k : Int) < (s.timers.length : Int)) = true := by simp; omega
            rw [hd] at h2
            have h3 : sless x.name nm = true := h2
            refine aidx rfl hx ?_
            (repeat' ((conv => whnf); first | refine bsplit (fun _ => ?_) (fun _ => ?_) | refine adraw ?_ | refine leave ?_ | refine And.intro (by first | assumption | omega | (simp; omega)) ?_)) <;> (try (conv => whnf))
            have ht2 : (s.timers.map Tim.enc).take (k + 1) = (s.timers.map Tim.enc).take k ++ [x.enc] := take_snoc (by rw [List.getElem?_map, hx]; rfl)
            rw [drop_cons hx] at hR
            simp only [idxN, h3, Bool.not_true, Bool.false_eq_true, if_false] at hR
            exact ⟨⟨k + 1, by omega, by rw [hR]; omega⟩, by show s.timers.length - (k + 1) < s.timers.length - k; omega, .move 4 3 rfl (.trunc [_] (subE_append ⟨rfl, i64_inj (wrap_add hk2 (by omega)), trivial⟩ (by repeat' (first | exact trivial | refine ⟨rfl, ?_⟩))) (by rw [ht2]; rfl) rfl rfl rfl)⟩
          · rename_i h2
            rw [hl] at h2
            have hkk : placeT nm s.timers = k := by
              unfold placeT
              rw [g2]
              simp only [Bool.false_eq_true, if_false]
              rw [hR]
              by_cases hk2 : k < s.timers.length
              · obtain ⟨x, hx⟩ := getx s.timers hk2
                rw [hx] at h2
                have hd : decide ((k : Int) < (s.timers.length : Int)) = true := by simp; omega
                rw [hd] at h2
                have h3 : sless x.name nm = false := h2
                rw [drop_cons hx]
                simp only [idxN, h3, Bool.not_false, if_true, Nat.add_zero]
              · have : k = s.timers.length := by omega
                rw [this, List.drop_length]; rfl
            rw [hkk]
            refine ⟨?_⟩
            have e3 : List.drop ((((s.timers.map Tim.enc).take k).length : Int)).toNat (List.take (((s.timers.map Tim.enc).length : Int)).toNat (s.timers.map Tim.enc)) = (s.timers.drop k).map Tim.enc := by
              rw [hkl, Int.toNat_natCast, Int.toNat_natCast, List.take_length, List.map_drop]
            have e4 : (insT k ⟨nm, d⟩ s.timers).map Tim.enc = (s.timers.map Tim.enc).take k ++ [Tim.enc ⟨nm, d⟩] ++ (s.timers.drop k).map Tim.enc := by
              unfold insT
              rw [List.map_append, List.map_cons, List.map_take, List.append_assoc]; rfl
            rw [e3]
            show _ = V.tup [fv (St.enc { s with timers := insT k ⟨nm, d⟩ s.timers }), I64 0]
            unfold St.enc
            simp only [e4]
            rfl
    · rw [g1] at ht
      rw [g2]
      (repeat' ((conv => whnf); first | refine bsplit (fun _ => ?_) (fun _ => ?_) | refine adraw ?_ | refine leave ?_ | refine acall (ht) ?_ | refine dcall (ht) ?_ | refine GCall.sym _ (fun hg => PC.own (ht)) ?_ | refine And.intro (by first | assumption | omega | (simp; omega)) ?_)) <;> (try (conv => whnf))
      exact ⟨rfl⟩
  · have e1 : turnSt s ⟨10, t, n, d, nm, v, p⟩ = offSt s ⟨10, t, n, d, nm, v, p⟩ := rfl
    have e2 : turnX s ⟨10, t, n, d, nm, v, p⟩ = if offBad s ⟨10, t, n, d, nm, v, p⟩ = true then 20 else 0 := rfl
    rw [e1, e2]
    unfold offSt
    rcases pT_has nm s.timers with ⟨g1, g2⟩ | ⟨g1, g2⟩
    · rw [g1] at ht
      have g3 : offBad s ⟨10, t, n, d, nm, v, p⟩ = true := by simp [offBad, g2]
      rw [g3]
      (repeat' ((conv => whnf); first | refine bsplit (fun _ => ?_) (fun _ => ?_) | refine adraw ?_ | refine leave ?_ | refine acall (ht) ?_ | refine dcall (ht) ?_ | refine GCall.sym _ (fun hg => PC.own (ht)) ?_ | refine And.intro (by first | assumption | omega | (simp; omega)) ?_)) <;> (try (conv => whnf))
      refine GIdx.mk ⟨Tim.enc ⟨nm, 0⟩, fun hg => by simp [eqw] at hg, ?_⟩
      (repeat' ((conv => whnf); first | refine bsplit (fun _ => ?_) (fun _ => ?_) | refine adraw ?_ | refine leave ?_ | refine And.intro (by first | assumption | omega | (simp; omega)) ?_)) <;> (try (conv => whnf))
      exact ⟨rfl⟩
    · rw [g1] at ht
      have hlt := placeT_lt g2
      obtain ⟨x, hx⟩ := getx s.timers hlt
      have hdue : dueT (placeT nm s.timers) s.timers = x.due := by unfold dueT; rw [hx]
      have hw : IntKind.i64.wrap ((placeT nm s.timers : Int) + 1) = ((placeT nm s.timers + 1 : Nat) : Int) := by
        have := wrap_add hlt (by omega); rw [this]
      have htk : ((s.timers.map Tim.enc).take (placeT nm s.timers)).length = placeT nm s.timers := by rw [List.length_take, hl]; omega
      (repeat' ((conv => whnf); first | refine bsplit (fun _ => ?_) (fun _ => ?_) | refine adraw ?_ | refine leave ?_ | refine acall (ht) ?_ | refine dcall (ht) ?_ | refine GCall.sym _ (fun hg => PC.own (ht)) ?_ | refine And.intro (by first | assumption | omega | (simp; omega)) ?_)) <;> (try (conv => whnf))
      refine GIdx.mk ⟨x.enc, fun _ => ⟨Int.natCast_nonneg _, by rw [Int.toNat_natCast, List.getElem?_map, hx]; rfl⟩, ?_⟩
      have hneg : decide ((placeT nm s.timers : Int) < 0) = false := by simp
      have e5 : List.drop (Int.toNat 0) (List.take ((placeT nm s.timers : Int)).toNat (s.timers.map Tim.enc)) ++ List.drop (IntKind.i64.wrap ((placeT nm s.timers : Int) + 1)).toNat (List.take (((s.timers.map Tim.enc).length : Int)).toNat (s.timers.map Tim.enc))
          = (s.timers.take (placeT nm s.timers) ++ s.timers.drop (placeT nm s.timers + 1)).map Tim.enc := by
        rw [hw, Int.toNat_natCast, Int.toNat_natCast, Int.toNat_natCast, List.take_length, List.map_append, List.map_take, List.map_drop]; rfl
      (repeat' ((conv => whnf); first | refine bsplit (fun _ => ?_) (fun _ => ?_) | refine adraw ?_ | refine leave ?_ | refine And.intro (by first | assumption | omega | (simp; omega)) ?_)) <;> (try (conv => whnf))
      · rename_i h2
        have h3 : offBad s ⟨10, t, n, d, nm, v, p⟩ = true := by
          rw [hneg] at h2
          simp only [offBad, g2, hdue]
          simpa using h2
        rw [h3]; exact ⟨rfl⟩
      · rename_i h2
        have h3 : offBad s ⟨10, t, n, d, nm, v, p⟩ = false := by
          rw [hneg] at h2
          simp only [offBad, g2, hdue]
          simpa using h2
        rw [h3]
        simp only [Bool.false_eq_true, if_false]
        refine ⟨?_⟩
        rw [e5]
        unfold St.enc
        simp only [Bool.cond_true_left]
        rfl

  · have e1 : turnSt s ⟨11, t, n, d, nm, v, p⟩ = offSt s ⟨11, t, n, d, nm, v, p⟩ := rfl
    have e2 : turnX s ⟨11, t, n, d, nm, v, p⟩ = if offBad s ⟨11, t, n, d, nm, v, p⟩ = true then 20 else 0 := rfl
    rw [e1, e2]
    unfold offSt
    rcases pT_has nm s.timers with ⟨g1, g2⟩ | ⟨g1, g2⟩
    · rw [g1] at ht
      have g3 : offBad s ⟨11, t, n, d, nm, v, p⟩ = true := by simp [offBad, g2]
      rw [g3]
      (repeat' ((conv => whnf); first | refine bsplit (fun _ => ?_) (fun _ => ?_) | refine adraw ?_ | refine leave ?_ | refine acall (ht) ?_ | refine dcall (ht) ?_ | refine GCall.sym _ (fun hg => PC.own (ht)) ?_ | refine And.intro (by first | assumption | omega | (simp; omega)) ?_)) <;> (try (conv => whnf))
      refine GIdx.mk ⟨Tim.enc ⟨nm, 0⟩, fun hg => by simp [eqw] at hg, ?_⟩
      (repeat' ((conv => whnf); first | refine bsplit (fun _ => ?_) (fun _ => ?_) | refine adraw ?_ | refine leave ?_ | refine And.intro (by first | assumption | omega | (simp; omega)) ?_)) <;> (try (conv => whnf))
      exact ⟨rfl⟩
    · rw [g1] at ht
      have hlt := placeT_lt g2
      obtain ⟨x, hx⟩ := getx s.timers hlt
      have hdue : dueT (placeT nm s.timers) s.timers = x.due := by unfold dueT; rw [hx]
      have hw : IntKind.i64.wrap ((placeT nm s.timers : Int) + 1) = ((placeT nm s.timers + 1 : Nat) : Int) := by
        have := wrap_add hlt (by omega); rw [this]
      have htk : ((s.timers.map Tim.enc).take (placeT nm s.timers)).length = placeT nm s.timers := by rw [List.length_take, hl]; omega
      (repeat' ((conv => whnf); first | refine bsplit (fun _ => ?_) (fun _ => ?_) | refine adraw ?_ | refine leave ?_ | refine acall (ht) ?_ | refine dcall (ht) ?_ | refine GCall.sym _ (fun hg => PC.own (ht)) ?_ | refine And.intro (by first | assumption | omega | (simp; omega)) ?_)) <;> (try (conv => whnf))
      refine GIdx.mk ⟨x.enc, fun _ => ⟨Int.natCast_nonneg _, by rw [Int.toNat_natCast, List.getElem?_map, hx]; rfl⟩, ?_⟩
      have hneg : decide ((placeT nm s.timers : Int) < 0) = false := by simp
      have e5 : List.drop (Int.toNat 0) (List.take ((placeT nm s.timers : Int)).toNat (s.timers.map Tim.enc)) ++ List.drop (IntKind.i64.wrap ((placeT nm s.timers : Int) + 1)).toNat (List.take (((s.timers.map Tim.enc).length : Int)).toNat (s.timers.map Tim.enc))
          = (s.timers.take (placeT nm s.timers) ++ s.timers.drop (placeT nm s.timers + 1)).map Tim.enc := by
        rw [hw, Int.toNat_natCast, Int.toNat_natCast, Int.toNat_natCast, List.take_length, List.map_append, List.map_take, List.map_drop]; rfl
      (repeat' ((conv => whnf); first | refine bsplit (fun _ => ?_) (fun _ => ?_) | refine adraw ?_ | refine leave ?_ | refine And.intro (by first | assumption | omega | (simp; omega)) ?_)) <;> (try (conv => whnf))
      have h3 : offBad s ⟨11, t, n, d, nm, v, p⟩ = false := by simp [offBad, g2]
      rw [h3]
      simp only [Bool.false_eq_true, if_false]
      refine ⟨?_⟩
      rw [e5]
      unfold St.enc
      simp only [Bool.cond_true_left]
      rfl

end Go.AW

/- The references of states: updates, ends. -/
namespace Go.AW
open Go Go.Proofs

theorem idxN_before {α : Type} {p : α → Bool} : ∀ {l : List α} {j : Nat} {y : α}, j < idxN p l → l[j]? = some y → p y = false
  | [], _, _, h, _ => by simp [idxN] at h
  | x :: r, j, y, h, hy => by
    cases hp : p x with
    | true => simp [idxN, hp] at h
    | false =>
      simp only [idxN, hp, Bool.false_eq_true, if_false] at h
      cases j with
      | zero => simp at hy; subst hy; exact hp
      | succ j => exact idxN_before (l := r) (j := j) (by omega) (by simpa using hy)
theorem idxN_at {α : Type} {p : α → Bool} : ∀ {l : List α} {y : α}, l[idxN p l]? = some y → p y = true
  | [], _, h => by simp at h
  | x :: r, y, h => by
    cases hp : p x with
    | true => simp [idxN, hp] at h; subst h; exact hp
    | false =>
      simp only [idxN, hp, Bool.false_eq_true, if_false] at h
      exact idxN_at (l := r) (by simpa using h)
theorem findU_at {nm : ByteArray} : ∀ {l : List Upd} {u : Upd}, findU nm l = some u → l[idxN (fun u => decide (u.name = nm)) l]? = some u
  | [], _, h => by cases h
  | x :: r, u, h => by
    by_cases hn : x.name = nm
    · simp only [findU, hn, if_true] at h
      simp [idxN, hn]
      exact Option.some.inj h
    · simp only [findU, hn, if_false] at h
      simp only [idxN, hn, decide_false, Bool.false_eq_true, if_false]
      simpa using findU_at h
theorem findU_any (nm : ByteArray) : ∀ (l : List Upd), (findU nm l).isSome = l.any fun u => decide (u.name = nm)
  | [] => rfl
  | x :: r => by
    by_cases hn : x.name = nm
    · simp [findU, hn]
    · simp [findU, hn, findU_any nm r]
theorem cmpS_ge (a b : ByteArray) : decide (cmpS a b ≥ 0) = !sless a b := by
  unfold cmpS
  cases sless a b with
  | true => rfl
  | false =>
    simp only [Bool.false_eq_true, if_false, Bool.not_false]
    split <;> rfl

set_option maxRecDepth 100000 in
theorem ref16_updates (s : St) (e : Ev) (h1 : 12 ≤ e.kind) (h6 : e.kind ≤ 14) : PCall PP 123 [fv s.enc, fv e.enc] (.tup [fv (turnSt s e).enc, I64 (turnX s e)]) := by
  refine pcall_of TTok Tryz.func123 rfl rfl rfl rfl rfl rfl (fun hfit => ?_)
  have hf0 : FitV (fv s.enc) := hfit.1
  obtain ⟨hb1, hb⟩ := st_fit (s := s) (fitV_fv (l := s.enc) hf0)
  have hl : (s.updates.map Upd.enc).length = s.updates.length := List.length_map _
  have htk : ∀ k, k ≤ s.updates.length → ((s.updates.map Upd.enc).take k).length = k := fun k hk => by rw [List.length_take, hl]; omega
  obtain ⟨k, t, n, d, nm, v, p⟩ := e
  have hu := ref16_Update s nm
  have hk : k = 12 ∨ k = 13 ∨ k = 14 := by simp only at h1 h6; omega
  rcases hk with rfl | rfl | rfl
  · have e1 : turnSt s ⟨12, t, n, d, nm, v, p⟩ = accSt s ⟨12, t, n, d, nm, v, p⟩ := rfl
    have e2 : turnX s ⟨12, t, n, d, nm, v, p⟩ = accX s ⟨12, t, n, d, nm, v, p⟩ := rfl
    rw [e1, e2]
    unfold accX accSt
    simp only
    (repeat' ((conv => whnf); first | refine bsplit (fun _ => ?_) (fun _ => ?_) | refine adraw ?_ | refine leave ?_ | refine acall (hu) ?_ | refine dcall (hu) ?_ | refine GCall.sym _ (fun hg => PC.own (hu)) ?_ | refine And.intro (by first | assumption | omega | (simp; omega)) ?_)) <;> (try (conv => whnf))
    · rename_i h
      rw [if_pos h, if_pos h]; exact ⟨rfl⟩
    · rename_i h g
      rw [hl] at g
      have n1 : ¬ (findU nm s.updates).isSome = true := by rw [h]; decide
      rw [if_neg n1, if_neg n1, if_pos g, if_pos g]
      exact ⟨rfl⟩
    · rename_i h g
      rw [hl] at g
      have n1 : ¬ (findU nm s.updates).isSome = true := by rw [h]; decide
      have n2 : ¬ decide ((s.updates.length : Int) ≥ 10) = true := by rw [g]; decide
      rw [if_neg n1, if_neg n1, if_neg n2, if_neg n2]
      have h10 : s.updates.length < 10 := by have := of_decide_eq_false g; omega
      refine aloopV _ _ (.thaw 8 47 12 152 rfl .refl) ?_
      refine aloopK [2, 3, 4] (fun k : Nat => [(8, .buf 4), (9, I64 k)]) (fun k => [_, _, _, _, .buf 47 12 152 ((s.updates.map Upd.enc).take k)]) (fun k => s.updates.length - k)
        (fun k => k ≤ s.updates.length ∧ accI s ⟨12, t, n, d, nm, v, p⟩ = k + idxN (fun u : Upd => decide (cmpS u.name nm ≥ 0)) (s.updates.drop k)) 0 ⟨by omega, by simp [accI]⟩ ⟨rfl, rfl, trivial⟩ rfl ?_
      conv => whnf
      rintro k ⟨hk, hR⟩
      have hkl := htk k hk
      (repeat' ((conv => whnf); first | refine bsplit (fun _ => ?_) (fun _ => ?_) | refine adraw ?_ | refine leave ?_ | refine And.intro (by first | assumption | omega | (simp; omega)) ?_)) <;> (try (conv => whnf))
      refine GIdx.mk ⟨((s.updates[k]?).getD ⟨nm, Val.zero, 0, Val.zero⟩).enc, fun hg => ?_, ?_⟩
      · rw [hl] at hg
        have hk2 : k < s.updates.length := by simpa [eqw] using hg
        exact ⟨Int.natCast_nonneg _, by rw [Int.toNat_natCast, List.getElem?_map, List.getElem?_eq_getElem hk2]; rfl⟩
      · (repeat' ((conv => whnf); first | refine bsplit (fun _ => ?_) (fun _ => ?_) | refine adraw ?_ | refine leave ?_ | refine acall (ref05_Clone v) ?_ | refine dcall (ref05_Clone v) ?_ | refine GCall.sym _ (fun hg => PC.own (ref05_Clone v)) ?_ | refine And.intro (by first | assumption | omega | (simp; omega)) ?_)) <;> (try (conv => whnf))
        · rename_i h2
          rw [hl] at h2
          have hk2 : k < s.updates.length := by
            cases hd : decide ((k : Int) < (s.updates.length : Int)) with
            | true => have := of_decide_eq_true hd; omega
            | false => rw [hd] at h2; cases h2
          obtain ⟨x, hx⟩ := getx s.updates hk2
          rw [hx] at h2
          have hd : decide ((k : Int) < (s.updates.length : Int)) = true := by simp; omega
          rw [hd] at h2
          have h3 : sless x.name nm = true := h2
          refine aidx rfl hx ?_
          (repeat' ((conv => whnf); first | refine bsplit (fun _ => ?_) (fun _ => ?_) | refine adraw ?_ | refine leave ?_ | refine And.intro (by first | assumption | omega | (simp; omega)) ?_)) <;> (try (conv => whnf))
          have ht2 : (s.updates.map Upd.enc).take (k + 1) = (s.updates.map Upd.enc).take k ++ [x.enc] := take_snoc (by rw [List.getElem?_map, hx]; rfl)
          rw [drop_cons hx] at hR
          simp only [idxN, cmpS_ge, h3, Bool.not_true, Bool.false_eq_true, if_false] at hR
          exact ⟨⟨k + 1, by omega, by simp only [cmpS_ge]; rw [hR]; omega⟩, by show s.updates.length - (k + 1) < s.updates.length - k; omega, .move 5 4 rfl (.trunc [_] (subE_append ⟨rfl, i64_inj (wrap_add hk2 (by omega)), trivial⟩ (by repeat' (first | exact trivial | refine ⟨rfl, ?_⟩))) (by rw [ht2]; rfl) rfl rfl rfl)⟩
        · rename_i h2
          rw [hl] at h2
          have hkk : accI s ⟨12, t, n, d, nm, v, p⟩ = k := by
            rw [hR]
            by_cases hk2 : k < s.updates.length
            · obtain ⟨x, hx⟩ := getx s.updates hk2
              rw [hx] at h2
              have hd : decide ((k : Int) < (s.updates.length : Int)) = true := by simp; omega
              rw [hd] at h2
              have h3 : sless x.name nm = false := h2
              rw [drop_cons hx]
              simp only [idxN, cmpS_ge, h3, Bool.not_false, if_true, Nat.add_zero]
            · have : k = s.updates.length := by omega
              rw [this, List.drop_length]; rfl
          rw [hkk]
          refine ⟨?_⟩
          have e3 : List.drop ((((s.updates.map Upd.enc).take k).length : Int)).toNat (List.take (((s.updates.map Upd.enc).length : Int)).toNat (s.updates.map Upd.enc)) = (s.updates.drop k).map Upd.enc := by
            rw [hkl, Int.toNat_natCast, Int.toNat_natCast, List.take_length, List.map_drop]
          have e4 : (s.updates.take k ++ ⟨nm, v, 1, Val.zero⟩ :: s.updates.drop k).map Upd.enc = (s.updates.map Upd.enc).take k ++ [Upd.enc ⟨nm, v, 1, Val.zero⟩] ++ (s.updates.drop k).map Upd.enc := by
            rw [List.map_append, List.map_cons, List.map_take, List.append_assoc]; rfl
          rw [e3]
          unfold St.enc
          simp only [e4]
          rfl
  · have e1 : turnSt s ⟨13, t, n, d, nm, v, p⟩ = outSt s ⟨13, t, n, d, nm, v, p⟩ := rfl
    have e2 : turnX s ⟨13, t, n, d, nm, v, p⟩ = if outBad s ⟨13, t, n, d, nm, v, p⟩ = true then 20 else 0 := rfl
    rw [e1, e2]
    unfold outSt
    have hany := findU_any nm s.updates
    have hbad : outBad s ⟨13, t, n, d, nm, v, p⟩ = (!(findU nm s.updates).isSome || (updOf (findU nm s.updates)).stage != 1) := by
      unfold outBad stageU outI
      rw [hany]
      cases hf : findU nm s.updates with
      | none => rw [hf] at hany; rw [← hany]; rfl
      | some u =>
        have h3 := findU_at hf
        simp only [h3]
        rfl
    (repeat' ((conv => whnf); first | refine bsplit (fun _ => ?_) (fun _ => ?_) | refine adraw ?_ | refine leave ?_ | refine acall (hu) ?_ | refine dcall (hu) ?_ | refine GCall.sym _ (fun hg => PC.own (hu)) ?_ | refine And.intro (by first | assumption | omega | (simp; omega)) ?_)) <;> (try (conv => whnf))
    · rename_i h
      have h3 : outBad s ⟨13, t, n, d, nm, v, p⟩ = true := by rw [hbad]; simpa using h
      rw [h3]; exact ⟨rfl⟩
    · rename_i h
      have h3 : outBad s ⟨13, t, n, d, nm, v, p⟩ = false := by rw [hbad]; simpa using h
      rw [h3]
      simp only [Bool.false_eq_true, if_false]
      obtain ⟨u0, hu0⟩ : ∃ u0, findU nm s.updates = some u0 := by
        cases hf : findU nm s.updates with
        | none => rw [hf] at h; cases h
        | some u => exact ⟨u, rfl⟩
      have hat := findU_at hu0
      have hbef : ∀ {j : Nat} {y : Upd}, j < outI s ⟨13, t, n, d, nm, v, p⟩ → s.updates[j]? = some y → decide (y.name = nm) = false := fun h1 h2 => idxN_before (p := fun u : Upd => decide (u.name = nm)) h1 h2
      have hatn : decide (u0.name = nm) = true := idxN_at (p := fun u : Upd => decide (u.name = nm)) hat
      have hat' : s.updates[outI s ⟨13, t, n, d, nm, v, p⟩]? = some u0 := hat
      have hout : outU v (outI s ⟨13, t, n, d, nm, v, p⟩) s.updates = s.updates.set (outI s ⟨13, t, n, d, nm, v, p⟩) { u0 with stage := 2, outcome := v } := by
        unfold outU; rw [hat']
      rw [hout]
      generalize outI s ⟨13, t, n, d, nm, v, p⟩ = i0 at *
      have hls : ((s.updates.set i0 { u0 with stage := 2, outcome := v }).map Upd.enc).length = s.updates.length := by simp
      refine aloopV _ _ (.thaw 8 47 12 152 rfl .refl) ?_
      refine aloopK [2, 3, 4] (fun k : Nat => [(8, .buf 4), (11, B1 (decide (i0 < k))), (12, I64 k)]) (fun k => [_, _, _, _, .buf 47 12 152 (((s.updates.set i0 { u0 with stage := 2, outcome := v }).map Upd.enc).take k)]) (fun k => s.updates.length - k)
        (fun k => k ≤ s.updates.length) 0 (by omega) ⟨rfl, rfl, rfl, trivial⟩ rfl ?_
      conv => whnf
      rintro k hk
      have htk2 : (((s.updates.set i0 { u0 with stage := 2, outcome := v }).map Upd.enc).take k).length = k := by rw [List.length_take, hls]; omega
      (repeat' ((conv => whnf); first | refine bsplit (fun _ => ?_) (fun _ => ?_) | refine adraw ?_ | refine leave ?_ | refine And.intro (by first | assumption | omega | (simp; omega)) ?_)) <;> (try (conv => whnf))
      · rename_i h1
        rw [hl] at h1
        have hk2 := ltx h1
        obtain ⟨x, hx⟩ := getx s.updates hk2
        refine aidx rfl hx ?_
        have hdk : ∀ b : Bool, (bif decide (x.name = nm) then !decide (i0 < k) else false) = b → decide (k = i0) = b := fun b hb => by
          rcases Nat.lt_trichotomy k i0 with h3 | h3 | h3
          · rw [hbef h3 hx] at hb
            have : k ≠ i0 := by omega
            simp [this]; exact hb.symm
          · subst h3
            rw [hat'] at hx
            have hxu : u0 = x := Option.some.inj hx
            rw [← hxu, hatn] at hb
            simp at hb
            simp; exact hb
          · have h4 : decide (i0 < k) = true := by simpa using h3
            have h5 : k ≠ i0 := by omega
            rw [h4] at hb
            simp at hb
            simp [h5]; exact hb
        (repeat' ((conv => whnf); first | refine bsplit (fun _ => ?_) (fun _ => ?_) | refine adraw ?_ | refine leave ?_ | refine acall (ref05_Clone v) ?_ | refine dcall (ref05_Clone v) ?_ | refine GCall.sym _ (fun hg => PC.own (ref05_Clone v)) ?_ | refine And.intro (by first | assumption | omega | (simp; omega)) ?_)) <;> (try (conv => whnf))
        · rename_i h2
          have hki : k = i0 := by simpa using hdk true h2
          subst hki
          rw [hat'] at hx
          have hxu : u0 = x := Option.some.inj hx
          subst hxu
          have ht : ((s.updates.set k { u0 with stage := 2, outcome := v }).map Upd.enc).take (k + 1) = ((s.updates.set k { u0 with stage := 2, outcome := v }).map Upd.enc).take k ++ [Upd.enc { u0 with stage := 2, outcome := v }] :=
            take_snoc (by rw [List.getElem?_map, List.getElem?_set_self hk2]; rfl)
          exact ⟨⟨k + 1, by omega⟩, by show s.updates.length - (k + 1) < s.updates.length - k; omega, .move 6 4 rfl (.trunc [_, _] (subE_append ⟨rfl, b1_inj (by simp), i64_inj (wrap_add hk2 (by omega)), trivial⟩ (by repeat' (first | exact trivial | refine ⟨rfl, ?_⟩))) (by rw [ht]; rfl) rfl rfl rfl)⟩
        · rename_i h2
          have hki : k ≠ i0 := by simpa using hdk false h2
          have ht : ((s.updates.set i0 { u0 with stage := 2, outcome := v }).map Upd.enc).take (k + 1) = ((s.updates.set i0 { u0 with stage := 2, outcome := v }).map Upd.enc).take k ++ [x.enc] :=
            take_snoc (by rw [List.getElem?_map, List.getElem?_set_ne (Ne.symm hki), hx]; rfl)
          exact ⟨⟨k + 1, by omega⟩, by show s.updates.length - (k + 1) < s.updates.length - k; omega, .move 6 4 rfl (.trunc [_, _] (subE_append ⟨rfl, b1_inj (by rw [decide_eq_decide]; show i0 < k ↔ i0 < k + 1; omega), i64_inj (wrap_add hk2 (by omega)), trivial⟩ (by repeat' (first | exact trivial | refine ⟨rfl, ?_⟩))) (by rw [ht]; rfl) rfl rfl rfl)⟩
      · rename_i h1
        rw [hl] at h1
        have hk2 := gex hk h1
        have e : ((s.updates.set i0 { u0 with stage := 2, outcome := v }).map Upd.enc).take k = (s.updates.set i0 { u0 with stage := 2, outcome := v }).map Upd.enc := List.take_of_length_le (by rw [hls]; omega)
        rw [e]
        (repeat' ((conv => whnf); first | refine bsplit (fun _ => ?_) (fun _ => ?_) | refine adraw ?_ | refine leave ?_ | refine And.intro (by first | assumption | omega | (simp; omega)) ?_)) <;> (try (conv => whnf))
        exact ⟨rfl⟩
  · (repeat' ((conv => whnf); first | refine bsplit (fun _ => ?_) (fun _ => ?_) | refine adraw ?_ | refine leave ?_ | refine acall (hu) ?_ | refine dcall (hu) ?_ | refine GCall.sym _ (fun hg => PC.own (hu)) ?_ | refine And.intro (by first | assumption | omega | (simp; omega)) ?_)) <;> (try (conv => whnf))
    exact ⟨rfl⟩

set_option maxRecDepth 100000 in
theorem ref16_closes (s : St) (e : Ev) (h1 : 15 ≤ e.kind) (h6 : e.kind ≤ 19) : PCall PP 124 [fv s.enc, fv e.enc] (.tup [fv (if (closedX s e != 0) = true then s else closedSt s e).enc, I64 (closedX s e)]) := by
  refine pcall_of TTok Tryz.func124 rfl rfl rfl rfl rfl rfl (fun hfit => ?_)
  obtain ⟨k, t, n, d, nm, v, p⟩ := e
  have hk : k = 15 ∨ k = 16 ∨ k = 17 ∨ k = 18 ∨ k = 19 := by simp only at h1 h6; omega
  rcases hk with rfl | rfl | rfl | rfl | rfl
  · (repeat' ((conv => whnf); first | refine bsplit (fun _ => ?_) (fun _ => ?_) | refine adraw ?_ | refine leave ?_ | refine acall (ref05_Clone v) ?_ | refine dcall (ref05_Clone v) ?_ | refine GCall.sym _ (fun hg => PC.own (ref05_Clone v)) ?_ | refine And.intro (by first | assumption | omega | (simp; omega)) ?_)) <;> (try (conv => whnf))
    · rename_i h
      have hx : closedX s ⟨15, t, n, d, nm, v, p⟩ = 20 := by
        cases hA : (s.task.state == 0) <;> cases hF : s.fresh <;> cases hC : s.cancel <;> simp_all [closedX, bne]
      rw [hx]; exact ⟨rfl⟩
    · rename_i h
      have hx : closedX s ⟨15, t, n, d, nm, v, p⟩ = 0 := by
        cases hA : (s.task.state == 0) <;> cases hF : s.fresh <;> cases hC : s.cancel <;> simp_all [closedX, bne]
      rw [hx]; exact ⟨rfl⟩
  · (repeat' ((conv => whnf); first | refine bsplit (fun _ => ?_) (fun _ => ?_) | refine adraw ?_ | refine leave ?_ | refine acall (ref05_Clone v) ?_ | refine dcall (ref05_Clone v) ?_ | refine GCall.sym _ (fun hg => PC.own (ref05_Clone v)) ?_ | refine And.intro (by first | assumption | omega | (simp; omega)) ?_)) <;> (try (conv => whnf))
    · rename_i h
      have hx : closedX s ⟨16, t, n, d, nm, v, p⟩ = 20 := by
        cases hA : (s.task.state == 0) <;> cases hF : s.fresh <;> cases hC : s.cancel <;> simp_all [closedX, bne]
      rw [hx]; exact ⟨rfl⟩
    · rename_i h
      have hx : closedX s ⟨16, t, n, d, nm, v, p⟩ = 0 := by
        cases hA : (s.task.state == 0) <;> cases hF : s.fresh <;> cases hC : s.cancel <;> simp_all [closedX, bne]
      rw [hx]; exact ⟨rfl⟩
  · (repeat' ((conv => whnf); first | refine bsplit (fun _ => ?_) (fun _ => ?_) | refine adraw ?_ | refine leave ?_ | refine acall (ref05_Clone v) ?_ | refine dcall (ref05_Clone v) ?_ | refine GCall.sym _ (fun hg => PC.own (ref05_Clone v)) ?_ | refine And.intro (by first | assumption | omega | (simp; omega)) ?_)) <;> (try (conv => whnf))
    · rename_i h
      have hx : closedX s ⟨17, t, n, d, nm, v, p⟩ = 20 := by
        cases hA : (s.task.state == 0) <;> cases hF : s.fresh <;> cases hC : s.cancel <;> simp_all [closedX, bne]
      rw [hx]; exact ⟨rfl⟩
    · rename_i h
      have hx : closedX s ⟨17, t, n, d, nm, v, p⟩ = 0 := by
        cases hA : (s.task.state == 0) <;> cases hF : s.fresh <;> cases hC : s.cancel <;> simp_all [closedX, bne]
      rw [hx]; exact ⟨rfl⟩
  · (repeat' ((conv => whnf); first | refine bsplit (fun _ => ?_) (fun _ => ?_) | refine adraw ?_ | refine leave ?_ | refine acall (ref05_Clone v) ?_ | refine dcall (ref05_Clone v) ?_ | refine GCall.sym _ (fun hg => PC.own (ref05_Clone v)) ?_ | refine And.intro (by first | assumption | omega | (simp; omega)) ?_)) <;> (try (conv => whnf))
    exact ⟨rfl⟩
  · (repeat' ((conv => whnf); first | refine bsplit (fun _ => ?_) (fun _ => ?_) | refine adraw ?_ | refine leave ?_ | refine acall (ref05_Clone v) ?_ | refine dcall (ref05_Clone v) ?_ | refine GCall.sym _ (fun hg => PC.own (ref05_Clone v)) ?_ | refine And.intro (by first | assumption | omega | (simp; omega)) ?_)) <;> (try (conv => whnf))
    · rename_i h
      have hx : closedX s ⟨19, t, n, d, nm, v, p⟩ = 20 := by
        simp at h
        simp [closedX]; omega
      rw [hx]; exact ⟨rfl⟩
    · rename_i h
      have hx : closedX s ⟨19, t, n, d, nm, v, p⟩ = 0 := by
        simp at h
        simp [closedX]; omega
      rw [hx]; exact ⟨rfl⟩

end Go.AW

/- The references of states: a step. -/
namespace Go.AW
open Go Go.Proofs

def mayBad (s : St) (e : Ev) : Bool :=
  bif bif bif e.kind == 1 then s.count != 0 else false then true else bif !(e.kind == 1) then bif s.count == 0 then true else s.status != 1 else false then true else decide (e.time < s.time)
theorem may_ref (s : St) (e : Ev) : maySt s e = if (evOk e != 0) = true then 1 else if decide (s.count ≥ 120) = true then 7 else if mayBad s e = true then 20 else 0 := by
  unfold maySt mayBad
  cases (evOk e != 0) <;> cases decide (s.count ≥ 120) <;> simp only [Bool.false_eq_true, if_true, if_false]
  cases hk : (e.kind == 1) <;> cases hc : (s.count == 0) <;> cases hs : (s.status == 1) <;> cases decide (e.time < s.time) <;> simp [bne, hk, hc, hs]

theorem evOk_kinds {e : Ev} (h : evOk e = 0) : 1 ≤ e.kind ∧ e.kind ≤ 19 := by
  unfold evOk at h
  split at h
  · cases h
  · rename_i h1
    rw [evName_none] at h1
    simp only [Bool.or_eq_true, not_or] at h1
    have h2 := h1.1.1.1.1.1
    simp at h2
    omega

theorem step_bad1 {s : St} {e : Ev} {n : Int} (h : maySt s e = n) (hn : n ≠ 0) : stepSt s e = s ∧ stepX s e = n := by
  have h1 : (maySt s e != 0) = true := by rw [h]; simpa using hn
  unfold stepSt stepX
  rw [if_pos h1, if_pos h1]; exact ⟨rfl, h⟩
theorem step_bad2 {s : St} {e : Ev} (h : maySt s e = 0) (hn : (turnX s e != 0) = true) : stepSt s e = s ∧ stepX s e = turnX s e := by
  have h1 : ¬ (maySt s e != 0) = true := by rw [h]; decide
  unfold stepSt stepX
  rw [if_neg h1, if_neg h1, if_pos hn, if_pos hn]; exact ⟨rfl, rfl⟩
theorem step_good {s : St} {e : Ev} (h : maySt s e = 0) (hn : (turnX s e != 0) = false) : stepSt s e = { turnSt s e with count := IntKind.i64.wrap ((turnSt s e).count + 1), time := e.time } ∧ stepX s e = 0 := by
  have h1 : ¬ (maySt s e != 0) = true := by rw [h]; decide
  have h2 : ¬ (turnX s e != 0) = true := by rw [hn]; decide
  unfold stepSt stepX
  rw [if_neg h1, if_neg h1, if_neg h2, if_neg h2]; exact ⟨rfl, rfl⟩

set_option maxRecDepth 100000 in
theorem ref16_Step (s : St) (e : Ev) (he : e.U) : PCall PP 100 [fv s.enc, fv e.enc] (.tup [fv (stepSt s e).enc, I64 (stepX s e)]) := by
  have hmay := may_ref s e
  cases hev : (evOk e != 0) with
  | true =>
    rw [if_pos hev] at hmay
    obtain ⟨k1, k2⟩ := step_bad1 hmay (by decide)
    rw [k1, k2]
    have hck := ref14_Check e he
    have h1 : evOk e = 1 := by
      unfold evOk at hev ⊢
      split at hev
      · rename_i h; rw [if_pos h]
      · cases hev
    rw [h1] at hck
    refine pcall_of TTok Tryz.func100 rfl rfl rfl rfl rfl rfl (fun _ => ?_)
    (repeat' ((conv => whnf); first | refine bsplit (fun _ => ?_) (fun _ => ?_) | refine adraw ?_ | refine leave ?_ | refine acall (ref16_Clone s) ?_ | refine dcall (ref16_Clone s) ?_ | refine GCall.sym _ (fun hg => PC.own (ref16_Clone s)) ?_ | refine acall (hck) ?_ | refine dcall (hck) ?_ | refine GCall.sym _ (fun hg => PC.own (hck)) ?_ | refine And.intro (by first | assumption | omega | (simp; omega)) ?_)) <;> (try (conv => whnf))
    exact ⟨rfl⟩
  | false =>
    rw [if_neg (by rw [hev]; decide)] at hmay
    have hk := evOk_kinds (e := e) (by simpa using hev)
    have hcase : (e.kind ≤ 6 ∧ PCall PP 121 [fv s.enc, fv e.enc] (.tup [fv (turnSt s e).enc, I64 (turnX s e)])) ∨ (¬ e.kind ≤ 6 ∧ e.kind ≤ 11 ∧ PCall PP 122 [fv s.enc, fv e.enc] (.tup [fv (turnSt s e).enc, I64 (turnX s e)]))
        ∨ (¬ e.kind ≤ 6 ∧ ¬ e.kind ≤ 11 ∧ e.kind ≤ 14 ∧ PCall PP 123 [fv s.enc, fv e.enc] (.tup [fv (turnSt s e).enc, I64 (turnX s e)]))
        ∨ (¬ e.kind ≤ 6 ∧ ¬ e.kind ≤ 11 ∧ ¬ e.kind ≤ 14 ∧ PCall PP 124 [fv s.enc, fv e.enc] (.tup [fv (if (turnX s e != 0) = true then s else turnSt s e).enc, I64 (turnX s e)])) := by
      by_cases h6 : e.kind ≤ 6
      · exact .inl ⟨h6, ref16_tasks s e hk.1 h6⟩
      · by_cases h11 : e.kind ≤ 11
        · exact .inr (.inl ⟨h6, h11, ref16_signals s e (by omega) h11⟩)
        · by_cases h14 : e.kind ≤ 14
          · exact .inr (.inr (.inl ⟨h6, h11, h14, ref16_updates s e (by omega) h14⟩))
          · refine .inr (.inr (.inr ⟨h6, h11, h14, ?_⟩))
            have e1 : turnSt s e = closedSt s e := by
              unfold turnSt
              repeat rw [if_neg (by simp; omega)]
            have e2 : turnX s e = closedX s e := by
              unfold turnX
              repeat rw [if_neg (by simp; omega)]
            rw [e1, e2]
            exact ref16_closes s e (by omega) hk.2
    have hck := ref14_Check e he
    have h1 : evOk e = 0 := by simpa using hev
    rw [h1] at hck
    have fin1 : decide (s.count ≥ 120) = true → stepSt s e = s ∧ stepX s e = 7 := fun h => step_bad1 (by rw [hmay, if_pos h]) (by decide)
    have fin2 : decide (s.count ≥ 120) = false → mayBad s e = true → stepSt s e = s ∧ stepX s e = 20 := fun h h2 => step_bad1 (by rw [hmay, if_neg (by rw [h]; decide), if_pos h2]) (by decide)
    have fin3 : decide (s.count ≥ 120) = false → mayBad s e = false → maySt s e = 0 := fun h h2 => by rw [hmay, if_neg (by rw [h]; decide), if_neg (by rw [h2]; decide)]
    rcases hcase with ⟨h6, ht⟩ | ⟨h6, h11, ht⟩ | ⟨h6, h11, h14, ht⟩ | ⟨h6, h11, h14, ht⟩
    · refine pcall_of TTok Tryz.func100 rfl rfl rfl rfl rfl rfl (fun _ => ?_)
      (repeat' ((conv => whnf); first | refine bsplit (fun _ => ?_) (fun _ => ?_) | refine adraw ?_ | refine leave ?_ | refine acall (ref16_Clone s) ?_ | refine dcall (ref16_Clone s) ?_ | refine GCall.sym _ (fun hg => PC.own (ref16_Clone s)) ?_ | refine acall (hck) ?_ | refine dcall (hck) ?_ | refine GCall.sym _ (fun hg => PC.own (hck)) ?_ | refine acall (ht) ?_ | refine dcall (ht) ?_ | refine GCall.sym _ (fun hg => PC.own (ht)) ?_ | refine And.intro (by first | assumption | omega | (simp; omega)) ?_)) <;> (try (conv => whnf))
      · rename_i a
        obtain ⟨k1, k2⟩ := fin1 a
        rw [k1, k2]; exact ⟨rfl⟩
      · rename_i a b
        obtain ⟨k1, k2⟩ := fin2 a b
        rw [k1, k2]; exact ⟨rfl⟩
      · rename_i a b c d
        obtain ⟨k1, k2⟩ := step_bad2 (fin3 a b) d
        rw [k1, k2]; exact ⟨rfl⟩
      · rename_i a b c d
        obtain ⟨k1, k2⟩ := step_good (fin3 a b) d
        rw [k1, k2]; exact ⟨rfl⟩
      all_goals (exfalso; simp only [decide_eq_true_eq, decide_eq_false_iff_not] at *; omega)
    · refine pcall_of TTok Tryz.func100 rfl rfl rfl rfl rfl rfl (fun _ => ?_)
      (repeat' ((conv => whnf); first | refine bsplit (fun _ => ?_) (fun _ => ?_) | refine adraw ?_ | refine leave ?_ | refine acall (ref16_Clone s) ?_ | refine dcall (ref16_Clone s) ?_ | refine GCall.sym _ (fun hg => PC.own (ref16_Clone s)) ?_ | refine acall (hck) ?_ | refine dcall (hck) ?_ | refine GCall.sym _ (fun hg => PC.own (hck)) ?_ | refine acall (ht) ?_ | refine dcall (ht) ?_ | refine GCall.sym _ (fun hg => PC.own (ht)) ?_ | refine And.intro (by first | assumption | omega | (simp; omega)) ?_)) <;> (try (conv => whnf))
      · rename_i a
        obtain ⟨k1, k2⟩ := fin1 a
        rw [k1, k2]; exact ⟨rfl⟩
      · rename_i a b
        obtain ⟨k1, k2⟩ := fin2 a b
        rw [k1, k2]; exact ⟨rfl⟩
      · (exfalso; simp only [decide_eq_true_eq, decide_eq_false_iff_not] at *; omega)
      · rename_i a b c d f
        obtain ⟨k1, k2⟩ := step_bad2 (fin3 a b) f
        rw [k1, k2]; exact ⟨rfl⟩
      · rename_i a b c d f
        obtain ⟨k1, k2⟩ := step_good (fin3 a b) f
        rw [k1, k2]; exact ⟨rfl⟩
      all_goals (exfalso; simp only [decide_eq_true_eq, decide_eq_false_iff_not] at *; omega)
    · refine pcall_of TTok Tryz.func100 rfl rfl rfl rfl rfl rfl (fun _ => ?_)
      (repeat' ((conv => whnf); first | refine bsplit (fun _ => ?_) (fun _ => ?_) | refine adraw ?_ | refine leave ?_ | refine acall (ref16_Clone s) ?_ | refine dcall (ref16_Clone s) ?_ | refine GCall.sym _ (fun hg => PC.own (ref16_Clone s)) ?_ | refine acall (hck) ?_ | refine dcall (hck) ?_ | refine GCall.sym _ (fun hg => PC.own (hck)) ?_ | refine acall (ht) ?_ | refine dcall (ht) ?_ | refine GCall.sym _ (fun hg => PC.own (ht)) ?_ | refine And.intro (by first | assumption | omega | (simp; omega)) ?_)) <;> (try (conv => whnf))
      · rename_i a
        obtain ⟨k1, k2⟩ := fin1 a
        rw [k1, k2]; exact ⟨rfl⟩
      · rename_i a b
        obtain ⟨k1, k2⟩ := fin2 a b
        rw [k1, k2]; exact ⟨rfl⟩
      · (exfalso; simp only [decide_eq_true_eq, decide_eq_false_iff_not] at *; omega)
      · (exfalso; simp only [decide_eq_true_eq, decide_eq_false_iff_not] at *; omega)
      · rename_i a b c d f g
        obtain ⟨k1, k2⟩ := step_bad2 (fin3 a b) g
        rw [k1, k2]; exact ⟨rfl⟩
      · rename_i a b c d f g
        obtain ⟨k1, k2⟩ := step_good (fin3 a b) g
        rw [k1, k2]; exact ⟨rfl⟩
      all_goals (exfalso; simp only [decide_eq_true_eq, decide_eq_false_iff_not] at *; omega)
    · refine pcall_of TTok Tryz.func100 rfl rfl rfl rfl rfl rfl (fun _ => ?_)
      cases hx : (turnX s e != 0) with
      | true =>
        rw [hx, if_pos rfl] at ht
        (repeat' ((conv => whnf); first | refine bsplit (fun _ => ?_) (fun _ => ?_) | refine adraw ?_ | refine leave ?_ | refine acall (ref16_Clone s) ?_ | refine dcall (ref16_Clone s) ?_ | refine GCall.sym _ (fun hg => PC.own (ref16_Clone s)) ?_ | refine acall (hck) ?_ | refine dcall (hck) ?_ | refine GCall.sym _ (fun hg => PC.own (hck)) ?_ | refine acall (ht) ?_ | refine dcall (ht) ?_ | refine GCall.sym _ (fun hg => PC.own (ht)) ?_ | refine And.intro (by first | assumption | omega | (simp; omega)) ?_)) <;> (try (conv => whnf))
        · rename_i a
          obtain ⟨k1, k2⟩ := fin1 a
          rw [k1, k2]; exact ⟨rfl⟩
        · rename_i a b
          obtain ⟨k1, k2⟩ := fin2 a b
          rw [k1, k2]; exact ⟨rfl⟩
        · (exfalso; simp only [decide_eq_true_eq, decide_eq_false_iff_not] at *; omega)
        · (exfalso; simp only [decide_eq_true_eq, decide_eq_false_iff_not] at *; omega)
        · (exfalso; simp only [decide_eq_true_eq, decide_eq_false_iff_not] at *; omega)
        · rename_i a b c d f g
          obtain ⟨k1, k2⟩ := step_bad2 (fin3 a b) hx
          rw [k1, k2]; exact ⟨rfl⟩
        · rename_i a b c d f g
          exfalso
          rw [hx] at g; cases g
      | false =>
        rw [hx, if_neg (by decide)] at ht
        (repeat' ((conv => whnf); first | refine bsplit (fun _ => ?_) (fun _ => ?_) | refine adraw ?_ | refine leave ?_ | refine acall (ref16_Clone s) ?_ | refine dcall (ref16_Clone s) ?_ | refine GCall.sym _ (fun hg => PC.own (ref16_Clone s)) ?_ | refine acall (hck) ?_ | refine dcall (hck) ?_ | refine GCall.sym _ (fun hg => PC.own (hck)) ?_ | refine acall (ht) ?_ | refine dcall (ht) ?_ | refine GCall.sym _ (fun hg => PC.own (ht)) ?_ | refine And.intro (by first | assumption | omega | (simp; omega)) ?_)) <;> (try (conv => whnf))
        · rename_i a
          obtain ⟨k1, k2⟩ := fin1 a
          rw [k1, k2]; exact ⟨rfl⟩
        · rename_i a b
          obtain ⟨k1, k2⟩ := fin2 a b
          rw [k1, k2]; exact ⟨rfl⟩
        · (exfalso; simp only [decide_eq_true_eq, decide_eq_false_iff_not] at *; omega)
        · (exfalso; simp only [decide_eq_true_eq, decide_eq_false_iff_not] at *; omega)
        · (exfalso; simp only [decide_eq_true_eq, decide_eq_false_iff_not] at *; omega)
        · rename_i a b c d f g
          exfalso
          rw [hx] at g; cases g
        · rename_i a b c d f g
          obtain ⟨k1, k2⟩ := step_good (fin3 a b) hx
          rw [k1, k2]; exact ⟨rfl⟩

end Go.AW

/- Histories: their states by the document, their statuses; the law FoldLegal. -/
namespace Go.AW
open Go Go.Proofs

set_option maxRecDepth 100000 in
theorem ref17_Extend (s : St) (l : List Ev) (hu : ∀ e ∈ l, e.U) : PCall PP 71 [fv s.enc, FE l] (walkV (walkGo s l 0)) := by
  refine pcall_of TTok Tryz.func71 rfl rfl rfl rfl rfl rfl (fun hfit => ?_)
  have hb : l.length * 136 ≤ 140737488355328 := fit_rows (show FitF _ from hfit.2.1)
  have hl : (l.map Ev.enc).length = l.length := List.length_map _
  (repeat' ((conv => whnf); first | refine bsplit (fun _ => ?_) (fun _ => ?_) | refine adraw ?_ | refine leave ?_ | refine acall (ref16_Clone s) ?_ | refine dcall (ref16_Clone s) ?_ | refine GCall.sym _ (fun hg => PC.own (ref16_Clone s)) ?_ | refine And.intro (by first | assumption | omega | (simp; omega)) ?_)) <;> (try (conv => whnf))
  refine aloopK [1, 2, 4] (fun x : Nat × St => [(7, I64 x.1)]) (fun x => [.cells (x.2.enc.map .fr), _]) (fun x => l.length - x.1) (fun x => x.1 ≤ l.length ∧ walkGo s l 0 = walkGo x.2 (l.drop x.1) x.1) (0, s) ⟨by simp, rfl⟩ ⟨rfl, trivial⟩ rfl ?_
  conv => whnf
  rintro ⟨k, t⟩ ⟨hk, hR⟩
  simp only at hk hR
  (repeat' ((conv => whnf); first | refine bsplit (fun _ => ?_) (fun _ => ?_) | refine adraw ?_ | refine leave ?_ | refine And.intro (by first | assumption | omega | (simp; omega)) ?_)) <;> (try (conv => whnf))
  · rename_i h1
    rw [hl] at h1
    have hk2 := ltx h1
    obtain ⟨x, hx⟩ := getx l hk2
    have hux := hu x (List.mem_of_getElem? hx)
    rw [drop_cons hx] at hR
    simp only [walkGo] at hR
    refine aidx rfl hx ?_
    (repeat' ((conv => whnf); first | refine bsplit (fun _ => ?_) (fun _ => ?_) | refine adraw ?_ | refine leave ?_ | refine acall (ref16_Step t x hux) ?_ | refine dcall (ref16_Step t x hux) ?_ | refine GCall.sym _ (fun hg => PC.own (ref16_Step t x hux)) ?_ | refine And.intro (by first | assumption | omega | (simp; omega)) ?_)) <;> (try (conv => whnf))
    · rename_i h2
      rw [h2, if_pos rfl] at hR
      rw [hR]
      exact ⟨rfl⟩
    · rename_i h2
      rw [h2] at hR
      exact ⟨⟨(k + 1, stepSt t x), by show k + 1 ≤ _; omega, by rw [hR]; rfl⟩, by show l.length - (k + 1) < l.length - k; omega, (.trunc [_] (subE_append ⟨i64_inj (wrap_add hk2 (by omega)), trivial⟩ (by repeat' (first | exact trivial | refine ⟨rfl, ?_⟩))) rfl rfl rfl rfl)⟩
  · rename_i h1
    rw [hl] at h1
    have hk2 := gex hk h1
    rw [hk2, List.drop_length] at hR
    rw [hR]
    subst hk2
    exact ⟨by rw [hl]; rfl⟩

set_option maxRecDepth 100000 in
theorem ref17_Build (run : Int) (l : List Ev) (hu : ∀ e ∈ l, e.U) : PCall PP 39 [I64 run, FE l] (walkV (buildGo run l)) := by
  refine pcall_of TTok Tryz.func39 rfl rfl rfl rfl rfl rfl (fun _ => ?_)
  unfold buildGo
  (repeat' ((conv => whnf); first | refine bsplit (fun _ => ?_) (fun _ => ?_) | refine adraw ?_ | refine leave ?_ | refine acall (ref17_Extend (stN run) l hu) ?_ | refine dcall (ref17_Extend (stN run) l hu) ?_ | refine GCall.sym _ (fun hg => PC.own (ref17_Extend (stN run) l hu)) ?_ | refine And.intro (by first | assumption | omega | (simp; omega)) ?_)) <;> (try (conv => whnf))
  all_goals
    rename_i h
    simp only [Bool.cond_true_left] at h
    have h' : runBad run = _ := h
    rw [h']
    exact ⟨rfl⟩

set_option maxRecDepth 100000 in
theorem ref17_Legal (run : Int) (l : List Ev) (hu : ∀ e ∈ l, e.U) : PCall PP 13 [I64 run, FE l] (B1 ((buildGo run l).2.2 == 0 && decide ((l.length : Int) > 0))) := by
  refine pcall_of TTok Tryz.func13 rfl rfl rfl rfl rfl rfl (fun _ => ?_)
  have hl : (l.map Ev.enc).length = l.length := List.length_map _
  (repeat' ((conv => whnf); first | refine bsplit (fun _ => ?_) (fun _ => ?_) | refine adraw ?_ | refine leave ?_ | refine acall (ref17_Build run l hu) ?_ | refine dcall (ref17_Build run l hu) ?_ | refine GCall.sym _ (fun hg => PC.own (ref17_Build run l hu)) ?_ | refine And.intro (by first | assumption | omega | (simp; omega)) ?_)) <;> (try (conv => whnf))
  refine ⟨b1_inj ?_⟩
  rw [hl, Bool.cond_false_right]

/-! ### Statuses -/
abbrev intE (n : Int) : List F := [.sc (.int .i64 n)]
abbrev FI (l : List Int) : V := .fr (.sl 1 8 (l.map intE))
abbrev BI (l : List Int) : Blk := .buf 3 1 8 (l.map intE)

def traceGo : St → List Ev → List Int
  | _, [] => []
  | s, e :: r => if (stepX s e != 0) = true then [] else (stepSt s e).status :: traceGo (stepSt s e) r
def traceR (run : Int) (l : List Ev) : List Int := if runBad run = true then [] else traceGo (stN run) l

set_option maxRecDepth 100000 in
theorem fold_Trace1 (s : St) (acc : List Int) (ha : acc.length ≤ 1000) : HCall PP 40 [fv s.enc, .ptr 0 0] [.cells [.buf 1], BI acc] (.tup []) [.cells [.buf 1], BI (acc ++ [s.status])] := by
  refine hcall_of TTok Tryz.func40 rfl rfl rfl rfl rfl (fun _ => ?_)
  have hl : (acc.map intE).length = acc.length := List.length_map _
  have hH : ([.cells [.buf 1], BI (acc ++ [s.status])] : Heap) = [.cells [.buf 1], .buf 3 1 8 (acc.map intE ++ [intE s.status])] := by
    simp only [BI, List.map_append, List.map_cons, List.map_nil]
  rw [hH]
  (repeat' ((conv => whnf); first | refine bsplit (fun _ => ?_) (fun _ => ?_) | refine adraw ?_ | refine leave ?_ | refine And.intro (by first | assumption | omega | (simp; omega)) ?_)) <;> (try (conv => whnf))
  exact ⟨[], _, .move 3 1 rfl (.trunc [_, _] trivial rfl rfl rfl rfl), rfl, rfl⟩

set_option maxRecDepth 100000 in
theorem fold_walkT (s : St) (l : List Ev) (hn : l.length ≤ 200) : HCall PP 29 [fv s.enc, FE l, .clo 40 [.ptr 0 0]] [.cells [.fr (.sc (.slice none 0 0))]] (walkV (walkGo s l 0)) [.cells [.buf 3], .cells ((walkGo s l 0).1.enc.map .fr), .cells ((walkGo s l 0).1.enc.map .fr), BI (traceGo s l)] := by
  refine hcall_of TTok Tryz.func29 rfl rfl rfl rfl rfl (fun hfit => ?_)
  have hl : (l.map Ev.enc).length = l.length := List.length_map _
  (repeat' ((conv => whnf); first | refine bsplit (fun _ => ?_) (fun _ => ?_) | refine adraw ?_ | refine leave ?_ | refine And.intro (by first | assumption | omega | (simp; omega)) ?_)) <;> (try (conv => whnf))
  refine aloopV _ _ (.thawC 0 0 3 1 8 rfl rfl .refl) ?_
  refine aloopK [1, 2, 3, 6, 13, 14] (fun x : Nat × St × List Int => [(15, I64 x.1)]) (fun x => [.cells [.buf 3], .cells (x.2.1.enc.map .fr), _, BI x.2.2]) (fun x => l.length - x.1)
    (fun x => x.1 ≤ l.length ∧ walkGo s l 0 = walkGo x.2.1 (l.drop x.1) x.1 ∧ traceGo s l = x.2.2 ++ traceGo x.2.1 (l.drop x.1) ∧ x.2.2.length ≤ x.1) (0, s, []) ⟨by simp, rfl, rfl, by simp⟩ ⟨rfl, trivial⟩ rfl ?_
  conv => whnf
  rintro ⟨k, t, acc⟩ ⟨hk, hR, hT, hc⟩
  simp only at hk hR hT hc
  (repeat' ((conv => whnf); first | refine bsplit (fun _ => ?_) (fun _ => ?_) | refine adraw ?_ | refine leave ?_ | refine And.intro (by first | assumption | omega | (simp; omega)) ?_)) <;> (try (conv => whnf))
  · rename_i h1
    rw [hl] at h1
    have hk2 := ltx h1
    obtain ⟨x, hx⟩ := getx l hk2
    rw [drop_cons hx] at hR hT
    simp only [walkGo, traceGo] at hR hT
    refine aidx rfl hx ?_
    (repeat' ((conv => whnf); first | refine bsplit (fun _ => ?_) (fun _ => ?_) | refine adraw ?_ | refine leave ?_ | refine acall (state_Step t x) ?_ | refine dcall (state_Step t x) ?_ | refine GCall.sym _ (fun hg => PC.own (state_Step t x)) ?_ | refine ahcall [0, 3] (fold_Trace1 (stepSt t x) acc (by omega)) ?_ | refine And.intro (by first | assumption | omega | (simp; omega)) ?_)) <;> (try (conv => whnf))
    · rename_i h2
      rw [if_pos h2] at hR hT
      rw [hR, hT, List.append_nil]
      exact ⟨[(6, .ptr 2 0), (7, I64 _), (8, I64 _)], _, .trunc [_, _] ⟨rfl, rfl, rfl, trivial⟩ rfl rfl rfl rfl, rfl, rfl⟩
    · rename_i h2
      have h3 : ¬ (stepX t x != 0) = true := by rw [h2]; decide
      rw [if_neg h3] at hR hT
      refine ⟨⟨(k + 1, stepSt t x, acc ++ [(stepSt t x).status]), by show k + 1 ≤ _; exact hk2, hR, by rw [hT]; simp, by show (acc ++ [_]).length ≤ k + 1; simp; exact hc⟩, by show l.length - (k + 1) < l.length - k; exact Nat.sub_lt_sub_left hk2 (by omega), ?_⟩
      exact .move 7 3 rfl (.trunc [_, _, _, _] (subE_append ⟨i64_inj (wrap_add hk2 (by omega)), trivial⟩ (by repeat' (first | exact trivial | refine ⟨rfl, ?_⟩))) rfl rfl rfl rfl)
  · rename_i h1
    rw [hl] at h1
    have hk2 := gex hk h1
    rw [hk2, List.drop_length] at hR hT
    simp only [walkGo, traceGo, List.append_nil] at hR hT
    subst hk2
    rw [hR, hT]
    exact ⟨[(6, .ptr 2 0), (7, I64 _), (8, I64 _)], _, .same ⟨rfl, by rw [hl]; rfl, rfl, trivial⟩ rfl, rfl, rfl⟩

set_option maxRecDepth 100000 in
theorem fold_Trace (run : Int) (l : List Ev) (hn : l.length ≤ 200) : PCall PP 15 [I64 run, FE l] (FI (traceR run l)) := by
  refine pcall_of TTok Tryz.func15 rfl rfl rfl rfl rfl rfl (fun _ => ?_)
  have h1 := fold_origin run
  unfold traceR
  cases hr : runBad run with
  | true =>
    rw [hr] at h1
    (repeat' ((conv => whnf); first | refine bsplit (fun _ => ?_) (fun _ => ?_) | refine adraw ?_ | refine leave ?_ | refine acall (h1) ?_ | refine dcall (h1) ?_ | refine GCall.sym _ (fun hg => PC.own (h1)) ?_ | refine And.intro (by first | assumption | omega | (simp; omega)) ?_)) <;> (try (conv => whnf))
    exact ⟨rfl⟩
  | false =>
    rw [hr] at h1
    (repeat' ((conv => whnf); first | refine bsplit (fun _ => ?_) (fun _ => ?_) | refine adraw ?_ | refine leave ?_ | refine acall (h1) ?_ | refine dcall (h1) ?_ | refine GCall.sym _ (fun hg => PC.own (h1)) ?_ | refine ahcall [1] (fold_walkT (stN run) l hn) ?_ | refine And.intro (by first | assumption | omega | (simp; omega)) ?_)) <;> (try (conv => whnf))
    exact ⟨rfl⟩

theorem trace_len : ∀ (l : List Ev) (s : St) (i : Nat), (walkGo s l i).2.1 = i + (traceGo s l).length ∧ (traceGo s l).length ≤ l.length
  | [], s, i => by simp [walkGo, traceGo]
  | e :: r, s, i => by
    simp only [walkGo, traceGo]
    split
    · simp
    · obtain ⟨h1, h2⟩ := trace_len r (stepSt s e) (i + 1)
      rw [h1]
      exact ⟨by simp; omega, by simp; exact h2⟩
theorem trace_at : ∀ (l : List Ev) (s : St) (i k : Nat), k < (traceGo s l).length → (traceGo s l)[k]? = some (walkGo s (l.take (k + 1)) i).1.status
  | [], s, i, k, h => by simp [traceGo] at h
  | e :: r, s, i, k, h => by
    simp only [traceGo] at h ⊢
    rw [List.take_succ_cons]
    simp only [walkGo]
    split
    · rename_i hx; rw [if_pos hx] at h; simp at h
    · rename_i hx
      rw [if_neg hx] at h
      cases k with
      | zero => simp [walkGo]
      | succ k =>
        rw [List.getElem?_cons_succ]
        exact trace_at r (stepSt s e) (i + 1) k (by simpa using h)
theorem traceR_len (run : Int) (l : List Ev) : (buildGo run l).2.1 = (traceR run l).length ∧ (traceR run l).length ≤ l.length := by
  unfold buildGo traceR
  split
  · simp
  · have h := trace_len l (stN run) 0
    exact ⟨by rw [h.1]; omega, h.2⟩
theorem traceR_at {run : Int} {l : List Ev} {k : Nat} (h : k < (traceR run l).length) : (traceR run l)[k]? = some (buildGo run (l.take (k + 1))).1.status := by
  unfold traceR at h ⊢
  unfold buildGo
  split
  · rename_i hr; rw [if_pos hr] at h; simp at h
  · rename_i hr; rw [if_neg hr] at h; exact trace_at l (stN run) 0 k h

set_option maxRecDepth 100000 in
theorem ref17_Trace (run : Int) (l : List Ev) (hn : l.length ≤ 200) (hu : ∀ e ∈ l, e.U) : PCall PP 16 [I64 run, FE l] (FI (traceR run l)) := by
  refine pcall_of TTok Tryz.func16 rfl rfl rfl rfl rfl rfl (fun _ => ?_)
  have hl : (l.map Ev.enc).length = l.length := List.length_map _
  obtain ⟨g1, g2⟩ := traceR_len run l
  have hB0 := ref17_Build run l hu
  rw [show walkV (buildGo run l) = .tup [fv (buildGo run l).1.enc, I64 ((traceR run l).length : Nat), I64 (buildGo run l).2.2] by rw [← g1]] at hB0
  (repeat' ((conv => whnf); first | refine bsplit (fun _ => ?_) (fun _ => ?_) | refine adraw ?_ | refine leave ?_ | refine acall (hB0) ?_ | refine dcall (hB0) ?_ | refine GCall.sym _ (fun hg => PC.own (hB0)) ?_ | refine And.intro (by first | assumption | omega | (simp; omega)) ?_)) <;> (try (conv => whnf))
  refine aloopV _ _ (.thaw 5 3 1 8 rfl .refl) ?_
  refine aloopK [0, 1, 7] (fun k : Nat => [(5, .buf 1), (9, I64 (k + 1 : Nat))]) (fun k => [_, BI ((traceR run l).take k)]) (fun k => (traceR run l).length - k) (fun k => k ≤ (traceR run l).length) 0 (by omega) ⟨rfl, rfl, trivial⟩ rfl ?_
  conv => whnf
  intro k hk
  have hkl : (((traceR run l).take k).map intE).length = k := by rw [List.length_map, List.length_take]; omega
  have hB : PCall PP 39 [I64 run, .fr (.sl 13 136 (List.drop (Int.toNat 0) (List.take (((k + 1 : Nat) : Int)).toNat (l.map Ev.enc))))] (walkV (buildGo run (l.take (k + 1)))) := by
    have h := ref17_Build run (l.take (k + 1)) (fun e he => hu e (List.mem_of_mem_take he))
    have e : List.drop (Int.toNat 0) (List.take (((k + 1 : Nat) : Int)).toNat (l.map Ev.enc)) = (l.take (k + 1)).map Ev.enc := by
      rw [Int.toNat_natCast, List.map_take]; rfl
    rw [e]; exact h
  by_cases hk2 : k < (traceR run l).length
  · have ht : ((traceR run l).take (k + 1)).map intE = ((traceR run l).take k).map intE ++ [intE (buildGo run (l.take (k + 1))).1.status] := by
      rw [List.map_take, List.map_take]
      exact take_snoc (by rw [List.getElem?_map, traceR_at hk2]; rfl)
    (repeat' ((conv => whnf); first | refine bsplit (fun _ => ?_) (fun _ => ?_) | refine adraw ?_ | refine leave ?_ | refine acall (hB) ?_ | refine dcall (hB) ?_ | refine GCall.sym _ (fun hg => PC.own (hB)) ?_ | refine And.intro (by first | assumption | omega | (simp; omega)) ?_)) <;> (try (conv => whnf))
    · exact ⟨⟨k + 1, by omega⟩, by show (traceR run l).length - (k + 1) < (traceR run l).length - k; omega, .move 3 1 rfl (.trunc [_, _] (subE_append ⟨rfl, i64_inj (wrap_add (k := k + 1) (m := 202) (by omega) (by omega)), trivial⟩ (by repeat' (first | exact trivial | refine ⟨rfl, ?_⟩))) (by show _ = [_, BI ((traceR run l).take (k + 1))] ++ _; rw [BI, ht]; rfl) rfl rfl rfl)⟩
    · rename_i h
      have := of_decide_eq_false h
      omega
  · have hkk : k = (traceR run l).length := by omega
    have hd : decide (((k + 1 : Nat) : Int) ≤ ((traceR run l).length : Int)) = false := by simp; omega
    have e : (traceR run l).take k = traceR run l := List.take_of_length_le (by omega)
    conv => whnf
    refine bsplit (fun h => ?_) (fun h => ?_)
    · rw [hd] at h; cases h
    · rw [e]
      (repeat' ((conv => whnf); first | refine bsplit (fun _ => ?_) (fun _ => ?_) | refine adraw ?_ | refine leave ?_ | refine And.intro (by first | assumption | omega | (simp; omega)) ?_)) <;> (try (conv => whnf))
      exact ⟨rfl⟩

/-! ### Two lists of whole numbers -/
def eqI64 : List Int → List Int → Bool
  | [], [] => true
  | x :: r, y :: q => x == y && eqI64 r q
  | _, _ => false
theorem eqI64_self : ∀ l, eqI64 l l = true
  | [] => rfl
  | x :: r => by simp [eqI64, eqI64_self r]

set_option maxRecDepth 100000 in
theorem ints_Equal_self (l : List Int) : PCall PP 14 [FI l, FI l] (B1 true) := by
  refine pcall_of TTok Tryz.func14 rfl rfl rfl rfl rfl rfl (fun hfit => ?_)
  have hb : l.length * 8 ≤ 140737488355328 := fit_rows (show FitF _ from hfit.1)
  have hl : (l.map intE).length = l.length := List.length_map _
  (repeat' ((conv => whnf); first | refine bsplit (fun _ => ?_) (fun _ => ?_) | refine adraw ?_ | refine leave ?_ | refine And.intro (by first | assumption | omega | (simp; omega)) ?_)) <;> (try (conv => whnf))
  · rename_i h
    simp at h
  · refine aloopK [0, 1, 12] (fun k : Nat => [(13, I64 k)]) (fun _ => _) (fun k => l.length - k) (fun k => k ≤ l.length) 0 (by omega) ⟨rfl, trivial⟩ rfl ?_
    conv => whnf
    intro k hk
    (repeat' ((conv => whnf); first | refine bsplit (fun _ => ?_) (fun _ => ?_) | refine adraw ?_ | refine leave ?_ | refine And.intro (by first | assumption | omega | (simp; omega)) ?_)) <;> (try (conv => whnf))
    · rename_i h1
      rw [hl] at h1
      have hk2 := ltx h1
      obtain ⟨x, hx⟩ := getx l hk2
      refine aidx rfl hx ?_
      (repeat' ((conv => whnf); first | refine bsplit (fun _ => ?_) (fun _ => ?_) | refine adraw ?_ | refine leave ?_ | refine And.intro (by first | assumption | omega | (simp; omega)) ?_)) <;> (try (conv => whnf))
      refine aidx rfl hx ?_
      (repeat' ((conv => whnf); first | refine bsplit (fun _ => ?_) (fun _ => ?_) | refine adraw ?_ | refine leave ?_ | refine And.intro (by first | assumption | omega | (simp; omega)) ?_)) <;> (try (conv => whnf))
      · rename_i h2
        simp at h2
      · exact ⟨⟨k + 1, by omega⟩, by show l.length - (k + 1) < l.length - k; omega, (.same (subE_append ⟨i64_inj (wrap_add hk2 (by omega)), trivial⟩ (by repeat' (first | exact trivial | refine ⟨rfl, ?_⟩))) rfl)⟩
    · exact ⟨rfl⟩

def cut60 (l : List Ev) : List Ev := l.take (min l.length 60)
theorem legal_eq (run : Int) (l : List Ev) : ((buildGo run l).2.2 == 0 && decide (((buildGo run l).2.1 : Int) > 0)) = ((buildGo run l).2.2 == 0 && decide ((l.length : Int) > 0)) := by
  cases h : ((buildGo run l).2.2 == 0) with
  | false => rfl
  | true =>
    simp only [Bool.true_and]
    cases l with
    | nil =>
      unfold buildGo
      split <;> rfl
    | cons e r =>
      obtain ⟨g1, g2⟩ := traceR_len run (e :: r)
      have h0 : (buildGo run (e :: r)).2.2 = 0 := by simpa using h
      have h1 : 0 < (buildGo run (e :: r)).2.1 := by
        unfold buildGo at h0 ⊢
        split
        · rename_i hr; rw [if_pos hr] at h0; simp at h0
        · rename_i hr
          rw [if_neg hr] at h0
          simp only [walkGo] at h0 ⊢
          split
          · rename_i hx; rw [if_pos hx] at h0; simp at hx h0; exact absurd h0 hx
          · have := (trace_len r (stepSt (stN run) e) 1).1
            rw [this]; omega
      rw [decide_eq_decide]
      simp
      omega

set_option maxRecDepth 100000 in
theorem law_FoldLegal (run : Int) (l : List Ev) (hu : ∀ e ∈ l, e.U) : PCall PP 4 [I64 run, FE l] (B1 true) := by
  refine pcall_of TTok Tryz.func4 rfl rfl rfl rfl rfl rfl (fun _ => ?_)
  have hl : (l.map Ev.enc).length = l.length := List.length_map _
  have hcu : ∀ e ∈ cut60 l, e.U := fun e he => hu e (List.mem_of_mem_take he)
  have hcl : (cut60 l).length ≤ 60 := by unfold cut60; rw [List.length_take]; omega
  have e : List.drop (Int.toNat 0) (List.take (min ((l.map Ev.enc).length : Int) 60).toNat (l.map Ev.enc)) = (cut60 l).map Ev.enc := by
    have : (min ((l.map Ev.enc).length : Int) 60).toNat = min l.length 60 := by rw [hl]; omega
    rw [this]
    unfold cut60
    rw [List.map_take]; rfl
  have h1 := fold_Legal run (cut60 l)
  have h2 := ref17_Legal run (cut60 l) hcu
  have h3 := fold_Trace run (cut60 l) (by omega)
  have h4 := ref17_Trace run (cut60 l) (by omega) hcu
  rw [← legal_eq] at h2
  have h5 := ints_Equal_self (traceR run (cut60 l))
  unfold FE at h1 h2 h3 h4
  rw [← e] at h1 h2 h3 h4
  (repeat' ((conv => whnf); first | refine bsplit (fun _ => ?_) (fun _ => ?_) | refine adraw ?_ | refine leave ?_ | refine acall (h1) ?_ | refine dcall (h1) ?_ | refine GCall.sym _ (fun hg => PC.own (h1)) ?_ | refine acall (h2) ?_ | refine dcall (h2) ?_ | refine GCall.sym _ (fun hg => PC.own (h2)) ?_ | refine acall (h3) ?_ | refine dcall (h3) ?_ | refine GCall.sym _ (fun hg => PC.own (h3)) ?_ | refine acall (h4) ?_ | refine dcall (h4) ?_ | refine GCall.sym _ (fun hg => PC.own (h4)) ?_ | refine acall (h5) ?_ | refine dcall (h5) ?_ | refine GCall.sym _ (fun hg => PC.own (h5)) ?_ | refine acall (law17_awake) ?_ | refine dcall (law17_awake) ?_ | refine GCall.sym _ (fun hg => PC.own (law17_awake)) ?_ | refine And.intro (by first | assumption | omega | (simp; omega)) ?_)) <;> (try (conv => whnf))
  refine ⟨b1_inj ?_⟩
  simp

end Go.AW

