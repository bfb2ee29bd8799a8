/- AW, part 11: blocks that come, and the append itself. -/
import Derived.Test.YtalkhhfinogecaaA10
namespace Go.AW
open Go Go.RowKit
variable {Γ : Ctx} {H : Heap} {w : World} {μ : List Plc} {a : Act} {o : Oper}

/-- A block more. -/
theorem Mem.push {w' : World} {nb : Blk} {l : Plc} (hm : Mem Γ H w μ) (hs : w.heap.size ≤ w'.heap.size) (hb : ∀ k, k < w.heap.size → w'.heap[k]? = w.heap[k]?) (h1 : w'.os = w.os) (h2 : w'.tape = w.tape) (h3 : w'.output = w.output)
    (hl : ∀ k, l.block = some k → w.heap.size ≤ k ∧ k < w'.heap.size) (hx : Pres Γ w μ w' (μ ++ [l]) → BlkOk Γ w' (μ ++ [l]) nb l) : Mem Γ (H ++ [nb]) w' (μ ++ [l]) ∧ Pres Γ w μ w' (μ ++ [l]) := by
  have hget : ∀ i l', (μ ++ [l])[i]? = some l' → μ[i]? = some l' ∨ (i = μ.length ∧ l' = l) := by
    intro i l' h
    by_cases hi : i < μ.length
    · rw [List.getElem?_append_left hi] at h; exact .inl h
    · rw [List.getElem?_append_right (by omega)] at h
      by_cases h0 : i - μ.length = 0
      · rw [h0] at h; simp at h; exact .inr ⟨by omega, h.symm⟩
      · rw [List.getElem?_eq_none (by simp; omega)] at h; cases h
  have hold : ∀ i l', μ[i]? = some l' → (μ ++ [l])[i]? = some l' := fun i l' h => by rw [List.getElem?_append_left (List.getElem?_eq_some_iff.1 h).1]; exact h
  have hown : ∀ k, owned (μ ++ [l]) k → owned μ k ∨ l.block = some k := by
    rintro k ⟨i, l', h, hk⟩
    rcases hget i l' h with h | ⟨_, rfl⟩
    · exact .inl ⟨i, l', h, hk⟩
    · exact .inr hk
  have hp : Pres Γ w μ w' (μ ++ [l]) := ⟨fun k ⟨i1, i2, i3⟩ => ⟨i1, Nat.lt_of_lt_of_le i2 hs, fun h => by
    rcases hown k h with h | h
    · exact i3 h
    · have := (hl k h).1; omega⟩, fun k hk => hb k hk.2.1, fun i l' h => .inl (hold i l' h)⟩
  refine ⟨⟨by simp [hm.len], fun k hk => ?_, fun k hk => ?_, fun i j l1 l2 k hi hj hik hjk => ?_, fun i b l' hi hl' => ?_, ?_, hm.i0⟩, hp⟩
  · rcases hown k hk with h | h
    · exact Nat.lt_of_lt_of_le (hm.below k h) hs
    · exact (hl k h).2
  · rcases hown k hk with h | h
    · exact hm.own0 k h
    · exact .inr (Nat.le_trans hm.ext.size (hl k h).1)
  · rcases hget i l1 hi with hi2 | ⟨ei, rfl⟩ <;> rcases hget j l2 hj with hj2 | ⟨ej, rfl⟩
    · exact hm.inj i j l1 l2 k hi2 hj2 hik hjk
    · have := hm.below k ⟨i, l1, hi2, hik⟩; have := (hl k hjk).1; omega
    · have := hm.below k ⟨j, l2, hj2, hjk⟩; have := (hl k hik).1; omega
    · rw [ei, ej]
  · rcases hget i l' hl' with h | ⟨rfl, rfl⟩
    · have hi' : i < H.length := by rw [← hm.len]; exact (List.getElem?_eq_some_iff.1 h).1
      rw [List.getElem?_append_left hi'] at hi
      exact (hm.blk i b l' hi h).pres hp (fun k hk => hb k (hm.below k ⟨i, l', h, hk⟩))
    · rw [hm.len, List.getElem?_append_right (Nat.le_refl _)] at hi
      simp at hi; subst hi
      exact hx hp
  · exact ⟨h1.trans hm.ext.os, h2.trans hm.ext.tape, h3.trans hm.ext.output, Nat.le_trans hm.ext.size hs, fun k hk ho => (hb k (Nat.lt_of_lt_of_le hk hm.ext.size)).trans (hm.ext.block k hk ho)⟩

/-- A free number is given a block. -/
theorem Mem.fill {w' : World} {nb : Blk} {l : Plc} {s : Nat} (hm : Mem Γ H w μ) (hf : μ[s]? = some .free) (hs : w.heap.size ≤ w'.heap.size) (hb : ∀ k, k < w.heap.size → w'.heap[k]? = w.heap[k]?) (h1 : w'.os = w.os) (h2 : w'.tape = w.tape) (h3 : w'.output = w.output)
    (hl : ∀ k, l.block = some k → w.heap.size ≤ k ∧ k < w'.heap.size) (hx : Pres Γ w μ w' (μ.set s l) → BlkOk Γ w' (μ.set s l) nb l) : Mem Γ (setB H s nb) w' (μ.set s l) ∧ Pres Γ w μ w' (μ.set s l) := by
  have hlt : s < μ.length := (List.getElem?_eq_some_iff.1 hf).1
  have hget : ∀ i l', (μ.set s l)[i]? = some l' → (i ≠ s ∧ μ[i]? = some l') ∨ (i = s ∧ l' = l) := by
    intro i l' h
    by_cases hi : i = s
    · subst hi; rw [List.getElem?_set_self hlt] at h; cases h; exact .inr ⟨rfl, rfl⟩
    · rw [List.getElem?_set_ne (Ne.symm hi)] at h; exact .inl ⟨hi, h⟩
  have hold : ∀ i l', i ≠ s → μ[i]? = some l' → (μ.set s l)[i]? = some l' := fun i l' hi h => by rw [List.getElem?_set_ne (Ne.symm hi)]; exact h
  have hown : ∀ k, owned (μ.set s l) k → owned μ k ∨ l.block = some k := by
    rintro k ⟨i, l', h, hk⟩
    rcases hget i l' h with ⟨_, h⟩ | ⟨_, rfl⟩
    · exact .inl ⟨i, l', h, hk⟩
    · exact .inr hk
  have hp : Pres Γ w μ w' (μ.set s l) := ⟨fun k ⟨i1, i2, i3⟩ => ⟨i1, Nat.lt_of_lt_of_le i2 hs, fun h => by
    rcases hown k h with h | h
    · exact i3 h
    · have := (hl k h).1; omega⟩, fun k hk => hb k hk.2.1, fun i l' h => by
      by_cases hi : i = s
      · subst hi; rw [hf] at h; cases h; exact .inr (.inr rfl)
      · exact .inl (hold i l' hi h)⟩
  refine ⟨⟨by rw [setB_eq]; simp [hm.len], fun k hk => ?_, fun k hk => ?_, fun i j l1 l2 k hi hj hik hjk => ?_, fun i b l' hi hl' => ?_, ?_, hm.i0⟩, hp⟩
  · rcases hown k hk with h | h
    · exact Nat.lt_of_lt_of_le (hm.below k h) hs
    · exact (hl k h).2
  · rcases hown k hk with h | h
    · exact hm.own0 k h
    · exact .inr (Nat.le_trans hm.ext.size (hl k h).1)
  · rcases hget i l1 hi with ⟨ni, hi2⟩ | ⟨ei, rfl⟩ <;> rcases hget j l2 hj with ⟨nj, hj2⟩ | ⟨ej, rfl⟩
    · exact hm.inj i j l1 l2 k hi2 hj2 hik hjk
    · have := hm.below k ⟨i, l1, hi2, hik⟩; have := (hl k hjk).1; omega
    · have := hm.below k ⟨j, l2, hj2, hjk⟩; have := (hl k hik).1; omega
    · rw [ei, ej]
  · rw [setB_eq] at hi
    rcases hget i l' hl' with ⟨ni, h⟩ | ⟨rfl, rfl⟩
    · rw [List.getElem?_set_ne (Ne.symm ni)] at hi
      exact (hm.blk i b l' hi h).pres hp (fun k hk => hb k (hm.below k ⟨i, l', h, hk⟩))
    · rw [List.getElem?_set_self (by rw [← hm.len]; exact hlt)] at hi
      cases hi
      exact hx hp
  · exact ⟨h1.trans hm.ext.os, h2.trans hm.ext.tape, h3.trans hm.ext.output, Nat.le_trans hm.ext.size hs, fun k hk ho => (hb k (Nat.lt_of_lt_of_le hk hm.ext.size)).trans (hm.ext.block k hk ho)⟩

theorem Mem.newAt {xs : List V} {c : Array Value} {e : TypeId} {s : Nat} (hm : Mem Γ H w μ) (hf : μ[s]? = some .free) (h1 : c.size = xs.length) (h2 : ∀ v ∈ c.toList, v.oneCell' = true) (h3 : ∀ (i : Nat) (x : V), xs[i]? = some x → Rep Γ w μ x (c.getD i undef)) :
    ∃ l, Mem Γ (setB H s (.cells xs)) (w.alloc (.cells c e)) (μ.set s l) ∧ Pres Γ w μ (w.alloc (.cells c e)) (μ.set s l) ∧ Rep Γ (w.alloc (.cells c e)) (μ.set s l) (.ptr s 0) (.pointer (some ⟨w.heap.size, 0, none⟩)) := by
  obtain ⟨h4, h5⟩ := hm.fill (w' := w.alloc (.cells c e)) (nb := .cells xs) (l := .at_ w.heap.size) hf (by simp) (fun k hk => Below.heap_alloc w _ k hk) rfl rfl rfl (fun k hk => by cases hk; simp)
    (fun hp => ⟨c, e, heap_new w _, h1, h2, fun i x hx => hp.rep (h3 i x hx)⟩)
  exact ⟨_, h4, h5, .ptr _ _ _ (List.getElem?_set_self (List.getElem?_eq_some_iff.1 hf).1)⟩

/-- A buffer that has grown, in place or into a new block: it has another number now; the elder handle is let go. -/
theorem Mem.regrow {w' : World} {b m c s : Nat} {ad : Option Nat} {l : Plc} {nb : Blk} (hm : Mem Γ H w μ) (hf : μ[s]? = some .free) (hl : μ[b]? = some (.hdr ad m c)) (hs : w.heap.size ≤ w'.heap.size) (hb : ∀ k, k < w.heap.size → ad ≠ some k → w'.heap[k]? = w.heap[k]?)
    (h1 : w'.os = w.os) (h2 : w'.tape = w.tape) (h3 : w'.output = w.output) (hk : ∀ k, l.block = some k → ad = some k ∨ (w.heap.size ≤ k ∧ k < w'.heap.size))
    (hx : Pres Γ w μ w' ((μ.set b .none).set s l) → BlkOk Γ w' ((μ.set b .none).set s l) nb l) :
    Mem Γ (setB (setB H b .dead) s nb) w' ((μ.set b .none).set s l) ∧ Pres Γ w μ w' ((μ.set b .none).set s l) := by
  have hlt : b < μ.length := (List.getElem?_eq_some_iff.1 hl).1
  have hlts : s < μ.length := (List.getElem?_eq_some_iff.1 hf).1
  have hsb : s ≠ b := fun e => by subst e; rw [hf] at hl; cases hl
  have hother : ∀ i l', i ≠ b → i ≠ s → μ[i]? = some l' → ((μ.set b .none).set s l)[i]? = some l' := fun i l' hi hi2 h => by
    rw [List.getElem?_set_ne (Ne.symm hi2), List.getElem?_set_ne (Ne.symm hi)]; exact h
  have hb0 : ((μ.set b .none).set s l)[b]? = some .none := by
    rw [List.getElem?_set_ne hsb, List.getElem?_set_self hlt]
  have hs0 : ((μ.set b .none).set s l)[s]? = some l := List.getElem?_set_self (by simpa using hlts)
  have hget : ∀ i l', ((μ.set b .none).set s l)[i]? = some l' → (i ≠ b ∧ i ≠ s ∧ μ[i]? = some l') ∨ (i = b ∧ l' = .none) ∨ (i = s ∧ l' = l) := fun i l' h => by
    by_cases hi : i = s
    · subst hi; rw [hs0] at h; cases h; exact .inr (.inr ⟨rfl, rfl⟩)
    · by_cases hib : i = b
      · subst hib; rw [hb0] at h; cases h; exact .inr (.inl ⟨rfl, rfl⟩)
      · rw [List.getElem?_set_ne (Ne.symm hi), List.getElem?_set_ne (Ne.symm hib)] at h; exact .inl ⟨hib, hi, h⟩
  have hadown : ∀ k, ad = some k → owned μ k := fun k h => ⟨b, _, hl, h⟩
  have hown : ∀ k, owned ((μ.set b .none).set s l) k → owned μ k ∨ (w.heap.size ≤ k ∧ k < w'.heap.size) := by
    rintro k ⟨i, l', h, hk'⟩
    rcases hget i l' h with ⟨_, _, h⟩ | ⟨_, rfl⟩ | ⟨_, rfl⟩
    · exact .inl ⟨i, l', h, hk'⟩
    · cases hk'
    · exact (hk k hk').imp (hadown k) id
  have hp : Pres Γ w μ w' ((μ.set b .none).set s l) := ⟨fun k ⟨i1, i2, i3⟩ => ⟨i1, Nat.lt_of_lt_of_le i2 hs, fun h => by
      rcases hown k h with h | h
      · exact i3 h
      · omega⟩, fun k hk' => hb k hk'.2.1 (fun e => hk'.2.2 (hadown k e)), fun i l' h => by
      by_cases hib : i = b
      · subst hib; rw [hl] at h; cases h; exact .inr (.inl ⟨⟨_, _, _, rfl⟩, hb0⟩)
      · by_cases his : i = s
        · subst his; rw [hf] at h; cases h; exact .inr (.inr rfl)
        · exact .inl (hother i l' hib his h)⟩
  refine ⟨⟨?_, fun k hk' => ?_, fun k hk' => ?_, fun i j l1 l2 k hi hj hik hjk => ?_, fun i bl l' hi hl' => ?_, ?_, hm.i0⟩, hp⟩
  · rw [setB_eq, setB_eq]; simp [hm.len]
  · rcases hown k hk' with h | h
    · exact Nat.lt_of_lt_of_le (hm.below k h) hs
    · exact h.2
  · rcases hown k hk' with h | h
    · exact hm.own0 k h
    · exact .inr (Nat.le_trans hm.ext.size h.1)
  · rcases hget i l1 hi with ⟨ni, _, hi2⟩ | ⟨_, rfl⟩ | ⟨ei, rfl⟩
    · rcases hget j l2 hj with ⟨nj, _, hj2⟩ | ⟨_, rfl⟩ | ⟨ej, rfl⟩
      · exact hm.inj i j l1 l2 k hi2 hj2 hik hjk
      · cases hjk
      · rcases hk k hjk with h | h
        · exact absurd (hm.inj i b l1 _ k hi2 hl hik h) ni
        · have := hm.below k ⟨i, l1, hi2, hik⟩; omega
    · cases hik
    · rcases hget j l2 hj with ⟨nj, _, hj2⟩ | ⟨_, rfl⟩ | ⟨ej, rfl⟩
      · rcases hk k hik with h | h
        · exact absurd (hm.inj j b l2 _ k hj2 hl hjk h) nj
        · have := hm.below k ⟨j, l2, hj2, hjk⟩; omega
      · cases hjk
      · rw [ei, ej]
  · rw [setB_eq, setB_eq] at hi
    rcases hget i l' hl' with ⟨ni, nis, h⟩ | ⟨rfl, rfl⟩ | ⟨rfl, rfl⟩
    · rw [List.getElem?_set_ne (Ne.symm nis), List.getElem?_set_ne (Ne.symm ni)] at hi
      exact (hm.blk i bl l' hi h).pres hp (fun k hk' => hb k (hm.below k ⟨i, l', h, hk'⟩) (fun e => ni (hm.inj i b l' _ k h hl hk' e)))
    · rw [List.getElem?_set_ne hsb, List.getElem?_set_self (by rw [← hm.len]; exact hlt)] at hi
      cases hi; trivial
    · rw [List.getElem?_set_self (by simp [← hm.len]; exact hlts)] at hi
      cases hi
      exact hx hp
  · refine ⟨h1.trans hm.ext.os, h2.trans hm.ext.tape, h3.trans hm.ext.output, Nat.le_trans hm.ext.size hs, fun k hk' ho => ?_⟩
    rw [hb k (Nat.lt_of_lt_of_le hk' hm.ext.size) ?_]
    · exact hm.ext.block k hk' ho
    · intro e
      rcases hm.own0 k (hadown k e) with h | h
      · exact ho h
      · omega

/-- A free number more. -/
theorem Mem.pad (hm : Mem Γ H w μ) : Mem Γ (H ++ [.dead]) w (μ ++ [.free]) ∧ Pres Γ w μ w (μ ++ [.free]) :=
  hm.push (w' := w) (nb := .dead) (l := .free) (Nat.le_refl _) (fun _ _ => rfl) rfl rfl rfl (fun k hk => by cases hk) (fun _ => trivial)

/-- The append, told by what becomes of the row: it stays where it is, or lies in a new block. -/
theorem app_run {P : Program} {t ty e : Nat} {ti : TI} (hd : P.underlying t = some (.slice e)) (ht : TiOk P e ti) {base m q : Nat} {ad : Option Nat} {cap : Nat} {vs news : List Value} {v : Value} (hbase : base ≤ w.heap.size)
    (hown : w.ownsRow base e ti.sz (hdrV ad m cap) m vs) (hl : news.length = q * ti.sz) (h1 : ∀ u ∈ news, u.oneCell' = true)
    (hv : (∃ ad c, v = .slice (some ad) q c ∧ ∀ (j : Nat) (u : Value), news[j]? = some u → w.cell? (ad.add j) = some u) ∨ (q = 0 ∧ ∃ c, v = .slice none 0 c))
    (hby0 : 0 < ti.by_) (hfit : (m + q) * ti.by_ ≤ 140737488355328) :
    ∃ ad' cap' w', (Builtin.append_ #[t, t] ty #[hdrV ad m cap, v]).run P w = .ok (hdrV ad' (m + q) cap') w' ∧ w'.ownsRow base e ti.sz (hdrV ad' (m + q) cap') (m + q) (vs ++ news) ∧
      w.heap.size ≤ w'.heap.size ∧ (∀ k, k < w.heap.size → ad ≠ some k → w'.heap[k]? = w.heap[k]?) ∧ w'.os = w.os ∧ w'.tape = w.tape ∧ w'.output = w.output ∧
      ∀ k, ad' = some k → ad = some k ∨ (w.heap.size ≤ k ∧ k < w'.heap.size) := by
  obtain ⟨i, z, hi, hsz', hby, hz, hzs, _, _⟩ := ht.info
  have hfit' : m + q ≤ (m + q) * ti.by_ := Nat.le_mul_of_pos_right _ hby0
  have hml : m + q ≤ maxLen := by unfold maxLen; omega
  have hlen : (vs ++ news).length = (m + q) * ti.sz := by rw [List.length_append, hown.1, hl, Nat.add_mul]
  have hsame0 : q = 0 → news = [] := fun h => List.eq_nil_of_length_eq_zero (by rw [hl, h, Nat.zero_mul])
  rcases hv with ⟨sa, c, rfl, hnews⟩ | ⟨rfl, c, rfl⟩
  · rcases hown.2 with ⟨hnil, rfl⟩ | ⟨g, cap0, cur, hvv, hbg, hg, hnc, hcm, hcs, htake⟩
    · -- nil
      cases ad with
      | some g => simp [hdrV] at hnil
      | none =>
        simp only [hdrV, Option.map_none, Value.slice.injEq, true_and] at hnil
        subst hnil
        have hvs : vs = [] := List.eq_nil_of_length_eq_zero (by simpa using hown.1)
        subst hvs
        by_cases hq : q = 0
        · subst hq
          have := hsame0 rfl; subst this
          refine ⟨none, 0, w, ?_, hown, Nat.le_refl _, fun _ _ _ => rfl, rfl, rfl, rfl, by intro k h; cases h⟩
          simp [hdrV, Builtin.append_, run_underlying hd, sizeOf, typeInfo, hi, Builtin.lenOf, Builtin.firstCells, loadCells, loadCellsFrom]
        · have hr := run_append_nil (P := P) w t ty e i z hd hi hz sa q c news (by rw [hsz']; exact hl) hnews (by omega) (by unfold maxLen at hml; omega) (by rw [hby]; simp only [Nat.zero_add] at hfit hfit'; omega)
          have hcm := grownCap_le_maxLen w q 0 e (by simpa using hml)
          have hge := grownCap_ge w q 0 e
          refine ⟨some w.heap.size, grownCap w q 0 e, _, by simpa [hdrV] using hr, ⟨hlen, .inr ⟨w.heap.size, _, _, by simp [hdrV], hbase, heap_alloc_new w.drew _, by simpa using hge, hcm, ?_, ?_⟩⟩, by simp, fun k hk _ => heap_alloc_old w.drew _ k hk, rfl, rfl, rfl, fun k hk => .inr ?_⟩
          · simp only [Array.size_append, List.size_toArray, size_zeroCells, hzs, hl, ← Nat.add_mul]
            congr 1; omega
          · rw [← hlen]; simp
          · cases hk; simp
    · cases ad with
      | none => simp [hdrV] at hvv
      | some g' =>
        simp only [hdrV, Option.map_some, Value.slice.injEq, Option.some.injEq, Addr.mk.injEq] at hvv
        obtain ⟨⟨rfl, _⟩, _, rfl⟩ := hvv
        by_cases hroom : m + q ≤ cap
        · have hfitc : m * ti.sz + news.length ≤ cur.size := by rw [hl, hcs, ← Nat.add_mul]; exact Nat.mul_le_mul_right _ hroom
          have hr := run_append_room (P := P) w t ty e i hd hi g' m cap cur hg sa q c news (by rw [hsz']; exact hl) hnews h1 hroom (by rw [hsz']; exact hfitc)
          rw [hsz'] at hr
          refine ⟨some g', cap, _, hr, ⟨hlen, .inr ⟨g', cap, _, rfl, hbg, setRow_heap w g' cur _ e _ hg, hroom, hcm, ?_, ?_⟩⟩, by simp [World.setRow], fun k _ hk => setRow_other w g' k _ (fun e => hk (by rw [e])), rfl, rfl, rfl, fun k hk => .inl hk⟩
          · simp only [List.size_toArray, List.length_append, List.length_take, List.length_drop, Array.length_toList]
            omega
          · rw [htake, ← hlen]
            show List.take _ ((vs ++ news) ++ _) = _
            exact List.take_left
        · have holds : ∀ (j : Nat) (u : Value), vs[j]? = some u → w.cell? ((⟨g', 0, none⟩ : Addr).add j) = some u := hown.cells (g := g') rfl
          have hr := run_append_grow (P := P) w t ty e i z hd hi hz ⟨g', 0, none⟩ m cap vs (by rw [hsz']; exact hown.1) holds sa q c news (by rw [hsz']; exact hl) hnews (by omega) (by unfold maxLen at hml; omega) (growslice_fits (by omega) (by rw [hby]; omega))
          have hcm' := grownCap_le_maxLen w (m + q) cap e hml
          have hge := grownCap_ge w (m + q) cap e
          refine ⟨some w.heap.size, grownCap w (m + q) cap e, _, hr, ⟨hlen, .inr ⟨w.heap.size, _, _, rfl, hbase, heap_alloc_new w.drew _, hge, hcm', ?_, ?_⟩⟩, by simp, fun k hk _ => heap_alloc_old w.drew _ k hk, rfl, rfl, rfl, fun k hk => .inr ?_⟩
          · simp only [Array.size_append, List.size_toArray, size_zeroCells, hzs, hown.1, hl, ← Nat.add_mul]
            congr 1; omega
          · simp only [Array.toList_append, List.append_assoc]
            rw [← List.append_assoc, ← hlen]
            exact List.take_left
          · cases hk; simp
  · have := hsame0 rfl; subst this
    refine ⟨ad, cap, w, ?_, by simpa using hown, Nat.le_refl _, fun _ _ _ => rfl, rfl, rfl, rfl, fun k h => .inl h⟩
    rcases hown.2 with ⟨hnil, rfl⟩ | ⟨g, cap0, cur, hvv, _, _, hnc, _⟩
    · have hnil' : hdrV ad 0 cap = .slice none 0 0 := hnil
      show (Builtin.append_ #[t, t] ty #[hdrV ad 0 cap, .slice none 0 c]).run P w = .ok (hdrV ad 0 cap) w
      rw [hnil']
      simp [Builtin.append_, run_underlying hd, sizeOf, typeInfo, hi, Builtin.lenOf, Builtin.firstCells]
    · rw [hvv]
      simp [Builtin.append_, run_underlying hd, sizeOf, typeInfo, hi, Builtin.lenOf, Builtin.firstCells, hnc, storeCells, hvv]

end Go.AW
