/- AW, part 13C: a region whose order is drawn, carried out. -/
import Derived.Test.YtalkhhfinogecaaA13B
namespace Go.AW
open Go Go.RowKit
variable {Γ : Ctx} {nt : Nat} {T : TTab} {n0 : Nat} {all : Array Oper} {E : Env} {H : Heap} {K : Env → Heap → Prop} {L : Nat → V} {Ls : Nat → Nat → V} {Es : Nat → Env} {Hs : Nat → Heap} {v : Nat → V} {eff : Nat → Eff} {ts : Nat → List (Nat × Bool)} {run : Nat → Bool}

abbrev seen (listed : Array Bool) (j : Nat) : Bool := listed.getD j false

structure Inv (Γ : Ctx) (nt : Nat) (all : Array Oper) (L : Nat → V) (H : Heap) (Hs : Nat → Heap) (v : Nat → V) (eff : Nat → Eff) (ts : Nat → List (Nat × Bool)) (listed : Array Bool) (a : Act) (w : World) (μ : List Plc) : Prop where
  size : listed.size = all.size
  closed : ∀ i o e, seen listed i = true → all.toList[i]? = some o → e ∈ o.after.toList → bindsB e = true → seen listed e.on = true
  mem : Mem Γ (heapAt Hs eff H all.size (seen listed)) w μ
  env : ∀ t, Rep Γ w μ (lastW (wrT all.toList v t) (seen listed) (L t) all.size) (a.tmps.getD t undef)
  tsize : a.tmps.size = nt
  defers : a.defers = []
  free : ∀ i, i < all.size → (eff i).news = true → seen listed i = false → μ[(Hs i).length]? = some .free
  shown : ∀ j, j < all.size → seen listed j = true → ∀ b wr, (b, wr) ∈ ts j → ∀ i, i < all.size → (eff i).news = true → (Hs i).length = b → seen listed i = true

theorem seen_set {listed : Array Bool} {i : Nat} (hi : i < listed.size) (j : Nat) : seen (listed.setIfInBounds i true) j = (seen listed j || decide (j = i)) := by
  by_cases h : i = j
  · subst h; simp [seen, hi]
  · have h' : j ≠ i := Ne.symm h
    simp [seen, Array.getElem?_setIfInBounds_ne h, h']

theorem seen_lt {listed : Array Bool} {j : Nat} (h : seen listed j = true) : j < listed.size := by
  by_cases hj : j < listed.size
  · exact hj
  · simp [seen, Array.getElem?_eq_none (by omega : listed.size ≤ j)] at h

def left (n : Nat) (listed : Array Bool) : Nat := ((List.range n).filter fun i => !seen listed i).length

theorem left_zero {n : Nat} {listed : Array Bool} (h : left n listed = 0) {i : Nat} (hi : i < n) : seen listed i = true := by
  have h1 : (List.range n).filter (fun i => !seen listed i) = [] := List.eq_nil_of_length_eq_zero h
  rw [List.filter_eq_nil_iff] at h1
  have := h1 i (by simpa using hi)
  simpa using this

theorem filter_lt {α : Type} {l : List α} {p q : α → Bool} {x : α} (hx : x ∈ l) (hp : p x = true) (hq : q x = false) (h : ∀ y, q y = true → p y = true) : (l.filter q).length < (l.filter p).length := by
  induction l with
  | nil => cases hx
  | cons y l ih =>
    have hle : (l.filter q).length ≤ (l.filter p).length := by
      clear ih hx
      induction l with
      | nil => simp
      | cons z l ih =>
        simp only [List.filter_cons]
        cases hqz : q z with
        | true => rw [h z hqz]; simp only [if_true, List.length_cons]; omega
        | false => cases p z <;> simp <;> omega
    simp only [List.filter_cons]
    rcases List.mem_cons.1 hx with rfl | hx
    · rw [hp, hq]; simp; omega
    · have := ih hx
      cases hqy : q y with
      | true => rw [h y hqy]; simp only [if_true, List.length_cons]; omega
      | false => cases p y <;> simp <;> omega

theorem left_set {n : Nat} {listed : Array Bool} {i : Nat} (hn : listed.size = n) (hi : i < n) (h : seen listed i = false) : left n (listed.setIfInBounds i true) < left n listed := by
  refine filter_lt (x := i) (by simpa using hi) (by simp [h]) (by rw [seen_set (by omega)]; simp) (fun y hy => ?_)
  rw [seen_set (by omega)] at hy
  cases hs : seen listed y with
  | false => rfl
  | true => rw [hs] at hy; simp at hy

theorem draw_fin {Q : Exit → Act → World → Prop} (ht : Trace Γ.P T n0 all.toList all.toList 0 [] L H K Ls Es Hs v eff ts run) (hq : ∀ E' H' a' w' μ', K E' H' → Ok Γ nt E' H' a' w' μ' → Q .normal a' w')
    {listed : Array Bool} {a : Act} {w : World} {μ : List Plc} (hi : Inv Γ nt all L H Hs v eff ts listed a w μ) (hall : ∀ i, i < all.size → seen listed i = true) : Q .normal a w := by
  have hn : all.toList.length = all.size := by simp
  obtain ⟨E', hE', hK⟩ := ht.fin
  rw [hn] at hE' hK
  have hL : LOk Γ w μ (Ls all.size) a.tmps := fun t => by
    have := hi.env t
    rw [text_env ht t all.size (by omega), ← lastW_congr (S := seen listed) fun j hj _ => hall j hj]
    exact this
  refine hq E' (Hs all.size) a w μ hK ⟨?_, hi.tsize, hL.env hE', hi.defers⟩
  have e : heapAt Hs eff H all.size (seen listed) = Hs all.size := by
    refine List.ext_getElem? fun b => ?_
    by_cases hb : b < (Hs all.size).length
    · rw [heapAt_get hb, text_heap ht all.size (by omega) b hb]
      congr 1
      exact lastW_congr fun j hj _ => hall j hj
    · rw [List.getElem?_eq_none (by rw [heapAt_length]; omega), List.getElem?_eq_none (by omega)]
  rw [← e]; exact hi.mem

theorem meet_dn {p q : Option Nat × List Nat} {d : Nat} (h1 : p.1 = some d) (h2 : d ∈ q.2) : meet p q = true := by
  simp [meet, optB, h1, memB_of h2]
theorem meet_nd {p q : Option Nat × List Nat} {d : Nat} (h1 : q.1 = some d) (h2 : d ∈ p.2) : meet p q = true := by
  simp [meet, optB, h1, memB_of h2]
theorem meet_dd {p q : Option Nat × List Nat} {d : Nat} (h1 : p.1 = some d) (h2 : q.1 = some d) : meet p q = true := by
  simp [meet, optB, h1, h2, memB, Nat.beq_refl]

theorem SOp.set_touch {P : Program} {op : Op} {u : V} {b : Nat} {x : Blk} (h : SOp P T n0 E H op u (.set b x)) : (b, true) ∈ touch E op ∧ b < H.length := by
  cases h with
  | no h hx => cases hx with
    | store h1 h2 h3 h4 h5 => exact ⟨by simp [touch, h1, touchV, touch1, touch0], (List.getElem?_eq_some_iff.1 h2).1⟩

theorem SOp.app_touch {P : Program} {op : Op} {u : V} {b : Nat} {x : Blk} (h : SOp P T n0 E H op u (.app b x)) : (b, true) ∈ touch E op ∧ b < H.length := by
  cases h with
  | no h hx => cases hx with
    | app hc h1 h2 h3 h4 h5 h6 h7 h8 =>
      refine ⟨?_, (List.getElem?_eq_some_iff.1 h7).1⟩
      rw [hc]
      show _ ∈ touchV true _ ++ touchV false _
      rw [h6]; simp [touchV, touch1, touch0]

theorem wrB_cases {b j : Nat} (ht : Trace Γ.P T n0 all.toList all.toList 0 [] L H K Ls Es Hs v eff ts run) (hj : j < all.size) (h : wrB Hs eff b j ≠ none) :
    ((b, true) ∈ ts j ∧ b < (Hs j).length) ∨ ((eff j).news = true ∧ (Hs j).length = b) := by
  have ho : all.toList[j]? = some all[j] := by simp [hj]
  obtain ⟨_, _, _, _, h4⟩ := ht.step j _ ho
  unfold wrB at h
  rcases h4 with ⟨_, hs, hts⟩ | ⟨_, _, he, _⟩
  · cases he : eff j with
    | none => rw [he] at h; exact absurd rfl h
    | set b' x =>
      rw [he] at h hs
      simp only at h
      by_cases hb : b' = b
      · subst hb
        rw [hts]
        exact .inl hs.set_touch
      · simp [hb] at h
    | new x =>
      rw [he] at h
      simp only at h
      by_cases hb : (Hs j).length = b
      · exact .inr ⟨rfl, hb⟩
      · simp [hb] at h
    | app b' x =>
      rw [he] at h hs
      simp only at h
      by_cases hb : (Hs j).length = b
      · exact .inr ⟨rfl, hb⟩
      · by_cases hb' : b' = b
        · subst hb'
          rw [hts]
          exact .inl hs.app_touch
        · simp [hb, hb'] at h
  · rw [he] at h; exact absurd rfl h

/-- An operation whose turn has come. -/
theorem draw_step {Q : Exit → Act → World → Prop} {next : Act → World → Prop} (hT : TOk Γ.P T) (ht : Trace Γ.P T n0 all.toList all.toList 0 [] L H K Ls Es Hs v eff ts run) (hd : drawOK all.toList = true) (hall : ∀ o ∈ all.toList, operOK nt o = true)
    {listed : Array Bool} {a : Act} {w : World} {μ : List Plc} (hi : Inv Γ nt all L H Hs v eff ts listed a w μ) {i : Nat} (hr : i ∈ Region.ready .any all listed)
    (hn : ∀ a' w' μ', Inv Γ nt all L H Hs v eff ts (listed.setIfInBounds i true) a' w' μ' → next a' w') : wpOp Γ.P all Q i next a w := by
  obtain ⟨hl, o, ho, haft⟩ := mem_ready.1 hr
  have hin : i < all.size := (Array.getElem?_eq_some_iff.1 ho).1
  have hn' : all.toList.length = all.size := by simp
  have hsi : seen listed i = false := by
    have : i < listed.size := by rw [hi.size]; exact hin
    simpa [seen, this] using hl
  have hoL : all.toList[i]? = some o := by simpa using ho
  have haft' : ∀ o' e, all.toList[i]? = some o' → e ∈ o'.after.toList → bindsB e = true → seen listed e.on = true := fun o' e h1 h2 h3 => by
    rw [hoL] at h1; cases h1
    exact haft e (by simpa using h2) (by rw [← bindsB_eq]; exact h3)
  have hbef : ∀ j, before all.toList j i = true → seen listed j = true := fun j h => by
    obtain ⟨x, h1, h2⟩ := before_mask h
    exact before_closed (S := fun j => seen listed j = true) hi.closed i x j h1 h2 haft'
  have hnaf : ∀ j, seen listed j = true → before all.toList i j = true → False := fun j hj h => by
    obtain ⟨x, h1, h2⟩ := before_mask h
    have := before_closed (S := fun j => seen listed j = true) hi.closed j x i h1 h2 (fun o' e g1 g2 g3 => hi.closed j o' e hj g1 g2 g3)
    rw [hsi] at this; cases this
  -- slots
  have hslot : ∀ t, (∀ j, j < all.size → ∀ o', all.toList[j]? = some o' → o'.dst = some t → j ≠ i → (if j < i then before all.toList j i = true else before all.toList i j = true)) →
      lastW (wrT all.toList v t) (seen listed) (L t) all.size = Ls i t := fun t h => by
    rw [text_env ht t i (by omega)]
    refine lastW_turn (by omega) fun j hj hw => ?_
    obtain ⟨o', h1, h2⟩ := wrT_some hw
    by_cases hji : j = i
    · subst hji; rw [hsi]; simp
    · have := h j hj o' h1 h2 hji
      by_cases hlt : j < i
      · rw [if_pos hlt] at this; exact ⟨fun _ => hlt, fun _ => hbef j this⟩
      · rw [if_neg hlt] at this; exact ⟨fun hs => (hnaf j hs this).elim, fun h => absurd h hlt⟩
  have hpair : ∀ {j : Nat} {o' : Oper}, all.toList[j]? = some o' → j ≠ i → (meet (o'.dst, namesOf all.toList o') (o.dst, namesOf all.toList o) = true ∧ meet (o.dst, namesOf all.toList o) (o'.dst, namesOf all.toList o') = true) →
      (if j < i then before all.toList j i = true else before all.toList i j = true) := fun {j o'} h1 hji hm => by
    by_cases hlt : j < i
    · rw [if_pos hlt]; exact draw_pairs hd hlt h1 hoL hm.1
    · rw [if_neg hlt]; exact draw_pairs hd (by omega) hoL h1 hm.2
  have hnames : ∀ t ∈ namesOf all.toList o, Rep Γ w μ (Ls i t) (a.tmps.getD t undef) := fun t htn => by
    rw [← hslot t (fun j hj o' h1 h2 hji => hpair h1 hji ⟨meet_dn h2 htn, meet_nd h2 htn⟩)]
    exact hi.env t
  obtain ⟨hE1, hH1, hG, hEs, hstep⟩ := ht.step i o hoL
  have hw := grd_wanted hG hnames
  have hoo := hall o (List.mem_of_getElem? hoL)
  have hcs : ∀ x ∈ o.op.operands.toList, constB x = true := by
    simp only [operOK, Bool.and_eq_true, List.all_eq_true] at hoo
    exact hoo.2
  have hop : ∀ x ∈ o.op.operands.toList, Rep Γ w μ (opd (Es i) x) (a.eval x) := fun x hx =>
    rep_opd (fun t e => by
      rcases hEs t with h1 | h1
      · rw [h1]; exact .bad _
      · rw [h1]; exact hnames t (names_operand (e ▸ hx))) (by
      have hc := hcs x hx
      cases x with
      | const v =>
        cases v with
        | agg cs => intro y hy; simp only [constB, List.all_eq_true] at hc; exact hc y hy
        | _ => trivial
      | _ => trivial)
  -- creators and touches
  have hcre : ∀ {j : Nat}, j < all.size → (eff j).news = true → ∀ {k : Nat}, k ≤ all.size → j < k → (Hs j).length < (Hs k).length := fun {j} hj he {k} hk hjk => by
    have h1 := step_len ht (p := j) (by omega)
    rw [he] at h1
    have h2 := len_mono ht (p := j + 1) (q := k) (by omega) (by omega)
    simp only [if_true] at h1
    omega
  have hcre1 : ∀ {j k : Nat}, j < all.size → k < all.size → (eff j).news = true → (eff k).news = true → (Hs j).length = (Hs k).length → j = k := fun {j k} hj hk h1 h2 he => by
    rcases Nat.lt_trichotomy j k with h | h | h
    · have := hcre hj h1 (k := k) (by omega) h; omega
    · exact h
    · have := hcre hk h2 (k := j) (by omega) h; omega
  have hodd : ∀ {j : Nat} {b : Nat} {wr wr' : Bool}, j < all.size → j ≠ i → (b, wr) ∈ ts j → (b, wr') ∈ ts i → (wr = true ∨ wr' = true) → (seen listed j = true ↔ j < i) := fun {j b wr wr'} hj hji h1 h2 hww => by
    by_cases hlt : j < i
    · have := ht.agr i (by omega) j hlt (odds_of h2 h1 rfl hww.symm)
      rw [Nat.zero_add, Nat.zero_add] at this
      exact ⟨fun _ => hlt, fun _ => hbef j this⟩
    · have := ht.agr j (by omega) i (by omega) (odds_of h1 h2 rfl hww)
      rw [Nat.zero_add, Nat.zero_add] at this
      exact ⟨fun hs => (hnaf j hs this).elim, fun h => absurd h hlt⟩
  have hsz : i < listed.size := by rw [hi.size]; exact hin
  have hset := seen_set (listed := listed) hsz
  have hclosed : ∀ k o' e, seen (listed.setIfInBounds i true) k = true → all.toList[k]? = some o' → e ∈ o'.after.toList → bindsB e = true → seen (listed.setIfInBounds i true) e.on = true := fun k o' e hk h1 h2 h3 => by
    rw [hset] at hk ⊢
    rw [Bool.or_eq_true] at hk ⊢
    refine .inl ?_
    rcases hk with hk | hk
    · exact hi.closed k o' e hk h1 h2 h3
    · have := of_decide_eq_true hk; subst this; exact haft' o' e h1 h2 h3
  have henv : ∀ {w' : World} {μ' : List Plc} {cv : Value}, Pres Γ w μ w' μ' → Rep Γ w' μ' (v i) cv → ∀ t, Rep Γ w' μ' (lastW (wrT all.toList v t) (seen (listed.setIfInBounds i true)) (L t) all.size) ((a.put o.dst cv).tmps.getD t undef) := fun {w' μ' cv} hp hrv t => by
    rw [lastW_add hset hin (fun hwi j hj hsj hwj => by
      obtain ⟨o1, h1, h2⟩ := wrT_some hwi
      rw [hoL] at h1; cases h1
      obtain ⟨o2, h3, h4⟩ := wrT_some hwj
      have hji : j ≠ i := fun e => by rw [e, hsi] at hsj; cases hsj
      have := hpair h3 hji ⟨meet_dd h4 h2, meet_dd h2 h4⟩
      by_cases hlt : j < i
      · exact hlt
      · rw [if_neg hlt] at this; exact (hnaf j hsj this).elim) hsi]
    have he := hp.rep (hi.env t)
    have hwT : wrT all.toList v t i = (match o.dst with | some d => if d = t then some (v i) else none | none => none) := by
      unfold wrT; rw [hoL]; rfl
    rw [hwT]
    cases hdst : o.dst with
    | none => exact he
    | some d =>
      have hdn : d < a.tmps.size := by
        simp only [operOK, hdst, Bool.and_eq_true, Nat.blt_eq] at hoo
        rw [hi.tsize]; exact hoo.1
      simp only [Act.put]
      by_cases hdt : d = t
      · subst hdt
        have : (a.tmps.setIfInBounds d cv).getD d undef = cv := by simp [Array.getD_eq_getD_getElem?, hdn]
        rw [this]; simpa using hrv
      · have : (a.tmps.setIfInBounds d cv).getD t undef = a.tmps.getD t undef := by simp [Array.getD_eq_getD_getElem?, hdt]
        rw [this]; simpa [hdt] using he
  unfold wpOp
  simp only [ho, hw]
  rcases hstep with ⟨hrun, hs, hts⟩ | ⟨hrun, hv, he, hts⟩
  · rw [hrun]
    simp only [if_true]
    refine .inl ?_
    have hth : ∀ b wr, (b, wr) ∈ ts i → ∀ k, k < all.size → (eff k).news = true → (Hs k).length = b → seen listed k = true := fun b wr hb k hk hkn hkb => by
      rw [hts] at hb
      obtain ⟨l, hl1, hl2⟩ := touch_there hop hb
      cases hsk : seen listed k with
      | true => rfl
      | false =>
        have := hi.free k hk hkn hsk
        rw [hkb, hl1] at this
        cases this
        exact absurd rfl hl2
    have hshows : Shows (Hs i) (heapAt Hs eff H all.size (seen listed)) (touch (Es i) o.op) := fun b wr x hb hx => by
      rw [nth_eq] at hx ⊢
      have hbi : b < (Hs i).length := (List.getElem?_eq_some_iff.1 hx).1
      have hbn : b < (Hs all.size).length := by have := len_mono ht (p := i) (q := all.size) (by omega) (by omega); omega
      rw [text_heap ht i (by omega) b hbi] at hx
      rw [heapAt_get hbn, ← hx]
      congr 1
      refine lastW_turn (by omega) fun j hj hwj => ?_
      rcases wrB_cases ht hj hwj with ⟨h1, _⟩ | ⟨h1, h2⟩
      · by_cases hji : j = i
        · subst hji; rw [hsi]; simp
        · exact hodd hj hji h1 (by rw [hts]; exact hb) (.inl rfl)
      · have hsj := hth b wr (by rw [hts]; exact hb) j hj h1 h2
        have hji : j < i := by
          by_cases hlt : j < i
          · exact hlt
          · have := len_mono ht (p := i) (q := j) (by omega) (by omega); omega
        exact ⟨fun _ => hji, fun _ => hsj⟩
    refine hs.replay (s := (Hs i).length) hT hi.mem hop hshows (fun hnew => ⟨rfl, hi.free i hin hnew hsi⟩) next Q fun w' μ' cv hm' hp hfree hrv => hn _ _ μ' ?_
    refine ⟨by simp [hi.size], hclosed, ?_, henv hp hrv, by rw [put_size]; exact hi.tsize, by rw [put_defers]; exact hi.defers, fun k hk hkn hks => ?_, fun j hj hjs b wr hb k hk hkn hkb => ?_⟩
    · have e : (eff i).at_ (Hs i).length (heapAt Hs eff H all.size (seen listed)) = heapAt Hs eff H all.size (seen (listed.setIfInBounds i true)) := by
        have hadd : ∀ b, b < (Hs all.size).length → lastW (wrB Hs eff b) (seen (listed.setIfInBounds i true)) (ini H b) all.size = (wrB Hs eff b i).getD (lastW (wrB Hs eff b) (seen listed) (ini H b) all.size) := fun b hb => by
          refine lastW_add hset hin (fun hwi j hj hsj hwj => ?_) hsi
          have hji : j ≠ i := fun e => by rw [e, hsi] at hsj; cases hsj
          rcases wrB_cases ht hin hwi with ⟨h1, h2⟩ | ⟨h1, h2⟩
          · rcases wrB_cases ht hj hwj with ⟨h3, h4⟩ | ⟨h3, h4⟩
            · exact (hodd hj hji h3 h1 (.inl rfl)).1 hsj
            · by_cases hlt : j < i
              · exact hlt
              · have := len_mono ht (p := i) (q := j) (by omega) (by omega); omega
          · rcases wrB_cases ht hj hwj with ⟨h3, h4⟩ | ⟨h3, h4⟩
            · have := hi.shown j hj hsj b true h3 i hin h1 h2
              rw [hsi] at this; cases this
            · exact absurd (hcre1 hj hin h3 h1 (by omega)) hji
        refine List.ext_getElem? fun b => ?_
        by_cases hb : b < (Hs all.size).length
        · have hlen : (heapAt Hs eff H all.size (seen listed)).length = (Hs all.size).length := heapAt_length
          have hget := heapAt_get (eff := eff) (H := H) (S := seen listed) hb
          rw [heapAt_get hb, hadd b hb]
          cases he : eff i with
          | none =>
            have hw : wrB Hs eff b i = none := by unfold wrB; rw [he]
            rw [hw]; simp only [Eff.at_, Option.getD_none]; exact hget
          | set b' x =>
            have hw : wrB Hs eff b i = if b' = b then some x else none := by unfold wrB; rw [he]
            rw [hw]
            simp only [Eff.at_, setB_eq, List.getElem?_set]
            by_cases hbb : b' = b
            · subst hbb; simp [hlen, hb]
            · simp [hbb, hget]
          | new x =>
            have hw : wrB Hs eff b i = if (Hs i).length = b then some x else none := by unfold wrB; rw [he]
            rw [hw]
            simp only [Eff.at_, setB_eq, List.getElem?_set]
            by_cases hbb : (Hs i).length = b
            · simp [hbb, hlen, hb]
            · simp [hbb, hget]
          | app b' x =>
            have hw : wrB Hs eff b i = if (Hs i).length = b then some x else if b' = b then some .dead else none := by unfold wrB; rw [he]
            rw [hw]
            simp only [Eff.at_, setB_eq, List.getElem?_set, List.length_set]
            by_cases hbb : (Hs i).length = b
            · simp [hbb, hlen, hb]
            · by_cases hb2 : b' = b
              · subst hb2; simp [hbb, hlen, hb]
              · simp [hbb, hb2, hget]
        · rw [List.getElem?_eq_none (by
            have : ((eff i).at_ (Hs i).length (heapAt Hs eff H all.size (seen listed))).length = (heapAt Hs eff H all.size (seen listed)).length := by cases eff i <;> simp [Eff.at_, setB_eq]
            rw [this, heapAt_length]; omega), List.getElem?_eq_none (by rw [heapAt_length]; omega)]
      rw [← e]; exact hm'
    · rw [hset, Bool.or_eq_false_iff] at hks
      refine hfree _ (fun hnew he => ?_) (hi.free k hk hkn hks.1)
      have := hcre1 hk hin hkn hnew he
      have h2 := of_decide_eq_false hks.2
      exact h2 this
    · rw [hset, Bool.or_eq_true] at hjs
      rw [hset, Bool.or_eq_true]
      refine .inl ?_
      rcases hjs with hjs | hjs
      · exact hi.shown j hj hjs b wr hb k hk hkn hkb
      · have := of_decide_eq_true hjs; subst this
        exact hth b wr hb k hk hkn hkb
  · rw [hrun]
    simp only [Bool.false_eq_true, if_false]
    refine hn _ _ μ ⟨by simp [hi.size], hclosed, ?_, henv (.refl _ _ _) (by rw [hv]; exact undef_rep), by rw [put_size]; exact hi.tsize, by rw [put_defers]; exact hi.defers, fun k hk hkn hks => ?_, fun j hj hjs b wr hb k hk hkn hkb => ?_⟩
    · have e : heapAt Hs eff H all.size (seen listed) = heapAt Hs eff H all.size (seen (listed.setIfInBounds i true)) := by
        refine List.map_congr_left fun b _ => ?_
        refine lastW_congr fun j hj hwj => ?_
        rw [hset]
        by_cases hji : j = i
        · subst hji; unfold wrB at hwj; rw [he] at hwj; exact absurd rfl hwj
        · simp [hji]
      rw [← e]; exact hi.mem
    · rw [hset, Bool.or_eq_false_iff] at hks
      exact hi.free k hk hkn hks.1
    · rw [hset, Bool.or_eq_true] at hjs
      rw [hset, Bool.or_eq_true]
      refine .inl ?_
      rcases hjs with hjs | hjs
      · exact hi.shown j hj hjs b wr hb k hk hkn hkb
      · have := of_decide_eq_true hjs; subst this
        rw [hts] at hb; cases hb

theorem draw_any {Q : Exit → Act → World → Prop} (hT : TOk Γ.P T) (ht : Trace Γ.P T n0 all.toList all.toList 0 [] L H K Ls Es Hs v eff ts run) (hd : drawOK all.toList = true) (hall : ∀ o ∈ all.toList, operOK nt o = true)
    (hq : ∀ E' H' a' w' μ', K E' H' → Ok Γ nt E' H' a' w' μ' → Q .normal a' w') : ∀ (fuel : Nat) (listed : Array Bool) (a : Act) (w : World) (μ : List Plc), Inv Γ nt all L H Hs v eff ts listed a w μ → left all.size listed ≤ fuel →
      wpAny Γ.P .any all Q fuel listed a w := by
  have hdone : ∀ (listed : Array Bool) (a : Act) (w : World) (μ : List Plc), Inv Γ nt all L H Hs v eff ts listed a w μ → Region.ready .any all listed = [] → ∀ i, i < all.size → seen listed i = true := by
    intro listed a w μ hi hr i
    induction i using Nat.strongRecOn with
    | _ i ih =>
      intro hin
      cases hs : seen listed i with
      | true => rfl
      | false =>
        have hmem : i ∈ Region.ready .any all listed := by
          rw [mem_ready]
          have hsz : i < listed.size := by rw [hi.size]; exact hin
          refine ⟨by simpa [seen, hsz] using hs, all[i], by simp [hin], fun e he hb => ?_⟩
          simp only [drawOK, Bool.and_eq_true] at hd
          have hlt := upB_spec _ 0 hd.1 i all[i] e (by simp [hin]) (by simpa using he) (by rw [bindsB_eq]; exact hb)
          exact ih e.on (by omega) (by omega)
        rw [hr] at hmem; cases hmem
  intro fuel
  induction fuel with
  | zero =>
    intro listed a w μ hi hl
    have hall' := fun i (h : i < all.size) => left_zero (n := all.size) (Nat.le_zero.1 hl) h
    refine ⟨?_, draw_fin ht hq hi hall'⟩
    cases hr : Region.ready .any all listed with
    | nil => rfl
    | cons i r =>
      obtain ⟨h1, o, h2, _⟩ := mem_ready.1 (by rw [hr]; exact List.mem_cons_self : i ∈ Region.ready .any all listed)
      have hin : i < all.size := (Array.getElem?_eq_some_iff.1 h2).1
      have := hall' i hin
      have hsz := seen_lt this
      simp [seen, hsz] at this h1
      rw [this] at h1; cases h1
  | succ fuel ih =>
    intro listed a w μ hi hl
    refine ⟨fun hr => draw_fin ht hq hi (hdone listed a w μ hi hr), fun i hir => ?_⟩
    have hsi : seen listed i = false ∧ i < all.size := by
      obtain ⟨h1, o, h2, _⟩ := mem_ready.1 hir
      have hin : i < all.size := (Array.getElem?_eq_some_iff.1 h2).1
      have : i < listed.size := by rw [hi.size]; exact hin
      exact ⟨by simpa [seen, this] using h1, hin⟩
    refine draw_step hT ht hd hall hi hir fun a' w' μ' hi' => ih _ a' w' μ' hi' ?_
    have := left_set hi.size hsi.2 hsi.1
    omega

theorem xreg_draw {ops : Array Oper} {id : Nat} {Q : Exit → Act → World → Prop} {a : Act} {w : World} {μ : List Plc} (hF : Γ.P.follows .mixedOrders = true) (hT : TOk Γ.P T) (hd : drawOK ops.toList = true) (hall : ∀ o ∈ ops.toList, operOK nt o = true)
    (h : xg Γ.P true (DCall Γ.P) T n0 ops.toList ops.toList 0 [] E [] H K) (hok : Ok Γ nt E H a w μ) (hq : ∀ E' H' a' w' μ', K E' H' → Ok Γ nt E' H' a' w' μ' → Q .normal a' w') : (Code.region id ops true).wp Γ.P Q a w := by
  obtain ⟨Ls, Es, Hs, v, eff, ts, run, ht⟩ := xdraw_trace _ _ _ _ _ (look E) _ h ⟨fun _ => .inr rfl, fun p hp => by cases hp⟩
  refine wp_region_any hF ?_
  obtain ⟨hm1, hp1⟩ := hok.mem.grow (w' := { w with drawn := w.drawn + 1 }) (Nat.le_refl _) (fun _ _ => rfl) rfl rfl rfl
  obtain ⟨hm2, hp2⟩ := hm1.pads ((Hs ops.size).length - H.length)
  have hle : H.length ≤ (Hs ops.size).length := by have := len_mono ht (p := 0) (q := ops.size) (by omega) (by simp); rwa [ht.h0] at this
  have hno : ∀ j, seen (Array.replicate ops.size false) j = false := fun j => by
    by_cases hj : j < ops.size <;> simp [seen, hj]
  have h0 : ∀ {α : Type} (wr : Nat → Option α) (init : α) (n : Nat), lastW wr (seen (Array.replicate ops.size false)) init n = init := fun wr init n => by
    induction n with
    | zero => rfl
    | succ n ih => simp only [lastW, hno, ih]; simp
  refine draw_any hT ht hd hall hq _ _ a _ (μ ++ List.replicate ((Hs ops.size).length - H.length) .free) ⟨by simp, (fun i o e hs => by rw [hno] at hs; cases hs), ?_, fun t => ?_, hok.size, hok.defers, fun i hi hn _ => ?_, (fun j hj hs => by rw [hno] at hs; cases hs)⟩ ?_
  · have e : heapAt Hs eff H ops.size (seen (Array.replicate ops.size false)) = H ++ List.replicate ((Hs ops.size).length - H.length) .dead := by
      refine List.ext_getElem? fun b => ?_
      by_cases hb : b < (Hs ops.size).length
      · rw [heapAt_get hb, h0]
        by_cases hbH : b < H.length
        · rw [List.getElem?_append_left hbH]; simp [ini, hbH]
        · rw [List.getElem?_append_right (by omega), List.getElem?_replicate, if_pos (by omega)]
          simp [ini, List.getElem?_eq_none (by omega : H.length ≤ b)]
      · rw [List.getElem?_eq_none (by rw [heapAt_length]; omega), List.getElem?_eq_none (by simp; omega)]
    rw [e]; exact hm2
  · rw [h0]; exact (hp1.trans hp2).rep (hok.env t)
  · have h1 := len_mono ht (p := 0) (q := i) (by omega) (by simp; omega)
    rw [ht.h0] at h1
    have h2 := step_len ht (p := i) (by simpa using hi)
    rw [hn] at h2
    have h3 := len_mono ht (p := i + 1) (q := ops.size) (by omega) (by simp)
    simp only [if_true] at h2
    rw [List.getElem?_append_right (by rw [hok.mem.len]; exact h1), List.getElem?_replicate, if_pos (by rw [hok.mem.len]; omega)]
  · have : (List.filter (fun i => !seen (Array.replicate ops.size false) i) (List.range ops.size)).length ≤ ops.size := by
      have := List.length_filter_le (fun i => !seen (Array.replicate ops.size false) i) (List.range ops.size)
      simpa using this
    exact this

end Go.AW
