/- AW, part 1: how abstract values and heaps stand to the model's memory; what is kept while memory grows. -/
import Derived.Test.YtalkhhfinogecaaA0
import Derived.Laws.AppendOwn
import Derived.Deep.MidRow
namespace Go.AW
open Go Go.RowKit

/-- A frozen cell stands for a value: all that it reaches lies in blocks of which I holds. -/
inductive RepF (w : World) (I : Nat → Prop) : F → Value → Prop where
  | sc (v : Value) (h : v.oneCell' = true) : RepF w I (.sc v) v
  | nil (n b : Nat) (a : Option Addr) (c : Nat) : RepF w I (.sl n b []) (.slice a 0 c)
  | sl (n b : Nat) (es : List (List F)) (k o c : Nat) (cv : Nat → Nat → Value) (hk : I k) (hcl : es.length ≤ c) (hb : es.length * b ≤ 140737488355328) (hn : ∀ (i : Nat) (e : List F), es[i]? = some e → e.length = n)
      (hc : ∀ (i : Nat) (e : List F) (j : Nat) (f : F), es[i]? = some e → e[j]? = some f → w.cell? ⟨k, o + i * n + j, none⟩ = some (cv i j))
      (hr : ∀ (i : Nat) (e : List F) (j : Nat) (f : F), es[i]? = some e → e[j]? = some f → RepF w I f (cv i j)) : RepF w I (.sl n b es) (.slice (some ⟨k, o, none⟩) es.length c)

theorem RepF.one {w : World} {I : Nat → Prop} {f : F} {v : Value} (h : RepF w I f v) : v.oneCell' = true := by
  cases h with
  | sc v h => exact h
  | nil => rfl
  | sl => rfl

/-- Where an abstract block lies. -/
inductive Plc where
  | at_ (k : Nat)
  | hdr (a : Option Nat) (m c : Nat)
  | none
  | free

def Plc.block : Plc → Option Nat
  | .at_ k => some k
  | .hdr a _ _ => a
  | .none => Option.none
  | .free => Option.none

def hdrV (a : Option Nat) (m c : Nat) : Value := .slice (a.map fun g => ⟨g, 0, Option.none⟩) m c

inductive RepV (w : World) (I : Nat → Prop) (μ : List Plc) : V → Value → Prop where
  | fr (f : F) (v : Value) (h : RepF w I f v) : RepV w I μ (.fr f) v
  | agg (xs : List V) (vs : Array Value) (hl : vs.size = xs.length) (h1 : ∀ i, i < vs.size → (vs.getD i undef).oneCell' = true)
      (h : ∀ (i : Nat) (x : V), xs[i]? = some x → RepV w I μ x (vs.getD i undef)) : RepV w I μ (.agg xs) (.agg vs)
  | ptr (b o k : Nat) (hl : μ[b]? = some (.at_ k)) : RepV w I μ (.ptr b o) (.pointer (some ⟨k, o, none⟩))
  | fptr (es : List F) (o k o0 : Nat) (cv : Nat → Value) (hk : I k) (hc : ∀ (j : Nat) (f : F), es[j]? = some f → w.cell? ⟨k, o0 + j, none⟩ = some (cv j))
      (hr : ∀ (j : Nat) (f : F), es[j]? = some f → RepF w I f (cv j)) : RepV w I μ (.fptr es o) (.pointer (some ⟨k, o0 + o, none⟩))
  | buf (b m c : Nat) (a : Option Nat) (hl : μ[b]? = some (.hdr a m c)) : RepV w I μ (.buf b) (hdrV a m c)
  | bdead (b : Nat) (v : Value) (hl : μ[b]? = some .none) (h1 : v.oneCell' = true) : RepV w I μ (.buf b) v
  | clo (f : Nat) (xs : List V) (vs : Array Value) (hl : vs.size = xs.length) (h : ∀ (i : Nat) (x : V), xs[i]? = some x → RepV w I μ x (vs.getD i undef)) :
      RepV w I μ (.clo f xs) (.func (.func f) #[] vs)
  | ifc (t : Nat) (x : V) (v : Value) (h : RepV w I μ x v) : RepV w I μ (.ifc t x) (.iface t v)
  | tup (xs : List V) (vs : Array Value) (hl : vs.size = xs.length) (h : ∀ (i : Nat) (x : V), xs[i]? = some x → RepV w I μ x (vs.getD i undef)) : RepV w I μ (.tup xs) (.tuple vs)
  | bad (v : Value) : RepV w I μ .bad v

theorem RepF.mono {w w' : World} {I I' : Nat → Prop} {f : F} {v : Value} (h : RepF w I f v) (hI : ∀ k, I k → I' k) (hw : ∀ k, I k → w'.heap[k]? = w.heap[k]?) : RepF w' I' f v := by
  induction h with
  | sc v h => exact .sc v h
  | nil n b a c => exact .nil n b a c
  | sl n b es k o c cv hk hcl hb hn hc hr ih =>
    exact .sl n b es k o c cv (hI _ hk) hcl hb hn (fun i e j f he hj => by rw [World.cell?_of_block (w := w) (a := ⟨k, _, Option.none⟩) (hw k hk)]; exact hc i e j f he hj) ih

/-- A place stays, or is a buffer's that is let go; a free one may be taken. -/
def LocLe (μ μ' : List Plc) : Prop := ∀ (i : Nat) (l : Plc), μ[i]? = some l → μ'[i]? = some l ∨ ((∃ a m c, l = .hdr a m c) ∧ μ'[i]? = some .none) ∨ l = .free

theorem LocLe.refl (μ : List Plc) : LocLe μ μ := fun _ _ h => .inl h
theorem LocLe.at_ {μ μ' : List Plc} (h : LocLe μ μ') {i k : Nat} (hi : μ[i]? = some (.at_ k)) : μ'[i]? = some (.at_ k) := by
  rcases h i _ hi with h | ⟨⟨a, m, c, e⟩, _⟩ | e
  · exact h
  · cases e
  · cases e
theorem LocLe.none {μ μ' : List Plc} (h : LocLe μ μ') {i : Nat} (hi : μ[i]? = some .none) : μ'[i]? = some .none := by
  rcases h i _ hi with h | ⟨_, h⟩ | e
  · exact h
  · exact h
  · cases e
theorem LocLe.trans {a b c : List Plc} (h : LocLe a b) (k : LocLe b c) : LocLe a c := fun i l hi => by
  rcases h i l hi with h1 | ⟨h1, h2⟩ | h1
  · exact k i l h1
  · exact .inr (.inl ⟨h1, k.none h2⟩)
  · exact .inr (.inr h1)

theorem RepV.mono {w w' : World} {I I' : Nat → Prop} {μ μ' : List Plc} {x : V} {v : Value} (h : RepV w I μ x v) (hI : ∀ k, I k → I' k) (hw : ∀ k, I k → w'.heap[k]? = w.heap[k]?)
    (hμ : LocLe μ μ') : RepV w' I' μ' x v := by
  induction h with
  | fr f v h => exact .fr f v (h.mono hI hw)
  | agg xs vs hl h1 h ih => exact .agg xs vs hl h1 ih
  | ptr b o k hl => exact .ptr b o k (hμ.at_ hl)
  | fptr es o k o0 cv hk hc hr => exact .fptr es o k o0 cv (hI _ hk) (fun j f hj => by rw [World.cell?_of_block (w := w) (a := ⟨k, _, Option.none⟩) (hw k hk)]; exact hc j f hj) (fun j f hj => (hr j f hj).mono hI hw)
  | buf b m c a hl =>
    rcases hμ _ _ hl with h | ⟨_, h⟩ | e
    · exact .buf b m c a h
    · exact .bdead b _ h rfl
    · cases e
  | bdead b v hl h1 => exact .bdead b v (hμ.none hl) h1
  | clo f xs vs hl h ih => exact .clo f xs vs hl ih
  | ifc t x v h ih => exact .ifc t x v ih
  | tup xs vs hl h ih => exact .tup xs vs hl ih
  | bad v => exact .bad v

def owned (μ : List Plc) (k : Nat) : Prop := ∃ (i : Nat) (l : Plc), μ[i]? = some l ∧ l.block = some k

structure Ctx where
  P : Program
  w0 : World
  I0 : Nat → Prop
  μ0 : List Plc

def Imm (Γ : Ctx) (w : World) (μ : List Plc) (k : Nat) : Prop := (Γ.I0 k ∨ Γ.w0.heap.size ≤ k) ∧ k < w.heap.size ∧ ¬ owned μ k

abbrev Rep (Γ : Ctx) (w : World) (μ : List Plc) : V → Value → Prop := RepV w (Imm Γ w μ) μ
abbrev RepFr (Γ : Ctx) (w : World) (μ : List Plc) : F → Value → Prop := RepF w (Imm Γ w μ)

def BlkOk (Γ : Ctx) (w : World) (μ : List Plc) : Blk → Plc → Prop
  | .cells xs, .at_ k => ∃ c e, w.heap[k]? = some (.cells c e (0, 0)) ∧ c.size = xs.length ∧ (∀ v ∈ c.toList, v.oneCell' = true) ∧ ∀ (i : Nat) (x : V), xs[i]? = some x → Rep Γ w μ x (c.getD i undef)
  | .buf e n by_ es, .hdr a m c => m = es.length ∧ es.length * by_ ≤ 140737488355328 ∧ (∀ r ∈ es, r.length = n) ∧ ∃ vs : List Value, w.ownsRow Γ.w0.heap.size e n (hdrV a m c) m vs ∧
      ∀ (i : Nat) (f : F), es.flatten[i]? = some f → RepFr Γ w μ f (vs.getD i undef)
  | .dead, _ => True
  | _, _ => False

/-- What is as it was when the call began. -/
structure Ext (Γ : Ctx) (w : World) : Prop where
  os : w.os = Γ.w0.os
  tape : w.tape = Γ.w0.tape
  output : w.output = Γ.w0.output
  size : Γ.w0.heap.size ≤ w.heap.size
  block : ∀ k, k < Γ.w0.heap.size → ¬ owned Γ.μ0 k → w.heap[k]? = Γ.w0.heap[k]?

structure Mem (Γ : Ctx) (H : Heap) (w : World) (μ : List Plc) : Prop where
  len : μ.length = H.length
  below : ∀ k, owned μ k → k < w.heap.size
  own0 : ∀ k, owned μ k → owned Γ.μ0 k ∨ Γ.w0.heap.size ≤ k
  inj : ∀ (i j : Nat) (l l' : Plc) (k : Nat), μ[i]? = some l → μ[j]? = some l' → l.block = some k → l'.block = some k → i = j
  blk : ∀ (i : Nat) (b : Blk) (l : Plc), H[i]? = some b → μ[i]? = some l → BlkOk Γ w μ b l
  ext : Ext Γ w
  i0 : ∀ k, Γ.I0 k → k < Γ.w0.heap.size ∧ ¬ owned Γ.μ0 k

/-- What stands for something goes on to. -/
structure Pres (Γ : Ctx) (w : World) (μ : List Plc) (w' : World) (μ' : List Plc) : Prop where
  imm : ∀ k, Imm Γ w μ k → Imm Γ w' μ' k
  same : ∀ k, Imm Γ w μ k → w'.heap[k]? = w.heap[k]?
  loc : LocLe μ μ'

theorem Pres.refl (Γ : Ctx) (w : World) (μ : List Plc) : Pres Γ w μ w μ := ⟨fun _ h => h, fun _ _ => rfl, .refl _⟩
theorem Pres.trans {Γ : Ctx} {w w' w'' : World} {μ μ' μ'' : List Plc} (h : Pres Γ w μ w' μ') (k : Pres Γ w' μ' w'' μ'') : Pres Γ w μ w'' μ'' :=
  ⟨fun i hi => k.imm i (h.imm i hi), fun i hi => (k.same i (h.imm i hi)).trans (h.same i hi), h.loc.trans k.loc⟩
theorem Pres.rep {Γ : Ctx} {w w' : World} {μ μ' : List Plc} (h : Pres Γ w μ w' μ') {x : V} {v : Value} (r : Rep Γ w μ x v) : Rep Γ w' μ' x v := RepV.mono r h.imm h.same h.loc
theorem Pres.repF {Γ : Ctx} {w w' : World} {μ μ' : List Plc} (h : Pres Γ w μ w' μ') {x : F} {v : Value} (r : RepFr Γ w μ x v) : RepFr Γ w' μ' x v := RepF.mono r h.imm h.same

/-- A block that is not touched stays as it should be. -/
theorem BlkOk.pres {Γ : Ctx} {w w' : World} {μ μ' : List Plc} (h : Pres Γ w μ w' μ') {b : Blk} {l : Plc} (hb : BlkOk Γ w μ b l) (hs : ∀ k, l.block = some k → w'.heap[k]? = w.heap[k]?) : BlkOk Γ w' μ' b l := by
  cases b with
  | cells xs =>
    cases l with
    | at_ k =>
      obtain ⟨c, e, h1, h2, h3, h4⟩ := hb
      exact ⟨c, e, by rw [hs k rfl]; exact h1, h2, h3, fun i x hx => h.rep (h4 i x hx)⟩
    | hdr => exact hb.elim
    | none => exact hb.elim
    | free => exact hb.elim
  | buf e n by_ es =>
    cases l with
    | at_ k => exact hb.elim
    | hdr a m c =>
      obtain ⟨h1, h0, h2, vs, h3, h4⟩ := hb
      refine ⟨h1, h0, h2, vs, ?_, fun i f hf => h.repF (h4 i f hf)⟩
      obtain ⟨hl, h5⟩ := h3
      refine ⟨hl, h5.imp id ?_⟩
      rintro ⟨g, cap, cur, hv, hg, hh, r⟩
      refine ⟨g, cap, cur, hv, hg, ?_, r⟩
      cases a with
      | none => simp [hdrV] at hv
      | some a => simp only [hdrV, Option.map_some, Value.slice.injEq, Option.some.injEq, Addr.mk.injEq] at hv; obtain ⟨⟨rfl, _⟩, _⟩ := hv; rw [hs a rfl]; exact hh
    | none => exact hb.elim
    | free => exact hb.elim
  | dead => trivial

end Go.AW
