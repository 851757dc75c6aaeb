/- An abstract memory over the model: data, cells, objects, states, and what they say of a world. No program's text is named here. -/
import Derived.Below
import Derived.Tactics
import Derived.Orders
namespace Go.Aw
open Go.RowKit

/-- What is read: a number, a flag, a text, or a slice of elements (each a list of sz cells). -/
inductive D where
  | int (k : IntKind) (n : Int)
  | bool (b : Bool)
  | str (s : ByteArray)
  | sl (sz : Nat) (es : List (List D))

mutual
/-- In the blocks of S the value v reads as this. -/
def D.rd (S : Nat → Prop) (w : World) : D → Value → Prop
  | .int k n, v => v = .int k n
  | .bool b, v => v = .bool b
  | .str s, v => v = .string s
  | .sl sz es, v => ∃ A c, v = .slice A es.length c ∧ es.length ≤ c ∧ (es = [] ∨ ∃ b o, A = some ⟨b, o, none⟩ ∧ D.rdRows S w sz b o es)
def D.rdRows (S : Nat → Prop) (w : World) (sz b : Nat) : Nat → List (List D) → Prop
  | _, [] => True
  | o, e :: es => D.rdCells S w b o e ∧ e.length = sz ∧ D.rdRows S w sz b (o + sz) es
def D.rdCells (S : Nat → Prop) (w : World) (b : Nat) : Nat → List D → Prop
  | _, [] => True
  | o, d :: ds => (∃ v, S b ∧ w.cell? ⟨b, o, none⟩ = some v ∧ D.rd S w d v) ∧ D.rdCells S w b (o + 1) ds
end

/-- What is in S in w is in S' in w'. -/
def Ext (S S' : Nat → Prop) (w w' : World) : Prop := ∀ b, S b → S' b ∧ w'.heap[b]? = w.heap[b]?

theorem Ext.refl (S : Nat → Prop) (w : World) : Ext S S w w := fun _ h => ⟨h, rfl⟩
theorem Ext.cell {S S' : Nat → Prop} {w w' : World} (h : Ext S S' w w') {b o : Nat} (hb : S b) : w'.cell? ⟨b, o, none⟩ = w.cell? ⟨b, o, none⟩ := World.cell?_of_block (w := w) (h b hb).2

mutual
theorem D.rd_ext {S S' : Nat → Prop} {w w' : World} (h : Ext S S' w w') : ∀ (d : D) (v : Value), D.rd S w d v → D.rd S' w' d v
  | .int k n, v => by unfold D.rd; exact id
  | .bool b, v => by unfold D.rd; exact id
  | .str s, v => by unfold D.rd; exact id
  | .sl sz es, v => by
    unfold D.rd
    rintro ⟨A, c, h1, h2, h3⟩
    refine ⟨A, c, h1, h2, ?_⟩
    rcases h3 with h3 | ⟨b, o, h3, h4⟩
    · exact .inl h3
    · exact .inr ⟨b, o, h3, D.rdRows_ext h sz b o es h4⟩
theorem D.rdRows_ext {S S' : Nat → Prop} {w w' : World} (h : Ext S S' w w') (sz b : Nat) : ∀ (o : Nat) (es : List (List D)), D.rdRows S w sz b o es → D.rdRows S' w' sz b o es
  | _, [] => by unfold D.rdRows; exact id
  | o, e :: es => by
    unfold D.rdRows
    rintro ⟨h1, h2, h3⟩
    exact ⟨D.rdCells_ext h b o e h1, h2, D.rdRows_ext h sz b (o + sz) es h3⟩
theorem D.rdCells_ext {S S' : Nat → Prop} {w w' : World} (h : Ext S S' w w') (b : Nat) : ∀ (o : Nat) (ds : List D), D.rdCells S w b o ds → D.rdCells S' w' b o ds
  | _, [] => by unfold D.rdCells; exact id
  | o, d :: ds => by
    unfold D.rdCells
    rintro ⟨⟨v, h1, h2, h3⟩, h4⟩
    exact ⟨⟨v, (h b h1).1, by rw [h.cell h1]; exact h2, D.rd_ext h d v h3⟩, D.rdCells_ext h b (o + 1) ds h4⟩
end

/-- One cell: a number, flag, text; a slice that is read (lv: it may be kept; else it is borrowed); a read address; the nil slice, the nil pointer; into objects of the call's own: a slice, an element's cell, a cell; a function value. -/
inductive C where
  | i (k : IntKind) (n : Int)
  | b (x : Bool)
  | s (x : ByteArray)
  | sl (lv : Bool) (sz : Nat) (es : List (List D))
  | ra (lv : Bool) (cs : List D)
  | ns
  | np
  | os (o sz off len : Nat)
  | oe (o sz i j : Nat)
  | op (o j : Nat)
  | fn (f : FuncId) (caps : List (Nat × Nat))

def D.toC (lv : Bool) : D → C
  | .int k n => .i k n
  | .bool x => .b x
  | .str x => .s x
  | .sl sz es => .sl lv sz es

/-- Where an object lies: its block, the cell at which it begins there, its room (for a row: of elements); none: a nil row. -/
abbrev Map := Nat → Option (Nat × Nat × Nat)

def C.den (S T : Nat → Prop) (w : World) (ρ : Map) : C → Value → Prop
  | .i k n, v => v = .int k n
  | .b x, v => v = .bool x
  | .s x, v => v = .string x
  | .sl lv sz es, v => D.rd (if lv then S else T) w (.sl sz es) v
  | .ra lv cs, v => ∃ b o, v = .pointer (some ⟨b, o, none⟩) ∧ D.rdCells (if lv then S else T) w b o cs
  | .ns, v => v = .slice none 0 0
  | .np, v => v = .pointer none
  | .os o sz off len, v => (ρ o = none ∧ off = 0 ∧ len = 0 ∧ v = .slice none 0 0) ∨ ∃ b c, ρ o = some (b, c) ∧ off + len ≤ c.2 ∧ ((off < c.2 ∨ off = 0) ∧ v = .slice (some ⟨b, c.1 + off * sz, none⟩) len (c.2 - off) ∨ off = c.2 ∧ len = 0 ∧ ∃ a, v = .slice (some a) 0 0)
  | .oe o sz x j, v => ∃ b c, ρ o = some (b, c) ∧ v = .pointer (some ⟨b, c.1 + (x * sz + j), none⟩)
  | .op o j, v => ∃ b c, ρ o = some (b, c) ∧ v = .pointer (some ⟨b, c.1 + j, none⟩)
  | .fn f caps, v => ∃ vs : List Value, v = .func (.func f) #[] vs.toArray ∧ vs.length = caps.length ∧ ∀ (k : Nat) (p : Nat × Nat), caps[k]? = some p → ∃ b c, ρ p.1 = some (b, c) ∧ vs[k]? = some (.pointer (some ⟨b, c.1 + p.2, none⟩))

/-- Cells one by one. -/
def dens (S T : Nat → Prop) (w : World) (ρ : Map) : List C → List Value → Prop
  | [], [] => True
  | c :: cs, v :: vs => c.den S T w ρ v ∧ dens S T w ρ cs vs
  | _, _ => False

/-- A value: one cell, or a struct; a tuple of results. -/
inductive A1 where
  | c (x : C)
  | agg (cs : List C)
inductive AV where
  | one (a : A1)
  | tup (as : List A1)
  | undef

def A1.den (S T : Nat → Prop) (w : World) (ρ : Map) : A1 → Value → Prop
  | .c x, v => x.den S T w ρ v
  | .agg cs, v => ∃ vs : List Value, v = .agg vs.toArray ∧ dens S T w ρ cs vs
def dens1 (S T : Nat → Prop) (w : World) (ρ : Map) : List A1 → List Value → Prop
  | [], [] => True
  | c :: cs, v :: vs => c.den S T w ρ v ∧ dens1 S T w ρ cs vs
  | _, _ => False
def AV.den (S T : Nat → Prop) (w : World) (ρ : Map) : AV → Value → Prop
  | .one a, v => a.den S T w ρ v
  | .tup as, v => ∃ vs : List Value, v = .tuple vs.toArray ∧ dens1 S T w ρ as vs
  | .undef, _ => True

/-- An object of the call's own: so many cells; a row of elements of type e; or none any more. -/
inductive Ob where
  | cells (cs : List C)
  | row (e : TypeId) (sz : Nat) (es : List (List C))
  | dead

def Ob.alive : Ob → Prop
  | .dead => False
  | _ => True

/-- What an object says of the heap. Its contents are of what may be kept (S alone). -/
def Ob.real (S : Nat → Prop) (w : World) (ρ : Map) (o : Nat) : Ob → Prop
  | .cells cs => ∃ b c arr t, ρ o = some (b, c) ∧ c.1 = 0 ∧ w.heap[b]? = some (.cells arr t (0, 0)) ∧ dens S S w ρ cs arr.toList
  | .row e sz es => (ρ o = none ∧ es = []) ∨ ∃ b c arr pre vs rest, ρ o = some (b, c) ∧ w.heap[b]? = some (.cells arr e (0, 0)) ∧ arr.toList = pre ++ (vs ++ rest) ∧ pre.length = c.1 ∧ arr.size = c.1 + c.2 * sz ∧ es.length ≤ c.2 ∧ c.2 ≤ maxLen ∧ (∀ r ∈ es, r.length = sz) ∧ dens S S w ρ es.flatten vs
  | .dead => True

abbrev Heap := List Ob
def aliveAt (H : Heap) (o : Nat) : Prop := ∃ ob, H[o]? = some ob ∧ ob.alive
/-- The blocks of a heap's objects. -/
def blocks (ρ : Map) (H : Heap) (b : Nat) : Prop := ∃ o c, aliveAt H o ∧ ρ o = some (b, c)

structure Good (S T : Nat → Prop) (ρ : Map) (w : World) (H : Heap) : Prop where
  real : ∀ (o : Nat) (ob : Ob), H[o]? = some ob → ob.real S w ρ o
  apart : ∀ (o o' b : Nat) (c c' : Nat × Nat), aliveAt H o → aliveAt H o' → ρ o = some (b, c) → ρ o' = some (b, c') → o = o'
  out : ∀ b, blocks ρ H b → ¬ T b
  le : ∀ b, S b → T b
  lt : ∀ b, T b → b < w.heap.size

theorem Good.block_lt {S T : Nat → Prop} {ρ : Map} {w : World} {H : Heap} (g : Good S T ρ w H) {b : Nat} (h : blocks ρ H b) : b < w.heap.size := by
  obtain ⟨o, c, ⟨ob, h1, h2⟩, h3⟩ := h
  have := g.real o ob h1
  cases ob with
  | dead => exact h2.elim
  | cells cs =>
    obtain ⟨b', c', arr, t, h4, _, h5, _⟩ := this
    rw [h3] at h4; cases h4
    exact (Array.getElem?_eq_some_iff.1 h5).1
  | row e sz es =>
    rcases this with ⟨h4, _⟩ | ⟨b', c', arr, pre, vs, rest, h4, h5, _⟩
    · rw [h3] at h4; cases h4
    · rw [h3] at h4; cases h4
      exact (Array.getElem?_eq_some_iff.1 h5).1

/-! ### what stays -/
theorem ext_if {S S' T T' : Nat → Prop} {w w' : World} (hS : Ext S S' w w') (hT : Ext T T' w w') (lv : Bool) : Ext (if lv then S else T) (if lv then S' else T') w w' := by
  cases lv
  · exact hT
  · exact hS

/-- The objects that a cell names. -/
def C.names : C → List Nat
  | .os o _ _ _ | .oe o _ _ _ | .op o _ => [o]
  | .fn _ caps => caps.map (·.1)
  | _ => []

theorem C.den_ext {S S' T T' : Nat → Prop} {w w' : World} {ρ ρ' : Map} (hS : Ext S S' w w') (hT : Ext T T' w w') (c : C) (hρ : ∀ o ∈ c.names, ρ' o = ρ o) (v : Value) (h : c.den S T w ρ v) : c.den S' T' w' ρ' v := by
  cases c with
  | sl lv sz es => exact D.rd_ext (ext_if hS hT lv) (.sl sz es) v h
  | ra lv cs =>
    obtain ⟨b, o, h1, h2⟩ := h
    exact ⟨b, o, h1, D.rdCells_ext (ext_if hS hT lv) b o cs h2⟩
  | os o sz off len => simp only [C.den] at h ⊢; rw [hρ o (by simp [C.names])]; exact h
  | oe o sz i j => simp only [C.den] at h ⊢; rw [hρ o (by simp [C.names])]; exact h
  | op o j => simp only [C.den] at h ⊢; rw [hρ o (by simp [C.names])]; exact h
  | fn f caps =>
    obtain ⟨vs, h1, h2, h3⟩ := h
    refine ⟨vs, h1, h2, fun k p hp => ?_⟩
    obtain ⟨b, c, h4, h5⟩ := h3 k p hp
    exact ⟨b, c, by rw [hρ p.1 (by simp only [C.names, List.mem_map]; exact ⟨p, List.mem_of_getElem? hp, rfl⟩)]; exact h4, h5⟩
  | i k n => exact h
  | b x => exact h
  | s x => exact h
  | ns => exact h
  | np => exact h

theorem dens_ext {S S' T T' : Nat → Prop} {w w' : World} {ρ ρ' : Map} (hS : Ext S S' w w') (hT : Ext T T' w w') : ∀ (cs : List C) (vs : List Value), (∀ c ∈ cs, ∀ o ∈ c.names, ρ' o = ρ o) → dens S T w ρ cs vs → dens S' T' w' ρ' cs vs
  | [], [], _, _ => trivial
  | c :: cs, v :: vs, hρ, h => ⟨C.den_ext hS hT c (hρ c (by simp)) v h.1, dens_ext hS hT cs vs (fun c hc => hρ c (by simp [hc])) h.2⟩
  | [], _ :: _, _, h => h.elim
  | _ :: _, [], _, h => h.elim

def A1.names : A1 → List Nat
  | .c x => x.names
  | .agg cs => cs.flatMap C.names
def AV.names : AV → List Nat
  | .one a => a.names
  | .tup as => as.flatMap A1.names
  | .undef => []
def Ob.names : Ob → List Nat
  | .cells cs => cs.flatMap C.names
  | .row _ _ es => es.flatten.flatMap C.names
  | .dead => []

theorem A1.den_ext {S S' T T' : Nat → Prop} {w w' : World} {ρ ρ' : Map} (hS : Ext S S' w w') (hT : Ext T T' w w') (a : A1) (hρ : ∀ o ∈ a.names, ρ' o = ρ o) (v : Value) (h : a.den S T w ρ v) : a.den S' T' w' ρ' v := by
  cases a with
  | c x => exact C.den_ext hS hT x hρ v h
  | agg cs =>
    obtain ⟨vs, h1, h2⟩ := h
    exact ⟨vs, h1, dens_ext hS hT cs vs (fun c hc o ho => hρ o (by simp only [A1.names, List.mem_flatMap]; exact ⟨c, hc, ho⟩)) h2⟩
theorem dens1_ext {S S' T T' : Nat → Prop} {w w' : World} {ρ ρ' : Map} (hS : Ext S S' w w') (hT : Ext T T' w w') : ∀ (cs : List A1) (vs : List Value), (∀ c ∈ cs, ∀ o ∈ c.names, ρ' o = ρ o) → dens1 S T w ρ cs vs → dens1 S' T' w' ρ' cs vs
  | [], [], _, _ => trivial
  | c :: cs, v :: vs, hρ, h => ⟨A1.den_ext hS hT c (hρ c (by simp)) v h.1, dens1_ext hS hT cs vs (fun c hc => hρ c (by simp [hc])) h.2⟩
  | [], _ :: _, _, h => h.elim
  | _ :: _, [], _, h => h.elim
theorem AV.den_ext {S S' T T' : Nat → Prop} {w w' : World} {ρ ρ' : Map} (hS : Ext S S' w w') (hT : Ext T T' w w') (a : AV) (hρ : ∀ o ∈ a.names, ρ' o = ρ o) (v : Value) (h : a.den S T w ρ v) : a.den S' T' w' ρ' v := by
  cases a with
  | one a => exact A1.den_ext hS hT a hρ v h
  | tup as =>
    obtain ⟨vs, h1, h2⟩ := h
    exact ⟨vs, h1, dens1_ext hS hT as vs (fun c hc o ho => hρ o (by simp only [AV.names, List.mem_flatMap]; exact ⟨c, hc, ho⟩)) h2⟩
  | undef => trivial
theorem Ob.real_ext {S S' : Nat → Prop} {w w' : World} {ρ ρ' : Map} (hS : Ext S S' w w') (ob : Ob) (o : Nat) (hρ : ∀ o ∈ ob.names, ρ' o = ρ o) (ho : ρ' o = ρ o) (hb : ∀ b c, ρ o = some (b, c) → w'.heap[b]? = w.heap[b]?) (h : ob.real S w ρ o) : ob.real S' w' ρ' o := by
  cases ob with
  | cells cs =>
    obtain ⟨b, c, arr, t, h1, h0, h2, h3⟩ := h
    exact ⟨b, c, arr, t, by rw [ho]; exact h1, h0, by rw [hb b c h1]; exact h2, dens_ext hS hS cs _ (fun c hc o ho => hρ o (by simp only [Ob.names, List.mem_flatMap]; exact ⟨c, hc, ho⟩)) h3⟩
  | row e sz es =>
    rcases h with ⟨h1, h2⟩ | ⟨b, c, arr, pre, vs, rest, h1, h2, h3, h3', h4, h5, h5', h6, h7⟩
    · exact .inl ⟨by rw [ho]; exact h1, h2⟩
    · exact .inr ⟨b, c, arr, pre, vs, rest, by rw [ho]; exact h1, by rw [hb b c h1]; exact h2, h3, h3', h4, h5, h5', h6, dens_ext hS hS _ _ (fun c hc o ho => hρ o (by simp only [Ob.names, List.mem_flatMap]; exact ⟨c, hc, ho⟩)) h7⟩
  | dead => trivial
end Go.Aw
