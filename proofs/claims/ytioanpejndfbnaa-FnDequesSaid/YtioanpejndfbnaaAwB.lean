/- An abstract memory over the model: what a new object, a store, a killed object leave of 'Good'; states over a call's frame. -/
import Derived.Test.YtioanpejndfbnaaAwA
namespace Go.Aw
open Go.RowKit

def upd (ρ : Map) (p : Nat) (x : Option (Nat × Nat × Nat)) : Map := fun o => if o = p then x else ρ o
theorem upd_self (ρ : Map) (p : Nat) (x : Option (Nat × Nat × Nat)) : upd ρ p x p = x := by simp [upd]
theorem upd_ne {ρ : Map} {p o : Nat} {x : Option (Nat × Nat × Nat)} (h : o ≠ p) : upd ρ p x o = ρ o := by simp [upd, h]

theorem get_set {H : Heap} {p o : Nat} {ob : Ob} (hp : p < H.length) : (H.set p ob)[o]? = if o = p then some ob else H[o]? := by
  rw [List.getElem?_set]
  by_cases e : p = o
  · subst e; simp [hp]
  · rw [if_neg e, if_neg (fun h => e h.symm)]

theorem alive_set {H : Heap} {p o : Nat} {ob : Ob} (hp : p < H.length) (h : aliveAt (H.set p ob) o) : (o = p ∧ ob.alive) ∨ (o ≠ p ∧ aliveAt H o) := by
  obtain ⟨x, h1, h2⟩ := h
  rw [get_set hp] at h1
  by_cases e : o = p
  · rw [if_pos e] at h1; cases h1; exact .inl ⟨e, h2⟩
  · rw [if_neg e] at h1; exact .inr ⟨e, x, h1, h2⟩

/-- No object of H names p. -/
def noName (H : Heap) (p : Nat) : Prop := ∀ (o : Nat) (ob : Ob), H[o]? = some ob → p ∉ ob.names

/-- The object at a free place p becomes ob: its block is b, new or one that nothing else has; what the other objects have stays. -/
theorem Good.place {S T : Nat → Prop} {ρ : Map} {w w' : World} {H : Heap} (g : Good S T ρ w H) {p : Nat} {ob : Ob} {x : Option (Nat × Nat × Nat)} (hp : p < H.length)
    (hn : noName H p) (hreal : ob.real S w' (upd ρ p x) p)
    (hkeep : ∀ k, (T k ∨ blocks ρ H k) → w'.heap[k]? = w.heap[k]?) (hsize : w.heap.size ≤ w'.heap.size)
    (hfresh : ∀ b c, x = some (b, c) → ¬ T b ∧ ¬ blocks ρ H b) : Good S T (upd ρ p x) w' (H.set p ob) := by
  have hS : Ext S S w w' := fun b hb => ⟨hb, hkeep b (.inl (g.le b hb))⟩
  refine ⟨?_, ?_, ?_, g.le, fun b hb => Nat.lt_of_lt_of_le (g.lt b hb) hsize⟩
  · intro o ob' ho
    rw [get_set hp] at ho
    by_cases e : o = p
    · rw [if_pos e] at ho; cases ho; rw [e]; exact hreal
    · rw [if_neg e] at ho
      by_cases hal : ob'.alive
      · refine Ob.real_ext hS ob' o (fun n hnn => upd_ne (fun he => hn o ob' ho (he ▸ hnn))) (upd_ne e) (fun b c hbc => hkeep b (.inr ⟨o, c, ⟨ob', ho, hal⟩, hbc⟩)) (g.real o ob' ho)
      · cases ob' with
        | dead => trivial
        | cells cs => exact absurd trivial hal
        | row e sz es => exact absurd trivial hal
  · intro o o' b c c' h1 h2 h3 h4
    rcases alive_set hp h1 with ⟨e1, _⟩ | ⟨e1, a1⟩ <;> rcases alive_set hp h2 with ⟨e2, _⟩ | ⟨e2, a2⟩
    · rw [e1, e2]
    · rw [e1, upd_self] at h3
      rw [upd_ne e2] at h4
      exact absurd ⟨o', c', a2, h4⟩ (hfresh b c h3).2
    · rw [e2, upd_self] at h4
      rw [upd_ne e1] at h3
      exact absurd ⟨o, c, a1, h3⟩ (hfresh b c' h4).2
    · rw [upd_ne e1] at h3
      rw [upd_ne e2] at h4
      exact g.apart o o' b c c' a1 a2 h3 h4
  · rintro b ⟨o, c, h1, h2⟩
    rcases alive_set hp h1 with ⟨e1, _⟩ | ⟨e1, a1⟩
    · rw [e1, upd_self] at h2; exact (hfresh b c h2).1
    · rw [upd_ne e1] at h2; exact g.out b ⟨o, c, a1, h2⟩

/-- An object's content is written: its block alone turns. -/
theorem Good.write {S T : Nat → Prop} {ρ : Map} {w w' : World} {H : Heap} (g : Good S T ρ w H) {p : Nat} {ob ob' : Ob} (ho : H[p]? = some ob) (hal : ob.alive)
    {b : Nat} {c : Nat × Nat} (hb : ρ p = some (b, c)) (hkeep : ∀ k, k ≠ b → w'.heap[k]? = w.heap[k]?) (hsize : w'.heap.size = w.heap.size) (hreal : ob'.real S w' ρ p) : Good S T ρ w' (H.set p ob') := by
  have hp : p < H.length := (List.getElem?_eq_some_iff.1 ho).1
  have hbb : blocks ρ H b := ⟨p, c, ⟨ob, ho, hal⟩, hb⟩
  have hTb : ∀ k, T k → k ≠ b := fun k hk e => g.out b hbb (e ▸ hk)
  have hS : Ext S S w w' := fun k hk => ⟨hk, hkeep k (hTb k (g.le k hk))⟩
  refine ⟨?_, ?_, ?_, g.le, fun b hb => by rw [hsize]; exact g.lt b hb⟩
  · intro o x hx
    rw [get_set hp] at hx
    by_cases e : o = p
    · rw [if_pos e] at hx; cases hx; rw [e]; exact hreal
    · rw [if_neg e] at hx
      by_cases halx : x.alive
      · refine Ob.real_ext hS x o (fun _ _ => rfl) rfl (fun b2 c2 hbc => hkeep b2 ?_) (g.real o x hx)
        rintro rfl
        exact e (g.apart o p b2 c2 c ⟨x, hx, halx⟩ ⟨ob, ho, hal⟩ hbc hb)
      · cases x with
        | dead => trivial
        | cells cs => exact absurd trivial halx
        | row e sz es => exact absurd trivial halx
  · intro o o' b1 c1 c2 h1 h2 h3 h4
    have al : ∀ {q}, aliveAt (H.set p ob') q → aliveAt H q := fun {q} hq => by
      rcases alive_set hp hq with ⟨e1, _⟩ | ⟨_, a1⟩
      · rw [e1]; exact ⟨ob, ho, hal⟩
      · exact a1
    exact g.apart o o' b1 c1 c2 (al h1) (al h2) h3 h4
  · rintro b1 ⟨o, c1, h1, h2⟩
    rcases alive_set hp h1 with ⟨e1, _⟩ | ⟨_, a1⟩
    · rw [e1] at h2; exact g.out b1 ⟨p, c1, ⟨ob, ho, hal⟩, h2⟩
    · exact g.out b1 ⟨o, c1, a1, h2⟩

theorem Good.kill {S T : Nat → Prop} {ρ : Map} {w : World} {H : Heap} (g : Good S T ρ w H) (p : Nat) : Good S T ρ w (H.set p .dead) := by
  by_cases hp : p < H.length
  · have al : ∀ {q}, aliveAt (H.set p .dead) q → aliveAt H q := fun {q} hq => by
      rcases alive_set hp hq with ⟨_, h⟩ | ⟨_, a1⟩
      · exact h.elim
      · exact a1
    refine ⟨?_, fun o o' b c c' h1 h2 h3 h4 => g.apart o o' b c c' (al h1) (al h2) h3 h4, fun b ⟨o, c, h1, h2⟩ => g.out b ⟨o, c, al h1, h2⟩, g.le, g.lt⟩
    intro o ob ho
    rw [get_set hp] at ho
    by_cases e : o = p
    · rw [if_pos e] at ho; cases ho; trivial
    · rw [if_neg e] at ho; exact g.real o ob ho
  · rw [List.set_eq_of_length_le (by omega)]; exact g

/-- More places at the end, all free. -/
theorem Good.more {S T : Nat → Prop} {ρ : Map} {w : World} {H : Heap} (g : Good S T ρ w H) (n : Nat) : Good S T ρ w (H ++ List.replicate n .dead) := by
  have key : ∀ {o : Nat} {ob : Ob}, (H ++ List.replicate n .dead)[o]? = some ob → H[o]? = some ob ∨ ob = .dead := by
    intro o ob h
    rw [List.getElem?_append] at h
    split at h
    · exact .inl h
    · right
      exact (List.eq_of_mem_replicate (List.mem_of_getElem? h))
  have al : ∀ {q}, aliveAt (H ++ List.replicate n .dead) q → aliveAt H q := by
    rintro q ⟨ob, h1, h2⟩
    rcases key h1 with h | h
    · exact ⟨ob, h, h2⟩
    · rw [h] at h2; exact h2.elim
  refine ⟨?_, fun o o' b c c' h1 h2 h3 h4 => g.apart o o' b c c' (al h1) (al h2) h3 h4, fun b ⟨o, c, h1, h2⟩ => g.out b ⟨o, c, al h1, h2⟩, g.le, g.lt⟩
  intro o ob h
  rcases key h with h | h
  · exact g.real o ob h
  · rw [h]; trivial

/-! ### states -/
structure St where
  tm : List (Nat × AV)
  hp : Heap

def look : List (Nat × AV) → Nat → Option AV
  | [], _ => none
  | (k, v) :: r, t => if t = k then some v else look r t

/-- What a call's frame fixes: the program, the world at its begin, the blocks that it may write, what may be kept, where its objects lie, how many places it has. -/
structure Ctx where
  P : Program
  w0 : World
  X : Nat → Prop
  S0 : Nat → Prop
  T0 : Nat → Prop
  ρ0 : Map
  n0 : Nat
  N : Nat

/-- Nothing that was there turns but the blocks of X. -/
structure Fr (w0 : World) (X : Nat → Prop) (w : World) : Prop where
  os : w.os = w0.os
  tape : w.tape = w0.tape
  output : w.output = w0.output
  size : w0.heap.size ≤ w.heap.size
  keep : ∀ k, k < w0.heap.size → ¬ X k → w.heap[k]? = w0.heap[k]?

theorem Fr.refl (w : World) (X : Nat → Prop) : Fr w X w := ⟨rfl, rfl, rfl, Nat.le_refl _, fun _ _ _ => rfl⟩
theorem Fr.trans {w0 w w' : World} {X : Nat → Prop} (h : Fr w0 X w) (h' : Fr w (fun k => X k ∨ w0.heap.size ≤ k) w') : Fr w0 X w' :=
  ⟨h'.os.trans h.os, h'.tape.trans h.tape, h'.output.trans h.output, Nat.le_trans h.size h'.size, fun k hk hx =>
    (h'.keep k (Nat.lt_of_lt_of_le hk h.size) (fun e => e.elim hx (fun e => by omega))).trans (h.keep k hk hx)⟩

structure Match (K : Ctx) (S T : Nat → Prop) (ρ : Map) (R : Nat → Prop) (st : St) (a : Act) (w : World) : Prop where
  good : Good S T ρ w st.hp
  tm : ∀ t av, look st.tm t = some av → av.den S T w ρ (a.tmps.getD t undef)
  tmN : ∀ t av, look st.tm t = some av → ∀ n ∈ av.names, ¬ R n
  obN : ∀ (o : Nat) (ob : Ob), st.hp[o]? = some ob → ∀ n ∈ ob.names, ¬ R n
  rfree : ∀ n, R n → ¬ aliveAt st.hp n
  sz : a.tmps.size = K.N
  df : a.defers = []
  fr : Fr K.w0 K.X w
  own : ∀ b, blocks ρ st.hp b → K.X b ∨ K.w0.heap.size ≤ b
  old : ∀ b, S b → K.S0 b ∨ K.X b ∨ K.w0.heap.size ≤ b
  keepS : ∀ b, K.S0 b → S b
  same : ∀ o, o < K.n0 → ρ o = K.ρ0 o
  rn : ∀ n, R n → K.n0 ≤ n
  oldT : ∀ b, T b → K.T0 b ∨ S b
  keepT : ∀ b, K.T0 b → T b
end Go.Aw
