/- An abstract memory over the model: what new objects, stores and killed objects leave of a state. -/
import Derived.Test.YtioanpejndfbnaaAwC
namespace Go.Aw
open Go.RowKit

section
variable {K : Ctx} {S T R : Nat → Prop} {ρ : Map} {st : St} {a : Act} {w w' : World}

theorem Match.nn (m : Match K S T ρ R st a w) {p : Nat} (hp : R p) : noName st.hp p := fun o ob ho hn => m.obN o ob ho p hn hp

/-- The object at a reserved place becomes ob. -/
theorem Match.place (m : Match K S T ρ R st a w) {p : Nat} {ob : Ob} {x : Option (Nat × Nat × Nat)} (hR : R p) (hp : p < st.hp.length)
    (hreal : ob.real S w' (upd ρ p x) p) (hkeep : ∀ k, (T k ∨ blocks ρ st.hp k) → w'.heap[k]? = w.heap[k]?) (hfr : Fr K.w0 K.X w') (hsize : w.heap.size ≤ w'.heap.size)
    (hfresh : ∀ b c, x = some (b, c) → ¬ T b ∧ ¬ blocks ρ st.hp b ∧ (K.X b ∨ K.w0.heap.size ≤ b)) (hN : ∀ n ∈ ob.names, ¬ R n) :
    Match K S T (upd ρ p x) (fun n => R n ∧ n ≠ p) ⟨st.tm, st.hp.set p ob⟩ a w' := by
  have hT : Ext T T w w' := fun b hb => ⟨hb, hkeep b (.inl hb)⟩
  have hS : Ext S S w w' := fun b hb => ⟨hb, hkeep b (.inl (m.good.le b hb))⟩
  refine ⟨m.good.place hp (m.nn hR) hreal hkeep hsize (fun b c h => ⟨(hfresh b c h).1, (hfresh b c h).2.1⟩), ?_, ?_, ?_, ?_, m.sz, m.df, hfr, ?_, m.old, m.keepS, ?_, fun n hn => m.rn n hn.1, m.oldT, m.keepT⟩
  · intro t av h
    exact AV.den_ext hS hT av (fun o ho => upd_ne (fun e => m.tmN t av h o ho (by rw [e]; exact hR))) _ (m.tm t av h)
  · intro t av h n hn hr
    exact m.tmN t av h n hn hr.1
  · intro o ob' ho n hn hr
    rw [get_set hp] at ho
    by_cases e : o = p
    · rw [if_pos e] at ho; cases ho; exact hN n hn hr.1
    · rw [if_neg e] at ho; exact m.obN o ob' ho n hn hr.1
  · intro n hn hal
    rcases alive_set hp hal with ⟨e, _⟩ | ⟨_, h⟩
    · exact hn.2 e
    · exact m.rfree n hn.1 h
  · rintro b ⟨o, c, h1, h2⟩
    rcases alive_set hp h1 with ⟨e, _⟩ | ⟨e, h⟩
    · rw [e, upd_self] at h2; exact (hfresh b c h2).2.2
    · rw [upd_ne e] at h2; exact m.own b ⟨o, c, h, h2⟩
  · intro o ho
    have hne : o ≠ p := fun e => by have := m.rn p hR; rw [← e] at this; have : K.n0 ≤ o := this; have : o < K.n0 := ho; omega
    rw [upd_ne hne]; exact m.same o ho

theorem Fr.alloc {w0 w : World} {X : Nat → Prop} (h : Fr w0 X w) (o : Obj) : Fr w0 X (w.alloc o) :=
  ⟨h.os, h.tape, h.output, by have := h.size; simp; omega, fun k hk hx => (Below.heap_alloc w o k (Nat.lt_of_lt_of_le hk h.size)).trans (h.keep k hk hx)⟩
theorem Fr.drew {w0 w : World} {X : Nat → Prop} (h : Fr w0 X w) : Fr w0 X w.drew := ⟨h.os, h.tape, h.output, h.size, h.keep⟩

/-- A new block. -/
theorem Match.alloc (m : Match K S T ρ R st a w) {p : Nat} {ob : Ob} (hR : R p) (hp : p < st.hp.length) (arr : Array Value) (t : TypeId) (n : Nat)
    (hreal : ob.real S (w.alloc (.cells arr t)) (upd ρ p (some (w.heap.size, 0, n))) p) (hN : ∀ n ∈ ob.names, ¬ R n) :
    Match K S T (upd ρ p (some (w.heap.size, 0, n))) (fun n => R n ∧ n ≠ p) ⟨st.tm, st.hp.set p ob⟩ a (w.alloc (.cells arr t)) := by
  refine m.place hR hp hreal (fun k hk => Below.heap_alloc w _ k ?_) (m.fr.alloc _) (by simp) (fun b c h => ?_) hN
  · rcases hk with hk | hk
    · exact m.good.lt k hk
    · exact m.good.block_lt hk
  · cases h
    exact ⟨fun h => Nat.lt_irrefl _ (m.good.lt _ h), fun h => Nat.lt_irrefl _ (m.good.block_lt h), .inr m.fr.size⟩

/-- An object's block is written. -/
theorem Match.write (m : Match K S T ρ R st a w) {p : Nat} {ob ob' : Ob} (ho : st.hp[p]? = some ob) (hal : ob.alive) {b : Nat} {c : Nat × Nat} (hb : ρ p = some (b, c))
    (hkeep : ∀ k, k ≠ b → w'.heap[k]? = w.heap[k]?) (hsize : w'.heap.size = w.heap.size) (hos : w'.os = w.os) (htape : w'.tape = w.tape) (hout : w'.output = w.output)
    (hreal : ob'.real S w' ρ p) (hN : ∀ n ∈ ob'.names, ¬ R n) : Match K S T ρ R ⟨st.tm, st.hp.set p ob'⟩ a w' := by
  have hp : p < st.hp.length := (List.getElem?_eq_some_iff.1 ho).1
  have hbb : blocks ρ st.hp b := ⟨p, c, ⟨ob, ho, hal⟩, hb⟩
  have hTb : ∀ k, T k → k ≠ b := fun k hk e => m.good.out b hbb (e ▸ hk)
  have hT : Ext T T w w' := fun k hk => ⟨hk, hkeep k (hTb k hk)⟩
  have hS : Ext S S w w' := fun k hk => ⟨hk, hkeep k (hTb k (m.good.le k hk))⟩
  have al : ∀ {q}, aliveAt (st.hp.set p ob') q → aliveAt st.hp q := fun {q} hq => by
    rcases alive_set hp hq with ⟨e1, _⟩ | ⟨_, a1⟩
    · rw [e1]; exact ⟨ob, ho, hal⟩
    · exact a1
  refine ⟨m.good.write ho hal hb hkeep hsize hreal, ?_, m.tmN, ?_, fun n hn h => m.rfree n hn (al h), m.sz, m.df, ?_, fun b ⟨o, c, h1, h2⟩ => m.own b ⟨o, c, al h1, h2⟩, m.old, m.keepS, m.same, m.rn, m.oldT, m.keepT⟩
  · intro t av h
    exact AV.den_ext hS hT av (fun _ _ => rfl) _ (m.tm t av h)
  · intro o x hx n hn
    rw [get_set hp] at hx
    by_cases e : o = p
    · rw [if_pos e] at hx; cases hx; exact hN n hn
    · rw [if_neg e] at hx; exact m.obN o x hx n hn
  · refine ⟨hos.trans m.fr.os, htape.trans m.fr.tape, hout.trans m.fr.output, by rw [hsize]; exact m.fr.size, fun k hk hx => ?_⟩
    rw [hkeep k ?_]
    · exact m.fr.keep k hk hx
    · rintro rfl
      rcases m.own k hbb with h | h
      · exact hx h
      · omega

theorem Match.kill (m : Match K S T ρ R st a w) (p : Nat) : Match K S T ρ R ⟨st.tm, st.hp.set p .dead⟩ a w := by
  by_cases hp : p < st.hp.length
  · have al : ∀ {q}, aliveAt (st.hp.set p .dead) q → aliveAt st.hp q := fun {q} hq => by
      rcases alive_set hp hq with ⟨_, h⟩ | ⟨_, a1⟩
      · exact h.elim
      · exact a1
    refine ⟨m.good.kill p, m.tm, m.tmN, ?_, fun n hn h => m.rfree n hn (al h), m.sz, m.df, m.fr, fun b ⟨o, c, h1, h2⟩ => m.own b ⟨o, c, al h1, h2⟩, m.old, m.keepS, m.same, m.rn, m.oldT, m.keepT⟩
    intro o x hx n hn
    rw [get_set hp] at hx
    by_cases e : o = p
    · rw [if_pos e] at hx; cases hx; simp [Ob.names] at hn
    · rw [if_neg e] at hx; exact m.obN o x hx n hn
  · rw [List.set_eq_of_length_le (by omega)]; exact m

/-- A place's value is laid. -/
theorem Match.put (m : Match K S T ρ R st a w) {t : Nat} (ht : t < K.N) {av : AV} {v : Value} (hd : av.den S T w ρ v) (hN : ∀ n ∈ av.names, ¬ R n) :
    Match K S T ρ R ⟨(t, av) :: st.tm, st.hp⟩ (a.put (some t) v) w := by
  refine ⟨m.good, ?_, ?_, m.obN, m.rfree, ?_, m.df, m.fr, m.own, m.old, m.keepS, m.same, m.rn, m.oldT, m.keepT⟩
  · intro t' av' h
    simp only [look] at h
    show av'.den S T w ρ ((a.tmps.setIfInBounds t v).getD t' undef)
    by_cases e : t' = t
    · rw [if_pos e] at h; cases h
      subst e
      have : (a.tmps.setIfInBounds t' v).getD t' undef = v := by
        rw [Array.getD_eq_getD_getElem?, Array.getElem?_setIfInBounds, if_pos rfl, if_pos (by rw [m.sz]; exact ht)]; rfl
      rw [this]; exact hd
    · rw [if_neg e] at h
      have : (a.tmps.setIfInBounds t v).getD t' undef = a.tmps.getD t' undef := by
        rw [Array.getD_eq_getD_getElem?, Array.getD_eq_getD_getElem?, Array.getElem?_setIfInBounds, if_neg (fun h => e h.symm)]
      rw [this]; exact m.tm t' av' h
  · intro t' av' h
    simp only [look] at h
    by_cases e : t' = t
    · rw [if_pos e] at h; cases h; exact hN
    · rw [if_neg e] at h; exact m.tmN t' av' h
  · show (a.tmps.setIfInBounds t v).size = K.N
    rw [Array.size_setIfInBounds]; exact m.sz

/-- Less is known of the places: those that are left are as they were. -/
theorem Match.forget (m : Match K S T ρ R st a w) {tm : List (Nat × AV)} (h : ∀ t av, look tm t = some av → look st.tm t = some av) : Match K S T ρ R ⟨tm, st.hp⟩ a w :=
  ⟨m.good, fun t av ht => m.tm t av (h t av ht), fun t av ht => m.tmN t av (h t av ht), m.obN, m.rfree, m.sz, m.df, m.fr, m.own, m.old, m.keepS, m.same, m.rn, m.oldT, m.keepT⟩

/-- Free places at the end. -/
theorem Match.more (m : Match K S T ρ R st a w) (n : Nat) : Match K S T ρ R ⟨st.tm, st.hp ++ List.replicate n .dead⟩ a w := by
  have key : ∀ {o : Nat} {ob : Ob}, (st.hp ++ List.replicate n .dead)[o]? = some ob → st.hp[o]? = some ob ∨ ob = .dead := by
    intro o ob h
    rw [List.getElem?_append] at h
    split at h
    · exact .inl h
    · right
      exact (List.eq_of_mem_replicate (List.mem_of_getElem? h))
  have al : ∀ {q}, aliveAt (st.hp ++ List.replicate n .dead) q → aliveAt st.hp q := by
    rintro q ⟨ob, h1, h2⟩
    rcases key h1 with h | h
    · exact ⟨ob, h, h2⟩
    · rw [h] at h2; exact h2.elim
  refine ⟨m.good.more n, m.tm, m.tmN, ?_, fun n hn h => m.rfree n hn (al h), m.sz, m.df, m.fr, fun b ⟨o, c, h1, h2⟩ => m.own b ⟨o, c, al h1, h2⟩, m.old, m.keepS, m.same, m.rn, m.oldT, m.keepT⟩
  intro o x hx k hk
  rcases key hx with h | h
  · exact m.obN o x h k hk
  · rw [h] at hk; simp [Ob.names] at hk
end

/-! ### what an operation does -/
/-- Its value; a new object; an object turned; an object that is no more. -/
structure Eff where
  v : AV
  new : Option Ob := none
  up : Option (Nat × Ob) := none
  kill : Option Nat := none

def Eff.heap (e : Eff) (p : Nat) (H : Heap) : Heap :=
  let H1 := match e.kill with | some o => H.set o .dead | none => H
  let H2 := match e.up with | some (o, ob) => H1.set o ob | none => H1
  match e.new with | some ob => H2.set p ob | none => H2

/-- What is reserved behind it. -/
def Eff.res (e : Eff) (p : Nat) (R : Nat → Prop) : Nat → Prop := fun n => R n ∧ (e.new.isSome = true → n ≠ p)

/-- The operation runs, and does that. -/
def Does (K : Ctx) (S T R : Nat → Prop) (st : St) (a : Act) (w : World) (p : Nat) (o : Op) (ty : TypeId) (e : Eff) : Prop :=
  ∃ v w' ρ', (∀ o' : Oper, o'.op = o → o'.type = ty → (execOp a.eval o').run K.P w = .ok (.value v) w' ∨ ((execOp a.eval o').run K.P w = .ok .skip w' ∧ v = undef)) ∧
    Match K S T ρ' (e.res p R) ⟨st.tm, e.heap p st.hp⟩ a w' ∧ e.v.den S T w' ρ' v ∧ ∀ n ∈ e.v.names, ¬ e.res p R n

/-- A value alone; the memory stays. -/
theorem Does.val {K : Ctx} {S T R : Nat → Prop} {ρ : Map} {st : St} {a : Act} {w : World} {p : Nat} {o : Op} {ty : TypeId} {av : AV} {v : Value} (m : Match K S T ρ R st a w)
    (hrun : ∀ o' : Oper, o'.op = o → o'.type = ty → (execOp a.eval o').run K.P w = .ok (.value v) w) (hd : av.den S T w ρ v) (hN : ∀ n ∈ av.names, ¬ R n) : Does K S T R st a w p o ty { v := av } := by
  have hR : Eff.res { v := av } p R = R := by funext n; simp [Eff.res]
  refine ⟨v, w, ρ, fun o' h1 h2 => .inl (hrun o' h1 h2), ?_, hd, ?_⟩
  · rw [hR]; exact m
  · rw [hR]; exact hN
/-- A value alone, behind a draw. -/
theorem Does.new {K : Ctx} {S T R : Nat → Prop} {ρ : Map} {st : St} {a : Act} {w w' : World} {p : Nat} {o : Op} {ty : TypeId} {av : AV} {ob : Ob} {v : Value} {x : Option (Nat × Nat × Nat)}
    (hrun : ∀ o' : Oper, o'.op = o → o'.type = ty → (execOp a.eval o').run K.P w = .ok (.value v) w')
    (m : Match K S T (upd ρ p x) (fun n => R n ∧ n ≠ p) ⟨st.tm, st.hp.set p ob⟩ a w') (hd : av.den S T w' (upd ρ p x) v) (hN : ∀ n ∈ av.names, n = p ∨ ¬ R n) : Does K S T R st a w p o ty { v := av, new := some ob } := by
  have hR : Eff.res { v := av, new := some ob } p R = fun n => R n ∧ n ≠ p := by funext n; simp [Eff.res]
  refine ⟨v, w', upd ρ p x, fun o' h1 h2 => .inl (hrun o' h1 h2), ?_, hd, ?_⟩
  · rw [hR]; exact m
  · rw [hR]; intro n hn hr
    rcases hN n hn with h | h
    · exact hr.2 h
    · exact h hr.1
end Go.Aw
