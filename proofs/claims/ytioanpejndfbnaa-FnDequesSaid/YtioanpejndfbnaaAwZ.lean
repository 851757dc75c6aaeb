/- An abstract memory over the model: trees of one's own; they are lent to functions of data. -/
import Derived.Test.YtioanpejndfbnaaAwY
namespace Go.Aw
open Go.RowKit
set_option linter.unusedSimpArgs false
set_option linter.unusedVariables false

/-- It tells of no memory that is read for good. -/
def C.plain : C → Bool
  | .sl _ _ _ => false
  | .ra _ _ => false
  | _ => true
def A1.plain (a : A1) : Bool := a.cells.all C.plain
def AV.plain : AV → Bool
  | .one a => a.plain
  | .tup as => as.all A1.plain
  | .undef => true
def Ob.plain : Ob → Bool
  | .cells cs => cs.all C.plain
  | .row _ _ es => es.flatten.all C.plain
  | .dead => true
section
variable {S T S' T' : Nat → Prop} {w : World} {ρ : Map}
theorem C.den_plain {c : C} (h : c.plain = true) {v : Value} (hd : c.den S T w ρ v) : c.den S' T' w ρ v := by
  cases c with
  | sl lv sz es => simp [C.plain] at h
  | ra lv cs => simp [C.plain] at h
  | _ => exact hd
theorem dens_plain : ∀ {cs : List C} {vs : List Value}, cs.all C.plain = true → dens S T w ρ cs vs → dens S' T' w ρ cs vs
  | [], [], _, _ => trivial
  | c :: cs, v :: vs, h, hd => by
    simp only [List.all_cons, Bool.and_eq_true] at h
    exact ⟨C.den_plain h.1 hd.1, dens_plain h.2 hd.2⟩
  | [], _ :: _, _, hd => hd.elim
  | _ :: _, [], _, hd => hd.elim
theorem A1.den_plain {a : A1} (h : a.plain = true) {v : Value} (hd : a.den S T w ρ v) : a.den S' T' w ρ v := by
  cases a with
  | c x => exact C.den_plain (by simpa [A1.plain, A1.cells] using h) hd
  | agg cs =>
    obtain ⟨vs, h1, h2⟩ := hd
    exact ⟨vs, h1, dens_plain (by simpa [A1.plain, A1.cells] using h) h2⟩
theorem dens1_plain : ∀ {as : List A1} {vs : List Value}, as.all A1.plain = true → dens1 S T w ρ as vs → dens1 S' T' w ρ as vs
  | [], [], _, _ => trivial
  | a :: as, v :: vs, h, hd => by
    simp only [List.all_cons, Bool.and_eq_true] at h
    exact ⟨A1.den_plain h.1 hd.1, dens1_plain h.2 hd.2⟩
  | [], _ :: _, _, hd => hd.elim
  | _ :: _, [], _, hd => hd.elim
theorem AV.den_plain {a : AV} (h : a.plain = true) {v : Value} (hd : a.den S T w ρ v) : a.den S' T' w ρ v := by
  cases a with
  | one a => exact A1.den_plain h hd
  | tup as =>
    obtain ⟨vs, h1, h2⟩ := hd
    exact ⟨vs, h1, dens1_plain h h2⟩
  | undef => trivial
theorem Ob.real_plain {o : Nat} {ob : Ob} (h : ob.plain = true) (hr : ob.real S w ρ o) : ob.real S' w ρ o := by
  cases ob with
  | cells cs =>
    obtain ⟨b, c, arr, t, h1, h2, h3, h4⟩ := hr
    exact ⟨b, c, arr, t, h1, h2, h3, dens_plain (by simpa [Ob.plain] using h) h4⟩
  | row e sz es =>
    rcases hr with ⟨h1, h2⟩ | ⟨b, c, arr, pre, vs, rest, h4, h5, h6, h6', h7, h8, h8', h9, h10⟩
    · exact .inl ⟨h1, h2⟩
    · exact .inr ⟨b, c, arr, pre, vs, rest, h4, h5, h6, h6', h7, h8, h8', h9, dens_plain (by simpa [Ob.plain] using h) h10⟩
  | dead => trivial
end

/-! ### trees -/
mutual
/-- In H the cell c reads as d, by objects of one's own alone, which are those of L. -/
def OwnC (H : Heap) : D → C → List Nat → Prop
  | .int k n, c, L => c = .i k n ∧ L = []
  | .bool b, c, L => c = .b b ∧ L = []
  | .str s, c, L => c = .s s ∧ L = []
  | .sl sz es, c, L => ∃ o L' e rows, c = .os o sz 0 es.length ∧ L = o :: L' ∧ H[o]? = some (.row e sz rows) ∧ OwnRows H sz es rows L'
def OwnRows (H : Heap) (sz : Nat) : List (List D) → List (List C) → List Nat → Prop
  | [], rows, L => rows = [] ∧ L = []
  | d :: ds, rows, L => ∃ r rs L1 L2, rows = r :: rs ∧ L = L1 ++ L2 ∧ d.length = sz ∧ OwnCs H d r L1 ∧ OwnRows H sz ds rs L2
def OwnCs (H : Heap) : List D → List C → List Nat → Prop
  | [], cs, L => cs = [] ∧ L = []
  | d :: ds, cs, L => ∃ c rs L1 L2, cs = c :: rs ∧ L = L1 ++ L2 ∧ OwnC H d c L1 ∧ OwnCs H ds rs L2
end
mutual
theorem OwnC.frame {H H' : Heap} : ∀ {d : D} {c : C} {L : List Nat}, OwnC H d c L → (∀ o ∈ L, H'[o]? = H[o]?) → OwnC H' d c L
  | .int k n, c, L, h, _ => by unfold OwnC at h ⊢; exact h
  | .bool b, c, L, h, _ => by unfold OwnC at h ⊢; exact h
  | .str s, c, L, h, _ => by unfold OwnC at h ⊢; exact h
  | .sl sz es, c, L, h, hf => by
    unfold OwnC at h ⊢
    obtain ⟨o, L', e, rows, rfl, rfl, h1, h2⟩ := h
    exact ⟨o, L', e, rows, rfl, rfl, by rw [hf o (by simp), h1], OwnRows.frame h2 fun q hq => hf q (by simp [hq])⟩
theorem OwnRows.frame {H H' : Heap} {sz : Nat} : ∀ {d : List (List D)} {c : List (List C)} {L : List Nat}, OwnRows H sz d c L → (∀ o ∈ L, H'[o]? = H[o]?) → OwnRows H' sz d c L
  | [], c, L, h, _ => by unfold OwnRows at h ⊢; exact h
  | d :: ds, c, L, h, hf => by
    unfold OwnRows at h ⊢
    obtain ⟨r, rs, L1, L2, rfl, rfl, h0, h1, h2⟩ := h
    exact ⟨r, rs, L1, L2, rfl, rfl, h0, OwnCs.frame h1 fun q hq => hf q (by simp [hq]), OwnRows.frame h2 fun q hq => hf q (by simp [hq])⟩
theorem OwnCs.frame {H H' : Heap} : ∀ {d : List D} {c : List C} {L : List Nat}, OwnCs H d c L → (∀ o ∈ L, H'[o]? = H[o]?) → OwnCs H' d c L
  | [], c, L, h, _ => by unfold OwnCs at h ⊢; exact h
  | d :: ds, c, L, h, hf => by
    unfold OwnCs at h ⊢
    obtain ⟨r, rs, L1, L2, rfl, rfl, h1, h2⟩ := h
    exact ⟨r, rs, L1, L2, rfl, rfl, OwnC.frame h1 fun q hq => hf q (by simp [hq]), OwnCs.frame h2 fun q hq => hf q (by simp [hq])⟩
end
theorem OwnCs.len {H : Heap} : ∀ {d : List D} {c : List C} {L : List Nat}, OwnCs H d c L → c.length = d.length
  | [], c, L, h => by unfold OwnCs at h; simp [h.1]
  | d :: ds, c, L, h => by
    unfold OwnCs at h
    obtain ⟨r, rs, L1, L2, rfl, rfl, h1, h2⟩ := h
    simp [OwnCs.len h2]
theorem OwnRows.len {H : Heap} {sz : Nat} : ∀ {d : List (List D)} {c : List (List C)} {L : List Nat}, OwnRows H sz d c L → c.length = d.length
  | [], c, L, h => by unfold OwnRows at h; simp [h.1]
  | d :: ds, c, L, h => by
    unfold OwnRows at h
    obtain ⟨r, rs, L1, L2, rfl, rfl, h0, h1, h2⟩ := h
    simp [OwnRows.len h2]
mutual
theorem OwnC.plain {H : Heap} : ∀ {d : D} {c : C} {L : List Nat}, OwnC H d c L → c.plain = true ∧ ∀ n ∈ c.names, n ∈ L
  | .int k n, c, L, h => by unfold OwnC at h; rw [h.1]; simp [C.plain, C.names]
  | .bool b, c, L, h => by unfold OwnC at h; rw [h.1]; simp [C.plain, C.names]
  | .str s, c, L, h => by unfold OwnC at h; rw [h.1]; simp [C.plain, C.names]
  | .sl sz es, c, L, h => by
    unfold OwnC at h
    obtain ⟨o, L', e, rows, rfl, rfl, h1, h2⟩ := h
    simp [C.plain, C.names]
theorem OwnCs.plain {H : Heap} : ∀ {d : List D} {c : List C} {L : List Nat}, OwnCs H d c L → c.all C.plain = true ∧ ∀ n ∈ c.flatMap C.names, n ∈ L
  | [], c, L, h => by unfold OwnCs at h; rw [h.1]; simp
  | d :: ds, c, L, h => by
    unfold OwnCs at h
    obtain ⟨r, rs, L1, L2, rfl, rfl, h1, h2⟩ := h
    have p1 := OwnC.plain h1
    have p2 := OwnCs.plain h2
    refine ⟨by simp [p1.1, p2.1], fun n hn => ?_⟩
    simp only [List.flatMap_cons, List.mem_append] at hn ⊢
    exact hn.imp (p1.2 n) (p2.2 n)
end

section
variable {S T : Nat → Prop} {w : World} {ρ : Map} {H : Heap}
/-- The blocks that the heap's objects have. -/
theorem own_block {o : Nat} {ob : Ob} (ho : H[o]? = some ob) (hal : ob.alive) {b : Nat} {c : Nat × Nat} (hb : ρ o = some (b, c)) : blocks ρ H b := ⟨o, c, ⟨ob, ho, hal⟩, hb⟩
mutual
/-- Read, by the heap's own blocks. -/
theorem OwnC.rd (g : Good S T ρ w H) {U : Nat → Prop} (hU : ∀ b, blocks ρ H b → U b) : ∀ {d : D} {c : C} {L : List Nat} {v : Value} {A B : Nat → Prop}, OwnC H d c L → c.den A B w ρ v → D.rd U w d v
  | .int k n, c, L, v, A, B, h, hd => by unfold OwnC at h; rw [h.1] at hd; unfold D.rd; exact hd
  | .bool b, c, L, v, A, B, h, hd => by unfold OwnC at h; rw [h.1] at hd; unfold D.rd; exact hd
  | .str s, c, L, v, A, B, h, hd => by unfold OwnC at h; rw [h.1] at hd; unfold D.rd; exact hd
  | .sl sz es, c, L, v, A, B, h, hd => by
    unfold OwnC at h
    obtain ⟨o, L', e, rows, rfl, rfl, h1, h2⟩ := h
    have hl := OwnRows.len h2
    unfold D.rd
    rcases hd with ⟨k1, k2, k3, rfl⟩ | ⟨b, c, k1, k2, k3⟩
    · exact ⟨none, 0, by rw [k3], by rw [k3]; exact Nat.le_refl _, .inl (List.eq_nil_of_length_eq_zero k3)⟩
    · rcases k3 with ⟨_, rfl⟩ | ⟨_, k3, a, rfl⟩
      · rcases g.real o _ h1 with ⟨k4, _⟩ | ⟨b', c', arr, pre, vs, rest, k4, k5, k6, k6', k7, k8, k8', k9, k10⟩
        · rw [k1] at k4; cases k4
        · rw [k1] at k4; cases k4
          refine ⟨_, _, rfl, by omega, .inr ⟨b, c.1 + 0 * sz, rfl, ?_⟩⟩
          refine OwnRows.rd g hU (hU b ⟨o, c, ⟨_, h1, trivial⟩, k1⟩) h2 k10 fun j u hj => ?_
          have : arr[c.1 + j]? = some u := by
            rw [← Array.getElem?_toList, k6, List.getElem?_append_right (by omega), k6', show c.1 + j - c.1 = j by omega, List.getElem?_append_left (List.getElem?_eq_some_iff.1 hj).1]
            exact hj
          simp [World.cell?, k5, this]
      · exact ⟨_, _, by rw [k3], by rw [k3]; exact Nat.le_refl _, .inl (List.eq_nil_of_length_eq_zero k3)⟩
theorem OwnRows.rd (g : Good S T ρ w H) {U : Nat → Prop} (hU : ∀ b, blocks ρ H b → U b) {sz b : Nat} (hb : U b) : ∀ {d : List (List D)} {c : List (List C)} {L : List Nat} {vs : List Value} {A B : Nat → Prop} {o : Nat}, OwnRows H sz d c L → dens A B w ρ c.flatten vs → (∀ j u, vs[j]? = some u → w.cell? ⟨b, o + j, none⟩ = some u) → D.rdRows U w sz b o d
  | [], c, L, vs, A, B, o, h, hd, hc => by unfold D.rdRows; trivial
  | d :: ds, c, L, vs, A, B, o, h, hd, hc => by
    unfold OwnRows at h
    obtain ⟨r, rs, L1, L2, rfl, rfl, h0, h1, h2⟩ := h
    simp only [List.flatten_cons] at hd
    obtain ⟨us, ws, rfl, k1, k2⟩ := dens_split hd
    have hl := dens_len k1
    rw [OwnCs.len h1, h0] at hl
    unfold D.rdRows
    refine ⟨OwnCs.rd g hU hb h1 k1 fun j u hj => hc j u ?_, h0, OwnRows.rd g hU hb h2 k2 fun j u hj => ?_⟩
    · rw [List.getElem?_append_left (List.getElem?_eq_some_iff.1 hj).1]; exact hj
    · have := hc (sz + j) u (by rw [List.getElem?_append_right (by omega), show sz + j - us.length = j by omega]; exact hj)
      rwa [show o + (sz + j) = o + sz + j by omega] at this
theorem OwnCs.rd (g : Good S T ρ w H) {U : Nat → Prop} (hU : ∀ b, blocks ρ H b → U b) {b : Nat} (hb : U b) : ∀ {d : List D} {c : List C} {L : List Nat} {vs : List Value} {A B : Nat → Prop} {o : Nat}, OwnCs H d c L → dens A B w ρ c vs → (∀ j u, vs[j]? = some u → w.cell? ⟨b, o + j, none⟩ = some u) → D.rdCells U w b o d
  | [], c, L, vs, A, B, o, h, hd, hc => by unfold D.rdCells; trivial
  | d :: ds, c, L, vs, A, B, o, h, hd, hc => by
    unfold OwnCs at h
    obtain ⟨r, rs, L1, L2, rfl, rfl, h1, h2⟩ := h
    cases vs with
    | nil => exact hd.elim
    | cons v vs =>
      unfold D.rdCells
      refine ⟨⟨v, hb, hc 0 v rfl, OwnC.rd g hU h1 hd.1⟩, OwnCs.rd g hU hb h2 hd.2 fun j u hj => ?_⟩
      have := hc (j + 1) u (by simpa using hj)
      rwa [show o + (j + 1) = o + 1 + j by omega] at this
end
theorem OwnCs.dens (g : Good S T ρ w H) {U V : Nat → Prop} (hU : ∀ b, blocks ρ H b → U b) : ∀ {d : List D} {c : List C} {L : List Nat} {vs : List Value} {A B : Nat → Prop}, OwnCs H d c L → dens A B w ρ c vs → Aw.dens U V w ρ (d.map (D.toC true)) vs
  | [], c, L, vs, A, B, h, hd => by
    unfold OwnCs at h
    rw [h.1] at hd
    cases vs with
    | nil => trivial
    | cons _ _ => exact hd.elim
  | d :: ds, c, L, vs, A, B, h, hd => by
    unfold OwnCs at h
    obtain ⟨r, rs, L1, L2, rfl, rfl, h1, h2⟩ := h
    cases vs with
    | nil => exact hd.elim
    | cons v vs => exact ⟨D.toC_den (lv := true) (OwnC.rd g hU h1 hd.1), OwnCs.dens g hU h2 hd.2⟩
end

/-- Each argument as it is (and then it is data), or lent. -/
def lentT (H : Heap) : List AV → List AV → Prop
  | [], [] => True
  | a :: as, b :: bs => ((a = b ∧ a.names = []) ∨ (∃ d c L, OwnC H d c L ∧ a = .one (.c c) ∧ b = .one (.c (d.toC true))) ∨ (∃ ds cs L, OwnCs H ds cs L ∧ a = .one (.agg cs) ∧ b = .one (.agg (ds.map (D.toC true))))) ∧ lentT H as bs
  | _, _ => False
/-- A call of a function of data alone upon trees of one's own: they come back as they were. -/
theorem AC.lend {P : Program} {f : FuncId} {args args' : List AV} {H N : Heap} {res : AV} (hl : lentT H args args') (hres : res.plain = true) (hN : ∀ ob ∈ N, ob.plain = true)
    (h : AC P f args' (List.replicate H.length .dead) res (List.replicate H.length .dead ++ N)) : AC P f args H res (H ++ N) := by
  refine ⟨h.1, fun hcl hca S T ρ w vs g hd => ?_⟩
  let U : Nat → Prop := fun b => S b ∨ blocks ρ H b
  let V : Nat → Prop := fun b => T b ∨ blocks ρ H b
  have dead : ∀ {o : Nat} {ob : Ob}, (List.replicate H.length Ob.dead)[o]? = some ob → ob = Ob.dead := fun {o ob} h => by
    have := List.mem_of_getElem? h
    exact (List.mem_replicate.1 this).2
  have noal : ∀ {o}, ¬ aliveAt (List.replicate H.length Ob.dead) o := fun {o} ⟨ob, h1, h2⟩ => by rw [dead h1] at h2; exact h2
  have g' : Good U V ρ w (List.replicate H.length .dead) := by
    refine ⟨fun o ob ho => by rw [dead ho]; trivial, fun o o' b c c' h1 => (noal h1).elim, fun b ⟨o, c, h1, _⟩ => (noal h1).elim, fun b hb => hb.imp (g.le b) id, fun b hb => ?_⟩
    rcases hb with hb | hb
    · exact g.lt b hb
    · exact g.block_lt hb
  have hargs : ∀ {as bs : List AV} {vs : List Value}, lentT H as bs → densA S T w ρ as vs → densA U V w ρ bs vs := by
    intro as
    induction as with
    | nil =>
      intro bs vs hle hda
      cases bs with
      | nil => cases vs with
        | nil => trivial
        | cons _ _ => exact hda.elim
      | cons _ _ => exact hle.elim
    | cons a as ih =>
      intro bs vs hle hda
      cases bs with
      | nil => exact hle.elim
      | cons b bs => cases vs with
        | nil => exact hda.elim
        | cons v vs =>
          refine ⟨?_, ih hle.2 hda.2⟩
          rcases hle.1 with ⟨rfl, _⟩ | ⟨d, c, L, h1, rfl, rfl⟩ | ⟨ds, cs, L, h1, rfl, rfl⟩
          · exact AV.den_ext (ext_ST (fun b hb => .inl hb) w) (ext_ST (fun b hb => .inl hb) w) _ (fun _ _ => rfl) v hda.1
          · exact D.toC_den (lv := true) (OwnC.rd g (fun b hb => .inr hb) h1 hda.1)
          · obtain ⟨us, rfl, h2⟩ := hda.1
            exact ⟨us, rfl, OwnCs.dens g (fun b hb => .inr hb) h1 h2⟩
  have hnm : ∀ {as bs : List AV}, lentT H as bs → ∀ av ∈ bs, av.names = [] := by
    intro as
    induction as with
    | nil => intro bs hle; cases bs with
      | nil => simp
      | cons _ _ => exact hle.elim
    | cons a as ih => intro bs hle; cases bs with
      | nil => exact hle.elim
      | cons b bs =>
        intro av hav
        rcases List.mem_cons.1 hav with rfl | hav
        · rcases hle.1 with ⟨rfl, h⟩ | ⟨d, c, L, h1, rfl, rfl⟩ | ⟨ds, cs, L, h1, rfl, rfl⟩
          · exact h
          · exact D.toC_names true d
          · simp [AV.names, A1.names, List.flatMap_eq_nil_iff, D.toC_names]
        · exact ih hle.2 av hav
  refine Calls.mono (h.2 (fun o ob ho n hn => by rw [dead ho] at hn; simp [Ob.names] at hn) (fun av hav n hn => by rw [hnm hl av hav] at hn; simp at hn) U V ρ w vs g' (hargs hl hd)) ?_
  rintro en w' ⟨v, S1, T1, ρ1, rfl, d⟩
  have hlen : (List.replicate H.length Ob.dead).length = H.length := by simp
  have nob : ∀ {b}, ¬ blocks ρ (List.replicate H.length Ob.dead) b := fun ⟨o, c, h1, _⟩ => noal h1
  have keep : ∀ b, b < w.heap.size → w'.heap[b]? = w.heap[b]? := fun b hb => d.fr.keep b hb nob
  have hsame : ∀ o, o < H.length → ρ1 o = ρ o := fun o ho => d.same o (by rw [hlen]; exact ho)
  have hSx : Ext S S w w' := fun b hb => ⟨hb, keep b (g.lt b (g.le b hb))⟩
  have hnew : ∀ {o ob}, H.length ≤ o → (H ++ N)[o]? = some ob → (List.replicate H.length Ob.dead ++ N)[o]? = some ob := fun {o ob} ho h => by
    rw [List.getElem?_append_right ho] at h
    rw [List.getElem?_append_right (by rw [hlen]; exact ho), hlen]; exact h
  have hold : ∀ {o ob}, o < H.length → (H ++ N)[o]? = some ob → H[o]? = some ob := fun {o ob} ho h => by
    rwa [List.getElem?_append_left ho] at h
  have newb : ∀ {o b c ob}, H.length ≤ o → (H ++ N)[o]? = some ob → ob.alive → ρ1 o = some (b, c) → w.heap.size ≤ b := fun {o b c ob} ho h hal hb =>
    (d.own b ⟨o, c, ⟨ob, hnew ho h, hal⟩, hb⟩).resolve_left nob
  have oldb : ∀ {o b c ob}, o < H.length → (H ++ N)[o]? = some ob → ob.alive → ρ1 o = some (b, c) → blocks ρ H b ∧ b < w.heap.size := fun {o b c ob} ho h hal hb => by
    have : blocks ρ H b := ⟨o, c, ⟨ob, hold ho h, hal⟩, by rw [← hsame o ho]; exact hb⟩
    exact ⟨this, g.block_lt this⟩
  refine ⟨v, S, T, ρ1, rfl, ⟨⟨fun o ob ho => ?_, ?_, ?_, g.le, fun b hb => Nat.lt_of_lt_of_le (g.lt b hb) d.fr.size⟩, AV.den_plain hres d.res, fun n hn => ?_, fun o ob ho n hn => ?_, by simp, fun b hb => hb, fun b hb => .inl hb, fun b hb => hb, fun b hb => .inl hb, ?_, ?_, hsame⟩⟩
  · by_cases hlo : o < H.length
    · have ho' := hold hlo ho
      cases ob with
      | dead => trivial
      | cells cs => exact Ob.real_ext hSx (.cells cs) o (fun n hn => hsame n (hcl o _ ho' n hn)) (hsame o hlo) (fun b c hb => keep b (g.block_lt ⟨o, c, ⟨_, ho', trivial⟩, hb⟩)) (g.real o _ ho')
      | row e sz es => exact Ob.real_ext hSx (.row e sz es) o (fun n hn => hsame n (hcl o _ ho' n hn)) (hsame o hlo) (fun b c hb => keep b (g.block_lt ⟨o, c, ⟨_, ho', trivial⟩, hb⟩)) (g.real o _ ho')
    · have ho' := hnew (by omega) ho
      exact Ob.real_plain (hN ob (List.mem_of_getElem? (by rwa [List.getElem?_append_right (by omega)] at ho))) (d.good.real o ob ho')
  · rintro o o' b c c' ⟨ob, h1, h2⟩ ⟨ob', h1', h2'⟩ h3 h4
    by_cases hlo : o < H.length <;> by_cases hlo' : o' < H.length
    · exact g.apart o o' b c c' ⟨ob, hold hlo h1, h2⟩ ⟨ob', hold hlo' h1', h2'⟩ (by rw [← hsame o hlo]; exact h3) (by rw [← hsame o' hlo']; exact h4)
    · have := (oldb hlo h1 h2 h3).2
      have := newb (by omega) h1' h2' h4
      omega
    · have := (oldb hlo' h1' h2' h4).2
      have := newb (by omega) h1 h2 h3
      omega
    · exact d.good.apart o o' b c c' ⟨ob, hnew (by omega) h1, h2⟩ ⟨ob', hnew (by omega) h1', h2'⟩ h3 h4
  · rintro b ⟨o, c, ⟨ob, h1, h2⟩, h3⟩ hb
    by_cases hlo : o < H.length
    · exact g.out b (oldb hlo h1 h2 h3).1 hb
    · have := newb (by omega) h1 h2 h3
      have := g.lt b hb
      omega
  · have := d.resN n hn
    rw [List.length_append, hlen] at this
    rw [List.length_append]; exact this
  · rw [List.length_append]
    by_cases hlo : o < H.length
    · have := hcl o ob (hold hlo ho) n hn; omega
    · have := d.obN o ob (hnew (by omega) ho) n hn
      rwa [List.length_append, hlen] at this
  · exact ⟨d.fr.os, d.fr.tape, d.fr.output, d.fr.size, fun k hk _ => keep k hk⟩
  · rintro b ⟨o, c, ⟨ob, h1, h2⟩, h3⟩
    by_cases hlo : o < H.length
    · exact .inl (oldb hlo h1 h2 h3).1
    · exact .inr (newb (by omega) h1 h2 h3)
/-- .. that gives data of no memory. -/
theorem PF.lend {P : Program} {f : FuncId} {args args' : List AV} {H : Heap} {res : AV} (h : PF P f args' res) (hl : lentT H args args') (hres : res.plain = true) : AC P f args H res H := by
  have := AC.lend (N := []) hl hres (by simp) (by rw [List.append_nil]; exact h _)
  rwa [List.append_nil] at this

/-- The values by their names, one object told by another number. -/
def mvTm (o p : Nat) (tm : List (Nat × AV)) : List (Nat × AV) → Prop
  | [] => True
  | (t, av') :: r => ((look tm t = some av' ∧ (av'.names = [] ∨ p ∉ av'.names)) ∨ ∃ sz off len, look tm t = some (.one (.c (.os o sz off len))) ∧ av' = .one (.c (.os p sz off len))) ∧ mvTm o p tm r
theorem look_mvTm {o p : Nat} {tm : List (Nat × AV)} : ∀ {tm' : List (Nat × AV)}, mvTm o p tm tm' → ∀ t av', look tm' t = some av' → (look tm t = some av' ∧ (av'.names = [] ∨ p ∉ av'.names)) ∨ ∃ sz off len, look tm t = some (.one (.c (.os o sz off len))) ∧ av' = .one (.c (.os p sz off len))
  | [], _, t, av, h => by simp [look] at h
  | (k, v) :: r, hc, t, av, h => by
    simp only [look] at h
    by_cases e : t = k
    · rw [if_pos e] at h; cases h; rw [e]; exact hc.1
    · rw [if_neg e] at h; exact look_mvTm hc.2 t av h
/-- An object goes to the heap's end. -/
theorem Sub.move {n0 : Nat} {tm tm' : List (Nat × AV)} {H : Heap} (o : Nat) {ob : Ob} (ho : H[o]? = some ob) (hal : ob.alive) (hnm : ob.names = []) (hn0 : n0 ≤ H.length) (htm : mvTm o H.length tm tm') : Sub n0 ⟨tm, H⟩ ⟨tm', H.set o .dead ++ [ob]⟩ := by
  intro K S T ρ a w hK m
  have m : Match K S T ρ (fun n => H.length ≤ n) ⟨tm, H⟩ a w := m
  have hlt : o < H.length := (List.getElem?_eq_some_iff.1 ho).1
  let ρ' : Map := upd ρ H.length (ρ o)
  have hρ : ∀ q, q < H.length → ρ' q = ρ q := fun q hq => upd_ne (by omega)
  have hp : ρ' H.length = ρ o := upd_self _ _ _
  have hoal : aliveAt H o := ⟨ob, ho, hal⟩
  have hlen : (H.set o Ob.dead).length = H.length := by simp
  have get : ∀ {q : Nat} {x : Ob}, (H.set o Ob.dead ++ [ob])[q]? = some x → (q < H.length ∧ (x = Ob.dead ∨ (q ≠ o ∧ H[q]? = some x))) ∨ (q = H.length ∧ x = ob) := fun {q x} h => by
    by_cases hq : q < H.length
    · rw [List.getElem?_append_left (by rw [hlen]; exact hq), get_set hlt] at h
      left
      refine ⟨hq, ?_⟩
      split at h
      · cases h; exact .inl rfl
      · rename_i hne; exact .inr ⟨hne, h⟩
    · right
      have := (List.getElem?_eq_some_iff.1 h).1
      simp at this
      have hq' : q = H.length := by omega
      subst hq'
      rw [List.getElem?_append_right (by rw [hlen]; exact Nat.le_refl _), hlen, Nat.sub_self] at h
      exact ⟨rfl, by simpa using h.symm⟩
  have nm : ∀ {q : Nat} {x : Ob}, H[q]? = some x → ∀ n ∈ x.names, n < H.length := fun {q x} h n hn => Nat.lt_of_not_le (m.obN q x h n hn)
  have al : ∀ {q : Nat}, aliveAt (H.set o Ob.dead ++ [ob]) q → ∃ q', aliveAt H q' ∧ ρ' q = ρ q' ∧ ((q = q' ∧ q ≠ o ∧ q < H.length) ∨ (q = H.length ∧ q' = o)) := fun {q} ⟨x, h1, h2⟩ => by
    rcases get h1 with ⟨hq, rfl | ⟨hne, h3⟩⟩ | ⟨rfl, rfl⟩
    · exact h2.elim
    · exact ⟨q, ⟨x, h3, h2⟩, hρ q hq, .inl ⟨rfl, hne, hq⟩⟩
    · exact ⟨o, hoal, hp, .inr ⟨rfl, rfl⟩⟩
  refine ⟨S, T, ρ', ⟨⟨fun q x hx => ?_, fun q q' b c c' h1 h2 h3 h4 => ?_, fun b ⟨q, c, h1, h2⟩ => ?_, m.good.le, m.good.lt⟩, fun t av h => ?_, fun t av h n hn => ?_, fun q x hx n hn => ?_, fun n hn h => ?_, m.sz, m.df, m.fr, fun b ⟨q, c, h1, h2⟩ => ?_, m.old, m.keepS, fun q hq => ?_, fun n hn => ?_, m.oldT, m.keepT⟩⟩
  · rcases get hx with ⟨hq, rfl | ⟨hne, h3⟩⟩ | ⟨rfl, rfl⟩
    · trivial
    · have := Ob.real_ren (r := fun n => n) (ρ' := ρ') x q q (fun n hn => hρ n (nm h3 n hn)) (hρ q hq) (m.good.real q x h3)
      rwa [Ob.ren_id x (fun _ _ => rfl)] at this
    · have := Ob.real_ren (r := fun n => n) (ρ' := ρ') x o H.length (fun n hn => by rw [hnm] at hn; simp at hn) hp (m.good.real o x ho)
      rwa [Ob.ren_id x (fun _ _ => rfl)] at this
  · obtain ⟨q1, a1, e1, c1⟩ := al h1
    obtain ⟨q2, a2, e2, c2⟩ := al h2
    have := m.good.apart q1 q2 b c c' a1 a2 (by rw [← e1]; exact h3) (by rw [← e2]; exact h4)
    rcases c1 with ⟨c1, c1', _⟩ | ⟨c1, c1'⟩ <;> rcases c2 with ⟨c2, c2', _⟩ | ⟨c2, c2'⟩ <;> omega
  · obtain ⟨q1, a1, e1, c1⟩ := al h1
    exact m.good.out b ⟨q1, c, a1, by rw [← e1]; exact h2⟩
  · rcases look_mvTm htm t av h with ⟨h1, h2⟩ | ⟨sz, off, len, h1, rfl⟩
    · exact AV.den_ext (Ext.refl S w) (Ext.refl T w) av (fun n hn => hρ n (Nat.lt_of_not_le (m.tmN t av h1 n hn))) _ (m.tm t av h1)
    · have hd : C.den S T w ρ (.os o sz off len) (a.tmps.getD t undef) := m.tm t _ h1
      show C.den S T w ρ' (.os H.length sz off len) (a.tmps.getD t undef)
      rcases hd with ⟨k1, k2, k3, k4⟩ | ⟨b, c, k1, k2⟩
      · exact .inl ⟨by rw [hp]; exact k1, k2, k3, k4⟩
      · exact .inr ⟨b, c, by rw [hp]; exact k1, k2⟩
  · intro hr
    have hr : (H.set o Ob.dead ++ [ob]).length ≤ n := hr
    simp at hr
    rcases look_mvTm htm t av h with ⟨h1, h2⟩ | ⟨sz, off, len, h1, rfl⟩
    · have := Nat.lt_of_not_le (m.tmN t av h1 n hn); omega
    · simp [AV.names, A1.names, C.names] at hn; omega
  · intro hr
    have hr : (H.set o Ob.dead ++ [ob]).length ≤ n := hr
    simp at hr
    rcases get hx with ⟨hq, rfl | ⟨hne, h3⟩⟩ | ⟨rfl, rfl⟩
    · simp [Ob.names] at hn
    · have := nm h3 n hn; omega
    · rw [hnm] at hn; simp at hn
  · obtain ⟨x, h1, _⟩ := h
    have hn : (H.set o Ob.dead ++ [ob]).length ≤ n := hn
    have := (List.getElem?_eq_some_iff.1 h1).1
    omega
  · obtain ⟨q1, a1, e1, c1⟩ := al h1
    exact m.own b ⟨q1, c, a1, by rw [← e1]; exact h2⟩
  · rw [← m.same q hq]
    exact hρ q (by omega)
  · have hn : (H.set o Ob.dead ++ [ob]).length ≤ n := hn
    simp at hn
    omega

/-- A nil slice that is handed over, as an empty row of one's own. -/
theorem AC.ghost {P : Program} {f : FuncId} {args : List AV} {H H' : Heap} {e : TypeId} {sz : Nat} {res : AV} (h : AC P f (.one (.c (.os H.length sz 0 0)) :: args) (H ++ [.row e sz []]) res H') : AC P f (.one (.c .ns) :: args) H res H' := by
  refine ⟨h.1, fun hcl hca S T ρ w vs g hd => ?_⟩
  let ρ1 : Map := upd ρ H.length none
  have hρ : ∀ q, q < H.length → ρ1 q = ρ q := fun q hq => upd_ne (by omega)
  have hp : ρ1 H.length = none := upd_self _ _ _
  have get : ∀ {q : Nat} {x : Ob}, (H ++ [Ob.row e sz []])[q]? = some x → (q < H.length ∧ H[q]? = some x) ∨ (q = H.length ∧ x = .row e sz []) := fun {q x} h => by
    by_cases hq : q < H.length
    · left; rw [List.getElem?_append_left hq] at h; exact ⟨hq, h⟩
    · right
      have := (List.getElem?_eq_some_iff.1 h).1
      simp at this
      have hq' : q = H.length := by omega
      subst hq'
      rw [List.getElem?_append_right (Nat.le_refl _), Nat.sub_self] at h
      exact ⟨rfl, by simpa using h.symm⟩
  have al : ∀ {q b : Nat} {c : Nat × Nat}, aliveAt (H ++ [Ob.row e sz []]) q → ρ1 q = some (b, c) → aliveAt H q ∧ ρ q = some (b, c) := fun {q b c} ⟨x, h1, h2⟩ h3 => by
    rcases get h1 with ⟨hq, h4⟩ | ⟨rfl, _⟩
    · exact ⟨⟨x, h4, h2⟩, by rw [← hρ q hq]; exact h3⟩
    · rw [hp] at h3; cases h3
  have bl : ∀ {b}, blocks ρ1 (H ++ [Ob.row e sz []]) b → blocks ρ H b := fun {b} ⟨q, c, h1, h2⟩ => by
    obtain ⟨h3, h4⟩ := al h1 h2
    exact ⟨q, c, h3, h4⟩
  have g1 : Good S T ρ1 w (H ++ [Ob.row e sz []]) := by
    refine ⟨fun q x hx => ?_, fun q q' b c c' h1 h2 h3 h4 => g.apart q q' b c c' (al h1 h3).1 (al h2 h4).1 (al h1 h3).2 (al h2 h4).2, fun b hb => g.out b (bl hb), g.le, g.lt⟩
    rcases get hx with ⟨hq, h4⟩ | ⟨rfl, rfl⟩
    · have := Ob.real_ren (r := fun n => n) (ρ' := ρ1) x q q (fun n hn => hρ n (hcl q x h4 n hn)) (hρ q hq) (g.real q x h4)
      rwa [Ob.ren_id x (fun _ _ => rfl)] at this
    · exact .inl ⟨hp, rfl⟩
  have hd1 : densA S T w ρ1 (.one (.c (.os H.length sz 0 0)) :: args) vs := by
    cases vs with
    | nil => exact hd.elim
    | cons v vs =>
      refine ⟨.inl ⟨hp, rfl, rfl, hd.1⟩, ?_⟩
      have : ∀ {as : List AV} {us : List Value}, (∀ av ∈ as, ∀ n ∈ av.names, n < H.length) → densA S T w ρ as us → densA S T w ρ1 as us := by
        intro as
        induction as with
        | nil => intro us _ h; cases us with
          | nil => trivial
          | cons _ _ => exact h.elim
        | cons a as ih => intro us ha h; cases us with
          | nil => exact h.elim
          | cons u us => exact ⟨AV.den_ext (Ext.refl S w) (Ext.refl T w) a (fun n hn => hρ n (ha a (by simp) n hn)) u h.1, ih (fun av hav => ha av (by simp [hav])) h.2⟩
      exact this (fun av hav => hca av (by simp [hav])) hd.2
  have hcl1 : closed (H ++ [Ob.row e sz []]) := fun q x hx n hn => by
    rw [List.length_append]
    rcases get hx with ⟨_, h4⟩ | ⟨_, rfl⟩
    · have := hcl q x h4 n hn; omega
    · simp [Ob.names] at hn
  have hca1 : closedA (H ++ [Ob.row e sz []]) (.one (.c (.os H.length sz 0 0)) :: args) := fun av hav n hn => by
    rw [List.length_append]
    rcases List.mem_cons.1 hav with rfl | hav
    · simp [AV.names, A1.names, C.names] at hn; simp; omega
    · have := hca av (by simp [hav]) n hn; omega
  refine Calls.mono (h.2 hcl1 hca1 S T ρ1 w vs g1 hd1) ?_
  rintro en w' ⟨v, S1, T1, ρ2, rfl, d⟩
  have hlen := d.len
  rw [List.length_append] at hlen
  exact ⟨v, S1, T1, ρ2, rfl, ⟨d.good, d.res, d.resN, d.obN, by omega, d.S0, fun b hb => (d.S1 b hb).imp id (.imp bl id), d.T0, d.T1,
    ⟨d.fr.os, d.fr.tape, d.fr.output, d.fr.size, fun k hk hx => d.fr.keep k hk fun h => hx (bl h)⟩, fun b hb => (d.own b hb).imp bl id, fun q hq => by rw [d.same q (by rw [List.length_append]; omega), hρ q hq]⟩⟩
end Go.Aw
