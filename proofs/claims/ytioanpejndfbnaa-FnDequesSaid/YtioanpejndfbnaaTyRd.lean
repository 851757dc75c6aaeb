/- What a row hands to a law, as data that is read. -/
import Derived.Test.YtioanpejndfbnaaTyBase
import Derived.ChangeArms
import Derived.ChangeSlices
namespace Go.Proofs.Ytioanpejndfbnaa
open Go.Aw Go.RowKit
set_option linter.unusedSimpArgs false
set_option linter.unusedVariables false

theorem len0 {α : Type} {l : List α} (h : l.length = 0) : l = [] := List.eq_nil_of_length_eq_zero h
theorem lenS {α : Type} {l : List α} {n : Nat} (h : l.length = n + 1) : ∃ a r, l = a :: r ∧ r.length = n := by
  cases l with
  | nil => simp at h
  | cons a r => exact ⟨a, r, rfl, by simpa using h⟩
theorem len1 {α : Type} {l : List α} (h : l.length = 1) : ∃ c0, l = [c0] := by
  obtain ⟨c0, r, rfl, hr⟩ := lenS h
  exact ⟨c0, by rw [len0 hr]⟩
theorem len2 {α : Type} {l : List α} (h : l.length = 2) : ∃ c0 c1, l = [c0, c1] := by
  obtain ⟨c0, r, rfl, hr⟩ := lenS h
  obtain ⟨c1, rfl⟩ := len1 hr
  exact ⟨c0, c1, rfl⟩
theorem len3 {α : Type} {l : List α} (h : l.length = 3) : ∃ c0 c1 c2, l = [c0, c1, c2] := by
  obtain ⟨c0, r, rfl, hr⟩ := lenS h
  obtain ⟨c1, c2, rfl⟩ := len2 hr
  exact ⟨c0, c1, c2, rfl⟩
theorem len4 {α : Type} {l : List α} (h : l.length = 4) : ∃ c0 c1 c2 c3, l = [c0, c1, c2, c3] := by
  obtain ⟨c0, r, rfl, hr⟩ := lenS h
  obtain ⟨c1, c2, c3, rfl⟩ := len3 hr
  exact ⟨c0, c1, c2, c3, rfl⟩
theorem len5 {α : Type} {l : List α} (h : l.length = 5) : ∃ c0 c1 c2 c3 c4, l = [c0, c1, c2, c3, c4] := by
  obtain ⟨c0, r, rfl, hr⟩ := lenS h
  obtain ⟨c1, c2, c3, c4, rfl⟩ := len4 hr
  exact ⟨c0, c1, c2, c3, c4, rfl⟩
theorem len6 {α : Type} {l : List α} (h : l.length = 6) : ∃ c0 c1 c2 c3 c4 c5, l = [c0, c1, c2, c3, c4, c5] := by
  obtain ⟨c0, r, rfl, hr⟩ := lenS h
  obtain ⟨c1, c2, c3, c4, c5, rfl⟩ := len5 hr
  exact ⟨c0, c1, c2, c3, c4, c5, rfl⟩
theorem len7 {α : Type} {l : List α} (h : l.length = 7) : ∃ c0 c1 c2 c3 c4 c5 c6, l = [c0, c1, c2, c3, c4, c5, c6] := by
  obtain ⟨c0, r, rfl, hr⟩ := lenS h
  obtain ⟨c1, c2, c3, c4, c5, c6, rfl⟩ := len6 hr
  exact ⟨c0, c1, c2, c3, c4, c5, c6, rfl⟩
theorem len8 {α : Type} {l : List α} (h : l.length = 8) : ∃ c0 c1 c2 c3 c4 c5 c6 c7, l = [c0, c1, c2, c3, c4, c5, c6, c7] := by
  obtain ⟨c0, r, rfl, hr⟩ := lenS h
  obtain ⟨c1, c2, c3, c4, c5, c6, c7, rfl⟩ := len7 hr
  exact ⟨c0, c1, c2, c3, c4, c5, c6, c7, rfl⟩
theorem len9 {α : Type} {l : List α} (h : l.length = 9) : ∃ c0 c1 c2 c3 c4 c5 c6 c7 c8, l = [c0, c1, c2, c3, c4, c5, c6, c7, c8] := by
  obtain ⟨c0, r, rfl, hr⟩ := lenS h
  obtain ⟨c1, c2, c3, c4, c5, c6, c7, c8, rfl⟩ := len8 hr
  exact ⟨c0, c1, c2, c3, c4, c5, c6, c7, c8, rfl⟩
theorem len10 {α : Type} {l : List α} (h : l.length = 10) : ∃ c0 c1 c2 c3 c4 c5 c6 c7 c8 c9, l = [c0, c1, c2, c3, c4, c5, c6, c7, c8, c9] := by
  obtain ⟨c0, r, rfl, hr⟩ := lenS h
  obtain ⟨c1, c2, c3, c4, c5, c6, c7, c8, c9, rfl⟩ := len9 hr
  exact ⟨c0, c1, c2, c3, c4, c5, c6, c7, c8, c9, rfl⟩
theorem len11 {α : Type} {l : List α} (h : l.length = 11) : ∃ c0 c1 c2 c3 c4 c5 c6 c7 c8 c9 c10, l = [c0, c1, c2, c3, c4, c5, c6, c7, c8, c9, c10] := by
  obtain ⟨c0, r, rfl, hr⟩ := lenS h
  obtain ⟨c1, c2, c3, c4, c5, c6, c7, c8, c9, c10, rfl⟩ := len10 hr
  exact ⟨c0, c1, c2, c3, c4, c5, c6, c7, c8, c9, c10, rfl⟩
theorem len12 {α : Type} {l : List α} (h : l.length = 12) : ∃ c0 c1 c2 c3 c4 c5 c6 c7 c8 c9 c10 c11, l = [c0, c1, c2, c3, c4, c5, c6, c7, c8, c9, c10, c11] := by
  obtain ⟨c0, r, rfl, hr⟩ := lenS h
  obtain ⟨c1, c2, c3, c4, c5, c6, c7, c8, c9, c10, c11, rfl⟩ := len11 hr
  exact ⟨c0, c1, c2, c3, c4, c5, c6, c7, c8, c9, c10, c11, rfl⟩
/-- Cells, read. -/
def rdL (w : World) : List D → List Value → Prop
  | [], [] => True
  | d :: ds, v :: vs => D.rd (fun b => b < w.heap.size) w d v ∧ rdL w ds vs
  | _, _ => False
theorem rdL_len {w : World} : ∀ {ds : List D} {vs : List Value}, rdL w ds vs → ds.length = vs.length
  | [], [], _ => rfl
  | d :: ds, v :: vs, h => by simp [rdL_len h.2]
  | [], _ :: _, h => h.elim
  | _ :: _, [], h => h.elim
theorem rdL_dens {w : World} {ρ : Map} : ∀ {ds : List D} {vs : List Value} {cs : List C}, rdL w ds vs → cs = ds.map (D.toC true) → dens (fun b => b < w.heap.size) (fun b => b < w.heap.size) w ρ cs vs
  | [], [], _, _, e => by subst e; trivial
  | d :: ds, v :: vs, _, h, e => by subst e; exact ⟨D.toC_den (lv := true) h.1, rdL_dens h.2 rfl⟩
  | [], _ :: _, _, h, _ => h.elim
  | _ :: _, [], _, h, _ => h.elim
theorem cell_block' {w : World} {a : Addr} {v : Value} (h : w.cell? a = some v) : a.spot = none ∧ a.block < w.heap.size := by
  unfold World.cell? at h
  split at h
  · rename_i c t m hc
    split at h
    · cases h
    · rename_i hs
      exact ⟨by simpa using hs, (Array.getElem?_eq_some_iff.1 hc).1⟩
  · cases h
theorem rdL_cells {w : World} {b : Nat} (hb : b < w.heap.size) : ∀ {ds : List D} {vs : List Value} {o : Nat}, rdL w ds vs → (∀ j u, vs[j]? = some u → w.cell? ⟨b, o + j, none⟩ = some u) → D.rdCells (fun b => b < w.heap.size) w b o ds
  | [], _, _, _, _ => by unfold D.rdCells; trivial
  | d :: ds, [], _, h, _ => h.elim
  | d :: ds, v :: vs, o, h, hc => by
    unfold D.rdCells
    refine ⟨⟨v, hb, hc 0 v rfl, h.1⟩, rdL_cells hb h.2 fun j u hj => ?_⟩
    have := hc (j + 1) u (by simpa using hj)
    rwa [show o + (j + 1) = o + 1 + j by omega] at this
theorem rdRows_of {w : World} {b sz : Nat} {α : Type} {e : α → List D} : ∀ (gs : List α) (o : Nat), (∀ (i : Nat) (h : i < gs.length), D.rdCells (fun b => b < w.heap.size) w b (o + i * sz) (e gs[i]) ∧ (e gs[i]).length = sz) → D.rdRows (fun b => b < w.heap.size) w sz b o (gs.map e)
  | [], _, _ => by unfold D.rdRows; trivial
  | g :: gs, o, h => by
    simp only [List.map_cons]
    unfold D.rdRows
    have h0 := h 0 (by simp)
    simp only [List.getElem_cons_zero, Nat.zero_mul, Nat.add_zero] at h0
    refine ⟨h0.1, h0.2, rdRows_of gs (o + sz) fun i hi => ?_⟩
    have := h (i + 1) (by simpa using hi)
    simp only [List.getElem_cons_succ] at this
    rwa [show o + (i + 1) * sz = o + sz + i * sz by rw [Nat.add_mul]; omega] at this
/-- A list, chosen place by place. -/
theorem pick_list {α : Type} {p : Nat → α → Prop} : ∀ (n : Nat), (∀ i, i < n → ∃ g, p i g) → ∃ gs : List α, gs.length = n ∧ ∀ (i : Nat) (h : i < gs.length), p i gs[i]
  | 0, _ => ⟨[], rfl, fun i h => by simp at h⟩
  | n + 1, h => by
    obtain ⟨gs, hl, hg⟩ := pick_list n fun i hi => h i (by omega)
    obtain ⟨g, hgn⟩ := h n (by omega)
    refine ⟨gs ++ [g], by simp [hl], fun i hi => ?_⟩
    by_cases e : i < gs.length
    · rw [List.getElem_append_left e]; exact hg i e
    · simp at hi
      have : i = n := by omega
      subst this
      rw [List.getElem_append_right (by omega)]
      simpa using hgn
section
variable {H : Type} {enc : TypeId × Value → H} {P : Program} {w : World}
theorem rd_slice {α : Type} {e : α → List D} {F : α → Prop} {t et : TypeId} {sz fuel : Nat} {x : DataW H × List MemPlace} {v : Value} (ht : P.underlying t = some (.slice et)) (hc : P.cellsOf et = sz) (hsz : 0 < sz)
    (hel : ∀ m, m < fuel → ∀ cs y, DataW.trod enc P w 0 (fun _ => true) true m et cs = some y → ∃ g, F g ∧ rdL w (e g) cs) (h : DataW.trod enc P w 0 (fun _ => true) true fuel t [v] = some x) :
    ∃ gs : List α, gs.length ≤ maxLen ∧ (∀ g ∈ gs, F g) ∧ D.rd (fun b => b < w.heap.size) w (.sl sz (gs.map e)) v := by
  rcases DataW.trod_slice ht h with ⟨hcs, _⟩ | ⟨a, len, cap, elems, rest, n, rfl, hcs, -, hb, hl, hm, hlen, hels, -, -⟩
  · cases hcs
    refine ⟨[], by simp, by simp, ?_⟩
    unfold D.rd
    exact ⟨none, 0, rfl, by simp, .inl rfl⟩
  · cases hcs
    obtain ⟨gs, hgl, hgs⟩ := pick_list (p := fun i (g : α) => F g ∧ (e g).length = sz ∧ ∃ vs, rdL w (e g) vs ∧ ∀ j u, vs[j]? = some u → w.cell? ((a.add (i * sz)).add j) = some u) len (fun i hi => by
      have h1 := hels i hi
      rw [List.getElem?_eq_getElem (by omega), Option.bind_eq_some_iff] at h1
      obtain ⟨cs, hcs, hy⟩ := h1
      obtain ⟨g, hF, hr⟩ := hel n (Nat.lt_succ_self n) cs _ hy
      obtain ⟨-, hcl, hcell⟩ := World.cells?_some hcs
      rw [hc] at hcl hcell
      refine ⟨g, hF, by rw [rdL_len hr, hcl], cs, hr, fun j u hj => ?_⟩
      have hj' := (List.getElem?_eq_some_iff.1 hj).1
      rw [hcell j (by omega), hj])
    refine ⟨gs, by omega, fun g hg => ?_, ?_⟩
    · obtain ⟨i, hi, rfl⟩ := List.mem_iff_getElem.1 hg
      exact (hgs i hi).1
    · unfold D.rd
      have hl' : (gs.map e).length = len := by simp [hgl]
      refine ⟨some a, cap, by rw [hl'], by rw [hl']; exact hl, ?_⟩
      by_cases h0 : len = 0
      · exact .inl (by simpa using (show gs = [] from List.eq_nil_of_length_eq_zero (by omega)))
      · right
        obtain ⟨-, h2, vs, h3, h4⟩ := hgs 0 (by omega)
        have hvl := rdL_len h3
        have hc0 := h4 0 (vs[0]'(by omega)) (List.getElem?_eq_getElem (by omega))
        obtain ⟨b, o, s⟩ := a
        have hs : s = none ∧ b < w.heap.size := by
          have := cell_block' hc0
          cases s with
          | none => exact ⟨rfl, by simpa [Addr.add] using this.2⟩
          | some q => simp [Addr.add] at this
        obtain ⟨rfl, hbs⟩ := hs
        refine ⟨b, o, rfl, rdRows_of gs o fun i hi => ?_⟩
        obtain ⟨-, h5, us, h6, h7⟩ := hgs i hi
        refine ⟨rdL_cells hbs h6 fun j u hj => ?_, h5⟩
        have := h7 j u hj
        rwa [add_at, add_at] at this
theorem rd_ints {fuel : Nat} {x : DataW H × List MemPlace} {v : Value} (h : DataW.trod enc Try.prog w 0 (fun _ => true) true fuel 29 [v] = some x) : ∃ gs : List Int, gs.length ≤ maxLen ∧ D.rd (fun b => b < w.heap.size) w (.sl 1 (gs.map eInt)) v := by
  obtain ⟨gs, h1, -, h2⟩ := rd_slice (e := eInt) (F := fun _ => True) u_ints c_int (by decide) (fun m _ cs y hy => by
    obtain ⟨n, rfl, -, -⟩ := DataW.trod_int u_int hy
    exact ⟨n, trivial, by unfold D.rd; rfl, trivial⟩) h
  exact ⟨gs, h1, h2⟩
theorem rd_ints_v {ds : DataW H} {p : List MemPlace} {a : Option Addr} {l c : Nat} (h : DataW.Trod enc Try.prog w 0 (fun _ => true) true 29 (.slice a l c) ds p) : ∃ g : List Int, fIntS g ∧ AV.den (fun b => b < w.heap.size) (fun b => b < w.heap.size) w (fun _ => none) (.one (.c (.sl true 1 (g.map eInt)))) (.slice a l c) := by
  obtain ⟨fuel, h⟩ := h
  obtain ⟨g, h1, h2⟩ := rd_ints h
  exact ⟨g, h1, h2⟩
end
theorem rd_strs {H : Type} {enc : TypeId × Value → H} {w : World} {fuel : Nat} {x : DataW H × List MemPlace} {v : Value} (h : DataW.trod enc Try.prog w 0 (fun _ => true) true fuel 72 [v] = some x) : ∃ gs : List ByteArray, gs.length ≤ maxLen ∧ (∀ g ∈ gs, g.size ≤ maxLen) ∧ D.rd (fun b => b < w.heap.size) w (.sl 1 (gs.map eStr)) v := rd_slice (e := eStr) (F := fun g => g.size ≤ maxLen) u_strs c_str (by decide) (fun m _ cs y hy => by obtain ⟨n, rfl, -, hs⟩ := DataW.trod_string u_str hy; exact ⟨n, hs, by unfold D.rd; rfl, trivial⟩) h
end Go.Proofs.Ytioanpejndfbnaa
