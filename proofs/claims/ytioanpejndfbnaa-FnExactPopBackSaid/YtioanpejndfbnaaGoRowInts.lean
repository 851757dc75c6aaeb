/- A []int that a row hands to a law, as data that is read. -/
import Derived.Test.YtioanpejndfbnaaGoIntS
import Derived.Test.YtioanpejndfbnaaAwW
namespace Go.Proofs.Ytioanpejndfbnaa
open Go.Aw Go.RowKit
set_option linter.unusedSimpArgs false
set_option linter.unusedVariables false

/-- What a row's opening tells of a []int. -/
def IsInts (w : World) (a : Option Addr) (len cap : Nat) (zs : List Int) : Prop :=
  (a = none ∧ len = 0 ∧ cap = 0) ∨ ∃ x, a = some x ∧ len ≤ cap ∧ len ≤ zs.length ∧ ∀ i, i < zs.length → w.cell? (x.add i) = some (.int .i64 (zs.getD i 0))
theorem cell_block {w : World} {a : Addr} {v : Value} (h : w.cell? a = some v) : a.spot = none ∧ a.block < w.heap.size := by
  unfold World.cell? at h
  split at h
  · rename_i c t m hc
    split at h
    · cases h
    · rename_i hs
      exact ⟨by simpa using hs, (Array.getElem?_eq_some_iff.1 hc).1⟩
  · cases h
theorem rd_ints {w : World} {b : Nat} (hb : b < w.heap.size) : ∀ (xs : List Int) (o : Nat), (∀ i, i < xs.length → w.cell? ⟨b, o + i, none⟩ = some (.int .i64 (xs.getD i 0))) → D.rdRows (fun b => b < w.heap.size) w 1 b o (intsD xs)
  | [], o, _ => by unfold intsD D.rdRows; trivial
  | x :: xs, o, h => by
    have h0 := h 0 (by simp)
    show D.rdRows _ w 1 b o ([.int .i64 x] :: intsD xs)
    unfold D.rdRows
    refine ⟨?_, rfl, rd_ints hb xs (o + 1) fun i hi => ?_⟩
    · unfold D.rdCells
      refine ⟨⟨.int .i64 x, hb, by simpa using h0, by unfold D.rd; rfl⟩, by unfold D.rdCells; trivial⟩
    · have := h (i + 1) (by simpa using hi)
      rw [show o + (i + 1) = o + 1 + i by omega] at this
      simpa using this
theorem IsInts.rd {w : World} {a : Option Addr} {len cap : Nat} {zs : List Int} (h : IsInts w a len cap zs) : D.rd (fun b => b < w.heap.size) w (.sl 1 (intsD (zs.take len))) (.slice a len cap) := by
  unfold D.rd
  rcases h with ⟨rfl, rfl, rfl⟩ | ⟨x, rfl, h1, h2, h3⟩
  · exact ⟨none, 0, rfl, by simp [intsD], .inl (by simp [intsD])⟩
  · have hl : (intsD (zs.take len)).length = len := by simp [intsD]; omega
    refine ⟨some x, cap, by rw [hl], by rw [hl]; exact h1, ?_⟩
    by_cases h0 : len = 0
    · subst h0; exact .inl (by simp [intsD])
    · right
      have hc := h3 0 (by omega)
      obtain ⟨hs, hb⟩ := cell_block hc
      obtain ⟨xb, xo, xs⟩ := x
      have hs' : xs = none := by
        cases xs with
        | none => rfl
        | some q => simp [Addr.add] at hs
      subst hs'
      rw [add_at] at hb
      refine ⟨xb, xo, rfl, rd_ints hb _ _ fun i hi => ?_⟩
      simp at hi
      have hi : i < len ∧ i < zs.length := by omega
      have := h3 i hi.2
      rw [add_at] at this
      rw [this]
      simp [List.getElem?_take, show i < len by omega]
end Go.Proofs.Ytioanpejndfbnaa
