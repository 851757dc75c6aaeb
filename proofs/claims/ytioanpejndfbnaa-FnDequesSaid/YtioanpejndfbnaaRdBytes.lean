/- Bytes, as a row's world holds them. -/
import Derived.Test.YtioanpejndfbnaaGoDraw
import Derived.Test.YtioanpejndfbnaaTyRd
namespace Go.Proofs.Ytioanpejndfbnaa
open Go.Aw Go.RowKit
theorem rd_bytes {H : Type} {enc : TypeId × Value → H} {w : World} {fuel : Nat} {x : DataW H × List MemPlace} {v : Value} (h : DataW.trod enc Try.prog w 0 (fun _ => true) true fuel 42 [v] = some x) : ∃ gs : List Int, gs.length ≤ maxLen ∧ D.rd (fun b => b < w.heap.size) w (.sl 1 (gs.map eByte)) v := by
  obtain ⟨gs, h1, -, h2⟩ := rd_slice (e := eByte) (F := fun _ => True) u_bytes c_u8 (by decide) (fun m _ cs y hy => by
    obtain ⟨n, rfl, -, -⟩ := DataW.trod_int u_u8 hy
    exact ⟨n, trivial, by unfold D.rd; rfl, trivial⟩) h
  exact ⟨gs, h1, h2⟩
theorem rd_bytes_v {H : Type} {enc : TypeId × Value → H} {w : World} {ds : DataW H} {p : List MemPlace} {a : Option Addr} {l c : Nat} (h : DataW.Trod enc Try.prog w 0 (fun _ => true) true 42 (.slice a l c) ds p) : ∃ g : List Int, g.length ≤ maxLen ∧ AV.den (fun b => b < w.heap.size) (fun b => b < w.heap.size) w (fun _ => none) (.one (.c (.sl true 1 (g.map eByte)))) (.slice a l c) := by
  obtain ⟨fuel, h⟩ := h
  obtain ⟨g, h1, h2⟩ := rd_bytes h
  exact ⟨g, h1, h2⟩
end Go.Proofs.Ytioanpejndfbnaa
