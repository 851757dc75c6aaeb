/- An abstract memory over the model: a call upon a world of which all may be read for good, that may leave some of its own. -/
import Derived.Test.YtioanpejndfbnaaAwZ
namespace Go.Aw
open Go.RowKit
set_option linter.unusedSimpArgs false
set_option linter.unusedVariables false

theorem AC.topd {P : Program} {f : FuncId} {args : List AV} {x : Bool} {H' : Heap} (h : AC P f args [] (.one (.c (.b x))) H') (hn : ∀ av ∈ args, av.names = []) (w : World) (vs : List Value)
    (hd : densA (fun b => b < w.heap.size) (fun b => b < w.heap.size) w (fun _ => none) args vs) : Calls P f vs.toArray w fun e w' => e = .returned (.bool x) ∧ Below w.heap.size w w' := by
  have g : Good (fun b => b < w.heap.size) (fun b => b < w.heap.size) (fun _ => none) w [] := by
    refine ⟨fun o ob ho => by simp at ho, ?_, ?_, fun b hb => hb, fun b hb => hb⟩
    · rintro o o' b c c' ⟨ob, h1, _⟩; simp at h1
    · rintro b ⟨o, c, ⟨ob, h1, _⟩, _⟩; simp at h1
  refine Calls.mono (h.2 (fun o ob ho => by simp at ho) (fun av hav n hnn => by rw [hn av hav] at hnn; simp at hnn) _ _ _ w vs g hd) ?_
  rintro e w' ⟨v, S', T', ρ', rfl, d⟩
  have hv : v = .bool x := d.res
  subst hv
  refine ⟨rfl, d.fr.os, d.fr.tape, d.fr.output, d.fr.size, fun k hk => d.fr.keep k hk ?_⟩
  rintro ⟨o, c, ⟨ob, h1, _⟩, _⟩
  simp at h1
end Go.Aw
