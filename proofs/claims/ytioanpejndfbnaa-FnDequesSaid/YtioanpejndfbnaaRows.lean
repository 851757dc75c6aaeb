/-
  NARROWER THAN 'FOR EVERY INPUT', by the rows' own cells (each row's printed sentence says how): FnExactSwapped: loops.
  DERIVED. THE GIVEN ROWS OF THIS SEAT. 10 by the template 'for every input the law returns true; each argument reads behind the call as it read before'; 0 by the template 'total and deterministic' (their statements: YtioanpejndfbnaaTotals.lean).
  GIVEN WITH THE SEED: the statements are not yours to turn. If you find one false, say at which input.
  Laid BY PROGRAM, IN A SANDBOX (cutbox-rows.mjs): the forced cells as the released guide's own fill.sh prints them over the translation 0d5f5424b812f1db… (all of the seat's roots in one cut). By AI agents, Wed Nov 11 2026. No macro, syntax, notation, axiom, sorry.
-/
import Derived.Test.YtioanpejndfbnaaChecked
import GoSem.Claim
import GoSem.ClaimJoined
import GoSem.ClaimMapViews
import Derived.JoinedTies
import Derived.KernelRfl
namespace Go.Proofs.Ytioanpejndfbnaa
/- THE CELL 'sum', in the pinned program and in every row, IS THE sha256 OF THE DUMP (.gsa) THAT YtioanpejndfbnaaProg.lean LOADS. Nothing in Lean hashes anything: it is a label: what it is worth is what the hold of that sum in a sandbox is worth. -/
noncomputable def Try.pinned : Pinned := { name := "ytioanpejndfbnaa", sum := "0d5f5424b812f1dbc357b6b2fb8bdf38358e8e006ed63177c5d2c3842f5e8f4b", checked := Try.checked }
namespace Rows
def none {H : Type} : Left H := { results := [], args := [] }

/-- 'laws.FnExactShift': WHATEVER THE INPUT: true; the input reads as it did. -/
def fnExactShiftSpec : ChangeSpec := { name := "fnExactShift", fn := fun _ => fun
  | [d1, d2, d3] => { results := [.lit (.bool true)], args := [d1, d2, d3] }
  | _ => none }
def fnExactShiftRow : OpenClaim := { program := "ytioanpejndfbnaa", sum := "0d5f5424b812f1dbc357b6b2fb8bdf38358e8e006ed63177c5d2c3842f5e8f4b", func := "loop.example/g00966/laws.FnExactShift", spec := "fnExactShift", apart := false }
def FnExactShiftSaid : Prop := fnExactShiftRow.holds Try.pinned (OpenSpec.ofChange fnExactShiftSpec)

/-- ITS FALSE NEIGHBOUR: 'it returns false'. Refute it at one input. -/
def fnExactShiftWrong : ChangeSpec := { name := "fnExactShift", fn := fun _ => fun
  | [d1, d2, d3] => { results := [.lit (.bool false)], args := [d1, d2, d3] }
  | _ => none }
def FnExactShiftWrongFalsely : Prop := fnExactShiftRow.holds Try.pinned (OpenSpec.ofChange fnExactShiftWrong)

/-- 'laws.FnExactRoundRobin': WHATEVER THE INPUT: true; the input reads as it did. -/
def fnExactRoundRobinSpec : ChangeSpec := { name := "fnExactRoundRobin", fn := fun _ => fun
  | [d1, d2] => { results := [.lit (.bool true)], args := [d1, d2] }
  | _ => none }
def fnExactRoundRobinRow : OpenClaim := { program := "ytioanpejndfbnaa", sum := "0d5f5424b812f1dbc357b6b2fb8bdf38358e8e006ed63177c5d2c3842f5e8f4b", func := "loop.example/g00966/laws.FnExactRoundRobin", spec := "fnExactRoundRobin", apart := false }
def FnExactRoundRobinSaid : Prop := fnExactRoundRobinRow.holds Try.pinned (OpenSpec.ofChange fnExactRoundRobinSpec)

/-- ITS FALSE NEIGHBOUR: 'it returns false'. Refute it at one input. -/
def fnExactRoundRobinWrong : ChangeSpec := { name := "fnExactRoundRobin", fn := fun _ => fun
  | [d1, d2] => { results := [.lit (.bool false)], args := [d1, d2] }
  | _ => none }
def FnExactRoundRobinWrongFalsely : Prop := fnExactRoundRobinRow.holds Try.pinned (OpenSpec.ofChange fnExactRoundRobinWrong)

/-- 'laws.FnExactPopBack': WHATEVER THE INPUT: true; the input reads as it did. -/
def fnExactPopBackSpec : ChangeSpec := { name := "fnExactPopBack", fn := fun _ => fun
  | [d] => { results := [.lit (.bool true)], args := [d] }
  | _ => none }
def fnExactPopBackRow : OpenClaim := { program := "ytioanpejndfbnaa", sum := "0d5f5424b812f1dbc357b6b2fb8bdf38358e8e006ed63177c5d2c3842f5e8f4b", func := "loop.example/g00966/laws.FnExactPopBack", spec := "fnExactPopBack", apart := false }
def FnExactPopBackSaid : Prop := fnExactPopBackRow.holds Try.pinned (OpenSpec.ofChange fnExactPopBackSpec)

/-- ITS FALSE NEIGHBOUR: 'it returns false'. Refute it at one input. -/
def fnExactPopBackWrong : ChangeSpec := { name := "fnExactPopBack", fn := fun _ => fun
  | [d] => { results := [.lit (.bool false)], args := [d] }
  | _ => none }
def FnExactPopBackWrongFalsely : Prop := fnExactPopBackRow.holds Try.pinned (OpenSpec.ofChange fnExactPopBackWrong)

/-- 'laws.FnExactPushBack': WHATEVER THE INPUT: true; the input reads as it did. -/
def fnExactPushBackSpec : ChangeSpec := { name := "fnExactPushBack", fn := fun _ => fun
  | [d1, d2] => { results := [.lit (.bool true)], args := [d1, d2] }
  | _ => none }
def fnExactPushBackRow : OpenClaim := { program := "ytioanpejndfbnaa", sum := "0d5f5424b812f1dbc357b6b2fb8bdf38358e8e006ed63177c5d2c3842f5e8f4b", func := "loop.example/g00966/laws.FnExactPushBack", spec := "fnExactPushBack", apart := false }
def FnExactPushBackSaid : Prop := fnExactPushBackRow.holds Try.pinned (OpenSpec.ofChange fnExactPushBackSpec)

/-- ITS FALSE NEIGHBOUR: 'it returns false'. Refute it at one input. -/
def fnExactPushBackWrong : ChangeSpec := { name := "fnExactPushBack", fn := fun _ => fun
  | [d1, d2] => { results := [.lit (.bool false)], args := [d1, d2] }
  | _ => none }
def FnExactPushBackWrongFalsely : Prop := fnExactPushBackRow.holds Try.pinned (OpenSpec.ofChange fnExactPushBackWrong)

/-- 'laws.FnExactFairIn': WHATEVER THE INPUT: true; the input reads as it did. -/
def fnExactFairInSpec : ChangeSpec := { name := "fnExactFairIn", fn := fun _ => fun
  | [d1, d2, d3] => { results := [.lit (.bool true)], args := [d1, d2, d3] }
  | _ => none }
def fnExactFairInRow : OpenClaim := { program := "ytioanpejndfbnaa", sum := "0d5f5424b812f1dbc357b6b2fb8bdf38358e8e006ed63177c5d2c3842f5e8f4b", func := "loop.example/g00966/laws.FnExactFairIn", spec := "fnExactFairIn", apart := false }
def FnExactFairInSaid : Prop := fnExactFairInRow.holds Try.pinned (OpenSpec.ofChange fnExactFairInSpec)

/-- ITS FALSE NEIGHBOUR: 'it returns false'. Refute it at one input. -/
def fnExactFairInWrong : ChangeSpec := { name := "fnExactFairIn", fn := fun _ => fun
  | [d1, d2, d3] => { results := [.lit (.bool false)], args := [d1, d2, d3] }
  | _ => none }
def FnExactFairInWrongFalsely : Prop := fnExactFairInRow.holds Try.pinned (OpenSpec.ofChange fnExactFairInWrong)

/-- 'laws.FnDeques': WHATEVER THE INPUT: true; the input reads as it did. -/
def fnDequesSpec : ChangeSpec := { name := "fnDeques", fn := fun _ => fun
  | [d] => { results := [.lit (.bool true)], args := [d] }
  | _ => none }
def fnDequesRow : OpenClaim := { program := "ytioanpejndfbnaa", sum := "0d5f5424b812f1dbc357b6b2fb8bdf38358e8e006ed63177c5d2c3842f5e8f4b", func := "loop.example/g00966/laws.FnDeques", spec := "fnDeques", apart := false }
def FnDequesSaid : Prop := fnDequesRow.holds Try.pinned (OpenSpec.ofChange fnDequesSpec)

/-- ITS FALSE NEIGHBOUR: 'it returns false'. Refute it at one input. -/
def fnDequesWrong : ChangeSpec := { name := "fnDeques", fn := fun _ => fun
  | [d] => { results := [.lit (.bool false)], args := [d] }
  | _ => none }
def FnDequesWrongFalsely : Prop := fnDequesRow.holds Try.pinned (OpenSpec.ofChange fnDequesWrong)

/-- 'laws.FnExactPlayDeque': WHATEVER THE INPUT: true; the input reads as it did. -/
def fnExactPlayDequeSpec : ChangeSpec := { name := "fnExactPlayDeque", fn := fun _ => fun
  | [d] => { results := [.lit (.bool true)], args := [d] }
  | _ => none }
def fnExactPlayDequeRow : OpenClaim := { program := "ytioanpejndfbnaa", sum := "0d5f5424b812f1dbc357b6b2fb8bdf38358e8e006ed63177c5d2c3842f5e8f4b", func := "loop.example/g00966/laws.FnExactPlayDeque", spec := "fnExactPlayDeque", apart := false }
def FnExactPlayDequeSaid : Prop := fnExactPlayDequeRow.holds Try.pinned (OpenSpec.ofChange fnExactPlayDequeSpec)

/-- ITS FALSE NEIGHBOUR: 'it returns false'. Refute it at one input. -/
def fnExactPlayDequeWrong : ChangeSpec := { name := "fnExactPlayDeque", fn := fun _ => fun
  | [d] => { results := [.lit (.bool false)], args := [d] }
  | _ => none }
def FnExactPlayDequeWrongFalsely : Prop := fnExactPlayDequeRow.holds Try.pinned (OpenSpec.ofChange fnExactPlayDequeWrong)

/-- 'laws.FnExactPushedIn': WHATEVER THE INPUT: true; the input reads as it did. -/
def fnExactPushedInSpec : ChangeSpec := { name := "fnExactPushedIn", fn := fun _ => fun
  | [d] => { results := [.lit (.bool true)], args := [d] }
  | _ => none }
def fnExactPushedInRow : OpenClaim := { program := "ytioanpejndfbnaa", sum := "0d5f5424b812f1dbc357b6b2fb8bdf38358e8e006ed63177c5d2c3842f5e8f4b", func := "loop.example/g00966/laws.FnExactPushedIn", spec := "fnExactPushedIn", apart := false }
def FnExactPushedInSaid : Prop := fnExactPushedInRow.holds Try.pinned (OpenSpec.ofChange fnExactPushedInSpec)

/-- ITS FALSE NEIGHBOUR: 'it returns false'. Refute it at one input. -/
def fnExactPushedInWrong : ChangeSpec := { name := "fnExactPushedIn", fn := fun _ => fun
  | [d] => { results := [.lit (.bool false)], args := [d] }
  | _ => none }
def FnExactPushedInWrongFalsely : Prop := fnExactPushedInRow.holds Try.pinned (OpenSpec.ofChange fnExactPushedInWrong)

/-- 'laws.FnExactCrewDone': WHATEVER THE INPUT: true; the input reads as it did. -/
def fnExactCrewDoneSpec : ChangeSpec := { name := "fnExactCrewDone", fn := fun _ => fun
  | [d] => { results := [.lit (.bool true)], args := [d] }
  | _ => none }
def fnExactCrewDoneRow : OpenClaim := { program := "ytioanpejndfbnaa", sum := "0d5f5424b812f1dbc357b6b2fb8bdf38358e8e006ed63177c5d2c3842f5e8f4b", func := "loop.example/g00966/laws.FnExactCrewDone", spec := "fnExactCrewDone", apart := false }
def FnExactCrewDoneSaid : Prop := fnExactCrewDoneRow.holds Try.pinned (OpenSpec.ofChange fnExactCrewDoneSpec)

/-- ITS FALSE NEIGHBOUR: 'it returns false'. Refute it at one input. -/
def fnExactCrewDoneWrong : ChangeSpec := { name := "fnExactCrewDone", fn := fun _ => fun
  | [d] => { results := [.lit (.bool false)], args := [d] }
  | _ => none }
def FnExactCrewDoneWrongFalsely : Prop := fnExactCrewDoneRow.holds Try.pinned (OpenSpec.ofChange fnExactCrewDoneWrong)

/-- 'laws.FnExactSwapped': WHATEVER THE INPUT: true; the input reads as it did. -/
def fnExactSwappedSpec : ChangeSpec := { name := "fnExactSwapped", fn := fun _ => fun
  | [d1, d2, d3] => { results := [.lit (.bool true)], args := [d1, d2, d3] }
  | _ => none }
def fnExactSwappedRow : OpenClaim := { program := "ytioanpejndfbnaa", sum := "0d5f5424b812f1dbc357b6b2fb8bdf38358e8e006ed63177c5d2c3842f5e8f4b", func := "loop.example/g00966/laws.FnExactSwapped", spec := "fnExactSwapped", recurses := true, loops := true, apart := false }
def FnExactSwappedSaid : Prop := fnExactSwappedRow.holds Try.pinned (OpenSpec.ofChange fnExactSwappedSpec)

/-- ITS FALSE NEIGHBOUR: 'it returns false'. Refute it at one input. -/
def fnExactSwappedWrong : ChangeSpec := { name := "fnExactSwapped", fn := fun _ => fun
  | [d1, d2, d3] => { results := [.lit (.bool false)], args := [d1, d2, d3] }
  | _ => none }
def FnExactSwappedWrongFalsely : Prop := fnExactSwappedRow.holds Try.pinned (OpenSpec.ofChange fnExactSwappedWrong)

/- THE SECOND FORM. 'bulk': how many values and letters a reading holds, each counted each time it is reached (what is shared counts as often as it is met; a slice's spare places count too). A statement '..UptoSaid' is the law's where the arguments, and the package variables that the reading takes, are together of bulk at most 1048576: NARROWER than '..Said'. Prove '..Said' where nothing that the law and all that it calls make is longer than what came in: it says more and counts as full. Else prove '..UptoSaid'. A law counts once. -/
mutual
def uptoBulk {H : Type} : DataW H → Nat
  | .lit (.string bytes) => bytes.length + 1
  | .lit _ => 1
  | .nil => 1
  | .ptr d => uptoBulk d + 1
  | .slice elems spare => uptoBulkAll elems + uptoBulkAll spare + 1
  | .agg parts => uptoBulkAll parts + 1
  | .iface _ d => uptoBulk d + 1
  | .map entries => uptoBulkEntries entries + 1
  | .held _ => 1
def uptoBulkAll {H : Type} : List (DataW H) → Nat
  | [] => 0
  | d :: r => uptoBulk d + uptoBulkAll r
def uptoBulkEntries {H : Type} : List (Lit × DataW H) → Nat
  | [] => 0
  | x :: r => uptoBulkEntry x + uptoBulkEntries r
def uptoBulkEntry {H : Type} : Lit × DataW H → Nat
  | (.string bytes, d) => bytes.length + uptoBulk d + 1
  | (_, d) => uptoBulk d + 1
 end
def uptoSmall : (H : Type) → List (DataW H) → Bool := fun _ ds => decide (uptoBulkAll ds ≤ 1048576)
def OpenSpec.upto (s : _root_.Go.ChangeSpec) : _root_.Go.OpenSpec := { _root_.Go.OpenSpec.ofChange s with cond := some uptoSmall }

/-- 'laws.FnExactShift', WHERE WHAT IT READS IS OF BULK AT MOST 1048576: true; the input reads as it did. -/
def fnExactShiftUptoRow : OpenClaim := { program := "ytioanpejndfbnaa", sum := "0d5f5424b812f1dbc357b6b2fb8bdf38358e8e006ed63177c5d2c3842f5e8f4b", func := "loop.example/g00966/laws.FnExactShift", spec := "fnExactShift", apart := false, narrowed := true }
def FnExactShiftUptoSaid : Prop := fnExactShiftUptoRow.holds Try.pinned (OpenSpec.upto fnExactShiftSpec)

/-- 'laws.FnExactRoundRobin', WHERE WHAT IT READS IS OF BULK AT MOST 1048576: true; the input reads as it did. -/
def fnExactRoundRobinUptoRow : OpenClaim := { program := "ytioanpejndfbnaa", sum := "0d5f5424b812f1dbc357b6b2fb8bdf38358e8e006ed63177c5d2c3842f5e8f4b", func := "loop.example/g00966/laws.FnExactRoundRobin", spec := "fnExactRoundRobin", apart := false, narrowed := true }
def FnExactRoundRobinUptoSaid : Prop := fnExactRoundRobinUptoRow.holds Try.pinned (OpenSpec.upto fnExactRoundRobinSpec)

/-- 'laws.FnExactPopBack', WHERE WHAT IT READS IS OF BULK AT MOST 1048576: true; the input reads as it did. -/
def fnExactPopBackUptoRow : OpenClaim := { program := "ytioanpejndfbnaa", sum := "0d5f5424b812f1dbc357b6b2fb8bdf38358e8e006ed63177c5d2c3842f5e8f4b", func := "loop.example/g00966/laws.FnExactPopBack", spec := "fnExactPopBack", apart := false, narrowed := true }
def FnExactPopBackUptoSaid : Prop := fnExactPopBackUptoRow.holds Try.pinned (OpenSpec.upto fnExactPopBackSpec)

/-- 'laws.FnExactPushBack', WHERE WHAT IT READS IS OF BULK AT MOST 1048576: true; the input reads as it did. -/
def fnExactPushBackUptoRow : OpenClaim := { program := "ytioanpejndfbnaa", sum := "0d5f5424b812f1dbc357b6b2fb8bdf38358e8e006ed63177c5d2c3842f5e8f4b", func := "loop.example/g00966/laws.FnExactPushBack", spec := "fnExactPushBack", apart := false, narrowed := true }
def FnExactPushBackUptoSaid : Prop := fnExactPushBackUptoRow.holds Try.pinned (OpenSpec.upto fnExactPushBackSpec)

/-- 'laws.FnExactFairIn', WHERE WHAT IT READS IS OF BULK AT MOST 1048576: true; the input reads as it did. -/
def fnExactFairInUptoRow : OpenClaim := { program := "ytioanpejndfbnaa", sum := "0d5f5424b812f1dbc357b6b2fb8bdf38358e8e006ed63177c5d2c3842f5e8f4b", func := "loop.example/g00966/laws.FnExactFairIn", spec := "fnExactFairIn", apart := false, narrowed := true }
def FnExactFairInUptoSaid : Prop := fnExactFairInUptoRow.holds Try.pinned (OpenSpec.upto fnExactFairInSpec)

/-- 'laws.FnDeques', WHERE WHAT IT READS IS OF BULK AT MOST 1048576: true; the input reads as it did. -/
def fnDequesUptoRow : OpenClaim := { program := "ytioanpejndfbnaa", sum := "0d5f5424b812f1dbc357b6b2fb8bdf38358e8e006ed63177c5d2c3842f5e8f4b", func := "loop.example/g00966/laws.FnDeques", spec := "fnDeques", apart := false, narrowed := true }
def FnDequesUptoSaid : Prop := fnDequesUptoRow.holds Try.pinned (OpenSpec.upto fnDequesSpec)

/-- 'laws.FnExactPlayDeque', WHERE WHAT IT READS IS OF BULK AT MOST 1048576: true; the input reads as it did. -/
def fnExactPlayDequeUptoRow : OpenClaim := { program := "ytioanpejndfbnaa", sum := "0d5f5424b812f1dbc357b6b2fb8bdf38358e8e006ed63177c5d2c3842f5e8f4b", func := "loop.example/g00966/laws.FnExactPlayDeque", spec := "fnExactPlayDeque", apart := false, narrowed := true }
def FnExactPlayDequeUptoSaid : Prop := fnExactPlayDequeUptoRow.holds Try.pinned (OpenSpec.upto fnExactPlayDequeSpec)

/-- 'laws.FnExactPushedIn', WHERE WHAT IT READS IS OF BULK AT MOST 1048576: true; the input reads as it did. -/
def fnExactPushedInUptoRow : OpenClaim := { program := "ytioanpejndfbnaa", sum := "0d5f5424b812f1dbc357b6b2fb8bdf38358e8e006ed63177c5d2c3842f5e8f4b", func := "loop.example/g00966/laws.FnExactPushedIn", spec := "fnExactPushedIn", apart := false, narrowed := true }
def FnExactPushedInUptoSaid : Prop := fnExactPushedInUptoRow.holds Try.pinned (OpenSpec.upto fnExactPushedInSpec)

/-- 'laws.FnExactCrewDone', WHERE WHAT IT READS IS OF BULK AT MOST 1048576: true; the input reads as it did. -/
def fnExactCrewDoneUptoRow : OpenClaim := { program := "ytioanpejndfbnaa", sum := "0d5f5424b812f1dbc357b6b2fb8bdf38358e8e006ed63177c5d2c3842f5e8f4b", func := "loop.example/g00966/laws.FnExactCrewDone", spec := "fnExactCrewDone", apart := false, narrowed := true }
def FnExactCrewDoneUptoSaid : Prop := fnExactCrewDoneUptoRow.holds Try.pinned (OpenSpec.upto fnExactCrewDoneSpec)

/-- 'laws.FnExactSwapped', WHERE WHAT IT READS IS OF BULK AT MOST 1048576: true; the input reads as it did. -/
def fnExactSwappedUptoRow : OpenClaim := { program := "ytioanpejndfbnaa", sum := "0d5f5424b812f1dbc357b6b2fb8bdf38358e8e006ed63177c5d2c3842f5e8f4b", func := "loop.example/g00966/laws.FnExactSwapped", spec := "fnExactSwapped", recurses := true, loops := true, apart := false, narrowed := true }
def FnExactSwappedUptoSaid : Prop := fnExactSwappedUptoRow.holds Try.pinned (OpenSpec.upto fnExactSwappedSpec)

end Rows
end Go.Proofs.Ytioanpejndfbnaa
