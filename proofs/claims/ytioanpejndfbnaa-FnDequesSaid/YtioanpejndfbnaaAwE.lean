/- An abstract memory over the model: each operation's step, and that it is one. -/
import Derived.Test.YtioanpejndfbnaaAwD
import Derived.Laws.MakeOwn
import Derived.Laws.AppendOwn
import Derived.Laws.Strings
namespace Go.Aw
open Go.RowKit
set_option linter.unusedSimpArgs false
set_option linter.unusedVariables false

theorem info_of_under {P : Program} {t : TypeId} {d : TypeDesc} (h : P.underlying t = some d) : ∃ i, P.info? t = some i ∧ P.cellsOf t = i.size ∧ P.bytesOf t = i.bytes := by
  unfold Program.underlying at h
  cases hi : P.info? t with
  | none => rw [hi] at h; simp at h
  | some i => exact ⟨i, rfl, by simp [Program.cellsOf, hi], by simp [Program.bytesOf, hi]⟩

/-! #### two numbers, two texts -/
def bits (op : BinOp) (k : IntKind) (x y : Int) : Int :=
  let a := BitVec.ofInt k.bits x
  let b := BitVec.ofInt k.bits y
  match op with
  | .and => k.wrap (a &&& b).toNat
  | .or => k.wrap (a ||| b).toNat
  | .xor => k.wrap (a ^^^ b).toNat
  | .andNot => k.wrap (a &&& ~~~b).toNat
  | _ => 0
def binI (op : BinOp) (k k' : IntKind) (x y : Int) : Option C :=
  match op with
  | .shl => if 0 ≤ y then some (.i k (k.wrap (x * 2 ^ min y.toNat k.bits))) else none
  | .shr => if 0 ≤ y then some (.i k (x.fdiv (2 ^ min y.toNat k.bits))) else none
  | .add => if k = k' then some (.i k (k.wrap (x + y))) else none
  | .sub => if k = k' then some (.i k (k.wrap (x - y))) else none
  | .mul => if k = k' then some (.i k (k.wrap (x * y))) else none
  | .quo => if k = k' then (if y = 0 then none else some (.i k (k.wrap (x.tdiv y)))) else none
  | .rem => if k = k' then (if y = 0 then none else some (.i k (x.tmod y))) else none
  | .and => if k = k' then some (.i k (bits .and k x y)) else none
  | .or => if k = k' then some (.i k (bits .or k x y)) else none
  | .xor => if k = k' then some (.i k (bits .xor k x y)) else none
  | .andNot => if k = k' then some (.i k (bits .andNot k x y)) else none
  | .eql => if k = k' then some (.b (decide (x = y))) else none
  | .neq => if k = k' then some (.b (!decide (x = y))) else none
  | .lss => if k = k' then some (.b (decide (x < y))) else none
  | .leq => if k = k' then some (.b (decide (x ≤ y))) else none
  | .gtr => if k = k' then some (.b (decide (y < x))) else none
  | .geq => if k = k' then some (.b (decide (y ≤ x))) else none
theorem run_binI {P : Program} {w : World} {op : BinOp} {k k' : IntKind} {x y : Int} {c : C} (h : binI op k k' x y = some c) (t : TypeId) (ox oy : Operand) :
    ∃ v, ((do eqGuard op t ox oy (.int k x) (.int k' y); binOp op t (.int k x) (.int k' y)) : Sem Value).run P w = .ok v w ∧ ∀ S T ρ, c.den S T w ρ v := by
  cases op <;> simp only [binI] at h <;> (repeat' split at h) <;> (try (cases h; done)) <;> (cases h) <;>
    first
      | (refine ⟨_, ?_, fun _ _ _ => rfl⟩; subst_vars; simp [eqGuard, binOp, Op.intArith, Op.intDiv, Op.intBits, Op.intCmp, Op.shift, bits, *]; done)
      | (refine ⟨_, ?_, fun _ _ _ => rfl⟩; subst_vars; simp [eqGuard, binOp, Op.intArith, Op.intDiv, Op.intBits, Op.intCmp, Op.shift, bits, *]; (try rw [Bool.eq_iff_iff]); simp; (try omega))
      | (refine ⟨_, ?_, fun _ _ _ => rfl⟩; simp [eqGuard, binOp, Op.shift]; intro hy; omega)

theorem toList_loop (b : ByteArray) : ∀ (n i : Nat) (r : List UInt8), b.size - i = n → ByteArray.toList.loop b i r = r.reverse ++ b.data.toList.drop i := by
  intro n
  induction n with
  | zero =>
    intro i r h
    unfold ByteArray.toList.loop
    rw [if_neg (by omega), List.drop_of_length_le (by show b.data.size ≤ i; have : b.size = b.data.size := rfl; omega), List.append_nil]
  | succ n ih =>
    intro i r h
    unfold ByteArray.toList.loop
    have hlt : i < b.data.size := by have : b.size = b.data.size := rfl; omega
    rw [if_pos (by omega), ih (i + 1) _ (by omega)]
    rw [List.drop_eq_getElem_cons (show i < b.data.toList.length by simpa using hlt)]
    have : b.get! i = b.data[i] := by
      simp only [ByteArray.get!]
      rw [getElem!_pos b.data i hlt]
    simp [this]
theorem toList_data (b : ByteArray) : b.toList = b.data.toList := by
  unfold ByteArray.toList
  rw [toList_loop b b.size 0 [] (by omega)]; simp
theorem str_eq (x y : ByteArray) : (x.toList == y.toList) = decide (x = y) := by
  rw [Bool.eq_iff_iff, beq_iff_eq, decide_eq_true_iff, toList_data, toList_data]
  constructor
  · intro h
    cases x; cases y
    simp at h ⊢
    exact h
  · rintro rfl; rfl

def binS (op : BinOp) (x y : ByteArray) : Option C :=
  match op with
  | .add => if x.size + y.size ≤ 9223372036854775807 then some (.s (x ++ y)) else none
  | .eql => some (.b (decide (x = y)))
  | .neq => some (.b (!decide (x = y)))
  | _ => none
theorem run_binS {P : Program} {w : World} {op : BinOp} {x y : ByteArray} {c : C} (h : binS op x y = some c) (t : TypeId) (ox oy : Operand) :
    ∃ v, ((do eqGuard op t ox oy (.string x) (.string y); binOp op t (.string x) (.string y)) : Sem Value).run P w = .ok v w ∧ ∀ S T ρ, c.den S T w ρ v := by
  cases op <;> simp only [binS] at h <;> (try (cases h; done))
  · split at h
    · rename_i hb
      cases h
      refine ⟨_, ?_, fun _ _ _ => rfl⟩
      have : ¬ (((x.size + y.size : Nat) : Int) > IntKind.i64.max) := by
        have e : IntKind.i64.max = 9223372036854775807 := by decide
        rw [e]; omega
      simp only [eqGuard, binOp, Op.stringOp, if_neg this]
      simp
    · cases h
  · cases h
    refine ⟨_, ?_, fun _ _ _ => rfl⟩
    simp [eqGuard, binOp, Op.stringOp, str_eq]
  · cases h
    refine ⟨_, ?_, fun _ _ _ => rfl⟩
    simp [eqGuard, binOp, Op.stringOp, str_eq]
end Go.Aw
