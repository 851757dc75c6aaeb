/- The row of Shift: for every race and every two numbers the program's Shift tells the reference's race. -/
import Derived.Test.YtioanpejndfbnaaRows
import Derived.Test.YtioanpejndfbnaaPFnExactShiftx1
import Derived.Lib.SmallJoins
import Derived.WalkKit
import Derived.ProofKit
import Derived.OpenShut
import Derived.ShutString
import Derived.ChangeOld
import Derived.Below
import Derived.SizedLaws
namespace Go.Proofs.Ytioanpejndfbnaa.fnExactShift
open Go.ChangeShapes Go.WideShapes Go.ChangeAt Go.RowKit
open Go.ChangeMaps (open_string shut_string)
set_option linter.unusedVariables false
theorem laidOut : laidOutB Try.prog = true := by kernel_rfl
open PFnExactShift in
theorem pure_shift (x0 x1 x2 a b : Int) : laws_FnExactShift.f 1 x0 x1 x2 a b = some true := by
  have key : spec_Shift.f 1 x0 x1 x2 a b = impl_Shift.f x0 x1 x2 a b := by
    unfold spec_Shift.f impl_Shift.f
    simp only [spec_Shift.j0]
    by_cases h1 : x1 ≥ a
    · rw [if_pos h1, if_pos h1]
      by_cases h2 : x2 ≥ a
      · rw [if_pos h2, if_pos h2]; unfold Go.Proofs.YtioanpejndfbnaaW.PrintWords.mn Go.Proofs.YtioanpejndfbnaaW.PrintWords.mx
        by_cases h3 : wrap64 (x1 + b) > wrap64 (x2 + b)
        · rw [if_pos h3, if_pos (by omega), if_neg (by omega)]
        · rw [if_neg h3, if_neg (by omega)]; split
          · rfl
          · rw [show wrap64 (x1 + b) = wrap64 (x2 + b) by omega]
      · rw [if_neg h2, if_neg h2]; unfold Go.Proofs.YtioanpejndfbnaaW.PrintWords.mn Go.Proofs.YtioanpejndfbnaaW.PrintWords.mx
        by_cases h3 : wrap64 (x1 + b) > x2
        · rw [if_pos h3, if_pos (by omega), if_neg (by omega)]
        · rw [if_neg h3, if_neg (by omega)]; split
          · rfl
          · rw [show wrap64 (x1 + b) = x2 by omega]
    · rw [if_neg h1, if_neg h1]
      by_cases h2 : x2 ≥ a
      · rw [if_pos h2, if_pos h2]; unfold Go.Proofs.YtioanpejndfbnaaW.PrintWords.mn Go.Proofs.YtioanpejndfbnaaW.PrintWords.mx
        by_cases h3 : x1 > wrap64 (x2 + b)
        · rw [if_pos h3, if_pos (by omega), if_neg (by omega)]
        · rw [if_neg h3, if_neg (by omega)]; split
          · rfl
          · rw [show x1 = wrap64 (x2 + b) by omega]
      · rw [if_neg h2, if_neg h2]; unfold Go.Proofs.YtioanpejndfbnaaW.PrintWords.mn Go.Proofs.YtioanpejndfbnaaW.PrintWords.mx
        by_cases h3 : x1 > x2
        · rw [if_pos h3, if_pos (by omega), if_neg (by omega)]
        · rw [if_neg h3, if_neg (by omega)]; split
          · rfl
          · rw [show x1 = x2 by omega]
  unfold laws_FnExactShift.f laws_toRace.f
  simp only [Option.bind_some]
  rw [key]
  have : ∃ r, impl_Shift.f x0 x1 x2 a b = some r := by
    unfold impl_Shift.f; split <;> split <;> exact ⟨_, rfl⟩
  obtain ⟨r, hr⟩ := this
  rw [hr]; simp [laws_eqRace.f]
theorem own : ownKnob Try.prog.godebug = none := by kernel_rfl
set_option maxRecDepth 100000 in
theorem lifted (os : Os) (started : os.Started) (H : Type) (enc : TypeId × Value → H) :
    ReturnsInHanded {} Try.checked os 3 .any (Rows.fnExactShiftSpec.pre6 enc Try.prog Try.f3 Rows.fnExactShiftRow.domain false) (Rows.fnExactShiftSpec.post enc Try.prog Try.f3 false true false false) := by
  refine returnsInHanded_of_change_sized (C := Try.checked) own started (by kernel_rfl) Try.func3
    (ChangeSpec.witness6 (enc := enc) (C := Try.checked) false ⟨#[], #[.agg #[.int .i64 0, .int .i64 0, .int .i64 0], .int .i64 0, .int .i64 0], []⟩ 8 (by kernel_rfl) (by kernel_rfl) (by kernel_rfl) (by kernel_rfl)) ?_
  intro W base args ds gs before hval0 hW hcnd hsz0 _
  have hsz : (DataW.weightsEach Try.prog (Try.f3.params.toList ++ Rows.fnExactShiftSpec.plain.varTypes Try.prog) (ds ++ gs)).all (· ≤ reachBytes) = true := hsz0
  have hval : ∀ (j : Nat) t v, Try.f3.params[j]? = some t → args[j]? = some v → Value.okWide Try.prog W .any base t v := hval0
  have hW' := hW
  obtain ⟨p, q, hA0, hV, rfl, hfz, hnd⟩ := hW
  have hA : DataW.TrodAll enc Try.prog W 0 (fun _ => true) true Try.f3.params.toList args.toList ds p := hA0
  rw [Try.params3] at hA hval hsz
  obtain ⟨v0, vs0, d0, ds0, p0, q0, hargs, rfl, rfl, h0, r0⟩ := trodAll_cons hA
  obtain ⟨v1, vs1, d1, ds1, p1, q1, rfl, rfl, rfl, h1, r1⟩ := trodAll_cons r0
  obtain ⟨v2, vs2, d2, ds2, p2, q2, rfl, rfl, rfl, h2, r2⟩ := trodAll_cons r1
  obtain ⟨rfl, rfl, rfl⟩ := trodAll_nil r2
  obtain rfl : args = #[v0, v1, v2] := by cases args; simp_all
  obtain ⟨rfl, rfl⟩ := trodVars_none hV
  have k0 := h0
  have lt0 : ∀ x ∈ p0, x.block < W.heap.size := by obtain ⟨m, hm⟩ := k0; exact DataW.trod_lt m _ _ _ hm
  obtain ⟨c0, c1, c2, y0, y1, y2, n, rfl, _, _, hy0, hy1, hy2⟩ := Go.Joins.open_agg3 Try.underlying23 (by kernel_rfl) (by kernel_rfl) (hval 0 23 v0 rfl rfl) h0
  obtain ⟨x0, e0, _, _⟩ := DataW.trod_int Try.underlying3 hy0
  obtain ⟨x1, e1, _, _⟩ := DataW.trod_int Try.underlying3 hy1
  obtain ⟨x2, e2, _, _⟩ := DataW.trod_int Try.underlying3 hy2
  simp only [List.cons.injEq, and_true] at e0 e1 e2
  subst e0 e1 e2
  obtain ⟨a1, rfl, rfl, rfl, w1⟩ := open_int Try.underlying3 (hval 1 3 v1 rfl rfl) h1
  obtain ⟨a2, rfl, rfl, rfl, w2⟩ := open_int Try.underlying3 (hval 2 3 v2 rfl rfl) h2
  clear hA0 hval0 hsz0 hsz
  refine (PFnExactShift.laws_FnExactShift.calls 1 x0 x1 x2 a1 a2 true W (pure_shift x0 x1 x2 a1 a2)).mono fun e W' ⟨he, bel⟩ => ?_
  subst he
  exact ⟨_, rfl, _, _, _, [], _, [], hW', trodAll_mk1 (shut_bool Try.underlying4 _), (trodAll_cons_mk (Below.trod laidOut (by kernel_rfl) (of_decide_eq_true (by kernel_rfl)) k0 bel lt0) (trodAll_cons_mk (shut_int Try.underlying3 w1) (trodAll_cons_mk (shut_int Try.underlying3 w2) trodAll_mk0))), rfl, bel.frame _, fun h => by cases h⟩
theorem over : Rows.fnExactShiftRow.holds Try.pinned (OpenSpec.ofChange Rows.fnExactShiftSpec) :=
  OpenClaim.holds_of_wide 3 Try.f3 rfl rfl rfl rfl rfl rfl rfl ⟨rfl, rfl, rfl, rfl, rfl⟩ rfl rfl rfl rfl rfl (by kernel_rfl) Try.func3 (by kernel_rfl)
    (of_decide_eq_true (by kernel_rfl)) (by unfold Func.isWrapper; first | (rw [if_pos (by decide +kernel)]; kernel_rfl) | (rw [if_neg (by decide +kernel)]; exact ⟨rfl, rfl⟩))
    (fun os started H enc _ => lifted os started H enc)
theorem proved : Rows.FnExactShiftSaid := over
end Go.Proofs.Ytioanpejndfbnaa.fnExactShift
namespace Go.Proofs.Ytioanpejndfbnaa
/-- The row, under a short name, for the claim. -/
theorem fnExactShift_holds : Rows.FnExactShiftSaid := fnExactShift.proved
end Go.Proofs.Ytioanpejndfbnaa
