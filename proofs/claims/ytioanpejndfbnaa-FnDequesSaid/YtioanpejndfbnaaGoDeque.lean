/- Queues: what a play of ops does, of the program and of the reference. -/
import Derived.Test.YtioanpejndfbnaaGoPushBack
import Derived.Test.YtioanpejndfbnaaGoPopBack
import Derived.Test.YtioanpejndfbnaaTyDqOp
namespace Go.Proofs.Ytioanpejndfbnaa
open Go.Aw Go.RowKit
set_option linter.unusedSimpArgs false
set_option linter.unusedVariables false

def takeRes (p : Nat) (xs : List Int) : AV := .tup [.c (.i .i64 (if xs = [] then 0 else xs.getD 0 0)), .c (.os p 1 0 (xs.length - 1)), .c (.b (!decide (xs = [])))]
theorem intsD_drop (xs : List Int) (n : Nat) : (intsD xs).drop n = intsD (xs.drop n) := by simp [intsD, List.map_drop]
set_option maxRecDepth 4000 in
theorem specTakeFront_ac (H : Heap) (lv : Bool) (xs : List Int) (hl : xs.length ≤ 1048576) :
    AC Try.prog 85 [.one (.c (.sl lv 1 (intsD xs)))] H (takeRes H.length xs) (H ++ [.row 3 1 (intsC (xs.drop 1))]) := by
  refine AC.mkC 16 [.tmp 2, .tmp 3, .tmp 4] Try.func85 (by kernel_rfl) rfl rfl rfl (by simp) (by decide) fun hcl hca => ?_
  (repeat (first | (with_reducible first | apply AW.seq | apply norm_then | apply norm_in | apply ret_then | apply ret_in | apply exit_then | apply exit_in | refine exit_by (by decide) ?_ | apply AW.block | apply AW.skip | apply AW.exit) | (apply AW.regionN rfl; · (intro Q hQ; (repeat (first | (refine opsA_skip (by decide) rfl ?_) | (apply opsN_some; (· rfl); (· decide); (· rfl); · (simp only [push_cast, reduceIte, reduceCtorEq, Nat.reduceEqDiff, Nat.reduceLT, Nat.reduceAdd, Nat.reduceSub, Int.reduceToNat, Int.reduceEq, Int.reduceLT, Int.reduceLE, u_int, u_ints, intsD_len]; (repeat' apply And.intro) <;> first | with_reducible rfl | omega | assumption | decide)) | (apply opsN_none; (· rfl); (· rfl); · (simp only [push_cast, reduceIte, reduceCtorEq, Nat.reduceEqDiff, Nat.reduceLT, Nat.reduceAdd, Nat.reduceSub, Int.reduceToNat, Int.reduceEq, Int.reduceLT, Int.reduceLE, u_int, u_ints, intsD_len]; (repeat' apply And.intro) <;> first | with_reducible rfl | omega | assumption | decide)))); exact hQ)) | (refine AW.condT ?_ ?_; · simp only [testA, push_cast, reduceIte, reduceCtorEq, Nat.reduceEqDiff, Nat.reduceLT, Nat.reduceAdd, Nat.reduceSub, Int.reduceToNat, Int.reduceEq, Int.reduceLT, Int.reduceLE, u_int, u_ints, intsD_len]) | (refine AW.condF ?_ ?_; · simp only [testA, push_cast, reduceIte, reduceCtorEq, Nat.reduceEqDiff, Nat.reduceLT, Nat.reduceAdd, Nat.reduceSub, Int.reduceToNat, Int.reduceEq, Int.reduceLT, Int.reduceLE, u_int, u_ints, intsD_len])))
  refine AW.condP (((xs.length : Int) = 0)) (by first | (simp only [testA, push_cast, reduceIte, reduceCtorEq, Nat.reduceEqDiff, Nat.reduceLT, Nat.reduceAdd, Nat.reduceSub, Int.reduceToNat, Int.reduceEq, Int.reduceLT, Int.reduceLE]; done) | (simp only [testA, AV.one.injEq, A1.c.injEq, C.b.injEq, decide_eq_decide, Bool.not_eq_eq_eq_not, push_cast, reduceIte, reduceCtorEq, Nat.reduceEqDiff, Nat.reduceLT, Nat.reduceAdd, Nat.reduceSub, Int.reduceToNat, Int.reduceEq, Int.reduceLT, Int.reduceLE]; omega)) (fun hb => ?_) (fun hb => ?_)
  · have hx : xs = [] := List.eq_nil_of_length_eq_zero (by omega)
    subst hx
    (repeat (first | (with_reducible first | apply AW.seq | apply norm_then | apply norm_in | apply ret_then | apply ret_in | apply exit_then | apply exit_in | refine exit_by (by decide) ?_ | apply AW.block | apply AW.skip | apply AW.exit) | (apply AW.regionN rfl; · (intro Q hQ; (repeat (first | (refine opsA_skip (by decide) rfl ?_) | (apply opsN_some; (· rfl); (· decide); (· rfl); · (simp only [push_cast, reduceIte, reduceCtorEq, Nat.reduceEqDiff, Nat.reduceLT, Nat.reduceAdd, Nat.reduceSub, Int.reduceToNat, Int.reduceEq, Int.reduceLT, Int.reduceLE, u_int, u_ints, c_int, b_int, z_int, takeRes]; (repeat' apply And.intro) <;> first | with_reducible rfl | omega | assumption | decide)) | (apply opsN_none; (· rfl); (· rfl); · (simp only [push_cast, reduceIte, reduceCtorEq, Nat.reduceEqDiff, Nat.reduceLT, Nat.reduceAdd, Nat.reduceSub, Int.reduceToNat, Int.reduceEq, Int.reduceLT, Int.reduceLE, u_int, u_ints, c_int, b_int, z_int, takeRes]; (repeat' apply And.intro) <;> first | with_reducible rfl | omega | assumption | decide)))); exact hQ)) | (refine AW.condT ?_ ?_; · simp only [testA, push_cast, reduceIte, reduceCtorEq, Nat.reduceEqDiff, Nat.reduceLT, Nat.reduceAdd, Nat.reduceSub, Int.reduceToNat, Int.reduceEq, Int.reduceLT, Int.reduceLE, u_int, u_ints, c_int, b_int, z_int, takeRes]) | (refine AW.condF ?_ ?_; · simp only [testA, push_cast, reduceIte, reduceCtorEq, Nat.reduceEqDiff, Nat.reduceLT, Nat.reduceAdd, Nat.reduceSub, Int.reduceToNat, Int.reduceEq, Int.reduceLT, Int.reduceLE, u_int, u_ints, c_int, b_int, z_int, takeRes])))
    (refine AW.ret ?_; (repeat (with_reducible first | apply AW.seq | apply norm_then | apply norm_in | apply ret_then | apply ret_in | apply exit_then | apply exit_in | refine exit_by (by decide) ?_ | apply AW.block | apply AW.skip | apply AW.exit)); refine retC_by (by simp only [push_cast, reduceIte, reduceCtorEq, Nat.reduceEqDiff, Nat.reduceLT, Nat.reduceAdd, Nat.reduceSub, Int.reduceToNat, Int.reduceEq, Int.reduceLT, Int.reduceLE, intsC, takeRes]; rfl) (Sub.drop [0] hcl rfl (by simp) (by first | rfl | simp [intsC, takeRes]) (by first | (simp [intsC, takeRes]; done) | simp [Ob.names, intsC, takeRes]) ?_); (simp [gcTm, Go.Aw.look, AV.ren, A1.ren, C.ren, gcR, gcK, keptAll, AV.names, A1.names, C.names, List.idxOf_cons, intsC, takeRes]))
  · have hx : 0 < xs.length := by omega
    have hne : ¬ xs = [] := by rintro rfl; simp at hx
    have hm : (xs.drop 1).length = xs.length - 1 := by rw [List.length_drop]
    have h1 : ((0 : Int) < (xs.length : Int)) := by omega
    have h2 : ((1 : Int) ≤ (xs.length : Int)) := by omega
    have h3 : 1 ≤ xs.length := hx
    have ht : (xs.drop 1).take (xs.length - 1) = xs.drop 1 := List.take_of_length_le (by omega)
    (repeat (first | (with_reducible first | apply AW.seq | apply norm_then | apply norm_in | apply ret_then | apply ret_in | apply exit_then | apply exit_in | refine exit_by (by decide) ?_ | apply AW.block | apply AW.skip | apply AW.exit) | (apply AW.regionN rfl; · (intro Q hQ; (repeat (first | (refine opsA_skip (by decide) rfl ?_) | (apply opsN_some; (· rfl); (· decide); (· rfl); · (simp only [push_cast, reduceIte, reduceCtorEq, Nat.reduceEqDiff, Nat.reduceLT, Nat.reduceAdd, Nat.reduceSub, Int.reduceToNat, Int.reduceEq, Int.reduceLT, Int.reduceLE, eq_true h1, eq_true h2, eq_true h3, eq_true hx, intsD_take, ht, u_int, u_ints, c_int, b_int, z_int, intsD_len, intsD_drop, intsD_C, intsC_len, intsC_keep, Nat.sub_zero, List.length_drop, intsD_at hx]; (repeat' apply And.intro) <;> first | with_reducible rfl | omega | assumption | decide)) | (apply opsN_none; (· rfl); (· rfl); · (simp only [push_cast, reduceIte, reduceCtorEq, Nat.reduceEqDiff, Nat.reduceLT, Nat.reduceAdd, Nat.reduceSub, Int.reduceToNat, Int.reduceEq, Int.reduceLT, Int.reduceLE, eq_true h1, eq_true h2, eq_true h3, eq_true hx, intsD_take, ht, u_int, u_ints, c_int, b_int, z_int, intsD_len, intsD_drop, intsD_C, intsC_len, intsC_keep, Nat.sub_zero, List.length_drop, intsD_at hx]; (repeat' apply And.intro) <;> first | with_reducible rfl | omega | assumption | decide)))); exact hQ)) | (apply AW.drawE (by kernel_rfl) (by kernel_rfl) 2; · (intro Q hQ; simp only [push_cast, reduceIte, reduceCtorEq, Nat.reduceEqDiff, Nat.reduceLT, Nat.reduceAdd, Nat.reduceSub, Int.reduceToNat, Int.reduceEq, Int.reduceLT, Int.reduceLE, eq_true h1, eq_true h2, eq_true h3, eq_true hx, intsD_take, ht, u_int, u_ints, c_int, b_int, z_int, intsD_len, intsD_drop, intsD_C, intsC_len, intsC_keep, Nat.sub_zero, List.length_drop, intsD_at hx]; (repeat' apply And.intro) <;> first | exact hQ | with_reducible rfl | omega | assumption)) | (refine AW.condT ?_ ?_; · simp only [testA, push_cast, reduceIte, reduceCtorEq, Nat.reduceEqDiff, Nat.reduceLT, Nat.reduceAdd, Nat.reduceSub, Int.reduceToNat, Int.reduceEq, Int.reduceLT, Int.reduceLE, eq_true h1, eq_true h2, eq_true h3, eq_true hx, intsD_take, ht, u_int, u_ints, c_int, b_int, z_int, intsD_len, intsD_drop, intsD_C, intsC_len, intsC_keep, Nat.sub_zero, List.length_drop, intsD_at hx]) | (refine AW.condF ?_ ?_; · simp only [testA, push_cast, reduceIte, reduceCtorEq, Nat.reduceEqDiff, Nat.reduceLT, Nat.reduceAdd, Nat.reduceSub, Int.reduceToNat, Int.reduceEq, Int.reduceLT, Int.reduceLE, eq_true h1, eq_true h2, eq_true h3, eq_true hx, intsD_take, ht, u_int, u_ints, c_int, b_int, z_int, intsD_len, intsD_drop, intsD_C, intsC_len, intsC_keep, Nat.sub_zero, List.length_drop, intsD_at hx])))
    (refine AW.ret ?_; (repeat (with_reducible first | apply AW.seq | apply norm_then | apply norm_in | apply ret_then | apply ret_in | apply exit_then | apply exit_in | refine exit_by (by decide) ?_ | apply AW.block | apply AW.skip | apply AW.exit)); refine retC_by (by simp only [push_cast, reduceIte, reduceCtorEq, Nat.reduceEqDiff, Nat.reduceLT, Nat.reduceAdd, Nat.reduceSub, Int.reduceToNat, Int.reduceEq, Int.reduceLT, Int.reduceLE, intsC_names, takeRes, hne]; rfl) (Sub.drop [1] hcl rfl (by simp) (by first | rfl | simp [intsC_names, takeRes, hne]) (by first | (simp [intsC_names, takeRes, hne]; done) | simp [Ob.names, intsC_names, takeRes, hne]) ?_); (simp [gcTm, Go.Aw.look, AV.ren, A1.ren, C.ren, gcR, gcK, keptAll, AV.names, A1.names, C.names, List.idxOf_cons, intsC_names, takeRes, hne]))
set_option maxRecDepth 4000 in
theorem implTakeFront_ac (H : Heap) (lv : Bool) (xs : List Int) (hl : xs.length ≤ 1048576) :
    AC Try.prog 84 [.one (.c (.sl lv 1 (intsD xs)))] H (takeRes H.length xs) (H ++ [.row 3 1 (intsC (xs.drop 1))]) := by
  refine AC.mkC 14 [.tmp 2, .tmp 3, .tmp 4] Try.func84 (by kernel_rfl) rfl rfl rfl (by simp) (by decide) fun hcl hca => ?_
  (repeat (first | (with_reducible first | apply AW.seq | apply norm_then | apply norm_in | apply ret_then | apply ret_in | apply exit_then | apply exit_in | refine exit_by (by decide) ?_ | apply AW.block | apply AW.skip | apply AW.exit) | (apply AW.regionN rfl; · (intro Q hQ; (repeat (first | (refine opsA_skip (by decide) rfl ?_) | (apply opsN_some; (· rfl); (· decide); (· rfl); · (simp only [push_cast, reduceIte, reduceCtorEq, Nat.reduceEqDiff, Nat.reduceLT, Nat.reduceAdd, Nat.reduceSub, Int.reduceToNat, Int.reduceEq, Int.reduceLT, Int.reduceLE, u_int, u_ints, intsD_len]; (repeat' apply And.intro) <;> first | with_reducible rfl | omega | assumption | decide)) | (apply opsN_none; (· rfl); (· rfl); · (simp only [push_cast, reduceIte, reduceCtorEq, Nat.reduceEqDiff, Nat.reduceLT, Nat.reduceAdd, Nat.reduceSub, Int.reduceToNat, Int.reduceEq, Int.reduceLT, Int.reduceLE, u_int, u_ints, intsD_len]; (repeat' apply And.intro) <;> first | with_reducible rfl | omega | assumption | decide)))); exact hQ)) | (refine AW.condT ?_ ?_; · simp only [testA, push_cast, reduceIte, reduceCtorEq, Nat.reduceEqDiff, Nat.reduceLT, Nat.reduceAdd, Nat.reduceSub, Int.reduceToNat, Int.reduceEq, Int.reduceLT, Int.reduceLE, u_int, u_ints, intsD_len]) | (refine AW.condF ?_ ?_; · simp only [testA, push_cast, reduceIte, reduceCtorEq, Nat.reduceEqDiff, Nat.reduceLT, Nat.reduceAdd, Nat.reduceSub, Int.reduceToNat, Int.reduceEq, Int.reduceLT, Int.reduceLE, u_int, u_ints, intsD_len])))
  refine AW.condP (((xs.length : Int) = 0)) (by first | (simp only [testA, push_cast, reduceIte, reduceCtorEq, Nat.reduceEqDiff, Nat.reduceLT, Nat.reduceAdd, Nat.reduceSub, Int.reduceToNat, Int.reduceEq, Int.reduceLT, Int.reduceLE]; done) | (simp only [testA, AV.one.injEq, A1.c.injEq, C.b.injEq, decide_eq_decide, Bool.not_eq_eq_eq_not, push_cast, reduceIte, reduceCtorEq, Nat.reduceEqDiff, Nat.reduceLT, Nat.reduceAdd, Nat.reduceSub, Int.reduceToNat, Int.reduceEq, Int.reduceLT, Int.reduceLE]; omega)) (fun hb => ?_) (fun hb => ?_)
  · have hx : xs = [] := List.eq_nil_of_length_eq_zero (by omega)
    subst hx
    (repeat (first | (with_reducible first | apply AW.seq | apply norm_then | apply norm_in | apply ret_then | apply ret_in | apply exit_then | apply exit_in | refine exit_by (by decide) ?_ | apply AW.block | apply AW.skip | apply AW.exit) | (apply AW.regionN rfl; · (intro Q hQ; (repeat (first | (refine opsA_skip (by decide) rfl ?_) | (apply opsN_some; (· rfl); (· decide); (· rfl); · (simp only [push_cast, reduceIte, reduceCtorEq, Nat.reduceEqDiff, Nat.reduceLT, Nat.reduceAdd, Nat.reduceSub, Int.reduceToNat, Int.reduceEq, Int.reduceLT, Int.reduceLE, u_int, u_ints, c_int, b_int, z_int, takeRes]; (repeat' apply And.intro) <;> first | with_reducible rfl | omega | assumption | decide)) | (apply opsN_none; (· rfl); (· rfl); · (simp only [push_cast, reduceIte, reduceCtorEq, Nat.reduceEqDiff, Nat.reduceLT, Nat.reduceAdd, Nat.reduceSub, Int.reduceToNat, Int.reduceEq, Int.reduceLT, Int.reduceLE, u_int, u_ints, c_int, b_int, z_int, takeRes]; (repeat' apply And.intro) <;> first | with_reducible rfl | omega | assumption | decide)))); exact hQ)) | (refine AW.condT ?_ ?_; · simp only [testA, push_cast, reduceIte, reduceCtorEq, Nat.reduceEqDiff, Nat.reduceLT, Nat.reduceAdd, Nat.reduceSub, Int.reduceToNat, Int.reduceEq, Int.reduceLT, Int.reduceLE, u_int, u_ints, c_int, b_int, z_int, takeRes]) | (refine AW.condF ?_ ?_; · simp only [testA, push_cast, reduceIte, reduceCtorEq, Nat.reduceEqDiff, Nat.reduceLT, Nat.reduceAdd, Nat.reduceSub, Int.reduceToNat, Int.reduceEq, Int.reduceLT, Int.reduceLE, u_int, u_ints, c_int, b_int, z_int, takeRes])))
    refine AW.sub (Sub.ghost 3 1 (tm' := [(2, (.one (.c (.i .i64 (0))))), (3, (.one (.c (.os (H.length) 1 0 (0))))), (4, (.one (.c (.b (false)))))]) ⟨.inl rfl, .inr ⟨rfl, rfl⟩, .inl rfl, trivial⟩) ?_
    (refine AW.ret ?_; (repeat (with_reducible first | apply AW.seq | apply norm_then | apply norm_in | apply ret_then | apply ret_in | apply exit_then | apply exit_in | refine exit_by (by decide) ?_ | apply AW.block | apply AW.skip | apply AW.exit)); refine retC_by (by simp only [push_cast, reduceIte, reduceCtorEq, Nat.reduceEqDiff, Nat.reduceLT, Nat.reduceAdd, Nat.reduceSub, Int.reduceToNat, Int.reduceEq, Int.reduceLT, Int.reduceLE, intsC, takeRes]; rfl) (Sub.drop [0] hcl rfl (by simp) (by first | rfl | simp [intsC, takeRes]) (by first | (simp [intsC, takeRes]; done) | simp [Ob.names, intsC, takeRes]) ?_); (simp [gcTm, Go.Aw.look, AV.ren, A1.ren, C.ren, gcR, gcK, keptAll, AV.names, A1.names, C.names, List.idxOf_cons, intsC, takeRes]))
  · have hx : 0 < xs.length := by omega
    have hne : ¬ xs = [] := by rintro rfl; simp at hx
    have hm : (xs.drop 1).length = xs.length - 1 := by rw [List.length_drop]
    have h1 : ((0 : Int) < (xs.length : Int)) := by omega
    have h2 : ((1 : Int) ≤ (xs.length : Int)) := by omega
    have h3 : 1 ≤ xs.length := hx
    have ht : (xs.drop 1).take (xs.length - 1) = xs.drop 1 := List.take_of_length_le (by omega)
    (repeat (first | (with_reducible first | apply AW.seq | apply norm_then | apply norm_in | apply ret_then | apply ret_in | apply exit_then | apply exit_in | refine exit_by (by decide) ?_ | apply AW.block | apply AW.skip | apply AW.exit) | (apply AW.regionN rfl; · (intro Q hQ; (repeat (first | (refine opsA_skip (by decide) rfl ?_) | (apply opsN_some; (· rfl); (· decide); (· rfl); · (simp only [push_cast, reduceIte, reduceCtorEq, Nat.reduceEqDiff, Nat.reduceLT, Nat.reduceAdd, Nat.reduceSub, Int.reduceToNat, Int.reduceEq, Int.reduceLT, Int.reduceLE]; (repeat' apply And.intro) <;> first | with_reducible rfl | omega | assumption | decide)) | (apply opsN_none; (· rfl); (· rfl); · (simp only [push_cast, reduceIte, reduceCtorEq, Nat.reduceEqDiff, Nat.reduceLT, Nat.reduceAdd, Nat.reduceSub, Int.reduceToNat, Int.reduceEq, Int.reduceLT, Int.reduceLE]; (repeat' apply And.intro) <;> first | with_reducible rfl | omega | assumption | decide)))); exact hQ)) | (refine AW.condT ?_ ?_; · simp only [testA, push_cast, reduceIte, reduceCtorEq, Nat.reduceEqDiff, Nat.reduceLT, Nat.reduceAdd, Nat.reduceSub, Int.reduceToNat, Int.reduceEq, Int.reduceLT, Int.reduceLE]) | (refine AW.condF ?_ ?_; · simp only [testA, push_cast, reduceIte, reduceCtorEq, Nat.reduceEqDiff, Nat.reduceLT, Nat.reduceAdd, Nat.reduceSub, Int.reduceToNat, Int.reduceEq, Int.reduceLT, Int.reduceLE])))
    apply AW.drawE (by kernel_rfl) (by kernel_rfl) 1
    · intro Q hQ
      simp only [push_cast, reduceIte, reduceCtorEq, Nat.reduceEqDiff, Nat.reduceLT, Nat.reduceAdd, Nat.reduceSub, Int.reduceToNat, Int.reduceEq, Int.reduceLT, Int.reduceLE, eq_true h1, eq_true h2, eq_true h3, eq_true hx, intsD_take, ht, u_int, u_ints, c_int, b_int, z_int, intsD_len, intsD_drop, intsD_C, intsC_len, intsC_keep, Nat.sub_zero, List.length_drop, intsD_at hx]
      (repeat' apply And.intro) <;> (try (first | omega | with_reducible rfl | assumption))
      refine CallD.data (.one (.c (.os 0 1 0 (xs.length - 1)))) [.row 3 1 (intsC (xs.drop 1))] rfl (by first | rfl | (simp only [List.map_cons, List.map_nil, Go.Aw.ev, Go.Aw.look, reduceIte, Nat.reduceEqDiff, Option.getD_some, constAV, constC]; done)) (by simp [AV.names, A1.names, C.names]) ?_ (fun Hx => by have := cloneInt_ac Hx lv (xs.drop 1) (by rw [List.length_drop]; omega); rwa [List.length_drop] at this) ?_
      · simp [Ob.names, intsC_names]
      · simp only [push_cast, reduceIte, reduceCtorEq, Nat.reduceEqDiff, Nat.reduceLT, Nat.reduceAdd, Nat.reduceSub, Int.reduceToNat, Int.reduceEq, Int.reduceLT, Int.reduceLE, List.length_drop]
        exact hQ
    (refine AW.ret ?_; (repeat (with_reducible first | apply AW.seq | apply norm_then | apply norm_in | apply ret_then | apply ret_in | apply exit_then | apply exit_in | refine exit_by (by decide) ?_ | apply AW.block | apply AW.skip | apply AW.exit)); refine retC_by (by simp only [push_cast, reduceIte, reduceCtorEq, Nat.reduceEqDiff, Nat.reduceLT, Nat.reduceAdd, Nat.reduceSub, Int.reduceToNat, Int.reduceEq, Int.reduceLT, Int.reduceLE, intsC_names, takeRes, hne]; rfl) (Sub.drop [0] hcl rfl (by simp) (by first | rfl | simp [intsC_names, takeRes, hne]) (by first | (simp [intsC_names, takeRes, hne]; done) | simp [Ob.names, intsC_names, takeRes, hne]) ?_); (simp [gcTm, Go.Aw.look, AV.ren, A1.ren, C.ren, gcR, gcK, keptAll, AV.names, A1.names, C.names, List.idxOf_cons, intsC_names, takeRes, hne]))
theorem specTakeFront_own (H : Heap) (o : Nat) (xs : List Int) (ho : H[o]? = some (.row 3 1 (intsC xs))) (hl : xs.length ≤ 1048576) :
    AC Try.prog 85 [.one (.c (.os o 1 0 xs.length))] H (takeRes H.length xs) (H ++ [.row 3 1 (intsC (xs.drop 1))]) := by
  refine AC.borrow (rowD ho) (args' := [.one (.c (.sl false 1 (intsD xs)))]) (by exact ⟨lent_int, trivial⟩) rfl ?_ (set_back (rowD ho))
  have := specTakeFront_ac (H.set o .dead) false xs hl
  rwa [List.length_set] at this
theorem implTakeFront_own (H : Heap) (o : Nat) (xs : List Int) (ho : H[o]? = some (.row 3 1 (intsC xs))) (hl : xs.length ≤ 1048576) :
    AC Try.prog 84 [.one (.c (.os o 1 0 xs.length))] H (takeRes H.length xs) (H ++ [.row 3 1 (intsC (xs.drop 1))]) := by
  refine AC.borrow (rowD ho) (args' := [.one (.c (.sl false 1 (intsD xs)))]) (by exact ⟨lent_int, trivial⟩) rfl ?_ (set_back (rowD ho))
  have := implTakeFront_ac (H.set o .dead) false xs hl
  rwa [List.length_set] at this

/-! ### a play of ops -/
abbrev Q4 := List Int × List Int × List Int × List Int
def dqStep (s : Q4) (op : GDqOp) : Q4 :=
  if op.kind = 1 then (s.1, s.2.1, pushed s.2.2.1 op.item, if s.2.2.1.length < 16 then s.2.2.2 ++ [op.item] else s.2.2.2)
  else if op.kind = 2 then (if s.2.2.1 = [] then s.1 else s.1 ++ [lastOf s.2.2.1], s.2.1, s.2.2.1.take (s.2.2.1.length - 1), s.2.2.2)
  else if op.kind = 3 then (s.1, if s.2.2.1 = [] then s.2.1 else s.2.1 ++ [s.2.2.1.getD 0 0], s.2.2.1.drop 1, s.2.2.2)
  else s
def dqN (ops : List GDqOp) : Q4 := ops.foldl dqStep ([], [], [], [])
theorem dqN_take {ops : List GDqOp} {i : Nat} (h : i < ops.length) : dqN (ops.take (i + 1)) = dqStep (dqN (ops.take i)) ops[i] := by
  unfold dqN
  rw [List.take_add_one, List.getElem?_eq_getElem h, List.foldl_append]; rfl
def dqLe (n : Nat) (s : Q4) : Prop := s.1.length ≤ n ∧ s.2.1.length ≤ n ∧ s.2.2.1.length ≤ n ∧ s.2.2.2.length ≤ n
theorem dqStep_le {n : Nat} {s : Q4} (op : GDqOp) (h : dqLe n s) : dqLe (n + 1) (dqStep s op) := by
  obtain ⟨P, T, L, U⟩ := s
  obtain ⟨h1, h2, h3, h4⟩ := h
  have e1 : P.length ≤ n := h1
  have e2 : T.length ≤ n := h2
  have e3 : L.length ≤ n := h3
  have e4 : U.length ≤ n := h4
  have e5 : (pushed L op.item).length ≤ n + 1 := by unfold pushed; split <;> first | omega | (simp; omega)
  unfold dqStep
  split
  · refine ⟨?_, ?_, e5, ?_⟩
    · show P.length ≤ n + 1; omega
    · show T.length ≤ n + 1; omega
    · show (if L.length < 16 then U ++ [op.item] else U).length ≤ n + 1; split <;> first | omega | (simp; omega)
  split
  · refine ⟨?_, ?_, ?_, ?_⟩
    · show (if L = [] then P else P ++ [lastOf L]).length ≤ n + 1; split <;> first | omega | (simp; omega)
    · show T.length ≤ n + 1; omega
    · show (L.take (L.length - 1)).length ≤ n + 1; rw [List.length_take]; omega
    · show U.length ≤ n + 1; omega
  split
  · refine ⟨?_, ?_, ?_, ?_⟩
    · show P.length ≤ n + 1; omega
    · show (if L = [] then T else T ++ [L.getD 0 0]).length ≤ n + 1; split <;> first | omega | (simp; omega)
    · show (L.drop 1).length ≤ n + 1; rw [List.length_drop]; omega
    · show U.length ≤ n + 1; omega
  · refine ⟨?_, ?_, ?_, ?_⟩
    · show P.length ≤ n + 1; omega
    · show T.length ≤ n + 1; omega
    · show L.length ≤ n + 1; omega
    · show U.length ≤ n + 1; omega
theorem dqN_le (ops : List GDqOp) : ∀ i, i ≤ ops.length → dqLe i (dqN (ops.take i))
  | 0, _ => by simp [dqN, dqLe]
  | i + 1, h => by rw [dqN_take h]; exact dqStep_le _ (dqN_le ops i (by omega))
def dq (ops : List GDqOp) : Q4 := if ops.length ≤ 200 then dqN ops else ([], [], [], [])
end Go.Proofs.Ytioanpejndfbnaa
