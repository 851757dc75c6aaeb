/- PopBack, of the program and of the reference. -/
import Derived.Test.YtioanpejndfbnaaGoIntS
namespace Go.Proofs.Ytioanpejndfbnaa
open Go.Aw Go.RowKit
set_option linter.unusedSimpArgs false
set_option linter.unusedVariables false

/-- What PopBack tells of a list. -/
def lastOf (xs : List Int) : Int := xs.getD (xs.length - 1) 0
def popRes (p : Nat) (xs : List Int) : AV := .tup [.c (.i .i64 (if xs = [] then 0 else lastOf xs)), .c (.os p 1 0 (xs.length - 1)), .c (.b (!decide (xs = [])))]

theorem intsD_take (xs : List Int) (n : Nat) : (intsD xs).take n = intsD (xs.take n) := by simp [intsD, List.map_take]
theorem intsC_take (xs : List Int) (n : Nat) : (intsC xs).take n = intsC (xs.take n) := by simp [intsC, List.map_take]

theorem specPopBack_ac (H : Heap) (lv : Bool) (xs : List Int) (hl : xs.length ≤ 1048576) :
    AC Try.prog 22 [.one (.c (.sl lv 1 (intsD xs)))] H (popRes H.length xs) (H ++ [.row 3 1 (intsC (xs.take (xs.length - 1)))]) := by
  refine AC.mk 22 [.tmp 2, .tmp 3, .tmp 4] Try.func22 (by kernel_rfl) rfl rfl rfl (by simp) fun hcl hca => ?_
  (apply Go.Aw.AW.regionS; · (intro Q hQ; simp only [push_cast, reduceIte, reduceCtorEq, Nat.reduceEqDiff, Nat.reduceLT, Nat.reduceAdd, Nat.reduceSub, Int.reduceToNat]; exact hQ))
  refine AW.seq ?_
  (apply Go.Aw.AW.regionS; · (intro Q hQ; simp only [push_cast, reduceIte, reduceCtorEq, Nat.reduceEqDiff, Nat.reduceLT, Nat.reduceAdd, Nat.reduceSub, Int.reduceToNat, u_int, u_ints, intsD_len]; exact hQ))
  refine AW.condE (b := decide ((xs.length : Int) = 0)) (by simp only [push_cast, reduceIte, reduceCtorEq, Nat.reduceEqDiff, Nat.reduceLT, Nat.reduceAdd, Nat.reduceSub, Int.reduceToNat, testA]) (fun hb => ?_) (fun hb => AW.go ?_)
  · have hx : xs = [] := List.eq_nil_of_length_eq_zero (by have : (xs.length : Int) = 0 := by simpa using hb
                                                           omega)
    subst hx
    (apply Go.Aw.AW.regionS; · (intro Q hQ; simp only [push_cast, reduceIte, reduceCtorEq, Nat.reduceEqDiff, Nat.reduceLT, Nat.reduceAdd, Nat.reduceSub, Int.reduceToNat, u_int, u_ints, c_int, b_int, z_int]; (repeat' apply And.intro) <;> first | exact hQ | omega | simp))
    exact AW.ret (retP_now (by simp [resA, resL, Go.Aw.look, popRes]) rfl)
  · have hx : 0 < xs.length := by have : ¬ (xs.length : Int) = 0 := by simpa using hb
                                  omega
    change Go.Aw.AW _ _ _ _ _ _
    have hn : ((xs.length : Int) - 1).toNat = xs.length - 1 := by omega
    have hm : min (xs.length - 1) xs.length = xs.length - 1 := by omega
    (apply Go.Aw.AW.drawS (by kernel_rfl) (by kernel_rfl) 2; · (intro Q hQ; simp only [push_cast, reduceIte, reduceCtorEq, Nat.reduceEqDiff, Nat.reduceLT, Nat.reduceAdd, Nat.reduceSub, Int.reduceToNat, u_int, u_ints, c_int, b_int, z_int, intsD_len, wrap_in (n := (xs.length : Int) - 1) (by omega), intsD_take, intsD_C, intsC_len, intsC_keep, hn, hm, Nat.sub_zero, List.length_take, intsD_at (show xs.length - 1 < xs.length by omega)]; (repeat' apply And.intro) <;> first | exact hQ | omega | simp))
    have hne : ¬ xs = [] := by rintro rfl; simp at hx
    refine AW.ret (retP_by (tm := [(2, .one (.c (.i .i64 (xs.getD (xs.length - 1) 0)))), (3, .one (.c (.os H.length 1 0 (xs.length - 1)))), (4, .one (.c (.b true)))]) (Sub.drop [1] hcl rfl (by simp) rfl (by simp [Ob.names, intsC_names]) ?_) (by simp [resA, resL, Go.Aw.look, popRes, hne, lastOf]))
    (simp [Go.Aw.gcTm, Go.Aw.look, Go.Aw.AV.ren, Go.Aw.A1.ren, Go.Aw.C.ren, Go.Aw.gcR, Go.Aw.gcK, Go.Aw.keptAll, Go.Aw.AV.names, Go.Aw.A1.names, Go.Aw.C.names, List.idxOf_cons])

theorem implPopBack_ac (H : Heap) (lv : Bool) (xs : List Int) (hl : xs.length ≤ 1048576) :
    AC Try.prog 24 [.one (.c (.sl lv 1 (intsD xs)))] H (popRes H.length xs) (H ++ [.row 3 1 (intsC (xs.take (xs.length - 1)))]) := by
  refine AC.mk 20 [.tmp 2, .tmp 3, .tmp 4] Try.func24 (by kernel_rfl) rfl rfl rfl (by simp) fun hcl hca => ?_
  (apply Go.Aw.AW.regionS; · (intro Q hQ; simp only [push_cast, reduceIte, reduceCtorEq, Nat.reduceEqDiff, Nat.reduceLT, Nat.reduceAdd, Nat.reduceSub, Int.reduceToNat]; exact hQ))
  refine AW.seq ?_
  (apply Go.Aw.AW.regionS; · (intro Q hQ; simp only [push_cast, reduceIte, reduceCtorEq, Nat.reduceEqDiff, Nat.reduceLT, Nat.reduceAdd, Nat.reduceSub, Int.reduceToNat, u_int, u_ints, intsD_len]; exact hQ))
  refine AW.condE (b := decide ((xs.length : Int) = 0)) (by simp only [push_cast, reduceIte, reduceCtorEq, Nat.reduceEqDiff, Nat.reduceLT, Nat.reduceAdd, Nat.reduceSub, Int.reduceToNat, testA]) (fun hb => ?_) (fun hb => AW.go ?_)
  · have hx : xs = [] := List.eq_nil_of_length_eq_zero (by have : (xs.length : Int) = 0 := by simpa using hb
                                                           omega)
    subst hx
    (apply Go.Aw.AW.regionS; · (intro Q hQ; simp only [push_cast, reduceIte, reduceCtorEq, Nat.reduceEqDiff, Nat.reduceLT, Nat.reduceAdd, Nat.reduceSub, Int.reduceToNat]; exact hQ))
    exact AW.ret (retP_by (tm := [(2, .one (.c (.i .i64 0))), (3, .one (.c (.os H.length 1 0 0))), (4, .one (.c (.b false)))]) (Sub.ghost 3 1 ⟨.inl rfl, .inr ⟨rfl, rfl⟩, .inl rfl, trivial⟩) (by simp [resA, resL, Go.Aw.look, popRes]))
  · have hx : 0 < xs.length := by have : ¬ (xs.length : Int) = 0 := by simpa using hb
                                  omega
    change Go.Aw.AW _ _ _ _ _ _
    (apply Go.Aw.AW.regionS; · (intro Q hQ; simp only [push_cast, reduceIte, reduceCtorEq, Nat.reduceEqDiff, Nat.reduceLT, Nat.reduceAdd, Nat.reduceSub, Int.reduceToNat, u_int, u_ints, intsD_len, wrap_in (n := (xs.length : Int) - 1) (by omega)]; exact hQ))
    have hn : ((xs.length : Int) - 1).toNat = xs.length - 1 := by omega
    have hm : min (xs.length - 1) xs.length = xs.length - 1 := by omega
    apply AW.drawS (by kernel_rfl) (by kernel_rfl) 1
    · intro Q hQ
      simp only [push_cast, reduceIte, reduceCtorEq, Nat.reduceEqDiff, Nat.reduceLT, Nat.reduceAdd, Nat.reduceSub, Int.reduceToNat, u_int, u_ints, c_int, b_int, z_int, intsD_len, intsD_take, intsD_C, intsC_len, intsC_keep, hn, hm, Nat.sub_zero, List.length_take, intsD_at (show xs.length - 1 < xs.length by omega)]
      refine ⟨by omega, by omega, by omega, by omega, by omega, ?_⟩
      refine Go.Aw.CallD.data (.one (.c (.os 0 1 0 (xs.take (xs.length - 1)).length))) [.row 3 1 (intsC (xs.take (xs.length - 1)))] rfl (by first | rfl | (simp only [List.map_cons, List.map_nil, Go.Aw.ev, Go.Aw.look, reduceIte, Nat.reduceEqDiff, Option.getD_some, Go.Aw.constAV, Go.Aw.constC]; done)) (by simp [Go.Aw.AV.names, Go.Aw.A1.names, Go.Aw.C.names]) ?_ (fun Hx => cloneInt_ac Hx lv _ (by rw [List.length_take]; omega)) ?_
      · simp [Ob.names, intsC_names]
      · simp only [push_cast, reduceIte, reduceCtorEq, Nat.reduceEqDiff, Nat.reduceLT, Nat.reduceAdd, Nat.reduceSub, Int.reduceToNat, hm, List.length_take]
        exact hQ
    have hne : ¬ xs = [] := by rintro rfl; simp at hx
    exact AW.ret (retP_now (by simp [resA, resL, Go.Aw.look, popRes, hne, lastOf]) rfl)

theorem specPopBack_own (H : Heap) (o : Nat) (xs : List Int) (ho : H[o]? = some (.row 3 1 (intsC xs))) (hl : xs.length ≤ 1048576) :
    AC Try.prog 22 [.one (.c (.os o 1 0 xs.length))] H (popRes H.length xs) (H ++ [.row 3 1 (intsC (xs.take (xs.length - 1)))]) := by
  refine AC.borrow (rowD ho) (args' := [.one (.c (.sl false 1 (intsD xs)))]) (by exact ⟨lent_int, trivial⟩) rfl ?_ (set_back (rowD ho))
  have := specPopBack_ac (H.set o .dead) false xs hl
  rwa [List.length_set] at this
theorem implPopBack_own (H : Heap) (o : Nat) (xs : List Int) (ho : H[o]? = some (.row 3 1 (intsC xs))) (hl : xs.length ≤ 1048576) :
    AC Try.prog 24 [.one (.c (.os o 1 0 xs.length))] H (popRes H.length xs) (H ++ [.row 3 1 (intsC (xs.take (xs.length - 1)))]) := by
  refine AC.borrow (rowD ho) (args' := [.one (.c (.sl false 1 (intsD xs)))]) (by exact ⟨lent_int, trivial⟩) rfl ?_ (set_back (rowD ho))
  have := implPopBack_ac (H.set o .dead) false xs hl
  rwa [List.length_set] at this

set_option maxRecDepth 10000 in
set_option maxHeartbeats 1000000 in
theorem lawPopBack_ac (lv : Bool) (xs : List Int) (hl : xs.length ≤ 1048576) : AC Try.prog 5 [.one (.c (.sl lv 1 (intsD xs)))] [] (.one (.c (.b true))) [] := by
  refine AC.mk 114 [.tmp 2] Try.func5 (by kernel_rfl) rfl rfl rfl (by simp) fun hcl hca => ?_
  (apply Go.Aw.AW.regionS; · (intro Q hQ; simp only [push_cast, reduceIte, reduceCtorEq, Nat.reduceEqDiff, Nat.reduceLT, Nat.reduceAdd, Nat.reduceSub, Int.reduceToNat]; exact hQ))
  refine AW.seq ?_
  (apply Go.Aw.AW.regionS; · (intro Q hQ; simp only [push_cast, reduceIte, reduceCtorEq, Nat.reduceEqDiff, Nat.reduceLT, Nat.reduceAdd, Nat.reduceSub, Int.reduceToNat, u_int, u_ints, intsD_len]; exact hQ))
  refine AW.condE (b := decide ((1048576 : Int) < xs.length)) (by simp only [push_cast, reduceIte, reduceCtorEq, Nat.reduceEqDiff, Nat.reduceLT, Nat.reduceAdd, Nat.reduceSub, Int.reduceToNat, testA]) (fun hb => ?_) (fun hb => AW.go ?_)
  · have : (1048576 : Int) < xs.length := by simpa using hb
    omega
  change Go.Aw.AW _ _ _ _ _ _
  let ps := xs.take (xs.length - 1)
  have hps : ps.length = xs.length - 1 := by simp only [ps, List.length_take]; omega
  apply AW.regionS
  · intro Q hQ
    simp only [push_cast, reduceIte, reduceCtorEq, Nat.reduceEqDiff, Nat.reduceLT, Nat.reduceAdd, Nat.reduceSub, Int.reduceToNat, u_int, u_ints]
    refine Go.Aw.CallA.use rfl (by first | rfl | (simp only [List.map_cons, List.map_nil, Go.Aw.ev, Go.Aw.look, reduceIte, Nat.reduceEqDiff, Option.getD_some, Go.Aw.constAV, Go.Aw.constC]; done)) (toIntS_ac _ lv xs hl) ?_
    simp only [push_cast, reduceIte, reduceCtorEq, Nat.reduceEqDiff, Nat.reduceLT, Nat.reduceAdd, Nat.reduceSub, Int.reduceToNat]
    refine Go.Aw.CallA.use rfl (by first | rfl | (simp only [List.map_cons, List.map_nil, Go.Aw.ev, Go.Aw.look, reduceIte, Nat.reduceEqDiff, Option.getD_some, Go.Aw.constAV, Go.Aw.constC]; done)) (specPopBack_own _ 0 xs rfl hl) ?_
    simp only [push_cast, reduceIte, reduceCtorEq, Nat.reduceEqDiff, Nat.reduceLT, Nat.reduceAdd, Nat.reduceSub, Int.reduceToNat, popRes, aExtract]
    exact hQ
  apply AW.regionS
  · intro Q hQ
    simp only [push_cast, reduceIte, reduceCtorEq, Nat.reduceEqDiff, Nat.reduceLT, Nat.reduceAdd, Nat.reduceSub, Int.reduceToNat]
    refine Go.Aw.CallA.use rfl (by first | rfl | (simp only [List.map_cons, List.map_nil, Go.Aw.ev, Go.Aw.look, reduceIte, Nat.reduceEqDiff, Option.getD_some, Go.Aw.constAV, Go.Aw.constC]; done)) (toIntS_ac _ lv xs hl) ?_
    simp only [push_cast, reduceIte, reduceCtorEq, Nat.reduceEqDiff, Nat.reduceLT, Nat.reduceAdd, Nat.reduceSub, Int.reduceToNat]
    exact hQ
  apply AW.regionS
  · intro Q hQ
    simp only [push_cast, reduceIte, reduceCtorEq, Nat.reduceEqDiff, Nat.reduceLT, Nat.reduceAdd, Nat.reduceSub, Int.reduceToNat]
    refine Go.Aw.CallA.use rfl (by first | rfl | (simp only [List.map_cons, List.map_nil, Go.Aw.ev, Go.Aw.look, reduceIte, Nat.reduceEqDiff, Option.getD_some, Go.Aw.constAV, Go.Aw.constC]; done)) (implPopBack_own _ 2 xs rfl hl) ?_
    simp only [push_cast, reduceIte, reduceCtorEq, Nat.reduceEqDiff, Nat.reduceLT, Nat.reduceAdd, Nat.reduceSub, Int.reduceToNat, popRes, aExtract]
    exact hQ
  refine AW.sub (Sub.to (tm' := [(0, .one (.c (.sl lv 1 (intsD xs)))), (3, .one (.c (.i .i64 (if xs = [] then 0 else lastOf xs)))), (4, .one (.c (.os 1 1 0 (xs.length - 1)))), (5, .one (.c (.b (!decide (xs = []))))), (6, .one (.c (.os 2 1 0 xs.length))), (7, .one (.c (.i .i64 (if xs = [] then 0 else lastOf xs)))), (8, .one (.c (.os 3 1 0 (xs.length - 1)))), (9, .one (.c (.b (!decide (xs = [])))))]) (by (simp only [Go.Aw.covers, Go.Aw.look, reduceIte, Nat.reduceEqDiff, if_false, if_true, and_self, true_and, and_true]); try trivial) rfl) ?_
  refine AW.seq ?_
  apply AW.regionS
  · intro Q hQ
    simp only [push_cast, reduceIte, reduceCtorEq, Nat.reduceEqDiff, Nat.reduceLT, Nat.reduceAdd, Nat.reduceSub, Int.reduceToNat, u_int]
    refine Go.Aw.CallA.use rfl (by first | rfl | (simp only [List.map_cons, List.map_nil, Go.Aw.ev, Go.Aw.look, reduceIte, Nat.reduceEqDiff, Option.getD_some, Go.Aw.constAV, Go.Aw.constC]; done)) (eqIntS_own' _ 3 1 ps ps hps hps rfl rfl (by decide) (by omega) (by omega)) ?_
    simp only [push_cast, reduceIte, reduceCtorEq, Nat.reduceEqDiff, Nat.reduceLT, Nat.reduceAdd, Nat.reduceSub, Int.reduceToNat, u_bool]
    exact hQ
  refine AW.condE (b := false) (by simp only [push_cast, reduceIte, reduceCtorEq, Nat.reduceEqDiff, Nat.reduceLT, Nat.reduceAdd, Nat.reduceSub, Int.reduceToNat, testA]) (fun hb => by cases hb) (fun _ => AW.go ?_)
  change Go.Aw.AW _ _ _ _ _ _
  refine AW.seq ?_
  apply AW.regionS
  · intro Q hQ
    simp only [push_cast, reduceIte, reduceCtorEq, Nat.reduceEqDiff, Nat.reduceLT, Nat.reduceAdd, Nat.reduceSub, Int.reduceToNat]
    refine Go.Aw.CallA.use rfl (by first | rfl | (simp only [List.map_cons, List.map_nil, Go.Aw.ev, Go.Aw.look, reduceIte, Nat.reduceEqDiff, Option.getD_some, Go.Aw.constAV, Go.Aw.constC]; done)) (toIntS_ac _ lv xs hl) ?_
    simp only [push_cast, reduceIte, reduceCtorEq, Nat.reduceEqDiff, Nat.reduceLT, Nat.reduceAdd, Nat.reduceSub, Int.reduceToNat]
    refine Go.Aw.CallA.use rfl (by first | rfl | (simp only [List.map_cons, List.map_nil, Go.Aw.ev, Go.Aw.look, reduceIte, Nat.reduceEqDiff, Option.getD_some, Go.Aw.constAV, Go.Aw.constC]; done)) (eqIntS_own _ 2 4 xs xs rfl rfl (by decide) (by omega) (by omega)) ?_
    simp only [push_cast, reduceIte, reduceCtorEq, Nat.reduceEqDiff, Nat.reduceLT, Nat.reduceAdd, Nat.reduceSub, Int.reduceToNat]
    exact hQ
  refine AW.condE (b := false) (by simp only [push_cast, reduceIte, reduceCtorEq, Nat.reduceEqDiff, Nat.reduceLT, Nat.reduceAdd, Nat.reduceSub, Int.reduceToNat, testA]) (fun hb => by cases hb) (fun _ => AW.go ?_)
  change Go.Aw.AW _ _ _ _ _ _
  (apply Go.Aw.AW.regionS; · (intro Q hQ; simp only [push_cast, reduceIte, reduceCtorEq, Nat.reduceEqDiff, Nat.reduceLT, Nat.reduceAdd, Nat.reduceSub, Int.reduceToNat]; exact hQ))
  apply AW.regionS
  · intro Q hQ
    simp only [push_cast, reduceIte, reduceCtorEq, Nat.reduceEqDiff, Nat.reduceLT, Nat.reduceAdd, Nat.reduceSub, Int.reduceToNat]
    refine Go.Aw.CallA.use rfl (by first | rfl | (simp only [List.map_cons, List.map_nil, Go.Aw.ev, Go.Aw.look, reduceIte, Nat.reduceEqDiff, Option.getD_some, Go.Aw.constAV, Go.Aw.constC]; done)) (markIntS_own _ 2 xs rfl 1 rfl hl (by omega)) ?_
    simp only [push_cast, reduceIte, reduceCtorEq, Nat.reduceEqDiff, Nat.reduceLT, Nat.reduceAdd, Nat.reduceSub, Int.reduceToNat]
    exact hQ
  refine AW.sub (Sub.to (tm' := [(0, .one (.c (.sl lv 1 (intsD xs)))), (3, .one (.c (.i .i64 (if xs = [] then 0 else lastOf xs)))), (4, .one (.c (.os 1 1 0 (xs.length - 1)))), (5, .one (.c (.b (!decide (xs = []))))), (6, .one (.c (.os 2 1 0 xs.length))), (7, .one (.c (.i .i64 (if xs = [] then 0 else lastOf xs)))), (8, .one (.c (.os 3 1 0 (xs.length - 1)))), (9, .one (.c (.b (!decide (xs = []))))), (10, .one (.c (.i .i64 (1 + (xs.length : Int)))))]) (by (simp only [Go.Aw.covers, Go.Aw.look, reduceIte, Nat.reduceEqDiff, if_false, if_true, and_self, true_and, and_true]); try trivial) rfl) ?_
  refine AW.seq ?_
  apply AW.regionS
  · intro Q hQ
    have hneg : ((1 : Int) + (xs.length : Int) < 0) = False := by simp; omega
    (repeat (first | (refine Go.Aw.opsA_skip (by decide) rfl ?_) | (refine Go.Aw.opsA_some (by decide) rfl (by simp only [push_cast, reduceIte, reduceCtorEq, Nat.reduceEqDiff, Nat.reduceLT, Nat.reduceAdd, Nat.reduceSub, Int.reduceToNat, u_int, hneg]; (repeat' apply And.intro) <;> first | rfl | omega | (simp; done)) ?_) | (refine Go.Aw.opsA_none rfl (by simp only [push_cast, reduceIte, reduceCtorEq, Nat.reduceEqDiff, Nat.reduceLT, Nat.reduceAdd, Nat.reduceSub, Int.reduceToNat, u_int, hneg]; (repeat' apply And.intro) <;> first | rfl | omega | (simp; done)) ?_)))
    refine Go.Aw.opsA_call (by decide) rfl rfl (by first | rfl | (simp only [List.map_cons, List.map_nil, Go.Aw.ev, Go.Aw.look, reduceIte, Nat.reduceEqDiff, Option.getD_some, Go.Aw.constAV, Go.Aw.constC]; done)) (eqIntS_own' _ 3 1 ps ps hps hps rfl rfl (by decide) (by omega) (by omega)) ?_
    (repeat (first | (refine Go.Aw.opsA_skip (by decide) rfl ?_) | (refine Go.Aw.opsA_some (by decide) rfl (by simp only [push_cast, reduceIte, reduceCtorEq, Nat.reduceEqDiff, Nat.reduceLT, Nat.reduceAdd, Nat.reduceSub, Int.reduceToNat, u_bool]; (repeat' apply And.intro) <;> first | rfl | omega | (simp; done)) ?_) | (refine Go.Aw.opsA_none rfl (by simp only [push_cast, reduceIte, reduceCtorEq, Nat.reduceEqDiff, Nat.reduceLT, Nat.reduceAdd, Nat.reduceSub, Int.reduceToNat, u_bool]; (repeat' apply And.intro) <;> first | rfl | omega | (simp; done)) ?_)))
    exact hQ
  refine AW.condE (b := false) (by simp only [push_cast, reduceIte, reduceCtorEq, Nat.reduceEqDiff, Nat.reduceLT, Nat.reduceAdd, Nat.reduceSub, Int.reduceToNat, testA]) (fun hb => by cases hb) (fun _ => AW.go ?_)
  change Go.Aw.AW _ _ _ _ _ _
  refine AW.sub (Sub.to (tm' := [(0, .one (.c (.sl lv 1 (intsD xs)))), (3, .one (.c (.i .i64 (if xs = [] then 0 else lastOf xs)))), (4, .one (.c (.os 1 1 0 (xs.length - 1)))), (5, .one (.c (.b (!decide (xs = []))))), (6, .one (.c (.os 2 1 0 xs.length))), (7, .one (.c (.i .i64 (if xs = [] then 0 else lastOf xs)))), (8, .one (.c (.os 3 1 0 (xs.length - 1)))), (9, .one (.c (.b (!decide (xs = [])))))]) (by (simp only [Go.Aw.covers, Go.Aw.look, reduceIte, Nat.reduceEqDiff, if_false, if_true, and_self, true_and, and_true]); try trivial) rfl) ?_
  (apply Go.Aw.AW.regionS; · (intro Q hQ; simp only [push_cast, reduceIte, reduceCtorEq, Nat.reduceEqDiff, Nat.reduceLT, Nat.reduceAdd, Nat.reduceSub, Int.reduceToNat]; exact hQ))
  apply AW.regionS
  · intro Q hQ
    simp only [push_cast, reduceIte, reduceCtorEq, Nat.reduceEqDiff, Nat.reduceLT, Nat.reduceAdd, Nat.reduceSub, Int.reduceToNat]
    refine Go.Aw.CallA.use rfl (by first | rfl | (simp only [List.map_cons, List.map_nil, Go.Aw.ev, Go.Aw.look, reduceIte, Nat.reduceEqDiff, Option.getD_some, Go.Aw.constAV, Go.Aw.constC]; done)) (markIntS_own _ 3 ps hps 1 rfl (by omega) (by omega)) ?_
    simp only [push_cast, reduceIte, reduceCtorEq, Nat.reduceEqDiff, Nat.reduceLT, Nat.reduceAdd, Nat.reduceSub, Int.reduceToNat]
    exact hQ
  (apply Go.Aw.AW.regionS; · (intro Q hQ; simp only [push_cast, reduceIte, reduceCtorEq, Nat.reduceEqDiff, Nat.reduceLT, Nat.reduceAdd, Nat.reduceSub, Int.reduceToNat]; exact hQ))
  apply AW.regionS
  · intro Q hQ
    simp only [push_cast, reduceIte, reduceCtorEq, Nat.reduceEqDiff, Nat.reduceLT, Nat.reduceAdd, Nat.reduceSub, Int.reduceToNat]
    refine Go.Aw.CallA.use rfl (by first | rfl | (simp only [List.map_cons, List.map_nil, Go.Aw.ev, Go.Aw.look, reduceIte, Nat.reduceEqDiff, Option.getD_some, Go.Aw.constAV, Go.Aw.constC]; done)) (heldIntS_marks _ 3 (xs.length - 1) 1 rfl (by omega) (by omega)) ?_
    simp only [push_cast, reduceIte, reduceCtorEq, Nat.reduceEqDiff, Nat.reduceLT, Nat.reduceAdd, Nat.reduceSub, Int.reduceToNat]
    exact hQ
  refine AW.sub (Sub.to (tm' := [(0, .one (.c (.sl lv 1 (intsD xs)))), (3, .one (.c (.i .i64 (if xs = [] then 0 else lastOf xs)))), (4, .one (.c (.os 1 1 0 (xs.length - 1)))), (5, .one (.c (.b (!decide (xs = []))))), (6, .one (.c (.os 2 1 0 xs.length))), (7, .one (.c (.i .i64 (if xs = [] then 0 else lastOf xs)))), (8, .one (.c (.os 3 1 0 (xs.length - 1)))), (9, .one (.c (.b (!decide (xs = []))))), (11, .one (.c (.i .i64 (1 + ((xs.length - 1 : Nat) : Int))))), (12, .one (.c (.i .i64 (1 + ((xs.length - 1 : Nat) : Int)))))]) (by (simp only [Go.Aw.covers, Go.Aw.look, reduceIte, Nat.reduceEqDiff, if_false, if_true, and_self, true_and, and_true]); try trivial) rfl) ?_
  refine AW.seq ?_
  (apply Go.Aw.AW.regionS; · (intro Q hQ; simp only [push_cast, reduceIte, reduceCtorEq, Nat.reduceEqDiff, Nat.reduceLT, Nat.reduceAdd, Nat.reduceSub, Int.reduceToNat, u_int]; exact hQ))
  have hneg : ((1 : Int) + ((xs.length - 1 : Nat) : Int) < 0) = False := by simp; omega
  refine AW.condE (b := false) (by simp only [push_cast, reduceIte, reduceCtorEq, Nat.reduceEqDiff, Nat.reduceLT, Nat.reduceAdd, Nat.reduceSub, Int.reduceToNat, testA, hneg]) (fun hb => by cases hb) (fun _ => AW.go ?_)
  change Go.Aw.AW _ _ _ _ _ _
  refine AW.seq ?_
  (apply Go.Aw.AW.regionS; · (intro Q hQ; simp only [push_cast, reduceIte, reduceCtorEq, Nat.reduceEqDiff, Nat.reduceLT, Nat.reduceAdd, Nat.reduceSub, Int.reduceToNat, u_int]; exact hQ))
  refine AW.condE (b := false) (by simp only [push_cast, reduceIte, reduceCtorEq, Nat.reduceEqDiff, Nat.reduceLT, Nat.reduceAdd, Nat.reduceSub, Int.reduceToNat, testA]) (fun hb => by cases hb) (fun _ => AW.go ?_)
  change Go.Aw.AW _ _ _ _ _ _
  refine AW.sub (Sub.to (tm' := [(0, .one (.c (.sl lv 1 (intsD xs)))), (3, .one (.c (.i .i64 (if xs = [] then 0 else lastOf xs)))), (4, .one (.c (.os 1 1 0 (xs.length - 1)))), (5, .one (.c (.b (!decide (xs = []))))), (6, .one (.c (.os 2 1 0 xs.length))), (7, .one (.c (.i .i64 (if xs = [] then 0 else lastOf xs)))), (8, .one (.c (.os 3 1 0 (xs.length - 1)))), (9, .one (.c (.b (!decide (xs = []))))), (11, .one (.c (.i .i64 (1 + ((xs.length - 1 : Nat) : Int)))))]) (by (simp only [Go.Aw.covers, Go.Aw.look, reduceIte, Nat.reduceEqDiff, if_false, if_true, and_self, true_and, and_true]); try trivial) rfl) ?_
  apply AW.regionS
  · intro Q hQ
    simp only [push_cast, reduceIte, reduceCtorEq, Nat.reduceEqDiff, Nat.reduceLT, Nat.reduceAdd, Nat.reduceSub, Int.reduceToNat]
    refine Go.Aw.CallA.use rfl (by first | rfl | (simp only [List.map_cons, List.map_nil, Go.Aw.ev, Go.Aw.look, reduceIte, Nat.reduceEqDiff, Option.getD_some, Go.Aw.constAV, Go.Aw.constC]; done)) (toIntS_ac _ lv xs hl) ?_
    simp only [push_cast, reduceIte, reduceCtorEq, Nat.reduceEqDiff, Nat.reduceLT, Nat.reduceAdd, Nat.reduceSub, Int.reduceToNat]
    refine Go.Aw.CallA.use rfl (by first | rfl | (simp only [List.map_cons, List.map_nil, Go.Aw.ev, Go.Aw.look, reduceIte, Nat.reduceEqDiff, Option.getD_some, Go.Aw.constAV, Go.Aw.constC]; done)) (implPopBack_own _ 5 xs rfl hl) ?_
    simp only [push_cast, reduceIte, reduceCtorEq, Nat.reduceEqDiff, Nat.reduceLT, Nat.reduceAdd, Nat.reduceSub, Int.reduceToNat, popRes, aExtract]
    exact hQ
  refine AW.seq ?_
  apply AW.regionS
  · intro Q hQ
    simp only [push_cast, reduceIte, reduceCtorEq, Nat.reduceEqDiff, Nat.reduceLT, Nat.reduceAdd, Nat.reduceSub, Int.reduceToNat, u_int]
    refine Go.Aw.CallA.use rfl (by first | rfl | (simp only [List.map_cons, List.map_nil, Go.Aw.ev, Go.Aw.look, reduceIte, Nat.reduceEqDiff, Option.getD_some, Go.Aw.constAV, Go.Aw.constC]; done)) (eqIntS_own' _ 6 1 ps ps hps hps rfl rfl (by decide) (by omega) (by omega)) ?_
    simp only [push_cast, reduceIte, reduceCtorEq, Nat.reduceEqDiff, Nat.reduceLT, Nat.reduceAdd, Nat.reduceSub, Int.reduceToNat, u_bool]
    exact hQ
  refine AW.condE (b := false) (by simp only [push_cast, reduceIte, reduceCtorEq, Nat.reduceEqDiff, Nat.reduceLT, Nat.reduceAdd, Nat.reduceSub, Int.reduceToNat, testA]) (fun hb => by cases hb) (fun _ => AW.go ?_)
  change Go.Aw.AW _ _ _ _ _ _
  (apply Go.Aw.AW.regionS; · (intro Q hQ; simp only [push_cast, reduceIte, reduceCtorEq, Nat.reduceEqDiff, Nat.reduceLT, Nat.reduceAdd, Nat.reduceSub, Int.reduceToNat]; exact hQ))
  apply AW.regionS
  · intro Q hQ
    simp only [push_cast, reduceIte, reduceCtorEq, Nat.reduceEqDiff, Nat.reduceLT, Nat.reduceAdd, Nat.reduceSub, Int.reduceToNat]
    refine Go.Aw.CallA.use rfl (by first | rfl | (simp only [List.map_cons, List.map_nil, Go.Aw.ev, Go.Aw.look, reduceIte, Nat.reduceEqDiff, Option.getD_some, Go.Aw.constAV, Go.Aw.constC]; done)) (heldIntS_marks _ 3 (xs.length - 1) 1 rfl (by omega) (by omega)) ?_
    simp only [push_cast, reduceIte, reduceCtorEq, Nat.reduceEqDiff, Nat.reduceLT, Nat.reduceAdd, Nat.reduceSub, Int.reduceToNat]
    exact hQ
  refine AW.seq ?_
  (apply Go.Aw.AW.regionS; · (intro Q hQ; simp only [push_cast, reduceIte, reduceCtorEq, Nat.reduceEqDiff, Nat.reduceLT, Nat.reduceAdd, Nat.reduceSub, Int.reduceToNat, u_int]; exact hQ))
  have hneg : ((1 : Int) + ((xs.length - 1 : Nat) : Int) < 0) = False := by simp; omega
  refine AW.condE (b := false) (by simp only [push_cast, reduceIte, reduceCtorEq, Nat.reduceEqDiff, Nat.reduceLT, Nat.reduceAdd, Nat.reduceSub, Int.reduceToNat, testA, hneg]) (fun hb => by cases hb) (fun _ => AW.go ?_)
  change Go.Aw.AW _ _ _ _ _ _
  refine AW.seq ?_
  (apply Go.Aw.AW.regionS; · (intro Q hQ; simp only [push_cast, reduceIte, reduceCtorEq, Nat.reduceEqDiff, Nat.reduceLT, Nat.reduceAdd, Nat.reduceSub, Int.reduceToNat, u_int]; exact hQ))
  refine AW.condE (b := false) (by simp only [push_cast, reduceIte, reduceCtorEq, Nat.reduceEqDiff, Nat.reduceLT, Nat.reduceAdd, Nat.reduceSub, Int.reduceToNat, testA]) (fun hb => by cases hb) (fun _ => AW.go ?_)
  change Go.Aw.AW _ _ _ _ _ _
  (apply Go.Aw.AW.regionS; · (intro Q hQ; simp only [push_cast, reduceIte, reduceCtorEq, Nat.reduceEqDiff, Nat.reduceLT, Nat.reduceAdd, Nat.reduceSub, Int.reduceToNat]; exact hQ))
  refine AW.ret (retP_by (tm := [(2, .one (.c (.b true)))]) (Sub.drop (H := []) (L2 := []) [] hcl rfl (by simp) rfl (by simp) ?_) rfl)
  (simp [Go.Aw.gcTm, Go.Aw.look, Go.Aw.AV.ren, Go.Aw.A1.ren, Go.Aw.C.ren, Go.Aw.gcR, Go.Aw.gcK, Go.Aw.keptAll, Go.Aw.AV.names, Go.Aw.A1.names, Go.Aw.C.names, List.idxOf_cons])
theorem lawPopBack_long (lv : Bool) (xs : List Int) (hl : 1048576 < xs.length) : AC Try.prog 5 [.one (.c (.sl lv 1 (intsD xs)))] [] (.one (.c (.b true))) [] := by
  refine AC.mk 114 [.tmp 2] Try.func5 (by kernel_rfl) rfl rfl rfl (by simp) fun hcl hca => ?_
  (apply Go.Aw.AW.regionS; · (intro Q hQ; simp only [push_cast, reduceIte, reduceCtorEq, Nat.reduceEqDiff, Nat.reduceLT, Nat.reduceAdd, Nat.reduceSub, Int.reduceToNat]; exact hQ))
  refine AW.seq ?_
  (apply Go.Aw.AW.regionS; · (intro Q hQ; simp only [push_cast, reduceIte, reduceCtorEq, Nat.reduceEqDiff, Nat.reduceLT, Nat.reduceAdd, Nat.reduceSub, Int.reduceToNat, u_int, u_ints, intsD_len]; exact hQ))
  refine AW.condE (b := decide ((1048576 : Int) < xs.length)) (by simp only [push_cast, reduceIte, reduceCtorEq, Nat.reduceEqDiff, Nat.reduceLT, Nat.reduceAdd, Nat.reduceSub, Int.reduceToNat, testA]) (fun hb => ?_) (fun hb => ?_)
  · (apply Go.Aw.AW.regionS; · (intro Q hQ; simp only [push_cast, reduceIte, reduceCtorEq, Nat.reduceEqDiff, Nat.reduceLT, Nat.reduceAdd, Nat.reduceSub, Int.reduceToNat]; exact hQ))
    (refine Go.Aw.AW.ret ?_; (repeat (with_reducible first | refine Go.Aw.norm_then ?_ | refine Go.Aw.norm_in ?_ | refine Go.Aw.ret_then ?_ | refine Go.Aw.ret_in ?_ | refine Go.Aw.exit_then ?_ | refine Go.Aw.exit_in ?_ | refine Go.Aw.exit_by (by decide) ?_)); refine Go.Aw.retP_now (by simp only [Go.Aw.resA, Go.Aw.resL, Go.Aw.look, reduceIte, Nat.reduceEqDiff]) ?_; (try rfl))
  · have : ¬ (1048576 : Int) < xs.length := by simpa using hb
    omega
theorem lawPopBack_all (lv : Bool) (xs : List Int) : AC Try.prog 5 [.one (.c (.sl lv 1 (intsD xs)))] [] (.one (.c (.b true))) [] := by
  by_cases h : xs.length ≤ 1048576
  · exact lawPopBack_ac lv xs h
  · exact lawPopBack_long lv xs (by omega)
end Go.Proofs.Ytioanpejndfbnaa
