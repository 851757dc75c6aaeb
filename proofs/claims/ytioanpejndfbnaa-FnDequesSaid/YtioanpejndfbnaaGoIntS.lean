/- The laws' own functions over []int. -/
import Derived.Test.YtioanpejndfbnaaAwV
import Derived.Test.YtioanpejndfbnaaProg
import Derived.KernelRfl
namespace Go.Proofs.Ytioanpejndfbnaa
open Go.Aw Go.RowKit
set_option linter.unusedSimpArgs false
set_option linter.unusedVariables false

def intsD (xs : List Int) : List (List D) := xs.map fun x => [.int .i64 x]
def intsC (xs : List Int) : List (List C) := xs.map fun x => [.i .i64 x]
theorem u_ints : Try.prog.underlying 29 = some (.slice 3) := Try.underlying29
theorem u_int : Try.prog.underlying 3 = some (.int .i64) := Try.underlying3
theorem c_int : Try.prog.cellsOf 3 = 1 := by kernel_rfl
theorem b_int : Try.prog.bytesOf 3 = 8 := by kernel_rfl
theorem z_int : zeroC Try.prog 3 = some [.i .i64 0] := by kernel_rfl

theorem intsD_len (xs : List Int) : (intsD xs).length = xs.length := by simp [intsD]
theorem intsC_len (xs : List Int) : (intsC xs).length = xs.length := by simp [intsC]
theorem intsD_at {xs : List Int} {k : Nat} (h : k < xs.length) : (intsD xs).getD k [] = [.int .i64 (xs.getD k 0)] := by
  simp [intsD, h]

theorem intsC_at {xs : List Int} {k : Nat} (h : k < xs.length) : (intsC xs)[k]? = some [.i .i64 (xs.getD k 0)] := by
  simp [intsC, h]

theorem intsD_C (lv : Bool) (xs : List Int) : List.map (fun x => List.map (D.toC lv) x) (intsD xs) = intsC xs := by simp [intsD, intsC, D.toC]
theorem intsC_keep (xs : List Int) : (∀ r : List C, r ∈ intsC xs → r.all C.keep = true) ↔ True := by simp [intsC, C.keep]
theorem intsC_names (xs : List Int) : (intsC xs).flatten.flatMap C.names = [] := by
  induction xs with
  | nil => rfl
  | cons x xs ih => simpa [intsC, C.names] using ih
theorem toIntS_ac (H : Heap) (lv : Bool) (xs : List Int) (hl : xs.length ≤ 1048576) :
    AC Try.prog 23 [.one (.c (.sl lv 1 (intsD xs)))] H (.one (.c (.os H.length 1 0 xs.length))) (H ++ [.row 3 1 (intsC xs)]) := by
  refine AC.mk 22 [.tmp 2] Try.func23 (by kernel_rfl) rfl rfl rfl (by simp) fun hcl hca => ?_
  (apply Go.Aw.AW.regionS; · (intro Q hQ; simp only [push_cast, reduceIte, reduceCtorEq, Nat.reduceEqDiff, Nat.reduceLT, Nat.reduceAdd, Nat.reduceSub]; exact hQ))
  (apply Go.Aw.AW.regionS; · (intro Q hQ; simp only [push_cast, reduceIte, reduceCtorEq, Nat.reduceEqDiff, Nat.reduceLT, Nat.reduceAdd, Nat.reduceSub, u_ints, c_int, b_int, z_int, intsD_len]; (repeat' apply And.intro) <;> first | exact hQ | omega | simp))
  refine AW.seq ?_
  (apply Go.Aw.AW.regionS; · (intro Q hQ; simp only [push_cast, reduceIte, reduceCtorEq, Nat.reduceEqDiff, Nat.reduceLT, Nat.reduceAdd, Nat.reduceSub]; exact hQ))
  refine AW.block ?_
  let E : Nat → List (List C) := fillE (intsC xs) [.i .i64 0]
  have hE : ∀ k, k ≤ xs.length → (E k).length = xs.length := fun k hk => by simp only [E]; rw [fillE_len (by rw [intsC_len]; exact hk), intsC_len]
  have hE1 : ∀ k, k < xs.length → (E k).set k (putAt ((E k).getD k []) 0 [.i .i64 (xs.getD k 0)]) = E (k + 1) := fun k hk => fillE_put (intsC_at hk) rfl
  refine AW.loop (α := { k : Nat // k ≤ xs.length }) (fun k => ⟨[(0, .one (.c (.sl lv 1 (intsD xs)))), (3, .one (.c (.os H.length 1 0 xs.length))), (4, .one (.c (.i .i64 (k.1 : Int))))], H ++ [.row 3 1 (E k.1)]⟩) (fun k => xs.length - k.1) ⟨0, by omega⟩ ?_ ?_
  · refine Sub.to (by (simp only [Go.Aw.covers, Go.Aw.look, reduceIte, Nat.reduceEqDiff, if_false, if_true, and_self, true_and, and_true]); trivial) (by rw [show E 0 = _ from fillE_zero _ _, intsC_len])
  · rintro ⟨k, hk⟩
    refine AW.seq ?_
    (apply Go.Aw.AW.regionS; · (intro Q hQ; simp only [push_cast, reduceIte, reduceCtorEq, Nat.reduceEqDiff, Nat.reduceLT, Nat.reduceAdd, Nat.reduceSub, u_int, u_ints, intsD_len]; exact hQ))
    refine AW.condE (b := decide ((k : Int) < xs.length)) (by simp only [push_cast, reduceIte, reduceCtorEq, Nat.reduceEqDiff, Nat.reduceLT, Nat.reduceAdd, Nat.reduceSub, testA]) (fun hb => AW.go ?_) (fun hb => AW.exit ?_)
    · have hlt : k < xs.length := by simpa using hb
      change Go.Aw.AW _ _ _ _ _ _
      refine AW.seq (AW.block ?_)
      (apply Go.Aw.AW.regionE; · (intro Q hQ; simp only [push_cast, reduceIte, reduceCtorEq, Nat.reduceEqDiff, Nat.reduceLT, Nat.reduceAdd, Nat.reduceSub, u_int, u_ints, c_int, intsD_len, intsD_at hlt, hE k hk, hE1 k hlt]; (repeat' apply And.intro) <;> first | exact hQ | omega | simp))
      (repeat (with_reducible first | refine Go.Aw.norm_then ?_ | refine Go.Aw.norm_in ?_ | refine Go.Aw.ret_then ?_ | refine Go.Aw.ret_in ?_ | refine Go.Aw.exit_then ?_ | refine Go.Aw.exit_in ?_ | refine Go.Aw.exit_by (by decide) ?_))
      (apply Go.Aw.AW.regionE; · (intro Q hQ; simp only [push_cast, reduceIte, reduceCtorEq, Nat.reduceEqDiff, Nat.reduceLT, Nat.reduceAdd, Nat.reduceSub, wrap_in (n := (k : Int) + 1) (by omega)]; exact hQ))
      (repeat (with_reducible first | refine Go.Aw.norm_then ?_ | refine Go.Aw.norm_in ?_ | refine Go.Aw.ret_then ?_ | refine Go.Aw.ret_in ?_ | refine Go.Aw.exit_then ?_ | refine Go.Aw.exit_in ?_ | refine Go.Aw.exit_by (by decide) ?_))
      exact ⟨⟨k + 1, hlt⟩, Sub.to (by (simp only [Go.Aw.covers, Go.Aw.look, reduceIte, Nat.reduceEqDiff, if_false, if_true, and_self, true_and, and_true]); simp) rfl, by simp; omega⟩
    · (repeat (with_reducible first | refine Go.Aw.norm_then ?_ | refine Go.Aw.norm_in ?_ | refine Go.Aw.ret_then ?_ | refine Go.Aw.ret_in ?_ | refine Go.Aw.exit_then ?_ | refine Go.Aw.exit_in ?_ | refine Go.Aw.exit_by (by decide) ?_))
      have hk' : k = xs.length := by have : ¬ (k : Int) < xs.length := by simpa using hb
                                     omega
      change Go.Aw.AW _ _ _ _ _ _
      (apply Go.Aw.AW.regionS; · (intro Q hQ; simp only [push_cast, reduceIte, reduceCtorEq, Nat.reduceEqDiff, Nat.reduceLT, Nat.reduceAdd, Nat.reduceSub]; exact hQ))
      (refine Go.Aw.AW.ret ?_; (repeat (with_reducible first | refine Go.Aw.norm_then ?_ | refine Go.Aw.norm_in ?_ | refine Go.Aw.ret_then ?_ | refine Go.Aw.ret_in ?_ | refine Go.Aw.exit_then ?_ | refine Go.Aw.exit_in ?_ | refine Go.Aw.exit_by (by decide) ?_)); refine Go.Aw.retP_now (by simp only [Go.Aw.resA, Go.Aw.resL, Go.Aw.look, reduceIte, Nat.reduceEqDiff]) ?_; (try rfl))
      subst hk'; rw [← intsC_len]; exact congrArg (fun e => H ++ [Ob.row _ 1 e]) (fillE_all _ _)

theorem eqIntS_ac (H : Heap) (la lb : Bool) (xs ys : List Int) (hx : xs.length ≤ 9223372036854775807) (hy : ys.length ≤ 9223372036854775807) :
    AC Try.prog 19 [.one (.c (.sl la 1 (intsD xs))), .one (.c (.sl lb 1 (intsD ys)))] H (.one (.c (.b (decide (xs = ys))))) H := by
  refine AC.mk 26 [.tmp 4] Try.func19 (by kernel_rfl) rfl rfl rfl (by simp) fun hcl hca => ?_
  (apply Go.Aw.AW.regionS; · (intro Q hQ; simp only [push_cast, reduceIte, reduceCtorEq, Nat.reduceEqDiff, Nat.reduceLT, Nat.reduceAdd, Nat.reduceSub]; exact hQ))
  refine AW.seq ?_
  (apply Go.Aw.AW.regionS; · (intro Q hQ; simp only [push_cast, reduceIte, reduceCtorEq, Nat.reduceEqDiff, Nat.reduceLT, Nat.reduceAdd, Nat.reduceSub, u_int, u_ints, intsD_len]; exact hQ))
  refine AW.condE (b := !decide ((xs.length : Int) = ys.length)) (by simp only [push_cast, reduceIte, reduceCtorEq, Nat.reduceEqDiff, Nat.reduceLT, Nat.reduceAdd, Nat.reduceSub, testA]) (fun hb => ?_) (fun hb => AW.go ?_)
  · have hne : decide (xs = ys) = false := by
      have : ¬ (xs.length : Int) = ys.length := by simpa using hb
      simp; rintro rfl; exact this rfl
    (apply Go.Aw.AW.regionS; · (intro Q hQ; simp only [push_cast, reduceIte, reduceCtorEq, Nat.reduceEqDiff, Nat.reduceLT, Nat.reduceAdd, Nat.reduceSub]; exact hQ))
    (refine Go.Aw.AW.ret ?_; (repeat (with_reducible first | refine Go.Aw.norm_then ?_ | refine Go.Aw.norm_in ?_ | refine Go.Aw.ret_then ?_ | refine Go.Aw.ret_in ?_ | refine Go.Aw.exit_then ?_ | refine Go.Aw.exit_in ?_ | refine Go.Aw.exit_by (by decide) ?_)); refine Go.Aw.retP_now (by simp only [Go.Aw.resA, Go.Aw.resL, Go.Aw.look, reduceIte, Nat.reduceEqDiff, hne]) ?_; (try rfl))
  have hlen : xs.length = ys.length := by have : (xs.length : Int) = ys.length := by simpa using hb
                                          omega
  change Go.Aw.AW _ _ _ _ _ _
  refine AW.seq ?_
  (apply Go.Aw.AW.regionS; · (intro Q hQ; simp only [push_cast, reduceIte, reduceCtorEq, Nat.reduceEqDiff, Nat.reduceLT, Nat.reduceAdd, Nat.reduceSub]; exact hQ))
  refine AW.block ?_
  refine AW.loop (α := { k : Nat // k ≤ xs.length ∧ xs.take k = ys.take k }) (fun k => ⟨[(0, .one (.c (.sl la 1 (intsD xs)))), (1, .one (.c (.sl lb 1 (intsD ys)))), (5, .one (.c (.i .i64 (k.1 : Int))))], H⟩) (fun k => xs.length - k.1) ⟨0, by simp⟩ ?_ ?_
  · exact Sub.to (by (simp only [Go.Aw.covers, Go.Aw.look, reduceIte, Nat.reduceEqDiff, if_false, if_true, and_self, true_and, and_true]); trivial) rfl
  · rintro ⟨k, hk, hkt⟩
    refine AW.seq ?_
    (apply Go.Aw.AW.regionS; · (intro Q hQ; simp only [push_cast, reduceIte, reduceCtorEq, Nat.reduceEqDiff, Nat.reduceLT, Nat.reduceAdd, Nat.reduceSub, u_int, u_ints, intsD_len]; exact hQ))
    refine AW.condE (b := decide ((k : Int) < xs.length)) (by simp only [push_cast, reduceIte, reduceCtorEq, Nat.reduceEqDiff, Nat.reduceLT, Nat.reduceAdd, Nat.reduceSub, testA]) (fun hb => AW.go ?_) (fun hb => AW.exit ?_)
    · have hlt : k < xs.length := by simpa using hb
      have hlt' : k < ys.length := by omega
      change Go.Aw.AW _ _ _ _ _ _
      refine AW.seq (AW.block ?_)
      (apply Go.Aw.AW.drawS (by kernel_rfl) (by kernel_rfl) 0; · (intro Q hQ; simp only [push_cast, reduceIte, reduceCtorEq, Nat.reduceEqDiff, Nat.reduceLT, Nat.reduceAdd, Nat.reduceSub, u_int, u_ints, c_int, intsD_len, intsD_at hlt, intsD_at hlt']; (repeat' apply And.intro) <;> first | exact hQ | omega | simp))
      refine AW.condE (b := !decide (xs.getD k 0 = ys.getD k 0)) (by simp only [push_cast, reduceIte, reduceCtorEq, Nat.reduceEqDiff, Nat.reduceLT, Nat.reduceAdd, Nat.reduceSub, testA]) (fun hb => ?_) (fun hb => AW.skip ?_)
      · have hne : decide (xs = ys) = false := by
          have : ¬ xs.getD k 0 = ys.getD k 0 := by simpa using hb
          simp; rintro rfl; exact this rfl
        (apply Go.Aw.AW.regionS; · (intro Q hQ; simp only [push_cast, reduceIte, reduceCtorEq, Nat.reduceEqDiff, Nat.reduceLT, Nat.reduceAdd, Nat.reduceSub]; exact hQ))
        (refine Go.Aw.AW.ret ?_; (repeat (with_reducible first | refine Go.Aw.norm_then ?_ | refine Go.Aw.norm_in ?_ | refine Go.Aw.ret_then ?_ | refine Go.Aw.ret_in ?_ | refine Go.Aw.exit_then ?_ | refine Go.Aw.exit_in ?_ | refine Go.Aw.exit_by (by decide) ?_)); refine Go.Aw.retP_now (by simp only [Go.Aw.resA, Go.Aw.resL, Go.Aw.look, reduceIte, Nat.reduceEqDiff, hne]) ?_; (try rfl))
      · have he : xs.getD k 0 = ys.getD k 0 := by simpa using hb
        (repeat (with_reducible first | refine Go.Aw.norm_then ?_ | refine Go.Aw.norm_in ?_ | refine Go.Aw.ret_then ?_ | refine Go.Aw.ret_in ?_ | refine Go.Aw.exit_then ?_ | refine Go.Aw.exit_in ?_ | refine Go.Aw.exit_by (by decide) ?_))
        (apply Go.Aw.AW.regionE; · (intro Q hQ; simp only [push_cast, reduceIte, reduceCtorEq, Nat.reduceEqDiff, Nat.reduceLT, Nat.reduceAdd, Nat.reduceSub, wrap_in (n := (k : Int) + 1) (by omega)]; exact hQ))
        (repeat (with_reducible first | refine Go.Aw.norm_then ?_ | refine Go.Aw.norm_in ?_ | refine Go.Aw.ret_then ?_ | refine Go.Aw.ret_in ?_ | refine Go.Aw.exit_then ?_ | refine Go.Aw.exit_in ?_ | refine Go.Aw.exit_by (by decide) ?_))
        refine ⟨⟨k + 1, hlt, ?_⟩, Sub.to (by (simp only [Go.Aw.covers, Go.Aw.look, reduceIte, Nat.reduceEqDiff, if_false, if_true, and_self, true_and, and_true]); simp) rfl, by simp; omega⟩
        rw [List.take_add_one (l := xs), List.take_add_one (l := ys), hkt]
        congr 1
        simp [hlt, hlt'] at he ⊢
        exact he
    · (repeat (with_reducible first | refine Go.Aw.norm_then ?_ | refine Go.Aw.norm_in ?_ | refine Go.Aw.ret_then ?_ | refine Go.Aw.ret_in ?_ | refine Go.Aw.exit_then ?_ | refine Go.Aw.exit_in ?_ | refine Go.Aw.exit_by (by decide) ?_))
      have hk' : k = xs.length := by have : ¬ (k : Int) < xs.length := by simpa using hb
                                     omega
      have heq : decide (xs = ys) = true := by
        subst hk'
        rw [List.take_length, hlen, List.take_length] at hkt
        simpa using hkt
      change Go.Aw.AW _ _ _ _ _ _
      (apply Go.Aw.AW.regionS; · (intro Q hQ; simp only [push_cast, reduceIte, reduceCtorEq, Nat.reduceEqDiff, Nat.reduceLT, Nat.reduceAdd, Nat.reduceSub]; exact hQ))
      (refine Go.Aw.AW.ret ?_; (repeat (with_reducible first | refine Go.Aw.norm_then ?_ | refine Go.Aw.norm_in ?_ | refine Go.Aw.ret_then ?_ | refine Go.Aw.ret_in ?_ | refine Go.Aw.exit_then ?_ | refine Go.Aw.exit_in ?_ | refine Go.Aw.exit_by (by decide) ?_)); refine Go.Aw.retP_now (by simp only [Go.Aw.resA, Go.Aw.resL, Go.Aw.look, reduceIte, Nat.reduceEqDiff, heq]) ?_; (try rfl))

/-- From k on. -/
def marks (k : Int) (n : Nat) : List Int := (List.range n).map fun (j : Nat) => k + (j : Int)
theorem marks_len (k : Int) (n : Nat) : (marks k n).length = n := by simp [marks]
theorem marks_at {k : Int} {n j : Nat} (h : j < n) : (marks k n).getD j 0 = k + j := by simp [marks, h]

theorem markIntS_ac (H : Heap) (o : Nat) (xs : List Int) (k : Int) (ho : H[o]? = some (.row 3 1 (intsC xs))) (hl : xs.length ≤ 1048576) (hk : 0 ≤ k ∧ k ≤ 1152921504606846976) :
    AC Try.prog 20 [.one (.c (.os o 1 0 xs.length)), .one (.c (.i .i64 k))] H (.one (.c (.i .i64 (k + xs.length)))) (H.set o (.row 3 1 (intsC (marks k xs.length)))) := by
  have hlt0 : o < H.length := (List.getElem?_eq_some_iff.1 ho).1
  have hget : ∀ x : Ob, (H.set o x)[o]? = some x := fun x => List.getElem?_set_self hlt0
  refine AC.mk 19 [.tmp 4] Try.func20 (by kernel_rfl) rfl rfl rfl (by simp) fun hcl hca => ?_
  (apply Go.Aw.AW.regionS; · (intro Q hQ; simp only [push_cast, reduceIte, reduceCtorEq, Nat.reduceEqDiff, Nat.reduceLT, Nat.reduceAdd, Nat.reduceSub]; exact hQ))
  refine AW.seq ?_
  (apply Go.Aw.AW.regionS; · (intro Q hQ; simp only [push_cast, reduceIte, reduceCtorEq, Nat.reduceEqDiff, Nat.reduceLT, Nat.reduceAdd, Nat.reduceSub]; exact hQ))
  refine AW.block ?_
  let M : Nat → List (List C) := fun j => intsC ((marks k xs.length).take j ++ xs.drop j)
  have hM : ∀ j, j ≤ xs.length → (M j).length = xs.length := fun j hj => by simp [M, intsC, marks]; omega
  have hM1 : ∀ j, j < xs.length → (M j).set j (putAt ((M j).getD j []) 0 [.i .i64 (k + j)]) = M (j + 1) := by
    intro j hj
    have h1 : (M j).getD j [] = [.i .i64 (xs.getD j 0)] := by
      have hm : min j (marks k xs.length).length = j := by rw [marks_len]; omega
      simp only [M, intsC, List.map_append]
      rw [List.getD_eq_getElem?_getD, List.getElem?_append_right (by simp [marks_len]; omega)]
      simp [marks_len, show min j xs.length = j by omega, hj]
    rw [h1, show putAt [C.i .i64 (xs.getD j 0)] 0 [C.i .i64 (k + j)] = [C.i .i64 (k + j)] from putAt_all rfl]
    apply List.ext_getElem?
    intro q
    have hl1 := hM j (by omega)
    rw [List.getElem?_set]
    simp only [M, intsC, List.map_append, List.getElem?_append, List.length_map, List.length_take, List.getElem?_map, List.getElem?_take, List.getElem?_drop, marks_len, show min j xs.length = j by omega, show min (j + 1) xs.length = j + 1 by omega]
    by_cases hq : j = q
    · subst hq
      rw [if_pos rfl, if_pos (by simp [M, intsC, marks_len]; omega), if_pos (by omega), if_pos (by omega)]
      simp [marks, hj]
    · rw [if_neg hq]
      by_cases h2 : q < j
      · simp [h2, show q < j + 1 by omega]
      · rw [if_neg h2, if_neg (by omega), show j + (q - j) = j + 1 + (q - (j + 1)) by omega]
  refine AW.loop (α := { j : Nat // j ≤ xs.length }) (fun j => ⟨[(0, .one (.c (.os o 1 0 xs.length))), (1, .one (.c (.i .i64 (k + (j.1 : Int))))), (5, .one (.c (.i .i64 (j.1 : Int))))], H.set o (.row 3 1 (M j.1))⟩) (fun j => xs.length - j.1) ⟨0, by omega⟩ ?_ ?_
  · refine Sub.to (by (simp only [Go.Aw.covers, Go.Aw.look, reduceIte, Nat.reduceEqDiff, if_false, if_true, and_self, true_and, and_true]); simp) ?_
    have hM0 : M 0 = intsC xs := by simp [M]
    apply List.ext_getElem?
    intro q
    rw [List.getElem?_set]
    split
    · rename_i hq; subst hq; try rw [if_pos hlt0]
      rw [ho]; exact congrArg (fun e => some (Ob.row _ 1 e)) hM0.symm
    · rfl
  · rintro ⟨j, hj⟩
    refine AW.seq ?_
    (apply Go.Aw.AW.regionS; · (intro Q hQ; simp only [push_cast, reduceIte, reduceCtorEq, Nat.reduceEqDiff, Nat.reduceLT, Nat.reduceAdd, Nat.reduceSub, u_int, u_ints]; exact hQ))
    refine AW.condE (b := decide ((j : Int) < xs.length)) (by simp only [push_cast, reduceIte, reduceCtorEq, Nat.reduceEqDiff, Nat.reduceLT, Nat.reduceAdd, Nat.reduceSub, testA]) (fun hb => AW.go ?_) (fun hb => AW.exit ?_)
    · have hlt : j < xs.length := by simpa using hb
      change Go.Aw.AW _ _ _ _ _ _
      refine AW.seq (AW.block ?_)
      (apply Go.Aw.AW.regionS; · (intro Q hQ; simp only [push_cast, reduceIte, reduceCtorEq, Nat.reduceEqDiff, Nat.reduceLT, Nat.reduceAdd, Nat.reduceSub, u_int, u_ints, c_int, hget, List.set_set, hM j hj, hM1 j hlt]; (repeat' apply And.intro) <;> first | exact hQ | omega | simp))
      (apply Go.Aw.AW.regionE; · (intro Q hQ; simp only [push_cast, reduceIte, reduceCtorEq, Nat.reduceEqDiff, Nat.reduceLT, Nat.reduceAdd, Nat.reduceSub, wrap_in (n := k + (j : Int) + 1) (by omega)]; exact hQ))
      (repeat (with_reducible first | refine Go.Aw.norm_then ?_ | refine Go.Aw.norm_in ?_ | refine Go.Aw.ret_then ?_ | refine Go.Aw.ret_in ?_ | refine Go.Aw.exit_then ?_ | refine Go.Aw.exit_in ?_ | refine Go.Aw.exit_by (by decide) ?_))
      (apply Go.Aw.AW.regionE; · (intro Q hQ; simp only [push_cast, reduceIte, reduceCtorEq, Nat.reduceEqDiff, Nat.reduceLT, Nat.reduceAdd, Nat.reduceSub, wrap_in (n := (j : Int) + 1) (by omega)]; exact hQ))
      (repeat (with_reducible first | refine Go.Aw.norm_then ?_ | refine Go.Aw.norm_in ?_ | refine Go.Aw.ret_then ?_ | refine Go.Aw.ret_in ?_ | refine Go.Aw.exit_then ?_ | refine Go.Aw.exit_in ?_ | refine Go.Aw.exit_by (by decide) ?_))
      exact ⟨⟨j + 1, hlt⟩, Sub.to (by (simp only [Go.Aw.covers, Go.Aw.look, reduceIte, Nat.reduceEqDiff, if_false, if_true, and_self, true_and, and_true]); simp; omega) rfl, by simp; omega⟩
    · (repeat (with_reducible first | refine Go.Aw.norm_then ?_ | refine Go.Aw.norm_in ?_ | refine Go.Aw.ret_then ?_ | refine Go.Aw.ret_in ?_ | refine Go.Aw.exit_then ?_ | refine Go.Aw.exit_in ?_ | refine Go.Aw.exit_by (by decide) ?_))
      have hj' : j = xs.length := by have : ¬ (j : Int) < xs.length := by simpa using hb
                                     omega
      change Go.Aw.AW _ _ _ _ _ _
      (apply Go.Aw.AW.regionS; · (intro Q hQ; simp only [push_cast, reduceIte, reduceCtorEq, Nat.reduceEqDiff, Nat.reduceLT, Nat.reduceAdd, Nat.reduceSub]; exact hQ))
      subst hj'
      (refine Go.Aw.AW.ret ?_; (repeat (with_reducible first | refine Go.Aw.norm_then ?_ | refine Go.Aw.norm_in ?_ | refine Go.Aw.ret_then ?_ | refine Go.Aw.ret_in ?_ | refine Go.Aw.exit_then ?_ | refine Go.Aw.exit_in ?_ | refine Go.Aw.exit_by (by decide) ?_)); refine Go.Aw.retP_now (by simp only [Go.Aw.resA, Go.Aw.resL, Go.Aw.look, reduceIte, Nat.reduceEqDiff]) ?_; (try rfl))
      have : M xs.length = intsC (marks k xs.length) := by simp only [M]; rw [List.drop_length, List.append_nil, List.take_of_length_le (by rw [marks_len]; exact Nat.le_refl _)]
      rw [this]

theorem heldIntS_ac (H : Heap) (lv : Bool) (xs : List Int) (k : Int) (hl : xs.length ≤ 1048576) (hk : 0 ≤ k ∧ k ≤ 1152921504606846976) :
    AC Try.prog 21 [.one (.c (.sl lv 1 (intsD xs))), .one (.c (.i .i64 k))] H (.one (.c (.i .i64 (if xs = marks k xs.length then k + xs.length else -1)))) H := by
  refine AC.mk 21 [.tmp 4] Try.func21 (by kernel_rfl) rfl rfl rfl (by simp) fun hcl hca => ?_
  (apply Go.Aw.AW.regionS; · (intro Q hQ; simp only [push_cast, reduceIte, reduceCtorEq, Nat.reduceEqDiff, Nat.reduceLT, Nat.reduceAdd, Nat.reduceSub]; exact hQ))
  refine AW.seq ?_
  (apply Go.Aw.AW.regionS; · (intro Q hQ; simp only [push_cast, reduceIte, reduceCtorEq, Nat.reduceEqDiff, Nat.reduceLT, Nat.reduceAdd, Nat.reduceSub]; exact hQ))
  refine AW.block ?_
  refine AW.loop (α := { j : Nat // j ≤ xs.length ∧ xs.take j = (marks k xs.length).take j }) (fun j => ⟨[(0, .one (.c (.sl lv 1 (intsD xs)))), (1, .one (.c (.i .i64 (k + (j.1 : Int))))), (5, .one (.c (.i .i64 (j.1 : Int))))], H⟩) (fun j => xs.length - j.1) ⟨0, by simp⟩ ?_ ?_
  · exact Sub.to (by (simp only [Go.Aw.covers, Go.Aw.look, reduceIte, Nat.reduceEqDiff, if_false, if_true, and_self, true_and, and_true]); simp) rfl
  · rintro ⟨j, hj, hjt⟩
    refine AW.seq ?_
    (apply Go.Aw.AW.regionS; · (intro Q hQ; simp only [push_cast, reduceIte, reduceCtorEq, Nat.reduceEqDiff, Nat.reduceLT, Nat.reduceAdd, Nat.reduceSub, u_int, u_ints, intsD_len]; exact hQ))
    refine AW.condE (b := decide ((j : Int) < xs.length)) (by simp only [push_cast, reduceIte, reduceCtorEq, Nat.reduceEqDiff, Nat.reduceLT, Nat.reduceAdd, Nat.reduceSub, testA]) (fun hb => AW.go ?_) (fun hb => AW.exit ?_)
    · have hlt : j < xs.length := by simpa using hb
      change Go.Aw.AW _ _ _ _ _ _
      refine AW.seq (AW.block ?_)
      refine AW.seq ?_
      (apply Go.Aw.AW.regionS; · (intro Q hQ; simp only [push_cast, reduceIte, reduceCtorEq, Nat.reduceEqDiff, Nat.reduceLT, Nat.reduceAdd, Nat.reduceSub, u_int, u_ints, c_int, intsD_len, intsD_at hlt]; (repeat' apply And.intro) <;> first | exact hQ | omega | simp))
      refine AW.condE (b := !decide (xs.getD j 0 = k + j)) (by simp only [push_cast, reduceIte, reduceCtorEq, Nat.reduceEqDiff, Nat.reduceLT, Nat.reduceAdd, Nat.reduceSub, testA]) (fun hb => ?_) (fun hb => AW.skip ?_)
      · have hne : ¬ xs = marks k xs.length := by
          have h1 : ¬ xs.getD j 0 = k + j := by simpa using hb
          intro h
          apply h1
          rw [h, marks_at hlt]
        (apply Go.Aw.AW.regionS; · (intro Q hQ; simp only [push_cast, reduceIte, reduceCtorEq, Nat.reduceEqDiff, Nat.reduceLT, Nat.reduceAdd, Nat.reduceSub]; exact hQ))
        (refine Go.Aw.AW.ret ?_; (repeat (with_reducible first | refine Go.Aw.norm_then ?_ | refine Go.Aw.norm_in ?_ | refine Go.Aw.ret_then ?_ | refine Go.Aw.ret_in ?_ | refine Go.Aw.exit_then ?_ | refine Go.Aw.exit_in ?_ | refine Go.Aw.exit_by (by decide) ?_)); refine Go.Aw.retP_now (by simp only [Go.Aw.resA, Go.Aw.resL, Go.Aw.look, reduceIte, Nat.reduceEqDiff, hne]) ?_; (try rfl))
      · have he : xs.getD j 0 = k + j := by simpa using hb
        (repeat (with_reducible first | refine Go.Aw.norm_then ?_ | refine Go.Aw.norm_in ?_ | refine Go.Aw.ret_then ?_ | refine Go.Aw.ret_in ?_ | refine Go.Aw.exit_then ?_ | refine Go.Aw.exit_in ?_ | refine Go.Aw.exit_by (by decide) ?_))
        change Go.Aw.AW _ _ _ _ _ _
        (apply Go.Aw.AW.regionE; · (intro Q hQ; simp only [push_cast, reduceIte, reduceCtorEq, Nat.reduceEqDiff, Nat.reduceLT, Nat.reduceAdd, Nat.reduceSub, wrap_in (n := k + (j : Int) + 1) (by omega)]; exact hQ))
        (repeat (with_reducible first | refine Go.Aw.norm_then ?_ | refine Go.Aw.norm_in ?_ | refine Go.Aw.ret_then ?_ | refine Go.Aw.ret_in ?_ | refine Go.Aw.exit_then ?_ | refine Go.Aw.exit_in ?_ | refine Go.Aw.exit_by (by decide) ?_))
        (apply Go.Aw.AW.regionE; · (intro Q hQ; simp only [push_cast, reduceIte, reduceCtorEq, Nat.reduceEqDiff, Nat.reduceLT, Nat.reduceAdd, Nat.reduceSub, wrap_in (n := (j : Int) + 1) (by omega)]; exact hQ))
        (repeat (with_reducible first | refine Go.Aw.norm_then ?_ | refine Go.Aw.norm_in ?_ | refine Go.Aw.ret_then ?_ | refine Go.Aw.ret_in ?_ | refine Go.Aw.exit_then ?_ | refine Go.Aw.exit_in ?_ | refine Go.Aw.exit_by (by decide) ?_))
        refine ⟨⟨j + 1, hlt, ?_⟩, Sub.to (by (simp only [Go.Aw.covers, Go.Aw.look, reduceIte, Nat.reduceEqDiff, if_false, if_true, and_self, true_and, and_true]); simp; omega) rfl, by simp; omega⟩
        rw [List.take_add_one (l := xs), List.take_add_one (l := marks k xs.length), hjt]
        congr 1
        have h2 := marks_at (k := k) hlt
        simp [marks_len, hlt] at he h2 ⊢
        rw [he, h2]
    · (repeat (with_reducible first | refine Go.Aw.norm_then ?_ | refine Go.Aw.norm_in ?_ | refine Go.Aw.ret_then ?_ | refine Go.Aw.ret_in ?_ | refine Go.Aw.exit_then ?_ | refine Go.Aw.exit_in ?_ | refine Go.Aw.exit_by (by decide) ?_))
      have hj' : j = xs.length := by have : ¬ (j : Int) < xs.length := by simpa using hb
                                     omega
      have heq : xs = marks k xs.length := by
        subst hj'
        rw [List.take_length, List.take_of_length_le (by rw [marks_len]; exact Nat.le_refl _)] at hjt
        exact hjt
      change Go.Aw.AW _ _ _ _ _ _
      (apply Go.Aw.AW.regionS; · (intro Q hQ; simp only [push_cast, reduceIte, reduceCtorEq, Nat.reduceEqDiff, Nat.reduceLT, Nat.reduceAdd, Nat.reduceSub]; exact hQ))
      subst hj'
      refine AW.ret ?_
      refine retP_now ?_ rfl
      rw [if_pos heq]; rfl

/-- The rows of ints may be as long as this. -/
def okLen (n : Nat) : Prop := n ≤ 1048576

theorem cloneInt_ac (H : Heap) (lv : Bool) (xs : List Int) (hl : xs.length ≤ 1048576) :
    AC Try.prog 54 [.one (.c (.sl lv 1 (intsD xs)))] H (.one (.c (.os H.length 1 0 xs.length))) (H ++ [.row 3 1 (intsC xs)]) := by
  refine AC.mk 8 [.tmp 2] Try.func54 (by kernel_rfl) rfl rfl rfl (by simp) fun hcl hca => ?_
  (apply Go.Aw.AW.regionS; · (intro Q hQ; simp only [push_cast, reduceIte, reduceCtorEq, Nat.reduceEqDiff, Nat.reduceLT, Nat.reduceAdd, Nat.reduceSub]; exact hQ))
  refine AW.seq ?_
  refine AW.regionF (ι := Bool) (ok := fun b => b = true → intsD xs = []) (fun b => ⟨[(4, .one (.c (.b (b == true)))), (3, .one (.c (.sl lv 1 (intsD xs)))), (2, .one (.c .ns)), (0, .one (.c (.sl lv 1 (intsD xs))))], H⟩) (fun Q hQ => ?_) (fun b hb => ?_)
  · simp only [push_cast, reduceIte, reduceCtorEq, Nat.reduceEqDiff, Nat.reduceLT, Nat.reduceAdd, Nat.reduceSub, u_ints]
    exact hQ
  refine AW.condE (b := b) (by cases b <;> rfl) (fun h => ?_) (fun h => AW.go ?_)
  · have hx : xs = [] := by simpa [intsD] using hb h
    subst hx
    (apply Go.Aw.AW.regionS; · (intro Q hQ; simp only [push_cast, reduceIte, reduceCtorEq, Nat.reduceEqDiff, Nat.reduceLT, Nat.reduceAdd, Nat.reduceSub]; exact hQ))
    refine AW.ret ?_
    (repeat (with_reducible first | refine Go.Aw.norm_then ?_ | refine Go.Aw.norm_in ?_ | refine Go.Aw.ret_then ?_ | refine Go.Aw.ret_in ?_ | refine Go.Aw.exit_then ?_ | refine Go.Aw.exit_in ?_ | refine Go.Aw.exit_by (by decide) ?_))
    exact retP_by (tm := [(2, .one (.c (.os H.length 1 0 0)))]) (Sub.ghost 3 1 ⟨.inr ⟨rfl, rfl⟩, trivial⟩) rfl
  · change Go.Aw.AW _ _ _ _ _ _
    (apply Go.Aw.AW.regionS; · (intro Q hQ; simp only [push_cast, reduceIte, reduceCtorEq, Nat.reduceEqDiff, Nat.reduceLT, Nat.reduceAdd, Nat.reduceSub, u_int, u_ints, c_int, b_int, z_int, intsD_C, intsC_keep, intsC_len]; (repeat' apply And.intro) <;> first | exact hQ | omega | simp))
    refine AW.ret ?_
    refine retP_by (tm := [(2, .one (.c (.os H.length 1 0 xs.length)))]) (Sub.drop [1] hcl rfl (by simp) rfl (by simp [Ob.names, intsC_names]) ?_) rfl
    (simp [Go.Aw.gcTm, Go.Aw.look, Go.Aw.AV.ren, Go.Aw.A1.ren, Go.Aw.C.ren, Go.Aw.gcR, Go.Aw.gcK, Go.Aw.keptAll, Go.Aw.AV.names, Go.Aw.A1.names, Go.Aw.C.names, List.idxOf_cons])

/-! ### rows of one's own, lent -/
theorem set_back {H L : Heap} {o : Nat} {ob : Ob} (ho : H[o]? = some ob) : H ++ L = ((H.set o .dead) ++ L).set o ob := by
  have hlt := (List.getElem?_eq_some_iff.1 ho).1
  rw [List.set_append_left _ _ (by simpa using hlt), List.set_set]
  congr 1
  apply List.ext_getElem?
  intro q
  rw [get_set hlt]
  split
  · rename_i e; rw [e]; exact ho
  · rfl
theorem set_back0 {H : Heap} {o : Nat} {ob : Ob} (ho : H[o]? = some ob) : H = (H.set o .dead).set o ob := by
  have := set_back (L := []) ho
  simpa using this
/-- A row of ints as what is read of it. -/
theorem rowD {H : Heap} {o : Nat} {xs : List Int} (ho : H[o]? = some (.row 3 1 (intsC xs))) : H[o]? = some (.row 3 1 ((intsD xs).map (·.map (D.toC true)))) := by
  rw [ho, show (intsD xs).map (·.map (D.toC true)) = intsC xs from intsD_C true xs]
theorem lent_int {o : Nat} {xs : List Int} : (AV.one (.c (.os o 1 0 xs.length)) = .one (.c (.sl false 1 (intsD xs))) ∨ ∃ off len, off + len ≤ (intsD xs).length ∧ AV.one (.c (.os o 1 0 xs.length)) = .one (.c (.os o 1 off len)) ∧ AV.one (.c (.sl false 1 (intsD xs))) = .one (.c (.sl false 1 (((intsD xs).drop off).take len)))) := by
  refine .inr ⟨0, xs.length, by rw [intsD_len]; omega, rfl, ?_⟩
  rw [List.drop_zero, ← intsD_len, List.take_length]

theorem eqIntS_own (H : Heap) (o1 o2 : Nat) (xs ys : List Int) (h1 : H[o1]? = some (.row 3 1 (intsC xs))) (h2 : H[o2]? = some (.row 3 1 (intsC ys))) (hne : o1 ≠ o2) (hx : xs.length ≤ 9223372036854775807) (hy : ys.length ≤ 9223372036854775807) :
    AC Try.prog 19 [.one (.c (.os o1 1 0 xs.length)), .one (.c (.os o2 1 0 ys.length))] H (.one (.c (.b (decide (xs = ys))))) H := by
  have hl1 := (List.getElem?_eq_some_iff.1 h1).1
  have h2' : (H.set o1 .dead)[o2]? = some (.row 3 1 (intsC ys)) := by rw [List.getElem?_set_ne hne]; exact h2
  refine AC.borrow (rowD h1) (args' := [.one (.c (.sl false 1 (intsD xs))), .one (.c (.os o2 1 0 ys.length))]) (by exact ⟨lent_int, .inl rfl, trivial⟩) rfl ?_ (set_back0 (rowD h1))
  refine AC.borrow (rowD h2') (args' := [.one (.c (.sl false 1 (intsD xs))), .one (.c (.sl false 1 (intsD ys)))]) (by exact ⟨.inl rfl, lent_int, trivial⟩) rfl ?_ (set_back0 (rowD h2'))
  exact eqIntS_ac _ false false xs ys hx hy
theorem heldIntS_own (H : Heap) (o : Nat) (xs : List Int) (k : Int) (ho : H[o]? = some (.row 3 1 (intsC xs))) (hl : xs.length ≤ 1048576) (hk : 0 ≤ k ∧ k ≤ 1152921504606846976) :
    AC Try.prog 21 [.one (.c (.os o 1 0 xs.length)), .one (.c (.i .i64 k))] H (.one (.c (.i .i64 (if xs = marks k xs.length then k + xs.length else -1)))) H := by
  refine AC.borrow (rowD ho) (args' := [.one (.c (.sl false 1 (intsD xs))), .one (.c (.i .i64 k))]) (by exact ⟨lent_int, .inl rfl, trivial⟩) rfl ?_ (set_back0 (rowD ho))
  exact heldIntS_ac _ false xs k hl hk

theorem u_bool : Try.prog.underlying 4 = some .bool := Try.underlying4
theorem eqIntS_own' (H : Heap) (o1 o2 : Nat) (xs ys : List Int) {n m : Nat} (hn : xs.length = n) (hm : ys.length = m) (h1 : H[o1]? = some (.row 3 1 (intsC xs))) (h2 : H[o2]? = some (.row 3 1 (intsC ys))) (hne : o1 ≠ o2) (hx : xs.length ≤ 9223372036854775807) (hy : ys.length ≤ 9223372036854775807) :
    AC Try.prog 19 [.one (.c (.os o1 1 0 n)), .one (.c (.os o2 1 0 m))] H (.one (.c (.b (decide (xs = ys))))) H := by
  subst hn hm; exact eqIntS_own H o1 o2 xs ys h1 h2 hne hx hy
theorem heldIntS_own' (H : Heap) (o : Nat) (xs : List Int) {n : Nat} (hn : xs.length = n) (k : Int) (ho : H[o]? = some (.row 3 1 (intsC xs))) (hl : xs.length ≤ 1048576) (hk : 0 ≤ k ∧ k ≤ 1152921504606846976) :
    AC Try.prog 21 [.one (.c (.os o 1 0 n)), .one (.c (.i .i64 k))] H (.one (.c (.i .i64 (if xs = marks k xs.length then k + xs.length else -1)))) H := by
  subst hn; exact heldIntS_own H o xs k ho hl hk
theorem markIntS_own (H : Heap) (o : Nat) (xs : List Int) {n : Nat} (hn : xs.length = n) (k : Int) (ho : H[o]? = some (.row 3 1 (intsC xs))) (hl : xs.length ≤ 1048576) (hk : 0 ≤ k ∧ k ≤ 1152921504606846976) :
    AC Try.prog 20 [.one (.c (.os o 1 0 n)), .one (.c (.i .i64 k))] H (.one (.c (.i .i64 (k + n)))) (H.set o (.row 3 1 (intsC (marks k n)))) := by
  subst hn; exact markIntS_ac H o xs k ho hl hk
theorem heldIntS_marks (H : Heap) (o : Nat) (n : Nat) (k : Int) (ho : H[o]? = some (.row 3 1 (intsC (marks k n)))) (hl : n ≤ 1048576) (hk : 0 ≤ k ∧ k ≤ 1152921504606846976) :
    AC Try.prog 21 [.one (.c (.os o 1 0 n)), .one (.c (.i .i64 k))] H (.one (.c (.i .i64 (k + n)))) H := by
  have := heldIntS_own' H o (marks k n) (marks_len k n) k ho (by rw [marks_len]; exact hl) hk
  rw [if_pos (by rw [marks_len]), marks_len] at this
  exact this
end Go.Proofs.Ytioanpejndfbnaa
