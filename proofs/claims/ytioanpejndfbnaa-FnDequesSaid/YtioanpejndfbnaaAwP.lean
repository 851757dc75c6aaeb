/- An abstract memory over the model: the walk's steps, and the words that compute them. -/
import Derived.Test.YtioanpejndfbnaaAwO
namespace Go.Aw
open Go.RowKit
set_option linter.unusedSimpArgs false
set_option linter.unusedVariables false

section
variable {P : Program} {N n0 : Nat} {Q : Post} {st st' : St}
theorem AW.regionS {id : Nat} {ops : Array Oper} {y : Code} (h : ∀ Q : Post, Q .normal st' → OpsA P N ops ops.toList Q st) (h' : AW P N n0 y Q st') : AW P N n0 (.seq (.region id ops false) y) Q st :=
  AW.seq (AW.region (h _ h'))
theorem AW.regionE {id : Nat} {ops : Array Oper} (h : ∀ Q : Post, Q .normal st' → OpsA P N ops ops.toList Q st) (h' : Q .normal st') : AW P N n0 (.region id ops false) Q st :=
  AW.region (h _ h')
/-- A test, then on. -/
theorem AW.condS {c : Operand} {x y z : Code} {b : Bool} (hc : testA st c b) (ht : b = true → AW P N n0 x (thenP (AW P N n0 z Q) Q) st) (hf : b = false → AW P N n0 y (thenP (AW P N n0 z Q) Q) st) : AW P N n0 (.seq (.cond c x y) z) Q st := by
  refine AW.seq (AW.cond hc ?_)
  cases b
  · exact hf rfl
  · exact ht rfl
theorem AW.condE {c : Operand} {x y : Code} {b : Bool} (hc : testA st c b) (ht : b = true → AW P N n0 x Q st) (hf : b = false → AW P N n0 y Q st) : AW P N n0 (.cond c x y) Q st := by
  refine AW.cond hc ?_
  cases b
  · exact hf rfl
  · exact ht rfl
end

/-! ### the heap's words -/
theorem get_left {H L : List Ob} {o : Nat} {ob : Ob} (h : H[o]? = some ob) : (H ++ L)[o]? = some ob := by
  rw [List.getElem?_append_left (List.getElem?_eq_some_iff.1 h).1]; exact h
theorem get_at {H L : List Ob} : (H ++ L)[H.length]? = L[0]? := by
  rw [List.getElem?_append_right (Nat.le_refl _), Nat.sub_self]
theorem get_at_add {H L : List Ob} {k : Nat} : (H ++ L)[H.length + k]? = L[k]? := by
  rw [List.getElem?_append_right (by omega), Nat.add_sub_cancel_left]
theorem set_at {H L : List Ob} {x : Ob} : (H ++ L).set H.length x = H ++ L.set 0 x := by
  rw [List.set_append_right _ _ (Nat.le_refl _)]; simp
theorem set_at_add {H L : List Ob} {k : Nat} {x : Ob} : (H ++ L).set (H.length + k) x = H ++ L.set k x := by
  rw [List.set_append_right _ _ (by omega)]; simp
theorem set_left {H L : List Ob} {o : Nat} {x : Ob} (h : o < H.length) : (H ++ L).set o x = H.set o x ++ L := by
  rw [List.set_append_left _ _ h]

theorem AC.mk {P : Program} {f : FuncId} {fn : Func} {c : Code} (N : Nat) (rs : List ResultVar) (hf : P.funcs[f]? = some fn) (hname : (fn.name == "runtime.NumGoroutine") = false) (hb : fn.body = some c) (hN : fn.ntmps = N) (hrs : fn.results.toList = rs) {args : List AV} {H : Heap} {res : AV} {H' : Heap}
    (hn : args.length ≤ N) (h : closed H → closedA H args → AW P N H.length c (retP H.length rs res H') ⟨argsTm 0 args, H⟩) : AC P f args H res H' := by
  subst hN hrs
  exact AC.of hf hname hb hn h

theorem Sub.to {n0 : Nat} {tm tm' : List (Nat × AV)} {H H' : Heap} (h : covers tm tm') (hH : H = H') : Sub n0 ⟨tm, H⟩ ⟨tm', H'⟩ := by subst hH; exact Sub.cover h
section
variable {id id' : Nat} {Q : Post} {X : St → Prop} {st : St}
theorem exit_in (h : Q .normal st) : inBlockP id Q (.exit id) st := by
  show (if id = id then Q .normal st else Q (.exit id) st)
  rw [if_pos rfl]; exact h
theorem exit_by (hn : id' ≠ id) (h : Q (.exit id') st) : inBlockP id Q (.exit id') st := by
  show (if id' = id then Q .normal st else Q (.exit id') st)
  rw [if_neg hn]; exact h
theorem exit_then (h : Q (.exit id) st) : thenP X Q (.exit id) st := h
theorem norm_then (h : X st) : thenP X Q .normal st := h
theorem norm_in (h : Q .normal st) : inBlockP id Q .normal st := h
theorem ret_then (h : Q .ret st) : thenP X Q .ret st := h
theorem ret_in (h : Q .ret st) : inBlockP id Q .ret st := h
end
theorem AW.go {P : Program} {N n0 : Nat} {st : St} {X : St → Prop} {Q : Post} (h : X st) : AW P N n0 .skip (thenP X Q) st := AW.skip h
theorem AW.retS {P : Program} {N n0 : Nat} {st : St} {rs : List ResultVar} {res : AV} {H' : Heap} {tm : List (Nat × AV)} (hs : Sub n0 st ⟨tm, H'⟩) (h : resA tm rs = some res) : AW P N n0 .ret (retP n0 rs res H') st := AW.ret ⟨.inl rfl, _, hs, rfl, h⟩
theorem AW.ret0 {P : Program} {N n0 : Nat} {st : St} {rs : List ResultVar} {res : AV} {H' : Heap} (h : resA st.tm rs = some res) (hH : st.hp = H') : AW P N n0 .ret (retP n0 rs res H') st := AW.ret ⟨.inl rfl, _, Sub.refl st, hH, h⟩
theorem wrap_in {n : Int} (h : -9223372036854775808 ≤ n ∧ n ≤ 9223372036854775807) : IntKind.i64.wrap n = n := by rw [IntKind.wrap_i64]; omega

/-! ### a row that is made, then filled -/
def fillE (xs : List (List C)) (z : List C) (k : Nat) : List (List C) := xs.take k ++ List.replicate (xs.length - k) z
theorem fillE_zero (xs : List (List C)) (z : List C) : fillE xs z 0 = List.replicate xs.length z := by simp [fillE]
theorem fillE_all (xs : List (List C)) (z : List C) : fillE xs z xs.length = xs := by simp [fillE]
theorem fillE_len {xs : List (List C)} {z : List C} {k : Nat} (h : k ≤ xs.length) : (fillE xs z k).length = xs.length := by simp [fillE]; omega
theorem fillE_at {xs : List (List C)} {z : List C} {k : Nat} (h : k < xs.length) : (fillE xs z k).getD k [] = z := by
  rw [List.getD_eq_getElem?_getD, fillE, List.getElem?_append_right (by simp; omega)]
  have hp : 0 < xs.length - k := by omega
  simp [show min k xs.length = k by omega, List.getElem?_replicate, hp]
theorem fillE_set {xs : List (List C)} {z r : List C} {k : Nat} (h : xs[k]? = some r) : (fillE xs z k).set k r = fillE xs z (k + 1) := by
  have hk := (List.getElem?_eq_some_iff.1 h).1
  apply List.ext_getElem?
  intro j
  have l1 := fillE_len (z := z) (Nat.le_of_lt hk)
  rw [List.getElem?_set]
  by_cases hj : k = j
  · subst hj
    rw [if_pos rfl, if_pos (by omega), fillE, List.getElem?_append_left (by simp; omega), List.getElem?_take, if_pos (by omega), h]
  · rw [if_neg hj]
    have m1 : min k xs.length = k := by omega
    have m2 : min (k + 1) xs.length = k + 1 := by omega
    simp only [fillE, List.getElem?_append, List.length_take, List.getElem?_take, List.getElem?_replicate, m1, m2]
    by_cases h1 : j < k
    · simp only [h1, if_true, show j < k + 1 by omega]
    · simp only [h1, if_false, show ¬ j < k + 1 by omega]
      by_cases h2 : j < xs.length
      · rw [if_pos (by omega), if_pos (by omega)]
      · rw [if_neg (by omega), if_neg (by omega)]
theorem putAt_all {z r : List C} (h : z.length = r.length) : putAt z 0 r = r := by simp [putAt, h]
theorem fillE_put {xs : List (List C)} {z r : List C} {k : Nat} (h : xs[k]? = some r) (hz : z.length = r.length) : (fillE xs z k).set k (putAt ((fillE xs z k).getD k []) 0 r) = fillE xs z (k + 1) := by
  rw [fillE_at (List.getElem?_eq_some_iff.1 h).1, putAt_all hz, fillE_set h]
end Go.Aw
