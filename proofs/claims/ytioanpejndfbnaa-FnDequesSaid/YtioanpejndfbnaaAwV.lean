/- An abstract memory over the model: more steps; the words that compute them. -/
import Derived.Test.YtioanpejndfbnaaAwU
namespace Go.Aw
open Go.RowKit
set_option linter.unusedSimpArgs false
set_option linter.unusedVariables false

section
variable {P : Program} {N n0 : Nat} {Q : Post} {st : St}
/-- A region of open order, then on. -/
theorem AW.drawS {st' : St} {id : Nat} {ops : Array Oper} {y : Code} (hP : P.follows .mixedOrders = true) (hord : orderly ops = true) (k : Nat)
    (h : ∀ Q : St → Prop, Q st' → OpsD P N ops (masksGo ops.toList []) 0 [] st.hp.length ops.toList Q ⟨st.tm, st.hp ++ List.replicate k .dead⟩) (h' : AW P N n0 y Q st') : AW P N n0 (.seq (.region id ops true) y) Q st :=
  AW.seq (AW.draw hP hord k (h _ h'))
theorem AW.drawE {st' : St} {id : Nat} {ops : Array Oper} (hP : P.follows .mixedOrders = true) (hord : orderly ops = true) (k : Nat)
    (h : ∀ Q : St → Prop, Q st' → OpsD P N ops (masksGo ops.toList []) 0 [] st.hp.length ops.toList Q ⟨st.tm, st.hp ++ List.replicate k .dead⟩) (h' : Q .normal st') : AW P N n0 (.region id ops true) Q st :=
  AW.draw hP hord k (h _ h')
/-- A region whose end is not told alone by its begin. -/
theorem AW.regionF {ι : Type} {ok : ι → Prop} (st' : ι → St) {id : Nat} {ops : Array Oper} {y : Code} (h : ∀ Q : Post, (∀ i, ok i → Q .normal (st' i)) → OpsA P N ops ops.toList Q st) (h' : ∀ i, ok i → AW P N n0 y Q (st' i)) : AW P N n0 (.seq (.region id ops false) y) Q st :=
  AW.seq (AW.region (h _ h'))
end

/-- A nil slice as an empty row of one's own. -/
def ghostTm (p sz : Nat) (tm : List (Nat × AV)) : List (Nat × AV) → Prop
  | [] => True
  | (t, av) :: r => (look tm t = some av ∨ (look tm t = some (.one (.c .ns)) ∧ av = .one (.c (.os p sz 0 0)))) ∧ ghostTm p sz tm r
theorem look_ghost {p sz : Nat} {tm : List (Nat × AV)} : ∀ {tm' : List (Nat × AV)}, ghostTm p sz tm tm' → ∀ t av, look tm' t = some av → look tm t = some av ∨ (look tm t = some (.one (.c .ns)) ∧ av = .one (.c (.os p sz 0 0)))
  | [], _, t, av, h => by simp [look] at h
  | (k, v) :: r, hc, t, av, h => by
    simp only [look] at h
    by_cases e : t = k
    · rw [if_pos e] at h; cases h; rw [e]; exact hc.1
    · rw [if_neg e] at h; exact look_ghost hc.2 t av h
theorem Sub.ghost {n0 : Nat} {tm tm' : List (Nat × AV)} {H : Heap} (e : TypeId) (sz : Nat) (h : ghostTm H.length sz tm tm') : Sub n0 ⟨tm, H⟩ ⟨tm', H ++ [.row e sz []]⟩ := by
  intro K S T ρ a w hn m
  have m1 : Match K S T ρ (fun n => H.length ≤ n) ⟨tm, H ++ List.replicate 1 .dead⟩ a w := Match.more m 1
  have m2 := Match.place (w' := w) m1 (p := H.length) (ob := .row e sz []) (x := none) (Nat.le_refl _) (by simp) (.inl ⟨upd_self _ _ _, rfl⟩) (fun _ _ => rfl) m1.fr (Nat.le_refl _) (fun b c h => by cases h) (fun n hn => by simp [Ob.names] at hn)
  have hset : (H ++ List.replicate 1 Ob.dead).set H.length (.row e sz []) = H ++ [.row e sz []] := by
    rw [List.set_append_right _ _ (Nat.le_refl _)]; simp
  simp only [hset] at m2
  have hR : (fun n => H.length ≤ n ∧ n ≠ H.length) = fun n => (H ++ [Ob.row e sz []]).length ≤ n := by
    funext n; simp only [List.length_append, List.length_singleton, eq_iff_iff]; omega
  rw [hR] at m2
  refine ⟨S, T, _, ⟨m2.good, fun t av ht => ?_, fun t av ht n hnn hr => ?_, m2.obN, m2.rfree, m2.sz, m2.df, m2.fr, m2.own, m2.old, m2.keepS, m2.same, m2.rn, m2.oldT, m2.keepT⟩⟩
  · rcases look_ghost h t av ht with h1 | ⟨h1, rfl⟩
    · exact m2.tm t av h1
    · exact .inl ⟨upd_self _ _ _, rfl, rfl, m2.tm t _ h1⟩
  · rcases look_ghost h t av ht with h1 | ⟨h1, rfl⟩
    · exact m2.tmN t av h1 n hnn hr
    · simp only [AV.names, A1.names, C.names, List.mem_singleton] at hnn
      have hr : (H ++ [Ob.row e sz []]).length ≤ n := hr
      simp at hr; omega

/-- What is behind the heap that came in: only these are kept, in this order. -/
theorem Sub.drop {n0 : Nat} {H L L2 : Heap} {tm tm' : List (Nat × AV)} (ks : List Nat) (hcl : closed H) (hn0 : H.length = n0) (hks : ks.Nodup) (hk : ks.map (fun k => L[k]?) = L2.map some) (hn : ∀ ob ∈ L2, ob.names = [])
    (htm : gcTm n0 (ks.map (n0 + ·)) tm tm') : Sub n0 ⟨tm, H ++ L⟩ ⟨tm', H ++ L2⟩ := by
  subst hn0
  have hmem : ∀ k ∈ ks, ∃ ob, L[k]? = some ob ∧ ob ∈ L2 := by
    intro k hkk
    have h1 : L[k]? ∈ L2.map some := by rw [← hk]; exact List.mem_map.2 ⟨k, hkk, rfl⟩
    obtain ⟨ob, h2, h3⟩ := List.mem_map.1 h1
    exact ⟨ob, h3.symm, h2⟩
  refine Sub.gc (ks.map (H.length + ·)) (by simp) (fun o ho => ?_) ?_ htm ?_ ?_ ?_
  · obtain ⟨k, _, rfl⟩ := List.mem_map.1 ho; simp
  · exact List.pairwise_map.2 (List.Pairwise.imp (fun {a b} h e => h (by omega)) hks)
  · intro o ob ho h n hnn
    rw [List.getElem?_append_left ho] at h
    exact .inl (hcl o ob h n hnn)
  · intro o ho ob h n hnn
    obtain ⟨k, hkk, rfl⟩ := List.mem_map.1 ho
    rw [get_at_add] at h
    obtain ⟨ob', h1, h2⟩ := hmem k hkk
    rw [h1] at h; cases h
    rw [hn ob h2] at hnn; simp at hnn
  · unfold gcHeap
    simp only [List.take_left]
    congr 1
    · conv => lhs; rw [← List.map_id H]
      refine (List.map_congr_left fun ob hob => ?_)
      obtain ⟨o, ho⟩ := List.mem_iff_getElem?.1 hob
      exact (Ob.ren_id ob fun n hnn => if_pos (hcl o ob ho n hnn)).symm
    · generalize gcR H.length (ks.map (H.length + ·)) = r
      clear hmem htm hks
      induction ks generalizing L2 with
      | nil =>
        cases L2 with
        | nil => rfl
        | cons _ _ => simp at hk
      | cons k ks ih =>
        cases L2 with
        | nil => simp at hk
        | cons ob L2 =>
          simp only [List.map_cons, List.cons.injEq] at hk
          simp only [List.map_cons]
          rw [get_at_add, hk.1, ← ih hk.2 (fun ob' h' => hn ob' (by simp [h']))]
          congr 1
          exact (Ob.ren_id ob fun n hnn => by rw [hn ob (by simp)] at hnn; simp at hnn).symm
theorem closed_set {H : Heap} {o : Nat} {ob : Ob} (h : closed H) (hn : ob.names = []) : closed (H.set o ob) := by
  intro q x hx n hnn
  rw [List.length_set]
  by_cases hq : o < H.length
  · rw [get_set hq] at hx
    split at hx
    · cases hx; rw [hn] at hnn; simp at hnn
    · exact h q x hx n hnn
  · rw [List.set_eq_of_length_le (by omega)] at hx
    exact h q x hx n hnn

/-- Behind a call the words wait until it is told. -/
@[congr] theorem CallA.stop {P : Program} {st st' : St} {c : Call} {x : Operand} {k : AV → Heap → Prop} (h : st = st') : CallA P st c x k = CallA P st' c x k := by rw [h]
@[congr] theorem CallD.stop {P : Program} {st st' : St} {c : Call} {x : Operand} {p p' : Nat} {k : Rec → Prop} (h : st = st') (hp : p = p') : CallD P st c x p k = CallD P st' c x p' k := by rw [h, hp]
theorem bTT : (true == true) = true := rfl
theorem bTF : (true == false) = false := rfl
theorem bFT : (false == true) = false := rfl
theorem bFF : (false == false) = true := rfl
theorem arr1 {α : Type} {a b : α} : (#[a] = #[b]) ↔ a = b := by simp
theorem arr2 {α : Type} {a b c d : α} : (#[a, b] = #[c, d]) ↔ (a = c ∧ b = d) := by simp
/-! What is computed of an operation: the words are written out by expand.py. -/
attribute [push_cast] List.getElem?_toArray eq_self decide_true decide_false Bool.not_true Bool.not_false bTT bTF bFT bFF bne_self_eq_false beq_self_eq_true List.take_nil List.take_zero List.head?_cons List.head?_nil Nat.zero_mul List.not_mem_nil false_implies implies_true List.range'_zero OpsA guardA OpA OpStep nilT isSl isSlT nilMay OpsD OpD nextTr sepTr or_true true_or List.map_cons List.map_nil isLoud isMod trOf List.mem_cons forall_eq_or_imp forall_eq List.flatMap_cons List.flatMap_nil Op.operands Call.operands AV.names A1.names C.names recOf stepD setAll Rec.all slotsOf Option.toList_some Option.toList_none List.nil_append List.append_nil List.cons_append List.append_assoc List.replicate_zero List.replicate_succ List.length_append AV.ren A1.ren C.ren capsAV dstOk putT ev Eff.app argsTm look constAV constC Option.getD_some Option.getD_none Option.bind_some Option.map_some Option.map_none aLoad aBin aUn aConv aField aIndexAddr aIndex aLen aSlice aExtract aNil aPick bound cellOf addrCells binI binS aMake aRow aBuild aStore aAppend isOwn contC AV.cells A1.cells isAggD if_true if_false arr1 arr2 Bool.false_eq_true Option.some.injEq exists_eq_left' exists_eq_left Option.ite_none_right_eq_some exists_and_left and_assoc true_and and_true List.length_cons List.length_nil Nat.zero_add Nat.add_zero Prod.mk.injEq ne_eq Nat.one_ne_zero not_false_eq_true not_true_eq_false Int.toNat_natCast get_at get_at_add set_at set_at_add Nat.succ_ne_self List.drop_zero List.set_cons_zero D.toC List.all_cons List.all_nil C.keep Bool.and_true Bool.and_self Nat.le_refl List.set_cons_succ List.getElem?_cons_zero List.getElem?_cons_succ
theorem retP_now {n0 : Nat} {rs : List ResultVar} {res : AV} {H' : Heap} {st : St} (h : resA st.tm rs = some res) (hH : st.hp = H') : retP n0 rs res H' .ret st := ⟨.inl rfl, st, Sub.refl st, hH, h⟩
theorem retP_by {n0 : Nat} {rs : List ResultVar} {res : AV} {H' : Heap} {st : St} {tm : List (Nat × AV)} (hs : Sub n0 st ⟨tm, H'⟩) (h : resA tm rs = some res) : retP n0 rs res H' .ret st := ⟨.inl rfl, _, hs, rfl, h⟩

/-! ### one operation at a time -/
section
variable {P : Program} {N : Nat} {ops : Array Oper} {r : List Oper} {Q : Post} {tm : List (Nat × AV)} {H H' : Heap} {v : AV} {op : Op} {ty : TypeId} {pos : String} {after : Array Edge} {g : Option (Nat × Bool)} {t : Nat}
theorem OpA.mono {st : St} {k k' : AV → Heap → Prop} (hk : ∀ v H, k v H → k' v H) (h : OpA P st op k) : OpA P st op k' := by
  unfold OpA at h ⊢
  split at h
  · split at h
    · obtain ⟨f, caps, res, H', h1, h2, h3⟩ := h; exact ⟨f, caps, res, H', h1, h2, hk _ _ h3⟩
    · exact OpStep.mono (fun e he => hk _ _ he) h
  · split at h
    · obtain ⟨h1, h2, h3⟩ := h; exact ⟨h1, h2, fun b hb => hk _ _ (h3 b hb)⟩
    · exact OpStep.mono (fun e he => hk _ _ he) h
  · exact OpStep.mono (fun e he => hk _ _ he) h
theorem opsA_some (hd : t < N) (hg : guardA N ops tm g = some true) (h : OpA P ⟨tm, H⟩ op fun v' H2 => v' = v ∧ H2 = H') (hk : OpsA P N ops r Q ⟨(t, v) :: tm, H'⟩) : OpsA P N ops (⟨some t, op, ty, pos, after, g⟩ :: r) Q ⟨tm, H⟩ := by
  refine ⟨hd, ?_⟩
  simp only [hg]
  exact OpA.mono (fun v' H2 hh => by obtain ⟨rfl, rfl⟩ := hh; exact hk) h
theorem opsA_none (hg : guardA N ops tm g = some true) (h : OpA P ⟨tm, H⟩ op fun v' H2 => H2 = H') (hk : OpsA P N ops r Q ⟨tm, H'⟩) : OpsA P N ops (⟨none, op, ty, pos, after, g⟩ :: r) Q ⟨tm, H⟩ := by
  refine ⟨trivial, ?_⟩
  simp only [hg]
  exact OpA.mono (fun v' H2 hh => by subst hh; exact hk) h
theorem opsA_skip (hd : t < N) (hg : guardA N ops tm g = some false) (hk : OpsA P N ops r Q ⟨(t, .tup []) :: tm, H⟩) : OpsA P N ops (⟨some t, op, ty, pos, after, g⟩ :: r) Q ⟨tm, H⟩ := by
  refine ⟨hd, ?_⟩
  simp only [hg]
  exact hk
theorem opsA_call {x : Operand} {as : Array Operand} {ats : Array TypeId} {f : FuncId} {args : List AV} (hd : t < N) (hg : guardA N ops tm g = some true) (hx : ev tm x = .one (.c (.fn f []))) (hargs : as.toList.map (ev tm) = args) (hac : AC P f args H v H')
    (hk : OpsA P N ops r Q ⟨(t, v) :: tm, H'⟩) : OpsA P N ops (⟨some t, .call ⟨.value x, as, ats⟩, ty, pos, after, g⟩ :: r) Q ⟨tm, H⟩ :=
  opsA_some hd hg (CallA.use hx hargs hac ⟨rfl, rfl⟩) hk
end
end Go.Aw
