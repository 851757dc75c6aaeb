/- An abstract memory over the model: a region of open order, shown in the text's order. -/
import Derived.Test.YtioanpejndfbnaaAwR
namespace Go.Aw
open Go.RowKit
set_option linter.unusedSimpArgs false
set_option linter.unusedVariables false

/-- An operation of an open region: what it does, its new objects from the place p on. -/
def OpOK (P : Program) (st : St) (p : Nat) (op : Op) (r : Rec) : Prop :=
  match op with
  | .call c => match c.callee with
    | .value x => ∃ f caps, ∃ res0 : AV, ev st.tm x = .one (.c (.fn f caps)) ∧ r.v = res0.ren (fun j => p + j) ∧ r.sets = [] ∧ (∀ n ∈ res0.names, n < r.news.length) ∧ (∀ ob ∈ r.news, ob.names = []) ∧
        ∀ Hx : Heap, (∀ n ob, (∃ y ∈ c.operands, n ∈ (ev st.tm y).names) → ob.alive → st.hp[n]? = some ob → Hx[n]? = some ob) → AC P f (c.args.toList.map (ev st.tm) ++ capsAV caps) Hx (res0.ren (fun j => Hx.length + j)) (Hx ++ r.news)
    | _ => OpStep P st.hp (ev st.tm) p (.call c) fun e => r = recOf e
  | op => OpStep P st.hp (ev st.tm) p op fun e => r = recOf e
/-- A call in an open region. -/
def CallD (P : Program) (st : St) (c : Call) (x : Operand) (p : Nat) (k : Rec → Prop) : Prop :=
  ∃ f caps, ∃ res0 : AV, ∃ news : List Ob, ev st.tm x = .one (.c (.fn f caps)) ∧ (∀ n ∈ res0.names, n < news.length) ∧ (∀ ob ∈ news, ob.names = []) ∧
        (∀ Hx : Heap, (∀ n ob, (∃ y ∈ c.operands, n ∈ (ev st.tm y).names) → ob.alive → st.hp[n]? = some ob → Hx[n]? = some ob) → AC P f (c.args.toList.map (ev st.tm) ++ capsAV caps) Hx (res0.ren (fun j => Hx.length + j)) (Hx ++ news)) ∧
        k { v := res0.ren (fun j => p + j), news := news }
theorem CallD.data {P : Program} {st : St} {c : Call} {x : Operand} {p : Nat} {k : Rec → Prop} {f : FuncId} {args : List AV} (res0 : AV) (news : List Ob) (hx : ev st.tm x = .one (.c (.fn f []))) (hargs : c.args.toList.map (ev st.tm) = args)
    (hres : ∀ n ∈ res0.names, n < news.length) (hnews : ∀ ob ∈ news, ob.names = []) (hac : ∀ Hx : Heap, AC P f args Hx (res0.ren (fun j => Hx.length + j)) (Hx ++ news)) (hk : k { v := res0.ren (fun j => p + j), news := news }) : CallD P st c x p k :=
  ⟨f, [], res0, news, hx, hres, hnews, fun Hx _ => by rw [hargs, capsAV, List.map_nil, List.append_nil]; exact hac Hx, hk⟩
def OpD (P : Program) (st : St) (p : Nat) (op : Op) (k : Rec → Prop) : Prop :=
  match op with
  | .call c => match c.callee with
    | .value x => CallD P st c x p k
    | _ => OpStep P st.hp (ev st.tm) p (.call c) fun e => k (recOf e)
  | op => OpStep P st.hp (ev st.tm) p op fun e => k (recOf e)
theorem OpStep.pick {P : Program} {H : Heap} {ev : Operand → AV} {p : Nat} {op : Op} {k : Eff → Prop} (h : OpStep P H ev p op k) : ∃ e, k e ∧ OpStep P H ev p op fun e' => e' = e := by
  unfold OpStep at h ⊢
  split at h
  · exact ⟨_, h, rfl⟩
  · exact ⟨_, h, rfl⟩
  · obtain ⟨av, h1, h2⟩ := h; exact ⟨_, h2, av, h1, rfl⟩
  · obtain ⟨av, h1, h2⟩ := h; exact ⟨_, h2, av, h1, rfl⟩
  · obtain ⟨o, ob, h1, h2⟩ := h; exact ⟨_, h2, o, ob, h1, rfl⟩
  · obtain ⟨av, h1, h2⟩ := h; exact ⟨_, h2, av, h1, rfl⟩
  · obtain ⟨av, h1, h2⟩ := h; exact ⟨_, h2, av, h1, rfl⟩
  · obtain ⟨av, h1, h2⟩ := h; exact ⟨_, h2, av, h1, rfl⟩
  · obtain ⟨sd, av, h0, h1, h2⟩ := h; exact ⟨_, h2, sd, av, h0, h1, rfl⟩
  · obtain ⟨av, h1, h2⟩ := h; exact ⟨_, h2, av, h1, rfl⟩
  · obtain ⟨av, h1, h2⟩ := h; exact ⟨_, h2, av, h1, rfl⟩
  · obtain ⟨av, h1, h2⟩ := h; exact ⟨_, h2, av, h1, rfl⟩
  · obtain ⟨av, h1, h2⟩ := h; exact ⟨_, h2, av, h1, rfl⟩
  · obtain ⟨av, h1, h2⟩ := h; exact ⟨_, h2, av, h1, rfl⟩
  · obtain ⟨cs, h1, h2⟩ := h; exact ⟨_, h2, cs, h1, rfl⟩
  · obtain ⟨h0, h1, h2⟩ := h; exact ⟨_, h2, h0, h1, rfl⟩
  · obtain ⟨cs, h1, h2⟩ := h; exact ⟨_, h2, cs, h1, rfl⟩
  · obtain ⟨e, sz, es, h1, h2⟩ := h; exact ⟨_, h2, e, sz, es, h1, rfl⟩
  · obtain ⟨e, sz, n, es, h1, h2⟩ := h; exact ⟨_, h2, e, sz, n, es, h1, rfl⟩
  · split at h
    · obtain ⟨t, x, av, h0, h1, h2, h3⟩ := h; exact ⟨_, h3, t, x, av, h0, h1, h2, rfl⟩
    · obtain ⟨t, x, y, ks, e, sz, olds, news, h0, h1, h2, h3, h4, h5⟩ := h
      exact ⟨_, h5, t, x, y, ks, e, sz, olds, news, h0, h1, h2, h3, h4, rfl⟩
    · exact h.elim
  · exact h.elim
theorem OpD.ok {P : Program} {st : St} {p : Nat} {op : Op} {k : Rec → Prop} (h : OpD P st p op k) : ∃ r, OpOK P st p op r ∧ k r := by
  have plain : ∀ {op : Op}, OpStep P st.hp (ev st.tm) p op (fun e => k (recOf e)) → ∃ r, OpStep P st.hp (ev st.tm) p op (fun e => r = recOf e) ∧ k r := by
    intro op h
    obtain ⟨e, h1, h2⟩ := OpStep.pick h
    exact ⟨recOf e, OpStep.mono (fun e' he => by rw [he]) h2, h1⟩
  unfold OpD at h
  unfold OpOK
  split at h
  · rename_i c
    split at h
    · rename_i x hc
      obtain ⟨f, caps, res0, news, h1, h2, h3, h4, h5⟩ := h
      exact ⟨_, ⟨f, caps, res0, h1, rfl, rfl, h2, h3, h4⟩, h5⟩
    · rename_i hc
      obtain ⟨r, h1, h2⟩ := plain h
      exact ⟨r, h1, h2⟩
  · rename_i hne
    obtain ⟨r, h1, h2⟩ := plain h
    exact ⟨r, h1, h2⟩

def StepOK (P : Program) (N : Nat) (ops : Array Oper) (st : St) (p : Nat) (x : Oper × Rec) : Prop :=
  dstOk x.1.dst N ∧ match guardA N ops st.tm x.1.guard with
    | some true => OpOK P st p x.1.op x.2
    | some false => x.2 = { v := .tup [] }
    | none => False
def SeqOK (P : Program) (N : Nat) (ops : Array Oper) : Nat → List (Oper × Rec) → St → Prop
  | _, [], _ => True
  | p, x :: L, st => StepOK P N ops st p x ∧ SeqOK P N ops (p + x.2.news.length) L (stepD x.1 x.2 p st)
/-- Of a loud operation: what it turns, what it looks at. -/
structure Tr where
  i : Nat
  md : Bool
  keys : List Nat
  nm : List Nat
def trOf (st : St) (i : Nat) (o : Oper) (r : Rec) : Tr := ⟨i, isMod o.op, r.sets.map (·.1), o.op.operands.toList.flatMap fun y => (ev st.tm y).names⟩
/-- Bound to their order, or neither turns what the other looks at. -/
def sepTr (ms : List Nat) (x y : Tr) : Prop := (ms.getD y.i 0).testBit x.i = true ∨ ((x.md = true → ∀ q ∈ x.keys, q ∉ y.nm) ∧ (y.md = true → ∀ q ∈ y.keys, q ∉ x.nm))
def nextTr (acc : List Tr) (st : St) (i : Nat) (o : Oper) (r : Rec) : List Tr := if isLoud o.op = true then trOf st i o r :: acc else acc
def OpsD (P : Program) (N : Nat) (ops : Array Oper) (ms : List Nat) : Nat → List Tr → Nat → List Oper → (St → Prop) → St → Prop
  | _, _, p, [], k, st => p = st.hp.length ∧ k st
  | i, acc, p, o :: r, k, st => dstOk o.dst N ∧ match guardA N ops st.tm o.guard with
    | some true => OpD P st p o.op fun rc => (isLoud o.op = true → ∀ t ∈ acc, sepTr ms t (trOf st i o rc)) ∧ OpsD P N ops ms (i + 1) (nextTr acc st i o rc) (p + rc.news.length) r k (stepD o rc p st)
    | some false => OpsD P N ops ms (i + 1) acc p r k ⟨putT o.dst (.tup []) st.tm, st.hp⟩
    | none => False
/-- .. told of the list of them. -/
def SepOK (N : Nat) (ops : Array Oper) (ms : List Nat) : Nat → List Tr → Nat → List (Oper × Rec) → St → Prop
  | _, _, _, [], _ => True
  | i, acc, p, x :: L, st => (isLoud x.1.op = true → (∀ t ∈ acc, sepTr ms t (trOf st i x.1 x.2)) ∨ guardA N ops st.tm x.1.guard = some false) ∧ ∃ acc', (acc' = nextTr acc st i x.1 x.2 ∨ (acc' = acc ∧ guardA N ops st.tm x.1.guard = some false)) ∧ SepOK N ops ms (i + 1) acc' (p + x.2.news.length) L (stepD x.1 x.2 p st)
theorem OpsD.seq {P : Program} {N : Nat} {ops : Array Oper} {ms : List Nat} {k : St → Prop} : ∀ (r : List Oper) (p i : Nat) (acc : List Tr) (st : St), OpsD P N ops ms i acc p r k st →
    ∃ L : List (Oper × Rec), L.map (·.1) = r ∧ SeqOK P N ops p L st ∧ k (runD (fun _ => true) i p L st) ∧ slotAt p L L.length = st.hp.length ∧ SepOK N ops ms i acc p L st
  | [], p, i, acc, st, h => ⟨[], rfl, trivial, h.2, h.1, trivial⟩
  | o :: r, p, i, acc, st, h => by
    obtain ⟨hd, h⟩ := h
    split at h
    · rename_i hg
      obtain ⟨rc, h1, hsep, h2⟩ := OpD.ok h
      obtain ⟨L, h3, h4, h5, h6, h7⟩ := OpsD.seq r _ (i + 1) _ _ h2
      refine ⟨(o, rc) :: L, by simp [h3], ⟨⟨hd, by simp only [hg]; exact h1⟩, h4⟩, by simp only [runD, if_true]; exact h5, ?_, fun hl => .inl (hsep hl), _, .inl rfl, h7⟩
      simp only [List.length_cons, slotAt]
      rw [h6, stepD, setAll_len]
    · rename_i hg
      have e : (⟨putT o.dst (.tup []) st.tm, st.hp⟩ : St) = stepD o { v := .tup [] } p st := rfl
      rw [e] at h
      obtain ⟨L, h3, h4, h5, h6, h7⟩ := OpsD.seq r _ (i + 1) _ _ h
      refine ⟨(o, { v := .tup [] }) :: L, by simp [h3], ⟨⟨hd, by simp only [hg]⟩, h4⟩, by simp only [runD, if_true]; exact h5, ?_, fun _ => .inr hg, _, .inr ⟨rfl, hg⟩, h7⟩
      simp only [List.length_cons, slotAt]
      exact h6
    · exact h.elim

theorem runD_none {d : Nat → Bool} : ∀ (L : List (Oper × Rec)) (i p : Nat) (st : St), (∀ j, i ≤ j → d j = false) → runD d i p L st = st
  | [], _, _, _, _ => rfl
  | (o, r) :: L, i, p, st, h => by
    simp only [runD, h i (Nat.le_refl _), Bool.false_eq_true, if_false]
    exact runD_none L _ _ _ fun j hj => h j (by omega)
theorem SeqOK.at {P : Program} {N : Nat} {ops : Array Oper} : ∀ {L : List (Oper × Rec)} {i0 p : Nat} {st : St} {i : Nat} {x : Oper × Rec}, SeqOK P N ops p L st → L[i]? = some x →
    StepOK P N ops (runD (fun j => decide (j < i0 + i)) i0 p L st) (slotAt p L i) x
  | [], _, _, _, _, _, _, h => by simp at h
  | (o, r) :: L, i0, p, st, 0, x, hs, h => by
    simp at h; subst h
    rw [runD_none _ _ _ _ (fun j hj => by simp; omega)]
    exact hs.1
  | (o, r) :: L, i0, p, st, i + 1, x, hs, h => by
    have := SeqOK.at (i0 := i0 + 1) hs.2 (i := i) (x := x) (by simpa using h)
    simp only [runD, slotAt, show i0 < i0 + (i + 1) by omega, decide_true, if_true]
    rw [show i0 + (i + 1) = i0 + 1 + i by omega]
    exact this

/-! ### slots -/
theorem mem_slots : ∀ {news : List Ob} {p q : Nat}, q ∈ (slotsOf p news).map (·.1) ↔ p ≤ q ∧ q < p + news.length
  | [], p, q => by simp [slotsOf]
  | ob :: r, p, q => by
    simp only [slotsOf, List.map_cons, List.mem_cons, mem_slots (news := r), List.length_cons]
    omega
theorem slotAt_ge (L : List (Oper × Rec)) : ∀ (p j : Nat), p ≤ slotAt p L j := by
  induction L with
  | nil => intro p j; cases j <;> exact Nat.le_refl _
  | cons y L ih => intro p j; cases j with
    | zero => exact Nat.le_refl _
    | succ j => simp only [slotAt]; exact Nat.le_trans (Nat.le_add_right _ _) (ih _ _)
theorem slotAt_lt {L : List (Oper × Rec)} : ∀ {p i j : Nat} {x : Oper × Rec}, i < j → L[i]? = some x → slotAt p L i + x.2.news.length ≤ slotAt p L j := by
  induction L with
  | nil => intro p i j x _ h; simp at h
  | cons y L ih =>
    intro p i j x hlt h
    cases j with
    | zero => omega
    | succ j =>
      cases i with
      | zero =>
        simp at h; subst h
        exact slotAt_ge L _ j
      | succ i => exact ih (by omega) (by simpa using h)
theorem slot_find : ∀ {L : List (Oper × Rec)} {p n : Nat}, p ≤ n → n < slotAt p L L.length → ∃ j x, L[j]? = some x ∧ slotAt p L j ≤ n ∧ n < slotAt p L j + x.2.news.length
  | [], p, n, h1, h2 => by simp [slotAt] at h2; omega
  | (o, r) :: L, p, n, h1, h2 => by
    by_cases h : n < p + r.news.length
    · exact ⟨0, (o, r), rfl, h1, h⟩
    · simp only [List.length_cons, slotAt] at h2
      obtain ⟨j, x, h3, h4, h5⟩ := slot_find (by omega) h2
      exact ⟨j + 1, x, by simpa using h3, h4, h5⟩

/-! ### which may come in any order -/
def clash (ops : Array Oper) (x y : Oper) : Bool := !(x.apart ops y)
/-- Any two that have to do with each other are bound to their order. -/
def orderly (ops : Array Oper) : Bool :=
  let ms := masksGo ops.toList []
  (List.range ops.toList.length).all fun i => match ops.toList[i]? with
    | some o => (edgesOf o).all (fun e => decide (e < i)) && (List.range i).all fun j => (ms.getD i 0).testBit j || match ops.toList[j]? with
      | some x => !clash ops x o
      | none => true
    | none => true
theorem orderly_down {ops : Array Oper} (h : orderly ops = true) {i : Nat} {o : Oper} (ho : ops.toList[i]? = some o) : ∀ e ∈ edgesOf o, e < i := by
  unfold orderly at h
  have := List.all_eq_true.1 h i (List.mem_range.2 (List.getElem?_eq_some_iff.1 ho).1)
  rw [ho] at this
  simp only [Bool.and_eq_true, List.all_eq_true, decide_eq_true_eq] at this
  exact this.1
theorem orderly_pair {ops : Array Oper} (h : orderly ops = true) {i j : Nat} {o x : Oper} (ho : ops.toList[i]? = some o) (hx : ops.toList[j]? = some x) (hlt : j < i) : Anc ops.toList j i ∨ (((masksGo ops.toList []).getD i 0).testBit j = false ∧ clash ops x o = false) := by
  unfold orderly at h
  have := List.all_eq_true.1 h i (List.mem_range.2 (List.getElem?_eq_some_iff.1 ho).1)
  rw [ho] at this
  simp only [Bool.and_eq_true, List.all_eq_true, List.mem_range] at this
  have := this.2 j hlt
  rw [hx] at this
  simp only [Bool.or_eq_true, Bool.not_eq_true'] at this
  cases hb : ((masksGo ops.toList []).getD i 0).testBit j with
  | true => exact .inl (masks_anc hb)
  | false => rw [hb] at this; exact .inr ⟨rfl, this.resolve_left (by simp)⟩
/-- Nothing to do with each other. -/
structure Free (ops : Array Oper) (x o : Oper) : Prop where
  d1 : ∀ t, x.dst = some t → t ∉ o.looksAt ops
  d2 : ∀ t, x.dst = some t → o.dst ≠ some t
  d3 : ∀ t, o.dst = some t → t ∉ x.looksAt ops
theorem clash_free {ops : Array Oper} {x o : Oper} (h : clash ops x o = false) : Free ops x o ∧ Free ops o x := by
  simp only [clash, Bool.not_eq_false'] at h
  obtain ⟨a1, a2, a3⟩ := Oper.apart_spec h
  exact ⟨⟨a1, a2, a3⟩, ⟨a3, fun t ht hx => a2 t hx ht, a1⟩⟩
def unbound (ops : Array Oper) (j i : Nat) : Prop := (j < i ∧ ((masksGo ops.toList []).getD i 0).testBit j = false) ∨ (i < j ∧ ((masksGo ops.toList []).getD j 0).testBit i = false)
/-- Seen from one that may be done now: what is done is what goes before it in the text, but for those that have nothing to do with it. -/
theorem done_or_free {ops : Array Oper} (h : orderly ops = true) {d : Nat → Bool} (hs : Shutd ops.toList d) {i : Nat} {o : Oper} (ho : ops.toList[i]? = some o) (hdi : d i = false) (hpre : ∀ e ∈ edgesOf o, d e = true)
    {j : Nat} {x : Oper} (hx : ops.toList[j]? = some x) : d j = decide (j < i) ∨ (j ≠ i ∧ Free ops x o ∧ Free ops o x ∧ unbound ops j i) := by
  by_cases e : j = i
  · subst e; left; simp [hdi]
  · rcases Nat.lt_or_gt_of_ne e with hlt | hgt
    · rcases orderly_pair h ho hx hlt with ha | ⟨hb, hc⟩
      · left
        rw [ha.done hs (fun o' ho' => by rw [ho] at ho'; cases ho'; exact hpre)]
        simp [hlt]
      · exact .inr ⟨e, (clash_free hc).1, (clash_free hc).2, .inl ⟨hlt, hb⟩⟩
    · rcases orderly_pair h hx ho hgt with ha | ⟨hb, hc⟩
      · left
        have : d j = false := by
          cases hdj : d j with
          | false => rfl
          | true =>
            have := ha.done hs (fun o' ho' => hs j o' ho' hdj)
            rw [hdi] at this; cases this
        rw [this]; simp; omega
      · exact .inr ⟨e, (clash_free hc).2, (clash_free hc).1, .inr ⟨hgt, hb⟩⟩

theorem SepOK.at {N : Nat} {ops : Array Oper} {ms : List Nat} : ∀ {L : List (Oper × Rec)} {i0 p : Nat} {acc : List Tr} {st : St} {i : Nat} {x : Oper × Rec}, SepOK N ops ms i0 acc p L st → L[i]? = some x → isLoud x.1.op = true → guardA N ops (runD (fun j => decide (j < i0 + i)) i0 p L st).tm x.1.guard ≠ some false →
    (∀ t ∈ acc, sepTr ms t (trOf (runD (fun j => decide (j < i0 + i)) i0 p L st) (i0 + i) x.1 x.2)) ∧
    ∀ j y, j < i → L[j]? = some y → isLoud y.1.op = true → guardA N ops (runD (fun k => decide (k < i0 + j)) i0 p L st).tm y.1.guard ≠ some false → sepTr ms (trOf (runD (fun k => decide (k < i0 + j)) i0 p L st) (i0 + j) y.1 y.2) (trOf (runD (fun k => decide (k < i0 + i)) i0 p L st) (i0 + i) x.1 x.2)
  | [], _, _, _, _, _, _, _, h, _, _ => by simp at h
  | (o, r) :: L, i0, p, acc, st, 0, x, hs, h, hl, hne => by
    simp at h; subst h
    have e0 : runD (fun j => decide (j < i0 + 0)) i0 p ((o, r) :: L) st = st := runD_none _ _ _ _ (fun j hj => by simp; omega)
    rw [e0] at hne ⊢
    exact ⟨(hs.1 hl).resolve_right hne, fun j y hj => by omega⟩
  | (o, r) :: L, i0, p, acc, st, i + 1, x, hs, h, hl, hne => by
    obtain ⟨acc', hacc, hs2⟩ := hs.2
    have e1 : ∀ j, runD (fun k => decide (k < i0 + (j + 1))) i0 p ((o, r) :: L) st = runD (fun k => decide (k < i0 + 1 + j)) (i0 + 1) (p + r.news.length) L (stepD o r p st) := by
      intro j
      simp only [runD, show i0 < i0 + (j + 1) by omega, decide_true, if_true]
      rw [show i0 + (j + 1) = i0 + 1 + j by omega]
    rw [e1] at hne
    have ih := SepOK.at (i := i) (x := x) hs2 (by simpa using h) hl hne
    rw [e1, show i0 + (i + 1) = i0 + 1 + i by omega]
    have hsub : ∀ t ∈ acc, t ∈ acc' := by
      intro t ht
      rcases hacc with rfl | ⟨rfl, _⟩
      · unfold nextTr; split
        · exact List.mem_cons_of_mem _ ht
        · exact ht
      · exact ht
    refine ⟨fun t ht => ih.1 t (hsub t ht), fun j y hj hy hly hney => ?_⟩
    cases j with
    | zero =>
      simp at hy; subst hy
      have e0 : runD (fun j => decide (j < i0 + 0)) i0 p ((o, r) :: L) st = st := runD_none _ _ _ _ (fun j hj => by simp; omega)
      rw [e0] at hney ⊢
      refine ih.1 _ ?_
      rcases hacc with rfl | ⟨_, h⟩
      · unfold nextTr; rw [if_pos hly]; exact List.mem_cons_self
      · exact absurd h hney
    | succ j =>
      rw [e1] at hney ⊢
      rw [show i0 + (j + 1) = i0 + 1 + j by omega]
      exact ih.2 j y (by omega) (by simpa using hy) hly hney
end Go.Aw
