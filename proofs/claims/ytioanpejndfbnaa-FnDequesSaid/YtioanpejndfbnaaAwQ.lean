/- An abstract memory over the model: operations in any order that their edges leave open. -/
import Derived.Test.YtioanpejndfbnaaAwP
namespace Go.Aw
open Go.RowKit
set_option linter.unusedSimpArgs false
set_option linter.unusedVariables false

/-! ### what goes before -/
def edgesOf (o : Oper) : List Nat := (o.after.toList.filter (Region.binds .any)).map (·.on)
inductive Anc (ops : List Oper) : Nat → Nat → Prop
  | base {i : Nat} {o : Oper} {e : Nat} (h : ops[i]? = some o) (he : e ∈ edgesOf o) : Anc ops e i
  | step {i : Nat} {o : Oper} {e j : Nat} (h : ops[i]? = some o) (he : e ∈ edgesOf o) (hj : Anc ops j e) : Anc ops j i
def maskOf (ms : List Nat) : List Nat → Nat
  | [] => 0
  | e :: r => maskOf ms r ||| (2 ^ e ||| ms.getD e 0)
def masksGo : List Oper → List Nat → List Nat
  | [], ms => ms
  | o :: r, ms => masksGo r (ms ++ [maskOf ms (edgesOf o)])
theorem maskOf_bit {ms : List Nat} : ∀ {l : List Nat} {j : Nat}, (maskOf ms l).testBit j = true → ∃ e ∈ l, j = e ∨ (ms.getD e 0).testBit j = true
  | [], j, h => by simp [maskOf] at h
  | e :: r, j, h => by
    simp only [maskOf, Nat.testBit_or, Bool.or_eq_true] at h
    rcases h with h | h | h
    · obtain ⟨x, hx, h⟩ := maskOf_bit h
      exact ⟨x, by simp [hx], h⟩
    · rw [Nat.testBit_two_pow] at h
      exact ⟨e, by simp, .inl (of_decide_eq_true h).symm⟩
    · exact ⟨e, by simp, .inr h⟩
theorem masksGo_anc (ops : List Oper) : ∀ (r : List Oper) (ms : List Nat), ops.drop ms.length = r → (∀ k j, (ms.getD k 0).testBit j = true → Anc ops j k) → ∀ k j, ((masksGo r ms).getD k 0).testBit j = true → Anc ops j k
  | [], ms, _, h => h
  | o :: r, ms, hd, h => by
    have ho : ops[ms.length]? = some o := by
      have := congrArg (·[0]?) hd
      simpa using this
    refine masksGo_anc ops r _ (by rw [List.length_append, ← List.drop_drop, hd]; rfl) ?_
    intro k j hk
    by_cases hlt : k < ms.length
    · rw [List.getD_eq_getElem?_getD, List.getElem?_append_left hlt, ← List.getD_eq_getElem?_getD] at hk
      exact h k j hk
    · by_cases he : k = ms.length
      · subst he
        rw [List.getD_eq_getElem?_getD, List.getElem?_append_right (Nat.le_refl _)] at hk
        simp only [Nat.sub_self, List.getElem?_cons_zero, Option.getD_some] at hk
        obtain ⟨e, he, h1⟩ := maskOf_bit hk
        rcases h1 with rfl | h1
        · exact .base ho he
        · exact .step ho he (h e j h1)
      · rw [List.getD_eq_getElem?_getD, List.getElem?_append_right (by omega), List.getElem?_eq_none (by simp; omega)] at hk
        simp at hk
theorem masks_anc {ops : List Oper} {k j : Nat} (h : ((masksGo ops []).getD k 0).testBit j = true) : Anc ops j k :=
  masksGo_anc ops ops [] rfl (fun k j h => by simp at h) k j h

/-- What is done has all before it done. -/
def Shutd (ops : List Oper) (d : Nat → Bool) : Prop := ∀ (i : Nat) (o : Oper), ops[i]? = some o → d i = true → ∀ e ∈ edgesOf o, d e = true
theorem Anc.done {ops : List Oper} {d : Nat → Bool} (hs : Shutd ops d) {j i : Nat} (h : Anc ops j i) : (∀ o, ops[i]? = some o → ∀ e ∈ edgesOf o, d e = true) → d j = true := by
  induction h with
  | base h he => intro hi; exact hi _ h _ he
  | step h he hj ih => intro hi; exact ih fun o' ho' => hs _ o' ho' (hi _ h _ he)
def up (d : Nat → Bool) (i : Nat) : Nat → Bool := fun j => if j = i then true else d j
theorem up_self (d : Nat → Bool) (i : Nat) : up d i i = true := by simp [up]
theorem up_ne {d : Nat → Bool} {i j : Nat} (h : j ≠ i) : up d i j = d j := by simp [up, h]

section
variable {P : Program} {ops : Array Oper} {Q : Exit → Act → World → Prop}
def dOf (listed : Array Bool) (i : Nat) : Bool := listed.getD i false
theorem dOf_set {listed : Array Bool} {i : Nat} (h : i < listed.size) : dOf (listed.setIfInBounds i true) = up (dOf listed) i := by
  funext j
  unfold dOf up
  by_cases e : j = i
  · subst e; simp [h]
  · rw [if_neg e]; exact getD_set_ne false (fun h => e h.symm)
def unl (n : Nat) (d : Nat → Bool) : Nat := (List.range n).countP fun i => !d i
theorem unl_up {n i : Nat} {d : Nat → Bool} (hi : i < n) (hd : d i = false) : unl n (up d i) + 1 = unl n d := by
  unfold unl
  induction n with
  | zero => omega
  | succ n ih =>
    rw [List.range_succ, List.countP_append, List.countP_append]
    simp only [List.countP_singleton]
    by_cases e : i = n
    · subst e
      have : (List.range i).countP (fun j => !up d i j) = (List.range i).countP (fun j => !d j) := by
        apply List.countP_congr
        intro x hx
        rw [up_ne (by have := List.mem_range.1 hx; omega)]
      rw [this, up_self, hd]; simp
    · have := ih (by omega)
      rw [up_ne (fun h => e h.symm)]
      omega
theorem unl_zero {n : Nat} {d : Nat → Bool} (h : unl n d = 0) : ∀ i, i < n → d i = true := by
  intro i hi
  unfold unl at h
  have := List.countP_eq_zero.1 h i (List.mem_range.2 hi)
  simpa using this

/-- Shown once for each operation, whatever was done before it. -/
theorem wpAny_inv (I : (Nat → Bool) → Act → World → Prop) (hdown : ∀ (i : Nat) (o : Oper), ops[i]? = some o → ∀ e ∈ edgesOf o, e < i)
    (hstep : ∀ (d : Nat → Bool) (i : Nat) (o : Oper) (a : Act) (w : World), ops[i]? = some o → I d a w → Shutd ops.toList d → d i = false → (∀ e ∈ edgesOf o, d e = true) →
      ∀ Kc : Act → World → Prop, (∀ a' w', I (up d i) a' w' → Kc a' w') → wpOp P ops Q i Kc a w)
    (hend : ∀ (d : Nat → Bool) (a : Act) (w : World), (∀ i, i < ops.size → d i = true) → I d a w → Q .normal a w) :
    ∀ (fuel : Nat) (listed : Array Bool) (a : Act) (w : World), listed.size = ops.size → Shutd ops.toList (dOf listed) → unl ops.size (dOf listed) ≤ fuel → I (dOf listed) a w → wpAny P .any ops Q fuel listed a w := by
  have fin : ∀ (listed : Array Bool), listed.size = ops.size → Region.ready .any ops listed = [] → ∀ i, i < ops.size → dOf listed i = true := by
    intro listed hsz hr i
    induction i using Nat.strongRecOn with
    | _ i ih =>
      intro hi
      cases hd : dOf listed i with
      | true => rfl
      | false =>
        exfalso
        have : i ∈ Region.ready .any ops listed := by
          rw [mem_ready]
          refine ⟨?_, ops[i], by simp [hi], fun e he hb => ?_⟩
          · unfold dOf at hd
            have : i < listed.size := by omega
            simpa [this] using hd
          · have hm : e.on ∈ edgesOf ops[i] := by
              simp only [edgesOf, List.mem_map, List.mem_filter]
              exact ⟨e, ⟨by simpa using he, hb⟩, rfl⟩
            have hlt := hdown i ops[i] (by simp [hi]) e.on hm
            exact ih e.on hlt (by omega)
        rw [hr] at this
        cases this
  have all0 : ∀ (listed : Array Bool), listed.size = ops.size → (∀ i, i < ops.size → dOf listed i = true) → Region.ready .any ops listed = [] := by
    intro listed hsz hall
    apply List.eq_nil_iff_forall_not_mem.2
    intro i hi
    obtain ⟨h1, o, h2, _⟩ := mem_ready.1 hi
    have hlt := (Array.getElem?_eq_some_iff.1 h2).1
    have := hall i hlt
    unfold dOf at this
    have hl : i < listed.size := by omega
    simp [hl] at this h1
    rw [this] at h1; cases h1
  intro fuel
  induction fuel with
  | zero =>
    intro listed a w hsz hsh hu hI
    have hall := unl_zero (Nat.le_zero.1 hu)
    exact ⟨all0 listed hsz hall, hend _ _ _ hall hI⟩
  | succ fuel ih =>
    intro listed a w hsz hsh hu hI
    refine ⟨fun hr => hend _ _ _ (fin listed hsz hr) hI, fun i hi => ?_⟩
    obtain ⟨h1, o, h2, h3⟩ := mem_ready.1 hi
    have hlt := (Array.getElem?_eq_some_iff.1 h2).1
    have hl : i < listed.size := by omega
    have hdi : dOf listed i = false := by unfold dOf; simp [hl] at h1 ⊢; exact h1
    have hpre : ∀ e ∈ edgesOf o, dOf listed e = true := by
      intro e he
      simp only [edgesOf, List.mem_map, List.mem_filter] at he
      obtain ⟨x, ⟨hx, hb⟩, rfl⟩ := he
      exact h3 x (by simpa using hx) hb
    refine hstep (dOf listed) i o a w h2 hI hsh hdi hpre _ fun a' w' hI' => ?_
    refine ih _ a' w' (by simp [hsz]) ?_ ?_ ?_
    · rw [dOf_set hl]
      intro k ok hk hdk e he
      by_cases hke : k = i
      · subst hke
        have : ok = o := by
          have h4 : ops.toList[k]? = some o := by simpa using h2
          rw [h4] at hk; cases hk; rfl
        subst this
        unfold up; split
        · rfl
        · exact hpre e he
      · rw [up_ne hke] at hdk
        have := hsh k ok hk hdk e he
        unfold up; split
        · rfl
        · exact this
    · rw [dOf_set hl]
      have := unl_up hlt hdi
      omega
    · rw [dOf_set hl]; exact hI'
end

/-! ### what each has done, put together -/
structure Rec where
  v : AV
  sets : List (Nat × Ob) := []
  news : List Ob := []
def setAll : Heap → List (Nat × Ob) → Heap
  | H, [] => H
  | H, (o, ob) :: r => setAll (H.set o ob) r
def slotsOf : Nat → List Ob → List (Nat × Ob)
  | _, [] => []
  | p, ob :: r => (p, ob) :: slotsOf (p + 1) r
def Rec.all (r : Rec) (p : Nat) : List (Nat × Ob) := r.sets ++ slotsOf p r.news
def stepD (o : Oper) (r : Rec) (p : Nat) (st : St) : St := ⟨putT o.dst r.v st.tm, setAll st.hp (r.all p)⟩
def runD (d : Nat → Bool) : Nat → Nat → List (Oper × Rec) → St → St
  | _, _, [], st => st
  | i, p, (o, r) :: L, st => runD d (i + 1) (p + r.news.length) L (if d i then stepD o r p st else st)
def slotAt : Nat → List (Oper × Rec) → Nat → Nat
  | p, _, 0 => p
  | p, [], _ + 1 => p
  | p, (_, r) :: L, i + 1 => slotAt (p + r.news.length) L i

theorem setAll_len : ∀ (l : List (Nat × Ob)) (H : Heap), (setAll H l).length = H.length
  | [], _ => rfl
  | (o, ob) :: r, H => by simp only [setAll]; rw [setAll_len r, List.length_set]
theorem setAll_out : ∀ {l : List (Nat × Ob)} {H : Heap} {o : Nat}, o ∉ l.map (·.1) → (setAll H l)[o]? = H[o]?
  | [], _, _, _ => rfl
  | (q, ob) :: r, H, o, h => by
    simp only [List.map_cons, List.mem_cons, not_or] at h
    simp only [setAll]
    rw [setAll_out h.2, List.getElem?_set_ne (fun e => h.1 e.symm)]
theorem setAll_in : ∀ {l : List (Nat × Ob)} {H H2 : Heap} {o : Nat}, H.length = H2.length → (o ∈ l.map (·.1) ∨ H[o]? = H2[o]?) → (setAll H l)[o]? = (setAll H2 l)[o]?
  | [], _, _, _, _, h => by simpa [setAll] using h
  | (q, ob) :: r, H, H2, o, hl, h => by
    simp only [setAll]
    refine setAll_in (by simp [hl]) ?_
    by_cases e : q = o
    · right
      subst e
      rw [List.getElem?_set, List.getElem?_set, if_pos rfl, if_pos rfl, hl]
    · rw [List.getElem?_set_ne e, List.getElem?_set_ne e]
      rcases h with h | h
      · simp only [List.map_cons, List.mem_cons] at h
        exact .inl (h.resolve_left fun e' => e e'.symm)
      · exact .inr h
theorem look_put (d : Option Tmp) (v : AV) (tm : List (Nat × AV)) (t : Nat) : look (putT d v tm) t = if d = some t then some v else look tm t := by
  cases d with
  | none => simp [putT]
  | some x =>
    simp only [putT, look, Option.some.injEq]
    by_cases e : t = x
    · rw [if_pos e, if_pos e.symm]
    · rw [if_neg e, if_neg (fun h => e h.symm)]

section
variable {d d' : Nat → Bool}
theorem runD_len : ∀ (L : List (Oper × Rec)) (i p : Nat) (st : St), (runD d i p L st).hp.length = st.hp.length
  | [], _, _, _ => rfl
  | (o, r) :: L, i, p, st => by
    simp only [runD]
    rw [runD_len L]
    split
    · exact setAll_len _ _
    · rfl
theorem look_run {t : Nat} : ∀ (L : List (Oper × Rec)) (i p : Nat) (st st' : St), (∀ (j : Nat) (x : Oper × Rec), L[j]? = some x → x.1.dst = some t → d (i + j) = d' (i + j)) → look st.tm t = look st'.tm t → look (runD d i p L st).tm t = look (runD d' i p L st').tm t
  | [], _, _, _, _, _, h => h
  | (o, r) :: L, i, p, st, st', hL, h => by
    simp only [runD]
    refine look_run L (i + 1) _ _ _ (fun j x hx hd => ?_) ?_
    · have := hL (j + 1) x (by simpa using hx) hd
      rwa [show i + (j + 1) = i + 1 + j by omega] at this
    · by_cases hd : o.dst = some t
      · have h0 := hL 0 (o, r) rfl hd
        rw [Nat.add_zero] at h0
        rw [h0]
        cases d' i with
        | false => simpa using h
        | true => simp only [if_true, stepD, look_put, hd]
      · have e1 : ∀ (b : Bool) (s : St), look (if b = true then stepD o r p s else s).tm t = look s.tm t := by
          intro b s
          cases b with
          | false => simp
          | true => simp only [if_true, stepD, look_put, hd, if_false]
        rw [e1, e1]; exact h
theorem heap_run {q : Nat} : ∀ (L : List (Oper × Rec)) (i p : Nat) (st st' : St), (∀ (j : Nat) (x : Oper × Rec), L[j]? = some x → q ∈ (x.2.all (slotAt p L j)).map (·.1) → d (i + j) = d' (i + j)) → st.hp.length = st'.hp.length → st.hp[q]? = st'.hp[q]? → (runD d i p L st).hp[q]? = (runD d' i p L st').hp[q]?
  | [], _, _, _, _, _, _, h => h
  | (o, r) :: L, i, p, st, st', hL, hl, h => by
    simp only [runD]
    have hlen : ∀ (b : Bool) (s : St), (if b = true then stepD o r p s else s).hp.length = s.hp.length := by
      intro b s
      cases b with
      | false => simp
      | true => simp only [if_true, stepD, setAll_len]
    refine heap_run L (i + 1) _ _ _ (fun j x hx hd => ?_) (by rw [hlen, hlen]; exact hl) ?_
    · have := hL (j + 1) x (by simpa using hx) (by simpa [slotAt] using hd)
      rwa [show i + (j + 1) = i + 1 + j by omega] at this
    · by_cases hd : q ∈ (r.all p).map (·.1)
      · have h0 := hL 0 (o, r) rfl (by simpa [slotAt] using hd)
        rw [Nat.add_zero] at h0
        rw [h0]
        cases d' i with
        | false => simpa using h
        | true => simp only [if_true, stepD]; exact setAll_in hl (.inl hd)
      · have e1 : ∀ (b : Bool) (s : St), (if b = true then stepD o r p s else s).hp[q]? = s.hp[q]? := by
          intro b s
          cases b with
          | false => simp
          | true => simp only [if_true, stepD]; exact setAll_out hd
        rw [e1, e1]; exact h

/-- One more of them done: the same as done last, where none that is done has to do with it. -/
theorem run_up {i0 : Nat} {o0 : Oper} {r0 : Rec} : ∀ (L : List (Oper × Rec)) (i p : Nat) (st : St), i ≤ i0 → L[i0 - i]? = some (o0, r0) → d i0 = false →
    (∀ (j : Nat) (x : Oper × Rec), L[j]? = some x → i0 < i + j → d (i + j) = true → (∀ t, x.1.dst = some t → o0.dst ≠ some t) ∧ ∀ q ∈ (x.2.all (slotAt p L j)).map (·.1), q ∉ (r0.all (slotAt p L (i0 - i))).map (·.1)) →
    (∀ t, look (runD (up d i0) i p L st).tm t = look (putT o0.dst r0.v (runD d i p L st).tm) t) ∧ (runD (up d i0) i p L st).hp = setAll (runD d i p L st).hp (r0.all (slotAt p L (i0 - i)))
  | [], i, p, st, _, h, _, _ => by simp at h
  | (o, r) :: L, i, p, st, hi, h, hd, hL => by
    by_cases e : i = i0
    · subst e
      rw [Nat.sub_self] at h hL ⊢
      simp only [List.getElem?_cons_zero, Option.some.injEq, Prod.mk.injEq] at h
      obtain ⟨rfl, rfl⟩ := h
      simp only [runD, up_self, if_true, hd, Bool.false_eq_true, if_false, slotAt]
      have later : ∀ (j : Nat), up d i (i + 1 + j) = d (i + 1 + j) := fun j => up_ne (by omega)
      constructor
      · intro t
        rw [look_put]
        by_cases ht : o.dst = some t
        · rw [if_pos ht]
          have : look (runD (up d i) (i + 1) (p + r.news.length) L (stepD o r p st)).tm t = look (runD (fun _ => false) (i + 1) (p + r.news.length) L (stepD o r p st)).tm t := by
            refine look_run L _ _ _ _ (fun j x hx hdx => ?_) rfl
            rw [later]
            cases hdj : d (i + 1 + j) with
            | false => rfl
            | true =>
              have := (hL (j + 1) x (by simpa using hx) (by omega) (by rw [← hdj]; congr 1; omega)).1 t hdx
              exact absurd ht this
          rw [this]
          have none : ∀ (L : List (Oper × Rec)) (i p : Nat) (s : St), runD (fun _ => false) i p L s = s := by
            intro L
            induction L with
            | nil => intros; rfl
            | cons x L ih => intro i p s; simp only [runD, Bool.false_eq_true, if_false]; exact ih _ _ _
          rw [none, stepD, look_put, if_pos ht]
        · rw [if_neg ht]
          refine look_run L _ _ _ _ (fun j x hx hdx => later j) ?_
          simp only [stepD, look_put, ht, if_false]
      · apply List.ext_getElem?
        intro q
        by_cases hq : q ∈ (r.all p).map (·.1)
        · have none : ∀ (L : List (Oper × Rec)) (i p : Nat) (s : St), runD (fun _ => false) i p L s = s := by
            intro L
            induction L with
            | nil => intros; rfl
            | cons x L ih => intro i p s; simp only [runD, Bool.false_eq_true, if_false]; exact ih _ _ _
          have h1 : (runD (up d i) (i + 1) (p + r.news.length) L (stepD o r p st)).hp[q]? = (runD (fun _ => false) (i + 1) (p + r.news.length) L (stepD o r p st)).hp[q]? := by
            refine heap_run L _ _ _ _ (fun j x hx hdx => ?_) rfl rfl
            rw [later]
            cases hdj : d (i + 1 + j) with
            | false => rfl
            | true =>
              have := (hL (j + 1) x (by simpa using hx) (by omega) (by rw [← hdj]; congr 1; omega)).2 q (by simpa [slotAt] using hdx)
              exact absurd (by simpa [slotAt] using hq) this
          rw [h1, none]
          simp only [stepD]
          exact setAll_in (by rw [runD_len]) (.inl hq)
        · rw [setAll_out hq]
          refine heap_run L _ _ _ _ (fun j x hx hdx => later j) (by simp only [stepD, setAll_len]) ?_
          simp only [stepD]
          exact setAll_out hq
    · have hlt : i < i0 := by omega
      have hs : i0 - i = (i0 - (i + 1)) + 1 := by omega
      rw [hs] at h hL ⊢
      simp only [runD, slotAt]
      rw [up_ne e]
      refine run_up L (i + 1) (p + r.news.length) _ (by omega) (by simpa using h) hd fun j x hx hlt' hdj => ?_
      have := hL (j + 1) x (by simpa using hx) (by omega) (by rw [← hdj]; congr 1; omega)
      simpa [slotAt] using this
end
end Go.Aw
