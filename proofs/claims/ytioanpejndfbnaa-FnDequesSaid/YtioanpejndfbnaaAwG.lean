/- An abstract memory over the model: operations that make or write memory. -/
import Derived.Test.YtioanpejndfbnaaAwF
namespace Go.Aw
open Go.RowKit
set_option linter.unusedSimpArgs false
set_option linter.unusedVariables false

/-- May it be kept in an object? -/
def C.keep : C → Bool
  | .sl lv _ _ => lv
  | .ra lv _ => lv
  | _ => true

/-- The cells of a type's zero value. -/
def zeroC (P : Program) (t : TypeId) : Option (List C) :=
  ((P.info? t).bind (·.zero)).bind fun z => constCs z.cells.toList

section
variable {S T : Nat → Prop} {w : World} {ρ : Map}
theorem C.den_keep {c : C} (h : c.keep = true) {v : Value} (hd : c.den S T w ρ v) : c.den S S w ρ v := by
  cases c with
  | sl lv sz es => simp only [C.keep] at h; subst h; exact hd
  | ra lv cs => simp only [C.keep] at h; subst h; exact hd
  | _ => exact hd
theorem dens_keep : ∀ {cs : List C} {vs : List Value}, cs.all C.keep = true → dens S T w ρ cs vs → dens S S w ρ cs vs
  | [], [], _, _ => trivial
  | c :: cs, v :: vs, h, hd => by
    simp only [List.all_cons, Bool.and_eq_true] at h
    exact ⟨C.den_keep h.1 hd.1, dens_keep h.2 hd.2⟩
  | [], _ :: _, _, hd => hd.elim
  | _ :: _, [], _, hd => hd.elim
theorem zeroC_run {P : Program} {t : TypeId} {cs : List C} (h : zeroC P t = some cs) : ∃ i z, P.info? t = some i ∧ i.zero = some z ∧ constCs z.cells.toList = some cs := by
  unfold zeroC at h
  cases hi : P.info? t with
  | none => rw [hi] at h; simp at h
  | some i =>
    rw [hi] at h
    simp only [Option.bind_some] at h
    cases hz : i.zero with
    | none => rw [hz] at h; simp at h
    | some z => rw [hz] at h; exact ⟨i, z, rfl, hz, by simpa using h⟩
theorem constCs_keep : ∀ {vs : List Value} {cs : List C}, constCs vs = some cs → cs.all C.keep = true
  | [], cs, h => by simp [constCs] at h; subst h; rfl
  | v :: r, cs, h => by
    simp only [constCs] at h
    split at h
    · rename_i c cs' h1 h2
      cases h
      have hk : c.keep = true := by
        unfold constC at h1
        split at h1 <;> cases h1 <;> rfl
      simp [hk]
      simpa using constCs_keep h2
    · cases h
theorem dens_new {cs : List C} {vs : List Value} {arr : Array Value} {t : TypeId} {p n : Nat} (hlt : ∀ b, S b → b < w.heap.size) (hd : dens S S w ρ cs vs) (hn : ∀ c ∈ cs, p ∉ c.names) :
    dens S S (w.alloc (.cells arr t)) (upd ρ p (some (w.heap.size, 0, n))) cs vs := by
  have hS : Ext S S w (w.alloc (.cells arr t)) := fun b hb => ⟨hb, Below.heap_alloc w _ b (hlt b hb)⟩
  exact dens_ext hS hS cs vs (fun c hc o ho => upd_ne (fun e => hn c hc (e ▸ ho))) hd
end

section
variable {K : Ctx} {S T R : Nat → Prop} {ρ : Map} {st : St} {a : Act} {w : World}

/-- A new block of these cells. -/
theorem new_cells (m : Match K S T ρ R st a w) {p : Nat} (hR : R p) (hp : p < st.hp.length) {cs : List C} {vs : List Value} (hd : dens S T w ρ cs vs) (hk : cs.all C.keep = true) (hN : ∀ c ∈ cs, ∀ n ∈ c.names, ¬ R n) (t : TypeId) :
    Match K S T (upd ρ p (some (w.heap.size, 0, 1))) (fun n => R n ∧ n ≠ p) ⟨st.tm, st.hp.set p (.cells cs)⟩ a (w.alloc (.cells vs.toArray t)) := by
  refine m.alloc hR hp vs.toArray t 1 ⟨w.heap.size, (0, 1), vs.toArray, t, upd_self _ _ _, rfl, ?_, ?_⟩ ?_
  · exact heap_alloc_new w _
  · have := dens_new (arr := vs.toArray) (t := t) (p := p) (n := 1) (fun b hb => m.good.lt b (m.good.le b hb)) (dens_keep hk hd) (fun c hc hpn => hN c hc p hpn hR)
    simpa using this
  · intro n hn
    simp only [Ob.names, List.mem_flatMap] at hn
    obtain ⟨c, hc, hn⟩ := hn
    exact hN c hc n hn

theorem does_alloc (m : Match K S T ρ R st a w) (p : Nat) (hR : R p) (hp : p < st.hp.length) (t : TypeId) (ty : TypeId) {cs : List C} (h : zeroC K.P t = some cs) :
    Does K S T R st a w p (.alloc t) ty { v := .one (.c (.op p 0)), new := some (.cells cs) } := by
  obtain ⟨i, z, hi, hz, hc⟩ := zeroC_run h
  have hm := new_cells m hR hp (constCs_den (S := S) (T := T) (w := w) (ρ := ρ) hc) (constCs_keep hc) (fun c hcm n hn => by
    have := constCs_names hc
    have h2 : n ∈ cs.flatMap C.names := List.mem_flatMap.2 ⟨c, hcm, hn⟩
    rw [this] at h2; simp at h2) t
  refine .new (v := .pointer (some ⟨w.heap.size, 0, none⟩)) (fun o' h _ => ?_) hm ⟨w.heap.size, (0, 1), upd_self _ _ _, rfl⟩ (fun n hn => by simp [AV.names, A1.names, C.names] at hn; exact .inl hn)
  simp [execOp, h, Instr.alloc, zeroValue, typeInfo, hi, hz, newVar, newRow]
theorem AV.cells_den {x : AV} {v : Value} (hne : x.cells ≠ [] ∨ ∃ a, x = .one a) (h : x.den S T w ρ v) : dens S T w ρ x.cells v.cells.toList := by
  cases x with
  | one a => exact A1.cells_den h
  | tup as => rcases hne with h | ⟨a, h⟩ <;> simp_all [AV.cells]
  | undef => rcases hne with h | ⟨a, h⟩ <;> simp_all [AV.cells]
theorem AV.cells_names {x : AV} {n : Nat} {c : C} (hc : c ∈ x.cells) (hn : n ∈ c.names) : n ∈ x.names := by
  cases x with
  | one a => cases a with
    | c y => simp [AV.cells, A1.cells] at hc; subst hc; exact hn
    | agg cs => simp only [AV.names, A1.names, List.mem_flatMap]; exact ⟨c, hc, hn⟩
  | tup as => simp [AV.cells] at hc
  | undef => simp [AV.cells] at hc
theorem does_box (m : Match K S T ρ R st a w) (p : Nat) (hR : R p) (hp : p < st.hp.length) (t : TypeId) (x : Operand) (ty : TypeId) (h : (ev st.tm x).cells ≠ []) (hk : (ev st.tm x).cells.all C.keep = true) :
    Does K S T R st a w p (.box t x) ty { v := .one (.c (.op p 0)), new := some (.cells (ev st.tm x).cells) } := by
  have hd := AV.cells_den (.inl h) (m.ev x)
  have hm := new_cells m hR hp hd hk (fun c hc n hn => m.evN x n (AV.cells_names hc hn)) t
  refine .new (v := .pointer (some ⟨w.heap.size, 0, none⟩)) (fun o' h _ => ?_) hm ⟨w.heap.size, (0, 1), upd_self _ _ _, rfl⟩ (fun n hn => by simp [AV.names, A1.names, C.names] at hn; exact .inl hn)
  simp [execOp, h, Instr.box, newVar, newRow]

/-! #### a store -/
def putAt (cs : List C) (j : Nat) (new : List C) : List C := cs.take j ++ (new ++ cs.drop (j + new.length))
def aStore (P : Program) (H : Heap) (t : TypeId) (x y : AV) : Option (Nat × Ob) :=
  if P.cellsOf t = y.cells.length ∧ y.cells ≠ [] ∧ y.cells.all C.keep = true then
    match x with
    | .one (.c (.op o j)) => match H[o]? with
      | some (.cells cs) => if j + y.cells.length ≤ cs.length then some (o, .cells (putAt cs j y.cells)) else none
      | _ => none
    | .one (.c (.oe o sz i j)) => match H[o]? with
      | some (.row e sz' es) => if sz' = sz ∧ i < es.length ∧ j + y.cells.length ≤ sz then some (o, .row e sz (es.set i (putAt (es.getD i []) j y.cells))) else none
      | _ => none
    | _ => none
  else none

theorem dens_put {cs new : List C} {vs us : List Value} {j : Nat} (hd : dens S T w ρ cs vs) (hn : dens S T w ρ new us) : dens S T w ρ (putAt cs j new) (vs.take j ++ us ++ vs.drop (j + us.length)) := by
  unfold putAt
  rw [List.append_assoc]
  refine dens_append (dens_take j hd) (dens_append hn ?_)
  rw [dens_len hn]
  exact dens_drop _ hd
theorem putAt_len {cs new : List C} {j : Nat} (h : j + new.length ≤ cs.length) : (putAt cs j new).length = cs.length := by
  unfold putAt; simp; omega
theorem flatten_set : ∀ {es : List (List C)} {sz i j : Nat} {new : List C}, (∀ r ∈ es, r.length = sz) → i < es.length → j + new.length ≤ sz → (es.set i (putAt (es.getD i []) j new)).flatten = putAt es.flatten (i * sz + j) new
  | [], _, _, _, _, _, hi, _ => by simp at hi
  | e :: es, sz, 0, j, new, hs, _, hj => by
    have he := hs e (by simp)
    simp only [List.set_cons_zero, List.getD_cons_zero, List.flatten_cons, Nat.zero_mul, Nat.zero_add, putAt]
    rw [List.take_append_of_le_length (by omega), List.drop_append_of_le_length (by omega)]
    simp
  | e :: es, sz, i + 1, j, new, hs, hi, hj => by
    have he := hs e (by simp)
    have ih := flatten_set (es := es) (sz := sz) (i := i) (j := j) (new := new) (fun r hr => hs r (by simp [hr])) (by simpa using hi) hj
    rw [List.set_cons_succ, List.getD_cons_succ, List.flatten_cons, ih, List.flatten_cons]
    unfold putAt
    have e1 : (i + 1) * sz + j = e.length + (i * sz + j) := by rw [he, Nat.add_mul]; omega
    rw [e1, List.take_append, List.take_of_length_le (show e.length ≤ e.length + (i * sz + j) by omega)]
    rw [show e.length + (i * sz + j) + new.length = e.length + (i * sz + j + new.length) by omega, List.drop_append, List.drop_of_length_le (show e.length ≤ e.length + (i * sz + j + new.length) by omega)]
    simp [Nat.add_sub_cancel_left]
theorem set_len : ∀ {es : List (List C)} {sz i : Nat} {r : List C}, (∀ r ∈ es, r.length = sz) → r.length = sz → ∀ q ∈ es.set i r, q.length = sz := by
  intro es sz i r hs hr q hq
  rcases List.mem_or_eq_of_mem_set hq with h | h
  · exact hs q h
  · rw [h]; exact hr
theorem run_storeVar {P : Program} {w : World} {t g o : Nat} {ty : TypeId} {cur : Array Value} {v : Value} (hg : w.heap[g]? = some (.cells cur ty (0, 0))) (hs : P.cellsOf t = v.cells.size) (hz : v.cells.size ≠ 0) (hl : o + v.cells.size ≤ cur.size) (h1 : ∀ u ∈ v.cells.toList, u.oneCell' = true) :
    (Instr.storeAt t (.pointer (some ⟨g, o, none⟩)) v).run P w = .ok () (w.setRow g (cur.toList.take o ++ v.cells.toList ++ cur.toList.drop (o + v.cells.size)).toArray) := by
  have h := run_storeCells_at (P := P) g o ty v.cells.toList 0 cur w hg (by simpa using hl) h1
  simp only [Nat.add_zero, Array.length_toList] at h
  have hz2 : P.cellsOf t ≠ 0 := by omega
  simp [Instr.storeAt, Instr.sureAddr, storeVar, run_sizeOf' hs hz, h]

theorem does_store (m : Match K S T ρ R st a w) (p : Nat) (t : TypeId) (x y : Operand) (ty : TypeId) {o : Nat} {ob : Ob} (h : aStore K.P st.hp t (ev st.tm x) (ev st.tm y) = some (o, ob)) :
    Does K S T R st a w p (.store t x y) ty { v := .undef, up := some (o, ob) } := by
  unfold aStore at h
  split at h
  · rename_i hc
    obtain ⟨hs, hne, hk⟩ := hc
    have hd := AV.cells_den (.inl hne) (m.ev y)
    have hdk := dens_keep hk hd
    have hlen : (ev st.tm y).cells.length = (a.eval y).cells.size := by have := dens_len hd; simpa using this
    have hNy : ∀ c ∈ (ev st.tm y).cells, ∀ n ∈ c.names, ¬ R n := fun c hc n hn => m.evN y n (AV.cells_names hc hn)
    have hlen0 : (ev st.tm y).cells.length ≠ 0 := fun e => hne (List.eq_nil_of_length_eq_zero e)
    have hR : Eff.res { v := .undef, up := some (o, ob) } p R = R := by funext n; simp [Eff.res]
    split at h
    · rename_i o' j hx
      split at h
      · rename_i cs ho
        split at h
        · rename_i hle
          cases h
          obtain ⟨b, c, h1, h2⟩ := m.evC hx
          obtain ⟨b', c', arr, tt, h3, h0, h4, h5⟩ := m.good.real o _ ho
          rw [h1] at h3; cases h3
          rw [h0, Nat.zero_add] at h2
          have harr : cs.length = arr.size := by have := dens_len h5; simpa using this
          have hrun := run_storeVar (P := K.P) (t := t) h4 (hs.trans hlen) (by omega) (show j + (a.eval y).cells.size ≤ arr.size by omega) (dens_one hd)
          refine ⟨undef, _, ρ, fun o2 e1 e2 => .inr ⟨by simp only [execOp, e1, h2, Sem.run_bind, hrun, Result.andThen_ok, Sem.run_pure]; rfl, rfl⟩, ?_, trivial, ?_⟩
          · rw [hR]
            generalize hnew : (arr.toList.take j ++ (a.eval y).cells.toList ++ arr.toList.drop (j + (a.eval y).cells.size)).toArray = arr'
            have hreal := setRow_heap w b arr arr' tt (0, 0) h4
            have hTb : ∀ k, T k → k ≠ b := fun k hk e => m.good.out b ⟨o, c, ⟨_, ho, trivial⟩, h1⟩ (e ▸ hk)
            have hS : Ext S S w (w.setRow b arr') := fun k hk => ⟨hk, setRow_other w b k _ (hTb k (m.good.le k hk))⟩
            refine m.write ho trivial h1 (fun k hk => setRow_other w b k _ hk) (by simp) rfl rfl rfl ⟨b, c, arr', tt, h1, h0, hreal, ?_⟩ ?_
            · have := dens_put (j := j) h5 hdk
              rw [Array.length_toList] at this
              have e : arr'.toList = arr.toList.take j ++ (a.eval y).cells.toList ++ arr.toList.drop (j + (a.eval y).cells.size) := by rw [← hnew]
              rw [e]
              exact dens_ext (w' := w.setRow b arr') hS hS _ _ (fun _ _ _ _ => rfl) this
            · intro n hn
              simp only [Ob.names, List.mem_flatMap] at hn
              obtain ⟨d, hd1, hd2⟩ := hn
              unfold putAt at hd1
              rcases List.mem_append.1 hd1 with hd1 | hd1
              · exact m.obN o _ ho n (by simp only [Ob.names, List.mem_flatMap]; exact ⟨d, List.mem_of_mem_take hd1, hd2⟩)
              · rcases List.mem_append.1 hd1 with hd1 | hd1
                · exact hNy d hd1 n hd2
                · exact m.obN o _ ho n (by simp only [Ob.names, List.mem_flatMap]; exact ⟨d, List.mem_of_mem_drop hd1, hd2⟩)
          · intro n hn; simp [AV.names] at hn
        · cases h
      · cases h
    · rename_i o' sz i j hx
      split at h
      · rename_i e sz' es ho
        split at h
        · rename_i hc
          obtain ⟨hsz, hi, hj⟩ := hc
          subst hsz
          cases h
          obtain ⟨b, c, h1, h2⟩ := m.evC hx
          rcases m.good.real o _ ho with ⟨h3, _⟩ | ⟨b', c', arr, pre, vs, rest, h3, h4, h5, h5', h6, h7, h7', h8, h9⟩
          · rw [h1] at h3; cases h3
          · rw [h1] at h3; cases h3
            have hvl := dens_len h9
            have hfl : ∀ {es : List (List C)} {sz i : Nat}, (∀ r ∈ es, r.length = sz) → i < es.length → i * sz + sz ≤ es.flatten.length := by
              intro es sz i hs hi
              exact (flatten_at hs (List.getElem?_eq_getElem hi)).2
            have hfi := hfl h8 hi
            have hgi : (es.getD i []).length = sz' := by rw [List.getD_eq_getElem?_getD, List.getElem?_eq_getElem hi]; exact h8 _ (List.getElem_mem hi)
            have hal : arr.toList.length = c.1 + (vs.length + rest.length) := by rw [h5]; simp [h5']
            have hal : arr.size = c.1 + (vs.length + rest.length) := by rw [← hal]; simp
            have hrun := run_storeVar (P := K.P) (t := t) h4 (hs.trans hlen) (by omega) (show c.1 + (i * sz' + j) + (a.eval y).cells.size ≤ arr.size by omega) (dens_one hd)
            refine ⟨undef, _, ρ, fun o2 e1 e2 => .inr ⟨by simp only [execOp, e1, h2, Sem.run_bind, hrun, Result.andThen_ok, Sem.run_pure]; rfl, rfl⟩, ?_, trivial, ?_⟩
            · rw [hR]
              have hTb : ∀ k, T k → k ≠ b := fun k hk e => m.good.out b ⟨o, c, ⟨_, ho, trivial⟩, h1⟩ (e ▸ hk)
              generalize hnew : (arr.toList.take (c.1 + (i * sz' + j)) ++ (a.eval y).cells.toList ++ arr.toList.drop (c.1 + (i * sz' + j) + (a.eval y).cells.size)).toArray = arr'
              have hreal := setRow_heap w b arr arr' e (0, 0) h4
              have hS : Ext S S w (w.setRow b arr') := fun k hk => ⟨hk, setRow_other w b k _ (hTb k (m.good.le k hk))⟩
              have hput := dens_put (j := i * sz' + j) h9 hdk
              rw [Array.length_toList, ← flatten_set h8 hi (by omega)] at hput
              refine m.write ho trivial h1 (fun k hk => setRow_other w b k _ hk) (by simp) rfl rfl rfl (.inr ⟨b, c, arr', pre, _, rest, h1, hreal, ?_, h5', ?_, by simpa using h7, h7', set_len h8 (by rw [putAt_len (by omega)]; exact hgi), dens_ext hS hS _ _ (fun _ _ _ _ => rfl) hput⟩) ?_
              · rw [← hnew, h5]
                simp only [List.toList_toArray]
                rw [List.take_append, List.take_of_length_le (show pre.length ≤ c.1 + (i * sz' + j) by omega), h5', Nat.add_sub_cancel_left, List.take_append_of_le_length (by omega)]
                rw [show c.1 + (i * sz' + j) + (a.eval y).cells.size = pre.length + (i * sz' + j + (a.eval y).cells.size) by omega, List.drop_append, List.drop_of_length_le (show pre.length ≤ pre.length + (i * sz' + j + (a.eval y).cells.size) by omega), Nat.add_sub_cancel_left, List.drop_append_of_le_length (by omega)]
                simp
              · rw [← hnew, ← h6]
                simp only [List.size_toArray, List.length_append, List.length_take, List.length_drop, Array.length_toList]
                omega
              · intro n hn
                simp only [Ob.names, List.mem_flatMap] at hn
                obtain ⟨d, hd1, hd2⟩ := hn
                rw [flatten_set h8 hi (by omega)] at hd1
                unfold putAt at hd1
                rcases List.mem_append.1 hd1 with hd1 | hd1
                · exact m.obN o _ ho n (by simp only [Ob.names, List.mem_flatMap]; exact ⟨d, List.mem_of_mem_take hd1, hd2⟩)
                · rcases List.mem_append.1 hd1 with hd1 | hd1
                  · exact hNy d hd1 n hd2
                  · exact m.obN o _ ho n (by simp only [Ob.names, List.mem_flatMap]; exact ⟨d, List.mem_of_mem_drop hd1, hd2⟩)
            · intro n hn; simp [AV.names] at hn
        · cases h
      · cases h
    · cases h
  · cases h
end
end Go.Aw
