/- An abstract memory over the model: structs and slices that are built, made, measured, appended to. -/
import Derived.Test.YtioanpejndfbnaaAwG
namespace Go.Aw
open Go.RowKit
set_option linter.unusedSimpArgs false
set_option linter.unusedVariables false

/-! #### parts put into cells -/
def fillC (place : Nat → Option (Nat × Nat)) (cs : List C) : List (Nat × AV) → Option (List C)
  | [] => some cs
  | (i, x) :: r => match place i with
    | none => none
    | some (off, size) => if x.cells.length = size ∧ x.cells ≠ [] ∧ off + size ≤ cs.length then fillC place (putAt cs off x.cells) r else none

section
variable {S T : Nat → Prop} {w : World} {ρ : Map}
theorem foldl_put : ∀ (us : List Value) (k off : Nat) (arr : Array Value), off + k + us.length ≤ arr.size →
    ((us.zipIdx k).foldl (fun cs (x : Value × Nat) => cs.setIfInBounds (off + x.2) x.1) arr).toList = arr.toList.take (off + k) ++ us ++ arr.toList.drop (off + k + us.length)
  | [], k, off, arr, _ => by simp
  | u :: us, k, off, arr, h => by
    simp only [List.zipIdx_cons, List.foldl_cons]
    rw [foldl_put us (k + 1) off _ (by simp at h ⊢; omega)]
    simp only [List.length_cons] at h ⊢
    have hlt : off + k < arr.toList.length := by simp; omega
    rw [Array.toList_setIfInBounds, show off + (k + 1) = off + k + 1 by omega]
    rw [List.take_add_one, List.getElem?_set_self hlt, List.take_set_of_le (Nat.le_refl _), List.drop_set_of_lt (by omega)]
    simp [Nat.add_assoc, Nat.add_comm 1]
theorem fillC_run {place : Nat → Option (Nat × Nat)} : ∀ {ps : List (Nat × AV)} {vs : List (Nat × Value)} {cs : List C} {arr : Array Value} {out : List C},
    dens S T w ρ cs arr.toList → ps.length = vs.length → (∀ (k i : Nat) (x : AV), ps[k]? = some (i, x) → ∃ v, vs[k]? = some (i, v) ∧ x.den S T w ρ v) → fillC place cs ps = some out →
    ∃ arr', Instr.fill place arr vs = some arr' ∧ dens S T w ρ out arr'.toList
  | [], vs, cs, arr, out, hd, hl, _, h => by
    simp [fillC] at h; subst h
    obtain rfl : vs = [] := List.eq_nil_of_length_eq_zero (by simpa using hl.symm)
    exact ⟨arr, rfl, hd⟩
  | (i, x) :: r, vs, cs, arr, out, hd, hl, hv, h => by
    obtain ⟨v, h0, hx⟩ := hv 0 i x rfl
    cases vs with
    | nil => simp at h0
    | cons u us =>
      simp at h0; subst h0
      simp only [fillC] at h
      split at h
      · cases h
      · rename_i off size hp
        split at h
        · rename_i hc
          obtain ⟨h1, h2, h3⟩ := hc
          have hxc := AV.cells_den (.inl h2) hx
          have hxl : x.cells.length = v.cells.size := by have := dens_len hxc; simpa using this
          have hal : cs.length = arr.size := by have := dens_len hd; simpa using this
          have hf := foldl_put v.cells.toList 0 off arr (by simp; omega)
          have hput := dens_put (j := off) hd hxc
          obtain ⟨arr', h4, h5⟩ := fillC_run (ps := r) (vs := us) (cs := putAt cs off x.cells) (arr := (v.cells.toList.zipIdx.foldl (fun cs (x : Value × Nat) => cs.setIfInBounds (off + x.2) x.1) arr)) (out := out)
            (by rw [hf]; simpa using hput) (by simpa using hl) (fun k i x hk => by simpa using hv (k + 1) i x (by simpa using hk)) h
          refine ⟨arr', ?_, h5⟩
          simp only [Instr.fill, hp]
          rw [if_neg (by simp; omega)]
          rw [← h4]
          congr 1
          rw [← Array.foldl_toList, Array.toList_zipIdx]
        · cases h
theorem fillC_names {place : Nat → Option (Nat × Nat)} {Rr : Nat → Prop} : ∀ {ps : List (Nat × AV)} {cs out : List C}, (∀ c ∈ cs, ∀ n ∈ c.names, ¬ Rr n) → (∀ p ∈ ps, ∀ n ∈ p.2.names, ¬ Rr n) → fillC place cs ps = some out → ∀ c ∈ out, ∀ n ∈ c.names, ¬ Rr n
  | [], cs, out, h1, _, h => by simp [fillC] at h; subst h; exact h1
  | (i, x) :: r, cs, out, h1, h2, h => by
    simp only [fillC] at h
    split at h
    · cases h
    · split at h
      · refine fillC_names (ps := r) ?_ (fun p hp => h2 p (by simp [hp])) h
        intro c hc n hn
        unfold putAt at hc
        rcases List.mem_append.1 hc with hc | hc
        · exact h1 c (List.mem_of_mem_take hc) n hn
        · rcases List.mem_append.1 hc with hc | hc
          · exact h2 (i, x) (by simp) n (AV.cells_names hc hn)
          · exact h1 c (List.mem_of_mem_drop hc) n hn
      · cases h
end

/-- Where a struct's fields lie, and how long they are. -/
def fieldsOf (P : Program) (fs : Array Field) (k : Nat) : Option (Nat × Nat) := (fs[k]?).map fun f => (f.offset, P.cellsOf f.type)
def aBuild (P : Program) (t : TypeId) (ps : List (Nat × AV)) : Option (List C) :=
  match P.underlying t, zeroC P t with
  | some (.struct fs), some z => if fs.toList.all (fun f => P.cellsOf f.type != 0) = true then fillC (fieldsOf P fs) z ps else none
  | _, _ => none

section
variable {K : Ctx} {S T R : Nat → Prop} {ρ : Map} {st : St} {a : Act} {w : World}
theorem mapM_sizes {P : Program} {w : World} : ∀ (fs : List Field), fs.all (fun f => P.cellsOf f.type != 0) = true →
    (fs.mapM (fun f : Field => (do pure (f.offset, ← sizeOf f.type) : Sem (Nat × Nat)))).run P w = .ok (fs.map fun f => (f.offset, P.cellsOf f.type)) w
  | [], _ => rfl
  | f :: fs, h => by
    simp only [List.all_cons, Bool.and_eq_true, bne_iff_ne] at h
    have := mapM_sizes (P := P) (w := w) fs h.2
    simp only [List.mapM_cons, Sem.run_bind, run_sizeOf' rfl h.1, Result.andThen_ok, Sem.run_pure, this, List.map_cons]

theorem does_build (m : Match K S T ρ R st a w) (p : Nat) (t : TypeId) (ps : Array (Nat × Operand)) (ty : TypeId) {cs : List C} (h : aBuild K.P t (ps.toList.map fun q => (q.1, ev st.tm q.2)) = some cs) :
    Does K S T R st a w p (.build t ps) ty { v := .one (.agg cs) } := by
  unfold aBuild at h
  split at h
  · rename_i fs z hu hz
    split at h
    · rename_i hall
      obtain ⟨i, zv, hi, hzz, hzc⟩ := zeroC_run hz
      have hd0 := constCs_den (S := S) (T := T) (w := w) (ρ := ρ) hzc
      obtain ⟨arr', h1, h2⟩ := fillC_run (arr := zv.cells) (vs := (ps.map fun q => (q.1, a.eval q.2)).toList) (by simpa using hd0) (by simp) (fun k i x hk => by
        simp only [List.getElem?_map, Option.map_eq_some_iff] at hk
        obtain ⟨q, hq, hqe⟩ := hk
        cases hqe
        refine ⟨a.eval q.2, ?_, m.ev q.2⟩
        simp only [Array.toList_map, List.getElem?_map, hq, Option.map_some]) h
      refine .val (v := .agg arr') m (fun o' ho _ => ?_) ⟨arr'.toList, by simp, h2⟩ ?_
      · have hms := mapM_sizes (P := K.P) (w := w) fs.toList hall
        have hfill : Instr.fill (fun x => ((fs.toList.map fun f => (f.offset, K.P.cellsOf f.type)).toArray)[x]?) zv.cells (ps.map fun q => (q.1, a.eval q.2)).toList = some arr' := by
          rw [← h1]
          congr 1
          funext x
          simp [fieldsOf]
        have hm2 : (Array.mapM (fun f : Field => (do pure (f.offset, ← sizeOf f.type) : Sem (Nat × Nat))) fs).run K.P w = .ok (fs.toList.map fun f => (f.offset, K.P.cellsOf f.type)).toArray w := by
          rw [Array.mapM_eq_mapM_toList]
          simp only [Sem.run_map, hms, Result.andThen_ok]
        simp only [execOp, ho, Instr.build, Sem.run_bind, zeroValue, typeInfo, run_program, Result.andThen_ok, hi, Sem.run_pure, hzz, run_underlying hu, hm2, hfill]
      · intro n hn hr
        simp only [AV.names, A1.names, List.mem_flatMap] at hn
        obtain ⟨c, hc, hn⟩ := hn
        refine fillC_names (Rr := R) (fun c hc n hn => ?_) (fun q hq => ?_) h c hc n hn hr
        · have := constCs_names hzc
          have h2 : n ∈ z.flatMap C.names := List.mem_flatMap.2 ⟨c, hc, hn⟩
          rw [this] at h2; simp at h2
        · obtain ⟨x, hx, rfl⟩ := List.mem_map.1 hq
          exact m.evN x.2
    · cases h
  · cases h

theorem does_len (m : Match K S T ρ R st a w) (p : Nat) (t : TypeId) (x : Operand) (ty : TypeId) {av : AV} (h : aLen K.P t (ev st.tm x) = some av) :
    Does K S T R st a w p (.call { callee := .builtin .len, args := #[x], argTypes := #[t] }) ty { v := av } := by
  unfold aLen at h
  split at h
  · rename_i e lv sz es hu hx
    cases h
    have hx := m.evC hx
    simp only [C.den, D.rd] at hx
    obtain ⟨A, c, h3, h4, h5⟩ := hx
    refine .val (v := .int .i64 es.length) m (fun o' h _ => ?_) (by simp [AV.den, A1.den, C.den]) (fun n hm => by simp [AV.names, A1.names, C.names] at hm)
    simp [execOp, h, resolve, invoke, builtin, Builtin.len_, run_underlying hu, h3, goInt]
  · rename_i e o sz off len hu hx
    cases h
    have hx := m.evC hx
    simp only [C.den] at hx
    have hv : ∃ A c, a.eval x = .slice A len c := by
      rcases hx with ⟨_, _, rfl, h⟩ | ⟨b, c, _, _, ⟨_, h⟩ | ⟨_, rfl, a0, h⟩⟩
      · exact ⟨_, _, h⟩
      · exact ⟨_, _, h⟩
      · exact ⟨_, _, h⟩
    obtain ⟨A, c, hv⟩ := hv
    refine .val (v := .int .i64 len) m (fun o' h _ => ?_) (by simp [AV.den, A1.den, C.den]) (fun n hm => by simp [AV.names, A1.names, C.names] at hm)
    simp [execOp, h, resolve, invoke, builtin, Builtin.len_, run_underlying hu, hv, goInt]
  · rename_i e hu hx
    cases h
    have hx := m.evC hx
    simp only [C.den] at hx
    refine .val (v := .int .i64 0) m (fun o' h _ => ?_) (by simp [AV.den, A1.den, C.den]) (fun n hm => by simp [AV.names, A1.names, C.names] at hm)
    simp [execOp, h, resolve, invoke, builtin, Builtin.len_, run_underlying hu, hx, goInt]
  · rename_i s hu hx
    cases h
    have hx := m.evC hx
    simp only [C.den] at hx
    refine .val (v := .int .i64 s.size) m (fun o' h _ => ?_) (by simp [AV.den, A1.den, C.den]) (fun n hm => by simp [AV.names, A1.names, C.names] at hm)
    simp [execOp, h, resolve, invoke, builtin, Builtin.len_, run_underlying hu, hx, goInt]
  · cases h
end
end Go.Aw
