/- An abstract memory over the model: slices that are built, made, appended to. -/
import Derived.Test.YtioanpejndfbnaaAwH
namespace Go.Aw
open Go.RowKit
set_option linter.unusedSimpArgs false
set_option linter.unusedVariables false

theorem made_list (zs : Array Value) (n : Nat) : (madeCells zs (n * zs.size)).toList = (List.replicate n zs.toList).flatten := by
  by_cases hz : zs.size = 0
  · have h2 : zs.toList = [] := by simpa using hz
    simp [madeCells, hz, h2]
  · apply List.ext_getElem?
    intro k
    by_cases hk : k < n * zs.size
    · have e : (madeCells zs (n * zs.size)).toList[k]? = some (zs[k % zs.size]'(Nat.mod_lt _ (by omega))) := by
        simp [madeCells, hk]
        exact getElem!_pos zs _ (Nat.mod_lt _ (by omega))
      rw [e]
      have : ∀ (n k : Nat), k < n * zs.size → ((List.replicate n zs.toList).flatten)[k]? = some (zs[k % zs.size]'(Nat.mod_lt _ (by omega))) := by
        intro n
        induction n with
        | zero => intro k hk; simp at hk
        | succ n ih =>
          intro k hk
          rw [List.replicate_succ, List.flatten_cons, List.getElem?_append]
          by_cases hlt : k < zs.toList.length
          · rw [if_pos hlt]
            have hlt' : k < zs.size := by simpa using hlt
            simp [Nat.mod_eq_of_lt hlt', hlt']
          · rw [if_neg hlt]
            have hlt' : ¬ k < zs.size := by simpa using hlt
            rw [Array.length_toList, ih (k - zs.size) (by rw [Nat.add_mul] at hk; omega)]
            congr 2
            exact (Nat.mod_eq_sub_mod (by omega)).symm
      exact (this n k hk).symm
    · rw [List.getElem?_eq_none (by simp [madeCells]; omega), List.getElem?_eq_none]
      simp
      omega

section
variable {S T : Nat → Prop} {w : World} {ρ : Map}
theorem dens_reps {z : List C} {zs : List Value} (h : dens S T w ρ z zs) : ∀ n, dens S T w ρ (List.replicate n z).flatten (List.replicate n zs).flatten
  | 0 => by simp [dens]
  | n + 1 => by
    rw [List.replicate_succ, List.replicate_succ, List.flatten_cons, List.flatten_cons]
    exact dens_append h (dens_reps h n)
theorem fillC_seq {sz : Nat} (hz : sz ≠ 0) : ∀ (xs : List AV) (k : Nat) (cs : List C), (∀ x ∈ xs, x.cells.length = sz) → cs.length = (k + xs.length) * sz →
    fillC (fun i => some (i * sz, sz)) cs ((List.range' k xs.length).zip xs) = some (cs.take (k * sz) ++ (xs.map AV.cells).flatten)
  | [], k, cs, _, hl => by
    simp at hl
    simp [fillC, ← hl]
  | x :: xs, k, cs, hx, hl => by
    have h0 := hx x (by simp)
    simp only [List.length_cons, List.range'_succ, List.zip_cons_cons, fillC]
    have hsz : k * sz + sz ≤ cs.length := by
      rw [hl, ← Nat.succ_mul]
      exact Nat.mul_le_mul_right _ (by simp)
    rw [if_pos ⟨h0, fun e => by rw [e] at h0; simp at h0; omega, hsz⟩]
    have hp : (putAt cs (k * sz) x.cells).length = cs.length := putAt_len (by omega)
    rw [fillC_seq hz xs (k + 1) _ (fun y hy => hx y (by simp [hy])) (by rw [hp, hl]; simp [Nat.add_assoc, Nat.add_comm 1])]
    have e : (putAt cs (k * sz) x.cells).take ((k + 1) * sz) = cs.take (k * sz) ++ x.cells := by
      unfold putAt
      have hl1 : (cs.take (k * sz) ++ x.cells).length = (k + 1) * sz := by
        rw [List.length_append, List.length_take, Nat.min_eq_left (by omega), h0, Nat.succ_mul]
      rw [← List.append_assoc, List.take_append_of_le_length (by rw [hl1]; exact Nat.le_refl _), List.take_of_length_le (by rw [hl1]; exact Nat.le_refl _)]
    rw [e, List.map_cons, List.flatten_cons, List.append_assoc]
theorem zip_fs {α β : Type} : ∀ (l : List (α × β)), (l.map (·.1)).zip (l.map (·.2)) = l
  | [] => rfl
  | _ :: l => by simp [zip_fs l]
end

def aRow (P : Program) (t : TypeId) (n : Nat) (ps : List (Nat × AV)) : Option (TypeId × Nat × List (List C)) :=
  match P.underlying t with
  | some (.slice e) => match zeroC P e with
    | some z => if z.length = P.cellsOf e ∧ P.cellsOf e ≠ 0 ∧ n * P.cellsOf e ≤ 16777216 ∧ n = ps.length ∧ ps.map (·.1) = List.range' 0 n ∧ (∀ x ∈ ps, x.2.cells.length = P.cellsOf e ∧ x.2.cells.all C.keep = true) then some (e, P.cellsOf e, ps.map (·.2.cells)) else none
    | none => none
  | _ => none

section
variable {K : Ctx} {S T R : Nat → Prop} {ρ : Map} {st : St} {a : Act} {w : World}
/-- A new row. -/
theorem new_row (m : Match K S T ρ R st a w) {p : Nat} (hR : R p) (hp : p < st.hp.length) {e sz c : Nat} {es : List (List C)} {arr : Array Value} {vs rest : List Value} (harr : arr.toList = vs ++ rest) (hsz : arr.size = c * sz) (hle : es.length ≤ c) (hcm : c ≤ maxLen)
    (hlen : ∀ r ∈ es, r.length = sz) (hd : dens S T w ρ es.flatten vs) (hk : ∀ r ∈ es, r.all C.keep = true) (hN : ∀ r ∈ es, ∀ c ∈ r, ∀ n ∈ c.names, ¬ R n) :
    Match K S T (upd ρ p (some (w.heap.size, 0, c))) (fun n => R n ∧ n ≠ p) ⟨st.tm, st.hp.set p (.row e sz es)⟩ a (w.alloc (.cells arr e)) := by
  have hkf : es.flatten.all C.keep = true := by
    rw [List.all_eq_true]
    intro c hc
    obtain ⟨r, hr, hc⟩ := List.mem_flatten.1 hc
    exact List.all_eq_true.1 (hk r hr) c hc
  refine m.alloc hR hp arr e c (.inr ⟨w.heap.size, (0, c), arr, [], vs, rest, upd_self _ _ _, heap_alloc_new w _, harr, rfl, by simpa using hsz, hle, hcm, hlen, ?_⟩) ?_
  · exact dens_new (arr := arr) (t := e) (p := p) (n := c) (fun b hb => m.good.lt b (m.good.le b hb)) (dens_keep hkf hd) (fun d hd hpn => by
      obtain ⟨r, hr, hd⟩ := List.mem_flatten.1 hd
      exact hN r hr d hd p hpn hR)
  · intro n hn
    simp only [Ob.names, List.mem_flatMap] at hn
    obtain ⟨c, hc, hn⟩ := hn
    obtain ⟨r, hr, hc⟩ := List.mem_flatten.1 hc
    exact hN r hr c hc n hn

theorem does_row (m : Match K S T ρ R st a w) (p : Nat) (hR : R p) (hp : p < st.hp.length) (t : TypeId) (n : Nat) (ps : Array (Nat × Operand)) (ty : TypeId) {e sz : Nat} {es : List (List C)} (h : aRow K.P t n (ps.toList.map fun q => (q.1, ev st.tm q.2)) = some (e, sz, es)) :
    Does K S T R st a w p (.buildSlice t n ps) ty { v := .one (.c (.os p sz 0 n)), new := some (.row e sz es) } := by
  unfold aRow at h
  split at h
  · rename_i e' hu
    split at h
    · rename_i z hz
      split at h
      · rename_i hc
        obtain ⟨hzl, hne, hbig, hn, hidx, hall⟩ := hc
        cases h
        obtain ⟨i, zv, hi, hzz, hzc⟩ := zeroC_run hz
        have hzv : z.length = zv.cells.size := by
          have := dens_len (constCs_den (S := S) (T := T) (w := w) (ρ := ρ) hzc)
          simpa using this
        have hsz : i.size = K.P.cellsOf e := by simp [Program.cellsOf, hi]
        have hd0 : dens S T w ρ (List.replicate n z).flatten (madeCells zv.cells (n * K.P.cellsOf e)).toList := by
          rw [← hzl, hzv, made_list]
          exact dens_reps (constCs_den hzc) n
        have hlz : ((List.replicate n z).flatten).length = n * K.P.cellsOf e := by simp [← hzl]
        generalize hxs : (ps.toList.map fun q => ev st.tm q.2) = xs
        have hps : (ps.toList.map fun q => (q.1, ev st.tm q.2)) = (List.range' 0 xs.length).zip xs := by
          have h1 : (ps.toList.map fun q => (q.1, ev st.tm q.2)).map (·.1) = List.range' 0 n := hidx
          have h2 : (ps.toList.map fun q => (q.1, ev st.tm q.2)).map (·.2) = xs := by rw [← hxs]; simp
          have h3 : xs.length = n := by rw [← hxs, hn]; simp
          rw [h3, ← h1, ← h2]
          exact (zip_fs _).symm
        have hxl : ∀ x ∈ xs, x.cells.length = K.P.cellsOf e := by
          intro x hx
          rw [← hxs] at hx
          obtain ⟨q, hq, rfl⟩ := List.mem_map.1 hx
          exact (hall _ (List.mem_map.2 ⟨q, hq, rfl⟩)).1
        have hxn : xs.length = n := by rw [← hxs, hn]; simp
        have hfc := fillC_seq hne xs 0 (List.replicate n z).flatten hxl (by rw [hlz, hxn]; simp)
        rw [← hps] at hfc
        simp only [Nat.zero_mul, List.take_zero, List.nil_append] at hfc
        obtain ⟨arr', h1, h2⟩ := fillC_run (arr := madeCells zv.cells (n * K.P.cellsOf e)) (vs := (ps.map fun q => (q.1, a.eval q.2)).toList) hd0 (by simp) (fun k i x hk => by
          simp only [List.getElem?_map, Option.map_eq_some_iff] at hk
          obtain ⟨q, hq, hqe⟩ := hk
          cases hqe
          refine ⟨a.eval q.2, ?_, m.ev q.2⟩
          simp only [Array.toList_map, List.getElem?_map, hq, Option.map_some]) hfc
        have hes : (ps.toList.map fun q => (q.1, ev st.tm q.2)).map (·.2.cells) = xs.map AV.cells := by rw [← hxs]; simp
        rw [hes]
        have hal : arr'.size = n * K.P.cellsOf e := by
          have h3 : ((xs.map AV.cells).flatten).length = arr'.size := by have := dens_len h2; rw [this]; simp
          rw [← h3]
          have : ∀ (l : List AV), (∀ x ∈ l, x.cells.length = K.P.cellsOf e) → ((l.map AV.cells).flatten).length = l.length * K.P.cellsOf e := by
            intro l
            induction l with
            | nil => intro _; simp
            | cons x l ih =>
              intro hl
              simp only [List.map_cons, List.flatten_cons, List.length_append, List.length_cons, hl x (by simp), ih (fun y hy => hl y (by simp [hy])), Nat.succ_mul]
              omega
          rw [this xs hxl, hxn]
        have hm := new_row (e := e) (sz := K.P.cellsOf e) (c := n) (es := xs.map AV.cells) (arr := arr') (vs := arr'.toList) (rest := []) m hR hp (by simp) hal (by simp [hxn]) (by
            simp only [maxLen]
            have := Nat.le_mul_of_pos_right n (Nat.pos_of_ne_zero hne)
            omega) (fun r hr => by obtain ⟨x, hx, rfl⟩ := List.mem_map.1 hr; exact hxl x hx) h2 (fun r hr => by
            obtain ⟨x, hx, rfl⟩ := List.mem_map.1 hr
            rw [← hxs] at hx
            obtain ⟨q, hq, rfl⟩ := List.mem_map.1 hx
            exact (hall _ (List.mem_map.2 ⟨q, hq, rfl⟩)).2) (fun r hr c hc k hk => by
            obtain ⟨x, hx, rfl⟩ := List.mem_map.1 hr
            rw [← hxs] at hx
            obtain ⟨q, hq, rfl⟩ := List.mem_map.1 hx
            exact m.evN q.2 k (AV.cells_names hc hk))
        refine .new (v := .slice (some ⟨w.heap.size, 0, none⟩) n n) (fun o' ho _ => ?_) hm (.inr ⟨w.heap.size, (0, n), upd_self _ _ _, by simp, .inl ⟨.inr rfl, by simp⟩⟩) (fun k hk => by simp [AV.names, A1.names, C.names] at hk; exact .inl hk)
        have h16 : ¬ (n * K.P.cellsOf e > 2 ^ 24) := by omega
        by_cases hn0 : n * K.P.cellsOf e = 0
        · have hE : ∀ f : Nat → Value, (Array.range (n * K.P.cellsOf e)).map f = madeCells zv.cells (n * K.P.cellsOf e) := by
            intro f; rw [hn0]; unfold madeCells; simp [Array.range_zero']
          simp only [execOp, ho, Instr.buildSlice, Sem.run_bind, run_underlying hu, Result.andThen_ok, run_sizeOf' rfl hne, h16, if_false, Sem.run_pure, if_pos hn0, hE, h1]
          rfl
        · simp only [execOp, ho, Instr.buildSlice, Sem.run_bind, run_underlying hu, Result.andThen_ok, run_sizeOf' rfl hne, h16, if_false, Sem.run_pure, hn0]
          simp only [zeroValue, typeInfo, Sem.run_bind, run_program, Result.andThen_ok, hi, Sem.run_pure, hzz]
          have hq : Instr.fill (fun i => some (i * K.P.cellsOf e, K.P.cellsOf e)) ((Array.range (n * K.P.cellsOf e)).map fun x => zv.cells[x % zv.cells.size]!) (ps.map fun q => (q.1, a.eval q.2)).toList = some arr' := h1
          simp only [hq]
          rfl
      · cases h
    · cases h
  · cases h
def aMake (P : Program) (t : TypeId) (l c : AV) : Option (TypeId × Nat × Nat × List (List C)) :=
  match P.underlying t, l, c with
  | some (.slice e), .one (.c (.i _ n)), .one (.c (.i _ k)) => match zeroC P e with
    | some z => if z.length = P.cellsOf e ∧ P.cellsOf e ≠ 0 ∧ 0 ≤ n ∧ n ≤ k ∧ P.bytesOf e * k ≤ 281474976710656 ∧ k ≤ 9223372036854775807 then some (e, P.cellsOf e, n.toNat, List.replicate n.toNat z) else none
    | none => none
  | _, _, _ => none
theorem does_make (m : Match K S T ρ R st a w) (p : Nat) (hR : R p) (hp : p < st.hp.length) (t : TypeId) (l c : Operand) (ty : TypeId) {e sz n : Nat} {es : List (List C)} (h : aMake K.P t (ev st.tm l) (ev st.tm c) = some (e, sz, n, es)) :
    Does K S T R st a w p (.makeSlice t l c) ty { v := .one (.c (.os p sz 0 n)), new := some (.row e sz es) } := by
  unfold aMake at h
  split at h
  · rename_i e' k1 n' k2 k hu hl hc
    split at h
    · rename_i z hz
      split at h
      · rename_i hcond
        obtain ⟨hzl, hne, h0, h1, hb, h63⟩ := hcond
        cases h
        have hl := m.evC hl
        have hc := m.evC hc
        simp only [C.den] at hl hc
        obtain ⟨i, zv, hi, hzz, hzc⟩ := zeroC_run hz
        have hzd := constCs_den (S := S) (T := T) (w := w) (ρ := ρ) hzc
        have hzv : z.length = zv.cells.size := by
          have := dens_len hzd
          simpa using this
        have hsz : i.size = K.P.cellsOf e := by simp [Program.cellsOf, hi]
        have hby : (i.bytes : Int) = K.P.bytesOf e := by simp [Program.bytesOf, hi]
        have hrun := run_make (P := K.P) w t e i zv hu hi hzz k1 k2 n' k h0 h1 (by rw [hby]; exact hb) h63
        have hd0 : dens S T w ρ ((List.replicate n'.toNat z).flatten ++ (List.replicate (k.toNat - n'.toNat) z).flatten) (madeCells zv.cells (k.toNat * i.size)).toList := by
          rw [hsz, ← hzl, hzv, made_list]
          have : (List.replicate k.toNat zv.cells.toList).flatten = (List.replicate n'.toNat zv.cells.toList).flatten ++ (List.replicate (k.toNat - n'.toNat) zv.cells.toList).flatten := by
            rw [← List.flatten_append, List.replicate_append_replicate, show n'.toNat + (k.toNat - n'.toNat) = k.toNat by omega]
          rw [this]
          exact dens_append (dens_reps hzd _) (dens_reps hzd _)
        have hd1 := dens_take (List.replicate n'.toNat z).flatten.length hd0
        rw [List.take_append_of_le_length (Nat.le_refl _), List.take_length] at hd1
        have hkz : z.all C.keep = true := constCs_keep hzc
        have hm := new_row (e := e) (sz := K.P.cellsOf e) (c := k.toNat) (es := List.replicate n'.toNat z) (arr := madeCells zv.cells (k.toNat * i.size)) m hR hp (List.take_append_drop _ _).symm (by rw [size_madeCells, hsz]) (by simp; omega) (by simp only [maxLen]; omega)
          (fun r hr => by rw [(List.mem_replicate.1 hr).2]; exact hzl) hd1 (fun r hr => by rw [(List.mem_replicate.1 hr).2]; exact hkz) (fun r hr c hc n hn => by
            rw [(List.mem_replicate.1 hr).2] at hc
            have := constCs_names hzc
            have h2 : n ∈ z.flatMap C.names := List.mem_flatMap.2 ⟨c, hc, hn⟩
            rw [this] at h2; simp at h2)
        refine .new (v := .slice (some ⟨w.heap.size, 0, none⟩) n'.toNat k.toNat) (fun o' ho _ => ?_) hm (.inr ⟨w.heap.size, (0, k.toNat), upd_self _ _ _, by simp; omega, .inl ⟨.inr rfl, by simp⟩⟩) (fun k hk => by simp [AV.names, A1.names, C.names] at hk; exact .inl hk)
        simp only [execOp, ho, hl, hc, Sem.run_bind, hrun, Result.andThen_ok, Sem.run_pure]
      · cases h
    · cases h
  · cases h
end
end Go.Aw
