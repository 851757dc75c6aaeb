/- An abstract memory over the model: operands, what is read through an address, loads. -/
import Derived.Test.YtioanpejndfbnaaAwB
import Derived.Laws.CopyRow
import Derived.Laws.Cells
namespace Go.Aw
open Go.RowKit

/-! ### cells in line -/
section
variable {S T : Nat → Prop} {w : World} {ρ : Map}
theorem dens_len : ∀ {cs : List C} {vs : List Value}, dens S T w ρ cs vs → cs.length = vs.length
  | [], [], _ => rfl
  | _ :: _, _ :: _, h => by simp [dens_len h.2]
  | [], _ :: _, h => h.elim
  | _ :: _, [], h => h.elim
theorem dens_get : ∀ {cs : List C} {vs : List Value} {j : Nat} {c : C}, dens S T w ρ cs vs → cs[j]? = some c → ∃ v, vs[j]? = some v ∧ c.den S T w ρ v
  | [], _, _, _, _, h => by simp at h
  | _ :: _, [], _, _, h, _ => h.elim
  | c :: cs, v :: vs, 0, _, h, hj => by simp at hj; subst hj; exact ⟨v, rfl, h.1⟩
  | c :: cs, v :: vs, j + 1, _, h, hj => by
    have := dens_get h.2 (j := j) (by simpa using hj)
    simpa using this
theorem dens_drop : ∀ {cs : List C} {vs : List Value} (n : Nat), dens S T w ρ cs vs → dens S T w ρ (cs.drop n) (vs.drop n)
  | _, _, 0, h => by simpa using h
  | [], [], _ + 1, _ => trivial
  | _ :: _, _ :: _, n + 1, h => by simpa using dens_drop n h.2
  | [], _ :: _, _ + 1, h => h.elim
  | _ :: _, [], _ + 1, h => h.elim
theorem dens_take : ∀ {cs : List C} {vs : List Value} (n : Nat), dens S T w ρ cs vs → dens S T w ρ (cs.take n) (vs.take n)
  | _, _, 0, _ => by simp [dens]
  | [], [], _ + 1, _ => trivial
  | _ :: _, _ :: _, n + 1, h => ⟨h.1, dens_take n h.2⟩
  | [], _ :: _, _ + 1, h => h.elim
  | _ :: _, [], _ + 1, h => h.elim
theorem dens_append : ∀ {cs ds : List C} {vs us : List Value}, dens S T w ρ cs vs → dens S T w ρ ds us → dens S T w ρ (cs ++ ds) (vs ++ us)
  | [], _, [], _, _, h => h
  | _ :: _, _, _ :: _, _, h, h' => ⟨h.1, dens_append h.2 h'⟩
  | [], _, _ :: _, _, h, _ => h.elim
  | _ :: _, _, [], _, h, _ => h.elim
theorem C.one {c : C} {v : Value} (h : c.den S T w ρ v) : v.oneCell' = true := by
  cases c with
  | i k n => simp only [C.den] at h; subst h; rfl
  | b x => simp only [C.den] at h; subst h; rfl
  | s x => simp only [C.den] at h; subst h; rfl
  | sl lv sz es => simp only [C.den, D.rd] at h; obtain ⟨A, c, rfl, _⟩ := h; rfl
  | ra lv cs => obtain ⟨b, o, rfl, _⟩ := h; rfl
  | ns => simp only [C.den] at h; subst h; rfl
  | np => simp only [C.den] at h; subst h; rfl
  | os o sz off len =>
    rcases h with ⟨_, _, _, rfl⟩ | ⟨b, c, _, _, ⟨_, rfl⟩ | ⟨_, _, a, rfl⟩⟩ <;> rfl
  | oe o sz x j => obtain ⟨b, c, _, rfl⟩ := h; rfl
  | op o j => obtain ⟨b, c, _, rfl⟩ := h; rfl
  | fn f caps => obtain ⟨vs, rfl, _⟩ := h; rfl
theorem dens_one : ∀ {cs : List C} {vs : List Value}, dens S T w ρ cs vs → ∀ v ∈ vs, v.oneCell' = true
  | [], [], _, v, hv => by simp at hv
  | c :: cs, u :: us, h, v, hv => by
    rcases List.mem_cons.1 hv with rfl | hv
    · exact C.one h.1
    · exact dens_one h.2 v hv
  | [], _ :: _, h, _, _ => h.elim
  | _ :: _, [], h, _, _ => h.elim
theorem cells_one {v : Value} (h : v.oneCell' = true) : v.cells = #[v] := by cases v <;> first | rfl | simp [Value.oneCell'] at h
end

theorem ext_ST {S T : Nat → Prop} (h : ∀ b, S b → T b) (w : World) : Ext S T w w := fun b hb => ⟨h b hb, rfl⟩
theorem dens_lift {S T : Nat → Prop} {w : World} {ρ : Map} (h : ∀ b, S b → T b) {cs : List C} {vs : List Value} (hd : dens S S w ρ cs vs) : dens S T w ρ cs vs :=
  dens_ext (Ext.refl S w) (ext_ST h w) cs vs (fun _ _ _ _ => rfl) hd

/-- The cells of a value. -/
def A1.cells : A1 → List C
  | .c x => [x]
  | .agg cs => cs
def AV.cells : AV → List C
  | .one a => a.cells
  | _ => []

theorem A1.cells_den {S T : Nat → Prop} {w : World} {ρ : Map} {a : A1} {v : Value} (h : a.den S T w ρ v) : dens S T w ρ a.cells v.cells.toList := by
  cases a with
  | c x => rw [cells_one (C.one h)]; exact ⟨h, trivial⟩
  | agg cs =>
    obtain ⟨vs, rfl, h2⟩ := h
    simpa [Value.cells, A1.cells] using h2

/-! ### operands -/
def constC : Value → Option C
  | .int k n => some (.i k n)
  | .bool x => some (.b x)
  | .string x => some (.s x)
  | .slice none 0 0 => some .ns
  | .pointer none => some .np
  | _ => none
def constCs : List Value → Option (List C)
  | [] => some []
  | v :: r => match constC v, constCs r with
    | some c, some cs => some (c :: cs)
    | _, _ => none
def constAV : Value → AV
  | .agg vs => match constCs vs.toList with
    | some cs => .one (.agg cs)
    | none => .undef
  | v => match constC v with
    | some c => .one (.c c)
    | none => .undef

def ev (tm : List (Nat × AV)) : Operand → AV
  | .tmp t => (look tm t).getD .undef
  | .const v => constAV v
  | .global _ => .undef
  | .func f => .one (.c (.fn f []))

section
variable {S T : Nat → Prop} {w : World} {ρ : Map}
theorem constC_den {v : Value} {c : C} (h : constC v = some c) : c.den S T w ρ v := by
  unfold constC at h
  split at h <;> cases h <;> rfl
theorem constCs_den : ∀ {vs : List Value} {cs : List C}, constCs vs = some cs → dens S T w ρ cs vs
  | [], cs, h => by simp [constCs] at h; subst h; trivial
  | v :: r, cs, h => by
    simp only [constCs] at h
    split at h
    · rename_i c cs' h1 h2
      cases h
      exact ⟨constC_den h1, constCs_den h2⟩
    · cases h
theorem constAV_den (v : Value) : (constAV v).den S T w ρ v := by
  unfold constAV
  split
  · split
    · rename_i vs cs h
      exact ⟨_, rfl, constCs_den h⟩
    · trivial
  · split
    · rename_i c h
      exact constC_den h
    · trivial
theorem constC_names {v : Value} {c : C} (h : constC v = some c) : c.names = [] := by
  unfold constC at h
  split at h <;> cases h <;> rfl
theorem constCs_names : ∀ {vs : List Value} {cs : List C}, constCs vs = some cs → cs.flatMap C.names = []
  | [], cs, h => by simp [constCs] at h; subst h; rfl
  | v :: r, cs, h => by
    simp only [constCs] at h
    split at h
    · rename_i c cs' h1 h2
      cases h
      simp [constC_names h1, constCs_names h2]
    · cases h
theorem constAV_names (v : Value) : (constAV v).names = [] := by
  unfold constAV
  split
  · split
    · rename_i vs cs h
      exact constCs_names h
    · rfl
  · split
    · rename_i c h
      exact constC_names h
    · rfl
end

section
variable {K : Ctx} {S T R : Nat → Prop} {ρ : Map} {st : St} {a : Act} {w : World}
theorem Match.ev (m : Match K S T ρ R st a w) (x : Operand) : (Aw.ev st.tm x).den S T w ρ (a.eval x) := by
  cases x with
  | tmp t =>
    show ((look st.tm t).getD .undef).den S T w ρ (a.tmps.getD t undef)
    cases h : look st.tm t with
    | none => trivial
    | some av => exact m.tm t av h
  | const v => exact constAV_den v
  | global g => trivial
  | func f => exact ⟨[], rfl, rfl, fun k p hp => by simp at hp⟩
theorem Match.evN (m : Match K S T ρ R st a w) (x : Operand) : ∀ n ∈ (Aw.ev st.tm x).names, ¬ R n := by
  cases x with
  | tmp t =>
    show ∀ n ∈ ((look st.tm t).getD .undef).names, ¬ R n
    cases h : look st.tm t with
    | none => intro n hn; simp [AV.names] at hn
    | some av => exact m.tmN t av h
  | const v => intro n hn; rw [show Aw.ev st.tm (.const v) = constAV v from rfl, constAV_names] at hn; simp at hn
  | global g => intro n hn; simp [Aw.ev, AV.names] at hn
  | func f => intro n hn; simp [Aw.ev, AV.names, A1.names, C.names] at hn
theorem Match.evC (m : Match K S T ρ R st a w) {x : Operand} {c : C} (h : Aw.ev st.tm x = .one (.c c)) : c.den S T w ρ (a.eval x) := by
  have := m.ev x
  rw [h] at this
  exact this
end

/-! ### through an address -/
def addrCells (H : Heap) : C → Option (List C)
  | .op o j => match H[o]? with
    | some (.cells cs) => some (cs.drop j)
    | _ => none
  | .oe o sz x j => match H[o]? with
    | some (.row _ sz' es) => if sz' = sz then (es[x]?).map (·.drop j) else none
    | _ => none
  | .ra lv cs => some (cs.map (D.toC lv))
  | _ => none

section
variable {S T : Nat → Prop} {w : World} {ρ : Map}
theorem D.toC_den {lv : Bool} {d : D} {v : Value} (h : D.rd (if lv then S else T) w d v) : (d.toC lv).den S T w ρ v := by
  cases d with
  | int k n => simpa [D.toC, C.den, D.rd] using h
  | bool x => simpa [D.toC, C.den, D.rd] using h
  | str x => simpa [D.toC, C.den, D.rd] using h
  | sl sz es => exact h
theorem D.toC_names (lv : Bool) (d : D) : (d.toC lv).names = [] := by cases d <;> rfl
theorem rdCells_dens {lv : Bool} {b : Nat} : ∀ {cs : List D} {o : Nat}, D.rdCells (if lv then S else T) w b o cs → ∃ vs, dens S T w ρ (cs.map (D.toC lv)) vs ∧ ∀ j u, vs[j]? = some u → w.cell? ⟨b, o + j, none⟩ = some u
  | [], _, _ => ⟨[], trivial, fun j u h => by simp at h⟩
  | d :: ds, o, h => by
    unfold D.rdCells at h
    obtain ⟨⟨v, h1, h2, h3⟩, h4⟩ := h
    obtain ⟨vs, h5, h6⟩ := rdCells_dens h4
    refine ⟨v :: vs, ⟨D.toC_den h3, h5⟩, fun j u hj => ?_⟩
    cases j with
    | zero => simp at hj; subst hj; exact h2
    | succ j =>
      have := h6 j u (by simpa using hj)
      rwa [show o + 1 + j = o + (j + 1) by omega] at this
theorem flatten_at : ∀ {es : List (List C)} {sz x : Nat} {r : List C}, (∀ r ∈ es, r.length = sz) → es[x]? = some r → (es.flatten.drop (x * sz)).take sz = r ∧ x * sz + sz ≤ es.flatten.length
  | [], _, _, _, _, h => by simp at h
  | e :: es, sz, 0, r, hs, h => by
    simp at h; subst h
    have he := hs e (by simp)
    simp only [List.flatten_cons, Nat.zero_mul, List.drop_zero, Nat.zero_add, List.length_append]
    exact ⟨by rw [← he]; simp, by omega⟩
  | e :: es, sz, x + 1, r, hs, h => by
    have he := hs e (by simp)
    have ih := flatten_at (es := es) (sz := sz) (x := x) (r := r) (fun r hr => hs r (by simp [hr])) (by simpa using h)
    simp only [List.flatten_cons, List.length_append]
    have e1 : (x + 1) * sz = e.length + x * sz := by rw [he, Nat.add_mul, Nat.one_mul, Nat.add_comm]
    rw [e1, List.drop_append]
    have e2 : List.drop (e.length + x * sz) e = [] := List.drop_of_length_le (by omega)
    rw [e2, List.nil_append, show e.length + x * sz - e.length = x * sz by omega]
    exact ⟨ih.1, by omega⟩

/-- What is known behind an address: the cells from there on. -/
theorem addr_reads {H : Heap} (g : Good S T ρ w H) {c : C} {v : Value} (hd : c.den S T w ρ v) {cs : List C} (h : addrCells H c = some cs) :
    ∃ b o vs, v = .pointer (some ⟨b, o, none⟩) ∧ dens S T w ρ cs vs ∧ ∀ j u, vs[j]? = some u → w.cell? ⟨b, o + j, none⟩ = some u := by
  cases c with
  | op o j =>
    simp only [addrCells] at h
    split at h
    · rename_i cs0 ho
      cases h
      obtain ⟨b, c, h1, h2⟩ := hd
      obtain ⟨b', c', arr, t, h3, h0, h4, h5⟩ := g.real o _ ho
      rw [h1] at h3; cases h3
      rw [h0, Nat.zero_add] at h2
      refine ⟨b, j, arr.toList.drop j, h2, dens_lift g.le (dens_drop j h5), fun k u hk => ?_⟩
      rw [List.getElem?_drop, Array.getElem?_toList] at hk
      simp [World.cell?, h4, hk]
    · cases h
  | oe o sz x j =>
    simp only [addrCells] at h
    split at h
    · rename_i e sz' es ho
      split at h
      · rename_i hsz
        subst hsz
        obtain ⟨r, hr, rfl⟩ := Option.map_eq_some_iff.1 h
        obtain ⟨b, c, h1, h2⟩ := hd
        rcases g.real o _ ho with ⟨h3, _⟩ | ⟨b', c', arr, pre, vs, rest, h3, h4, h5, h5', h6, h7, h7', h8, h9⟩
        · rw [h1] at h3; cases h3
        · rw [h1] at h3; cases h3
          obtain ⟨f1, f2⟩ := flatten_at h8 hr
          have h10 := dens_lift g.le (dens_drop j (dens_take sz' (dens_drop (x * sz') h9)))
          rw [f1] at h10
          refine ⟨b, c.1 + (x * sz' + j), _, h2, h10, fun k u hk => ?_⟩
          have hl := dens_len h9
          rw [List.getElem?_drop, List.getElem?_take] at hk
          split at hk
          · rw [List.getElem?_drop] at hk
            have : arr[c.1 + (x * sz' + j) + k]? = some u := by
              rw [← Array.getElem?_toList, h5, List.getElem?_append_right (by omega), h5', show c.1 + (x * sz' + j) + k - c.1 = x * sz' + (j + k) by omega, List.getElem?_append_left (by have := (List.getElem?_eq_some_iff.1 hk).1; omega)]
              exact hk
            simp [World.cell?, h4, this]
          · cases hk
      · cases h
    · cases h
  | ra lv cs0 =>
    simp only [addrCells] at h
    cases h
    obtain ⟨b, o, h1, h2⟩ := hd
    obtain ⟨vs, h3, h4⟩ := rdCells_dens (ρ := ρ) h2
    exact ⟨b, o, vs, h1, h3, h4⟩
  | _ => simp [addrCells] at h

theorem add_at (b o j : Nat) : (⟨b, o, none⟩ : Addr).add j = ⟨b, o + j, none⟩ := by unfold Addr.add; split <;> simp_all

/-- Is the type a struct or an array? -/
def isAggD : TypeDesc → Bool
  | .struct _ | .array _ _ => true
  | _ => false

theorem run_loadAt {P : Program} {H : Heap} (g : Good S T ρ w H) {c : C} {v : Value} (hd : c.den S T w ρ v) {cs : List C} (h : addrCells H c = some cs) {t : TypeId} {d : TypeDesc} (hu : P.underlying t = some d) :
    (isAggD d = false → ∀ x, cs[0]? = some x → ∃ u, (Instr.loadAt t v).run P w = .ok u w ∧ x.den S T w ρ u) ∧
    (isAggD d = true → ∀ i, P.info? t = some i → i.size ≤ cs.length → ∃ us : List Value, (Instr.loadAt t v).run P w = .ok (.agg us.toArray) w ∧ dens S T w ρ (cs.take i.size) us) := by
  obtain ⟨b, o, vs, rfl, h1, h2⟩ := addr_reads g hd h
  constructor
  · intro hag x hx
    obtain ⟨u, hu1, hu2⟩ := dens_get h1 hx
    refine ⟨u, ?_, hu2⟩
    have := h2 0 u hu1
    cases d <;> simp_all [Instr.loadAt, Instr.sureAddr, loadVar, isAgg, run_underlying hu, isAggD]
  · intro hag i hi hl
    refine ⟨vs.take i.size, ?_, dens_take i.size h1⟩
    have hlen := dens_len h1
    have hlc := run_loadCells_list (P := P) w ⟨b, o, none⟩ (vs.take i.size) (fun j u hj => by
      rw [add_at]
      rw [List.getElem?_take] at hj
      split at hj
      · exact h2 j u hj
      · cases hj)
    rw [List.length_take, Nat.min_eq_left (by omega)] at hlc
    cases d <;> simp_all [Instr.loadAt, Instr.sureAddr, loadVar, isAgg, run_underlying hu, isAggD, sizeOf, typeInfo]
end
end Go.Aw
