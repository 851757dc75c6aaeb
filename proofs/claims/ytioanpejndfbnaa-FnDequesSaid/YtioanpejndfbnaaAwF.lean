/- An abstract memory over the model: operations that only tell a value. -/
import Derived.Test.YtioanpejndfbnaaAwE
import Derived.Laws.Slices
namespace Go.Aw
open Go.RowKit
set_option linter.unusedSimpArgs false
set_option linter.unusedVariables false

def cellOf : AV → Option C
  | .one (.c c) => some c
  | _ => none

/-! #### values -/
def aLoad (P : Program) (H : Heap) (t : TypeId) (x : AV) : Option AV :=
  match cellOf x with
  | none => none
  | some c => match addrCells H c, P.underlying t with
    | some cs, some d => match isAggD d with
      | true => if P.cellsOf t ≤ cs.length then some (.one (.agg (cs.take (P.cellsOf t)))) else none
      | false => match cs with
        | y :: _ => some (.one (.c y))
        | [] => none
    | _, _ => none
def aBin (P : Program) (op : BinOp) (t : TypeId) (x y : AV) : Option AV :=
  match x, y with
  | .one (.c (.i k a)), .one (.c (.i k' b)) => (binI op k k' a b).map fun c => .one (.c c)
  | .one (.c (.s a)), .one (.c (.s b)) => (binS op a b).map fun c => .one (.c c)
  | .one (.c (.b a)), .one (.c (.b b)) => match P.underlying t, op with
    | some .bool, .eql => some (.one (.c (.b (a == b))))
    | some .bool, .neq => some (.one (.c (.b (a != b))))
    | _, _ => none
  | _, _ => none
def aUn (op : UnOp) (x : AV) : Option AV :=
  match op, x with
  | .not, .one (.c (.b a)) => some (.one (.c (.b (!a))))
  | .neg, .one (.c (.i k a)) => some (.one (.c (.i k (k.wrap (0 - a)))))
  | _, _ => none
def aConv (P : Program) (dst : TypeId) (x : AV) : Option AV :=
  match x, P.underlying dst with
  | .one (.c (.i _ a)), some (.int k) => some (.one (.c (.i k (k.wrap a))))
  | _, _ => none
def aField (P : Program) (t : TypeId) (x : AV) (f : Nat) : Option AV :=
  match P.underlying t with
  | some (.struct fs) => match fs[f]? with
    | some fd => if P.cellsOf fd.type = 0 then none else match x with
      | .one (.c (.op o j)) => some (.one (.c (.op o (j + fd.offset))))
      | .one (.c (.oe o sz x j)) => some (.one (.c (.oe o sz x (j + fd.offset))))
      | .one (.c (.ra lv cs)) => some (.one (.c (.ra lv (cs.drop fd.offset))))
      | _ => none
    | none => none
  | _ => none
def aIndexAddr (P : Program) (t : TypeId) (x i : AV) : Option AV :=
  match P.underlying t, i with
  | some (.slice e), .one (.c (.i _ n)) => match x with
    | .one (.c (.sl lv sz es)) => if P.cellsOf e = sz ∧ sz ≠ 0 ∧ 0 ≤ n ∧ n < es.length then some (.one (.c (.ra lv (es.getD n.toNat [])))) else none
    | .one (.c (.os o sz off len)) => if P.cellsOf e = sz ∧ sz ≠ 0 ∧ 0 ≤ n ∧ n < len then some (.one (.c (.oe o sz (off + n.toNat) 0))) else none
    | _ => none
  | _, _ => none
def aIndex (P : Program) (t : TypeId) (x i : AV) : Option AV :=
  match P.underlying t, x, i with
  | some .string, .one (.c (.s s)), .one (.c (.i _ n)) => if 0 ≤ n ∧ n < s.size then some (.one (.c (.i .u8 (s.data.toList.getD n.toNat 0).toNat))) else none
  | _, _, _ => none
def aLen (P : Program) (t : TypeId) (x : AV) : Option AV :=
  match P.underlying t, x with
  | some (.slice _), .one (.c (.sl _ _ es)) => some (.one (.c (.i .i64 es.length)))
  | some (.slice _), .one (.c (.os _ _ _ len)) => some (.one (.c (.i .i64 len)))
  | some (.slice _), .one (.c .ns) => some (.one (.c (.i .i64 0)))
  | some .string, .one (.c (.s s)) => some (.one (.c (.i .i64 s.size)))
  | _, _ => none
def bound (x : Option AV) (d : Nat) : Option Int :=
  match x with
  | none => some d
  | some (.one (.c (.i _ n))) => some n
  | some _ => none
def aSlice (P : Program) (t : TypeId) (x : AV) (lo hi : Option AV) : Option AV :=
  match P.underlying t, x with
  | some (.slice e), .one (.c (.sl lv sz es)) => match bound lo 0, bound hi es.length with
    | some l, some h => if P.cellsOf e = sz ∧ sz ≠ 0 ∧ 0 ≤ l ∧ l ≤ h ∧ h ≤ es.length then some (.one (.c (.sl lv sz ((es.drop l.toNat).take (h.toNat - l.toNat))))) else none
    | _, _ => none
  | some (.slice e), .one (.c (.os o sz off len)) => match bound lo 0, bound hi len with
    | some l, some h => if P.cellsOf e = sz ∧ sz ≠ 0 ∧ 0 ≤ l ∧ l ≤ h ∧ h ≤ len then some (.one (.c (.os o sz (off + l.toNat) (h.toNat - l.toNat)))) else none
    | _, _ => none
  | some (.slice e), .one (.c .ns) => match bound lo 0, bound hi 0 with
    | some l, some h => if P.cellsOf e ≠ 0 ∧ l = 0 ∧ h = 0 then some (.one (.c .ns)) else none
    | _, _ => none
  | some .string, .one (.c (.s s)) => match bound lo 0, bound hi s.size with
    | some l, some h => if 0 ≤ l ∧ l ≤ h ∧ h ≤ s.size then some (.one (.c (.s (s.extract l.toNat h.toNat)))) else none
    | _, _ => none
  | _, _ => none
def aExtract (x : AV) (k : Nat) : Option AV :=
  match x with
  | .tup as => (as[k]?).map AV.one
  | _ => none
def aNil (x : AV) : Option AV :=
  match x with
  | .one (.c (.op o j)) => some x
  | .one (.c (.oe o sz i j)) => some x
  | .one (.c (.ra lv cs)) => some x
  | _ => none
def aPick (c a b : AV) : Option AV :=
  match c with
  | .one (.c (.b true)) => some a
  | .one (.c (.b false)) => some b
  | _ => none
def captOf : AV → Option (Nat × Nat)
  | .one (.c (.op o j)) => some (o, j)
  | _ => none
def captsOf : List AV → Option (List (Nat × Nat))
  | [] => some []
  | x :: r => match captOf x, captsOf r with
    | some c, some cs => some (c :: cs)
    | _, _ => none
def aFunc (fn : Fn) (first : List AV) (captured : List AV) : Option AV :=
  match fn, first with
  | .func f, [] => (captsOf captured).map fun cs => AV.one (.c (.fn f cs))
  | _, _ => none

theorem rdCells_drop {S : Nat → Prop} {w : World} {b : Nat} : ∀ {cs : List D} {o : Nat}, D.rdCells S w b o cs → ∀ n, D.rdCells S w b (o + n) (cs.drop n)
  | _, _, h, 0 => by simpa using h
  | [], _, _, n + 1 => by simp [D.rdCells]
  | d :: ds, o, h, n + 1 => by
    unfold D.rdCells at h
    have := rdCells_drop h.2 n
    rw [List.drop_succ_cons]
    rwa [show o + 1 + n = o + (n + 1) by omega] at this
theorem rdRows_get {S : Nat → Prop} {w : World} {sz b : Nat} : ∀ {es : List (List D)} {o : Nat}, D.rdRows S w sz b o es → ∀ {i : Nat}, i < es.length → D.rdCells S w b (o + i * sz) (es.getD i [])
  | [], _, _, _, hi => by simp at hi
  | e :: es, o, h, 0, _ => by
    unfold D.rdRows at h
    simpa using h.1
  | e :: es, o, h, i + 1, hi => by
    unfold D.rdRows at h
    have := rdRows_get h.2.2 (i := i) (by simpa using hi)
    rw [show o + (i + 1) * sz = o + sz + i * sz by rw [Nat.add_mul]; omega]
    simpa using this
theorem rdRows_drop {S : Nat → Prop} {w : World} {sz b : Nat} : ∀ {es : List (List D)} {o : Nat}, D.rdRows S w sz b o es → ∀ n, D.rdRows S w sz b (o + n * sz) (es.drop n)
  | _, _, h, 0 => by simpa using h
  | [], _, _, n + 1 => by simp [D.rdRows]
  | e :: es, o, h, n + 1 => by
    unfold D.rdRows at h
    have := rdRows_drop h.2.2 n
    rw [List.drop_succ_cons, show o + (n + 1) * sz = o + sz + n * sz by rw [Nat.add_mul]; omega]
    exact this
theorem rdRows_take {S : Nat → Prop} {w : World} {sz b : Nat} : ∀ {es : List (List D)} {o : Nat}, D.rdRows S w sz b o es → ∀ n, D.rdRows S w sz b o (es.take n)
  | _, _, _, 0 => by simp [D.rdRows]
  | [], _, _, n + 1 => by simp [D.rdRows]
  | e :: es, o, h, n + 1 => by
    unfold D.rdRows at h
    rw [List.take_succ_cons]
    unfold D.rdRows
    exact ⟨h.1, h.2.1, rdRows_take h.2.2 n⟩
theorem run_sizeOf' {P : Program} {e sz : Nat} (h : P.cellsOf e = sz) (hz : sz ≠ 0) (w : World) : (sizeOf e).run P w = .ok sz w := by
  unfold Program.cellsOf at h
  cases hi : P.info? e with
  | none => rw [hi] at h; simp at h; omega
  | some i => rw [hi] at h; simp at h; simp [sizeOf, typeInfo, hi, h]
theorem run_equal_bool {P : Program} {t : TypeId} (hu : P.underlying t = some .bool) (u v : Bool) (w : World) : (Op.equal t (.bool u) (.bool v)).run P w = .ok (u == v) w := by
  show (Op.equalIn (9999 + 1) t (.bool u) (.bool v)).run P w = _
  unfold Op.equalIn
  simp [run_underlying hu]

section
variable {K : Ctx} {S T R : Nat → Prop} {ρ : Map} {st : St} {a : Act} {w : World}
theorem cellOf_one {x : AV} {c : C} (h : cellOf x = some c) : x = .one (.c c) := by
  unfold cellOf at h
  split at h
  · cases h; rfl
  · cases h

theorem addrCells_names (m : Match K S T ρ R st a w) {c : C} {cs : List C} (h : addrCells st.hp c = some cs) : ∀ d ∈ cs, ∀ n ∈ d.names, ¬ R n := by
  intro d hd n hn
  cases c with
  | op o j =>
    simp only [addrCells] at h
    split at h
    · rename_i cs0 ho
      cases h
      exact m.obN o _ ho n (by simp only [Ob.names, List.mem_flatMap]; exact ⟨d, List.mem_of_mem_drop hd, hn⟩)
    · cases h
  | oe o sz x j =>
    simp only [addrCells] at h
    split at h
    · rename_i e sz' es ho
      split at h
      · obtain ⟨r, hr, rfl⟩ := Option.map_eq_some_iff.1 h
        exact m.obN o _ ho n (by simp only [Ob.names, List.mem_flatMap, List.mem_flatten]; exact ⟨d, ⟨r, List.mem_of_getElem? hr, List.mem_of_mem_drop hd⟩, hn⟩)
      · cases h
    · cases h
  | ra lv cs0 =>
    simp only [addrCells] at h
    cases h
    obtain ⟨x, _, rfl⟩ := List.mem_map.1 hd
    rw [D.toC_names] at hn
    cases hn
  | _ => simp [addrCells] at h

theorem does_move (m : Match K S T ρ R st a w) (p : Nat) (x : Operand) (ty : TypeId) : Does K S T R st a w p (.move x) ty { v := ev st.tm x } :=
  .val m (fun o' h _ => by simp [execOp, h]) (m.ev x) (m.evN x)
theorem does_assign (m : Match K S T ρ R st a w) (p : Nat) (x : Operand) (ty : TypeId) : Does K S T R st a w p (.assign x) ty { v := ev st.tm x } :=
  .val m (fun o' h _ => by simp [execOp, h]) (m.ev x) (m.evN x)
theorem does_pick (m : Match K S T ρ R st a w) (p : Nat) (c x y : Operand) (ty : TypeId) {av : AV} (h : aPick (ev st.tm c) (ev st.tm x) (ev st.tm y) = some av) : Does K S T R st a w p (.pick c x y) ty { v := av } := by
  unfold aPick at h
  split at h
  · rename_i hc; cases h
    have := m.evC hc
    simp only [C.den] at this
    exact .val m (fun o' h _ => by simp [execOp, h, this, asBool]) (m.ev x) (m.evN x)
  · rename_i hc; cases h
    have := m.evC hc
    simp only [C.den] at this
    exact .val m (fun o' h _ => by simp [execOp, h, this, asBool]) (m.ev y) (m.evN y)
  · cases h
theorem does_load (m : Match K S T ρ R st a w) (p : Nat) (t : TypeId) (x : Operand) (ty : TypeId) {av : AV} (h : aLoad K.P st.hp t (ev st.tm x) = some av) : Does K S T R st a w p (.load t x) ty { v := av } := by
  unfold aLoad at h
  split at h
  · cases h
  · rename_i c hc
    have hx := m.evC (cellOf_one hc)
    split at h
    · rename_i cs d hcs hu
      have hN := addrCells_names m hcs
      have hl := run_loadAt m.good hx hcs hu
      split at h
      · rename_i hag
        split at h
        · rename_i hle
          cases h
          obtain ⟨i, hi, hs, _⟩ := info_of_under hu
          obtain ⟨us, h1, h2⟩ := hl.2 hag i hi (by omega)
          rw [← hs] at h2
          refine .val m (fun o' h _ => by simp [execOp, h, h1]) ⟨us, rfl, h2⟩ ?_
          intro n hn
          simp only [AV.names, A1.names, List.mem_flatMap] at hn
          obtain ⟨d', hd', hn⟩ := hn
          exact hN d' (List.mem_of_mem_take hd') n hn
        · cases h
      · rename_i hag
        split at h
        · rename_i y ys
          cases h
          obtain ⟨u, h1, h2⟩ := hl.1 hag y rfl
          exact .val m (fun o' h _ => by simp [execOp, h, h1]) h2 (fun n hn => hN y (by simp) n hn)
        · cases h
    · cases h
theorem does_bin (m : Match K S T ρ R st a w) (p : Nat) (op : BinOp) (t : TypeId) (x y : Operand) (yt : TypeId) (ty : TypeId) {av : AV} (h : aBin K.P op t (ev st.tm x) (ev st.tm y) = some av) : Does K S T R st a w p (.binOp op t x y yt) ty { v := av } := by
  unfold aBin at h
  split at h
  · rename_i k u k' v hx hy
    have hx := m.evC hx
    have hy := m.evC hy
    simp only [C.den] at hx hy
    obtain ⟨c, hc, rfl⟩ := Option.map_eq_some_iff.1 h
    obtain ⟨r, h1, h2⟩ := run_binI (P := K.P) (w := w) hc t x y
    have hn : c.names = [] := by
      have := hc
      unfold binI at this
      cases op <;> simp only [] at this <;> (repeat' split at this) <;> first | (cases this; done) | (cases this; rfl)
    refine .val m (fun o' h _ => ?_) (h2 S T ρ) (fun n hm => by simp [AV.names, A1.names, hn] at hm)
    simp only [execOp, h, hx, hy]
    rw [Sem.run_bind, h1]; rfl
  · rename_i u v hx hy
    have hx := m.evC hx
    have hy := m.evC hy
    simp only [C.den] at hx hy
    obtain ⟨c, hc, rfl⟩ := Option.map_eq_some_iff.1 h
    obtain ⟨r, h1, h2⟩ := run_binS (P := K.P) (w := w) hc t x y
    have hn : c.names = [] := by
      have := hc
      unfold binS at this
      cases op <;> simp only [] at this <;> (repeat' split at this) <;> first | (cases this; done) | (cases this; rfl)
    refine .val m (fun o' h _ => ?_) (h2 S T ρ) (fun n hm => by simp [AV.names, A1.names, hn] at hm)
    simp only [execOp, h, hx, hy]
    rw [Sem.run_bind, h1]; rfl
  · rename_i u v hx hy
    have hx := m.evC hx
    have hy := m.evC hy
    simp only [C.den] at hx hy
    split at h
    · rename_i hu
      cases h
      refine .val (v := .bool (u == v)) m (fun o' h _ => ?_) (by simp [AV.den, A1.den, C.den]) (fun n hm => by simp [AV.names, A1.names, C.names] at hm)
      simp [execOp, h, hx, hy, eqGuard, binOp, run_equal_bool hu]
    · rename_i hu
      cases h
      refine .val (v := .bool (u != v)) m (fun o' h _ => ?_) (by simp [AV.den, A1.den, C.den]) (fun n hm => by simp [AV.names, A1.names, C.names] at hm)
      simp [execOp, h, hx, hy, eqGuard, binOp, run_equal_bool hu]
      cases u <;> cases v <;> rfl
    · cases h
  · cases h
theorem does_un (m : Match K S T ρ R st a w) (p : Nat) (op : UnOp) (t : TypeId) (x : Operand) (ty : TypeId) {av : AV} (h : aUn op (ev st.tm x) = some av) : Does K S T R st a w p (.unOp op t x) ty { v := av } := by
  unfold aUn at h
  split at h
  · rename_i u hx
    cases h
    have hx := m.evC hx
    simp only [C.den] at hx
    exact .val (v := .bool (!u)) m (fun o' h _ => by simp [execOp, h, hx, Op.unary]) (by simp [AV.den, A1.den, C.den]) (fun n hm => by simp [AV.names, A1.names, C.names] at hm)
  · rename_i k u hx
    cases h
    have hx := m.evC hx
    simp only [C.den] at hx
    exact .val (v := .int k (k.wrap (0 - u))) m (fun o' h _ => by simp [execOp, h, hx, Op.unary, Op.intArith]) (by simp [AV.den, A1.den, C.den]) (fun n hm => by simp [AV.names, A1.names, C.names] at hm)
  · cases h
theorem does_nil (m : Match K S T ρ R st a w) (p : Nat) (x : Operand) (ty : TypeId) {av : AV} (h : aNil (ev st.tm x) = some av) : Does K S T R st a w p (.nilCheck x) ty { v := av } := by
  have key : ∀ c b o, ev st.tm x = .one (.c c) → a.eval x = .pointer (some ⟨b, o, none⟩) → av = ev st.tm x → Does K S T R st a w p (.nilCheck x) ty { v := av } := by
    intro c b o h1 h2 h3
    rw [h3]
    exact .val (v := a.eval x) m (fun o' h _ => by simp [execOp, h, h2]) (m.ev x) (m.evN x)
  unfold aNil at h
  split at h
  · rename_i o j hx
    cases h
    obtain ⟨b, c, _, h2⟩ := m.evC hx
    exact key _ _ _ hx h2 rfl
  · rename_i o sz i j hx
    cases h
    obtain ⟨b, c, _, h2⟩ := m.evC hx
    exact key _ _ _ hx h2 rfl
  · rename_i lv cs hx
    cases h
    obtain ⟨b, c, h2, _⟩ := m.evC hx
    exact key _ _ _ hx h2 rfl
  · cases h
theorem does_conv (m : Match K S T ρ R st a w) (p : Nat) (src dst : TypeId) (x : Operand) (ty : TypeId) {sd : TypeDesc} (hs : K.P.underlying src = some sd) {av : AV} (h : aConv K.P dst (ev st.tm x) = some av) : Does K S T R st a w p (.convert src dst x) ty { v := av } := by
  unfold aConv at h
  split at h
  · rename_i k0 u k hx hu
    cases h
    have hx := m.evC hx
    simp only [C.den] at hx
    refine .val (v := .int k (k.wrap u)) m (fun o' h _ => ?_) (by simp [AV.den, A1.den, C.den]) (fun n hm => by simp [AV.names, A1.names, C.names] at hm)
    simp [execOp, h, hx, convert, run_underlying hs, run_underlying hu, Conv.intToInt]
  · cases h
theorem does_field (m : Match K S T ρ R st a w) (p : Nat) (t : TypeId) (x : Operand) (f : Nat) (ty : TypeId) {av : AV} (h : aField K.P t (ev st.tm x) f = some av) : Does K S T R st a w p (.fieldAddr t x f) ty { v := av } := by
  unfold aField at h
  split at h
  · rename_i fs hu
    split at h
    · rename_i fd hf
      split at h
      · cases h
      · rename_i hz
        have hi : ∃ i, K.P.info? fd.type = some i ∧ i.size ≠ 0 := by
          unfold Program.cellsOf at hz
          cases hi : K.P.info? fd.type with
          | none => rw [hi] at hz; simp at hz
          | some i => rw [hi] at hz; exact ⟨i, rfl, by simpa using hz⟩
        obtain ⟨i, hi, hz⟩ := hi
        have run : ∀ b o, (Instr.fieldAt t (.pointer (some ⟨b, o, none⟩)) f).run K.P w = .ok (.pointer (some ⟨b, o + fd.offset, none⟩)) w := by
          intro b o
          simp [Instr.fieldAt, run_underlying hu, hf, Instr.sureAddr, fieldPlace, sizeOf, typeInfo, hi, hz, add_at]
        split at h
        · rename_i o j hx
          cases h
          have hN := m.evN x
          have he := hx
          obtain ⟨b, c, h1, h2⟩ := m.evC hx
          refine .val (v := .pointer (some ⟨b, c.1 + j + fd.offset, none⟩)) m (fun o' h _ => by simp [execOp, h, h2, run]) ⟨b, c, h1, by rw [Nat.add_assoc]⟩ ?_
          rw [he] at hN; exact hN
        · rename_i o sz i' j hx
          cases h
          have hN := m.evN x
          have he := hx
          obtain ⟨b, c, h1, h2⟩ := m.evC hx
          refine .val (v := .pointer (some ⟨b, c.1 + (i' * sz + j) + fd.offset, none⟩)) m (fun o' h _ => by simp [execOp, h, h2, run]) ⟨b, c, h1, by rw [Nat.add_assoc, Nat.add_assoc]⟩ ?_
          rw [he] at hN; exact hN
        · rename_i lv cs hx
          cases h
          obtain ⟨b, o, h1, h2⟩ := m.evC hx
          refine .val (v := .pointer (some ⟨b, o + fd.offset, none⟩)) m (fun o' h _ => by simp [execOp, h, h1, run]) ⟨b, o + fd.offset, rfl, ?_⟩ (fun n hm => by simp [AV.names, A1.names, C.names] at hm)
          exact rdCells_drop h2 fd.offset
        · cases h
    · cases h
  · cases h
theorem does_indexAddr (m : Match K S T ρ R st a w) (p : Nat) (t : TypeId) (x i : Operand) (ty : TypeId) {av : AV} (h : aIndexAddr K.P t (ev st.tm x) (ev st.tm i) = some av) : Does K S T R st a w p (.indexAddr t x i) ty { v := av } := by
  unfold aIndexAddr at h
  split at h
  · rename_i e k n hu hi
    have hi := m.evC hi
    simp only [C.den] at hi
    split at h
    · rename_i lv sz es hx
      split at h
      · rename_i hc
        obtain ⟨hsz, hz, h0, h1⟩ := hc
        cases h
        have hx := m.evC hx
        simp only [C.den, D.rd] at hx
        obtain ⟨A, c, h2, h3, h4⟩ := hx
        rcases h4 with h4 | ⟨b, o, h4, h5⟩
        · subst h4; simp at h1; omega
        · subst h4
          have hlt : n.toNat < es.length := by omega
          have := rdRows_get h5 hlt
          refine .val (v := .pointer (some ⟨b, o + n.toNat * sz, none⟩)) m (fun o' h _ => ?_) ⟨b, o + n.toNat * sz, rfl, this⟩ (fun n hm => by simp [AV.names, A1.names, C.names] at hm)
          simp [execOp, h, h2, hi, Instr.indexAt, asIntOf, run_underlying hu, h0, h1, run_sizeOf' hsz hz, add_at]
      · cases h
    · rename_i o sz off len hx
      split at h
      · rename_i hc
        obtain ⟨hsz, hz, h0, h1⟩ := hc
        cases h
        have hN := m.evN x
        rw [hx] at hN
        have hx := m.evC hx
        simp only [C.den] at hx
        rcases hx with ⟨_, _, h2, _⟩ | ⟨b, c, h2, h3, ⟨_, h4⟩ | ⟨_, h4, _⟩⟩
        · omega
        · refine .val (v := .pointer (some ⟨b, c.1 + off * sz + n.toNat * sz, none⟩)) m (fun o' h _ => ?_) ⟨b, c, h2, by rw [Nat.add_assoc, ← Nat.add_mul]; rfl⟩ hN
          simp [execOp, h, h4, hi, Instr.indexAt, asIntOf, run_underlying hu, h0, h1, run_sizeOf' hsz hz, add_at]
        · omega
      · cases h
    · cases h
  · cases h
theorem does_index (m : Match K S T ρ R st a w) (p : Nat) (t : TypeId) (x i : Operand) (ty : TypeId) {av : AV} (h : aIndex K.P t (ev st.tm x) (ev st.tm i) = some av) : Does K S T R st a w p (.index t x i) ty { v := av } := by
  unfold aIndex at h
  split at h
  · rename_i s k n hu hx hi
    have hi := m.evC hi
    have hx := m.evC hx
    simp only [C.den] at hi hx
    split at h
    · rename_i hc
      obtain ⟨h0, h1⟩ := hc
      cases h
      have hs : s.size = s.data.size := rfl
      have hlt : n.toNat < s.data.size := by omega
      refine .val (v := .int .u8 (s.data.toList.getD n.toNat 0).toNat) m (fun o' h _ => ?_) (by simp [AV.den, A1.den, C.den]) (fun n hm => by simp [AV.names, A1.names, C.names] at hm)
      have hb : s[n.toNat]? = some (s.data.toList.getD n.toNat 0) := by
        rw [getElem?_pos s n.toNat (by omega)]
        simp [List.getD_eq_getElem?_getD, List.getElem?_eq_getElem, hlt]
        rw [Array.getElem?_eq_getElem hlt]
        rfl
      simp [execOp, h, hx, hi, Instr.index, asIntOf, run_underlying hu, h0, hb]
    · cases h
  · cases h
theorem does_extract (m : Match K S T ρ R st a w) (p : Nat) (x : Operand) (k : Nat) (ty : TypeId) {av : AV} (h : aExtract (ev st.tm x) k = some av) : Does K S T R st a w p (.extract x k) ty { v := av } := by
  unfold aExtract at h
  split at h
  · rename_i as hx
    obtain ⟨y, hy, rfl⟩ := Option.map_eq_some_iff.1 h
    have hN := m.evN x
    have hd := m.ev x
    rw [hx] at hN hd
    obtain ⟨vs, h1, h2⟩ := hd
    have key : ∀ {as : List A1} {vs : List Value} {k : Nat} {y : A1}, dens1 S T w ρ as vs → as[k]? = some y → ∃ v, vs[k]? = some v ∧ y.den S T w ρ v := by
      intro as
      induction as with
      | nil => intro vs k y _ h; simp at h
      | cons c cs ih =>
        intro vs k y h hk
        cases vs with
        | nil => exact h.elim
        | cons v vs =>
          cases k with
          | zero => simp at hk; subst hk; exact ⟨v, rfl, h.1⟩
          | succ k => simpa using ih h.2 (k := k) (by simpa using hk)
    obtain ⟨v, h3, h4⟩ := key h2 hy
    refine .val (v := v) m (fun o' h _ => ?_) h4 (fun n hm => hN n (by simp only [AV.names, List.mem_flatMap]; exact ⟨y, List.mem_of_getElem? hy, hm⟩))
    simp [execOp, h, h1, Instr.extract, h3]
  · cases h
theorem bound_run {lo : Option Operand} {d : Nat} {l : Int} (m : Match K S T ρ R st a w) (h : bound (lo.map (ev st.tm)) d = some l) :
    (lo = none ∧ l = d) ∨ ∃ x k, lo = some x ∧ a.eval x = .int k l := by
  cases lo with
  | none => simp [bound] at h; exact .inl ⟨rfl, h.symm⟩
  | some x =>
    simp only [Option.map_some] at h
    unfold bound at h
    split at h
    · rename_i hx; cases hx
    · rename_i k n hx
      cases h
      have hx : ev st.tm x = _ := Option.some.inj hx
      have := m.evC hx
      exact .inr ⟨x, _, rfl, this⟩
    · cases h
theorem run_sliceBounds {P : Program} (len cap : Nat) (lo hi : Option Value) (l h : Int) (hl : (lo = none ∧ l = 0) ∨ ∃ k, lo = some (.int k l)) (hh : (hi = none ∧ h = len) ∨ ∃ k, hi = some (.int k h))
    (h0 : 0 ≤ l) (h1 : l ≤ h) (h2 : h ≤ cap) (h3 : h ≤ len) (isS : Bool) : (Instr.sliceBounds isS len cap lo hi none).run P w = .ok (l.toNat, h.toNat, cap) w := by
  have e1 : ∀ (y : Nat) k q code, 0 ≤ q → q ≤ (y : Int) → (Instr.sliceBound (.int k q) y code).run P w = .ok q.toNat w := by
    intro y k q code h0 h1
    simp [Instr.sliceBound, asIntOf, h0, h1]
  rcases hl with ⟨rfl, rfl⟩ | ⟨k, rfl⟩ <;> rcases hh with ⟨rfl, rfl⟩ | ⟨k', rfl⟩
  · simp [Instr.sliceBounds]
  · simp [Instr.sliceBounds, e1 _ _ _ _ h1 h2]
  · simp [Instr.sliceBounds, e1 _ _ _ _ h0 h1]
  · have h4 : l ≤ (h.toNat : Int) := by omega
    simp [Instr.sliceBounds, e1 _ _ _ _ (Int.le_trans h0 h1) h2, e1 _ _ _ _ h0 h4]
theorem opt_run {lo : Option Operand} {d : Nat} {l : Int} (h : (lo = none ∧ l = d) ∨ ∃ x k, lo = some x ∧ a.eval x = .int k l) : (lo.map a.eval = none ∧ l = d) ∨ ∃ k, lo.map a.eval = some (.int k l) := by
  rcases h with ⟨rfl, h⟩ | ⟨x, k, rfl, h⟩
  · exact .inl ⟨rfl, h⟩
  · exact .inr ⟨k, by simp [h]⟩
theorem does_slice (m : Match K S T ρ R st a w) (p : Nat) (t : TypeId) (x : Operand) (lo hi : Option Operand) (ty : TypeId) {av : AV} (h : aSlice K.P t (ev st.tm x) (lo.map (ev st.tm)) (hi.map (ev st.tm)) = some av) : Does K S T R st a w p (.slice t x lo hi none) ty { v := av } := by
  unfold aSlice at h
  split at h
  · rename_i e lv sz es hu hx
    split at h
    · rename_i l hh hl hhh
      split at h
      · rename_i hc
        obtain ⟨hsz, hz, h0, h1, h2⟩ := hc
        cases h
        have hx := m.evC hx
        simp only [C.den, D.rd] at hx
        obtain ⟨A, c, h3, h4, h5⟩ := hx
        have hb := run_sliceBounds (P := K.P) (w := w) es.length c _ _ l hh (opt_run (d := 0) (bound_run m hl)) (opt_run (bound_run m hhh)) h0 h1 (by omega) h2 true
        have hlen : ((es.drop l.toNat).take (hh.toNat - l.toNat)).length = hh.toNat - l.toNat := by simp; omega
        refine .val (v := .slice (if c = l.toNat then A else A.map (·.add (l.toNat * sz))) (hh.toNat - l.toNat) (c - l.toNat)) m (fun o' h _ => ?_) ?_ (fun n hm => by simp [AV.names, A1.names, C.names] at hm)
        · simp [execOp, h, h3, Instr.sliceAt, Instr.slice, run_underlying hu, hb, run_sizeOf' hsz hz]
        · simp only [AV.den, A1.den, C.den, D.rd]
          refine ⟨_, _, by rw [hlen], by rw [hlen]; omega, ?_⟩
          rcases h5 with h5 | ⟨b, o, h5, h6⟩
          · subst h5; left; simp
          · subst h5
            by_cases hlt : l.toNat < hh.toNat
            · right
              refine ⟨b, o + l.toNat * sz, ?_, rdRows_take (rdRows_drop h6 _) _⟩
              rw [if_neg (by omega)]
              simp [add_at]
            · left
              exact List.eq_nil_of_length_eq_zero (by rw [hlen]; omega)
      · cases h
    · cases h
  · rename_i e o sz off len hu hx
    split at h
    · rename_i l hh hl hhh
      split at h
      · rename_i hc
        obtain ⟨hsz, hz, h0, h1, h2⟩ := hc
        cases h
        have hN := m.evN x
        rw [hx] at hN
        have hx := m.evC hx
        simp only [C.den] at hx
        rcases hx with ⟨h3, h4, h5, h6⟩ | ⟨b, c, h3, h4, h5⟩
        · subst h5
          have hl0 : l = 0 := by omega
          have hh0 : hh = 0 := by omega
          subst hl0; subst hh0
          have hb := run_sliceBounds (P := K.P) (w := w) 0 0 _ _ 0 0 (opt_run (d := 0) (bound_run m hl)) (opt_run (bound_run m hhh)) (by omega) (by omega) (by omega) (by omega) true
          refine .val (v := .slice none 0 0) m (fun o' h _ => ?_) (.inl ⟨h3, by omega, rfl, rfl⟩) hN
          simp [execOp, h, h6, Instr.sliceAt, Instr.slice, run_underlying hu, hb, run_sizeOf' hsz hz]
        · rcases h5 with ⟨h5, h6⟩ | ⟨h5, h6, a0, h7⟩
          · have hb := run_sliceBounds (P := K.P) (w := w) len (c.2 - off) _ _ l hh (opt_run (d := 0) (bound_run m hl)) (opt_run (bound_run m hhh)) h0 h1 (by omega) h2 true
            refine .val (v := .slice (if c.2 - off = l.toNat then some ⟨b, c.1 + off * sz, none⟩ else some ⟨b, c.1 + off * sz + l.toNat * sz, none⟩) (hh.toNat - l.toNat) (c.2 - off - l.toNat)) m (fun o' h _ => ?_) ?_ hN
            · simp [execOp, h, h6, Instr.sliceAt, Instr.slice, run_underlying hu, hb, run_sizeOf' hsz hz, add_at]
            · refine .inr ⟨b, c, h3, by omega, ?_⟩
              by_cases e : c.2 - off = l.toNat
              · by_cases e2 : l.toNat = 0
                · left
                  refine ⟨.inr ?_, ?_⟩
                  · omega
                  · rw [if_pos e, e2]; simp
                · right
                  refine ⟨by omega, by omega, _, by rw [if_pos e, show hh.toNat - l.toNat = 0 by omega, show c.2 - off - l.toNat = 0 by omega]⟩
              · left
                refine ⟨by omega, ?_⟩
                rw [if_neg e, Nat.add_assoc, ← Nat.add_mul, Nat.sub_sub]
          · subst h6
            have hl0 : l = 0 := by omega
            have hh0 : hh = 0 := by omega
            subst hl0; subst hh0
            have hb := run_sliceBounds (P := K.P) (w := w) 0 0 _ _ 0 0 (opt_run (d := 0) (bound_run m hl)) (opt_run (bound_run m hhh)) (by omega) (by omega) (by omega) (by omega) true
            refine .val (v := .slice (some a0) 0 0) m (fun o' h _ => ?_) (.inr ⟨b, c, h3, by simpa using h4, .inr ⟨by simpa using h5, rfl, a0, rfl⟩⟩) hN
            simp [execOp, h, h7, Instr.sliceAt, Instr.slice, run_underlying hu, hb, run_sizeOf' hsz hz]
      · cases h
    · cases h
  · rename_i e hu hx
    split at h
    · rename_i l hh hl hhh
      split at h
      · rename_i hc
        obtain ⟨hz, h0, h1⟩ := hc
        cases h
        subst h0; subst h1
        have hx := m.evC hx
        simp only [C.den] at hx
        have hb := run_sliceBounds (P := K.P) (w := w) 0 0 _ _ 0 0 (opt_run (d := 0) (bound_run m hl)) (opt_run (d := 0) (bound_run m hhh)) (by omega) (by omega) (by omega) (by omega) true
        refine .val (v := .slice none 0 0) m (fun o' h _ => ?_) (by simp [AV.den, A1.den, C.den]) (fun n hm => by simp [AV.names, A1.names, C.names] at hm)
        simp [execOp, h, hx, Instr.sliceAt, Instr.slice, run_underlying hu, hb, run_sizeOf' rfl hz]
      · cases h
    · cases h
  · rename_i s hu hx
    split at h
    · rename_i l hh hl hhh
      split at h
      · rename_i hc
        obtain ⟨h0, h1, h2⟩ := hc
        cases h
        have hx := m.evC hx
        simp only [C.den] at hx
        have hb := run_sliceBounds (P := K.P) (w := w) s.size s.size _ _ l hh (opt_run (d := 0) (bound_run m hl)) (opt_run (bound_run m hhh)) h0 h1 h2 h2 false
        refine .val (v := .string (s.extract l.toNat hh.toNat)) m (fun o' h _ => ?_) (by simp [AV.den, A1.den, C.den]) (fun n hm => by simp [AV.names, A1.names, C.names] at hm)
        simp [execOp, h, hx, Instr.sliceAt, Instr.slice, run_underlying hu, hb]
      · cases h
    · cases h
  · cases h
end
end Go.Aw
