/- An abstract memory over the model: a region's operations, one by one. -/
import Derived.Test.YtioanpejndfbnaaAwM
namespace Go.Aw
open Go.RowKit
set_option linter.unusedSimpArgs false
set_option linter.unusedVariables false

/-! ### in a greater heap -/
/-- What is alive and of V in H is so in H2. -/
def Greater (V : Nat → Prop) (H H2 : Heap) : Prop := ∀ o, V o → ∀ ob, H[o]? = some ob → ob.alive → H2[o]? = some ob
section
variable {V : Nat → Prop} {H H2 : Heap} {P : Program}
theorem addrCells_mono (g : Greater V H H2) {c : C} (hv : ∀ n ∈ c.names, V n) {cs : List C} (h : addrCells H c = some cs) : addrCells H2 c = some cs := by
  cases c with
  | op o j =>
    simp only [addrCells] at h ⊢
    split at h
    · rename_i cs0 ho
      rw [g o (hv o (by simp [C.names])) _ ho trivial]; exact h
    · cases h
  | oe o sz x j =>
    simp only [addrCells] at h ⊢
    split at h
    · rename_i e sz' es ho
      rw [g o (hv o (by simp [C.names])) _ ho trivial]; exact h
    · cases h
  | ra lv cs0 => exact h
  | _ => simp [addrCells] at h
theorem aLoad_mono (g : Greater V H H2) {t : TypeId} {x : AV} (hv : ∀ n ∈ x.names, V n) {av : AV} (h : aLoad P H t x = some av) : aLoad P H2 t x = some av := by
  unfold aLoad at h ⊢
  cases hc : cellOf x with
  | none => rw [hc] at h; cases h
  | some c =>
    rw [hc] at h
    simp only at h ⊢
    cases hcs : addrCells H c with
    | none => rw [hcs] at h; cases h
    | some cs =>
      rw [hcs] at h
      rw [addrCells_mono g (fun n hn => hv n (by rw [cellOf_one hc]; exact hn)) hcs]
      exact h
theorem aStore_mono (g : Greater V H H2) {t : TypeId} {x y : AV} (hv : ∀ n ∈ x.names, V n) {av : Nat × Ob} (h : aStore P H t x y = some av) : aStore P H2 t x y = some av := by
  unfold aStore at h ⊢
  split at h
  · rename_i hc
    rw [if_pos hc]
    split at h
    · rename_i o j
      split at h
      · rename_i cs0 ho
        simp only [g o (hv o (by simp [AV.names, A1.names, C.names])) _ ho trivial]; exact h
      · cases h
    · rename_i o sz i j
      split at h
      · rename_i e sz' es ho
        simp only [g o (hv o (by simp [AV.names, A1.names, C.names])) _ ho trivial]; exact h
      · cases h
    · cases h
  · cases h
theorem contC_mono (g : Greater V H H2) {sz : Nat} {x : AV} (hv : ∀ n ∈ x.names, V n) {es : List (List C)} (h : contC H sz x = some es) : contC H2 sz x = some es := by
  unfold contC at h ⊢
  split at h
  · exact h
  · exact h
  · rename_i o sz' off len
    split at h
    · rename_i e sz'' es' ho
      simp only [g o (hv o (by simp [AV.names, A1.names, C.names])) _ ho trivial]; exact h
    · cases h
  · cases h
theorem isOwn_mono (g : Greater V H H2) {e : TypeId} {x : AV} (hv : ∀ n ∈ x.names, V n) {ks : List Nat} (h : isOwn H e x = some ks) : isOwn H2 e x = some ks := by
  unfold isOwn at h ⊢
  split at h
  · exact h
  · rename_i o _ _ _
    split at h
    · rename_i e' sz es' ho
      simp only [g o (hv o (by simp [AV.names, A1.names, C.names])) _ ho trivial]; exact h
    · cases h
  · cases h
theorem aAppend_mono (g : Greater V H H2) {t : TypeId} {s x : AV} (hs : ∀ n ∈ s.names, V n) (hx : ∀ n ∈ x.names, V n) {r : TypeId × Nat × List (List C) × List (List C)} (h : aAppend P H t s x = some r) : aAppend P H2 t s x = some r := by
  unfold aAppend at h ⊢
  split at h
  · rename_i e hu
    cases hz : zeroC P e with
    | none => rw [hz] at h; cases h
    | some z =>
      cases h1 : contC H (P.cellsOf e) s with
      | none => rw [hz, h1] at h; cases h
      | some olds =>
        cases h2 : contC H (P.cellsOf e) x with
        | none => rw [hz, h1, h2] at h; cases h
        | some news =>
          rw [hz, h1, h2] at h
          rw [contC_mono g hs h1, contC_mono g hx h2]
          exact h
  · cases h

theorem OpStep.greater (g : Greater V H H2) {ev : Operand → AV} (hv : ∀ x, ∀ n ∈ (ev x).names, V n) {p : Nat} {op : Op} {k : Eff → Prop} (h : OpStep P H ev p op k) : OpStep P H2 ev p op k := by
  unfold OpStep at h ⊢
  cases op <;> try exact h
  case slice t x lo hi mx => cases mx <;> exact h
  case load t x =>
    obtain ⟨av, h1, h2⟩ := h
    exact ⟨av, aLoad_mono g (hv x) h1, h2⟩
  case store t x y =>
    obtain ⟨o, ob, h1, h2⟩ := h
    exact ⟨o, ob, aStore_mono g (hv x) h1, h2⟩
  case call c =>
    simp only at h ⊢
    split at h
    · exact h
    · obtain ⟨t, x, y, ks, e, sz, olds, news, h0, h1, h2, h3, h4⟩ := h
      exact ⟨t, x, y, ks, e, sz, olds, news, h0, h1, isOwn_mono g (hv x) h2, aAppend_mono g (hv x) (hv y) h3, h4⟩
    · exact h.elim
theorem OpStep.mono {ev : Operand → AV} {p : Nat} {op : Op} {k k' : Eff → Prop} (hk : ∀ e, k e → k' e) (h : OpStep P H ev p op k) : OpStep P H ev p op k' := by
  unfold OpStep at h ⊢
  split at h
  · exact hk _ h
  · exact hk _ h
  · obtain ⟨av, h1, h2⟩ := h; exact ⟨av, h1, hk _ h2⟩
  · obtain ⟨av, h1, h2⟩ := h; exact ⟨av, h1, hk _ h2⟩
  · obtain ⟨o, ob, h1, h2⟩ := h; exact ⟨o, ob, h1, hk _ h2⟩
  · obtain ⟨av, h1, h2⟩ := h; exact ⟨av, h1, hk _ h2⟩
  · obtain ⟨av, h1, h2⟩ := h; exact ⟨av, h1, hk _ h2⟩
  · obtain ⟨av, h1, h2⟩ := h; exact ⟨av, h1, hk _ h2⟩
  · obtain ⟨sd, av, h0, h1, h2⟩ := h; exact ⟨sd, av, h0, h1, hk _ h2⟩
  · obtain ⟨av, h1, h2⟩ := h; exact ⟨av, h1, hk _ h2⟩
  · obtain ⟨av, h1, h2⟩ := h; exact ⟨av, h1, hk _ h2⟩
  · obtain ⟨av, h1, h2⟩ := h; exact ⟨av, h1, hk _ h2⟩
  · obtain ⟨av, h1, h2⟩ := h; exact ⟨av, h1, hk _ h2⟩
  · obtain ⟨av, h1, h2⟩ := h; exact ⟨av, h1, hk _ h2⟩
  · obtain ⟨cs, h1, h2⟩ := h; exact ⟨cs, h1, hk _ h2⟩
  · obtain ⟨h0, h1, h2⟩ := h; exact ⟨h0, h1, hk _ h2⟩
  · obtain ⟨cs, h1, h2⟩ := h; exact ⟨cs, h1, hk _ h2⟩
  · obtain ⟨e, sz, es, h1, h2⟩ := h; exact ⟨e, sz, es, h1, hk _ h2⟩
  · obtain ⟨e, sz, n, es, h1, h2⟩ := h; exact ⟨e, sz, n, es, h1, hk _ h2⟩
  · split at h
    · obtain ⟨t, x, av, h0, h1, h2, h3⟩ := h; exact ⟨t, x, av, h0, h1, h2, hk _ h3⟩
    · obtain ⟨t, x, y, ks, e, sz, olds, news, h0, h1, h2, h3, h4, h5⟩ := h
      exact ⟨t, x, y, ks, e, sz, olds, news, h0, h1, h2, h3, h4, hk _ h5⟩
    · exact h.elim
  · exact h.elim
end

/-! ### a region -/
/-- What an operation's guard says: run it, or not. -/
def guardA (N : Nat) (ops : Array Oper) (tm : List (Nat × AV)) : Option (Nat × Bool) → Option Bool
  | none => some true
  | some (j, want) => match (ops[j]?).bind (·.dst) with
    | some t => if t < N then match look tm t with
      | some (.one (.c (.b x))) => some (x == want)
      | some (.tup []) => some false
      | _ => none
      else none
    | none => none
/-- Is it told whether a slice is nil? -/
def nilT : BinOp → Operand → Option Bool
  | .eql, .const (.slice none 0 0) => some true
  | .neq, .const (.slice none 0 0) => some false
  | _, _ => none
def isSl : AV → Bool
  | .one (.c (.sl ..)) | .one (.c .ns) | .one (.c (.os ..)) => true
  | _ => false
def isSlT : Option TypeDesc → Bool
  | some (.slice _) => true
  | _ => false
/-- May it be nil, may it not? -/
def nilMay : AV → Bool → Prop
  | .one (.c (.sl _ _ es)), b => b = true → es = []
  | .one (.c .ns), b => b = true
  | .one (.c (.os _ _ _ len)), b => b = true → len = 0
  | _, _ => False
theorem run_nil {P : Program} {t : TypeId} (hu : isSlT (P.underlying t) = true) (A : Option Addr) (l c : Nat) (w : World) : (Op.equal t (.slice A l c) (.slice none 0 0)).run P w = .ok A.isNone w := by
  cases ht : P.underlying t with
  | none => rw [ht] at hu; cases hu
  | some d =>
    rw [ht] at hu
    cases d <;> simp only [isSlT, Bool.false_eq_true] at hu
    show (Op.equalIn (9999 + 1) t (.slice A l c) (.slice none 0 0)).run P w = _
    unfold Op.equalIn
    cases A <;> simp [run_underlying ht]
theorem does_isNil {K : Ctx} {S T R : Nat → Prop} {ρ : Map} {st : St} {a : Act} {w : World} (m : Match K S T ρ R st a w) (p : Nat) {op : BinOp} {t : TypeId} {x y : Operand} (yt : TypeId) (ty : TypeId) {eq : Bool} (hn : nilT op y = some eq) (hs : isSl (ev st.tm x) = true) (hu : isSlT (K.P.underlying t) = true) :
    ∃ b, nilMay (ev st.tm x) b ∧ Does K S T R st a w p (.binOp op t x y yt) ty { v := .one (.c (.b (b == eq))) } := by
  have hx := m.ev x
  obtain ⟨A, l, c, hv, hm⟩ : ∃ A l c, a.eval x = .slice A l c ∧ nilMay (ev st.tm x) A.isNone := by
    revert hs hx
    cases hc : ev st.tm x with
    | undef => intro h; cases h
    | tup as => intro h; cases h
    | one y =>
      cases y with
      | agg cs => intro h; cases h
      | c z =>
        cases z <;> intro hs hx <;> try (cases hs; done)
        · simp only [AV.den, A1.den, C.den] at hx
          unfold D.rd at hx
          obtain ⟨A, c, h1, h2, h3⟩ := hx
          refine ⟨A, _, c, h1, fun hb => ?_⟩
          rcases h3 with h3 | ⟨b, o, h3, _⟩
          · exact h3
          · rw [h3] at hb; cases hb
        · exact ⟨none, 0, 0, hx, rfl⟩
        · rcases hx with ⟨_, h1, h2, h3⟩ | ⟨b, c, _, _, ⟨_, h3⟩ | ⟨_, h2, A, h3⟩⟩
          · exact ⟨none, 0, 0, h3, fun _ => h2⟩
          · exact ⟨_, _, _, h3, fun hb => by cases hb⟩
          · exact ⟨_, _, _, h3, fun hb => by cases hb⟩
  refine ⟨A.isNone, hm, ?_⟩
  have hyv : a.eval y = .slice none 0 0 ∧ ((op = .eql ∧ eq = true) ∨ (op = .neq ∧ eq = false)) := by
    unfold nilT at hn
    split at hn
    · cases hn; exact ⟨rfl, .inl ⟨rfl, rfl⟩⟩
    · cases hn; exact ⟨rfl, .inr ⟨rfl, rfl⟩⟩
    · cases hn
  obtain ⟨hy, hop⟩ := hyv
  refine .val (v := .bool (A.isNone == eq)) m (fun o' h _ => ?_) (by simp [AV.den, A1.den, C.den]) (fun n hm => by simp [AV.names, A1.names, C.names] at hm)
  rcases hop with ⟨rfl, rfl⟩ | ⟨rfl, rfl⟩
  · simp [execOp, h, hv, hy, eqGuard, binOp, run_nil hu]
  · simp [execOp, h, hv, hy, eqGuard, binOp, run_nil hu]
/-- A call. -/
def CallA (P : Program) (st : St) (c : Call) (x : Operand) (k : AV → Heap → Prop) : Prop :=
  ∃ f caps res H', ev st.tm x = .one (.c (.fn f caps)) ∧ AC P f (c.args.toList.map (ev st.tm) ++ capsAV caps) st.hp res H' ∧ k res H'
theorem CallA.use {P : Program} {st : St} {c : Call} {x : Operand} {k : AV → Heap → Prop} {f : FuncId} {args : List AV} {res : AV} {H' : Heap} (hx : ev st.tm x = .one (.c (.fn f []))) (hargs : c.args.toList.map (ev st.tm) = args)
    (hac : AC P f args st.hp res H') (hk : k res H') : CallA P st c x k :=
  ⟨f, [], res, H', hx, by rw [hargs, capsAV, List.map_nil, List.append_nil]; exact hac, hk⟩
/-- An operation or a call, by what it needs. -/
def OpA (P : Program) (st : St) (op : Op) (k : AV → Heap → Prop) : Prop :=
  match op with
  | .call c => match c.callee with
    | .value x => CallA P st c x k
    | _ => OpStep P st.hp (ev st.tm) st.hp.length (.call c) fun e => k e.v (e.app st.hp)
  | .binOp bop t x y yt => match nilT bop y with
    | some eq => isSl (ev st.tm x) = true ∧ isSlT (P.underlying t) = true ∧ ∀ b, nilMay (ev st.tm x) b → k (.one (.c (.b (b == eq)))) st.hp
    | none => OpStep P st.hp (ev st.tm) st.hp.length (.binOp bop t x y yt) fun e => k e.v (e.app st.hp)
  | op => OpStep P st.hp (ev st.tm) st.hp.length op fun e => k e.v (e.app st.hp)
def OpsA (P : Program) (N : Nat) (ops : Array Oper) : List Oper → Post → St → Prop
  | [], Q, st => Q .normal st
  | o :: r, Q, st => dstOk o.dst N ∧ match guardA N ops st.tm o.guard with
    | some true => OpA P st o.op fun v H => OpsA P N ops r Q ⟨putT o.dst v st.tm, H⟩
    | some false => OpsA P N ops r Q ⟨putT o.dst (.tup []) st.tm, st.hp⟩
    | none => False

section
variable {K : Ctx} {S T R : Nat → Prop} {ρ : Map} {st : St} {a : Act} {w : World} {ops : Array Oper}
theorem guardA_run (m : Match K S T ρ R st a w) {o : Oper} {b : Bool} (h : guardA K.N ops st.tm o.guard = some b) : Region.wanted o (yielded ops a.tmps) = b := by
  unfold guardA at h
  unfold Region.wanted
  split at h
  · rename_i hg; cases h; rw [hg]
  · rename_i j want hg
    rw [hg]
    simp only
    unfold yielded
    split at h
    · rename_i t ht
      rw [ht]
      split at h
      · rename_i hlt
        have hg : a.tmps[t]? = some (a.tmps.getD t undef) := by
          have : t < a.tmps.size := by rw [m.sz]; exact hlt
          simp [this]
        split at h
        · rename_i x hx
          cases h
          have := m.tm t _ hx
          have this : a.tmps.getD t undef = .bool x := this
          simp only [Option.bind_some, hg, this]
          cases x <;> cases want <;> rfl
        · rename_i hx
          cases h
          obtain ⟨vs, h1, h2⟩ := m.tm t _ hx
          simp only [Option.bind_some, hg, h1]
          rfl
        · cases h
      · cases h
    · cases h

theorem OpStep.oks {P : Program} {H : Heap} {ev : Operand → AV} {p : Nat} {op : Op} {k : Eff → Prop} (h : OpStep P H ev p op k) : OpStep P H ev p op fun e => k e ∧ e.ok H := by
  have ok0 : ∀ av, Eff.ok { v := av } H := fun av => ⟨(fun o h => by cases h), (fun o ob h => by cases h)⟩
  have okn : ∀ av ob, Eff.ok { v := av, new := some ob } H := fun av ob => ⟨(fun o h => by cases h), (fun o ob h => by cases h)⟩
  unfold OpStep at h ⊢
  split at h
  · exact ⟨h, ok0 _⟩
  · exact ⟨h, ok0 _⟩
  · obtain ⟨av, h1, h2⟩ := h; exact ⟨av, h1, h2, ok0 _⟩
  · obtain ⟨av, h1, h2⟩ := h; exact ⟨av, h1, h2, ok0 _⟩
  · obtain ⟨o, ob, h1, h2⟩ := h
    refine ⟨o, ob, h1, h2, (fun o h => by cases h), fun o' ob' h => ?_⟩
    cases h
    unfold aStore at h1
    split at h1
    · split at h1
      · split at h1
        · rename_i cs ho
          split at h1 <;> cases h1
          exact (List.getElem?_eq_some_iff.1 ho).1
        · cases h1
      · split at h1
        · rename_i e sz es ho
          split at h1 <;> cases h1
          exact (List.getElem?_eq_some_iff.1 ho).1
        · cases h1
      · cases h1
    · cases h1
  · obtain ⟨av, h1, h2⟩ := h; exact ⟨av, h1, h2, ok0 _⟩
  · obtain ⟨av, h1, h2⟩ := h; exact ⟨av, h1, h2, ok0 _⟩
  · obtain ⟨av, h1, h2⟩ := h; exact ⟨av, h1, h2, ok0 _⟩
  · obtain ⟨sd, av, h0, h1, h2⟩ := h; exact ⟨sd, av, h0, h1, h2, ok0 _⟩
  · obtain ⟨av, h1, h2⟩ := h; exact ⟨av, h1, h2, ok0 _⟩
  · obtain ⟨av, h1, h2⟩ := h; exact ⟨av, h1, h2, ok0 _⟩
  · obtain ⟨av, h1, h2⟩ := h; exact ⟨av, h1, h2, ok0 _⟩
  · obtain ⟨av, h1, h2⟩ := h; exact ⟨av, h1, h2, ok0 _⟩
  · obtain ⟨av, h1, h2⟩ := h; exact ⟨av, h1, h2, ok0 _⟩
  · obtain ⟨cs, h1, h2⟩ := h; exact ⟨cs, h1, h2, okn _ _⟩
  · obtain ⟨h0, h1, h2⟩ := h; exact ⟨h0, h1, h2, okn _ _⟩
  · obtain ⟨cs, h1, h2⟩ := h; exact ⟨cs, h1, h2, ok0 _⟩
  · obtain ⟨e, sz, es, h1, h2⟩ := h; exact ⟨e, sz, es, h1, h2, okn _ _⟩
  · obtain ⟨e, sz, n, es, h1, h2⟩ := h; exact ⟨e, sz, n, es, h1, h2, okn _ _⟩
  · split at h
    · obtain ⟨t, x, av, h0, h1, h2, h3⟩ := h; exact ⟨t, x, av, h0, h1, h2, h3, ok0 _⟩
    · obtain ⟨t, x, y, ks, e, sz, olds, news, h0, h1, h2, h3, h4, h5⟩ := h
      refine ⟨t, x, y, ks, e, sz, olds, news, h0, h1, h2, h3, h4, h5, fun o hk => ?_, (fun o ob h => by cases h)⟩
      unfold isOwn at h2
      split at h2
      · cases h2; cases hk
      · split at h2
        · rename_i e' sz' es' ho
          split at h2
          · cases h2; cases hk
            exact (List.getElem?_eq_some_iff.1 ho).1
          · cases h2
        · cases h2
      · cases h2
    · exact h.elim
  · exact h.elim
theorem Eff.heap_more {e : Eff} {H : Heap} {p : Nat} (h : e.ok H) (hn : e.new = none) : e.heap p (H ++ List.replicate 1 .dead) = e.app H ++ List.replicate 1 .dead := by
  obtain ⟨v, nw, up, kl⟩ := e
  obtain ⟨h1, h2⟩ := h
  cases hn
  have s1 : ∀ (G : Heap) (o : Nat) (ob : Ob), o < G.length → (G ++ [Ob.dead]).set o ob = G.set o ob ++ [Ob.dead] := by
    intro G o ob ho
    rw [List.set_append_left _ _ ho]
  simp only [List.replicate]
  cases kl with
  | none =>
    cases up with
    | none => simp only [Eff.app, Eff.heap]
    | some u => simp only [Eff.app, Eff.heap]; rw [s1 _ _ _ (h2 u.1 u.2 rfl)]
  | some k =>
    cases up with
    | none => simp only [Eff.app, Eff.heap]; rw [s1 _ _ _ (h1 k rfl)]
    | some u => simp only [Eff.app, Eff.heap]; rw [s1 _ _ _ (h1 k rfl), s1 _ _ _ (by simpa using h2 u.1 u.2 rfl)]
theorem Match.less {tm : List (Nat × AV)} {H : Heap} {n : Nat} (m : Match K S T ρ R ⟨tm, H ++ List.replicate n .dead⟩ a w) : Match K S T ρ R ⟨tm, H⟩ a w := by
  have up : ∀ {o : Nat} {ob : Ob}, H[o]? = some ob → (H ++ List.replicate n .dead)[o]? = some ob := fun {o ob} h => by
    rw [List.getElem?_append_left (List.getElem?_eq_some_iff.1 h).1]; exact h
  have al : ∀ {q}, aliveAt H q → aliveAt (H ++ List.replicate n .dead) q := fun {q} ⟨ob, h1, h2⟩ => ⟨ob, up h1, h2⟩
  have bl : ∀ {b}, blocks ρ H b → blocks ρ (H ++ List.replicate n .dead) b := fun {b} ⟨o, c, h1, h2⟩ => ⟨o, c, al h1, h2⟩
  exact ⟨⟨fun o ob h => m.good.real o ob (up h), fun o o' b c c' h1 h2 h3 h4 => m.good.apart o o' b c c' (al h1) (al h2) h3 h4, fun b h => m.good.out b (bl h), m.good.le, m.good.lt⟩,
    m.tm, m.tmN, fun o ob h => m.obN o ob (up h), fun n hn h => m.rfree n hn (al h), m.sz, m.df, m.fr, fun b h => m.own b (bl h), m.old, m.keepS, m.same, m.rn, m.oldT, m.keepT⟩

theorem OpA.upon (m : MatchI K S T ρ st a w) {o : Oper} {k : AV → Heap → Prop} (h : OpA K.P st o.op k) (hd : dstOk o.dst K.N) {next : Act → World → Prop} {Q : Exit → Act → World → Prop}
    (hn : ∀ v H, k v H → ∀ S T ρ a w, MatchI K S T ρ ⟨putT o.dst v st.tm, H⟩ a w → next a w) : o.wp K.P a w next Q := by
  have plain : ∀ (h : OpStep K.P st.hp (ev st.tm) st.hp.length o.op fun e => k e.v (e.app st.hp)), o.wp K.P a w next Q := by
    intro h
    have m1 : Match K S T ρ (fun n => st.hp.length ≤ n) ⟨st.tm, st.hp ++ List.replicate 1 .dead⟩ a w := Match.more m 1
    have hgr : Greater (fun _ => True) st.hp (st.hp ++ List.replicate 1 .dead) := fun o _ ob ho _ => by
      rw [List.getElem?_append_left (List.getElem?_eq_some_iff.1 ho).1]; exact ho
    have h1 := OpStep.greater hgr (fun _ _ _ => trivial) (OpStep.oks h)
    obtain ⟨e, ⟨hk, hok⟩, ⟨v, w', ρ', hrun, m2, hv, hvN⟩, _⟩ := OpStep.does m1 (p := st.hp.length) o.op o.type (fun _ _ _ => ⟨Nat.le_refl _, by simp⟩) h1
    have fin : next (a.put o.dst v) w' := by
      cases hnew : e.new with
      | none =>
        have hR : e.res st.hp.length (fun n => st.hp.length ≤ n) = fun n => (e.app st.hp).length ≤ n := by
          funext n; simp [Eff.res, hnew, Eff.app_len]
        rw [hR] at m2 hvN
        rw [Eff.heap_more hok hnew] at m2
        exact hn _ _ hk S T ρ' _ _ (Match.putd (Match.less m2) hd hv hvN)
      | some ob =>
        have hR : e.res st.hp.length (fun n => st.hp.length ≤ n) = fun n => (e.app st.hp).length ≤ n := by
          funext n; simp only [Eff.res, hnew, Eff.app_len, Option.isSome_some, if_true, forall_const, eq_iff_iff]; omega
        rw [hR] at m2 hvN
        have hap := Eff.app_heap hok
        rw [hnew] at hap
        simp only [Option.isSome_some, if_true] at hap
        rw [show st.hp ++ List.replicate 1 .dead = st.hp ++ [Ob.dead] from rfl, ← hap] at m2
        exact hn _ _ hk S T ρ' _ _ (Match.putd m2 hd hv hvN)
    rcases hrun o rfl rfl with hr | ⟨hr, rfl⟩
    · show o.upon K.P a next Q _; rw [hr]; exact fin
    · show o.upon K.P a next Q _; rw [hr]; exact fin
  unfold OpA at h
  split at h
  · rename_i c hop
    split at h
    · rename_i x hc
      obtain ⟨f, caps, res, H', h1, h2, h3⟩ := h
      obtain ⟨cal, args, ats⟩ := c
      simp only at hc
      subst hc
      obtain ⟨vs, hr, hcalls⟩ := MatchI.call m hop h1 h2
      show o.upon K.P a next Q _
      rw [hr, Oper.upon_enter]
      refine Calls.mono hcalls ?_
      rintro e w' ⟨v, S', T', ρ', rfl, m', hv, hvN⟩
      exact hn _ _ h3 S' T' ρ' _ _ (Match.putd m' hd hv fun n hn hr => by
        have h1 := hvN n hn
        have h2 : H'.length ≤ n := hr
        omega)
    · rw [← hop] at h; exact plain h
  · rename_i bop t x y yt hop
    split at h
    · rename_i eq hnil
      obtain ⟨h1, h2, h3⟩ := h
      obtain ⟨b, hb, v, w', ρ', hrun, m2, hv, hvN⟩ := does_isNil m 0 yt o.type hnil h1 h2
      have hR : Eff.res { v := .one (.c (.b (b == eq))) } 0 (fun n => st.hp.length ≤ n) = fun n => st.hp.length ≤ n := by funext n; simp [Eff.res]
      rw [hR] at m2 hvN
      have hf := hn _ _ (h3 b hb) S T ρ' _ _ (Match.putd m2 hd hv hvN)
      rcases hrun o hop rfl with hr | ⟨hr, rfl⟩
      · show o.upon K.P a next Q _; rw [hr]; exact hf
      · show o.upon K.P a next Q _; rw [hr]; exact hf
    · rw [← hop] at h; exact plain h
  · exact plain h

theorem OpsA.run {P : Program} {N : Nat} {Q : Post} (hP : K.P = P) (hN : K.N = N) : ∀ (rest : List Oper) (k : Nat), ops.toList.drop k = rest → ∀ {st : St} {S T : Nat → Prop} {ρ : Map} {a : Act} {w : World}, MatchI K S T ρ st a w → OpsA P N ops rest Q st →
    wpOps P ops (lift K Q) (List.range' k rest.length) a w
  | [], k, hk, st, S, T, ρ, a, w, m, h => ⟨S, T, ρ, st, h, m⟩
  | o :: r, k, hk, st, S, T, ρ, a, w, m, h => by
    subst hP hN
    have ho : ops[k]? = some o := by
      have : ops.toList[k]? = some o := by
        have := congrArg (·[0]?) hk
        simpa using this
      simpa using this
    have hr : ops.toList.drop (k + 1) = r := by
      rw [← List.tail_drop, hk]; rfl
    obtain ⟨hd, h⟩ := h
    simp only [List.length_cons, List.range'_succ, wpOps, ho]
    split at h
    · rename_i hg
      rw [guardA_run m hg, if_pos rfl]
      left
      exact OpA.upon m h hd fun v H hk S T ρ a w m' => OpsA.run rfl rfl r (k + 1) hr m' hk
    · rename_i hg
      rw [guardA_run m hg, if_neg (by simp)]
      refine OpsA.run rfl rfl r (k + 1) hr (st := ⟨putT o.dst (.tup []) st.tm, st.hp⟩) (Match.putd m hd ⟨[], rfl, trivial⟩ fun n hn => by simp [AV.names] at hn) h
    · exact h.elim
theorem AW.region {P : Program} {N n0 : Nat} {Q : Post} {st : St} {id : Nat} (h : OpsA P N ops ops.toList Q st) : AW P N n0 (.region id ops false) Q st := by
  intro K S T ρ a w hP hN h0 m
  subst hP
  refine wp_region ?_
  have := OpsA.run rfl hN ops.toList 0 rfl m h
  rwa [List.range_eq_range', show ops.size = ops.toList.length by simp]
end
end Go.Aw
