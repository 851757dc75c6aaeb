/- An abstract memory over the model: a region of open order. -/
import Derived.Test.YtioanpejndfbnaaAwQ
namespace Go.Aw
open Go.RowKit
set_option linter.unusedSimpArgs false
set_option linter.unusedVariables false

def recOf (e : Eff) : Rec := { v := e.v, sets := (match e.kill with | some o => [(o, .dead)] | none => []) ++ (match e.up with | some x => [x] | none => []), news := e.new.toList }
theorem recOf_heap (e : Eff) (p : Nat) (H : Heap) : e.heap p H = setAll H ((recOf e).all p) := by
  obtain ⟨v, nw, up, kl⟩ := e
  cases nw <;> cases up <;> cases kl <;> rfl
def isLoud : Op → Bool
  | .load .. | .store .. => true
  | .call c => match c.callee with
    | .builtin .len => false
    | _ => true
  | _ => false
def isMod : Op → Bool
  | .store .. => true
  | .call c => match c.callee with
    | .builtin .append => true
    | _ => false
  | _ => false
theorem isMod_loud {op : Op} (h : isMod op = true) : isLoud op = true := by
  unfold isMod at h
  split at h
  · rfl
  · split at h
    · rename_i c hc; simp [isLoud, hc]
    · cases h
  · cases h

section
variable {P : Program} {H H2 : Heap} {ev ev' : Operand → AV} {p : Nat} {op : Op} {k : Eff → Prop}
/-- What an operation turns is alive, and named by an operand; only a store and an append turn any. -/
theorem OpStep.turns (h : OpStep P H ev p op k) : OpStep P H ev p op fun e => k e ∧ (∀ q ∈ (recOf e).sets.map (·.1), aliveAt H q ∧ ∃ x ∈ op.operands, q ∈ (ev x).names) ∧ (isMod op = false → (recOf e).sets = []) := by
  have ok0 : ∀ av nw, (∀ q ∈ (recOf { v := av, new := nw }).sets.map (·.1), aliveAt H q ∧ ∃ x ∈ op.operands, q ∈ (ev x).names) ∧ (isMod op = false → (recOf { v := av, new := nw }).sets = []) := fun av nw => ⟨fun q hq => by simp [recOf] at hq, fun _ => rfl⟩
  unfold OpStep at h ⊢
  split at h
  · exact ⟨h, ok0 _ _⟩
  · exact ⟨h, ok0 _ _⟩
  · obtain ⟨av, h1, h2⟩ := h; exact ⟨av, h1, h2, ok0 _ _⟩
  · obtain ⟨av, h1, h2⟩ := h; exact ⟨av, h1, h2, ok0 _ _⟩
  · rename_i t x y
    obtain ⟨o, ob, h1, h2⟩ := h
    refine ⟨o, ob, h1, h2, fun q hq => ?_, fun hm => by simp [isMod] at hm⟩
    simp only [recOf, List.nil_append, List.map_cons, List.map_nil, List.mem_singleton] at hq
    subst hq
    unfold aStore at h1
    split at h1
    · split at h1
      · rename_i o' j hx
        split at h1
        · rename_i cs ho
          split at h1 <;> cases h1
          exact ⟨⟨_, ho, trivial⟩, x, by simp [Op.operands], by rw [hx]; simp [AV.names, A1.names, C.names]⟩
        · cases h1
      · rename_i o' sz i j hx
        split at h1
        · rename_i e sz es ho
          split at h1 <;> cases h1
          exact ⟨⟨_, ho, trivial⟩, x, by simp [Op.operands], by rw [hx]; simp [AV.names, A1.names, C.names]⟩
        · cases h1
      · cases h1
    · cases h1
  · obtain ⟨av, h1, h2⟩ := h; exact ⟨av, h1, h2, ok0 _ _⟩
  · obtain ⟨av, h1, h2⟩ := h; exact ⟨av, h1, h2, ok0 _ _⟩
  · obtain ⟨av, h1, h2⟩ := h; exact ⟨av, h1, h2, ok0 _ _⟩
  · obtain ⟨sd, av, h0, h1, h2⟩ := h; exact ⟨sd, av, h0, h1, h2, ok0 _ _⟩
  · obtain ⟨av, h1, h2⟩ := h; exact ⟨av, h1, h2, ok0 _ _⟩
  · obtain ⟨av, h1, h2⟩ := h; exact ⟨av, h1, h2, ok0 _ _⟩
  · obtain ⟨av, h1, h2⟩ := h; exact ⟨av, h1, h2, ok0 _ _⟩
  · obtain ⟨av, h1, h2⟩ := h; exact ⟨av, h1, h2, ok0 _ _⟩
  · obtain ⟨av, h1, h2⟩ := h; exact ⟨av, h1, h2, ok0 _ _⟩
  · obtain ⟨cs, h1, h2⟩ := h; exact ⟨cs, h1, h2, ok0 _ _⟩
  · obtain ⟨h0, h1, h2⟩ := h; exact ⟨h0, h1, h2, ok0 _ _⟩
  · obtain ⟨cs, h1, h2⟩ := h; exact ⟨cs, h1, h2, ok0 _ _⟩
  · obtain ⟨e, sz, es, h1, h2⟩ := h; exact ⟨e, sz, es, h1, h2, ok0 _ _⟩
  · obtain ⟨e, sz, n, es, h1, h2⟩ := h; exact ⟨e, sz, n, es, h1, h2, ok0 _ _⟩
  · rename_i c
    split at h
    · obtain ⟨t, x, av, h0, h1, h2, h3⟩ := h; exact ⟨t, x, av, h0, h1, h2, h3, ok0 _ _⟩
    · rename_i hc
      obtain ⟨t, x, y, ks, e, sz, olds, news, h0, h1, h2, h3, h4, h5⟩ := h
      refine ⟨t, x, y, ks, e, sz, olds, news, h0, h1, h2, h3, h4, h5, fun q hq => ?_, fun hm => by simp [isMod, hc] at hm⟩
      unfold isOwn at h2
      split at h2
      · cases h2; simp [recOf] at hq
      · rename_i o sz' off len hx
        split at h2
        · rename_i e' sz' es' ho
          split at h2
          · cases h2
            simp only [recOf, List.head?_cons, List.append_nil, List.map_cons, List.map_nil, List.mem_singleton] at hq
            subst hq
            exact ⟨⟨_, ho, trivial⟩, x, by simp [Op.operands, Call.operands, h0], by rw [hx]; simp [AV.names, A1.names, C.names]⟩
          · cases h2
        · cases h2
      · cases h2
    · exact h.elim
  · exact h.elim
/-- By its operands alone; a silent one in any heap. -/
theorem OpStep.congr (h : OpStep P H ev p op k) (he : ∀ x ∈ op.operands, ev x = ev' x) (hg : isLoud op = true → Greater (fun n => ∃ x ∈ op.operands, n ∈ (ev x).names) H H2) : OpStep P H2 ev' p op k := by
  have map_eq : ∀ ps : Array (Nat × Operand), (∀ x ∈ (ps.toList.map (·.2)).toArray, ev x = ev' x) → (ps.toList.map fun q => (q.1, ev q.2)) = ps.toList.map fun q => (q.1, ev' q.2) := by
    intro ps hps
    refine List.map_congr_left fun q hq => ?_
    rw [hps q.2 (by simp only [List.mem_toArray, List.mem_map]; exact ⟨q, hq, rfl⟩)]
  unfold OpStep at h ⊢
  cases op <;> simp only [Op.operands, isLoud, List.mem_toArray] at h he hg ⊢
  all_goals try exact h
  all_goals try exact h.elim
  case move x => rw [← he x (by simp)]; exact h
  case assign x => rw [← he x (by simp)]; exact h
  case pick c x y => rw [← he c (by simp), ← he x (by simp), ← he y (by simp)]; exact h
  case box t x => rw [← he x (by simp)]; exact h
  case build t ps => rw [← map_eq ps (by simpa using he)]; exact h
  case buildSlice t n ps => rw [← map_eq ps (by simpa using he)]; exact h
  case unOp o t x => rw [← he x (by simp)]; exact h
  case binOp o t x y yt => rw [← he x (by simp), ← he y (by simp)]; exact h
  case convert s d x => rw [← he x (by simp)]; exact h
  case makeSlice t x y => rw [← he x (by simp), ← he y (by simp)]; exact h
  case load t x =>
    obtain ⟨av, h1, h2⟩ := h
    refine ⟨av, ?_, h2⟩
    rw [← he x (by simp)]
    exact aLoad_mono (hg trivial) (fun n hn => ⟨x, by simp, hn⟩) h1
  case store t x y =>
    obtain ⟨o, ob, h1, h2⟩ := h
    refine ⟨o, ob, ?_, h2⟩
    rw [← he x (by simp), ← he y (by simp)]
    exact aStore_mono (hg trivial) (fun n hn => ⟨x, by simp, hn⟩) h1
  case nilCheck x => rw [← he x (by simp)]; exact h
  case fieldAddr t x f => rw [← he x (by simp)]; exact h
  case indexAddr t x i => rw [← he x (by simp), ← he i (by simp)]; exact h
  case index t x i => rw [← he x (by simp), ← he i (by simp)]; exact h
  case slice t x lo hi mx =>
    cases mx with
    | some _ => exact h
    | none =>
      simp only at h ⊢
      have e1 : lo.map ev' = lo.map ev := by cases lo with
        | none => rfl
        | some l => simp only [Option.map_some]; rw [he l (by simp)]
      have e2 : hi.map ev' = hi.map ev := by cases hi with
        | none => rfl
        | some l => simp only [Option.map_some]; rw [he l (by simp)]
      rw [e1, e2, ← he x (by simp)]; exact h
  case extract x i => rw [← he x (by simp)]; exact h
  case call c =>
    obtain ⟨cal, args, ats⟩ := c
    simp only at h he hg ⊢
    split at h
    · obtain ⟨t, x, av, h0, h1, h2, h3⟩ := h
      refine ⟨t, x, av, h0, h1, ?_, h3⟩
      rw [← he x (by simp [Call.operands, h0])]; exact h2
    · rename_i hc
      obtain ⟨t, x, y, ks, e, sz, olds, news, h0, h1, h2, h3, h4⟩ := h
      have hx : x ∈ Call.operands ⟨.builtin .append, args, ats⟩ := by simp [Call.operands, h0]
      have hy : y ∈ Call.operands ⟨.builtin .append, args, ats⟩ := by simp [Call.operands, h0]
      refine ⟨t, x, y, ks, e, sz, olds, news, h0, h1, ?_, ?_, h4⟩
      · rw [← he x hx]; exact isOwn_mono (hg rfl) (fun n hn => ⟨x, hx, hn⟩) h2
      · rw [← he x hx, ← he y hy]; exact aAppend_mono (hg rfl) (fun n hn => ⟨x, hx, hn⟩) (fun n hn => ⟨y, hy, hn⟩) h3
    · exact h.elim
end
end Go.Aw
