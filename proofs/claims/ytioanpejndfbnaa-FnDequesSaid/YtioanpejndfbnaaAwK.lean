/- An abstract memory over the model: what a piece of code does to a state, and what a call does. -/
import Derived.Test.YtioanpejndfbnaaAwJ
import Derived.LoopN
namespace Go.Aw
open Go.RowKit
set_option linter.unusedSimpArgs false
set_option linter.unusedVariables false

abbrev Post := Exit → St → Prop
/-- A state matched in order: all behind the heap's end is free. -/
def MatchI (K : Ctx) (S T : Nat → Prop) (ρ : Map) (st : St) (a : Act) (w : World) : Prop := Match K S T ρ (fun n => st.hp.length ≤ n) st a w
def lift (K : Ctx) (Q : Post) : Exit → Act → World → Prop
  | .panic _, _, _ => False
  | .outgrown, _, _ => False
  | .goto _, _, _ => False
  | e, a, w => ∃ S T ρ st, Q e st ∧ MatchI K S T ρ st a w
def AW (P : Program) (N n0 : Nat) (c : Code) (Q : Post) (st : St) : Prop :=
  ∀ K S T ρ a w, K.P = P → K.N = N → K.n0 = n0 → MatchI K S T ρ st a w → c.wp P (lift K Q) a w

/-- Each match of the one is a match of the other. -/
def Sub (n0 : Nat) (st st' : St) : Prop := ∀ K S T ρ a w, K.n0 = n0 → MatchI K S T ρ st a w → ∃ S' T' ρ', MatchI K S' T' ρ' st' a w
theorem Sub.refl {n0 : Nat} (st : St) : Sub n0 st st := fun _ S T ρ _ _ _ h => ⟨S, T, ρ, h⟩
theorem Sub.trans {n0 : Nat} {a b c : St} (h : Sub n0 a b) (h' : Sub n0 b c) : Sub n0 a c := fun K S T ρ x w h0 m => by
  obtain ⟨S1, T1, ρ1, m1⟩ := h K S T ρ x w h0 m
  exact h' K S1 T1 ρ1 x w h0 m1
/-- Only these places are still wanted. -/
theorem Sub.forget {n0 : Nat} {tm tm' : List (Nat × AV)} {H : Heap} (h : ∀ t av, look tm' t = some av → look tm t = some av) : Sub n0 ⟨tm, H⟩ ⟨tm', H⟩ := fun K S T ρ a w _ m => ⟨S, T, ρ, Match.forget m h⟩
/-- .. each of them named once, with what is known of it. -/
def covers (tm : List (Nat × AV)) : List (Nat × AV) → Prop
  | [] => True
  | (t, av) :: r => look tm t = some av ∧ covers tm r
theorem look_covers {tm : List (Nat × AV)} : ∀ {tm' : List (Nat × AV)}, covers tm tm' → ∀ t av, look tm' t = some av → look tm t = some av
  | [], _, t, av, h => by simp [look] at h
  | (k, v) :: r, hc, t, av, h => by
    simp only [look] at h
    by_cases e : t = k
    · rw [if_pos e] at h; cases h; rw [e]; exact hc.1
    · rw [if_neg e] at h; exact look_covers hc.2 t av h
theorem Sub.cover {n0 : Nat} {tm tm' : List (Nat × AV)} {H : Heap} (h : covers tm tm') : Sub n0 ⟨tm, H⟩ ⟨tm', H⟩ := Sub.forget (look_covers h)

section
variable {P : Program} {N n0 : Nat} {Q Q' : Post} {st : St}
theorem lift_mono {K : Ctx} (h : ∀ e st, Q e st → Q' e st) : ∀ e a w, lift K Q e a w → lift K Q' e a w := by
  intro e a w hl
  cases e <;> first | exact hl.elim | (obtain ⟨S, T, ρ, st, q, m⟩ := hl; exact ⟨S, T, ρ, st, h _ st q, m⟩)
theorem AW.mono {c : Code} (h : AW P N n0 c Q st) (hq : ∀ e st, Q e st → Q' e st) : AW P N n0 c Q' st :=
  fun K S T ρ a w hP hN h0 m => wp_mono (h K S T ρ a w hP hN h0 m) (lift_mono hq)
theorem AW.sub {c : Code} {st' : St} (hs : Sub n0 st st') (h : AW P N n0 c Q st') : AW P N n0 c Q st := fun K S T ρ a w hP hN h0 m => by
  obtain ⟨S', T', ρ', m'⟩ := hs K S T ρ a w h0 m
  exact h K S' T' ρ' a w hP hN h0 m'
theorem AW.skip (h : Q .normal st) : AW P N n0 .skip Q st := fun K S T ρ a w _ _ _ m => wp_skip ⟨S, T, ρ, st, h, m⟩
theorem AW.ret (h : Q .ret st) : AW P N n0 .ret Q st := fun K S T ρ a w _ _ _ m => wp_ret ⟨S, T, ρ, st, h, m⟩
theorem AW.exit {id : Nat} (h : Q (.exit id) st) : AW P N n0 (.exit id) Q st := fun K S T ρ a w _ _ _ m => wp_exit ⟨S, T, ρ, st, h, m⟩
def thenP (next : St → Prop) (Q : Post) : Post
  | .normal, st => next st
  | e, st => Q e st
theorem AW.seq {x y : Code} (h : AW P N n0 x (thenP (AW P N n0 y Q) Q) st) : AW P N n0 (.seq x y) Q st := by
  intro K S T ρ a w hP hN h0 m
  refine wp_seq (wp_mono (h K S T ρ a w hP hN h0 m) ?_)
  intro e a' w' hl
  cases e with
  | normal =>
    obtain ⟨S', T', ρ', st', q, m'⟩ := hl
    exact q K S' T' ρ' a' w' hP hN h0 m'
  | exit id => exact hl
  | ret => exact hl
  | goto l => exact hl.elim
  | panic c => exact hl.elim
  | outgrown => exact hl.elim
def inBlockP (id : Nat) (Q : Post) : Post
  | .exit id', st => if id' = id then Q .normal st else Q (.exit id') st
  | e, st => Q e st
theorem AW.block {id : Nat} {c : Code} (h : AW P N n0 c (inBlockP id Q) st) : AW P N n0 (.block id c) Q st := by
  intro K S T ρ a w hP hN h0 m
  refine wp_block (wp_mono (h K S T ρ a w hP hN h0 m) ?_)
  intro e a' w' hl
  cases e with
  | exit id' =>
    obtain ⟨S', T', ρ', st', q, m'⟩ := hl
    simp only [inBlockP] at q
    simp only [Exit.inBlock]
    split
    · rename_i he; rw [if_pos he] at q; exact ⟨S', T', ρ', st', q, m'⟩
    · rename_i he; rw [if_neg he] at q; exact ⟨S', T', ρ', st', q, m'⟩
  | normal => exact hl
  | ret => exact hl
  | goto l => exact hl.elim
  | panic c => exact hl.elim
  | outgrown => exact hl.elim
/-- What a test holds. -/
def testA (st : St) (c : Operand) (b : Bool) : Prop := ev st.tm c = .one (.c (.b b))
theorem AW.cond {c : Operand} {x y : Code} {b : Bool} (hc : testA st c b) (h : AW P N n0 (if b then x else y) Q st) : AW P N n0 (.cond c x y) Q st := by
  intro K S T ρ a w hP hN h0 m
  have := m.evC hc
  simp only [C.den] at this
  exact wp_cond this (h K S T ρ a w hP hN h0 m)
/-- A loop by states that are numbered: each round goes from one to a lesser one. -/
theorem AW.loop {α : Type} {c : Code} (I : α → St) (μ : α → Nat) (x0 : α) (hx : Sub n0 st (I x0))
    (round : ∀ x, AW P N n0 c (thenP (fun st' => ∃ y, Sub n0 st' (I y) ∧ μ y < μ x) Q) (I x)) : AW P N n0 (.loop c) Q st := by
  intro K S T ρ a w hP hN h0 m
  obtain ⟨S0, T0, ρ0, m0⟩ := hx K S T ρ a w h0 m
  have key : ∀ n (x : α) S T ρ a w, μ x ≤ n → MatchI K S T ρ (I x) a w → Code.rounds P c (lift K Q) (n + 1) a w := by
    intro n
    induction n with
    | zero =>
      intro x S T ρ a w hx m
      rw [rounds_succ]
      refine wp_mono (round x K S T ρ a w hP hN h0 m) ?_
      intro e a' w' hl
      cases e with
      | normal =>
        obtain ⟨S', T', ρ', st', ⟨y, hs, hlt⟩, m'⟩ := hl
        omega
      | exit id => exact hl
      | ret => exact hl
      | goto l => exact hl.elim
      | panic c => exact hl.elim
      | outgrown => exact hl.elim
    | succ n ih =>
      intro x S T ρ a w hx m
      rw [rounds_succ]
      refine wp_mono (round x K S T ρ a w hP hN h0 m) ?_
      intro e a' w' hl
      cases e with
      | normal =>
        obtain ⟨S', T', ρ', st', ⟨y, hs, hlt⟩, m'⟩ := hl
        obtain ⟨S2, T2, ρ2, m2⟩ := hs K S' T' ρ' a' w' h0 m'
        exact ih y S2 T2 ρ2 a' w' (by omega) m2
      | exit id => exact hl
      | ret => exact hl
      | goto l => exact hl.elim
      | panic c => exact hl.elim
      | outgrown => exact hl.elim
  exact wp_loop_rounds _ (key _ x0 S0 T0 ρ0 a w (Nat.le_refl _) m0)

/-! ### operations in order -/
def Eff.app (e : Eff) (H : Heap) : Heap :=
  let H1 := match e.kill with | some o => H.set o .dead | none => H
  let H2 := match e.up with | some (o, ob) => H1.set o ob | none => H1
  match e.new with | some ob => H2 ++ [ob] | none => H2
def Eff.ok (e : Eff) (H : Heap) : Prop := (∀ o, e.kill = some o → o < H.length) ∧ (∀ o ob, e.up = some (o, ob) → o < H.length)
theorem Eff.app_len (e : Eff) (H : Heap) : (e.app H).length = H.length + (if e.new.isSome then 1 else 0) := by
  obtain ⟨v, nw, up, kl⟩ := e
  cases nw <;> cases up <;> cases kl <;> simp [Eff.app]
theorem Eff.app_heap {e : Eff} {H : Heap} (h : e.ok H) : e.app H = if e.new.isSome then e.heap H.length (H ++ [.dead]) else e.heap H.length H := by
  obtain ⟨v, nw, up, kl⟩ := e
  obtain ⟨h1, h2⟩ := h
  have s1 : ∀ (G : Heap) (o : Nat) (ob : Ob), o < G.length → (G ++ [Ob.dead]).set o ob = G.set o ob ++ [Ob.dead] := by
    intro G o ob ho
    rw [List.set_append_left _ _ ho]
  have s2 : ∀ (G : Heap) (ob : Ob), (G ++ [Ob.dead]).set G.length ob = G ++ [ob] := by
    intro G ob
    rw [List.set_append_right _ _ (Nat.le_refl _)]; simp
  cases nw with
  | none => cases up <;> cases kl <;> simp [Eff.app, Eff.heap]
  | some ob =>
    simp only [Option.isSome_some, if_true]
    cases kl with
    | none =>
      cases up with
      | none => simp only [Eff.app, Eff.heap]; rw [s2]
      | some u =>
        have := h2 u.1 u.2 rfl
        simp only [Eff.app, Eff.heap]
        rw [s1 _ _ _ this]
        have := s2 (H.set u.1 u.2) ob
        rw [List.length_set] at this
        exact this.symm
    | some k =>
      have hk := h1 k rfl
      cases up with
      | none =>
        simp only [Eff.app, Eff.heap]
        rw [s1 _ _ _ hk]
        have := s2 (H.set k .dead) ob
        rw [List.length_set] at this
        exact this.symm
      | some u =>
        have := h2 u.1 u.2 rfl
        simp only [Eff.app, Eff.heap]
        rw [s1 _ _ _ hk, s1 _ _ _ (by simpa using this)]
        have := s2 ((H.set k .dead).set u.1 u.2) ob
        rw [List.length_set, List.length_set] at this
        exact this.symm

def putT (d : Option Tmp) (av : AV) (tm : List (Nat × AV)) : List (Nat × AV) :=
  match d with
  | some t => (t, av) :: tm
  | none => tm
def dstOk (d : Option Tmp) (N : Nat) : Prop :=
  match d with
  | some t => t < N
  | none => True
theorem Match.putd {K : Ctx} {S T R : Nat → Prop} {ρ : Map} {st : St} {a : Act} {w : World} (m : Match K S T ρ R st a w) {d : Option Tmp} (ht : dstOk d K.N) {av : AV} {v : Value} (hd : av.den S T w ρ v) (hN : ∀ n ∈ av.names, ¬ R n) :
    Match K S T ρ R ⟨putT d av st.tm, st.hp⟩ (a.put d v) w := by
  cases d with
  | none => exact m
  | some t => exact m.put ht hd hN

/-- One operation, by what it needs; p: the place of what it makes. -/
def OpStep (P : Program) (H : Heap) (ev : Operand → AV) (p : Nat) (op : Op) (k : Eff → Prop) : Prop :=
  match op with
  | .move x => k { v := ev x }
  | .assign x => k { v := ev x }
  | .pick c x y => ∃ av, aPick (ev c) (ev x) (ev y) = some av ∧ k { v := av }
  | .load t x => ∃ av, aLoad P H t (ev x) = some av ∧ k { v := av }
  | .store t x y => ∃ o ob, aStore P H t (ev x) (ev y) = some (o, ob) ∧ k { v := .undef, up := some (o, ob) }
  | .nilCheck x => ∃ av, aNil (ev x) = some av ∧ k { v := av }
  | .binOp op t x y _ => ∃ av, aBin P op t (ev x) (ev y) = some av ∧ k { v := av }
  | .unOp op _ x => ∃ av, aUn op (ev x) = some av ∧ k { v := av }
  | .convert src dst x => ∃ sd av, P.underlying src = some sd ∧ aConv P dst (ev x) = some av ∧ k { v := av }
  | .fieldAddr t x f => ∃ av, aField P t (ev x) f = some av ∧ k { v := av }
  | .indexAddr t x i => ∃ av, aIndexAddr P t (ev x) (ev i) = some av ∧ k { v := av }
  | .index t x i => ∃ av, aIndex P t (ev x) (ev i) = some av ∧ k { v := av }
  | .extract x i => ∃ av, aExtract (ev x) i = some av ∧ k { v := av }
  | .slice t x lo hi none => ∃ av, aSlice P t (ev x) (lo.map ev) (hi.map ev) = some av ∧ k { v := av }
  | .alloc t => ∃ cs, zeroC P t = some cs ∧ k { v := .one (.c (.op p 0)), new := some (.cells cs) }
  | .box _ x => (ev x).cells ≠ [] ∧ (ev x).cells.all C.keep = true ∧ k { v := .one (.c (.op p 0)), new := some (.cells (ev x).cells) }
  | .build t ps => ∃ cs, aBuild P t (ps.toList.map fun q => (q.1, ev q.2)) = some cs ∧ k { v := .one (.agg cs) }
  | .buildSlice t n ps => ∃ e sz es, aRow P t n (ps.toList.map fun q => (q.1, ev q.2)) = some (e, sz, es) ∧ k { v := .one (.c (.os p sz 0 n)), new := some (.row e sz es) }
  | .makeSlice t l c => ∃ e sz n es, aMake P t (ev l) (ev c) = some (e, sz, n, es) ∧ k { v := .one (.c (.os p sz 0 n)), new := some (.row e sz es) }
  | .call c => match c.callee with
    | .builtin .len => ∃ t x av, c.args = #[x] ∧ c.argTypes = #[t] ∧ aLen P t (ev x) = some av ∧ k { v := av }
    | .builtin .append => ∃ t x y ks e sz olds news, c.args = #[x, y] ∧ c.argTypes = #[t, t] ∧ isOwn H e (ev x) = some ks ∧ aAppend P H t (ev x) (ev y) = some (e, sz, olds, news) ∧ (∀ r ∈ news, r.all C.keep = true) ∧
        k { v := .one (.c (.os p sz 0 (olds.length + news.length))), new := some (.row e sz (olds ++ news)), kill := ks.head? }
    | _ => False
  | _ => False
theorem OpStep.does {K : Ctx} {S T R : Nat → Prop} {ρ : Map} {st : St} {a : Act} {w : World} (m : Match K S T ρ R st a w) {p : Nat} (o : Op) (ty : TypeId) {k : Eff → Prop} (hRp : ∀ e, k e → e.new.isSome = true → R p ∧ p < st.hp.length) (h : OpStep K.P st.hp (ev st.tm) p o k) :
    ∃ e, k e ∧ Does K S T R st a w p o ty e ∧ e.ok st.hp := by
  have ok0 : ∀ av, Eff.ok { v := av } st.hp := fun av => ⟨(fun o h => by cases h), (fun o ob h => by cases h)⟩
  have okn : ∀ av ob, Eff.ok { v := av, new := some ob } st.hp := fun av ob => ⟨(fun o h => by cases h), (fun o ob h => by cases h)⟩
  unfold OpStep at h
  split at h
  · exact ⟨_, h, does_move m p _ ty, ok0 _⟩
  · exact ⟨_, h, does_assign m p _ ty, ok0 _⟩
  · obtain ⟨av, h1, h2⟩ := h; exact ⟨_, h2, does_pick m p _ _ _ ty h1, ok0 _⟩
  · obtain ⟨av, h1, h2⟩ := h; exact ⟨_, h2, does_load m p _ _ ty h1, ok0 _⟩
  · obtain ⟨o, ob, h1, h2⟩ := h
    refine ⟨_, h2, does_store m p _ _ _ ty h1, (fun o h => by cases h), fun o' ob' h => ?_⟩
    cases h
    unfold aStore at h1
    split at h1
    · split at h1
      · split at h1
        · rename_i cs ho
          split at h1 <;> cases h1
          exact (List.getElem?_eq_some_iff.1 ho).1
        · cases h1
      · split at h1
        · rename_i e sz es ho
          split at h1 <;> cases h1
          exact (List.getElem?_eq_some_iff.1 ho).1
        · cases h1
      · cases h1
    · cases h1
  · obtain ⟨av, h1, h2⟩ := h; exact ⟨_, h2, does_nil m p _ ty h1, ok0 _⟩
  · obtain ⟨av, h1, h2⟩ := h; exact ⟨_, h2, does_bin m p _ _ _ _ _ ty h1, ok0 _⟩
  · obtain ⟨av, h1, h2⟩ := h; exact ⟨_, h2, does_un m p _ _ _ ty h1, ok0 _⟩
  · obtain ⟨sd, av, h0, h1, h2⟩ := h; exact ⟨_, h2, does_conv m p _ _ _ ty h0 h1, ok0 _⟩
  · obtain ⟨av, h1, h2⟩ := h; exact ⟨_, h2, does_field m p _ _ _ ty h1, ok0 _⟩
  · obtain ⟨av, h1, h2⟩ := h; exact ⟨_, h2, does_indexAddr m p _ _ _ ty h1, ok0 _⟩
  · obtain ⟨av, h1, h2⟩ := h; exact ⟨_, h2, does_index m p _ _ _ ty h1, ok0 _⟩
  · obtain ⟨av, h1, h2⟩ := h; exact ⟨_, h2, does_extract m p _ _ ty h1, ok0 _⟩
  · obtain ⟨av, h1, h2⟩ := h; exact ⟨_, h2, does_slice m p _ _ _ _ ty h1, ok0 _⟩
  · obtain ⟨cs, h1, h2⟩ := h; exact ⟨_, h2, does_alloc m p (hRp _ h2 rfl).1 (hRp _ h2 rfl).2 _ ty h1, okn _ _⟩
  · obtain ⟨h0, h1, h2⟩ := h; exact ⟨_, h2, does_box m p (hRp _ h2 rfl).1 (hRp _ h2 rfl).2 _ _ ty h0 h1, okn _ _⟩
  · obtain ⟨cs, h1, h2⟩ := h; exact ⟨_, h2, does_build m p _ _ ty h1, ok0 _⟩
  · obtain ⟨e, sz, es, h1, h2⟩ := h; exact ⟨_, h2, does_row m p (hRp _ h2 rfl).1 (hRp _ h2 rfl).2 _ _ _ ty h1, okn _ _⟩
  · obtain ⟨e, sz, n, es, h1, h2⟩ := h; exact ⟨_, h2, does_make m p (hRp _ h2 rfl).1 (hRp _ h2 rfl).2 _ _ _ ty h1, okn _ _⟩
  · rename_i c
    obtain ⟨cal, args, ats⟩ := c
    split at h
    · rename_i hc
      obtain ⟨t, x, av, h0, h1, h2, h3⟩ := h
      cases hc; cases h0; cases h1
      exact ⟨_, h3, does_len m p _ _ ty h2, ok0 _⟩
    · rename_i hc
      obtain ⟨t, x, y, ks, e, sz, olds, news, h0, h1, h2, h3, h4, h5⟩ := h
      cases hc; cases h0; cases h1
      refine ⟨_, h5, does_append m p (hRp _ h5 rfl).1 (hRp _ h5 rfl).2 _ _ _ ty h2 h3 h4, fun o hk => ?_, (fun o ob h => by cases h)⟩
      unfold isOwn at h2
      split at h2
      · cases h2; cases hk
      · split at h2
        · rename_i e' sz' es' ho
          split at h2
          · cases h2; cases hk
            exact (List.getElem?_eq_some_iff.1 ho).1
          · cases h2
        · cases h2
      · cases h2
    · exact h.elim
  · exact h.elim
end
end Go.Aw
