/- An abstract memory over the model: a region of open order, proved. -/
import Derived.Test.YtioanpejndfbnaaAwS
namespace Go.Aw
open Go.RowKit
set_option linter.unusedSimpArgs false
set_option linter.unusedVariables false

theorem OpOK.sets {P : Program} {st : St} {p : Nat} {op : Op} {r : Rec} (h : OpOK P st p op r) : (∀ q ∈ r.sets.map (·.1), aliveAt st.hp q ∧ ∃ x ∈ op.operands, q ∈ (ev st.tm x).names) ∧ (isMod op = false → r.sets = []) := by
  have plain : ∀ {op : Op}, OpStep P st.hp (ev st.tm) p op (fun e => r = recOf e) → (∀ q ∈ r.sets.map (·.1), aliveAt st.hp q ∧ ∃ x ∈ op.operands, q ∈ (ev st.tm x).names) ∧ (isMod op = false → r.sets = []) := by
    intro op h
    obtain ⟨e, ⟨h1, h2, h3⟩, _⟩ := OpStep.pick (OpStep.turns h)
    rw [h1]; exact ⟨h2, h3⟩
  unfold OpOK at h
  split at h
  · split at h
    · obtain ⟨f, caps, res0, h1, h2, h3, _⟩ := h
      rw [h3]; exact ⟨fun q hq => by simp at hq, fun _ => rfl⟩
    · exact plain h
  · exact plain h
theorem StepOK.sets {P : Program} {N : Nat} {ops : Array Oper} {st : St} {p : Nat} {x : Oper × Rec} (h : StepOK P N ops st p x) : (∀ q ∈ x.2.sets.map (·.1), aliveAt st.hp q ∧ ∃ y ∈ x.1.op.operands, q ∈ (ev st.tm y).names) ∧ (isMod x.1.op = false → x.2.sets = []) := by
  obtain ⟨_, h⟩ := h
  split at h
  · exact OpOK.sets h
  · rw [h]; exact ⟨fun q hq => by simp at hq, fun _ => rfl⟩
  · exact h.elim
theorem slots_get : ∀ {news : List Ob} {H : Heap} {p k : Nat}, p + news.length ≤ H.length → k < news.length → (setAll H (slotsOf p news))[p + k]? = news[k]?
  | [], _, _, _, _, h => by simp at h
  | ob :: r, H, p, 0, hl, _ => by
    simp only [slotsOf, setAll, Nat.add_zero]
    rw [setAll_out (by rw [mem_slots]; omega)]
    simp only [List.length_cons] at hl
    rw [List.getElem?_set_self (by omega)]; rfl
  | ob :: r, H, p, k + 1, hl, hk => by
    simp only [slotsOf, setAll]
    simp only [List.length_cons] at hl hk
    rw [show p + (k + 1) = p + 1 + k by omega, slots_get (by rw [List.length_set]; omega) (by omega)]
    simp
theorem C.ren_comp (f g : Nat → Nat) (c : C) : (c.ren f).ren g = c.ren (fun n => g (f n)) := by
  cases c <;> simp [C.ren]
theorem A1.ren_comp (f g : Nat → Nat) (a : A1) : (a.ren f).ren g = a.ren (fun n => g (f n)) := by
  cases a with
  | c x => simp only [A1.ren, C.ren_comp]
  | agg cs => simp only [A1.ren, List.map_map]; congr 1; exact List.map_congr_left fun c _ => C.ren_comp f g c
theorem AV.ren_comp (f g : Nat → Nat) (a : AV) : (a.ren f).ren g = a.ren (fun n => g (f n)) := by
  cases a with
  | one a => simp only [AV.ren, A1.ren_comp]
  | tup as => simp only [AV.ren, List.map_map]; congr 1; exact List.map_congr_left fun c _ => A1.ren_comp f g c
  | undef => rfl

section
variable {K : Ctx} {S T R R2 : Nat → Prop} {ρ : Map} {st : St} {a : Act} {w : World}
theorem Match.weaken (m : Match K S T ρ R st a w) (h : ∀ n, R2 n → R n) : Match K S T ρ R2 st a w :=
  ⟨m.good, m.tm, fun t av ht n hn hr => m.tmN t av ht n hn (h n hr), fun o ob ho n hn hr => m.obN o ob ho n hn (h n hr), fun n hr => m.rfree n (h n hr), m.sz, m.df, m.fr, m.own, m.old, m.keepS, m.same, fun n hr => m.rn n (h n hr), m.oldT, m.keepT⟩

/-- A call whose new objects go to reserved places. -/
theorem Match.callAt (m : Match K S T ρ R st a w) (hRlen : ∀ n, st.hp.length ≤ n → R n) {o : Oper} {x : Operand} {args : Array Operand} {ats : Array TypeId} (hop : o.op = .call { callee := .value x, args, argTypes := ats })
    {f : FuncId} {caps : List (Nat × Nat)} (hx : Aw.ev st.tm x = .one (.c (.fn f caps))) {res0 : AV} {news : List Ob} (hres : ∀ n ∈ res0.names, n < news.length) (hnews : ∀ ob ∈ news, ob.names = [])
    (hc : AC K.P f (args.toList.map (Aw.ev st.tm) ++ capsAV caps) st.hp (res0.ren (fun j => st.hp.length + j)) (st.hp ++ news)) {p : Nat} (hp : p + news.length ≤ st.hp.length) (hpR : ∀ n, p ≤ n → n < p + news.length → R n) (hn0 : K.n0 ≤ p) (hR0 : ∀ n, n < K.n0 → ¬ R n) :
    ∃ vs, (execOp a.eval o).run K.P w = .ok (.enter f vs) w ∧ Calls K.P f vs w fun e w' => ∃ v S' T' ρ', e = .returned v ∧ Match K S' T' ρ' (fun n => R n ∧ ¬ (p ≤ n ∧ n < p + news.length)) ⟨st.tm, setAll st.hp (slotsOf p news)⟩ a w' ∧ (res0.ren (fun j => p + j)).den S' T' w' ρ' v := by
  have mi : MatchI K S T ρ st a w := m.weaken fun n hn => hRlen n hn
  obtain ⟨vs, h1, h2⟩ := MatchI.call mi hop hx hc
  refine ⟨vs, h1, Calls.mono h2 ?_⟩
  rintro e w' ⟨v, S', T', ρ', rfl, m', hv, hvN⟩
  let len := st.hp.length
  let r : Nat → Nat := fun n => if len ≤ n then n - len + p else n
  let kept : Nat → Prop := fun n => (n < len ∧ ¬ R n) ∨ (len ≤ n ∧ n < len + news.length)
  have hnR : ∀ n, ¬ R n → n < len := fun n hn => Nat.lt_of_not_le fun h => hn (hRlen n h)
  have rlt : ∀ n, n < len → r n = n := fun n hn => if_neg (by omega)
  have rge : ∀ n, len ≤ n → r n = n - len + p := fun n hn => if_pos hn
  obtain ⟨ρ2, hρ2, m2⟩ := Match.ren (st' := ⟨st.tm, setAll st.hp (slotsOf p news)⟩) (R' := fun n => R n ∧ ¬ (p ≤ n ∧ n < p + news.length)) m' r kept
    (by
      rintro n n' (⟨h1, h2⟩ | ⟨h1, h2⟩) (⟨h3, h4⟩ | ⟨h3, h4⟩) he
      · rwa [rlt n h1, rlt n' h3] at he
      · rw [rlt n h1, rge n' h3] at he
        exact absurd (hpR n (by omega) (by omega)) h2
      · rw [rge n h1, rlt n' h3] at he
        exact absurd (hpR n' (by omega) (by omega)) h4
      · rw [rge n h1, rge n' h3] at he; omega)
    (fun n hn => ⟨.inl ⟨hnR n (hR0 n hn), hR0 n hn⟩, rlt n (hnR n (hR0 n hn))⟩)
    (fun t av ht => by
      have hN := m.tmN t av ht
      exact ⟨av, ht, (AV.ren_id av fun n hn => rlt n (hnR n (hN n hn))).symm, fun n hn => .inl ⟨hnR n (hN n hn), hN n hn⟩⟩)
    (by
      intro o' ob' ho' hal
      simp only at ho'
      by_cases hs : p ≤ o' ∧ o' < p + news.length
      · have hk : o' - p < news.length := by omega
        have hg := slots_get (H := st.hp) (p := p) (k := o' - p) hp hk
        rw [show p + (o' - p) = o' by omega, ho'] at hg
        have hmem := List.mem_of_getElem? hg.symm
        refine ⟨len + (o' - p), ob', .inr ⟨by omega, by omega⟩, by rw [rge _ (by omega)]; omega, ?_, (Ob.ren_id ob' fun n hn => by rw [hnews ob' hmem] at hn; simp at hn).symm, fun n hn => by rw [hnews ob' hmem] at hn; simp at hn⟩
        show (st.hp ++ news)[len + (o' - p)]? = some ob'
        rw [get_at_add]; exact hg.symm
      · rw [setAll_out (by rw [mem_slots]; exact hs)] at ho'
        have hlt := (List.getElem?_eq_some_iff.1 ho').1
        have hN := m.obN o' ob' ho'
        exact ⟨o', ob', .inl ⟨hlt, fun hr => m.rfree o' hr ⟨ob', ho', hal⟩⟩, rlt o' hlt, get_left ho', (Ob.ren_id ob' fun n hn => rlt n (hnR n (hN n hn))).symm, fun n hn => .inl ⟨hnR n (hN n hn), hN n hn⟩⟩)
    (by
      rintro n (⟨h1, h2⟩ | ⟨h1, h2⟩) ⟨h3, h4⟩
      · rw [rlt n h1] at h3; exact h2 h3
      · rw [rge n h1] at h4; omega)
    (fun n hn => Nat.le_of_not_lt fun h => hR0 n h hn.1)
  refine ⟨v, S', T', ρ2, rfl, m2, ?_⟩
  have hd := AV.den_ren (ρ' := ρ2) (r := r) _ (fun n hn => hρ2 n ?_) v hv
  · rw [AV.ren_comp] at hd
    have : (fun j => r (len + j)) = fun j => p + j := by
      funext j; rw [rge _ (by omega)]; omega
    rw [this] at hd; exact hd
  · rw [AV.names_ren] at hn
    obtain ⟨j, hj, rfl⟩ := List.mem_map.1 hn
    have := hres j hj
    exact .inr ⟨by omega, by omega⟩
end

section
variable {K : Ctx} {ops : Array Oper} {L : List (Oper × Rec)} {p0 : Nat} {st0 : St}
def openR (p0 : Nat) (L : List (Oper × Rec)) (d : Nat → Bool) (n : Nat) : Prop := p0 ≤ n ∧ ∀ j x, L[j]? = some x → d j = true → ¬ (slotAt p0 L j ≤ n ∧ n < slotAt p0 L j + x.2.news.length)
def seqSt (p0 : Nat) (L : List (Oper × Rec)) (st0 : St) (i : Nat) : St := runD (fun j => decide (j < i)) 0 p0 L st0
def OpenI (K : Ctx) (p0 : Nat) (L : List (Oper × Rec)) (st0 : St) (d : Nat → Bool) (a : Act) (w : World) : Prop :=
  (∃ S T ρ, Match K S T ρ (openR p0 L d) (runD d 0 p0 L st0) a w) ∧ ∀ j x, L[j]? = some x → d j = true → ∀ q ∈ x.2.sets.map (·.1), ¬ openR p0 L d q

theorem slot_open {d : Nat → Bool} {j : Nat} {x : Oper × Rec} (hx : L[j]? = some x) (hd : d j = false) {n : Nat} (h1 : slotAt p0 L j ≤ n) (h2 : n < slotAt p0 L j + x.2.news.length) : openR p0 L d n := by
  refine ⟨Nat.le_trans (slotAt_ge L p0 j) h1, fun k y hy hk hc => ?_⟩
  rcases Nat.lt_trichotomy k j with h | h | h
  · have := slotAt_lt (p := p0) h hy; omega
  · subst h; rw [hd] at hk; cases hk
  · have := slotAt_lt (p := p0) h hx; omega
theorem openR_up {d : Nat → Bool} {i : Nat} {x : Oper × Rec} (hx : L[i]? = some x) (n : Nat) : openR p0 L (up d i) n ↔ (openR p0 L d n ∧ ¬ (slotAt p0 L i ≤ n ∧ n < slotAt p0 L i + x.2.news.length)) ∨ (openR p0 L (up d i) n ∧ d i = true) := by
  constructor
  · intro ⟨h1, h2⟩
    refine .inl ⟨⟨h1, fun j y hy hj => h2 j y hy (by unfold up; split <;> simp_all)⟩, h2 i x hx (up_self d i)⟩
  · rintro (⟨⟨h1, h2⟩, h3⟩ | h)
    · refine ⟨h1, fun j y hy hj => ?_⟩
      by_cases e : j = i
      · subst e; rw [hx] at hy; cases hy; exact h3
      · rw [up_ne e] at hj; exact h2 j y hy hj
    · exact h.1

theorem seq_step (hseq : SeqOK K.P K.N ops p0 L st0) {i : Nat} {x : Oper × Rec} (hx : L[i]? = some x) : StepOK K.P K.N ops (seqSt p0 L st0 i) (slotAt p0 L i) x := by
  have := SeqOK.at (i0 := 0) hseq hx
  simpa [seqSt] using this
theorem seq_bound (hseq : SeqOK K.P K.N ops p0 L st0) (hdead : ∀ q, p0 ≤ q → ∀ ob, st0.hp[q]? = some ob → ob = .dead) : ∀ (i : Nat), (∀ q, slotAt p0 L i ≤ q → ∀ ob, (seqSt p0 L st0 i).hp[q]? = some ob → ob = .dead) ∧ ∀ x, L[i]? = some x → ∀ q ∈ x.2.sets.map (·.1), q < slotAt p0 L i := by
  intro i
  induction i using Nat.strongRecOn with
  | _ i ih =>
    have h1 : ∀ q, slotAt p0 L i ≤ q → ∀ ob, (seqSt p0 L st0 i).hp[q]? = some ob → ob = .dead := by
      intro q hq ob hob
      have e : (seqSt p0 L st0 i).hp[q]? = (runD (fun _ => false) 0 p0 L st0).hp[q]? := by
        refine heap_run L 0 p0 _ _ (fun j x hx hk => ?_) rfl rfl
        rw [Nat.zero_add]
        by_cases hlt : j < i
        · exfalso
          simp only [Rec.all, List.map_append, List.mem_append] at hk
          rcases hk with hk | hk
          · have := (ih j hlt).2 x hx q hk
            have := slotAt_lt (p := p0) hlt hx
            omega
          · rw [mem_slots] at hk
            have := slotAt_lt (p := p0) hlt hx
            omega
        · simp [hlt]
      rw [e, runD_none _ _ _ _ (fun _ _ => rfl)] at hob
      exact hdead q (Nat.le_trans (slotAt_ge L p0 i) hq) ob hob
    refine ⟨h1, fun x hx q hq => ?_⟩
    obtain ⟨⟨ob, h2, h3⟩, _⟩ := (StepOK.sets (seq_step hseq hx)).1 q hq
    refine Nat.lt_of_not_le fun hle => ?_
    rw [h1 q hle ob h2] at h3
    exact h3
end
end Go.Aw
