/- An abstract memory over the model: a region of open order, whole. -/
import Derived.Test.YtioanpejndfbnaaAwT
namespace Go.Aw
open Go.RowKit
set_option linter.unusedSimpArgs false
set_option linter.unusedVariables false

section
variable {K : Ctx} {ops : Array Oper} {L : List (Oper × Rec)} {p0 : Nat} {st0 : St}
theorem look_open (hord : orderly ops = true) (hL : L.map (·.1) = ops.toList) {d : Nat → Bool} (hs : Shutd ops.toList d) {i : Nat} {o : Oper} (ho : ops.toList[i]? = some o) (hdi : d i = false) (hpre : ∀ e ∈ edgesOf o, d e = true)
    {t : Nat} (ht : t ∈ o.looksAt ops) : look (runD d 0 p0 L st0).tm t = look (seqSt p0 L st0 i).tm t := by
  refine look_run L 0 p0 st0 st0 (fun j x hx hd => ?_) rfl
  rw [Nat.zero_add]
  have hxo : ops.toList[j]? = some x.1 := by rw [← hL, List.getElem?_map, hx]; rfl
  rcases done_or_free hord hs ho hdi hpre hxo with h | ⟨_, h, _⟩
  · exact h
  · exact absurd ht (h.d1 t hd)
theorem ev_open (hord : orderly ops = true) (hL : L.map (·.1) = ops.toList) {d : Nat → Bool} (hs : Shutd ops.toList d) {i : Nat} {o : Oper} (ho : ops.toList[i]? = some o) (hdi : d i = false) (hpre : ∀ e ∈ edgesOf o, d e = true) :
    ∀ x ∈ o.op.operands, ev (seqSt p0 L st0 i).tm x = ev (runD d 0 p0 L st0).tm x := by
  intro x hx
  cases x with
  | tmp t =>
    have ht : t ∈ o.looksAt ops := by
      unfold Oper.looksAt
      refine List.mem_append.2 (.inl (List.mem_filterMap.2 ⟨.tmp t, by simpa using hx, rfl⟩))
    simp only [ev, look_open hord hL hs ho hdi hpre ht]
  | const v => rfl
  | global g => rfl
  | func f => rfl
theorem guard_open {N : Nat} (hord : orderly ops = true) (hL : L.map (·.1) = ops.toList) {d : Nat → Bool} (hs : Shutd ops.toList d) {i : Nat} {o : Oper} (ho : ops.toList[i]? = some o) (hdi : d i = false) (hpre : ∀ e ∈ edgesOf o, d e = true) :
    guardA N ops (runD d 0 p0 L st0).tm o.guard = guardA N ops (seqSt p0 L st0 i).tm o.guard := by
  unfold guardA
  cases hg : o.guard with
  | none => rfl
  | some gb =>
    obtain ⟨g, want⟩ := gb
    simp only
    cases ht : (ops[g]?).bind (·.dst) with
    | none => rfl
    | some t =>
      simp only
      have hmem : t ∈ o.looksAt ops := by
        unfold Oper.looksAt
        refine List.mem_append.2 (.inr ?_)
        rw [hg]
        simp [ht]
      rw [look_open hord hL hs ho hdi hpre hmem]

theorem open_step (hord : orderly ops = true) (hL : L.map (·.1) = ops.toList) (hseq : SeqOK K.P K.N ops p0 L st0) (hdead : ∀ q, p0 ≤ q → ∀ ob, st0.hp[q]? = some ob → ob = .dead)
    (hend : slotAt p0 L L.length = st0.hp.length) (hsep : SepOK K.N ops (masksGo ops.toList []) 0 [] p0 L st0) (hn0 : K.n0 ≤ p0) {Q : Exit → Act → World → Prop} (d : Nat → Bool) (i : Nat) (o : Oper) (a : Act) (w : World) (hoi : ops[i]? = some o) (hI : OpenI K p0 L st0 d a w) (hs : Shutd ops.toList d) (hdi : d i = false) (hpre : ∀ e ∈ edgesOf o, d e = true)
    (Kc : Act → World → Prop) (hK : ∀ a' w', OpenI K p0 L st0 (up d i) a' w' → Kc a' w') : wpOp K.P ops Q i Kc a w := by
  have ho : ops.toList[i]? = some o := by simpa using hoi
  obtain ⟨r, hx⟩ : ∃ r, L[i]? = some (o, r) := by
    rw [← hL, List.getElem?_map] at ho
    obtain ⟨x, h1, h2⟩ := Option.map_eq_some_iff.1 ho
    exact ⟨x.2, by rw [h1, ← h2]⟩
  obtain ⟨⟨S, T, ρ, m⟩, hinv⟩ := hI
  have hOf : ∀ {j : Nat} {x : Oper × Rec}, L[j]? = some x → ops.toList[j]? = some x.1 := fun {j x} h => by rw [← hL, List.getElem?_map, h]; rfl
  have hstep := seq_step hseq hx
  have hdst := hstep.1
  have hevs := ev_open (p0 := p0) (st0 := st0) hord hL hs ho hdi hpre
  have hlen : (runD d 0 p0 L st0).hp.length = st0.hp.length := runD_len _ _ _ _
  have apart : ∀ {j : Nat} {x : Oper × Rec} {q : Nat}, L[j]? = some x → unbound ops j i → q ∈ x.2.sets.map (·.1) → isLoud o.op = true → guardA K.N ops (seqSt p0 L st0 i).tm o.guard ≠ some false → (∃ y ∈ o.op.operands, q ∈ (ev (seqSt p0 L st0 i).tm y).names) → False := by
    intro j x q hj hu hq hlo hr ⟨y, hy, hqn⟩
    have hnm : q ∈ (trOf (seqSt p0 L st0 i) i o r).nm := List.mem_flatMap.2 ⟨y, by simpa using hy, hqn⟩
    have hmj : isMod x.1.op = true := by
      cases hm : isMod x.1.op with
      | true => rfl
      | false => rw [(StepOK.sets (seq_step hseq hj)).2 hm] at hq; simp at hq
    have hxr : guardA K.N ops (seqSt p0 L st0 j).tm x.1.guard ≠ some false := by
      intro e
      have h2 := (seq_step hseq hj).2
      rw [e] at h2
      have h2 : x.2 = { v := .tup [] } := h2
      rw [h2] at hq; simp at hq
    rcases hu with ⟨hlt, hb⟩ | ⟨hlt, hb⟩
    · have h1 := (SepOK.at hsep hx hlo (by simpa [seqSt] using hr)).2 j x hlt hj (isMod_loud hmj) (by simpa [seqSt] using hxr)
      simp only [Nat.zero_add] at h1
      rcases h1 with h1 | h1
      · have h1 : ((masksGo ops.toList []).getD i 0).testBit j = true := h1
        rw [hb] at h1; cases h1
      · exact h1.1 hmj q hq hnm
    · have h1 := (SepOK.at hsep hj (isMod_loud hmj) (by simpa [seqSt] using hxr)).2 i (o, r) hlt hx hlo (by simpa [seqSt] using hr)
      simp only [Nat.zero_add] at h1
      rcases h1 with h1 | h1
      · have h1 : ((masksGo ops.toList []).getD j 0).testBit i = true := h1
        rw [hb] at h1; cases h1
      · exact h1.2 hmj q hq hnm
  have hil : i < L.length := (List.getElem?_eq_some_iff.1 hx).1
  have hslot : slotAt p0 L i + r.news.length ≤ st0.hp.length := by rw [← hend]; exact slotAt_lt hil hx
  have hRlen : ∀ n, st0.hp.length ≤ n → openR p0 L d n := fun n hn => by
    refine ⟨Nat.le_trans (Nat.le_trans (slotAt_ge L p0 i) (Nat.le_trans (Nat.le_add_right _ _) hslot)) hn, fun j x hj _ hc => ?_⟩
    have := slotAt_lt (p := p0) (List.getElem?_eq_some_iff.1 hj).1 hj
    omega
  -- what is put last
  obtain ⟨hup1, hup2⟩ := run_up (d := d) (i0 := i) (o0 := o) (r0 := r) L 0 p0 st0 (Nat.zero_le _) (by simpa using hx) hdi (by
    intro j x hj hlt hdj
    rw [Nat.zero_add] at hlt hdj
    rw [Nat.sub_zero]
    rcases done_or_free hord hs ho hdi hpre (hOf hj) with h | ⟨_, h, h', hu⟩
    · rw [hdj] at h; simp at h; omega
    · refine ⟨h.d2, fun q hq hq' => ?_⟩
      simp only [Rec.all, List.map_append, List.mem_append] at hq hq'
      rcases hq with hq | hq <;> rcases hq' with hq' | hq'
      · have hm2 : isMod o.op = true := by
          cases hm : isMod o.op with
          | true => rfl
          | false => rw [(StepOK.sets hstep).2 hm] at hq'; simp at hq'
        exact apart hj hu hq (isMod_loud hm2) (by
          intro e
          have h2 := hstep.2
          rw [e] at h2
          have h2 : r = { v := .tup [] } := h2
          rw [h2] at hq'; simp at hq') ((StepOK.sets hstep).1 q hq').2
      · rw [mem_slots] at hq'
        exact hinv j x hj hdj q hq (slot_open hx hdi hq'.1 hq'.2)
      · rw [mem_slots] at hq
        have := (seq_bound hseq hdead i).2 _ hx q hq'
        have := slotAt_lt (p := p0) hlt hx
        omega
      · rw [mem_slots] at hq hq'
        have := slotAt_lt (p := p0) hlt hx
        simp only at this
        omega)
  rw [Nat.sub_zero] at hup2
  have hRup : ∀ n, openR p0 L (up d i) n ↔ openR p0 L d n ∧ ¬ (slotAt p0 L i ≤ n ∧ n < slotAt p0 L i + r.news.length) := by
    intro n
    rw [openR_up hx n]
    constructor
    · rintro (h | h)
      · exact h
      · rw [hdi] at h; cases h.2
    · exact .inl
  have fin : ∀ {S' T' : Nat → Prop} {ρ' : Map} {v : Value} {w' : World}, Match K S' T' ρ' (openR p0 L (up d i)) ⟨(runD d 0 p0 L st0).tm, setAll (runD d 0 p0 L st0).hp (r.all (slotAt p0 L i))⟩ a w' → r.v.den S' T' w' ρ' v → (∀ n ∈ r.v.names, ¬ openR p0 L (up d i) n) → Kc (a.put o.dst v) w' := by
    intro S' T' ρ' v w' m' hv hN
    refine hK _ _ ⟨⟨S', T', ρ', ?_⟩, fun j x hj hdj q hq hr => ?_⟩
    · have m2 := Match.forget (Match.putd m' hdst hv hN) (tm := (runD (up d i) 0 p0 L st0).tm) (fun t av ht => by rw [← hup1 t]; exact ht)
      have e : runD (up d i) 0 p0 L st0 = ⟨(runD (up d i) 0 p0 L st0).tm, setAll (runD d 0 p0 L st0).hp (r.all (slotAt p0 L i))⟩ := by rw [← hup2]
      rw [e]; exact m2
    · have hr' := ((hRup q).1 hr).1
      by_cases e : j = i
      · subst e
        rw [hx] at hj; cases hj
        obtain ⟨_, y, hy, hn⟩ := (StepOK.sets hstep).1 q hq
        rw [hevs y hy] at hn
        exact m.evN y q hn hr'
      · rw [up_ne e] at hdj
        exact hinv j x hj hdj q hq hr'
  unfold wpOp
  rw [hoi]
  simp only
  obtain ⟨_, hgd⟩ := hstep
  rw [← guard_open (p0 := p0) (st0 := st0) (N := K.N) hord hL hs ho hdi hpre] at hgd
  split at hgd
  · rename_i hg
    rw [guardA_run m hg, if_pos rfl]
    left
    -- the operation upon what is there now
    have hgr : isLoud o.op = true → Greater (fun n => ∃ x ∈ o.op.operands, n ∈ (ev (seqSt p0 L st0 i).tm x).names) (seqSt p0 L st0 i).hp (runD d 0 p0 L st0).hp := by
      rintro hloud q ⟨y, hy, hqn⟩ ob hob hal
      have hrne : guardA K.N ops (seqSt p0 L st0 i).tm o.guard ≠ some false := by
        rw [← guard_open (p0 := p0) (st0 := st0) (N := K.N) hord hL hs ho hdi hpre, hg]; simp
      rw [hevs y hy] at hqn
      have hqR := m.evN y q hqn
      rw [← hob]
      refine heap_run L 0 p0 st0 st0 (fun j x hj hk => ?_) rfl rfl
      rw [Nat.zero_add]
      rcases done_or_free hord hs ho hdi hpre (hOf hj) with h | ⟨hne, h, h', hu⟩
      · exact h
      · simp only [Rec.all, List.map_append, List.mem_append] at hk
        have hk := hk.resolve_left fun hq' => apart hj hu hq' hloud hrne ⟨y, hy, by rw [hevs y hy]; exact hqn⟩
        rw [mem_slots] at hk
        have hdj : d j = true := by
          cases hdj : d j with
          | true => rfl
          | false => exact absurd (slot_open hj hdj hk.1 hk.2) hqR
        rw [hdj]
        have : j < i := by
          rcases Nat.lt_or_gt_of_ne hne with hlt | hgt
          · exact hlt
          · have h1 := slotAt_lt (p := p0) hgt hx
            have h2 := (seq_bound hseq hdead i).1 q (by simp only at h1; omega) ob hob
            rw [h2] at hal; exact hal.elim
        simp [this]
    have plain : OpStep K.P (seqSt p0 L st0 i).hp (ev (seqSt p0 L st0 i).tm) (slotAt p0 L i) o.op (fun e => r = recOf e) → o.wp K.P a w Kc Q := by
      intro h
      have h1 := OpStep.congr h hevs hgr
      obtain ⟨e, hre, ⟨v, w', ρ', hrun, m2, hv, hvN⟩, _⟩ := OpStep.does m (p := slotAt p0 L i) o.op o.type (fun e he hnew => by
        have he : r = recOf e := he
        have hl : r.news.length = 1 := by
          rw [he]
          cases hn : e.new with
          | none => rw [hn] at hnew; cases hnew
          | some ob => simp [recOf, hn]
        exact ⟨slot_open hx hdi (Nat.le_refl _) (by simp only [hl]; omega), by rw [hlen]; omega⟩) h1
      have hR : e.res (slotAt p0 L i) (openR p0 L d) = openR p0 L (up d i) := by
        funext n
        rw [eq_iff_iff, hRup n]
        unfold Eff.res
        subst hre
        cases hn : e.new with
        | none => simp [recOf, hn]; try (intro _; omega)
        | some ob => simp [recOf, hn]; try (intro _; omega)
      rw [hR] at m2 hvN
      rw [recOf_heap, ← hre] at m2
      have hrv : e.v = r.v := by rw [hre]; rfl
      rw [hrv] at hv hvN
      have hf := fin m2 hv hvN
      rcases hrun o rfl rfl with hr | ⟨hr, rfl⟩
      · show o.upon K.P a Kc Q _; rw [hr]; exact hf
      · show o.upon K.P a Kc Q _; rw [hr]; exact hf
    unfold OpOK at hgd
    split at hgd
    · rename_i c hop
      split at hgd
      · rename_i y hc
        obtain ⟨f, caps, res0, h1, h2, h3, h4, h5, h6⟩ := hgd
        have h2 : r.v = res0.ren (fun j => slotAt p0 L i + j) := h2
        have h3 : r.sets = [] := h3
        have h4 : ∀ n ∈ res0.names, n < r.news.length := h4
        obtain ⟨cal, args, ats⟩ := c
        simp only at hc
        subst hc
        have hops : o.op.operands = Call.operands ⟨.value y, args, ats⟩ := by rw [hop]; rfl
        have hy : y ∈ o.op.operands := by rw [hops]; simp [Call.operands]
        have hev : ev (runD d 0 p0 L st0).tm y = .one (.c (.fn f caps)) := by rw [← hevs y hy]; exact h1
        have hloud : isLoud o.op = true := by rw [hop]; rfl
        have hargs : args.toList.map (ev (seqSt p0 L st0 i).tm) = args.toList.map (ev (runD d 0 p0 L st0).tm) := List.map_congr_left fun z hz => hevs z (by rw [hops]; simp [Call.operands]; exact .inr (by simpa using hz))
        have hac := h6 (runD d 0 p0 L st0).hp (fun n ob hn hal hob => hgr hloud n (by rw [hops]; exact hn) ob hob hal)
        simp only [hargs] at hac
        have hgoal := Match.callAt m (by rw [hlen]; exact hRlen) hop hev h4 h5 hac (p := slotAt p0 L i) (by rw [hlen]; exact hslot) (fun n h1 h2 => slot_open hx hdi h1 h2) (Nat.le_trans hn0 (slotAt_ge L p0 i)) (fun n hn hr => by have := hr.1; omega)
        obtain ⟨vs, hr, hcalls⟩ := hgoal
        show o.upon K.P a Kc Q _
        rw [hr, Oper.upon_enter]
        refine Calls.mono hcalls ?_
        rintro e w' ⟨v, S', T', ρ', rfl, m', hv⟩
        have hRe : (fun n => openR p0 L d n ∧ ¬ (slotAt p0 L i ≤ n ∧ n < slotAt p0 L i + r.news.length)) = openR p0 L (up d i) := by
          funext n; rw [eq_iff_iff, hRup n]
        rw [hRe] at m'
        have hall : r.all (slotAt p0 L i) = slotsOf (slotAt p0 L i) r.news := by simp [Rec.all, h3]
        rw [← hall] at m'
        refine fin m' (by rw [h2]; exact hv) fun n hn hr => ?_
        rw [h2, AV.names_ren] at hn
        obtain ⟨j, hj, rfl⟩ := List.mem_map.1 hn
        have := h4 j hj
        exact ((hRup _).1 hr).2 ⟨by omega, by omega⟩
      · rw [← hop] at hgd; exact plain hgd
    · exact plain hgd
  · rename_i hg
    rw [guardA_run m hg, if_neg (by simp)]
    have hr : r = { v := .tup [] } := hgd
    have hRe : openR p0 L d = openR p0 L (up d i) := by
      funext n; rw [eq_iff_iff, hRup n, hr]; simp; try (intro _; omega)
    rw [hRe] at m
    refine fin (v := undef) (S' := S) (T' := T) (ρ' := ρ) ?_ ?_ ?_
    · rw [hr]; exact m
    · rw [hr]; exact ⟨[], rfl, trivial⟩
    · rw [hr]; intro n hn; simp [AV.names] at hn
  · exact hgd.elim
end

theorem MatchI.drew {K : Ctx} {S T : Nat → Prop} {ρ : Map} {st : St} {a : Act} {w : World} (m : MatchI K S T ρ st a w) : MatchI K S T ρ st a { w with drawn := w.drawn + 1 } := new_row_drew m

theorem AW.draw {P : Program} {N n0 : Nat} {ops : Array Oper} {Q : Post} {st : St} {id : Nat} (hP : P.follows .mixedOrders = true) (hord : orderly ops = true) (k : Nat)
    (h : OpsD P N ops (masksGo ops.toList []) 0 [] st.hp.length ops.toList (Q .normal) ⟨st.tm, st.hp ++ List.replicate k .dead⟩) : AW P N n0 (.region id ops true) Q st := by
  intro K S T ρ a w hKP hN h0 m
  subst hKP hN
  refine wp_region_any hP ?_
  obtain ⟨L, hL, hseq, hk, hend, hsep⟩ := OpsD.seq _ _ 0 _ _ h
  have hn0 : K.n0 ≤ st.hp.length := m.rn st.hp.length (Nat.le_refl _)
  have hsize : L.length = ops.size := by rw [← List.length_map (f := (·.1)), hL]; simp
  have hdead : ∀ q, st.hp.length ≤ q → ∀ ob, (st.hp ++ List.replicate k Ob.dead)[q]? = some ob → ob = .dead := by
    intro q hq ob hob
    rw [List.getElem?_append_right hq] at hob
    exact List.eq_of_mem_replicate (List.mem_of_getElem? hob)
  have dOf0 : dOf (Array.replicate ops.size false) = fun _ => false := by
    funext j; unfold dOf; simp [Array.getElem?_replicate]; split <;> rfl
  refine wpAny_inv (OpenI K st.hp.length L ⟨st.tm, st.hp ++ List.replicate k .dead⟩) (fun i o ho => orderly_down hord (by simpa using ho)) (open_step hord hL hseq hdead hend hsep hn0) ?_ _ _ _ _ (by simp) ?_ ?_ ?_
  · rintro d a' w' hall ⟨⟨S', T', ρ', m'⟩, _⟩
    have hd : runD d 0 st.hp.length L ⟨st.tm, st.hp ++ List.replicate k .dead⟩ = runD (fun _ => true) 0 st.hp.length L ⟨st.tm, st.hp ++ List.replicate k .dead⟩ := by
      have : ∀ (L : List (Oper × Rec)) (i p : Nat) (s : St), (∀ j, j < L.length → d (i + j) = true) → runD d i p L s = runD (fun _ => true) i p L s := by
        intro L
        induction L with
        | nil => intros; rfl
        | cons x L ih =>
          intro i p s hj
          have h0 := hj 0 (by simp)
          rw [Nat.add_zero] at h0
          simp only [runD, h0, if_true]
          exact ih _ _ _ fun j hjl => by
            have := hj (j + 1) (by simp; omega)
            rwa [show i + (j + 1) = i + 1 + j by omega] at this
      exact this L 0 _ _ fun j hj => by rw [Nat.zero_add]; exact hall j (by omega)
    refine ⟨S', T', ρ', _, hk, ?_⟩
    rw [← hd]
    refine m'.weaken fun n hn => ?_
    have hn : (runD d 0 st.hp.length L ⟨st.tm, st.hp ++ List.replicate k .dead⟩).hp.length ≤ n := hn
    rw [runD_len] at hn
    refine ⟨by simp at hn; omega, fun j x hj _ hc => ?_⟩
    have := slotAt_lt (p := st.hp.length) (List.getElem?_eq_some_iff.1 hj).1 hj
    rw [hend] at this
    omega
  · rw [dOf0]; intro i o _ h; cases h
  · rw [dOf0]
    unfold unl
    exact Nat.le_trans List.countP_le_length (by simp)
  · rw [dOf0]
    refine ⟨⟨S, T, ρ, ?_⟩, fun j x _ h => by cases h⟩
    rw [runD_none _ _ _ _ (fun _ _ => rfl)]
    exact (Match.more (MatchI.drew m) k).weaken fun n hn => hn.1
end Go.Aw
