/- An abstract memory over the model: results that lie in cells; how a walk ends; tests told by propositions; which places are kept. -/
import Derived.Test.YtioanpejndfbnaaAwX
namespace Go.Aw
open Go.RowKit
set_option linter.unusedSimpArgs false
set_option linter.unusedVariables false

/-- The values of the result variables, those in cells too. -/
def resM (P : Program) (H : Heap) (tm : List (Nat × AV)) : List ResultVar → Option (List A1)
  | [] => some []
  | .tmp t :: r => match look tm t, resM P H tm r with
    | some (.one a), some as => some (a :: as)
    | _, _ => none
  | .cell x t :: r => match (look tm x).bind (aLoad P H t), resM P H tm r with
    | some (.one a), some as => some (a :: as)
    | _, _ => none
def resC (P : Program) (st : St) (rs : List ResultVar) : Option AV :=
  match resM P st.hp st.tm rs with
  | some [a] => some (.one a)
  | some as => some (.tup as)
  | none => none
section
variable {K : Ctx} {S T R : Nat → Prop} {ρ : Map} {st : St} {a : Act} {w : World}
theorem run_resCell (m : Match K S T ρ R st a w) {x : Nat} {t : TypeId} {av : AV} {a1 : A1} (hx : look st.tm x = some av) (h : aLoad K.P st.hp t av = some (.one a1)) :
    ∃ u, (resF a.tmps (.cell x t)).run K.P w = .ok u w ∧ a1.den S T w ρ u ∧ ∀ n ∈ a1.names, ¬ R n := by
  unfold aLoad at h
  split at h
  · cases h
  · rename_i c hc
    have hav := cellOf_one hc
    subst hav
    have hd : c.den S T w ρ (a.tmps.getD x undef) := m.tm x _ hx
    have hNx : ∀ n ∈ c.names, ¬ R n := m.tmN x _ hx
    split at h
    · rename_i cs d hcs hu
      have hN : ∀ e ∈ cs, ∀ n ∈ e.names, ¬ R n := addrCells_names m hcs
      have hl := run_loadAt m.good hd hcs hu
      obtain ⟨b, o, vs, hv, _, _⟩ := addr_reads m.good hd hcs
      have hrun : ∀ u, (Instr.loadAt t (a.tmps.getD x undef)).run K.P w = .ok u w → (resF a.tmps (.cell x t)).run K.P w = .ok u w := by
        intro u hu'
        rw [hv] at hu'
        simp only [resF, hv]
        simpa [Instr.loadAt, Instr.sureAddr, asAddr] using hu'
      split at h
      · rename_i hag
        split at h
        · rename_i hle
          cases h
          obtain ⟨i, hi, hs, _⟩ := info_of_under hu
          obtain ⟨us, h1, h2⟩ := hl.2 hag i hi (by omega)
          rw [← hs] at h2
          refine ⟨_, hrun _ h1, ⟨us, rfl, h2⟩, ?_⟩
          intro n hn
          simp only [A1.names, List.mem_flatMap] at hn
          obtain ⟨d', hd', hn⟩ := hn
          exact hN d' (List.mem_of_mem_take hd') n hn
        · cases h
      · rename_i hag
        cases cs with
        | nil => cases h
        | cons y ys =>
          cases h
          obtain ⟨u, h1, h2⟩ := hl.1 hag y rfl
          exact ⟨u, hrun u h1, h2, fun n hn => hN y (by simp) n hn⟩
    · cases h
theorem resM_run (m : Match K S T ρ R st a w) : ∀ {rs : List ResultVar} {as : List A1}, resM K.P st.hp st.tm rs = some as →
    ∃ vs : List Value, (rs.mapM (resF a.tmps)).run K.P w = .ok vs w ∧ dens1 S T w ρ as vs ∧ ∀ c ∈ as, ∀ n ∈ c.names, ¬ R n
  | [], as, h => by cases h; exact ⟨[], rfl, trivial, fun c hc => by simp at hc⟩
  | .tmp t :: r, as, h => by
    simp only [resM] at h
    split at h
    · rename_i x xs h1 h2
      cases h
      obtain ⟨vs, h3, h4, h5⟩ := resM_run m h2
      refine ⟨a.tmps.getD t undef :: vs, ?_, ⟨m.tm t _ h1, h4⟩, ?_⟩
      · simp only [List.mapM_cons, Sem.run_bind, resF, Sem.run_pure, Result.andThen_ok, h3]
      · intro c hc n hn
        rcases List.mem_cons.1 hc with rfl | hc
        · exact m.tmN t _ h1 n hn
        · exact h5 c hc n hn
    · cases h
  | .cell x t :: r, as, h => by
    simp only [resM] at h
    split at h
    · rename_i x1 xs h1 h2
      cases h
      obtain ⟨av, hx1, hx2⟩ := Option.bind_eq_some_iff.1 h1
      obtain ⟨u, h6, h7, h8⟩ := run_resCell m hx1 hx2
      obtain ⟨vs, h3, h4, h5⟩ := resM_run m h2
      refine ⟨u :: vs, ?_, ⟨h7, h4⟩, ?_⟩
      · simp only [List.mapM_cons, Sem.run_bind, Sem.run_pure, Result.andThen_ok, h3, h6]
      · intro c hc n hn
        rcases List.mem_cons.1 hc with rfl | hc
        · exact h8 n hn
        · exact h5 c hc n hn
    · cases h
theorem resC_run (m : Match K S T ρ R st a w) {fn : Func} {res : AV} (h : resC K.P st fn.results.toList = some res) :
    ∃ v, (results fn a.tmps).run K.P w = .ok v w ∧ res.den S T w ρ v ∧ ∀ n ∈ res.names, ¬ R n := by
  have key : ∀ {as vs}, resM K.P st.hp st.tm fn.results.toList = some as → (fn.results.toList.mapM (resF a.tmps)).run K.P w = .ok vs w → (results fn a.tmps).run K.P w = .ok (if h : vs.toArray.size = 1 then vs.toArray[0] else .tuple vs.toArray) w := by
    intro as vs _ h2
    rw [results_is, Array.mapM_eq_mapM_toList]
    simp only [Sem.run_bind, Sem.run_map, h2, Result.andThen_ok, Sem.run_pure]
    try rfl
  unfold resC at h
  split at h
  · rename_i x h1
    cases h
    obtain ⟨vs, h2, h3, h4⟩ := resM_run m h1
    match vs, h3 with
    | [v], h3 => exact ⟨v, by simpa using key h1 h2, h3.1, fun n hn => h4 x (by simp) n hn⟩
  · rename_i as hne h1
    cases h
    obtain ⟨vs, h2, h3, h4⟩ := resM_run m h1
    have hl : ∀ {as : List A1} {vs : List Value}, dens1 S T w ρ as vs → as.length = vs.length := by
      intro as
      induction as with
      | nil => intro vs h; cases vs with
        | nil => rfl
        | cons _ _ => exact h.elim
      | cons a as ih => intro vs h; cases vs with
        | nil => exact h.elim
        | cons v vs => simp [ih h.2]
    have h1n : vs.length ≠ 1 := by
      rw [← hl h3]
      intro h1'
      match as, h1' with
      | [x], _ => exact hne x rfl
    refine ⟨.tuple vs.toArray, ?_, ⟨vs, rfl, h3⟩, fun n hn => ?_⟩
    · have := key h1 h2
      rw [dif_neg (by simpa using h1n)] at this
      exact this
    · obtain ⟨c, hc, hn⟩ := List.mem_flatMap.1 hn
      exact h4 c hc n hn
  · cases h
end
/-- It has come to an end: that is in the results, which is as if res were there and that memory. -/
def retC (P : Program) (n0 : Nat) (rs : List ResultVar) (res : AV) (H' : Heap) : Post := fun e st => (e = .ret ∨ e = .normal) ∧ ∃ r, resC P st rs = some r ∧ Sub n0 ⟨(0, r) :: st.tm, st.hp⟩ ⟨[(0, res)], H'⟩
theorem AC.ofC {P : Program} {f : FuncId} {fn : Func} {c : Code} (hf : P.funcs[f]? = some fn) (hname : (fn.name == "runtime.NumGoroutine") = false) (hb : fn.body = some c) {args : List AV} {H : Heap} {res : AV} {H' : Heap}
    (hn : args.length ≤ fn.ntmps) (h0 : 0 < fn.ntmps) (h : closed H → closedA H args → AW P fn.ntmps H.length c (retC P H.length fn.results.toList res H') ⟨argsTm 0 args, H⟩) : AC P f args H res H' := by
  refine ⟨⟨fn, hf, hname, by rw [hb]; rfl⟩, fun hcl hca S T ρ w vs g hd => ?_⟩
  have hl := densA_len hd
  refine calls_of_wp hf hb ?_
  let K : Ctx := { P := P, w0 := w, X := blocks ρ H, S0 := S, T0 := T, ρ0 := ρ, n0 := H.length, N := fn.ntmps }
  have m : MatchI K S T ρ ⟨argsTm 0 args, H⟩ { tmps := vs.toArray ++ Array.replicate (fn.ntmps - vs.toArray.size) undef, defers := [] } w := by
    refine ⟨g, ?_, ?_, ?_, ?_, ?_, rfl, Fr.refl _ _, fun b hb => .inl hb, fun b hb => .inl hb, fun b hb => hb, fun o _ => rfl, fun n hn => hn, fun b hb => .inl hb, fun b hb => hb⟩
    · intro t av h
      obtain ⟨_, h2⟩ := look_argsTm h
      obtain ⟨v, h3, h4⟩ := densA_get hd h2
      have : (vs.toArray ++ Array.replicate (fn.ntmps - vs.toArray.size) undef).getD t undef = v := by
        rw [Array.getD_eq_getD_getElem?, Array.getElem?_append_left (by have := (List.getElem?_eq_some_iff.1 h3).1; simpa using this)]
        have h3 : vs[t]? = some v := by simpa using h3
        simp [h3]
      show av.den S T w ρ ((vs.toArray ++ Array.replicate (fn.ntmps - vs.toArray.size) undef).getD t undef)
      rw [this]; exact h4
    · intro t av h n hn hr
      obtain ⟨_, h2⟩ := look_argsTm h
      have := hca av (List.mem_of_getElem? h2) n hn
      exact absurd hr (Nat.not_le_of_lt this)
    · intro o ob ho n hn hr
      exact absurd hr (Nat.not_le_of_lt (hcl o ob ho n hn))
    · rintro n hr ⟨ob, h1, _⟩
      have h2 : H.length ≤ n := hr
      have := (List.getElem?_eq_some_iff.1 h1).1
      omega
    · show (vs.toArray ++ Array.replicate (fn.ntmps - vs.toArray.size) undef).size = fn.ntmps
      simp; omega
  refine wp_mono (h hcl hca K S T ρ _ w rfl rfl rfl m) ?_
  intro e a' w' hl
  have fin : ∀ st, retC P H.length fn.results.toList res H' e st → ∀ S T ρ', MatchI K S T ρ' st a' w' → a'.defers = [] ∧ ∃ v, (results fn a'.tmps).run P w' = .ok v w' ∧ ∃ v' S' T' ρ'', Ending.returned v = .returned v' ∧ Done K.S0 K.T0 ρ w H S' T' ρ'' w' H' res v' := by
    rintro st ⟨_, r, hres, hsub⟩ S1 T1 ρ1 m1
    have m1' : Match K S1 T1 ρ1 (fun n => st.hp.length ≤ n) st a' w' := m1
    obtain ⟨v, h1, h2, h3⟩ := resC_run (fn := fn) m1' hres
    have m1'' : MatchI K S1 T1 ρ1 ⟨(0, r) :: st.tm, st.hp⟩ (a'.put (some 0) v) w' := m1'.put h0 h2 h3
    obtain ⟨S2, T2, ρ2, m2⟩ := hsub K S1 T1 ρ1 _ w' rfl m1''
    have hv : (a'.put (some 0) v).tmps.getD 0 undef = v := by
      have hs : 0 < a'.tmps.size := by rw [m1'.sz]; exact h0
      simp [Act.put, Array.getD_eq_getD_getElem?, hs]
    have h4 : res.den S2 T2 w' ρ2 ((a'.put (some 0) v).tmps.getD 0 undef) := m2.tm 0 res rfl
    rw [hv] at h4
    refine ⟨m1'.df, v, h1, v, S2, T2, ρ2, rfl, ⟨m2.good, h4, fun n hn => Nat.lt_of_not_le (m2.tmN 0 res rfl n hn), fun o ob ho n hn => Nat.lt_of_not_le (m2.obN o ob ho n hn), ?_, m2.keepS, m2.old, m2.keepT, m2.oldT, m2.fr, m2.own, m2.same⟩⟩
    exact m2.rn H'.length (Nat.le_refl _)
  cases e with
  | normal => obtain ⟨S1, T1, ρ1, st, q, m1⟩ := hl; exact fin st q _ _ _ m1
  | ret => obtain ⟨S1, T1, ρ1, st, q, m1⟩ := hl; exact fin st q _ _ _ m1
  | exit id => obtain ⟨S1, T1, ρ1, st, q, m1⟩ := hl; rcases q.1 with h | h <;> cases h
  | goto l => exact hl.elim
  | panic c => exact hl.elim
  | outgrown => exact hl.elim
theorem AC.mkC {P : Program} {f : FuncId} {fn : Func} {c : Code} (N : Nat) (rs : List ResultVar) (hf : P.funcs[f]? = some fn) (hname : (fn.name == "runtime.NumGoroutine") = false) (hb : fn.body = some c) (hN : fn.ntmps = N) (hrs : fn.results.toList = rs) {args : List AV} {H : Heap} {res : AV} {H' : Heap}
    (hn : args.length ≤ N) (h0 : 0 < N) (h : closed H → closedA H args → AW P N H.length c (retC P H.length rs res H') ⟨argsTm 0 args, H⟩) : AC P f args H res H' := by
  subst hN hrs
  exact AC.ofC hf hname hb hn h0 h
theorem retC_now {P : Program} {n0 : Nat} {rs : List ResultVar} {res : AV} {H' : Heap} {st : St} (h : resC P st rs = some res) (hH : st.hp = H') : retC P n0 rs res H' .ret st := ⟨.inl rfl, res, h, by subst hH; exact Sub.cover (by simp [covers, look])⟩
theorem retC_by {P : Program} {n0 : Nat} {rs : List ResultVar} {res r : AV} {H' : Heap} {st : St} (h : resC P st rs = some r) (hs : Sub n0 ⟨[(0, r)], st.hp⟩ ⟨[(0, res)], H'⟩) : retC P n0 rs res H' .ret st := ⟨.inl rfl, r, h, (Sub.cover (by simp [covers, look])).trans hs⟩

/-! ### tests, told by propositions -/
section
variable {P : Program} {N n0 : Nat} {Q : Post} {st : St}
theorem AW.condP {c : Operand} {x y : Code} (p : Prop) [Decidable p] (hc : testA st c (decide p)) (ht : p → AW P N n0 x Q st) (hf : ¬ p → AW P N n0 y Q st) : AW P N n0 (.cond c x y) Q st :=
  AW.condE hc (fun h => ht (of_decide_eq_true h)) (fun h => hf (of_decide_eq_false h))
theorem AW.condN {c : Operand} {x y : Code} (p : Prop) [Decidable p] (hc : testA st c (!decide p)) (ht : p → AW P N n0 y Q st) (hf : ¬ p → AW P N n0 x Q st) : AW P N n0 (.cond c x y) Q st :=
  AW.condE hc (fun h => hf (by simpa using h)) (fun h => ht (by simpa using h))
theorem AW.condT {c : Operand} {x y : Code} (hc : testA st c true) (ht : AW P N n0 x Q st) : AW P N n0 (.cond c x y) Q st := AW.condE hc (fun _ => ht) (fun h => by cases h)
theorem AW.condF {c : Operand} {x y : Code} (hc : testA st c false) (hf : AW P N n0 y Q st) : AW P N n0 (.cond c x y) Q st := AW.condE hc (fun h => by cases h) (fun _ => hf)
end
/-- The ways through x meet again in one state. -/
theorem AW.join {P : Program} {N n0 : Nat} {Q : Post} {st : St} {x y : Code} (st' : St) (h : AW P N n0 x (thenP (fun s => Sub n0 s st') Q) st) (h' : AW P N n0 y Q st') : AW P N n0 (.seq x y) Q st := by
  refine AW.seq (h.mono fun e s hs => ?_)
  cases e with
  | normal => exact AW.sub hs h'
  | _ => exact hs
theorem AW.joinP {P : Program} {N n0 : Nat} {Q : Post} {st : St} {x y : Code} (p : Prop) (st' : St) (h : AW P N n0 x (thenP (fun s => p ∧ Sub n0 s st') Q) st) (h' : p → AW P N n0 y Q st') : AW P N n0 (.seq x y) Q st := by
  refine AW.seq (h.mono fun e s hs => ?_)
  cases e with
  | normal => exact AW.sub hs.2 (h' hs.1)
  | _ => exact hs
/-- Only these places are kept. -/
def keep (tm : List (Nat × AV)) : List Nat → List (Nat × AV)
  | [] => []
  | t :: r => match look tm t with
    | some av => (t, av) :: keep tm r
    | none => keep tm r
theorem look_keep {tm : List (Nat × AV)} : ∀ {ts : List Nat} {t : Nat} {av : AV}, look (keep tm ts) t = some av → look tm t = some av
  | [], t, av, h => by simp [keep, look] at h
  | k :: r, t, av, h => by
    simp only [keep] at h
    split at h
    · rename_i v hv
      simp only [look] at h
      by_cases e : t = k
      · rw [if_pos e] at h; cases h; rw [e]; exact hv
      · rw [if_neg e] at h; exact look_keep h
    · exact look_keep h
theorem AW.trim {P : Program} {N n0 : Nat} {c : Code} {Q : Post} {tm : List (Nat × AV)} {H : Heap} (ts : List Nat) (h : AW P N n0 c Q ⟨keep tm ts, H⟩) : AW P N n0 c Q ⟨tm, H⟩ :=
  AW.sub (Sub.forget fun _ _ h => look_keep h) h
/-- A function of data alone: whatever the memory, it gives that, and leaves the memory. -/
def PF (P : Program) (f : FuncId) (args : List AV) (res : AV) : Prop := ∀ H, AC P f args H res H
/-- Called upon a world of which all may be read for good. -/
theorem PF.top {P : Program} {f : FuncId} {args : List AV} {x : Bool} (h : PF P f args (.one (.c (.b x)))) (hn : ∀ av ∈ args, av.names = []) (w : World) (vs : List Value)
    (hd : densA (fun b => b < w.heap.size) (fun b => b < w.heap.size) w (fun _ => none) args vs) : Calls P f vs.toArray w fun e w' => e = .returned (.bool x) ∧ Below w.heap.size w w' := by
  have g : Good (fun b => b < w.heap.size) (fun b => b < w.heap.size) (fun _ => none) w [] := by
    refine ⟨fun o ob ho => by simp at ho, ?_, ?_, fun b hb => hb, fun b hb => hb⟩
    · rintro o o' b c c' ⟨ob, h1, _⟩; simp at h1
    · rintro b ⟨o, c, ⟨ob, h1, _⟩, _⟩; simp at h1
  refine Calls.mono ((h []).2 (fun o ob ho => by simp at ho) (fun av hav n hnn => by rw [hn av hav] at hnn; simp at hnn) _ _ _ w vs g hd) ?_
  rintro e w' ⟨v, S', T', ρ', rfl, d⟩
  have hv : v = .bool x := d.res
  subst hv
  refine ⟨rfl, d.fr.os, d.fr.tape, d.fr.output, d.fr.size, fun k hk => d.fr.keep k hk ?_⟩
  rintro ⟨o, c, ⟨ob, h1, _⟩, _⟩
  simp at h1
/-- A call of a function of data alone, in an open region too. -/
theorem CallD.pure {P : Program} {st : St} {c : Call} {x : Operand} {p : Nat} {k : Rec → Prop} {f : FuncId} {args : List AV} {res : AV} (hx : ev st.tm x = .one (.c (.fn f []))) (hargs : c.args.toList.map (ev st.tm) = args)
    (hres : res.names = []) (hac : PF P f args res) (hk : k { v := res }) : CallD P st c x p k := by
  have hr : ∀ r : Nat → Nat, res.ren r = res := fun r => AV.ren_id res fun n hn => by rw [hres] at hn; simp at hn
  refine CallD.data res [] hx hargs (by rw [hres]; simp) (by simp) (fun Hx => ?_) ?_
  · rw [hr, List.append_nil]; exact hac Hx
  · rw [hr]; exact hk
/-- Nothing of what was made is still wanted. -/
theorem retC_drop {P : Program} {n0 : Nat} {rs : List ResultVar} {res : AV} {tm : List (Nat × AV)} {H L : Heap} (hcl : closed H) (hn0 : H.length = n0) (h : resC P ⟨tm, H ++ L⟩ rs = some res) (hn : res.names = []) : retC P n0 rs res H .ret ⟨tm, H ++ L⟩ := by
  refine retC_by h ?_
  have := Sub.drop (n0 := n0) (H := H) (L := L) (L2 := []) (tm := [(0, res)]) (tm' := [(0, res)]) [] hcl hn0 (by simp) rfl (by simp)
    ⟨⟨res, by simp [look], (AV.ren_id res fun n hnn => by rw [hn] at hnn; simp at hnn).symm, fun n hnn => by rw [hn] at hnn; simp at hnn⟩, trivial⟩
  rwa [List.append_nil] at this
def AV.fzAll (n0 : Nat) : List (Nat × Fz × TypeId) → AV → AV
  | [], av => av
  | (k, z, _) :: r, av => AV.fzAll n0 r (av.fz (n0 + k) z)
def okFz (n0 : Nat) : Heap → List (Nat × Fz × TypeId) → Prop
  | _, [] => True
  | L, (k, z, e) :: r => L[k]? = some (z.of e) ∧ okFz n0 ((L.map (Ob.fz (n0 + k) z)).set k .dead) r
theorem Sub.frzs {n0 : Nat} {H : Heap} (hcl : closed H) (hn0 : H.length = n0) : ∀ (zs : List (Nat × Fz × TypeId)) {L : Heap} {r : AV}, okFz n0 L zs → ∃ L2, Sub n0 ⟨[(0, r)], H ++ L⟩ ⟨[(0, r.fzAll n0 zs)], H ++ L2⟩
  | [], L, r, _ => ⟨L, Sub.refl _⟩
  | (k, z, e) :: zs, L, r, h => by
    obtain ⟨L2, h2⟩ := Sub.frzs hcl hn0 zs (r := r.fz (n0 + k) z) h.2
    exact ⟨L2, (Sub.frz (tm := [(0, r)]) (tm' := [(0, r.fz (n0 + k) z)]) k z h.1 hcl hn0 ⟨⟨r, by simp [look], rfl⟩, trivial⟩ rfl).trans h2⟩
/-- What was made is frozen, as far as the result wants it. -/
theorem retC_frz {P : Program} {n0 : Nat} {rs : List ResultVar} {res r : AV} {tm : List (Nat × AV)} {H L : Heap} (zs : List (Nat × Fz × TypeId)) (hcl : closed H) (hn0 : H.length = n0) (hz : okFz n0 L zs) (h : resC P ⟨tm, H ++ L⟩ rs = some r) (hr : r.fzAll n0 zs = res) (hn : res.names = []) : retC P n0 rs res H .ret ⟨tm, H ++ L⟩ := by
  subst hr
  obtain ⟨L2, h2⟩ := Sub.frzs (r := r) hcl hn0 zs hz
  refine retC_by h (h2.trans ?_)
  have := Sub.drop (n0 := n0) (H := H) (L := L2) (L2 := []) (tm := [(0, r.fzAll n0 zs)]) (tm' := [(0, r.fzAll n0 zs)]) [] hcl hn0 (by simp) rfl (by simp)
    ⟨⟨r.fzAll n0 zs, by simp [look], (AV.ren_id _ fun n hnn => by rw [hn] at hnn; simp at hnn).symm, fun n hnn => by rw [hn] at hnn; simp at hnn⟩, trivial⟩
  rwa [List.append_nil] at this
/-- What stands at the heap's end, and is not named, is left behind. -/
theorem Sub.cut {n0 : Nat} {tm tm' : List (Nat × AV)} {G L : Heap} (hl : n0 ≤ G.length) (hc : covers tm tm') (ht : ∀ p ∈ tm', ∀ n ∈ p.2.names, n < G.length) (ho : closed G) : Sub n0 ⟨tm, G ++ L⟩ ⟨tm', G⟩ := by
  intro K S T ρ a w hn0 m
  have m : Match K S T ρ (fun n => (G ++ L).length ≤ n) ⟨tm, G ++ L⟩ a w := m
  have up : ∀ {o : Nat} {ob : Ob}, G[o]? = some ob → (G ++ L)[o]? = some ob := fun h => get_left h
  have al : ∀ {o : Nat}, aliveAt G o → aliveAt (G ++ L) o := fun ⟨ob, h1, h2⟩ => ⟨ob, up h1, h2⟩
  refine ⟨S, T, ρ, ⟨⟨fun o ob h => m.good.real o ob (up h), fun o o' b c c' h1 h2 => m.good.apart o o' b c c' (al h1) (al h2), fun b ⟨o, c, h1, h2⟩ => m.good.out b ⟨o, c, al h1, h2⟩, m.good.le, m.good.lt⟩,
    fun t av h => m.tm t av (look_covers hc t av h), fun t av h n hn => ?_, fun o ob h n hn => Nat.not_le_of_lt (ho o ob h n hn), ?_, m.sz, m.df, m.fr, fun b ⟨o, c, h1, h2⟩ => m.own b ⟨o, c, al h1, h2⟩, m.old, m.keepS, m.same, fun n hn => ?_, m.oldT, m.keepT⟩⟩
  · have : ∀ {l : List (Nat × AV)} {t : Nat} {av : AV}, look l t = some av → ∃ p ∈ l, p.2 = av := by
      intro l
      induction l with
      | nil => intro t av h; simp [look] at h
      | cons p l ih =>
        intro t av h
        obtain ⟨k, v⟩ := p
        simp only [look] at h
        split at h
        · cases h; exact ⟨(k, av), by simp, rfl⟩
        · obtain ⟨q, h1, h2⟩ := ih h; exact ⟨q, by simp [h1], h2⟩
    obtain ⟨p, hp, rfl⟩ := this h
    exact Nat.not_le_of_lt (ht p hp n hn)
  · rintro n hn ⟨ob, h1, _⟩
    have hn : G.length ≤ n := hn
    have := (List.getElem?_eq_some_iff.1 h1).1
    omega
  · have hn : G.length ≤ n := hn
    omega
/-- .. of the objects that were made, the first ones are kept. -/
theorem Sub.cut1 {n0 : Nat} {tm tm' : List (Nat × AV)} {H : Heap} (L1 : Heap) {L2 : Heap} (hcl : closed H) (hn0 : H.length = n0) (hc : covers tm tm') (ht : ∀ p ∈ tm', ∀ n ∈ p.2.names, n < H.length + L1.length) (ho : ∀ ob ∈ L1, ∀ n ∈ ob.names, n < H.length + L1.length) : Sub n0 ⟨tm, H ++ (L1 ++ L2)⟩ ⟨tm', H ++ L1⟩ := by
  rw [← List.append_assoc]
  refine Sub.cut (by rw [List.length_append]; omega) hc (fun p hp n hn => by rw [List.length_append]; exact ht p hp n hn) fun o ob h n hn => ?_
  rw [List.length_append]
  rcases List.mem_append.1 (List.mem_of_getElem? h) with hm | hm
  · obtain ⟨i, hi⟩ := List.mem_iff_getElem?.1 hm
    have := hcl i ob hi n hn; omega
  · exact ho ob hm n hn
theorem Sub.bare {n0 : Nat} {tm tm' : List (Nat × AV)} {H L : Heap} (hcl : closed H) (hn0 : H.length = n0) (hc : covers tm tm') (ht : ∀ p ∈ tm', p.2.names = []) : Sub n0 ⟨tm, H ++ L⟩ ⟨tm', H⟩ :=
  Sub.cut (by omega) hc (fun p hp n hn => by rw [ht p hp] at hn; simp at hn) hcl
/-- Is it a call of a function value? -/
def isVal : Op → Bool
  | .call ⟨.value _, _, _⟩ => true
  | _ => false
def quiet (ops : Array Oper) : Bool := ops.toList.all fun o => !isVal o.op || o.guard.isSome
section
variable {P : Program} {N n0 : Nat} {ops : Array Oper} {r : List Oper} {Q : Post} {tm : List (Nat × AV)} {H H' : Heap} {v : AV} {op : Op} {ty : TypeId} {pos : String} {after : Array Edge} {g : Option (Nat × Bool)} {t : Nat} {st st' : St}
theorem AW.regionN {id : Nat} (_ : quiet ops = true) (h : ∀ Q : Post, Q .normal st' → OpsA P N ops ops.toList Q st) (h' : Q .normal st') : AW P N n0 (.region id ops false) Q st := AW.region (h _ h')
theorem opsN_some (_ : isVal op = false) (hd : t < N) (hg : guardA N ops tm g = some true) (h : OpA P ⟨tm, H⟩ op fun v' H2 => v' = v ∧ H2 = H') (hk : OpsA P N ops r Q ⟨(t, v) :: tm, H'⟩) : OpsA P N ops (⟨some t, op, ty, pos, after, g⟩ :: r) Q ⟨tm, H⟩ := opsA_some hd hg h hk
theorem opsN_none (_ : isVal op = false) (hg : guardA N ops tm g = some true) (h : OpA P ⟨tm, H⟩ op fun v' H2 => H2 = H') (hk : OpsA P N ops r Q ⟨tm, H'⟩) : OpsA P N ops (⟨none, op, ty, pos, after, g⟩ :: r) Q ⟨tm, H⟩ := opsA_none hg h hk
end
attribute [push_cast] resC resM keep List.take_succ_cons List.drop_succ_cons List.drop_nil
end Go.Aw
