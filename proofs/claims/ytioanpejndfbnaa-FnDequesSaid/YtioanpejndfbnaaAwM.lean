/- An abstract memory over the model: what a call does, told once for each function; the call; a function from its body. -/
import Derived.Test.YtioanpejndfbnaaAwL
namespace Go.Aw
open Go.RowKit
set_option linter.unusedSimpArgs false
set_option linter.unusedVariables false

def densA (S T : Nat → Prop) (w : World) (ρ : Map) : List AV → List Value → Prop
  | [], [] => True
  | c :: cs, v :: vs => c.den S T w ρ v ∧ densA S T w ρ cs vs
  | _, _ => False
/-- What a call has done to a memory. -/
structure Done (S T : Nat → Prop) (ρ : Map) (w : World) (H : Heap) (S' T' : Nat → Prop) (ρ' : Map) (w' : World) (H' : Heap) (rv : AV) (v : Value) : Prop where
  good : Good S' T' ρ' w' H'
  res : rv.den S' T' w' ρ' v
  resN : ∀ n ∈ rv.names, n < H'.length
  obN : ∀ (o : Nat) (ob : Ob), H'[o]? = some ob → ∀ n ∈ ob.names, n < H'.length
  len : H.length ≤ H'.length
  S0 : ∀ b, S b → S' b
  S1 : ∀ b, S' b → S b ∨ blocks ρ H b ∨ w.heap.size ≤ b
  T0 : ∀ b, T b → T' b
  T1 : ∀ b, T' b → T b ∨ S' b
  fr : Fr w (blocks ρ H) w'
  own : ∀ b, blocks ρ' H' b → blocks ρ H b ∨ w.heap.size ≤ b
  same : ∀ o, o < H.length → ρ' o = ρ o

/-- No object names one that is not there. -/
def closed (H : Heap) : Prop := ∀ (o : Nat) (ob : Ob), H[o]? = some ob → ∀ n ∈ ob.names, n < H.length
def closedA (H : Heap) (args : List AV) : Prop := ∀ av ∈ args, ∀ n ∈ av.names, n < H.length
/-- Called with these upon such a memory, the function ends, with that and such a memory. -/
def AC (P : Program) (f : FuncId) (args : List AV) (H : Heap) (res : AV) (H' : Heap) : Prop :=
  (∃ fn, P.funcs[f]? = some fn ∧ (fn.name == "runtime.NumGoroutine") = false ∧ fn.body.isNone = false) ∧
  (closed H → closedA H args → ∀ S T ρ w vs, Good S T ρ w H → densA S T w ρ args vs →
    Calls P f vs.toArray w fun e w' => ∃ v S' T' ρ', e = .returned v ∧ Done S T ρ w H S' T' ρ' w' H' res v)

section
variable {K : Ctx} {S T R : Nat → Prop} {ρ : Map} {st : St} {a : Act} {w : World}
theorem densA_args (m : Match K S T ρ R st a w) : ∀ (xs : List Operand), densA S T w ρ (xs.map (ev st.tm)) (xs.map a.eval)
  | [] => trivial
  | x :: xs => ⟨m.ev x, densA_args m xs⟩
theorem densA_append {S T : Nat → Prop} {w : World} {ρ : Map} : ∀ {as bs : List AV} {vs us : List Value}, densA S T w ρ as vs → densA S T w ρ bs us → densA S T w ρ (as ++ bs) (vs ++ us)
  | [], _, [], _, _, h => h
  | _ :: _, _, _ :: _, _, h, h' => ⟨h.1, densA_append h.2 h'⟩
  | [], _, _ :: _, _, h, _ => h.elim
  | _ :: _, _, [], _, h, _ => h.elim
def capsAV (caps : List (Nat × Nat)) : List AV := caps.map fun p => .one (.c (.op p.1 p.2))
theorem densA_caps {S T : Nat → Prop} {w : World} {ρ : Map} : ∀ {caps : List (Nat × Nat)} {vs : List Value}, vs.length = caps.length → (∀ (k : Nat) (p : Nat × Nat), caps[k]? = some p → ∃ b c, ρ p.1 = some (b, c) ∧ vs[k]? = some (.pointer (some ⟨b, c.1 + p.2, none⟩))) → densA S T w ρ (capsAV caps) vs
  | [], [], _, _ => trivial
  | p :: caps, v :: vs, hl, h => by
    obtain ⟨b, c, h1, h2⟩ := h 0 p rfl
    have h2 : v = .pointer (some ⟨b, c.1 + p.2, none⟩) := by simpa using h2
    exact ⟨⟨b, c, h1, h2⟩, densA_caps (by simpa using hl) fun k q hq => by simpa using h (k + 1) q (by simpa using hq)⟩
  | [], _ :: _, hl, _ => by simp at hl
  | _ :: _, [], hl, _ => by simp at hl

theorem run_enter {P : Program} {ρ : Operand → Value} {o : Oper} {f : FuncId} {fn : Func} {x : Operand} {args : Array Operand} {ats : Array TypeId} {vs : List Value} (hop : o.op = .call { callee := .value x, args, argTypes := ats }) (hx : ρ x = .func (.func f) #[] vs.toArray)
    (hf : P.funcs[f]? = some fn) (hname : (fn.name == "runtime.NumGoroutine") = false) (hb : fn.body.isNone = false) : (execOp ρ o).run P w = .ok (.enter f (args.map ρ ++ vs.toArray)) w := by
  have h1 : ¬ fn.name = "runtime.NumGoroutine" := by simpa using hname
  have h2 : ¬ fn.body = none := by cases hx : fn.body <;> simp_all
  unfold execOp
  simp [hop, resolve, Deferred.ofValue, invoke, callFunc, hf, h1, h2, hx]

/-- The call of a function of which it is told. -/
theorem MatchI.call (m : MatchI K S T ρ st a w) {o : Oper} {x : Operand} {args : Array Operand} {ats : Array TypeId} (hop : o.op = .call { callee := .value x, args, argTypes := ats })
    {f : FuncId} {caps : List (Nat × Nat)} (hx : ev st.tm x = .one (.c (.fn f caps))) {res : AV} {H' : Heap} (hc : AC K.P f (args.toList.map (ev st.tm) ++ capsAV caps) st.hp res H') :
    ∃ vs, (execOp a.eval o).run K.P w = .ok (.enter f vs) w ∧ Calls K.P f vs w fun e w' => ∃ v S' T' ρ', e = .returned v ∧ MatchI K S' T' ρ' ⟨st.tm, H'⟩ a w' ∧ res.den S' T' w' ρ' v ∧ ∀ n ∈ res.names, n < H'.length := by
  obtain ⟨⟨fn, hf, hn, hb⟩, hc⟩ := hc
  have hxd := m.ev x
  rw [hx] at hxd
  obtain ⟨cvs, hx1, hx2, hx3⟩ := hxd
  refine ⟨_, run_enter hop hx1 hf hn hb, ?_⟩
  have hcl : closed st.hp := fun o ob ho n hn => Nat.lt_of_not_le (m.obN o ob ho n hn)
  have hca : closedA st.hp (args.toList.map (ev st.tm) ++ capsAV caps) := by
    intro av hav n hn
    rcases List.mem_append.1 hav with h | h
    · obtain ⟨y, _, rfl⟩ := List.mem_map.1 h
      exact Nat.lt_of_not_le (m.evN y n hn)
    · obtain ⟨p, hp, rfl⟩ := List.mem_map.1 h
      simp only [AV.names, A1.names, C.names, List.mem_singleton] at hn
      exact Nat.lt_of_not_le (m.evN x n (by rw [hx]; simp only [AV.names, A1.names, C.names, List.mem_map]; exact ⟨p, hp, hn.symm⟩))
  have hargs := densA_append (densA_args m args.toList) (densA_caps (S := S) (T := T) (w := w) hx2 hx3)
  have hcalls := hc hcl hca S T ρ w _ m.good hargs
  have e1 : (args.toList.map a.eval ++ cvs).toArray = args.map a.eval ++ cvs.toArray := by
    apply Array.toList_inj.1
    simp
  rw [e1] at hcalls
  refine Calls.mono hcalls ?_
  rintro e w' ⟨v, S', T', ρ', rfl, d⟩
  have hle : K.n0 ≤ st.hp.length := m.rn st.hp.length (Nat.le_refl _)
  have hT : Ext T T' w w' := fun b hb => ⟨d.T0 b hb, d.fr.keep b (m.good.lt b hb) fun h => m.good.out b h hb⟩
  have hS : Ext S S' w w' := fun b hb => ⟨d.S0 b hb, (hT b (m.good.le b hb)).2⟩
  refine ⟨v, S', T', ρ', rfl, ⟨d.good, ?_, ?_, fun o ob ho n hn hr => ?_, ?_, m.sz, m.df, ?_, ?_, ?_, fun b hb => d.S0 b (m.keepS b hb), ?_, ?_, ?_, fun b hb => d.T0 b (m.keepT b hb)⟩, d.res, d.resN⟩
  · intro t av h
    exact AV.den_ext hS hT av (fun n hn => d.same n (Nat.lt_of_not_le (m.tmN t av h n hn))) _ (m.tm t av h)
  · intro t av h n hn hr
    have h1 := Nat.lt_of_not_le (m.tmN t av h n hn)
    have h2 : H'.length ≤ n := hr
    have := d.len
    omega
  · have h1 := d.obN o ob ho n hn
    have h2 : H'.length ≤ n := hr
    omega
  · rintro n hr ⟨ob, h1, _⟩
    have h2 : H'.length ≤ n := hr
    have := (List.getElem?_eq_some_iff.1 h1).1
    omega
  · refine ⟨d.fr.os.trans m.fr.os, d.fr.tape.trans m.fr.tape, d.fr.output.trans m.fr.output, Nat.le_trans m.fr.size d.fr.size, fun k hk hx => ?_⟩
    rw [d.fr.keep k (Nat.lt_of_lt_of_le hk m.fr.size) ?_]
    · exact m.fr.keep k hk hx
    · intro h
      rcases m.own k h with h | h
      · exact hx h
      · omega
  · intro b hb
    rcases d.own b hb with h | h
    · exact m.own b h
    · exact .inr (Nat.le_trans m.fr.size h)
  · intro b hb
    rcases d.S1 b hb with h | h | h
    · exact m.old b h
    · exact .inr (m.own b h)
    · exact .inr (.inr (Nat.le_trans m.fr.size h))
  · intro o ho
    rw [d.same o (by omega)]
    exact m.same o ho
  · intro n hr
    have h2 : H'.length ≤ n := hr
    have := d.len
    omega
  · intro b hb
    rcases d.T1 b hb with h | h
    · rcases m.oldT b h with h | h
      · exact .inl h
      · exact .inr (d.S0 b h)
    · exact .inr h
end

/-! ### a function from its body -/
def argsTm : Nat → List AV → List (Nat × AV)
  | _, [] => []
  | k, a :: as => (k, a) :: argsTm (k + 1) as
theorem look_argsTm : ∀ {as : List AV} {k t : Nat} {av : AV}, look (argsTm k as) t = some av → k ≤ t ∧ as[t - k]? = some av
  | [], _, _, _, h => by simp [argsTm, look] at h
  | a :: as, k, t, av, h => by
    simp only [argsTm, look] at h
    by_cases e : t = k
    · rw [if_pos e] at h; cases h; subst e; simp
    · rw [if_neg e] at h
      obtain ⟨h1, h2⟩ := look_argsTm h
      refine ⟨by omega, ?_⟩
      rw [show t - k = (t - (k + 1)) + 1 by omega]
      simpa using h2
theorem densA_get {S T : Nat → Prop} {w : World} {ρ : Map} : ∀ {as : List AV} {vs : List Value} {j : Nat} {c : AV}, densA S T w ρ as vs → as[j]? = some c → ∃ v, vs[j]? = some v ∧ c.den S T w ρ v
  | [], _, _, _, _, h => by simp at h
  | _ :: _, [], _, _, h, _ => h.elim
  | c :: cs, v :: vs, 0, _, h, hj => by simp at hj; subst hj; exact ⟨v, rfl, h.1⟩
  | c :: cs, v :: vs, j + 1, _, h, hj => by
    have := densA_get h.2 (j := j) (by simpa using hj)
    simpa using this
theorem densA_len {S T : Nat → Prop} {w : World} {ρ : Map} : ∀ {as : List AV} {vs : List Value}, densA S T w ρ as vs → as.length = vs.length
  | [], [], _ => rfl
  | _ :: _, _ :: _, h => by simp [densA_len h.2]
  | [], _ :: _, h => h.elim
  | _ :: _, [], h => h.elim

/-- The values of the result variables. -/
def resL (tm : List (Nat × AV)) : List ResultVar → Option (List A1)
  | [] => some []
  | .tmp t :: r => match look tm t, resL tm r with
    | some (.one a), some as => some (a :: as)
    | _, _ => none
  | _ :: _ => none
def resA (tm : List (Nat × AV)) (rs : List ResultVar) : Option AV :=
  match resL tm rs with
  | some [a] => some (.one a)
  | some as => some (.tup as)
  | none => none
def resF (tmps : Array Value) : ResultVar → Sem Value
  | .tmp t => pure (tmps.getD t undef)
  | .cell x t => do loadVar t (← asAddr (tmps.getD x undef))
theorem results_is (fn : Func) (tmps : Array Value) : results fn tmps = (do let vs ← fn.results.mapM (resF tmps); pure (if h : vs.size = 1 then vs[0] else .tuple vs)) := by
  have : resF tmps = fun x : ResultVar => (match x with | .tmp t => pure (tmps.getD t undef) | .cell x t => do loadVar t (← asAddr (tmps.getD x undef)) : Sem Value) := by
    funext x; cases x <;> rfl
  rw [this]; rfl
theorem resL_run {K : Ctx} {S T R : Nat → Prop} {ρ : Map} {st : St} {a : Act} {w : World} (m : Match K S T ρ R st a w) {P : Program} : ∀ {rs : List ResultVar} {as : List A1}, resL st.tm rs = some as →
    ∃ vs : List Value, (rs.mapM (resF a.tmps)).run P w = .ok vs w ∧ dens1 S T w ρ as vs ∧ ∀ c ∈ as, ∀ n ∈ c.names, ¬ R n
  | [], as, h => by cases h; exact ⟨[], rfl, trivial, fun c hc => by simp at hc⟩
  | .tmp t :: r, as, h => by
    simp only [resL] at h
    split at h
    · rename_i x xs h1 h2
      cases h
      obtain ⟨vs, h3, h4, h5⟩ := resL_run m (P := P) h2
      refine ⟨a.tmps.getD t undef :: vs, ?_, ⟨m.tm t _ h1, h4⟩, ?_⟩
      · simp only [List.mapM_cons, Sem.run_bind, resF, Sem.run_pure, Result.andThen_ok, h3]
      · intro c hc n hn
        rcases List.mem_cons.1 hc with rfl | hc
        · exact m.tmN t _ h1 n hn
        · exact h5 c hc n hn
    · cases h
  | .cell x t :: r, as, h => by cases h
theorem resA_run {K : Ctx} {S T R : Nat → Prop} {ρ : Map} {st : St} {a : Act} {w : World} (m : Match K S T ρ R st a w) {P : Program} {fn : Func} {res : AV} (h : resA st.tm fn.results.toList = some res) :
    ∃ v, (results fn a.tmps).run P w = .ok v w ∧ res.den S T w ρ v ∧ ∀ n ∈ res.names, ¬ R n := by
  unfold resA at h
  have key : ∀ as, resL st.tm fn.results.toList = some as → ∃ vs : List Value, (results fn a.tmps).run P w = .ok (if h : vs.toArray.size = 1 then vs.toArray[0] else .tuple vs.toArray) w ∧ dens1 S T w ρ as vs ∧ ∀ c ∈ as, ∀ n ∈ c.names, ¬ R n := by
    intro as has
    obtain ⟨vs, h1, h2, h3⟩ := resL_run m (P := P) has
    refine ⟨vs, ?_, h2, h3⟩
    rw [results_is]
    rw [Sem.run_bind, Array.mapM_eq_mapM_toList]
    simp only [Sem.run_bind, Sem.run_map, h1, Result.andThen_ok, Sem.run_pure]
  have len1 : ∀ {as : List A1} {vs : List Value}, dens1 S T w ρ as vs → as.length = vs.length := by
    intro as
    induction as with
    | nil => intro vs h; cases vs with
      | nil => rfl
      | cons _ _ => exact h.elim
    | cons a as ih => intro vs h; cases vs with
      | nil => exact h.elim
      | cons v vs => simp [ih h.2]
  split at h
  · rename_i x hx
    cases h
    obtain ⟨vs, h1, h2, h3⟩ := key _ hx
    cases vs with
    | nil => exact h2.elim
    | cons v vs => cases vs with
      | cons _ _ => exact h2.2.elim
      | nil => exact ⟨v, h1, h2.1, h3 x (by simp)⟩
  · rename_i as hne hx
    cases h
    obtain ⟨vs, h1, h2, h3⟩ := key _ hx
    refine ⟨.tuple vs.toArray, ?_, ⟨vs, rfl, h2⟩, ?_⟩
    · rw [h1, dif_neg]
      intro h
      have hl := len1 h2
      rw [show vs.length = 1 by simpa using h] at hl
      obtain ⟨x, rfl⟩ := List.length_eq_one_iff.1 hl
      exact hne x rfl
    · intro n hn
      simp only [AV.names, List.mem_flatMap] at hn
      obtain ⟨c, hc, hn⟩ := hn
      exact h3 c hc n hn
  · cases h

/-- It has come to an end, with that in the results and such a memory. -/
def retP (n0 : Nat) (rs : List ResultVar) (res : AV) (H' : Heap) : Post := fun e st => (e = .ret ∨ e = .normal) ∧ ∃ st', Sub n0 st st' ∧ st'.hp = H' ∧ resA st'.tm rs = some res

theorem AC.of {P : Program} {f : FuncId} {fn : Func} {c : Code} (hf : P.funcs[f]? = some fn) (hname : (fn.name == "runtime.NumGoroutine") = false) (hb : fn.body = some c) {args : List AV} {H : Heap} {res : AV} {H' : Heap}
    (hn : args.length ≤ fn.ntmps) (h : closed H → closedA H args → AW P fn.ntmps H.length c (retP H.length fn.results.toList res H') ⟨argsTm 0 args, H⟩) : AC P f args H res H' := by
  refine ⟨⟨fn, hf, hname, by rw [hb]; rfl⟩, fun hcl hca S T ρ w vs g hd => ?_⟩
  have hl := densA_len hd
  refine calls_of_wp hf hb ?_
  let K : Ctx := { P := P, w0 := w, X := blocks ρ H, S0 := S, T0 := T, ρ0 := ρ, n0 := H.length, N := fn.ntmps }
  have m : MatchI K S T ρ ⟨argsTm 0 args, H⟩ { tmps := vs.toArray ++ Array.replicate (fn.ntmps - vs.toArray.size) undef, defers := [] } w := by
    refine ⟨g, ?_, ?_, ?_, ?_, ?_, rfl, Fr.refl _ _, fun b hb => .inl hb, fun b hb => .inl hb, fun b hb => hb, fun o _ => rfl, fun n hn => hn, fun b hb => .inl hb, fun b hb => hb⟩
    · intro t av h
      obtain ⟨_, h2⟩ := look_argsTm h
      obtain ⟨v, h3, h4⟩ := densA_get hd h2
      have : (vs.toArray ++ Array.replicate (fn.ntmps - vs.toArray.size) undef).getD t undef = v := by
        rw [Array.getD_eq_getD_getElem?, Array.getElem?_append_left (by have := (List.getElem?_eq_some_iff.1 h3).1; simpa using this)]
        have h3 : vs[t]? = some v := by simpa using h3
        simp [h3]
      show av.den S T w ρ ((vs.toArray ++ Array.replicate (fn.ntmps - vs.toArray.size) undef).getD t undef)
      rw [this]; exact h4
    · intro t av h n hn hr
      obtain ⟨_, h2⟩ := look_argsTm h
      have := hca av (List.mem_of_getElem? h2) n hn
      exact absurd hr (Nat.not_le_of_lt this)
    · intro o ob ho n hn hr
      exact absurd hr (Nat.not_le_of_lt (hcl o ob ho n hn))
    · rintro n hr ⟨ob, h1, _⟩
      have h2 : H.length ≤ n := hr
      have := (List.getElem?_eq_some_iff.1 h1).1
      omega
    · show (vs.toArray ++ Array.replicate (fn.ntmps - vs.toArray.size) undef).size = fn.ntmps
      simp; omega
  refine wp_mono (h hcl hca K S T ρ _ w rfl rfl rfl m) ?_
  intro e a' w' hl
  have fin : ∀ st, retP H.length fn.results.toList res H' e st → ∀ S T ρ', MatchI K S T ρ' st a' w' → a'.defers = [] ∧ ∃ v, (results fn a'.tmps).run P w' = .ok v w' ∧ ∃ v' S' T' ρ'', Ending.returned v = .returned v' ∧ Done K.S0 K.T0 ρ w H S' T' ρ'' w' H' res v' := by
    rintro st ⟨_, st', hsub, rfl, hres⟩ S1 T1 ρ1 m1
    obtain ⟨S2, T2, ρ2, m2⟩ := hsub K S1 T1 ρ1 a' w' rfl m1
    obtain ⟨v, h1, h2, h3⟩ := resA_run m2 (P := P) hres
    refine ⟨m2.df, v, h1, v, S2, T2, ρ2, rfl, ⟨m2.good, h2, fun n hn => Nat.lt_of_not_le (h3 n hn), fun o ob ho n hn => Nat.lt_of_not_le (m2.obN o ob ho n hn), ?_, m2.keepS, m2.old, m2.keepT, m2.oldT, m2.fr, m2.own, m2.same⟩⟩
    exact m2.rn st'.hp.length (Nat.le_refl _)
  cases e with
  | normal => obtain ⟨S1, T1, ρ1, st, q, m1⟩ := hl; exact fin st q _ _ _ m1
  | ret => obtain ⟨S1, T1, ρ1, st, q, m1⟩ := hl; exact fin st q _ _ _ m1
  | exit id => obtain ⟨S1, T1, ρ1, st, q, m1⟩ := hl; rcases q.1 with h | h <;> cases h
  | goto l => exact hl.elim
  | panic c => exact hl.elim
  | outgrown => exact hl.elim
end Go.Aw
