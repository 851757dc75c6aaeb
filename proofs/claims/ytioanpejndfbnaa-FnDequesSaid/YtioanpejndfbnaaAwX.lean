/- An abstract memory over the model: an object of the call's own becomes data that is read for good (frozen). -/
import Derived.Test.YtioanpejndfbnaaAwW
namespace Go.Aw
open Go.RowKit
set_option linter.unusedSimpArgs false
set_option linter.unusedVariables false

/-- What is frozen: a row, or cells. -/
inductive Fz where
  | row (sz : Nat) (es : List (List D))
  | cells (ds : List D)
/-- The object of which it is. -/
def Fz.of (e : TypeId) : Fz → Ob
  | .row sz es => .row e sz (es.map (·.map (D.toC true)))
  | .cells ds => .cells (ds.map (D.toC true))
def C.fz (o : Nat) (z : Fz) : C → C
  | .os q sz off len => match z with
    | .row sz' es => if q = o ∧ sz = sz' ∧ off + len ≤ es.length then .sl true sz ((es.drop off).take len) else .os q sz off len
    | .cells _ => .os q sz off len
  | .op q j => match z with
    | .cells ds => if q = o then .ra true (ds.drop j) else .op q j
    | .row _ _ => .op q j
  | c => c
def A1.fz (o : Nat) (z : Fz) : A1 → A1
  | .c x => .c (x.fz o z)
  | .agg cs => .agg (cs.map (C.fz o z))
def AV.fz (o : Nat) (z : Fz) : AV → AV
  | .one a => .one (a.fz o z)
  | .tup as => .tup (as.map (A1.fz o z))
  | .undef => .undef
def Ob.fz (o : Nat) (z : Fz) : Ob → Ob
  | .cells cs => .cells (cs.map (C.fz o z))
  | .row e sz es => .row e sz (es.map (List.map (C.fz o z)))
  | .dead => .dead

theorem C.fz_id {o : Nat} {z : Fz} (c : C) (h : o ∉ c.names) : c.fz o z = c := by
  cases c with
  | os q sz off len =>
    have hq : ¬ q = o := fun e => h (by simp [C.names, e])
    cases z <;> simp [C.fz, hq]
  | op q j =>
    have hq : ¬ q = o := fun e => h (by simp [C.names, e])
    cases z <;> simp [C.fz, hq]
  | _ => rfl
theorem C.fz_names (o : Nat) (z : Fz) (c : C) : ∀ n ∈ (c.fz o z).names, n ∈ c.names := by
  intro n hn
  cases c with
  | os q sz off len =>
    cases z with
    | row sz' es =>
      simp only [C.fz] at hn
      split at hn
      · simp [C.names] at hn
      · exact hn
    | cells ds => exact hn
  | op q j =>
    cases z with
    | row sz' es => exact hn
    | cells ds =>
      simp only [C.fz] at hn
      split at hn
      · simp [C.names] at hn
      · exact hn
  | _ => exact hn
theorem map_fz_id {o : Nat} {z : Fz} (cs : List C) (h : o ∉ cs.flatMap C.names) : cs.map (C.fz o z) = cs := by
  conv => rhs; rw [← List.map_id cs]
  exact List.map_congr_left fun c hc => C.fz_id c fun hn => h (List.mem_flatMap.2 ⟨c, hc, hn⟩)
theorem Ob.fz_id {o : Nat} {z : Fz} (ob : Ob) (h : o ∉ ob.names) : ob.fz o z = ob := by
  cases ob with
  | cells cs => exact congrArg Ob.cells (map_fz_id cs h)
  | row e sz es =>
    simp only [Ob.fz]
    congr 1
    conv => rhs; rw [← List.map_id es]
    refine List.map_congr_left fun r hr => map_fz_id r fun hn => h ?_
    obtain ⟨c, hc, hn⟩ := List.mem_flatMap.1 hn
    exact List.mem_flatMap.2 ⟨c, List.mem_flatten.2 ⟨r, hr, hc⟩, hn⟩
  | dead => rfl
theorem flat_fz (o : Nat) (z : Fz) (cs : List C) : ∀ n ∈ (cs.map (C.fz o z)).flatMap C.names, n ∈ cs.flatMap C.names := by
  intro n hn
  obtain ⟨c, hc, hn⟩ := List.mem_flatMap.1 hn
  obtain ⟨d, hd, rfl⟩ := List.mem_map.1 hc
  exact List.mem_flatMap.2 ⟨d, hd, C.fz_names o z d n hn⟩
theorem A1.fz_names (o : Nat) (z : Fz) (a : A1) : ∀ n ∈ (a.fz o z).names, n ∈ a.names := by
  cases a with
  | c x => exact C.fz_names o z x
  | agg cs => exact flat_fz o z cs
theorem AV.fz_names (o : Nat) (z : Fz) (av : AV) : ∀ n ∈ (av.fz o z).names, n ∈ av.names := by
  cases av with
  | one a => exact A1.fz_names o z a
  | tup as =>
    intro n hn
    obtain ⟨c, hc, hn⟩ := List.mem_flatMap.1 hn
    obtain ⟨d, hd, rfl⟩ := List.mem_map.1 hc
    exact List.mem_flatMap.2 ⟨d, hd, A1.fz_names o z d n hn⟩
  | undef => exact fun n hn => hn
theorem Ob.fz_names (o : Nat) (z : Fz) (ob : Ob) : ∀ n ∈ (ob.fz o z).names, n ∈ ob.names := by
  cases ob with
  | cells cs => exact flat_fz o z cs
  | row e sz es =>
    intro n hn
    simp only [Ob.fz, Ob.names, ← List.map_flatten] at hn
    exact flat_fz o z _ n hn
  | dead => exact fun n hn => hn
theorem Ob.fz_alive (o : Nat) (z : Fz) (ob : Ob) : (ob.fz o z).alive ↔ ob.alive := by cases ob <;> exact Iff.rfl

section
variable {S T : Nat → Prop} {w : World} {ρ : Map} {H : Heap}
/-- The blocks of an object. -/
def blockOf (ρ : Map) (o : Nat) (b : Nat) : Prop := ∃ c, ρ o = some (b, c)
theorem C.den_fz (g : Good S T ρ w H) {o : Nat} {z : Fz} {e : TypeId} (ho : H[o]? = some (z.of e)) {U : Nat → Prop} (hU : ∀ b, S b → U b) (hT : ∀ b, T b → U b) (c : C) (v : Value) (h : c.den S T w ρ v) :
    (c.fz o z).den (fun b => S b ∨ blockOf ρ o b) (fun b => T b ∨ blockOf ρ o b) w ρ v := by
  have lift : ∀ c : C, c.den S T w ρ v → c.den (fun b => S b ∨ blockOf ρ o b) (fun b => T b ∨ blockOf ρ o b) w ρ v := fun c hc =>
    C.den_ext (ext_ST (fun b hb => .inl hb) w) (ext_ST (fun b hb => .inl hb) w) c (fun _ _ => rfl) v hc
  cases c with
  | os q sz off len =>
    cases z with
    | cells ds => exact lift _ h
    | row sz' es =>
      simp only [C.fz]
      split
      · rename_i hq
        obtain ⟨rfl, rfl, hl⟩ := hq
        exact os_rd g (fun x hx => .inl hx) ho (fun b c hb => .inr ⟨c, hb⟩) hl h
      · exact lift _ h
  | op q j =>
    cases z with
    | row sz es => exact lift _ h
    | cells ds =>
      simp only [C.fz]
      split
      · rename_i hq
        subst hq
        obtain ⟨b, c, h1, rfl⟩ := h
        obtain ⟨b', c', arr, t, h2, h3, h4, h5⟩ := g.real q _ ho
        rw [h1] at h2; cases h2
        refine ⟨b, 0 + j, by rw [h3], ?_⟩
        refine rdCells_drop (dens_rdCells (vs := arr.toList) (S := S) (T := fun b => S b ∨ blockOf ρ q b) (.inr ⟨c, h1⟩) (fun x hx => .inl hx) h5 fun i u hi => ?_) j
        have hi' : arr[i]? = some u := by rw [← Array.getElem?_toList]; exact hi
        simp [World.cell?, h4, hi']
      · exact lift _ h
  | _ => exact lift _ h
theorem dens_fz (g : Good S T ρ w H) {o : Nat} {z : Fz} {e : TypeId} (ho : H[o]? = some (z.of e)) : ∀ (cs : List C) (vs : List Value), dens S T w ρ cs vs → dens (fun b => S b ∨ blockOf ρ o b) (fun b => T b ∨ blockOf ρ o b) w ρ (cs.map (C.fz o z)) vs
  | [], [], _ => trivial
  | c :: cs, v :: vs, h => ⟨C.den_fz g ho (U := fun _ => True) (fun _ _ => trivial) (fun _ _ => trivial) c v h.1, dens_fz g ho cs vs h.2⟩
  | [], _ :: _, h => h.elim
  | _ :: _, [], h => h.elim
theorem A1.den_fz (g : Good S T ρ w H) {o : Nat} {z : Fz} {e : TypeId} (ho : H[o]? = some (z.of e)) (a : A1) (v : Value) (h : a.den S T w ρ v) : (a.fz o z).den (fun b => S b ∨ blockOf ρ o b) (fun b => T b ∨ blockOf ρ o b) w ρ v := by
  cases a with
  | c x => exact C.den_fz g ho (U := fun _ => True) (fun _ _ => trivial) (fun _ _ => trivial) x v h
  | agg cs =>
    obtain ⟨vs, h1, h2⟩ := h
    exact ⟨vs, h1, dens_fz g ho cs vs h2⟩
theorem dens1_fz (g : Good S T ρ w H) {o : Nat} {z : Fz} {e : TypeId} (ho : H[o]? = some (z.of e)) : ∀ (cs : List A1) (vs : List Value), dens1 S T w ρ cs vs → dens1 (fun b => S b ∨ blockOf ρ o b) (fun b => T b ∨ blockOf ρ o b) w ρ (cs.map (A1.fz o z)) vs
  | [], [], _ => trivial
  | c :: cs, v :: vs, h => ⟨A1.den_fz g ho c v h.1, dens1_fz g ho cs vs h.2⟩
  | [], _ :: _, h => h.elim
  | _ :: _, [], h => h.elim
theorem AV.den_fz (g : Good S T ρ w H) {o : Nat} {z : Fz} {e : TypeId} (ho : H[o]? = some (z.of e)) (a : AV) (v : Value) (h : a.den S T w ρ v) : (a.fz o z).den (fun b => S b ∨ blockOf ρ o b) (fun b => T b ∨ blockOf ρ o b) w ρ v := by
  cases a with
  | one x => exact A1.den_fz g ho x v h
  | tup cs =>
    obtain ⟨vs, h1, h2⟩ := h
    exact ⟨vs, h1, dens1_fz g ho cs vs h2⟩
  | undef => trivial
/-- All that is known of a heap, when one of its objects is frozen. -/
theorem Good.freeze (g : Good S T ρ w H) {o : Nat} {z : Fz} {e : TypeId} (ho : H[o]? = some (z.of e)) :
    Good (fun b => S b ∨ blockOf ρ o b) (fun b => T b ∨ blockOf ρ o b) ρ w ((H.map (Ob.fz o z)).set o .dead) := by
  have hlt : o < H.length := (List.getElem?_eq_some_iff.1 ho).1
  have hlt' : o < (H.map (Ob.fz o z)).length := by simpa using hlt
  have hoal : aliveAt H o := ⟨_, ho, by cases z <;> trivial⟩
  have al : ∀ {q}, aliveAt ((H.map (Ob.fz o z)).set o .dead) q → q ≠ o ∧ aliveAt H q := fun {q} hq => by
    rcases alive_set hlt' hq with ⟨_, h⟩ | ⟨h1, ob, h2, h3⟩
    · exact h.elim
    · rw [List.getElem?_map] at h2
      obtain ⟨ob', h4, rfl⟩ := Option.map_eq_some_iff.1 h2
      exact ⟨h1, ob', h4, (Ob.fz_alive o z ob').1 h3⟩
  have g1 : Good S S ρ w H := g.shrink
  refine ⟨fun q ob hq => ?_, fun q q' b c c' h1 h2 => g.apart q q' b c c' (al h1).2 (al h2).2, ?_, fun b hb => hb.imp (g.le b) id, ?_⟩
  · rw [get_set hlt'] at hq
    split at hq
    · cases hq; trivial
    · rw [List.getElem?_map] at hq
      obtain ⟨ob', h4, rfl⟩ := Option.map_eq_some_iff.1 hq
      have hr := g.real q ob' h4
      cases ob' with
      | cells cs =>
        obtain ⟨b, c, arr, t, h1, h2, h3, h5⟩ := hr
        exact ⟨b, c, arr, t, h1, h2, h3, dens_fz g1 ho _ _ h5⟩
      | row e' sz es =>
        rcases hr with ⟨h1, rfl⟩ | ⟨b, c, arr, pre, vs, rest, h4, h5, h6, h6', h7, h8, h8', h9, h10⟩
        · exact .inl ⟨h1, rfl⟩
        · refine .inr ⟨b, c, arr, pre, vs, rest, h4, h5, h6, h6', h7, by simpa using h8, h8', fun r hr => ?_, ?_⟩
          · obtain ⟨r', hr', rfl⟩ := List.mem_map.1 hr
            simpa using h9 r' hr'
          · rw [← List.map_flatten]; exact dens_fz g1 ho _ _ h10
      | dead => trivial
  · rintro b ⟨q, c, h1, h2⟩ (hb | ⟨c', hc'⟩)
    · exact g.out b ⟨q, c, (al h1).2, h2⟩ hb
    · exact (al h1).1 (g.apart q o b c c' (al h1).2 hoal h2 hc')
  · rintro b (hb | ⟨c', hc'⟩)
    · exact g.lt b hb
    · exact g.block_lt ⟨o, c', hoal, hc'⟩
end

/-- The values by their names, one object frozen. -/
def fzTm (o : Nat) (z : Fz) (tm : List (Nat × AV)) : List (Nat × AV) → Prop
  | [] => True
  | (t, av') :: rest => (∃ av, look tm t = some av ∧ av' = av.fz o z) ∧ fzTm o z tm rest
theorem look_fzTm {o : Nat} {z : Fz} {tm : List (Nat × AV)} : ∀ {tm' : List (Nat × AV)}, fzTm o z tm tm' → ∀ t av', look tm' t = some av' → ∃ av, look tm t = some av ∧ av' = av.fz o z
  | [], _, t, av, h => by simp [look] at h
  | (k, v) :: r, hc, t, av, h => by
    simp only [look] at h
    by_cases e : t = k
    · rw [if_pos e] at h; cases h; rw [e]; exact hc.1
    · rw [if_neg e] at h; exact look_fzTm hc.2 t av h
theorem Sub.freeze {n0 : Nat} {tm tm' : List (Nat × AV)} {H : Heap} (o : Nat) (z : Fz) {e : TypeId} (ho : H[o]? = some (z.of e)) (hn : n0 ≤ o) (htm : fzTm o z tm tm') : Sub n0 ⟨tm, H⟩ ⟨tm', (H.map (Ob.fz o z)).set o .dead⟩ := by
  intro K S T ρ a w hn0 m
  have m : Match K S T ρ (fun n => H.length ≤ n) ⟨tm, H⟩ a w := m
  have hlt : o < H.length := (List.getElem?_eq_some_iff.1 ho).1
  have hlt' : o < (H.map (Ob.fz o z)).length := by simpa using hlt
  have hoal : aliveAt H o := ⟨_, ho, by cases z <;> trivial⟩
  have hlen : ((H.map (Ob.fz o z)).set o .dead).length = H.length := by simp
  have al : ∀ {q}, aliveAt ((H.map (Ob.fz o z)).set o .dead) q → aliveAt H q := fun {q} hq => by
    rcases alive_set hlt' hq with ⟨_, h⟩ | ⟨h1, ob, h2, h3⟩
    · exact h.elim
    · rw [List.getElem?_map] at h2
      obtain ⟨ob', h4, rfl⟩ := Option.map_eq_some_iff.1 h2
      exact ⟨ob', h4, (Ob.fz_alive o z ob').1 h3⟩
  refine ⟨_, _, ρ, ⟨m.good.freeze ho, fun t av' h => ?_, fun t av' h n hn => ?_, fun q ob hq n hn => ?_, fun n hn h => ?_, m.sz, m.df, m.fr, fun b ⟨q, c, h1, h2⟩ => m.own b ⟨q, c, al h1, h2⟩, ?_, fun b hb => .inl (m.keepS b hb), m.same, ?_, ?_, fun b hb => .inl (m.keepT b hb)⟩⟩
  · obtain ⟨av, h1, rfl⟩ := look_fzTm htm t av' h
    exact AV.den_fz m.good ho av _ (m.tm t av h1)
  · obtain ⟨av, h1, rfl⟩ := look_fzTm htm t av' h
    intro hr
    exact m.tmN t av h1 n (AV.fz_names o z av n hn) (by rw [← hlen]; exact hr)
  · intro hr
    have hr : H.length ≤ n := by rw [← hlen]; exact hr
    simp only at hq
    rw [get_set hlt'] at hq
    split at hq
    · cases hq; simp [Ob.names] at hn
    · rw [List.getElem?_map] at hq
      obtain ⟨ob', h4, rfl⟩ := Option.map_eq_some_iff.1 hq
      exact m.obN q ob' h4 n (Ob.fz_names o z ob' n hn) hr
  · exact m.rfree n (by rw [← hlen]; exact hn) (al h)
  · rintro b (hb | ⟨c, hc⟩)
    · exact m.old b hb
    · exact .inr (m.own b ⟨o, c, hoal, hc⟩)
  · intro n hn
    exact m.rn n (by rw [← hlen]; exact hn)
  · rintro b (hb | hb)
    · exact (m.oldT b hb).imp id .inl
    · exact .inr (.inr hb)
/-- .. of the objects behind the heap that came in, the one at k. -/
theorem Sub.frz {n0 : Nat} {tm tm' : List (Nat × AV)} {H L : Heap} (k : Nat) (z : Fz) {e : TypeId} (hL : L[k]? = some (z.of e)) (hcl : closed H) (hn0 : H.length = n0) (htm : fzTm (n0 + k) z tm tm') {L2 : Heap} (hL2 : (L.map (Ob.fz (n0 + k) z)).set k .dead = L2) :
    Sub n0 ⟨tm, H ++ L⟩ ⟨tm', H ++ L2⟩ := by
  subst hn0
  have h := Sub.freeze (n0 := H.length) (tm := tm) (tm' := tm') (H := H ++ L) (H.length + k) z (e := e) (by rw [get_at_add]; exact hL) (by omega) htm
  have hH : H.map (Ob.fz (H.length + k) z) = H := by
    conv => rhs; rw [← List.map_id H]
    refine List.map_congr_left fun ob hob => ?_
    obtain ⟨o, ho⟩ := List.mem_iff_getElem?.1 hob
    exact Ob.fz_id ob fun hn => by have := hcl o ob ho _ hn; omega
  rw [List.map_append, hH, List.set_append_right _ _ (by omega), Nat.add_sub_cancel_left, hL2] at h
  exact h
end Go.Aw
