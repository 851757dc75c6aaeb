/- An abstract memory over the model: objects are told by other numbers; what is no longer wanted is left behind. -/
import Derived.Test.YtioanpejndfbnaaAwK
namespace Go.Aw
open Go.RowKit
set_option linter.unusedSimpArgs false
set_option linter.unusedVariables false

def C.ren (r : Nat → Nat) : C → C
  | .os o sz off len => .os (r o) sz off len
  | .oe o sz x j => .oe (r o) sz x j
  | .op o j => .op (r o) j
  | .fn f caps => .fn f (caps.map fun p => (r p.1, p.2))
  | c => c
def A1.ren (r : Nat → Nat) : A1 → A1
  | .c x => .c (x.ren r)
  | .agg cs => .agg (cs.map (C.ren r))
def AV.ren (r : Nat → Nat) : AV → AV
  | .one a => .one (a.ren r)
  | .tup as => .tup (as.map (A1.ren r))
  | .undef => .undef
def Ob.ren (r : Nat → Nat) : Ob → Ob
  | .cells cs => .cells (cs.map (C.ren r))
  | .row e sz es => .row e sz (es.map (List.map (C.ren r)))
  | .dead => .dead

section
variable {S T : Nat → Prop} {w : World} {ρ ρ' : Map} {r : Nat → Nat}
theorem C.den_ren (c : C) (h : ∀ o ∈ c.names, ρ' (r o) = ρ o) (v : Value) (hd : c.den S T w ρ v) : (c.ren r).den S T w ρ' v := by
  cases c with
  | os o sz off len => simp only [C.den, C.ren] at hd ⊢; rw [h o (by simp [C.names])]; exact hd
  | oe o sz i j => simp only [C.den, C.ren] at hd ⊢; rw [h o (by simp [C.names])]; exact hd
  | op o j => simp only [C.den, C.ren] at hd ⊢; rw [h o (by simp [C.names])]; exact hd
  | fn f caps =>
    obtain ⟨vs, h1, h2, h3⟩ := hd
    refine ⟨vs, h1, by simpa using h2, fun k p hp => ?_⟩
    rw [List.getElem?_map] at hp
    obtain ⟨q, hq, rfl⟩ := Option.map_eq_some_iff.1 hp
    obtain ⟨b, c, h4, h5⟩ := h3 k q hq
    exact ⟨b, c, by rw [h q.1 (by simp only [C.names, List.mem_map]; exact ⟨q, List.mem_of_getElem? hq, rfl⟩)]; exact h4, h5⟩
  | _ => exact hd
theorem dens_ren : ∀ (cs : List C) (vs : List Value), (∀ c ∈ cs, ∀ o ∈ c.names, ρ' (r o) = ρ o) → dens S T w ρ cs vs → dens S T w ρ' (cs.map (C.ren r)) vs
  | [], [], _, _ => trivial
  | c :: cs, v :: vs, h, hd => ⟨C.den_ren c (h c (by simp)) v hd.1, dens_ren cs vs (fun c hc => h c (by simp [hc])) hd.2⟩
  | [], _ :: _, _, h => h.elim
  | _ :: _, [], _, h => h.elim
theorem A1.den_ren (a : A1) (h : ∀ o ∈ a.names, ρ' (r o) = ρ o) (v : Value) (hd : a.den S T w ρ v) : (a.ren r).den S T w ρ' v := by
  cases a with
  | c x => exact C.den_ren x h v hd
  | agg cs =>
    obtain ⟨vs, h1, h2⟩ := hd
    exact ⟨vs, h1, dens_ren cs vs (fun c hc o ho => h o (by simp only [A1.names, List.mem_flatMap]; exact ⟨c, hc, ho⟩)) h2⟩
theorem dens1_ren : ∀ (cs : List A1) (vs : List Value), (∀ c ∈ cs, ∀ o ∈ c.names, ρ' (r o) = ρ o) → dens1 S T w ρ cs vs → dens1 S T w ρ' (cs.map (A1.ren r)) vs
  | [], [], _, _ => trivial
  | c :: cs, v :: vs, h, hd => ⟨A1.den_ren c (h c (by simp)) v hd.1, dens1_ren cs vs (fun c hc => h c (by simp [hc])) hd.2⟩
  | [], _ :: _, _, h => h.elim
  | _ :: _, [], _, h => h.elim
theorem AV.den_ren (a : AV) (h : ∀ o ∈ a.names, ρ' (r o) = ρ o) (v : Value) (hd : a.den S T w ρ v) : (a.ren r).den S T w ρ' v := by
  cases a with
  | one a => exact A1.den_ren a h v hd
  | tup as =>
    obtain ⟨vs, h1, h2⟩ := hd
    exact ⟨vs, h1, dens1_ren as vs (fun c hc o ho => h o (by simp only [AV.names, List.mem_flatMap]; exact ⟨c, hc, ho⟩)) h2⟩
  | undef => trivial
theorem Ob.real_ren (ob : Ob) (o o' : Nat) (h : ∀ o ∈ ob.names, ρ' (r o) = ρ o) (ho : ρ' o' = ρ o) (hd : ob.real S w ρ o) : (ob.ren r).real S w ρ' o' := by
  cases ob with
  | cells cs =>
    obtain ⟨b, c, arr, t, h1, h0, h2, h3⟩ := hd
    exact ⟨b, c, arr, t, by rw [ho]; exact h1, h0, h2, dens_ren cs _ (fun c hc o ho => h o (by simp only [Ob.names, List.mem_flatMap]; exact ⟨c, hc, ho⟩)) h3⟩
  | row e sz es =>
    rcases hd with ⟨h1, h2⟩ | ⟨b, c, arr, pre, vs, rest, h1, h2, h3, h3', h4, h5, h5', h6, h7⟩
    · exact .inl ⟨by rw [ho]; exact h1, by rw [h2]; rfl⟩
    · refine .inr ⟨b, c, arr, pre, vs, rest, by rw [ho]; exact h1, h2, h3, h3', h4, by simpa using h5, h5', ?_, ?_⟩
      · intro x hx
        obtain ⟨y, hy, rfl⟩ := List.mem_map.1 hx
        simpa using h6 y hy
      · have := dens_ren (ρ' := ρ') (r := r) es.flatten vs (fun c hc o ho => h o (by simp only [Ob.names, List.mem_flatMap]; exact ⟨c, hc, ho⟩)) h7
        rwa [List.map_flatten] at this
  | dead => trivial

theorem C.names_ren (c : C) : (c.ren r).names = c.names.map r := by cases c <;> simp [C.ren, C.names]
theorem flat_ren (cs : List C) : (cs.map (C.ren r)).flatMap C.names = (cs.flatMap C.names).map r := by
  induction cs with
  | nil => rfl
  | cons c cs ih => simp [C.names_ren, ih]
theorem A1.names_ren (a : A1) : (a.ren r).names = a.names.map r := by
  cases a with
  | c x => exact C.names_ren x
  | agg cs => exact flat_ren cs
theorem AV.names_ren (a : AV) : (a.ren r).names = a.names.map r := by
  cases a with
  | one a => exact A1.names_ren a
  | tup as =>
    simp only [AV.ren, AV.names]
    induction as with
    | nil => rfl
    | cons c cs ih => simp [A1.names_ren, ih]
  | undef => rfl
theorem Ob.names_ren (ob : Ob) : (ob.ren r).names = ob.names.map r := by
  cases ob with
  | cells cs => exact flat_ren cs
  | row e sz es => simp only [Ob.ren, Ob.names, ← List.map_flatten]; exact flat_ren _
  | dead => rfl
theorem Ob.alive_ren (ob : Ob) : (ob.ren r).alive ↔ ob.alive := by cases ob <;> exact Iff.rfl
theorem C.ren_id (c : C) (h : ∀ n ∈ c.names, r n = n) : c.ren r = c := by
  cases c with
  | os o sz off len => simp [C.ren, h o (by simp [C.names])]
  | oe o sz i j => simp [C.ren, h o (by simp [C.names])]
  | op o j => simp [C.ren, h o (by simp [C.names])]
  | fn f caps =>
    simp only [C.ren, C.fn.injEq, true_and]
    conv => rhs; rw [← List.map_id caps]
    refine List.map_congr_left fun p hp => ?_
    have := h p.1 (by simp only [C.names, List.mem_map]; exact ⟨p, hp, rfl⟩)
    simp [this]
  | _ => rfl
theorem map_ren_id (cs : List C) (h : ∀ n ∈ cs.flatMap C.names, r n = n) : cs.map (C.ren r) = cs := by
  conv => rhs; rw [← List.map_id cs]
  exact List.map_congr_left fun c hc => C.ren_id c fun n hn => h n (List.mem_flatMap.2 ⟨c, hc, hn⟩)
theorem Ob.ren_id (ob : Ob) (h : ∀ n ∈ ob.names, r n = n) : ob.ren r = ob := by
  cases ob with
  | cells cs => simp only [Ob.ren, map_ren_id cs h]
  | row e sz es =>
    simp only [Ob.ren, Ob.row.injEq, true_and]
    conv => rhs; rw [← List.map_id es]
    exact List.map_congr_left fun x hx => map_ren_id x fun n hn => h n (by
      obtain ⟨c, hc, hn⟩ := List.mem_flatMap.1 hn
      exact List.mem_flatMap.2 ⟨c, List.mem_flatten.2 ⟨x, hx, hc⟩, hn⟩)
  | dead => rfl
theorem A1.ren_id (a : A1) (h : ∀ n ∈ a.names, r n = n) : a.ren r = a := by
  cases a with
  | c x => simp only [A1.ren, C.ren_id x h]
  | agg cs => simp only [A1.ren, map_ren_id cs h]
theorem AV.ren_id (a : AV) (h : ∀ n ∈ a.names, r n = n) : a.ren r = a := by
  cases a with
  | one a => simp only [AV.ren, A1.ren_id a h]
  | tup as =>
    simp only [AV.ren, AV.tup.injEq]
    conv => rhs; rw [← List.map_id as]
    exact List.map_congr_left fun c hc => A1.ren_id c fun n hn => h n (List.mem_flatMap.2 ⟨c, hc, hn⟩)
  | undef => rfl
end

/-- The objects of kept, told by r. -/
theorem Match.ren {K : Ctx} {S T R R' : Nat → Prop} {ρ : Map} {st st' : St} {a : Act} {w : World} (m : Match K S T ρ R st a w) (r : Nat → Nat) (kept : Nat → Prop)
    (hinj : ∀ o o', kept o → kept o' → r o = r o' → o = o') (h0 : ∀ o, o < K.n0 → kept o ∧ r o = o)
    (htm : ∀ t av', look st'.tm t = some av' → ∃ av, look st.tm t = some av ∧ av' = av.ren r ∧ ∀ n ∈ av.names, kept n)
    (hob : ∀ o' ob', st'.hp[o']? = some ob' → ob'.alive → ∃ o ob, kept o ∧ r o = o' ∧ st.hp[o]? = some ob ∧ ob' = ob.ren r ∧ ∀ n ∈ ob.names, kept n)
    (hR : ∀ n, kept n → ¬ R' (r n)) (hrn : ∀ n, R' n → K.n0 ≤ n) : ∃ ρ', (∀ o, kept o → ρ' (r o) = ρ o) ∧ Match K S T ρ' R' st' a w := by
  classical
  let ρ' : Map := fun m => if h : ∃ o, kept o ∧ r o = m then ρ h.choose else none
  have hρ : ∀ o, kept o → ρ' (r o) = ρ o := by
    intro o ho
    have h : ∃ o', kept o' ∧ r o' = r o := ⟨o, ho, rfl⟩
    show (if h : ∃ o', kept o' ∧ r o' = r o then ρ h.choose else none) = ρ o
    rw [dif_pos h, hinj _ _ h.choose_spec.1 ho h.choose_spec.2]
  have hal : ∀ o', aliveAt st'.hp o' → ∃ o, kept o ∧ r o = o' ∧ aliveAt st.hp o := by
    rintro o' ⟨ob', h1, h2⟩
    obtain ⟨o, ob, h3, h4, h5, h6, _⟩ := hob o' ob' h1 h2
    exact ⟨o, h3, h4, ob, h5, by rw [h6] at h2; exact (Ob.alive_ren ob).1 h2⟩
  have hbl : ∀ b, blocks ρ' st'.hp b → blocks ρ st.hp b := by
    rintro b ⟨o', c, h1, h2⟩
    obtain ⟨o, h3, rfl, h5⟩ := hal o' h1
    rw [hρ o h3] at h2
    exact ⟨o, c, h5, h2⟩
  refine ⟨ρ', hρ, ⟨?_, ?_, fun b hb => m.good.out b (hbl b hb), m.good.le, m.good.lt⟩, ?_, ?_, ?_, ?_, m.sz, m.df, m.fr, fun b hb => m.own b (hbl b hb), m.old, m.keepS, ?_, hrn, m.oldT, m.keepT⟩
  · intro o' ob' ho'
    by_cases al : ob'.alive
    · obtain ⟨o, ob, h3, rfl, h5, rfl, h7⟩ := hob o' ob' ho' al
      exact Ob.real_ren ob o _ (fun n hn => hρ n (h7 n hn)) (hρ o h3) (m.good.real o ob h5)
    · cases ob' with
      | dead => trivial
      | cells cs => exact absurd trivial al
      | row e sz es => exact absurd trivial al
  · intro o1 o2 b c c' h1 h2 h3 h4
    obtain ⟨p1, k1, rfl, a1⟩ := hal o1 h1
    obtain ⟨p2, k2, rfl, a2⟩ := hal o2 h2
    rw [hρ p1 k1] at h3
    rw [hρ p2 k2] at h4
    rw [m.good.apart p1 p2 b c c' a1 a2 h3 h4]
  · intro t av' h
    obtain ⟨av, h1, rfl, h3⟩ := htm t av' h
    exact AV.den_ren av (fun n hn => hρ n (h3 n hn)) _ (m.tm t av h1)
  · intro t av' h n hn
    obtain ⟨av, h1, rfl, h3⟩ := htm t av' h
    rw [AV.names_ren] at hn
    obtain ⟨k, hk, rfl⟩ := List.mem_map.1 hn
    exact hR k (h3 k hk)
  · intro o' ob' ho' n hn
    by_cases al : ob'.alive
    · obtain ⟨o, ob, h3, rfl, h5, rfl, h7⟩ := hob o' ob' ho' al
      rw [Ob.names_ren] at hn
      obtain ⟨k, hk, rfl⟩ := List.mem_map.1 hn
      exact hR k (h7 k hk)
    · cases ob' with
      | dead => simp [Ob.names] at hn
      | cells cs => exact absurd trivial al
      | row e sz es => exact absurd trivial al
  · intro n hn al
    obtain ⟨o, h3, rfl, _⟩ := hal n al
    exact hR o h3 hn
  · intro o ho
    obtain ⟨h1, h2⟩ := h0 o ho
    rw [← m.same o ho, ← hρ o h1, h2]

/-! ### what is left behind -/
/-- The numbers behind n0: by their place among outs. -/
def gcR (n0 : Nat) (outs : List Nat) (o : Nat) : Nat := if o < n0 then o else n0 + outs.idxOf o
def gcK (n0 : Nat) (outs : List Nat) (o : Nat) : Prop := o < n0 ∨ o ∈ outs
def gcHeap (n0 : Nat) (outs : List Nat) (H : Heap) : Heap := ((H.take n0).map (Ob.ren (gcR n0 outs))) ++ outs.map fun o => ((H[o]?).getD .dead).ren (gcR n0 outs)
def keptAll (n0 : Nat) (outs : List Nat) (ns : List Nat) : Prop := ∀ n ∈ ns, gcK n0 outs n
/-- .. the values by their names, told anew. -/
def gcTm (n0 : Nat) (outs : List Nat) (tm : List (Nat × AV)) : List (Nat × AV) → Prop
  | [] => True
  | (t, av') :: rest => (∃ av, look tm t = some av ∧ av' = av.ren (gcR n0 outs) ∧ keptAll n0 outs av.names) ∧ gcTm n0 outs tm rest
theorem look_gcTm {n0 : Nat} {outs : List Nat} {tm : List (Nat × AV)} : ∀ {tm' : List (Nat × AV)}, gcTm n0 outs tm tm' → ∀ t av', look tm' t = some av' → ∃ av, look tm t = some av ∧ av' = av.ren (gcR n0 outs) ∧ keptAll n0 outs av.names
  | [], _, t, av, h => by simp [look] at h
  | (k, v) :: r, hc, t, av, h => by
    simp only [look] at h
    by_cases e : t = k
    · rw [if_pos e] at h; cases h; rw [e]; exact hc.1
    · rw [if_neg e] at h; exact look_gcTm hc.2 t av h

theorem idxOf_at : ∀ {l : List Nat} (h : l.Nodup) {i : Nat} (hi : i < l.length), l.idxOf l[i] = i
  | [], _, i, hi => by simp at hi
  | x :: l, h, 0, _ => by simp
  | x :: l, h, i + 1, hi => by
    have hd := List.nodup_cons.1 h
    have hne : x ≠ l[i]'(by simpa using hi) := fun e => hd.1 (e ▸ List.getElem_mem _)
    simp only [List.getElem_cons_succ, List.idxOf_cons]
    rw [idxOf_at hd.2 (by simpa using hi)]
    have hb : (x == l[i]'(by simpa using hi)) = false := by simpa using hne
    rw [hb]; rfl
theorem Sub.gc {n0 : Nat} {st st' : St} (outs : List Nat) (hl : n0 ≤ st.hp.length) (ho : ∀ o ∈ outs, n0 ≤ o) (hnd : outs.Nodup) (htm : gcTm n0 outs st.tm st'.tm)
    (hH : ∀ o ob, o < n0 → st.hp[o]? = some ob → keptAll n0 outs ob.names) (hO : ∀ o ∈ outs, ∀ ob, st.hp[o]? = some ob → keptAll n0 outs ob.names) (hp : st'.hp = gcHeap n0 outs st.hp) : Sub n0 st st' := by
  intro K S T ρ a w hn m
  have hlen : ((st.hp.take n0).map (Ob.ren (gcR n0 outs))).length = n0 := by simp; omega
  have hi : ∀ o o', gcK n0 outs o → gcK n0 outs o' → gcR n0 outs o = gcR n0 outs o' → o = o' := by
    intro o o' k k' h
    have mem : ∀ {q}, gcK n0 outs q → ¬ q < n0 → q ∈ outs := fun {q} h1 h2 => h1.resolve_left h2
    unfold gcR at h
    split at h <;> rename_i h1 <;> split at h <;> rename_i h2
    · exact h
    · omega
    · omega
    · have e : outs.idxOf o = outs.idxOf o' := by omega
      have l1 := List.idxOf_lt_length_of_mem (mem k h1)
      have l2 := List.idxOf_lt_length_of_mem (mem k' h2)
      have g1 := List.getElem_idxOf l1
      have g2 := List.getElem_idxOf l2
      rw [← g1, ← g2]
      simp only [e]
  have h0 : ∀ o, o < K.n0 → gcK n0 outs o ∧ gcR n0 outs o = o := by
    intro o ho
    rw [hn] at ho
    exact ⟨.inl ho, by simp [gcR, ho]⟩
  have hob : ∀ o' ob', st'.hp[o']? = some ob' → ob'.alive → ∃ o ob, gcK n0 outs o ∧ gcR n0 outs o = o' ∧ st.hp[o]? = some ob ∧ ob' = ob.ren (gcR n0 outs) ∧ ∀ n ∈ ob.names, gcK n0 outs n := by
    intro o' ob' h al
    rw [hp] at h
    unfold gcHeap at h
    rw [List.getElem?_append] at h
    split at h
    · rename_i hlt
      rw [hlen] at hlt
      rw [List.getElem?_map, List.getElem?_take, if_pos hlt] at h
      obtain ⟨ob, h1, rfl⟩ := Option.map_eq_some_iff.1 h
      exact ⟨o', ob, .inl hlt, by simp [gcR, hlt], h1, rfl, hH o' ob hlt h1⟩
    · rename_i hge
      rw [hlen] at h hge
      rw [List.getElem?_map] at h
      obtain ⟨o, h1, h2⟩ := Option.map_eq_some_iff.1 h
      have hm := List.mem_of_getElem? h1
      cases hq : st.hp[o]? with
      | none => rw [hq] at h2; subst h2; exact al.elim
      | some ob =>
        rw [hq] at h2
        refine ⟨o, ob, .inr hm, ?_, hq, h2.symm, hO o hm ob hq⟩
        have hno := ho o hm
        obtain ⟨hl1, hl2⟩ := List.getElem?_eq_some_iff.1 h1
        have : outs.idxOf o = o' - n0 := by rw [← hl2]; exact idxOf_at hnd hl1
        unfold gcR
        rw [if_neg (by omega), this]; omega
  have hlp : st'.hp.length = n0 + outs.length := by
    rw [hp]; unfold gcHeap; rw [List.length_append, hlen, List.length_map]
  have hR : ∀ n, gcK n0 outs n → ¬ st'.hp.length ≤ gcR n0 outs n := by
    intro n k h
    rw [hlp] at h
    unfold gcR at h
    split at h
    · omega
    · rename_i h2
      have := List.idxOf_lt_length_of_mem (k.resolve_left h2)
      omega
  obtain ⟨ρ', _, m'⟩ := m.ren (R' := fun n => st'.hp.length ≤ n) (st' := st') (gcR n0 outs) (gcK n0 outs) hi h0 (look_gcTm htm) hob hR (fun n h => by rw [hn]; have h : st'.hp.length ≤ n := h; omega)
  exact ⟨S, T, ρ', m'⟩
end Go.Aw
