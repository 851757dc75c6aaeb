/- An abstract memory over the model: a slice of one's own is lent to a call. -/
import Derived.Test.YtioanpejndfbnaaAwN
namespace Go.Aw
open Go.RowKit
set_option linter.unusedSimpArgs false
set_option linter.unusedVariables false

section
variable {S T : Nat → Prop} {w : World} {ρ : Map}
theorem D.of_toC {lv : Bool} {d : D} {v : Value} (h : (d.toC lv).den S T w ρ v) : D.rd (if lv then S else T) w d v := by
  cases d with
  | int k n => simpa [D.toC, C.den, D.rd] using h
  | bool x => simpa [D.toC, C.den, D.rd] using h
  | str x => simpa [D.toC, C.den, D.rd] using h
  | sl sz es => exact h
theorem dens_rdCells {b : Nat} (hb : T b) (hST : ∀ x, S x → T x) : ∀ {ds : List D} {o : Nat} {vs : List Value}, dens S S w ρ (ds.map (D.toC true)) vs → (∀ j u, vs[j]? = some u → w.cell? ⟨b, o + j, none⟩ = some u) → D.rdCells T w b o ds
  | [], _, _, _, _ => by unfold D.rdCells; trivial
  | d :: ds, o, [], h, _ => h.elim
  | d :: ds, o, v :: vs, h, hc => by
    unfold D.rdCells
    refine ⟨⟨v, hb, hc 0 v rfl, D.rd_ext (ext_ST hST w) d v (D.of_toC h.1)⟩, dens_rdCells hb hST h.2 fun j u hj => ?_⟩
    have := hc (j + 1) u (by simpa using hj)
    rwa [show o + (j + 1) = o + 1 + j by omega] at this
theorem dens_split : ∀ {cs ds : List C} {vs : List Value}, dens S T w ρ (cs ++ ds) vs → ∃ us ws, vs = us ++ ws ∧ dens S T w ρ cs us ∧ dens S T w ρ ds ws
  | [], ds, vs, h => ⟨[], vs, rfl, trivial, h⟩
  | c :: cs, ds, [], h => h.elim
  | c :: cs, ds, v :: vs, h => by
    obtain ⟨us, ws, h1, h2, h3⟩ := dens_split h.2
    exact ⟨v :: us, ws, by rw [h1]; rfl, ⟨h.1, h2⟩, h3⟩
theorem dens_rdRows {b sz : Nat} (hb : T b) (hST : ∀ x, S x → T x) : ∀ {ds : List (List D)} {o : Nat} {vs : List Value}, (∀ r ∈ ds, r.length = sz) → dens S S w ρ (ds.map (·.map (D.toC true))).flatten vs → (∀ j u, vs[j]? = some u → w.cell? ⟨b, o + j, none⟩ = some u) → D.rdRows T w sz b o ds
  | [], _, _, _, _, _ => by unfold D.rdRows; trivial
  | d :: ds, o, vs, hs, h, hc => by
    unfold D.rdRows
    simp only [List.map_cons, List.flatten_cons] at h
    obtain ⟨us, ws, rfl, h1, h2⟩ := dens_split h
    have hl := dens_len h1
    rw [List.length_map, hs d (by simp)] at hl
    refine ⟨dens_rdCells hb hST h1 fun j u hj => hc j u ?_, hs d (by simp), dens_rdRows hb hST (fun r hr => hs r (by simp [hr])) h2 fun j u hj => ?_⟩
    · rw [List.getElem?_append_left (List.getElem?_eq_some_iff.1 hj).1]; exact hj
    · have := hc (sz + j) u (by rw [List.getElem?_append_right (by omega), show sz + j - us.length = j by omega]; exact hj)
      rwa [show o + (sz + j) = o + sz + j by omega] at this

/-- A row, read: what a slice of it holds. -/
theorem os_rd {H : Heap} (g : Good S T ρ w H) {T' : Nat → Prop} (hST : ∀ x, S x → T' x) {o : Nat} {e sz off len : Nat} {ds : List (List D)} (ho : H[o]? = some (.row e sz (ds.map (·.map (D.toC true))))) (hb : ∀ b c, ρ o = some (b, c) → T' b) (hl : off + len ≤ ds.length)
    {v : Value} (hd : (C.os o sz off len).den S T w ρ v) : D.rd T' w (.sl sz ((ds.drop off).take len)) v := by
  have hll : ((ds.drop off).take len).length = len := by simp; omega
  unfold D.rd
  rw [hll]
  rcases hd with ⟨h1, rfl, rfl, rfl⟩ | ⟨b, c, h1, h2, h3⟩
  · exact ⟨none, 0, rfl, Nat.le_refl _, .inl (by simp)⟩
  · rcases h3 with ⟨h3, rfl⟩ | ⟨_, rfl, A, rfl⟩
    · refine ⟨_, _, rfl, by omega, .inr ⟨b, _, rfl, ?_⟩⟩
      rcases g.real o _ ho with ⟨h4, _⟩ | ⟨b', c', arr, pre, vs, rest, h4, h5, h6, h6', h7, h8, h8', h9, h10⟩
      · rw [h1] at h4; cases h4
      · rw [h1] at h4; cases h4
        have hsz : ∀ r ∈ ds, r.length = sz := fun r hr => by simpa using h9 _ (List.mem_map.2 ⟨r, hr, rfl⟩)
        have hr : D.rdRows T' w sz b c.1 ds := dens_rdRows (hb b c h1) hST hsz h10 fun j u hj => by
          have : arr[c.1 + j]? = some u := by
            rw [← Array.getElem?_toList, h6, List.getElem?_append_right (by omega), h6', show c.1 + j - c.1 = j by omega, List.getElem?_append_left (List.getElem?_eq_some_iff.1 hj).1]
            exact hj
          simp [World.cell?, h5, this]
        exact rdRows_take (rdRows_drop hr off) len
    · exact ⟨_, _, rfl, Nat.le_refl _, .inl (by simp)⟩
end

def A1.keepA (a : A1) : Bool := a.cells.all C.keep
def AV.keepA : AV → Bool
  | .one a => a.keepA
  | .tup as => as.all A1.keepA
  | .undef => true
theorem A1.den_keepA {S T T' : Nat → Prop} {w : World} {ρ : Map} (hST : ∀ x, S x → T' x) {a : A1} (h : a.keepA = true) {v : Value} (hd : a.den S T w ρ v) : a.den S T' w ρ v := by
  cases a with
  | c x =>
    have hk : x.keep = true := by simpa [A1.keepA, A1.cells] using h
    exact C.den_ext (Ext.refl S w) (ext_ST hST w) x (fun _ _ => rfl) v (C.den_keep hk hd)
  | agg cs =>
    obtain ⟨vs, h1, h2⟩ := hd
    exact ⟨vs, h1, dens_lift hST (dens_keep (by simpa [A1.keepA, A1.cells] using h) h2)⟩
theorem dens1_keepA {S T T' : Nat → Prop} {w : World} {ρ : Map} (hST : ∀ x, S x → T' x) : ∀ {as : List A1} {vs : List Value}, as.all A1.keepA = true → dens1 S T w ρ as vs → dens1 S T' w ρ as vs
  | [], [], _, _ => trivial
  | a :: as, v :: vs, h, hd => by
    simp only [List.all_cons, Bool.and_eq_true] at h
    exact ⟨A1.den_keepA hST h.1 hd.1, dens1_keepA hST h.2 hd.2⟩
  | [], _ :: _, _, h => h.elim
  | _ :: _, [], _, h => h.elim
theorem AV.den_keepA {S T T' : Nat → Prop} {w : World} {ρ : Map} (hST : ∀ x, S x → T' x) {a : AV} (h : a.keepA = true) {v : Value} (hd : a.den S T w ρ v) : a.den S T' w ρ v := by
  cases a with
  | one a => exact A1.den_keepA hST h hd
  | tup as =>
    obtain ⟨vs, h1, h2⟩ := hd
    exact ⟨vs, h1, dens1_keepA hST h h2⟩
  | undef => trivial

/-- Each argument as it is, or a slice of o lent. -/
def lent (o sz : Nat) (ds : List (List D)) : List AV → List AV → Prop
  | [], [] => True
  | a :: as, b :: bs => (a = b ∨ ∃ off len, off + len ≤ ds.length ∧ a = .one (.c (.os o sz off len)) ∧ b = .one (.c (.sl false sz ((ds.drop off).take len)))) ∧ lent o sz ds as bs
  | _, _ => False

theorem AC.borrow {P : Program} {f : FuncId} {args args' : List AV} {H H' : Heap} {res : AV} {o e sz : Nat} {ds : List (List D)} (ho : H[o]? = some (.row e sz (ds.map (·.map (D.toC true))))) (hl : lent o sz ds args args') (hk : res.keepA = true)
    (h : AC P f args' (H.set o .dead) res H') {H2 : Heap} (h2 : H2 = H'.set o (.row e sz (ds.map (·.map (D.toC true))))) : AC P f args H res H2 := by
  refine ⟨h.1, fun hcl hca S T ρ w vs g hd => ?_⟩
  have hp : o < H.length := (List.getElem?_eq_some_iff.1 ho).1
  let ob : Ob := .row e sz (ds.map (·.map (D.toC true)))
  have hoal : aliveAt H o := ⟨ob, ho, trivial⟩
  let T' : Nat → Prop := fun b => T b ∨ ∃ c, ρ o = some (b, c)
  have hbT : ∀ b c, ρ o = some (b, c) → ¬ T b := fun b c hb hT => g.out b ⟨o, c, hoal, hb⟩ hT
  have al : ∀ {q}, aliveAt (H.set o .dead) q → q ≠ o ∧ aliveAt H q := fun {q} hq => by
    rcases alive_set hp hq with ⟨_, h⟩ | ⟨h1, h2⟩
    · exact h.elim
    · exact ⟨h1, h2⟩
  have bl : ∀ {b}, blocks ρ (H.set o .dead) b → blocks ρ H b ∧ ∀ c, ρ o ≠ some (b, c) := by
    rintro b ⟨q, c, h1, h2⟩
    obtain ⟨h3, h4⟩ := al h1
    exact ⟨⟨q, c, h4, h2⟩, fun c' hc' => h3 (g.apart q o b c c' h4 hoal h2 hc')⟩
  have g' : Good S T' ρ w (H.set o .dead) := by
    have gk := g.kill o
    refine ⟨gk.real, gk.apart, fun b hb hT => ?_, fun b hb => .inl (g.le b hb), fun b hb => ?_⟩
    · rcases hT with hT | ⟨c, hc⟩
      · exact gk.out b hb hT
      · exact (bl hb).2 c hc
    · rcases hb with hb | ⟨c, hc⟩
      · exact g.lt b hb
      · exact g.block_lt ⟨o, c, hoal, hc⟩
  have hcl' : closed (H.set o .dead) := by
    intro q x hx n hn
    rw [get_set hp] at hx
    rw [List.length_set]
    split at hx
    · cases hx; simp [Ob.names] at hn
    · exact hcl q x hx n hn
  have hd' : ∀ {as bs : List AV} {vs : List Value}, lent o sz ds as bs → densA S T w ρ as vs → densA S T' w ρ bs vs := by
    intro as
    induction as with
    | nil => intro bs vs hle hda; cases bs with
      | nil => cases vs with
        | nil => trivial
        | cons _ _ => exact hda.elim
      | cons _ _ => exact hle.elim
    | cons a as ih => intro bs vs hle hda; cases bs with
      | nil => exact hle.elim
      | cons b bs => cases vs with
        | nil => exact hda.elim
        | cons v vs =>
          refine ⟨?_, ih hle.2 hda.2⟩
          rcases hle.1 with rfl | ⟨off, len, h1, rfl, rfl⟩
          · exact AV.den_ext (Ext.refl S w) (ext_ST (fun b hb => .inl hb) w) _ (fun _ _ => rfl) v hda.1
          · exact os_rd g (fun x hx => .inl (g.le x hx)) ho (fun b c hb => .inr ⟨c, hb⟩) h1 hda.1
  have hca' : closedA (H.set o .dead) args' := by
    have : ∀ {as bs : List AV}, lent o sz ds as bs → closedA H as → closedA H bs := by
      intro as
      induction as with
      | nil => intro bs hle _; cases bs with
        | nil => intro av hav; simp at hav
        | cons _ _ => exact hle.elim
      | cons a as ih => intro bs hle hc; cases bs with
        | nil => exact hle.elim
        | cons b bs =>
          intro av hav n hn
          rcases List.mem_cons.1 hav with rfl | hav
          · rcases hle.1 with rfl | ⟨off, len, h1, rfl, rfl⟩
            · exact hc _ (by simp) n hn
            · simp [AV.names, A1.names, C.names] at hn
          · exact ih hle.2 (fun av hav => hc av (by simp [hav])) av hav n hn
    intro av hav n hn
    rw [List.length_set]
    exact this hl hca av hav n hn
  refine Calls.mono (h.2 hcl' hca' S T' ρ w vs g' (hd' hl hd)) ?_
  rintro en w' ⟨v, S1, T1, ρ1, rfl, d⟩
  have hlen := d.len
  rw [List.length_set] at hlen
  have hso : ρ1 o = ρ o := d.same o (by rw [List.length_set]; exact hp)
  have hkeepb : ∀ b c, ρ o = some (b, c) → w'.heap[b]? = w.heap[b]? := fun b c hb => d.fr.keep b (g.block_lt ⟨o, c, hoal, hb⟩) fun h => (bl h).2 c hb
  have hS : Ext S S1 w w' := fun b hb => ⟨d.S0 b hb, d.fr.keep b (g.lt b (g.le b hb)) fun h => g.out b (bl h).1 (g.le b hb)⟩
  have hSb : ∀ b c, ρ o = some (b, c) → ¬ S1 b := fun b c hb hs => by
    rcases d.S1 b hs with h | h | h
    · exact hbT b c hb (g.le b h)
    · exact (bl h).2 c hb
    · have := g.block_lt ⟨o, c, hoal, hb⟩; omega
  have hother : ∀ b c q c', q ≠ o → aliveAt H' q → ρ1 q = some (b, c') → ρ o ≠ some (b, c) := fun b c q c' hq ha h1 h2 => by
    rcases d.own b ⟨q, c', ha, h1⟩ with h | h
    · exact (bl h).2 c h2
    · have := g.block_lt ⟨o, c, hoal, h2⟩; omega
  have hp' : o < H'.length := by omega
  let T2 : Nat → Prop := fun b => T b ∨ S1 b
  subst h2
  have hcase : ∀ {q}, aliveAt (H'.set o ob) q → q = o ∨ (q ≠ o ∧ aliveAt H' q) := fun {q} hq => by
    rcases alive_set hp' hq with ⟨h, _⟩ | ⟨h1, h2⟩
    · exact .inl h
    · exact .inr ⟨h1, h2⟩
  refine ⟨v, S1, T2, ρ1, rfl, ⟨⟨?_, ?_, ?_, fun b hb => .inr hb, ?_⟩, AV.den_keepA (fun x hx => .inr hx) hk d.res, fun n hn => by rw [List.length_set]; exact d.resN n hn, ?_, by rw [List.length_set]; exact hlen, d.S0, fun b hb => (d.S1 b hb).imp id (.imp (fun h => (bl h).1) id), fun b hb => .inl hb, fun b hb => hb, ?_, ?_, fun q hq => d.same q (by rw [List.length_set]; exact hq)⟩⟩
  · intro q x hx
    rw [get_set hp'] at hx
    split at hx
    · rename_i hq
      cases hx; subst hq
      refine Ob.real_ext hS ob q (fun n hn => ?_) hso (fun b c hb => hkeepb b c hb) (g.real q ob ho)
      exact d.same n (by rw [List.length_set]; exact hcl q ob ho n hn)
    · exact d.good.real q x hx
  · intro q q' b c c' h1 h2 h3 h4
    rcases hcase h1 with rfl | ⟨n1, a1⟩ <;> rcases hcase h2 with rfl | ⟨n2, a2⟩
    · rfl
    · rw [hso] at h3; exact absurd h3 (hother b c q' c' n2 a2 h4)
    · rw [hso] at h4; exact absurd h4 (hother b c' q c n1 a1 h3)
    · exact d.good.apart q q' b c c' a1 a2 h3 h4
  · rintro b ⟨q, c, h1, h2⟩ hT
    rcases hcase h1 with rfl | ⟨n1, a1⟩
    · rw [hso] at h2
      rcases hT with hT | hT
      · exact hbT b c h2 hT
      · exact hSb b c h2 hT
    · exact d.good.out b ⟨q, c, a1, h2⟩ (hT.elim (fun h => d.T0 b (.inl h)) (d.good.le b))
  · rintro b (hb | hb)
    · exact Nat.lt_of_lt_of_le (g.lt b hb) d.fr.size
    · exact d.good.lt b (d.good.le b hb)
  · intro q x hx n hn
    rw [List.length_set]
    rw [get_set hp'] at hx
    split at hx
    · rename_i hq
      cases hx; subst hq
      have := hcl q ob ho n hn
      omega
    · exact d.obN q x hx n hn
  · exact ⟨d.fr.os, d.fr.tape, d.fr.output, d.fr.size, fun k hk hx => d.fr.keep k hk fun h => hx (bl h).1⟩
  · rintro b ⟨q, c, h1, h2⟩
    rcases hcase h1 with rfl | ⟨n1, a1⟩
    · rw [hso] at h2
      exact .inl ⟨q, c, hoal, h2⟩
    · rcases d.own b ⟨q, c, a1, h2⟩ with h | h
      · exact .inl (bl h).1
      · exact .inr h
end Go.Aw
