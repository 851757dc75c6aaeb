/- An abstract memory over the model: append. -/
import Derived.Test.YtioanpejndfbnaaAwI
namespace Go.Aw
open Go.RowKit
set_option linter.unusedSimpArgs false
set_option linter.unusedVariables false

/-- The elements of a slice value. -/
def contC (H : Heap) (sz : Nat) : AV → Option (List (List C))
  | .one (.c .ns) => some []
  | .one (.c (.sl lv sz' es)) => if sz' = sz then some (es.map (·.map (D.toC lv))) else none
  | .one (.c (.os o sz' off len)) => match H[o]? with
    | some (.row _ sz'' es) => if sz' = sz ∧ sz'' = sz ∧ off + len ≤ es.length then some ((es.drop off).take len) else none
    | _ => none
  | _ => none

section
variable {K : Ctx} {S T R : Nat → Prop} {ρ : Map} {st : St} {a : Act} {w : World}

theorem rdRows_dens {lv : Bool} {sz b : Nat} : ∀ {es : List (List D)} {o : Nat}, D.rdRows (if lv then S else T) w sz b o es → ∃ vs, dens S T w ρ (es.map (·.map (D.toC lv))).flatten vs ∧ (∀ j u, vs[j]? = some u → w.cell? ⟨b, o + j, none⟩ = some u)
  | [], _, _ => ⟨[], trivial, fun j u h => by simp at h⟩
  | e :: es, o, h => by
    unfold D.rdRows at h
    obtain ⟨h1, h2, h3⟩ := h
    obtain ⟨vs, h4, h5⟩ := rdCells_dens (ρ := ρ) h1
    obtain ⟨us, h6, h7⟩ := rdRows_dens h3
    refine ⟨vs ++ us, by simpa using dens_append h4 h6, fun j u hj => ?_⟩
    have hl : vs.length = sz := by have := dens_len h4; simp at this; omega
    rw [List.getElem?_append] at hj
    split at hj
    · exact h5 j u hj
    · have := h7 (j - vs.length) u hj
      rwa [show o + sz + (j - vs.length) = o + j by omega] at this
theorem rdRows_len {S : Nat → Prop} {w : World} {sz b : Nat} : ∀ {es : List (List D)} {o : Nat}, D.rdRows S w sz b o es → ∀ r ∈ es, r.length = sz
  | [], _, _, r, hr => by simp at hr
  | e :: es, o, h, r, hr => by
    unfold D.rdRows at h
    rcases List.mem_cons.1 hr with rfl | hr
    · exact h.2.1
    · exact rdRows_len h.2.2 r hr
theorem flatten_take_drop {es : List (List C)} {sz : Nat} (hs : ∀ r ∈ es, r.length = sz) : ∀ n, es.flatten.take (n * sz) = (es.take n).flatten ∧ es.flatten.drop (n * sz) = (es.drop n).flatten := by
  intro n
  induction n generalizing es with
  | zero => simp
  | succ n ih =>
    cases es with
    | nil => simp
    | cons e es =>
      have he := hs e (by simp)
      have := ih (es := es) (fun r hr => hs r (by simp [hr]))
      have e1 : (n + 1) * sz = e.length + n * sz := by rw [he, Nat.succ_mul]; omega
      simp only [List.flatten_cons, List.take_succ_cons, List.drop_succ_cons, e1]
      rw [List.take_append, List.drop_append, List.take_of_length_le (show e.length ≤ e.length + n * sz by omega), List.drop_of_length_le (show e.length ≤ e.length + n * sz by omega), Nat.add_sub_cancel_left]
      exact ⟨by rw [this.1], by rw [this.2]; simp⟩

/-- What a slice's value holds. -/
theorem cont_reads {H : Heap} (g : Good S T ρ w H) (ob : ∀ (o : Nat) (ob : Ob), H[o]? = some ob → ∀ n ∈ ob.names, ¬ R n) {x : AV} {v : Value} (hd : x.den S T w ρ v) {sz : Nat} {es : List (List C)} (h : contC H sz x = some es) :
    ∃ A c vs, v = .slice A es.length c ∧ es.length ≤ c ∧ dens S T w ρ es.flatten vs ∧ (es = [] ∨ ∀ r ∈ es, r.length = sz) ∧ (es = [] ∨ ∃ b o, A = some ⟨b, o, none⟩ ∧ ∀ j u, vs[j]? = some u → w.cell? ⟨b, o + j, none⟩ = some u) ∧ ∀ r ∈ es, ∀ c ∈ r, ∀ n ∈ c.names, ¬ R n := by
  unfold contC at h
  split at h
  · cases h
    simp only [AV.den, A1.den, C.den] at hd
    exact ⟨none, 0, [], hd, by simp, trivial, .inl rfl, .inl rfl, by simp⟩
  · rename_i lv sz' es0
    split at h
    · rename_i hsz
      subst hsz
      cases h
      simp only [AV.den, A1.den, C.den, D.rd] at hd
      obtain ⟨A, c, h1, h2, h3⟩ := hd
      have hNN : ∀ r ∈ (es0.map (·.map (D.toC lv))), ∀ c ∈ r, ∀ n ∈ c.names, ¬ R n := by
        intro r hr c hc n hn
        obtain ⟨r0, _, rfl⟩ := List.mem_map.1 hr
        obtain ⟨d, _, rfl⟩ := List.mem_map.1 hc
        rw [D.toC_names] at hn
        cases hn
      rcases h3 with h3 | ⟨b, o, h3, h4⟩
      · subst h3
        exact ⟨A, c, [], by simpa using h1, by simp, trivial, .inl rfl, .inl rfl, hNN⟩
      · obtain ⟨vs, h5, h6⟩ := rdRows_dens (ρ := ρ) h4
        have hl := rdRows_len h4
        exact ⟨A, c, vs, by simpa using h1, by simpa using h2, h5, .inr (fun r hr => by obtain ⟨r0, hr0, rfl⟩ := List.mem_map.1 hr; simpa using hl r0 hr0), .inr ⟨b, o, h3, h6⟩, hNN⟩
    · cases h
  · rename_i o sz' off len
    split at h
    · rename_i e sz'' es0 ho
      split at h
      · rename_i hc
        obtain ⟨h1, h2, h3⟩ := hc
        subst h1; subst h2
        cases h
        have hNN : ∀ r ∈ (es0.drop off).take len, ∀ c ∈ r, ∀ n ∈ c.names, ¬ R n := by
          intro r hr c hc n hn
          exact ob o _ ho n (by simp only [Ob.names, List.mem_flatMap, List.mem_flatten]; exact ⟨c, ⟨r, List.mem_of_mem_drop (List.mem_of_mem_take hr), hc⟩, hn⟩)
        have hlen : ((es0.drop off).take len).length = len := by simp; omega
        simp only [AV.den, A1.den, C.den] at hd
        rcases hd with ⟨h4, h5, h6, h7⟩ | ⟨b, c, h4, h5, h6⟩
        · subst h6
          refine ⟨none, 0, [], by rw [hlen]; exact h7, by rw [hlen]; omega, by simp [dens], .inl (by simp), .inl (by simp), hNN⟩
        · rcases h6 with ⟨h6, h7⟩ | ⟨h6, h7, a0, h8⟩
          · rcases g.real o _ ho with ⟨g1, _⟩ | ⟨b', c', arr, pre, vs, rest, g1, g2, g3, g4, g5, g6, g6', g7, g8⟩
            · rw [h4] at g1; cases g1
            · rw [h4] at g1; cases g1
              have hft := flatten_take_drop g7
              have hvl : es0.flatten.length = vs.length := dens_len g8
              have hd2 := dens_take (len * sz'') (dens_drop (off * sz'') (dens_lift g.le g8))
              rw [(hft off).2, (flatten_take_drop (fun r hr => g7 r (List.mem_of_mem_drop hr)) len).1] at hd2
              refine ⟨_, _, _, by rw [hlen]; exact h7, by rw [hlen]; omega, hd2, .inr (fun r hr => g7 r (List.mem_of_mem_drop (List.mem_of_mem_take hr))), .inr ⟨b, _, rfl, fun j u hj => ?_⟩, hNN⟩
              rw [List.getElem?_take] at hj
              split at hj
              · rw [List.getElem?_drop] at hj
                have : arr[c.1 + off * sz'' + j]? = some u := by
                  rw [← Array.getElem?_toList, g3, List.getElem?_append_right (by omega), g4, show c.1 + off * sz'' + j - c.1 = off * sz'' + j by omega, List.getElem?_append_left (by have := (List.getElem?_eq_some_iff.1 hj).1; omega)]
                  exact hj
                simp [World.cell?, g2, this]
              · cases hj
          · subst h7
            refine ⟨_, 0, [], by rw [hlen]; exact h8, by rw [hlen]; omega, by simp [dens], .inl (by simp), .inl (by simp), hNN⟩
      · cases h
    · cases h
  · cases h
theorem Good.shrink {H : Heap} (g : Good S T ρ w H) : Good S S ρ w H :=
  ⟨g.real, g.apart, fun b hb h => g.out b hb (g.le b h), fun _ h => h, fun b h => g.lt b (g.le b h)⟩

def isOwn (H : Heap) (e : TypeId) : AV → Option (List Nat)
  | .one (.c .ns) => some []
  | .one (.c (.os o _ _ _)) => match H[o]? with
    | some (.row e' _ _) => if e' = e then some [o] else none
    | _ => none
  | _ => none

/-- What is killed, and the new row. -/
def aAppend (P : Program) (H : Heap) (t : TypeId) (s x : AV) : Option (TypeId × Nat × List (List C) × List (List C)) :=
  match P.underlying t with
  | some (.slice e) => match zeroC P e, contC H (P.cellsOf e) s, contC H (P.cellsOf e) x with
    | some z, some olds, some news =>
      if z.length = P.cellsOf e ∧ P.cellsOf e ≠ 0 ∧ (olds.length + news.length) * P.bytesOf e ≤ 140737488355328 ∧ olds.length + news.length ≤ 9223372036854775807 then some (e, P.cellsOf e, olds, news) else none
    | _, _, _ => none
  | _ => none

theorem Fr.set {w0 w : World} {X : Nat → Prop} (h : Fr w0 X w) {b : Nat} (hb : X b ∨ w0.heap.size ≤ b) (cs : Array Value) : Fr w0 X (w.setRow b cs) := by
  refine ⟨h.os, h.tape, h.output, by simpa using h.size, fun k hk hx => ?_⟩
  rw [setRow_other w b k cs ?_]
  · exact h.keep k hk hx
  · rintro rfl
    rcases hb with hb | hb
    · exact hx hb
    · omega

/-- A new row behind a draw. -/
theorem new_row_drew (m : Match K S T ρ R st a w) : Match K S T ρ R st a w.drew :=
  ⟨⟨fun o ob h => Ob.real_ext (w := w) (w' := w.drew) (fun b hb => ⟨hb, rfl⟩) ob o (fun _ _ => rfl) rfl (fun _ _ _ => rfl) (m.good.real o ob h), m.good.apart, m.good.out, m.good.le, m.good.lt⟩,
    fun t av h => AV.den_ext (w := w) (w' := w.drew) (fun b hb => ⟨hb, rfl⟩) (fun b hb => ⟨hb, rfl⟩) av (fun _ _ => rfl) _ (m.tm t av h), m.tmN, m.obN, m.rfree, m.sz, m.df, m.fr.drew, m.own, m.old, m.keepS, m.same, m.rn, m.oldT, m.keepT⟩

theorem flat_len {es : List (List C)} {sz : Nat} (h : ∀ r ∈ es, r.length = sz) : es.flatten.length = es.length * sz := by
  induction es with
  | nil => simp
  | cons e es ih =>
    simp only [List.flatten_cons, List.length_append, List.length_cons, Nat.succ_mul, h e (by simp), ih (fun r hr => h r (by simp [hr]))]
    omega

theorem Match.new_row_of (m : Match K S T ρ R st a w) {p : Nat} (hR : R p) (hp : p < st.hp.length) {e sz c : Nat} {es : List (List C)} {arr : Array Value} {vs rest : List Value} (harr : arr.toList = vs ++ rest) (hsz : arr.size = c * sz) (hle : es.length ≤ c) (hcm : c ≤ maxLen)
    (hlen : ∀ r ∈ es, r.length = sz) (hd : dens S S w ρ es.flatten vs) (hN : ∀ n ∈ (Ob.row e sz es).names, ¬ R n) :
    Match K S T (upd ρ p (some (w.heap.size, 0, c))) (fun n => R n ∧ n ≠ p) ⟨st.tm, st.hp.set p (.row e sz es)⟩ a (w.drew.alloc (.cells arr e)) := by
  refine (new_row_drew m).alloc hR hp arr e c (.inr ⟨w.heap.size, (0, c), arr, [], vs, rest, upd_self _ _ _, heap_alloc_new w.drew _, harr, rfl, by simpa using hsz, hle, hcm, hlen, ?_⟩) hN
  have hS : Ext S S w (w.drew.alloc (.cells arr e)) := fun b hb => ⟨hb, Below.heap_alloc w.drew _ b (m.good.lt b (m.good.le b hb))⟩
  refine dens_ext hS hS _ _ (fun d hd o ho => upd_ne (fun he => ?_)) hd
  refine hN o ?_ (by rw [he]; exact hR)
  simp only [Ob.names, List.mem_flatMap]
  exact ⟨d, hd, ho⟩

/-- The object at p is what an append made: where its value lies is told by the value. -/
theorem does_append (m : Match K S T ρ R st a w) (p : Nat) (hR : R p) (hp : p < st.hp.length) (t : TypeId) (x y : Operand) (ty : TypeId) {ks : List Nat} {e sz : Nat} (hown : isOwn st.hp e (ev st.tm x) = some ks)
    {olds news : List (List C)} (h : aAppend K.P st.hp t (ev st.tm x) (ev st.tm y) = some (e, sz, olds, news)) (hk : ∀ r ∈ news, r.all C.keep = true) :
    Does K S T R st a w p (.call { callee := .builtin .append, args := #[x, y], argTypes := #[t, t] }) ty
      { v := .one (.c (.os p sz 0 (olds.length + news.length))), new := some (.row e sz (olds ++ news)), kill := ks.head? } := by
  unfold aAppend at h
  split at h
  case h_2 => cases h
  rename_i e0 hu
  split at h
  case h_2 => cases h
  rename_i z olds0 news0 hz hcx hcy
  split at h
  case isFalse => cases h
  rename_i hcond
  obtain ⟨hzl, hne, hby, h63⟩ := hcond
  cases h
  obtain ⟨i, zv, hi, hzz, hzc⟩ := zeroC_run hz
  have hzv : z.length = zv.cells.size := by
    have := dens_len (constCs_den (S := S) (T := T) (w := w) (ρ := ρ) hzc)
    simpa using this
  have hsz : i.size = K.P.cellsOf e := by simp [Program.cellsOf, hi]
  have hbi : i.bytes = K.P.bytesOf e := by simp [Program.bytesOf, hi]
  obtain ⟨Ay, cy, vy, hvy, hcy1, hdy, hly, hay, hNy⟩ := cont_reads m.good m.obN (m.ev y) hcy
  -- the memory without what is killed
  obtain ⟨H0, mm, hp0, hheap, hgone⟩ : ∃ H0, Match K S T ρ R ⟨st.tm, H0⟩ a w ∧ p < H0.length ∧ (∀ ob, Eff.heap { v := .undef, new := some ob, kill := ks.head? } p st.hp = H0.set p ob) ∧
      ∀ o, ks = [o] → aliveAt st.hp o → ∀ b c, ρ o = some (b, c) → ¬ blocks ρ H0 b := by
    cases hks : ks.head? with
    | none => exact ⟨st.hp, m, hp, fun ob => rfl, fun o ho => by rw [ho] at hks; cases hks⟩
    | some o =>
      refine ⟨st.hp.set o .dead, m.kill o, by simpa using hp, fun ob => rfl, fun o' ho hal b c hb => ?_⟩
      rw [ho] at hks; cases hks
      rintro ⟨q, c', hq1, hq2⟩
      by_cases hol : o < st.hp.length
      · rcases alive_set hol hq1 with ⟨_, h⟩ | ⟨h, hq⟩
        · exact h
        · exact h (m.good.apart q o b c' c hq hal hq2 hb)
      · obtain ⟨ob, h1, _⟩ := hal
        exact hol (List.getElem?_eq_some_iff.1 h1).1
  have fin : ∀ (v : Value) (w' : World) (x0 : Option (Nat × Nat × Nat)), (Builtin.append_ #[t, t] ty #[a.eval x, a.eval y]).run K.P w = .ok v w' →
      Match K S T (upd ρ p x0) (fun n => R n ∧ n ≠ p) ⟨st.tm, H0.set p (.row e (K.P.cellsOf e) (olds ++ news))⟩ a w' → (C.os p (K.P.cellsOf e) 0 (olds.length + news.length)).den S T w' (upd ρ p x0) v →
      Does K S T R st a w p (.call { callee := .builtin .append, args := #[x, y], argTypes := #[t, t] }) ty
        { v := .one (.c (.os p (K.P.cellsOf e) 0 (olds.length + news.length))), new := some (.row e (K.P.cellsOf e) (olds ++ news)), kill := ks.head? } := by
    intro v w' x0 hrun hm hd
    have hRR : Eff.res { v := .one (.c (.os p (K.P.cellsOf e) 0 (olds.length + news.length))), new := some (.row e (K.P.cellsOf e) (olds ++ news)), kill := ks.head? } p R = fun n => R n ∧ n ≠ p := by funext n; simp [Eff.res]
    refine ⟨v, w', upd ρ p x0, fun o' e1 e2 => .inl ?_, ?_, hd, ?_⟩
    · simp [execOp, e1, e2, resolve, invoke, builtin, hrun]
    · rw [hRR]
      have := hheap (.row e (K.P.cellsOf e) (olds ++ news))
      show Match K S T (upd ρ p x0) _ ⟨st.tm, Eff.heap { v := .undef, new := some (.row e (K.P.cellsOf e) (olds ++ news)), kill := ks.head? } p st.hp⟩ a w'
      rw [this]; exact hm
    · rw [hRR]
      intro n hn hr
      simp [AV.names, A1.names, C.names] at hn
      exact hr.2 hn
  have hyl : news = [] ∨ (vy.length = news.length * K.P.cellsOf e ∧ (∀ r ∈ news, r.length = K.P.cellsOf e)) := by
    rcases hly with h | h
    · exact .inl h
    · exact .inr ⟨by rw [← dens_len hdy, flat_len h], h⟩
  -- nothing there before
  have nilcase : a.eval x = .slice none 0 0 → olds = [] → Does K S T R st a w p (.call { callee := .builtin .append, args := #[x, y], argTypes := #[t, t] }) ty
        { v := .one (.c (.os p (K.P.cellsOf e) 0 (olds.length + news.length))), new := some (.row e (K.P.cellsOf e) (olds ++ news)), kill := ks.head? } := by
    intro hvx ho
    by_cases hn : news = []
    · refine fin (.slice none 0 0) w none ?_ (mm.place hR hp0 (.inl ⟨upd_self _ _ _, by rw [ho, hn]; rfl⟩) (fun _ _ => rfl) mm.fr (Nat.le_refl _) (fun b c h => by cases h) (by rw [ho, hn]; simp [Ob.names])) (.inl ⟨upd_self _ _ _, rfl, by rw [ho, hn]; rfl, rfl⟩)
      rw [hvx, hvy, hn]
      cases Ay <;> simp [Builtin.append_, run_underlying hu, run_sizeOf' rfl hne, Builtin.lenOf, Builtin.firstCells, loadCells, loadCellsFrom]
    · rcases hyl with hh | ⟨hyl, hyr⟩
      · exact absurd hh hn
      rcases hay with hh | ⟨b, o, hA, hcell⟩
      · exact absurd hh hn
      have hn0 : 0 < news.length := List.length_pos_iff.2 hn
      have hln : 0 + news.length ≤ 9223372036854775807 := by omega
      have hb2 : news.length * K.P.bytesOf e ≤ 140737488355328 := by
        rw [ho] at hby; simpa using hby
      have hrun := run_append_nil (P := K.P) w t ty e i zv hu hi hzz ⟨b, o, none⟩ news.length cy vy (by rw [hyl, hsz]) (fun j u hj => by rw [add_at]; exact hcell j u hj) hn0 (by omega) (by rw [hbi]; omega)
      have hge := grownCap_ge w news.length 0 e
      have hgm := grownCap_le_maxLen w news.length 0 e (by simp only [maxLen]; omega)
      have hm := new_row (es := olds ++ news) (e := e) (sz := K.P.cellsOf e) (c := grownCap w news.length 0 e) (arr := vy.toArray ++ Builtin.zeroCells zv.cells (grownCap w news.length 0 e - news.length)) (vs := vy) (rest := (Builtin.zeroCells zv.cells (grownCap w news.length 0 e - news.length)).toList)
        (new_row_drew mm) hR hp0 (by simp) (by
          simp only [Array.size_append, List.size_toArray, size_zeroCells, hyl, ← hzv, hzl, ← Nat.add_mul]
          congr 1; omega) (by rw [ho]; simpa using hge) hgm (by rw [ho]; simpa using hyr) (by
          rw [ho]
          exact dens_ext (w := w) (w' := w.drew) (fun b hb => ⟨hb, rfl⟩) (fun b hb => ⟨hb, rfl⟩) _ _ (fun _ _ _ _ => rfl) (by simpa using hdy)) (by rw [ho]; simpa using hk) (by rw [ho]; simpa using hNy)
      refine fin _ _ _ (by rw [hvx, hvy, hA]; exact hrun) hm (.inr ⟨w.heap.size, (0, grownCap w news.length 0 e), upd_self _ _ _, by rw [ho]; simpa using hge, .inl ⟨.inr rfl, by rw [ho]; simp⟩⟩)
  -- cases of the first argument
  cases hx : ev st.tm x with
  | undef => rw [hx] at hown; simp [isOwn] at hown
  | tup as => rw [hx] at hown; simp [isOwn] at hown
  | one ax =>
  cases ax with
  | agg cs => rw [hx] at hown; simp [isOwn] at hown
  | c cx =>
  have hd0 := m.evC hx
  rw [hx] at hown hcx
  cases cx with
  | ns =>
    simp only [C.den] at hd0
    simp only [contC, Option.some.injEq] at hcx
    exact nilcase hd0 hcx.symm
  | os o sz' off len =>
    simp only [contC] at hcx
    split at hcx
    case h_2 => cases hcx
    rename_i e' sz'' es0 ho
    split at hcx
    case isFalse => cases hcx
    rename_i hc0
    obtain ⟨g1, g2, g3⟩ := hc0
    subst g1
    subst g2
    cases hcx
    simp only [isOwn, ho] at hown
    split at hown
    case isFalse => cases hown
    rename_i hee
    subst hee
    simp only [Option.some.injEq] at hown
    have halo : aliveAt st.hp o := ⟨_, ho, trivial⟩
    have hol : ((es0.drop off).take len).length = len := by simp; omega
    simp only [C.den] at hd0
    rcases hd0 with ⟨h4, h5, h6, h7⟩ | ⟨b, c, h4, h5, h6⟩
    · exact nilcase h7 (by rw [h6]; simp)
    · have hnb := hgone o hown.symm halo b c h4
      have hbb : blocks ρ st.hp b := ⟨o, c, halo, h4⟩
      have hnT : ¬ T b := m.good.out b hbb
      have hXb := m.own b hbb
      have hTb : ∀ k, T k → k ≠ b := fun k hk e => hnT (e ▸ hk)
      rcases m.good.real o _ ho with ⟨q1, _⟩ | ⟨b', c', arr, pre, vs, rest, q1, q2, q3, q4, q5, q6, q6', q7, q8⟩
      · rw [h4] at q1; cases q1
      rw [h4] at q1; cases q1
      have hft := flatten_take_drop q7
      have hvl : es0.flatten.length = vs.length := dens_len q8
      have hfl := flat_len q7
      have hoff : off * K.P.cellsOf e' + len * K.P.cellsOf e' ≤ vs.length := by
        rw [← hvl, hfl, ← Nat.add_mul]
        exact Nat.mul_le_mul_right _ g3
      have hcap : vs.length + rest.length = c.2 * K.P.cellsOf e' := by
        have h1 : arr.size = pre.length + (vs.length + rest.length) := by rw [← Array.length_toList, q3]; simp
        omega
      have hdo : dens S S w ρ ((es0.drop off).take len).flatten ((vs.drop (off * K.P.cellsOf e')).take (len * K.P.cellsOf e')) := by
        have := dens_take (len * K.P.cellsOf e') (dens_drop (off * K.P.cellsOf e') q8)
        rwa [(hft off).2, (flatten_take_drop (fun r hr => q7 r (List.mem_of_mem_drop hr)) len).1] at this
      have holr : ∀ r ∈ (es0.drop off).take len, r.length = K.P.cellsOf e' := fun r hr => q7 r (List.mem_of_mem_drop (List.mem_of_mem_take hr))
      have hNo : ∀ r ∈ (es0.drop off).take len, ∀ c ∈ r, ∀ n ∈ c.names, ¬ R n := by
        intro r hr c hc n hn
        exact m.obN o _ ho n (by simp only [Ob.names, List.mem_flatMap, List.mem_flatten]; exact ⟨c, ⟨r, List.mem_of_mem_drop (List.mem_of_mem_take hr), hc⟩, hn⟩)
      have hvol : ((vs.drop (off * K.P.cellsOf e')).take (len * K.P.cellsOf e')).length = len * K.P.cellsOf e' := by simp; omega
      have hlv : ∀ j u, ((vs.drop (off * K.P.cellsOf e')).take (len * K.P.cellsOf e'))[j]? = some u → w.cell? ⟨b, c.1 + off * K.P.cellsOf e' + j, none⟩ = some u := by
        intro j u hj
        rw [List.getElem?_take] at hj
        split at hj
        · rw [List.getElem?_drop] at hj
          have : arr[c.1 + off * K.P.cellsOf e' + j]? = some u := by
            rw [← Array.getElem?_toList, q3, List.getElem?_append_right (by omega), q4, show c.1 + off * K.P.cellsOf e' + j - c.1 = off * K.P.cellsOf e' + j by omega, List.getElem?_append_left (by have := (List.getElem?_eq_some_iff.1 hj).1; omega)]
            exact hj
          simp [World.cell?, q2, this]
        · cases hj
      have hNall : ∀ n ∈ (Ob.row e' (K.P.cellsOf e') ((es0.drop off).take len ++ news)).names, ¬ R n := by
        intro n hn
        simp only [Ob.names, List.mem_flatMap, List.mem_flatten, List.mem_append] at hn
        obtain ⟨c1, ⟨r, hr, hc1⟩, hn⟩ := hn
        rcases hr with hr | hr
        · exact hNo r hr c1 hc1 n hn
        · exact hNy r hr c1 hc1 n hn
      have hdn : dens S S w ρ news.flatten vy := dens_keep (by
        rw [List.all_eq_true]
        intro c1 hc1
        obtain ⟨r, hr, hc1⟩ := List.mem_flatten.1 hc1
        exact List.all_eq_true.1 (hk r hr) c1 hc1) hdy
      have hallr : news = [] ∨ ∀ r ∈ (es0.drop off).take len ++ news, r.length = K.P.cellsOf e' := by
        rcases hly with h | h
        · exact .inl h
        · right
          intro r hr
          rcases List.mem_append.1 hr with hr | hr
          · exact holr r hr
          · exact h r hr
      have hvyn : news = [] → vy = [] := by
        intro hn
        rw [hn] at hdn
        have := dens_len hdn
        simp at this
        exact List.eq_nil_of_length_eq_zero this.symm
      have hvyl : vy.length = news.length * K.P.cellsOf e' := by
        rcases hyl with h | h
        · rw [hvyn h, h]; simp
        · exact h.1
      have hallr' : ∀ r ∈ (es0.drop off).take len ++ news, r.length = K.P.cellsOf e' := by
        rcases hallr with h | h
        · rw [h, List.append_nil]; exact holr
        · exact h
      -- a new block, from whatever address the old ones are read
      have growcase : ∀ (A0 : Addr) (cap0 : Nat), a.eval x = .slice (some A0) len cap0 → news ≠ [] → cap0 < len + news.length →
          (∀ j u, ((vs.drop (off * K.P.cellsOf e')).take (len * K.P.cellsOf e'))[j]? = some u → w.cell? (A0.add j) = some u) →
          Does K S T R st a w p (.call { callee := .builtin .append, args := #[x, y], argTypes := #[t, t] }) ty
            { v := .one (.c (.os p (K.P.cellsOf e') 0 (((es0.drop off).take len).length + news.length))), new := some (.row e' (K.P.cellsOf e') ((es0.drop off).take len ++ news)), kill := ks.head? } := by
        intro A0 cap0 hvx hn hcap0 hold
        rcases hay with hh | ⟨by_, oy, hA, hcell⟩
        · exact absurd hh hn
        have hrun := run_append_grow (P := K.P) w t ty e' i zv hu hi hzz A0 len cap0 _ (by rw [hvol, hsz]) hold ⟨by_, oy, none⟩ news.length cy vy (by rw [hvyl, hsz]) (fun j u hj => by rw [add_at]; exact hcell j u hj) hcap0 (by rw [hol] at h63; omega) (growslice_fits hcap0 (by rw [hbi]; rw [hol] at hby; exact hby))
        have hge := grownCap_ge w (len + news.length) cap0 e'
        have hgm := grownCap_le_maxLen w (len + news.length) cap0 e' (by simp only [maxLen]; rw [hol] at h63; omega)
        have hm := mm.new_row_of (p := p) hR hp0 (e := e') (sz := K.P.cellsOf e') (c := grownCap w (len + news.length) cap0 e') (es := (es0.drop off).take len ++ news)
          (arr := ((vs.drop (off * K.P.cellsOf e')).take (len * K.P.cellsOf e')).toArray ++ vy.toArray ++ Builtin.zeroCells zv.cells (grownCap w (len + news.length) cap0 e' - (len + news.length)))
          (vs := (vs.drop (off * K.P.cellsOf e')).take (len * K.P.cellsOf e') ++ vy) (rest := (Builtin.zeroCells zv.cells (grownCap w (len + news.length) cap0 e' - (len + news.length))).toList)
          (by simp) (by
            simp only [Array.size_append, List.size_toArray, size_zeroCells, hvyl, hvol, ← hzv, hzl, ← Nat.add_mul]
            congr 1; omega) (by rw [List.length_append, hol]; exact hge) hgm hallr' (by rw [List.flatten_append]; exact dens_append hdo hdn) hNall
        refine fin _ _ _ (by rw [hvx, hvy, hA]; exact hrun) hm (.inr ⟨w.heap.size, (0, grownCap w (len + news.length) cap0 e'), upd_self _ _ _, by rw [hol]; simpa using hge, .inl ⟨.inr rfl, by rw [hol]; simp⟩⟩)
      rcases h6 with ⟨h6, h7⟩ | ⟨h6, h7, a0, h8⟩
      · by_cases hroom : len + news.length ≤ c.2 - off
        · -- in place
          have hsizes : off * K.P.cellsOf e' + len * K.P.cellsOf e' + vy.length ≤ c.2 * K.P.cellsOf e' := by
            rw [hvyl, ← Nat.add_mul, ← Nat.add_mul]
            exact Nat.mul_le_mul_right _ (by omega)
          generalize hnew : (arr.toList.take (c.1 + off * K.P.cellsOf e' + len * K.P.cellsOf e') ++ vy ++ arr.toList.drop (c.1 + off * K.P.cellsOf e' + len * K.P.cellsOf e' + vy.length)).toArray = arr'
          have hrun : (Builtin.append_ #[t, t] ty #[a.eval x, a.eval y]).run K.P w = .ok (.slice (some ⟨b, c.1 + off * K.P.cellsOf e', none⟩) (len + news.length) (c.2 - off)) (w.setRow b arr') := by
            have hst := run_storeCells_at K.P b (c.1 + off * K.P.cellsOf e' + len * K.P.cellsOf e') e' vy 0 arr w q2 (by omega) (dens_one hdn)
            simp only [Nat.add_zero] at hst
            rw [hnew] at hst
            have hfc : (Builtin.firstCells (K.P.cellsOf e') news.length (a.eval y)).run K.P w = .ok vy.toArray w := by
              rw [hvy]
              rcases hay with hh | ⟨by_, oy, hA, hcell⟩
              · rw [hvyn hh, hh]
                cases Ay <;> simp [Builtin.firstCells, loadCells, loadCellsFrom]
              · rw [hA]
                exact run_firstCells_some (P := K.P) w (K.P.cellsOf e') news.length ⟨by_, oy, none⟩ news.length cy vy hvyl (fun j u hj => by rw [add_at]; exact hcell j u hj)
            have hlo : (Builtin.lenOf (a.eval y)).run K.P w = .ok news.length w := by rw [hvy]; rfl
            simp only [Builtin.append_, List.getElem?_toArray, List.getElem?_cons_zero, List.getElem?_cons_succ, h7]
            simp [run_underlying hu, run_sizeOf' rfl hne, hlo, hroom, hfc, add_at, hst]
          have harr' : arr'.toList = arr.toList.take (c.1 + off * K.P.cellsOf e') ++ (((vs.drop (off * K.P.cellsOf e')).take (len * K.P.cellsOf e') ++ vy) ++ arr.toList.drop (c.1 + off * K.P.cellsOf e' + len * K.P.cellsOf e' + vy.length)) := by
            rw [← hnew]
            simp only [List.toList_toArray]
            rw [List.take_add]
            have : (arr.toList.drop (c.1 + off * K.P.cellsOf e')).take (len * K.P.cellsOf e') = (vs.drop (off * K.P.cellsOf e')).take (len * K.P.cellsOf e') := by
              rw [q3, ← q4, List.drop_append, List.drop_of_length_le (show pre.length ≤ pre.length + off * K.P.cellsOf e' by omega), Nat.add_sub_cancel_left, List.nil_append, List.drop_append_of_le_length (by omega), List.take_append_of_le_length (by simp; omega)]
            rw [this]; simp
          have hreal' := setRow_heap w b arr arr' e' (0, 0) q2
          have hasz : arr'.size = arr.size := by
            rw [← Array.length_toList, harr']
            simp only [List.length_append, List.length_take, List.length_drop, Array.length_toList]
            omega
          have hS : Ext S S w (w.setRow b arr') := fun k hk => ⟨hk, setRow_other w b k _ (hTb k (m.good.le k hk))⟩
          refine fin _ _ (some (b, c.1 + off * K.P.cellsOf e', c.2 - off)) hrun ?_ (.inr ⟨b, (c.1 + off * K.P.cellsOf e', c.2 - off), upd_self _ _ _, by rw [hol]; simpa using hroom, .inl ⟨.inr rfl, by rw [hol]; simp⟩⟩)
          refine mm.place hR hp0 (.inr ⟨b, (c.1 + off * K.P.cellsOf e', c.2 - off), arr', arr.toList.take (c.1 + off * K.P.cellsOf e'), _, arr.toList.drop (c.1 + off * K.P.cellsOf e' + len * K.P.cellsOf e' + vy.length), upd_self _ _ _, hreal', harr', ?_, ?_, by rw [List.length_append, hol]; exact hroom, by show c.2 - off ≤ maxLen; omega, hallr', ?_⟩) (fun k hk => setRow_other w b k _ ?_) (m.fr.set hXb _) (by simp) (fun b' c' hb' => ?_) hNall
          · simp only [List.length_take, Array.length_toList]; omega
          · rw [hasz, q5]
            show c.1 + c.2 * K.P.cellsOf e' = c.1 + off * K.P.cellsOf e' + (c.2 - off) * K.P.cellsOf e'
            have : c.2 * K.P.cellsOf e' = off * K.P.cellsOf e' + (c.2 - off) * K.P.cellsOf e' := by rw [← Nat.add_mul]; congr 1; omega
            omega
          · rw [List.flatten_append]
            refine dens_ext hS hS _ _ (fun d hd o2 ho2 => upd_ne (fun he => ?_)) (dens_append hdo hdn)
            refine hNall o2 ?_ (by rw [he]; exact hR)
            simp only [Ob.names, List.flatten_append, List.mem_flatMap]
            exact ⟨d, hd, ho2⟩
          · rcases hk with hk | hk
            · exact hTb k hk
            · rintro rfl; exact hnb hk
          · cases hb'
            exact ⟨hnT, hnb, hXb⟩
        · have hn : news ≠ [] := by rintro rfl; simp at hroom; omega
          exact growcase _ _ h7 hn (by omega) (fun j u hj => by rw [add_at]; exact hlv j u hj)
      · subst h7
        by_cases hn : news = []
        · have hrun : (Builtin.append_ #[t, t] ty #[a.eval x, a.eval y]).run K.P w = .ok (.slice (some a0) 0 0) w := by
            rw [h8, hvy, hn]
            cases Ay <;> simp [Builtin.append_, run_underlying hu, run_sizeOf' rfl hne, Builtin.lenOf, Builtin.firstCells, loadCells, loadCellsFrom, storeCells]
          refine fin _ _ (some (b, c.1 + c.2 * K.P.cellsOf e', 0)) hrun ?_ (.inr ⟨b, (c.1 + c.2 * K.P.cellsOf e', 0), upd_self _ _ _, by rw [hn]; simp, .inr ⟨rfl, by rw [hn]; simp, a0, rfl⟩⟩)
          refine mm.place hR hp0 (.inr ⟨b, (c.1 + c.2 * K.P.cellsOf e', 0), arr, arr.toList, [], [], upd_self _ _ _, q2, by simp, by rw [Array.length_toList, q5], by rw [q5]; simp, by rw [hn]; simp, by simp [maxLen], by rw [hn]; simp, by rw [hn]; simp [dens]⟩) (fun _ _ => rfl) m.fr (Nat.le_refl _) (fun b' c' hb' => ?_) hNall
          cases hb'
          exact ⟨hnT, hnb, hXb⟩
        · refine growcase a0 0 h8 hn (by have := List.length_pos_iff.2 hn; omega) (fun j u hj => by simp at hj)
  | _ => simp [isOwn] at hown
end
end Go.Aw
