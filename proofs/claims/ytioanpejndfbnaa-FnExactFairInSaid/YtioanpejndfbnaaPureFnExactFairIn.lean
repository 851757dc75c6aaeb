/- The program's FairIn returns what the reference's returns, for all arguments: a window lacks one of the workers just when its count is 0, just when its last turn lies before the window. -/
import Derived.Test.YtioanpejndfbnaaPFnExactFairInx3
namespace Go.Proofs.Ytioanpejndfbnaa.PureFair
open Go.RowKit Go.Proofs.Ytioanpejndfbnaa.PFnExactFairIn Go.Proofs.YtioanpejndfbnaaW.PrintWords Go.Proofs.YtioanpejndfbnaaW.PrintLast Go.Proofs.YtioanpejndfbnaaW.PrintMore

theorem w64 {x : Int} (h0 : -9223372036854775808 ≤ x) (h : x < 9223372036854775808) : wrap64 x = x := by
  unfold wrap64; omega

theorem rd_nat (xs : List Int) (i : Nat) : rd xs (i : Int) = xs.getD i 0 := by simp [rd]

/-- which worker has the turn -/
def who (n : Int) (x : Int) : Int := if x < 0 then 0 else Int.tmod x n
def tok (l : List Int) (n : Int) (j : Nat) : Int := who n (l.getD j 0)

theorem who_bd (n x : Int) (hn : 1 ≤ n) : 0 ≤ who n x ∧ who n x < n := by
  unfold who; split
  · omega
  · rw [Int.tmod_eq_emod_of_nonneg (by omega)]
    exact ⟨Int.emod_nonneg _ (by omega), Int.emod_lt_of_pos _ (by omega)⟩

/-- how many of the first i turns are w's -/
def C (f : Nat → Int) (w : Int) : Nat → Int
  | 0 => 0
  | i + 1 => C f w i + if f i = w then 1 else 0

theorem C_bd (f : Nat → Int) (w : Int) : ∀ i, 0 ≤ C f w i ∧ C f w i ≤ i
  | 0 => by simp [C]
  | i + 1 => by have := C_bd f w i; simp only [C]; split <;> omega

theorem C_mono (f : Nat → Int) (w : Int) (a : Nat) : ∀ d, C f w a ≤ C f w (a + d)
  | 0 => by simp
  | d + 1 => by have := C_mono f w a d; rw [← Nat.add_assoc]; simp only [C]; split <;> omega

theorem C_none (f : Nat → Int) (w : Int) (a : Nat) : ∀ d, (C f w (a + d) = C f w a ↔ ∀ j, a ≤ j → j < a + d → f j ≠ w)
  | 0 => by simp; intro j h1 h2; omega
  | d + 1 => by
    have ih := C_none f w a d
    have hm := C_mono f w a d
    rw [← Nat.add_assoc]; simp only [C]
    constructor
    · intro h j h1 h2
      by_cases e : f (a + d) = w
      · rw [if_pos e] at h; omega
      · rw [if_neg e] at h
        by_cases e2 : j = a + d
        · rw [e2]; exact e
        · exact ih.1 (by omega) j h1 (by omega)
    · intro h
      rw [if_neg (h (a + d) (by omega) (by omega)), ih.2 (fun j h1 h2 => h j h1 (by omega))]; omega

/-- is one of the n workers without a turn among the turns i, i - 1, .., by of them? -/
def lacks (f : Nat → Int) (n : Int) (b i : Nat) : Prop := ∃ w : Int, 0 ≤ w ∧ w < n ∧ C f w (i + 1) = C f w (i + 1 - b)
open Classical in
noncomputable def fair (f : Nat → Int) (n : Int) (b : Nat) : Nat → Nat → Bool
  | _, 0 => true
  | i, d + 1 => if b ≤ i + 1 ∧ lacks f n b i then false else fair f n b (i + 1) d

/-! the program's -/
theorem contains_loop (xs : List Int) (hx : xs.length ≤ 100) (d : Nat) : ∀ (i k : Nat), i + d = xs.length → (∀ j, j < i → xs.getD j 0 ≠ 0) → d < k →
    ∃ r, slices_Index_int_int.l0 k xs 0 (xs.length : Int) (i : Int) = some r ∧ (0 ≤ r ↔ ∃ j, j < xs.length ∧ xs.getD j 0 = 0) := by
  induction d with
  | zero =>
    intro i k h hb hk
    obtain ⟨k, rfl⟩ : ∃ n, k = n + 1 := ⟨k - 1, by omega⟩
    simp only [slices_Index_int_int.l0]; rw [if_neg (by omega)]
    refine ⟨_, rfl, ⟨fun h => by omega, ?_⟩⟩
    rintro ⟨j, h1, h2⟩
    exact absurd h2 (hb j (by omega))
  | succ d ih =>
    intro i k h hb hk
    obtain ⟨k, rfl⟩ : ∃ n, k = n + 1 := ⟨k - 1, by omega⟩
    simp only [slices_Index_int_int.l0]; rw [if_pos (by omega), if_pos (by omega), if_pos (by omega), rd_nat]
    by_cases e : (0 : Int) = xs.getD i 0
    · rw [if_pos e]; exact ⟨_, rfl, ⟨fun _ => ⟨i, by omega, e.symm⟩, fun _ => by omega⟩⟩
    · rw [if_neg e, w64 (by omega) (by omega)]
      exact ih (i + 1) k (by omega) (fun j hj => by
        by_cases e2 : j = i
        · rw [e2]; exact fun h => e h.symm
        · exact hb j (by omega)) (by omega)

theorem contains_at (xs : List Int) (hx : xs.length ≤ 100) (k : Nat) (hk : 101 < k) :
    ∃ r : Bool, slices_Contains_int_int.f k xs 0 = some r ∧ (r = true ↔ ∃ j, j < xs.length ∧ xs.getD j 0 = 0) := by
  obtain ⟨r, h1, h2⟩ := contains_loop xs hx xs.length 0 k (by omega) (by omega) (by omega)
  refine ⟨decide (r ≥ 0), ?_, ?_⟩
  · unfold slices_Contains_int_int.f slices_Index_int_int.f
    rw [show ((0 : Nat) : Int) = 0 from rfl] at h1
    rw [h1]; rfl
  · rw [decide_eq_true_iff]; exact h2

theorem getD_set (xs : List Int) (i j : Nat) (v : Int) (h : i < xs.length) : (xs.set i v).getD j 0 = if i = j then v else xs.getD j 0 := by
  simp only [List.getD_eq_getElem?_getD, List.getElem?_set]
  split
  · simp
  · rfl

theorem mx_who (n x : Int) (_hn : 1 ≤ n) : mx x 0 % n = who n x := by
  unfold mx who
  by_cases h : x < 0
  · rw [if_pos h, if_pos h]; simp
  · rw [if_neg h, if_neg h, Int.tmod_eq_emod_of_nonneg (by omega)]

theorem impl_loop (l : List Int) (hl : l.length ≤ 2000) (n : Int) (h1 : 1 ≤ n) (h6 : n ≤ 6) (b : Nat) (hb1 : 1 ≤ b) (hb2 : b ≤ 2000) (d : Nat) : ∀ (i : Nat) (cs : List Int) (k : Nat),
    i + d = l.length → cs.length = n.toNat → (∀ w, w < cs.length → cs.getD w 0 = C (tok l n) w i - C (tok l n) w (i - b)) → d + 200 < k →
    impl_FairIn.l0 k l n (b : Int) cs l (l.length : Int) (i : Int) = some (fair (tok l n) n b i d) := by
  induction d with
  | zero =>
    intro i cs k h _ _ hk
    obtain ⟨k, rfl⟩ : ∃ n, k = n + 1 := ⟨k - 1, by omega⟩
    simp only [impl_FairIn.l0]; rw [if_neg (by omega)]; rfl
  | succ d ih =>
    intro i cs k h hc hw hk
    obtain ⟨k, rfl⟩ : ∃ n, k = n + 1 := ⟨k - 1, by omega⟩
    have hA := who_bd n (l.getD i 0) h1
    have hCb := fun w => C_bd (tok l n) w i
    have hCb2 := fun w => C_bd (tok l n) w (i - b)
    simp only [impl_FairIn.l0]
    rw [if_pos (by omega), if_pos (by omega), if_pos (by omega), if_neg (by omega), rd_nat, mx_who _ _ h1, if_pos hA.1, if_pos (by omega), Option.bind_some]
    have hset : ∀ (xs : List Int) (u v : Int), xs.length = n.toNat → 0 ≤ u → u < n → ∀ w, w < xs.length → (xs.set u.toNat v).getD w 0 = if u = (w : Int) then v else xs.getD w 0 := by
      intro xs u v hx hu0 hu1 w _
      rw [getD_set _ _ _ _ (by omega)]
      by_cases e : u = (w : Int)
      · rw [if_pos e, if_pos (by omega)]
      · rw [if_neg e, if_neg (by omega)]
    have hrA : rd cs (who n (l.getD i 0)) = C (tok l n) (who n (l.getD i 0)) i - C (tok l n) (who n (l.getD i 0)) (i - b) := by
      have := hw (who n (l.getD i 0)).toNat (by omega)
      rw [show (((who n (l.getD i 0)).toNat : Nat) : Int) = who n (l.getD i 0) from by omega] at this
      exact this
    have hcA := hCb (who n (l.getD i 0))
    have hcA2 := hCb2 (who n (l.getD i 0))
    rw [hrA, w64 (x := C (tok l n) (who n (l.getD i 0)) i - C (tok l n) (who n (l.getD i 0)) (i - b) + 1) (by omega) (by omega)]
    -- the counts behind the first step
    generalize hcs1 : cs.set (who n (l.getD i 0)).toNat (C (tok l n) (who n (l.getD i 0)) i - C (tok l n) (who n (l.getD i 0)) (i - b) + 1) = cs1
    have hc1 : cs1.length = n.toNat := by rw [← hcs1]; simpa using hc
    have hw1 : ∀ w, w < cs1.length → cs1.getD w 0 = C (tok l n) w (i + 1) - C (tok l n) w (i - b) := by
      intro w hwl
      rw [← hcs1, hset cs _ _ hc hA.1 hA.2 w (by omega)]
      simp only [C]
      by_cases e : who n (l.getD i 0) = (w : Int)
      · rw [if_pos e, e, if_pos (show tok l n i = (w : Int) from e)]; omega
      · rw [if_neg e, if_neg (show ¬ tok l n i = (w : Int) from e), hw w (by omega)]; omega
    clear hcs1 hrA
    -- what is left, once the counts are those of the window
    have fin : ∀ cs2 : List Int, cs2.length = n.toNat → (∀ w, w < cs2.length → cs2.getD w 0 = C (tok l n) w (i + 1) - C (tok l n) w (i + 1 - b)) →
        (if (wrap64 ((i : Int) + 1)) ≥ (b : Int) then ((slices_Contains_int_int.f k cs2 0).bind fun t129 => (if t129 = true then (some false) else (impl_FairIn.l0 k l n (b : Int) cs2 l (l.length : Int) (wrap64 ((i : Int) + 1))))) else (impl_FairIn.l0 k l n (b : Int) cs2 l (l.length : Int) (wrap64 ((i : Int) + 1)))) = some (fair (tok l n) n b i (d + 1)) := by
      intro cs2 hc2 hw2
      have hnext := ih (i + 1) cs2 k (by omega) hc2 hw2 (by omega)
      rw [show (((i + 1 : Nat)) : Int) = (i : Int) + 1 from by omega] at hnext
      rw [w64 (by omega) (by omega)]
      simp only [fair]
      by_cases hbi : b ≤ i + 1
      · rw [if_pos (by omega)]
        obtain ⟨r, hr1, hr2⟩ := contains_at cs2 (by omega) k (by omega)
        rw [hr1]; simp only [Option.bind_some]
        have hla : lacks (tok l n) n b i ↔ r = true := by
          rw [hr2]
          clear hr2 hr1
          constructor
          · rintro ⟨w, hw0, hwn, he⟩
            refine ⟨w.toNat, by omega, ?_⟩
            rw [hw2 _ (by omega), show ((w.toNat : Nat) : Int) = w from by omega]; omega
          · rintro ⟨j, hj, he⟩
            rw [hw2 _ hj] at he
            exact ⟨j, by omega, by omega, by omega⟩
        by_cases e : r = true
        · rw [if_pos e, if_pos ⟨hbi, hla.2 e⟩]
        · rw [if_neg e, if_neg (fun hh => e (hla.1 hh.2)), hnext]
      · rw [if_neg (by omega), if_neg (fun hh => hbi hh.1), hnext]
    by_cases hib : b ≤ i
    · rw [if_pos (by omega), w64 (by omega) (by omega), if_pos (by omega), if_pos (by omega)]
      have ei : (i : Int) - (b : Int) = ((i - b : Nat) : Int) := by omega
      rw [ei, rd_nat, mx_who _ _ h1]
      have hB := who_bd n (l.getD (i - b) 0) h1
      rw [if_pos hB.1, if_pos (by omega)]
      have hrB : rd cs1 (who n (l.getD (i - b) 0)) = C (tok l n) (who n (l.getD (i - b) 0)) (i + 1) - C (tok l n) (who n (l.getD (i - b) 0)) (i - b) := by
        have := hw1 (who n (l.getD (i - b) 0)).toNat (by omega)
        rw [show (((who n (l.getD (i - b) 0)).toNat : Nat) : Int) = who n (l.getD (i - b) 0) from by omega] at this
        exact this
      have hcB := C_bd (tok l n) (who n (l.getD (i - b) 0)) (i + 1)
      have hcB2 := hCb2 (who n (l.getD (i - b) 0))
      rw [Option.bind_some, hrB, w64 (x := C (tok l n) (who n (l.getD (i - b) 0)) (i + 1) - C (tok l n) (who n (l.getD (i - b) 0)) (i - b) - 1) (by omega) (by omega)]
      refine fin _ (by simpa using hc1) ?_
      intro w hwl
      have hwl' : w < cs1.length := by simpa using hwl
      rw [hset cs1 _ _ hc1 hB.1 hB.2 w hwl']
      rw [show i + 1 - b = (i - b) + 1 from by omega]
      simp only [C]
      by_cases e : who n (l.getD (i - b) 0) = (w : Int)
      · rw [if_pos e, if_pos (show tok l n (i - b) = (w : Int) from e), e]; omega
      · rw [if_neg e, if_neg (show ¬ tok l n (i - b) = (w : Int) from e), hw1 w hwl']; simp only [C]; omega
    · rw [if_neg (by omega)]
      refine fin cs1 hc1 ?_
      intro w hwl
      rw [hw1 w hwl, show i - b = 0 from by omega, show i + 1 - b = 0 from by omega]

/-! the reference's -/
/-- w's last turn among the first i, or -1 -/
def Last (f : Nat → Int) (i : Nat) (w : Int) (v : Int) : Prop := -1 ≤ v ∧ v < i ∧ ∀ j : Nat, j < i → (v < j → f j ≠ w) ∧ ((j : Int) = v → f j = w)

theorem last_lacks (f : Nat → Int) (i b : Nat) (w v : Int) (hb : b ≤ i + 1) (h : Last f (i + 1) w v) : (v ≤ (i : Int) - b ↔ C f w (i + 1) = C f w (i + 1 - b)) := by
  obtain ⟨h1, h2, h3⟩ := h
  have hn := C_none f w (i + 1 - b) b
  rw [show i + 1 - b + b = i + 1 from by omega] at hn
  rw [hn]
  constructor
  · intro hv j hj1 hj2
    exact (h3 j hj2).1 (by omega)
  · intro ha
    by_cases e : 0 ≤ v
    · have hne : ¬ (i + 1 - b ≤ v.toNat) := by
        intro hle
        have := ha v.toNat hle (by omega)
        exact this ((h3 v.toNat (by omega)).2 (by omega))
      omega
    · omega

theorem last_step (f : Nat → Int) (i : Nat) (w v : Int) (h : Last f i w v) : Last f (i + 1) w (if f i = w then (i : Int) else v) := by
  obtain ⟨h1, h2, h3⟩ := h
  by_cases e : f i = w
  · rw [if_pos e]
    refine ⟨by omega, by omega, fun j hj => ⟨fun hlt => by omega, fun he => ?_⟩⟩
    obtain rfl : j = i := by omega
    exact e
  · rw [if_neg e]
    refine ⟨h1, by omega, fun j hj => ?_⟩
    by_cases e2 : j = i
    · rw [e2]; exact ⟨fun _ => e, fun he => by omega⟩
    · exact h3 j (by omega)

theorem fill_loop (l : List Int) (n : Int) (h6 : n ≤ 6) (b : Int) (R : Option Bool) (K : Nat) (d : Nat) : ∀ (i : Nat) (xs : List Int) (k : Nat), (i : Int) + d = n → xs.length = n.toNat → (∀ j, j < i → xs.getD j 0 = -1) →
    (∀ k', K ≤ k' → ∀ ys : List Int, ys.length = n.toNat → (∀ j, j < ys.length → ys.getD j 0 = -1) → spec_FairIn.l1 k' l n b ys 0 = R) → d + K < k → spec_FairIn.l0 k l n b xs (i : Int) = R := by
  induction d with
  | zero =>
    intro i xs k h hx hm hR hk
    obtain ⟨k, rfl⟩ : ∃ n, k = n + 1 := ⟨k - 1, by omega⟩
    simp only [spec_FairIn.l0]; rw [if_neg (by omega)]
    exact hR k (by omega) xs hx (fun j hj => hm j (by omega))
  | succ d ih =>
    intro i xs k h hx hm hR hk
    obtain ⟨k, rfl⟩ : ∃ n, k = n + 1 := ⟨k - 1, by omega⟩
    simp only [spec_FairIn.l0]; rw [if_pos (by omega), if_pos (by omega), if_pos (by omega), w64 (by omega) (by omega)]
    refine ih (i + 1) (xs.set i (-1)) k (by omega) (by simpa using hx) ?_ hR (by omega)
    intro j hj
    rw [getD_set _ _ _ _ (by omega)]
    split
    · rfl
    · exact hm j (by omega)

open Classical in
/-- the inner loop, from worker w on -/
theorem inner_yes (l : List Int) (n : Int) (h6 : n ≤ 6) (b i : Nat) (hi : i ≤ 2000) (hb : b ≤ i + 1) (xs : List Int) (hx : xs.length = n.toNat) (R : Option Bool) (K : Nat)
    (hR : ∀ k', K ≤ k' → spec_FairIn.l1 k' l n (b : Int) xs ((i : Int) + 1) = R) (d : Nat) : ∀ (w k : Nat), (w : Int) + d = n → 2 * d + 2 + K < k →
    spec_FairIn.l2 k l n (b : Int) xs (i : Int) (w : Int) = if ∃ j, w ≤ j ∧ j < xs.length ∧ xs.getD j 0 ≤ (i : Int) - b then some false else R := by
  induction d with
  | zero =>
    intro w k h hk
    obtain ⟨k, rfl⟩ : ∃ n, k = n + 1 + 1 := ⟨k - 2, by omega⟩
    simp only [spec_FairIn.l2]; rw [if_neg (by omega)]
    simp only [spec_FairIn.j4]; rw [if_neg (by simp), w64 (by omega) (by omega), hR k (by omega), if_neg]
    rintro ⟨j, h1, h2, _⟩; omega
  | succ d ih =>
    intro w k h hk
    obtain ⟨k, rfl⟩ : ∃ n, k = n + 1 + 1 := ⟨k - 2, by omega⟩
    simp only [spec_FairIn.l2]; rw [if_pos (by omega), w64 (x := (i : Int) + 1) (by omega) (by omega), decide_eq_true (by omega)]
    simp only [spec_FairIn.j4, if_true]; rw [if_pos (by omega), if_pos (by omega), rd_nat, w64 (x := (i : Int) - b) (by omega) (by omega)]
    by_cases e : xs.getD w 0 ≤ (i : Int) - b
    · rw [if_pos e, if_pos ⟨w, by omega, by omega, e⟩]
    · rw [if_neg e, w64 (by omega) (by omega)]
      have := ih (w + 1) k (by omega) (by omega)
      rw [show (((w + 1 : Nat)) : Int) = (w : Int) + 1 from by omega] at this
      rw [this]
      by_cases e2 : ∃ j, w + 1 ≤ j ∧ j < xs.length ∧ xs.getD j 0 ≤ (i : Int) - b
      · rw [if_pos e2]
        obtain ⟨j, h1, h2, h3⟩ := e2
        rw [if_pos ⟨j, by omega, h2, h3⟩]
      · rw [if_neg e2, if_neg]
        rintro ⟨j, h1, h2, h3⟩
        by_cases e3 : j = w
        · rw [e3] at h3; exact e h3
        · exact e2 ⟨j, by omega, h2, h3⟩

theorem spec_loop (l : List Int) (hl : l.length ≤ 2000) (n : Int) (h1 : 1 ≤ n) (h6 : n ≤ 6) (b : Nat) (hb1 : 1 ≤ b) (hb2 : b ≤ 2000) (d : Nat) : ∀ (i : Nat) (xs : List Int) (k : Nat),
    i + d = l.length → xs.length = n.toNat → (∀ w : Nat, w < xs.length → Last (tok l n) i w (xs.getD w 0)) → 20 * d + 20 < k →
    spec_FairIn.l1 k l n (b : Int) xs (i : Int) = some (fair (tok l n) n b i d) := by
  induction d with
  | zero =>
    intro i xs k h _ _ hk
    obtain ⟨k, rfl⟩ : ∃ n, k = n + 1 := ⟨k - 1, by omega⟩
    simp only [spec_FairIn.l1]; rw [if_neg (by omega)]; rfl
  | succ d ih =>
    intro i xs k h hx hw hk
    obtain ⟨k, rfl⟩ : ∃ n, k = n + 1 := ⟨k - 1, by omega⟩
    have hA := who_bd n (l.getD i 0) h1
    simp only [spec_FairIn.l1]
    rw [if_pos (by omega), if_pos (by omega), rd_nat]
    have hm : spec_l29Mod.f (l.getD i 0) n = some (who n (l.getD i 0)) := by
      unfold spec_l29Mod.f who
      by_cases e : l.getD i 0 < 0
      · rw [if_pos e, if_pos e]
      · rw [if_neg e, if_neg e, if_neg (by omega)]
    rw [hm]; simp only [Option.bind_some]
    rw [if_pos hA.1, if_pos (by omega)]
    generalize hxs1 : xs.set (who n (l.getD i 0)).toNat (i : Int) = xs1
    have hx1 : xs1.length = n.toNat := by rw [← hxs1]; simpa using hx
    have hw1 : ∀ w : Nat, w < xs1.length → Last (tok l n) (i + 1) w (xs1.getD w 0) := by
      intro w hwl
      have := last_step _ _ _ _ (hw w (by omega))
      rw [← hxs1, getD_set _ _ _ _ (by omega)]
      by_cases e : who n (l.getD i 0) = (w : Int)
      · rw [if_pos (show tok l n i = (w : Int) from e)] at this
        rw [if_pos (by omega)]; exact this
      · rw [if_neg (show ¬ tok l n i = (w : Int) from e)] at this
        rw [if_neg (by omega)]; exact this
    have hnext := fun k' (hk' : 20 * d + 21 ≤ k') => ih (i + 1) xs1 k' (by omega) hx1 hw1 (by omega)
    rw [show (((i + 1 : Nat)) : Int) = (i : Int) + 1 from by omega] at hnext
    simp only [fair]
    by_cases hbi : b ≤ i + 1
    · have := inner_yes l n h6 b i (by omega) hbi xs1 hx1 _ (20 * d + 21) hnext n.toNat 0 k (by omega) (by omega)
      rw [show ((0 : Nat) : Int) = 0 from rfl] at this
      rw [this]
      have hla : lacks (tok l n) n b i ↔ ∃ j, 0 ≤ j ∧ j < xs1.length ∧ xs1.getD j 0 ≤ (i : Int) - b := by
        constructor
        · rintro ⟨w, hw0, hwn, he⟩
          refine ⟨w.toNat, by omega, by omega, ?_⟩
          have h2 := hw1 w.toNat (by omega)
          rw [show ((w.toNat : Nat) : Int) = w from by omega] at h2
          exact (last_lacks _ _ _ _ _ hbi h2).2 he
        · rintro ⟨j, _, hj, he⟩
          exact ⟨j, by omega, by omega, (last_lacks _ _ _ _ _ hbi (hw1 j hj)).1 he⟩
      by_cases e : ∃ j, 0 ≤ j ∧ j < xs1.length ∧ xs1.getD j 0 ≤ (i : Int) - b
      · rw [if_pos e, if_pos ⟨hbi, hla.2 e⟩]
      · rw [if_neg e, if_neg (fun hh => e (hla.1 hh.2))]
    · rw [if_neg (fun hh => hbi hh.1)]
      obtain ⟨k, rfl⟩ : ∃ n, k = n + 1 + 1 := ⟨k - 2, by omega⟩
      simp only [spec_FairIn.l2]; rw [if_pos (by omega), w64 (by omega) (by omega), decide_eq_false (by omega)]
      simp only [spec_FairIn.j4]; rw [if_neg (by simp), w64 (by omega) (by omega)]
      exact hnext k (by omega)

noncomputable def want (l : List Int) (a b : Int) : Bool := if 1 ≤ a ∧ a ≤ 6 ∧ 1 ≤ b ∧ b ≤ 2000 ∧ l.length ≤ 2000 then fair (tok l a) a b.toNat 0 l.length else false

theorem impl_ev (l : List Int) (a b : Int) : Ev (fun k => impl_FairIn.f k l a b) (want l a b) := by
  refine Ev.of (k := 5000) (fun k => impl_FairIn.mono _ _ _ _) ?_
  unfold impl_FairIn.f want
  by_cases h1 : a < 1
  · rw [if_pos h1, if_neg (by omega)]; simp [impl_FairIn.j0]
  rw [if_neg h1]
  by_cases h2 : a > 6
  · rw [if_pos h2, if_neg (by omega)]; simp [impl_FairIn.j0]
  rw [if_neg h2]
  by_cases h3 : b < 1
  · rw [if_pos h3, if_neg (by omega)]; simp [impl_FairIn.j0]
  rw [if_neg h3]
  by_cases h4 : b > 2000
  · rw [if_pos h4, if_neg (by omega)]; simp [impl_FairIn.j0]
  rw [if_neg h4]
  by_cases h5 : (l.length : Int) > 2000
  · rw [decide_eq_true h5, if_neg (by omega)]; simp [impl_FairIn.j0]
  rw [decide_eq_false h5, if_pos (by omega)]
  simp only [impl_FairIn.j0]
  rw [if_neg (by simp), if_pos (by omega), if_pos (by omega)]
  have := impl_loop l (by omega) a (by omega) (by omega) b.toNat (by omega) (by omega) l.length 0 (List.replicate a.toNat 0) 4999 (by omega) (by simp) ?_ (by omega)
  · rw [show ((b.toNat : Nat) : Int) = b from by omega, show ((0 : Nat) : Int) = 0 from rfl] at this
    exact this
  · intro w hw
    have hw2 : w < a.toNat := by simpa using hw
    simp [C, hw2]

theorem spec_ev (l : List Int) (a b : Int) : Ev (fun k => spec_FairIn.f k l a b) (want l a b) := by
  refine Ev.of (k := 60000) (fun k => spec_FairIn.mono _ _ _ _) ?_
  by_cases h0 : 1 ≤ a ∧ a ≤ 6 ∧ 1 ≤ b ∧ b ≤ 2000 ∧ l.length ≤ 2000
  · obtain ⟨h1, h2, h3, h4, h5⟩ := h0
    unfold want
    rw [if_pos ⟨h1, h2, h3, h4, h5⟩]
    unfold spec_FairIn.f spec_l01In.f
    rw [if_pos h1, decide_eq_true h2]; simp only [Option.bind_some, if_true]
    rw [if_pos h3, decide_eq_true h4]; simp only [Option.bind_some, if_true]
    rw [decide_eq_false (by omega)]
    simp only [spec_FairIn.j0]
    rw [if_neg (by simp), if_pos (by omega), if_pos (by omega)]
    refine fill_loop l a (by omega) b _ 50000 a.toNat 0 _ 59999 (by omega) (by simp) (by omega) ?_ (by omega)
    intro k' hk' ys hy1 hy2
    have := spec_loop l (by omega) a (by omega) (by omega) b.toNat (by omega) (by omega) l.length 0 ys k' (by omega) hy1 ?_ (by omega)
    · rw [show ((b.toNat : Nat) : Int) = b from by omega, show ((0 : Nat) : Int) = 0 from rfl] at this
      exact this
    · intro w hw
      rw [hy2 w hw]
      exact ⟨by omega, by omega, fun j hj => by omega⟩
  · unfold want
    rw [if_neg h0]
    unfold spec_FairIn.f spec_l01In.f
    by_cases h1 : a < 1
    · rw [if_neg (show ¬ a ≥ 1 by omega)]; simp [spec_FairIn.j0]
    rw [if_pos (show a ≥ 1 by omega)]; simp only [Option.bind_some]
    by_cases h2 : a > 6
    · rw [decide_eq_false (show ¬ a ≤ 6 by omega)]; simp [spec_FairIn.j0]
    rw [decide_eq_true (show a ≤ 6 by omega)]; simp only [if_true]
    by_cases h3 : b < 1
    · rw [if_neg (show ¬ b ≥ 1 by omega)]; simp [spec_FairIn.j0]
    rw [if_pos (show b ≥ 1 by omega)]; simp only [Option.bind_some]
    by_cases h4 : b > 2000
    · rw [decide_eq_false (show ¬ b ≤ 2000 by omega)]; simp [spec_FairIn.j0]
    rw [decide_eq_true (show b ≤ 2000 by omega)]; simp only [if_true]
    rw [decide_eq_true (show (l.length : Int) > 2000 by omega)]; simp [spec_FairIn.j0]

theorem eq_loop (xs : List Int) (hx : xs.length ≤ 4000000) (d : Nat) : ∀ (i k : Nat), i + d = xs.length → d < k → laws_eqIntS.l0 k xs xs (i : Int) = some true := by
  induction d with
  | zero =>
    intro i k h hk
    obtain ⟨k, rfl⟩ : ∃ n, k = n + 1 := ⟨k - 1, by omega⟩
    simp only [laws_eqIntS.l0]; rw [if_neg (by omega)]
  | succ d ih =>
    intro i k h hk
    obtain ⟨k, rfl⟩ : ∃ n, k = n + 1 := ⟨k - 1, by omega⟩
    simp only [laws_eqIntS.l0]; rw [if_pos (by omega), if_pos (by omega), if_pos (by omega), w64 (by omega) (by omega)]
    simp only [if_true]
    exact ih (i + 1) k (by omega) (by omega)

theorem eq_ev (xs : List Int) (hx : xs.length ≤ 4000000) : Ev (fun k => laws_eqIntS.f k xs xs) true := by
  refine Ev.of (k := xs.length + 1) (fun k => laws_eqIntS.mono _ _ _) ?_
  unfold laws_eqIntS.f; rw [if_pos rfl]
  exact eq_loop xs hx xs.length 0 _ (by omega) (by omega)

theorem to_loop (xs : List Int) (hx : xs.length ≤ 4000000) (d : Nat) : ∀ (i k : Nat) (ys : List Int), i + d = xs.length → ys.length = xs.length → d < k →
    laws_toIntS.l0 k xs ys (i : Int) = some (ys.take i ++ xs.drop i) := by
  induction d with
  | zero =>
    intro i k ys h hy hk
    obtain ⟨k, rfl⟩ : ∃ n, k = n + 1 := ⟨k - 1, by omega⟩
    simp only [laws_toIntS.l0]; rw [if_neg (by omega), List.take_of_length_le (by omega), List.drop_of_length_le (by omega)]; simp
  | succ d ih =>
    intro i k ys h hy hk
    obtain ⟨k, rfl⟩ : ∃ n, k = n + 1 := ⟨k - 1, by omega⟩
    simp only [laws_toIntS.l0]; rw [if_pos (by omega), if_pos (by omega), if_pos (by omega), w64 (by omega) (by omega), rd_nat]
    have := ih (i + 1) k (ys.set i (xs.getD i 0)) (by omega) (by simpa using hy) (by omega)
    rw [show (((i + 1 : Nat)) : Int) = (i : Int) + 1 from by omega] at this
    rw [show (i : Int).toNat = i from by omega, this]
    congr 1
    rw [List.drop_eq_getElem_cons (show i < xs.length by omega), List.take_add_one]
    have e : (ys.set i (xs.getD i 0))[i]? = some xs[i] := by
      rw [List.getElem?_set_self (by omega)]
      simp [List.getD_eq_getElem?_getD, List.getElem?_eq_getElem (show i < xs.length by omega)]
    rw [e, List.take_set_of_le (Nat.le_refl i)]
    simp

theorem to_ev (xs : List Int) (hx : xs.length ≤ 4000000) : Ev (fun k => laws_toIntS.f k xs) xs := by
  refine Ev.of (k := xs.length + 1) (fun k => laws_toIntS.mono _ _) ?_
  unfold laws_toIntS.f; rw [if_pos (by omega), if_pos (by omega)]
  have := to_loop xs hx xs.length 0 (xs.length + 1) (List.replicate (xs.length : Int).toNat 0) (by omega) (by simp) (by omega)
  rw [show ((0 : Nat) : Int) = 0 from rfl] at this
  rw [this]; simp

theorem pure_holds : laws_FnExactFairIn.Pure := by
  intro l a b _ _ _ _ _
  refine Ev.rounds (r := true) ?_
  unfold laws_FnExactFairIn.f
  by_cases hl : (l.length : Int) > 1048576
  · simp only [hl, if_true]; exact Ev.now _
  simp only [hl, if_false]
  refine Ev.bind (to_ev l (by omega)) (Ev.bind (spec_ev l a b) (Ev.bind (to_ev l (by omega)) (Ev.bind (impl_ev l a b) ?_)))
  simp only [bne_self_eq_false, Bool.false_eq_true, if_false]
  refine Ev.bind (to_ev l (by omega)) (Ev.bind (eq_ev l (by omega)) ?_)
  simp only [if_true]
  exact Ev.now _

end Go.Proofs.Ytioanpejndfbnaa.PureFair
namespace Go.Proofs.Ytioanpejndfbnaa.Pure
open Go.Proofs.Ytioanpejndfbnaa.PFnExactFairIn
theorem FnExactFairIn : laws_FnExactFairIn.Pure := PureFair.pure_holds
end Go.Proofs.Ytioanpejndfbnaa.Pure
