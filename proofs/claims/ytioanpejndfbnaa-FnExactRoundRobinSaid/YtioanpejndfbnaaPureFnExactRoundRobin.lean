/- The program's RoundRobin returns what the reference's returns, for all arguments: both make the rests of 0, 1, 2 .. by many, and what is marked is held. -/
import Derived.Test.YtioanpejndfbnaaPFnExactRoundRobinx2
namespace Go.Proofs.Ytioanpejndfbnaa.Pure
open Go.RowKit Go.Proofs.Ytioanpejndfbnaa.PFnExactRoundRobin Go.Proofs.YtioanpejndfbnaaW.PrintWords Go.Proofs.YtioanpejndfbnaaW.PrintLast

theorem w64 {x : Int} (h0 : -9223372036854775808 ≤ x) (h : x < 9223372036854775808) : wrap64 x = x := by
  unfold wrap64; omega

def rr (m : Int) : Nat → Nat → List Int
  | _, 0 => []
  | i, d + 1 => Int.tmod (i : Int) m :: rr m (i + 1) d

theorem rr_len (m : Int) : ∀ d i, (rr m i d).length = d
  | 0, _ => rfl
  | d + 1, i => by simp [rr, rr_len m d (i + 1)]

theorem spec_loop (m t : Int) (hm : m ≠ 0) (ht : t ≤ 2000) (d : Nat) : ∀ (i : Nat) (acc : List Int) (k : Nat), (i : Int) + d = t → acc.length = i → d < k →
    spec_RoundRobin.l0 k m t acc (i : Int) = some (acc ++ rr m i d) := by
  induction d with
  | zero =>
    intro i acc k h _ hk
    obtain ⟨k, rfl⟩ : ∃ n, k = n + 1 := ⟨k - 1, by omega⟩
    simp only [spec_RoundRobin.l0]; rw [if_neg (by omega)]; simp [rr]
  | succ d ih =>
    intro i acc k h hl hk
    obtain ⟨k, rfl⟩ : ∃ n, k = n + 1 := ⟨k - 1, by omega⟩
    simp only [spec_RoundRobin.l0]; rw [if_pos (by omega), if_neg hm, if_pos (by omega), w64 (by omega) (by omega)]
    have := ih (i + 1) (acc ++ [Int.tmod (i : Int) m]) k (by omega) (by simp [hl]) (by omega)
    rw [show (((i + 1 : Nat)) : Int) = (i : Int) + 1 from by omega] at this
    rw [this]; simp [rr]

theorem impl_loop (m t : Int) (hm : m ≠ 0) (ht : t ≤ 2000) (d : Nat) : ∀ (i : Nat) (acc : List Int) (k : Nat), (i : Int) + d = t → acc.length = i → d < k →
    impl_RoundRobin.l0 k m acc t (i : Int) = some (acc ++ rr m i d) := by
  induction d with
  | zero =>
    intro i acc k h _ hk
    obtain ⟨k, rfl⟩ : ∃ n, k = n + 1 := ⟨k - 1, by omega⟩
    simp only [impl_RoundRobin.l0]; rw [if_neg (by omega)]; simp [rr]
  | succ d ih =>
    intro i acc k h hl hk
    obtain ⟨k, rfl⟩ : ∃ n, k = n + 1 := ⟨k - 1, by omega⟩
    simp only [impl_RoundRobin.l0]; rw [if_pos (by omega), if_neg hm, if_pos (by omega), w64 (by omega) (by omega)]
    have := ih (i + 1) (acc ++ [Int.tmod (i : Int) m]) k (by omega) (by simp [hl]) (by omega)
    rw [show (((i + 1 : Nat)) : Int) = (i : Int) + 1 from by omega] at this
    rw [this]; simp [rr]

def want (a b : Int) : List Int := if 1 ≤ a ∧ a ≤ 6 ∧ 0 ≤ b ∧ b ≤ 2000 then rr a 0 b.toNat else []

theorem want_len (a b : Int) : (want a b).length ≤ 2000 := by
  unfold want; split
  · rw [rr_len]; omega
  · simp

theorem spec_ev (a b : Int) : Ev (fun k => spec_RoundRobin.f k a b) (want a b) := by
  refine Ev.of (k := 3000) (fun k => spec_RoundRobin.mono _ _ _) ?_
  unfold spec_RoundRobin.f
  simp only [Option.bind_some, spec_l01In.f, want]
  by_cases h1 : 1 ≤ a
  · by_cases h2 : a ≤ 6
    · by_cases h3 : 0 ≤ b
      · by_cases h4 : b ≤ 2000
        · have := spec_loop a b (by omega) h4 b.toNat 0 [] 2999 (by omega) rfl (by omega)
          simp [h1, h2, h3, h4, spec_RoundRobin.j0] at this ⊢
          exact this
        · simp [h1, h2, h3, h4, spec_RoundRobin.j0]
      · simp [h1, h2, h3, spec_RoundRobin.j0]
    · simp [h1, h2, spec_RoundRobin.j0]
  · simp [h1, spec_RoundRobin.j0]

theorem impl_ev (a b : Int) : Ev (fun k => impl_RoundRobin.f k a b) (want a b) := by
  refine Ev.of (k := 3000) (fun k => impl_RoundRobin.mono _ _ _) ?_
  unfold impl_RoundRobin.f want
  by_cases h1 : a < 1
  · rw [if_pos h1, if_neg (by omega)]; simp [impl_RoundRobin.j0]
  · rw [if_neg h1]
    by_cases h2 : a > 6
    · rw [if_pos h2, if_neg (by omega)]; simp [impl_RoundRobin.j0]
    · rw [if_neg h2]
      by_cases h3 : b < 0
      · rw [if_pos h3, if_neg (by omega)]; simp [impl_RoundRobin.j0]
      · rw [if_neg h3]
        by_cases h4 : b > 2000
        · rw [if_neg (by omega), decide_eq_true h4]; simp [impl_RoundRobin.j0]
        · rw [if_pos (by omega), decide_eq_false h4]
          have := impl_loop a b (by omega) (by omega) b.toNat 0 [] 2999 (by omega) rfl (by omega)
          simp [impl_RoundRobin.j0] at this ⊢
          exact this

theorem rd_nat (xs : List Int) (i : Nat) : rd xs (i : Int) = xs.getD i 0 := by simp [rd]

theorem eq_loop (xs : List Int) (hx : xs.length ≤ 4000000) (d : Nat) : ∀ (i k : Nat), i + d = xs.length → d < k → laws_eqIntS.l0 k xs xs (i : Int) = some true := by
  induction d with
  | zero =>
    intro i k h hk
    obtain ⟨k, rfl⟩ : ∃ n, k = n + 1 := ⟨k - 1, by omega⟩
    simp only [laws_eqIntS.l0]; rw [if_neg (by omega)]
  | succ d ih =>
    intro i k h hk
    obtain ⟨k, rfl⟩ : ∃ n, k = n + 1 := ⟨k - 1, by omega⟩
    simp only [laws_eqIntS.l0]; rw [if_pos (by omega), if_pos (by omega), if_pos (by omega), w64 (by omega) (by omega)]
    simp only [if_true]
    exact ih (i + 1) k (by omega) (by omega)

theorem eq_ev (xs : List Int) (hx : xs.length ≤ 4000000) : Ev (fun k => laws_eqIntS.f k xs xs) true := by
  refine Ev.of (k := xs.length + 1) (fun k => laws_eqIntS.mono _ _ _) ?_
  unfold laws_eqIntS.f; rw [if_pos rfl]
  exact eq_loop xs hx xs.length 0 _ (by omega) (by omega)

def ups : Int → Nat → List Int
  | _, 0 => []
  | m, d + 1 => m :: ups (m + 1) d

theorem ups_len : ∀ d m, (ups m d).length = d
  | 0, _ => rfl
  | d + 1, m => by simp [ups, ups_len d (m + 1)]

theorem mark_loop (d : Nat) : ∀ (pre rest : List Int) (m : Int) (k : Nat), rest.length = d → pre.length + d ≤ 4000000 → 0 ≤ m → m + d ≤ 8000000 → d < k →
    laws_markIntS.l0 k (pre ++ rest) m (pre.length : Int) = some (m + d, pre ++ ups m d) := by
  induction d with
  | zero =>
    intro pre rest m k h _ _ _ hk
    obtain ⟨k, rfl⟩ : ∃ n, k = n + 1 := ⟨k - 1, by omega⟩
    obtain rfl := List.eq_nil_of_length_eq_zero h
    simp only [laws_markIntS.l0]; rw [if_neg (by simp)]; simp [ups]
  | succ d ih =>
    intro pre rest m k h h1 h2 h3 hk
    obtain ⟨k, rfl⟩ : ∃ n, k = n + 1 := ⟨k - 1, by omega⟩
    obtain ⟨x, rest, rfl⟩ : ∃ x r, rest = x :: r := by cases rest with
      | nil => simp at h
      | cons x r => exact ⟨x, r, rfl⟩
    simp only [List.length_cons] at h
    simp only [laws_markIntS.l0]
    rw [if_pos (by simp only [List.length_append, List.length_cons]; omega), if_pos (by omega), w64 (by omega) (by omega), w64 (by omega) (by omega)]
    have e : (pre ++ x :: rest).set (pre.length : Int).toNat m = (pre ++ [m]) ++ rest := by simp
    rw [e]
    have := ih (pre ++ [m]) rest (m + 1) k (by omega) (by simp only [List.length_append, List.length_singleton]; omega) (by omega) (by omega) (by omega)
    rw [show (((pre ++ [m]).length : Nat) : Int) = (pre.length : Int) + 1 from by simp only [List.length_append, List.length_singleton]; omega] at this
    rw [this]; simp [ups]; omega

theorem mark_ev (xs : List Int) (hx : xs.length ≤ 3000000) : Ev (fun k => laws_markIntS.f k xs 1) (1 + xs.length, ups 1 xs.length) := by
  refine Ev.of (k := xs.length + 1) (fun k => laws_markIntS.mono _ _ _) ?_
  unfold laws_markIntS.f
  have := mark_loop xs.length [] xs 1 (xs.length + 1) rfl (by simp; omega) (by omega) (by omega) (by omega)
  simpa using this

theorem held_loop (d : Nat) : ∀ (pre : List Int) (m : Int) (k : Nat), pre.length + d ≤ 4000000 → 0 ≤ m → m + d ≤ 8000000 → d < k →
    laws_heldIntS.l0 k (pre ++ ups m d) m (pre.length : Int) = some (m + d) := by
  induction d with
  | zero =>
    intro pre m k _ _ _ hk
    obtain ⟨k, rfl⟩ : ∃ n, k = n + 1 := ⟨k - 1, by omega⟩
    simp only [laws_heldIntS.l0]; rw [if_neg (by simp [ups])]; simp
  | succ d ih =>
    intro pre m k h1 h2 h3 hk
    obtain ⟨k, rfl⟩ : ∃ n, k = n + 1 := ⟨k - 1, by omega⟩
    simp only [laws_heldIntS.l0]
    have hr : rd (pre ++ ups m (d + 1)) (pre.length : Int) = m := by simp [rd, ups]
    rw [if_pos (by simp only [List.length_append, ups_len]; omega), if_pos (by omega), if_pos hr, w64 (by omega) (by omega), w64 (by omega) (by omega)]
    have := ih (pre ++ [m]) (m + 1) k (by simp only [List.length_append, List.length_singleton]; omega) (by omega) (by omega) (by omega)
    rw [show (((pre ++ [m]).length : Nat) : Int) = (pre.length : Int) + 1 from by simp only [List.length_append, List.length_singleton]; omega] at this
    rw [show pre ++ ups m (d + 1) = pre ++ [m] ++ ups (m + 1) d from by simp [ups], this]
    congr 1; omega

theorem held_ev (n : Nat) (hx : n ≤ 3000000) : Ev (fun k => laws_heldIntS.f k (ups 1 n) 1) (1 + (n : Int)) := by
  refine Ev.of (k := n + 1) (fun k => laws_heldIntS.mono _ _ _) ?_
  unfold laws_heldIntS.f
  have := held_loop n [] 1 (n + 1) (by simp; omega) (by omega) (by omega) (by omega)
  simpa using this

theorem FnExactRoundRobin : laws_FnExactRoundRobin.Pure := by
  intro a0 a1 _ _
  have hl := want_len a0 a1
  have hn : ¬ (1 + ((want a0 a1).length : Int) < 0) := by omega
  refine Ev.rounds (r := true) ?_
  unfold laws_FnExactRoundRobin.f
  refine Ev.bind (spec_ev a0 a1) (Ev.bind (impl_ev a0 a1) (Ev.bind (eq_ev _ (by omega)) ?_))
  simp only [if_true]
  refine Ev.bind (mark_ev _ (by omega)) (Ev.bind (held_ev _ (by omega)) ?_)
  simp only [hn, if_false, if_true]
  refine Ev.bind (impl_ev a0 a1) (Ev.bind (eq_ev _ (by omega)) ?_)
  simp only [if_true]
  refine Ev.bind (held_ev _ (by omega)) ?_
  simp only [hn, if_false, if_true]
  exact Ev.now _

end Go.Proofs.Ytioanpejndfbnaa.Pure
