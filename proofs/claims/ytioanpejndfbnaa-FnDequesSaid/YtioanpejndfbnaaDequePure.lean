/- Queues: nothing that is pushed is lost, and nothing taken twice. -/
import Derived.Test.YtioanpejndfbnaaGoDeque3
namespace Go.Proofs.Ytioanpejndfbnaa
set_option linter.unusedSimpArgs false
set_option linter.unusedVariables false

def dqInv (i : Nat) (s : Q4) : Prop :=
  s.1.length + s.2.1.length + s.2.2.1.length = s.2.2.2.length ∧ (∀ x, x ∈ s.2.2.2 ↔ x ∈ s.1 ∨ x ∈ s.2.1 ++ s.2.2.1) ∧ (s.2.1 ++ s.2.2.1).Pairwise (· < ·) ∧ (∀ x ∈ s.1, x ∉ s.2.1 ++ s.2.2.1) ∧ (∀ x ∈ s.2.2.2, x ≤ (i : Int)) ∧ s.2.2.1.length ≤ 16
theorem last_split {L : List Int} (h : L ≠ []) : L = L.take (L.length - 1) ++ [lastOf L] := by
  have hl : L.length ≠ 0 := fun e => h (List.eq_nil_of_length_eq_zero e)
  have h1 : L.length - 1 < L.length := by omega
  have : lastOf L = L[L.length - 1] := by simp [lastOf, h1]
  rw [this]
  have h2 := List.take_add_one (l := L) (i := L.length - 1)
  rw [show L.length - 1 + 1 = L.length by omega, List.take_length, List.getElem?_eq_getElem h1] at h2
  simpa using h2
theorem first_split {L : List Int} (h : L ≠ []) : L = L.getD 0 0 :: L.drop 1 := by
  cases L with
  | nil => exact absurd rfl h
  | cons x xs => simp
theorem dqInv_step {i : Nat} {s : Q4} {op : GDqOp} (h : dqInv i s) (hi : op.item = 1 + (i : Int)) : dqInv (i + 1) (dqStep s op) := by
  obtain ⟨P, T, L, U⟩ := s
  obtain ⟨h1, h2, h3, h4, h5, h6⟩ := h
  simp only [] at h1 h2 h3 h4 h5 h6
  have h5' : ∀ x ∈ U, x ≤ ((i + 1 : Nat) : Int) := fun x hx => by have := h5 x hx; omega
  unfold dqStep
  simp only []
  split
  · by_cases hc : L.length < 16
    · rw [if_pos hc, show pushed L op.item = L ++ [op.item] from if_neg (by omega)]
      refine ⟨?_, ?_, ?_, ?_, ?_, ?_⟩
      · simp; omega
      · intro x; simp only [List.mem_append, List.mem_singleton, h2]
        constructor
        · rintro ((h | h | h) | h) <;> simp [h]
        · rintro (h | h | h | h) <;> simp [h]
      · show (T ++ (L ++ [op.item])).Pairwise (· < ·)
        rw [← List.append_assoc, List.pairwise_append]
        refine ⟨h3, by simp, fun a ha b hb => ?_⟩
        simp only [List.mem_singleton] at hb
        have := h5 a ((h2 a).2 (.inr ha))
        omega
      · intro x hx hm
        simp only [List.mem_append, List.mem_singleton] at hm
        rcases hm with h | h | h
        · exact h4 x hx (by simp [h])
        · exact h4 x hx (by simp [h])
        · have := h5 x ((h2 x).2 (.inl hx)); omega
      · intro x hx
        simp only [List.mem_append, List.mem_singleton] at hx
        rcases hx with h | h
        · exact h5' x h
        · omega
      · simp; omega
    · rw [if_neg hc, show pushed L op.item = L from if_pos (by omega)]
      exact ⟨h1, h2, h3, h4, h5', h6⟩
  split
  · by_cases hL : L = []
    · subst hL; exact ⟨by simpa using h1, by simpa using h2, by simpa using h3, by simpa using h4, h5', by simp⟩
    · rw [if_neg hL]
      have hs := last_split hL
      generalize hx0 : lastOf L = x0 at hs
      generalize hL0 : L.take (L.length - 1) = L0 at hs
      have hL' : L.length ≠ 0 := fun e => hL (List.eq_nil_of_length_eq_zero e)
      subst hs
      rw [← List.append_assoc, List.pairwise_append] at h3
      obtain ⟨h3a, -, h3c⟩ := h3
      refine ⟨?_, ?_, h3a, ?_, h5', ?_⟩
      · simp only [List.length_append, List.length_singleton] at h1 ⊢; omega
      · intro x; rw [h2]; simp only [List.mem_append, List.mem_singleton]
        constructor
        · rintro (h | h | h | h) <;> simp [h]
        · rintro ((h | h) | h | h) <;> simp [h]
      · intro x hx hm
        simp only [List.mem_append, List.mem_singleton] at hx
        rcases hx with h | h
        · exact h4 x h (by simp only [List.mem_append] at hm ⊢; rcases hm with h | h <;> simp [h])
        · subst h; have := h3c x hm x (by simp); omega
      · simp only [List.length_append, List.length_singleton] at h6; show L0.length ≤ 16; omega
  split
  · by_cases hL : L = []
    · subst hL; exact ⟨by simpa using h1, by simpa using h2, by simpa using h3, by simpa using h4, h5', by simp⟩
    · rw [if_neg hL]
      have hs := first_split hL
      generalize hx0 : L.getD 0 0 = x0 at hs
      generalize hL0 : L.drop 1 = L0 at hs
      subst hs
      refine ⟨?_, ?_, ?_, ?_, h5', ?_⟩
      · simp only [List.length_append, List.length_cons, List.length_nil] at h1 ⊢; omega
      · intro x; rw [h2]; simp
      · show ((T ++ [x0]) ++ L0).Pairwise (· < ·)
        rw [List.append_assoc]; exact h3
      · intro x hx hm
        exact h4 x hx (by simpa using hm)
      · simp only [List.length_cons] at h6; show L0.length ≤ 16; omega
  · exact ⟨h1, h2, h3, h4, h5', h6⟩
theorem dqInv_all (ops : List GDqOp) (hi : ∀ k (h : k < ops.length), (ops[k]).item = 1 + (k : Int)) : ∀ i, i ≤ ops.length → dqInv i (dqN (ops.take i))
  | 0, _ => by simp [dqN, dqInv]
  | i + 1, h => by rw [dqN_take h]; exact dqInv_step (dqInv_all ops hi i (by omega)) (hi i h)
/-- What is left of a play of drawn ops. -/
theorem dq_right {ops : List GDqOp} (hl : ops.length ≤ 200) (hi : ∀ k (h : k < ops.length), (ops[k]).item = 1 + (k : Int)) {P T L U : List Int} (h : dq ops = (P, T, L, U)) :
    P.length + T.length + L.length = U.length ∧ (∀ x ∈ U, (x ∈ P ∧ x ∉ T ∧ x ∉ L) ∨ (x ∉ P ∧ x ∈ T ∧ x ∉ L) ∨ (x ∉ P ∧ x ∉ T ∧ x ∈ L)) ∧ T.Pairwise (· < ·) ∧ L.length ≤ 16 := by
  have := dqInv_all ops hi ops.length (Nat.le_refl _)
  rw [List.take_length, show dqN ops = (P, T, L, U) by rw [← h, dq, if_pos hl]] at this
  obtain ⟨h1, h2, h3, h4, h5, h6⟩ := this
  simp only [] at h1 h2 h3 h4 h5 h6
  have hp := List.pairwise_append.1 h3
  refine ⟨h1, fun x hx => ?_, hp.1, h6⟩
  by_cases hP : x ∈ P
  · have := h4 x hP
    simp only [List.mem_append, not_or] at this
    exact .inl ⟨hP, this.1, this.2⟩
  · rcases List.mem_append.1 (((h2 x).1 hx).resolve_left hP) with h | h
    · exact .inr (.inl ⟨hP, h, fun hL => by have := hp.2.2 x h x hL; omega⟩)
    · exact .inr (.inr ⟨hP, fun hT => by have := hp.2.2 x hT x h; omega, h⟩)
end Go.Proofs.Ytioanpejndfbnaa
