/-
  This file proves nothing of a law. It holds plain facts on the bits of numbers: the lowest bit of a number, a number without it, and the list of a number's bits. Condition: numbers below 2 to the 64.
-/
import Derived.Test.YtjljigccgaadaaaDoorCore1
namespace Go.Proofs.YtjljigccgaadaaaDoor.Am
open Go

/-- The lowest bit of a number: how often 2 divides it. -/
def tzF : Nat → Nat → Nat
  | 0, _ => 0
  | f + 1, s => if s % 2 = 1 then 0 else tzF f (s / 2) + 1
def tz (s : Nat) : Nat := tzF 64 s
theorem tzF_spec : ∀ (f s : Nat), s ≠ 0 → s < 2 ^ f → ∃ q, s = 2 ^ tzF f s * (2 * q + 1) ∧ tzF f s < f
  | 0, s, h0, h => by simp at h; omega
  | f + 1, s, h0, h => by
    unfold tzF
    split
    · rename_i h1
      exact ⟨s / 2, by simp; omega, by omega⟩
    · rename_i h1
      obtain ⟨q, hq, hl⟩ := tzF_spec f (s / 2) (by omega) (by rw [Nat.pow_succ] at h; omega)
      refine ⟨q, ?_, by omega⟩
      rw [Nat.pow_succ, Nat.mul_assoc, Nat.mul_left_comm, ← hq]
      omega
theorem tz_spec {s : Nat} (h0 : s ≠ 0) (h : s < 2 ^ 64) : ∃ q, s = 2 ^ tz s * (2 * q + 1) ∧ tz s < 64 := tzF_spec 64 s h0 h

theorem odd_bit (q j : Nat) : (2 * q + 1).testBit j = (decide (j = 0) || (decide (0 < j) && q.testBit (j - 1))) := by
  cases j with
  | zero => simp [Nat.testBit_zero]
  | succ j => rw [Nat.testBit_succ]; simp; congr 1; omega
theorem even_bit (q j : Nat) : (2 * q).testBit j = (decide (0 < j) && q.testBit (j - 1)) := by
  cases j with
  | zero => simp [Nat.testBit_zero]
  | succ j => rw [Nat.testBit_succ]; simp

/-- The bits of 2^k(2q+1). -/
theorem bit_form (k q j : Nat) : (2 ^ k * (2 * q + 1)).testBit j = (decide (j = k) || (decide (k < j) && q.testBit (j - k - 1))) := by
  have := Nat.testBit_two_pow_mul_add (2 * q + 1) (b := 0) (i := k) (Nat.two_pow_pos k) j
  rw [Nat.add_zero] at this
  rw [this]
  by_cases h : j < k
  · have h1 : ¬ j = k := by omega
    have h2 : ¬ k < j := by omega
    simp [h, h1, h2]
  · rw [if_neg h, odd_bit]
    by_cases h1 : j = k
    · simp [h1]
    · have h2 : k < j := by omega
      have h3 : ¬ j - k = 0 := by omega
      have h4 : 0 < j - k := by omega
      simp [h1, h2, h3, h4]

/-- A number less its lowest bit. -/
def dropLow (s : Nat) : Nat := s &&& (s - 1)
theorem dropLow_bit {s : Nat} (h0 : s ≠ 0) (h : s < 2 ^ 64) (j : Nat) : (dropLow s).testBit j = (s.testBit j && decide (j ≠ tz s)) := by
  obtain ⟨q, hq, hk⟩ := tz_spec h0 h
  generalize tz s = k at hq hk
  subst hq
  have e : 2 ^ k * (2 * q + 1) - 1 = 2 ^ k * (2 * q) + (2 ^ k - 1) := by
    have := Nat.two_pow_pos k
    rw [Nat.mul_add]; omega
  unfold dropLow
  rw [Nat.testBit_and, e, Nat.testBit_two_pow_mul_add _ (by have := Nat.two_pow_pos k; omega) j, bit_form, Nat.testBit_two_pow_sub_one, even_bit]
  by_cases h1 : j < k
  · have h2 : ¬ j = k := by omega
    have h3 : ¬ k < j := by omega
    simp [h2, h3]
  · by_cases h2 : j = k
    · simp [h2]
    · have h3 : k < j := by omega
      have h4 : 0 < j - k := by omega
      simp [h1, h2, h3, h4]
theorem dropLow_lt {s : Nat} (h : s < 2 ^ 64) : dropLow s < 2 ^ 64 := Nat.lt_of_le_of_lt Nat.and_le_left h
theorem dropLow_less {s : Nat} (h0 : s ≠ 0) : dropLow s < s := by
  have : dropLow s ≤ s - 1 := Nat.and_le_right
  omega

/-- The lowest bit alone. -/
theorem lowBit {s : Nat} (h0 : s ≠ 0) (h : s < 2 ^ 64) : s &&& (2 ^ 64 - s) = 2 ^ tz s := by
  obtain ⟨q, hq, hk⟩ := tz_spec h0 h
  generalize tz s = k at hq hk
  have hp : 2 ^ 64 = 2 ^ k * 2 ^ (64 - k) := by rw [← Nat.pow_add]; congr 1; omega
  have hp2 : 2 ^ (64 - k) = 2 * 2 ^ (63 - k) := by rw [← Nat.pow_succ']; congr 1; omega
  have hql : q < 2 ^ (63 - k) := by
    rw [hp, hq, hp2] at h
    have := Nat.lt_of_mul_lt_mul_left h
    omega
  have e : 2 ^ 64 - s = 2 ^ k * (2 * (2 ^ (63 - k) - (q + 1)) + 1) := by
    rw [hp, hp2, hq, ← Nat.mul_sub]
    congr 1; omega
  rw [e, hq]
  apply Nat.eq_of_testBit_eq
  intro j
  rw [Nat.testBit_and, bit_form, bit_form, Nat.testBit_two_pow_sub_succ hql, Nat.testBit_two_pow]
  by_cases h2 : j = k
  · simp [h2]
  · by_cases h3 : k < j
    · have h4 : ¬ k = j := fun e => h2 e.symm
      simp [h2, h3, h4]
      intro a _; exact a
    · have h4 : ¬ k = j := fun e => h2 e.symm
      simp [h2, h3, h4]

theorem tz_bit {s : Nat} (h0 : s ≠ 0) (h : s < 2 ^ 64) : s.testBit (tz s) = true := by
  obtain ⟨q, hq, hk⟩ := tz_spec h0 h
  generalize tz s = k at hq hk
  subst hq
  rw [bit_form]; simp
theorem tz_least {s : Nat} (h0 : s ≠ 0) (h : s < 2 ^ 64) {j : Nat} (hj : j < tz s) : s.testBit j = false := by
  obtain ⟨q, hq, hk⟩ := tz_spec h0 h
  generalize tz s = k at hq hk hj
  subst hq
  rw [bit_form]
  have h1 : ¬ j = k := by omega
  have h2 : ¬ k < j := by omega
  simp [h1, h2]

/-- The bits of a number, ascending. -/
def bitsL (s : Nat) : List Nat := (List.range 64).filter s.testBit
theorem filter_first (p : Nat → Bool) (k : Nat) : ∀ (n : Nat), k < n → p k = true → (∀ j, j < k → p j = false) → (List.range n).filter p = k :: (List.range n).filter fun j => p j && decide (j ≠ k)
  | 0, h, _, _ => by omega
  | n + 1, h, hp, hl => by
    rw [List.range_succ, List.filter_append, List.filter_append]
    by_cases hk : k = n
    · subst hk
      have e1 : (List.range k).filter p = [] := by
        rw [List.filter_eq_nil_iff]
        intro j hj
        rw [hl j (List.mem_range.1 hj)]; simp
      have e2 : ((List.range k).filter fun j => p j && decide (j ≠ k)) = [] := by
        rw [List.filter_eq_nil_iff]
        intro j hj
        rw [hl j (List.mem_range.1 hj)]; simp
      rw [e1, e2]
      simp [hp]
    · rw [filter_first p k n (by omega) hp hl]
      have e3 : ([n].filter p) = [n].filter fun j => p j && decide (j ≠ k) := by
        apply List.filter_congr
        intro j hj
        rw [List.mem_singleton] at hj
        subst hj
        have : j ≠ k := fun e => hk e.symm
        simp [this]
      rw [e3]
      rfl
theorem bitsL_cons {s : Nat} (h0 : s ≠ 0) (h : s < 2 ^ 64) : bitsL s = tz s :: bitsL (dropLow s) := by
  obtain ⟨q, hq, hk⟩ := tz_spec h0 h
  unfold bitsL
  rw [filter_first s.testBit (tz s) 64 hk (tz_bit h0 h) (fun j hj => tz_least h0 h hj)]
  congr 1
  apply List.filter_congr
  intro j _
  rw [dropLow_bit h0 h]
theorem bitsL_zero : bitsL 0 = [] := by
  unfold bitsL
  rw [List.filter_eq_nil_iff]
  intro j _
  simp
theorem bitsL_len (s : Nat) : (bitsL s).length ≤ 64 := by
  unfold bitsL
  have := List.length_filter_le s.testBit (List.range 64)
  simpa using this
theorem mem_bitsL {s j : Nat} : j ∈ bitsL s ↔ j < 64 ∧ s.testBit j = true := by
  unfold bitsL
  rw [List.mem_filter, List.mem_range]

/-- The library's table finds the lowest bit. -/
theorem tab_ok : ∀ k, k < 64 → tabL[(((2 ^ k * 285870213051353865) % 18446744073709551616) / 288230376151711744 : Nat)]? = some k := by
  have h : ((List.range 64).all fun k => tabL[(((2 ^ k * 285870213051353865) % 18446744073709551616) / 288230376151711744 : Nat)]? == some k) = true := by kernel_rfl
  intro k hk
  have := List.all_eq_true.1 h k (List.mem_range.2 hk)
  simpa using this
end Go.Proofs.YtjljigccgaadaaaDoor.Am
