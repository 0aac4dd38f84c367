/-
  This file proves that site.Valid and the reference's Valid agree, in plain terms, and says what a valid site's numbers are. Condition: the lists have at most 40 elements.
-/
import Derived.Test.YtbhbfndenpidoaaSite6
namespace Go.Proofs.Ytbhbfndenpidoaa.Am
open Go

theorem any_iff (bad : Nat → Bool) (n : Nat) : decide (((fstStop (fun k => !decide ((k : Int) < n) || bad k) n 0 : Nat) : Int) < n) = false ↔ ∀ i, i < n → bad i = false := by
  constructor
  · intro h i hi
    have h1 : ¬ (((fstStop (fun k => !decide ((k : Int) < n) || bad k) n 0 : Nat) : Int) < n) := of_decide_eq_false h
    have h2 := fstStop_before (stop := fun k => !decide ((k : Int) < n) || bad k) n 0 i (by omega) (by omega)
    simp only [Bool.or_eq_false_iff] at h2
    exact h2.2
  · intro h
    apply decide_eq_false
    intro hlt
    have h2 := fstStop_at (stop := fun k => !decide ((k : Int) < n) || bad k) n 0 (by simp)
    have hj : fstStop (fun k => !decide ((k : Int) < n) || bad k) n 0 < n := by omega
    simp only [h _ hj, Bool.or_false, Bool.not_eq_true', decide_eq_false_iff_not] at h2
    omega
theorem any_congr {bad bad' : Nat → Bool} {n : Nat} (h : ∀ i, i < n → bad i = bad' i) : decide (((fstStop (fun k => !decide ((k : Int) < n) || bad k) n 0 : Nat) : Int) < n) = decide (((fstStop (fun k => !decide ((k : Int) < n) || bad' k) n 0 : Nat) : Int) < n) := by
  have e : ((∀ i, i < n → bad i = false) ↔ (∀ i, i < n → bad' i = false)) := ⟨fun k i hi => (h i hi) ▸ k i hi, fun k i hi => (h i hi).symm ▸ k i hi⟩
  have h1 := any_iff bad n
  have h2 := any_iff bad' n
  rw [e, ← h2] at h1
  revert h1
  cases decide (((fstStop (fun k => !decide ((k : Int) < n) || bad k) n 0 : Nat) : Int) < n) <;> cases decide (((fstStop (fun k => !decide ((k : Int) < n) || bad' k) n 0 : Nat) : Int) < n) <;> simp

theorem idx_btw {a n : Int} : idx a n = btw a 0 (n - 1) := by
  unfold idx btw
  by_cases h : a ≥ 0 <;> simp [h] <;> omega
theorem wrap_sub {n : Int} (h0 : 0 ≤ n) (h1 : n ≤ 40) : IntKind.i64.wrap (n - 1) = n - 1 := wrap_i64 (by omega) (by omega)
theorem btw_iff {n lo hi : Int} : btw n lo hi = true ↔ lo ≤ n ∧ n ≤ hi := by simp [btw]
theorem min2_ge {a b c : Int} : min2 a b ≥ c ↔ a ≥ c ∧ b ≥ c := by
  unfold min2; split <;> omega
theorem max2_le {a b c : Int} : max2 a b ≤ c ↔ a ≤ c ∧ b ≤ c := by
  unfold max2; split <;> omega

section
variable (s : Site)
theorem eqF (i : Nat) : s.badF i = s.rbadF i := by
  unfold Site.badF badF Site.rbadF btw
  by_cases h : s.F i 0 ≥ 0 <;> simp [h]
theorem eqB (hn : s.nF ≤ 40) (i : Nat) : s.badB i = s.rbadB i := by
  unfold Site.badB badB Site.rbadB
  rw [wrap_sub (by omega) (by omega), idx_btw]
  cases btw (s.B i 0) 0 (s.nF - 1) <;> simp only [Bool.not_false, Bool.not_true, cond_true, cond_false, Bool.true_or, Bool.false_or]
  rw [Bool.eq_iff_iff]
  simp only [btw, min2_ge, max2_le]
  by_cases h1 : s.B i 1 ≥ 0 <;> by_cases h2 : s.B i 2 ≥ 0 <;> by_cases h3 : s.B i 3 ≥ 0 <;> simp [h1, h2, h3]
  omega
theorem eqL (i : Nat) : s.badL i = s.rbadL i := by
  unfold Site.badL badL Site.rbadL
  by_cases h : s.L i 0 ≥ 0
  · by_cases h2 : s.L i 0 ≤ 1000000 <;> simp [h, h2, btw]
  · simp [h, btw]
theorem eqR (hB : s.nB ≤ 40) (hL : s.nL ≤ 40) (hs : btw s.sw 1 8 = true) (i : Nat) : s.badR i = s.rbadR i := by
  have := btw_iff.1 hs
  unfold Site.badR badR Site.rbadR
  rw [wrap_sub (n := s.nB) (by omega) (by omega), wrap_sub (n := s.nL) (by omega) (by omega), wrap_sub (n := s.sw) (by omega) (by omega), idx_btw, idx_btw, idx_btw, idx_btw, show (4 - 1 : Int) = 3 from rfl]
  cases btw (s.R i 0) 0 3 <;> rfl
theorem eqK (hs : btw s.sw 1 8 = true) (i : Nat) : s.badK i = s.rbadK i := by
  have := btw_iff.1 hs
  unfold Site.badK badK Site.rbadK
  rw [wrap_sub (n := s.sw) (by omega) (by omega), idx_btw, idx_btw]
  cases btw (s.K i 0) 0 (s.sw - 1) <;> rfl
theorem eqH (hR : s.nR ≤ 40) (i : Nat) : s.badH i = s.rbadH i := by
  unfold Site.badH badH Site.rbadH
  rw [wrap_sub (n := s.nR) (by omega) (by omega), idx_btw]
  cases btw (s.H i 0) 0 (s.nR - 1) <;> rfl

/-- THE TWO VALIDS AGREE. -/
theorem ok_eq (hf : s.Few) : s.ok = s.rok := by
  have eF : s.anyF = s.ranyF := any_congr fun i _ => eqF s i
  have eB : s.anyB = s.ranyB := any_congr fun i _ => eqB s hf.F i
  have eL : s.anyL = s.ranyL := any_congr fun i _ => eqL s i
  have eH : s.anyH = s.ranyH := any_congr fun i _ => eqH s hf.R i
  unfold Site.ok Site.rok Site.sizes Site.power Site.rooms
  by_cases hs : btw s.sw 1 8 = true
  · have eR : s.anyR = s.ranyR := any_congr fun i _ => eqR s hf.B hf.L hs i
    have eK : s.anyK = s.ranyK := any_congr fun i _ => eqK s hs i
    rw [eF, eB, eL, eH, eR, eK]
    have hk : decide ((s.nK : Int) > 16) = !decide ((s.nK : Int) ≤ 16) := by
      by_cases h : (s.nK : Int) ≤ 16
      · simp [h]
      · simp [h]; omega
    rw [hk]
    cases btw s.nF 1 4
    · rfl
    cases btw s.nB 1 8
    · rfl
    cases btw s.nL 1 4
    · simp
    cases btw s.sw 1 8
    · simp
    cases btw s.nR 1 8
    · simp
    cases decide ((s.nK : Int) ≤ 16)
    · simp
    cases btw s.nH 1 16
    · simp
    cases s.ranyF <;> cases s.ranyB <;> cases s.ranyL <;> cases s.ranyR <;> cases s.ranyK <;> cases s.ranyH <;> rfl
  · have hs' : btw s.sw 1 8 = false := by simpa using hs
    simp [hs']
end
end Go.Proofs.Ytbhbfndenpidoaa.Am
