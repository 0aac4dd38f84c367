/-
  This file proves nothing of a law. It says what the reference's Members returns, and that both agree. Condition: the lists have at most 40 elements.
-/
import Derived.Test.YtbhbfndenpidoaaSite10
namespace Go.Proofs.Ytbhbfndenpidoaa.Am
open Go
set_option maxRecDepth 100000

def stN (s : Site) (d n : Int) (v : AV) (h : Heap) (k : Int) : St := .of 31 h [(1, .int .u8 d, true), (2, I n, true), (3, .row s.cells 0, true), (7, v, true), (8, I k, true)]
noncomputable def bodyN : Code := (loopsOf (bodyOf Try.prog 18)).headD .skip
theorem runN (s : Site) (d n : Int) (L : List Int) (k : Nat) : xBody Try.prog G0 (E9 s) 100 noLoops [1, 2, 3, 7, 8] bodyN (stN s d n (vL L) (hL L) k) =
    .ite (decide ((k : Int) < s.nH)) (.ite (decide (n ≥ 0)) (.need (s.av = s.av ∧ s.Few) (.ite (s.domOf d k == n)
      (.need ((appA L k).isSome = true) (.leaf (.normal, stN s d n ((appA L k).getD (.junk, [])).1 ((appA L k).getD (.junk, [])).2 (IntKind.i64.wrap (k + 1)))))
      (.leaf (.normal, stN s d n (vL L) (hL L) (IntKind.i64.wrap (k + 1)))))) (.leaf (.exit 0, stN s d n (vL L) (hL L) k))) (.leaf (.exit 0, stN s d n (vL L) (hL L) k)) := by kernel_rfl
def inN (s : Site) (d n : Int) (k : Nat) : Bool := s.domOf d k == n
def SN (s : Site) (d n : Int) (k : Nat) : St := stN s d n (vL (mem (inN s d n) k)) (hL (mem (inN s d n) k)) k
def endN (s : Site) (n : Int) : Nat := bif decide (n ≥ 0) then s.nH else 0
theorem loopN' (s : Site) (hf : s.Few) (d n : Int) {R : Option Nat → Prop} : AExec Try.prog G0 R (.loop bodyN) { tmps := (SN s d n 0).a } [] (.exit 0) { tmps := (SN s d n (endN s n)).a } (hL (mem (inN s d n) (endN s n))) := by
  have key := xloopN (R := R) (S := SN s d n) (X := fun k => (.exit 0, SN s d n k)) (stop := fun k => !decide ((k : Int) < s.nH) || !decide (n ≥ 0)) (N := s.nH) (n := 100) (keep := [1, 2, 3, 7, 8]) (m := []) names mixed (clok9 s) (LoopsOk.none bodyN) (fun k hk hst => ?_) (fun k hk hst => ?_) (by simp)
  · have hstop : fstStop (fun k => !decide ((k : Int) < s.nH) || !decide (n ≥ 0)) s.nH 0 = endN s n := by
      unfold endN
      by_cases hn : n ≥ 0
      · have h1 := fstStop_le (stop := fun k => !decide ((k : Int) < s.nH) || !decide (n ≥ 0)) s.nH 0
        have h2 := fstStop_at (stop := fun k => !decide ((k : Int) < s.nH) || !decide (n ≥ 0)) s.nH 0 (by simp)
        simp only [hn, decide_true, Bool.not_true, Bool.or_false, Bool.not_eq_true', decide_eq_false_iff_not, cond_true] at h1 h2 ⊢
        omega
      · cases hH : s.nH with
        | zero => simp [fstStop]
        | succ m => simp [fstStop, hn]
    rw [hstop] at key
    exact key
  · refine ⟨?_, nofun⟩
    show (xBody Try.prog G0 (E9 s) 100 noLoops [1, 2, 3, 7, 8] bodyN (stN s d n (vL (mem (inN s d n) k)) (hL (mem (inN s d n) k)) k)).sel = _
    rw [runN, selI, selI]
    simp only [Bool.or_eq_true, Bool.not_eq_true'] at hst
    rcases hst with h | h
    · rw [h]; rfl
    · rw [h]; cases decide ((k : Int) < s.nH) <;> rfl
  · show (xBody Try.prog G0 (E9 s) 100 noLoops [1, 2, 3, 7, 8] bodyN (stN s d n (vL (mem (inN s d n) k)) (hL (mem (inN s d n) k)) k)).sel = _
    rw [runN]
    have h : (k : Int) < s.nH := by omega
    have hn : decide (n ≥ 0) = true := by
      simp only [Bool.or_eq_false_iff, Bool.not_eq_false'] at hst
      exact hst.2
    have hl := mem_length (inN s d n) k
    have hH := hf.H
    rw [selI, decide_eq_true h, cond_true, selI, hn, cond_true, Tree.sel_need ⟨rfl, hf⟩, selI, appA_eq (by omega), wrap_next h hf.H]
    unfold SN
    rw [mem_succ]
    show (bif inN s d n k then _ else _) = _
    cases inN s d n k
    · rfl
    · exact (Tree.sel_need (rfl : (some (vL (mem (inN s d n) k ++ [(k : Int)]), hL (mem (inN s d n) k ++ [(k : Int)]))).isSome = true)).trans rfl
def lpN (s : Site) (d n : Int) : Loops := fun id => match id with
  | 3 => some ([1, 2, 3, 7, 8], SN s d n 0, .leaf (.exit 0, SN s d n (endN s n)))
  | _ => none
theorem lpokN (s : Site) (hf : s.Few) (d n : Int) : LoopsOk Try.prog G0 (fun r => r = none) [] (lpN s d n) (bodyOf Try.prog 18) := by
  refine .of_list _ fun x hx => ?_
  rw [show loopsOf (bodyOf Try.prog 18) = [bodyN] by kernel_rfl] at hx
  obtain rfl := List.mem_singleton.1 hx
  intro keep s0 t e st' h hs
  rw [show idOf bodyN = 3 by kernel_rfl] at h
  cases h
  cases hs
  exact ⟨loopN' s hf d n, rfl⟩
def Site.rmembers (s : Site) (d n : Int) : List Int := mem (inN s d n) (endN s n)
theorem c18 (s : Site) (hf : s.Few) (d n : Int) (σ : Heap) : ACall Try.prog G0 18 [s.av, .int .u8 d, I n] σ (fL (s.rmembers d n)) σ := by
  have body18 : ∃ fn c, Try.prog.funcs[18]? = some fn ∧ fn.body = some c ∧ bodyOf Try.prog 18 = c := by
    have h1 : (Try.prog.funcs[18]?).isSome = true := by kernel_rfl
    obtain ⟨fn, h2⟩ := Option.isSome_iff_exists.1 h1
    have h3 : ((Try.prog.funcs[18]?).bind (·.body)).isSome = true := by kernel_rfl
    rw [h2] at h3
    obtain ⟨c, h4⟩ := Option.isSome_iff_exists.1 h3
    have h4 : fn.body = some c := h4
    exact ⟨fn, c, h2, h4, by unfold bodyOf; rw [h2]; simp [h4]⟩
  obtain ⟨fn, c, h1, h2, h3⟩ := body18
  have run : (xenter Try.prog (E9 s) (xCode Try.prog G0 (E9 s) 200 (lpN s d n)) 18 [s.av, .int .u8 d, I n] [true, true, true] []) =
      .need ((SN s d n 0).vals = (SN s d n 0).vals) (.leaf (vL (mem (inN s d n) (endN s n)), true, hL (mem (inN s d n) (endN s n)))) := by kernel_rfl
  refine (xFn_ok (lp := lpN s d n) (n := 200) (tags := [true, true, true]) (s := true) (h := []) names mixed (clok9 s) h1 h2 (by rw [← h3]; exact lpokN s hf d n) ?_).lift (k := 4) (freeze_vL _ 2) gbelow0 (below_sdn s) σ
  rw [run]
  exact (selR).trans rfl

/-! ### Both agree -/
theorem dom_lt {s : Site} (hok : s.ok = true) {d h : Int} (hh : 0 ≤ h ∧ h < s.nH) : s.dom d h < s.count d ∨ s.dom d h = -1 := by
  have k1 := valid_host hok (i := h.toNat) (by omega)
  have k2 := valid_rack hok (i := (s.H h.toNat 0).toNat) (by omega)
  have k3 := valid_breaker hok (i := (s.R (s.H h.toNat 0).toNat 1).toNat) (by omega)
  unfold Site.dom Site.count
  rw [hok]
  simp only [Bool.not_true, cond_false]
  cases d == 1
  · cases d == 2
    · cases d == 3
      · cases d == 4
        · cases d == 5
          · exact .inr rfl
          · exact .inl k2.2.2.2
        · exact .inl k3.2
      · exact .inl k2.1.2
    · exact .inl k1.2
  · exact .inl hh.2
theorem mem_congr {p q : Nat → Bool} : ∀ {k : Nat}, (∀ i, i < k → p i = q i) → mem p k = mem q k
  | 0, _ => rfl
  | k + 1, h => by rw [mem_succ, mem_succ, h k (by omega), mem_congr fun i hi => h i (by omega)]
theorem mem_none {p : Nat → Bool} : ∀ {k : Nat}, (∀ i, i < k → p i = false) → mem p k = []
  | 0, _ => rfl
  | k + 1, h => by rw [mem_succ, h k (by omega), mem_none fun i hi => h i (by omega)]; rfl
theorem members_eq (s : Site) (d n : Int) : s.members d n = s.rmembers d n := by
  unfold Site.members Site.rmembers endN
  by_cases hn : n ≥ 0
  · rw [decide_eq_true hn, cond_true]
    cases hok : s.ok with
    | false =>
      have hc : s.count d = 0 := by unfold Site.count; rw [hok]; rfl
      have hi : idx n (s.count d) = false := by
        rw [hc]; cases h : idx n 0 with
        | false => rfl
        | true => have := idx_iff.1 h; omega
      rw [hi, cond_false]
      refine (mem_none fun i hi => ?_).symm
      unfold inN Site.domOf
      rw [hok]
      have : ((-1 : Int) == n) = false := by simp; omega
      cases idx (i : Int) s.nH <;> simpa using this
    | true =>
      have hdom : ∀ i : Nat, i < s.nH → s.domOf d i = s.dom d i := fun i hi => by
        unfold Site.domOf
        rw [idx_iff.2 ⟨by omega, by omega⟩, hok]; rfl
      cases hi : idx n (s.count d) with
      | true =>
        rw [cond_true]
        exact mem_congr fun i hi => by unfold inM inN; rw [hdom i hi]
      | false =>
        rw [cond_false]
        refine (mem_none fun i hil => ?_).symm
        unfold inN
        rw [hdom i hil]
        have h1 := dom_lt hok (d := d) (h := i) ⟨by omega, by omega⟩
        have h2 : ¬ (0 ≤ n ∧ n < s.count d) := fun h => by rw [idx_iff.2 h] at hi; cases hi
        have : s.dom d i ≠ n := by omega
        simpa using this
  · rw [decide_eq_false hn, cond_false]
    have hi : idx n (s.count d) = false := by
      cases h : idx n (s.count d) with
      | false => rfl
      | true => have := idx_iff.1 h; omega
    rw [hi]; rfl
end Go.Proofs.Ytbhbfndenpidoaa.Am
