/-
  This file proves nothing of a law. It says what the loop over the five kinds of domains does in the statement 'SiteParts'. Condition: a valid site whose lists have at most 40 elements.
-/
import Derived.Test.YtbhbfndenpidoaaParts2
namespace Go.Proofs.Ytbhbfndenpidoaa.Am
open Go
set_option maxRecDepth 100000

def lpPd (s : Site) (d n : Int) (m : Nat) (f f' : Nat → Int) : Loops := fun id => match id with
  | 11 => some ([1,2,3,4,5,6], stPi s d n m f 0, .leaf (.exit 2, stPi s d n m f' n))
  | 21 => some ([1,2,3,4,9], stPe s d m f' 0, .leaf (.exit 6, stPe s d m f' m))
  | _ => none
def stPd (s : Site) (d : Int) : St := .of 113 [] [(1, .row s.cells 0, true), (2, .bool false, false), (3, .int .u8 d, true)]
noncomputable def bodyPd : Code := (loopsOf (bodyOf Try.prog 5)).getD 0 .skip
theorem runPd (s : Site) (d : Nat) (f f' : Nat → Int) : xBody0 Try.prog G0 (Ep s s.nH f) 100 (lpPd s d (s.count d) s.nH f f') [1,2,3] bodyPd (stPd s d) =
    .ite (decide ((d : Int) ≤ 5)) (.need (aMake Try.prog [] 37 (I s.nH) (I s.nH) = some (.ms 1 0 0 0 s.nH s.nH, hS s.nH f)) (.need (s.av = s.av ∧ s.Few) (.ite (decide (s.count d < 1)) (.leaf (.ret, stPd s d)) (.ite (decide (s.count d > 100)) (.leaf (.ret, stPd s d))
      (.need ((stPi s d (s.count d) s.nH f 0).vals = (stPi s d (s.count d) s.nH f 0).vals) (.need ((stPe s d s.nH f' 0).vals = (stPe s d s.nH f' 0).vals) (.leaf (.normal, stPd s (IntKind.u8.wrap (d + 1)))))))))) (.leaf (.exit 0, stPd s d)) := by kernel_rfl
def lpPd0 (s : Site) (d n : Int) (m : Nat) (f : Nat → Int) : Loops := fun id => match id with
  | 11 => some ([1,2,3,4,5,6], stPi s d n m f 0, .fail)
  | _ => none
theorem runPd0 (s : Site) (d : Nat) (f : Nat → Int) : xBody0 Try.prog G0 (Ep s s.nH f) 100 (lpPd0 s d (s.count d) s.nH f) [1,2,3] bodyPd (stPd s d) =
    .ite (decide ((d : Int) ≤ 5)) (.need (aMake Try.prog [] 37 (I s.nH) (I s.nH) = some (.ms 1 0 0 0 s.nH s.nH, hS s.nH f)) (.need (s.av = s.av ∧ s.Few) (.ite (decide (s.count d < 1)) (.leaf (.ret, stPd s d)) (.ite (decide (s.count d > 100)) (.leaf (.ret, stPd s d))
      (.need ((stPi s d (s.count d) s.nH f 0).vals = (stPi s d (s.count d) s.nH f 0).vals) .fail))))) (.leaf (.exit 0, stPd s d)) := by kernel_rfl

theorem loopsPd : loopsOf bodyPd = [bodyPi, bodyPk, bodyPe] := by kernel_rfl
theorem idPi : idOf bodyPi = 11 := by kernel_rfl
theorem idPk : idOf bodyPk = 15 := by kernel_rfl
theorem idPe : idOf bodyPe = 21 := by kernel_rfl
theorem lpokPd0 (s : Site) (d n : Int) (m : Nat) (f : Nat → Int) {R : Option Nat → Prop} : LoopsOk Try.prog G0 R [] (lpPd0 s d n m f) bodyPd := by
  refine .of_list _ fun x hx => ?_
  rw [loopsPd] at hx
  simp only [List.mem_cons, List.not_mem_nil, or_false] at hx
  intro keep s0 t e st' h' hs
  rcases hx with rfl | rfl | rfl
  · rw [idPi] at h'; cases h'; cases hs
  · rw [idPk] at h'; cases h'
  · rw [idPe] at h'; cases h'
theorem lpokPd {s : Site} {d n : Int} {m : Nat} {f f' : Nat → Int} {R : Option Nat → Prop}
    (h1 : AExec Try.prog G0 R (.loop bodyPi) { tmps := (stPi s d n m f 0).a } (hS m f) (.exit 2) { tmps := (stPi s d n m f' n).a } (hS m f'))
    (h2 : AExec Try.prog G0 R (.loop bodyPe) { tmps := (stPe s d m f' 0).a } (hS m f') (.exit 6) { tmps := (stPe s d m f' m).a } (hS m f')) : LoopsOk Try.prog G0 R [] (lpPd s d n m f f') bodyPd := by
  refine .of_list _ fun x hx => ?_
  rw [loopsPd] at hx
  simp only [List.mem_cons, List.not_mem_nil, or_false] at hx
  intro keep s0 t e st' h' hs
  rcases hx with rfl | rfl | rfl
  · rw [idPi] at h'; cases h'; cases hs; exact ⟨h1, rfl⟩
  · rw [idPk] at h'; cases h'
  · rw [idPe] at h'; cases h'; cases hs; exact ⟨h2, rfl⟩

theorem repl_one (x : AV) : ∀ n : Nat, repl n [x] = (List.range n).map fun _ => x := by
  intro n
  apply List.ext_getElem?
  intro j
  by_cases h : j < n
  · rw [repl_get n [x] j (by simpa using h), List.getElem?_map, List.getElem?_range h]
    simp [Nat.mod_one]
  · rw [List.getElem?_eq_none (by rw [repl_length]; simp; omega), List.getElem?_eq_none (by simp; omega)]
theorem make_cS {m : Nat} (hm : m ≤ 40) {f : Nat → Int} (h0 : ∀ j, j < m → f j = 0) : aMake Try.prog [] 37 (I m) (I m) = some (.ms 1 0 0 0 m m, hS m f) := by
  obtain ⟨ie, zx, h1, h2, h3, h4, h5, h6⟩ := info3
  have hz : aZero Try.prog 3 = some (I 0) := by kernel_rfl
  have hr : repl m [I 0] = cS m f := by
    rw [repl_one]
    exact List.map_congr_left fun j hj => by rw [h0 j (List.mem_range.1 hj)]
  have hc : 0 ≤ (m : Int) ∧ (m : Int) ≤ m ∧ (m : Int) ≤ 16777216 ∧ ie.bytes ≤ 65536 ∧ (I 0).cells.length = ie.size ∧ (I 0).cells.all AV.one = true := ⟨by omega, by omega, by omega, h4, by rw [h3]; rfl, rfl⟩
  unfold aMake
  rw [Try.underlying37]
  simp only [h1, hz]
  rw [if_pos hc]
  have e2 : (I 0).cells = [I 0] := rfl
  simp only [Int.toNat_natCast, e2, hr, h3, List.length_nil, List.nil_append]
  rfl
theorem wrap_u8 {n : Int} (h0 : 0 ≤ n) (h1 : n < 256) : IntKind.u8.wrap n = n := by
  simp [IntKind.wrap, IntKind.signed, IntKind.bits]
  omega
theorem stPd_clean (s : Site) (d : Int) : (stPd s d).clean := St.of_clean fun p hp => by
  simp only [List.mem_cons, List.not_mem_nil, or_false] at hp
  rcases hp with rfl | rfl | rfl
  · exact s.below_row
  · exact .bool _
  · exact .int _ _

theorem loopPd {s : Site} (hf : s.Few) (hok : s.ok = true) {R : Option Nat → Prop} : AExec Try.prog G0 R (.loop bodyPd) { tmps := (stPd s 1).a } [] (.exit 0) { tmps := (stPd s 6).a } [] := by
  have key := loopN (P := Try.prog) (G := G0) (R := R) (m := []) (c := bodyPd) (S := fun k => stPd s ((k + 1 : Nat) : Int)) (X := fun k => (.exit 0, stPd s ((k + 1 : Nat) : Int))) (stop := fun k => !decide ((k : Int) < (5 : Nat))) (N := 5) (fun k hk hst => ?_) (fun k hk hst => ?_) (by simp) 5 0 (by omega)
  · rw [fstStop_lt] at key
    exact .loop key
  · have h : ¬ (k : Int) < (5 : Nat) := by simpa using hst
    refine ⟨(xBody0_ok names mixed (clokp s s.nH (fI s (k + 1 : Nat) 0)) (lpokPd0 s (k + 1 : Nat) (s.count (k + 1 : Nat)) s.nH (fI s (k + 1 : Nat) 0)) (n := 100) (keep := [1,2,3]) rfl (stPd_clean s _) ?_).1, nofun⟩
    show (xBody0 Try.prog G0 (Ep s s.nH (fI s (k + 1 : Nat) 0)) 100 (lpPd0 s (k + 1 : Nat) (s.count (k + 1 : Nat)) s.nH (fI s (k + 1 : Nat) 0)) [1,2,3] bodyPd (stPd s (k + 1 : Nat))).sel = _
    rw [runPd0, selI, decide_eq_false (by omega)]
    rfl
  · have hd : 1 ≤ ((k + 1 : Nat) : Int) ∧ ((k + 1 : Nat) : Int) ≤ 5 := ⟨by omega, by omega⟩
    obtain ⟨c1, c2⟩ := count_bounds hok hd
    have hH := hf.H
    have h0 : ∀ j, j < s.nH → fI s (k + 1 : Nat) 0 j = 0 := fun j hj => by
      unfold fI
      rw [if_neg]
      rw [Site.domOf, idx_iff.2 ⟨by omega, by omega⟩, hok]
      have := (dom_bounds hok hd (h := j) ⟨by omega, by omega⟩).1
      show ¬ s.dom _ _ < 0
      omega
    have h1 : ∀ j, j < s.nH → fI s (k + 1 : Nat) (s.count (k + 1 : Nat)) j = 1 := fun j hj => by
      unfold fI
      rw [if_pos]
      rw [Site.domOf, idx_iff.2 ⟨by omega, by omega⟩, hok]
      exact (dom_bounds hok hd (h := j) ⟨by omega, by omega⟩).2
    refine (xBody0_ok names mixed (clokp s s.nH (fI s (k + 1 : Nat) 0)) (lpokPd (R := R) (loopPi hf hok hd) (loopPe hH h1)) (n := 100) (keep := [1,2,3]) rfl (stPd_clean s _) ?_).1
    have hw : IntKind.u8.wrap (((k + 1 : Nat) : Int) + 1) = ((k + 1 + 1 : Nat) : Int) := wrap_u8 (by omega) (by omega)
    show (xBody0 Try.prog G0 (Ep s s.nH (fI s (k + 1 : Nat) 0)) 100 (lpPd s (k + 1 : Nat) (s.count (k + 1 : Nat)) s.nH (fI s (k + 1 : Nat) 0) (fI s (k + 1 : Nat) (s.count (k + 1 : Nat)))) [1,2,3] bodyPd (stPd s (k + 1 : Nat))).sel = some (.normal, stPd s (k + 1 + 1 : Nat))
    rw [runPd, selI, decide_eq_true hd.2, cond_true, Tree.sel_need (make_cS hH h0), Tree.sel_need ⟨rfl, hf⟩, selI, decide_eq_false (by omega), cond_false, selI, decide_eq_false (by omega), cond_false, selR, selR, hw]
    rfl
end Go.Proofs.Ytbhbfndenpidoaa.Am
