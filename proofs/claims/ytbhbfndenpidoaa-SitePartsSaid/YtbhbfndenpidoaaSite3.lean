/-
  This file proves nothing of a law. It says what the closures of Valid return, and what the search for a bad element of each of the six lists returns. Printed by a program (gen3.py). No condition.
-/
import Derived.Test.YtbhbfndenpidoaaSite2
namespace Go.Proofs.Ytbhbfndenpidoaa.Am
open Go
set_option maxRecDepth 100000

def min2 (a b : Int) : Int := if b < a then b else a
def max2 (a b : Int) : Int := if b > a then b else a

/-! ### F -/
def badF (a : Int) : Bool := bif decide (a ≥ 0) then !decide (a ≤ 1000000) else !false
def Site.badF (s : Site) (i : Nat) : Bool := Am.badF (s.F i 0)
theorem kF (a : Int) (σ : Heap) : ACall Try.prog G0 21 [.agg [I a]] σ (.bool (badF a)) σ :=
  xPure_bool (E := E1) (n := 200) (tags := [true]) names mixed clok1 gbelow0 (by kernel_rfl) (by kernel_rfl) (by simp only [List.mem_cons, List.not_mem_nil, or_false, forall_eq]; exact below_ints [a]) σ
def clF : FuncId → List AV → Option (Tree AV) := fun f xs => match f, xs with
  | 21, [.agg [.int .i64 a]] => some (.leaf (.bool (badF a)))
  | _, _ => none
def EF : Env := { cl := clF }
theorem clokF : ClOk Try.prog G0 EF := by
  refine .of rfl rfl ?_
  intro f xs t v h hs σ
  have h : clF f xs = some t := h
  unfold clF at h
  split at h
  · cases h
    cases hs
    exact kF _ σ
  · cases h
def Site.gF (_s : Site) : AV := .fn 21 [] []
def stF (s : Site) (r k : Int) (b : Bool) : St := .of 19 [] [(0, s.vF, true), (1, s.gF, true), (4, I r, b), (7, I s.nF, true), (8, I k, true)]
noncomputable def bodyF : Code := (loopsOf (bodyOf Try.prog 42)).headD .skip
theorem runF (s : Site) (k : Nat) : xBody Try.prog G0 EF 100 noLoops [0, 1, 4, 7, 8] bodyF (stF s 0 k false) =
    .ite (decide ((k : Int) < s.nF)) (.need (0 ≤ (k : Int) ∧ (k : Int) < s.nF) ((.ite (s.badF k) (.leaf (.ret, stF s k k true)) (.leaf (.normal, stF s 0 (IntKind.i64.wrap (k + 1)) false))))) (.leaf (.exit 0, stF s 0 k false)) := by kernel_rfl
def stopF (s : Site) (k : Nat) : Bool := !decide ((k : Int) < s.nF) || s.badF k
def fstF (s : Site) : Nat := fstStop (stopF s) s.nF 0
def outF (s : Site) (k : Nat) : Exit × St := bif decide ((k : Int) < s.nF) then (.ret, stF s k k true) else (.exit 0, stF s 0 k false)
theorem loopF (s : Site) (hf : s.nF ≤ 40) {R : Option Nat → Prop} : AExec Try.prog G0 R (.loop bodyF) { tmps := (stF s 0 (0 : Nat) false).a } [] (outF s (fstF s)).1 { tmps := (outF s (fstF s)).2.a } (outF s (fstF s)).2.h := by
  refine xloopN (S := fun k => stF s 0 k false) (X := outF s) (stop := stopF s) (n := 100) (keep := [0, 1, 4, 7, 8]) (m := []) names mixed clokF (LoopsOk.none _) (fun k hk hst => ?_) (fun k hk hst => ?_) ?_
  · show (xBody Try.prog G0 EF 100 noLoops [0, 1, 4, 7, 8] bodyF (stF s 0 k false)).sel = some (outF s k) ∧ _
    rw [runF]
    unfold outF
    by_cases h : (k : Int) < s.nF
    · have hb : s.badF k = true := by simpa [stopF, h] using hst
      simp [Tree.sel, h, hb]
    · simp [Tree.sel, h]
  · show (xBody Try.prog G0 EF 100 noLoops [0, 1, 4, 7, 8] bodyF (stF s 0 k false)).sel = some (.normal, stF s 0 ((k + 1 : Nat) : Int) false)
    rw [runF]
    have h : (k : Int) < s.nF := by omega
    have hb : s.badF k = false := by simpa [stopF, h] using hst
    have hw : IntKind.i64.wrap ((k : Int) + 1) = ((k + 1 : Nat) : Int) := by rw [wrap_i64 (by omega) (by omega)]; rfl
    rw [hw]
    simp [Tree.sel, h, hb]
  · simp [stopF]
def lpF (s : Site) : Loops := fun id => match id with
  | 2 => some ([0, 1, 4, 7, 8], stF s 0 (0 : Nat) false, .ite (decide ((fstF s : Int) < s.nF)) (.leaf (.ret, stF s (fstF s) (fstF s) true)) (.leaf (.exit 0, stF s 0 (fstF s) false)))
  | _ => none
theorem lpokF (s : Site) (hf : s.nF ≤ 40) : LoopsOk Try.prog G0 (fun r => r = none) [] (lpF s) (bodyOf Try.prog 42) := by
  refine .of_list _ fun x hx => ?_
  rw [show loopsOf (bodyOf Try.prog 42) = [bodyF] by kernel_rfl] at hx
  obtain rfl := List.mem_singleton.1 hx
  intro keep s0 t e st' h hs
  rw [show idOf bodyF = 2 by kernel_rfl] at h
  cases h
  have hl := loopF s hf (R := fun r => r = none)
  unfold outF at hl
  simp only [Tree.sel] at hs
  cases hd : decide ((fstF s : Int) < s.nF) <;> rw [hd] at hs hl <;> cases hs <;> exact ⟨hl, rfl⟩
theorem findF (s : Site) (hf : s.nF ≤ 40) (σ : Heap) : ACall Try.prog G0 42 [s.vF, s.gF] σ (I (bif decide ((fstF s : Int) < s.nF) then fstF s else -1)) σ := by
  have run : xPure Try.prog G0 EF 100 (lpF s) 42 [s.vF, s.gF] [true, true] = .need ((stF s 0 (0 : Nat) false).vals = (stF s 0 (0 : Nat) false).vals) (.ite (decide ((fstF s : Int) < s.nF)) (.leaf (I (fstF s))) (.leaf (I (-1)))) := by kernel_rfl
  refine xPure_ok (lp := lpF s) (n := 100) (tags := [true, true]) names mixed clokF gbelow0 (lpokF s hf) ?_ ?_ σ
  · rw [run]
    cases decide ((fstF s : Int) < s.nF) <;> simp [Tree.sel]
  · intro x hx
    simp only [List.mem_cons, List.not_mem_nil, or_false] at hx
    rcases hx with rfl | rfl
    · exact s.below_cells _ (by simp [Site.cells])
    · exact .fn _ _ _ (by simp) (by simp)
/-- Has the list a bad element? -/
def Site.anyF (s : Site) : Bool := decide ((fstF s : Int) < s.nF)
def glF (s : Site) : FuncId → List AV → Option (Tree AV) := fun f xs => match f, xs with
  | 42, [x, y] => some (.need (x = s.vF ∧ y = s.gF) (.leaf (I (bif decide ((fstF s : Int) < s.nF) then fstF s else -1))))
  | _, _ => none
def GF (s : Site) : Env := { cl := glF s }
theorem gokF (s : Site) (hf : s.nF ≤ 40) : ClOk Try.prog G0 (GF s) := by
  refine .of rfl rfl ?_
  intro f xs t v h hs σ
  have h : glF s f xs = some t := h
  unfold glF at h
  split at h
  · cases h
    obtain ⟨⟨e1, e2⟩, hs2⟩ := Tree.of_need hs
    subst e1
    subst e2
    cases hs2
    exact findF s hf σ
  · cases h
theorem hasF (s : Site) (hf : s.nF ≤ 40) (σ : Heap) : ACall Try.prog G0 30 [s.vF, s.gF] σ (.bool s.anyF) σ := by
  have run : xPure Try.prog G0 (GF s) 100 noLoops 30 [s.vF, s.gF] [true, true] = .need (s.vF = s.vF ∧ s.gF = s.gF) (.leaf (.bool (decide ((bif decide ((fstF s : Int) < s.nF) then (fstF s : Int) else -1) ≥ 0)))) := by kernel_rfl
  refine xPure_ok (lp := noLoops) (n := 100) (tags := [true, true]) names mixed (gokF s hf) gbelow0 (LoopsOk.none _) ?_ ?_ σ
  · rw [run]
    unfold Site.anyF
    cases decide ((fstF s : Int) < s.nF) <;> simp [Tree.sel]
  · intro x hx
    simp only [List.mem_cons, List.not_mem_nil, or_false] at hx
    rcases hx with rfl | rfl
    · exact s.below_cells _ (by simp [Site.cells])
    · exact .fn _ _ _ (by simp) (by simp)

/-! ### B -/
def badB (s : Site) (a b c d : Int) : Bool := bif !idx a s.nF then true else bif decide (min2 (min2 b c) d ≥ 0) then !decide (max2 (max2 b c) d ≤ 1000000) else !false
def Site.badB (s : Site) (i : Nat) : Bool := Am.badB s (s.B i 0) (s.B i 1) (s.B i 2) (s.B i 3)
theorem kB (s : Site) (a b c d : Int) (σ : Heap) : ACall Try.prog G0 23 [.agg [I a, I b, I c, I d], .row s.cells 0] σ (.bool (badB s a b c d)) σ :=
  xPure_bool (E := E1) (n := 200) (tags := [true, true]) names mixed clok1 gbelow0 (by kernel_rfl) (by kernel_rfl) (by simp only [List.mem_cons, List.not_mem_nil, or_false, forall_eq_or_imp, forall_eq]; exact ⟨below_ints [a, b, c, d], s.below_row⟩) σ
def clB (s : Site) : FuncId → List AV → Option (Tree AV) := fun f xs => match f, xs with
  | 23, [.agg [.int .i64 a, .int .i64 b, .int .i64 c, .int .i64 d], x] => some (.need (x = .row s.cells 0) (.leaf (.bool (badB s a b c d))))
  | _, _ => none
def EB (s : Site) : Env := { cl := clB s }
theorem clokB (s : Site) : ClOk Try.prog G0 (EB s) := by
  refine .of rfl rfl ?_
  intro f xs t v h hs σ
  have h : clB s f xs = some t := h
  unfold clB at h
  split at h
  · cases h
    obtain ⟨hx, hs2⟩ := Tree.of_need hs
    subst hx
    cases hs2
    exact kB s _ _ _ _ σ
  · cases h
def Site.gB (s : Site) : AV := .fn 23 [] [.row s.cells 0]
def stB (s : Site) (r k : Int) (b : Bool) : St := .of 19 [] [(0, s.vB, true), (1, s.gB, true), (4, I r, b), (7, I s.nB, true), (8, I k, true)]
noncomputable def bodyB : Code := (loopsOf (bodyOf Try.prog 43)).headD .skip
theorem runB (s : Site) (k : Nat) : xBody Try.prog G0 (EB s) 100 noLoops [0, 1, 4, 7, 8] bodyB (stB s 0 k false) =
    .ite (decide ((k : Int) < s.nB)) (.need (0 ≤ (k : Int) ∧ (k : Int) < s.nB) (.need (AV.row s.cells 0 = AV.row s.cells 0) (.ite (s.badB k) (.leaf (.ret, stB s k k true)) (.leaf (.normal, stB s 0 (IntKind.i64.wrap (k + 1)) false))))) (.leaf (.exit 0, stB s 0 k false)) := by kernel_rfl
def stopB (s : Site) (k : Nat) : Bool := !decide ((k : Int) < s.nB) || s.badB k
def fstB (s : Site) : Nat := fstStop (stopB s) s.nB 0
def outB (s : Site) (k : Nat) : Exit × St := bif decide ((k : Int) < s.nB) then (.ret, stB s k k true) else (.exit 0, stB s 0 k false)
theorem loopB (s : Site) (hf : s.nB ≤ 40) {R : Option Nat → Prop} : AExec Try.prog G0 R (.loop bodyB) { tmps := (stB s 0 (0 : Nat) false).a } [] (outB s (fstB s)).1 { tmps := (outB s (fstB s)).2.a } (outB s (fstB s)).2.h := by
  refine xloopN (S := fun k => stB s 0 k false) (X := outB s) (stop := stopB s) (n := 100) (keep := [0, 1, 4, 7, 8]) (m := []) names mixed (clokB s) (LoopsOk.none _) (fun k hk hst => ?_) (fun k hk hst => ?_) ?_
  · show (xBody Try.prog G0 (EB s) 100 noLoops [0, 1, 4, 7, 8] bodyB (stB s 0 k false)).sel = some (outB s k) ∧ _
    rw [runB]
    unfold outB
    by_cases h : (k : Int) < s.nB
    · have hb : s.badB k = true := by simpa [stopB, h] using hst
      simp [Tree.sel, h, hb]
    · simp [Tree.sel, h]
  · show (xBody Try.prog G0 (EB s) 100 noLoops [0, 1, 4, 7, 8] bodyB (stB s 0 k false)).sel = some (.normal, stB s 0 ((k + 1 : Nat) : Int) false)
    rw [runB]
    have h : (k : Int) < s.nB := by omega
    have hb : s.badB k = false := by simpa [stopB, h] using hst
    have hw : IntKind.i64.wrap ((k : Int) + 1) = ((k + 1 : Nat) : Int) := by rw [wrap_i64 (by omega) (by omega)]; rfl
    rw [hw]
    simp [Tree.sel, h, hb]
  · simp [stopB]
def lpB (s : Site) : Loops := fun id => match id with
  | 2 => some ([0, 1, 4, 7, 8], stB s 0 (0 : Nat) false, .ite (decide ((fstB s : Int) < s.nB)) (.leaf (.ret, stB s (fstB s) (fstB s) true)) (.leaf (.exit 0, stB s 0 (fstB s) false)))
  | _ => none
theorem lpokB (s : Site) (hf : s.nB ≤ 40) : LoopsOk Try.prog G0 (fun r => r = none) [] (lpB s) (bodyOf Try.prog 43) := by
  refine .of_list _ fun x hx => ?_
  rw [show loopsOf (bodyOf Try.prog 43) = [bodyB] by kernel_rfl] at hx
  obtain rfl := List.mem_singleton.1 hx
  intro keep s0 t e st' h hs
  rw [show idOf bodyB = 2 by kernel_rfl] at h
  cases h
  have hl := loopB s hf (R := fun r => r = none)
  unfold outB at hl
  simp only [Tree.sel] at hs
  cases hd : decide ((fstB s : Int) < s.nB) <;> rw [hd] at hs hl <;> cases hs <;> exact ⟨hl, rfl⟩
theorem findB (s : Site) (hf : s.nB ≤ 40) (σ : Heap) : ACall Try.prog G0 43 [s.vB, s.gB] σ (I (bif decide ((fstB s : Int) < s.nB) then fstB s else -1)) σ := by
  have run : xPure Try.prog G0 (EB s) 100 (lpB s) 43 [s.vB, s.gB] [true, true] = .need ((stB s 0 (0 : Nat) false).vals = (stB s 0 (0 : Nat) false).vals) (.ite (decide ((fstB s : Int) < s.nB)) (.leaf (I (fstB s))) (.leaf (I (-1)))) := by kernel_rfl
  refine xPure_ok (lp := lpB s) (n := 100) (tags := [true, true]) names mixed (clokB s) gbelow0 (lpokB s hf) ?_ ?_ σ
  · rw [run]
    cases decide ((fstB s : Int) < s.nB) <;> simp [Tree.sel]
  · intro x hx
    simp only [List.mem_cons, List.not_mem_nil, or_false] at hx
    rcases hx with rfl | rfl
    · exact s.below_cells _ (by simp [Site.cells])
    · exact .fn _ _ _ (by simp) (below_list (by simpa using s.below_row))
/-- Has the list a bad element? -/
def Site.anyB (s : Site) : Bool := decide ((fstB s : Int) < s.nB)
def glB (s : Site) : FuncId → List AV → Option (Tree AV) := fun f xs => match f, xs with
  | 43, [x, y] => some (.need (x = s.vB ∧ y = s.gB) (.leaf (I (bif decide ((fstB s : Int) < s.nB) then fstB s else -1))))
  | _, _ => none
def GB (s : Site) : Env := { cl := glB s }
theorem gokB (s : Site) (hf : s.nB ≤ 40) : ClOk Try.prog G0 (GB s) := by
  refine .of rfl rfl ?_
  intro f xs t v h hs σ
  have h : glB s f xs = some t := h
  unfold glB at h
  split at h
  · cases h
    obtain ⟨⟨e1, e2⟩, hs2⟩ := Tree.of_need hs
    subst e1
    subst e2
    cases hs2
    exact findB s hf σ
  · cases h
theorem hasB (s : Site) (hf : s.nB ≤ 40) (σ : Heap) : ACall Try.prog G0 31 [s.vB, s.gB] σ (.bool s.anyB) σ := by
  have run : xPure Try.prog G0 (GB s) 100 noLoops 31 [s.vB, s.gB] [true, true] = .need (s.vB = s.vB ∧ s.gB = s.gB) (.leaf (.bool (decide ((bif decide ((fstB s : Int) < s.nB) then (fstB s : Int) else -1) ≥ 0)))) := by kernel_rfl
  refine xPure_ok (lp := noLoops) (n := 100) (tags := [true, true]) names mixed (gokB s hf) gbelow0 (LoopsOk.none _) ?_ ?_ σ
  · rw [run]
    unfold Site.anyB
    cases decide ((fstB s : Int) < s.nB) <;> simp [Tree.sel]
  · intro x hx
    simp only [List.mem_cons, List.not_mem_nil, or_false] at hx
    rcases hx with rfl | rfl
    · exact s.below_cells _ (by simp [Site.cells])
    · exact .fn _ _ _ (by simp) (below_list (by simpa using s.below_row))

/-! ### L -/
def badL (a b : Int) : Bool := bif decide (a ≥ 0) then bif !decide (a ≤ 1000000) then true else !btw b 0 100 else true
def Site.badL (s : Site) (i : Nat) : Bool := Am.badL (s.L i 0) (s.L i 1)
theorem kL (a b : Int) (σ : Heap) : ACall Try.prog G0 25 [.agg [I a, I b]] σ (.bool (badL a b)) σ :=
  xPure_bool (E := E1) (n := 200) (tags := [true]) names mixed clok1 gbelow0 (by kernel_rfl) (by kernel_rfl) (by simp only [List.mem_cons, List.not_mem_nil, or_false, forall_eq]; exact below_ints [a, b]) σ
def clL : FuncId → List AV → Option (Tree AV) := fun f xs => match f, xs with
  | 25, [.agg [.int .i64 a, .int .i64 b]] => some (.leaf (.bool (badL a b)))
  | _, _ => none
def EL : Env := { cl := clL }
theorem clokL : ClOk Try.prog G0 EL := by
  refine .of rfl rfl ?_
  intro f xs t v h hs σ
  have h : clL f xs = some t := h
  unfold clL at h
  split at h
  · cases h
    cases hs
    exact kL _ _ σ
  · cases h
def Site.gL (_s : Site) : AV := .fn 25 [] []
def stL (s : Site) (r k : Int) (b : Bool) : St := .of 19 [] [(0, s.vL, true), (1, s.gL, true), (4, I r, b), (7, I s.nL, true), (8, I k, true)]
noncomputable def bodyL : Code := (loopsOf (bodyOf Try.prog 44)).headD .skip
theorem runL (s : Site) (k : Nat) : xBody Try.prog G0 EL 100 noLoops [0, 1, 4, 7, 8] bodyL (stL s 0 k false) =
    .ite (decide ((k : Int) < s.nL)) (.need (0 ≤ (k : Int) ∧ (k : Int) < s.nL) ((.ite (s.badL k) (.leaf (.ret, stL s k k true)) (.leaf (.normal, stL s 0 (IntKind.i64.wrap (k + 1)) false))))) (.leaf (.exit 0, stL s 0 k false)) := by kernel_rfl
def stopL (s : Site) (k : Nat) : Bool := !decide ((k : Int) < s.nL) || s.badL k
def fstL (s : Site) : Nat := fstStop (stopL s) s.nL 0
def outL (s : Site) (k : Nat) : Exit × St := bif decide ((k : Int) < s.nL) then (.ret, stL s k k true) else (.exit 0, stL s 0 k false)
theorem loopL (s : Site) (hf : s.nL ≤ 40) {R : Option Nat → Prop} : AExec Try.prog G0 R (.loop bodyL) { tmps := (stL s 0 (0 : Nat) false).a } [] (outL s (fstL s)).1 { tmps := (outL s (fstL s)).2.a } (outL s (fstL s)).2.h := by
  refine xloopN (S := fun k => stL s 0 k false) (X := outL s) (stop := stopL s) (n := 100) (keep := [0, 1, 4, 7, 8]) (m := []) names mixed clokL (LoopsOk.none _) (fun k hk hst => ?_) (fun k hk hst => ?_) ?_
  · show (xBody Try.prog G0 EL 100 noLoops [0, 1, 4, 7, 8] bodyL (stL s 0 k false)).sel = some (outL s k) ∧ _
    rw [runL]
    unfold outL
    by_cases h : (k : Int) < s.nL
    · have hb : s.badL k = true := by simpa [stopL, h] using hst
      simp [Tree.sel, h, hb]
    · simp [Tree.sel, h]
  · show (xBody Try.prog G0 EL 100 noLoops [0, 1, 4, 7, 8] bodyL (stL s 0 k false)).sel = some (.normal, stL s 0 ((k + 1 : Nat) : Int) false)
    rw [runL]
    have h : (k : Int) < s.nL := by omega
    have hb : s.badL k = false := by simpa [stopL, h] using hst
    have hw : IntKind.i64.wrap ((k : Int) + 1) = ((k + 1 : Nat) : Int) := by rw [wrap_i64 (by omega) (by omega)]; rfl
    rw [hw]
    simp [Tree.sel, h, hb]
  · simp [stopL]
def lpL (s : Site) : Loops := fun id => match id with
  | 2 => some ([0, 1, 4, 7, 8], stL s 0 (0 : Nat) false, .ite (decide ((fstL s : Int) < s.nL)) (.leaf (.ret, stL s (fstL s) (fstL s) true)) (.leaf (.exit 0, stL s 0 (fstL s) false)))
  | _ => none
theorem lpokL (s : Site) (hf : s.nL ≤ 40) : LoopsOk Try.prog G0 (fun r => r = none) [] (lpL s) (bodyOf Try.prog 44) := by
  refine .of_list _ fun x hx => ?_
  rw [show loopsOf (bodyOf Try.prog 44) = [bodyL] by kernel_rfl] at hx
  obtain rfl := List.mem_singleton.1 hx
  intro keep s0 t e st' h hs
  rw [show idOf bodyL = 2 by kernel_rfl] at h
  cases h
  have hl := loopL s hf (R := fun r => r = none)
  unfold outL at hl
  simp only [Tree.sel] at hs
  cases hd : decide ((fstL s : Int) < s.nL) <;> rw [hd] at hs hl <;> cases hs <;> exact ⟨hl, rfl⟩
theorem findL (s : Site) (hf : s.nL ≤ 40) (σ : Heap) : ACall Try.prog G0 44 [s.vL, s.gL] σ (I (bif decide ((fstL s : Int) < s.nL) then fstL s else -1)) σ := by
  have run : xPure Try.prog G0 EL 100 (lpL s) 44 [s.vL, s.gL] [true, true] = .need ((stL s 0 (0 : Nat) false).vals = (stL s 0 (0 : Nat) false).vals) (.ite (decide ((fstL s : Int) < s.nL)) (.leaf (I (fstL s))) (.leaf (I (-1)))) := by kernel_rfl
  refine xPure_ok (lp := lpL s) (n := 100) (tags := [true, true]) names mixed clokL gbelow0 (lpokL s hf) ?_ ?_ σ
  · rw [run]
    cases decide ((fstL s : Int) < s.nL) <;> simp [Tree.sel]
  · intro x hx
    simp only [List.mem_cons, List.not_mem_nil, or_false] at hx
    rcases hx with rfl | rfl
    · exact s.below_cells _ (by simp [Site.cells])
    · exact .fn _ _ _ (by simp) (by simp)
/-- Has the list a bad element? -/
def Site.anyL (s : Site) : Bool := decide ((fstL s : Int) < s.nL)
def glL (s : Site) : FuncId → List AV → Option (Tree AV) := fun f xs => match f, xs with
  | 44, [x, y] => some (.need (x = s.vL ∧ y = s.gL) (.leaf (I (bif decide ((fstL s : Int) < s.nL) then fstL s else -1))))
  | _, _ => none
def GL (s : Site) : Env := { cl := glL s }
theorem gokL (s : Site) (hf : s.nL ≤ 40) : ClOk Try.prog G0 (GL s) := by
  refine .of rfl rfl ?_
  intro f xs t v h hs σ
  have h : glL s f xs = some t := h
  unfold glL at h
  split at h
  · cases h
    obtain ⟨⟨e1, e2⟩, hs2⟩ := Tree.of_need hs
    subst e1
    subst e2
    cases hs2
    exact findL s hf σ
  · cases h
theorem hasL (s : Site) (hf : s.nL ≤ 40) (σ : Heap) : ACall Try.prog G0 32 [s.vL, s.gL] σ (.bool s.anyL) σ := by
  have run : xPure Try.prog G0 (GL s) 100 noLoops 32 [s.vL, s.gL] [true, true] = .need (s.vL = s.vL ∧ s.gL = s.gL) (.leaf (.bool (decide ((bif decide ((fstL s : Int) < s.nL) then (fstL s : Int) else -1) ≥ 0)))) := by kernel_rfl
  refine xPure_ok (lp := noLoops) (n := 100) (tags := [true, true]) names mixed (gokL s hf) gbelow0 (LoopsOk.none _) ?_ ?_ σ
  · rw [run]
    unfold Site.anyL
    cases decide ((fstL s : Int) < s.nL) <;> simp [Tree.sel]
  · intro x hx
    simp only [List.mem_cons, List.not_mem_nil, or_false] at hx
    rcases hx with rfl | rfl
    · exact s.below_cells _ (by simp [Site.cells])
    · exact .fn _ _ _ (by simp) (by simp)

/-! ### R -/
def badR (s : Site) (a b c d : Int) : Bool := bif !idx a 4 then true else bif !idx b s.nB then true else bif !idx c s.nL then true else !idx d s.sw
def Site.badR (s : Site) (i : Nat) : Bool := Am.badR s (s.R i 0) (s.R i 1) (s.R i 2) (s.R i 3)
theorem kR (s : Site) (a b c d : Int) (σ : Heap) : ACall Try.prog G0 27 [.agg [I a, I b, I c, I d], .row s.cells 0] σ (.bool (badR s a b c d)) σ :=
  xPure_bool (E := E1) (n := 200) (tags := [true, true]) names mixed clok1 gbelow0 (by kernel_rfl) (by kernel_rfl) (by simp only [List.mem_cons, List.not_mem_nil, or_false, forall_eq_or_imp, forall_eq]; exact ⟨below_ints [a, b, c, d], s.below_row⟩) σ
def clR (s : Site) : FuncId → List AV → Option (Tree AV) := fun f xs => match f, xs with
  | 27, [.agg [.int .i64 a, .int .i64 b, .int .i64 c, .int .i64 d], x] => some (.need (x = .row s.cells 0) (.leaf (.bool (badR s a b c d))))
  | _, _ => none
def ER (s : Site) : Env := { cl := clR s }
theorem clokR (s : Site) : ClOk Try.prog G0 (ER s) := by
  refine .of rfl rfl ?_
  intro f xs t v h hs σ
  have h : clR s f xs = some t := h
  unfold clR at h
  split at h
  · cases h
    obtain ⟨hx, hs2⟩ := Tree.of_need hs
    subst hx
    cases hs2
    exact kR s _ _ _ _ σ
  · cases h
def Site.gR (s : Site) : AV := .fn 27 [] [.row s.cells 0]
def stR (s : Site) (r k : Int) (b : Bool) : St := .of 19 [] [(0, s.vR, true), (1, s.gR, true), (4, I r, b), (7, I s.nR, true), (8, I k, true)]
noncomputable def bodyR : Code := (loopsOf (bodyOf Try.prog 45)).headD .skip
theorem runR (s : Site) (k : Nat) : xBody Try.prog G0 (ER s) 100 noLoops [0, 1, 4, 7, 8] bodyR (stR s 0 k false) =
    .ite (decide ((k : Int) < s.nR)) (.need (0 ≤ (k : Int) ∧ (k : Int) < s.nR) (.need (AV.row s.cells 0 = AV.row s.cells 0) (.ite (s.badR k) (.leaf (.ret, stR s k k true)) (.leaf (.normal, stR s 0 (IntKind.i64.wrap (k + 1)) false))))) (.leaf (.exit 0, stR s 0 k false)) := by kernel_rfl
def stopR (s : Site) (k : Nat) : Bool := !decide ((k : Int) < s.nR) || s.badR k
def fstR (s : Site) : Nat := fstStop (stopR s) s.nR 0
def outR (s : Site) (k : Nat) : Exit × St := bif decide ((k : Int) < s.nR) then (.ret, stR s k k true) else (.exit 0, stR s 0 k false)
theorem loopR (s : Site) (hf : s.nR ≤ 40) {R : Option Nat → Prop} : AExec Try.prog G0 R (.loop bodyR) { tmps := (stR s 0 (0 : Nat) false).a } [] (outR s (fstR s)).1 { tmps := (outR s (fstR s)).2.a } (outR s (fstR s)).2.h := by
  refine xloopN (S := fun k => stR s 0 k false) (X := outR s) (stop := stopR s) (n := 100) (keep := [0, 1, 4, 7, 8]) (m := []) names mixed (clokR s) (LoopsOk.none _) (fun k hk hst => ?_) (fun k hk hst => ?_) ?_
  · show (xBody Try.prog G0 (ER s) 100 noLoops [0, 1, 4, 7, 8] bodyR (stR s 0 k false)).sel = some (outR s k) ∧ _
    rw [runR]
    unfold outR
    by_cases h : (k : Int) < s.nR
    · have hb : s.badR k = true := by simpa [stopR, h] using hst
      simp [Tree.sel, h, hb]
    · simp [Tree.sel, h]
  · show (xBody Try.prog G0 (ER s) 100 noLoops [0, 1, 4, 7, 8] bodyR (stR s 0 k false)).sel = some (.normal, stR s 0 ((k + 1 : Nat) : Int) false)
    rw [runR]
    have h : (k : Int) < s.nR := by omega
    have hb : s.badR k = false := by simpa [stopR, h] using hst
    have hw : IntKind.i64.wrap ((k : Int) + 1) = ((k + 1 : Nat) : Int) := by rw [wrap_i64 (by omega) (by omega)]; rfl
    rw [hw]
    simp [Tree.sel, h, hb]
  · simp [stopR]
def lpR (s : Site) : Loops := fun id => match id with
  | 2 => some ([0, 1, 4, 7, 8], stR s 0 (0 : Nat) false, .ite (decide ((fstR s : Int) < s.nR)) (.leaf (.ret, stR s (fstR s) (fstR s) true)) (.leaf (.exit 0, stR s 0 (fstR s) false)))
  | _ => none
theorem lpokR (s : Site) (hf : s.nR ≤ 40) : LoopsOk Try.prog G0 (fun r => r = none) [] (lpR s) (bodyOf Try.prog 45) := by
  refine .of_list _ fun x hx => ?_
  rw [show loopsOf (bodyOf Try.prog 45) = [bodyR] by kernel_rfl] at hx
  obtain rfl := List.mem_singleton.1 hx
  intro keep s0 t e st' h hs
  rw [show idOf bodyR = 2 by kernel_rfl] at h
  cases h
  have hl := loopR s hf (R := fun r => r = none)
  unfold outR at hl
  simp only [Tree.sel] at hs
  cases hd : decide ((fstR s : Int) < s.nR) <;> rw [hd] at hs hl <;> cases hs <;> exact ⟨hl, rfl⟩
theorem findR (s : Site) (hf : s.nR ≤ 40) (σ : Heap) : ACall Try.prog G0 45 [s.vR, s.gR] σ (I (bif decide ((fstR s : Int) < s.nR) then fstR s else -1)) σ := by
  have run : xPure Try.prog G0 (ER s) 100 (lpR s) 45 [s.vR, s.gR] [true, true] = .need ((stR s 0 (0 : Nat) false).vals = (stR s 0 (0 : Nat) false).vals) (.ite (decide ((fstR s : Int) < s.nR)) (.leaf (I (fstR s))) (.leaf (I (-1)))) := by kernel_rfl
  refine xPure_ok (lp := lpR s) (n := 100) (tags := [true, true]) names mixed (clokR s) gbelow0 (lpokR s hf) ?_ ?_ σ
  · rw [run]
    cases decide ((fstR s : Int) < s.nR) <;> simp [Tree.sel]
  · intro x hx
    simp only [List.mem_cons, List.not_mem_nil, or_false] at hx
    rcases hx with rfl | rfl
    · exact s.below_cells _ (by simp [Site.cells])
    · exact .fn _ _ _ (by simp) (below_list (by simpa using s.below_row))
/-- Has the list a bad element? -/
def Site.anyR (s : Site) : Bool := decide ((fstR s : Int) < s.nR)
def glR (s : Site) : FuncId → List AV → Option (Tree AV) := fun f xs => match f, xs with
  | 45, [x, y] => some (.need (x = s.vR ∧ y = s.gR) (.leaf (I (bif decide ((fstR s : Int) < s.nR) then fstR s else -1))))
  | _, _ => none
def GR (s : Site) : Env := { cl := glR s }
theorem gokR (s : Site) (hf : s.nR ≤ 40) : ClOk Try.prog G0 (GR s) := by
  refine .of rfl rfl ?_
  intro f xs t v h hs σ
  have h : glR s f xs = some t := h
  unfold glR at h
  split at h
  · cases h
    obtain ⟨⟨e1, e2⟩, hs2⟩ := Tree.of_need hs
    subst e1
    subst e2
    cases hs2
    exact findR s hf σ
  · cases h
theorem hasR (s : Site) (hf : s.nR ≤ 40) (σ : Heap) : ACall Try.prog G0 33 [s.vR, s.gR] σ (.bool s.anyR) σ := by
  have run : xPure Try.prog G0 (GR s) 100 noLoops 33 [s.vR, s.gR] [true, true] = .need (s.vR = s.vR ∧ s.gR = s.gR) (.leaf (.bool (decide ((bif decide ((fstR s : Int) < s.nR) then (fstR s : Int) else -1) ≥ 0)))) := by kernel_rfl
  refine xPure_ok (lp := noLoops) (n := 100) (tags := [true, true]) names mixed (gokR s hf) gbelow0 (LoopsOk.none _) ?_ ?_ σ
  · rw [run]
    unfold Site.anyR
    cases decide ((fstR s : Int) < s.nR) <;> simp [Tree.sel]
  · intro x hx
    simp only [List.mem_cons, List.not_mem_nil, or_false] at hx
    rcases hx with rfl | rfl
    · exact s.below_cells _ (by simp [Site.cells])
    · exact .fn _ _ _ (by simp) (below_list (by simpa using s.below_row))

/-! ### K -/
def badK (s : Site) (a b c : Int) : Bool := bif !idx a s.sw then true else bif !idx b s.sw then true else bif a == b then true else !btw c 1 1000000
def Site.badK (s : Site) (i : Nat) : Bool := Am.badK s (s.K i 0) (s.K i 1) (s.K i 2)
theorem kK (s : Site) (a b c : Int) (σ : Heap) : ACall Try.prog G0 28 [.agg [I a, I b, I c], .row s.cells 0] σ (.bool (badK s a b c)) σ :=
  xPure_bool (E := E1) (n := 200) (tags := [true, true]) names mixed clok1 gbelow0 (by kernel_rfl) (by kernel_rfl) (by simp only [List.mem_cons, List.not_mem_nil, or_false, forall_eq_or_imp, forall_eq]; exact ⟨below_ints [a, b, c], s.below_row⟩) σ
def clK (s : Site) : FuncId → List AV → Option (Tree AV) := fun f xs => match f, xs with
  | 28, [.agg [.int .i64 a, .int .i64 b, .int .i64 c], x] => some (.need (x = .row s.cells 0) (.leaf (.bool (badK s a b c))))
  | _, _ => none
def EK (s : Site) : Env := { cl := clK s }
theorem clokK (s : Site) : ClOk Try.prog G0 (EK s) := by
  refine .of rfl rfl ?_
  intro f xs t v h hs σ
  have h : clK s f xs = some t := h
  unfold clK at h
  split at h
  · cases h
    obtain ⟨hx, hs2⟩ := Tree.of_need hs
    subst hx
    cases hs2
    exact kK s _ _ _ σ
  · cases h
def Site.gK (s : Site) : AV := .fn 28 [] [.row s.cells 0]
def stK (s : Site) (r k : Int) (b : Bool) : St := .of 19 [] [(0, s.vK, true), (1, s.gK, true), (4, I r, b), (7, I s.nK, true), (8, I k, true)]
noncomputable def bodyK : Code := (loopsOf (bodyOf Try.prog 46)).headD .skip
theorem runK (s : Site) (k : Nat) : xBody Try.prog G0 (EK s) 100 noLoops [0, 1, 4, 7, 8] bodyK (stK s 0 k false) =
    .ite (decide ((k : Int) < s.nK)) (.need (0 ≤ (k : Int) ∧ (k : Int) < s.nK) (.need (AV.row s.cells 0 = AV.row s.cells 0) (.ite (s.badK k) (.leaf (.ret, stK s k k true)) (.leaf (.normal, stK s 0 (IntKind.i64.wrap (k + 1)) false))))) (.leaf (.exit 0, stK s 0 k false)) := by kernel_rfl
def stopK (s : Site) (k : Nat) : Bool := !decide ((k : Int) < s.nK) || s.badK k
def fstK (s : Site) : Nat := fstStop (stopK s) s.nK 0
def outK (s : Site) (k : Nat) : Exit × St := bif decide ((k : Int) < s.nK) then (.ret, stK s k k true) else (.exit 0, stK s 0 k false)
theorem loopK (s : Site) (hf : s.nK ≤ 40) {R : Option Nat → Prop} : AExec Try.prog G0 R (.loop bodyK) { tmps := (stK s 0 (0 : Nat) false).a } [] (outK s (fstK s)).1 { tmps := (outK s (fstK s)).2.a } (outK s (fstK s)).2.h := by
  refine xloopN (S := fun k => stK s 0 k false) (X := outK s) (stop := stopK s) (n := 100) (keep := [0, 1, 4, 7, 8]) (m := []) names mixed (clokK s) (LoopsOk.none _) (fun k hk hst => ?_) (fun k hk hst => ?_) ?_
  · show (xBody Try.prog G0 (EK s) 100 noLoops [0, 1, 4, 7, 8] bodyK (stK s 0 k false)).sel = some (outK s k) ∧ _
    rw [runK]
    unfold outK
    by_cases h : (k : Int) < s.nK
    · have hb : s.badK k = true := by simpa [stopK, h] using hst
      simp [Tree.sel, h, hb]
    · simp [Tree.sel, h]
  · show (xBody Try.prog G0 (EK s) 100 noLoops [0, 1, 4, 7, 8] bodyK (stK s 0 k false)).sel = some (.normal, stK s 0 ((k + 1 : Nat) : Int) false)
    rw [runK]
    have h : (k : Int) < s.nK := by omega
    have hb : s.badK k = false := by simpa [stopK, h] using hst
    have hw : IntKind.i64.wrap ((k : Int) + 1) = ((k + 1 : Nat) : Int) := by rw [wrap_i64 (by omega) (by omega)]; rfl
    rw [hw]
    simp [Tree.sel, h, hb]
  · simp [stopK]
def lpK (s : Site) : Loops := fun id => match id with
  | 2 => some ([0, 1, 4, 7, 8], stK s 0 (0 : Nat) false, .ite (decide ((fstK s : Int) < s.nK)) (.leaf (.ret, stK s (fstK s) (fstK s) true)) (.leaf (.exit 0, stK s 0 (fstK s) false)))
  | _ => none
theorem lpokK (s : Site) (hf : s.nK ≤ 40) : LoopsOk Try.prog G0 (fun r => r = none) [] (lpK s) (bodyOf Try.prog 46) := by
  refine .of_list _ fun x hx => ?_
  rw [show loopsOf (bodyOf Try.prog 46) = [bodyK] by kernel_rfl] at hx
  obtain rfl := List.mem_singleton.1 hx
  intro keep s0 t e st' h hs
  rw [show idOf bodyK = 2 by kernel_rfl] at h
  cases h
  have hl := loopK s hf (R := fun r => r = none)
  unfold outK at hl
  simp only [Tree.sel] at hs
  cases hd : decide ((fstK s : Int) < s.nK) <;> rw [hd] at hs hl <;> cases hs <;> exact ⟨hl, rfl⟩
theorem findK (s : Site) (hf : s.nK ≤ 40) (σ : Heap) : ACall Try.prog G0 46 [s.vK, s.gK] σ (I (bif decide ((fstK s : Int) < s.nK) then fstK s else -1)) σ := by
  have run : xPure Try.prog G0 (EK s) 100 (lpK s) 46 [s.vK, s.gK] [true, true] = .need ((stK s 0 (0 : Nat) false).vals = (stK s 0 (0 : Nat) false).vals) (.ite (decide ((fstK s : Int) < s.nK)) (.leaf (I (fstK s))) (.leaf (I (-1)))) := by kernel_rfl
  refine xPure_ok (lp := lpK s) (n := 100) (tags := [true, true]) names mixed (clokK s) gbelow0 (lpokK s hf) ?_ ?_ σ
  · rw [run]
    cases decide ((fstK s : Int) < s.nK) <;> simp [Tree.sel]
  · intro x hx
    simp only [List.mem_cons, List.not_mem_nil, or_false] at hx
    rcases hx with rfl | rfl
    · exact s.below_cells _ (by simp [Site.cells])
    · exact .fn _ _ _ (by simp) (below_list (by simpa using s.below_row))
/-- Has the list a bad element? -/
def Site.anyK (s : Site) : Bool := decide ((fstK s : Int) < s.nK)
def glK (s : Site) : FuncId → List AV → Option (Tree AV) := fun f xs => match f, xs with
  | 46, [x, y] => some (.need (x = s.vK ∧ y = s.gK) (.leaf (I (bif decide ((fstK s : Int) < s.nK) then fstK s else -1))))
  | _, _ => none
def GK (s : Site) : Env := { cl := glK s }
theorem gokK (s : Site) (hf : s.nK ≤ 40) : ClOk Try.prog G0 (GK s) := by
  refine .of rfl rfl ?_
  intro f xs t v h hs σ
  have h : glK s f xs = some t := h
  unfold glK at h
  split at h
  · cases h
    obtain ⟨⟨e1, e2⟩, hs2⟩ := Tree.of_need hs
    subst e1
    subst e2
    cases hs2
    exact findK s hf σ
  · cases h
theorem hasK (s : Site) (hf : s.nK ≤ 40) (σ : Heap) : ACall Try.prog G0 34 [s.vK, s.gK] σ (.bool s.anyK) σ := by
  have run : xPure Try.prog G0 (GK s) 100 noLoops 34 [s.vK, s.gK] [true, true] = .need (s.vK = s.vK ∧ s.gK = s.gK) (.leaf (.bool (decide ((bif decide ((fstK s : Int) < s.nK) then (fstK s : Int) else -1) ≥ 0)))) := by kernel_rfl
  refine xPure_ok (lp := noLoops) (n := 100) (tags := [true, true]) names mixed (gokK s hf) gbelow0 (LoopsOk.none _) ?_ ?_ σ
  · rw [run]
    unfold Site.anyK
    cases decide ((fstK s : Int) < s.nK) <;> simp [Tree.sel]
  · intro x hx
    simp only [List.mem_cons, List.not_mem_nil, or_false] at hx
    rcases hx with rfl | rfl
    · exact s.below_cells _ (by simp [Site.cells])
    · exact .fn _ _ _ (by simp) (below_list (by simpa using s.below_row))

/-! ### H -/
def badH (s : Site) (a b c d : Int) : Bool := bif !idx a s.nR then true else bif !btw b 1 1000 then true else bif !btw c 0 10000 then true else !btw d 0 1000
def Site.badH (s : Site) (i : Nat) : Bool := Am.badH s (s.H i 0) (s.H i 1) (s.H i 2) (s.H i 3)
theorem kH (s : Site) (a b c d : Int) (σ : Heap) : ACall Try.prog G0 29 [.agg [I a, I b, I c, I d], .row s.cells 0] σ (.bool (badH s a b c d)) σ :=
  xPure_bool (E := E1) (n := 200) (tags := [true, true]) names mixed clok1 gbelow0 (by kernel_rfl) (by kernel_rfl) (by simp only [List.mem_cons, List.not_mem_nil, or_false, forall_eq_or_imp, forall_eq]; exact ⟨below_ints [a, b, c, d], s.below_row⟩) σ
def clH (s : Site) : FuncId → List AV → Option (Tree AV) := fun f xs => match f, xs with
  | 29, [.agg [.int .i64 a, .int .i64 b, .int .i64 c, .int .i64 d], x] => some (.need (x = .row s.cells 0) (.leaf (.bool (badH s a b c d))))
  | _, _ => none
def EH (s : Site) : Env := { cl := clH s }
theorem clokH (s : Site) : ClOk Try.prog G0 (EH s) := by
  refine .of rfl rfl ?_
  intro f xs t v h hs σ
  have h : clH s f xs = some t := h
  unfold clH at h
  split at h
  · cases h
    obtain ⟨hx, hs2⟩ := Tree.of_need hs
    subst hx
    cases hs2
    exact kH s _ _ _ _ σ
  · cases h
def Site.gH (s : Site) : AV := .fn 29 [] [.row s.cells 0]
def stH (s : Site) (r k : Int) (b : Bool) : St := .of 19 [] [(0, s.vH, true), (1, s.gH, true), (4, I r, b), (7, I s.nH, true), (8, I k, true)]
noncomputable def bodyH : Code := (loopsOf (bodyOf Try.prog 47)).headD .skip
theorem runH (s : Site) (k : Nat) : xBody Try.prog G0 (EH s) 100 noLoops [0, 1, 4, 7, 8] bodyH (stH s 0 k false) =
    .ite (decide ((k : Int) < s.nH)) (.need (0 ≤ (k : Int) ∧ (k : Int) < s.nH) (.need (AV.row s.cells 0 = AV.row s.cells 0) (.ite (s.badH k) (.leaf (.ret, stH s k k true)) (.leaf (.normal, stH s 0 (IntKind.i64.wrap (k + 1)) false))))) (.leaf (.exit 0, stH s 0 k false)) := by kernel_rfl
def stopH (s : Site) (k : Nat) : Bool := !decide ((k : Int) < s.nH) || s.badH k
def fstH (s : Site) : Nat := fstStop (stopH s) s.nH 0
def outH (s : Site) (k : Nat) : Exit × St := bif decide ((k : Int) < s.nH) then (.ret, stH s k k true) else (.exit 0, stH s 0 k false)
theorem loopH (s : Site) (hf : s.nH ≤ 40) {R : Option Nat → Prop} : AExec Try.prog G0 R (.loop bodyH) { tmps := (stH s 0 (0 : Nat) false).a } [] (outH s (fstH s)).1 { tmps := (outH s (fstH s)).2.a } (outH s (fstH s)).2.h := by
  refine xloopN (S := fun k => stH s 0 k false) (X := outH s) (stop := stopH s) (n := 100) (keep := [0, 1, 4, 7, 8]) (m := []) names mixed (clokH s) (LoopsOk.none _) (fun k hk hst => ?_) (fun k hk hst => ?_) ?_
  · show (xBody Try.prog G0 (EH s) 100 noLoops [0, 1, 4, 7, 8] bodyH (stH s 0 k false)).sel = some (outH s k) ∧ _
    rw [runH]
    unfold outH
    by_cases h : (k : Int) < s.nH
    · have hb : s.badH k = true := by simpa [stopH, h] using hst
      simp [Tree.sel, h, hb]
    · simp [Tree.sel, h]
  · show (xBody Try.prog G0 (EH s) 100 noLoops [0, 1, 4, 7, 8] bodyH (stH s 0 k false)).sel = some (.normal, stH s 0 ((k + 1 : Nat) : Int) false)
    rw [runH]
    have h : (k : Int) < s.nH := by omega
    have hb : s.badH k = false := by simpa [stopH, h] using hst
    have hw : IntKind.i64.wrap ((k : Int) + 1) = ((k + 1 : Nat) : Int) := by rw [wrap_i64 (by omega) (by omega)]; rfl
    rw [hw]
    simp [Tree.sel, h, hb]
  · simp [stopH]
def lpH (s : Site) : Loops := fun id => match id with
  | 2 => some ([0, 1, 4, 7, 8], stH s 0 (0 : Nat) false, .ite (decide ((fstH s : Int) < s.nH)) (.leaf (.ret, stH s (fstH s) (fstH s) true)) (.leaf (.exit 0, stH s 0 (fstH s) false)))
  | _ => none
theorem lpokH (s : Site) (hf : s.nH ≤ 40) : LoopsOk Try.prog G0 (fun r => r = none) [] (lpH s) (bodyOf Try.prog 47) := by
  refine .of_list _ fun x hx => ?_
  rw [show loopsOf (bodyOf Try.prog 47) = [bodyH] by kernel_rfl] at hx
  obtain rfl := List.mem_singleton.1 hx
  intro keep s0 t e st' h hs
  rw [show idOf bodyH = 2 by kernel_rfl] at h
  cases h
  have hl := loopH s hf (R := fun r => r = none)
  unfold outH at hl
  simp only [Tree.sel] at hs
  cases hd : decide ((fstH s : Int) < s.nH) <;> rw [hd] at hs hl <;> cases hs <;> exact ⟨hl, rfl⟩
theorem findH (s : Site) (hf : s.nH ≤ 40) (σ : Heap) : ACall Try.prog G0 47 [s.vH, s.gH] σ (I (bif decide ((fstH s : Int) < s.nH) then fstH s else -1)) σ := by
  have run : xPure Try.prog G0 (EH s) 100 (lpH s) 47 [s.vH, s.gH] [true, true] = .need ((stH s 0 (0 : Nat) false).vals = (stH s 0 (0 : Nat) false).vals) (.ite (decide ((fstH s : Int) < s.nH)) (.leaf (I (fstH s))) (.leaf (I (-1)))) := by kernel_rfl
  refine xPure_ok (lp := lpH s) (n := 100) (tags := [true, true]) names mixed (clokH s) gbelow0 (lpokH s hf) ?_ ?_ σ
  · rw [run]
    cases decide ((fstH s : Int) < s.nH) <;> simp [Tree.sel]
  · intro x hx
    simp only [List.mem_cons, List.not_mem_nil, or_false] at hx
    rcases hx with rfl | rfl
    · exact s.below_cells _ (by simp [Site.cells])
    · exact .fn _ _ _ (by simp) (below_list (by simpa using s.below_row))
/-- Has the list a bad element? -/
def Site.anyH (s : Site) : Bool := decide ((fstH s : Int) < s.nH)
def glH (s : Site) : FuncId → List AV → Option (Tree AV) := fun f xs => match f, xs with
  | 47, [x, y] => some (.need (x = s.vH ∧ y = s.gH) (.leaf (I (bif decide ((fstH s : Int) < s.nH) then fstH s else -1))))
  | _, _ => none
def GH (s : Site) : Env := { cl := glH s }
theorem gokH (s : Site) (hf : s.nH ≤ 40) : ClOk Try.prog G0 (GH s) := by
  refine .of rfl rfl ?_
  intro f xs t v h hs σ
  have h : glH s f xs = some t := h
  unfold glH at h
  split at h
  · cases h
    obtain ⟨⟨e1, e2⟩, hs2⟩ := Tree.of_need hs
    subst e1
    subst e2
    cases hs2
    exact findH s hf σ
  · cases h
theorem hasH (s : Site) (hf : s.nH ≤ 40) (σ : Heap) : ACall Try.prog G0 35 [s.vH, s.gH] σ (.bool s.anyH) σ := by
  have run : xPure Try.prog G0 (GH s) 100 noLoops 35 [s.vH, s.gH] [true, true] = .need (s.vH = s.vH ∧ s.gH = s.gH) (.leaf (.bool (decide ((bif decide ((fstH s : Int) < s.nH) then (fstH s : Int) else -1) ≥ 0)))) := by kernel_rfl
  refine xPure_ok (lp := noLoops) (n := 100) (tags := [true, true]) names mixed (gokH s hf) gbelow0 (LoopsOk.none _) ?_ ?_ σ
  · rw [run]
    unfold Site.anyH
    cases decide ((fstH s : Int) < s.nH) <;> simp [Tree.sel]
  · intro x hx
    simp only [List.mem_cons, List.not_mem_nil, or_false] at hx
    rcases hx with rfl | rfl
    · exact s.below_cells _ (by simp [Site.cells])
    · exact .fn _ _ _ (by simp) (below_list (by simpa using s.below_row))

end Go.Proofs.Ytbhbfndenpidoaa.Am
