/-
  This file proves nothing of a law. It says what the loops of the reference's Valid do. Printed by a program (gen5.py). No condition.
-/
import Derived.Test.YtbhbfndenpidoaaSite4
import Derived.Test.YtbhbfndenpidoaaAm19
namespace Go.Proofs.Ytbhbfndenpidoaa.Am
open Go
set_option maxRecDepth 100000

theorem sel1 {α : Type} (d : Bool) (p : Prop) (hd : d = true) (hp : p) (c1 : Bool) (r nx ex : α) : (Tree.ite d (.need p (.ite c1 (.leaf r) (.leaf nx))) (.leaf ex)).sel = some (bif c1 then r else nx) := by
  subst hd; cases c1 <;> simp [Tree.sel, hp]
theorem sel2 {α : Type} (d : Bool) (p : Prop) (hd : d = true) (hp : p) (c1 c2 : Bool) (r nx ex : α) : (Tree.ite d (.need p (.ite c1 (.leaf r) (.need p (.ite c2 (.leaf r) (.leaf nx))))) (.leaf ex)).sel = some (bif c1 || c2 then r else nx) := by
  subst hd; cases c1 <;> cases c2 <;> simp [Tree.sel, hp]
theorem sel4 {α : Type} (d : Bool) (p : Prop) (hd : d = true) (hp : p) (c1 c2 c3 c4 : Bool) (r nx ex : α) : (Tree.ite d (.need p (.ite c1 (.leaf r) (.ite c2 (.leaf r) (.ite c3 (.leaf r) (.ite c4 (.leaf r) (.leaf nx)))))) (.leaf ex)).sel = some (bif c1 || (c2 || (c3 || c4)) then r else nx) := by
  subst hd; cases c1 <;> cases c2 <;> cases c3 <;> cases c4 <;> simp [Tree.sel, hp]
theorem sel0 {α : Type} (d : Bool) (hd : d = false) (x : Tree α) (ex : α) : (Tree.ite d x (.leaf ex)).sel = some ex := by
  subst hd; rfl

/-- The head of a loop of the reference's: the site, the outcome so far, the counter c. -/
def sr (s : Site) (n c : Nat) (k : Int) : St := .of n [] [(1, .row s.cells 0, true), (2, .bool false, false), (c, I k, true)]
theorem sr_clean (s : Site) (n c : Nat) (k : Int) : (sr s n c k).clean := St.of_clean fun p hp => by
  simp only [List.mem_cons, List.not_mem_nil, or_false] at hp
  rcases hp with rfl | rfl | rfl
  · exact s.below_row
  · exact .bool _
  · exact .int _ _
theorem wrap_next {k n : Nat} (h : (k : Int) < n) (hn : n ≤ 40) : IntKind.i64.wrap ((k : Int) + 1) = ((k + 1 : Nat) : Int) := by rw [wrap_i64 (by omega) (by omega)]; rfl

/-! ### F -/
def Site.rbadF (s : Site) (k : Nat) : Bool := (!btw (s.F k 0) 0 1000000)
noncomputable def rbodyF : Code := (loopsOf (bodyOf Try.prog 36)).getD 0 .skip
theorem rrunF (s : Site) (k : Nat) : xBody0 Try.prog G0 E1 200 noLoops [1, 2, 3] rbodyF (sr s 71 3 k) = .ite (decide ((k : Int) < s.nF)) (.need (0 ≤ (k : Int) ∧ (k : Int) < s.nF) (.ite (!btw (s.F k 0) 0 1000000) (.leaf (.ret, sr s 71 3 k)) (.leaf (.normal, sr s 71 3 (IntKind.i64.wrap (k + 1)))))) (.leaf (.exit 0, sr s 71 3 k)) := by kernel_rfl
def rstopF (s : Site) (k : Nat) : Bool := !decide ((k : Int) < s.nF) || s.rbadF k
def rfstF (s : Site) : Nat := fstStop (rstopF s) s.nF 0
def routF (s : Site) (k : Nat) : Exit × St := bif decide ((k : Int) < s.nF) then (.ret, sr s 71 3 k) else (.exit 0, sr s 71 3 k)
theorem rloopF (s : Site) (hf : s.nF ≤ 40) {R : Option Nat → Prop} : AExec Try.prog G0 R (.loop rbodyF) { tmps := (sr s 71 3 (0 : Nat)).a } [] (routF s (rfstF s)).1 { tmps := (routF s (rfstF s)).2.a } [] := by
  refine xloop0 (E := E1) (S := fun k => sr s 71 3 k) (X := routF s) (stop := rstopF s) (n := 200) (keep := [1, 2, 3]) names mixed clok1 (LoopsOk.none _) (fun k => ⟨sr_clean s 71 3 k, rfl⟩) (fun k => ?_) (fun k hk hst => ?_) (fun k hk hst => ?_) ?_
  · unfold routF
    cases decide ((k : Int) < s.nF) <;> exact ⟨sr_clean s 71 3 k, rfl⟩
  · show (xBody0 Try.prog G0 E1 200 noLoops [1, 2, 3] rbodyF (sr s 71 3 k)).sel = some (routF s k) ∧ _
    rw [rrunF]
    unfold routF
    by_cases h : (k : Int) < s.nF
    · have hb : s.rbadF k = true := by simpa [rstopF, h] using hst
      rw [sel1 _ _ (decide_eq_true h) ⟨by omega, h⟩, decide_eq_true h]
      unfold Site.rbadF at hb
      rw [hb]
      exact ⟨rfl, nofun⟩
    · rw [sel0 _ (decide_eq_false h), decide_eq_false h]
      exact ⟨rfl, nofun⟩
  · show (xBody0 Try.prog G0 E1 200 noLoops [1, 2, 3] rbodyF (sr s 71 3 k)).sel = some (.normal, sr s 71 3 ((k + 1 : Nat) : Int))
    rw [rrunF]
    have h : (k : Int) < s.nF := by omega
    have hb : s.rbadF k = false := by simpa [rstopF, h] using hst
    rw [sel1 _ _ (decide_eq_true h) ⟨by omega, h⟩, wrap_next h hf]
    unfold Site.rbadF at hb
    rw [hb]
    rfl
  · simp [rstopF]
def rresF (s : Site) : List Nat × St × Tree (Exit × St) := ([1, 2, 3], sr s 71 3 (0 : Nat), .ite (decide ((rfstF s : Int) < s.nF)) (.leaf (.ret, sr s 71 3 (rfstF s))) (.leaf (.exit 0, sr s 71 3 (rfstF s))))
theorem rlokF (s : Site) (hf : s.nF ≤ 40) {lp : Loops} (hlp : lp 4 = some (rresF s)) : LoopOk Try.prog G0 (fun r => r = none) [] lp rbodyF := by
  intro keep s0 t e st' h hs
  rw [show idOf rbodyF = 4 by kernel_rfl, hlp] at h
  cases h
  have hl := rloopF s hf (R := fun r => r = none)
  unfold routF at hl
  simp only [Tree.sel] at hs
  cases hd : decide ((rfstF s : Int) < s.nF) <;> rw [hd] at hs hl <;> cases hs <;> exact ⟨hl, rfl⟩
def Site.ranyF (s : Site) : Bool := decide ((rfstF s : Int) < s.nF)

/-! ### B -/
def Site.rbadB (s : Site) (k : Nat) : Bool := (!btw (s.B k 0) 0 (IntKind.i64.wrap ((s.nF : Int) - 1))) || ((!btw (s.B k 1) 0 1000000) || ((!btw (s.B k 2) 0 1000000) || ((!btw (s.B k 3) 0 1000000))))
noncomputable def rbodyB : Code := (loopsOf (bodyOf Try.prog 36)).getD 1 .skip
theorem rrunB (s : Site) (k : Nat) : xBody0 Try.prog G0 E1 200 noLoops [1, 2, 4] rbodyB (sr s 71 4 k) = .ite (decide ((k : Int) < s.nB)) (.need (0 ≤ (k : Int) ∧ (k : Int) < s.nB) (.ite (!btw (s.B k 0) 0 (IntKind.i64.wrap ((s.nF : Int) - 1))) (.leaf (.ret, sr s 71 4 k)) (.ite (!btw (s.B k 1) 0 1000000) (.leaf (.ret, sr s 71 4 k)) (.ite (!btw (s.B k 2) 0 1000000) (.leaf (.ret, sr s 71 4 k)) (.ite (!btw (s.B k 3) 0 1000000) (.leaf (.ret, sr s 71 4 k)) (.leaf (.normal, sr s 71 4 (IntKind.i64.wrap (k + 1))))))))) (.leaf (.exit 2, sr s 71 4 k)) := by kernel_rfl
def rstopB (s : Site) (k : Nat) : Bool := !decide ((k : Int) < s.nB) || s.rbadB k
def rfstB (s : Site) : Nat := fstStop (rstopB s) s.nB 0
def routB (s : Site) (k : Nat) : Exit × St := bif decide ((k : Int) < s.nB) then (.ret, sr s 71 4 k) else (.exit 2, sr s 71 4 k)
theorem rloopB (s : Site) (hf : s.nB ≤ 40) {R : Option Nat → Prop} : AExec Try.prog G0 R (.loop rbodyB) { tmps := (sr s 71 4 (0 : Nat)).a } [] (routB s (rfstB s)).1 { tmps := (routB s (rfstB s)).2.a } [] := by
  refine xloop0 (E := E1) (S := fun k => sr s 71 4 k) (X := routB s) (stop := rstopB s) (n := 200) (keep := [1, 2, 4]) names mixed clok1 (LoopsOk.none _) (fun k => ⟨sr_clean s 71 4 k, rfl⟩) (fun k => ?_) (fun k hk hst => ?_) (fun k hk hst => ?_) ?_
  · unfold routB
    cases decide ((k : Int) < s.nB) <;> exact ⟨sr_clean s 71 4 k, rfl⟩
  · show (xBody0 Try.prog G0 E1 200 noLoops [1, 2, 4] rbodyB (sr s 71 4 k)).sel = some (routB s k) ∧ _
    rw [rrunB]
    unfold routB
    by_cases h : (k : Int) < s.nB
    · have hb : s.rbadB k = true := by simpa [rstopB, h] using hst
      rw [sel4 _ _ (decide_eq_true h) ⟨by omega, h⟩, decide_eq_true h]
      unfold Site.rbadB at hb
      rw [hb]
      exact ⟨rfl, nofun⟩
    · rw [sel0 _ (decide_eq_false h), decide_eq_false h]
      exact ⟨rfl, nofun⟩
  · show (xBody0 Try.prog G0 E1 200 noLoops [1, 2, 4] rbodyB (sr s 71 4 k)).sel = some (.normal, sr s 71 4 ((k + 1 : Nat) : Int))
    rw [rrunB]
    have h : (k : Int) < s.nB := by omega
    have hb : s.rbadB k = false := by simpa [rstopB, h] using hst
    rw [sel4 _ _ (decide_eq_true h) ⟨by omega, h⟩, wrap_next h hf]
    unfold Site.rbadB at hb
    rw [hb]
    rfl
  · simp [rstopB]
def rresB (s : Site) : List Nat × St × Tree (Exit × St) := ([1, 2, 4], sr s 71 4 (0 : Nat), .ite (decide ((rfstB s : Int) < s.nB)) (.leaf (.ret, sr s 71 4 (rfstB s))) (.leaf (.exit 2, sr s 71 4 (rfstB s))))
theorem rlokB (s : Site) (hf : s.nB ≤ 40) {lp : Loops} (hlp : lp 9 = some (rresB s)) : LoopOk Try.prog G0 (fun r => r = none) [] lp rbodyB := by
  intro keep s0 t e st' h hs
  rw [show idOf rbodyB = 9 by kernel_rfl, hlp] at h
  cases h
  have hl := rloopB s hf (R := fun r => r = none)
  unfold routB at hl
  simp only [Tree.sel] at hs
  cases hd : decide ((rfstB s : Int) < s.nB) <;> rw [hd] at hs hl <;> cases hs <;> exact ⟨hl, rfl⟩
def Site.ranyB (s : Site) : Bool := decide ((rfstB s : Int) < s.nB)

/-! ### L -/
def Site.rbadL (s : Site) (k : Nat) : Bool := (!btw (s.L k 0) 0 1000000) || ((!btw (s.L k 1) 0 100))
noncomputable def rbodyL : Code := (loopsOf (bodyOf Try.prog 37)).getD 0 .skip
theorem rrunL (s : Site) (k : Nat) : xBody0 Try.prog G0 E1 200 noLoops [1, 2, 3] rbodyL (sr s 143 3 k) = .ite (decide ((k : Int) < s.nL)) (.need (0 ≤ (k : Int) ∧ (k : Int) < s.nL) (.ite (!btw (s.L k 0) 0 1000000) (.leaf (.ret, sr s 143 3 k)) (.need (0 ≤ (k : Int) ∧ (k : Int) < s.nL) (.ite (!btw (s.L k 1) 0 100) (.leaf (.ret, sr s 143 3 k)) (.leaf (.normal, sr s 143 3 (IntKind.i64.wrap (k + 1)))))))) (.leaf (.exit 0, sr s 143 3 k)) := by kernel_rfl
def rstopL (s : Site) (k : Nat) : Bool := !decide ((k : Int) < s.nL) || s.rbadL k
def rfstL (s : Site) : Nat := fstStop (rstopL s) s.nL 0
def routL (s : Site) (k : Nat) : Exit × St := bif decide ((k : Int) < s.nL) then (.ret, sr s 143 3 k) else (.exit 0, sr s 143 3 k)
theorem rloopL (s : Site) (hf : s.nL ≤ 40) {R : Option Nat → Prop} : AExec Try.prog G0 R (.loop rbodyL) { tmps := (sr s 143 3 (0 : Nat)).a } [] (routL s (rfstL s)).1 { tmps := (routL s (rfstL s)).2.a } [] := by
  refine xloop0 (E := E1) (S := fun k => sr s 143 3 k) (X := routL s) (stop := rstopL s) (n := 200) (keep := [1, 2, 3]) names mixed clok1 (LoopsOk.none _) (fun k => ⟨sr_clean s 143 3 k, rfl⟩) (fun k => ?_) (fun k hk hst => ?_) (fun k hk hst => ?_) ?_
  · unfold routL
    cases decide ((k : Int) < s.nL) <;> exact ⟨sr_clean s 143 3 k, rfl⟩
  · show (xBody0 Try.prog G0 E1 200 noLoops [1, 2, 3] rbodyL (sr s 143 3 k)).sel = some (routL s k) ∧ _
    rw [rrunL]
    unfold routL
    by_cases h : (k : Int) < s.nL
    · have hb : s.rbadL k = true := by simpa [rstopL, h] using hst
      rw [sel2 _ _ (decide_eq_true h) ⟨by omega, h⟩, decide_eq_true h]
      unfold Site.rbadL at hb
      rw [hb]
      exact ⟨rfl, nofun⟩
    · rw [sel0 _ (decide_eq_false h), decide_eq_false h]
      exact ⟨rfl, nofun⟩
  · show (xBody0 Try.prog G0 E1 200 noLoops [1, 2, 3] rbodyL (sr s 143 3 k)).sel = some (.normal, sr s 143 3 ((k + 1 : Nat) : Int))
    rw [rrunL]
    have h : (k : Int) < s.nL := by omega
    have hb : s.rbadL k = false := by simpa [rstopL, h] using hst
    rw [sel2 _ _ (decide_eq_true h) ⟨by omega, h⟩, wrap_next h hf]
    unfold Site.rbadL at hb
    rw [hb]
    rfl
  · simp [rstopL]
def rresL (s : Site) : List Nat × St × Tree (Exit × St) := ([1, 2, 3], sr s 143 3 (0 : Nat), .ite (decide ((rfstL s : Int) < s.nL)) (.leaf (.ret, sr s 143 3 (rfstL s))) (.leaf (.exit 0, sr s 143 3 (rfstL s))))
theorem rlokL (s : Site) (hf : s.nL ≤ 40) {lp : Loops} (hlp : lp 4 = some (rresL s)) : LoopOk Try.prog G0 (fun r => r = none) [] lp rbodyL := by
  intro keep s0 t e st' h hs
  rw [show idOf rbodyL = 4 by kernel_rfl, hlp] at h
  cases h
  have hl := rloopL s hf (R := fun r => r = none)
  unfold routL at hl
  simp only [Tree.sel] at hs
  cases hd : decide ((rfstL s : Int) < s.nL) <;> rw [hd] at hs hl <;> cases hs <;> exact ⟨hl, rfl⟩
def Site.ranyL (s : Site) : Bool := decide ((rfstL s : Int) < s.nL)

/-! ### R -/
def Site.rbadR (s : Site) (k : Nat) : Bool := (!btw (s.R k 0) 0 3) || ((!btw (s.R k 1) 0 (IntKind.i64.wrap ((s.nB : Int) - 1))) || ((!btw (s.R k 2) 0 (IntKind.i64.wrap ((s.nL : Int) - 1))) || ((!btw (s.R k 3) 0 (IntKind.i64.wrap (s.sw - 1))))))
noncomputable def rbodyR : Code := (loopsOf (bodyOf Try.prog 37)).getD 1 .skip
theorem rrunR (s : Site) (k : Nat) : xBody0 Try.prog G0 E1 200 noLoops [1, 2, 4] rbodyR (sr s 143 4 k) = .ite (decide ((k : Int) < s.nR)) (.need (0 ≤ (k : Int) ∧ (k : Int) < s.nR) (.ite (!btw (s.R k 0) 0 3) (.leaf (.ret, sr s 143 4 k)) (.ite (!btw (s.R k 1) 0 (IntKind.i64.wrap ((s.nB : Int) - 1))) (.leaf (.ret, sr s 143 4 k)) (.ite (!btw (s.R k 2) 0 (IntKind.i64.wrap ((s.nL : Int) - 1))) (.leaf (.ret, sr s 143 4 k)) (.ite (!btw (s.R k 3) 0 (IntKind.i64.wrap (s.sw - 1))) (.leaf (.ret, sr s 143 4 k)) (.leaf (.normal, sr s 143 4 (IntKind.i64.wrap (k + 1))))))))) (.leaf (.exit 2, sr s 143 4 k)) := by kernel_rfl
def rstopR (s : Site) (k : Nat) : Bool := !decide ((k : Int) < s.nR) || s.rbadR k
def rfstR (s : Site) : Nat := fstStop (rstopR s) s.nR 0
def routR (s : Site) (k : Nat) : Exit × St := bif decide ((k : Int) < s.nR) then (.ret, sr s 143 4 k) else (.exit 2, sr s 143 4 k)
theorem rloopR (s : Site) (hf : s.nR ≤ 40) {R : Option Nat → Prop} : AExec Try.prog G0 R (.loop rbodyR) { tmps := (sr s 143 4 (0 : Nat)).a } [] (routR s (rfstR s)).1 { tmps := (routR s (rfstR s)).2.a } [] := by
  refine xloop0 (E := E1) (S := fun k => sr s 143 4 k) (X := routR s) (stop := rstopR s) (n := 200) (keep := [1, 2, 4]) names mixed clok1 (LoopsOk.none _) (fun k => ⟨sr_clean s 143 4 k, rfl⟩) (fun k => ?_) (fun k hk hst => ?_) (fun k hk hst => ?_) ?_
  · unfold routR
    cases decide ((k : Int) < s.nR) <;> exact ⟨sr_clean s 143 4 k, rfl⟩
  · show (xBody0 Try.prog G0 E1 200 noLoops [1, 2, 4] rbodyR (sr s 143 4 k)).sel = some (routR s k) ∧ _
    rw [rrunR]
    unfold routR
    by_cases h : (k : Int) < s.nR
    · have hb : s.rbadR k = true := by simpa [rstopR, h] using hst
      rw [sel4 _ _ (decide_eq_true h) ⟨by omega, h⟩, decide_eq_true h]
      unfold Site.rbadR at hb
      rw [hb]
      exact ⟨rfl, nofun⟩
    · rw [sel0 _ (decide_eq_false h), decide_eq_false h]
      exact ⟨rfl, nofun⟩
  · show (xBody0 Try.prog G0 E1 200 noLoops [1, 2, 4] rbodyR (sr s 143 4 k)).sel = some (.normal, sr s 143 4 ((k + 1 : Nat) : Int))
    rw [rrunR]
    have h : (k : Int) < s.nR := by omega
    have hb : s.rbadR k = false := by simpa [rstopR, h] using hst
    rw [sel4 _ _ (decide_eq_true h) ⟨by omega, h⟩, wrap_next h hf]
    unfold Site.rbadR at hb
    rw [hb]
    rfl
  · simp [rstopR]
def rresR (s : Site) : List Nat × St × Tree (Exit × St) := ([1, 2, 4], sr s 143 4 (0 : Nat), .ite (decide ((rfstR s : Int) < s.nR)) (.leaf (.ret, sr s 143 4 (rfstR s))) (.leaf (.exit 2, sr s 143 4 (rfstR s))))
theorem rlokR (s : Site) (hf : s.nR ≤ 40) {lp : Loops} (hlp : lp 9 = some (rresR s)) : LoopOk Try.prog G0 (fun r => r = none) [] lp rbodyR := by
  intro keep s0 t e st' h hs
  rw [show idOf rbodyR = 9 by kernel_rfl, hlp] at h
  cases h
  have hl := rloopR s hf (R := fun r => r = none)
  unfold routR at hl
  simp only [Tree.sel] at hs
  cases hd : decide ((rfstR s : Int) < s.nR) <;> rw [hd] at hs hl <;> cases hs <;> exact ⟨hl, rfl⟩
def Site.ranyR (s : Site) : Bool := decide ((rfstR s : Int) < s.nR)

/-! ### K -/
def Site.rbadK (s : Site) (k : Nat) : Bool := (!btw (s.K k 0) 0 (IntKind.i64.wrap (s.sw - 1))) || ((!btw (s.K k 1) 0 (IntKind.i64.wrap (s.sw - 1))) || ((s.K k 0 == s.K k 1) || ((!btw (s.K k 2) 1 1000000))))
noncomputable def rbodyK : Code := (loopsOf (bodyOf Try.prog 37)).getD 2 .skip
theorem rrunK (s : Site) (k : Nat) : xBody0 Try.prog G0 E1 200 noLoops [1, 2, 6] rbodyK (sr s 143 6 k) = .ite (decide ((k : Int) < s.nK)) (.need (0 ≤ (k : Int) ∧ (k : Int) < s.nK) (.ite (!btw (s.K k 0) 0 (IntKind.i64.wrap (s.sw - 1))) (.leaf (.ret, sr s 143 6 k)) (.ite (!btw (s.K k 1) 0 (IntKind.i64.wrap (s.sw - 1))) (.leaf (.ret, sr s 143 6 k)) (.ite (s.K k 0 == s.K k 1) (.leaf (.ret, sr s 143 6 k)) (.ite (!btw (s.K k 2) 1 1000000) (.leaf (.ret, sr s 143 6 k)) (.leaf (.normal, sr s 143 6 (IntKind.i64.wrap (k + 1))))))))) (.leaf (.exit 4, sr s 143 6 k)) := by kernel_rfl
def rstopK (s : Site) (k : Nat) : Bool := !decide ((k : Int) < s.nK) || s.rbadK k
def rfstK (s : Site) : Nat := fstStop (rstopK s) s.nK 0
def routK (s : Site) (k : Nat) : Exit × St := bif decide ((k : Int) < s.nK) then (.ret, sr s 143 6 k) else (.exit 4, sr s 143 6 k)
theorem rloopK (s : Site) (hf : s.nK ≤ 40) {R : Option Nat → Prop} : AExec Try.prog G0 R (.loop rbodyK) { tmps := (sr s 143 6 (0 : Nat)).a } [] (routK s (rfstK s)).1 { tmps := (routK s (rfstK s)).2.a } [] := by
  refine xloop0 (E := E1) (S := fun k => sr s 143 6 k) (X := routK s) (stop := rstopK s) (n := 200) (keep := [1, 2, 6]) names mixed clok1 (LoopsOk.none _) (fun k => ⟨sr_clean s 143 6 k, rfl⟩) (fun k => ?_) (fun k hk hst => ?_) (fun k hk hst => ?_) ?_
  · unfold routK
    cases decide ((k : Int) < s.nK) <;> exact ⟨sr_clean s 143 6 k, rfl⟩
  · show (xBody0 Try.prog G0 E1 200 noLoops [1, 2, 6] rbodyK (sr s 143 6 k)).sel = some (routK s k) ∧ _
    rw [rrunK]
    unfold routK
    by_cases h : (k : Int) < s.nK
    · have hb : s.rbadK k = true := by simpa [rstopK, h] using hst
      rw [sel4 _ _ (decide_eq_true h) ⟨by omega, h⟩, decide_eq_true h]
      unfold Site.rbadK at hb
      rw [hb]
      exact ⟨rfl, nofun⟩
    · rw [sel0 _ (decide_eq_false h), decide_eq_false h]
      exact ⟨rfl, nofun⟩
  · show (xBody0 Try.prog G0 E1 200 noLoops [1, 2, 6] rbodyK (sr s 143 6 k)).sel = some (.normal, sr s 143 6 ((k + 1 : Nat) : Int))
    rw [rrunK]
    have h : (k : Int) < s.nK := by omega
    have hb : s.rbadK k = false := by simpa [rstopK, h] using hst
    rw [sel4 _ _ (decide_eq_true h) ⟨by omega, h⟩, wrap_next h hf]
    unfold Site.rbadK at hb
    rw [hb]
    rfl
  · simp [rstopK]
def rresK (s : Site) : List Nat × St × Tree (Exit × St) := ([1, 2, 6], sr s 143 6 (0 : Nat), .ite (decide ((rfstK s : Int) < s.nK)) (.leaf (.ret, sr s 143 6 (rfstK s))) (.leaf (.exit 4, sr s 143 6 (rfstK s))))
theorem rlokK (s : Site) (hf : s.nK ≤ 40) {lp : Loops} (hlp : lp 15 = some (rresK s)) : LoopOk Try.prog G0 (fun r => r = none) [] lp rbodyK := by
  intro keep s0 t e st' h hs
  rw [show idOf rbodyK = 15 by kernel_rfl, hlp] at h
  cases h
  have hl := rloopK s hf (R := fun r => r = none)
  unfold routK at hl
  simp only [Tree.sel] at hs
  cases hd : decide ((rfstK s : Int) < s.nK) <;> rw [hd] at hs hl <;> cases hs <;> exact ⟨hl, rfl⟩
def Site.ranyK (s : Site) : Bool := decide ((rfstK s : Int) < s.nK)

/-! ### H -/
def Site.rbadH (s : Site) (k : Nat) : Bool := (!btw (s.H k 0) 0 (IntKind.i64.wrap ((s.nR : Int) - 1))) || ((!btw (s.H k 1) 1 1000) || ((!btw (s.H k 2) 0 10000) || ((!btw (s.H k 3) 0 1000))))
noncomputable def rbodyH : Code := (loopsOf (bodyOf Try.prog 11)).getD 0 .skip
theorem rrunH (s : Site) (k : Nat) : xBody0 Try.prog G0 E1 200 noLoops [1, 2, 3] rbodyH (sr s 58 3 k) = .ite (decide ((k : Int) < s.nH)) (.need (0 ≤ (k : Int) ∧ (k : Int) < s.nH) (.ite (!btw (s.H k 0) 0 (IntKind.i64.wrap ((s.nR : Int) - 1))) (.leaf (.ret, sr s 58 3 k)) (.ite (!btw (s.H k 1) 1 1000) (.leaf (.ret, sr s 58 3 k)) (.ite (!btw (s.H k 2) 0 10000) (.leaf (.ret, sr s 58 3 k)) (.ite (!btw (s.H k 3) 0 1000) (.leaf (.ret, sr s 58 3 k)) (.leaf (.normal, sr s 58 3 (IntKind.i64.wrap (k + 1))))))))) (.leaf (.exit 0, sr s 58 3 k)) := by kernel_rfl
def rstopH (s : Site) (k : Nat) : Bool := !decide ((k : Int) < s.nH) || s.rbadH k
def rfstH (s : Site) : Nat := fstStop (rstopH s) s.nH 0
def routH (s : Site) (k : Nat) : Exit × St := bif decide ((k : Int) < s.nH) then (.ret, sr s 58 3 k) else (.exit 0, sr s 58 3 k)
theorem rloopH (s : Site) (hf : s.nH ≤ 40) {R : Option Nat → Prop} : AExec Try.prog G0 R (.loop rbodyH) { tmps := (sr s 58 3 (0 : Nat)).a } [] (routH s (rfstH s)).1 { tmps := (routH s (rfstH s)).2.a } [] := by
  refine xloop0 (E := E1) (S := fun k => sr s 58 3 k) (X := routH s) (stop := rstopH s) (n := 200) (keep := [1, 2, 3]) names mixed clok1 (LoopsOk.none _) (fun k => ⟨sr_clean s 58 3 k, rfl⟩) (fun k => ?_) (fun k hk hst => ?_) (fun k hk hst => ?_) ?_
  · unfold routH
    cases decide ((k : Int) < s.nH) <;> exact ⟨sr_clean s 58 3 k, rfl⟩
  · show (xBody0 Try.prog G0 E1 200 noLoops [1, 2, 3] rbodyH (sr s 58 3 k)).sel = some (routH s k) ∧ _
    rw [rrunH]
    unfold routH
    by_cases h : (k : Int) < s.nH
    · have hb : s.rbadH k = true := by simpa [rstopH, h] using hst
      rw [sel4 _ _ (decide_eq_true h) ⟨by omega, h⟩, decide_eq_true h]
      unfold Site.rbadH at hb
      rw [hb]
      exact ⟨rfl, nofun⟩
    · rw [sel0 _ (decide_eq_false h), decide_eq_false h]
      exact ⟨rfl, nofun⟩
  · show (xBody0 Try.prog G0 E1 200 noLoops [1, 2, 3] rbodyH (sr s 58 3 k)).sel = some (.normal, sr s 58 3 ((k + 1 : Nat) : Int))
    rw [rrunH]
    have h : (k : Int) < s.nH := by omega
    have hb : s.rbadH k = false := by simpa [rstopH, h] using hst
    rw [sel4 _ _ (decide_eq_true h) ⟨by omega, h⟩, wrap_next h hf]
    unfold Site.rbadH at hb
    rw [hb]
    rfl
  · simp [rstopH]
def rresH (s : Site) : List Nat × St × Tree (Exit × St) := ([1, 2, 3], sr s 58 3 (0 : Nat), .ite (decide ((rfstH s : Int) < s.nH)) (.leaf (.ret, sr s 58 3 (rfstH s))) (.leaf (.exit 0, sr s 58 3 (rfstH s))))
theorem rlokH (s : Site) (hf : s.nH ≤ 40) {lp : Loops} (hlp : lp 4 = some (rresH s)) : LoopOk Try.prog G0 (fun r => r = none) [] lp rbodyH := by
  intro keep s0 t e st' h hs
  rw [show idOf rbodyH = 4 by kernel_rfl, hlp] at h
  cases h
  have hl := rloopH s hf (R := fun r => r = none)
  unfold routH at hl
  simp only [Tree.sel] at hs
  cases hd : decide ((rfstH s : Int) < s.nH) <;> rw [hd] at hs hl <;> cases hs <;> exact ⟨hl, rfl⟩
def Site.ranyH (s : Site) : Bool := decide ((rfstH s : Int) < s.nH)


/-! ### power, rooms, Valid -/
def lpP (s : Site) : Loops := fun id => match id with
  | 4 => some (rresF s)
  | 9 => some (rresB s)
  | _ => none
def lpRo (s : Site) : Loops := fun id => match id with
  | 4 => some (rresL s)
  | 9 => some (rresR s)
  | 15 => some (rresK s)
  | _ => none
theorem lpokP (s : Site) (hf : s.Few) : LoopsOk Try.prog G0 (fun r => r = none) [] (lpP s) (bodyOf Try.prog 36) := by
  refine .of_list _ fun x hx => ?_
  rw [show loopsOf (bodyOf Try.prog 36) = [rbodyF, rbodyB] by kernel_rfl] at hx
  simp only [List.mem_cons, List.not_mem_nil, or_false] at hx
  rcases hx with rfl | rfl
  · exact rlokF s hf.F rfl
  · exact rlokB s hf.B rfl
theorem lpokRo (s : Site) (hf : s.Few) : LoopsOk Try.prog G0 (fun r => r = none) [] (lpRo s) (bodyOf Try.prog 37) := by
  refine .of_list _ fun x hx => ?_
  rw [show loopsOf (bodyOf Try.prog 37) = [rbodyL, rbodyR, rbodyK] by kernel_rfl] at hx
  simp only [List.mem_cons, List.not_mem_nil, or_false] at hx
  rcases hx with rfl | rfl | rfl
  · exact rlokL s hf.L rfl
  · exact rlokR s hf.R rfl
  · exact rlokK s hf.K rfl
end Go.Proofs.Ytbhbfndenpidoaa.Am
