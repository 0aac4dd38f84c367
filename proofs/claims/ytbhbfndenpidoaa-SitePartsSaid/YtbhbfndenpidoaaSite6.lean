/-
  This file proves nothing of a law. It says what the reference's power, rooms, Valid and Count, and site.Count and site.DomainOf return. No condition.
-/
import Derived.Test.YtbhbfndenpidoaaSite5
namespace Go.Proofs.Ytbhbfndenpidoaa.Am
open Go
set_option maxRecDepth 100000

theorem selR {α β : Type} {a : β} {x : Tree α} : (Tree.need (a = a) x).sel = x.sel := Tree.sel_need rfl
theorem selT {α : Type} {x : Tree α} : (Tree.need True x).sel = x.sel := Tree.sel_need trivial
theorem selI {α : Type} {b : Bool} {x y : Tree α} : (Tree.ite b x y).sel = bif b then x.sel else y.sel := rfl
theorem selL {α : Type} {a : α} : (Tree.leaf a).sel = some a := rfl
/-- A known loop's head, reached. -/
def atHead (r : List Nat × St × Tree (Exit × St)) : Prop := r.2.1.vals = r.2.1.vals
theorem selH {α : Type} {r : List Nat × St × Tree (Exit × St)} {x : Tree α} : (Tree.need (atHead r) x).sel = x.sel := Tree.sel_need rfl

def Site.power (s : Site) : Bool := btw s.nF 1 4 && (btw s.nB 1 8 && (!s.ranyF && !s.ranyB))
theorem c36 (s : Site) (hf : s.Few) (σ : Heap) : ACall Try.prog G0 36 [s.av] σ (.bool s.power) σ := by
  have run : xPure Try.prog G0 E1 200 (lpP s) 36 [s.av] [true] = .ite (!btw s.nF 1 4) (.leaf (.bool false)) (.ite (!btw s.nB 1 8) (.leaf (.bool false)) (.need (atHead (rresF s)) (.ite s.ranyF (.leaf (.bool false))
      (.need (atHead (rresB s)) (.ite s.ranyB (.leaf (.bool false)) (.leaf (.bool true))))))) := by kernel_rfl
  refine xPure_ok (lp := lpP s) (n := 200) (tags := [true]) names mixed clok1 gbelow0 (lpokP s hf) ?_ (fun x hx => s.below_mem hx) σ
  rw [run]
  simp only [selI, selH, selL, Site.power]
  cases btw s.nF 1 4 <;> cases btw s.nB 1 8 <;> cases s.ranyF <;> cases s.ranyB <;> rfl
def Site.rooms (s : Site) : Bool := btw s.nL 1 4 && (btw s.sw 1 8 && (btw s.nR 1 8 && (!decide ((s.nK : Int) > 16) && (!s.ranyL && (!s.ranyR && !s.ranyK)))))
theorem c37 (s : Site) (hf : s.Few) (σ : Heap) : ACall Try.prog G0 37 [s.av] σ (.bool s.rooms) σ := by
  have run : xPure Try.prog G0 E1 200 (lpRo s) 37 [s.av] [true] = .ite (!btw s.nL 1 4) (.leaf (.bool false)) (.ite (!btw s.sw 1 8) (.leaf (.bool false)) (.ite (!btw s.nR 1 8) (.leaf (.bool false)) (.ite (decide ((s.nK : Int) > 16)) (.leaf (.bool false))
      (.need (atHead (rresL s)) (.ite s.ranyL (.leaf (.bool false)) (.need (atHead (rresR s)) (.ite s.ranyR (.leaf (.bool false)) (.need (atHead (rresK s)) (.ite s.ranyK (.leaf (.bool false)) (.leaf (.bool true))))))))))) := by kernel_rfl
  refine xPure_ok (lp := lpRo s) (n := 200) (tags := [true]) names mixed clok1 gbelow0 (lpokRo s hf) ?_ (fun x hx => s.below_mem hx) σ
  rw [run]
  simp only [selI, selH, selL, Site.rooms]
  cases btw s.nL 1 4 <;> cases btw s.sw 1 8 <;> cases btw s.nR 1 8 <;> cases decide ((s.nK : Int) > 16) <;> cases s.ranyL <;> cases s.ranyR <;> cases s.ranyK <;> rfl

def cl6 (s : Site) : FuncId → List AV → Option (Tree AV) := fun f xs => match f, xs with
  | 36, [x] => some (.need (x = s.av) (.leaf (.bool s.power)))
  | 37, [x] => some (.need (x = s.av) (.leaf (.bool s.rooms)))
  | 38, [.int .i64 n, .int .i64 lo, .int .i64 hi] => some (.leaf (.bool (btw n lo hi)))
  | _, _ => none
def E6 (s : Site) : Env := { cl := cl6 s }
theorem clok6 (s : Site) (hf : s.Few) : ClOk Try.prog G0 (E6 s) := by
  refine .of rfl rfl ?_
  intro f xs t v h hs σ
  have h : cl6 s f xs = some t := h
  unfold cl6 at h
  split at h <;> first | (cases h; done) | skip
  · cases h
    obtain ⟨e1, hs2⟩ := Tree.of_need hs
    subst e1
    cases hs2
    exact c36 s hf σ
  · cases h
    obtain ⟨e1, hs2⟩ := Tree.of_need hs
    subst e1
    cases hs2
    exact c37 s hf σ
  · cases h
    cases hs
    exact c38 _ _ _ σ
def lpV (s : Site) : Loops := fun id => match id with
  | 4 => some (rresH s)
  | _ => none
theorem lpokV (s : Site) (hf : s.Few) : LoopsOk Try.prog G0 (fun r => r = none) [] (lpV s) (bodyOf Try.prog 11) := by
  refine .of_list _ fun x hx => ?_
  rw [show loopsOf (bodyOf Try.prog 11) = [rbodyH] by kernel_rfl] at hx
  obtain rfl := List.mem_singleton.1 hx
  exact rlokH s hf.H rfl
/-- What the reference's Valid says. -/
def Site.rok (s : Site) : Bool := s.power && (s.rooms && (btw s.nH 1 16 && !s.ranyH))
theorem c11 (s : Site) (hf : s.Few) (σ : Heap) : ACall Try.prog G0 11 [s.av] σ (.bool s.rok) σ := by
  have run : xPure Try.prog G0 (E6 s) 200 (lpV s) 11 [s.av] [true] = .need (s.av = s.av) (.ite (!s.power) (.leaf (.bool false)) (.need (s.av = s.av) (.ite (!s.rooms) (.leaf (.bool false)) (.ite (!btw s.nH 1 16) (.leaf (.bool false))
      (.need (atHead (rresH s)) (.ite s.ranyH (.leaf (.bool false)) (.leaf (.bool true)))))))) := by kernel_rfl
  refine xPure_ok (lp := lpV s) (n := 200) (tags := [true]) names mixed (clok6 s hf) gbelow0 (lpokV s hf) ?_ (fun x hx => s.below_mem hx) σ
  rw [run]
  simp only [selI, selH, selL, selT, Site.rok]
  cases s.power <;> cases s.rooms <;> cases btw s.nH 1 16 <;> cases s.ranyH <;> rfl
end Go.Proofs.Ytbhbfndenpidoaa.Am
