/-
  This file proves nothing of a law. It says that the reference's Ints says yes to a list and itself. Condition: the list has at most 40 elements.
-/
import Derived.Test.YtbhbfndenpidoaaSite11
namespace Go.Proofs.Ytbhbfndenpidoaa.Am
open Go
set_option maxRecDepth 100000

/-- A list of integers, as data. -/
def flL (L : List Int) : AV := .fl 1 L.length fun i => [I (L.getD i 0)]
theorem flL_rows (L : List Int) : (List.range L.length).map (fun i => ([I (L.getD i 0)] : List AV)) = L.map fun y => [I y] := by
  apply List.ext_getElem?
  intro i
  simp only [List.getElem?_map]
  by_cases h : i < L.length
  · simp [h, List.getD_eq_getElem?_getD]
  · simp [h]
theorem RV.fL_fl {w : World} {M : Map} {u : Value} {L : List Int} (h : RV w M u (fL L)) : RV w M u (flL L) := by
  refine .fl _ _ _ _ ?_
  rw [flL_rows]
  cases L with
  | nil => cases h; exact .sl0 _ _ _
  | cons x r => exact h
theorem ACall.conv {P : Program} {G : Nat → Option (List AV)} {f : FuncId} {xs : List AV} {σ σ' : Heap} {v v' : AV} (h : ACall P G f xs σ v σ') (hv : ∀ w M u, RV w M u v → RV w M u v') : ACall P G f xs σ v' σ' :=
  ⟨h.1, fun w M vs hi hvs => (h.2 w M vs hi hvs).mono fun _ _ ⟨u, M', he, hu, hx, hi'⟩ => ⟨u, M', he, hv _ _ _ hu, hx, hi'⟩⟩
theorem flL_below (L : List Int) {n : Nat} : Below n (flL L) := below_fl fun i x hx => by rw [List.mem_singleton.1 hx]; exact .int _ _
theorem c17' (s : Site) (hf : s.Few) (d n : Int) (σ : Heap) : ACall Try.prog G0 17 [s.av, .int .u8 d, I n] σ (flL (s.members d n)) σ := (c17 s hf d n σ).conv fun _ _ _ h => h.fL_fl
theorem c18' (s : Site) (hf : s.Few) (d n : Int) (σ : Heap) : ACall Try.prog G0 18 [s.av, .int .u8 d, I n] σ (flL (s.members d n)) σ := by
  rw [members_eq]; exact (c18 s hf d n σ).conv fun _ _ _ h => h.fL_fl

/-! ### Ints -/
def stI (L : List Int) (k : Int) : St := .of 26 [] [(0, flL L, true), (1, flL L, true), (4, .bool false, false), (5, I k, true)]
noncomputable def bodyI : Code := (loopsOf (bodyOf Try.prog 16)).headD .skip
theorem runI (L : List Int) (k : Nat) : xBody Try.prog G0 E0 100 noLoops [0, 1, 4, 5] bodyI (stI L k) =
    .ite (decide ((k : Int) < L.length)) (.need (0 ≤ (k : Int) ∧ (k : Int) < L.length) (.need (0 ≤ (k : Int) ∧ (k : Int) < L.length) (.ite (L.getD k 0 != L.getD k 0) (.leaf (.ret, stI L k)) (.leaf (.normal, stI L (IntKind.i64.wrap (k + 1))))))) (.leaf (.exit 0, stI L k)) := by kernel_rfl
theorem loopI (L : List Int) (hl : L.length ≤ 40) {R : Option Nat → Prop} : AExec Try.prog G0 R (.loop bodyI) { tmps := (stI L (0 : Nat)).a } [] (.exit 0) { tmps := (stI L L.length).a } [] := by
  have key := xloopN (E := E0) (R := R) (S := fun k => stI L k) (X := fun k => (.exit 0, stI L k)) (stop := fun k => !decide ((k : Int) < L.length)) (N := L.length) (n := 100) (keep := [0, 1, 4, 5]) (m := []) names mixed (clok0 (E := E0) rfl) (LoopsOk.none bodyI) (fun k hk hst => ?_) (fun k hk hst => ?_) (by simp)
  · have hstop : fstStop (fun k => !decide ((k : Int) < L.length)) L.length 0 = L.length := by
      have h1 := fstStop_le (stop := fun k => !decide ((k : Int) < L.length)) L.length 0
      have h2 := fstStop_at (stop := fun k => !decide ((k : Int) < L.length)) L.length 0 (by simp)
      simp only [Bool.not_eq_true', decide_eq_false_iff_not] at h2
      omega
    rw [hstop] at key
    exact key
  · refine ⟨?_, nofun⟩
    show (xBody Try.prog G0 E0 100 noLoops [0, 1, 4, 5] bodyI (stI L k)).sel = _
    rw [runI]
    have h : decide ((k : Int) < L.length) = false := by simpa using hst
    rw [selI, h]
    rfl
  · show (xBody Try.prog G0 E0 100 noLoops [0, 1, 4, 5] bodyI (stI L k)).sel = _
    rw [runI]
    have h : (k : Int) < L.length := by omega
    rw [selI, decide_eq_true h, cond_true, Tree.sel_need ⟨by omega, h⟩, Tree.sel_need ⟨by omega, h⟩, selI, bne_self_eq_false, wrap_next h hl]
    rfl
def lpI (L : List Int) : Loops := fun id => match id with
  | 4 => some ([0, 1, 4, 5], stI L (0 : Nat), .leaf (.exit 0, stI L L.length))
  | _ => none
theorem c16 (L : List Int) (hl : L.length ≤ 40) (σ : Heap) : ACall Try.prog G0 16 [flL L, flL L] σ (.bool true) σ := by
  have run : xPure Try.prog G0 E0 200 (lpI L) 16 [flL L, flL L] [true, true] = .ite ((L.length : Int) != L.length) (.leaf (.bool false)) (.need ((stI L (0 : Nat)).vals = (stI L (0 : Nat)).vals) (.leaf (.bool true))) := by kernel_rfl
  refine xPure_ok (E := E0) (lp := lpI L) (n := 200) (tags := [true, true]) names mixed (clok0 (E := E0) rfl) gbelow0 ?_ ?_ ?_ σ
  · refine .of_list _ fun x hx => ?_
    rw [show loopsOf (bodyOf Try.prog 16) = [bodyI] by kernel_rfl] at hx
    obtain rfl := List.mem_singleton.1 hx
    intro keep s0 t e st' h hs
    rw [show idOf bodyI = 4 by kernel_rfl] at h
    cases h
    cases hs
    exact ⟨loopI L hl, rfl⟩
  · rw [run, selI, bne_self_eq_false]
    exact selR
  · intro x hx
    simp only [List.mem_cons, List.not_mem_nil, or_false, or_self] at hx
    rw [hx]; exact flL_below L
theorem members_len (s : Site) (hf : s.Few) (d n : Int) : (s.members d n).length ≤ 40 := by
  unfold Site.members
  have := mem_length (inM s d n) s.nH
  have := hf.H
  cases idx n (s.count d)
  · simp
  · simp only [cond_true]; omega
end Go.Proofs.Ytbhbfndenpidoaa.Am
