/-
  This file proves nothing of a law. It says what both Members return. Condition: the lists have at most 40 elements.
-/
import Derived.Test.YtbhbfndenpidoaaSite9
namespace Go.Proofs.Ytbhbfndenpidoaa.Am
open Go
set_option maxRecDepth 100000

def cl9 (s : Site) : FuncId → List AV → Option (Tree AV) := fun f xs => match f, xs with
  | 39, [x, .int .u8 d, .int .i64 h] => some (.need (x = s.av ∧ s.ok = true ∧ (0 ≤ h ∧ h < s.nH)) (.leaf (I (s.dom d h))))
  | 15, [x, .int .u8 d, .int .i64 h] => some (.need (x = s.av ∧ s.Few) (.leaf (I (s.domOf d h))))
  | 12, [x, .int .u8 d] => some (.need (x = s.av ∧ s.Few) (.leaf (I (s.count d))))
  | 24, [.int .i64 n, .int .i64 l] => some (.leaf (.bool (idx n l)))
  | _, _ => none
def E9 (s : Site) : Env := { cl := cl9 s }
theorem clok9 (s : Site) : ClOk Try.prog G0 (E9 s) := by
  refine .of rfl rfl ?_
  intro f xs t v h hs σ
  have h : cl9 s f xs = some t := h
  unfold cl9 at h
  split at h <;> first | (cases h; done) | skip
  · cases h
    obtain ⟨⟨e1, hok, hh⟩, hs2⟩ := Tree.of_need hs
    subst e1
    cases hs2
    exact c39 s hok _ _ hh σ
  · cases h
    obtain ⟨⟨e1, hf⟩, hs2⟩ := Tree.of_need hs
    subst e1
    cases hs2
    exact c15 s hf _ _ σ
  · cases h
    obtain ⟨⟨e1, hf⟩, hs2⟩ := Tree.of_need hs
    subst e1
    cases hs2
    exact c12 s hf _ σ
  · cases h
    cases hs
    exact c24 _ _ σ

/-! ### site.Members -/
def stM (s : Site) (d n : Int) (v : AV) (h : Heap) (k : Int) : St := .of 33 h [(1, .int .u8 d, true), (2, I n, true), (3, .row s.cells 0, true), (7, v, true), (17, I s.nH, true), (18, I k, true)]
noncomputable def bodyM : Code := (loopsOf (bodyOf Try.prog 17)).headD .skip
noncomputable def appA (L : List Int) (k : Int) : Option (AV × Heap) := aAppend Try.prog (hL L) 37 37 (vL L) (.sl 1 [[I k]])
theorem runM (s : Site) (d n : Int) (L : List Int) (k : Nat) : xBody Try.prog G0 (E9 s) 100 noLoops [1, 2, 3, 7, 17, 18] bodyM (stM s d n (vL L) (hL L) k) =
    .ite (decide ((k : Int) < s.nH)) (.need (s.av = s.av ∧ s.ok = true ∧ (0 ≤ (k : Int) ∧ (k : Int) < s.nH)) (.ite (s.dom d k == n)
      (.need ((appA L k).isSome = true) (.leaf (.normal, stM s d n ((appA L k).getD (.junk, [])).1 ((appA L k).getD (.junk, [])).2 (IntKind.i64.wrap (k + 1)))))
      (.leaf (.normal, stM s d n (vL L) (hL L) (IntKind.i64.wrap (k + 1)))))) (.leaf (.exit 0, stM s d n (vL L) (hL L) k)) := by kernel_rfl

theorem appA_eq {L : List Int} {k : Int} (hl : L.length < 16777216) : appA L k = some (vL (L ++ [k]), hL (L ++ [k])) := append_vL L k hl

/-- Which hosts are members. -/
def inM (s : Site) (d n : Int) (k : Nat) : Bool := s.dom d k == n
def SM (s : Site) (d n : Int) (k : Nat) : St := stM s d n (vL (mem (inM s d n) k)) (hL (mem (inM s d n) k)) k
theorem loopM (s : Site) (hf : s.Few) (hok : s.ok = true) (d n : Int) {R : Option Nat → Prop} : AExec Try.prog G0 R (.loop bodyM) { tmps := (SM s d n 0).a } [] (.exit 0) { tmps := (SM s d n s.nH).a } (hL (mem (inM s d n) s.nH)) := by
  have key := xloopN (R := R) (S := SM s d n) (X := fun k => (.exit 0, SM s d n k)) (stop := fun k => !decide ((k : Int) < s.nH)) (N := s.nH) (n := 100) (keep := [1, 2, 3, 7, 17, 18]) (m := []) names mixed (clok9 s) (LoopsOk.none bodyM) (fun k hk hst => ?_) (fun k hk hst => ?_) (by simp)
  · have hstop : fstStop (fun k => !decide ((k : Int) < s.nH)) s.nH 0 = s.nH := by
      have h1 := fstStop_le (stop := fun k => !decide ((k : Int) < s.nH)) s.nH 0
      have h2 := fstStop_at (stop := fun k => !decide ((k : Int) < s.nH)) s.nH 0 (by simp)
      simp only [Bool.not_eq_true', decide_eq_false_iff_not] at h2
      omega
    rw [hstop] at key
    exact key
  · refine ⟨?_, nofun⟩
    show (xBody Try.prog G0 (E9 s) 100 noLoops [1, 2, 3, 7, 17, 18] bodyM (stM s d n (vL (mem (inM s d n) k)) (hL (mem (inM s d n) k)) k)).sel = _
    rw [runM]
    have h : decide ((k : Int) < s.nH) = false := by simpa using hst
    rw [selI, h]
    rfl
  · show (xBody Try.prog G0 (E9 s) 100 noLoops [1, 2, 3, 7, 17, 18] bodyM (stM s d n (vL (mem (inM s d n) k)) (hL (mem (inM s d n) k)) k)).sel = _
    rw [runM]
    have h : (k : Int) < s.nH := by omega
    have hl := mem_length (inM s d n) k
    have hH := hf.H
    rw [selI, decide_eq_true h, cond_true, Tree.sel_need ⟨rfl, hok, by omega, h⟩, selI, appA_eq (by omega), wrap_next h hf.H]
    unfold SM
    rw [mem_succ]
    show (bif inM s d n k then _ else _) = _
    cases inM s d n k
    · rfl
    · exact (Tree.sel_need (rfl : (some (vL (mem (inM s d n) k ++ [(k : Int)]), hL (mem (inM s d n) k ++ [(k : Int)]))).isSome = true)).trans rfl

def lpM (s : Site) (d n : Int) : Loops := fun id => match id with
  | 5 => some ([1, 2, 3, 7, 17, 18], SM s d n 0, .leaf (.exit 0, SM s d n s.nH))
  | _ => none
theorem lpokM (s : Site) (hf : s.Few) (hok : s.ok = true) (d n : Int) : LoopsOk Try.prog G0 (fun r => r = none) [] (lpM s d n) (bodyOf Try.prog 17) := by
  refine .of_list _ fun x hx => ?_
  rw [show loopsOf (bodyOf Try.prog 17) = [bodyM] by kernel_rfl] at hx
  obtain rfl := List.mem_singleton.1 hx
  intro keep s0 t e st' h hs
  rw [show idOf bodyM = 5 by kernel_rfl] at h
  cases h
  cases hs
  exact ⟨loopM s hf hok d n, rfl⟩
def lpM0 (s : Site) (d n : Int) : Loops := fun id => match id with
  | 5 => some ([1, 2, 3, 7, 17, 18], SM s d n 0, .fail)
  | _ => none
theorem lpokM0 (s : Site) (d n : Int) : LoopsOk Try.prog G0 (fun r => r = none) [] (lpM0 s d n) (bodyOf Try.prog 17) := by
  refine .of_list _ fun x hx => ?_
  rw [show loopsOf (bodyOf Try.prog 17) = [bodyM] by kernel_rfl] at hx
  obtain rfl := List.mem_singleton.1 hx
  intro keep s0 t e st' h hs
  rw [show idOf bodyM = 5 by kernel_rfl] at h
  cases h
  cases hs
/-- What Members returns. -/
def Site.members (s : Site) (d n : Int) : List Int := bif idx n (s.count d) then mem (inM s d n) s.nH else []
theorem below_sdn (s : Site) {k : IntKind} {d h : Int} : ∀ x ∈ ([s.av, .int k d, I h] : List AV), Below 0 x := fun _ hx => below_sdh s hx
theorem c17 (s : Site) (hf : s.Few) (d n : Int) (σ : Heap) : ACall Try.prog G0 17 [s.av, .int .u8 d, I n] σ (fL (s.members d n)) σ := by
  have body17 : ∃ fn c, Try.prog.funcs[17]? = some fn ∧ fn.body = some c ∧ bodyOf Try.prog 17 = c := by
    have h1 : (Try.prog.funcs[17]?).isSome = true := by kernel_rfl
    obtain ⟨fn, h2⟩ := Option.isSome_iff_exists.1 h1
    have h3 : ((Try.prog.funcs[17]?).bind (·.body)).isSome = true := by kernel_rfl
    rw [h2] at h3
    obtain ⟨c, h4⟩ := Option.isSome_iff_exists.1 h3
    have h4 : fn.body = some c := h4
    exact ⟨fn, c, h2, h4, by unfold bodyOf; rw [h2]; simp [h4]⟩
  obtain ⟨fn, c, h1, h2, h3⟩ := body17
  unfold Site.members
  cases hi : idx n (s.count d) with
  | false =>
    have run2 : (xenter Try.prog (E9 s) (xCode Try.prog G0 (E9 s) 200 (lpM0 s d n)) 17 [s.av, .int .u8 d, I n] [true, true, true] []) =
        .need (s.av = s.av ∧ s.Few) (.ite (!idx n (s.count d)) (.leaf (.zs, false, [])) (.need ((SM s d n 0).vals = (SM s d n 0).vals) .fail)) := by kernel_rfl
    refine (xFn_ok (lp := lpM0 s d n) (n := 200) (tags := [true, true, true]) (s := false) (h := []) names mixed (clok9 s) h1 h2 (by rw [← h3]; exact lpokM0 s d n) ?_).lift (k := 4) (freeze_vL [] 2) gbelow0 (below_sdn s) σ
    rw [run2, Tree.sel_need ⟨rfl, hf⟩, selI, hi]
    rfl
  | true =>
    have hok : s.ok = true := by
      cases hk : s.ok with
      | true => rfl
      | false =>
        have : s.count d = 0 := by unfold Site.count; rw [hk]; rfl
        rw [this] at hi
        have := idx_iff.1 hi
        omega
    have run : (xenter Try.prog (E9 s) (xCode Try.prog G0 (E9 s) 200 (lpM s d n)) 17 [s.av, .int .u8 d, I n] [true, true, true] []) =
        .need (s.av = s.av ∧ s.Few) (.ite (!idx n (s.count d)) (.leaf (.zs, false, [])) (.need ((SM s d n 0).vals = (SM s d n 0).vals) (.leaf (vL (mem (inM s d n) s.nH), true, hL (mem (inM s d n) s.nH))))) := by kernel_rfl
    refine (xFn_ok (lp := lpM s d n) (n := 200) (tags := [true, true, true]) (s := true) (h := []) names mixed (clok9 s) h1 h2 (by rw [← h3]; exact lpokM s hf hok d n) ?_).lift (k := 4) (freeze_vL _ 2) gbelow0 (below_sdn s) σ
    rw [run, Tree.sel_need ⟨rfl, hf⟩, selI, hi]
    exact (selR).trans rfl
end Go.Proofs.Ytbhbfndenpidoaa.Am
