/-
  This file proves nothing of a law. It says what asking a function for a set gives, and when a set is irreducible, whatever function is asked. Condition: sets of numbers below 64.
-/
import Derived.Test.YtjljigccgaadaaaDoorCore4
namespace Go.Proofs.YtjljigccgaadaaaDoor.Am
open Go
set_option maxRecDepth 100000

/-- A function on sets: asked in the state st (whose heap is hp st) for a set it answers, and is in another state then. D: the sets for which it may be asked. -/
def HasOk {S : Type} (g : FuncId) (caps : List AV) (hp : S → Heap) (stp : S → Nat → Bool × S) (D : Nat → Prop) : Prop :=
  ∀ st s, D s → s < 2 ^ 64 → ACall Tryd.prog G0 g (U s :: caps) (hp st) (.bool (stp st s).1) (hp (stp st s).2)
/-- A function on lists. -/
def FulOk {S : Type} (g : FuncId) (caps : List AV) (hp : S → Heap) (stp : S → Nat → Bool × S) : Prop :=
  ∀ st s, s < 2 ^ 64 → ACall Tryd.prog G0 g (flN (bitsL s) :: caps) (hp st) (.bool (stp st s).1) (hp (stp st s).2)

/-! ### fails' function -/
def cl65 (s : Nat) : FuncId → List AV → Option (Tree AV) := fun f xs => match xs with
  | [.int .u64 x] => some (.need (f = 44 ∧ x = s ∧ s < 2 ^ 64) (.leaf (flN (bitsL s))))
  | _ => none
def clF (g : FuncId) (caps : List AV) (s : Nat) (b : Bool) (h h' : Heap) : FuncId → List AV → Heap → Option (Tree (AV × Heap)) := fun f xs h0 => match xs with
  | .fl _ _ _ :: _ => some (.need (f = g ∧ xs = flN (bitsL s) :: caps ∧ h0 = h) (.leaf (.bool b, h')))
  | _ => none
def E65 (g : FuncId) (caps : List AV) (s : Nat) (b : Bool) (h h' : Heap) : Env := { cl := cl65 s, clh := clF g caps s b h h' }
theorem clok65 {g : FuncId} {caps : List AV} {s : Nat} {b : Bool} {h h' : Heap} (hc : ACall Tryd.prog G0 g (flN (bitsL s) :: caps) h (.bool b) h') : ClOk Tryd.prog G0 (E65 g caps s b h h') := by
  refine .all .none ?_ (fun l xs σ t v σ' h => (by cases h)) ?_
  · intro f xs σ t v σ' hq hs
    replace hq : clF g caps s b h h' f xs σ = some t := hq
    unfold clF at hq
    split at hq <;> first | (cases hq; done) | skip
    cases hq
    obtain ⟨⟨rfl, h2, rfl⟩, hs2⟩ := Tree.of_need hs
    cases hs2
    rw [h2]
    exact hc
  · intro f xs t v hq hs σ
    replace hq : cl65 s f xs = some t := hq
    unfold cl65 at hq
    split at hq <;> first | (cases hq; done) | skip
    cases hq
    obtain ⟨⟨rfl, rfl, h3⟩, hs2⟩ := Tree.of_need hs
    cases hs2
    exact c44 h3 σ
theorem run65 (g : FuncId) (caps : List AV) (s : Nat) (b : Bool) (h h' : Heap) : xCall Tryd.prog G0 (E65 g caps s b h h') 200 65 [U s, .row [.fn g [] caps] 0] [true, true] h =
    .need (44 = 44 ∧ (s : Int) = s ∧ s < 2 ^ 64) (.need (g = g ∧ flN (bitsL s) :: caps = flN (bitsL s) :: caps ∧ h = h) (.leaf (.bool (!b), true, h'))) := by kernel_rfl
theorem c65 {S : Type} {g : FuncId} {caps : List AV} {hp : S → Heap} {stp : S → Nat → Bool × S} (hf : FulOk g caps hp stp) : HasOk 65 [.row [.fn g [] caps] 0] hp (fun st s => (!(stp st s).1, (stp st s).2)) fun _ => True := by
  intro st s _ hs
  refine xCall_ok (n := 200) (tags := [true, true]) (s := true) names mixed (clok65 (hf st s hs)) ?_
  rw [run65, Tree.sel_need ⟨rfl, rfl, hs⟩, Tree.sel_need ⟨rfl, rfl, rfl⟩]
  rfl

/-! ### irreducible -/
/-- A set without a number. -/
def del (s k : Nat) : Nat := s &&& (2 ^ 64 - 1 - 2 ^ k)
theorem del_lt {s k : Nat} (h : s < 2 ^ 64) : del s k < 2 ^ 64 := Nat.lt_of_le_of_lt Nat.and_le_left h
theorem del_bit {s k : Nat} (h : s < 2 ^ 64) (hk : k < 64) (j : Nat) : (del s k).testBit j = (s.testBit j && decide (j ≠ k)) := by
  unfold del
  have h1 : 2 ^ k < 2 ^ 64 := Nat.pow_lt_pow_right (by omega) hk
  have e : 2 ^ 64 - 1 - 2 ^ k = 2 ^ 64 - (2 ^ k + 1) := by omega
  rw [Nat.testBit_and, e, Nat.testBit_two_pow_sub_succ h1, Nat.testBit_two_pow]
  by_cases hj : j < 64
  · simp only [hj, decide_true, Bool.true_and]
    by_cases hk2 : j = k
    · simp [hk2]
    · have : ¬ k = j := fun e => hk2 e.symm
      simp [hk2, this]
  · have : s.testBit j = false := Nat.testBit_lt_two_pow (Nat.lt_of_lt_of_le h (Nat.pow_le_pow_right (by omega) (by omega)))
    simp [this]
/-- The loop of irreducible, with the state of the function that is asked. -/
def irrLoop {S : Type} (stp : S → Nat → Bool × S) (s : Nat) : Nat → Nat → S → Bool × S
  | 0, _, st => (true, st)
  | f + 1, r, st => if r = 0 then (true, st) else if (stp st (del s (tz r))).1 then (false, (stp st (del s (tz r))).2) else irrLoop stp s f (dropLow r) (stp st (del s (tz r))).2
def irrS {S : Type} (stp : S → Nat → Bool × S) (st : S) (s : Nat) : Bool × S :=
  if (stp st s).1 then irrLoop stp s (s + 1) s (stp st s).2 else (false, (stp st s).2)

def clB (g : FuncId) (caps : List AV) (s : Int) (b : Bool) (h h' : Heap) : FuncId → List AV → Heap → Option (Tree (AV × Heap)) := fun f xs h0 => match xs with
  | .int .u64 _ :: _ => some (.need (f = g ∧ xs = U s :: caps ∧ h0 = h) (.leaf (.bool b, h')))
  | _ => none
def EB (g : FuncId) (caps : List AV) (s : Int) (b : Bool) (h h' : Heap) : Env := { clh := clB g caps s b h h' }
theorem clokB {g : FuncId} {caps : List AV} {s : Int} {b : Bool} {h h' : Heap} (hc : ACall Tryd.prog G0 g (U s :: caps) h (.bool b) h') : ClOk Tryd.prog G0 (EB g caps s b h h') := by
  refine .all .none ?_ (fun l xs σ t v σ' h => (by cases h)) (fun f xs t v h => (by cases h))
  intro f xs σ t v σ' hq hs
  replace hq : clB g caps s b h h' f xs σ = some t := hq
  unfold clB at hq
  split at hq <;> first | (cases hq; done) | skip
  cases hq
  obtain ⟨⟨rfl, h2, rfl⟩, hs2⟩ := Tree.of_need hs
  cases hs2
  rw [h2]
  exact hc
def st46 (s r : Int) (g : FuncId) (caps : List AV) (h : Heap) : St := .of 25 h [(0, U s, true), (1, .fn g [] caps, true), (5, U r, true)]
def stE46 (h : Heap) : St := .of 25 h []
def stR46 (h : Heap) : St := .of 25 h [(4, .bool false, false)]
def stJ46 (h : Heap) : St := .of 25 h [(4, .junk, false)]
noncomputable def body46 : Code := (loopsOf (bodyOf Tryd.prog 46)).headD .skip
def arg46 (s r : Int) : Int := uandNot s (uand r (IntKind.u64.wrap (0 - r)))
theorem run46n (s r : Int) (g : FuncId) (caps : List AV) (s1 : Int) (b : Bool) (h h' : Heap) : xBody Tryd.prog G0 (EB g caps s1 b h h') 100 noLoops [0, 1, 5] body46 (st46 s r g caps h) =
    .ite (r != 0) (.need (g = g ∧ U (arg46 s r) :: caps = U s1 :: caps ∧ h = h) (.ite b (.leaf (.ret, st46 s r g caps h')) (.leaf (.normal, st46 s (uand r (IntKind.u64.wrap (r - 1))) g caps h')))) (.leaf (.exit 0, st46 s r g caps h)) := by kernel_rfl
theorem run46r (s r : Int) (g : FuncId) (caps : List AV) (s1 : Int) (b : Bool) (h h' : Heap) : xBody Tryd.prog G0 (EB g caps s1 b h h') 100 noLoops [4] body46 (st46 s r g caps h) =
    .ite (r != 0) (.need (g = g ∧ U (arg46 s r) :: caps = U s1 :: caps ∧ h = h) (.ite b (.leaf (.ret, stR46 h')) (.leaf (.normal, stJ46 h')))) (.leaf (.exit 0, stJ46 h)) := by kernel_rfl
theorem run46x (s r : Int) (g : FuncId) (caps : List AV) (s1 : Int) (b : Bool) (h h' : Heap) : xBody Tryd.prog G0 (EB g caps s1 b h h') 100 noLoops [] body46 (st46 s r g caps h) =
    .ite (r != 0) (.need (g = g ∧ U (arg46 s r) :: caps = U s1 :: caps ∧ h = h) (.ite b (.leaf (.ret, stE46 h')) (.leaf (.normal, stE46 h')))) (.leaf (.exit 0, stE46 h)) := by kernel_rfl
def end46 (b : Bool) (h : Heap) : Exit × St := bif b then (.exit 0, stE46 h) else (.ret, stR46 h)
theorem arg46_nat {s r : Nat} (h0 : r ≠ 0) (hs : s < 2 ^ 64) (hr : r < 2 ^ 64) : arg46 s r = (del s (tz r) : Nat) := by
  have e1 : IntKind.u64.wrap (0 - (r : Int)) = ((2 ^ 64 - r : Nat) : Int) := by
    simp [IntKind.wrap, IntKind.signed, IntKind.bits]
    omega
  obtain ⟨q, hq, hk⟩ := tz_spec h0 hr
  unfold arg46
  rw [e1, uand_nat hr (by omega), lowBit h0 hr, uandNot_nat hs (Nat.pow_lt_pow_right (by omega) hk)]
  rfl
section
variable {S : Type} {g : FuncId} {caps : List AV} {hp : S → Heap} {stp : S → Nat → Bool × S} {D : Nat → Prop}
theorem loop46 (hg : HasOk g caps hp stp D) {R : Option Nat → Prop} {s : Nat} (hs : s < 2 ^ 64) (hD : ∀ k, k < 64 → D (del s k)) : ∀ (f r : Nat) (st : S), r < f → r < 2 ^ 64 →
    ALoopRun Tryd.prog G0 R body46 { tmps := (st46 s r g caps (hp st)).a } (hp st) (end46 (irrLoop stp s f r st).1 (hp (irrLoop stp s f r st).2)).1 { tmps := (end46 (irrLoop stp s f r st).1 (hp (irrLoop stp s f r st).2)).2.a } (hp (irrLoop stp s f r st).2)
  | 0, r, st, h, _ => by omega
  | f + 1, r, st, h, hr => by
    unfold irrLoop
    by_cases h0 : r = 0
    · subst h0
      rw [if_pos rfl]
      refine .stop (xBody_ok (m := []) names mixed (clokB (hg st (del s 0) (hD 0 (by omega)) (del_lt hs))) (lpNo body46) (n := 100) (keep := []) (st := st46 s (0 : Nat) g caps (hp st)) (st' := stE46 (hp st)) ?_).1 nofun
      rw [run46x]; rfl
    · rw [if_neg h0]
      obtain ⟨q, hq, hk⟩ := tz_spec h0 hr
      have hc := hg st (del s (tz r)) (hD _ hk) (del_lt hs)
      generalize stp st (del s (tz r)) = b at hc
      obtain ⟨b, st'⟩ := b
      simp only at hc ⊢
      cases b with
      | true =>
        rw [if_pos rfl]
        refine .stop (xBody_ok (m := []) names mixed (clokB hc) (lpNo body46) (n := 100) (keep := [4]) (st := st46 s r g caps (hp st)) (st' := stR46 (hp st')) ?_).1 nofun
        rw [run46r, selI, bne_iff_ne.2 (by omega : (r : Int) ≠ 0), cond_true, Tree.sel_need ⟨rfl, by rw [arg46_nat h0 hs hr], rfl⟩]
        rfl
      | false =>
        rw [if_neg (by simp)]
        refine .next (xBody_ok (m := []) names mixed (clokB hc) (lpNo body46) (n := 100) (keep := [0, 1, 5]) (st := st46 s r g caps (hp st)) (st' := st46 s (dropLow r) g caps (hp st')) ?_).1 (loop46 hg hs hD f (dropLow r) st' (by have := dropLow_less h0; omega) (dropLow_lt hr))
        have hw : IntKind.u64.wrap ((r : Int) - 1) = ((r - 1 : Nat) : Int) := by rw [wrap_u64 (by omega) (by omega)]; omega
        rw [run46n, selI, bne_iff_ne.2 (by omega : (r : Int) ≠ 0), cond_true, Tree.sel_need ⟨rfl, by rw [arg46_nat h0 hs hr], rfl⟩, hw, uand_nat hr (by omega)]
        rfl
def lp46 (s : Int) (g : FuncId) (caps : List AV) (h : Heap) (b : Bool) (h' : Heap) : Loops := fun id => match id with
  | 4 => some ([0, 1, 5], st46 s s g caps h, .ite b (.leaf (.exit 0, stE46 h')) (.leaf (.ret, stR46 h')))
  | _ => none
theorem loops46 : loopsOf (bodyOf Tryd.prog 46) = [body46] := by kernel_rfl
theorem id46 : idOf body46 = 4 := by kernel_rfl
theorem runF46 (s : Int) (g : FuncId) (caps : List AV) (b b' : Bool) (h h' h'' : Heap) : xenter Tryd.prog (EB g caps s b h h') (xCode Tryd.prog G0 (EB g caps s b h h') 200 (lp46 s g caps h' b' h'')) 46 [U s, .fn g [] caps] [true, true] h =
    .need (g = g ∧ U s :: caps = U s :: caps ∧ h = h) (.ite (!b) (.leaf (.bool false, false, h')) (.need ((st46 s s g caps h').vals = (st46 s s g caps h').vals) (.ite b' (.leaf (.bool true, false, h'')) (.leaf (.bool false, false, h''))))) := by kernel_rfl
/-- WHETHER A SET IS IRREDUCIBLE. -/
theorem c46 (hg : HasOk g caps hp stp D) {s : Nat} (hs : s < 2 ^ 64) (hD0 : D s) (hD : ∀ k, k < 64 → D (del s k)) (st : S) : ACall Tryd.prog G0 46 [U s, .fn g [] caps] (hp st) (.bool (irrS stp st s).1) (hp (irrS stp st s).2) := by
  have hc := hg st s hD0 hs
  have hl := loop46 hg (R := fun r => r = none) hs hD (s + 1) s (stp st s).2 (by omega) hs
  unfold irrS
  generalize stp st s = q at hc hl
  obtain ⟨b, st1⟩ := q
  simp only at hc hl ⊢
  generalize irrLoop stp s (s + 1) s st1 = q2 at hl
  obtain ⟨b2, st2⟩ := q2
  simp only at hl ⊢
  have hlp : LoopsOk Tryd.prog G0 (fun r => r = none) [] (lp46 s g caps (hp st1) b2 (hp st2)) (bodyOf Tryd.prog 46) := by
    refine .of_list _ fun x hm => ?_
    rw [loops46] at hm
    obtain rfl := List.mem_singleton.1 hm
    intro keep s0 t e st' h' hsel
    rw [id46] at h'
    cases h'
    cases b2 with
    | true => cases hsel; exact ⟨.loop hl, rfl⟩
    | false => cases hsel; exact ⟨.loop hl, rfl⟩
  have sel : (xenter Tryd.prog (EB g caps s b (hp st) (hp st1)) (xCode Tryd.prog G0 (EB g caps s b (hp st) (hp st1)) 200 (lp46 s g caps (hp st1) b2 (hp st2))) 46 [U s, .fn g [] caps] [true, true] (hp st)).sel = some (.bool (if b = true then (b2, st2) else (false, st1)).1, false, hp (if b = true then (b2, st2) else (false, st1)).2) := by
    rw [runF46, Tree.sel_need ⟨rfl, rfl, rfl⟩, selI]
    cases b with
    | false => rfl
    | true =>
      rw [Bool.not_true, cond_false, selR, selI]
      cases b2 <;> rfl
  exact .find (clokB hc) hlp sel
end
end Go.Proofs.YtjljigccgaadaaaDoor.Am
