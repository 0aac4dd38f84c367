/-
  This file proves nothing of a law. It says what the library's Contains and ContainsFunc return for lists of sets that lie in a variable of the caller's. Condition: lists shorter than 2 to the 62.
-/
import Derived.Test.YtjljigccgaadaaaDoorCore12
namespace Go.Proofs.YtjljigccgaadaaaDoor.Am
open Go
set_option maxRecDepth 100000

/-- A look into a list of integers that lies in an object. -/
def hLst (t : TypeId) (k : IntKind) (r g : Nat) (L : List Int) : Heap → Oper → (Operand → Option AV) → Option (AV × Bool × Heap × Prop) := fun h o ρ => match o.op with
  | .load t' x => if t' = t then (match ρ x with
    | some (.ref r' g' off) => some (.int k (L.getD off 0), true, h, r' = r ∧ g' = g ∧ off < L.length ∧ objAt h r g = some (L.map (AV.int k)))
    | _ => none) else none
  | _ => none
theorem hLst_ok {t : TypeId} {k : IntKind} (hu : Tryd.prog.underlying t = some (.int k)) (r g : Nat) (L : List Int) : HintA Tryd.prog (hLst t k r g L) := by
  intro h o ρ y s h' p hh hp
  unfold hLst at hh
  split at hh
  · rename_i t' x ho
    split at hh
    · rename_i ht
      subst ht
      split at hh
      · rename_i r' g' off hx
        cases hh
        obtain ⟨rfl, rfl, hlt, hc⟩ := hp
        unfold aopR
        simp only [ho, hx, Option.bind_some, aLoad, hc]
        unfold Am.cut
        rw [hu]
        simp [aggD, hlt, List.getD_eq_getElem?_getD]
      · cases hh
    · cases hh
  · cases hh

/-- The place of the first element with a property; none: -1. -/
def idxOf (p : Int → Bool) : List Int → Nat → Int
  | [], _ => -1
  | x :: r, k => bif p x then (k : Int) else idxOf p r (k + 1)
theorem idxOf_nonneg {p : Int → Bool} : ∀ (L : List Int) (k : Nat), decide (idxOf p L k ≥ 0) = L.any p
  | [], k => rfl
  | x :: r, k => by
    unfold idxOf
    cases h : p x with
    | true => simp [h]
    | false => simp [h, idxOf_nonneg r (k + 1)]

/-! ### Index and IndexFunc -/
def msv (r g m : Nat) : AV := .ms 1 r g 0 m m
def E69 (r g : Nat) (L : List Int) : Env := { hint := hLst 63 .u64 r g L }
theorem clok69 (r g : Nat) (L : List Int) : ClOk Tryd.prog G0 (E69 r g L) := .ofH rfl rfl (hLst_ok (by kernel_rfl) r g L).ok fun f xs t v h => by cases h
def st69 (v w : AV) (m k : Int) (h : Heap) : St := .of 19 h [(0, v, true), (1, w, true), (7, I m, true), (8, I k, true)]
def stR69 (k : AV) (h : Heap) : St := .of 19 h [(4, k, true)]
def stE69 (h : Heap) : St := .of 19 h []
noncomputable def body69 : Code := (loopsOf (bodyOf Tryd.prog 69)).headD .skip
noncomputable def body70 : Code := (loopsOf (bodyOf Tryd.prog 70)).headD .skip
def in69 (r g m k : Nat) (L : List Int) (h : Heap) (x : Tree (Exit × St)) : Tree (Exit × St) :=
  .need (0 ≤ (k : Int) ∧ (k : Int) < m ∧ (objAt h r g).isSome = true) (.need (r = r ∧ g = g ∧ 0 + (k : Int).toNat * 1 < L.length ∧ objAt h r g = some (L.map (AV.int .u64))) x)
theorem run69n (r g m : Nat) (L : List Int) (s : Int) (k : Nat) (h : Heap) : xBody Tryd.prog G0 (E69 r g L) 200 noLoops [0, 1, 7, 8] body69 (st69 (msv r g m) (U s) m k h) =
    .ite (decide ((k : Int) < m)) (in69 r g m k L h (.ite (s == L.getD (0 + (k : Int).toNat * 1) 0) (.leaf (.ret, st69 (msv r g m) (U s) m k h)) (.leaf (.normal, st69 (msv r g m) (U s) m (IntKind.i64.wrap (k + 1)) h)))) (.leaf (.exit 0, st69 (msv r g m) (U s) m k h)) := by kernel_rfl
theorem run69r (r g m : Nat) (L : List Int) (s : Int) (k : Nat) (h : Heap) : xBody Tryd.prog G0 (E69 r g L) 200 noLoops [4] body69 (st69 (msv r g m) (U s) m k h) =
    .ite (decide ((k : Int) < m)) (in69 r g m k L h (.ite (s == L.getD (0 + (k : Int).toNat * 1) 0) (.leaf (.ret, stR69 (I k) h)) (.leaf (.normal, .of 19 h [(4, .junk, false)])))) (.leaf (.exit 0, .of 19 h [(4, .junk, false)])) := by kernel_rfl
theorem run69x (r g m : Nat) (L : List Int) (s : Int) (k : Nat) (h : Heap) : xBody Tryd.prog G0 (E69 r g L) 200 noLoops [] body69 (st69 (msv r g m) (U s) m k h) =
    .ite (decide ((k : Int) < m)) (in69 r g m k L h (.ite (s == L.getD (0 + (k : Int).toNat * 1) 0) (.leaf (.ret, stE69 h)) (.leaf (.normal, stE69 h)))) (.leaf (.exit 0, stE69 h)) := by kernel_rfl
def fn52 (s : Int) : AV := .fn 52 [] [.row [U s] 0]
theorem run70n (r g m : Nat) (L : List Int) (s : Int) (k : Nat) (h : Heap) : xBody Tryd.prog G0 (E69 r g L) 200 noLoops [0, 1, 7, 8] body70 (st69 (msv r g m) (fn52 s) m k h) =
    .ite (decide ((k : Int) < m)) (in69 r g m k L h (.ite (uand (L.getD (0 + (k : Int).toNat * 1) 0) s == 0) (.leaf (.ret, st69 (msv r g m) (fn52 s) m k h)) (.leaf (.normal, st69 (msv r g m) (fn52 s) m (IntKind.i64.wrap (k + 1)) h)))) (.leaf (.exit 0, st69 (msv r g m) (fn52 s) m k h)) := by kernel_rfl
theorem run70r (r g m : Nat) (L : List Int) (s : Int) (k : Nat) (h : Heap) : xBody Tryd.prog G0 (E69 r g L) 200 noLoops [4] body70 (st69 (msv r g m) (fn52 s) m k h) =
    .ite (decide ((k : Int) < m)) (in69 r g m k L h (.ite (uand (L.getD (0 + (k : Int).toNat * 1) 0) s == 0) (.leaf (.ret, stR69 (I k) h)) (.leaf (.normal, .of 19 h [(4, .junk, false)])))) (.leaf (.exit 0, .of 19 h [(4, .junk, false)])) := by kernel_rfl
theorem run70x (r g m : Nat) (L : List Int) (s : Int) (k : Nat) (h : Heap) : xBody Tryd.prog G0 (E69 r g L) 200 noLoops [] body70 (st69 (msv r g m) (fn52 s) m k h) =
    .ite (decide ((k : Int) < m)) (in69 r g m k L h (.ite (uand (L.getD (0 + (k : Int).toNat * 1) 0) s == 0) (.leaf (.ret, stE69 h)) (.leaf (.normal, stE69 h)))) (.leaf (.exit 0, stE69 h)) := by kernel_rfl
def end69 (i : Int) (h : Heap) : Exit × St := bif decide (i ≥ 0) then (.ret, stR69 (I i) h) else (.exit 0, stE69 h)
theorem end69_nat (k : Nat) (h : Heap) : end69 k h = (.ret, stR69 (I k) h) := by unfold end69; rw [decide_eq_true (by omega)]; rfl
theorem off69 (k : Nat) : 0 + (k : Int).toNat * 1 = k := by omega
section
variable {r g : Nat} {L : List Int} {h : Heap}
theorem in69_sel (ho : objAt h r g = some (L.map (AV.int .u64))) {k : Nat} (hk : k < L.length) (x : Tree (Exit × St)) : (in69 r g L.length k L h x).sel = x.sel := by
  unfold in69
  rw [Tree.sel_need ⟨by omega, by omega, by rw [ho]; rfl⟩, Tree.sel_need ⟨rfl, rfl, by omega, ho⟩]
theorem loop69 {R : Option Nat → Prop} (ho : objAt h r g = some (L.map (AV.int .u64))) (hl : L.length < 4611686018427387904) (s : Int) : ∀ (d k : Nat), k + d = L.length →
    ALoopRun Tryd.prog G0 R body69 { tmps := (st69 (msv r g L.length) (U s) L.length k h).a } h (end69 (idxOf (s == ·) (L.drop k) k) h).1 { tmps := (end69 (idxOf (s == ·) (L.drop k) k) h).2.a } h
  | 0, k, hk => by
    rw [List.drop_eq_nil_of_le (by omega)]
    refine .stop (xBody_ok (m := []) names mixed (clok69 r g L) (lpNo body69) (n := 200) (keep := []) (st := st69 (msv r g L.length) (U s) L.length k h) (st' := stE69 h) ?_).1 nofun
    rw [run69x, selI, decide_eq_false (by omega)]
    rfl
  | d + 1, k, hk => by
    have hlt : k < L.length := by omega
    have hg : L.getD k 0 = L[k] := by simp [List.getD_eq_getElem?_getD, hlt]
    rw [List.drop_eq_getElem_cons hlt, idxOf]
    cases hp : (s == L[k]) with
    | true =>
      rw [cond_true, end69_nat]
      refine .stop (xBody_ok (m := []) names mixed (clok69 r g L) (lpNo body69) (n := 200) (keep := [4]) (st := st69 (msv r g L.length) (U s) L.length k h) (st' := stR69 (I k) h) ?_).1 nofun
      rw [run69r, selI, decide_eq_true (by omega), cond_true, in69_sel ho hlt, selI, off69, hg, hp]
      rfl
    | false =>
      rw [cond_false]
      refine .next (xBody_ok (m := []) names mixed (clok69 r g L) (lpNo body69) (n := 200) (keep := [0, 1, 7, 8]) (st := st69 (msv r g L.length) (U s) L.length k h) (st' := st69 (msv r g L.length) (U s) L.length (k + 1 : Nat) h) ?_).1 (loop69 ho hl s d (k + 1) (by omega))
      have hw : IntKind.i64.wrap ((k : Int) + 1) = ((k + 1 : Nat) : Int) := wrap_i64 (by omega) (by omega)
      rw [run69n, selI, decide_eq_true (by omega), cond_true, in69_sel ho hlt, selI, off69, hg, hp, hw]
      rfl
theorem loop70 {R : Option Nat → Prop} (ho : objAt h r g = some (L.map (AV.int .u64))) (hl : L.length < 4611686018427387904) (s : Int) : ∀ (d k : Nat), k + d = L.length →
    ALoopRun Tryd.prog G0 R body70 { tmps := (st69 (msv r g L.length) (fn52 s) L.length k h).a } h (end69 (idxOf (fun x => uand x s == 0) (L.drop k) k) h).1 { tmps := (end69 (idxOf (fun x => uand x s == 0) (L.drop k) k) h).2.a } h
  | 0, k, hk => by
    rw [List.drop_eq_nil_of_le (by omega)]
    refine .stop (xBody_ok (m := []) names mixed (clok69 r g L) (lpNo body70) (n := 200) (keep := []) (st := st69 (msv r g L.length) (fn52 s) L.length k h) (st' := stE69 h) ?_).1 nofun
    rw [run70x, selI, decide_eq_false (by omega)]
    rfl
  | d + 1, k, hk => by
    have hlt : k < L.length := by omega
    have hg : L.getD k 0 = L[k] := by simp [List.getD_eq_getElem?_getD, hlt]
    rw [List.drop_eq_getElem_cons hlt, idxOf]
    cases hp : (uand L[k] s == 0) with
    | true =>
      rw [cond_true, end69_nat]
      refine .stop (xBody_ok (m := []) names mixed (clok69 r g L) (lpNo body70) (n := 200) (keep := [4]) (st := st69 (msv r g L.length) (fn52 s) L.length k h) (st' := stR69 (I k) h) ?_).1 nofun
      rw [run70r, selI, decide_eq_true (by omega), cond_true, in69_sel ho hlt, selI, off69, hg, hp]
      rfl
    | false =>
      rw [cond_false]
      refine .next (xBody_ok (m := []) names mixed (clok69 r g L) (lpNo body70) (n := 200) (keep := [0, 1, 7, 8]) (st := st69 (msv r g L.length) (fn52 s) L.length k h) (st' := st69 (msv r g L.length) (fn52 s) L.length (k + 1 : Nat) h) ?_).1 (loop70 ho hl s d (k + 1) (by omega))
      have hw : IntKind.i64.wrap ((k : Int) + 1) = ((k + 1 : Nat) : Int) := wrap_i64 (by omega) (by omega)
      rw [run70n, selI, decide_eq_true (by omega), cond_true, in69_sel ho hlt, selI, off69, hg, hp, hw]
      rfl
def lp69 (v w : AV) (m : Int) (h : Heap) (b : Bool) (i : Int) : Loops := fun id => match id with
  | 2 => some ([0, 1, 7, 8], st69 v w m 0 h, .ite b (.leaf (.ret, stR69 (I i) h)) (.leaf (.exit 0, stE69 h)))
  | _ => none
theorem loops69 : loopsOf (bodyOf Tryd.prog 69) = [body69] := by kernel_rfl
theorem loops70 : loopsOf (bodyOf Tryd.prog 70) = [body70] := by kernel_rfl
theorem id69 : idOf body69 = 2 := by kernel_rfl
theorem id70 : idOf body70 = 2 := by kernel_rfl
theorem runF69 (r g m : Nat) (s : Int) (h : Heap) (b : Bool) (i : Int) : xenter Tryd.prog {} (xCode Tryd.prog G0 {} 200 (lp69 (msv r g m) (U s) m h b i)) 69 [msv r g m, U s] [true, true] h = .need ((st69 (msv r g m) (U s) m 0 h).vals = (st69 (msv r g m) (U s) m 0 h).vals) (.ite b (.leaf (I i, true, h)) (.leaf (I (-1), false, h))) := by kernel_rfl
theorem runF70 (r g m : Nat) (s : Int) (h : Heap) (b : Bool) (i : Int) : xenter Tryd.prog {} (xCode Tryd.prog G0 {} 200 (lp69 (msv r g m) (fn52 s) m h b i)) 70 [msv r g m, fn52 s] [true, true] h = .need ((st69 (msv r g m) (fn52 s) m 0 h).vals = (st69 (msv r g m) (fn52 s) m 0 h).vals) (.ite b (.leaf (I i, true, h)) (.leaf (I (-1), false, h))) := by kernel_rfl
theorem idxOf_neg {p : Int → Bool} : ∀ (L : List Int) (k : Nat), ¬ idxOf p L k ≥ 0 → idxOf p L k = -1
  | [], k, _ => rfl
  | x :: r, k, h => by
    unfold idxOf at h ⊢
    cases hp : p x with
    | true => rw [hp] at h; simp at h
    | false => rw [hp] at h; exact idxOf_neg r (k + 1) h
theorem c69 (ho : objAt h r g = some (L.map (AV.int .u64))) (hl : L.length < 4611686018427387904) (s : Int) : ACall Tryd.prog G0 69 [msv r g L.length, U s] h (I (idxOf (s == ·) L 0)) h := by
  have key := loop69 (R := fun r => r = none) ho hl s L.length 0 (by omega)
  rw [List.drop_zero] at key
  generalize hi : idxOf (s == ·) L 0 = i at key
  refine .find (s := decide (i ≥ 0)) (tags := [true, true]) (n := 200) (lp := lp69 (msv r g L.length) (U s) L.length h (decide (i ≥ 0)) i) clok0 (.of_list _ fun x hm => ?_) ?_
  · rw [loops69] at hm
    obtain rfl := List.mem_singleton.1 hm
    intro keep s0 t e st' h' hs
    rw [id69] at h'
    cases h'
    unfold end69 at key
    rw [selI] at hs
    revert hs key
    cases decide (i ≥ 0) <;> intro key hs <;> cases hs <;> exact ⟨.loop key, rfl⟩
  · rw [runF69, selR, selI]
    by_cases h0 : i ≥ 0
    · rw [decide_eq_true h0]; rfl
    · rw [decide_eq_false h0, ← hi, idxOf_neg L 0 (by rw [hi]; exact h0)]; rfl
theorem c70 (ho : objAt h r g = some (L.map (AV.int .u64))) (hl : L.length < 4611686018427387904) (s : Int) : ACall Tryd.prog G0 70 [msv r g L.length, fn52 s] h (I (idxOf (fun x => uand x s == 0) L 0)) h := by
  have key := loop70 (R := fun r => r = none) ho hl s L.length 0 (by omega)
  rw [List.drop_zero] at key
  generalize hi : idxOf (fun x => uand x s == 0) L 0 = i at key
  refine .find (s := decide (i ≥ 0)) (tags := [true, true]) (n := 200) (lp := lp69 (msv r g L.length) (fn52 s) L.length h (decide (i ≥ 0)) i) clok0 (.of_list _ fun x hm => ?_) ?_
  · rw [loops70] at hm
    obtain rfl := List.mem_singleton.1 hm
    intro keep s0 t e st' h' hs
    rw [id70] at h'
    cases h'
    unfold end69 at key
    rw [selI] at hs
    revert hs key
    cases decide (i ≥ 0) <;> intro key hs <;> cases hs <;> exact ⟨.loop key, rfl⟩
  · rw [runF70, selR, selI]
    by_cases h0 : i ≥ 0
    · rw [decide_eq_true h0]; rfl
    · rw [decide_eq_false h0, ← hi, idxOf_neg L 0 (by rw [hi]; exact h0)]; rfl
end
/-- The list, as its variable holds it. -/
def vU (r : Nat) (L : List Int) : AV := vA r (L.map (AV.int .u64))
/-- Where its object lies. -/
def AtU (h : Heap) (r : Nat) (L : List Int) : Prop := L ≠ [] → objAt h r (L.length - 1) = some (L.map (AV.int .u64))
section
variable {r : Nat} {L : List Int} {h : Heap}
theorem c69v (ho : AtU h r L) (hl : L.length < 4611686018427387904) (s : Int) : ACall Tryd.prog G0 69 [vU r L, U s] h (I (idxOf (s == ·) L 0)) h := by
  cases L with
  | nil =>
    have run : xCall Tryd.prog G0 {} 200 69 [.zs, U s] [true, true] h = .leaf (I (-1), false, h) := by kernel_rfl
    exact xCall_ok (n := 200) (tags := [true, true]) (s := false) names mixed clok0 (by unfold vU; exact congrArg Tree.sel run)
  | cons x l =>
    have := c69 (r := r) (g := l.length) (L := x :: l) (h := h) (ho (by simp)) hl s
    have e : vU r (x :: l) = msv r l.length (x :: l).length := by simp [vU, vA, msv]
    rw [e]; exact this
theorem c70v (ho : AtU h r L) (hl : L.length < 4611686018427387904) (s : Int) : ACall Tryd.prog G0 70 [vU r L, fn52 s] h (I (idxOf (fun x => uand x s == 0) L 0)) h := by
  cases L with
  | nil =>
    have run : xCall Tryd.prog G0 {} 200 70 [.zs, fn52 s] [true, true] h = .leaf (I (-1), false, h) := by kernel_rfl
    exact xCall_ok (n := 200) (tags := [true, true]) (s := false) names mixed clok0 (by unfold vU; exact congrArg Tree.sel run)
  | cons x l =>
    have := c70 (r := r) (g := l.length) (L := x :: l) (h := h) (ho (by simp)) hl s
    have e : vU r (x :: l) = msv r l.length (x :: l).length := by simp [vU, vA, msv]
    rw [e]; exact this
def clhI (f1 : FuncId) (xs1 : List AV) (i : Int) (h : Heap) : FuncId → List AV → Heap → Option (Tree (AV × Heap)) := fun f xs h0 => if f = f1 then some (.need (xs = xs1 ∧ h0 = h) (.leaf (I i, h))) else none
theorem clokI {f1 : FuncId} {xs1 : List AV} {i : Int} {h : Heap} (hc : ACall Tryd.prog G0 f1 xs1 h (I i) h) : ClOk Tryd.prog G0 { clh := clhI f1 xs1 i h } := by
  refine .all .none ?_ (fun l xs σ t v σ' h => (by cases h)) (fun f xs t v h => (by cases h))
  intro f xs σ t v σ' hq hs
  replace hq : clhI f1 xs1 i h f xs σ = some t := hq
  unfold clhI at hq
  split at hq
  · rename_i hf
    subst hf
    cases hq
    obtain ⟨⟨rfl, rfl⟩, hs2⟩ := Tree.of_need hs
    cases hs2
    exact hc
  · cases hq
theorem run49 (v w : AV) (i : Int) (h : Heap) : xCall Tryd.prog G0 { clh := clhI 69 [v, w] i h } 200 49 [v, w] [true, true] h = .need ([v, w] = [v, w] ∧ h = h) (.leaf (.bool (decide (i ≥ 0)), true, h)) := by kernel_rfl
theorem run51 (v w : AV) (i : Int) (h : Heap) : xCall Tryd.prog G0 { clh := clhI 70 [v, w] i h } 200 51 [v, w] [true, true] h = .need ([v, w] = [v, w] ∧ h = h) (.leaf (.bool (decide (i ≥ 0)), true, h)) := by kernel_rfl
theorem c49 (ho : AtU h r L) (hl : L.length < 4611686018427387904) (s : Int) : ACall Tryd.prog G0 49 [vU r L, U s] h (.bool (L.any (s == ·))) h := by
  refine xCall_ok (n := 200) (tags := [true, true]) (s := true) names mixed (clokI (c69v ho hl s)) ?_
  rw [run49, Tree.sel_need ⟨rfl, rfl⟩, idxOf_nonneg]
  rfl
theorem c51 (ho : AtU h r L) (hl : L.length < 4611686018427387904) (s : Int) : ACall Tryd.prog G0 51 [vU r L, fn52 s] h (.bool (L.any fun x => uand x s == 0)) h := by
  refine xCall_ok (n := 200) (tags := [true, true]) (s := true) names mixed (clokI (c70v ho hl s)) ?_
  rw [run51, Tree.sel_need ⟨rfl, rfl⟩, idxOf_nonneg]
  rfl
end
end Go.Proofs.YtjljigccgaadaaaDoor.Am
