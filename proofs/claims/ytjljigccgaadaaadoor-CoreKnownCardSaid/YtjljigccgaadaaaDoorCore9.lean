/-
  This file proves nothing of a law. It says what asking only once for each set does. Condition: the function that is asked says the same each time, and leaves all else alone.
-/
import Derived.Test.YtjljigccgaadaaaDoorCore8
namespace Go.Proofs.YtjljigccgaadaaaDoor.Am
open Go
set_option maxRecDepth 100000

/-! ### Cells of integers at unknown places -/
def intAt (h : Heap) (r off : Nat) : Int := intOf (((objAt h r 0).getD []).getD off .junk)
def stoH (h : Heap) (r off : Nat) (x : AV) : Heap := h.set r (.cells 0 (setL ((objAt h r 0).getD []) off [x]))
def isInt (k : IntKind) (h : Heap) (r off : Nat) : Prop := ∃ c v, objAt h r 0 = some c ∧ c[off]? = some (.int k v)
def hArr (t : TypeId) (k : IntKind) : Heap → Oper → (Operand → Option AV) → Option (AV × Bool × Heap × Prop) := fun h o ρ => match o.op with
  | .load t' x => if t' = t then (match ρ x with
    | some (.ref r 0 off) => some (.int k (intAt h r off), true, h, isInt k h r off)
    | _ => none) else none
  | .store t' x y => if t' = t then (match ρ x, ρ y with
    | some (.ref r 0 off), some (.int k' v) => some (.tup [], false, stoH h r off (.int k' v), isInt k h r off)
    | _, _ => none) else none
  | _ => none
theorem hArr_ok {t : TypeId} {k : IntKind} (hu : Tryd.prog.underlying t = some (.int k)) (h1 : One t) : HintA Tryd.prog (hArr t k) := by
  intro h o ρ y s h' p hh hp
  unfold hArr at hh
  split at hh
  · rename_i t' x ho
    split at hh
    · rename_i ht
      subst ht
      split at hh
      · rename_i r off hx
        cases hh
        obtain ⟨c, v, hc, hv⟩ := hp
        unfold aopR
        simp only [ho, hx, Option.bind_some, aLoad, hc]
        unfold Am.cut
        rw [hu]
        simp only [aggD, Bool.false_eq_true, if_false, hv, Option.map_some]
        unfold intAt
        rw [hc, Option.getD_some, List.getD_eq_getElem?_getD, hv]
        rfl
      · cases hh
    · cases hh
  · rename_i t' x y' ho
    split at hh
    · rename_i ht
      subst ht
      split at hh
      · rename_i r off k' v hx hy
        cases hh
        obtain ⟨c, v0, hc, hv⟩ := hp
        obtain ⟨i, e1, e2⟩ := h1
        have hlt := (List.getElem?_eq_some_iff.1 hv).1
        unfold aopR
        simp only [ho, hx, hy, aStore, e1, hc]
        have ec : (AV.int k' v).cells = [.int k' v] := rfl
        rw [ec, if_pos ⟨by rw [e2]; rfl, by rw [e2]; omega, rfl⟩]
        unfold stoH
        rw [hc, Option.getD_some]
        rfl
      · cases hh
    · cases hh
  · cases hh

def updF (f : Nat → Int) (k : Nat) (v : Int) : Nat → Int := fun i => if i = k then v else f i
/-- m integers. -/
def cK (k : IntKind) (m : Nat) (K : Nat → Int) : List AV := (List.range m).map fun i => .int k (K i)
theorem cK_get {k : IntKind} {m : Nat} {K : Nat → Int} {i : Nat} (h : i < m) : (cK k m K)[i]? = some (.int k (K i)) := by
  unfold cK; rw [List.getElem?_map, List.getElem?_range h]; rfl
theorem cK_len {k : IntKind} {m : Nat} {K : Nat → Int} : (cK k m K).length = m := by simp [cK]
theorem cK_set {kd : IntKind} {m : Nat} {K : Nat → Int} {k : Nat} {v : Int} (h : k < m) : setL (cK kd m K) k [.int kd v] = cK kd m (updF K k v) := by
  apply List.ext_getElem?
  intro i
  rw [setL_get (by rw [cK_len]; simp; omega)]
  by_cases h1 : i < k
  · rw [if_pos h1, cK_get (by omega), cK_get (by omega)]
    simp [updF, Nat.ne_of_lt h1]
  · rw [if_neg h1]
    by_cases h2 : i < k + [AV.int kd v].length
    · have : i = k := by simp at h2; omega
      subst this
      rw [if_pos h2, cK_get h]
      simp [updF]
    · rw [if_neg h2]
      have hne : i ≠ k := by simp at h2; omega
      by_cases h3 : i < m
      · rw [cK_get h3, cK_get h3]; simp [updF, hne]
      · rw [List.getElem?_eq_none (by rw [cK_len]; omega), List.getElem?_eq_none (by rw [cK_len]; omega)]
theorem updF_updF (K : Nat → Int) (k : Nat) (a b : Int) : updF (updF K k a) k b = updF K k b := by
  funext i; unfold updF; split <;> simp_all
theorem updF_same (K : Nat → Int) (k : Nat) (a : Int) : updF K k a k = a := by simp [updF]

/-! ### once -/
/-- Heaps with an array of what is known, and a variable that holds it. -/
structure KFam (hp : (Nat → Int) → Heap) (q N m : Nat) : Prop where
  box : ∀ K, objAt (hp K) q 0 = some [.ms 1 N 0 0 m m]
  arr : ∀ K, objAt (hp K) N 0 = some (cK .i8 m K)
  set : ∀ K s v, s < m → (hp K).set N (.cells 0 (cK .i8 m (updF K s v))) = hp (updF K s v)
/-- Asked only once. -/
def onceS (f : Nat → Bool) : (Nat → Int) → Nat → Bool × (Nat → Int) := fun K s => if K s = 0 then (f s, updF K s (if f s then 1 else -1)) else (decide (K s > 0), K)

def clhP (g : FuncId) (caps : List AV) (s : Int) (b : Bool) (Q : Heap → Prop) : FuncId → List AV → Heap → Option (Tree (AV × Heap)) := fun f xs h0 => some (.need (f = g ∧ xs = U s :: caps ∧ Q h0) (.leaf (.bool b, h0)))
def E67 (g : FuncId) (caps : List AV) (s : Int) (b : Bool) (Q : Heap → Prop) (v : AV) : Env := { hint := orH (hLd 85 v) (hArr 86 .i8), clh := clhP g caps s b Q }
def box67 (q N m : Nat) (h : Heap) : Prop := objAt h q 0 = some [.ms 1 N 0 0 m m]
def idx67 (N m : Nat) (s : Int) (h : Heap) : Prop := 0 ≤ s ∧ s < m ∧ (objAt h N 0).isSome = true
def off67 (s : Int) : Nat := 0 + s.toNat * 1
def chk67 (q N m : Nat) (s : Int) (h : Heap) (x : Tree (AV × Bool × Heap)) : Tree (AV × Bool × Heap) := .need (box67 q N m h) (.need (idx67 N m s h) (.need (isInt .i8 h N (off67 s)) x))
def end67 (q N m : Nat) (s : Int) (h : Heap) : Tree (AV × Bool × Heap) := chk67 q N m s h (.leaf (.bool (decide (intAt h N (off67 s) > 0)), true, h))
def sto67 (N : Nat) (s : Int) (v : Int) (h : Heap) : Heap := stoH h N (off67 s) (.int .i8 v)
theorem run67 (g q N m : Nat) (caps : List AV) (s : Int) (b : Bool) (Q : Heap → Prop) (h : Heap) : xCall Tryd.prog G0 (E67 g caps s b Q (.ms 1 N 0 0 m m)) 200 67 [U s, .ref q 0 0, .row [.fn g [] caps] 0] [true, true, true] h =
    chk67 q N m s h (.ite (intAt h N (off67 s) == 0) (chk67 q N m s h (.need (g = g ∧ U s :: caps = U s :: caps ∧ Q (sto67 N s (-1) h)) (.ite b
      (chk67 q N m s (sto67 N s (-1) h) (end67 q N m s (sto67 N s 1 (sto67 N s (-1) h)))) (end67 q N m s (sto67 N s (-1) h))))) (end67 q N m s h)) := by kernel_rfl
section
variable {hp : (Nat → Int) → Heap} {q N m : Nat} {g : FuncId} {caps : List AV} {f : Nat → Bool}
theorem KFam.chk (h : KFam hp q N m) {s : Nat} (hs : s < m) (K : Nat → Int) (x : Tree (AV × Bool × Heap)) : (chk67 q N m s (hp K) x).sel = x.sel := by
  have ho : off67 (s : Int) = s := by unfold off67; omega
  unfold chk67
  have h1 : box67 q N m (hp K) := h.box K
  have h2 : idx67 N m s (hp K) := ⟨by omega, by omega, by rw [h.arr]; rfl⟩
  have h3 : isInt .i8 (hp K) N (off67 s) := ⟨_, K s, h.arr K, by rw [ho]; exact cK_get hs⟩
  rw [Tree.sel_need h1, Tree.sel_need h2, Tree.sel_need h3]
theorem KFam.int (h : KFam hp q N m) {s : Nat} (hs : s < m) (K : Nat → Int) : intAt (hp K) N (off67 s) = K s := by
  have ho : off67 (s : Int) = s := by unfold off67; omega
  unfold intAt
  rw [h.arr, Option.getD_some, ho, List.getD_eq_getElem?_getD, cK_get hs]
  rfl
theorem KFam.sto (h : KFam hp q N m) {s : Nat} (hs : s < m) (K : Nat → Int) (v : Int) : sto67 N s v (hp K) = hp (updF K s v) := by
  have ho : off67 (s : Int) = s := by unfold off67; omega
  unfold sto67 stoH
  rw [h.arr, Option.getD_some, ho, cK_set hs]
  exact h.set K s v hs
theorem KFam.end (h : KFam hp q N m) {s : Nat} (hs : s < m) (K : Nat → Int) : (end67 q N m s (hp K)).sel = some (.bool (decide (K s > 0)), true, hp K) := by
  unfold end67
  rw [h.chk hs, h.int hs]
  rfl
theorem c67 (h : KFam hp q N m) (hg : ∀ K s, s < m → s < 2 ^ 64 → ACall Tryd.prog G0 g (U s :: caps) (hp K) (.bool (f s)) (hp K)) : HasOk 67 [.ref q 0 0, .row [.fn g [] caps] 0] hp (onceS f) (· < m) := by
  intro K s hs h64
  have hs : s < m := hs
  have hcl : ClOk Tryd.prog G0 (E67 g caps s (f s) (fun h => ∃ K, h = hp K) (.ms 1 N 0 0 m m)) := by
    refine .all ((hLd_ok Tryd.underlying85 rfl _).ok.or (hArr_ok (by kernel_rfl) (one_of (by kernel_rfl))).ok) ?_ (fun l xs σ t v σ' h => (by cases h)) (fun f xs t v h => (by cases h))
    intro f' xs σ t v σ' hq hsel
    cases hq
    obtain ⟨⟨rfl, rfl, K, rfl⟩, hs2⟩ := Tree.of_need hsel
    cases hs2
    exact hg K s hs h64
  refine xCall_ok (n := 200) (tags := [true, true, true]) (s := true) names mixed hcl ?_
  rw [run67, h.chk hs, selI, h.int hs]
  unfold onceS
  by_cases h0 : K s = 0
  · rw [if_pos h0, h0, beq_self_eq_true, cond_true, h.chk hs, h.sto hs, Tree.sel_need ⟨rfl, rfl, _, rfl⟩, selI]
    cases hf : f s with
    | true =>
      rw [cond_true, h.chk hs, h.sto hs, updF_updF, h.end hs, updF_same]
      rfl
    | false =>
      rw [cond_false, h.end hs, updF_same]
      rfl
  · rw [if_neg h0, beq_false_of_ne h0, cond_false, h.end hs]

/-! ### What irreducible then says -/
/-- What is known is so. -/
def KOk (f : Nat → Bool) (K : Nat → Int) : Prop := ∀ s, K s = 0 ∨ K s = if f s then 1 else -1
theorem onceS_ok {K : Nat → Int} (h : KOk f K) (s : Nat) : (onceS f K s).1 = f s ∧ KOk f (onceS f K s).2 := by
  unfold onceS
  by_cases h0 : K s = 0
  · rw [if_pos h0]
    refine ⟨rfl, fun t => ?_⟩
    simp only [updF]
    by_cases ht : t = s
    · subst ht; rw [if_pos rfl]; exact .inr rfl
    · rw [if_neg ht]; exact h t
  · rw [if_neg h0]
    refine ⟨?_, h⟩
    rcases h s with h1 | h1
    · exact absurd h1 h0
    · simp only [h1]
      cases f s <;> rfl
/-- A set has the property, and none of the sets with one number less has it. -/
def irr (f : Nat → Bool) (s : Nat) : Bool := f s && (bitsL s).all fun k => !f (del s k)
theorem irrLoop_ok {S : Type} {stp : S → Nat → Bool × S} {Good : S → Prop} (hst : ∀ st s, Good st → (stp st s).1 = f s ∧ Good (stp st s).2) (s : Nat) : ∀ (n r : Nat) (st : S), Good st → r < n → r < 2 ^ 64 →
    (irrLoop stp s n r st).1 = (bitsL r).all (fun k => !f (del s k)) ∧ Good (irrLoop stp s n r st).2
  | 0, r, st, _, h, _ => by omega
  | n + 1, r, st, hg, h, hr => by
    unfold irrLoop
    by_cases h0 : r = 0
    · subst h0
      rw [if_pos rfl, bitsL_zero]
      exact ⟨rfl, hg⟩
    · rw [if_neg h0, bitsL_cons h0 hr]
      obtain ⟨h1, h2⟩ := hst st (del s (tz r)) hg
      have ih := irrLoop_ok hst s n (dropLow r) _ h2 (by have := dropLow_less h0; omega) (dropLow_lt hr)
      rw [h1]
      cases hf : f (del s (tz r)) with
      | true => simp [hf, h2]
      | false => simp [hf, ih.1, ih.2]
theorem irrS_ok {S : Type} {stp : S → Nat → Bool × S} {Good : S → Prop} (hst : ∀ st s, Good st → (stp st s).1 = f s ∧ Good (stp st s).2) {s : Nat} (hs : s < 2 ^ 64) {st : S} (hg : Good st) : (irrS stp st s).1 = irr f s ∧ Good (irrS stp st s).2 := by
  unfold irrS irr
  obtain ⟨h1, h2⟩ := hst st s hg
  have ih := irrLoop_ok hst s (s + 1) s _ h2 (by omega) hs
  rw [h1]
  cases f s with
  | true => simp [ih.1, ih.2]
  | false => simp [h2]
end
end Go.Proofs.YtjljigccgaadaaaDoor.Am
