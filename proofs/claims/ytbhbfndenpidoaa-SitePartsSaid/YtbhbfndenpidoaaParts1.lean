/-
  This file proves nothing of a law. It says what the innermost loop of the statement 'SiteParts' does: it counts the members of one domain. Condition: the lists have at most 40 elements.
-/
import Derived.Test.YtbhbfndenpidoaaSite12
import Derived.Test.YtbhbfndenpidoaaAm19
namespace Go.Proofs.Ytbhbfndenpidoaa.Am
open Go
set_option maxRecDepth 100000

def clp (s : Site) : FuncId → List AV → Option (Tree AV) := fun f xs => match f, xs with
  | 14, [x, .int .u8 d, .int .i64 h] => some (.need (x = s.av ∧ s.Few) (.leaf (I (s.domOf d h))))
  | 12, [x, .int .u8 d] => some (.need (x = s.av ∧ s.Few) (.leaf (I (s.count d))))
  | 17, [x, .int .u8 d, .int .i64 n] => some (.need (x = s.av ∧ s.Few) (.leaf (flL (s.members d n))))
  | _, _ => none
/-- A list of m counters. -/
def cS (m : Nat) (f : Nat → Int) : List AV := (List.range m).map fun i => I (f i)
def hS (m : Nat) (f : Nat → Int) : Heap := [.cells 0 (cS m f)]
def updF (f : Nat → Int) (k : Nat) (v : Int) : Nat → Int := fun i => if i = k then v else f i
def hintP (m : Nat) (f : Nat → Int) : Heap → Oper → (Operand → Option AV) → Option (AV × Bool × Heap) := fun _ o ρ =>
  match o.op with
  | .load 3 x => match ρ x with
    | some (.ref 0 0 off) => some (I (f off), true, hS m f)
    | _ => none
  | .store 3 x y => match ρ x, ρ y with
    | some (.ref 0 0 off), some (.int .i64 v) => some (.tup [], false, hS m (updF f off v))
    | _, _ => none
  | .makeSlice 37 _ _ => some (.ms 1 0 0 0 m m, true, hS m f)
  | _ => none
def Ep (s : Site) (m : Nat) (f : Nat → Int) : Env := { cl := clp s, hint := hintP m f }
theorem clokp (s : Site) (m : Nat) (f : Nat → Int) : ClOk Try.prog G0 (Ep s m f) := by
  refine .of rfl rfl ?_
  intro f xs t v h hs σ
  have h : clp s f xs = some t := h
  unfold clp at h
  split at h <;> first | (cases h; done) | skip
  · cases h
    obtain ⟨⟨e1, hf⟩, hs2⟩ := Tree.of_need hs
    subst e1
    cases hs2
    exact c14 s hf _ _ σ
  · cases h
    obtain ⟨⟨e1, hf⟩, hs2⟩ := Tree.of_need hs
    subst e1
    cases hs2
    exact c12 s hf _ σ
  · cases h
    obtain ⟨⟨e1, hf⟩, hs2⟩ := Tree.of_need hs
    subst e1
    cases hs2
    exact c17' s hf _ _ σ

theorem cS_get {m : Nat} {f : Nat → Int} {k : Nat} (h : k < m) : (cS m f)[k]? = some (I (f k)) := by
  unfold cS; rw [List.getElem?_map, List.getElem?_range h]; rfl
theorem cS_len {m : Nat} {f : Nat → Int} : (cS m f).length = m := by simp [cS]
theorem cS_congr {m : Nat} {f g : Nat → Int} (h : ∀ k, k < m → f k = g k) : cS m f = cS m g := by
  unfold cS
  exact List.map_congr_left fun i hi => by rw [h i (List.mem_range.1 hi)]
theorem cS_set {m : Nat} {f : Nat → Int} {k : Nat} {v : Int} (h : k < m) : setL (cS m f) k [I v] = cS m (updF f k v) := by
  apply List.ext_getElem?
  intro i
  rw [setL_get (by rw [cS_len]; simp; omega)]
  by_cases h1 : i < k
  · rw [if_pos h1, cS_get (by omega), cS_get (by omega)]
    simp [updF, Nat.ne_of_lt h1]
  · rw [if_neg h1]
    by_cases h2 : i < k + [I v].length
    · have : i = k := by simp at h2; omega
      subst this
      rw [if_pos h2, cS_get h]
      simp [updF]
    · rw [if_neg h2]
      have hne : i ≠ k := by simp at h2; omega
      by_cases h3 : i < m
      · rw [cS_get h3, cS_get h3]; simp [updF, hne]
      · rw [List.getElem?_eq_none (by rw [cS_len]; omega), List.getElem?_eq_none (by rw [cS_len]; omega)]

theorem load_cS {m : Nat} {f : Nat → Int} {k : Nat} (h : k < m) : aLoad Try.prog (hS m f) 3 (.ref 0 0 k) = some (I (f k)) := by
  have hu : Try.prog.underlying 3 = some (.int .i64) := by kernel_rfl
  simp only [aLoad, hS, objAt, List.getElem?_cons_zero, if_true, Option.bind_some]
  unfold Am.cut
  simp only [hu, aggD, Bool.false_eq_true, if_false, cS_get h]
theorem store_cS {m : Nat} {f : Nat → Int} {k : Nat} {v : Int} (h : k < m) : aStore Try.prog (hS m f) 3 (.ref 0 0 k) (I v) = some (hS m (updF f k v)) := by
  obtain ⟨ie, zx, h1, h2, h3, h4, h5, h6⟩ := info3
  simp only [aStore, hS, objAt, List.getElem?_cons_zero, if_true, h1]
  have e1 : (I v).cells = [I v] := rfl
  rw [e1, if_pos ⟨by simp [h3], by rw [cS_len, h3]; omega, by simp [AV.one]⟩, cS_set h]
  rfl

/-! ### One round -/
def stPk (s : Site) (d n i : Int) (L : List Int) (m : Nat) (f : Nat → Int) (k : Int) : St :=
  .of 113 (hS m f) [(1, .row s.cells 0, true), (2, .bool false, false), (3, .int .u8 d, true), (4, .ms 1 0 0 0 m m, true), (5, I n, true), (6, I i, true), (7, flL L, true), (8, I k, true)]
noncomputable def bodyPk : Code := (loopsOf (bodyOf Try.prog 5)).getD 2 .skip
def inL (L : List Int) (k : Nat) (x : Tree (Exit × St)) : Tree (Exit × St) := .need (0 ≤ (k : Int) ∧ (k : Int) < L.length) x
def inC (L : List Int) (m : Nat) (f : Nat → Int) (k : Nat) (x : Tree (Exit × St)) : Tree (Exit × St) := .need (0 ≤ L.getD (k : Int).toNat 0 ∧ L.getD (k : Int).toNat 0 < m ∧ (objAt (hS m f) 0 0).isSome = true) x
def offK (L : List Int) (k : Nat) : Nat := 0 + (L.getD (k : Int).toNat 0).toNat * 1
def tailPk (s : Site) (d n i : Int) (L : List Int) (m : Nat) (f : Nat → Int) (k : Nat) : Tree (Exit × St) :=
  inL L k (.need (s.av = s.av ∧ s.Few) (.ite (s.domOf d (L.getD (k : Int).toNat 0) != i) (.leaf (.ret, stPk s d n i L m f k)) (inL L k (inC L m f k
    (.need ((aLoad Try.prog (hS m f) 3 (.ref 0 0 (offK L k))).map (·, hS m f) = some (I (f (offK L k)), hS m f)) (inC L m f k
      (.need ((aStore Try.prog (hS m f) 3 (.ref 0 0 (offK L k)) (I (IntKind.i64.wrap (f (offK L k) + 1)))).map ((AV.tup [], ·)) = some (AV.tup [], hS m (updF f (offK L k) (IntKind.i64.wrap (f (offK L k) + 1)))))
        (.leaf (.normal, stPk s d n i L m (updF f (offK L k) (IntKind.i64.wrap (f (offK L k) + 1))) (IntKind.i64.wrap (k + 1)))))))))))
theorem runPk (s : Site) (d n i : Int) (L : List Int) (m : Nat) (f : Nat → Int) (k : Nat) : xBody Try.prog G0 (Ep s m f) 100 noLoops [1,2,3,4,5,6,7,8] bodyPk (stPk s d n i L m f k) =
    .ite (decide ((k : Int) < L.length)) (inL L k (.ite (decide (L.getD (k : Int).toNat 0 < 0)) (.leaf (.ret, stPk s d n i L m f k)) (inL L k (.ite (decide (L.getD (k : Int).toNat 0 ≥ m)) (.leaf (.ret, stPk s d n i L m f k))
      (.ite (decide ((k : Int) > 0)) (inL L k (.need (0 ≤ IntKind.i64.wrap ((k : Int) - 1) ∧ IntKind.i64.wrap ((k : Int) - 1) < L.length) (.ite (decide (L.getD (k : Int).toNat 0 ≤ L.getD (IntKind.i64.wrap ((k : Int) - 1)).toNat 0)) (.leaf (.ret, stPk s d n i L m f k))
        (tailPk s d n i L m f k)))) (tailPk s d n i L m f k)))))) (.leaf (.exit 4, stPk s d n i L m f k)) := by kernel_rfl
end Go.Proofs.Ytbhbfndenpidoaa.Am
