/-
  This file proves nothing of a law. It says what a list of integers that grows by append is as plain values, and what an append to it gives. Condition: at most 16777216 elements.
-/
import Derived.Test.YtbhbfndenpidoaaSite8
namespace Go.Proofs.Ytbhbfndenpidoaa.Am
open Go
set_option maxRecDepth 100000

/-- The list, as the variable holds it; and its object. -/
def vL : List Int → AV
  | [] => .zs
  | _ :: r => .ms 1 0 r.length 0 (r.length + 1) (r.length + 1)
def hL : List Int → Heap
  | [] => []
  | x :: r => [.cells r.length (I x :: r.map I)]

theorem info3 : ∃ ie zx, Try.prog.info? 3 = some ie ∧ aZero Try.prog 3 = some zx ∧ ie.size = 1 ∧ ie.bytes ≤ 65536 ∧ zx.cells.length = 1 ∧ zx.cells.all AV.one = true := by
  have h1 : (Try.prog.info? 3).map (fun i => (i.size, decide (i.bytes ≤ 65536))) = some (1, true) := by kernel_rfl
  have h2 : (aZero Try.prog 3).map (fun z => (z.cells.length, z.cells.all AV.one)) = some (1, true) := by kernel_rfl
  obtain ⟨ie, e1, e2⟩ := Option.map_eq_some_iff.1 h1
  obtain ⟨zx, e3, e4⟩ := Option.map_eq_some_iff.1 h2
  simp only [Prod.mk.injEq, decide_eq_true_eq] at e2 e4
  exact ⟨ie, zx, e1, e3, e2.1, e2.2, e4.1, e4.2⟩

theorem append_vL (L : List Int) (k : Int) (hl : L.length < 16777216) : aAppend Try.prog (hL L) 37 37 (vL L) (.sl 1 [[I k]]) = some (vL (L ++ [k]), hL (L ++ [k])) := by
  obtain ⟨ie, zx, h1, h2, h3, h4, h5, h6⟩ := info3
  have hn : notInt Try.prog 37 = true := by kernel_rfl
  unfold aAppend
  rw [Try.underlying37]
  simp only [h1, h2, h3]
  have hc : conts (hL L) 1 (.sl 1 [[I k]]) = some (1, [I k]) := by simp [conts]
  rw [hc]
  have hone : ([I k] : List AV).all AV.one = true := by simp [AV.one]
  simp only [hn, hone, h4, h5, h6, and_self, if_true]
  cases L with
  | nil => simp [vL, hL]
  | cons x r =>
    simp only [List.length_cons] at hl
    have ho : objAt (hL (x :: r)) 0 r.length = some (I x :: r.map I) := by simp [hL, objAt]
    simp only [vL, ho, List.cons_append]
    have e1 : ¬ (r.length + 1 + 1 ≤ r.length + 1) := by omega
    have e2 : r.length + 1 + 1 ≤ 16777216 := by omega
    simp [hL, e2, List.take_of_length_le]

/-- The list, nobody writing it any more. -/
def fL : List Int → AV
  | [] => .zs
  | x :: r => .sl 1 ((x :: r).map fun y => [I y])
theorem rowsOf_ints (h : Heap) (f : Nat) : ∀ (l pre : List Int), rowsOf (freeze h (f + 1)) 1 ((pre ++ l).map I) pre.length l.length = some (l.map fun y => [I y])
  | [], pre => rfl
  | x :: r, pre => by
    have ih := rowsOf_ints h f r (pre ++ [x])
    simp only [List.length_append, List.length_singleton, List.append_assoc, List.singleton_append] at ih
    simp only [List.length_cons, rowsOf]
    rw [if_pos (by simp), ih]
    have : ((List.map I (pre ++ x :: r)).drop pre.length).take 1 = [I x] := by simp
    rw [this]
    rfl
theorem freeze_vL (L : List Int) (f : Nat) : freeze (hL L) (f + 2) (vL L) = some (fL L) := by
  cases L with
  | nil => rfl
  | cons x r =>
    have := rowsOf_ints (hL (x :: r)) f (x :: r) []
    simp only [List.nil_append, List.length_nil, List.length_cons, List.map_cons] at this
    unfold freeze
    simp only [vL]
    have ho : objAt (hL (x :: r)) 0 r.length = some (I x :: r.map I) := by simp [hL, objAt]
    rw [ho]
    simp only [this, Option.map_some, fL, List.map_cons]

/-- The hosts below k whose domain is n. -/
def mem (p : Nat → Bool) (k : Nat) : List Int := ((List.range k).filter p).map fun (i : Nat) => (i : Int)
theorem mem_succ (p : Nat → Bool) (k : Nat) : mem p (k + 1) = bif p k then mem p k ++ [(k : Int)] else mem p k := by
  unfold mem
  rw [List.range_succ, List.filter_append]
  cases h : p k <;> simp [h]
theorem mem_length (p : Nat → Bool) (k : Nat) : (mem p k).length ≤ k := by
  unfold mem
  rw [List.length_map]
  have := List.length_filter_le p (List.range k)
  simpa using this
end Go.Proofs.Ytbhbfndenpidoaa.Am
