/-
  This file proves nothing of a law. It opens a site that is an argument: as plain data. No condition.
-/
import Derived.Test.YtbhbfndenpidoaaSite8
import Derived.Test.YtbhbfndenpidoaaAm20
namespace Go.Proofs.Ytbhbfndenpidoaa.Am
open Go Go.ChangeShapes Go.WideShapes
set_option maxRecDepth 100000

theorem own : ownKnob Try.prog.godebug = none := by kernel_rfl
theorem laidOut : laidOutB Try.prog = true := by kernel_rfl

section
variable {H : Type} {enc : TypeId × Value → H} {w : World} {sp : Nat → Bool} {held : Bool}
def intFields (P : Program) (fs : Array Field) : Bool := (List.range fs.size).all fun i => match fs[i]? with
  | some f => match P.underlying f.type with
    | some (.int .i64) => true
    | _ => false
  | none => false
theorem intFields_of {P : Program} {fs : Array Field} (h : intFields P fs = true) : ∀ (j : Nat) (f : Field), fs[j]? = some f → P.underlying f.type = some (.int .i64) := by
  intro j f hj
  have hlt : j < fs.size := (Array.getElem?_eq_some_iff.1 hj).1
  have := List.all_eq_true.1 h j (List.mem_range.2 hlt)
  simp only [hj] at this
  split at this
  · assumption
  · cases this

theorem rowsF {fuel : Nat} {v : Value} {x : DataW H × List MemPlace} (h : DataW.trod enc Try.prog w 0 sp held fuel 22 [v] = some x) :
    ∃ (n : Nat) (f : Nat → Nat → Int), RV w M0 v (.fl 1 n fun i => (List.range 1).map fun j => .int .i64 (f i j)) ∧ ∀ i j, i < n → j < 1 → inI64 (f i j) :=
  open_rows (k := 1) Try.underlying22 (by decide) (by kernel_rfl) (rowOf_struct Try.underlying43 (by kernel_rfl) (by kernel_rfl) (intFields_of (by kernel_rfl))) h
theorem rowsB {fuel : Nat} {v : Value} {x : DataW H × List MemPlace} (h : DataW.trod enc Try.prog w 0 sp held fuel 23 [v] = some x) :
    ∃ (n : Nat) (f : Nat → Nat → Int), RV w M0 v (.fl 4 n fun i => (List.range 4).map fun j => .int .i64 (f i j)) ∧ ∀ i j, i < n → j < 4 → inI64 (f i j) :=
  open_rows (k := 4) Try.underlying23 (by decide) (by kernel_rfl) (rowOf_struct Try.underlying47 (by kernel_rfl) (by kernel_rfl) (intFields_of (by kernel_rfl))) h
theorem rowsL {fuel : Nat} {v : Value} {x : DataW H × List MemPlace} (h : DataW.trod enc Try.prog w 0 sp held fuel 24 [v] = some x) :
    ∃ (n : Nat) (f : Nat → Nat → Int), RV w M0 v (.fl 2 n fun i => (List.range 2).map fun j => .int .i64 (f i j)) ∧ ∀ i j, i < n → j < 2 → inI64 (f i j) :=
  open_rows (k := 2) Try.underlying24 (by decide) (by kernel_rfl) (rowOf_struct Try.underlying51 (by kernel_rfl) (by kernel_rfl) (intFields_of (by kernel_rfl))) h
theorem rowsR {fuel : Nat} {v : Value} {x : DataW H × List MemPlace} (h : DataW.trod enc Try.prog w 0 sp held fuel 25 [v] = some x) :
    ∃ (n : Nat) (f : Nat → Nat → Int), RV w M0 v (.fl 4 n fun i => (List.range 4).map fun j => .int .i64 (f i j)) ∧ ∀ i j, i < n → j < 4 → inI64 (f i j) :=
  open_rows (k := 4) Try.underlying25 (by decide) (by kernel_rfl) (rowOf_struct Try.underlying55 (by kernel_rfl) (by kernel_rfl) (intFields_of (by kernel_rfl))) h
theorem rowsK {fuel : Nat} {v : Value} {x : DataW H × List MemPlace} (h : DataW.trod enc Try.prog w 0 sp held fuel 26 [v] = some x) :
    ∃ (n : Nat) (f : Nat → Nat → Int), RV w M0 v (.fl 3 n fun i => (List.range 3).map fun j => .int .i64 (f i j)) ∧ ∀ i j, i < n → j < 3 → inI64 (f i j) :=
  open_rows (k := 3) Try.underlying26 (by decide) (by kernel_rfl) (rowOf_struct Try.underlying58 (by kernel_rfl) (by kernel_rfl) (intFields_of (by kernel_rfl))) h
theorem rowsH {fuel : Nat} {v : Value} {x : DataW H × List MemPlace} (h : DataW.trod enc Try.prog w 0 sp held fuel 27 [v] = some x) :
    ∃ (n : Nat) (f : Nat → Nat → Int), RV w M0 v (.fl 4 n fun i => (List.range 4).map fun j => .int .i64 (f i j)) ∧ ∀ i j, i < n → j < 4 → inI64 (f i j) :=
  open_rows (k := 4) Try.underlying27 (by decide) (by kernel_rfl) (rowOf_struct Try.underlying61 (by kernel_rfl) (by kernel_rfl) (intFields_of (by kernel_rfl))) h

/-- A SITE, OPENED. -/
theorem open_site {r : Reach} {b0 : Nat} {v : Value} {d : DataW H} {p : List MemPlace} (hv : Value.okWide Try.prog w r b0 29 v) (h : DataW.Trod enc Try.prog w 0 sp held 29 v d p) : ∃ s : Site, RV w M0 v s.av := by
  obtain ⟨cs, rfl, hsz, hf⟩ := open_fields Try.underlying29 (by kernel_rfl) (by kernel_rfl) hv h
  obtain ⟨_, _, h0⟩ := hf 0 _ rfl
  obtain ⟨_, _, h1⟩ := hf 1 _ rfl
  obtain ⟨_, _, h2⟩ := hf 2 _ rfl
  obtain ⟨_, _, h3⟩ := hf 3 _ rfl
  obtain ⟨_, _, h4⟩ := hf 4 _ rfl
  obtain ⟨_, _, h5⟩ := hf 5 _ rfl
  obtain ⟨_, _, h6⟩ := hf 6 _ rfl
  obtain ⟨nF, fF, rF, _⟩ := rowsF h0
  obtain ⟨nB, fB, rB, _⟩ := rowsB h1
  obtain ⟨nL, fL, rL, _⟩ := rowsL h2
  obtain ⟨nR, fR, rR, _⟩ := rowsR h3
  obtain ⟨sw, hsw, _, _⟩ := DataW.trod_int Try.underlying3 h4
  obtain ⟨nK, fK, rK, _⟩ := rowsK h5
  obtain ⟨nH, fH, rH, _⟩ := rowsH h6
  refine ⟨{ nF := nF, nB := nB, nL := nL, nR := nR, nK := nK, nH := nH, sw := sw, F := fF, B := fB, L := fL, R := fR, K := fK, H := fH }, .agg _ _ hsz fun j x hj => ?_⟩
  have h4' : RV w M0 (cs.getD 4 undef) (I sw) := by
    have : cs.getD 4 undef = .int .i64 sw := by simpa using hsw
    rw [this]; exact .int _ _
  match j, hj with
  | 0, hj => cases hj; exact rF
  | 1, hj => cases hj; exact rB
  | 2, hj => cases hj; exact rL
  | 3, hj => cases hj; exact rR
  | 4, hj => cases hj; exact h4'
  | 5, hj => cases hj; exact rK
  | 6, hj => cases hj; exact rH
  | j + 7, hj => simp [Site.cells] at hj

/-- An argument reads behind the call as it did. -/
theorem stays {t : TypeId} (hr : Try.prog.readableRec t = true) (hrow : decide (t < Try.prog.types.size) = true) {W W' : World} {v : Value} {d : DataW H} {ps : List MemPlace}
    (h : DataW.Trod enc Try.prog W 0 (fun _ => true) true t v d ps) (hb : Go.RowKit.Below W.heap.size W W') (hlt : ∀ x ∈ ps, x.block < W.heap.size) {sp : Nat → Bool} (hsp : ∀ x ∈ ps, sp x.block = true) :
    DataW.Trod enc Try.prog W' 0 sp true t v d ps :=
  WideElems.Trod_stays laidOut hr (of_decide_eq_true hrow) h (fun x hx => hb.same (hlt x hx)) hsp
end
end Go.Proofs.Ytbhbfndenpidoaa.Am
