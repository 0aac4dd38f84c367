/-
  This file proves nothing of a law. It opens arguments: a slice of rows of integers, a struct of one-cell fields, as plain values. No condition.
-/
import Derived.Test.YtjljigccgaadaaaDoorAm19
import Derived.Deep.Slices
import Derived.Deep.Fields
import Derived.OpenShut
namespace Go.Proofs.YtjljigccgaadaaaDoor.Am
open Go Go.ChangeShapes Go.WideShapes

section
variable {H : Type} {enc : TypeId × Value → H} {P : Program} {w : World} {sp : Nat → Bool} {held : Bool}

def inI64 (n : Int) : Prop := -9223372036854775808 ≤ n ∧ n < 9223372036854775808
theorem inI64_of_wf {n : Int} (h : (Lit.int .i64 n).wf = true) : inI64 n := by
  simp [Lit.wf, IntKind.min, IntKind.max, IntKind.signed, IntKind.bits] at h
  exact ⟨by omega, by omega⟩

/-- A type whose values are k integers. -/
def RowOf (H : Type) (enc : TypeId × Value → H) (P : Program) (w : World) (sp : Nat → Bool) (held : Bool) (e : TypeId) (k : Nat) : Prop :=
  ∀ (fuel : Nat) (cs : List Value) (y : DataW H × List MemPlace), DataW.trod enc P w 0 sp held fuel e cs = some y → cs.length = k ∧ ∀ j, j < k → ∃ n, cs[j]? = some (.int .i64 n) ∧ inI64 n

theorem rowOf_int {e : TypeId} (he : P.underlying e = some (.int .i64)) : RowOf H enc P w sp held e 1 := by
  intro fuel cs y h
  obtain ⟨n, rfl, _, hw⟩ := DataW.trod_int he h
  refine ⟨rfl, fun j hj => ?_⟩
  obtain rfl : j = 0 := by omega
  exact ⟨n, rfl, inI64_of_wf hw⟩

theorem drop_take_one {α : Type} {l : List α} {j : Nat} (h : j < l.length) : (l.drop j).take 1 = [l[j]] := by
  rw [List.drop_eq_getElem_cons h]; rfl

theorem rowOf_struct {e : TypeId} {fs : Array Field} (he : P.underlying e = some (.struct fs)) (hone : Go.Deep.oneCellFields P fs = true) (hC : P.cellsOf e = fs.size)
    (hint : ∀ (j : Nat) (f : Field), fs[j]? = some f → P.underlying f.type = some (.int .i64)) : RowOf H enc P w sp held e fs.size := by
  intro fuel cs y h
  obtain ⟨ys, n, _, _, hlen, hyl, hf⟩ := DataW.trod_struct he h
  refine ⟨by rw [hlen, hC], fun j hj => ?_⟩
  obtain ⟨f, hfj⟩ : ∃ f, fs[j]? = some f := ⟨_, Array.getElem?_eq_getElem hj⟩
  obtain ⟨ho, hk⟩ := Go.Deep.hone_of hone j f hfj
  have h1 := hf j f hfj
  have hjc : j < cs.length := by rw [hlen, hC]; exact hj
  rw [ho, hk, drop_take_one hjc, List.getElem?_eq_getElem (by omega)] at h1
  obtain ⟨m, hm, _, hw⟩ := DataW.trod_int (hint j f hfj) h1
  refine ⟨m, ?_, inI64_of_wf hw⟩
  rw [List.getElem?_eq_getElem hjc]
  simpa using hm

theorem add_spot {a : Addr} (h : a.spot = none) (n : Nat) : a.add n = ⟨a.block, a.off + n, none⟩ := by
  cases a
  simp only at h
  subst h
  unfold Addr.add
  split
  · rename_i h0; subst h0; rfl
  · rfl
theorem cell_spot {a : Addr} {v : Value} (h : w.cell? a = some v) : a.spot = none ∧ a.block < w.heap.size := by
  unfold World.cell? at h
  split at h
  · rename_i c e fr hb
    have hlt : a.block < w.heap.size := by
      rcases Nat.lt_or_ge a.block w.heap.size with h | h
      · exact h
      · rw [Array.getElem?_eq_none h] at hb; cases hb
    refine ⟨?_, hlt⟩
    cases hs : a.spot with
    | none => rfl
    | some x => rw [hs] at h; simp at h
  · cases h

/-- A SLICE OF ROWS OF INTEGERS. -/
theorem open_rows {t e : TypeId} {k : Nat} (ht : P.underlying t = some (.slice e)) (hk : 0 < k) (hC : P.cellsOf e = k) (hrow : RowOf H enc P w sp held e k) {fuel : Nat} {v : Value} {x : DataW H × List MemPlace}
    (h : DataW.trod enc P w 0 sp held fuel t [v] = some x) :
    ∃ (n : Nat) (f : Nat → Nat → Int), RV w M0 v (.fl k n fun i => (List.range k).map fun j => .int .i64 (f i j)) ∧ ∀ i j, i < n → j < k → inI64 (f i j) := by
  rcases Go.Deep.open_slice ht h with ⟨hv, _⟩ | ⟨a, len, cap, m, n0, D, Pl, hcs, _, hl, _, hm, _, hi⟩
  · obtain rfl : v = .slice none 0 0 := by simpa using hv
    exact ⟨0, fun _ _ => 0, .fl _ _ _ _ (.sl0 _ _ _), fun i j hi => by omega⟩
  · obtain rfl : v = .slice (some a) len cap := by simpa using hcs
    have hlm : len ≤ m := by rw [hm]; split <;> omega
    have key : ∀ i, i < len → ∃ cs', (∀ j, j < k → w.cell? (a.add (i * k + j)) = cs'[j]?) ∧ ∀ j, j < k → ∃ q : Int, cs'[j]? = some (Value.int .i64 q) ∧ inI64 q := fun i hil => by
      obtain ⟨cs', hc, ht'⟩ := hi i (by omega)
      rw [hC] at hc
      obtain ⟨_, hcl, hat⟩ := World.cells?_some hc
      refine ⟨cs', fun j hj => ?_, (hrow _ _ _ ht').2⟩
      rw [← Go.Deep.add_add]
      exact hat j hj
    have key2 : ∀ i j, ∃ q : Int, i < len → j < k → w.cell? (a.add (i * k + j)) = some (Value.int .i64 q) ∧ inI64 q := fun i j => by
      by_cases hb : i < len ∧ j < k
      · obtain ⟨cs', h1, h2⟩ := key i hb.1
        obtain ⟨q, hq, hr⟩ := h2 j hb.2
        exact ⟨q, fun _ _ => ⟨(h1 j hb.2).trans hq, hr⟩⟩
      · exact ⟨0, fun h1 h2 => absurd ⟨h1, h2⟩ hb⟩
    have pick : ∃ f : Nat → Nat → Int, ∀ i j, i < len → j < k → w.cell? (a.add (i * k + j)) = some (Value.int .i64 (f i j)) ∧ inI64 (f i j) :=
      ⟨fun i j => Classical.choose (key2 i j), fun i j => Classical.choose_spec (key2 i j)⟩
    obtain ⟨f, hf⟩ := pick
    refine ⟨len, f, .fl _ _ _ _ ?_, fun i j h1 h2 => (hf i j h1 h2).2⟩
    by_cases h0 : len = 0
    · subst h0; exact .sl0 _ _ _
    · have h00 := (hf 0 0 (by omega) hk).1
      simp only [Nat.zero_mul, Nat.add_zero] at h00
      have ha0 : a.add 0 = a := by unfold Addr.add; rfl
      rw [ha0] at h00
      obtain ⟨hs, hb⟩ := cell_spot h00
      have hlen : ((List.range len).map fun i => (List.range k).map fun j => AV.int .i64 (f i j)).length = len := by simp
      have := RV.sl (w := w) (M := M0) a.block a.off cap k (fun i j => .int .i64 (f i j)) ((List.range len).map fun i => (List.range k).map fun j => AV.int .i64 (f i j)) (imm_top hb)
        (fun i r j hr hj => by
          have hil : i < len := by have := (List.getElem?_eq_some_iff.1 hr).1; rwa [hlen] at this
          have := (hf i j hil hj).1
          rw [add_spot hs] at this
          rw [Nat.add_assoc]
          exact this)
        (fun i r hr => by
          obtain ⟨i', _, rfl⟩ := List.mem_map.1 (List.mem_of_getElem? hr)
          simp)
        (fun i r j y hr hy => by
          have hil : i < len := by have := (List.getElem?_eq_some_iff.1 hr).1; rwa [hlen] at this
          rw [List.getElem?_map, List.getElem?_range hil] at hr
          cases hr
          have hj : j < k := by have := (List.getElem?_eq_some_iff.1 hy).1; simpa using this
          rw [List.getElem?_map, List.getElem?_range hj] at hy
          cases hy
          exact .int _ _)
        (by rw [hlen]; exact hl)
      rw [hlen] at this
      have ha : a = ⟨a.block, a.off, none⟩ := by cases a; simp only at hs; subst hs; rfl
      rw [ha]
      exact this

/-- A STRUCT OF ONE-CELL FIELDS: its value's cells, and each field's reading. -/
theorem open_fields {r : Reach} {b0 : Nat} {t : TypeId} {fs : Array Field} {v : Value} {d : DataW H} {p : List MemPlace} (hs : P.underlying t = some (.struct fs)) (hone : Go.Deep.oneCellFields P fs = true) (hC : P.cellsOf t = fs.size)
    (hv : Value.okWide P w r b0 t v) (h : DataW.Trod enc P w 0 sp held t v d p) :
    ∃ cs : Array Value, v = .agg cs ∧ cs.size = fs.size ∧ ∀ (j : Nat) (f : Field), fs[j]? = some f → ∃ (n : Nat) (y : DataW H × List MemPlace), DataW.trod enc P w 0 sp held n f.type [cs.getD j undef] = some y := by
  obtain ⟨cs, rfl, hsz⟩ := okWide_struct hs hv
  obtain ⟨fuel, hf⟩ := h
  obtain ⟨ys, n, _, _, hlen, hyl, hg⟩ := DataW.trod_struct hs hf
  refine ⟨cs, rfl, hsz.trans hC, fun j f hfj => ?_⟩
  obtain ⟨ho, hk⟩ := Go.Deep.hone_of hone j f hfj
  have hj : j < fs.size := (Array.getElem?_eq_some_iff.1 hfj).1
  have h1 := hg j f hfj
  have hjc : j < (Value.agg cs).cells.toList.length := by rw [hlen, hC]; exact hj
  rw [ho, hk, drop_take_one hjc, List.getElem?_eq_getElem (by omega)] at h1
  refine ⟨n, ys[j]'(by omega), ?_⟩
  have hjs : j < cs.size := by rw [hsz, hC]; exact hj
  have e : cs.getD j undef = (Value.agg cs).cells.toList[j] := by
    simp [Value.cells, Array.getD, hjs]
  rw [e]
  exact h1
end
end Go.Proofs.YtjljigccgaadaaaDoor.Am
