/-
  This file proves nothing of a law. It holds the step from the listed table of the library to what the walks ask of the world, and a world that holds the table. No condition.
-/
import Derived.Test.YtjljigccgaadaaaDoorCore21
import Derived.Lib.LaidU8
import Derived.ProofKit
import Derived.LaidLaws
import Derived.Handed
import Derived.OpenShut
namespace Go.Proofs.YtjljigccgaadaaaDoor.Am
open Go Go.ChangeShapes Go.WideShapes Go.ChangeAt Go.RowKit
set_option maxRecDepth 100000

theorem own : ownKnob Tryd.prog.godebug = none := by kernel_rfl
theorem gN : Tryd.prog.globalNamed "math/bits.deBruijn64tab" = some 0 := by kernel_rfl
theorem gT : (Tryd.prog.globals[0]?).map (·.type) = some 94 := by kernel_rfl
theorem c5 : Tryd.prog.cellsOf 5 = 1 := by kernel_rfl
def laidL : List (String × DataW Unit) := [("math/bits.deBruijn64tab", Rows.laid_math_bits_deBruijn64tab)]
def tabD : List (DataW Unit) := tabL.map fun (n : Nat) => .lit (.int .u8 (n : Int))
theorem tabD_eq : (Rows.laid_math_bits_deBruijn64tab : DataW Unit) = .agg tabD := by kernel_rfl
/-- From the listed table to the walk's fact. -/
theorem tab_of_laid {W : World} (h : laidMet Tryd.prog laidL W) : ∀ g cs, G0 g = some cs → RV W M0 (.pointer (some ⟨g, 0, none⟩)) (.row cs 0) := by
  intro g cs hg
  obtain ⟨g', t, vs, fuel, p, h1, h2, h3, h4⟩ := Go.Lib.laidMet.reads h (List.mem_singleton.2 rfl)
  obtain rfl := Option.some.inj (gN.symm.trans h1)
  obtain rfl := Option.some.inj (gT.symm.trans h2)
  rw [tabD_eq] at h4
  unfold G0 at hg
  split at hg
  · cases hg
    have hcell : ∀ j, j < 64 → W.cell? ⟨0, j, none⟩ = some (.int .u8 ((tabL.getD j 0 : Nat) : Int)) := by
      intro j hj
      obtain ⟨fuel', d, q, hd, hr⟩ := Go.Lib.array_elem Tryd.underlying94 h4 j hj
      rw [c5, Nat.mul_one] at hr
      obtain ⟨n, hcs, hx, _⟩ := DataW.trod_int Tryd.underlying5 hr
      have hdj : tabD[j]? = some (.lit (.int .u8 ((tabL.getD j 0 : Nat) : Int))) := by
        have hl : j < tabL.length := hj
        unfold tabD
        rw [List.getElem?_map, List.getD_eq_getElem?_getD, List.getElem?_eq_getElem hl]
        rfl
      rw [hdj] at hd
      cases hd
      obtain ⟨hn, _⟩ := Prod.mk.inj hx
      have hn' : ((tabL.getD j 0 : Nat) : Int) = n := by simpa using hn
      have h0 : vs.toList[j]? = some (.int .u8 n) := by
        have := congrArg (fun l => l[0]?) hcs
        simpa [List.getElem?_take, List.getElem?_drop] using this
      have hv := World.var?_cell gN h3 j
      rw [hv, hn', ← h0]
      simp
    have hb : (0 : Nat) < W.heap.size := by
      have := hcell 0 (by omega)
      exact (cell_spot this).2
    refine .row 0 0 0 (fun j => .int .u8 ((tabL.getD j 0 : Nat) : Int)) tabC (imm_top hb) (fun j hj => ?_) (fun j x hx => ?_)
    · rw [Nat.zero_add]; exact hcell j hj
    · unfold tabC at hx
      rw [List.getElem?_map] at hx
      obtain ⟨n, hn, rfl⟩ := Option.map_eq_some_iff.1 hx
      rw [List.getD_eq_getElem?_getD, hn]
      exact .int _ _
  · cases hg
def tabVals : Array Value := (tabL.map fun (n : Nat) => Value.int .u8 (n : Int)).toArray
/-- The settled world, but the table holds what it holds. -/
noncomputable def tabWorld (os : Os) : World :=
  let w0 := World.holding Tryd.prog os ⟨#[], #[], []⟩
  { w0 with heap := w0.heap.modify 0 fun
      | .cells _ t frozen => .cells tabVals t frozen
      | o => o }
theorem tab_met (os : Os) (args : Array Value) : laidMet Tryd.prog laidL ((tabWorld os).forCall (fun _ _ => 0) ⟨#[], args, []⟩).memory :=
  laidMet_of_run (ps := (List.range 64).map fun i => .cell 0 i) 8 (by kernel_rfl) (by kernel_rfl) (by kernel_rfl)
end Go.Proofs.YtjljigccgaadaaaDoor.Am
