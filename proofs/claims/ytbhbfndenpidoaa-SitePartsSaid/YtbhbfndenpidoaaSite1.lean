/-
  This file proves nothing of a law. It holds what the proofs on sites share: the program's own facts, and that the looks at the chapter's example have their results. No condition.
-/
import Derived.Test.YtbhbfndenpidoaaAm18
import Derived.Test.YtbhbfndenpidoaaRows
namespace Go.Proofs.Ytbhbfndenpidoaa.Am
open Go
set_option maxRecDepth 100000

def G0 : Nat → Option (List AV) := fun _ => none
theorem gbelow0 : GBelow G0 := fun _ _ h => by cases h
theorem gtop0 {w : World} : ∀ g cs, G0 g = some cs → RV w M0 (.pointer (some ⟨g, 0, none⟩)) (.row cs 0) := fun _ _ h => by cases h
theorem names0 : (Try.prog.funcs.all fun fn => !(fn.name == "runtime.NumGoroutine")) = true := by kernel_rfl
theorem names : NamesOk Try.prog := fun f fn h => by
  have := Array.all_eq_true_iff_forall_mem.1 names0 fn (Array.mem_of_getElem? h)
  simpa using this
theorem mixed : Try.prog.follows .mixedOrders = true := by kernel_rfl

/-- Nothing is known beforehand. -/
def Ecl : Env := { closed := true }
theorem clok0 {E : Env} (h : E.cl = fun _ _ => none) (h2 : E.clh = fun _ _ _ => none := by rfl) (h3 : E.cy = fun _ _ _ => none := by rfl) : ClOk Try.prog G0 E := .of h2 h3 fun f xs t v h' => by rw [h] at h'; cases h'
def noLoops : Loops := fun _ => none

theorem live_run : xPure Try.prog G0 Ecl 200 noLoops 9 [] [] = .leaf (.bool true) := by kernel_rfl
/-- The looks at the chapter's example have their results. -/
theorem live_call (σ : Heap) : ACall Try.prog G0 9 [] σ (.bool true) σ :=
  xPure_ok (lp := noLoops) (n := 200) (tags := []) names mixed (clok0 (E := Ecl) rfl) gbelow0 (LoopsOk.none _) (congrArg Tree.sel live_run) (by simp) σ
end Go.Proofs.Ytbhbfndenpidoaa.Am
