/-
  This file proves nothing of a law. It says what site.Valid, site.Count and site.domain return. No condition.
-/
import Derived.Test.YtbhbfndenpidoaaSite3
namespace Go.Proofs.Ytbhbfndenpidoaa.Am
open Go
set_option maxRecDepth 100000

theorem Site.below_mem (s : Site) {x : AV} (h : x ∈ [s.av]) : Below 0 x := by
  rw [List.mem_singleton.1 h]; exact s.below

def cl4 (s : Site) : FuncId → List AV → Option (Tree AV) := fun f xs => match f, xs with
  | 20, [x] => some (.need (x = s.av) (.leaf (.bool s.sizes)))
  | 30, [x, y] => some (.need (x = s.vF ∧ y = s.gF) (.leaf (.bool s.anyF)))
  | 31, [x, y] => some (.need (x = s.vB ∧ y = s.gB) (.leaf (.bool s.anyB)))
  | 32, [x, y] => some (.need (x = s.vL ∧ y = s.gL) (.leaf (.bool s.anyL)))
  | 33, [x, y] => some (.need (x = s.vR ∧ y = s.gR) (.leaf (.bool s.anyR)))
  | 34, [x, y] => some (.need (x = s.vK ∧ y = s.gK) (.leaf (.bool s.anyK)))
  | 35, [x, y] => some (.need (x = s.vH ∧ y = s.gH) (.leaf (.bool s.anyH)))
  | _, _ => none
def E4 (s : Site) : Env := { cl := cl4 s }
theorem clok4 (s : Site) (hf : s.Few) : ClOk Try.prog G0 (E4 s) := by
  refine .of rfl rfl ?_
  intro f xs t v h hs σ
  have h : cl4 s f xs = some t := h
  unfold cl4 at h
  split at h <;> first | (cases h; done) | skip
  · cases h
    obtain ⟨e1, hs2⟩ := Tree.of_need hs
    subst e1
    cases hs2
    exact c20 s σ
  all_goals
    cases h
    obtain ⟨⟨e1, e2⟩, hs2⟩ := Tree.of_need hs
    subst e1
    subst e2
    cases hs2
  · exact hasF s hf.F σ
  · exact hasB s hf.B σ
  · exact hasL s hf.L σ
  · exact hasR s hf.R σ
  · exact hasK s hf.K σ
  · exact hasH s hf.H σ

/-- What Valid says. -/
def Site.ok (s : Site) : Bool := s.sizes && (!s.anyF && (!s.anyB && (!s.anyL && (!s.anyR && (!s.anyK && !s.anyH)))))
theorem c10 (s : Site) (hf : s.Few) (σ : Heap) : ACall Try.prog G0 10 [s.av] σ (.bool s.ok) σ := by
  have run : xPure Try.prog G0 (E4 s) 200 noLoops 10 [s.av] [true] = .need (s.av = s.av) (.ite (!s.sizes) (.leaf (.bool false)) (.need (s.vF = s.vF ∧ s.gF = s.gF) (.ite (!s.anyF)
      (.need (s.vB = s.vB ∧ s.gB = s.gB) (.ite (!s.anyB) (.need (s.vL = s.vL ∧ s.gL = s.gL) (.ite (!s.anyL) (.need (s.vR = s.vR ∧ s.gR = s.gR) (.ite (!s.anyR)
      (.need (s.vK = s.vK ∧ s.gK = s.gK) (.ite (!s.anyK) (.need (s.vH = s.vH ∧ s.gH = s.gH) (.leaf (.bool (!s.anyH)))) (.leaf (.bool false)))) (.leaf (.bool false)))) (.leaf (.bool false)))) (.leaf (.bool false)))) (.leaf (.bool false))))) := by kernel_rfl
  refine xPure_ok (lp := noLoops) (n := 200) (tags := [true]) names mixed (clok4 s hf) gbelow0 (LoopsOk.none _) ?_ (fun x hx => s.below_mem hx) σ
  rw [run]
  unfold Site.ok
  cases s.sizes <;> cases s.anyF <;> cases s.anyB <;> cases s.anyL <;> cases s.anyR <;> cases s.anyK <;> simp [Tree.sel]

/-! ### Count and domain -/
def cl5 (s : Site) : FuncId → List AV → Option (Tree AV) := fun f xs => match f, xs with
  | 10, [x] => some (.need (x = s.av) (.leaf (.bool s.ok)))
  | 24, [.int .i64 n, .int .i64 l] => some (.leaf (.bool (idx n l)))
  | _, _ => none
def E5 (s : Site) : Env := { cl := cl5 s }
theorem clok5 (s : Site) (hf : s.Few) : ClOk Try.prog G0 (E5 s) := by
  refine .of rfl rfl ?_
  intro f xs t v h hs σ
  have h : cl5 s f xs = some t := h
  unfold cl5 at h
  split at h <;> first | (cases h; done) | skip
  · cases h
    obtain ⟨e1, hs2⟩ := Tree.of_need hs
    subst e1
    cases hs2
    exact c10 s hf σ
  · cases h
    cases hs
    exact c24 _ _ σ
end Go.Proofs.Ytbhbfndenpidoaa.Am
