/-
  This file proves that the statement 'SiteParts' returns true for every site. No condition.
-/
import Derived.Test.YtbhbfndenpidoaaParts3
import Derived.Test.YtbhbfndenpidoaaOpen
namespace Go.Proofs.Ytbhbfndenpidoaa.Am
open Go
set_option maxRecDepth 100000

def clq (s : Site) : FuncId → List AV → Option (Tree AV) := fun f xs => match f, xs with
  | 8, [x] => some (.need (x = s.av) (.leaf (.bool s.few)))
  | 9, [] => some (.leaf (.bool true))
  | 11, [x] => some (.need (x = s.av ∧ s.Few) (.leaf (.bool s.ok)))
  | _, _ => none
def Eqq (s : Site) : Env := { cl := clq s }
theorem clokq (s : Site) : ClOk Try.prog G0 (Eqq s) := by
  refine .of rfl rfl ?_
  intro f xs t v h hs σ
  have h : clq s f xs = some t := h
  unfold clq at h
  split at h <;> first | (cases h; done) | skip
  · cases h
    obtain ⟨e1, hs2⟩ := Tree.of_need hs
    subst e1
    cases hs2
    exact c8 s σ
  · cases h
    cases hs
    exact live_call σ
  · cases h
    obtain ⟨⟨e1, hf⟩, hs2⟩ := Tree.of_need hs
    subst e1
    cases hs2
    rw [ok_eq s hf]
    exact c11 s hf σ
def lpq (s : Site) (r : Tree (Exit × St)) : Loops := fun id => match id with
  | 4 => some ([1,2,3], stPd s 1, r)
  | _ => none
theorem loops5 : loopsOf (bodyOf Try.prog 5) = [bodyPd, bodyPi, bodyPk, bodyPe] := by kernel_rfl
theorem idPd : idOf bodyPd = 4 := by kernel_rfl
theorem lpokq (s : Site) {r : Tree (Exit × St)} (h : ∀ e st', r.sel = some (e, st') → AExec Try.prog G0 (fun r => r = none) (.loop bodyPd) { tmps := (stPd s 1).a } [] e { tmps := st'.a } st'.h ∧ st'.n = 113) :
    LoopsOk Try.prog G0 (fun r => r = none) [] (lpq s r) (bodyOf Try.prog 5) := by
  refine .of_list _ fun x hx => ?_
  rw [loops5] at hx
  simp only [List.mem_cons, List.not_mem_nil, or_false] at hx
  intro keep s0 t e st' h' hs
  rcases hx with rfl | rfl | rfl | rfl
  · rw [idPd] at h'; cases h'; exact h e st' hs
  · rw [idPi] at h'; cases h'
  · rw [idPk] at h'; cases h'
  · rw [idPe] at h'; cases h'
theorem call5 (s : Site) : ACall Try.prog G0 5 [s.av] [] (.bool true) [] := by
  by_cases hh : s.few = true ∧ s.ok = true
  · have hf := s.few_iff.1 hh.1
    have run : xPure Try.prog G0 (Eqq s) 200 (lpq s (.leaf (.exit 0, stPd s 6))) 5 [s.av] [true] = .need (s.av = s.av) (.ite (!s.few) (.leaf (.bool true)) (.need (s.av = s.av ∧ s.Few) (.ite (!s.ok) (.leaf (.bool true)) (.need ((stPd s 1).vals = (stPd s 1).vals) (.leaf (.bool true)))))) := by kernel_rfl
    refine xPure_ok (n := 200) (tags := [true]) names mixed (clokq s) gbelow0 (lpokq s (r := .leaf (.exit 0, stPd s 6)) fun e st' h => ?_) ?_ (fun x hx => s.below_mem hx) []
    · cases h; exact ⟨loopPd hf hh.2, rfl⟩
    · rw [run, selR, selI, hh.1, Bool.not_true, cond_false, Tree.sel_need ⟨rfl, hf⟩, selI, hh.2, Bool.not_true, cond_false, selR]
      rfl
  · have run : xPure Try.prog G0 (Eqq s) 200 (lpq s .fail) 5 [s.av] [true] = .need (s.av = s.av) (.ite (!s.few) (.leaf (.bool true)) (.need (s.av = s.av ∧ s.Few) (.ite (!s.ok) (.leaf (.bool true)) (.need ((stPd s 1).vals = (stPd s 1).vals) .fail)))) := by kernel_rfl
    refine xPure_ok (n := 200) (tags := [true]) names mixed (clokq s) gbelow0 (lpokq s (r := .fail) fun e st' h => ?_) ?_ (fun x hx => s.below_mem hx) []
    · cases h
    · rw [run, selR, selI]
      cases h1 : s.few with
      | false => rfl
      | true =>
        have h2 : s.ok = false := by
          cases h2 : s.ok with
          | false => rfl
          | true => exact absurd ⟨h1, h2⟩ hh
        rw [Bool.not_true, cond_false, Tree.sel_need ⟨rfl, s.few_iff.1 h1⟩, selI, h2]
        rfl
end Go.Proofs.Ytbhbfndenpidoaa.Am

namespace Go.Proofs.Ytbhbfndenpidoaa.siteParts
open Go.ChangeShapes Go.WideShapes Go.ChangeAt Go.RowKit Go.Proofs.Ytbhbfndenpidoaa.Am
set_option maxRecDepth 100000

theorem lifted (os : Os) (started : os.Started) (H : Type) (enc : TypeId × Value → H) :
    ReturnsInHanded {} Try.checked os 5 .any (Rows.sitePartsSpec.pre6 enc Try.prog Try.f5 Rows.sitePartsRow.domain false) (Rows.sitePartsSpec.post enc Try.prog Try.f5 false true false false) := by
  refine returnsInHanded_of_change (C := Try.checked) own started (by kernel_rfl) Try.func5
    (ChangeSpec.witness6 (enc := enc) (C := Try.checked) false ⟨#[], #[.agg #[.slice none 0 0, .slice none 0 0, .slice none 0 0, .slice none 0 0, .int .i64 0, .slice none 0 0, .slice none 0 0]], []⟩ 8 (by kernel_rfl) (by kernel_rfl) (by kernel_rfl) (by kernel_rfl)) ?_
  intro W base args ds gs before hval0 hW hcnd _
  have hval : ∀ (j : Nat) t v, Try.f5.params[j]? = some t → args[j]? = some v → Value.okWide Try.prog W .any base t v := hval0
  have hW' := hW
  have hlt := hW.lt
  obtain ⟨p, q, hA0, hV, rfl, hfz, hnd⟩ := hW
  have hA : DataW.TrodAll enc Try.prog W 0 (fun _ => true) true Try.f5.params.toList args.toList ds p := hA0
  rw [Try.params5] at hA hval
  obtain ⟨v0, d0, rfl, rfl, h0⟩ := trodAll_one hA
  obtain ⟨rfl, rfl⟩ := trodVars_none hV
  obtain ⟨s, hs⟩ := open_site (hval 0 29 v0 rfl rfl) h0
  clear hA0 hval0
  simp only [List.append_nil] at hW' hlt
  refine (top_call (w := W) (args := #[v0]) (call5 s) gtop0 ⟨rfl, fun j x hj => ?_⟩).mono fun e W' he => ?_
  · match j, hj with
    | 0, hj => cases hj; exact hs
    | j + 1, hj => simp at hj
  · obtain ⟨u, M', rfl, hu, hb⟩ := he
    cases hu
    exact ⟨_, rfl, post_of_below (pa := p) (pv := []) hW' (fun _ _ _ => (trodAll_cons_mk (shut_bool Try.underlying4 _) trodAll_mk0))
      (fun sp hsp => by
        have h5 := trodAll_mk1 (stays (t := 29) (by kernel_rfl) (by kernel_rfl) h0 hb hlt hsp)
        exact h5) (fun _ _ => rfl) (by simp)
      hb (ok_one (by kernel_rfl) rfl (okWide_bool_mk Try.underlying4 _))⟩

theorem holds : Rows.SitePartsSaid :=
  OpenClaim.holds_of_wide 5 Try.f5 rfl rfl rfl rfl rfl rfl rfl ⟨rfl, rfl, rfl, rfl, rfl⟩ rfl rfl rfl rfl rfl (by kernel_rfl) Try.func5 (by kernel_rfl)
    (of_decide_eq_true (by kernel_rfl)) (by unfold Func.isWrapper; first | (rw [if_pos (by decide +kernel)]; kernel_rfl) | (rw [if_neg (by decide +kernel)]; exact ⟨rfl, rfl⟩))
    (fun os started H enc _ => lifted os started H enc)
end Go.Proofs.Ytbhbfndenpidoaa.siteParts
