/-
  This file proves that the statement 'SiteValid' returns true for every site and kind. No condition.
-/
import Derived.Test.YtbhbfndenpidoaaOpen
namespace Go.Proofs.Ytbhbfndenpidoaa.Am
open Go
set_option maxRecDepth 100000

def clV (s : Site) : FuncId → List AV → Option (Tree AV) := fun f xs => match f, xs with
  | 8, [x] => some (.need (x = s.av) (.leaf (.bool s.few)))
  | 9, [] => some (.leaf (.bool true))
  | 10, [x] => some (.need (x = s.av ∧ s.Few) (.leaf (.bool s.ok)))
  | 11, [x] => some (.need (x = s.av ∧ s.Few) (.leaf (.bool s.ok)))
  | 12, [x, .int .u8 d] => some (.need (x = s.av ∧ s.Few) (.leaf (I (s.count d))))
  | 13, [x, .int .u8 d] => some (.need (x = s.av ∧ s.Few) (.leaf (I (s.count d))))
  | _, _ => none
def EV (s : Site) : Env := { cl := clV s }
theorem clokV (s : Site) : ClOk Try.prog G0 (EV s) := by
  intro f xs t v h hs σ
  have h : clV s f xs = some t := h
  unfold clV at h
  split at h <;> first | (cases h; done) | skip
  · cases h
    obtain ⟨e1, hs2⟩ := Tree.of_need hs
    subst e1
    cases hs2
    exact c8 s σ
  · cases h
    cases hs
    exact live_call σ
  all_goals
    cases h
    obtain ⟨⟨e1, hf⟩, hs2⟩ := Tree.of_need hs
    subst e1
    cases hs2
  · exact c10 s hf σ
  · rw [ok_eq s hf]; exact c11 s hf σ
  · exact c12 s hf _ σ
  · exact c13 s hf _ σ

theorem call3 (s : Site) (d : Int) : ACall Try.prog G0 3 [s.av, .int .u8 d] [] (.bool true) [] := by
  have run : xPure Try.prog G0 (EV s) 200 noLoops 3 [s.av, .int .u8 d] [true, true] = .need (s.av = s.av) (.ite (!s.few) (.leaf (.bool true)) (.need (s.av = s.av ∧ s.Few) (.need (s.av = s.av ∧ s.Few) (.ite (s.ok == s.ok)
      (.need (s.av = s.av ∧ s.Few) (.need (s.av = s.av ∧ s.Few) (.ite (s.count d == s.count d) (.leaf (.bool true)) (.leaf (.bool false))))) (.leaf (.bool false)))))) := by kernel_rfl
  refine xPure_ok (lp := noLoops) (n := 200) (tags := [true, true]) names mixed (clokV s) gbelow0 (LoopsOk.none _) ?_ (fun x hx => below_sd s hx) []
  rw [run, selR, selI]
  by_cases h : s.few = true
  · have hf := s.few_iff.1 h
    have hn : s.av = s.av ∧ s.Few := ⟨rfl, hf⟩
    rw [h, Tree.sel_need hn, Tree.sel_need hn, selI, Tree.sel_need hn, Tree.sel_need hn, selI, beq_self_eq_true, beq_self_eq_true]
    rfl
  · have h : s.few = false := by simpa using h
    rw [h]; rfl
end Go.Proofs.Ytbhbfndenpidoaa.Am

namespace Go.Proofs.Ytbhbfndenpidoaa.siteValid
open Go.ChangeShapes Go.WideShapes Go.ChangeAt Go.RowKit Go.Proofs.Ytbhbfndenpidoaa.Am
set_option maxRecDepth 100000

theorem lifted (os : Os) (started : os.Started) (H : Type) (enc : TypeId × Value → H) :
    ReturnsInHanded {} Try.checked os 3 .any (Rows.siteValidSpec.pre6 enc Try.prog Try.f3 Rows.siteValidRow.domain false) (Rows.siteValidSpec.post enc Try.prog Try.f3 false true false false) := by
  refine returnsInHanded_of_change (C := Try.checked) own started (by kernel_rfl) Try.func3
    (ChangeSpec.witness6 (enc := enc) (C := Try.checked) false ⟨#[], #[.agg #[.slice none 0 0, .slice none 0 0, .slice none 0 0, .slice none 0 0, .int .i64 0, .slice none 0 0, .slice none 0 0], .int .u8 0], []⟩ 8 (by kernel_rfl) (by kernel_rfl) (by kernel_rfl) (by kernel_rfl)) ?_
  intro W base args ds gs before hval0 hW hcnd _
  have hval : ∀ (j : Nat) t v, Try.f3.params[j]? = some t → args[j]? = some v → Value.okWide Try.prog W .any base t v := hval0
  have hW' := hW
  have hlt := hW.lt
  obtain ⟨p, q, hA0, hV, rfl, hfz, hnd⟩ := hW
  have hA : DataW.TrodAll enc Try.prog W 0 (fun _ => true) true Try.f3.params.toList args.toList ds p := hA0
  rw [Try.params3] at hA hval
  obtain ⟨v0, v1, d0, d1, p0, p1, rfl, rfl, rfl, h0, h1⟩ := trodAll_two hA
  obtain ⟨rfl, rfl⟩ := trodVars_none hV
  obtain ⟨s, hs⟩ := open_site (hval 0 29 v0 rfl rfl) h0
  obtain ⟨a, rfl, rfl, rfl, wa⟩ := open_int Try.underlying30 (hval 1 30 v1 rfl rfl) h1
  clear hA0 hval0
  simp only [List.append_nil] at hW' hlt
  refine (top_call (w := W) (args := #[v0, .int .u8 a]) (call3 s a) gtop0 ⟨rfl, fun j x hj => ?_⟩).mono fun e W' he => ?_
  · match j, hj with
    | 0, hj => cases hj; exact hs
    | 1, hj => cases hj; exact .int _ _
    | j + 2, hj => simp at hj
  · obtain ⟨u, M', rfl, hu, hb⟩ := he
    cases hu
    exact ⟨_, rfl, post_of_below (pa := p0) (pv := []) hW' (fun _ _ _ => (trodAll_cons_mk (shut_bool Try.underlying4 _) trodAll_mk0))
      (fun sp hsp => by
        have h2 := trodAll_mk2 (stays (t := 29) (by kernel_rfl) (by kernel_rfl) h0 hb hlt hsp) (shut_int (enc := enc) (base := 0) (spare := sp) (held := true) (w := W') Try.underlying30 wa)
        rw [List.append_nil] at h2
        exact h2) (fun _ _ => rfl) (by simp)
      hb (ok_one (by kernel_rfl) rfl (okWide_bool_mk Try.underlying4 _))⟩

theorem holds : Rows.SiteValidSaid :=
  OpenClaim.holds_of_wide 3 Try.f3 rfl rfl rfl rfl rfl rfl rfl ⟨rfl, rfl, rfl, rfl, rfl⟩ rfl rfl rfl rfl rfl (by kernel_rfl) Try.func3 (by kernel_rfl)
    (of_decide_eq_true (by kernel_rfl)) (by unfold Func.isWrapper; first | (rw [if_pos (by decide +kernel)]; kernel_rfl) | (rw [if_neg (by decide +kernel)]; exact ⟨rfl, rfl⟩))
    (fun os started H enc _ => lifted os started H enc)
end Go.Proofs.Ytbhbfndenpidoaa.siteValid
