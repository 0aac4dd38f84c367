/-
  This file proves that the statement 'SiteDomains' returns true for every site, kind, host and number. No condition.
-/
import Derived.Test.YtbhbfndenpidoaaSite12
import Derived.Test.YtbhbfndenpidoaaOpen
namespace Go.Proofs.Ytbhbfndenpidoaa.Am
open Go
set_option maxRecDepth 100000

def clD (s : Site) (d0 n0 : Int) : FuncId → List AV → Option (Tree AV) := fun f xs => match f, xs with
  | 8, [x] => some (.need (x = s.av) (.leaf (.bool s.few)))
  | 9, [] => some (.leaf (.bool true))
  | 14, [x, .int .u8 d, .int .i64 h] => some (.need (x = s.av ∧ s.Few) (.leaf (I (s.domOf d h))))
  | 15, [x, .int .u8 d, .int .i64 h] => some (.need (x = s.av ∧ s.Few) (.leaf (I (s.domOf d h))))
  | 17, [x, .int .u8 d, .int .i64 n] => some (.need (x = s.av ∧ s.Few) (.leaf (flL (s.members d n))))
  | 18, [x, .int .u8 d, .int .i64 n] => some (.need (x = s.av ∧ s.Few) (.leaf (flL (s.members d n))))
  | 16, [x, y] => some (.need (x = flL (s.members d0 n0) ∧ y = flL (s.members d0 n0) ∧ s.Few) (.leaf (.bool true)))
  | _, _ => none
def ED (s : Site) (d0 n0 : Int) : Env := { cl := clD s d0 n0 }
theorem clokD (s : Site) (d0 n0 : Int) : ClOk Try.prog G0 (ED s d0 n0) := by
  intro f xs t v h hs σ
  have h : clD s d0 n0 f xs = some t := h
  unfold clD at h
  split at h <;> first | (cases h; done) | skip
  · cases h
    obtain ⟨e1, hs2⟩ := Tree.of_need hs
    subst e1
    cases hs2
    exact c8 s σ
  · cases h
    cases hs
    exact live_call σ
  · cases h
    obtain ⟨⟨e1, hf⟩, hs2⟩ := Tree.of_need hs
    subst e1
    cases hs2
    exact c14 s hf _ _ σ
  · cases h
    obtain ⟨⟨e1, hf⟩, hs2⟩ := Tree.of_need hs
    subst e1
    cases hs2
    exact c15 s hf _ _ σ
  · cases h
    obtain ⟨⟨e1, hf⟩, hs2⟩ := Tree.of_need hs
    subst e1
    cases hs2
    exact c17' s hf _ _ σ
  · cases h
    obtain ⟨⟨e1, hf⟩, hs2⟩ := Tree.of_need hs
    subst e1
    cases hs2
    exact c18' s hf _ _ σ
  · cases h
    obtain ⟨⟨e1, e2, hf⟩, hs2⟩ := Tree.of_need hs
    subst e1
    subst e2
    cases hs2
    exact c16 _ (members_len s hf d0 n0) σ

def needG (s : Site) (x : Tree AV) : Tree AV := .need (s.av = s.av ∧ s.Few) x
theorem needG_sel {s : Site} (hf : s.Few) {x : Tree AV} : (needG s x).sel = x.sel := Tree.sel_need ⟨rfl, hf⟩
theorem call4 (s : Site) (d h n : Int) : ACall Try.prog G0 4 [s.av, .int .u8 d, I h, I n] [] (.bool true) [] := by
  have run : xPure Try.prog G0 (ED s d n) 200 noLoops 4 [s.av, .int .u8 d, I h, I n] [true, true, true, true] = .need (s.av = s.av) (.ite (!s.few) (.leaf (.bool true)) (needG s (needG s (.ite (s.domOf d h == s.domOf d h)
      (needG s (needG s (.need (flL (s.members d n) = flL (s.members d n) ∧ flL (s.members d n) = flL (s.members d n) ∧ s.Few) (.ite true (.leaf (.bool true)) (.leaf (.bool false)))))) (.leaf (.bool false)))))) := by kernel_rfl
  refine xPure_ok (lp := noLoops) (n := 200) (tags := [true, true, true, true]) names mixed (clokD s d n) gbelow0 (LoopsOk.none _) ?_ (fun x hx => ?_) []
  · rw [run, selR, selI]
    by_cases hh : s.few = true
    · have hf := s.few_iff.1 hh
      rw [hh, needG_sel hf, needG_sel hf, selI, beq_self_eq_true, needG_sel hf, needG_sel hf, Tree.sel_need ⟨rfl, rfl, hf⟩]
      rfl
    · have hh : s.few = false := by simpa using hh
      rw [hh]; rfl
  · simp only [List.mem_cons, List.not_mem_nil, or_false] at hx
    rcases hx with rfl | rfl | rfl | rfl
    · exact s.below
    · exact .int _ _
    · exact .int _ _
    · exact .int _ _
end Go.Proofs.Ytbhbfndenpidoaa.Am

namespace Go.Proofs.Ytbhbfndenpidoaa.siteDomains
open Go.ChangeShapes Go.WideShapes Go.ChangeAt Go.RowKit Go.Proofs.Ytbhbfndenpidoaa.Am
set_option maxRecDepth 100000

theorem lifted (os : Os) (started : os.Started) (H : Type) (enc : TypeId × Value → H) :
    ReturnsInHanded {} Try.checked os 4 .any (Rows.siteDomainsSpec.pre6 enc Try.prog Try.f4 Rows.siteDomainsRow.domain false) (Rows.siteDomainsSpec.post enc Try.prog Try.f4 false true false false) := by
  refine returnsInHanded_of_change (C := Try.checked) own started (by kernel_rfl) Try.func4
    (ChangeSpec.witness6 (enc := enc) (C := Try.checked) false ⟨#[], #[.agg #[.slice none 0 0, .slice none 0 0, .slice none 0 0, .slice none 0 0, .int .i64 0, .slice none 0 0, .slice none 0 0], .int .u8 0, .int .i64 0, .int .i64 0], []⟩ 8 (by kernel_rfl) (by kernel_rfl) (by kernel_rfl) (by kernel_rfl)) ?_
  intro W base args ds gs before hval0 hW hcnd _
  have hval : ∀ (j : Nat) t v, Try.f4.params[j]? = some t → args[j]? = some v → Value.okWide Try.prog W .any base t v := hval0
  have hW' := hW
  have hlt := hW.lt
  obtain ⟨p, q, hA0, hV, rfl, hfz, hnd⟩ := hW
  have hA : DataW.TrodAll enc Try.prog W 0 (fun _ => true) true Try.f4.params.toList args.toList ds p := hA0
  rw [Try.params4] at hA hval
  obtain ⟨v0, v1, v2, v3, d0, d1, d2, d3, p0, p1, p2, p3, rfl, rfl, rfl, h0, h1, h2, h3⟩ := trodAll_four hA
  obtain ⟨rfl, rfl⟩ := trodVars_none hV
  obtain ⟨s, hs⟩ := open_site (hval 0 29 v0 rfl rfl) h0
  obtain ⟨a, rfl, rfl, rfl, wa⟩ := open_int Try.underlying30 (hval 1 30 v1 rfl rfl) h1
  obtain ⟨b, rfl, rfl, rfl, wb⟩ := open_int Try.underlying3 (hval 2 3 v2 rfl rfl) h2
  obtain ⟨c, rfl, rfl, rfl, wc⟩ := open_int Try.underlying3 (hval 3 3 v3 rfl rfl) h3
  clear hA0 hval0
  simp only [List.append_nil] at hW' hlt
  refine (top_call (w := W) (args := #[v0, .int .u8 a, .int .i64 b, .int .i64 c]) (call4 s a b c) gtop0 ⟨rfl, fun j x hj => ?_⟩).mono fun e W' he => ?_
  · match j, hj with
    | 0, hj => cases hj; exact hs
    | 1, hj => cases hj; exact .int _ _
    | 2, hj => cases hj; exact .int _ _
    | 3, hj => cases hj; exact .int _ _
    | j + 4, hj => simp at hj
  · obtain ⟨u, M', rfl, hu, hb⟩ := he
    cases hu
    exact ⟨_, rfl, post_of_below (pa := p0) (pv := []) hW' (fun _ _ _ => (trodAll_cons_mk (shut_bool Try.underlying4 _) trodAll_mk0))
      (fun sp hsp => by
        have h5 := trodAll_mk4 (stays (t := 29) (by kernel_rfl) (by kernel_rfl) h0 hb hlt hsp) (shut_int (enc := enc) (base := 0) (spare := sp) (held := true) (w := W') Try.underlying30 wa) (shut_int (enc := enc) (base := 0) (spare := sp) (held := true) (w := W') Try.underlying3 wb) (shut_int (enc := enc) (base := 0) (spare := sp) (held := true) (w := W') Try.underlying3 wc)
        simp only [List.append_nil] at h5
        exact h5) (fun _ _ => rfl) (by simp)
      hb (ok_one (by kernel_rfl) rfl (okWide_bool_mk Try.underlying4 _))⟩

theorem holds : Rows.SiteDomainsSaid :=
  OpenClaim.holds_of_wide 4 Try.f4 rfl rfl rfl rfl rfl rfl rfl ⟨rfl, rfl, rfl, rfl, rfl⟩ rfl rfl rfl rfl rfl (by kernel_rfl) Try.func4 (by kernel_rfl)
    (of_decide_eq_true (by kernel_rfl)) (by unfold Func.isWrapper; first | (rw [if_pos (by decide +kernel)]; kernel_rfl) | (rw [if_neg (by decide +kernel)]; exact ⟨rfl, rfl⟩))
    (fun os started H enc _ => lifted os started H enc)
end Go.Proofs.Ytbhbfndenpidoaa.siteDomains
