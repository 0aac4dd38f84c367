/-
  This file proves that the statement 'SiteRacks' returns true for every site and hosts. No condition.
-/
import Derived.Test.YtbhbfndenpidoaaOpen
namespace Go.Proofs.Ytbhbfndenpidoaa.Am
open Go
set_option maxRecDepth 100000

def clR2 (s : Site) : FuncId → List AV → Option (Tree AV) := fun f xs => match f, xs with
  | 8, [x] => some (.need (x = s.av) (.leaf (.bool s.few)))
  | 9, [] => some (.leaf (.bool true))
  | 14, [x, .int .u8 d, .int .i64 h] => some (.need (x = s.av ∧ s.Few) (.leaf (I (s.domOf d h))))
  | _, _ => none
def ER2 (s : Site) : Env := { cl := clR2 s }
theorem clokR2 (s : Site) : ClOk Try.prog G0 (ER2 s) := by
  intro f xs t v h hs σ
  have h : clR2 s f xs = some t := h
  unfold clR2 at h
  split at h <;> first | (cases h; done) | skip
  · cases h
    obtain ⟨e1, hs2⟩ := Tree.of_need hs
    subst e1
    cases hs2
    exact c8 s σ
  · cases h
    cases hs
    exact live_call σ
  · cases h
    obtain ⟨⟨e1, hf⟩, hs2⟩ := Tree.of_need hs
    subst e1
    cases hs2
    exact c14 s hf _ _ σ

theorem dom_of_nonneg {s : Site} {d h : Int} (h0 : s.domOf d h ≥ 0) : (0 ≤ h ∧ h < s.nH) ∧ s.ok = true ∧ s.domOf d h = s.dom d h := by
  unfold Site.domOf at *
  cases h1 : idx h s.nH with
  | false => rw [h1] at h0; simp at h0
  | true =>
    cases h2 : s.ok with
    | false => rw [h1, h2] at h0; simp at h0
    | true => exact ⟨idx_iff.1 h1, rfl, rfl⟩
theorem dom_of_ok {s : Site} {d h : Int} (hh : 0 ≤ h ∧ h < s.nH) (h2 : s.ok = true) : s.domOf d h = s.dom d h := by
  unfold Site.domOf
  rw [idx_iff.2 hh, h2]; rfl
theorem racks_law {s : Site} {a b : Int} (h1 : s.domOf 2 a ≥ 0) (h2 : s.domOf 2 a = s.domOf 2 b) (d : Int) (hd : d = 3 ∨ d = 4 ∨ d = 5) : s.domOf d a = s.domOf d b ∧ s.domOf d a ≥ 0 := by
  obtain ⟨ha, hok, ea⟩ := dom_of_nonneg h1
  obtain ⟨hb, _, eb⟩ := dom_of_nonneg (s := s) (d := 2) (h := b) (by omega)
  rw [ea, eb] at h2
  have h2 : s.H a.toNat 0 = s.H b.toNat 0 := h2
  rw [dom_of_ok ha hok, dom_of_ok hb hok]
  have k1 := valid_host hok (i := a.toNat) (by omega)
  have k2 := valid_rack hok (i := (s.H a.toNat 0).toNat) (by omega)
  have k3 := valid_breaker hok (i := (s.R (s.H a.toNat 0).toNat 1).toNat) (by omega)
  rcases hd with rfl | rfl | rfl
  · show s.R (s.H a.toNat 0).toNat 0 = s.R (s.H b.toNat 0).toNat 0 ∧ s.R (s.H a.toNat 0).toNat 0 ≥ 0
    rw [← h2]; exact ⟨rfl, k2.1.1⟩
  · show s.B (s.R (s.H a.toNat 0).toNat 1).toNat 0 = s.B (s.R (s.H b.toNat 0).toNat 1).toNat 0 ∧ s.B (s.R (s.H a.toNat 0).toNat 1).toNat 0 ≥ 0
    rw [← h2]; exact ⟨rfl, k3.1⟩
  · show s.R (s.H a.toNat 0).toNat 2 = s.R (s.H b.toNat 0).toNat 2 ∧ s.R (s.H a.toNat 0).toNat 2 ≥ 0
    rw [← h2]; exact ⟨rfl, k2.2.2.1⟩

def needF (s : Site) (x : Tree AV) : Tree AV := .need (s.av = s.av ∧ s.Few) x
theorem needF_sel {s : Site} (hf : s.Few) {x : Tree AV} : (needF s x).sel = x.sel := Tree.sel_need ⟨rfl, hf⟩
def tF : Tree AV := .leaf (.bool false)
def tT : Tree AV := .leaf (.bool true)
theorem call6 (s : Site) (a b : Int) : ACall Try.prog G0 6 [s.av, I a, I b] [] (.bool true) [] := by
  have run : xPure Try.prog G0 (ER2 s) 200 noLoops 6 [s.av, I a, I b] [true, true, true] = .need (s.av = s.av) (.ite (!s.few) tT (needF s (.ite (decide (s.domOf 2 a < 0)) tT (needF s (needF s (.ite (s.domOf 2 a != s.domOf 2 b) tT
      (needF s (needF s (.ite (s.domOf 3 a == s.domOf 3 b) (needF s (.ite (decide (s.domOf 3 a ≥ 0))
      (needF s (needF s (.ite (s.domOf 4 a == s.domOf 4 b) (needF s (.ite (decide (s.domOf 4 a ≥ 0))
      (needF s (needF s (.ite (s.domOf 5 a == s.domOf 5 b) (needF s (.ite (decide (s.domOf 5 a ≥ 0)) tT tF)) tF))) tF)) tF))) tF)) tF))))))))) := by kernel_rfl
  refine xPure_ok (lp := noLoops) (n := 200) (tags := [true, true, true]) names mixed (clokR2 s) gbelow0 (LoopsOk.none _) ?_ (fun x hx => ?_) []
  · rw [run, selR, selI]
    by_cases h : s.few = true
    · have hf := s.few_iff.1 h
      rw [h]
      simp only [needF_sel hf, selI]
      by_cases h1 : s.domOf 2 a < 0
      · rw [decide_eq_true h1]; rfl
      · rw [decide_eq_false h1]
        by_cases h2 : s.domOf 2 a = s.domOf 2 b
        · obtain ⟨a3, b3⟩ := racks_law (by omega) h2 3 (by simp)
          obtain ⟨a4, b4⟩ := racks_law (by omega) h2 4 (by simp)
          obtain ⟨a5, b5⟩ := racks_law (by omega) h2 5 (by simp)
          rw [h2, bne_self_eq_false, decide_eq_true b3, decide_eq_true b4, decide_eq_true b5, a3, a4, a5, beq_self_eq_true, beq_self_eq_true, beq_self_eq_true]
          rfl
        · have : (s.domOf 2 a != s.domOf 2 b) = true := by simpa using h2
          rw [this]; rfl
    · have h : s.few = false := by simpa using h
      rw [h]; rfl
  · simp only [List.mem_cons, List.not_mem_nil, or_false] at hx
    rcases hx with rfl | rfl | rfl
    · exact s.below
    · exact .int _ _
    · exact .int _ _
end Go.Proofs.Ytbhbfndenpidoaa.Am

namespace Go.Proofs.Ytbhbfndenpidoaa.siteRacks
open Go.ChangeShapes Go.WideShapes Go.ChangeAt Go.RowKit Go.Proofs.Ytbhbfndenpidoaa.Am
set_option maxRecDepth 100000

theorem lifted (os : Os) (started : os.Started) (H : Type) (enc : TypeId × Value → H) :
    ReturnsInHanded {} Try.checked os 6 .any (Rows.siteRacksSpec.pre6 enc Try.prog Try.f6 Rows.siteRacksRow.domain false) (Rows.siteRacksSpec.post enc Try.prog Try.f6 false true false false) := by
  refine returnsInHanded_of_change (C := Try.checked) own started (by kernel_rfl) Try.func6
    (ChangeSpec.witness6 (enc := enc) (C := Try.checked) false ⟨#[], #[.agg #[.slice none 0 0, .slice none 0 0, .slice none 0 0, .slice none 0 0, .int .i64 0, .slice none 0 0, .slice none 0 0], .int .i64 0, .int .i64 0], []⟩ 8 (by kernel_rfl) (by kernel_rfl) (by kernel_rfl) (by kernel_rfl)) ?_
  intro W base args ds gs before hval0 hW hcnd _
  have hval : ∀ (j : Nat) t v, Try.f6.params[j]? = some t → args[j]? = some v → Value.okWide Try.prog W .any base t v := hval0
  have hW' := hW
  have hlt := hW.lt
  obtain ⟨p, q, hA0, hV, rfl, hfz, hnd⟩ := hW
  have hA : DataW.TrodAll enc Try.prog W 0 (fun _ => true) true Try.f6.params.toList args.toList ds p := hA0
  rw [Try.params6] at hA hval
  obtain ⟨v0, v1, v2, d0, d1, d2, p0, p1, p2, rfl, rfl, rfl, h0, h1, h2⟩ := trodAll_three hA
  obtain ⟨rfl, rfl⟩ := trodVars_none hV
  obtain ⟨s, hs⟩ := open_site (hval 0 29 v0 rfl rfl) h0
  obtain ⟨a, rfl, rfl, rfl, wa⟩ := open_int Try.underlying3 (hval 1 3 v1 rfl rfl) h1
  obtain ⟨b, rfl, rfl, rfl, wb⟩ := open_int Try.underlying3 (hval 2 3 v2 rfl rfl) h2
  clear hA0 hval0
  simp only [List.append_nil] at hW' hlt
  refine (top_call (w := W) (args := #[v0, .int .i64 a, .int .i64 b]) (call6 s a b) gtop0 ⟨rfl, fun j x hj => ?_⟩).mono fun e W' he => ?_
  · match j, hj with
    | 0, hj => cases hj; exact hs
    | 1, hj => cases hj; exact .int _ _
    | 2, hj => cases hj; exact .int _ _
    | j + 3, hj => simp at hj
  · obtain ⟨u, M', rfl, hu, hb⟩ := he
    cases hu
    exact ⟨_, rfl, post_of_below (pa := p0) (pv := []) hW' (fun _ _ _ => (trodAll_cons_mk (shut_bool Try.underlying4 _) trodAll_mk0))
      (fun sp hsp => by
        have h3 := trodAll_mk3 (stays (t := 29) (by kernel_rfl) (by kernel_rfl) h0 hb hlt hsp) (shut_int (enc := enc) (base := 0) (spare := sp) (held := true) (w := W') Try.underlying3 wa) (shut_int (enc := enc) (base := 0) (spare := sp) (held := true) (w := W') Try.underlying3 wb)
        simp only [List.append_nil] at h3
        exact h3) (fun _ _ => rfl) (by simp)
      hb (ok_one (by kernel_rfl) rfl (okWide_bool_mk Try.underlying4 _))⟩

theorem holds : Rows.SiteRacksSaid :=
  OpenClaim.holds_of_wide 6 Try.f6 rfl rfl rfl rfl rfl rfl rfl ⟨rfl, rfl, rfl, rfl, rfl⟩ rfl rfl rfl rfl rfl (by kernel_rfl) Try.func6 (by kernel_rfl)
    (of_decide_eq_true (by kernel_rfl)) (by unfold Func.isWrapper; first | (rw [if_pos (by decide +kernel)]; kernel_rfl) | (rw [if_neg (by decide +kernel)]; exact ⟨rfl, rfl⟩))
    (fun os started H enc _ => lifted os started H enc)
end Go.Proofs.Ytbhbfndenpidoaa.siteRacks
