/-
  This file proves that the statement 'CoreHits' returns true for every input, with its table tied to the program's text. No condition.
-/
import Derived.Test.YtjljigccgaadaaaDoorMg7
import Derived.Test.YtjljigccgaadaaaDoorMg10
import Derived.Test.YtjljigccgaadaaaDoorCards
import Derived.Test.YtjljigccgaadaaaDoorTie
namespace Go.Proofs.YtjljigccgaadaaaDoor.coreHits
open Go.ChangeShapes Go.WideShapes Go.ChangeAt Go.RowKit Go.Proofs.YtjljigccgaadaaaDoor.Am
set_option maxRecDepth 100000

theorem lifted (os : Os) (started : os.Started) (H : Type) (enc : TypeId × Value → H) :
    ReturnsInHanded {} Tryd.checked os 10 .any (fun w args => (Rows.coreHitsSpec.pre enc Tryd.prog Tryd.f10 Rows.coreHitsRow.domain false w args ∧ laidMet Tryd.prog laidL w) ∧ sizedMet enc Tryd.prog Tryd.f10 (OpenSpec.ofChange Rows.coreHitsSpec) false w args)
      (Rows.coreHitsSpec.post enc Tryd.prog Tryd.f10 false true false false) := by
  refine returnsInHanded_of_change_and (C := Tryd.checked) (X := fun w _ => laidMet Tryd.prog laidL w) (fun _ _ _ hh h => h.of_heap hh) own started (by kernel_rfl) Tryd.func10
    (ChangeSpec.witness_at (enc := enc) (C := Tryd.checked) (os := os) (X := fun w _ => laidMet Tryd.prog laidL w) false (tabWorld os) #[.int .i64 0, .slice none 0 0] 8 rfl (by kernel_rfl) (by kernel_rfl) (by kernel_rfl) (by kernel_rfl) (by kernel_rfl) (tab_met os _)) ?_
  intro W base args ds gs before hval0 hW hcnd hsz hL _
  have hval : ∀ (j : Nat) t v, Tryd.f10.params[j]? = some t → args[j]? = some v → Value.okWide Tryd.prog W .any base t v := hval0
  have hW' := hW
  obtain ⟨p, q, hA0, hV, rfl, hfz, hnd⟩ := hW
  have hA : DataW.TrodAll enc Tryd.prog W 0 (fun _ => true) true Tryd.f10.params.toList args.toList ds p := hA0
  rw [Tryd.params10] at hA hval
  obtain ⟨v0, v1, d0, d1, p0, p1, rfl, rfl, rfl, h0, h1⟩ := trodAll_two hA
  obtain ⟨rfl, rfl⟩ := trodVars_none hV
  obtain ⟨a, rfl, rfl, rfl, wa⟩ := open_int Tryd.underlying3 (hval 0 3 v0 rfl rfl) h0
  obtain ⟨B, hB, hB2⟩ := open_lists (hval 1 29 v1 rfl rfl) h1
  have hBl : B.length < 4611686018427387904 := by
    rcases hB2 with rfl | ⟨elems, spare, hd, hl⟩
    · simp
    · have h8 : Tryd.checked.prog.bytesOf 22 = 24 := by kernel_rfl
      have := sized_slice (j := 1) (t := 29) (elems := elems) (spare := spare) hsz (by rw [Tryd.params10]; rfl) (by rw [← hd]; rfl) Tryd.underlying29
      rw [h8] at this
      have h3 := reachBytes_lt
      omega
  clear hA0 hval0
  have hlt := hW'.lt
  simp only [List.append_nil, List.nil_append] at hW' hlt
  have hcall := c10 a hBl
  refine (top_call (w := W) (args := #[.int .i64 a, v1]) hcall (tab_of_laid hL) ⟨rfl, fun j x hj => ?_⟩).mono fun e W' he => ?_
  · match j, hj with
    | 0, hj => cases hj; exact .int _ _
    | 1, hj => cases hj; exact hB
    | j + 2, hj => simp at hj
  · obtain ⟨u, M', rfl, hu, hb⟩ := he
    cases hu
    exact ⟨_, rfl, post_of_below (pa := p1) (pv := []) hW' (fun _ _ _ => (trodAll_cons_mk (shut_bool Tryd.underlying4 _) trodAll_mk0))
      (fun sp hsp => by
        have h5 := trodAll_mk2 (shut_int (enc := enc) (base := 0) (spare := sp) (held := true) (w := W') Tryd.underlying3 wa) (stays (t := 29) (by kernel_rfl) (by kernel_rfl) h1 hb hlt hsp)
        simp only [List.nil_append] at h5
        exact h5) (fun _ _ => rfl) (by simp)
      hb (ok_one (by kernel_rfl) rfl (okWide_bool_mk Tryd.underlying4 _))⟩

theorem row_holds : Rows.CoreHitsSaid :=
  OpenClaim.holds_of_wide 10 Tryd.f10 rfl rfl rfl rfl rfl rfl rfl ⟨rfl, rfl, rfl, rfl, rfl⟩ rfl rfl rfl rfl rfl (by kernel_rfl) Tryd.func10 (by kernel_rfl)
    (of_decide_eq_true (by kernel_rfl)) (by unfold Func.isWrapper; first | (rw [if_pos (by decide +kernel)]; kernel_rfl) | (rw [if_neg (by decide +kernel)]; exact ⟨rfl, rfl⟩))
    (fun os started H enc _ => lifted os started H enc)
theorem holds : Rows.CoreHitsCardSaid :=
  Claim7.holds_tied_plain_at .later [] [.data] true _ false
    row_holds (fun _ h => by cases h) (by kernel_rfl) (fun _ h => by cases h) coreHits_row_tie rfl ⟨rfl, rfl⟩ (by kernel_rfl) rfl
    (fun f fn hf hfn => by
      obtain rfl : f = 10 := Option.some.inj ((show Tryd.prog.funcNamed "majordomo/majordomolaw09.CoreHits" = some 10 by kernel_rfl).symm.trans hf) |>.symm
      obtain rfl : fn = Tryd.f10 := (Option.some.inj (Tryd.func10.symm.trans hfn)).symm
      exact ⟨by kernel_rfl, fun j t ht => by
        rw [Tryd.params10] at ht
        match j, ht with
        | 0, ht => cases ht; exact (show Tryd.prog.wantsStandIn 3 = false by kernel_rfl)
        | 1, ht => cases ht; exact (show Tryd.prog.wantsStandIn 29 = false by kernel_rfl)
        | j + 2, ht => simp at ht⟩)
    (by kernel_rfl)
end Go.Proofs.YtjljigccgaadaaaDoor.coreHits
