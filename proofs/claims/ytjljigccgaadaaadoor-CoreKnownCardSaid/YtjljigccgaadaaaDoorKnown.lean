/-
  This file proves that the statement 'CoreKnown' returns true, with its table tied to the program's text. No condition.
-/
import Derived.Test.YtjljigccgaadaaaDoorLaid
import Derived.Test.YtjljigccgaadaaaDoorCards
import Derived.Test.YtjljigccgaadaaaDoorTie
namespace Go.Proofs.YtjljigccgaadaaaDoor.coreKnown
open Go.ChangeShapes Go.WideShapes Go.ChangeAt Go.RowKit Go.Proofs.YtjljigccgaadaaaDoor.Am
set_option maxRecDepth 100000

theorem call : ACall Tryd.prog G0 3 [] [] (.bool true) (hm 4097) := by
  obtain ⟨fn, c, k1, k2, k3⟩ := fnOf (f := 3) (by kernel_rfl)
  have hall := exec3
  rw [k3] at hall
  have hres : fn.results.toList = [.tmp 0] := by
    have : (Tryd.prog.funcs[3]?).map (·.results.toList) = some [.tmp 0] := by kernel_rfl
    rw [k1] at this
    exact Option.some.inj this
  have hnt : fn.ntmps = 355 := by
    have : (Tryd.prog.funcs[3]?).map (·.ntmps) = some 355 := by kernel_rfl
    rw [k1] at this
    exact Option.some.inj this
  refine ACall.of_body (args := []) (xs := [.bool true]) k1 k2 (names 3 fn k1) (.weak ?_ hall) (.inr rfl) ?_
  · have e : (st3z []).a = List.replicate 355 .junk := by kernel_rfl
    rw [hnt, e]
    refine ⟨by simp, fun j y hj => .inl (List.eq_of_mem_replicate (List.mem_of_getElem? hj))⟩
  · rw [hres]
    have : s3e.a[0]? = some (.bool true) := by kernel_rfl
    simp only [aResults, aResult, this]

theorem lifted (os : Os) (started : os.Started) (H : Type) (enc : TypeId × Value → H) :
    ReturnsInHanded {} Tryd.checked os 3 .any (fun w args => (Rows.coreKnownSpec.pre enc Tryd.prog Tryd.f3 Rows.coreKnownRow.domain false w args ∧ laidMet Tryd.prog laidL w) ∧ sizedMet enc Tryd.prog Tryd.f3 (OpenSpec.ofChange Rows.coreKnownSpec) false w args)
      (Rows.coreKnownSpec.post enc Tryd.prog Tryd.f3 false true false false) := by
  refine returnsInHanded_of_change_and (C := Tryd.checked) (X := fun w _ => laidMet Tryd.prog laidL w) (fun _ _ _ hh h => h.of_heap hh) own started (by kernel_rfl) Tryd.func3
    (ChangeSpec.witness_at (enc := enc) (C := Tryd.checked) (os := os) (X := fun w _ => laidMet Tryd.prog laidL w) false (tabWorld os) #[] 8 rfl (by kernel_rfl) (by kernel_rfl) (by kernel_rfl) (by kernel_rfl) (by kernel_rfl) (tab_met os _)) ?_
  intro W base args ds gs before hval0 hW hcnd _ hL _
  have hW' := hW
  obtain ⟨p, q, hA0, hV, rfl, hfz, hnd⟩ := hW
  have hA : DataW.TrodAll enc Tryd.prog W 0 (fun _ => true) true Tryd.f3.params.toList args.toList ds p := hA0
  rw [Tryd.params3] at hA
  obtain ⟨hargs, rfl, rfl⟩ := trodAll_nil hA
  obtain rfl : args = #[] := by cases args; simp_all
  obtain ⟨rfl, rfl⟩ := trodVars_none hV
  simp only [List.append_nil] at hW'
  refine (top_call (w := W) (args := #[]) call (tab_of_laid hL) ⟨rfl, fun j x hj => by simp at hj⟩).mono fun e W' he => ?_
  obtain ⟨u, M', rfl, hu, hb⟩ := he
  cases hu
  exact ⟨_, rfl, post_of_below (pa := []) (pv := []) hW' (fun _ _ _ => (trodAll_cons_mk (shut_bool Tryd.underlying4 _) trodAll_mk0)) (fun sp _ => trodAll_mk0) (fun _ _ => rfl) rfl
    hb (ok_one (by kernel_rfl) rfl (okWide_bool_mk Tryd.underlying4 _))⟩

theorem row_holds : Rows.CoreKnownSaid :=
  OpenClaim.holds_of_wide 3 Tryd.f3 rfl rfl rfl rfl rfl rfl rfl ⟨rfl, rfl, rfl, rfl, rfl⟩ rfl rfl rfl rfl rfl (by kernel_rfl) Tryd.func3 (by kernel_rfl)
    (of_decide_eq_true (by kernel_rfl)) (by unfold Func.isWrapper; first | (rw [if_pos (by decide +kernel)]; kernel_rfl) | (rw [if_neg (by decide +kernel)]; exact ⟨rfl, rfl⟩))
    (fun os started H enc _ => lifted os started H enc)
theorem holds : Rows.CoreKnownCardSaid :=
  Claim7.holds_tied_plain_at .later [] [.data] true _ false
    row_holds (fun _ h => by cases h) (by kernel_rfl) (fun _ h => by cases h) coreKnown_row_tie rfl ⟨rfl, rfl⟩ (by kernel_rfl) rfl
    (fun f fn hf hfn => by
      obtain rfl : f = 3 := Option.some.inj ((show Tryd.prog.funcNamed "majordomo/majordomolaw09.CoreKnown" = some 3 by kernel_rfl).symm.trans hf) |>.symm
      obtain rfl : fn = Tryd.f3 := (Option.some.inj (Tryd.func3.symm.trans hfn)).symm
      exact ⟨by kernel_rfl, fun j t ht => by
        rw [Tryd.params3] at ht
        simp at ht⟩)
    (by kernel_rfl)
end Go.Proofs.YtjljigccgaadaaaDoor.coreKnown
