/-
  This file proves that the statement 'CoreTables' returns true for every input, with its table tied to the program's text. No condition.
-/
import Derived.Test.YtjljigccgaadaaaDoorMg7
import Derived.Test.YtjljigccgaadaaaDoorMg10
import Derived.Test.YtjljigccgaadaaaDoorCards
import Derived.Test.YtjljigccgaadaaaDoorTie
namespace Go.Proofs.YtjljigccgaadaaaDoor.coreTables
open Go.ChangeShapes Go.WideShapes Go.ChangeAt Go.RowKit Go.Proofs.YtjljigccgaadaaaDoor.Am
set_option maxRecDepth 100000

theorem lifted (os : Os) (started : os.Started) (H : Type) (enc : TypeId × Value → H) :
    ReturnsInHanded {} Tryd.checked os 9 .any (fun w args => (Rows.coreTablesSpec.pre enc Tryd.prog Tryd.f9 Rows.coreTablesRow.domain false w args ∧ laidMet Tryd.prog laidL w) ∧ sizedMet enc Tryd.prog Tryd.f9 (OpenSpec.ofChange Rows.coreTablesSpec) false w args)
      (Rows.coreTablesSpec.post enc Tryd.prog Tryd.f9 false true false false) := by
  refine returnsInHanded_of_change_and (C := Tryd.checked) (X := fun w _ => laidMet Tryd.prog laidL w) (fun _ _ _ hh h => h.of_heap hh) own started (by kernel_rfl) Tryd.func9
    (ChangeSpec.witness_at (enc := enc) (C := Tryd.checked) (os := os) (X := fun w _ => laidMet Tryd.prog laidL w) false (tabWorld os) #[.int .u8 0, .int .u64 0, .slice none 0 0] 8 rfl (by kernel_rfl) (by kernel_rfl) (by kernel_rfl) (by kernel_rfl) (by kernel_rfl) (tab_met os _)) ?_
  intro W base args ds gs before hval0 hW hcnd hsz hL _
  have hval : ∀ (j : Nat) t v, Tryd.f9.params[j]? = some t → args[j]? = some v → Value.okWide Tryd.prog W .any base t v := hval0
  have hW' := hW
  obtain ⟨p, q, hA0, hV, rfl, hfz, hnd⟩ := hW
  have hA : DataW.TrodAll enc Tryd.prog W 0 (fun _ => true) true Tryd.f9.params.toList args.toList ds p := hA0
  rw [Tryd.params9] at hA hval
  obtain ⟨v0, v1, v2, d0, d1, d2, p0, p1, p2, rfl, rfl, rfl, h0, h1, h2⟩ := trodAll_three hA
  obtain ⟨rfl, rfl⟩ := trodVars_none hV
  obtain ⟨a, rfl, rfl, rfl, wa⟩ := open_int Tryd.underlying5 (hval 0 5 v0 rfl rfl) h0
  obtain ⟨c, rfl, rfl, rfl, wc⟩ := open_int Tryd.underlying37 (hval 1 37 v1 rfl rfl) h1
  obtain ⟨B, hB, hB2⟩ := open_ints (hval 2 22 v2 rfl rfl) h2
  obtain ⟨ha0, ha1⟩ := rangeU8 wa
  have hBl : B.length < 4611686018427387904 := by
    rcases hB2 with rfl | ⟨elems, spare, hd, hl⟩
    · simp
    · have h8 : Tryd.checked.prog.bytesOf 3 = 8 := by kernel_rfl
      have := sized_slice (j := 2) (t := 22) (elems := elems) (spare := spare) hsz (by rw [Tryd.params9]; rfl) (by rw [← hd]; rfl) Tryd.underlying22
      rw [h8] at this
      have h3 := reachBytes_lt
      omega
  clear hA0 hval0
  have hlt := hW'.lt
  simp only [List.append_nil, List.nil_append] at hW' hlt
  obtain ⟨σ', hcall⟩ := c9 (b := c) ha0 ha1 hBl
  refine (top_call (w := W) (args := #[.int .u8 a, .int .u64 c, v2]) hcall (tab_of_laid hL) ⟨rfl, fun j x hj => ?_⟩).mono fun e W' he => ?_
  · match j, hj with
    | 0, hj => cases hj; exact .int _ _
    | 1, hj => cases hj; exact .int _ _
    | 2, hj => cases hj; exact hB
    | j + 3, hj => simp at hj
  · obtain ⟨u, M', rfl, hu, hb⟩ := he
    cases hu
    exact ⟨_, rfl, post_of_below (pa := p2) (pv := []) hW' (fun _ _ _ => (trodAll_cons_mk (shut_bool Tryd.underlying4 _) trodAll_mk0))
      (fun sp hsp => by
        have h5 := trodAll_mk3 (shut_int (enc := enc) (base := 0) (spare := sp) (held := true) (w := W') Tryd.underlying5 wa) (shut_int (enc := enc) (base := 0) (spare := sp) (held := true) (w := W') Tryd.underlying37 wc) (stays (t := 22) (by kernel_rfl) (by kernel_rfl) h2 hb hlt hsp)
        simp only [List.append_nil, List.nil_append] at h5
        exact h5) (fun _ _ => rfl) (by simp)
      hb (ok_one (by kernel_rfl) rfl (okWide_bool_mk Tryd.underlying4 _))⟩

theorem row_holds : Rows.CoreTablesSaid :=
  OpenClaim.holds_of_wide 9 Tryd.f9 rfl rfl rfl rfl rfl rfl rfl ⟨rfl, rfl, rfl, rfl, rfl⟩ rfl rfl rfl rfl rfl (by kernel_rfl) Tryd.func9 (by kernel_rfl)
    (of_decide_eq_true (by kernel_rfl)) (by unfold Func.isWrapper; first | (rw [if_pos (by decide +kernel)]; kernel_rfl) | (rw [if_neg (by decide +kernel)]; exact ⟨rfl, rfl⟩))
    (fun os started H enc _ => lifted os started H enc)
theorem holds : Rows.CoreTablesCardSaid :=
  Claim7.holds_tied_plain_at .later [] [.data] true _ false
    row_holds (fun _ h => by cases h) (by kernel_rfl) (fun _ h => by cases h) coreTables_row_tie rfl ⟨rfl, rfl⟩ (by kernel_rfl) rfl
    (fun f fn hf hfn => by
      obtain rfl : f = 9 := Option.some.inj ((show Tryd.prog.funcNamed "majordomo/majordomolaw09.CoreTables" = some 9 by kernel_rfl).symm.trans hf) |>.symm
      obtain rfl : fn = Tryd.f9 := (Option.some.inj (Tryd.func9.symm.trans hfn)).symm
      exact ⟨by kernel_rfl, fun j t ht => by
        rw [Tryd.params9] at ht
        match j, ht with
        | 0, ht => cases ht; exact (show Tryd.prog.wantsStandIn 5 = false by kernel_rfl)
        | 1, ht => cases ht; exact (show Tryd.prog.wantsStandIn 37 = false by kernel_rfl)
        | 2, ht => cases ht; exact (show Tryd.prog.wantsStandIn 22 = false by kernel_rfl)
        | j + 3, ht => simp at ht⟩)
    (by kernel_rfl)
end Go.Proofs.YtjljigccgaadaaaDoor.coreTables
