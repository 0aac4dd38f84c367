/-
  This file proves that the statement 'SearchCounts' returns true for every problem, beginning and number. No condition.
-/
import Derived.Test.YtngaihdpmoajeaaMg12
import Derived.Test.YtngaihdpmoajeaaMg13
import Derived.Test.YtngaihdpmoajeaaRows
namespace Go.Proofs.Ytngaihdpmoajeaa.searchCounts
open Go.ChangeShapes Go.WideShapes Go.ChangeAt Go.RowKit Go.Proofs.Ytngaihdpmoajeaa.Am
set_option maxRecDepth 100000

theorem lifted (os : Os) (started : os.Started) (H : Type) (enc : TypeId × Value → H) :
    ReturnsInHanded {} Try.checked os 3 .any (Rows.searchCountsSpec.pre6 enc Try.prog Try.f3 Rows.searchCountsRow.domain false) (Rows.searchCountsSpec.post enc Try.prog Try.f3 false true false false) := by
  refine returnsInHanded_of_change_sized (C := Try.checked) own started (by kernel_rfl) Try.func3
    (ChangeSpec.witness6 (enc := enc) (C := Try.checked) false ⟨#[], #[.agg #[.slice none 0 0, .slice none 0 0, .slice none 0 0], .slice none 0 0, .int .i64 0], []⟩ 8 (by kernel_rfl) (by kernel_rfl) (by kernel_rfl) (by kernel_rfl)) ?_
  intro W base args ds gs before hval0 hW hcnd hsz _
  have hval : ∀ (j : Nat) t v, Try.f3.params[j]? = some t → args[j]? = some v → Value.okWide Try.prog W .any base t v := hval0
  have hW' := hW
  have hlt := hW.lt
  obtain ⟨p, q, hA0, hV, rfl, hfz, hnd⟩ := hW
  have hA : DataW.TrodAll enc Try.prog W 0 (fun _ => true) true Try.f3.params.toList args.toList ds p := hA0
  rw [Try.params3] at hA hval
  obtain ⟨v0, v1, v2, d0, d1, d2, p0, p1, p2, rfl, rfl, rfl, h0, h1, h2⟩ := trodAll_three hA
  obtain ⟨rfl, rfl⟩ := trodVars_none hV
  have hsm : ∀ n ∈ DataW.weightsEach Try.prog [26, 22, 3] [d0, d1, d2], n ≤ reachBytes := fun n hn => by
    have := List.all_eq_true.1 hsz n (by rw [Try.params3]; exact hn)
    simpa using this
  obtain ⟨s, hs, hsh⟩ := open_pb (hval 0 26 v0 rfl rfl) h0
  obtain ⟨a, ha, hash⟩ := open_ints (hval 1 22 v1 rfl rfl) h1
  obtain ⟨m, rfl, rfl, rfl, wm⟩ := open_int Try.underlying3 (hval 2 3 v2 rfl rfl) h2
  have hp := hsh (each_small (j := 0) hsm rfl rfl)
  clear hA0 hval0
  simp only [List.append_nil] at hW' hlt
  obtain ⟨σ', hcall⟩ := call3 hp a m
  refine (top_call (w := W) (args := #[v0, v1, .int .i64 m]) hcall gtop0 ⟨rfl, fun j x hj => ?_⟩).mono fun e W' he => ?_
  · match j, hj with
    | 0, hj => cases hj; exact hs
    | 1, hj => cases hj; exact ha
    | 2, hj => cases hj; exact .int _ _
    | j + 3, hj => simp at hj
  · obtain ⟨u, M', rfl, hu, hb⟩ := he
    cases hu
    exact ⟨_, rfl, post_of_below (pv := []) hW' (fun _ _ _ => (trodAll_cons_mk (shut_bool Try.underlying4 _) trodAll_mk0))
      (fun sp hsp => by
        have h5 := trodAll_mk3 (stays (t := 26) (by kernel_rfl) (by kernel_rfl) h0 hb (fun x hx => hlt x (List.mem_append_left _ hx)) fun x hx => hsp x (List.mem_append_left _ hx)) (stays (t := 22) (by kernel_rfl) (by kernel_rfl) h1 hb (fun x hx => hlt x (List.mem_append_right _ hx)) fun x hx => hsp x (List.mem_append_right _ hx)) (shut_int (enc := enc) (base := 0) (spare := sp) (held := true) (w := W') Try.underlying3 wm)
        simp only [List.append_nil] at h5
        exact h5) (fun _ _ => rfl) (by simp)
      hb (ok_one (by kernel_rfl) rfl (okWide_bool_mk Try.underlying4 _))⟩

theorem holds : Rows.SearchCountsSaid :=
  OpenClaim.holds_of_wide 3 Try.f3 rfl rfl rfl rfl rfl rfl rfl ⟨rfl, rfl, rfl, rfl, rfl⟩ rfl rfl rfl rfl rfl (by kernel_rfl) Try.func3 (by kernel_rfl)
    (of_decide_eq_true (by kernel_rfl)) (by unfold Func.isWrapper; first | (rw [if_pos (by decide +kernel)]; kernel_rfl) | (rw [if_neg (by decide +kernel)]; exact ⟨rfl, rfl⟩))
    (fun os started H enc _ => lifted os started H enc)
end Go.Proofs.Ytngaihdpmoajeaa.searchCounts
