/-
  This file proves that the statement 'SearchFewer' returns true for every puzzle and list of bytes. No condition.
-/
import Derived.Test.YtngaihdpmoajeaaMg10
import Derived.Test.YtngaihdpmoajeaaMg11
import Derived.Test.YtngaihdpmoajeaaRows
namespace Go.Proofs.Ytngaihdpmoajeaa.searchFewer
open Go.ChangeShapes Go.WideShapes Go.ChangeAt Go.RowKit Go.Proofs.Ytngaihdpmoajeaa.Am
set_option maxRecDepth 100000

theorem lifted (os : Os) (started : os.Started) (H : Type) (enc : TypeId × Value → H) :
    ReturnsInHanded {} Try.checked os 8 .any (Rows.searchFewerSpec.pre6 enc Try.prog Try.f8 Rows.searchFewerRow.domain false) (Rows.searchFewerSpec.post enc Try.prog Try.f8 false true false false) := by
  refine returnsInHanded_of_change_sized (C := Try.checked) own started (by kernel_rfl) Try.func8
    (ChangeSpec.witness6 (enc := enc) (C := Try.checked) false ⟨#[], #[.agg #[.slice none 0 0, .slice none 0 0, .slice none 0 0], .slice none 0 0], []⟩ 8 (by kernel_rfl) (by kernel_rfl) (by kernel_rfl) (by kernel_rfl)) ?_
  intro W base args ds gs before hval0 hW hcnd _ _
  have hval : ∀ (j : Nat) t v, Try.f8.params[j]? = some t → args[j]? = some v → Value.okWide Try.prog W .any base t v := hval0
  have hW' := hW
  have hlt := hW.lt
  obtain ⟨p, q, hA0, hV, rfl, hfz, hnd⟩ := hW
  have hA : DataW.TrodAll enc Try.prog W 0 (fun _ => true) true Try.f8.params.toList args.toList ds p := hA0
  rw [Try.params8] at hA hval
  obtain ⟨v0, v1, d0, d1, p0, p1, rfl, rfl, rfl, h0, h1⟩ := trodAll_two hA
  obtain ⟨rfl, rfl⟩ := trodVars_none hV
  obtain ⟨s, hs, hsh⟩ := open_pz (hval 0 39 v0 rfl rfl) h0
  obtain ⟨a, ha, hab, _⟩ := open_u8l (hval 1 36 v1 rfl rfl) h1
  clear hA0 hval0
  simp only [List.append_nil] at hW' hlt
  obtain ⟨σ', hcall⟩ := call8 hsh hab
  refine (top_call (w := W) (args := #[v0, v1]) hcall gtop0 ⟨rfl, fun j x hj => ?_⟩).mono fun e W' he => ?_
  · match j, hj with
    | 0, hj => cases hj; exact hs
    | 1, hj => cases hj; exact ha
    | j + 2, hj => simp at hj
  · obtain ⟨u, M', rfl, hu, hb⟩ := he
    cases hu
    exact ⟨_, rfl, post_of_below (pv := []) hW' (fun _ _ _ => (trodAll_cons_mk (shut_bool Try.underlying4 _) trodAll_mk0))
      (fun sp hsp => by
        have h5 := trodAll_mk2 (stays (t := 39) (by kernel_rfl) (by kernel_rfl) h0 hb (fun x hx => hlt x (List.mem_append_left _ hx)) fun x hx => hsp x (List.mem_append_left _ hx)) (stays (t := 36) (by kernel_rfl) (by kernel_rfl) h1 hb (fun x hx => hlt x (List.mem_append_right _ hx)) fun x hx => hsp x (List.mem_append_right _ hx))
        exact h5) (fun _ _ => rfl) (by simp)
      hb (ok_one (by kernel_rfl) rfl (okWide_bool_mk Try.underlying4 _))⟩

theorem holds : Rows.SearchFewerSaid :=
  OpenClaim.holds_of_wide 8 Try.f8 rfl rfl rfl rfl rfl rfl rfl ⟨rfl, rfl, rfl, rfl, rfl⟩ rfl rfl rfl rfl rfl (by kernel_rfl) Try.func8 (by kernel_rfl)
    (of_decide_eq_true (by kernel_rfl)) (by unfold Func.isWrapper; first | (rw [if_pos (by decide +kernel)]; kernel_rfl) | (rw [if_neg (by decide +kernel)]; exact ⟨rfl, rfl⟩))
    (fun os started H enc _ => lifted os started H enc)
end Go.Proofs.Ytngaihdpmoajeaa.searchFewer
