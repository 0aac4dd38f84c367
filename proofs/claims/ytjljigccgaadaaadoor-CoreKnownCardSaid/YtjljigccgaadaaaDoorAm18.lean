/-
  This file proves nothing of a law. It holds the step from a found fact on a call to what a row's statement asks of the world behind the call. No condition.
-/
import Derived.Test.YtjljigccgaadaaaDoorAm17
import Derived.ProofKit
namespace Go.Proofs.YtjljigccgaadaaaDoor.Am
open Go

/-- No object at all. -/
def M0 : Map := ⟨fun _ => none, fun _ => False⟩

section
variable {P : Program} {G : Nat → Option (List AV)}

/-- What the world has before the call: known package variables. -/
theorem inv_top {w : World} (h : ∀ g cs, G g = some cs → RV w M0 (.pointer (some ⟨g, 0, none⟩)) (.row cs 0)) : Inv G w M0 [] :=
  .of h (fun _ _ _ _ _ h => by cases h) (fun _ _ h => by cases h) (fun _ _ _ h => by cases h) (fun _ h => h.elim) (fun r o h => by simp at h)

theorem imm_top {w : World} {b : Nat} (h : b < w.heap.size) : Imm w M0 b := ⟨h, (fun _ _ h => by cases h), fun h => h⟩

/-- THE CALL, SEEN FROM OUTSIDE. -/
theorem top_call {f : FuncId} {xs : List AV} {v : AV} {σ' : Heap} {w : World} {args : Array Value} (h : ACall P G f xs [] v σ') (hG : ∀ g cs, G g = some cs → RV w M0 (.pointer (some ⟨g, 0, none⟩)) (.row cs 0)) (hvs : RVs w M0 args xs) :
    Calls P f args w fun e w' => ∃ u M', e = .returned u ∧ RV w' M' u v ∧ Go.RowKit.Below w.heap.size w w' := by
  refine callsIn_wide.1 ((h.2 w M0 args (inv_top hG) hvs).mono ?_)
  rintro e w' ⟨u, M', rfl, hu, he, _⟩
  exact ⟨u, M', rfl, hu, ⟨he.os, he.tape, he.output, he.size, fun k hk => (he.imm k (imm_top hk)).2⟩⟩
end

section
variable {H : Type} {enc : TypeId × Value → H} {P : Program}
/-- What a row asks of the world behind the call, where nothing of the old has turned. -/
theorem post_of_below {f : Func} {s : ChangeSpec} {apart fresh handsOn again : Bool} {W W' : World} {args : Array Value} {v : Value} {ds gs : List (DataW H)} {before pa pv : List MemPlace}
    (hW : DataW.Whole enc P f.params.toList s.vars apart W args.toList ds gs before)
    (hres : ∀ (b : Nat) (sp : Nat → Bool) (hd : Bool), DataW.TrodAll enc P W' b sp hd f.resultTypes.toList (v.resultList f.resultTypes.size) (s.fn H (ds ++ gs)).results [])
    (hargs : ∀ sp : Nat → Bool, (∀ p ∈ before, sp p.block = true) → DataW.TrodAll enc P W' 0 sp true f.params.toList args.toList (s.fn H (ds ++ gs)).args pa)
    (hvars : ∀ sp : Nat → Bool, (∀ p ∈ before, sp p.block = true) → DataW.TrodVars enc P W' sp s.vars (s.fn H (ds ++ gs)).vars pv)
    (hps : before = pa ++ pv) (hb : Go.RowKit.Below W.heap.size W W')
    (hok : ∀ (j : Nat) (t : TypeId) (r : Value), f.resultTypes[j]? = some t → (v.resultList f.resultTypes.size)[j]? = some r → Value.okWide P W' .any 0 t r) :
    s.post enc P f apart fresh handsOn again W args v W' := by
  have hold : ∀ p ∈ before, (fun b => decide (b < W.heap.size)) p.block = true := fun p hp => by simpa using hW.lt p hp
  refine ⟨ds, gs, before, [], pa, pv, hW, hres _ _ _, hargs _ hold, hvars _ hold, hb.frame _, fun _ => ?_⟩
  have hlt := hW.lt
  obtain ⟨_, _, _, _, _, hz, hn⟩ := hW
  refine ⟨hok, _, _, ([] ++ pa) ++ pv, ⟨[] ++ pa, pv, Go.ChangeShapes.trodAll_append (hargs _ (fun _ _ => rfl)) (hres _ _ _), hvars _ (fun _ _ => rfl), rfl, ?_, ?_⟩, ?_⟩
  · intro b off hp
    have hp' : MemPlace.cell b off ∈ before := by rw [hps]; simpa using hp
    rw [hb.frozen (hlt _ hp')]
    exact hz b off hp'
  · intro ha
    have := hn ha
    rw [hps] at this
    simpa using this
  · intro p hp _
    rw [hps]
    simpa using hp
end
end Go.Proofs.YtjljigccgaadaaaDoor.Am
