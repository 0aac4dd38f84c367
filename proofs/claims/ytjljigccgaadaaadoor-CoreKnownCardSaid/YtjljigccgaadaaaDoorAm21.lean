/-
  This file proves nothing of a law. It holds the rule by which a new slice that a call returns is data from then on, and the rule for a heap that no world has. No condition.
-/
import Derived.Test.YtjljigccgaadaaaDoorAm20
namespace Go.Proofs.YtjljigccgaadaaaDoor.Am
open Go
section
variable {P : Program} {G : Nat → Option (List AV)}

/-- A call's world, its new objects forgotten. -/
theorem Inv.forget {w w' : World} {M M' : Map} {σ X : Heap} (hi : Inv G w M σ) (he : Ext w M w' M') (hi' : Inv G w' M' (σ ++ X)) : Ext w M w' (M'.cut σ.length) ∧ Inv G w' (M'.cut σ.length) σ := by
  have hn : ∀ r p, M r = some p → r < σ.length := hi.dom
  have he' := he.cut hn
  refine ⟨he', .of (fun q cs hq => (hi.glob q cs hq).mono he') (fun r r' b q q' h1 h2 => hi'.inj r r' b q q' (Map.cut_some h1).2 (Map.cut_some h2).2) (fun r p hr => (Map.cut_some hr).1)
    (fun r b q hr => hi'.lt r b q (Map.cut_some hr).2) (fun b hb => ⟨(hi'.far b hb).1, fun r q hr => (hi'.far b hb).2 r q (Map.cut_some hr).2⟩) (fun r o ho => ?_)⟩
  have hr : r < σ.length := (List.getElem?_eq_some_iff.1 ho).1
  have ho' : (σ ++ X)[r]? = some o := by rw [List.getElem?_append_left hr]; exact ho
  have hold := hi.objOk ho
  have hnew := hi'.objOk ho'
  cases o with
  | cells gn c =>
    obtain ⟨b, cs, e, h1, h2, h3, h4⟩ := hnew
    obtain ⟨_, _, _, _, _, _, k4⟩ := hold
    exact ⟨b, cs, e, by rw [Map.cut_lt hr]; exact h1, h2, h3, fun j x hj => (h4 j x hj).cut ((k4 j x hj).isBelow hn)⟩
  | resv => show M'.cut _ r = none; rw [Map.cut_lt hr]; exact hnew
  | dfr => obtain ⟨b, h1, h2⟩ := hnew; exact ⟨b, by rw [Map.cut_lt hr]; exact h1, h2⟩
  | loop A =>
    obtain ⟨b, L, h1, h2, h3⟩ := hnew
    obtain ⟨_, _, _, _, k3⟩ := hold
    exact ⟨b, L, by rw [Map.cut_lt hr]; exact h1, h2, h3.state, h3.pending, h3.size, fun j x hj => (h3.tmps j x hj).cut ((k3.tmps j x hj).isBelow hn), h3.params, h3.assign, h3.body,
      by rw [Map.cut_lt (hn _ _ k3.defers.1)]; exact h3.defers.1, h3.defers.2⟩
  | gone => trivial

/-- A new slice, told as data: its object is forgotten. -/
theorem RV.msData {w : World} {M : Map} {σ : Heap} {n : Nat} (hi : Inv G w M σ) {v : Value} {r g : Nat} {cells : List AV} (hr : n ≤ r) (hv : RV w M v (.ms 1 r g 0 cells.length cells.length)) (ho : σ[r]? = some (.cells g cells)) (hb : ∀ x ∈ cells, Below n x) :
    RV w (M.cut n) v (.sl 1 (cells.map fun y => [y])) := by
  obtain ⟨b, cs, e, hm, hh, hl, hx⟩ := hi.cells r g cells ho
  cases hv with
  | ms _ _ _ _ _ _ b' capc c' e' hm' hlen hcc hsz hfit =>
    rw [hm] at hm'
    obtain ⟨rfl, _⟩ := Prod.mk.inj (Option.some.inj hm')
    have himm : Imm w (M.cut n) b := ⟨hi.lt r b g hm, fun r' g' h' => by
      obtain ⟨k1, k2⟩ := Map.cut_some h'
      have := hi.inj r r' b g g' hm k2
      omega, hi.notFar hm⟩
    have hlen' : (cells.map fun y => ([y] : List AV)).length = cells.length := by simp
    have := RV.sl (w := w) (M := M.cut n) b 0 capc 1 (fun i j => cs.getD (i + j) Go.undef) (cells.map fun y => [y]) himm
      (fun i rw' j hrw hj => by
        have hil : i < cells.length := by have := (List.getElem?_eq_some_iff.1 hrw).1; rwa [hlen'] at this
        rw [Nat.zero_add, Nat.mul_one]
        exact cell_of_cells hh (by omega))
      (fun i rw' hrw => by
        obtain ⟨y, _, rfl⟩ := List.mem_map.1 (List.mem_of_getElem? hrw); rfl)
      (fun i rw' j z hrw hz => by
        have hil : i < cells.length := by have := (List.getElem?_eq_some_iff.1 hrw).1; rwa [hlen'] at this
        rw [List.getElem?_map] at hrw
        rw [List.getElem?_eq_getElem hil] at hrw
        cases hrw
        cases j with
        | zero =>
          simp at hz; subst hz
          exact (hx i _ (List.getElem?_eq_getElem hil)).cut (hb _ (List.getElem_mem hil))
        | succ j => simp at hz)
      (by rw [hlen']; omega)
    rw [hlen'] at this
    exact this
  | msS _ _ _ _ _ _ b' g' p capc hm' hg =>
    rw [hm] at hm'
    obtain ⟨_, rfl⟩ := Prod.mk.inj (Option.some.inj hm')
    omega

/-- A CALL THAT RETURNS A NEW SLICE: as data. -/
theorem ACall.msData {f : FuncId} {args : List AV} {σ X : Heap} {r g : Nat} {cells : List AV} (h : ACall P G f args σ (.ms 1 r g 0 cells.length cells.length) (σ ++ X)) (hr : σ.length ≤ r) (ho : (σ ++ X)[r]? = some (.cells g cells)) (hb : ∀ x ∈ cells, Below σ.length x) :
    ACall P G f args σ (.sl 1 (cells.map fun y => [y])) σ := by
  refine ⟨h.1, fun w M vs hi hvs => (h.2 w M vs hi hvs).mono ?_⟩
  rintro e w' ⟨u, M', rfl, hu, he, hi'⟩
  obtain ⟨h1, h2⟩ := hi.forget he hi'
  exact ⟨u, _, rfl, RV.msData hi' hr hu ho hb, h1, h2⟩
/-- A call whose new objects nobody holds. -/
theorem ACall.forget {f : FuncId} {args : List AV} {σ X : Heap} {v : AV} (h : ACall P G f args σ v (σ ++ X)) (hv : Below σ.length v) : ACall P G f args σ v σ := h.drop hv

/-- A heap that no world has. -/
def Never (G : Nat → Option (List AV)) (σ : Heap) : Prop := ∀ w M, ¬ Inv G w M σ
theorem never_of {σ : Heap} {r : Nat} {A : ALoop} (h : σ[r]? = some (.loop A)) (hd : σ.length ≤ A.defers) : Never G σ := fun w M hi => by
  obtain ⟨b, L, _, _, hR⟩ := hi.loop r A h
  have := hi.dom _ _ hR.defers.1
  omega
theorem AYield.never {l : Nat} {xs : List AV} {σ σ' : Heap} {v : AV} {A : ALoop} (h : Never G σ) (hl : σ[l]? = some (.loop A)) : AYield P G l xs σ v σ' := ⟨⟨A, hl⟩, fun w M _ _ hi => absurd hi (h w M)⟩
end
end Go.Proofs.YtjljigccgaadaaaDoor.Am
