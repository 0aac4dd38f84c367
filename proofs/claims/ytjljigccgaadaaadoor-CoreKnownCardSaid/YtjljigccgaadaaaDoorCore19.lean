/-
  This file proves nothing of a law. It holds the contracts of the package for functions that always say the same, in a form that the kernel runs. No condition.
-/
import Derived.Test.YtjljigccgaadaaaDoorCore18
import Derived.Test.YtjljigccgaadaaaDoorAm22
namespace Go.Proofs.YtjljigccgaadaaaDoor.Am
open Go
set_option maxRecDepth 100000

/-! ### Lists, read off plain values -/
def mapO {α β : Type} (f : α → Option β) : List α → Option (List β)
  | [] => some []
  | x :: r => match f x, mapO f r with
    | some y, some ys => some (y :: ys)
    | _, _ => none
theorem mapO_ok {α β : Type} {f : α → Option β} : ∀ {l : List α} {ys : List β}, mapO f l = some ys → ys.length = l.length ∧ ∀ (i : Nat) (y : β), ys[i]? = some y → ∃ x, l[i]? = some x ∧ f x = some y
  | [], ys, h => by cases h; exact ⟨rfl, fun i y hi => by simp at hi⟩
  | x :: r, ys, h => by
    unfold mapO at h
    split at h
    · rename_i y zs hy hz
      cases h
      obtain ⟨h1, h2⟩ := mapO_ok hz
      refine ⟨by simp [h1], fun i z hi => ?_⟩
      cases i with
      | zero => simp at hi; subst hi; exact ⟨x, rfl, hy⟩
      | succ i => simpa using h2 i z (by simpa using hi)
    · cases h
def decI : AV → Option Int
  | .int .i64 n => some n
  | _ => none
def dec1 {α : Type} (f : AV → Option α) : List AV → Option α
  | [x] => f x
  | _ => none
/-- A slice of one-cell elements. -/
def decS {α : Type} (f : AV → Option α) : AV → Option (List α)
  | .zs => some []
  | .sl 1 rows => mapO (dec1 f) rows
  | .fl 1 n r => mapO (fun i => dec1 f (r i)) (List.range n)
  | _ => none
def decL : AV → Option (List Int) := decS decI
def decLL : AV → Option (List (List Int)) := decS decL
theorem RV.rows {w : World} {M : Map} {u : Value} {α : Type} {q : α → AV} {rows : List (List AV)} {L : List α} (hl : L.length = rows.length) (hx : ∀ (i : Nat) (x : α), L[i]? = some x → ∃ y, rows[i]? = some [y] ∧ Sub y (q x)) (h : RV w M u (.sl 1 rows)) : RV w M u (.sl 1 ((L.map q).map fun y => [y])) := by
  cases h with
  | sl0 base cap _ =>
    have : L = [] := by simpa using hl
    subst this
    exact .sl0 _ _ _
  | sl b o cap size f rows hb hc hl2 h hcap =>
    have e : rows.length = ((L.map q).map fun y => [y]).length := by simp [hl]
    have ge : ∀ (i : Nat) (r : List AV), ((L.map q).map fun y => [y])[i]? = some r → ∃ x, L[i]? = some x ∧ r = [q x] := by
      intro i r hi
      simp only [List.getElem?_map, Option.map_eq_some_iff] at hi
      obtain ⟨_, ⟨x, hx, rfl⟩, rfl⟩ := hi
      exact ⟨x, hx, rfl⟩
    rw [e]
    refine .sl b o cap 1 f _ hb (fun i r j hi hj => ?_) (fun i r hi => ?_) (fun i r j x hi hj => ?_) (by rw [← e]; exact hcap)
    · obtain ⟨x, h1, _⟩ := ge i r hi
      obtain ⟨y, h2, _⟩ := hx i x h1
      exact hc i _ j h2 hj
    · obtain ⟨x, _, rfl⟩ := ge i r hi; rfl
    · obtain ⟨z, h1, rfl⟩ := ge i r hi
      obtain ⟨y, h2, h3⟩ := hx i z h1
      have : j = 0 := by
        match j, hj with
        | 0, _ => rfl
        | j + 1, hj => simp at hj
      subst this
      cases hj
      exact h3 _ _ _ (h i _ 0 _ h2 rfl)
theorem decS_ok {α : Type} {f : AV → Option α} {q : α → AV} (hf : ∀ x y, f x = some y → Sub x (q y)) {fl : List α → AV} (hfl : ∀ w M u (L : List α), RV w M u (.sl 1 ((L.map q).map fun y => [y])) → RV w M u (fl L)) (hz : ∀ w M u, RV w M u .zs → RV w M u (fl [])) {x : AV} {L : List α} (h : decS f x = some L) : Sub x (fl L) := by
  intro w M u hv
  unfold decS at h
  split at h
  · cases h; exact hz _ _ _ hv
  · rename_i rows
    obtain ⟨h1, h2⟩ := mapO_ok h
    refine hfl _ _ _ _ (RV.rows h1 (fun i x hi => ?_) hv)
    obtain ⟨r, hr, hd⟩ := h2 i x hi
    unfold dec1 at hd
    split at hd
    · exact ⟨_, hr, hf _ _ hd⟩
    · cases hd
  · rename_i n r
    obtain ⟨h1, h2⟩ := mapO_ok h
    cases hv with
    | fl _ _ _ _ hv =>
      refine hfl _ _ _ _ (RV.rows (by simpa using h1) (fun i x hi => ?_) hv)
      obtain ⟨k, hk, hd⟩ := h2 i x hi
      unfold dec1 at hd
      split at hd
      · rename_i y hy
        obtain ⟨hlt, hk2⟩ := List.getElem?_eq_some_iff.1 hk
        have : k = i := by simpa using hk2.symm
        subst this
        exact ⟨y, by rw [List.getElem?_map, hk]; simp [hy], hf _ _ hd⟩
      · cases hd
  · cases h
theorem decI_ok {x : AV} {n : Int} (h : decI x = some n) : Sub x (I n) := by
  unfold decI at h
  split at h
  · cases h; exact Sub.rfl' _
  · cases h
theorem decL_ok {x : AV} {L : List Int} (h : decL x = some L) : Sub x (flL L) := decS_ok (q := I) (fun _ _ h => decI_ok h) (fun _ _ _ _ h => h.flL_of) (fun _ _ _ h => h.flL_zs) h
theorem decLL_ok {x : AV} {L : List (List Int)} (h : decLL x = some L) : Sub x (flLL L) := decS_ok (q := flL) (fun _ _ h => decL_ok h) (fun _ _ _ _ h => h.flLL_of) (fun _ _ _ h => h.flLL_zs) h

/-! ### Functions that always say the same -/
theorem c11 (x : AV) (h : Heap) : ACall Tryd.prog G0 11 [x] h (.bool false) h := by
  have run : xCall Tryd.prog G0 {} 200 11 [x] [true] h = .leaf (.bool false, false, h) := by kernel_rfl
  exact xCall_ok (n := 200) (tags := [true]) (s := false) names mixed clok0 (congrArg Tree.sel run)
theorem c12 (x : AV) (h : Heap) : ACall Tryd.prog G0 12 [x] h (.bool true) h := by
  have run : xCall Tryd.prog G0 {} 200 12 [x] [true] h = .leaf (.bool true, false, h) := by kernel_rfl
  exact xCall_ok (n := 200) (tags := [true]) (s := false) names mixed clok0 (congrArg Tree.sel run)
def fulT : AV → Option (Nat → Bool)
  | .fn 11 [] [] => some fun _ => false
  | .fn 12 [] [] => some fun _ => true
  | .fn 19 [] [] => some fun s => exF (ints s)
  | _ => none
theorem fulT_ok {x : AV} {f : Nat → Bool} (h : fulT x = some f) : ∃ g, x = .fn g [] [] ∧ ∀ σ, FulAt σ g [] f := by
  unfold fulT at h
  split at h
  · cases h; exact ⟨11, rfl, fun σ X s _ => c11 _ _⟩
  · cases h; exact ⟨12, rfl, fun σ X s _ => c12 _ _⟩
  · cases h; exact ⟨19, rfl, fulEx⟩
  · cases h
end Go.Proofs.YtjljigccgaadaaaDoor.Am
