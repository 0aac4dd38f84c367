/-
  This file proves nothing of a law. It says what sites are, as plain data, and what the small functions on them return. No condition.
-/
import Derived.Test.YtbhbfndenpidoaaSite1
namespace Go.Proofs.Ytbhbfndenpidoaa.Am
open Go
set_option maxRecDepth 100000

abbrev I (n : Int) : AV := .int .i64 n

/-- A site: how many there are of each list, and the numbers of each. -/
structure Site where
  nF : Nat
  nB : Nat
  nL : Nat
  nR : Nat
  nK : Nat
  nH : Nat
  sw : Int
  F : Nat → Nat → Int
  B : Nat → Nat → Int
  L : Nat → Nat → Int
  R : Nat → Nat → Int
  K : Nat → Nat → Int
  H : Nat → Nat → Int

def Site.vF (s : Site) : AV := .fl 1 s.nF fun i => [I (s.F i 0)]
def Site.vB (s : Site) : AV := .fl 4 s.nB fun i => [I (s.B i 0), I (s.B i 1), I (s.B i 2), I (s.B i 3)]
def Site.vL (s : Site) : AV := .fl 2 s.nL fun i => [I (s.L i 0), I (s.L i 1)]
def Site.vR (s : Site) : AV := .fl 4 s.nR fun i => [I (s.R i 0), I (s.R i 1), I (s.R i 2), I (s.R i 3)]
def Site.vK (s : Site) : AV := .fl 3 s.nK fun i => [I (s.K i 0), I (s.K i 1), I (s.K i 2)]
def Site.vH (s : Site) : AV := .fl 4 s.nH fun i => [I (s.H i 0), I (s.H i 1), I (s.H i 2), I (s.H i 3)]
def Site.cells (s : Site) : List AV := [s.vF, s.vB, s.vL, s.vR, I s.sw, s.vK, s.vH]
def Site.av (s : Site) : AV := .agg s.cells

/-- Lists of at most 40 elements. -/
structure Site.Few (s : Site) : Prop where
  F : s.nF ≤ 40
  B : s.nB ≤ 40
  L : s.nL ≤ 40
  R : s.nR ≤ 40
  K : s.nK ≤ 40
  H : s.nH ≤ 40

/-! ### No references -/
theorem below_list {n : Nat} {l : List AV} (h : ∀ x ∈ l, Below n x) : ∀ (j : Nat) (x : AV), l[j]? = some x → Below n x := fun _ _ hj => h _ (List.mem_of_getElem? hj)
theorem below_fl {n size k : Nat} {rows : Nat → List AV} (h : ∀ i, ∀ x ∈ rows i, Below n x) : Below n (.fl size k rows) := by
  refine .fl _ _ _ (.sl _ _ fun i r j x hi hj => ?_)
  obtain ⟨m, _, rfl⟩ := List.mem_map.1 (List.mem_of_getElem? hi)
  exact h m x (List.mem_of_getElem? hj)
theorem Site.below_cells (s : Site) {n : Nat} : ∀ x ∈ s.cells, Below n x := by
  intro x hx
  simp only [Site.cells, List.mem_cons, List.not_mem_nil, or_false] at hx
  rcases hx with rfl | rfl | rfl | rfl | rfl | rfl | rfl <;>
    first
      | exact .int _ _
      | (refine below_fl fun i x hx => ?_
         simp only [List.mem_cons, List.not_mem_nil, or_false] at hx
         rcases hx with rfl | rfl | rfl | rfl <;> exact .int _ _)
      | (refine below_fl fun i x hx => ?_
         simp only [List.mem_cons, List.not_mem_nil, or_false] at hx
         rcases hx with rfl | rfl | rfl <;> exact .int _ _)
      | (refine below_fl fun i x hx => ?_
         simp only [List.mem_cons, List.not_mem_nil, or_false] at hx
         rcases hx with rfl | rfl <;> exact .int _ _)
      | (refine below_fl fun i x hx => ?_
         simp only [List.mem_cons, List.not_mem_nil, or_false] at hx
         rcases hx with rfl; exact .int _ _)
theorem Site.below (s : Site) {n : Nat} : Below n s.av := .agg _ (below_list s.below_cells)
theorem Site.below_row (s : Site) {n : Nat} : Below n (.row s.cells 0) := .row _ _ (below_list s.below_cells)
theorem below_ints {n : Nat} (l : List Int) : Below n (.agg (l.map I)) := .agg _ (below_list fun x hx => by
  obtain ⟨i, _, rfl⟩ := List.mem_map.1 hx
  exact .int _ _)

/-! ### The smallest functions -/
def btw (n lo hi : Int) : Bool := decide (n ≥ lo) && decide (n ≤ hi)
def idx (n len : Int) : Bool := decide (n ≥ 0) && decide (n < len)
def E0 : Env := {}

theorem c26 (n lo hi : Int) (σ : Heap) : ACall Try.prog G0 26 [I n, I lo, I hi] σ (.bool (btw n lo hi)) σ :=
  xPure_bool (E := E0) (n := 200) (tags := [true, true, true]) names mixed (clok0 rfl) gbelow0 (by kernel_rfl) (by kernel_rfl) (by simp [Below.int]) σ
theorem c38 (n lo hi : Int) (σ : Heap) : ACall Try.prog G0 38 [I n, I lo, I hi] σ (.bool (btw n lo hi)) σ :=
  xPure_bool (E := E0) (n := 200) (tags := [true, true, true]) names mixed (clok0 rfl) gbelow0 (by kernel_rfl) (by kernel_rfl) (by simp [Below.int]) σ
theorem c24 (n l : Int) (σ : Heap) : ACall Try.prog G0 24 [I n, I l] σ (.bool (idx n l)) σ :=
  xPure_bool (E := E0) (n := 200) (tags := [true, true]) names mixed (clok0 rfl) gbelow0 (by kernel_rfl) (by kernel_rfl) (by simp [Below.int]) σ

def cl1 : FuncId → List AV → Option (Tree AV) := fun f xs => match f, xs with
  | 26, [.int .i64 n, .int .i64 lo, .int .i64 hi] => some (.leaf (.bool (btw n lo hi)))
  | 38, [.int .i64 n, .int .i64 lo, .int .i64 hi] => some (.leaf (.bool (btw n lo hi)))
  | 24, [.int .i64 n, .int .i64 l] => some (.leaf (.bool (idx n l)))
  | _, _ => none
def E1 : Env := { cl := cl1 }
theorem clok1 : ClOk Try.prog G0 E1 := by
  refine .of rfl rfl ?_
  intro f xs t v h hs σ
  have h : cl1 f xs = some t := h
  unfold cl1 at h
  split at h <;> first | cases h | skip
  all_goals (cases h; cases hs)
  · exact c26 _ _ _ σ
  · exact c38 _ _ _ σ
  · exact c24 _ _ σ

/-! ### few, sizes -/
def Site.few (s : Site) : Bool := decide ((s.nF : Int) ≤ 40) && (decide ((s.nB : Int) ≤ 40) && (decide ((s.nL : Int) ≤ 40) && (decide ((s.nR : Int) ≤ 40) && (decide ((s.nK : Int) ≤ 40) && decide ((s.nH : Int) ≤ 40)))))
theorem c8 (s : Site) (σ : Heap) : ACall Try.prog G0 8 [s.av] σ (.bool s.few) σ :=
  xPure_bool (E := E1) (n := 200) (tags := [true]) names mixed clok1 gbelow0 (by kernel_rfl) (by kernel_rfl) (by simpa using s.below) σ
theorem Site.few_iff (s : Site) : s.few = true ↔ s.Few := by
  simp only [Site.few, Bool.and_eq_true, decide_eq_true_eq]
  constructor
  · rintro ⟨h1, h2, h3, h4, h5, h6⟩
    exact ⟨by omega, by omega, by omega, by omega, by omega, by omega⟩
  · rintro ⟨h1, h2, h3, h4, h5, h6⟩
    exact ⟨by omega, by omega, by omega, by omega, by omega, by omega⟩
def Site.sizes (s : Site) : Bool := btw s.nF 1 4 && (btw s.nB 1 8 && (btw s.nL 1 4 && (btw s.sw 1 8 && (btw s.nR 1 8 && (decide ((s.nK : Int) ≤ 16) && btw s.nH 1 16)))))
theorem c20 (s : Site) (σ : Heap) : ACall Try.prog G0 20 [s.av] σ (.bool s.sizes) σ :=
  xPure_bool (E := E1) (n := 200) (tags := [true]) names mixed clok1 gbelow0 (by kernel_rfl) (by kernel_rfl) (by simpa using s.below) σ

end Go.Proofs.Ytbhbfndenpidoaa.Am
