/-
  This file proves nothing of a law. It says what lists are as plain values, what an append to them gives, and what the lowest bit of a number and the list of a set are. Condition: numbers below 2 to the 64, at most 16777216 elements.
-/
import Derived.Test.YtjljigccgaadaaaDoorBits
namespace Go.Proofs.YtjljigccgaadaaaDoor.Am
open Go
set_option maxRecDepth 100000

/-! ### Slices that grow -/
/-- A slice type whose elements are one cell. -/
structure Elem1 (t e : TypeId) : Prop where
  u : Tryd.prog.underlying t = some (.slice e)
  i : ∃ ie zx, Tryd.prog.info? e = some ie ∧ aZero Tryd.prog e = some zx ∧ ie.size = 1 ∧ ie.bytes ≤ 65536 ∧ zx.cells.length = 1 ∧ zx.cells.all AV.one = true
theorem elem1 {t e : TypeId} (hu : Tryd.prog.underlying t = some (.slice e)) (h1 : (Tryd.prog.info? e).map (fun i => (i.size, decide (i.bytes ≤ 65536))) = some (1, true)) (h2 : (aZero Tryd.prog e).map (fun z => (z.cells.length, z.cells.all AV.one)) = some (1, true)) : Elem1 t e := by
  obtain ⟨ie, e1, e2⟩ := Option.map_eq_some_iff.1 h1
  obtain ⟨zx, e3, e4⟩ := Option.map_eq_some_iff.1 h2
  simp only [Prod.mk.injEq, decide_eq_true_eq] at e2 e4
  exact ⟨hu, ie, zx, e1, e3, e2.1, e2.2, e4.1, e4.2⟩
theorem el22 : Elem1 22 3 := elem1 Tryd.underlying22 (by kernel_rfl) (by kernel_rfl)
theorem el29 : Elem1 29 22 := elem1 Tryd.underlying29 (by kernel_rfl) (by kernel_rfl)
theorem el70 : Elem1 70 63 := elem1 Tryd.underlying70 (by kernel_rfl) (by kernel_rfl)
theorem el35 : Elem1 35 37 := elem1 Tryd.underlying35 (by kernel_rfl) (by kernel_rfl)

/-- A slice that grows, as its variable holds it (r: the number of its object); and its object. -/
def vA (r : Nat) : List AV → AV
  | [] => .zs
  | _ :: l => .ms 1 r l.length 0 (l.length + 1) (l.length + 1)
def oA : List AV → Heap
  | [] => []
  | x :: l => [.cells l.length (x :: l)]

theorem append_vA {t e : TypeId} (he : Elem1 t e) (σ : Heap) (L : List AV) (x : AV) (hx : x.one = true) (hl : L.length < 16777216) :
    aAppend Tryd.prog (σ ++ oA L) t t (vA σ.length L) (.sl 1 [[x]]) = some (vA σ.length (L ++ [x]), σ ++ oA (L ++ [x])) := by
  obtain ⟨ie, zx, h1, h2, h3, h4, h5, h6⟩ := he.i
  have hn : notInt Tryd.prog t = true := by unfold notInt; rw [he.u]
  unfold aAppend
  rw [he.u]
  simp only [h1, h2, h3]
  have hc : conts (σ ++ oA L) 1 (.sl 1 [[x]]) = some (1, [x]) := by simp [conts]
  rw [hc]
  have hone : ([x] : List AV).all AV.one = true := by simp [hx]
  simp only [hn, hone, h4, h5, h6, and_self, if_true]
  cases L with
  | nil => simp [vA, oA]
  | cons y r =>
    simp only [List.length_cons] at hl
    have ho : objAt (σ ++ oA (y :: r)) σ.length r.length = some (y :: r) := by simp [oA, objAt]
    simp only [vA, ho, List.cons_append]
    have e2 : r.length + 1 + 1 ≤ 16777216 := by omega
    simp [oA, e2, List.take_of_length_le]

/-- The outcome of an append, told beforehand. -/
def hApp (t : TypeId) (v x v' : AV) (h0 h' : Heap) : Heap → Oper → (Operand → Option AV) → Option (AV × Bool × Heap × Prop) := fun h o ρ => match o.op with
  | .call { callee := .builtin .append, args := args, argTypes := ts } => some (v', true, h', evAllR ρ args.toList = some [v, x] ∧ ts = #[t, t] ∧ h = h0 ∧ aAppend Tryd.prog h0 t t v x = some (v', h'))
  | _ => none
theorem hApp_ok (t : TypeId) (v x v' : AV) (h0 h' : Heap) : HintA Tryd.prog (hApp t v x v' h0 h') := by
  intro h o ρ y s h1 p hh hp
  unfold hApp at hh
  split at hh
  · rename_i args ts ho
    cases hh
    obtain ⟨p1, rfl, rfl, p4⟩ := hp
    unfold aopR
    simp only [ho, p1, Option.bind_some, aBuiltin, p4]
  · cases hh

/-! ### A slice that nobody writes any more -/
/-- A list of one-cell values, as data. -/
def flA (L : List AV) : AV := .fl 1 L.length fun i => [L.getD i .junk]
theorem flA_rows (L : List AV) : (List.range L.length).map (fun i => ([L.getD i .junk] : List AV)) = L.map fun y => [y] := by
  apply List.ext_getElem?
  intro i
  simp only [List.getElem?_map]
  by_cases h : i < L.length
  · simp [h, List.getD_eq_getElem?_getD]
  · simp [h]
theorem RV.flA_of {w : World} {M : Map} {u : Value} {L : List AV} (h : RV w M u (.sl 1 (L.map fun y => [y]))) : RV w M u (flA L) := by
  refine .fl _ _ _ _ ?_
  rw [flA_rows]; exact h
theorem RV.flA_to {w : World} {M : Map} {u : Value} {L : List AV} (h : RV w M u (flA L)) : RV w M u (.sl 1 (L.map fun y => [y])) := by
  cases h with | fl _ _ _ _ h => rw [flA_rows] at h; exact h
theorem RV.flA_zs {w : World} {M : Map} {u : Value} (h : RV w M u .zs) : RV w M u (flA []) := by cases h; exact .fl _ _ _ _ (.sl0 _ _ _)
theorem below_flA {n : Nat} {L : List AV} (h : ∀ x ∈ L, Below n x) : Below n (flA L) := below_fl fun i x hx => by
  rw [List.mem_singleton.1 hx, List.getD_eq_getElem?_getD]
  cases hi : L[i]? with
  | none => exact .junk
  | some y => exact h y (List.mem_of_getElem? hi)
/-- A list of integers, as data. -/
def flL (L : List Int) : AV := .fl 1 L.length fun i => [I (L.getD i 0)]
theorem flL_rows (L : List Int) : (List.range L.length).map (fun i => ([I (L.getD i 0)] : List AV)) = (L.map I).map fun y => [y] := by
  apply List.ext_getElem?
  intro i
  simp only [List.getElem?_map]
  by_cases h : i < L.length
  · simp [h, List.getD_eq_getElem?_getD]
  · simp [h]
theorem RV.flL_of {w : World} {M : Map} {u : Value} {L : List Int} (h : RV w M u (.sl 1 ((L.map I).map fun y => [y]))) : RV w M u (flL L) := by
  refine .fl _ _ _ _ ?_
  rw [flL_rows]; exact h
theorem RV.flL_to {w : World} {M : Map} {u : Value} {L : List Int} (h : RV w M u (flL L)) : RV w M u (.sl 1 ((L.map I).map fun y => [y])) := by
  cases h with | fl _ _ _ _ h => rw [flL_rows] at h; exact h
theorem RV.flL_zs {w : World} {M : Map} {u : Value} (h : RV w M u .zs) : RV w M u (flL []) := by cases h; exact .fl _ _ _ _ (.sl0 _ _ _)
theorem below_flL {n : Nat} (L : List Int) : Below n (flL L) := below_fl fun i x hx => by rw [List.mem_singleton.1 hx]; exact .int _ _
/-- A list of numbers, as data. -/
def flN (L : List Nat) : AV := flL (L.map Int.ofNat)
/-- A list of lists of integers, as data. -/
def flLL (L : List (List Int)) : AV := .fl 1 L.length fun i => [flL (L.getD i [])]
theorem flLL_rows (L : List (List Int)) : (List.range L.length).map (fun i => ([flL (L.getD i [])] : List AV)) = (L.map flL).map fun y => [y] := by
  apply List.ext_getElem?
  intro i
  simp only [List.getElem?_map]
  by_cases h : i < L.length
  · simp [h, List.getD_eq_getElem?_getD]
  · simp [h]
theorem RV.flLL_of {w : World} {M : Map} {u : Value} {L : List (List Int)} (h : RV w M u (.sl 1 ((L.map flL).map fun y => [y]))) : RV w M u (flLL L) := by
  refine .fl _ _ _ _ ?_
  rw [flLL_rows]; exact h
theorem RV.flLL_to {w : World} {M : Map} {u : Value} {L : List (List Int)} (h : RV w M u (flLL L)) : RV w M u (.sl 1 ((L.map flL).map fun y => [y])) := by
  cases h with | fl _ _ _ _ h => rw [flLL_rows] at h; exact h
theorem RV.flLL_zs {w : World} {M : Map} {u : Value} (h : RV w M u .zs) : RV w M u (flLL []) := by cases h; exact .fl _ _ _ _ (.sl0 _ _ _)
theorem below_flLL {n : Nat} (L : List (List Int)) : Below n (flLL L) := below_fl fun i x hx => by rw [List.mem_singleton.1 hx]; exact below_flL _

theorem ACall.conv {P : Program} {G : Nat → Option (List AV)} {f : FuncId} {xs : List AV} {σ σ' : Heap} {v v' : AV} (h : ACall P G f xs σ v σ') (hv : ∀ w M u, RV w M u v → RV w M u v') : ACall P G f xs σ v' σ' :=
  ⟨h.1, fun w M vs hi hvs => (h.2 w M vs hi hvs).mono fun _ _ ⟨u, M', he, hu, hx, hi'⟩ => ⟨u, M', he, hv _ _ _ hu, hx, hi'⟩⟩

theorem freezeL_id {h : Heap} {k : Nat} : ∀ {L : List AV}, (∀ x ∈ L, freeze h k x = some x) → freezeL (freeze h k) L = some L
  | [], _ => rfl
  | x :: r, hx => by
    unfold freezeL
    rw [hx x (by simp), freezeL_id fun y hy => hx y (by simp [hy])]
theorem rowsOf_ones {h : Heap} {k : Nat} : ∀ (l pre : List AV), (∀ x ∈ l, freeze h k x = some x) → rowsOf (freeze h k) 1 (pre ++ l) pre.length l.length = some (l.map fun y => [y])
  | [], pre, _ => rfl
  | x :: r, pre, hx => by
    have ih := rowsOf_ones r (pre ++ [x]) fun y hy => hx y (by simp [hy])
    simp only [List.length_append, List.length_singleton, List.append_assoc, List.singleton_append] at ih
    simp only [List.length_cons, rowsOf]
    rw [if_pos (by simp), ih]
    have : ((pre ++ x :: r).drop pre.length).take 1 = [x] := by simp
    rw [this, freezeL_id fun y hy => hx y (by rw [List.mem_singleton.1 hy]; simp)]
    rfl
/-- The data that a grown slice is. -/
def fA : List AV → AV
  | [] => .zs
  | x :: l => .sl 1 ((x :: l).map fun y => [y])
theorem freeze_vA (L : List AV) (k : Nat) (hx : ∀ x ∈ L, freeze (oA L) k x = some x) : freeze (oA L) (k + 1) (vA 0 L) = some (fA L) := by
  cases L with
  | nil => rfl
  | cons x r =>
    have := rowsOf_ones (h := oA (x :: r)) (k := k) (x :: r) [] hx
    simp only [List.nil_append, List.length_nil, List.length_cons] at this
    unfold freeze
    simp only [vA]
    have ho : objAt (oA (x :: r)) 0 r.length = some (x :: r) := by simp [oA, objAt]
    rw [ho]
    simp only [this, Option.map_some, fA]
theorem RV.fA_flL {w : World} {M : Map} {u : Value} {L : List Int} (h : RV w M u (fA (L.map I))) : RV w M u (flL L) := by
  cases L with
  | nil => exact h.flL_zs
  | cons x r => exact h.flL_of
theorem RV.fA_flLL {w : World} {M : Map} {u : Value} {L : List (List Int)} (h : RV w M u (fA (L.map flL))) : RV w M u (flLL L) := by
  cases L with
  | nil => exact h.flLL_zs
  | cons x r => exact h.flLL_of
theorem RV.fA_flA {w : World} {M : Map} {u : Value} {L : List AV} (h : RV w M u (fA L)) : RV w M u (flA L) := by
  cases L with
  | nil => exact h.flA_zs
  | cons x r => exact h.flA_of

/-! ### The lowest bit -/
def clNone : FuncId → List AV → Option (Tree AV) := fun _ _ => none
def Etab : Env := { hint := hTab }
theorem clokTab : ClOk Tryd.prog G0 Etab := .ofH rfl rfl hTab_ok.ok fun f xs t v h => by cases h
def tabIx (s : Int) : Int := (IntKind.u64.wrap (uand s (IntKind.u64.wrap (0 - s)) * 285870213051353865)).fdiv (2 ^ (min (Int.toNat 58) IntKind.u64.bits))
theorem run66 (s : Int) (h : Heap) : xCall Tryd.prog G0 Etab 200 66 [U s] [true] h = .ite (s == 0) (.leaf (I 64, false, h))
    (.need (0 ≤ tabIx s ∧ tabIx s < 64) (.need (∃ v, tabC[(tabIx s).toNat]? = some (.int .u8 v)) (.leaf (I (IntKind.i64.wrap (intOf (tabC.getD (tabIx s).toNat .junk))), true, h)))) := by kernel_rfl
theorem tabIx_eq {s : Nat} (h0 : s ≠ 0) (h : s < 2 ^ 64) : tabIx s = ((2 ^ tz s * 285870213051353865) % 18446744073709551616 / 288230376151711744 : Nat) := by
  unfold tabIx
  have e1 : IntKind.u64.wrap (0 - (s : Int)) = ((2 ^ 64 - s : Nat) : Int) := by
    simp [IntKind.wrap, IntKind.signed, IntKind.bits]
    omega
  rw [e1, uand_nat h (by omega), lowBit h0 h]
  have e2 : IntKind.u64.wrap (((2 ^ tz s : Nat) : Int) * 285870213051353865) = ((2 ^ tz s * 285870213051353865 % 18446744073709551616 : Nat) : Int) := by
    simp [IntKind.wrap, IntKind.signed, IntKind.bits]
  rw [e2]
  have e3 : (2 : Int) ^ (min (Int.toNat 58) IntKind.u64.bits) = ((288230376151711744 : Nat) : Int) := by rfl
  rw [e3, Int.fdiv_eq_ediv_of_nonneg _ (by omega)]
  exact (Int.natCast_ediv _ _).symm
theorem c66 {s : Nat} (h0 : s ≠ 0) (h : s < 2 ^ 64) (σ : Heap) : ACall Tryd.prog G0 66 [U s] σ (I (tz s)) σ := by
  obtain ⟨q, hq, hk⟩ := tz_spec h0 h
  have ht := tab_ok (tz s) hk
  have hlt := (List.getElem?_eq_some_iff.1 ht).1
  have hlen : tabL.length = 64 := rfl
  have hc : tabC[(tabIx s).toNat]? = some (.int .u8 (tz s)) := by
    rw [tabIx_eq h0 h, Int.toNat_natCast]
    unfold tabC
    rw [List.getElem?_map, ht]; rfl
  refine xCall_ok (n := 200) (tags := [true]) (s := true) names mixed clokTab ?_
  rw [run66, selI, beq_false_of_ne (by omega : (s : Int) ≠ 0), cond_false, Tree.sel_need ⟨by rw [tabIx_eq h0 h]; omega, by rw [tabIx_eq h0 h]; omega⟩, Tree.sel_need ⟨_, hc⟩, List.getD_eq_getElem?_getD, hc, Option.getD_some, intOf, wrap_i64 (by omega) (by omega)]
  rfl
end Go.Proofs.YtjljigccgaadaaaDoor.Am
