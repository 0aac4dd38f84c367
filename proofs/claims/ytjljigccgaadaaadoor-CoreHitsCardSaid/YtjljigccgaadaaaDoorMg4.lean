/-
  This file proves nothing of a law. It holds lemmas, of 10 texts in their order. No condition of its own.
-/
import Derived.Test.YtjljigccgaadaaaDoorMg3
namespace Go.Proofs.YtjljigccgaadaaaDoor.Am
open Go
set_option maxRecDepth 100000

/-! ### Slices that grow -/
/-- A slice type whose elements are one cell. -/
structure Elem1 (t e : TypeId) : Prop where
  u : Tryd.prog.underlying t = some (.slice e)
  i : ∃ ie zx, Tryd.prog.info? e = some ie ∧ aZero Tryd.prog e = some zx ∧ ie.size = 1 ∧ ie.bytes ≤ 65536 ∧ zx.cells.length = 1 ∧ zx.cells.all AV.one = true
theorem elem1 {t e : TypeId} (hu : Tryd.prog.underlying t = some (.slice e)) (h1 : (Tryd.prog.info? e).map (fun i => (i.size, decide (i.bytes ≤ 65536))) = some (1, true)) (h2 : (aZero Tryd.prog e).map (fun z => (z.cells.length, z.cells.all AV.one)) = some (1, true)) : Elem1 t e := by
  obtain ⟨ie, e1, e2⟩ := Option.map_eq_some_iff.1 h1
  obtain ⟨zx, e3, e4⟩ := Option.map_eq_some_iff.1 h2
  simp only [Prod.mk.injEq, decide_eq_true_eq] at e2 e4
  exact ⟨hu, ie, zx, e1, e3, e2.1, e2.2, e4.1, e4.2⟩
theorem el22 : Elem1 22 3 := elem1 Tryd.underlying22 (by kernel_rfl) (by kernel_rfl)
theorem el29 : Elem1 29 22 := elem1 Tryd.underlying29 (by kernel_rfl) (by kernel_rfl)
theorem el70 : Elem1 70 63 := elem1 Tryd.underlying70 (by kernel_rfl) (by kernel_rfl)
theorem el35 : Elem1 35 37 := elem1 Tryd.underlying35 (by kernel_rfl) (by kernel_rfl)

/-- A slice that grows, as its variable holds it (r: the number of its object); and its object. -/
def vA (r : Nat) : List AV → AV
  | [] => .zs
  | _ :: l => .ms 1 r l.length 0 (l.length + 1) (l.length + 1)
def oA : List AV → Heap
  | [] => []
  | x :: l => [.cells l.length (x :: l)]

theorem append_vA {t e : TypeId} (he : Elem1 t e) (σ : Heap) (L : List AV) (x : AV) (hx : x.one = true) (hl : L.length < 16777216) :
    aAppend Tryd.prog (σ ++ oA L) t t (vA σ.length L) (.sl 1 [[x]]) = some (vA σ.length (L ++ [x]), σ ++ oA (L ++ [x])) := by
  obtain ⟨ie, zx, h1, h2, h3, h4, h5, h6⟩ := he.i
  have hn : notInt Tryd.prog t = true := by unfold notInt; rw [he.u]
  unfold aAppend
  rw [he.u]
  simp only [h1, h2, h3]
  have hc : conts (σ ++ oA L) 1 (.sl 1 [[x]]) = some (1, [x]) := by simp [conts]
  rw [hc]
  have hone : ([x] : List AV).all AV.one = true := by simp [hx]
  simp only [hn, hone, h4, h5, h6, and_self, if_true]
  cases L with
  | nil => simp [vA, oA]
  | cons y r =>
    simp only [List.length_cons] at hl
    have ho : objAt (σ ++ oA (y :: r)) σ.length r.length = some (y :: r) := by simp [oA, objAt]
    simp only [vA, ho, List.cons_append]
    have e2 : r.length + 1 + 1 ≤ 16777216 := by omega
    simp [oA, e2, List.take_of_length_le]

/-- The outcome of an append, told beforehand. -/
def hApp (t : TypeId) (v x v' : AV) (h0 h' : Heap) : Heap → Oper → (Operand → Option AV) → Option (AV × Bool × Heap × Prop) := fun h o ρ => match o.op with
  | .call { callee := .builtin .append, args := args, argTypes := ts } => some (v', true, h', evAllR ρ args.toList = some [v, x] ∧ ts = #[t, t] ∧ h = h0 ∧ aAppend Tryd.prog h0 t t v x = some (v', h'))
  | _ => none
theorem hApp_ok (t : TypeId) (v x v' : AV) (h0 h' : Heap) : HintA Tryd.prog (hApp t v x v' h0 h') := by
  intro h o ρ y s h1 p hh hp
  unfold hApp at hh
  split at hh
  · rename_i args ts ho
    cases hh
    obtain ⟨p1, rfl, rfl, p4⟩ := hp
    unfold aopR
    simp only [ho, p1, Option.bind_some, aBuiltin, p4]
  · cases hh

/-! ### A slice that nobody writes any more -/
/-- A list of one-cell values, as data. -/
def flA (L : List AV) : AV := .fl 1 L.length fun i => [L.getD i .junk]
theorem flA_rows (L : List AV) : (List.range L.length).map (fun i => ([L.getD i .junk] : List AV)) = L.map fun y => [y] := by
  apply List.ext_getElem?
  intro i
  simp only [List.getElem?_map]
  by_cases h : i < L.length
  · simp [h, List.getD_eq_getElem?_getD]
  · simp [h]
theorem RV.flA_of {w : World} {M : Map} {u : Value} {L : List AV} (h : RV w M u (.sl 1 (L.map fun y => [y]))) : RV w M u (flA L) := by
  refine .fl _ _ _ _ ?_
  rw [flA_rows]; exact h
theorem RV.flA_to {w : World} {M : Map} {u : Value} {L : List AV} (h : RV w M u (flA L)) : RV w M u (.sl 1 (L.map fun y => [y])) := by
  cases h with | fl _ _ _ _ h => rw [flA_rows] at h; exact h
theorem RV.flA_zs {w : World} {M : Map} {u : Value} (h : RV w M u .zs) : RV w M u (flA []) := by cases h; exact .fl _ _ _ _ (.sl0 _ _ _)
theorem below_flA {n : Nat} {L : List AV} (h : ∀ x ∈ L, Below n x) : Below n (flA L) := below_fl fun i x hx => by
  rw [List.mem_singleton.1 hx, List.getD_eq_getElem?_getD]
  cases hi : L[i]? with
  | none => exact .junk
  | some y => exact h y (List.mem_of_getElem? hi)
/-- A list of integers, as data. -/
def flL (L : List Int) : AV := .fl 1 L.length fun i => [I (L.getD i 0)]
theorem flL_rows (L : List Int) : (List.range L.length).map (fun i => ([I (L.getD i 0)] : List AV)) = (L.map I).map fun y => [y] := by
  apply List.ext_getElem?
  intro i
  simp only [List.getElem?_map]
  by_cases h : i < L.length
  · simp [h, List.getD_eq_getElem?_getD]
  · simp [h]
theorem RV.flL_of {w : World} {M : Map} {u : Value} {L : List Int} (h : RV w M u (.sl 1 ((L.map I).map fun y => [y]))) : RV w M u (flL L) := by
  refine .fl _ _ _ _ ?_
  rw [flL_rows]; exact h
theorem RV.flL_to {w : World} {M : Map} {u : Value} {L : List Int} (h : RV w M u (flL L)) : RV w M u (.sl 1 ((L.map I).map fun y => [y])) := by
  cases h with | fl _ _ _ _ h => rw [flL_rows] at h; exact h
theorem RV.flL_zs {w : World} {M : Map} {u : Value} (h : RV w M u .zs) : RV w M u (flL []) := by cases h; exact .fl _ _ _ _ (.sl0 _ _ _)
theorem below_flL {n : Nat} (L : List Int) : Below n (flL L) := below_fl fun i x hx => by rw [List.mem_singleton.1 hx]; exact .int _ _
/-- A list of numbers, as data. -/
def flN (L : List Nat) : AV := flL (L.map Int.ofNat)
/-- A list of lists of integers, as data. -/
def flLL (L : List (List Int)) : AV := .fl 1 L.length fun i => [flL (L.getD i [])]
theorem flLL_rows (L : List (List Int)) : (List.range L.length).map (fun i => ([flL (L.getD i [])] : List AV)) = (L.map flL).map fun y => [y] := by
  apply List.ext_getElem?
  intro i
  simp only [List.getElem?_map]
  by_cases h : i < L.length
  · simp [h, List.getD_eq_getElem?_getD]
  · simp [h]
theorem RV.flLL_of {w : World} {M : Map} {u : Value} {L : List (List Int)} (h : RV w M u (.sl 1 ((L.map flL).map fun y => [y]))) : RV w M u (flLL L) := by
  refine .fl _ _ _ _ ?_
  rw [flLL_rows]; exact h
theorem RV.flLL_to {w : World} {M : Map} {u : Value} {L : List (List Int)} (h : RV w M u (flLL L)) : RV w M u (.sl 1 ((L.map flL).map fun y => [y])) := by
  cases h with | fl _ _ _ _ h => rw [flLL_rows] at h; exact h
theorem RV.flLL_zs {w : World} {M : Map} {u : Value} (h : RV w M u .zs) : RV w M u (flLL []) := by cases h; exact .fl _ _ _ _ (.sl0 _ _ _)
theorem below_flLL {n : Nat} (L : List (List Int)) : Below n (flLL L) := below_fl fun i x hx => by rw [List.mem_singleton.1 hx]; exact below_flL _

theorem ACall.conv {P : Program} {G : Nat → Option (List AV)} {f : FuncId} {xs : List AV} {σ σ' : Heap} {v v' : AV} (h : ACall P G f xs σ v σ') (hv : ∀ w M u, RV w M u v → RV w M u v') : ACall P G f xs σ v' σ' :=
  ⟨h.1, fun w M vs hi hvs => (h.2 w M vs hi hvs).mono fun _ _ ⟨u, M', he, hu, hx, hi'⟩ => ⟨u, M', he, hv _ _ _ hu, hx, hi'⟩⟩

theorem freezeL_id {h : Heap} {k : Nat} : ∀ {L : List AV}, (∀ x ∈ L, freeze h k x = some x) → freezeL (freeze h k) L = some L
  | [], _ => rfl
  | x :: r, hx => by
    unfold freezeL
    rw [hx x (by simp), freezeL_id fun y hy => hx y (by simp [hy])]
theorem rowsOf_ones {h : Heap} {k : Nat} : ∀ (l pre : List AV), (∀ x ∈ l, freeze h k x = some x) → rowsOf (freeze h k) 1 (pre ++ l) pre.length l.length = some (l.map fun y => [y])
  | [], pre, _ => rfl
  | x :: r, pre, hx => by
    have ih := rowsOf_ones r (pre ++ [x]) fun y hy => hx y (by simp [hy])
    simp only [List.length_append, List.length_singleton, List.append_assoc, List.singleton_append] at ih
    simp only [List.length_cons, rowsOf]
    rw [if_pos (by simp), ih]
    have : ((pre ++ x :: r).drop pre.length).take 1 = [x] := by simp
    rw [this, freezeL_id fun y hy => hx y (by rw [List.mem_singleton.1 hy]; simp)]
    rfl
/-- The data that a grown slice is. -/
def fA : List AV → AV
  | [] => .zs
  | x :: l => .sl 1 ((x :: l).map fun y => [y])
theorem freeze_vA (L : List AV) (k : Nat) (hx : ∀ x ∈ L, freeze (oA L) k x = some x) : freeze (oA L) (k + 1) (vA 0 L) = some (fA L) := by
  cases L with
  | nil => rfl
  | cons x r =>
    have := rowsOf_ones (h := oA (x :: r)) (k := k) (x :: r) [] hx
    simp only [List.nil_append, List.length_nil, List.length_cons] at this
    unfold freeze
    simp only [vA]
    have ho : objAt (oA (x :: r)) 0 r.length = some (x :: r) := by simp [oA, objAt]
    rw [ho]
    simp only [this, Option.map_some, fA]
theorem RV.fA_flL {w : World} {M : Map} {u : Value} {L : List Int} (h : RV w M u (fA (L.map I))) : RV w M u (flL L) := by
  cases L with
  | nil => exact h.flL_zs
  | cons x r => exact h.flL_of
theorem RV.fA_flLL {w : World} {M : Map} {u : Value} {L : List (List Int)} (h : RV w M u (fA (L.map flL))) : RV w M u (flLL L) := by
  cases L with
  | nil => exact h.flLL_zs
  | cons x r => exact h.flLL_of
theorem RV.fA_flA {w : World} {M : Map} {u : Value} {L : List AV} (h : RV w M u (fA L)) : RV w M u (flA L) := by
  cases L with
  | nil => exact h.flA_zs
  | cons x r => exact h.flA_of

/-! ### The lowest bit -/
def clNone : FuncId → List AV → Option (Tree AV) := fun _ _ => none
def Etab : Env := { hint := hTab }
theorem clokTab : ClOk Tryd.prog G0 Etab := .ofH rfl rfl hTab_ok.ok fun f xs t v h => by cases h
def tabIx (s : Int) : Int := (IntKind.u64.wrap (uand s (IntKind.u64.wrap (0 - s)) * 285870213051353865)).fdiv (2 ^ (min (Int.toNat 58) IntKind.u64.bits))
theorem run66 (s : Int) (h : Heap) : xCall Tryd.prog G0 Etab 200 66 [U s] [true] h = .ite (s == 0) (.leaf (I 64, false, h))
    (.need (0 ≤ tabIx s ∧ tabIx s < 64) (.need (∃ v, tabC[(tabIx s).toNat]? = some (.int .u8 v)) (.leaf (I (IntKind.i64.wrap (intOf (tabC.getD (tabIx s).toNat .junk))), true, h)))) := by kernel_rfl
theorem tabIx_eq {s : Nat} (h0 : s ≠ 0) (h : s < 2 ^ 64) : tabIx s = ((2 ^ tz s * 285870213051353865) % 18446744073709551616 / 288230376151711744 : Nat) := by
  unfold tabIx
  have e1 : IntKind.u64.wrap (0 - (s : Int)) = ((2 ^ 64 - s : Nat) : Int) := by
    simp [IntKind.wrap, IntKind.signed, IntKind.bits]
    omega
  rw [e1, uand_nat h (by omega), lowBit h0 h]
  have e2 : IntKind.u64.wrap (((2 ^ tz s : Nat) : Int) * 285870213051353865) = ((2 ^ tz s * 285870213051353865 % 18446744073709551616 : Nat) : Int) := by
    simp [IntKind.wrap, IntKind.signed, IntKind.bits]
  rw [e2]
  have e3 : (2 : Int) ^ (min (Int.toNat 58) IntKind.u64.bits) = ((288230376151711744 : Nat) : Int) := by rfl
  rw [e3, Int.fdiv_eq_ediv_of_nonneg _ (by omega)]
  exact (Int.natCast_ediv _ _).symm
theorem c66 {s : Nat} (h0 : s ≠ 0) (h : s < 2 ^ 64) (σ : Heap) : ACall Tryd.prog G0 66 [U s] σ (I (tz s)) σ := by
  obtain ⟨q, hq, hk⟩ := tz_spec h0 h
  have ht := tab_ok (tz s) hk
  have hlt := (List.getElem?_eq_some_iff.1 ht).1
  have hlen : tabL.length = 64 := rfl
  have hc : tabC[(tabIx s).toNat]? = some (.int .u8 (tz s)) := by
    rw [tabIx_eq h0 h, Int.toNat_natCast]
    unfold tabC
    rw [List.getElem?_map, ht]; rfl
  refine xCall_ok (n := 200) (tags := [true]) (s := true) names mixed clokTab ?_
  rw [run66, selI, beq_false_of_ne (by omega : (s : Int) ≠ 0), cond_false, Tree.sel_need ⟨by rw [tabIx_eq h0 h]; omega, by rw [tabIx_eq h0 h]; omega⟩, Tree.sel_need ⟨_, hc⟩, List.getD_eq_getElem?_getD, hc, Option.getD_some, intOf, wrap_i64 (by omega) (by omega)]
  rfl
end Go.Proofs.YtjljigccgaadaaaDoor.Am

namespace Go.Proofs.YtjljigccgaadaaaDoor.Am
open Go
set_option maxRecDepth 100000

def cl44 : FuncId → List AV → Option (Tree AV) := fun f xs => match f, xs with
  | 66, [.int .u64 s] => some (.need (0 < s ∧ s < 18446744073709551616) (.leaf (I (tz s.toNat))))
  | _, _ => none
def E44 (s : Nat) (v v' : AV) (h0 h' : Heap) : Env := { cl := cl44, hint := hApp 22 v (.sl 1 [[I (tz s)]]) v' h0 h' }
theorem clok44 (s : Nat) (v v' : AV) (h0 h' : Heap) : ClOk Tryd.prog G0 (E44 s v v' h0 h') := by
  refine .ofH rfl rfl (hApp_ok _ _ _ _ _ _).ok ?_
  intro f xs t v hc hs σ
  replace hc : cl44 f xs = some t := hc
  unfold cl44 at hc
  split at hc <;> first | (cases hc; done) | skip
  rename_i s'
  cases hc
  obtain ⟨⟨h1, h2⟩, hs2⟩ := Tree.of_need hs
  cases hs2
  have e : s' = (s'.toNat : Int) := by omega
  rw [e]
  exact c66 (by omega) (by omega) σ
def st44 (s : Int) (v : AV) (h : Heap) : St := .of 16 h [(0, U s, true), (3, v, true)]
noncomputable def body44 : Code := (loopsOf (bodyOf Tryd.prog 44)).headD .skip
theorem run44 (s : Nat) (v v' : AV) (h0 h' : Heap) : xBody Tryd.prog G0 (E44 s v v' h0 h') 100 noLoops [0, 3] body44 (st44 s v h0) =
    .ite ((s : Int) != 0) (.need (0 < (s : Int) ∧ (s : Int) < 18446744073709551616) (.need (some [v, .sl 1 [[I (tz s)]]] = some [v, .sl 1 [[I (tz s)]]] ∧ #[22, 22] = #[22, 22] ∧ h0 = h0 ∧ aAppend Tryd.prog h0 22 22 v (.sl 1 [[I (tz s)]]) = some (v', h'))
      (.leaf (.normal, st44 (uand s (IntKind.u64.wrap (s - 1))) v' h')))) (.leaf (.exit 0, st44 s v h0)) := by kernel_rfl
/-- A list of integers, its cells. -/
def cI (L : List Nat) : List AV := L.map fun (n : Nat) => I n
theorem cI_append (L : List Nat) (n : Nat) : cI L ++ [I n] = cI (L ++ [n]) := by simp [cI]
theorem loop44 {R : Option Nat → Prop} (base : Heap) : ∀ (n s : Nat) (acc : List Nat), s < n → s < 2 ^ 64 → acc.length + (bitsL s).length ≤ 1000 →
    ALoopRun Tryd.prog G0 R body44 { tmps := (st44 s (vA base.length (cI acc)) (base ++ oA (cI acc))).a } (base ++ oA (cI acc)) (.exit 0) { tmps := (st44 0 (vA base.length (cI (acc ++ bitsL s))) (base ++ oA (cI (acc ++ bitsL s)))).a } (base ++ oA (cI (acc ++ bitsL s)))
  | 0, s, acc, h, _, _ => by omega
  | n + 1, s, acc, h, hs, hl => by
    by_cases h0 : s = 0
    · subst h0
      rw [bitsL_zero, List.append_nil]
      refine .stop (xBody_ok (m := []) names mixed (clok44 0 (vA base.length (cI acc)) .junk (base ++ oA (cI acc)) []) (lpNo body44) (n := 100) (keep := [0, 3]) (st := st44 0 (vA base.length (cI acc)) (base ++ oA (cI acc))) (st' := st44 0 (vA base.length (cI acc)) (base ++ oA (cI acc))) ?_).1 nofun
      exact (congrArg Tree.sel (run44 0 _ _ _ _)).trans rfl
    · have hb := bitsL_cons h0 hs
      rw [hb, List.length_cons] at hl
      have ih := loop44 (R := R) base n (dropLow s) (acc ++ [tz s]) (by have := dropLow_less h0; omega) (dropLow_lt hs) (by simp; omega)
      rw [List.append_assoc, List.singleton_append, ← hb] at ih
      refine .next (xBody_ok (m := []) names mixed (clok44 s (vA base.length (cI acc)) (vA base.length (cI (acc ++ [tz s]))) (base ++ oA (cI acc)) (base ++ oA (cI (acc ++ [tz s])))) (lpNo body44) (n := 100) (keep := [0, 3]) (st := st44 s (vA base.length (cI acc)) (base ++ oA (cI acc))) (st' := st44 (dropLow s) (vA base.length (cI (acc ++ [tz s]))) (base ++ oA (cI (acc ++ [tz s])))) ?_).1 ih
      have happ := append_vA el22 base (cI acc) (I (tz s)) rfl (by simp [cI]; omega)
      rw [cI_append] at happ
      have hw : IntKind.u64.wrap ((s : Int) - 1) = ((s - 1 : Nat) : Int) := by rw [wrap_u64 (by omega) (by omega)]; omega
      rw [run44, selI, bne_iff_ne.2 (by omega : (s : Int) ≠ 0), cond_true, Tree.sel_need ⟨by omega, by omega⟩, Tree.sel_need ⟨rfl, rfl, rfl, happ⟩, hw, uand_nat hs (by omega)]
      rfl
theorem exec44 {R : Option Nat → Prop} (base : Heap) {s : Nat} (hs : s < 2 ^ 64) : AExec Tryd.prog G0 R (.loop body44) { tmps := (st44 s .zs base).a } base (.exit 0) { tmps := (st44 0 (vA base.length (cI (bitsL s))) (base ++ oA (cI (bitsL s)))).a } (base ++ oA (cI (bitsL s))) := by
  have := loop44 (R := R) base (s + 1) s [] (by omega) hs (by have := bitsL_len s; simp; omega)
  have e : base ++ oA (cI []) = base := by simp [cI, oA]
  simp only [List.nil_append, e] at this
  exact .loop this

def lp44 (s : Nat) (h : Heap) (v' : AV) (h' : Heap) : Loops := fun id => match id with
  | 2 => some ([0, 3], st44 s .zs h, .leaf (.exit 0, st44 0 v' h'))
  | _ => none
theorem loops44 : loopsOf (bodyOf Tryd.prog 44) = [body44] := by kernel_rfl
theorem id44 : idOf body44 = 2 := by kernel_rfl
theorem lpok44 {s : Nat} {h h' : Heap} {v' : AV} (hx : AExec Tryd.prog G0 (fun r => r = none) (.loop body44) { tmps := (st44 s .zs h).a } h (.exit 0) { tmps := (st44 0 v' h').a } h') : LoopsOk Tryd.prog G0 (fun r => r = none) [] (lp44 s h v' h') (bodyOf Tryd.prog 44) := by
  refine .of_list _ fun x hm => ?_
  rw [loops44] at hm
  obtain rfl := List.mem_singleton.1 hm
  intro keep s0 t e st' h' hs
  rw [id44] at h'
  cases h'
  cases hs
  exact ⟨hx, rfl⟩
theorem runF44 (s : Nat) (h : Heap) (v' : AV) (h' : Heap) : xenter Tryd.prog {} (xCode Tryd.prog G0 {} 200 (lp44 s h v' h')) 44 [U s] [true] h = .need ((st44 s .zs h).vals = (st44 s .zs h).vals) (.leaf (v', true, h')) := by kernel_rfl
theorem clok0 : ClOk Tryd.prog G0 {} := .of rfl rfl fun f xs t v h => by cases h
theorem fnOf {f : FuncId} (h : ((Tryd.prog.funcs[f]?).bind (·.body)).isSome = true) : ∃ fn c, Tryd.prog.funcs[f]? = some fn ∧ fn.body = some c ∧ bodyOf Tryd.prog f = c := by
  obtain ⟨c, h4⟩ := Option.isSome_iff_exists.1 h
  obtain ⟨fn, h2, h4⟩ := Option.bind_eq_some_iff.1 h4
  exact ⟨fn, c, h2, h4, by unfold bodyOf; rw [h2]; simp [h4]⟩
/-- A function, from what the machine finds of it, over whatever heap. -/
theorem ACall.find {E : Env} (hcl : ClOk Tryd.prog G0 E) {lp : Loops} {n : Nat} {f : FuncId} (hlp : LoopsOk Tryd.prog G0 (fun r => r = none) [] lp (bodyOf Tryd.prog f)) {xs : List AV} {tags : List Bool} {h h' : Heap} {v : AV} {s : Bool}
    (hx : (xenter Tryd.prog E (xCode Tryd.prog G0 E n lp) f xs tags h).sel = some (v, s, h')) : ACall Tryd.prog G0 f xs h v h' := by
  have hfn : ∃ fn c, Tryd.prog.funcs[f]? = some fn ∧ fn.body = some c := by
    unfold xenter at hx
    split at hx
    · rename_i fn hfn
      split at hx
      · rename_i c hb; exact ⟨fn, c, hfn, hb⟩
      · cases hx
    · cases hx
  obtain ⟨fn, c, h1, h2⟩ := hfn
  have hc : bodyOf Tryd.prog f = c := by unfold bodyOf; rw [h1]; simp [h2]
  rw [hc] at hlp
  exact xFn_ok names mixed hcl h1 h2 hlp hx
/-- THE LIST OF A SET, a new slice. -/
theorem c44n {s : Nat} (hs : s < 2 ^ 64) (σ : Heap) : ACall Tryd.prog G0 44 [U s] σ (vA σ.length (cI (bitsL s))) (σ ++ oA (cI (bitsL s))) :=
  .find clok0 (lpok44 (exec44 σ hs)) ((congrArg Tree.sel (runF44 s σ _ _)).trans (selR.trans rfl))
/-- THE LIST OF A SET, as data. -/
theorem c44 {s : Nat} (hs : s < 2 ^ 64) (σ : Heap) : ACall Tryd.prog G0 44 [U s] σ (flN (bitsL s)) σ := by
  have h := c44n hs []
  have e : cI (bitsL s) = ((bitsL s).map Int.ofNat).map I := by unfold cI; rw [List.map_map]; rfl
  refine ((h.lift (k := 2) (freeze_vA _ 1 fun x hx => ?_) gbelow0 (fun x hx => ?_) σ)).conv fun _ _ _ h => by rw [e] at h; exact h.fA_flL
  · obtain ⟨n, _, rfl⟩ := List.mem_map.1 hx; rfl
  · rw [List.mem_singleton.1 hx]; exact .int _ _
end Go.Proofs.YtjljigccgaadaaaDoor.Am

namespace Go.Proofs.YtjljigccgaadaaaDoor.Am
open Go
set_option maxRecDepth 100000

def Esh : Env := { hint := hShift }
theorem clokSh : ClOk Tryd.prog G0 Esh := .ofH rfl rfl hShift_ok.ok fun f xs t v h => by cases h

/-! ### asked, fails, below -/
def askE (n m : Int) : Int := bif decide (n < 0) then 2 else bif decide (n > m) then 2 else 0
theorem c41 (n m : Int) (g : FuncId) (xs ys : List AV) (h : Heap) : ACall Tryd.prog G0 41 [I n, I m, .fn g xs ys] h (I (askE n m)) h := by
  have run : xCall Tryd.prog G0 {} 200 41 [I n, I m, .fn g xs ys] [true, true, true] h = .ite false (.leaf (I 1, false, h)) (.ite (decide (n < 0)) (.leaf (I 2, false, h)) (.ite (decide (n > m)) (.leaf (I 2, false, h)) (.leaf (I 0, false, h)))) := by kernel_rfl
  refine xCall_ok (n := 200) (tags := [true, true, true]) (s := false) names mixed clok0 ?_
  rw [run, selI, cond_false, selI, selI]
  unfold askE
  cases decide (n < 0) <;> cases decide (n > m) <;> rfl
theorem c41n (n m : Int) (h : Heap) : ACall Tryd.prog G0 41 [I n, I m, .nilf] h (I 1) h := by
  have run : xCall Tryd.prog G0 {} 200 41 [I n, I m, .nilf] [true, true, true] h = .ite true (.leaf (I 1, false, h)) (.ite (decide (n < 0)) (.leaf (I 2, false, h)) (.ite (decide (n > m)) (.leaf (I 2, false, h)) (.leaf (I 0, false, h)))) := by kernel_rfl
  refine xCall_ok (n := 200) (tags := [true, true, true]) (s := false) names mixed clok0 ?_
  rw [run]; rfl
theorem c42 (g : FuncId) (xs ys : List AV) (h : Heap) : ACall Tryd.prog G0 42 [.fn g xs ys] h (.fn 65 [] [.row [.fn g xs ys] 0]) h := by
  have run : xCall Tryd.prog G0 {} 200 42 [.fn g xs ys] [true] h = .leaf (.fn 65 [] [.row [.fn g xs ys] 0], true, h) := by kernel_rfl
  exact xCall_ok (n := 200) (tags := [true]) (s := true) names mixed clok0 (by rw [run]; rfl)
theorem c43 {n : Nat} (hn : n ≤ 64) (h : Heap) : ACall Tryd.prog G0 43 [I n] h (U (2 ^ n - 1 : Nat)) h := by
  have run : xCall Tryd.prog G0 Esh 200 43 [I n] [true] h = .need (0 ≤ IntKind.i64.wrap (64 - (n : Int))) (.leaf (U (ushr 18446744073709551615 (IntKind.i64.wrap (64 - (n : Int)))), true, h)) := by kernel_rfl
  have hw : IntKind.i64.wrap (64 - (n : Int)) = ((64 - n : Nat) : Int) := by rw [wrap_i64 (by omega) (by omega)]; omega
  refine xCall_ok (n := 200) (tags := [true]) (s := true) names mixed clokSh ?_
  rw [run, hw, Tree.sel_need (by omega)]
  have e : ushr 18446744073709551615 ((64 - n : Nat) : Int) = ((2 ^ n - 1 : Nat) : Int) := by
    have hall : ((List.range 65).all fun n => ushr 18446744073709551615 ((64 - n : Nat) : Int) == ((2 ^ n - 1 : Nat) : Int)) = true := by kernel_rfl
    have := List.all_eq_true.1 hall n (List.mem_range.2 (by omega))
    simpa using this
  rw [e]; rfl

/-! ### of -/
def ofLoop (n : Int) : List Int → Int → Nat → Option Nat
  | [], _, s => some s
  | x :: r, last, s => if x ≤ last ∨ x ≥ n then none else ofLoop n r x (s ||| 2 ^ x.toNat)
/-- The set of a list, if it is one of numbers below n. -/
def ofL (n : Int) (L : List Int) : Option Nat := ofLoop n L (-1) 0
def ofV (o : Option Nat) : AV := .tup [U (o.getD 0 : Nat), .bool o.isSome]
def st45 (n : Int) (L : List Int) (s : Int) (last k : Int) (h : Heap) : St := .of 31 h [(0, I n, true), (6, U s, true), (7, I last, true), (10, flL L, true), (11, I L.length, true), (12, I k, true)]
def stX45 (s : Int) (h : Heap) : St := .of 31 h [(6, U s, true)]
def stR45 (h : Heap) : St := .of 31 h [(4, U 0, false), (5, .bool false, false)]
noncomputable def body45 : Code := (loopsOf (bodyOf Tryd.prog 45)).headD .skip
def inLen (L : List Int) (k : Nat) : Prop := 0 ≤ (k : Int) ∧ (k : Int) < L.length
theorem run45n (n : Int) (L : List Int) (s last : Int) (k : Nat) (h : Heap) : xBody Tryd.prog G0 Esh 100 noLoops [0, 6, 7, 10, 11, 12] body45 (st45 n L s last k h) =
    .ite (decide ((k : Int) < L.length)) (.need (inLen L k) (.ite (decide (L.getD (k : Int).toNat 0 ≤ last)) (.leaf (.ret, st45 n L s last k h)) (.ite (decide (L.getD (k : Int).toNat 0 ≥ n)) (.leaf (.ret, st45 n L s last k h))
      (.need (0 ≤ L.getD (k : Int).toNat 0) (.leaf (.normal, st45 n L (uor s (ushl 1 (L.getD (k : Int).toNat 0))) (L.getD (k : Int).toNat 0) (IntKind.i64.wrap (k + 1)) h)))))) (.leaf (.exit 0, st45 n L s last k h)) := by kernel_rfl
theorem run45x (n : Int) (L : List Int) (s last : Int) (k : Nat) (h : Heap) : xBody Tryd.prog G0 Esh 100 noLoops [6] body45 (st45 n L s last k h) =
    .ite (decide ((k : Int) < L.length)) (.need (inLen L k) (.ite (decide (L.getD (k : Int).toNat 0 ≤ last)) (.leaf (.ret, stX45 s h)) (.ite (decide (L.getD (k : Int).toNat 0 ≥ n)) (.leaf (.ret, stX45 s h))
      (.need (0 ≤ L.getD (k : Int).toNat 0) (.leaf (.normal, stX45 (uor s (ushl 1 (L.getD (k : Int).toNat 0))) h)))))) (.leaf (.exit 0, stX45 s h)) := by kernel_rfl
def stJ45 (h : Heap) : St := .of 31 h [(4, .junk, false), (5, .junk, false)]
theorem run45r (n : Int) (L : List Int) (s last : Int) (k : Nat) (h : Heap) : xBody Tryd.prog G0 Esh 100 noLoops [4, 5] body45 (st45 n L s last k h) =
    .ite (decide ((k : Int) < L.length)) (.need (inLen L k) (.ite (decide (L.getD (k : Int).toNat 0 ≤ last)) (.leaf (.ret, stR45 h)) (.ite (decide (L.getD (k : Int).toNat 0 ≥ n)) (.leaf (.ret, stR45 h))
      (.need (0 ≤ L.getD (k : Int).toNat 0) (.leaf (.normal, stJ45 h)))))) (.leaf (.exit 0, stJ45 h)) := by kernel_rfl
def end45 (o : Option Nat) (h : Heap) : Exit × St := match o with
  | some s => (.exit 0, stX45 s h)
  | none => (.ret, stR45 h)
theorem getD_nat {L : List Int} {k : Nat} (hk : k < L.length) : L.getD (k : Int).toNat 0 = L[k] := by rw [Int.toNat_natCast]; simp [List.getD_eq_getElem?_getD, hk]
theorem ushl_one {n : Nat} (h : n < 64) : ushl 1 (n : Int) = (2 ^ n : Nat) := by
  unfold ushl
  have hb : IntKind.u64.bits = 64 := rfl
  rw [Int.toNat_natCast, hb, Nat.min_eq_left (by omega), Int.one_mul]
  have h1 : 2 ^ n < 2 ^ 64 := Nat.pow_lt_pow_right (by omega) h
  have e : ((2 : Int) ^ n) = ((2 ^ n : Nat) : Int) := by simp
  rw [e]
  generalize 2 ^ n = q at h1
  exact wrap_u64 (by omega) (by omega)
theorem loop45 {R : Option Nat → Prop} {n : Int} (hn : n ≤ 64) {L : List Int} (hL : L.length < 9223372036854775807) (h : Heap) : ∀ (d k : Nat) (last : Int) (s : Nat), k + d = L.length → -1 ≤ last → s < 2 ^ 64 →
    ALoopRun Tryd.prog G0 R body45 { tmps := (st45 n L s last k h).a } h (end45 (ofLoop n (L.drop k) last s) h).1 { tmps := (end45 (ofLoop n (L.drop k) last s) h).2.a } h
  | 0, k, last, s, hk, _, _ => by
    rw [List.drop_eq_nil_of_le (by omega)]
    refine .stop (xBody_ok (m := []) names mixed clokSh (lpNo body45) (n := 100) (keep := [6]) (st := st45 n L s last k h) (st' := stX45 s h) ?_).1 nofun
    rw [run45x, selI, decide_eq_false (by omega)]
    rfl
  | d + 1, k, last, s, hk, h0, hs => by
    have hlt : k < L.length := by omega
    have hin : inLen L k := ⟨by omega, by omega⟩
    rw [List.drop_eq_getElem_cons hlt, ofLoop]
    by_cases h1 : L[k] ≤ last
    · rw [if_pos (.inl h1)]
      refine .stop (xBody_ok (m := []) names mixed clokSh (lpNo body45) (n := 100) (keep := [4, 5]) (st := st45 n L s last k h) (st' := stR45 h) ?_).1 nofun
      rw [run45r, selI, decide_eq_true hin.2, cond_true, Tree.sel_need hin, selI, getD_nat hlt, decide_eq_true h1]
      rfl
    · by_cases h2 : L[k] ≥ n
      · rw [if_pos (.inr h2)]
        refine .stop (xBody_ok (m := []) names mixed clokSh (lpNo body45) (n := 100) (keep := [4, 5]) (st := st45 n L s last k h) (st' := stR45 h) ?_).1 nofun
        rw [run45r, selI, decide_eq_true hin.2, cond_true, Tree.sel_need hin, selI, getD_nat hlt, decide_eq_false h1, cond_false, selI, decide_eq_true h2]
        rfl
      · rw [if_neg (by omega)]
        have hx : L[k] = ((L[k]).toNat : Int) := by omega
        have hx64 : (L[k]).toNat < 64 := by omega
        have hp : 2 ^ (L[k]).toNat < 2 ^ 64 := Nat.pow_lt_pow_right (by omega) hx64
        have ih := loop45 (R := R) hn hL h d (k + 1) L[k] (s ||| 2 ^ (L[k]).toNat) (by omega) (by omega) (Nat.or_lt_two_pow hs hp)
        refine .next (xBody_ok (m := []) names mixed clokSh (lpNo body45) (n := 100) (keep := [0, 6, 7, 10, 11, 12]) (st := st45 n L s last k h) (st' := st45 n L (s ||| 2 ^ (L[k]).toNat : Nat) L[k] (k + 1 : Nat) h) ?_).1 ih
        have hw : IntKind.i64.wrap ((k : Int) + 1) = ((k + 1 : Nat) : Int) := wrap_i64 (by omega) (by omega)
        have hsh : ushl 1 L[k] = ((2 ^ (L[k]).toNat : Nat) : Int) := by rw [hx]; exact ushl_one hx64
        rw [run45n, selI, decide_eq_true hin.2, cond_true, Tree.sel_need hin, selI, getD_nat hlt, decide_eq_false h1, cond_false, selI, decide_eq_false h2, cond_false, Tree.sel_need (by omega), hsh, uor_nat hs hp, hw]
        rfl
def lp45 (n : Int) (L : List Int) (h : Heap) (o : Option Nat) : Loops := fun id => match id with
  | 3 => some ([0, 6, 7, 10, 11, 12], st45 n L 0 (-1) 0 h, .ite o.isSome (.leaf (.exit 0, stX45 (o.getD 0 : Nat) h)) (.leaf (.ret, stR45 h)))
  | _ => none
theorem loops45 : loopsOf (bodyOf Tryd.prog 45) = [body45] := by kernel_rfl
theorem id45 : idOf body45 = 3 := by kernel_rfl
theorem runF45 (n : Int) (L : List Int) (h : Heap) (o : Option Nat) : xenter Tryd.prog Esh (xCode Tryd.prog G0 Esh 200 (lp45 n L h o)) 45 [I n, flL L] [true, true] h =
    .need ((st45 n L 0 (-1) 0 h).vals = (st45 n L 0 (-1) 0 h).vals) (.ite o.isSome (.leaf (.tup [U (o.getD 0 : Nat), .bool true], true, h)) (.leaf (.tup [U 0, .bool false], false, h))) := by kernel_rfl
theorem c45 {n : Int} (hn : n ≤ 64) {L : List Int} (hL : L.length < 9223372036854775807) (h : Heap) : ACall Tryd.prog G0 45 [I n, flL L] h (ofV (ofL n L)) h := by
  have hlp : LoopsOk Tryd.prog G0 (fun r => r = none) [] (lp45 n L h (ofL n L)) (bodyOf Tryd.prog 45) := by
    refine .of_list _ fun x hm => ?_
    rw [loops45] at hm
    obtain rfl := List.mem_singleton.1 hm
    intro keep s0 t e st' h' hs
    rw [id45] at h'
    cases h'
    have := loop45 (R := fun r => r = none) hn hL h L.length 0 (-1) 0 (by omega) (by omega) (by omega)
    rw [List.drop_zero] at this
    change ALoopRun _ _ _ _ _ _ (end45 (ofL n L) h).1 { tmps := (end45 (ofL n L) h).2.a } h at this
    rw [selI] at hs
    revert hs this
    cases ofL n L with
    | none => intro hs this; cases hs; exact ⟨.loop this, rfl⟩
    | some s => intro hs this; cases hs; exact ⟨.loop this, rfl⟩
  have key := runF45 n L h (ofL n L)
  have sel : (xenter Tryd.prog Esh (xCode Tryd.prog G0 Esh 200 (lp45 n L h (ofL n L))) 45 [I n, flL L] [true, true] h).sel = some (ofV (ofL n L), (ofL n L).isSome, h) := by
    rw [key, selR, selI]
    cases ofL n L <;> rfl
  exact .find clokSh hlp sel
end Go.Proofs.YtjljigccgaadaaaDoor.Am

namespace Go.Proofs.YtjljigccgaadaaaDoor.Am
open Go
set_option maxRecDepth 100000

/-- A function on sets: asked in the state st (whose heap is hp st) for a set it answers, and is in another state then. D: the sets for which it may be asked. -/
def HasOk {S : Type} (g : FuncId) (caps : List AV) (hp : S → Heap) (stp : S → Nat → Bool × S) (D : Nat → Prop) : Prop :=
  ∀ st s, D s → s < 2 ^ 64 → ACall Tryd.prog G0 g (U s :: caps) (hp st) (.bool (stp st s).1) (hp (stp st s).2)
/-- A function on lists. -/
def FulOk {S : Type} (g : FuncId) (caps : List AV) (hp : S → Heap) (stp : S → Nat → Bool × S) : Prop :=
  ∀ st s, s < 2 ^ 64 → ACall Tryd.prog G0 g (flN (bitsL s) :: caps) (hp st) (.bool (stp st s).1) (hp (stp st s).2)

/-! ### fails' function -/
def cl65 (s : Nat) : FuncId → List AV → Option (Tree AV) := fun f xs => match xs with
  | [.int .u64 x] => some (.need (f = 44 ∧ x = s ∧ s < 2 ^ 64) (.leaf (flN (bitsL s))))
  | _ => none
def clF (g : FuncId) (caps : List AV) (s : Nat) (b : Bool) (h h' : Heap) : FuncId → List AV → Heap → Option (Tree (AV × Heap)) := fun f xs h0 => match xs with
  | .fl _ _ _ :: _ => some (.need (f = g ∧ xs = flN (bitsL s) :: caps ∧ h0 = h) (.leaf (.bool b, h')))
  | _ => none
def E65 (g : FuncId) (caps : List AV) (s : Nat) (b : Bool) (h h' : Heap) : Env := { cl := cl65 s, clh := clF g caps s b h h' }
theorem clok65 {g : FuncId} {caps : List AV} {s : Nat} {b : Bool} {h h' : Heap} (hc : ACall Tryd.prog G0 g (flN (bitsL s) :: caps) h (.bool b) h') : ClOk Tryd.prog G0 (E65 g caps s b h h') := by
  refine .all .none ?_ (fun l xs σ t v σ' h => (by cases h)) ?_
  · intro f xs σ t v σ' hq hs
    replace hq : clF g caps s b h h' f xs σ = some t := hq
    unfold clF at hq
    split at hq <;> first | (cases hq; done) | skip
    cases hq
    obtain ⟨⟨rfl, h2, rfl⟩, hs2⟩ := Tree.of_need hs
    cases hs2
    rw [h2]
    exact hc
  · intro f xs t v hq hs σ
    replace hq : cl65 s f xs = some t := hq
    unfold cl65 at hq
    split at hq <;> first | (cases hq; done) | skip
    cases hq
    obtain ⟨⟨rfl, rfl, h3⟩, hs2⟩ := Tree.of_need hs
    cases hs2
    exact c44 h3 σ
theorem run65 (g : FuncId) (caps : List AV) (s : Nat) (b : Bool) (h h' : Heap) : xCall Tryd.prog G0 (E65 g caps s b h h') 200 65 [U s, .row [.fn g [] caps] 0] [true, true] h =
    .need (44 = 44 ∧ (s : Int) = s ∧ s < 2 ^ 64) (.need (g = g ∧ flN (bitsL s) :: caps = flN (bitsL s) :: caps ∧ h = h) (.leaf (.bool (!b), true, h'))) := by kernel_rfl
theorem c65 {S : Type} {g : FuncId} {caps : List AV} {hp : S → Heap} {stp : S → Nat → Bool × S} (hf : FulOk g caps hp stp) : HasOk 65 [.row [.fn g [] caps] 0] hp (fun st s => (!(stp st s).1, (stp st s).2)) fun _ => True := by
  intro st s _ hs
  refine xCall_ok (n := 200) (tags := [true, true]) (s := true) names mixed (clok65 (hf st s hs)) ?_
  rw [run65, Tree.sel_need ⟨rfl, rfl, hs⟩, Tree.sel_need ⟨rfl, rfl, rfl⟩]
  rfl

/-! ### irreducible -/
/-- A set without a number. -/
def del (s k : Nat) : Nat := s &&& (2 ^ 64 - 1 - 2 ^ k)
theorem del_lt {s k : Nat} (h : s < 2 ^ 64) : del s k < 2 ^ 64 := Nat.lt_of_le_of_lt Nat.and_le_left h
theorem del_bit {s k : Nat} (h : s < 2 ^ 64) (hk : k < 64) (j : Nat) : (del s k).testBit j = (s.testBit j && decide (j ≠ k)) := by
  unfold del
  have h1 : 2 ^ k < 2 ^ 64 := Nat.pow_lt_pow_right (by omega) hk
  have e : 2 ^ 64 - 1 - 2 ^ k = 2 ^ 64 - (2 ^ k + 1) := by omega
  rw [Nat.testBit_and, e, Nat.testBit_two_pow_sub_succ h1, Nat.testBit_two_pow]
  by_cases hj : j < 64
  · simp only [hj, decide_true, Bool.true_and]
    by_cases hk2 : j = k
    · simp [hk2]
    · have : ¬ k = j := fun e => hk2 e.symm
      simp [hk2, this]
  · have : s.testBit j = false := Nat.testBit_lt_two_pow (Nat.lt_of_lt_of_le h (Nat.pow_le_pow_right (by omega) (by omega)))
    simp [this]
/-- The loop of irreducible, with the state of the function that is asked. -/
def irrLoop {S : Type} (stp : S → Nat → Bool × S) (s : Nat) : Nat → Nat → S → Bool × S
  | 0, _, st => (true, st)
  | f + 1, r, st => if r = 0 then (true, st) else if (stp st (del s (tz r))).1 then (false, (stp st (del s (tz r))).2) else irrLoop stp s f (dropLow r) (stp st (del s (tz r))).2
def irrS {S : Type} (stp : S → Nat → Bool × S) (st : S) (s : Nat) : Bool × S :=
  if (stp st s).1 then irrLoop stp s (s + 1) s (stp st s).2 else (false, (stp st s).2)

def clB (g : FuncId) (caps : List AV) (s : Int) (b : Bool) (h h' : Heap) : FuncId → List AV → Heap → Option (Tree (AV × Heap)) := fun f xs h0 => match xs with
  | .int .u64 _ :: _ => some (.need (f = g ∧ xs = U s :: caps ∧ h0 = h) (.leaf (.bool b, h')))
  | _ => none
def EB (g : FuncId) (caps : List AV) (s : Int) (b : Bool) (h h' : Heap) : Env := { clh := clB g caps s b h h' }
theorem clokB {g : FuncId} {caps : List AV} {s : Int} {b : Bool} {h h' : Heap} (hc : ACall Tryd.prog G0 g (U s :: caps) h (.bool b) h') : ClOk Tryd.prog G0 (EB g caps s b h h') := by
  refine .all .none ?_ (fun l xs σ t v σ' h => (by cases h)) (fun f xs t v h => (by cases h))
  intro f xs σ t v σ' hq hs
  replace hq : clB g caps s b h h' f xs σ = some t := hq
  unfold clB at hq
  split at hq <;> first | (cases hq; done) | skip
  cases hq
  obtain ⟨⟨rfl, h2, rfl⟩, hs2⟩ := Tree.of_need hs
  cases hs2
  rw [h2]
  exact hc
def st46 (s r : Int) (g : FuncId) (caps : List AV) (h : Heap) : St := .of 25 h [(0, U s, true), (1, .fn g [] caps, true), (5, U r, true)]
def stE46 (h : Heap) : St := .of 25 h []
def stR46 (h : Heap) : St := .of 25 h [(4, .bool false, false)]
def stJ46 (h : Heap) : St := .of 25 h [(4, .junk, false)]
noncomputable def body46 : Code := (loopsOf (bodyOf Tryd.prog 46)).headD .skip
def arg46 (s r : Int) : Int := uandNot s (uand r (IntKind.u64.wrap (0 - r)))
theorem run46n (s r : Int) (g : FuncId) (caps : List AV) (s1 : Int) (b : Bool) (h h' : Heap) : xBody Tryd.prog G0 (EB g caps s1 b h h') 100 noLoops [0, 1, 5] body46 (st46 s r g caps h) =
    .ite (r != 0) (.need (g = g ∧ U (arg46 s r) :: caps = U s1 :: caps ∧ h = h) (.ite b (.leaf (.ret, st46 s r g caps h')) (.leaf (.normal, st46 s (uand r (IntKind.u64.wrap (r - 1))) g caps h')))) (.leaf (.exit 0, st46 s r g caps h)) := by kernel_rfl
theorem run46r (s r : Int) (g : FuncId) (caps : List AV) (s1 : Int) (b : Bool) (h h' : Heap) : xBody Tryd.prog G0 (EB g caps s1 b h h') 100 noLoops [4] body46 (st46 s r g caps h) =
    .ite (r != 0) (.need (g = g ∧ U (arg46 s r) :: caps = U s1 :: caps ∧ h = h) (.ite b (.leaf (.ret, stR46 h')) (.leaf (.normal, stJ46 h')))) (.leaf (.exit 0, stJ46 h)) := by kernel_rfl
theorem run46x (s r : Int) (g : FuncId) (caps : List AV) (s1 : Int) (b : Bool) (h h' : Heap) : xBody Tryd.prog G0 (EB g caps s1 b h h') 100 noLoops [] body46 (st46 s r g caps h) =
    .ite (r != 0) (.need (g = g ∧ U (arg46 s r) :: caps = U s1 :: caps ∧ h = h) (.ite b (.leaf (.ret, stE46 h')) (.leaf (.normal, stE46 h')))) (.leaf (.exit 0, stE46 h)) := by kernel_rfl
def end46 (b : Bool) (h : Heap) : Exit × St := bif b then (.exit 0, stE46 h) else (.ret, stR46 h)
theorem arg46_nat {s r : Nat} (h0 : r ≠ 0) (hs : s < 2 ^ 64) (hr : r < 2 ^ 64) : arg46 s r = (del s (tz r) : Nat) := by
  have e1 : IntKind.u64.wrap (0 - (r : Int)) = ((2 ^ 64 - r : Nat) : Int) := by
    simp [IntKind.wrap, IntKind.signed, IntKind.bits]
    omega
  obtain ⟨q, hq, hk⟩ := tz_spec h0 hr
  unfold arg46
  rw [e1, uand_nat hr (by omega), lowBit h0 hr, uandNot_nat hs (Nat.pow_lt_pow_right (by omega) hk)]
  rfl
section
variable {S : Type} {g : FuncId} {caps : List AV} {hp : S → Heap} {stp : S → Nat → Bool × S} {D : Nat → Prop}
theorem loop46 (hg : HasOk g caps hp stp D) {R : Option Nat → Prop} {s : Nat} (hs : s < 2 ^ 64) (hD : ∀ k, k < 64 → D (del s k)) : ∀ (f r : Nat) (st : S), r < f → r < 2 ^ 64 →
    ALoopRun Tryd.prog G0 R body46 { tmps := (st46 s r g caps (hp st)).a } (hp st) (end46 (irrLoop stp s f r st).1 (hp (irrLoop stp s f r st).2)).1 { tmps := (end46 (irrLoop stp s f r st).1 (hp (irrLoop stp s f r st).2)).2.a } (hp (irrLoop stp s f r st).2)
  | 0, r, st, h, _ => by omega
  | f + 1, r, st, h, hr => by
    unfold irrLoop
    by_cases h0 : r = 0
    · subst h0
      rw [if_pos rfl]
      refine .stop (xBody_ok (m := []) names mixed (clokB (hg st (del s 0) (hD 0 (by omega)) (del_lt hs))) (lpNo body46) (n := 100) (keep := []) (st := st46 s (0 : Nat) g caps (hp st)) (st' := stE46 (hp st)) ?_).1 nofun
      rw [run46x]; rfl
    · rw [if_neg h0]
      obtain ⟨q, hq, hk⟩ := tz_spec h0 hr
      have hc := hg st (del s (tz r)) (hD _ hk) (del_lt hs)
      generalize stp st (del s (tz r)) = b at hc
      obtain ⟨b, st'⟩ := b
      simp only at hc ⊢
      cases b with
      | true =>
        rw [if_pos rfl]
        refine .stop (xBody_ok (m := []) names mixed (clokB hc) (lpNo body46) (n := 100) (keep := [4]) (st := st46 s r g caps (hp st)) (st' := stR46 (hp st')) ?_).1 nofun
        rw [run46r, selI, bne_iff_ne.2 (by omega : (r : Int) ≠ 0), cond_true, Tree.sel_need ⟨rfl, by rw [arg46_nat h0 hs hr], rfl⟩]
        rfl
      | false =>
        rw [if_neg (by simp)]
        refine .next (xBody_ok (m := []) names mixed (clokB hc) (lpNo body46) (n := 100) (keep := [0, 1, 5]) (st := st46 s r g caps (hp st)) (st' := st46 s (dropLow r) g caps (hp st')) ?_).1 (loop46 hg hs hD f (dropLow r) st' (by have := dropLow_less h0; omega) (dropLow_lt hr))
        have hw : IntKind.u64.wrap ((r : Int) - 1) = ((r - 1 : Nat) : Int) := by rw [wrap_u64 (by omega) (by omega)]; omega
        rw [run46n, selI, bne_iff_ne.2 (by omega : (r : Int) ≠ 0), cond_true, Tree.sel_need ⟨rfl, by rw [arg46_nat h0 hs hr], rfl⟩, hw, uand_nat hr (by omega)]
        rfl
def lp46 (s : Int) (g : FuncId) (caps : List AV) (h : Heap) (b : Bool) (h' : Heap) : Loops := fun id => match id with
  | 4 => some ([0, 1, 5], st46 s s g caps h, .ite b (.leaf (.exit 0, stE46 h')) (.leaf (.ret, stR46 h')))
  | _ => none
theorem loops46 : loopsOf (bodyOf Tryd.prog 46) = [body46] := by kernel_rfl
theorem id46 : idOf body46 = 4 := by kernel_rfl
theorem runF46 (s : Int) (g : FuncId) (caps : List AV) (b b' : Bool) (h h' h'' : Heap) : xenter Tryd.prog (EB g caps s b h h') (xCode Tryd.prog G0 (EB g caps s b h h') 200 (lp46 s g caps h' b' h'')) 46 [U s, .fn g [] caps] [true, true] h =
    .need (g = g ∧ U s :: caps = U s :: caps ∧ h = h) (.ite (!b) (.leaf (.bool false, false, h')) (.need ((st46 s s g caps h').vals = (st46 s s g caps h').vals) (.ite b' (.leaf (.bool true, false, h'')) (.leaf (.bool false, false, h''))))) := by kernel_rfl
/-- WHETHER A SET IS IRREDUCIBLE. -/
theorem c46 (hg : HasOk g caps hp stp D) {s : Nat} (hs : s < 2 ^ 64) (hD0 : D s) (hD : ∀ k, k < 64 → D (del s k)) (st : S) : ACall Tryd.prog G0 46 [U s, .fn g [] caps] (hp st) (.bool (irrS stp st s).1) (hp (irrS stp st s).2) := by
  have hc := hg st s hD0 hs
  have hl := loop46 hg (R := fun r => r = none) hs hD (s + 1) s (stp st s).2 (by omega) hs
  unfold irrS
  generalize stp st s = q at hc hl
  obtain ⟨b, st1⟩ := q
  simp only at hc hl ⊢
  generalize irrLoop stp s (s + 1) s st1 = q2 at hl
  obtain ⟨b2, st2⟩ := q2
  simp only at hl ⊢
  have hlp : LoopsOk Tryd.prog G0 (fun r => r = none) [] (lp46 s g caps (hp st1) b2 (hp st2)) (bodyOf Tryd.prog 46) := by
    refine .of_list _ fun x hm => ?_
    rw [loops46] at hm
    obtain rfl := List.mem_singleton.1 hm
    intro keep s0 t e st' h' hsel
    rw [id46] at h'
    cases h'
    cases b2 with
    | true => cases hsel; exact ⟨.loop hl, rfl⟩
    | false => cases hsel; exact ⟨.loop hl, rfl⟩
  have sel : (xenter Tryd.prog (EB g caps s b (hp st) (hp st1)) (xCode Tryd.prog G0 (EB g caps s b (hp st) (hp st1)) 200 (lp46 s g caps (hp st1) b2 (hp st2))) 46 [U s, .fn g [] caps] [true, true] (hp st)).sel = some (.bool (if b = true then (b2, st2) else (false, st1)).1, false, hp (if b = true then (b2, st2) else (false, st1)).2) := by
    rw [runF46, Tree.sel_need ⟨rfl, rfl, rfl⟩, selI]
    cases b with
    | false => rfl
    | true =>
      rw [Bool.not_true, cond_false, selR, selI]
      cases b2 <;> rfl
  exact .find (clokB hc) hlp sel
end
end Go.Proofs.YtjljigccgaadaaaDoor.Am

namespace Go.Proofs.YtjljigccgaadaaaDoor.Am
open Go
set_option maxRecDepth 100000

/-- A list and an error. -/
def resL (L : List Int) (e : Int) : AV := .tup [flL L, I e]
theorem RV.tup2 {w : World} {M : Map} {u : Value} {a b a' b' : AV} (h : RV w M u (.tup [a, b])) (ha : ∀ v, RV w M v a → RV w M v a') (hb : ∀ v, RV w M v b → RV w M v b') : RV w M u (.tup [a', b']) := by
  cases h with
  | tup vs _ hl h =>
    refine .tup vs _ hl fun j x hx => ?_
    match j, hx with
    | 0, hx => cases hx; exact ha _ (h 0 a rfl)
    | 1, hx => cases hx; exact hb _ (h 1 b rfl)
    | j + 2, hx => simp at hx
theorem ACall.resZs {f : FuncId} {xs : List AV} {σ σ' : Heap} {e : Int} (h : ACall Tryd.prog G0 f xs σ (.tup [.zs, I e]) σ') : ACall Tryd.prog G0 f xs σ (resL [] e) σ' :=
  h.conv fun _ _ _ h => h.tup2 (fun _ h => h.flL_zs) fun _ h => h

def cl13 : FuncId → List AV → Option (Tree AV) := fun f xs => match f, xs with
  | 41, [.int .i64 n, .int .i64 m, .fn _ _ _] => some (.leaf (I (askE n m)))
  | 42, [.fn g xs ys] => some (.leaf (.fn 65 [] [.row [.fn g xs ys] 0]))
  | 43, [.int .i64 n] => some (.need (0 ≤ n ∧ n ≤ 64) (.leaf (U (2 ^ n.toNat - 1 : Nat))))
  | 44, [.int .u64 s] => some (.need (0 ≤ s ∧ s < 18446744073709551616) (.leaf (flN (bitsL s.toNat))))
  | _, _ => none
theorem cl13_ok {f : FuncId} {xs : List AV} {t : Tree AV} {v : AV} (hq : cl13 f xs = some t) (hs : t.sel = some v) (σ : Heap) : ACall Tryd.prog G0 f xs σ v σ := by
  unfold cl13 at hq
  split at hq <;> first | (cases hq; done) | skip
  · cases hq; cases hs; exact c41 _ _ _ _ _ σ
  · cases hq; cases hs; exact c42 _ _ _ σ
  · rename_i n
    cases hq
    obtain ⟨h1, hs2⟩ := Tree.of_need hs
    cases hs2
    have := c43 (n := n.toNat) (by omega) σ
    rwa [show ((n.toNat : Nat) : Int) = n by omega] at this
  · rename_i s
    cases hq
    obtain ⟨h1, hs2⟩ := Tree.of_need hs
    cases hs2
    have := c44 (s := s.toNat) (by omega) σ
    rwa [show ((s.toNat : Nat) : Int) = s by omega] at this
def cl65h (g : FuncId) (caps : List AV) (s : Int) (b : Bool) (h h' : Heap) : FuncId → List AV → Heap → Option (Tree (AV × Heap)) := fun f xs h0 => match f with
  | 65 => some (.need (xs = [U s, .row [.fn g [] caps] 0] ∧ h0 = h) (.leaf (.bool b, h')))
  | _ => none
def E13 (g : FuncId) (caps : List AV) (s : Int) (b : Bool) (h h' : Heap) : Env := { cl := cl13, clh := cl65h g caps s b h h', hint := hShift }
theorem clok13 {g : FuncId} {caps : List AV} {s : Int} {b : Bool} {h h' : Heap} (hc : ACall Tryd.prog G0 65 [U s, .row [.fn g [] caps] 0] h (.bool b) h') : ClOk Tryd.prog G0 (E13 g caps s b h h') := by
  refine .all hShift_ok.ok ?_ (fun l xs σ t v σ' h => (by cases h)) (fun f xs t v h hs σ => cl13_ok h hs σ)
  intro f xs σ t v σ' hq hs
  replace hq : cl65h g caps s b h h' f xs σ = some t := hq
  unfold cl65h at hq
  split at hq <;> first | (cases hq; done) | skip
  cases hq
  obtain ⟨⟨rfl, rfl⟩, hs2⟩ := Tree.of_need hs
  cases hs2
  exact hc

/-! ### Core -/
def coreLoop {S : Type} (stp : S → Nat → Bool × S) : Nat → Nat → S → Nat × S
  | 0, s, st => (s, st)
  | x + 1, s, st => coreLoop stp x (if (stp st (del s x)).1 then del s x else s) (stp st (del s x)).2
/-- What Core finds, by a function that says what cannot be fulfilled. -/
def coreS {S : Type} (stp : S → Nat → Bool × S) (n : Nat) (st : S) : Option Nat × S :=
  if (stp st (2 ^ n - 1)).1 then (some (coreLoop stp n (2 ^ n - 1) (stp st (2 ^ n - 1)).2).1, (coreLoop stp n (2 ^ n - 1) (stp st (2 ^ n - 1)).2).2) else (none, (stp st (2 ^ n - 1)).2)
theorem coreLoop_lt {S : Type} {stp : S → Nat → Bool × S} : ∀ (x s : Nat) (st : S), s < 2 ^ 64 → (coreLoop stp x s st).1 < 2 ^ 64
  | 0, s, st, h => h
  | x + 1, s, st, h => by
    unfold coreLoop
    split
    · exact coreLoop_lt x _ _ (del_lt h)
    · exact coreLoop_lt x _ _ h

def st13 (g : FuncId) (caps : List AV) (s x : Int) (h : Heap) : St := .of 41 h [(7, .fn 65 [] [.row [.fn g [] caps] 0], true), (8, U s, true), (9, I x, true)]
def stE13 (s : Int) (h : Heap) : St := .of 41 h [(8, U s, true)]
noncomputable def body13 : Code := (loopsOf (bodyOf Tryd.prog 13)).headD .skip
def arg13 (s x : Int) : Int := uandNot s (ushl 1 x)
theorem run13 (g : FuncId) (caps : List AV) (s x s1 : Int) (b : Bool) (h h' : Heap) : xBody Tryd.prog G0 (E13 g caps s1 b h h') 200 noLoops [7, 8, 9] body13 (st13 g caps s x h) =
    .ite (decide (x ≥ 0)) (.need (0 ≤ x) (.need ([U (arg13 s x), .row [.fn g [] caps] 0] = [U s1, .row [.fn g [] caps] 0] ∧ h = h) (.ite b (.leaf (.normal, st13 g caps (arg13 s x) (IntKind.i64.wrap (x - 1)) h'))
      (.leaf (.normal, st13 g caps s (IntKind.i64.wrap (x - 1)) h'))))) (.leaf (.exit 0, st13 g caps s x h)) := by kernel_rfl
theorem run13x (g : FuncId) (caps : List AV) (s x s1 : Int) (b : Bool) (h h' : Heap) : xBody Tryd.prog G0 (E13 g caps s1 b h h') 200 noLoops [8] body13 (st13 g caps s x h) =
    .ite (decide (x ≥ 0)) (.need (0 ≤ x) (.need ([U (arg13 s x), .row [.fn g [] caps] 0] = [U s1, .row [.fn g [] caps] 0] ∧ h = h) (.ite b (.leaf (.normal, stE13 (arg13 s x) h'))
      (.leaf (.normal, stE13 s h'))))) (.leaf (.exit 0, stE13 s h)) := by kernel_rfl
theorem arg13_nat {s x : Nat} (hs : s < 2 ^ 64) (hx : x < 64) : arg13 s x = (del s x : Nat) := by
  unfold arg13
  rw [ushl_one hx, uandNot_nat hs (Nat.pow_lt_pow_right (by omega) hx)]
  rfl
section
variable {S : Type} {g : FuncId} {caps : List AV} {hp : S → Heap} {stp : S → Nat → Bool × S}
/-- Asked for a set that cannot be fulfilled. -/
def badS (stp : S → Nat → Bool × S) : S → Nat → Bool × S := fun st s => (!(stp st s).1, (stp st s).2)
theorem loop13 (hf : FulOk g caps hp stp) {R : Option Nat → Prop} : ∀ (x s : Nat) (st : S), x ≤ 64 → s < 2 ^ 64 →
    ALoopRun Tryd.prog G0 R body13 { tmps := (st13 g caps s ((x : Int) - 1) (hp st)).a } (hp st) (.exit 0) { tmps := (stE13 (coreLoop (badS stp) x s st).1 (hp (coreLoop (badS stp) x s st).2)).a } (hp (coreLoop (badS stp) x s st).2)
  | 0, s, st, hx, hs => by
    refine .stop (xBody_ok (m := []) names mixed (clok13 (c65 hf st s trivial hs)) (lpNo body13) (n := 200) (keep := [8]) (st := st13 g caps s ((0 : Nat) - 1 : Int) (hp st)) (st' := stE13 s (hp st)) ?_).1 nofun
    rw [run13x]; rfl
  | x + 1, s, st, hx, hs => by
    have hc := c65 hf st (del s x) trivial (del_lt hs)
    have ih := loop13 (R := R) hf x (if (badS stp st (del s x)).1 then del s x else s) (badS stp st (del s x)).2 (by omega) (by split; exact del_lt hs; exact hs)
    unfold coreLoop
    change ACall _ _ _ _ _ (.bool (badS stp st (del s x)).1) (hp (badS stp st (del s x)).2) at hc
    generalize badS stp st (del s x) = q at hc ih
    obtain ⟨b, st'⟩ := q
    simp only at hc ih ⊢
    refine .next (xBody_ok (m := []) names mixed (clok13 hc) (lpNo body13) (n := 200) (keep := [7, 8, 9]) (st := st13 g caps s (((x + 1 : Nat) : Int) - 1) (hp st)) (st' := st13 g caps ((if b = true then del s x else s : Nat) : Int) ((x : Int) - 1) (hp st')) ?_).1 ih
    have e : ((x + 1 : Nat) : Int) - 1 = (x : Int) := by omega
    have hw : IntKind.i64.wrap ((x : Int) - 1) = (x : Int) - 1 := wrap_i64 (by omega) (by omega)
    rw [e, run13, selI, decide_eq_true (by omega), cond_true, Tree.sel_need (by omega), arg13_nat hs (by omega), Tree.sel_need ⟨rfl, rfl⟩, selI, hw]
    cases b <;> rfl
def lp13 (n : Int) (g : FuncId) (caps : List AV) (s : Int) (h : Heap) (t : Tree (Exit × St)) : Loops := fun id => match id with
  | 9 => some ([7, 8, 9], st13 g caps s (IntKind.i64.wrap (n - 1)) h, t)
  | _ => none
theorem loops13 : loopsOf (bodyOf Tryd.prog 13) = [body13] := by kernel_rfl
theorem id13 : idOf body13 = 9 := by kernel_rfl
theorem runF13 (n : Int) (g : FuncId) (caps : List AV) (s s' : Int) (b : Bool) (h h' h'' : Heap) : xenter Tryd.prog (E13 g caps s b h h') (xCode Tryd.prog G0 (E13 g caps s b h h') 200 (lp13 n g caps s h' (.leaf (.exit 0, stE13 s' h'')))) 13 [I n, .fn g [] caps] [true, true] h =
    .ite (askE n 64 != 0) (.leaf (.tup [.zs, I (askE n 64)], true, h)) (.need (0 ≤ n ∧ n ≤ 64) (.need ([U (2 ^ n.toNat - 1 : Nat), .row [.fn g [] caps] 0] = [U s, .row [.fn g [] caps] 0] ∧ h = h)
      (.ite (!b) (.leaf (.tup [.zs, I 7], false, h')) (.need ((st13 g caps (2 ^ n.toNat - 1 : Nat) (IntKind.i64.wrap (n - 1)) h').vals = (st13 g caps s (IntKind.i64.wrap (n - 1)) h').vals) (.need (0 ≤ s' ∧ s' < 18446744073709551616)
        (.leaf (.tup [flN (bitsL s'.toNat), I 0], true, h''))))))) := by kernel_rfl
theorem runF13e (n : Int) (g : FuncId) (caps : List AV) (s : Int) (b : Bool) (h h' : Heap) : xenter Tryd.prog (E13 g caps s b h h') (xCode Tryd.prog G0 (E13 g caps s b h h') 200 (lp13 n g caps s h' .fail)) 13 [I n, .fn g [] caps] [true, true] h =
    .ite (askE n 64 != 0) (.leaf (.tup [.zs, I (askE n 64)], true, h)) (.need (0 ≤ n ∧ n ≤ 64) (.need ([U (2 ^ n.toNat - 1 : Nat), .row [.fn g [] caps] 0] = [U s, .row [.fn g [] caps] 0] ∧ h = h)
      (.ite (!b) (.leaf (.tup [.zs, I 7], false, h')) (.need ((st13 g caps (2 ^ n.toNat - 1 : Nat) (IntKind.i64.wrap (n - 1)) h').vals = (st13 g caps s (IntKind.i64.wrap (n - 1)) h').vals) .fail)))) := by kernel_rfl
theorem lpok13 {n : Int} {s : Int} {h : Heap} {t : Tree (Exit × St)} (hx : ∀ e st', t.sel = some (e, st') → AExec Tryd.prog G0 (fun r => r = none) (.loop body13) { tmps := (st13 g caps s (IntKind.i64.wrap (n - 1)) h).a } h e { tmps := st'.a } st'.h ∧ st'.n = 41) :
    LoopsOk Tryd.prog G0 (fun r => r = none) [] (lp13 n g caps s h t) (bodyOf Tryd.prog 13) := by
  refine .of_list _ fun x hm => ?_
  rw [loops13] at hm
  obtain rfl := List.mem_singleton.1 hm
  intro keep s0 t' e st' h' hsel
  rw [id13] at h'
  cases h'
  exact hx e st' hsel
/-- The set that Core returns, as a list, and its error. -/
def coreR (o : Option Nat) : AV := match o with
  | some s => .tup [flN (bitsL s), I 0]
  | none => resL [] 7
theorem c13e (hf : FulOk g caps hp stp) {n : Int} (hn : n < 0 ∨ n > 64) (st : S) : ACall Tryd.prog G0 13 [I n, .fn g [] caps] (hp st) (resL [] 2) (hp st) := by
  have hc := c65 hf st 0 trivial (by omega)
  have sel : (xenter Tryd.prog (E13 g caps (0 : Nat) (!(stp st 0).1) (hp st) (hp (stp st 0).2)) (xCode Tryd.prog G0 (E13 g caps (0 : Nat) (!(stp st 0).1) (hp st) (hp (stp st 0).2)) 200 (lp13 n g caps (0 : Nat) (hp (stp st 0).2) .fail)) 13 [I n, .fn g [] caps] [true, true] (hp st)).sel = some (.tup [.zs, I 2], true, hp st) := by
    rw [runF13e n g caps (0 : Nat) (!(stp st 0).1) (hp st) (hp (stp st 0).2), selI]
    have : askE n 64 = 2 := by
      unfold askE
      by_cases h : n < 0
      · rw [decide_eq_true h]; rfl
      · rw [decide_eq_false h, decide_eq_true (by omega)]; rfl
    rw [this]; rfl
  exact (ACall.find (clok13 hc) (lpok13 fun e st' h => by cases h) sel).resZs
theorem c13 (hf : FulOk g caps hp stp) {n : Nat} (hn : n ≤ 64) (st : S) : ACall Tryd.prog G0 13 [I n, .fn g [] caps] (hp st) (coreR (coreS (badS stp) n st).1) (hp (coreS (badS stp) n st).2) := by
  have h64 : 2 ^ n - 1 < 2 ^ 64 := by
    have := Nat.pow_le_pow_right (n := 2) (by omega) hn
    have := Nat.two_pow_pos n
    omega
  have hc := c65 hf st (2 ^ n - 1) trivial h64
  have ha : askE n 64 = 0 := by unfold askE; rw [decide_eq_false (by omega), decide_eq_false (by omega)]; rfl
  have hw : IntKind.i64.wrap ((n : Int) - 1) = (n : Int) - 1 := wrap_i64 (by omega) (by omega)
  change ACall _ _ _ _ _ (.bool (badS stp st (2 ^ n - 1)).1) (hp (badS stp st (2 ^ n - 1)).2) at hc
  have hl := loop13 (R := fun r => r = none) hf n (2 ^ n - 1) (badS stp st (2 ^ n - 1)).2 hn h64
  have hlt := coreLoop_lt (stp := badS stp) n (2 ^ n - 1) (badS stp st (2 ^ n - 1)).2 h64
  unfold coreS
  generalize badS stp st (2 ^ n - 1) = q at hc hl hlt
  obtain ⟨b, st1⟩ := q
  simp only at hc hl hlt ⊢
  cases b with
  | false =>
    have sel : (xenter Tryd.prog (E13 g caps (2 ^ n - 1 : Nat) false (hp st) (hp st1)) (xCode Tryd.prog G0 (E13 g caps (2 ^ n - 1 : Nat) false (hp st) (hp st1)) 200 (lp13 n g caps (2 ^ n - 1 : Nat) (hp st1) .fail)) 13 [I n, .fn g [] caps] [true, true] (hp st)).sel = some (.tup [.zs, I 7], false, hp st1) := by
      rw [runF13e, selI, ha, bne_self_eq_false, cond_false, Tree.sel_need ⟨by omega, by omega⟩, Int.toNat_natCast, Tree.sel_need ⟨rfl, rfl⟩]
      rfl
    exact (ACall.find (clok13 hc) (lpok13 fun e st' h => by cases h) sel).resZs
  | true =>
    generalize coreLoop (badS stp) n (2 ^ n - 1) st1 = q2 at hl hlt
    obtain ⟨s', st2⟩ := q2
    simp only at hl hlt ⊢
    have sel : (xenter Tryd.prog (E13 g caps (2 ^ n - 1 : Nat) true (hp st) (hp st1)) (xCode Tryd.prog G0 (E13 g caps (2 ^ n - 1 : Nat) true (hp st) (hp st1)) 200 (lp13 n g caps (2 ^ n - 1 : Nat) (hp st1) (.leaf (.exit 0, stE13 s' (hp st2))))) 13 [I n, .fn g [] caps] [true, true] (hp st)).sel = some (.tup [flN (bitsL s'), I 0], true, hp st2) := by
      rw [runF13, selI, ha, bne_self_eq_false, cond_false, Tree.sel_need ⟨by omega, by omega⟩, Int.toNat_natCast, Tree.sel_need ⟨rfl, rfl⟩, selI, Bool.not_true, cond_false, selR, Tree.sel_need ⟨by omega, by omega⟩, Int.toNat_natCast]
      rfl
    refine ACall.find (clok13 hc) (lpok13 fun e st' h => ?_) sel
    cases h
    rw [hw]
    exact ⟨.loop hl, rfl⟩
end

/-! ### Irreducible -/
def cl14 : FuncId → List AV → Option (Tree AV) := fun f xs => match f, xs with
  | 41, [.int .i64 n, .int .i64 m, .fn _ _ _] => some (.leaf (I (askE n m)))
  | 42, [.fn g xs ys] => some (.leaf (.fn 65 [] [.row [.fn g xs ys] 0]))
  | _, _ => none
def clh14 (n : Int) (L : AV) (g : FuncId) (caps : List AV) (s : Int) (ok : Bool) (b : Bool) (h h' : Heap) : FuncId → List AV → Heap → Option (Tree (AV × Heap)) := fun f xs h0 => match f with
  | 45 => some (.need (xs = [I n, L] ∧ h0 = h) (.leaf (.tup [U s, .bool ok], h)))
  | 46 => some (.need (xs = [U s, .fn 65 [] [.row [.fn g [] caps] 0]] ∧ h0 = h) (.leaf (.bool b, h')))
  | _ => none
def E14 (n : Int) (L : AV) (g : FuncId) (caps : List AV) (s : Int) (ok b : Bool) (h h' : Heap) : Env := { cl := cl14, clh := clh14 n L g caps s ok b h h' }
theorem clok14 {n : Int} {L : AV} {g : FuncId} {caps : List AV} {s : Int} {ok b : Bool} {h h' : Heap} (h45 : ACall Tryd.prog G0 45 [I n, L] h (.tup [U s, .bool ok]) h) (h46 : ACall Tryd.prog G0 46 [U s, .fn 65 [] [.row [.fn g [] caps] 0]] h (.bool b) h') : ClOk Tryd.prog G0 (E14 n L g caps s ok b h h') := by
  refine .all .none ?_ (fun l xs σ t v σ' h => (by cases h)) ?_
  · intro f xs σ t v σ' hq hs
    replace hq : clh14 n L g caps s ok b h h' f xs σ = some t := hq
    unfold clh14 at hq
    split at hq <;> first | (cases hq; done) | skip
    all_goals
      cases hq
      obtain ⟨⟨rfl, rfl⟩, hs2⟩ := Tree.of_need hs
      cases hs2
    · exact h45
    · exact h46
  · intro f xs t v hq hs σ
    replace hq : cl14 f xs = some t := hq
    unfold cl14 at hq
    split at hq <;> first | (cases hq; done) | skip
    · cases hq; cases hs; exact c41 _ _ _ _ _ σ
    · cases hq; cases hs; exact c42 _ _ _ σ
theorem run14 (n : Int) (L : AV) (g : FuncId) (caps : List AV) (s : Int) (ok b : Bool) (h h' : Heap) : xCall Tryd.prog G0 (E14 n L g caps s ok b h h') 200 14 [I n, L, .fn g [] caps] [true, true, true] h =
    .ite (askE n 64 != 0) (.leaf (.tup [.bool false, I (askE n 64)], true, h)) (.need ([I n, L] = [I n, L] ∧ h = h) (.ite (!ok) (.leaf (.tup [.bool false, I 2], false, h))
      (.need ([U s, .fn 65 [] [.row [.fn g [] caps] 0]] = [U s, .fn 65 [] [.row [.fn g [] caps] 0]] ∧ h = h) (.leaf (.tup [.bool b, I 0], true, h'))))) := by kernel_rfl
section
variable {S : Type} {g : FuncId} {caps : List AV} {hp : S → Heap} {stp : S → Nat → Bool × S}
theorem ofLoop_lt {n : Int} (hn : n ≤ 64) : ∀ (L : List Int) (last : Int) (s s' : Nat), -1 ≤ last → s < 2 ^ 64 → ofLoop n L last s = some s' → s' < 2 ^ 64
  | [], last, s, s', _, hs, h => by cases h; exact hs
  | x :: r, last, s, s', h0, hs, h => by
    unfold ofLoop at h
    split at h
    · cases h
    · exact ofLoop_lt hn r x _ s' (by omega) (Nat.or_lt_two_pow hs (Nat.pow_lt_pow_right (by omega) (by omega))) h
theorem ofL_lt {n : Int} (hn : n ≤ 64) {L : List Int} {s : Nat} (h : ofL n L = some s) : s < 2 ^ 64 := ofLoop_lt hn L (-1) 0 s (by omega) (by omega) h
/-- WHAT Irreducible RETURNS. -/
theorem c14 (hf : FulOk g caps hp stp) {n : Nat} (hn : n ≤ 64) {L : List Int} (hL : L.length < 9223372036854775807) (st : S) : ACall Tryd.prog G0 14 [I n, flL L, .fn g [] caps] (hp st)
    (match ofL n L with | some s => .tup [.bool (irrS (badS stp) st s).1, I 0] | none => .tup [.bool false, I 2]) (match ofL n L with | some s => hp (irrS (badS stp) st s).2 | none => hp st) := by
  have h45 := c45 (n := n) (by omega) hL (hp st)
  have ha : askE n 64 = 0 := by unfold askE; rw [decide_eq_false (by omega), decide_eq_false (by omega)]; rfl
  cases ho : ofL n L with
  | none =>
    rw [ho] at h45
    refine xCall_ok (n := 200) (tags := [true, true, true]) (s := false) names mixed (clok14 (g := g) (caps := caps) h45 (c46 (c65 hf) (s := 0) (by omega) trivial (fun _ _ => trivial) st)) ?_
    rw [run14, selI, ha, bne_self_eq_false, cond_false, Tree.sel_need ⟨rfl, rfl⟩]
    rfl
  | some s =>
    rw [ho] at h45
    refine xCall_ok (n := 200) (tags := [true, true, true]) (s := true) names mixed (clok14 (g := g) (caps := caps) h45 (c46 (c65 hf) (ofL_lt (by omega) ho) trivial (fun _ _ => trivial) st)) ?_
    rw [run14, selI, ha, bne_self_eq_false, cond_false, Tree.sel_need ⟨rfl, rfl⟩, selI]
    exact Tree.sel_need ⟨rfl, rfl⟩
theorem cl14_ok {f : FuncId} {xs : List AV} {t : Tree AV} {v : AV} (hq : cl14 f xs = some t) (hs : t.sel = some v) (σ : Heap) : ACall Tryd.prog G0 f xs σ v σ := by
  unfold cl14 at hq
  split at hq <;> first | (cases hq; done) | skip
  · cases hq; cases hs; exact c41 _ _ _ _ _ σ
  · cases hq; cases hs; exact c42 _ _ _ σ
/-- All other calls: nothing is said. -/
def failH : FuncId → List AV → Heap → Option (Tree (AV × Heap)) := fun _ _ _ => some .fail
theorem failH_ok : ∀ f xs σ t v σ', failH f xs σ = some t → t.sel = some (v, σ') → ACall Tryd.prog G0 f xs σ v σ' := fun f xs σ t v σ' h hs => by cases h; cases hs
def E14e : Env := { cl := cl14, clh := failH }
theorem c14e {n : Int} (hn : n < 0 ∨ n > 64) (L : AV) (g : FuncId) (xs ys : List AV) (h : Heap) : ACall Tryd.prog G0 14 [I n, L, .fn g xs ys] h (.tup [.bool false, I 2]) h := by
  have ha : askE n 64 = 2 := by
    unfold askE
    by_cases h : n < 0
    · rw [decide_eq_true h]; rfl
    · rw [decide_eq_false h, decide_eq_true (by omega)]; rfl
  have run : xCall Tryd.prog G0 E14e 200 14 [I n, L, .fn g xs ys] [true, true, true] h = .ite (askE n 64 != 0) (.leaf (.tup [.bool false, I (askE n 64)], true, h)) .fail := by kernel_rfl
  refine xCall_ok (n := 200) (tags := [true, true, true]) (s := true) names mixed (ClOk.all (E := E14e) .none failH_ok (fun l xs σ t v σ' h => (by cases h)) fun f xs t v h hs σ => cl14_ok h hs σ) ?_
  rw [run, ha]; rfl
end
end Go.Proofs.YtjljigccgaadaaaDoor.Am

namespace Go.Proofs.YtjljigccgaadaaaDoor.Am
open Go
set_option maxRecDepth 100000

/-- A load of a one-cell variable of an own object. -/
def hLd (t : TypeId) (v : AV) : Heap → Oper → (Operand → Option AV) → Option (AV × Bool × Heap × Prop) := fun h o ρ => match o.op with
  | .load t' x => if t' = t then (match ρ x with
    | some (.ref r g 0) => some (v, true, h, objAt h r g = some [v])
    | _ => none) else none
  | _ => none
theorem hLd_ok {t : TypeId} {d : TypeDesc} (hu : Tryd.prog.underlying t = some d) (hd : aggD d = false) (v : AV) : HintA Tryd.prog (hLd t v) := by
  intro h o ρ y s h' p hh hp
  unfold hLd at hh
  split at hh
  · rename_i t' x ho
    split at hh
    · rename_i ht
      subst ht
      split at hh
      · rename_i r g hx
        cases hh
        unfold aopR
        simp only [ho, hx, Option.bind_some, aLoad, hp]
        unfold Am.cut
        rw [hu]
        simp only [hd, Bool.false_eq_true, if_false]
        rfl
      · cases hh
    · cases hh
  · cases hh

/-- The sets of k of the numbers from x on, d of them, and those of s: in their order. -/
def seqD : Nat → Nat → Nat → Nat → List Nat
  | _, 0, _, s => [s]
  | 0, _ + 1, _, _ => []
  | d + 1, k + 1, x, s => seqD d k (x + 1) (s ||| 2 ^ x) ++ seqD d (k + 1) (x + 1) s
theorem seqD_many : ∀ (d k x s : Nat), d < k → seqD d k x s = []
  | 0, k + 1, x, s, _ => rfl
  | d + 1, k + 1, x, s, h => by
    unfold seqD
    rw [seqD_many d k _ _ (by omega), seqD_many d (k + 1) _ _ (by omega)]
    rfl
theorem seqD_lt : ∀ (d k x s n : Nat), x + d ≤ n → s < 2 ^ n → ∀ t ∈ seqD d k x s, t < 2 ^ n
  | d, 0, x, s, n, _, hs, t, ht => by
    have : t = s := by cases d <;> simpa [seqD] using ht
    rw [this]; exact hs
  | 0, k + 1, x, s, n, _, _, t, ht => by cases ht
  | d + 1, k + 1, x, s, n, h, hs, t, ht => by
    unfold seqD at ht
    rcases List.mem_append.1 ht with ht | ht
    · exact seqD_lt d k (x + 1) _ n (by omega) (Nat.or_lt_two_pow hs (Nat.pow_lt_pow_right (by omega) (by omega))) t ht
    · exact seqD_lt d (k + 1) (x + 1) s n (by omega) hs t ht

/-- The closure in the variable 'more'. -/
def clos (l q : Nat) (n : Int) : AV := .fn 78 [] [.row [.yf l] 0, .row [I n] 0, .ref q 0 0]
def cyO (l : Nat) (s : Int) (h h' : Heap) : Nat → List AV → Heap → Option (Tree (AV × Heap)) := fun l' xs h0 => some (.need (l' = l ∧ xs = [U s] ∧ h0 = h) (.leaf (.bool true, h')))
def clhO (l q : Nat) (n s x k : Int) (h h' : Heap) : FuncId → List AV → Heap → Option (Tree (AV × Heap)) := fun f xs h0 => match f with
  | 78 => some (.need (xs = [U s, I x, I k, .row [.yf l] 0, .row [I n] 0, .ref q 0 0] ∧ h0 = h) (.leaf (.bool true, h')))
  | _ => none
def EOb (l q : Nat) (n s x k : Int) (h h' : Heap) : Env := { hint := orH hShift (hLd 96 (clos l q n)), clh := clhO l q n s x k h h' }
def EOf (l : Nat) (ys : Int) (h h' : Heap) : Env := { cy := cyO l ys h h' }
theorem clokOb {l q : Nat} {n s x k : Int} {h h' : Heap} (hc : ACall Tryd.prog G0 78 [U s, I x, I k, .row [.yf l] 0, .row [I n] 0, .ref q 0 0] h (.bool true) h') : ClOk Tryd.prog G0 (EOb l q n s x k h h') := by
  refine .all (hShift_ok.ok.or (hLd_ok Tryd.underlying96 rfl _).ok) ?_ (fun l xs σ t v σ' h => (by cases h)) (fun f xs t v h => (by cases h))
  intro f xs σ t v σ' hq hs
  replace hq : clhO l q n s x k h h' f xs σ = some t := hq
  unfold clhO at hq
  split at hq <;> first | (cases hq; done) | skip
  cases hq
  obtain ⟨⟨rfl, rfl⟩, hs2⟩ := Tree.of_need hs
  cases hs2
  exact hc
theorem clokOf {l : Nat} {ys : Int} {h h' : Heap} (hy : AYield Tryd.prog G0 l [U ys] h (.bool true) h') : ClOk Tryd.prog G0 (EOf l ys h h') := by
  refine .all .none (fun f xs σ t v σ' h => (by cases h)) ?_ (fun f xs t v h => (by cases h))
  intro l' xs σ t v σ' hq hs
  replace hq : cyO l ys h h' l' xs σ = some t := hq
  unfold cyO at hq
  cases hq
  obtain ⟨⟨rfl, rfl, rfl⟩, hs2⟩ := Tree.of_need hs
  cases hs2
  exact hy

def st78 (l q : Nat) (n s x k : Int) (h : Heap) : St := .of 33 h [(0, U s, true), (1, I x, true), (2, I k, true), (3, .row [.yf l] 0, true), (4, .row [I n] 0, true), (5, .ref q 0 0, true)]
def stE78 (h : Heap) : St := .of 33 h []
noncomputable def body78 : Code := (loopsOf (bodyOf Tryd.prog 78)).headD .skip
def need78 (l q : Nat) (n : Int) (h : Heap) : Prop := objAt h q 0 = some [clos l q n]
theorem run78 (l q : Nat) (n s x k s' x' k' : Int) (h h' : Heap) : xBody Tryd.prog G0 (EOb l q n s' x' k' h h') 200 noLoops [0, 1, 2, 3, 4, 5] body78 (st78 l q n s x k h) =
    .ite (decide (IntKind.i64.wrap (x + k) ≤ n)) (.need (need78 l q n h) (.need (0 ≤ x) (.need ([U (uor s (ushl 1 x)), I (IntKind.i64.wrap (x + 1)), I (IntKind.i64.wrap (k - 1)), .row [.yf l] 0, .row [I n] 0, .ref q 0 0] = [U s', I x', I k', .row [.yf l] 0, .row [I n] 0, .ref q 0 0] ∧ h = h)
      (.ite (!true) (.leaf (.ret, st78 l q n s x k h')) (.leaf (.normal, st78 l q n s (IntKind.i64.wrap (x + 1)) k h')))))) (.leaf (.exit 0, st78 l q n s x k h)) := by kernel_rfl
theorem run78x (l q : Nat) (n s x k s' x' k' : Int) (h h' : Heap) : xBody Tryd.prog G0 (EOb l q n s' x' k' h h') 200 noLoops [] body78 (st78 l q n s x k h) =
    .ite (decide (IntKind.i64.wrap (x + k) ≤ n)) (.need (need78 l q n h) (.need (0 ≤ x) (.need ([U (uor s (ushl 1 x)), I (IntKind.i64.wrap (x + 1)), I (IntKind.i64.wrap (k - 1)), .row [.yf l] 0, .row [I n] 0, .ref q 0 0] = [U s', I x', I k', .row [.yf l] 0, .row [I n] 0, .ref q 0 0] ∧ h = h)
      (.ite (!true) (.leaf (.ret, stE78 h')) (.leaf (.normal, stE78 h')))))) (.leaf (.exit 0, stE78 h)) := by kernel_rfl
def EOx (l q : Nat) (n : Int) : Env := { hint := orH hShift (hLd 96 (clos l q n)), clh := failH }
theorem clokOx (l q : Nat) (n : Int) : ClOk Tryd.prog G0 (EOx l q n) := .all (hShift_ok.ok.or (hLd_ok Tryd.underlying96 rfl _).ok) failH_ok (fun l xs σ t v σ' h => (by cases h)) (fun f xs t v h => (by cases h))
theorem run78e (l q : Nat) (n s x k : Int) (h : Heap) : xBody Tryd.prog G0 (EOx l q n) 200 noLoops [] body78 (st78 l q n s x k h) =
    .ite (decide (IntKind.i64.wrap (x + k) ≤ n)) (.need (need78 l q n h) (.need (0 ≤ x) .fail)) (.leaf (.exit 0, stE78 h)) := by kernel_rfl
def lp78 (l q : Nat) (n s x k : Int) (h : Heap) (t : Tree (Exit × St)) : Loops := fun id => match id with
  | 3 => some ([0, 1, 2, 3, 4, 5], st78 l q n s x k h, t)
  | _ => none
theorem loops78 : loopsOf (bodyOf Tryd.prog 78) = [body78] := by kernel_rfl
theorem id78 : idOf body78 = 3 := by kernel_rfl
theorem lpok78 {l q : Nat} {n s x k : Int} {h : Heap} {t : Tree (Exit × St)} (hx : ∀ e st', t.sel = some (e, st') → AExec Tryd.prog G0 (fun r => r = none) (.loop body78) { tmps := (st78 l q n s x k h).a } h e { tmps := st'.a } st'.h ∧ st'.n = 33) :
    LoopsOk Tryd.prog G0 (fun r => r = none) [] (lp78 l q n s x k h t) (bodyOf Tryd.prog 78) := by
  refine .of_list _ fun x hm => ?_
  rw [loops78] at hm
  obtain rfl := List.mem_singleton.1 hm
  intro keep s0 t' e st' h' hsel
  rw [id78] at h'
  cases h'
  exact hx e st' hsel
theorem runF78 (l q : Nat) (n s x k ys : Int) (h h' h'' : Heap) : xenter Tryd.prog (EOf l ys h h') (xCode Tryd.prog G0 (EOf l ys h h') 200 (lp78 l q n s x k h (.leaf (.exit 0, stE78 h'')))) 78 [U s, I x, I k, .row [.yf l] 0, .row [I n] 0, .ref q 0 0] [true, true, true, true, true, true] h =
    .ite (k == 0) (.need (l = l ∧ [U s] = [U ys] ∧ h = h) (.leaf (.bool true, true, h'))) (.need ((st78 l q n s x k h).vals = (st78 l q n s x k h).vals) (.leaf (.bool true, false, h''))) := by kernel_rfl
theorem runF78e (l q : Nat) (n s x k ys : Int) (h h' : Heap) : xenter Tryd.prog (EOf l ys h h') (xCode Tryd.prog G0 (EOf l ys h h') 200 (lp78 l q n s x k h .fail)) 78 [U s, I x, I k, .row [.yf l] 0, .row [I n] 0, .ref q 0 0] [true, true, true, true, true, true] h =
    .ite (k == 0) (.need (l = l ∧ [U s] = [U ys] ∧ h = h) (.leaf (.bool true, true, h'))) (.need ((st78 l q n s x k h).vals = (st78 l q n s x k h).vals) .fail) := by kernel_rfl
theorem runF78k (l q : Nat) (n s x : Int) (k : Nat) (h h'' : Heap) : xenter Tryd.prog {} (xCode Tryd.prog G0 {} 200 (lp78 l q n s x ((k + 1 : Nat) : Int) h (.leaf (.exit 0, stE78 h'')))) 78 [U s, I x, I ((k + 1 : Nat) : Int), .row [.yf l] 0, .row [I n] 0, .ref q 0 0] [true, true, false, true, true, true] h =
    .need ((st78 l q n s x ((k + 1 : Nat) : Int) h).vals = (st78 l q n s x ((k + 1 : Nat) : Int) h).vals) (.leaf (.bool true, false, h'')) := by kernel_rfl

section
variable {S : Type} {Hs : S → Heap} {yst : S → Nat → S} {l q n : Nat} {Good : Nat → S → Prop}
/-- The rounds always ask for more, so many rounds as Good says. -/
structure YOk (l n : Nat) (Hs : S → Heap) (yst : S → Nat → S) (Good : Nat → S → Prop) : Prop where
  y : ∀ (c : Nat) (st : S) (s : Nat), Good (c + 1) st → s < 2 ^ n → AYield Tryd.prog G0 l [U s] (Hs st) (.bool true) (Hs (yst st s))
  g : ∀ (c : Nat) (st : S) (s : Nat), Good (c + 1) st → s < 2 ^ n → Good c (yst st s)
theorem YOk.fold (h : YOk l n Hs yst Good) : ∀ (L : List Nat) (c : Nat) (st : S), (∀ s ∈ L, s < 2 ^ n) → Good (c + L.length) st → Good c (L.foldl yst st)
  | [], c, st, _, hg => hg
  | s :: L, c, st, hs, hg => h.fold L c _ (fun s hs' => hs s (by simp [hs'])) (h.g _ st s (by rw [List.length_cons, ← Nat.add_assoc] at hg; exact hg) (hs s (by simp)))
theorem c78 (hn : n ≤ 63) (hy : YOk l n Hs yst Good) (hq : ∀ st, need78 l q n (Hs st)) : ∀ (d k x s : Nat) (st : S) (c : Nat), x + d = n → k ≤ 1000 → s < 2 ^ n → Good (c + (seqD d k x s).length) st →
    ACall Tryd.prog G0 78 [U s, I x, I k, .row [.yf l] 0, .row [I n] 0, .ref q 0 0] (Hs st) (.bool true) (Hs ((seqD d k x s).foldl yst st)) := by
  intro d
  induction d using Nat.strongRecOn with
  | _ d ih =>
    intro k x s st c hx hk hs hgood
    cases k with
    | zero =>
      have e : seqD d 0 x s = [s] := by cases d <;> rfl
      rw [e] at hgood ⊢
      refine ACall.find (E := EOf l s (Hs st) (Hs (yst st s))) (lp := lp78 l q n s x (0 : Nat) (Hs st) .fail) (n := 200) (tags := [true, true, true, true, true, true]) (s := true) (clokOf (hy.y c st s hgood hs)) (lpok78 fun e st' h => by cases h) ?_
      rw [runF78e, selI]
      exact Tree.sel_need ⟨rfl, rfl, rfl⟩
    | succ k =>
      -- the loop
      have loop : ∀ (e x : Nat) (st : S), e ≤ d → x + e = n → Good (c + (seqD e (k + 1) x s).length) st → ALoopRun Tryd.prog G0 (fun r => r = none) body78 { tmps := (st78 l q n s x (k + 1 : Nat) (Hs st)).a } (Hs st) (.exit 0) { tmps := (stE78 (Hs ((seqD e (k + 1) x s).foldl yst st))).a } (Hs ((seqD e (k + 1) x s).foldl yst st)) := by
        intro e
        induction e with
        | zero =>
          intro x st _ hxe _
          refine .stop (xBody_ok (m := []) names mixed (clokOx l q n) (lpNo body78) (n := 200) (keep := []) (st := st78 l q n s x (k + 1 : Nat) (Hs st)) (st' := stE78 (Hs st)) ?_).1 nofun
          have hw : IntKind.i64.wrap ((x : Int) + ((k + 1 : Nat) : Int)) = (x + (k + 1) : Nat) := by rw [wrap_i64 (by omega) (by omega)]; omega
          rw [run78e, selI, hw, decide_eq_false (by omega)]
          rfl
        | succ e ihe =>
          intro x st hed hxe hgd
          have hw : IntKind.i64.wrap ((x : Int) + ((k + 1 : Nat) : Int)) = (x + (k + 1) : Nat) := by rw [wrap_i64 (by omega) (by omega)]; omega
          by_cases hke : k + 1 ≤ e + 1
          · have h2 : 2 ^ x < 2 ^ n := Nat.pow_lt_pow_right (by omega) (by omega)
            have hs2 : s ||| 2 ^ x < 2 ^ n := Nat.or_lt_two_pow hs h2
            have h64 : (2 : Nat) ^ n ≤ 2 ^ 63 := Nat.pow_le_pow_right (by omega) hn
            have es : seqD (e + 1) (k + 1) x s = seqD e k (x + 1) (s ||| 2 ^ x) ++ seqD e (k + 1) (x + 1) s := rfl
            rw [es, List.length_append, Nat.add_comm (seqD e k (x + 1) (s ||| 2 ^ x)).length, ← Nat.add_assoc] at hgd
            have hc := ih e (by omega) k (x + 1) (s ||| 2 ^ x) st (c + (seqD e (k + 1) (x + 1) s).length) (by omega) (by omega) hs2 hgd
            have hrest := ihe (x + 1) ((seqD e k (x + 1) (s ||| 2 ^ x)).foldl yst st) (by omega) (by omega) (hy.fold _ _ _ (seqD_lt e k (x + 1) _ n (by omega) hs2) hgd)
            rw [es, List.foldl_append]
            refine .next (xBody_ok (m := []) names mixed (clokOb hc) (lpNo body78) (n := 200) (keep := [0, 1, 2, 3, 4, 5]) (st := st78 l q n s x (k + 1 : Nat) (Hs st)) (st' := st78 l q n s (x + 1 : Nat) (k + 1 : Nat) (Hs ((seqD e k (x + 1) (s ||| 2 ^ x)).foldl yst st))) ?_).1 hrest
            have hw1 : IntKind.i64.wrap ((x : Int) + 1) = ((x + 1 : Nat) : Int) := wrap_i64 (by omega) (by omega)
            have hw2 : IntKind.i64.wrap (((k + 1 : Nat) : Int) - 1) = (k : Int) := by rw [wrap_i64 (by omega) (by omega)]; omega
            rw [run78, selI, hw, decide_eq_true (by omega), cond_true, Tree.sel_need (hq st), Tree.sel_need (by omega), ushl_one (by omega), uor_nat (by omega) (by omega), hw1, hw2, Tree.sel_need ⟨rfl, rfl⟩, selI]
            rfl
          · have es : seqD (e + 1) (k + 1) x s = [] := seqD_many _ _ _ _ (by omega)
            rw [es]
            refine .stop (xBody_ok (m := []) names mixed (clokOx l q n) (lpNo body78) (n := 200) (keep := []) (st := st78 l q n s x (k + 1 : Nat) (Hs st)) (st' := stE78 (Hs st)) ?_).1 nofun
            rw [run78e, selI, hw, decide_eq_false (by omega)]
            rfl
      have hl := loop d x st (Nat.le_refl _) hx hgood
      refine ACall.find (E := {}) (lp := lp78 l q n s x (k + 1 : Nat) (Hs st) (.leaf (.exit 0, stE78 (Hs ((seqD d (k + 1) x s).foldl yst st))))) (n := 200) (tags := [true, true, false, true, true, true]) (s := false) clok0 (lpok78 fun e st' h => ?_) ?_
      · cases h; exact ⟨.loop hl, rfl⟩
      · rw [runF78k]; exact selR.trans rfl
end
end Go.Proofs.YtjljigccgaadaaaDoor.Am

namespace Go.Proofs.YtjljigccgaadaaaDoor.Am
open Go
set_option maxRecDepth 100000

/-- A store, told beforehand. -/
def hSt (t : TypeId) (p x : AV) (h1 h2 : Heap) : Heap → Oper → (Operand → Option AV) → Option (AV × Bool × Heap × Prop) := fun h o ρ => match o.op with
  | .store t' a b => if t' = t then some (.tup [], false, h2, ρ a = some p ∧ ρ b = some x ∧ h = h1 ∧ aStore Tryd.prog h1 t p x = some h2) else none
  | _ => none
theorem hSt_ok (t : TypeId) (p x : AV) (h1 h2 : Heap) : HintA Tryd.prog (hSt t p x h1 h2) := by
  intro h o ρ y s h' q hh hp
  unfold hSt at hh
  split at hh
  · rename_i t' a b ho
    split at hh
    · rename_i ht
      subst ht
      cases hh
      obtain ⟨p1, p2, rfl, p4⟩ := hp
      unfold aopR
      simp only [ho, p1, p2, p4, Option.map_some]
    · cases hh
  · cases hh
/-- A type of one cell. -/
def One (t : TypeId) : Prop := ∃ i, Tryd.prog.info? t = some i ∧ i.size = 1
theorem one_of {t : TypeId} (h : (Tryd.prog.info? t).map (fun i => i.size) = some 1) : One t := Option.map_eq_some_iff.1 h
theorem store_new {t : TypeId} (ht : One t) (h : Heap) (x y : AV) (hx : x.one = true) : aStore Tryd.prog (h ++ [.cells 0 [y]]) t (.ref h.length 0 0) x = some (h ++ [.cells 0 [x]]) := by
  obtain ⟨i, h1, h2⟩ := ht
  have ho : objAt (h ++ [.cells 0 [y]]) h.length 0 = some [y] := by simp [objAt]
  have hc : x.cells = [x] := by cases x <;> first | rfl | cases hx
  simp only [aStore, h1, ho, h2, hc]
  rw [if_pos ⟨rfl, by simp, by simp [hx]⟩]
  simp [setL]

/-- All sets of numbers below n, in their order. -/
def seqK (n : Nat) : Nat → Nat → List Nat
  | 0, _ => []
  | e + 1, k => seqD n k 0 0 ++ seqK n e (k + 1)
def allSeq (n : Nat) : List Nat := seqK n (n + 1) 0
theorem allSeq_lt {n t : Nat} (h : t ∈ allSeq n) : t < 2 ^ n := by
  have : ∀ e k, t ∈ seqK n e k → t < 2 ^ n := by
    intro e
    induction e with
    | zero => intro k h; cases h
    | succ e ih =>
      intro k h
      rcases List.mem_append.1 h with h | h
      · exact seqD_lt n k 0 0 n (by omega) (Nat.two_pow_pos n) t h
      · exact ih _ h
  exact this _ _ h

def st77 (q : Nat) (n : Int) (k : Int) (s : Bool) (h : Heap) : St := .of 16 h [(1, .row [I n] 0, true), (3, .ref q 0 0, true), (4, I k, s)]
def stE77 (h : Heap) : St := .of 16 h []
noncomputable def body77 : Code := (loopsOf (bodyOf Tryd.prog 77)).headD .skip
theorem run77 (l q : Nat) (n k s' x' k' : Int) (h h' : Heap) : xBody Tryd.prog G0 (EOb l q n s' x' k' h h') 200 noLoops [1, 3, 4] body77 (st77 q n k true h) =
    .ite (decide (k ≤ n)) (.need (need78 l q n h) (.need ([U 0, I 0, I k, .row [.yf l] 0, .row [I n] 0, .ref q 0 0] = [U s', I x', I k', .row [.yf l] 0, .row [I n] 0, .ref q 0 0] ∧ h = h)
      (.ite true (.leaf (.normal, st77 q n (IntKind.i64.wrap (k + 1)) true h')) (.leaf (.exit 0, st77 q n k true h'))))) (.leaf (.exit 0, st77 q n k true h)) := by kernel_rfl
theorem run77e (l q : Nat) (n k : Int) (h : Heap) : xBody Tryd.prog G0 (EOx l q n) 200 noLoops [] body77 (st77 q n k true h) = .ite (decide (k ≤ n)) (.need (need78 l q n h) .fail) (.leaf (.exit 0, stE77 h)) := by kernel_rfl
theorem st77_tag (q : Nat) (n k : Int) (h : Heap) : (st77 q n k false h).a = (st77 q n k true h).a := by kernel_rfl
section
variable {S : Type} {Hs : S → Heap} {yst : S → Nat → S} {l q n : Nat} {Good : Nat → S → Prop}
theorem loop77 (hn : n ≤ 63) (hy : YOk l n Hs yst Good) (hq : ∀ st, need78 l q n (Hs st)) : ∀ (e k : Nat) (st : S) (c : Nat), k + e = n + 1 → Good (c + (seqK n e k).length) st →
    ALoopRun Tryd.prog G0 (fun r => r = none) body77 { tmps := (st77 q n k true (Hs st)).a } (Hs st) (.exit 0) { tmps := (stE77 (Hs ((seqK n e k).foldl yst st))).a } (Hs ((seqK n e k).foldl yst st))
  | 0, k, st, c, hk, _ => by
    refine .stop (xBody_ok (m := []) names mixed (clokOx l q n) (lpNo body77) (n := 200) (keep := []) (st := st77 q n k true (Hs st)) (st' := stE77 (Hs st)) ?_).1 nofun
    rw [run77e, selI, decide_eq_false (by omega)]
    rfl
  | e + 1, k, st, c, hk, hgd => by
    have es : seqK n (e + 1) k = seqD n k 0 0 ++ seqK n e (k + 1) := rfl
    rw [es, List.length_append, Nat.add_comm (seqD n k 0 0).length, ← Nat.add_assoc] at hgd
    have hc := c78 hn hy hq n k 0 0 st _ (by omega) (by omega) (Nat.two_pow_pos n) hgd
    have hrest := loop77 hn hy hq e (k + 1) ((seqD n k 0 0).foldl yst st) c (by omega) (hy.fold _ _ _ (seqD_lt n k 0 0 n (by omega) (Nat.two_pow_pos n)) hgd)
    rw [es]
    rw [List.foldl_append]
    refine .next (xBody_ok (m := []) names mixed (clokOb hc) (lpNo body77) (n := 200) (keep := [1, 3, 4]) (st := st77 q n k true (Hs st)) (st' := st77 q n (k + 1 : Nat) true (Hs ((seqD n k 0 0).foldl yst st))) ?_).1 hrest
    have hw1 : IntKind.i64.wrap ((k : Int) + 1) = ((k + 1 : Nat) : Int) := wrap_i64 (by omega) (by omega)
    rw [run77, selI, decide_eq_true (by omega), cond_true, Tree.sel_need (hq st), Tree.sel_need ⟨rfl, rfl⟩, selI, hw1]
    rfl
def E77 (l : Nat) (n : Int) (h : Heap) : Env := { hint := hSt 96 (.ref h.length 0 0) (clos l h.length n) (h ++ [.cells 0 [.nilf]]) (h ++ [.cells 0 [clos l h.length n]]) }
def lp77 (q : Nat) (n : Int) (h' h'' : Heap) : Loops := fun id => match id with
  | 4 => some ([1, 3, 4], st77 q n 0 false h', .leaf (.exit 0, stE77 h''))
  | _ => none
theorem runF77 (l : Nat) (n : Int) (h h'' : Heap) : xenter Tryd.prog (E77 l n h) (xCode Tryd.prog G0 (E77 l n h) 200 (lp77 h.length n (h ++ [.cells 0 [clos l h.length n]]) h'')) 77 [.yf l, .row [I n] 0] [true, true] h =
    .need (some (AV.ref h.length 0 0) = some (AV.ref h.length 0 0) ∧ some (clos l h.length n) = some (clos l h.length n) ∧ h ++ [.cells 0 [.nilf]] = h ++ [.cells 0 [.nilf]] ∧ aStore Tryd.prog (h ++ [.cells 0 [.nilf]]) 96 (.ref h.length 0 0) (clos l h.length n) = some (h ++ [.cells 0 [clos l h.length n]]))
      (.need ((st77 h.length n 0 false (h ++ [.cells 0 [clos l h.length n]])).vals = (st77 h.length n 0 false (h ++ [.cells 0 [clos l h.length n]])).vals) (.leaf (.tup [], false, h''))) := by kernel_rfl
theorem loops77 : loopsOf (bodyOf Tryd.prog 77) = [body77] := by kernel_rfl
theorem id77 : idOf body77 = 4 := by kernel_rfl
/-- RANGING OVER ordered(n). The variable 'more' lies behind all that was there. -/
theorem c77 (hn : n ≤ 63) (hy : YOk l n Hs yst Good) {h : Heap} (hq : ∀ st, need78 l h.length n (Hs st)) (st : S) (h0 : Hs st = h ++ [.cells 0 [clos l h.length n]]) (hgd : Good (allSeq n).length st) :
    ACall Tryd.prog G0 77 [.yf l, .row [I n] 0] h (.tup []) (Hs ((allSeq n).foldl yst st)) := by
  have hl := loop77 hn hy hq (n + 1) 0 st 0 (by omega) (by rw [Nat.zero_add]; exact hgd)
  have hlp : LoopsOk Tryd.prog G0 (fun r => r = none) [] (lp77 h.length n (h ++ [.cells 0 [clos l h.length n]]) (Hs ((allSeq n).foldl yst st))) (bodyOf Tryd.prog 77) := by
    refine .of_list _ fun x hm => ?_
    rw [loops77] at hm
    obtain rfl := List.mem_singleton.1 hm
    intro keep s0 t' e st' h' hsel
    rw [id77] at h'
    cases h'
    cases hsel
    rw [← h0, st77_tag]
    exact ⟨.loop hl, rfl⟩
  refine .find (n := 200) (tags := [true, true]) (s := false) (.ofH (E := E77 l n h) rfl rfl (hSt_ok _ _ _ _ _).ok fun f xs t v h => by cases h) hlp ?_
  rw [runF77, Tree.sel_need ⟨rfl, rfl, rfl, store_new (one_of (by kernel_rfl)) _ _ _ rfl⟩]
  exact selR.trans rfl
end
theorem c68 (n : Int) (h : Heap) : ACall Tryd.prog G0 68 [I n] h (.fn 77 [] [.row [I n] 0]) h := by
  have run : xCall Tryd.prog G0 {} 200 68 [I n] [true] h = .leaf (.fn 77 [] [.row [I n] 0], true, h) := by kernel_rfl
  exact xCall_ok (n := 200) (tags := [true]) (s := true) names mixed clok0 (by rw [run]; rfl)
end Go.Proofs.YtjljigccgaadaaaDoor.Am

namespace Go.Proofs.YtjljigccgaadaaaDoor.Am
open Go
set_option maxRecDepth 100000

/-! ### Cells of integers at unknown places -/
def intAt (h : Heap) (r off : Nat) : Int := intOf (((objAt h r 0).getD []).getD off .junk)
def stoH (h : Heap) (r off : Nat) (x : AV) : Heap := h.set r (.cells 0 (setL ((objAt h r 0).getD []) off [x]))
def isInt (k : IntKind) (h : Heap) (r off : Nat) : Prop := ∃ c v, objAt h r 0 = some c ∧ c[off]? = some (.int k v)
def hArr (t : TypeId) (k : IntKind) : Heap → Oper → (Operand → Option AV) → Option (AV × Bool × Heap × Prop) := fun h o ρ => match o.op with
  | .load t' x => if t' = t then (match ρ x with
    | some (.ref r 0 off) => some (.int k (intAt h r off), true, h, isInt k h r off)
    | _ => none) else none
  | .store t' x y => if t' = t then (match ρ x, ρ y with
    | some (.ref r 0 off), some (.int k' v) => some (.tup [], false, stoH h r off (.int k' v), isInt k h r off)
    | _, _ => none) else none
  | _ => none
theorem hArr_ok {t : TypeId} {k : IntKind} (hu : Tryd.prog.underlying t = some (.int k)) (h1 : One t) : HintA Tryd.prog (hArr t k) := by
  intro h o ρ y s h' p hh hp
  unfold hArr at hh
  split at hh
  · rename_i t' x ho
    split at hh
    · rename_i ht
      subst ht
      split at hh
      · rename_i r off hx
        cases hh
        obtain ⟨c, v, hc, hv⟩ := hp
        unfold aopR
        simp only [ho, hx, Option.bind_some, aLoad, hc]
        unfold Am.cut
        rw [hu]
        simp only [aggD, Bool.false_eq_true, if_false, hv, Option.map_some]
        unfold intAt
        rw [hc, Option.getD_some, List.getD_eq_getElem?_getD, hv]
        rfl
      · cases hh
    · cases hh
  · rename_i t' x y' ho
    split at hh
    · rename_i ht
      subst ht
      split at hh
      · rename_i r off k' v hx hy
        cases hh
        obtain ⟨c, v0, hc, hv⟩ := hp
        obtain ⟨i, e1, e2⟩ := h1
        have hlt := (List.getElem?_eq_some_iff.1 hv).1
        unfold aopR
        simp only [ho, hx, hy, aStore, e1, hc]
        have ec : (AV.int k' v).cells = [.int k' v] := rfl
        rw [ec, if_pos ⟨by rw [e2]; rfl, by rw [e2]; omega, rfl⟩]
        unfold stoH
        rw [hc, Option.getD_some]
        rfl
      · cases hh
    · cases hh
  · cases hh

def updF (f : Nat → Int) (k : Nat) (v : Int) : Nat → Int := fun i => if i = k then v else f i
/-- m integers. -/
def cK (k : IntKind) (m : Nat) (K : Nat → Int) : List AV := (List.range m).map fun i => .int k (K i)
theorem cK_get {k : IntKind} {m : Nat} {K : Nat → Int} {i : Nat} (h : i < m) : (cK k m K)[i]? = some (.int k (K i)) := by
  unfold cK; rw [List.getElem?_map, List.getElem?_range h]; rfl
theorem cK_len {k : IntKind} {m : Nat} {K : Nat → Int} : (cK k m K).length = m := by simp [cK]
theorem cK_set {kd : IntKind} {m : Nat} {K : Nat → Int} {k : Nat} {v : Int} (h : k < m) : setL (cK kd m K) k [.int kd v] = cK kd m (updF K k v) := by
  apply List.ext_getElem?
  intro i
  rw [setL_get (by rw [cK_len]; simp; omega)]
  by_cases h1 : i < k
  · rw [if_pos h1, cK_get (by omega), cK_get (by omega)]
    simp [updF, Nat.ne_of_lt h1]
  · rw [if_neg h1]
    by_cases h2 : i < k + [AV.int kd v].length
    · have : i = k := by simp at h2; omega
      subst this
      rw [if_pos h2, cK_get h]
      simp [updF]
    · rw [if_neg h2]
      have hne : i ≠ k := by simp at h2; omega
      by_cases h3 : i < m
      · rw [cK_get h3, cK_get h3]; simp [updF, hne]
      · rw [List.getElem?_eq_none (by rw [cK_len]; omega), List.getElem?_eq_none (by rw [cK_len]; omega)]
theorem updF_updF (K : Nat → Int) (k : Nat) (a b : Int) : updF (updF K k a) k b = updF K k b := by
  funext i; unfold updF; split <;> simp_all
theorem updF_same (K : Nat → Int) (k : Nat) (a : Int) : updF K k a k = a := by simp [updF]

/-! ### once -/
/-- Heaps with an array of what is known, and a variable that holds it. -/
structure KFam (hp : (Nat → Int) → Heap) (q N m : Nat) : Prop where
  box : ∀ K, objAt (hp K) q 0 = some [.ms 1 N 0 0 m m]
  arr : ∀ K, objAt (hp K) N 0 = some (cK .i8 m K)
  set : ∀ K s v, s < m → (hp K).set N (.cells 0 (cK .i8 m (updF K s v))) = hp (updF K s v)
/-- Asked only once. -/
def onceS (f : Nat → Bool) : (Nat → Int) → Nat → Bool × (Nat → Int) := fun K s => if K s = 0 then (f s, updF K s (if f s then 1 else -1)) else (decide (K s > 0), K)

def clhP (g : FuncId) (caps : List AV) (s : Int) (b : Bool) (Q : Heap → Prop) : FuncId → List AV → Heap → Option (Tree (AV × Heap)) := fun f xs h0 => some (.need (f = g ∧ xs = U s :: caps ∧ Q h0) (.leaf (.bool b, h0)))
def E67 (g : FuncId) (caps : List AV) (s : Int) (b : Bool) (Q : Heap → Prop) (v : AV) : Env := { hint := orH (hLd 85 v) (hArr 86 .i8), clh := clhP g caps s b Q }
def box67 (q N m : Nat) (h : Heap) : Prop := objAt h q 0 = some [.ms 1 N 0 0 m m]
def idx67 (N m : Nat) (s : Int) (h : Heap) : Prop := 0 ≤ s ∧ s < m ∧ (objAt h N 0).isSome = true
def off67 (s : Int) : Nat := 0 + s.toNat * 1
def chk67 (q N m : Nat) (s : Int) (h : Heap) (x : Tree (AV × Bool × Heap)) : Tree (AV × Bool × Heap) := .need (box67 q N m h) (.need (idx67 N m s h) (.need (isInt .i8 h N (off67 s)) x))
def end67 (q N m : Nat) (s : Int) (h : Heap) : Tree (AV × Bool × Heap) := chk67 q N m s h (.leaf (.bool (decide (intAt h N (off67 s) > 0)), true, h))
def sto67 (N : Nat) (s : Int) (v : Int) (h : Heap) : Heap := stoH h N (off67 s) (.int .i8 v)
theorem run67 (g q N m : Nat) (caps : List AV) (s : Int) (b : Bool) (Q : Heap → Prop) (h : Heap) : xCall Tryd.prog G0 (E67 g caps s b Q (.ms 1 N 0 0 m m)) 200 67 [U s, .ref q 0 0, .row [.fn g [] caps] 0] [true, true, true] h =
    chk67 q N m s h (.ite (intAt h N (off67 s) == 0) (chk67 q N m s h (.need (g = g ∧ U s :: caps = U s :: caps ∧ Q (sto67 N s (-1) h)) (.ite b
      (chk67 q N m s (sto67 N s (-1) h) (end67 q N m s (sto67 N s 1 (sto67 N s (-1) h)))) (end67 q N m s (sto67 N s (-1) h))))) (end67 q N m s h)) := by kernel_rfl
section
variable {hp : (Nat → Int) → Heap} {q N m : Nat} {g : FuncId} {caps : List AV} {f : Nat → Bool}
theorem KFam.chk (h : KFam hp q N m) {s : Nat} (hs : s < m) (K : Nat → Int) (x : Tree (AV × Bool × Heap)) : (chk67 q N m s (hp K) x).sel = x.sel := by
  have ho : off67 (s : Int) = s := by unfold off67; omega
  unfold chk67
  have h1 : box67 q N m (hp K) := h.box K
  have h2 : idx67 N m s (hp K) := ⟨by omega, by omega, by rw [h.arr]; rfl⟩
  have h3 : isInt .i8 (hp K) N (off67 s) := ⟨_, K s, h.arr K, by rw [ho]; exact cK_get hs⟩
  rw [Tree.sel_need h1, Tree.sel_need h2, Tree.sel_need h3]
theorem KFam.int (h : KFam hp q N m) {s : Nat} (hs : s < m) (K : Nat → Int) : intAt (hp K) N (off67 s) = K s := by
  have ho : off67 (s : Int) = s := by unfold off67; omega
  unfold intAt
  rw [h.arr, Option.getD_some, ho, List.getD_eq_getElem?_getD, cK_get hs]
  rfl
theorem KFam.sto (h : KFam hp q N m) {s : Nat} (hs : s < m) (K : Nat → Int) (v : Int) : sto67 N s v (hp K) = hp (updF K s v) := by
  have ho : off67 (s : Int) = s := by unfold off67; omega
  unfold sto67 stoH
  rw [h.arr, Option.getD_some, ho, cK_set hs]
  exact h.set K s v hs
theorem KFam.end (h : KFam hp q N m) {s : Nat} (hs : s < m) (K : Nat → Int) : (end67 q N m s (hp K)).sel = some (.bool (decide (K s > 0)), true, hp K) := by
  unfold end67
  rw [h.chk hs, h.int hs]
  rfl
theorem c67 (h : KFam hp q N m) (hg : ∀ K s, s < m → s < 2 ^ 64 → ACall Tryd.prog G0 g (U s :: caps) (hp K) (.bool (f s)) (hp K)) : HasOk 67 [.ref q 0 0, .row [.fn g [] caps] 0] hp (onceS f) (· < m) := by
  intro K s hs h64
  have hs : s < m := hs
  have hcl : ClOk Tryd.prog G0 (E67 g caps s (f s) (fun h => ∃ K, h = hp K) (.ms 1 N 0 0 m m)) := by
    refine .all ((hLd_ok Tryd.underlying85 rfl _).ok.or (hArr_ok (by kernel_rfl) (one_of (by kernel_rfl))).ok) ?_ (fun l xs σ t v σ' h => (by cases h)) (fun f xs t v h => (by cases h))
    intro f' xs σ t v σ' hq hsel
    cases hq
    obtain ⟨⟨rfl, rfl, K, rfl⟩, hs2⟩ := Tree.of_need hsel
    cases hs2
    exact hg K s hs h64
  refine xCall_ok (n := 200) (tags := [true, true, true]) (s := true) names mixed hcl ?_
  rw [run67, h.chk hs, selI, h.int hs]
  unfold onceS
  by_cases h0 : K s = 0
  · rw [if_pos h0, h0, beq_self_eq_true, cond_true, h.chk hs, h.sto hs, Tree.sel_need ⟨rfl, rfl, _, rfl⟩, selI]
    cases hf : f s with
    | true =>
      rw [cond_true, h.chk hs, h.sto hs, updF_updF, h.end hs, updF_same]
      rfl
    | false =>
      rw [cond_false, h.end hs, updF_same]
      rfl
  · rw [if_neg h0, beq_false_of_ne h0, cond_false, h.end hs]

/-! ### What irreducible then says -/
/-- What is known is so. -/
def KOk (f : Nat → Bool) (K : Nat → Int) : Prop := ∀ s, K s = 0 ∨ K s = if f s then 1 else -1
theorem onceS_ok {K : Nat → Int} (h : KOk f K) (s : Nat) : (onceS f K s).1 = f s ∧ KOk f (onceS f K s).2 := by
  unfold onceS
  by_cases h0 : K s = 0
  · rw [if_pos h0]
    refine ⟨rfl, fun t => ?_⟩
    simp only [updF]
    by_cases ht : t = s
    · subst ht; rw [if_pos rfl]; exact .inr rfl
    · rw [if_neg ht]; exact h t
  · rw [if_neg h0]
    refine ⟨?_, h⟩
    rcases h s with h1 | h1
    · exact absurd h1 h0
    · simp only [h1]
      cases f s <;> rfl
/-- A set has the property, and none of the sets with one number less has it. -/
def irr (f : Nat → Bool) (s : Nat) : Bool := f s && (bitsL s).all fun k => !f (del s k)
theorem irrLoop_ok {S : Type} {stp : S → Nat → Bool × S} {Good : S → Prop} (hst : ∀ st s, Good st → (stp st s).1 = f s ∧ Good (stp st s).2) (s : Nat) : ∀ (n r : Nat) (st : S), Good st → r < n → r < 2 ^ 64 →
    (irrLoop stp s n r st).1 = (bitsL r).all (fun k => !f (del s k)) ∧ Good (irrLoop stp s n r st).2
  | 0, r, st, _, h, _ => by omega
  | n + 1, r, st, hg, h, hr => by
    unfold irrLoop
    by_cases h0 : r = 0
    · subst h0
      rw [if_pos rfl, bitsL_zero]
      exact ⟨rfl, hg⟩
    · rw [if_neg h0, bitsL_cons h0 hr]
      obtain ⟨h1, h2⟩ := hst st (del s (tz r)) hg
      have ih := irrLoop_ok hst s n (dropLow r) _ h2 (by have := dropLow_less h0; omega) (dropLow_lt hr)
      rw [h1]
      cases hf : f (del s (tz r)) with
      | true => simp [hf, h2]
      | false => simp [hf, ih.1, ih.2]
theorem irrS_ok {S : Type} {stp : S → Nat → Bool × S} {Good : S → Prop} (hst : ∀ st s, Good st → (stp st s).1 = f s ∧ Good (stp st s).2) {s : Nat} (hs : s < 2 ^ 64) {st : S} (hg : Good st) : (irrS stp st s).1 = irr f s ∧ Good (irrS stp st s).2 := by
  unfold irrS irr
  obtain ⟨h1, h2⟩ := hst st s hg
  have ih := irrLoop_ok hst s (s + 1) s _ h2 (by omega) hs
  rw [h1]
  cases f s with
  | true => simp [ih.1, ih.2]
  | false => simp [h2]
end
end Go.Proofs.YtjljigccgaadaaaDoor.Am

namespace Go.Proofs.YtjljigccgaadaaaDoor.Am
open Go
section
variable {P : Program} {G : Nat → Option (List AV)}

/-- A call's world, its new objects forgotten. -/
theorem Inv.forget {w w' : World} {M M' : Map} {σ X : Heap} (hi : Inv G w M σ) (he : Ext w M w' M') (hi' : Inv G w' M' (σ ++ X)) : Ext w M w' (M'.cut σ.length) ∧ Inv G w' (M'.cut σ.length) σ := by
  have hn : ∀ r p, M r = some p → r < σ.length := hi.dom
  have he' := he.cut hn
  refine ⟨he', .of (fun q cs hq => (hi.glob q cs hq).mono he') (fun r r' b q q' h1 h2 => hi'.inj r r' b q q' (Map.cut_some h1).2 (Map.cut_some h2).2) (fun r p hr => (Map.cut_some hr).1)
    (fun r b q hr => hi'.lt r b q (Map.cut_some hr).2) (fun b hb => ⟨(hi'.far b hb).1, fun r q hr => (hi'.far b hb).2 r q (Map.cut_some hr).2⟩) (fun r o ho => ?_)⟩
  have hr : r < σ.length := (List.getElem?_eq_some_iff.1 ho).1
  have ho' : (σ ++ X)[r]? = some o := by rw [List.getElem?_append_left hr]; exact ho
  have hold := hi.objOk ho
  have hnew := hi'.objOk ho'
  cases o with
  | cells gn c =>
    obtain ⟨b, cs, e, h1, h2, h3, h4⟩ := hnew
    obtain ⟨_, _, _, _, _, _, k4⟩ := hold
    exact ⟨b, cs, e, by rw [Map.cut_lt hr]; exact h1, h2, h3, fun j x hj => (h4 j x hj).cut ((k4 j x hj).isBelow hn)⟩
  | resv => show M'.cut _ r = none; rw [Map.cut_lt hr]; exact hnew
  | dfr => obtain ⟨b, h1, h2⟩ := hnew; exact ⟨b, by rw [Map.cut_lt hr]; exact h1, h2⟩
  | loop A =>
    obtain ⟨b, L, h1, h2, h3⟩ := hnew
    obtain ⟨_, _, _, _, k3⟩ := hold
    exact ⟨b, L, by rw [Map.cut_lt hr]; exact h1, h2, h3.state, h3.pending, h3.size, fun j x hj => (h3.tmps j x hj).cut ((k3.tmps j x hj).isBelow hn), h3.params, h3.assign, h3.body,
      by rw [Map.cut_lt (hn _ _ k3.defers.1)]; exact h3.defers.1, h3.defers.2⟩
  | gone => trivial

/-- A new slice, told as data: its object is forgotten. -/
theorem RV.msData {w : World} {M : Map} {σ : Heap} {n : Nat} (hi : Inv G w M σ) {v : Value} {r g : Nat} {cells : List AV} (hr : n ≤ r) (hv : RV w M v (.ms 1 r g 0 cells.length cells.length)) (ho : σ[r]? = some (.cells g cells)) (hb : ∀ x ∈ cells, Below n x) :
    RV w (M.cut n) v (.sl 1 (cells.map fun y => [y])) := by
  obtain ⟨b, cs, e, hm, hh, hl, hx⟩ := hi.cells r g cells ho
  cases hv with
  | ms _ _ _ _ _ _ b' capc c' e' hm' hlen hcc hsz hfit =>
    rw [hm] at hm'
    obtain ⟨rfl, _⟩ := Prod.mk.inj (Option.some.inj hm')
    have himm : Imm w (M.cut n) b := ⟨hi.lt r b g hm, fun r' g' h' => by
      obtain ⟨k1, k2⟩ := Map.cut_some h'
      have := hi.inj r r' b g g' hm k2
      omega, hi.notFar hm⟩
    have hlen' : (cells.map fun y => ([y] : List AV)).length = cells.length := by simp
    have := RV.sl (w := w) (M := M.cut n) b 0 capc 1 (fun i j => cs.getD (i + j) Go.undef) (cells.map fun y => [y]) himm
      (fun i rw' j hrw hj => by
        have hil : i < cells.length := by have := (List.getElem?_eq_some_iff.1 hrw).1; rwa [hlen'] at this
        rw [Nat.zero_add, Nat.mul_one]
        exact cell_of_cells hh (by omega))
      (fun i rw' hrw => by
        obtain ⟨y, _, rfl⟩ := List.mem_map.1 (List.mem_of_getElem? hrw); rfl)
      (fun i rw' j z hrw hz => by
        have hil : i < cells.length := by have := (List.getElem?_eq_some_iff.1 hrw).1; rwa [hlen'] at this
        rw [List.getElem?_map] at hrw
        rw [List.getElem?_eq_getElem hil] at hrw
        cases hrw
        cases j with
        | zero =>
          simp at hz; subst hz
          exact (hx i _ (List.getElem?_eq_getElem hil)).cut (hb _ (List.getElem_mem hil))
        | succ j => simp at hz)
      (by rw [hlen']; omega)
    rw [hlen'] at this
    exact this
  | msS _ _ _ _ _ _ b' g' p capc hm' hg =>
    rw [hm] at hm'
    obtain ⟨_, rfl⟩ := Prod.mk.inj (Option.some.inj hm')
    omega

/-- A CALL THAT RETURNS A NEW SLICE: as data. -/
theorem ACall.msData {f : FuncId} {args : List AV} {σ X : Heap} {r g : Nat} {cells : List AV} (h : ACall P G f args σ (.ms 1 r g 0 cells.length cells.length) (σ ++ X)) (hr : σ.length ≤ r) (ho : (σ ++ X)[r]? = some (.cells g cells)) (hb : ∀ x ∈ cells, Below σ.length x) :
    ACall P G f args σ (.sl 1 (cells.map fun y => [y])) σ := by
  refine ⟨h.1, fun w M vs hi hvs => (h.2 w M vs hi hvs).mono ?_⟩
  rintro e w' ⟨u, M', rfl, hu, he, hi'⟩
  obtain ⟨h1, h2⟩ := hi.forget he hi'
  exact ⟨u, _, rfl, RV.msData hi' hr hu ho hb, h1, h2⟩
/-- A call whose new objects nobody holds. -/
theorem ACall.forget {f : FuncId} {args : List AV} {σ X : Heap} {v : AV} (h : ACall P G f args σ v (σ ++ X)) (hv : Below σ.length v) : ACall P G f args σ v σ := h.drop hv

/-- A heap that no world has. -/
def Never (G : Nat → Option (List AV)) (σ : Heap) : Prop := ∀ w M, ¬ Inv G w M σ
theorem never_of {σ : Heap} {r : Nat} {A : ALoop} (h : σ[r]? = some (.loop A)) (hd : σ.length ≤ A.defers) : Never G σ := fun w M hi => by
  obtain ⟨b, L, _, _, hR⟩ := hi.loop r A h
  have := hi.dom _ _ hR.defers.1
  omega
theorem AYield.never {l : Nat} {xs : List AV} {σ σ' : Heap} {v : AV} {A : ALoop} (h : Never G σ) (hl : σ[l]? = some (.loop A)) : AYield P G l xs σ v σ' := ⟨⟨A, hl⟩, fun w M _ _ hi => absurd hi (h w M)⟩
end
end Go.Proofs.YtjljigccgaadaaaDoor.Am

namespace Go.Proofs.YtjljigccgaadaaaDoor.Am
open Go
set_option maxRecDepth 100000

/-! ### Outcomes told beforehand -/
def hAl (t : TypeId) (r : Nat) (h1 h2 : Heap) : Heap → Oper → (Operand → Option AV) → Option (AV × Bool × Heap × Prop) := fun h o _ => match o.op with
  | .alloc t' => if t' = t then some (.ref r 0 0, true, h2, h = h1 ∧ aAlloc Tryd.prog h1 t = some (.ref r 0 0, h2)) else none
  | _ => none
theorem hAl_ok (t : TypeId) (r : Nat) (h1 h2 : Heap) : HintA Tryd.prog (hAl t r h1 h2) := by
  intro h o ρ y s h' p hh hp
  unfold hAl at hh
  split at hh
  · rename_i t' ho
    split at hh
    · rename_i ht
      subst ht
      cases hh
      obtain ⟨rfl, p2⟩ := hp
      unfold aopR
      simp only [ho, p2]
    · cases hh
  · cases hh
def hMk (t : TypeId) (v : AV) (l : Int) (h1 h2 : Heap) : Heap → Oper → (Operand → Option AV) → Option (AV × Bool × Heap × Prop) := fun h o ρ => match o.op with
  | .makeSlice t' a b => if t' = t then some (v, true, h2, ρ a = some (I l) ∧ ρ b = some (I l) ∧ h = h1 ∧ aMake Tryd.prog h1 t (I l) (I l) = some (v, h2)) else none
  | _ => none
theorem hMk_ok (t : TypeId) (v : AV) (l : Int) (h1 h2 : Heap) : HintA Tryd.prog (hMk t v l h1 h2) := by
  intro h o ρ y s h' p hh hp
  unfold hMk at hh
  split at hh
  · rename_i t' a b ho
    split at hh
    · rename_i ht
      subst ht
      cases hh
      obtain ⟨p1, p2, rfl, p4⟩ := hp
      unfold aopR
      simp only [ho, p1, p2, p4]
    · cases hh
  · cases hh

/-! ### Places behind a heap -/
theorem at_app (σ rest : Heap) (i : Nat) : (σ ++ rest)[σ.length + i]? = rest[i]? := by
  rw [List.getElem?_append_right (by omega)]
  congr 1; omega
theorem set_app (σ rest : Heap) (i : Nat) (x : AObj) : (σ ++ rest).set (σ.length + i) x = σ ++ rest.set i x := by
  rw [List.set_append_right _ _ (by omega)]
  congr 2; omega
theorem objAt_app {σ rest : Heap} {i g : Nat} {c : List AV} (h : rest[i]? = some (.cells g c)) : objAt (σ ++ rest) (σ.length + i) g = some c := by
  unfold objAt
  rw [at_app, h]
  simp

/-! ### every's code -/
noncomputable def fstS : Code → Code | .seq x _ => x | c => c
noncomputable def sndS : Code → Code | .seq _ x => x | c => c
noncomputable def rfA : Code → Code | .rangeFunc _ _ a _ => a | .block _ c => rfA c | .seq _ c => rfA c | _ => .skip
noncomputable def rfB : Code → Code | .rangeFunc _ _ _ b => b | .block _ c => rfB c | .seq _ c => rfB c | _ => .skip
noncomputable def b47 : Code := bodyOf Tryd.prog 47
noncomputable def c47 (i : Nat) : Code := match i with
  | 0 => fstS b47
  | 1 => fstS (sndS b47)
  | 2 => fstS (sndS (sndS b47))
  | 3 => fstS (sndS (sndS (sndS b47)))
  | 4 => fstS (fstS (sndS (sndS (sndS (sndS b47)))))
  | _ => sndS (sndS (sndS (sndS (sndS b47))))
noncomputable def rf47 : Code := fstS (sndS (sndS (sndS (sndS b47))))
noncomputable def as47 : Code := rfA rf47
noncomputable def bd47 : Code := rfB rf47
theorem code47 : bodyOf Tryd.prog 47 = .seq (c47 0) (.seq (c47 1) (.seq (c47 2) (.seq (c47 3) (.seq (.seq (c47 4) (.block 0 (.rangeFunc (.tmp 14) #[15] as47 bd47))) (c47 5))))) := by kernel_rfl

/-! ### The heap while every ranges -/
/-- A set as a list of integers. -/
def ints (s : Nat) : List Int := (bitsL s).map Int.ofNat
/-- What the loop's frame holds. -/
def stF (N n : Nat) (h : Heap) : St := .of 25 h [(6, .ref (N + 2) 0 0, true), (7, .ref (N + 3) 0 0, true), (14, .fn 77 [] [.row [I n] 0], true)]
noncomputable def lpE (N n : Nat) (s : LoopState) : ALoop := { loop0 (stF N n []).a #[15] as47 bd47 (N + 4) with state := s }
def caps67 (N : Nat) (fv : AV) : List AV := [.ref (N + 1) 0 0, .row [fv] 0]
noncomputable def seven (N n : Nat) (fv : AV) (s : LoopState) (K : Nat → Int) (L : List (List Int)) : Heap :=
  [.cells 0 (cK .i8 (2 ^ n) K), .cells 0 [.ms 1 N 0 0 (2 ^ n) (2 ^ n)], .cells 0 [.fn 67 [] (caps67 N fv)], .cells 0 [vA (N + 7) (L.map flL)], .dfr, .loop (lpE N n s), .cells 0 [clos (N + 5) (N + 6) n]]
noncomputable def hE (σ : Heap) (n : Nat) (fv : AV) (s : LoopState) (K : Nat → Int) (L : List (List Int)) : Heap := σ ++ (seven σ.length n fv s K L ++ oA (L.map flL))
theorem kfam {σ : Heap} {n : Nat} {fv : AV} {s : LoopState} {L : List (List Int)} : KFam (fun K => hE σ n fv s K L) (σ.length + 1) σ.length (2 ^ n) := by
  refine ⟨fun K => objAt_app rfl, fun K => ?_, fun K k v hk => ?_⟩
  · have := objAt_app (σ := σ) (rest := seven σ.length n fv s K L ++ oA (L.map flL)) (i := 0) (g := 0) rfl
    exact this
  · exact set_app σ (seven σ.length n fv s K L ++ oA (L.map flL)) 0 _

/-- Asked whether a set has the property: the answer is always the same, and nothing turns. -/
def HasAt (σ : Heap) (g : FuncId) (caps : List AV) (f : Nat → Bool) (m : Nat) : Prop := ∀ (X : Heap) (s : Nat), s < m → s < 2 ^ 64 → ACall Tryd.prog G0 g (U s :: caps) (σ ++ X) (.bool (f s)) (σ ++ X)

def cl47 : FuncId → List AV → Option (Tree AV) := fun f xs => match f, xs with
  | 68, [.int .i64 n] => some (.leaf (.fn 77 [] [.row [I n] 0]))
  | 44, [.int .u64 s] => some (.need (0 ≤ s ∧ s < 18446744073709551616) (.leaf (flN (bitsL s.toNat))))
  | _, _ => none
theorem cl47_ok {f : FuncId} {xs : List AV} {t : Tree AV} {v : AV} (hq : cl47 f xs = some t) (hs : t.sel = some v) (σ : Heap) : ACall Tryd.prog G0 f xs σ v σ := by
  unfold cl47 at hq
  split at hq <;> first | (cases hq; done) | skip
  · cases hq; cases hs; exact c68 _ σ
  · rename_i s
    cases hq
    obtain ⟨h1, hs2⟩ := Tree.of_need hs
    cases hs2
    have := c44 (s := s.toNat) (by omega) σ
    rwa [show ((s.toNat : Nat) : Int) = s by omega] at this
def clh47 (s : Int) (fv : AV) (b : Bool) (h h' : Heap) : FuncId → List AV → Heap → Option (Tree (AV × Heap)) := fun f xs h0 => match f with
  | 46 => some (.need (xs = [U s, fv] ∧ h0 = h) (.leaf (.bool b, h')))
  | _ => none
def EBd (s N : Nat) (fv v v' : AV) (b : Bool) (h h' h1 h2 : Heap) : Env :=
  { cl := cl47, clh := clh47 s fv b h h', hint := orH (hLd 61 fv) (orH (hLd 29 v) (orH (hApp 29 v (.sl 1 [[flN (bitsL s)]]) v' h' h1) (hSt 29 (.ref N 0 0) v' h1 h2))) }
theorem clokBd {s N : Nat} {fv v v' : AV} {b : Bool} {h h' h1 h2 : Heap} (hc : ACall Tryd.prog G0 46 [U s, fv] h (.bool b) h') : ClOk Tryd.prog G0 (EBd s N fv v v' b h h' h1 h2) := by
  refine .all ((hLd_ok (by kernel_rfl : Tryd.prog.underlying 61 = some (.func #[63] #[4] false)) rfl _).ok.or ((hLd_ok Tryd.underlying29 rfl _).ok.or ((hApp_ok _ _ _ _ _ _).ok.or (hSt_ok _ _ _ _ _).ok))) ?_ (fun l xs σ t v σ' h => (by cases h)) (fun f xs t v h hs σ => cl47_ok h hs σ)
  intro f xs σ t v σ' hq hs
  replace hq : clh47 s fv b h h' f xs σ = some t := hq
  unfold clh47 at hq
  split at hq <;> first | (cases hq; done) | skip
  cases hq
  obtain ⟨⟨rfl, rfl⟩, hs2⟩ := Tree.of_need hs
  cases hs2
  exact hc
def stB (M N : Nat) (s : Int) (h : Heap) : St := .of 25 h [(6, .ref M 0 0, true), (7, .ref N 0 0, true), (8, U s, true)]
def st0 (h : Heap) : St := .of 25 h []
theorem runBd (s M N : Nat) (fv v v' : AV) (b : Bool) (h h' h1 h2 : Heap) : xBody Tryd.prog G0 (EBd s N fv v v' b h h' h1 h2) 200 noLoops [] bd47 (stB M N s h) =
    .need (objAt h M 0 = some [fv]) (.need ([U s, fv] = [U s, fv] ∧ h = h) (.ite b (.need (objAt h' N 0 = some [v]) (.need (0 ≤ (s : Int) ∧ (s : Int) < 18446744073709551616)
      (.need (some [v, .sl 1 [[flN (bitsL (s : Int).toNat)]]] = some [v, .sl 1 [[flN (bitsL s)]]] ∧ #[29, 29] = #[29, 29] ∧ h' = h' ∧ aAppend Tryd.prog h' 29 29 v (.sl 1 [[flN (bitsL s)]]) = some (v', h1))
        (.need (some (AV.ref N 0 0) = some (AV.ref N 0 0) ∧ some v' = some v' ∧ h1 = h1 ∧ aStore Tryd.prog h1 29 (.ref N 0 0) v' = some h2) (.leaf (.normal, st0 h2)))))) (.leaf (.normal, st0 h')))) := by kernel_rfl
def stA (M N n : Nat) (s : Int) (h : Heap) : St := .of 25 h [(6, .ref M 0 0, true), (7, .ref N 0 0, true), (14, .fn 77 [] [.row [I n] 0], true), (15, U s, true)]
theorem runAs (M N n : Nat) (s : Int) (h : Heap) : xBody Tryd.prog G0 {} 200 noLoops [6, 7, 8] as47 (stA M N n s h) = .leaf (.normal, stB M N s h) := by kernel_rfl
theorem putA (N n : Nat) (s : Int) (h : Heap) : putPs [15] [U s] (stF N n []).a = (stA (N + 2) (N + 3) n s h).a := by kernel_rfl

theorem del_le (s k : Nat) : del s k ≤ s := Nat.and_le_left
section
variable {σ : Heap} {g : FuncId} {caps : List AV} {f : Nat → Bool} {n : Nat}
/-- ONE ROUND. -/
theorem roundE (hn : n ≤ 12) (hg : HasAt σ g caps f (2 ^ n)) {s : Nat} (hs : s < 2 ^ n) (K : Nat → Int) {L : List (List Int)} (hL : L.length < 1048576) :
    AYield Tryd.prog G0 (σ.length + 5) [U s] (hE σ n (.fn g [] caps) .ready K L) (.bool true)
      (hE σ n (.fn g [] caps) .ready (irrS (onceS f) K s).2 (if (irrS (onceS f) K s).1 then L ++ [ints s] else L)) := by
  have h64 : 2 ^ n ≤ 2 ^ 12 := Nat.pow_le_pow_right (by omega) hn
  have hs64 : s < 2 ^ 64 := by omega
  have hloop : ∀ st K L, (hE σ n (.fn g [] caps) st K L)[σ.length + 5]? = some (.loop (lpE σ.length n st)) := fun st K L => at_app σ _ 5
  have hset : ∀ st st' K L, (hE σ n (.fn g [] caps) st K L).set (σ.length + 5) (.loop (lpE σ.length n st')) = hE σ n (.fn g [] caps) st' K L := fun st st' K L => set_app σ _ 5 _
  -- the call of irreducible
  have h67 : HasOk 67 (caps67 σ.length (.fn g [] caps)) (fun K => hE σ n (.fn g [] caps) .busy K L) (onceS f) (· < 2 ^ n) := c67 kfam fun K s h1 h2 => hg _ s h1 h2
  have h46 := c46 h67 hs64 hs (fun k _ => Nat.lt_of_le_of_lt (del_le s k) hs) K
  generalize irrS (onceS f) K s = q at h46
  obtain ⟨b, K'⟩ := q
  simp only at h46 ⊢
  have key := AYield.of_round (P := Tryd.prog) (G := G0) (l := σ.length + 5) (A := lpE σ.length n .ready) (args := [U s]) (σ := hE σ n (.fn g [] caps) .ready K L) (σ1 := hE σ n (.fn g [] caps) .ready K L) (σ3 := hE σ n (.fn g [] caps) .busy K' (if b = true then L ++ [ints s] else L))
    (a1 := (stB (σ.length + 2) (σ.length + 3) s []).a) (a3 := (st0 []).a) (e := .normal) (j := none) (hloop _ _ _) rfl rfl ?_ (hloop _ _ _) ?_ (hloop _ _ _) rfl
  · exact hset .busy .ready K' _ ▸ key
  · show AExec Tryd.prog G0 _ as47 { tmps := putPs [15] [U s] (stF σ.length n []).a } _ .normal _ _
    rw [putA σ.length n s (hE σ n (.fn g [] caps) .ready K L)]
    exact (xBody_ok (m := []) names mixed clok0 (lpNo as47) (n := 200) (keep := [6, 7, 8]) (st := stA (σ.length + 2) (σ.length + 3) n s (hE σ n (.fn g [] caps) .ready K L)) (st' := stB (σ.length + 2) (σ.length + 3) s (hE σ n (.fn g [] caps) .ready K L)) (by rw [runAs]; rfl)).1
  · rw [show (AObj.loop { lpE σ.length n .ready with state := .busy }) = .loop (lpE σ.length n .busy) from rfl, hset]
    have hone : One 29 := one_of (by kernel_rfl)
    have happ := append_vA el29 (σ ++ seven σ.length n (.fn g [] caps) .busy K' L) (L.map flL) (flN (bitsL s)) rfl (by simp; omega)
    have hlen : (σ ++ seven σ.length n (.fn g [] caps) .busy K' L).length = σ.length + 7 := by simp [seven]
    have hmap : L.map flL ++ [flN (bitsL s)] = (L ++ [ints s]).map flL := by simp [ints, flN]
    rw [hlen, hmap, List.append_assoc, List.append_assoc] at happ
    have hsto : aStore Tryd.prog (σ ++ (seven σ.length n (.fn g [] caps) .busy K' L ++ oA ((L ++ [ints s]).map flL))) 29 (.ref (σ.length + 3) 0 0) (vA (σ.length + 7) ((L ++ [ints s]).map flL)) = some (hE σ n (.fn g [] caps) .busy K' (L ++ [ints s])) := by
      obtain ⟨i, e1, e2⟩ := hone
      have ho : objAt (σ ++ (seven σ.length n (.fn g [] caps) .busy K' L ++ oA ((L ++ [ints s]).map flL))) (σ.length + 3) 0 = some [vA (σ.length + 7) (L.map flL)] := objAt_app rfl
      have hv1 : (vA (σ.length + 7) ((L ++ [ints s]).map flL)).one = true := by cases (L ++ [ints s]).map flL <;> rfl
      have hc : (vA (σ.length + 7) ((L ++ [ints s]).map flL)).cells = [vA (σ.length + 7) ((L ++ [ints s]).map flL)] := by cases (L ++ [ints s]).map flL <;> rfl
      simp only [aStore, e1, ho, e2, hc]
      rw [if_pos ⟨rfl, by simp, by rw [List.all_cons, hv1]; rfl⟩, set_app]
      rfl
    refine (xBody_ok (m := []) names mixed (clokBd (N := σ.length + 3) (v := vA (σ.length + 7) (L.map flL)) (v' := vA (σ.length + 7) ((L ++ [ints s]).map flL)) (h1 := σ ++ (seven σ.length n (.fn g [] caps) .busy K' L ++ oA ((L ++ [ints s]).map flL))) (h2 := hE σ n (.fn g [] caps) .busy K' (L ++ [ints s])) h46) (lpNo bd47) (n := 200) (keep := [])
      (st := stB (σ.length + 2) (σ.length + 3) s (hE σ n (.fn g [] caps) .busy K L)) (st' := st0 (hE σ n (.fn g [] caps) .busy K' (if b = true then L ++ [ints s] else L))) ?_).1
    have g1 : objAt (hE σ n (.fn g [] caps) .busy K L) (σ.length + 2) 0 = some [.fn 67 [] (caps67 σ.length (.fn g [] caps))] := objAt_app rfl
    have g2 : objAt (hE σ n (.fn g [] caps) .busy K' L) (σ.length + 3) 0 = some [vA (σ.length + 7) (L.map flL)] := objAt_app rfl
    rw [runBd, Tree.sel_need g1, Tree.sel_need ⟨rfl, rfl⟩, selI]
    cases b with
    | false => rfl
    | true =>
      rw [cond_true, Tree.sel_need g2, Tree.sel_need ⟨by omega, by omega⟩, Int.toNat_natCast, Tree.sel_need ⟨rfl, rfl, rfl, happ⟩, Tree.sel_need ⟨rfl, rfl, rfl, hsto⟩]
      rfl
end
end Go.Proofs.YtjljigccgaadaaaDoor.Am

