/-
  This file proves nothing of a law. It holds lemmas, of 7 texts in their order. No condition of its own.
-/
import Derived.Test.YtngaihdpmoajeaaMg6
import Derived.Test.YtngaihdpmoajeaaMg5
namespace Go.Proofs.Ytngaihdpmoajeaa.Am
open Go
set_option maxRecDepth 100000

/-! ### The least costs from each variable on -/
noncomputable def b46 : Code := bodyOf Try.prog 46
noncomputable def lp46 (i : Nat) : Code := ((loopsOf b46).drop i).headD .skip
noncomputable def bodyR : Code := lp46 0
noncomputable def bodyO : Code := lp46 1
noncomputable def bodyM : Code := lp46 2
noncomputable def bodyI : Code := lp46 3
theorem loopsO : loopsOf bodyO = [bodyM, bodyI] := by kernel_rfl
theorem loopsM : loopsOf bodyM = [bodyI] := by kernel_rfl
def stR (p : Pb) (rcs : List AV) (i : Int) (Y : Heap) : St := .of 136 (.cells 0 (repl p.V.length [.zs]) :: .cells 0 rcs :: .cells 0 (s46 p) :: Y) [(1, .row (pbC p) 0, true), (2, .nilp, true), (3, .ref 2 0 0, true), (4, I i, true)]
theorem runR (q : Prop) (p : Pb) (rcs : List AV) (i : Int) (Y : Heap) : xBody Try.prog G0 { EG q [(36, [flL (p.C.getD i.toNat [])], I (minL (p.C.getD i.toNat [])))] with boxRow := false, hint := hArrG 22 3 .i64 1 } 200 noLoops [1, 2, 3, 4] bodyR (stR p rcs i Y) = .ite (decide (i ≥ (0 : Int))) (.need (((0 : Int) ≤ IntKind.i64.wrap (i + (1 : Int))) ∧ ((IntKind.i64.wrap (i + (1 : Int)) < (↑(p.V.length + (1 : Nat)) : Int)) ∧ ((0 : Nat) = (0 : Nat)))) (.need (((0 : Nat) = (0 : Nat)) ∧ (∃ n, rcs[(IntKind.i64.wrap (i + (1 : Int))).toNat]? = some (AV.int IntKind.i64 n))) (.need (((0 : Int) ≤ i) ∧ (i < (↑p.C.length : Int))) (.need (q) (.need ([(flL (p.C.getD i.toNat []))] = [(flL (p.C.getD i.toNat []))]) (.need (((0 : Int) ≤ i) ∧ ((i < (↑(p.V.length + (1 : Nat)) : Int)) ∧ ((0 : Nat) = (0 : Nat)))) (.need (((0 : Nat) = (0 : Nat)) ∧ ((i.toNat) < (List.length rcs))) (.leaf (Exit.normal, St.of 136 ((AObj.cells (0 : Nat) (repl p.V.length [AV.zs])) :: ((AObj.cells (0 : Nat) (setL rcs (i.toNat) [(I (IntKind.i64.wrap (intOf (rcs.getD (IntKind.i64.wrap (i + (1 : Int))).toNat AV.junk) + minL (p.C.getD i.toNat []))))])) :: ((AObj.cells (0 : Nat) [(flL (p.V)), (flLL (p.C)), (flR (p.R)), AV.zs, (I ((0 : Int))), AV.zs, (AV.ms (1 : Nat) (0 : Nat) (0 : Nat) (0 : Nat) (List.length (p.V)) (List.length (p.V))), (AV.ms (1 : Nat) (1 : Nat) (0 : Nat) (0 : Nat) (p.V.length + (1 : Nat)) (p.V.length + (1 : Nat)))]) :: Y))) [(1, (AV.row [(flL (p.V)), (flLL (p.C)), (flR (p.R))] (0 : Nat)), true), (2, AV.nilp, true), (3, (AV.ref (2 : Nat) (0 : Nat) (0 : Nat)), true), (4, (I (IntKind.i64.wrap (i - (1 : Int)))), true)]))))))))) (.leaf ((Exit.exit (0 : Nat)), St.of 136 ((AObj.cells (0 : Nat) (repl p.V.length [AV.zs])) :: ((AObj.cells (0 : Nat) rcs) :: ((AObj.cells (0 : Nat) [(flL (p.V)), (flLL (p.C)), (flR (p.R)), AV.zs, (I ((0 : Int))), AV.zs, (AV.ms (1 : Nat) (0 : Nat) (0 : Nat) (0 : Nat) (List.length (p.V)) (List.length (p.V))), (AV.ms (1 : Nat) (1 : Nat) (0 : Nat) (0 : Nat) (p.V.length + (1 : Nat)) (p.V.length + (1 : Nat)))]) :: Y))) [(1, (AV.row [(flL (p.V)), (flLL (p.C)), (flR (p.R))] (0 : Nat)), true), (2, AV.nilp, true), (3, (AV.ref (2 : Nat) (0 : Nat) (0 : Nat)), true), (4, (I i), true)])) := by kernel_rfl

/-! ### The heap while the rules are read -/
/-- ucs: the uses' cells; rcs: the rest's; lv, lo: what is left; X, Uo, Lo: the round's own variables; Y: the uses' places. -/
def hN (p : Pb) (ucs rcs : List AV) (lv : AV) (lo X Uo Lo : AObj) (Y : Heap) : Heap :=
  .cells 0 ucs :: .cells 0 rcs :: .cells 0 [flL p.V, flLL p.C, flR p.R, .zs, I 0, lv, .ms 1 0 0 0 p.V.length p.V.length, .ms 1 1 0 0 (p.V.length + 1) (p.V.length + 1)] :: lo :: X :: Uo :: Lo :: Y
/-- A variable is made at a place. -/
def hAlO (t : TypeId) (r : Nat) (z : List AV) : Heap → Oper → (Operand → Option AV) → Option (AV × Bool × Heap × Prop) := fun h o _ => match o.op with
  | .alloc t' => bif Nat.beq t' t then some (.ref r 0 0, true, h.set r (.cells 0 z), h[r]? = some .resv) else none
  | _ => none
theorem hAlO_ok {t : TypeId} (r : Nat) {z : List AV} (hz : (aZero Try.prog t).map AV.cells = some z) (h1 : z.all AV.one = true) (hb : ∀ n, ∀ x ∈ z, Below n x) : HintOk Try.prog G0 (hAlO t r z) := by
  refine ⟨fun h o a m y tg h' p hh hp => ?_, fun h o ρ y tg h' p hh hp hq => ?_⟩
  · unfold hAlO at hh
    split at hh <;> first | (cases hh; done) | skip
    rename_i t' ho
    cases ht : Nat.beq t' t with
    | false => rw [ht] at hh; cases hh
    | true =>
    rw [ht, cond_true] at hh
    obtain rfl := Nat.eq_of_beq_eq_true ht
    cases hh
    obtain ⟨zz, e1, e2⟩ := Option.map_eq_some_iff.1 hz
    refine AStep.slotR (AStep.op ?_) hp fun _ _ _ _ _ => hb _
    rw [aopR_eq]
    unfold aopR
    simp only [ho, aAlloc, e1, Option.bind_some, aBox, aNew, e2, h1, if_true]
  · unfold hAlO at hh
    split at hh <;> first | (cases hh; done) | skip
    rename_i t' ho
    exfalso
    revert hq
    unfold Am.quiet
    rw [ho]
    simp
/-- A value of one cell, loaded from an unknown place of the object r. -/
def hLdO (t : TypeId) (r : Nat) (v : AV) : Heap → Oper → (Operand → Option AV) → Option (AV × Bool × Heap × Prop) := fun h o ρ => match o.op with
  | .load t' x => bif Nat.beq t' t then (match ρ x with
    | some (.ref r' g off) => bif Nat.beq r' r then (match h[r]? with
      | some (.cells g' c) => some (v, true, h, g' = g ∧ c[off]? = some v)
      | _ => none) else none
    | _ => none) else none
  | _ => none
theorem hLdO_ok {t : TypeId} {d : TypeDesc} (r : Nat) (hu : Try.prog.underlying t = some d) (hd : aggD d = false) (v : AV) : HintA Try.prog (hLdO t r v) := by
  intro h o ρ y s h' p hh hp
  unfold hLdO at hh
  split at hh <;> first | (cases hh; done) | skip
  rename_i t' x ho
  cases ht : Nat.beq t' t with
  | false => rw [ht] at hh; cases hh
  | true =>
  rw [ht, cond_true] at hh
  obtain rfl := Nat.eq_of_beq_eq_true ht
  split at hh <;> first | (cases hh; done) | skip
  rename_i r' g off hx
  cases hr : Nat.beq r' r with
  | false => rw [hr] at hh; cases hh
  | true =>
  rw [hr, cond_true] at hh
  obtain rfl := Nat.eq_of_beq_eq_true hr
  split at hh <;> first | (cases hh; done) | skip
  rename_i g' c hc
  cases hh
  obtain ⟨rfl, hv⟩ := hp
  have hobj : objAt h r' g' = some c := by unfold objAt; rw [hc]; simp
  unfold aopR
  simp only [ho, hx, Option.bind_some, aLoad, hobj]
  unfold Am.cut
  rw [hu]
  simp only [hd, Bool.false_eq_true, if_false, hv, Option.map_some]
/-- Growing at a place among the uses'. -/
def hApY (t : TypeId) (s r : Nat) (row : List AV) (v v' : AV) (o o' : AObj) (h0 Y' : Heap) (g : Prop) : Heap → Oper → (Operand → Option AV) → Option (AV × Bool × Heap × Prop) := fun h oo ρ => match oo.op with
  | .call { callee := .builtin .append, args := args, argTypes := ts } => bif ts == #[t, t] then some (v', true, h.take 7 ++ Y', evAllR ρ args.toList = some [v, .sl s [row]] ∧ h = h0 ∧ g ∧ h0[r]? = some o ∧ h0.set r o' = h0.take 7 ++ Y') else none
  | _ => none
theorem hApY_ok {t e : TypeId} {s : Nat} (he : ElemS t e s) {r : Nat} {row : List AV} {v v' : AV} {o o' : AObj} {h0 Y' : Heap} {g : Prop} (hg : g → Grow s r row v v' o o') : HintOk Try.prog G0 (hApY t s r row v v' o o' h0 Y' g) := by
  refine ⟨fun h oo a m y tg h' p hh hp => ?_, fun h oo ρ y tg h' p hh hp hq => ?_⟩
  · unfold hApY at hh
    split at hh <;> first | (cases hh; done) | skip
    rename_i args ts ho
    cases hts : ts == #[t, t] with
    | false => rw [hts] at hh; cases hh
    | true =>
    rw [hts, cond_true] at hh
    cases hh
    obtain ⟨p1, rfl, p3, p2, p4⟩ := hp
    rw [← p4]
    refine (hApO_ok he hg).step h oo a m _ true _ (evAllR (ev G0 a) args.toList = some [v, .sl s [row]] ∧ h[r]? = some o ∧ g) ?_ ⟨p1, p2, p3⟩
    unfold hApO
    rw [ho]
    simp only [hts, cond_true]
  · unfold hApY at hh
    split at hh <;> first | (cases hh; done) | skip
    rename_i args ts ho
    exfalso
    revert hq
    unfold Am.quiet
    rw [ho]
    simp
/-- A list of one struct, told beforehand. -/
def hLitO (t : TypeId) (s : Nat) (row : List AV) : Heap → Oper → (Operand → Option AV) → Option (AV × Bool × Heap × Prop) := fun h o ρ => match o.op with
  | .buildSlice t' n ps => bif Nat.beq t' t && Nat.beq n 1 then some (.sl s [row], true, h, evPartsR ρ ps.toList = some [(0, .agg row)] ∧ row.length = s ∧ ∀ x ∈ row, x.one = true) else none
  | _ => none
theorem hLitO_ok {t e : TypeId} {s : Nat} (he : ElemS t e s) (hs : s ≤ 1000) (row : List AV) : HintA Try.prog (hLitO t s row) := by
  intro h o ρ y tg h' p hh hp
  unfold hLitO at hh
  split at hh <;> first | (cases hh; done) | skip
  rename_i t' n ps ho
  cases hb : Nat.beq t' t && Nat.beq n 1 with
  | false => rw [hb] at hh; cases hh
  | true =>
  rw [hb, cond_true] at hh
  obtain ⟨h1, h2⟩ := Bool.and_eq_true_iff.1 hb
  obtain rfl := Nat.eq_of_beq_eq_true h1
  obtain rfl := Nat.eq_of_beq_eq_true h2
  cases hh
  obtain ⟨p1, p2, p3⟩ := hp
  obtain ⟨ie, zx, e1, e2, e3, e4, e5, e6⟩ := he.i
  have hall : row.all AV.one = true := List.all_eq_true.2 p3
  unfold aopR
  simp only [ho, p1, Option.bind_some]
  unfold aLit
  rw [he.u]
  simp only [e1, e2, e3]
  rw [if_pos (by omega), if_neg (by omega)]
  unfold fillA
  have hc : (AV.agg row).cells = row := rfl
  simp only [hc]
  rw [if_pos ⟨p2, by simp [p2], hall⟩]
  unfold fillA
  have ht : row.take s = row := List.take_of_length_le (by omega)
  simp [setL, p2, chunk, ht]
/-! ### The weights of one variable -/
def stI (p : Pb) (ucs rcs : List AV) (lv : AV) (lo X : AObj) (r : Int) (ls : AV) (Lo : AObj) (Y : Heap) (left k v least : Int) (x : Rl) (w : List Int) (j : Int) : St :=
  .of 136 (hN p ucs rcs lv lo X (.cells 0 [I r, ls]) Lo Y) [(1, .row (pbC p) 0, true), (3, .ref 2 0 0, true), (5, I r, true), (6, .ref 4 0 0, true), (7, I left, true), (9, I v, true), (10, I least, true), (11, .ref 5 0 0, true), (56, flR p.R, true), (57, I p.R.length, true), (58, I r, true), (66, flL x.v, true), (67, I x.v.length, true), (68, I k, true), (88, flL w, true), (89, I w.length, true), (90, I j, true)]
def keepI : List Nat := [1, 3, 5, 6, 7, 9, 10, 11, 56, 57, 58, 66, 67, 68, 88, 89, 90]
def EI (n : Int) (ls ls' : AV) (Lo Lo' : AObj) (g : Prop) : Env := { boxRow := false, hint := orH (hApO 22 1 6 [I n] ls ls' Lo Lo' g) (hSto 22 5) }
theorem runI (g : Prop) (p : Pb) (ucs rcs : List AV) (lv : AV) (lo X : AObj) (r : Int) (ls ls' : AV) (Lo Lo' : AObj) (Y : Heap) (left k v least : Int) (x : Rl) (w : List Int) (j : Int) : xBody Try.prog G0 (EI (IntKind.i64.wrap (w.getD j.toNat 0 - least)) ls ls' Lo Lo' g) 200 noLoops keepI bodyI (stI p ucs rcs lv lo X r ls Lo Y left k v least x w j) = .ite (decide (j < (↑w.length : Int))) (.need (((0 : Int) ≤ j) ∧ (j < (↑w.length : Int))) (.need (((Option.some [ls, (AV.sl (1 : Nat) [[(I (IntKind.i64.wrap (w.getD j.toNat (0 : Int) - least)))]])]) = (Option.some [ls, (AV.sl (1 : Nat) [[(I (IntKind.i64.wrap (w.getD j.toNat (0 : Int) - least)))]])])) ∧ (((Option.some Lo) = (Option.some Lo)) ∧ (g))) (.need (((AV.one ls') = true) ∧ ((1 : Nat) < (2 : Nat))) (.leaf (Exit.normal, St.of 136 ((AObj.cells (0 : Nat) ucs) :: ((AObj.cells (0 : Nat) rcs) :: ((AObj.cells (0 : Nat) [(flL (p.V)), (flLL (p.C)), (flR (p.R)), AV.zs, (I ((0 : Int))), lv, (AV.ms (1 : Nat) (0 : Nat) (0 : Nat) (0 : Nat) (List.length (p.V)) (List.length (p.V))), (AV.ms (1 : Nat) (1 : Nat) (0 : Nat) (0 : Nat) (p.V.length + (1 : Nat)) (p.V.length + (1 : Nat)))]) :: (lo :: (X :: ((AObj.cells (0 : Nat) (setL [(I r), ls] (1 : Nat) [ls'])) :: (Lo' :: Y))))))) [(1, (AV.row [(flL (p.V)), (flLL (p.C)), (flR (p.R))] (0 : Nat)), true), (3, (AV.ref (2 : Nat) (0 : Nat) (0 : Nat)), true), (5, (I r), true), (6, (AV.ref (4 : Nat) (0 : Nat) (0 : Nat)), true), (7, (I left), true), (9, (I v), true), (10, (I least), true), (11, (AV.ref (5 : Nat) (0 : Nat) (0 : Nat)), true), (56, (flR (p.R)), true), (57, (I ((↑p.R.length : Int))), true), (58, (I r), true), (66, (flL (x.v)), true), (67, (I ((↑x.v.length : Int))), true), (68, (I k), true), (88, (flL (w)), true), (89, (I ((↑w.length : Int))), true), (90, (I (IntKind.i64.wrap (j + (1 : Int)))), true)]))))) (.leaf ((Exit.exit (6 : Nat)), St.of 136 ((AObj.cells (0 : Nat) ucs) :: ((AObj.cells (0 : Nat) rcs) :: ((AObj.cells (0 : Nat) [(flL (p.V)), (flLL (p.C)), (flR (p.R)), AV.zs, (I ((0 : Int))), lv, (AV.ms (1 : Nat) (0 : Nat) (0 : Nat) (0 : Nat) (List.length (p.V)) (List.length (p.V))), (AV.ms (1 : Nat) (1 : Nat) (0 : Nat) (0 : Nat) (p.V.length + (1 : Nat)) (p.V.length + (1 : Nat)))]) :: (lo :: (X :: ((AObj.cells (0 : Nat) [(I r), ls]) :: (Lo :: Y))))))) [(1, (AV.row [(flL (p.V)), (flLL (p.C)), (flR (p.R))] (0 : Nat)), true), (3, (AV.ref (2 : Nat) (0 : Nat) (0 : Nat)), true), (5, (I r), true), (6, (AV.ref (4 : Nat) (0 : Nat) (0 : Nat)), true), (7, (I left), true), (9, (I v), true), (10, (I least), true), (11, (AV.ref (5 : Nat) (0 : Nat) (0 : Nat)), true), (56, (flR (p.R)), true), (57, (I ((↑p.R.length : Int))), true), (58, (I r), true), (66, (flL (x.v)), true), (67, (I ((↑x.v.length : Int))), true), (68, (I k), true), (88, (flL (w)), true), (89, (I ((↑w.length : Int))), true), (90, (I j), true)])) := by kernel_rfl

/-! ### One variable of a rule -/
def stM (p : Pb) (ucs rcs : List AV) (lv : AV) (lo : AObj) (Uo Lo : AObj) (r : Int) (Y : Heap) (left k : Int) (x : Rl) : St :=
  .of 136 (hN p ucs rcs lv lo (.cells 0 (rlC x)) Uo Lo Y) [(1, .row (pbC p) 0, true), (3, .ref 2 0 0, true), (5, I r, true), (6, .ref 4 0 0, true), (7, I left, true), (56, flR p.R, true), (57, I p.R.length, true), (58, I r, true), (66, flL x.v, true), (67, I x.v.length, true), (68, I k, true)]
def keepM : List Nat := [1, 3, 5, 6, 7, 56, 57, 58, 66, 67, 68]
/-- Calls known by their arguments and the heap. -/
def clhK (f0 : FuncId) (xs : List AV) (v : AV) (h : Heap) : FuncId → List AV → Heap → Option (Tree (AV × Heap)) := fun f ys h0 => bif Nat.beq f f0 then some (.need (ys = xs ∧ h0 = h) (.leaf (v, h))) else some .fail
theorem clhK_ok {f0 : FuncId} {xs : List AV} {v : AV} {h : Heap} (hc : ACall Try.prog G0 f0 xs h v h) : ∀ f ys σ t u σ', clhK f0 xs v h f ys σ = some t → t.sel = some (u, σ') → ACall Try.prog G0 f ys σ u σ' := by
  intro f ys σ t u σ' hq hs
  unfold clhK at hq
  cases hf : Nat.beq f f0 with
  | false => rw [hf] at hq; cases hq; cases hs
  | true =>
    rw [hf, cond_true] at hq
    cases hq
    obtain ⟨⟨rfl, rfl⟩, h2⟩ := Tree.of_need hs
    cases h2
    obtain rfl := Nat.eq_of_beq_eq_true hf
    exact hc
def EM (w : List Int) (ls : AV) (mxv : Int) (h0 : Heap) (v r : Int) (uv uv' : AV) (uo uo' : AObj) (Y' : Heap) (g : Prop) : Env :=
  { boxRow := false, cl := (EG True [(36, [flL w], I (minL w))]).cl, clh := clhK 68 [ls] (I mxv) h0, hint := orH (hAlO 101 5 [I 0, .zs]) (orH (hLdO 102 0 uv) (orH (hApY 102 2 (7 + v.toNat) [I r, ls] uv uv' uo uo' h0 Y' g) (orH (hLitO 102 2 [I r, ls]) (hSto 102 0)))) }
noncomputable def mvM (h0 h1 h2 : Heap) : Nat → Option (List Nat × (Nat → Heap)) := fun id => bif Nat.beq id 22 then some ([14, 16], fun n => match n with
  | 0 => h0
  | 1 => h1
  | _ => h2) else none
theorem runV (g : Prop) (p : Pb) (ucs rcs : List AV) (lv : AV) (lo : AObj) (r : Int) (ls : AV) (Lo : AObj) (Y Y' : Heap) (left k : Int) (x : Rl) (mxv : Int) (uv uv' : AV) (uo uo' : AObj) : xBodyM Try.prog G0 (EM (x.w.getD k.toNat []) ls mxv (hN p ucs rcs lv lo (.cells 0 (rlC x)) (.cells 0 [I r, ls]) Lo Y) (x.v.getD k.toNat 0) r uv uv' uo uo' Y' g) (mvM (hN p ucs rcs lv lo (.cells 0 (rlC x)) (.cells 0 [I r, ls]) Lo Y) (hN p ucs rcs lv lo (.cells 0 (rlC x)) (.cells 0 [I r, ls]) Lo Y') (hN p (setL ucs (0 + (x.v.getD k.toNat 0).toNat * 1) [uv']) rcs lv lo (.cells 0 (rlC x)) (.cells 0 [I r, ls]) Lo Y')) 200 (lpB 17 keepI (stI p ucs rcs lv lo (.cells 0 (rlC x)) r .zs .resv Y (IntKind.i64.wrap (left - minL (x.w.getD k.toNat []))) k (x.v.getD k.toNat 0) (minL (x.w.getD k.toNat [])) x (x.w.getD k.toNat []) 0) (.exit 6) (stI p ucs rcs lv lo (.cells 0 (rlC x)) r ls Lo Y (IntKind.i64.wrap (left - minL (x.w.getD k.toNat []))) k (x.v.getD k.toNat 0) (minL (x.w.getD k.toNat [])) x (x.w.getD k.toNat []) (x.w.getD k.toNat []).length)) keepM bodyM (stM p ucs rcs lv lo .resv .resv r Y left k x) = .ite (decide (k < (↑x.v.length : Int))) (.need (((0 : Int) ≤ k) ∧ (k < (↑x.v.length : Int))) (.need (((0 : Int) ≤ k) ∧ (k < (↑x.w.length : Int))) (.need (True) (.need ([(flL (x.w.getD k.toNat []))] = [(flL (x.w.getD k.toNat []))]) (.need ((Option.some AObj.resv) = (Option.some AObj.resv)) (.need (((0 : Int) ≤ k) ∧ (k < (↑x.w.length : Int))) (.need ((stI p ucs rcs lv lo (.cells 0 (rlC x)) r .zs .resv Y (IntKind.i64.wrap (left - minL (x.w.getD k.toNat []))) k (x.v.getD k.toNat 0) (minL (x.w.getD k.toNat [])) x (x.w.getD k.toNat []) 0).vals = (stI p ucs rcs lv lo (.cells 0 (rlC x)) r .zs .resv Y (IntKind.i64.wrap (left - minL (x.w.getD k.toNat []))) k (x.v.getD k.toNat 0) (minL (x.w.getD k.toNat [])) x (x.w.getD k.toNat []) 0).vals) (.need (([ls] = [ls]) ∧ (((AObj.cells (0 : Nat) ucs) :: ((AObj.cells (0 : Nat) rcs) :: ((AObj.cells (0 : Nat) [(flL (p.V)), (flLL (p.C)), (flR (p.R)), AV.zs, (I ((0 : Int))), lv, (AV.ms (1 : Nat) (0 : Nat) (0 : Nat) (0 : Nat) (List.length (p.V)) (List.length (p.V))), (AV.ms (1 : Nat) (1 : Nat) (0 : Nat) (0 : Nat) (p.V.length + (1 : Nat)) (p.V.length + (1 : Nat)))]) :: (lo :: ((AObj.cells (0 : Nat) [(I (x.d)), (flL (x.v)), (flLL (x.w)), (I (x.m))]) :: ((AObj.cells (0 : Nat) [(I r), ls]) :: (Lo :: Y))))))) = ((AObj.cells (0 : Nat) ucs) :: ((AObj.cells (0 : Nat) rcs) :: ((AObj.cells (0 : Nat) [(flL (p.V)), (flLL (p.C)), (flR (p.R)), AV.zs, (I ((0 : Int))), lv, (AV.ms (1 : Nat) (0 : Nat) (0 : Nat) (0 : Nat) (List.length (p.V)) (List.length (p.V))), (AV.ms (1 : Nat) (1 : Nat) (0 : Nat) (0 : Nat) (p.V.length + (1 : Nat)) (p.V.length + (1 : Nat)))]) :: (lo :: ((AObj.cells (0 : Nat) [(I (x.d)), (flL (x.v)), (flLL (x.w)), (I (x.m))]) :: ((AObj.cells (0 : Nat) [(I r), ls]) :: (Lo :: Y))))))))) (.ite (decide (mxv > (0 : Int))) (.need (((AObj.cells (0 : Nat) ucs) :: ((AObj.cells (0 : Nat) rcs) :: ((AObj.cells (0 : Nat) [(flL (p.V)), (flLL (p.C)), (flR (p.R)), AV.zs, (I ((0 : Int))), lv, (AV.ms (1 : Nat) (0 : Nat) (0 : Nat) (0 : Nat) (List.length (p.V)) (List.length (p.V))), (AV.ms (1 : Nat) (1 : Nat) (0 : Nat) (0 : Nat) (p.V.length + (1 : Nat)) (p.V.length + (1 : Nat)))]) :: (lo :: ((AObj.cells (0 : Nat) [(I (x.d)), (flL (x.v)), (flLL (x.w)), (I (x.m))]) :: ((AObj.cells (0 : Nat) [(I r), ls]) :: (Lo :: Y))))))) = ((AObj.cells (0 : Nat) ucs) :: ((AObj.cells (0 : Nat) rcs) :: ((AObj.cells (0 : Nat) [(flL (p.V)), (flLL (p.C)), (flR (p.R)), AV.zs, (I ((0 : Int))), lv, (AV.ms (1 : Nat) (0 : Nat) (0 : Nat) (0 : Nat) (List.length (p.V)) (List.length (p.V))), (AV.ms (1 : Nat) (1 : Nat) (0 : Nat) (0 : Nat) (p.V.length + (1 : Nat)) (p.V.length + (1 : Nat)))]) :: (lo :: ((AObj.cells (0 : Nat) [(I (x.d)), (flL (x.v)), (flLL (x.w)), (I (x.m))]) :: ((AObj.cells (0 : Nat) [(I r), ls]) :: (Lo :: Y)))))))) (.need (((AObj.cells (0 : Nat) ucs) :: ((AObj.cells (0 : Nat) rcs) :: ((AObj.cells (0 : Nat) [(flL (p.V)), (flLL (p.C)), (flR (p.R)), AV.zs, (I ((0 : Int))), lv, (AV.ms (1 : Nat) (0 : Nat) (0 : Nat) (0 : Nat) (List.length (p.V)) (List.length (p.V))), (AV.ms (1 : Nat) (1 : Nat) (0 : Nat) (0 : Nat) (p.V.length + (1 : Nat)) (p.V.length + (1 : Nat)))]) :: (lo :: ((AObj.cells (0 : Nat) [(I (x.d)), (flL (x.v)), (flLL (x.w)), (I (x.m))]) :: ((AObj.cells (0 : Nat) [(I r), ls]) :: (Lo :: Y))))))) = ((AObj.cells (0 : Nat) ucs) :: ((AObj.cells (0 : Nat) rcs) :: ((AObj.cells (0 : Nat) [(flL (p.V)), (flLL (p.C)), (flR (p.R)), AV.zs, (I ((0 : Int))), lv, (AV.ms (1 : Nat) (0 : Nat) (0 : Nat) (0 : Nat) (List.length (p.V)) (List.length (p.V))), (AV.ms (1 : Nat) (1 : Nat) (0 : Nat) (0 : Nat) (p.V.length + (1 : Nat)) (p.V.length + (1 : Nat)))]) :: (lo :: ((AObj.cells (0 : Nat) [(I (x.d)), (flL (x.v)), (flLL (x.w)), (I (x.m))]) :: ((AObj.cells (0 : Nat) [(I r), ls]) :: (Lo :: Y)))))))) (.need (((AV.ref (2 : Nat) (0 : Nat) (0 : Nat)) = (AV.ref (2 : Nat) (0 : Nat) (0 : Nat))) ∧ (((AObj.cells (0 : Nat) ucs) :: ((AObj.cells (0 : Nat) rcs) :: ((AObj.cells (0 : Nat) [(flL (p.V)), (flLL (p.C)), (flR (p.R)), AV.zs, (I ((0 : Int))), lv, (AV.ms (1 : Nat) (0 : Nat) (0 : Nat) (0 : Nat) (List.length (p.V)) (List.length (p.V))), (AV.ms (1 : Nat) (1 : Nat) (0 : Nat) (0 : Nat) (p.V.length + (1 : Nat)) (p.V.length + (1 : Nat)))]) :: (lo :: ((AObj.cells (0 : Nat) [(I (x.d)), (flL (x.v)), (flLL (x.w)), (I (x.m))]) :: ((AObj.cells (0 : Nat) [(I r), ls]) :: (Lo :: Y'))))))) = ((AObj.cells (0 : Nat) ucs) :: ((AObj.cells (0 : Nat) rcs) :: ((AObj.cells (0 : Nat) [(flL (p.V)), (flLL (p.C)), (flR (p.R)), AV.zs, (I ((0 : Int))), lv, (AV.ms (1 : Nat) (0 : Nat) (0 : Nat) (0 : Nat) (List.length (p.V)) (List.length (p.V))), (AV.ms (1 : Nat) (1 : Nat) (0 : Nat) (0 : Nat) (p.V.length + (1 : Nat)) (p.V.length + (1 : Nat)))]) :: (lo :: ((AObj.cells (0 : Nat) [(I (x.d)), (flL (x.v)), (flLL (x.w)), (I (x.m))]) :: ((AObj.cells (0 : Nat) [(I r), ls]) :: (Lo :: Y'))))))))) (.need (((AObj.cells (0 : Nat) ucs) :: ((AObj.cells (0 : Nat) rcs) :: ((AObj.cells (0 : Nat) [(flL (p.V)), (flLL (p.C)), (flR (p.R)), AV.zs, (I ((0 : Int))), lv, (AV.ms (1 : Nat) (0 : Nat) (0 : Nat) (0 : Nat) (List.length (p.V)) (List.length (p.V))), (AV.ms (1 : Nat) (1 : Nat) (0 : Nat) (0 : Nat) (p.V.length + (1 : Nat)) (p.V.length + (1 : Nat)))]) :: (lo :: ((AObj.cells (0 : Nat) [(I (x.d)), (flL (x.v)), (flLL (x.w)), (I (x.m))]) :: ((AObj.cells (0 : Nat) [(I r), ls]) :: (Lo :: Y))))))) = ((AObj.cells (0 : Nat) ucs) :: ((AObj.cells (0 : Nat) rcs) :: ((AObj.cells (0 : Nat) [(flL (p.V)), (flLL (p.C)), (flR (p.R)), AV.zs, (I ((0 : Int))), lv, (AV.ms (1 : Nat) (0 : Nat) (0 : Nat) (0 : Nat) (List.length (p.V)) (List.length (p.V))), (AV.ms (1 : Nat) (1 : Nat) (0 : Nat) (0 : Nat) (p.V.length + (1 : Nat)) (p.V.length + (1 : Nat)))]) :: (lo :: ((AObj.cells (0 : Nat) [(I (x.d)), (flL (x.v)), (flLL (x.w)), (I (x.m))]) :: ((AObj.cells (0 : Nat) [(I r), ls]) :: (Lo :: Y)))))))) (.need (((AV.ref (2 : Nat) (0 : Nat) (0 : Nat)) = (AV.ref (2 : Nat) (0 : Nat) (0 : Nat))) ∧ (((AObj.cells (0 : Nat) ucs) :: ((AObj.cells (0 : Nat) rcs) :: ((AObj.cells (0 : Nat) [(flL (p.V)), (flLL (p.C)), (flR (p.R)), AV.zs, (I ((0 : Int))), lv, (AV.ms (1 : Nat) (0 : Nat) (0 : Nat) (0 : Nat) (List.length (p.V)) (List.length (p.V))), (AV.ms (1 : Nat) (1 : Nat) (0 : Nat) (0 : Nat) (p.V.length + (1 : Nat)) (p.V.length + (1 : Nat)))]) :: (lo :: ((AObj.cells (0 : Nat) [(I (x.d)), (flL (x.v)), (flLL (x.w)), (I (x.m))]) :: ((AObj.cells (0 : Nat) [(I r), ls]) :: (Lo :: Y'))))))) = ((AObj.cells (0 : Nat) ucs) :: ((AObj.cells (0 : Nat) rcs) :: ((AObj.cells (0 : Nat) [(flL (p.V)), (flLL (p.C)), (flR (p.R)), AV.zs, (I ((0 : Int))), lv, (AV.ms (1 : Nat) (0 : Nat) (0 : Nat) (0 : Nat) (List.length (p.V)) (List.length (p.V))), (AV.ms (1 : Nat) (1 : Nat) (0 : Nat) (0 : Nat) (p.V.length + (1 : Nat)) (p.V.length + (1 : Nat)))]) :: (lo :: ((AObj.cells (0 : Nat) [(I (x.d)), (flL (x.v)), (flLL (x.w)), (I (x.m))]) :: ((AObj.cells (0 : Nat) [(I r), ls]) :: (Lo :: Y'))))))))) (.need (((AObj.cells (0 : Nat) ucs) :: ((AObj.cells (0 : Nat) rcs) :: ((AObj.cells (0 : Nat) [(flL (p.V)), (flLL (p.C)), (flR (p.R)), AV.zs, (I ((0 : Int))), lv, (AV.ms (1 : Nat) (0 : Nat) (0 : Nat) (0 : Nat) (List.length (p.V)) (List.length (p.V))), (AV.ms (1 : Nat) (1 : Nat) (0 : Nat) (0 : Nat) (p.V.length + (1 : Nat)) (p.V.length + (1 : Nat)))]) :: (lo :: ((AObj.cells (0 : Nat) [(I (x.d)), (flL (x.v)), (flLL (x.w)), (I (x.m))]) :: ((AObj.cells (0 : Nat) [(I r), ls]) :: (Lo :: Y))))))) = ((AObj.cells (0 : Nat) ucs) :: ((AObj.cells (0 : Nat) rcs) :: ((AObj.cells (0 : Nat) [(flL (p.V)), (flLL (p.C)), (flR (p.R)), AV.zs, (I ((0 : Int))), lv, (AV.ms (1 : Nat) (0 : Nat) (0 : Nat) (0 : Nat) (List.length (p.V)) (List.length (p.V))), (AV.ms (1 : Nat) (1 : Nat) (0 : Nat) (0 : Nat) (p.V.length + (1 : Nat)) (p.V.length + (1 : Nat)))]) :: (lo :: ((AObj.cells (0 : Nat) [(I (x.d)), (flL (x.v)), (flLL (x.w)), (I (x.m))]) :: ((AObj.cells (0 : Nat) [(I r), ls]) :: (Lo :: Y)))))))) (.need (((AV.ref (2 : Nat) (0 : Nat) (6 : Nat)) = (AV.ref (2 : Nat) (0 : Nat) (6 : Nat))) ∧ (((AObj.cells (0 : Nat) ucs) :: ((AObj.cells (0 : Nat) rcs) :: ((AObj.cells (0 : Nat) [(flL (p.V)), (flLL (p.C)), (flR (p.R)), AV.zs, (I ((0 : Int))), lv, (AV.ms (1 : Nat) (0 : Nat) (0 : Nat) (0 : Nat) (List.length (p.V)) (List.length (p.V))), (AV.ms (1 : Nat) (1 : Nat) (0 : Nat) (0 : Nat) (p.V.length + (1 : Nat)) (p.V.length + (1 : Nat)))]) :: (lo :: ((AObj.cells (0 : Nat) [(I (x.d)), (flL (x.v)), (flLL (x.w)), (I (x.m))]) :: ((AObj.cells (0 : Nat) [(I r), ls]) :: (Lo :: Y'))))))) = ((AObj.cells (0 : Nat) ucs) :: ((AObj.cells (0 : Nat) rcs) :: ((AObj.cells (0 : Nat) [(flL (p.V)), (flLL (p.C)), (flR (p.R)), AV.zs, (I ((0 : Int))), lv, (AV.ms (1 : Nat) (0 : Nat) (0 : Nat) (0 : Nat) (List.length (p.V)) (List.length (p.V))), (AV.ms (1 : Nat) (1 : Nat) (0 : Nat) (0 : Nat) (p.V.length + (1 : Nat)) (p.V.length + (1 : Nat)))]) :: (lo :: ((AObj.cells (0 : Nat) [(I (x.d)), (flL (x.v)), (flLL (x.w)), (I (x.m))]) :: ((AObj.cells (0 : Nat) [(I r), ls]) :: (Lo :: Y'))))))))) (.need (((AObj.cells (0 : Nat) ucs) :: ((AObj.cells (0 : Nat) rcs) :: ((AObj.cells (0 : Nat) [(flL (p.V)), (flLL (p.C)), (flR (p.R)), AV.zs, (I ((0 : Int))), lv, (AV.ms (1 : Nat) (0 : Nat) (0 : Nat) (0 : Nat) (List.length (p.V)) (List.length (p.V))), (AV.ms (1 : Nat) (1 : Nat) (0 : Nat) (0 : Nat) (p.V.length + (1 : Nat)) (p.V.length + (1 : Nat)))]) :: (lo :: ((AObj.cells (0 : Nat) [(I (x.d)), (flL (x.v)), (flLL (x.w)), (I (x.m))]) :: ((AObj.cells (0 : Nat) [(I r), ls]) :: (Lo :: Y))))))) = ((AObj.cells (0 : Nat) ucs) :: ((AObj.cells (0 : Nat) rcs) :: ((AObj.cells (0 : Nat) [(flL (p.V)), (flLL (p.C)), (flR (p.R)), AV.zs, (I ((0 : Int))), lv, (AV.ms (1 : Nat) (0 : Nat) (0 : Nat) (0 : Nat) (List.length (p.V)) (List.length (p.V))), (AV.ms (1 : Nat) (1 : Nat) (0 : Nat) (0 : Nat) (p.V.length + (1 : Nat)) (p.V.length + (1 : Nat)))]) :: (lo :: ((AObj.cells (0 : Nat) [(I (x.d)), (flL (x.v)), (flLL (x.w)), (I (x.m))]) :: ((AObj.cells (0 : Nat) [(I r), ls]) :: (Lo :: Y)))))))) (.need (((AV.ms (1 : Nat) (0 : Nat) (0 : Nat) (0 : Nat) (List.length (p.V)) (List.length (p.V))) = (AV.ms (1 : Nat) (0 : Nat) (0 : Nat) (0 : Nat) (List.length (p.V)) (List.length (p.V)))) ∧ (((AObj.cells (0 : Nat) ucs) :: ((AObj.cells (0 : Nat) rcs) :: ((AObj.cells (0 : Nat) [(flL (p.V)), (flLL (p.C)), (flR (p.R)), AV.zs, (I ((0 : Int))), lv, (AV.ms (1 : Nat) (0 : Nat) (0 : Nat) (0 : Nat) (List.length (p.V)) (List.length (p.V))), (AV.ms (1 : Nat) (1 : Nat) (0 : Nat) (0 : Nat) (p.V.length + (1 : Nat)) (p.V.length + (1 : Nat)))]) :: (lo :: ((AObj.cells (0 : Nat) [(I (x.d)), (flL (x.v)), (flLL (x.w)), (I (x.m))]) :: ((AObj.cells (0 : Nat) [(I r), ls]) :: (Lo :: Y'))))))) = ((AObj.cells (0 : Nat) ucs) :: ((AObj.cells (0 : Nat) rcs) :: ((AObj.cells (0 : Nat) [(flL (p.V)), (flLL (p.C)), (flR (p.R)), AV.zs, (I ((0 : Int))), lv, (AV.ms (1 : Nat) (0 : Nat) (0 : Nat) (0 : Nat) (List.length (p.V)) (List.length (p.V))), (AV.ms (1 : Nat) (1 : Nat) (0 : Nat) (0 : Nat) (p.V.length + (1 : Nat)) (p.V.length + (1 : Nat)))]) :: (lo :: ((AObj.cells (0 : Nat) [(I (x.d)), (flL (x.v)), (flLL (x.w)), (I (x.m))]) :: ((AObj.cells (0 : Nat) [(I r), ls]) :: (Lo :: Y'))))))))) (.need (((AObj.cells (0 : Nat) ucs) :: ((AObj.cells (0 : Nat) rcs) :: ((AObj.cells (0 : Nat) [(flL (p.V)), (flLL (p.C)), (flR (p.R)), AV.zs, (I ((0 : Int))), lv, (AV.ms (1 : Nat) (0 : Nat) (0 : Nat) (0 : Nat) (List.length (p.V)) (List.length (p.V))), (AV.ms (1 : Nat) (1 : Nat) (0 : Nat) (0 : Nat) (p.V.length + (1 : Nat)) (p.V.length + (1 : Nat)))]) :: (lo :: ((AObj.cells (0 : Nat) [(I (x.d)), (flL (x.v)), (flLL (x.w)), (I (x.m))]) :: ((AObj.cells (0 : Nat) [(I r), ls]) :: (Lo :: Y))))))) = ((AObj.cells (0 : Nat) ucs) :: ((AObj.cells (0 : Nat) rcs) :: ((AObj.cells (0 : Nat) [(flL (p.V)), (flLL (p.C)), (flR (p.R)), AV.zs, (I ((0 : Int))), lv, (AV.ms (1 : Nat) (0 : Nat) (0 : Nat) (0 : Nat) (List.length (p.V)) (List.length (p.V))), (AV.ms (1 : Nat) (1 : Nat) (0 : Nat) (0 : Nat) (p.V.length + (1 : Nat)) (p.V.length + (1 : Nat)))]) :: (lo :: ((AObj.cells (0 : Nat) [(I (x.d)), (flL (x.v)), (flLL (x.w)), (I (x.m))]) :: ((AObj.cells (0 : Nat) [(I r), ls]) :: (Lo :: Y)))))))) (.need (((I (x.v.getD k.toNat (0 : Int))) = (I (x.v.getD k.toNat (0 : Int)))) ∧ (((AObj.cells (0 : Nat) ucs) :: ((AObj.cells (0 : Nat) rcs) :: ((AObj.cells (0 : Nat) [(flL (p.V)), (flLL (p.C)), (flR (p.R)), AV.zs, (I ((0 : Int))), lv, (AV.ms (1 : Nat) (0 : Nat) (0 : Nat) (0 : Nat) (List.length (p.V)) (List.length (p.V))), (AV.ms (1 : Nat) (1 : Nat) (0 : Nat) (0 : Nat) (p.V.length + (1 : Nat)) (p.V.length + (1 : Nat)))]) :: (lo :: ((AObj.cells (0 : Nat) [(I (x.d)), (flL (x.v)), (flLL (x.w)), (I (x.m))]) :: ((AObj.cells (0 : Nat) [(I r), ls]) :: (Lo :: Y'))))))) = ((AObj.cells (0 : Nat) ucs) :: ((AObj.cells (0 : Nat) rcs) :: ((AObj.cells (0 : Nat) [(flL (p.V)), (flLL (p.C)), (flR (p.R)), AV.zs, (I ((0 : Int))), lv, (AV.ms (1 : Nat) (0 : Nat) (0 : Nat) (0 : Nat) (List.length (p.V)) (List.length (p.V))), (AV.ms (1 : Nat) (1 : Nat) (0 : Nat) (0 : Nat) (p.V.length + (1 : Nat)) (p.V.length + (1 : Nat)))]) :: (lo :: ((AObj.cells (0 : Nat) [(I (x.d)), (flL (x.v)), (flLL (x.w)), (I (x.m))]) :: ((AObj.cells (0 : Nat) [(I r), ls]) :: (Lo :: Y'))))))))) (.need (((AObj.cells (0 : Nat) ucs) :: ((AObj.cells (0 : Nat) rcs) :: ((AObj.cells (0 : Nat) [(flL (p.V)), (flLL (p.C)), (flR (p.R)), AV.zs, (I ((0 : Int))), lv, (AV.ms (1 : Nat) (0 : Nat) (0 : Nat) (0 : Nat) (List.length (p.V)) (List.length (p.V))), (AV.ms (1 : Nat) (1 : Nat) (0 : Nat) (0 : Nat) (p.V.length + (1 : Nat)) (p.V.length + (1 : Nat)))]) :: (lo :: ((AObj.cells (0 : Nat) [(I (x.d)), (flL (x.v)), (flLL (x.w)), (I (x.m))]) :: ((AObj.cells (0 : Nat) [(I r), ls]) :: (Lo :: Y))))))) = ((AObj.cells (0 : Nat) ucs) :: ((AObj.cells (0 : Nat) rcs) :: ((AObj.cells (0 : Nat) [(flL (p.V)), (flLL (p.C)), (flR (p.R)), AV.zs, (I ((0 : Int))), lv, (AV.ms (1 : Nat) (0 : Nat) (0 : Nat) (0 : Nat) (List.length (p.V)) (List.length (p.V))), (AV.ms (1 : Nat) (1 : Nat) (0 : Nat) (0 : Nat) (p.V.length + (1 : Nat)) (p.V.length + (1 : Nat)))]) :: (lo :: ((AObj.cells (0 : Nat) [(I (x.d)), (flL (x.v)), (flLL (x.w)), (I (x.m))]) :: ((AObj.cells (0 : Nat) [(I r), ls]) :: (Lo :: Y)))))))) (.need (((AObj.cells (0 : Nat) ucs) :: ((AObj.cells (0 : Nat) rcs) :: ((AObj.cells (0 : Nat) [(flL (p.V)), (flLL (p.C)), (flR (p.R)), AV.zs, (I ((0 : Int))), lv, (AV.ms (1 : Nat) (0 : Nat) (0 : Nat) (0 : Nat) (List.length (p.V)) (List.length (p.V))), (AV.ms (1 : Nat) (1 : Nat) (0 : Nat) (0 : Nat) (p.V.length + (1 : Nat)) (p.V.length + (1 : Nat)))]) :: (lo :: ((AObj.cells (0 : Nat) [(I (x.d)), (flL (x.v)), (flLL (x.w)), (I (x.m))]) :: ((AObj.cells (0 : Nat) [(I r), ls]) :: (Lo :: Y))))))) = ((AObj.cells (0 : Nat) ucs) :: ((AObj.cells (0 : Nat) rcs) :: ((AObj.cells (0 : Nat) [(flL (p.V)), (flLL (p.C)), (flR (p.R)), AV.zs, (I ((0 : Int))), lv, (AV.ms (1 : Nat) (0 : Nat) (0 : Nat) (0 : Nat) (List.length (p.V)) (List.length (p.V))), (AV.ms (1 : Nat) (1 : Nat) (0 : Nat) (0 : Nat) (p.V.length + (1 : Nat)) (p.V.length + (1 : Nat)))]) :: (lo :: ((AObj.cells (0 : Nat) [(I (x.d)), (flL (x.v)), (flLL (x.w)), (I (x.m))]) :: ((AObj.cells (0 : Nat) [(I r), ls]) :: (Lo :: Y)))))))) (.need (((AObj.cells (0 : Nat) ucs) :: ((AObj.cells (0 : Nat) rcs) :: ((AObj.cells (0 : Nat) [(flL (p.V)), (flLL (p.C)), (flR (p.R)), AV.zs, (I ((0 : Int))), lv, (AV.ms (1 : Nat) (0 : Nat) (0 : Nat) (0 : Nat) (List.length (p.V)) (List.length (p.V))), (AV.ms (1 : Nat) (1 : Nat) (0 : Nat) (0 : Nat) (p.V.length + (1 : Nat)) (p.V.length + (1 : Nat)))]) :: (lo :: ((AObj.cells (0 : Nat) [(I (x.d)), (flL (x.v)), (flLL (x.w)), (I (x.m))]) :: ((AObj.cells (0 : Nat) [(I r), ls]) :: (Lo :: Y))))))) = ((AObj.cells (0 : Nat) ucs) :: ((AObj.cells (0 : Nat) rcs) :: ((AObj.cells (0 : Nat) [(flL (p.V)), (flLL (p.C)), (flR (p.R)), AV.zs, (I ((0 : Int))), lv, (AV.ms (1 : Nat) (0 : Nat) (0 : Nat) (0 : Nat) (List.length (p.V)) (List.length (p.V))), (AV.ms (1 : Nat) (1 : Nat) (0 : Nat) (0 : Nat) (p.V.length + (1 : Nat)) (p.V.length + (1 : Nat)))]) :: (lo :: ((AObj.cells (0 : Nat) [(I (x.d)), (flL (x.v)), (flLL (x.w)), (I (x.m))]) :: ((AObj.cells (0 : Nat) [(I r), ls]) :: (Lo :: Y)))))))) (.need (((AObj.cells (0 : Nat) ucs) :: ((AObj.cells (0 : Nat) rcs) :: ((AObj.cells (0 : Nat) [(flL (p.V)), (flLL (p.C)), (flR (p.R)), AV.zs, (I ((0 : Int))), lv, (AV.ms (1 : Nat) (0 : Nat) (0 : Nat) (0 : Nat) (List.length (p.V)) (List.length (p.V))), (AV.ms (1 : Nat) (1 : Nat) (0 : Nat) (0 : Nat) (p.V.length + (1 : Nat)) (p.V.length + (1 : Nat)))]) :: (lo :: ((AObj.cells (0 : Nat) [(I (x.d)), (flL (x.v)), (flLL (x.w)), (I (x.m))]) :: ((AObj.cells (0 : Nat) [(I r), ls]) :: (Lo :: Y))))))) = ((AObj.cells (0 : Nat) ucs) :: ((AObj.cells (0 : Nat) rcs) :: ((AObj.cells (0 : Nat) [(flL (p.V)), (flLL (p.C)), (flR (p.R)), AV.zs, (I ((0 : Int))), lv, (AV.ms (1 : Nat) (0 : Nat) (0 : Nat) (0 : Nat) (List.length (p.V)) (List.length (p.V))), (AV.ms (1 : Nat) (1 : Nat) (0 : Nat) (0 : Nat) (p.V.length + (1 : Nat)) (p.V.length + (1 : Nat)))]) :: (lo :: ((AObj.cells (0 : Nat) [(I (x.d)), (flL (x.v)), (flLL (x.w)), (I (x.m))]) :: ((AObj.cells (0 : Nat) [(I r), ls]) :: (Lo :: Y)))))))) (.need (((AObj.cells (0 : Nat) ucs) :: ((AObj.cells (0 : Nat) rcs) :: ((AObj.cells (0 : Nat) [(flL (p.V)), (flLL (p.C)), (flR (p.R)), AV.zs, (I ((0 : Int))), lv, (AV.ms (1 : Nat) (0 : Nat) (0 : Nat) (0 : Nat) (List.length (p.V)) (List.length (p.V))), (AV.ms (1 : Nat) (1 : Nat) (0 : Nat) (0 : Nat) (p.V.length + (1 : Nat)) (p.V.length + (1 : Nat)))]) :: (lo :: ((AObj.cells (0 : Nat) [(I (x.d)), (flL (x.v)), (flLL (x.w)), (I (x.m))]) :: ((AObj.cells (0 : Nat) [(I r), ls]) :: (Lo :: Y))))))) = ((AObj.cells (0 : Nat) ucs) :: ((AObj.cells (0 : Nat) rcs) :: ((AObj.cells (0 : Nat) [(flL (p.V)), (flLL (p.C)), (flR (p.R)), AV.zs, (I ((0 : Int))), lv, (AV.ms (1 : Nat) (0 : Nat) (0 : Nat) (0 : Nat) (List.length (p.V)) (List.length (p.V))), (AV.ms (1 : Nat) (1 : Nat) (0 : Nat) (0 : Nat) (p.V.length + (1 : Nat)) (p.V.length + (1 : Nat)))]) :: (lo :: ((AObj.cells (0 : Nat) [(I (x.d)), (flL (x.v)), (flLL (x.w)), (I (x.m))]) :: ((AObj.cells (0 : Nat) [(I r), ls]) :: (Lo :: Y)))))))) (.need (((0 : Int) ≤ x.v.getD k.toNat (0 : Int)) ∧ ((x.v.getD k.toNat (0 : Int) < (↑p.V.length : Int)) ∧ (true = true))) (.need (((AObj.cells (0 : Nat) ucs) :: ((AObj.cells (0 : Nat) rcs) :: ((AObj.cells (0 : Nat) [(flL (p.V)), (flLL (p.C)), (flR (p.R)), AV.zs, (I ((0 : Int))), lv, (AV.ms (1 : Nat) (0 : Nat) (0 : Nat) (0 : Nat) (List.length (p.V)) (List.length (p.V))), (AV.ms (1 : Nat) (1 : Nat) (0 : Nat) (0 : Nat) (p.V.length + (1 : Nat)) (p.V.length + (1 : Nat)))]) :: (lo :: ((AObj.cells (0 : Nat) [(I (x.d)), (flL (x.v)), (flLL (x.w)), (I (x.m))]) :: ((AObj.cells (0 : Nat) [(I r), ls]) :: (Lo :: Y))))))) = ((AObj.cells (0 : Nat) ucs) :: ((AObj.cells (0 : Nat) rcs) :: ((AObj.cells (0 : Nat) [(flL (p.V)), (flLL (p.C)), (flR (p.R)), AV.zs, (I ((0 : Int))), lv, (AV.ms (1 : Nat) (0 : Nat) (0 : Nat) (0 : Nat) (List.length (p.V)) (List.length (p.V))), (AV.ms (1 : Nat) (1 : Nat) (0 : Nat) (0 : Nat) (p.V.length + (1 : Nat)) (p.V.length + (1 : Nat)))]) :: (lo :: ((AObj.cells (0 : Nat) [(I (x.d)), (flL (x.v)), (flLL (x.w)), (I (x.m))]) :: ((AObj.cells (0 : Nat) [(I r), ls]) :: (Lo :: Y)))))))) (.need (((0 : Nat) = (0 : Nat)) ∧ ((ucs[(0 : Nat) + (x.v.getD k.toNat (0 : Int)).toNat * (1 : Nat)]?) = (Option.some uv))) (.need (((AObj.cells (0 : Nat) ucs) :: ((AObj.cells (0 : Nat) rcs) :: ((AObj.cells (0 : Nat) [(flL (p.V)), (flLL (p.C)), (flR (p.R)), AV.zs, (I ((0 : Int))), lv, (AV.ms (1 : Nat) (0 : Nat) (0 : Nat) (0 : Nat) (List.length (p.V)) (List.length (p.V))), (AV.ms (1 : Nat) (1 : Nat) (0 : Nat) (0 : Nat) (p.V.length + (1 : Nat)) (p.V.length + (1 : Nat)))]) :: (lo :: ((AObj.cells (0 : Nat) [(I (x.d)), (flL (x.v)), (flLL (x.w)), (I (x.m))]) :: ((AObj.cells (0 : Nat) [(I r), ls]) :: (Lo :: Y))))))) = ((AObj.cells (0 : Nat) ucs) :: ((AObj.cells (0 : Nat) rcs) :: ((AObj.cells (0 : Nat) [(flL (p.V)), (flLL (p.C)), (flR (p.R)), AV.zs, (I ((0 : Int))), lv, (AV.ms (1 : Nat) (0 : Nat) (0 : Nat) (0 : Nat) (List.length (p.V)) (List.length (p.V))), (AV.ms (1 : Nat) (1 : Nat) (0 : Nat) (0 : Nat) (p.V.length + (1 : Nat)) (p.V.length + (1 : Nat)))]) :: (lo :: ((AObj.cells (0 : Nat) [(I (x.d)), (flL (x.v)), (flLL (x.w)), (I (x.m))]) :: ((AObj.cells (0 : Nat) [(I r), ls]) :: (Lo :: Y)))))))) (.need (((AObj.cells (0 : Nat) ucs) :: ((AObj.cells (0 : Nat) rcs) :: ((AObj.cells (0 : Nat) [(flL (p.V)), (flLL (p.C)), (flR (p.R)), AV.zs, (I ((0 : Int))), lv, (AV.ms (1 : Nat) (0 : Nat) (0 : Nat) (0 : Nat) (List.length (p.V)) (List.length (p.V))), (AV.ms (1 : Nat) (1 : Nat) (0 : Nat) (0 : Nat) (p.V.length + (1 : Nat)) (p.V.length + (1 : Nat)))]) :: (lo :: ((AObj.cells (0 : Nat) [(I (x.d)), (flL (x.v)), (flLL (x.w)), (I (x.m))]) :: ((AObj.cells (0 : Nat) [(I r), ls]) :: (Lo :: Y))))))) = ((AObj.cells (0 : Nat) ucs) :: ((AObj.cells (0 : Nat) rcs) :: ((AObj.cells (0 : Nat) [(flL (p.V)), (flLL (p.C)), (flR (p.R)), AV.zs, (I ((0 : Int))), lv, (AV.ms (1 : Nat) (0 : Nat) (0 : Nat) (0 : Nat) (List.length (p.V)) (List.length (p.V))), (AV.ms (1 : Nat) (1 : Nat) (0 : Nat) (0 : Nat) (p.V.length + (1 : Nat)) (p.V.length + (1 : Nat)))]) :: (lo :: ((AObj.cells (0 : Nat) [(I (x.d)), (flL (x.v)), (flLL (x.w)), (I (x.m))]) :: ((AObj.cells (0 : Nat) [(I r), ls]) :: (Lo :: Y)))))))) (.need (((Option.some [((0 : Nat), (AV.agg [(I r), ls]))]) = (Option.some [((0 : Nat), (AV.agg [(I r), ls]))])) ∧ (((2 : Nat) = (2 : Nat)) ∧ (∀ (x : AV), x ∈ [I r, ls] → x.one = true))) (.need (((AObj.cells (0 : Nat) ucs) :: ((AObj.cells (0 : Nat) rcs) :: ((AObj.cells (0 : Nat) [(flL (p.V)), (flLL (p.C)), (flR (p.R)), AV.zs, (I ((0 : Int))), lv, (AV.ms (1 : Nat) (0 : Nat) (0 : Nat) (0 : Nat) (List.length (p.V)) (List.length (p.V))), (AV.ms (1 : Nat) (1 : Nat) (0 : Nat) (0 : Nat) (p.V.length + (1 : Nat)) (p.V.length + (1 : Nat)))]) :: (lo :: ((AObj.cells (0 : Nat) [(I (x.d)), (flL (x.v)), (flLL (x.w)), (I (x.m))]) :: ((AObj.cells (0 : Nat) [(I r), ls]) :: (Lo :: Y))))))) = ((AObj.cells (0 : Nat) ucs) :: ((AObj.cells (0 : Nat) rcs) :: ((AObj.cells (0 : Nat) [(flL (p.V)), (flLL (p.C)), (flR (p.R)), AV.zs, (I ((0 : Int))), lv, (AV.ms (1 : Nat) (0 : Nat) (0 : Nat) (0 : Nat) (List.length (p.V)) (List.length (p.V))), (AV.ms (1 : Nat) (1 : Nat) (0 : Nat) (0 : Nat) (p.V.length + (1 : Nat)) (p.V.length + (1 : Nat)))]) :: (lo :: ((AObj.cells (0 : Nat) [(I (x.d)), (flL (x.v)), (flLL (x.w)), (I (x.m))]) :: ((AObj.cells (0 : Nat) [(I r), ls]) :: (Lo :: Y)))))))) (.need (((Option.some [uv, (AV.sl (2 : Nat) [[(I r), ls]])]) = (Option.some [uv, (AV.sl (2 : Nat) [[(I r), ls]])])) ∧ ((((AObj.cells (0 : Nat) ucs) :: ((AObj.cells (0 : Nat) rcs) :: ((AObj.cells (0 : Nat) [(flL (p.V)), (flLL (p.C)), (flR (p.R)), AV.zs, (I ((0 : Int))), lv, (AV.ms (1 : Nat) (0 : Nat) (0 : Nat) (0 : Nat) (List.length (p.V)) (List.length (p.V))), (AV.ms (1 : Nat) (1 : Nat) (0 : Nat) (0 : Nat) (p.V.length + (1 : Nat)) (p.V.length + (1 : Nat)))]) :: (lo :: ((AObj.cells (0 : Nat) [(I (x.d)), (flL (x.v)), (flLL (x.w)), (I (x.m))]) :: ((AObj.cells (0 : Nat) [(I r), ls]) :: (Lo :: Y))))))) = ((AObj.cells (0 : Nat) ucs) :: ((AObj.cells (0 : Nat) rcs) :: ((AObj.cells (0 : Nat) [(flL (p.V)), (flLL (p.C)), (flR (p.R)), AV.zs, (I ((0 : Int))), lv, (AV.ms (1 : Nat) (0 : Nat) (0 : Nat) (0 : Nat) (List.length (p.V)) (List.length (p.V))), (AV.ms (1 : Nat) (1 : Nat) (0 : Nat) (0 : Nat) (p.V.length + (1 : Nat)) (p.V.length + (1 : Nat)))]) :: (lo :: ((AObj.cells (0 : Nat) [(I (x.d)), (flL (x.v)), (flLL (x.w)), (I (x.m))]) :: ((AObj.cells (0 : Nat) [(I r), ls]) :: (Lo :: Y)))))))) ∧ ((g) ∧ ((((hN p ucs rcs lv lo (AObj.cells (0 : Nat) (rlC x)) (AObj.cells (0 : Nat) [I r, ls]) Lo Y)[(7 : Nat) + (x.v.getD k.toNat (0 : Int)).toNat]?) = (Option.some uo)) ∧ ((List.set (hN p ucs rcs lv lo (AObj.cells (0 : Nat) (rlC x)) (AObj.cells (0 : Nat) [I r, ls]) Lo Y) ((7 : Nat) + (x.v.getD k.toNat (0 : Int)).toNat) uo') = ((AObj.cells (0 : Nat) ucs) :: ((AObj.cells (0 : Nat) rcs) :: ((AObj.cells (0 : Nat) [(flL (p.V)), (flLL (p.C)), (flR (p.R)), AV.zs, (I ((0 : Int))), lv, (AV.ms (1 : Nat) (0 : Nat) (0 : Nat) (0 : Nat) (List.length (p.V)) (List.length (p.V))), (AV.ms (1 : Nat) (1 : Nat) (0 : Nat) (0 : Nat) (p.V.length + (1 : Nat)) (p.V.length + (1 : Nat)))]) :: (lo :: ((AObj.cells (0 : Nat) [(I (x.d)), (flL (x.v)), (flLL (x.w)), (I (x.m))]) :: ((AObj.cells (0 : Nat) [(I r), ls]) :: (Lo :: Y')))))))))))) (.need (((AObj.cells (0 : Nat) ucs) :: ((AObj.cells (0 : Nat) rcs) :: ((AObj.cells (0 : Nat) [(flL (p.V)), (flLL (p.C)), (flR (p.R)), AV.zs, (I ((0 : Int))), lv, (AV.ms (1 : Nat) (0 : Nat) (0 : Nat) (0 : Nat) (List.length (p.V)) (List.length (p.V))), (AV.ms (1 : Nat) (1 : Nat) (0 : Nat) (0 : Nat) (p.V.length + (1 : Nat)) (p.V.length + (1 : Nat)))]) :: (lo :: ((AObj.cells (0 : Nat) [(I (x.d)), (flL (x.v)), (flLL (x.w)), (I (x.m))]) :: ((AObj.cells (0 : Nat) [(I r), ls]) :: (Lo :: Y'))))))) = ((AObj.cells (0 : Nat) ucs) :: ((AObj.cells (0 : Nat) rcs) :: ((AObj.cells (0 : Nat) [(flL (p.V)), (flLL (p.C)), (flR (p.R)), AV.zs, (I ((0 : Int))), lv, (AV.ms (1 : Nat) (0 : Nat) (0 : Nat) (0 : Nat) (List.length (p.V)) (List.length (p.V))), (AV.ms (1 : Nat) (1 : Nat) (0 : Nat) (0 : Nat) (p.V.length + (1 : Nat)) (p.V.length + (1 : Nat)))]) :: (lo :: ((AObj.cells (0 : Nat) [(I (x.d)), (flL (x.v)), (flLL (x.w)), (I (x.m))]) :: ((AObj.cells (0 : Nat) [(I r), ls]) :: (Lo :: Y')))))))) (.need (((0 : Int) ≤ x.v.getD k.toNat (0 : Int)) ∧ ((x.v.getD k.toNat (0 : Int) < (↑p.V.length : Int)) ∧ (true = true))) (.need (((AObj.cells (0 : Nat) ucs) :: ((AObj.cells (0 : Nat) rcs) :: ((AObj.cells (0 : Nat) [(flL (p.V)), (flLL (p.C)), (flR (p.R)), AV.zs, (I ((0 : Int))), lv, (AV.ms (1 : Nat) (0 : Nat) (0 : Nat) (0 : Nat) (List.length (p.V)) (List.length (p.V))), (AV.ms (1 : Nat) (1 : Nat) (0 : Nat) (0 : Nat) (p.V.length + (1 : Nat)) (p.V.length + (1 : Nat)))]) :: (lo :: ((AObj.cells (0 : Nat) [(I (x.d)), (flL (x.v)), (flLL (x.w)), (I (x.m))]) :: ((AObj.cells (0 : Nat) [(I r), ls]) :: (Lo :: Y'))))))) = ((AObj.cells (0 : Nat) ucs) :: ((AObj.cells (0 : Nat) rcs) :: ((AObj.cells (0 : Nat) [(flL (p.V)), (flLL (p.C)), (flR (p.R)), AV.zs, (I ((0 : Int))), lv, (AV.ms (1 : Nat) (0 : Nat) (0 : Nat) (0 : Nat) (List.length (p.V)) (List.length (p.V))), (AV.ms (1 : Nat) (1 : Nat) (0 : Nat) (0 : Nat) (p.V.length + (1 : Nat)) (p.V.length + (1 : Nat)))]) :: (lo :: ((AObj.cells (0 : Nat) [(I (x.d)), (flL (x.v)), (flLL (x.w)), (I (x.m))]) :: ((AObj.cells (0 : Nat) [(I r), ls]) :: (Lo :: Y')))))))) (.need (((AV.one uv') = true) ∧ (((0 : Nat) + (x.v.getD k.toNat (0 : Int)).toNat * (1 : Nat)) < (List.length ucs))) (.need (((AObj.cells (0 : Nat) (setL ucs ((0 : Nat) + (x.v.getD k.toNat (0 : Int)).toNat * (1 : Nat)) [uv'])) :: ((AObj.cells (0 : Nat) rcs) :: ((AObj.cells (0 : Nat) [(flL (p.V)), (flLL (p.C)), (flR (p.R)), AV.zs, (I ((0 : Int))), lv, (AV.ms (1 : Nat) (0 : Nat) (0 : Nat) (0 : Nat) (List.length (p.V)) (List.length (p.V))), (AV.ms (1 : Nat) (1 : Nat) (0 : Nat) (0 : Nat) (p.V.length + (1 : Nat)) (p.V.length + (1 : Nat)))]) :: (lo :: ((AObj.cells (0 : Nat) [(I (x.d)), (flL (x.v)), (flLL (x.w)), (I (x.m))]) :: ((AObj.cells (0 : Nat) [(I r), ls]) :: (Lo :: Y'))))))) = ((AObj.cells (0 : Nat) (setL ucs ((0 : Nat) + (x.v.getD k.toNat (0 : Int)).toNat * (1 : Nat)) [uv'])) :: ((AObj.cells (0 : Nat) rcs) :: ((AObj.cells (0 : Nat) [(flL (p.V)), (flLL (p.C)), (flR (p.R)), AV.zs, (I ((0 : Int))), lv, (AV.ms (1 : Nat) (0 : Nat) (0 : Nat) (0 : Nat) (List.length (p.V)) (List.length (p.V))), (AV.ms (1 : Nat) (1 : Nat) (0 : Nat) (0 : Nat) (p.V.length + (1 : Nat)) (p.V.length + (1 : Nat)))]) :: (lo :: ((AObj.cells (0 : Nat) [(I (x.d)), (flL (x.v)), (flLL (x.w)), (I (x.m))]) :: ((AObj.cells (0 : Nat) [(I r), ls]) :: (Lo :: Y')))))))) (.leaf (Exit.normal, St.of 136 ((AObj.cells (0 : Nat) (setL ucs ((0 : Nat) + (x.v.getD k.toNat (0 : Int)).toNat * (1 : Nat)) [uv'])) :: ((AObj.cells (0 : Nat) rcs) :: ((AObj.cells (0 : Nat) [(flL (p.V)), (flLL (p.C)), (flR (p.R)), AV.zs, (I ((0 : Int))), lv, (AV.ms (1 : Nat) (0 : Nat) (0 : Nat) (0 : Nat) (List.length (p.V)) (List.length (p.V))), (AV.ms (1 : Nat) (1 : Nat) (0 : Nat) (0 : Nat) (p.V.length + (1 : Nat)) (p.V.length + (1 : Nat)))]) :: (lo :: ((AObj.cells (0 : Nat) [(I (x.d)), (flL (x.v)), (flLL (x.w)), (I (x.m))]) :: ((AObj.cells (0 : Nat) [(I r), ls]) :: (Lo :: Y'))))))) [(1, (AV.row [(flL (p.V)), (flLL (p.C)), (flR (p.R))] (0 : Nat)), true), (3, (AV.ref (2 : Nat) (0 : Nat) (0 : Nat)), true), (5, (I r), true), (6, (AV.ref (4 : Nat) (0 : Nat) (0 : Nat)), true), (7, (I (IntKind.i64.wrap (left - minL (x.w.getD k.toNat [])))), true), (56, (flR (p.R)), true), (57, (I ((↑p.R.length : Int))), true), (58, (I r), true), (66, (flL (x.v)), true), (67, (I ((↑x.v.length : Int))), true), (68, (I (IntKind.i64.wrap (k + (1 : Int)))), true)]))))))))))))))))))))))))))))))) (.leaf (Exit.normal, St.of 136 ((AObj.cells (0 : Nat) ucs) :: ((AObj.cells (0 : Nat) rcs) :: ((AObj.cells (0 : Nat) [(flL (p.V)), (flLL (p.C)), (flR (p.R)), AV.zs, (I ((0 : Int))), lv, (AV.ms (1 : Nat) (0 : Nat) (0 : Nat) (0 : Nat) (List.length (p.V)) (List.length (p.V))), (AV.ms (1 : Nat) (1 : Nat) (0 : Nat) (0 : Nat) (p.V.length + (1 : Nat)) (p.V.length + (1 : Nat)))]) :: (lo :: ((AObj.cells (0 : Nat) [(I (x.d)), (flL (x.v)), (flLL (x.w)), (I (x.m))]) :: ((AObj.cells (0 : Nat) [(I r), ls]) :: (Lo :: Y))))))) [(1, (AV.row [(flL (p.V)), (flLL (p.C)), (flR (p.R))] (0 : Nat)), true), (3, (AV.ref (2 : Nat) (0 : Nat) (0 : Nat)), true), (5, (I r), true), (6, (AV.ref (4 : Nat) (0 : Nat) (0 : Nat)), true), (7, (I (IntKind.i64.wrap (left - minL (x.w.getD k.toNat [])))), true), (56, (flR (p.R)), true), (57, (I ((↑p.R.length : Int))), true), (58, (I r), true), (66, (flL (x.v)), true), (67, (I ((↑x.v.length : Int))), true), (68, (I (IntKind.i64.wrap (k + (1 : Int)))), true)]))))))))))) (.leaf ((Exit.exit (4 : Nat)), St.of 136 ((AObj.cells (0 : Nat) ucs) :: ((AObj.cells (0 : Nat) rcs) :: ((AObj.cells (0 : Nat) [(flL (p.V)), (flLL (p.C)), (flR (p.R)), AV.zs, (I ((0 : Int))), lv, (AV.ms (1 : Nat) (0 : Nat) (0 : Nat) (0 : Nat) (List.length (p.V)) (List.length (p.V))), (AV.ms (1 : Nat) (1 : Nat) (0 : Nat) (0 : Nat) (p.V.length + (1 : Nat)) (p.V.length + (1 : Nat)))]) :: (lo :: ((AObj.cells (0 : Nat) [(I (x.d)), (flL (x.v)), (flLL (x.w)), (I (x.m))]) :: (AObj.resv :: (AObj.resv :: Y))))))) [(1, (AV.row [(flL (p.V)), (flLL (p.C)), (flR (p.R))] (0 : Nat)), true), (3, (AV.ref (2 : Nat) (0 : Nat) (0 : Nat)), true), (5, (I r), true), (6, (AV.ref (4 : Nat) (0 : Nat) (0 : Nat)), true), (7, (I left), true), (56, (flR (p.R)), true), (57, (I ((↑p.R.length : Int))), true), (58, (I r), true), (66, (flL (x.v)), true), (67, (I ((↑x.v.length : Int))), true), (68, (I k), true)])) := by kernel_rfl
end Go.Proofs.Ytngaihdpmoajeaa.Am

namespace Go.Proofs.Ytngaihdpmoajeaa.Am
open Go
/-- All objects that a value names are such. -/
inductive Only (P : Nat → Prop) : AV → Prop where
  | int (k : IntKind) (i : Int) : Only P (.int k i)
  | bool (b : Bool) : Only P (.bool b)
  | nilp : Only P .nilp
  | nilf : Only P .nilf
  | ref (r g off : Nat) (h : P r) : Only P (.ref r g off)
  | row (cells : List AV) (off : Nat) (h : ∀ (j : Nat) (x : AV), cells[j]? = some x → Only P x) : Only P (.row cells off)
  | sl (size : Nat) (rows : List (List AV)) (h : ∀ (i : Nat) (r : List AV) (j : Nat) (x : AV), rows[i]? = some r → r[j]? = some x → Only P x) : Only P (.sl size rows)
  | fl (size k : Nat) (rows : Nat → List AV) (h : Only P (.sl size ((List.range k).map rows))) : Only P (.fl size k rows)
  | zs : Only P .zs
  | ms (size r g off len cap : Nat) (h : P r) : Only P (.ms size r g off len cap)
  | agg (xs : List AV) (h : ∀ (j : Nat) (x : AV), xs[j]? = some x → Only P x) : Only P (.agg xs)
  | tup (xs : List AV) (h : ∀ (j : Nat) (x : AV), xs[j]? = some x → Only P x) : Only P (.tup xs)
  | fn (f : FuncId) (xs ys : List AV) (h1 : ∀ (j : Nat) (x : AV), xs[j]? = some x → Only P x) (h2 : ∀ (j : Nat) (x : AV), ys[j]? = some x → Only P x) : Only P (.fn f xs ys)
  | yf (l : Nat) (h : P l) : Only P (.yf l)
  | anyb : Only P .anyb
  | mx (size r g off len cap : Nat) (h : P r) : Only P (.mx size r g off len cap)
  | junk : Only P .junk
theorem Only.of_below {P : Nat → Prop} {n : Nat} {x : AV} (h : Below n x) (hP : ∀ r, r < n → P r) : Only P x := by
  induction h with
  | int k i => exact .int k i
  | bool b => exact .bool b
  | nilp => exact .nilp
  | nilf => exact .nilf
  | ref r g off h => exact .ref r g off (hP r h)
  | row cells off _ ih => exact .row cells off ih
  | sl size rows _ ih => exact .sl size rows ih
  | fl size k rows _ ih => exact .fl size k rows ih
  | zs => exact .zs
  | ms size r g off len cap h => exact .ms size r g off len cap (hP r h)
  | agg xs _ ih => exact .agg xs ih
  | tup xs _ ih => exact .tup xs ih
  | fn f xs ys _ _ ih1 ih2 => exact .fn f xs ys ih1 ih2
  | yf l h => exact .yf l (hP l h)
  | anyb => exact .anyb
  | mx size r g off len cap h => exact .mx size r g off len cap (hP r h)
  | junk => exact .junk
theorem Only.of0 {P : Nat → Prop} {x : AV} (h : Below 0 x) : Only P x := .of_below h fun r h => by omega
section
variable {G : Nat → Option (List AV)} {w : World} {M : Map}
theorem RV.reO {P : Nat → Prop} {σ : Heap} {π : Nat → Option Nat} (hi : Inv G w M σ) (hk : ∀ r, P r → σ[r]? = some .resv ∨ π r = some r) {v : Value} {x : AV} (hv : RV w M v x) (hb : Only P x) : RV w (M.re π) v x := by
  have hm : ∀ r p, P r → M r = some p → M.re π r = some p := fun r p hr hp => by
    rcases hk r hr with h | h
    · rw [hi.resv r h] at hp; cases hp
    · rw [Map.re_at h]; exact hp
  induction hv with
  | int k i => exact .int k i
  | bool b => exact .bool b
  | nilp => exact .nilp
  | nilf => exact .nilf
  | ref r g off b hr => cases hb with | ref _ _ _ hlt => exact .ref r g off b (hm _ _ hlt hr)
  | refS r g off b g' p hr hg => cases hb with | ref _ _ _ hlt => exact .refS r g off b g' p (hm _ _ hlt hr) hg
  | row b o off f cells hi hc _ ih => cases hb with | row _ _ h => exact .row b o off f cells (hi.re π) hc fun j x hj => ih j x hj (h j x hj)
  | sl0 base cap size => exact .sl0 base cap size
  | sl b o cap size f rows hi hc hl _ hcap ih => cases hb with | sl _ _ h => exact .sl b o cap size f rows (hi.re π) hc hl (fun i r j x hi hj => ih i r j x hi hj (h i r j x hi hj)) hcap
  | fl v size k rows _ ih => cases hb with | fl _ _ _ h => exact .fl _ size k rows (ih h)
  | zs base => exact .zs base
  | ms size r g off len cap b capc c e hr hlen hcc hsz hfit => cases hb with | ms _ _ _ _ _ _ hlt => exact .ms size r g off len cap b capc c e (hm _ _ hlt hr) hlen hcc hsz hfit
  | msS size r g off len cap b g' p capc hr hg => cases hb with | ms _ _ _ _ _ _ hlt => exact .msS size r g off len cap b g' p capc (hm _ _ hlt hr) hg
  | agg vs xs hl _ ih => cases hb with | agg _ h => exact .agg vs xs hl fun j x hj => ih j x hj (h j x hj)
  | tup vs xs hl _ ih => cases hb with | tup _ h => exact .tup vs xs hl fun j x hj => ih j x hj (h j x hj)
  | fn f fs cs xs ys hl1 hl2 _ _ ih1 ih2 => cases hb with | fn _ _ _ h1 h2 => exact .fn f fs cs xs ys hl1 hl2 (fun j x hj => ih1 j x hj (h1 j x hj)) (fun j x hj => ih2 j x hj (h2 j x hj))
  | yf l b hr => cases hb with | yf _ hlt => exact .yf l b (hm _ _ hlt hr)
  | yfS l b g fn fs cs hr hg => cases hb with | yf _ hlt => exact .yfS l b g fn fs cs (hm _ _ hlt hr) hg
  | anyb b => exact .anyb b
  | mx size r g off len cap b c e hr hlen hsz hfit => cases hb with | mx _ _ _ _ _ _ hlt => exact .mx size r g off len cap b c e (hm _ _ hlt hr) hlen hsz hfit
  | mxS size r g off len cap b g' p hr hg => cases hb with | mx _ _ _ _ _ _ hlt => exact .mxS size r g off len cap b g' p (hm _ _ hlt hr) hg
  | junk v => exact .junk v
theorem Re.only {P : Nat → Prop} {σ : Heap} {π : Nat → Option Nat} {x : AV} (hk : ∀ r, P r → σ[r]? = some .resv ∨ π r = some r) (hb : Only P x) : Re G π σ x x := fun _ _ _ hi hv => hv.reO hi hk hb
end
end Go.Proofs.Ytngaihdpmoajeaa.Am

namespace Go.Proofs.Ytngaihdpmoajeaa.Am
open Go
set_option maxRecDepth 100000

/-! ### The least costs from each variable on -/
def rsK (p : Pb) : Nat → List Int
  | 0 => List.replicate (p.V.length + 1) 0
  | k + 1 => (rsK p k).set (p.V.length - 1 - k) ((rsK p k).getD (p.V.length - k) 0 + minL (p.C.getD (p.V.length - 1 - k) []))
theorem rsK_len (p : Pb) : ∀ k, (rsK p k).length = p.V.length + 1
  | 0 => by simp [rsK]
  | k + 1 => by unfold rsK; rw [List.length_set, rsK_len p k]
theorem sumK_front (f : Nat → Int) : ∀ n, sumK f (n + 1) = f 0 + sumK (fun i => f (i + 1)) n
  | 0 => by simp [sumK]
  | n + 1 => by
    have ih := sumK_front f n
    have e1 : sumK f (n + 1 + 1) = sumK f (n + 1) + f (n + 1) := rfl
    have e2 : sumK (fun i => f (i + 1)) (n + 1) = sumK (fun i => f (i + 1)) n + f (n + 1) := rfl
    omega
theorem restA_step (p : Pb) {i : Nat} (hi : i < p.V.length) : restA p i = minL (p.C.getD i []) + restA p (i + 1) := by
  unfold restA
  have e : p.V.length - i = (p.V.length - (i + 1)) + 1 := by omega
  rw [e, sumK_front]
  have e2 : sumK (fun j => restT p i (j + 1)) (p.V.length - (i + 1)) = sumK (restT p (i + 1)) (p.V.length - (i + 1)) := sumK_congr fun j _ => by
    unfold restT
    congr 2
    omega
  rw [e2]
  rfl
theorem restA_end (p : Pb) : restA p p.V.length = 0 := by unfold restA; rw [Nat.sub_self]; rfl
theorem rsK_get (p : Pb) : ∀ k, k ≤ p.V.length → ∀ j, p.V.length - k ≤ j → j ≤ p.V.length → (rsK p k).getD j 0 = restA p j
  | 0, _, j, h1, h2 => by
    obtain rfl : j = p.V.length := by omega
    rw [restA_end]
    simp [rsK, List.getD_eq_getElem?_getD]
  | k + 1, hk, j, h1, h2 => by
    have hl := rsK_len p k
    unfold rsK
    rw [getD_setL]
    by_cases hj : p.V.length - 1 - k = j
    · rw [if_pos ⟨hj, by omega⟩, rsK_get p k (by omega) (p.V.length - k) (by omega) (by omega), hj]
      have e : p.V.length - k = j + 1 := by omega
      rw [e, restA_step p (show j < p.V.length by omega)]
      omega
    · rw [if_neg (fun h => hj h.1)]
      exact rsK_get p k (by omega) j (by omega) h2
theorem repl_map (n : Nat) : repl n [I 0] = (List.replicate n (0 : Int)).map I := by
  induction n with
  | zero => rfl
  | succ n ih => unfold repl; rw [ih]; rfl
theorem loopR {p : Pb} (hs : p.sh) (hp : Ok p) (Y : Heap) : LoopA bodyR p.V.length (fun k => stR p ((rsK p k).map I) ((p.V.length : Int) - 1 - k) Y) (fun k => stR p ((rsK p k).map I) ((p.V.length : Int) - 1 - k) Y) (stR p ((rsK p p.V.length).map I) (-1) Y) .ret (.exit 0) fun _ => false := by
  have hn := hp.n
  have hc := hp.c
  refine .lin (fun _ => rfl) rfl nofun fun k hk => ⟨{ EG (k < p.V.length) [(36, [flL (p.C.getD ((p.V.length : Int) - 1 - k).toNat [])], I (minL (p.C.getD ((p.V.length : Int) - 1 - k).toNat [])))] with boxRow := false, hint := hArrG 22 3 .i64 1 }, noLoops, [1, 2, 3, 4], ?_, lpNo _, fun hlt => ?_, fun he => ?_⟩
  · refine .all arr_ok.ok failH_ok (fun l xs σ t v σ' h => (by cases h)) (clokG1 (q := k < p.V.length) (f := 36) fun hlt => ?_).cl
    exact c36 (sh_getD hs.2.2.1 _) (cost_pos hp (by omega))
  · have e0 : ((p.V.length : Int) - 1 - k).toNat = p.V.length - 1 - k := by omega
    have hw1 : IntKind.i64.wrap ((p.V.length : Int) - 1 - k + 1) = ((p.V.length - k : Nat) : Int) := (wrapI (by omega)).trans (by omega)
    have hw2 : IntKind.i64.wrap ((p.V.length : Int) - 1 - k - 1) = (p.V.length : Int) - 1 - (k + 1 : Nat) := (wrapI (by omega)).trans (by omega)
    have hl := rsK_len p k
    have hi1 : p.V.length - k < (rsK p k).length := by omega
    have hi2 : p.V.length - 1 - k < (rsK p k).length := by omega
    have hr := rsK_get p k (by omega) (p.V.length - k) (by omega) (by omega)
    have hb := restK_bound hp (i := p.V.length - k) (k := p.V.length - (p.V.length - k)) (by omega)
    have hm := minC_bound hp (i := p.V.length - 1 - k) (by omega)
    have hra : restA p (p.V.length - k) = sumK (restT p (p.V.length - k)) (p.V.length - (p.V.length - k)) := rfl
    refine (congrArg Tree.sel (runR _ p _ _ Y)).trans ?_
    rw [hw1, hw2, e0, Int.toNat_natCast, map_getD _ hi1, wrapI (by omega), map_setL _ hi2]
    have e1 : (rsK p k).set (p.V.length - 1 - k) ((rsK p k).getD (p.V.length - k) 0 + minL (p.C.getD (p.V.length - 1 - k) [])) = rsK p (k + 1) := rfl
    rw [e1]
    exact (selIt (dT (by omega))).trans (t_need ⟨by omega, by omega, rfl⟩ (t_need ⟨rfl, _, map_get _ hi1⟩ (t_need ⟨by omega, by omega⟩ (t_need hlt (t_need rfl (t_need ⟨by omega, by omega, rfl⟩ (t_need ⟨rfl, by rw [List.length_map]; exact hi2⟩ rfl)))))))
  · subst he
    have e : (p.V.length : Int) - 1 - p.V.length = -1 := by omega
    rw [e]
    refine (congrArg Tree.sel (runR _ p _ _ Y)).trans ?_
    exact (selIf (dF (by omega))).trans rfl

/-! ### The weights of one variable -/
def lessK (w : List Int) (least : Int) : Nat → List Int
  | 0 => []
  | j + 1 => lessK w least j ++ [w.getD j 0 - least]
theorem lessK_len (w : List Int) (least : Int) : ∀ j, (lessK w least j).length = j
  | 0 => rfl
  | j + 1 => by unfold lessK; rw [List.length_append, lessK_len w least j]; rfl
theorem lessK_get (w : List Int) (least : Int) : ∀ j i, i < j → (lessK w least j).getD i 0 = w.getD i 0 - least
  | j + 1, i, h => by
    unfold lessK
    rw [List.getD_eq_getElem?_getD, List.getElem?_append]
    have hl := lessK_len w least j
    by_cases hi : i < j
    · rw [if_pos (by omega), ← List.getD_eq_getElem?_getD]
      exact lessK_get w least j i hi
    · obtain rfl : i = j := by omega
      rw [if_neg (by omega), hl, Nat.sub_self]
      rfl
/-- How much more than the least each weight is. -/
def lessL (w : List Int) : List Int := lessK w (minL w) w.length
theorem lessL_len (w : List Int) : (lessL w).length = w.length := lessK_len _ _ _
theorem lessL_get (w : List Int) {i : Nat} (hi : i < w.length) : (lessL w).getD i 0 = w.getD i 0 - minL w := lessK_get _ _ _ _ hi
theorem loopI {p : Pb} (ucs rcs : List AV) (lv : AV) (lo X : AObj) (r : Int) (Y : Heap) (left k v : Int) (x : Rl) {w : List Int} {least : Int} (hw : w.length ≤ 1000000) (hb : ∀ j, j < w.length → -4000000000000000000 ≤ w.getD j 0 - least ∧ w.getD j 0 - least ≤ 4000000000000000000) :
    LoopA bodyI w.length (fun j => stI p ucs rcs lv lo X r (sV 1 6 (rowI (lessK w least j))) (sO (rowI (lessK w least j))) Y left k v least x w j) (fun j => stI p ucs rcs lv lo X r (sV 1 6 (rowI (lessK w least j))) (sO (rowI (lessK w least j))) Y left k v least x w j)
      (stI p ucs rcs lv lo X r (sV 1 6 (rowI (lessK w least w.length))) (sO (rowI (lessK w least w.length))) Y left k v least x w w.length) .ret (.exit 6) fun _ => false := by
  refine .lin (fun _ => rfl) rfl nofun fun j hj => ?_
  have hlen := lessK_len w least j
  have hwr : j < w.length → IntKind.i64.wrap (w.getD j 0 - least) = w.getD j 0 - least := fun h => wrapI (by have := hb j h; omega)
  have key := congrArg Tree.sel (runI True p ucs rcs lv lo X r (sV 1 6 (rowI (lessK w least j))) (sV 1 6 (rowI (lessK w least j ++ [IntKind.i64.wrap (w.getD j 0 - least)]))) (sO (rowI (lessK w least j))) (sO (rowI (lessK w least j ++ [IntKind.i64.wrap (w.getD j 0 - least)]))) Y left k v least x w j)
  rw [Int.toNat_natCast] at key
  refine ⟨_, noLoops, keepI, .ofH rfl rfl ((hApO_ok els22 fun _ => grow_I (by omega) _ 6).or (hSto_ok 5 one22).ok) (fun f xs t v h => by cases h), lpNo _, fun hlt => key.trans ?_, fun he => key.trans ?_⟩
  · rw [wrapS hlt (by omega), hwr hlt]
    have e1 : lessK w least j ++ [w.getD j 0 - least] = lessK w least (j + 1) := rfl
    rw [e1]
    have h1 : (sV 1 6 (rowI (lessK w least (j + 1)))).one = true := by
      cases rowI (lessK w least (j + 1)) <;> rfl
    exact (selIt (dT (by omega))).trans (t_need ⟨by omega, by omega⟩ (t_need ⟨rfl, rfl, trivial⟩ (t_need ⟨h1, by omega⟩ rfl)))
  · subst he
    exact (selIf (dF (by omega))).trans rfl
end Go.Proofs.Ytngaihdpmoajeaa.Am

namespace Go.Proofs.Ytngaihdpmoajeaa.Am
open Go
set_option maxRecDepth 100000

abbrev Use := Int × List Int
/-- The uses' cells, and what lies at their places. -/
def ucs (us : List (List Use)) : List AV := us.mapIdx fun v l => sV 2 (7 + v) (l.map useC)
def uY (us : List (List Use)) : Heap := us.map fun l => sO (l.map useC)
def addU (us : List (List Use)) (v : Nat) (u : Use) : List (List Use) := us.set v (us.getD v [] ++ [u])
theorem addU_len (us : List (List Use)) (v : Nat) (u : Use) : (addU us v u).length = us.length := by unfold addU; rw [List.length_set]
theorem ucs_len (us : List (List Use)) : (ucs us).length = us.length := by simp [ucs]
theorem ucs_get (us : List (List Use)) {v : Nat} (hv : v < us.length) : (ucs us)[v]? = some (sV 2 (7 + v) ((us.getD v []).map useC)) := by
  simp [ucs, hv, List.getD_eq_getElem?_getD]
theorem sV_same {s r : Nat} {a b : List (List AV)} (h : a.length = b.length) : sV s r a = sV s r b := by
  cases a with
  | nil =>
    cases b with
    | nil => rfl
    | cons y q => simp at h
  | cons x l =>
    cases b with
    | nil => simp at h
    | cons y q => simp only [List.length_cons, Nat.add_right_cancel_iff] at h; simp [sV, h]
theorem ucs_add (us : List (List Use)) {v : Nat} (hv : v < us.length) (u : Use) (row : List AV) : setL (ucs us) v [sV 2 (7 + v) ((us.getD v []).map useC ++ [row])] = ucs (addU us v u) := by
  apply List.ext_getElem?
  intro i
  rw [setL_get (by rw [ucs_len]; simp; omega)]
  simp only [List.length_singleton]
  by_cases h1 : i < v
  · rw [if_pos h1, ucs_get us (by omega), ucs_get _ (by rw [addU_len]; omega)]
    have e : (addU us v u).getD i [] = us.getD i [] := by
      unfold addU
      simp [List.getD_eq_getElem?_getD, List.getElem?_set_ne (show v ≠ i by omega)]
    rw [e]
  · rw [if_neg h1]
    by_cases h2 : i < v + 1
    · obtain rfl : i = v := by omega
      rw [if_pos h2, Nat.sub_self, ucs_get _ (by rw [addU_len]; exact hv)]
      have e : (addU us i u).getD i [] = us.getD i [] ++ [u] := by
        unfold addU
        simp [List.getD_eq_getElem?_getD, hv]
      rw [e]
      simp only [List.getElem?_cons_zero, Option.some.injEq]
      exact sV_same (by simp)
    · rw [if_neg h2]
      by_cases h3 : i < us.length
      · rw [ucs_get us h3, ucs_get _ (by rw [addU_len]; exact h3)]
        have e : (addU us v u).getD i [] = us.getD i [] := by
          unfold addU
          simp [List.getD_eq_getElem?_getD, List.getElem?_set_ne (show v ≠ i by omega)]
        rw [e]
      · rw [List.getElem?_eq_none (by rw [ucs_len]; omega), List.getElem?_eq_none (by rw [ucs_len, addU_len]; omega)]
theorem uY_len (us : List (List Use)) : (uY us).length = us.length := by simp [uY]
theorem uY_get (us : List (List Use)) {v : Nat} (hv : v < us.length) : (uY us)[v]? = some (sO ((us.getD v []).map useC)) := by
  simp [uY, hv, List.getD_eq_getElem?_getD]
theorem useC_rows (l : List Use) : ∀ x ∈ l.map useC, x.length = 2 := fun x hx => by
  obtain ⟨u, _, rfl⟩ := List.mem_map.1 hx; rfl
theorem useC_below (u : Use) : ∀ x ∈ useC u, Below 0 x := fun x hx => by
  simp only [useC, List.mem_cons, List.not_mem_nil, or_false] at hx
  rcases hx with rfl | rfl
  · exact .int _ _
  · exact below_flL _
theorem els102 : ElemS 102 101 2 := elemS Try.underlying102 (by kernel_rfl) (by kernel_rfl)
theorem grow_U {l : List Use} (hl : l.length < 16777216) (r : Nat) (n : Int) {ls : AV} (h1 : ls.one = true) : Grow 2 r [I n, ls] (sV 2 r (l.map useC)) (sV 2 r (l.map useC ++ [[I n, ls]])) (sO (l.map useC)) (sO (l.map useC ++ [[I n, ls]])) :=
  ⟨l.map useC, rfl, rfl, rfl, rfl, useC_rows l, rfl, fun x hx => by
    simp only [List.mem_cons, List.not_mem_nil, or_false] at hx
    rcases hx with rfl | rfl
    · rfl
    · exact h1, by simpa using hl⟩
/-- The heap at the head of the rounds. -/
def hS (p : Pb) (us : List (List Use)) (rs l : List Int) (X : AObj) : Heap := hN p (ucs us) (rs.map I) (sV 1 3 (rowI l)) (sO (rowI l)) X .resv .resv (uY us)
theorem hN_len (p : Pb) (uc rc : List AV) (lv : AV) (lo X Uo Lo : AObj) (Y : Heap) : (hN p uc rc lv lo X Uo Lo Y).length = 7 + Y.length := by simp [hN]; omega
/-- The objects but the round's own. -/
def keepP (n : Nat) : Nat → Option Nat := fun q => if q = 5 ∨ q = 6 then none else if q < n then some q else none
theorem keepP_at {n q : Nat} (h5 : q ≠ 5) (h6 : q ≠ 6) (hq : q < n) : keepP n q = some q := by simp [keepP, h5, h6, hq]
theorem keepP_some {n q z : Nat} (h : keepP n q = some z) : q ≠ 5 ∧ q ≠ 6 ∧ q < n ∧ z = q := by
  unfold keepP at h
  split at h
  · cases h
  · split at h
    · cases h; exact ⟨fun e => by subst e; simp_all, fun e => by subst e; simp_all, ‹_›, rfl⟩
    · cases h
def goodP (n r : Nat) : Prop := r ≠ 5 ∧ r ≠ 6 ∧ r < n
theorem only_sV {n s r : Nat} {rows : List (List AV)} (h : goodP n r) : Only (goodP n) (sV s r rows) := by
  cases rows with
  | nil => exact .zs
  | cons x l => exact .ms _ _ _ _ _ _ h
theorem only_ucs {n : Nat} (us : List (List Use)) (hn : 7 + us.length ≤ n) : ∀ x ∈ ucs us, Only (goodP n) x := fun x hx => by
  unfold ucs at hx
  obtain ⟨i, hi, rfl⟩ := List.mem_mapIdx.1 hx
  exact only_sV ⟨by omega, by omega, by omega⟩
/-- What the round's own variables held is told as data; they are forgotten. -/
theorem hre_round {p : Pb} {us us' : List (List Use)} {rs l : List Int} {x : Rl} {U0 Lo : AObj} {Y : Heap} (hl : us'.length = us.length) (hY : Y.length = us.length)
    (hu : ∀ v, v < us.length → ∃ g c0, (Y[v]? = some (sO ((us'.getD v []).map useC)) ∧ sO ((us'.getD v []).map useC) = .resv) ∨ (Y[v]? = some (.cells g c0) ∧ sO ((us'.getD v []).map useC) = .cells g ((us'.getD v []).map useC).flatten ∧ c0.length = ((us'.getD v []).map useC).flatten.length ∧
      ∀ (j : Nat) (y : AV), (((us'.getD v []).map useC).flatten)[j]? = some y → ∃ z, c0[j]? = some z ∧ Re G0 (keepP (7 + us.length)) (hN p (ucs us') (rs.map I) (sV 1 3 (rowI l)) (sO (rowI l)) (.cells 0 (rlC x)) U0 Lo Y) z y)) :
    HRe G0 (keepP (7 + us.length)) (hS p us rs l (.cells 0 (rlC x))) (hN p (ucs us') (rs.map I) (sV 1 3 (rowI l)) (sO (rowI l)) (.cells 0 (rlC x)) U0 Lo Y) (hS p us' rs l (.cells 0 (rlC x))) := by
  have hk : ∀ r, goodP (7 + us.length) r → (hN p (ucs us') (rs.map I) (sV 1 3 (rowI l)) (sO (rowI l)) (.cells 0 (rlC x)) U0 Lo Y)[r]? = some .resv ∨ keepP (7 + us.length) r = some r := fun r hr => .inr (keepP_at hr.1 hr.2.1 hr.2.2)
  have same : ∀ {q g : Nat} {c : List AV}, keepP (7 + us.length) q = some q → (hN p (ucs us') (rs.map I) (sV 1 3 (rowI l)) (sO (rowI l)) (.cells 0 (rlC x)) U0 Lo Y)[q]? = some (.cells g c) → (∀ z ∈ c, Only (goodP (7 + us.length)) z) → ORe G0 (keepP (7 + us.length)) (hN p (ucs us') (rs.map I) (sV 1 3 (rowI l)) (sO (rowI l)) (.cells 0 (rlC x)) U0 Lo Y) q (.cells g c) :=
    fun {q g c} h1 h2 h3 => ⟨q, c, h1, h2, rfl, fun j y hj => ⟨y, hj, Re.only hk (h3 y (List.mem_of_getElem? hj))⟩⟩
  refine ⟨gbelow0, fun q o ho hne => ?_, fun q q' z h1 h2 => ?_, fun q z h1 => ?_, fun q o ho => ?_⟩
  · have hq : q < 7 + us.length := by
      have := (List.getElem?_eq_some_iff.1 ho).1
      unfold hS at this
      rw [hN_len, uY_len] at this
      exact this
    refine keepP_at (fun e => ?_) (fun e => ?_) hq
    · subst e; cases ho; exact hne rfl
    · subst e; cases ho; exact hne rfl
  · have := keepP_some h1
    have := keepP_some h2
    omega
  · unfold hS
    rw [hN_len, uY_len]
    have := keepP_some h1
    omega
  · match q, ho with
    | 0, ho => cases ho; exact same (keepP_at (by omega) (by omega) (by omega)) rfl (only_ucs us' (by omega))
    | 1, ho =>
      cases ho
      refine same (keepP_at (by omega) (by omega) (by omega)) rfl fun z hz => ?_
      obtain ⟨n, _, rfl⟩ := List.mem_map.1 hz
      exact .int _ _
    | 2, ho =>
      cases ho
      refine same (keepP_at (by omega) (by omega) (by omega)) rfl fun z hz => ?_
      simp only [List.mem_cons, List.not_mem_nil, or_false] at hz
      rcases hz with rfl | rfl | rfl | rfl | rfl | rfl | rfl | rfl
      · exact .of0 (below_flL _)
      · exact .of0 (below_flLL _)
      · exact .of0 (below_flR _)
      · exact .zs
      · exact .int _ _
      · exact only_sV ⟨by omega, by omega, by omega⟩
      · exact .ms _ _ _ _ _ _ ⟨by omega, by omega, by omega⟩
      · exact .ms _ _ _ _ _ _ ⟨by omega, by omega, by omega⟩
    | 3, ho =>
      have ho' : some (sO (rowI l)) = some o := ho
      cases ho'
      cases l with
      | nil => exact fun z hz => by obtain ⟨_, _, _, rfl⟩ := keepP_some hz; rfl
      | cons y t =>
        refine same (q := 3) (g := (rowI t).length) (c := (rowI (y :: t)).flatten) (keepP_at (by omega) (by omega) (by omega)) rfl fun z hz => ?_
        rw [rowI_flatten] at hz
        obtain ⟨n, _, rfl⟩ := List.mem_map.1 hz
        exact .int _ _
    | 4, ho => cases ho; exact same (keepP_at (by omega) (by omega) (by omega)) rfl fun z hz => .of0 (below_rl x z hz)
    | 5, ho => cases ho; exact fun z hz => absurd rfl (keepP_some hz).1
    | 6, ho => cases ho; exact fun z hz => absurd rfl (keepP_some hz).2.1
    | q + 7, ho =>
      have ho' : (uY us')[q]? = some o := ho
      have hq : q < us.length := by have := (List.getElem?_eq_some_iff.1 ho').1; rw [uY_len] at this; omega
      rw [uY_get us' (by omega)] at ho'
      cases ho'
      obtain ⟨g, c0, h | ⟨h1, h2, h3, h4⟩⟩ := hu q hq
      · rw [h.2]
        intro z hz
        obtain ⟨_, _, _, rfl⟩ := keepP_some hz
        show Y[q]? = _
        rw [h.1, h.2]
      · rw [h2]
        exact ⟨q + 7, c0, keepP_at (by omega) (by omega) (by omega), h1, h3.symm, h4⟩
end Go.Proofs.Ytngaihdpmoajeaa.Am

namespace Go.Proofs.Ytngaihdpmoajeaa.Am
open Go
set_option maxRecDepth 100000

theorem addU_self {us : List (List Use)} {v : Nat} (hv : v < us.length) (u : Use) : (addU us v u).getD v [] = us.getD v [] ++ [u] := by
  unfold addU
  simp [List.getD_eq_getElem?_getD, hv]
theorem addU_ne {us : List (List Use)} {v i : Nat} (h : i ≠ v) (u : Use) : (addU us v u).getD i [] = us.getD i [] := by
  unfold addU
  simp [List.getD_eq_getElem?_getD, List.getElem?_set_ne (Ne.symm h)]
/-- Max of a list that has grown at the place 6. -/
theorem c68m {L : List Int} (hl : sh L) (h0 : 0 < L.length) {h : Heap} (ho : h[6]? = some (sO (rowI L))) : ACall Try.prog G0 68 [sV 1 6 (rowI L)] h (I (maxL L)) h := by
  have hne : L ≠ [] := fun e => by rw [e] at h0; simp at h0
  have h1 : ACall Try.prog G0 68 [slL L] [] (I (maxL L)) [] := (c68 hl h0 []).arg1 (sub_slL L)
  refine h1.frz gbelow0 (.int _ _) rfl fun j x' hj => ?_
  match j, hj with
  | 0, hj =>
    cases hj
    refine ⟨_, rfl, .inr (.inr ⟨6, L.length - 1, L.map I, ?_, ?_, fun y hy => ?_, rfl⟩)⟩
    · cases L with
      | nil => exact absurd rfl hne
      | cons y t => simp [rowI, sV]
    · rw [ho, sO_rowI hne]
    · obtain ⟨n, _, rfl⟩ := List.mem_map.1 hy
      exact .int _ _
  | j + 1, hj => simp at hj
def stepU (us : List (List Use)) (x : Rl) (r : Nat) (k : Nat) : List (List Use) := if maxL (lessL (x.w.getD k [])) > 0 then addU us (x.v.getD k 0).toNat (r, lessL (x.w.getD k [])) else us
theorem stepU_len (us : List (List Use)) (x : Rl) (r k : Nat) : (stepU us x r k).length = us.length := by
  unfold stepU
  split
  · exact addU_len _ _ _
  · rfl
theorem hN_at7 (p : Pb) (uc rc : List AV) (lv : AV) (lo X Uo Lo : AObj) (Y : Heap) (v : Nat) : (hN p uc rc lv lo X Uo Lo Y)[7 + v]? = Y[v]? := by
  rw [Nat.add_comm]
  rfl
theorem hN_set7 (p : Pb) (uc rc : List AV) (lv : AV) (lo X Uo Lo : AObj) (Y : Heap) (v : Nat) (o : AObj) : (hN p uc rc lv lo X Uo Lo Y).set (7 + v) o = (hN p uc rc lv lo X Uo Lo Y).take 7 ++ Y.set v o := by
  rw [Nat.add_comm]
  rfl
theorem one_sV {s r : Nat} {rows : List (List AV)} : (sV s r rows).one = true := by cases rows <;> rfl
theorem aZero101 : (aZero Try.prog 101).map AV.cells = some [I 0, .zs] := by kernel_rfl
theorem of_all {n : Nat} {h : Heap} {l : List (Nat × AV × Bool)} {Q : AV → Prop} (hl : ∀ p ∈ l, Q p.2.1) (hj : Q .junk) : ∀ x ∈ (St.of n h l).a, Q x := fun x hx => by
  simp only [St.a, St.of, List.mem_map] at hx
  obtain ⟨j, _, rfl⟩ := hx
  rcases of_get l .nil j with h1 | ⟨p, hp, h1⟩
  · rw [h1, PT.get_nil]; exact hj
  · rw [h1]; exact hl p hp
theorem flat_mem {l : List Use} {j : Nat} {y : AV} (h : ((l.map useC).flatten)[j]? = some y) : Below 0 y := by
  obtain ⟨row, h1, h2⟩ := List.mem_flatten.1 (List.mem_of_getElem? h)
  obtain ⟨u, _, rfl⟩ := List.mem_map.1 h1
  exact useC_below u y h2
/-- A place that has not turned. -/
theorem hu_same {l : List Use} {π : Nat → Option Nat} {σ : Heap} {oY : Option AObj} (hY : oY = some (sO (l.map useC))) : ∃ g c0, (oY = some (sO (l.map useC)) ∧ sO (l.map useC) = .resv) ∨ (oY = some (.cells g c0) ∧ sO (l.map useC) = .cells g (l.map useC).flatten ∧ c0.length = (l.map useC).flatten.length ∧
    ∀ (j : Nat) (y : AV), ((l.map useC).flatten)[j]? = some y → ∃ z, c0[j]? = some z ∧ Re G0 π σ z y) := by
  cases l with
  | nil => exact ⟨0, [], .inl ⟨hY, rfl⟩⟩
  | cons u t => exact ⟨(t.map useC).length, ((u :: t).map useC).flatten, .inr ⟨hY, rfl, rfl, fun j y hj => ⟨y, hj, Re.flat (flat_mem hj)⟩⟩⟩
/-- A place with one use more. -/
theorem hu_new {l : List Use} {r : Int} {less : List Int} {ls : AV} {π : Nat → Option Nat} {σ : Heap} {oY : Option AObj} (hY : oY = some (sO (l.map useC ++ [[I r, ls]]))) (hre : Re G0 π σ ls (flL less)) : ∃ g c0, (oY = some (sO ((l ++ [(r, less)]).map useC)) ∧ sO ((l ++ [(r, less)]).map useC) = .resv) ∨ (oY = some (.cells g c0) ∧ sO ((l ++ [(r, less)]).map useC) = .cells g ((l ++ [(r, less)]).map useC).flatten ∧ c0.length = ((l ++ [(r, less)]).map useC).flatten.length ∧
    ∀ (j : Nat) (y : AV), (((l ++ [(r, less)]).map useC).flatten)[j]? = some y → ∃ z, c0[j]? = some z ∧ Re G0 π σ z y) := by
  have e1 : sO ((l ++ [(r, less)]).map useC) = .cells l.length ((l ++ [(r, less)]).map useC).flatten := by
    cases l with
    | nil => rfl
    | cons u t => simp [sO]
  have e2 : sO (l.map useC ++ [[I r, ls]]) = .cells l.length ((l.map useC).flatten ++ [I r, ls]) := by
    cases l with
    | nil => rfl
    | cons u t => simp [sO]
  have e3 : ((l ++ [(r, less)]).map useC).flatten = (l.map useC).flatten ++ [I r, flL less] := by simp [useC]
  refine ⟨l.length, (l.map useC).flatten ++ [I r, ls], .inr ⟨hY.trans (by rw [e2]), e1, by rw [e3]; simp, fun j y hj => ?_⟩⟩
  rw [e3, List.getElem?_append] at hj
  by_cases hlt : j < ((l.map useC).flatten).length
  · rw [if_pos hlt] at hj
    exact ⟨y, by rw [List.getElem?_append_left hlt]; exact hj, Re.flat (flat_mem hj)⟩
  · rw [if_neg hlt] at hj
    rw [List.getElem?_append_right (by omega)]
    generalize j - ((l.map useC).flatten).length = i at hj
    match i, hj with
    | 0, hj => cases hj; exact ⟨_, rfl, re_int⟩
    | 1, hj => cases hj; exact ⟨_, rfl, hre⟩
    | i + 2, hj => simp at hj
theorem only_stM (p : Pb) (uc rc : List AV) (lv : AV) (lo Uo Lo : AObj) (r : Int) (Y : Heap) (left k : Int) (x : Rl) (n : Nat) (hn : 7 ≤ n) : ∀ y ∈ (stM p uc rc lv lo Uo Lo r Y left k x).a, Only (goodP n) y := of_all (fun q hq => by
  simp only [List.mem_cons, List.not_mem_nil, or_false] at hq
  rcases hq with rfl | rfl | rfl | rfl | rfl | rfl | rfl | rfl | rfl | rfl | rfl
  · exact .of0 (below_row (below_pb p))
  · exact .ref _ _ _ ⟨by omega, by omega, by omega⟩
  · exact .int _ _
  · exact .ref _ _ _ ⟨by omega, by omega, by omega⟩
  · exact .int _ _
  · exact .of0 (below_flR _)
  · exact .int _ _
  · exact .int _ _
  · exact .of0 (below_flL _)
  · exact .int _ _
  · exact .int _ _) .junk
/-- ONE VARIABLE OF A RULE. -/
theorem roundM {p : Pb} (hp : Ok p) {x : Rl} (hx : OkRule p.V x) (hs : x.sh) {us : List (List Use)} (hus : us.length = p.V.length) (hul : ∀ v, (us.getD v []).length < 1000000) (rs l : List Int) (r : Nat) {k : Nat} (hk : k < x.v.length) {left : Int} (hleft : -1000000000000 ≤ left ∧ left ≤ 1000000000000) :
    AExec Try.prog G0 (fun q => q = none) bodyM { tmps := (stM p (ucs us) (rs.map I) (sV 1 3 (rowI l)) (sO (rowI l)) .resv .resv r (uY us) left k x).a } (hS p us rs l (.cells 0 (rlC x))) .normal
      { tmps := (stM p (ucs (stepU us x r k)) (rs.map I) (sV 1 3 (rowI l)) (sO (rowI l)) .resv .resv r (uY (stepU us x r k)) (left - minL (x.w.getD k [])) (k + 1 : Nat) x).a } (hS p (stepU us x r k) rs l (.cells 0 (rlC x))) := by
  have hv := hx.v k hk
  have hn := hp.n
  have hxl := rule_len hx
  have hpos := rule_pos hp hx hk
  have hws := rule_sh hs k
  have hwl := hx.wl k hk
  have hVb := hp.v (x.v.getD k 0).toNat (by omega)
  have hmin := hx.w k hk _ (minL_mem hpos)
  have hwb : ∀ j, j < (x.w.getD k []).length → -4000000000000000000 ≤ (x.w.getD k []).getD j 0 - minL (x.w.getD k []) ∧ (x.w.getD k []).getD j 0 - minL (x.w.getD k []) ≤ 4000000000000000000 := fun j hj => by
    have := getD_bound (hx.w k hk) hj
    omega
  have hlen : (lessL (x.w.getD k [])).length = (x.w.getD k []).length := lessL_len _
  have hw1 : IntKind.i64.wrap (left - minL (x.w.getD k [])) = left - minL (x.w.getD k []) := wrapI (by omega)
  have hw2 : IntKind.i64.wrap ((k : Int) + 1) = ((k + 1 : Nat) : Int) := wrapS hk hs.1
  have hvl : (x.v.getD k 0).toNat < us.length := by omega
  have hi := (loopI (p := p) (ucs us) (rs.map I) (sV 1 3 (rowI l)) (sO (rowI l)) (.cells 0 (rlC x)) r (uY us) (left - minL (x.w.getD k [])) k (x.v.getD k 0) x (w := x.w.getD k []) (least := minL (x.w.getD k [])) (by omega) hwb).okB (fun _ _ => rfl) (c := bodyM) (i := 17) (keep := keepI) (one_loop loopsM)
  have key := runV True p (ucs us) (rs.map I) (sV 1 3 (rowI l)) (sO (rowI l)) r (sV 1 6 (rowI (lessL (x.w.getD k [])))) (sO (rowI (lessL (x.w.getD k [])))) (uY us) ((uY us).set (x.v.getD k 0).toNat (sO ((us.getD (x.v.getD k 0).toNat []).map useC ++ [[I (r : Int), sV 1 6 (rowI (lessL (x.w.getD k [])))]]))) left k x (maxL (lessL (x.w.getD k [])))
    (sV 2 (7 + (x.v.getD k 0).toNat) ((us.getD (x.v.getD k 0).toNat []).map useC)) (sV 2 (7 + (x.v.getD k 0).toNat) ((us.getD (x.v.getD k 0).toNat []).map useC ++ [[I (r : Int), sV 1 6 (rowI (lessL (x.w.getD k [])))]]))
    (sO ((us.getD (x.v.getD k 0).toNat []).map useC)) (sO ((us.getD (x.v.getD k 0).toNat []).map useC ++ [[I (r : Int), sV 1 6 (rowI (lessL (x.w.getD k [])))]]))
  rw [Int.toNat_natCast, hw1, hw2] at key
  have hcl : ClOk Try.prog G0 (EM (x.w.getD k []) (sV 1 6 (rowI (lessL (x.w.getD k [])))) (maxL (lessL (x.w.getD k []))) (hN p (ucs us) (rs.map I) (sV 1 3 (rowI l)) (sO (rowI l)) (.cells 0 (rlC x)) (.cells 0 [I (r : Int), sV 1 6 (rowI (lessL (x.w.getD k [])))]) (sO (rowI (lessL (x.w.getD k [])))) (uY us)) (x.v.getD k 0) r
      (sV 2 (7 + (x.v.getD k 0).toNat) ((us.getD (x.v.getD k 0).toNat []).map useC)) (sV 2 (7 + (x.v.getD k 0).toNat) ((us.getD (x.v.getD k 0).toNat []).map useC ++ [[I (r : Int), sV 1 6 (rowI (lessL (x.w.getD k [])))]]))
      (sO ((us.getD (x.v.getD k 0).toNat []).map useC)) (sO ((us.getD (x.v.getD k 0).toNat []).map useC ++ [[I (r : Int), sV 1 6 (rowI (lessL (x.w.getD k [])))]])) ((uY us).set (x.v.getD k 0).toNat (sO ((us.getD (x.v.getD k 0).toNat []).map useC ++ [[I (r : Int), sV 1 6 (rowI (lessL (x.w.getD k [])))]]))) True) := by
    refine .all ((hAlO_ok 5 aZero101 rfl fun n y hy => ?_).or ((hLdO_ok 0 Try.underlying102 rfl _).ok.or ((hApY_ok els102 fun _ => grow_U (by have := hul (x.v.getD k 0).toNat; omega) _ _ one_sV).or ((hLitO_ok els102 (by omega) _).ok.or (hSto_ok 0 (one_of (by kernel_rfl))).ok))))
      (clhK_ok (c68m (by show (lessL (x.w.getD k [])).length < _; rw [hlen]; exact hws) (by omega) rfl)) (fun l xs σ t v σ' h => (by cases h)) (clokG1 (q := True) (f := 36) fun _ => c36 hws hpos).cl
    simp only [List.mem_cons, List.not_mem_nil, or_false] at hy
    rcases hy with rfl | rfl
    · exact .int _ _
    · exact .zs
  have hlessre : ∀ (us' : List (List Use)) (Y : Heap), Re G0 (keepP (7 + us.length)) (hN p (ucs us') (rs.map I) (sV 1 3 (rowI l)) (sO (rowI l)) (.cells 0 (rlC x)) (.cells 0 [I (r : Int), sV 1 6 (rowI (lessL (x.w.getD k [])))]) (sO (rowI (lessL (x.w.getD k [])))) Y) (sV 1 6 (rowI (lessL (x.w.getD k [])))) (flL (lessL (x.w.getD k []))) :=
    fun us' Y => re_ints rfl fun q hq => by have := keepP_some hq; omega
  have hframe : ∀ (uc rc : List AV) (lv : AV) (lo Uo Lo : AObj) (Y : Heap) (lf kk : Int) (σ1 : Heap) (j : Nat) (y : AV), (stM p uc rc lv lo Uo Lo r Y lf kk x).a[j]? = some y → Re G0 (keepP (7 + us.length)) σ1 y y := fun uc rc lv lo Uo Lo Y lf kk σ1 j y hy =>
    Re.only (P := goodP (7 + us.length)) (fun q hq => .inr (keepP_at hq.1 hq.2.1 hq.2.2)) (only_stM p uc rc lv lo Uo Lo r Y lf kk x _ (by omega) y (List.mem_of_getElem? hy))
  by_cases hm : maxL (lessL (x.w.getD k [])) > 0
  · have hst : stepU us x r k = addU us (x.v.getD k 0).toNat (r, lessL (x.w.getD k [])) := if_pos hm
    have hucs := ucs_add us hvl (r, lessL (x.w.getD k [])) [I (r : Int), sV 1 6 (rowI (lessL (x.w.getD k [])))]
    have hsel : (xBodyM Try.prog G0 _ _ 200 _ keepM bodyM _).sel = some (.normal, stM p (ucs (stepU us x r k)) (rs.map I) (sV 1 3 (rowI l)) (sO (rowI l)) (.cells 0 [I (r : Int), sV 1 6 (rowI (lessL (x.w.getD k [])))]) (sO (rowI (lessL (x.w.getD k [])))) r ((uY us).set (x.v.getD k 0).toNat (sO ((us.getD (x.v.getD k 0).toNat []).map useC ++ [[I (r : Int), sV 1 6 (rowI (lessL (x.w.getD k [])))]]))) (left - minL (x.w.getD k [])) (k + 1 : Nat) x) := (congrArg Tree.sel key).trans (by
      rw [hst, ← hucs]
      have e0 : 0 + (x.v.getD k 0).toNat * 1 = (x.v.getD k 0).toNat := by omega
      have hxw := hx.len
      have g1 : (uY us)[(x.v.getD k 0).toNat]? = some (sO ((us.getD (x.v.getD k 0).toNat []).map useC)) := uY_get us hvl
      have gap := hN_set7 p (ucs us) (rs.map I) (sV 1 3 (rowI l)) (sO (rowI l)) (.cells 0 (rlC x)) (.cells 0 [I (r : Int), sV 1 6 (rowI (lessL (x.w.getD k [])))]) (sO (rowI (lessL (x.w.getD k [])))) (uY us) (x.v.getD k 0).toNat (sO ((us.getD (x.v.getD k 0).toNat []).map useC ++ [[I (r : Int), sV 1 6 (rowI (lessL (x.w.getD k [])))]]))
      have gat := (hN_at7 p (ucs us) (rs.map I) (sV 1 3 (rowI l)) (sO (rowI l)) (.cells 0 (rlC x)) (.cells 0 [I (r : Int), sV 1 6 (rowI (lessL (x.w.getD k [])))]) (sO (rowI (lessL (x.w.getD k [])))) (uY us) (x.v.getD k 0).toNat).trans g1
      have guv : (ucs us)[0 + (x.v.getD k 0).toNat * 1]? = some (sV 2 (7 + (x.v.getD k 0).toNat) ((us.getD (x.v.getD k 0).toNat []).map useC)) := by rw [e0]; exact ucs_get us hvl
      have hul2 : 0 + (x.v.getD k 0).toNat * 1 < (ucs us).length := by rw [ucs_len]; omega
      refine t_ite (fun _ => ?_) fun h => absurd (of_decide_eq_false h) (by omega)
      refine t_need ⟨by omega, by omega⟩ (t_need ⟨by omega, by omega⟩ (t_need trivial (t_need rfl (t_need rfl (t_need ⟨by omega, by omega⟩ (t_need rfl (t_need ⟨rfl, rfl⟩ (t_ite (fun _ => ?_) fun h => absurd (of_decide_eq_false h) (by omega)))))))))
      rw [show (setL (ucs us) (x.v.getD k 0).toNat [sV 2 (7 + (x.v.getD k 0).toNat) ((us.getD (x.v.getD k 0).toNat []).map useC ++ [[I (r : Int), sV 1 6 (rowI (lessL (x.w.getD k [])))]])]) = setL (ucs us) (0 + (x.v.getD k 0).toNat * 1) [sV 2 (7 + (x.v.getD k 0).toNat) ((us.getD (x.v.getD k 0).toNat []).map useC ++ [[I (r : Int), sV 1 6 (rowI (lessL (x.w.getD k [])))]])] from by rw [e0]]
      have hrow : ∀ z ∈ [I (r : Int), sV 1 6 (rowI (lessL (x.w.getD k [])))], z.one = true := fun z hz => by
        simp only [List.mem_cons, List.not_mem_nil, or_false] at hz
        rcases hz with rfl | rfl
        · rfl
        · exact one_sV
      repeat first
        | refine t_need rfl ?_
        | refine t_need ⟨rfl, rfl⟩ ?_
        | refine t_need ⟨hv.1, by omega, rfl⟩ ?_
        | refine t_need ⟨rfl, guv⟩ ?_
        | refine t_need ⟨rfl, rfl, hrow⟩ ?_
        | refine t_need ⟨rfl, rfl, trivial, gat, gap⟩ ?_
        | refine t_need ⟨one_sV, hul2⟩ ?_
      rfl)
    have hexec := (xBodyM_ok (m := []) (R := fun q => q = none) names mixed hcl hi hsel).1
    rw [hst] at hexec
    rw [hst]
    exact hexec.re (hre_round (addU_len _ _ _) (by rw [List.length_set, uY_len]) fun v hvv => by
      by_cases he : v = (x.v.getD k 0).toNat
      · subst he
        have e1 := addU_self hvl ((r : Int), lessL (x.w.getD k []))
        rw [e1]
        exact hu_new (by rw [List.getElem?_set_self (by rw [uY_len]; exact hvl)]) (hlessre _ _)
      · have e1 := addU_ne (us := us) he ((r : Int), lessL (x.w.getD k []))
        rw [e1]
        exact hu_same (by rw [List.getElem?_set_ne (Ne.symm he)]; exact uY_get us hvv)) nofun rfl fun j y hj => ⟨y, hj, hframe _ _ _ _ _ _ _ _ _ _ j y hj⟩
  · have hst : stepU us x r k = us := if_neg hm
    have hsel : (xBodyM Try.prog G0 _ _ 200 _ keepM bodyM _).sel = some (.normal, stM p (ucs us) (rs.map I) (sV 1 3 (rowI l)) (sO (rowI l)) (.cells 0 [I (r : Int), sV 1 6 (rowI (lessL (x.w.getD k [])))]) (sO (rowI (lessL (x.w.getD k [])))) r (uY us) (left - minL (x.w.getD k [])) (k + 1 : Nat) x) := (congrArg Tree.sel key).trans (by
      have hxw := hx.len
      refine t_ite (fun _ => ?_) fun h => absurd (of_decide_eq_false h) (by omega)
      refine t_need ⟨by omega, by omega⟩ (t_need ⟨by omega, by omega⟩ (t_need trivial (t_need rfl (t_need rfl (t_need ⟨by omega, by omega⟩ (t_need rfl (t_need ⟨rfl, rfl⟩ (t_ite (fun h => absurd (of_decide_eq_true h) hm) fun _ => ?_))))))))
      rfl)
    have hexec := (xBodyM_ok (m := []) (R := fun q => q = none) names mixed hcl hi hsel).1
    rw [hst]
    exact hexec.re (hre_round rfl (by rw [uY_len]) fun v hvv => hu_same (uY_get us hvv)) nofun rfl fun j y hj => ⟨y, hj, hframe _ _ _ _ _ _ _ _ _ _ j y hj⟩
end Go.Proofs.Ytngaihdpmoajeaa.Am

namespace Go.Proofs.Ytngaihdpmoajeaa.Am
open Go
set_option maxRecDepth 100000

theorem runVe (p : Pb) (uc rc : List AV) (lv : AV) (lo : AObj) (r : Int) (Y : Heap) (left : Int) (x : Rl) : xBody Try.prog G0 { boxRow := false, clh := failH } 200 noLoops keepM bodyM (stM p uc rc lv lo .resv .resv r Y left x.v.length x) = .ite (decide ((↑x.v.length : Int) < (↑x.v.length : Int))) (.need (((0 : Int) ≤ (↑x.v.length : Int)) ∧ ((↑x.v.length : Int) < (↑x.v.length : Int))) (.need (((0 : Int) ≤ (↑x.v.length : Int)) ∧ ((↑x.v.length : Int) < (↑x.w.length : Int))) .fail)) (.leaf ((Exit.exit (4 : Nat)), St.of 136 ((AObj.cells (0 : Nat) uc) :: ((AObj.cells (0 : Nat) rc) :: ((AObj.cells (0 : Nat) [(flL (p.V)), (flLL (p.C)), (flR (p.R)), AV.zs, (I ((0 : Int))), lv, (AV.ms (1 : Nat) (0 : Nat) (0 : Nat) (0 : Nat) (List.length (p.V)) (List.length (p.V))), (AV.ms (1 : Nat) (1 : Nat) (0 : Nat) (0 : Nat) (p.V.length + (1 : Nat)) (p.V.length + (1 : Nat)))]) :: (lo :: ((AObj.cells (0 : Nat) [(I (x.d)), (flL (x.v)), (flLL (x.w)), (I (x.m))]) :: (AObj.resv :: (AObj.resv :: Y))))))) [(1, (AV.row [(flL (p.V)), (flLL (p.C)), (flR (p.R))] (0 : Nat)), true), (3, (AV.ref (2 : Nat) (0 : Nat) (0 : Nat)), true), (5, (I r), true), (6, (AV.ref (4 : Nat) (0 : Nat) (0 : Nat)), true), (7, (I left), true), (56, (flR (p.R)), true), (57, (I ((↑p.R.length : Int))), true), (58, (I r), true), (66, (flL (x.v)), true), (67, (I ((↑x.v.length : Int))), true), (68, (I ((↑x.v.length : Int))), true)])) := by kernel_rfl
def usM (us : List (List Use)) (x : Rl) (r : Nat) : Nat → List (List Use)
  | 0 => us
  | k + 1 => stepU (usM us x r k) x r k
def leftM (x : Rl) (k : Nat) : Int := x.m - sumK (fun i => minL (x.w.getD i [])) k
theorem usM_len (us : List (List Use)) (x : Rl) (r : Nat) : ∀ k, (usM us x r k).length = us.length
  | 0 => rfl
  | k + 1 => by unfold usM; rw [stepU_len, usM_len us x r k]
theorem addU_le (us : List (List Use)) (w v : Nat) (u : Use) : ((addU us w u).getD v []).length ≤ (us.getD v []).length + 1 := by
  by_cases hv : v = w
  · subst hv
    by_cases hl : v < us.length
    · rw [addU_self hl]; simp
    · unfold addU
      rw [List.set_eq_of_length_le (by omega)]
      omega
  · rw [addU_ne hv]; omega
theorem usM_le (us : List (List Use)) (x : Rl) (r v : Nat) : ∀ k, ((usM us x r k).getD v []).length ≤ (us.getD v []).length + k
  | 0 => Nat.le_refl _
  | k + 1 => by
    have ih := usM_le us x r v k
    unfold usM stepU
    split
    · have := addU_le (usM us x r k) (x.v.getD k 0).toNat v (r, lessL (x.w.getD k []))
      omega
    · omega
theorem leftM_bound {p : Pb} (hp : Ok p) {x : Rl} (hx : OkRule p.V x) {k : Nat} (hk : k ≤ x.v.length) : -13000000000 ≤ leftM x k ∧ leftM x k ≤ 13000000000 := by
  have h1 := sumK_bound (f := fun i => minL (x.w.getD i [])) (k := k) (lo := -100000000) (hi := 100000000) fun i hi => hx.w i (by omega) _ (minL_mem (rule_pos hp hx (by omega)))
  have h2 := rule_len hx
  have h3 := hp.n
  have h4 := hx.m
  unfold leftM
  omega
theorem loopM {p : Pb} (hp : Ok p) {x : Rl} (hx : OkRule p.V x) (hs : x.sh) {us : List (List Use)} (hus : us.length = p.V.length) (hul : ∀ v, (us.getD v []).length < 900000) (rs l : List Int) (r : Nat) :
    LoopA bodyM x.v.length (fun k => stM p (ucs (usM us x r k)) (rs.map I) (sV 1 3 (rowI l)) (sO (rowI l)) .resv .resv r (uY (usM us x r k)) (leftM x k) k x) (fun k => stM p (ucs (usM us x r k)) (rs.map I) (sV 1 3 (rowI l)) (sO (rowI l)) .resv .resv r (uY (usM us x r k)) (leftM x k) k x)
      (stM p (ucs (usM us x r x.v.length)) (rs.map I) (sV 1 3 (rowI l)) (sO (rowI l)) .resv .resv r (uY (usM us x r x.v.length)) (leftM x x.v.length) x.v.length x) .ret (.exit 4) fun _ => false where
  n0 _ := rfl
  nR _ := rfl
  nX := rfl
  neR := nofun
  neX := nofun
  go k hk _ _ := by
    have hb := leftM_bound hp hx (k := k) (by omega)
    have hxl := rule_len hx
    have hn := hp.n
    have key := roundM hp hx hs (us := usM us x r k) (by rw [usM_len]; exact hus) (fun v => by have := usM_le us x r v k; have := hul v; omega) rs l r hk (left := leftM x k) (by omega)
    have e : leftM x k - minL (x.w.getD k []) = leftM x (k + 1) := by
      unfold leftM
      have : sumK (fun i => minL (x.w.getD i [])) (k + 1) = sumK (fun i => minL (x.w.getD i [])) k + minL (x.w.getD k []) := rfl
      omega
    rw [e] at key
    exact key
  st k _ _ h := by cases h
  en _ := rnd (.all .none failH_ok (fun l xs σ t v σ' h => (by cases h)) fun f xs t v h => by cases h) (lpNo _) ((congrArg Tree.sel (runVe p _ _ _ _ r _ _ x)).trans (selIf (dF (by omega)))) rfl
/-! ### One rule -/
def stO (p : Pb) (uc rc : List AV) (lv : AV) (lo X : AObj) (Y : Heap) (r : Int) : St :=
  .of 136 (hN p uc rc lv lo X .resv .resv Y) [(1, .row (pbC p) 0, true), (3, .ref 2 0 0, true), (56, flR p.R, true), (57, I p.R.length, true), (58, I r, true)]
def keepO : List Nat := [1, 3, 56, 57, 58]
def EO (left : Int) (lv lv' : AV) (lo lo' : AObj) (g : Prop) : Env := { boxRow := false, clh := failH, hint := orH (hAlO 56 4 [I 0, .zs, .zs, I 0]) (orH (hApO 22 1 3 [I left] lv lv' lo lo' g) (hSto 22 2)) }
theorem runO (g : Prop) (p : Pb) (uc uc' rc : List AV) (lv lv' : AV) (lo lo' : AObj) (Y Y' : Heap) (r left : Int) : xBody Try.prog G0 (EO left lv lv' lo lo' g) 200 (lpB 11 keepM (stM p uc rc lv lo .resv .resv r Y (p.R.getD r.toNat r0).m 0 (p.R.getD r.toNat r0)) (.exit 4) (stM p uc' rc lv lo .resv .resv r Y' left (p.R.getD r.toNat r0).v.length (p.R.getD r.toNat r0))) keepO bodyO (stO p uc rc lv lo .resv Y r) = .ite (decide (r < (↑p.R.length : Int))) (.need (((0 : Int) ≤ r) ∧ (r < (↑p.R.length : Int))) (.need ((Option.some AObj.resv) = (Option.some AObj.resv)) (.need ((stM p uc rc lv lo .resv .resv r Y (p.R.getD r.toNat r0).m 0 (p.R.getD r.toNat r0)).vals = (stM p uc rc lv lo .resv .resv r Y (p.R.getD r.toNat r0).m 0 (p.R.getD r.toNat r0)).vals) (.need (((Option.some [lv, (AV.sl (1 : Nat) [[(I left)]])]) = (Option.some [lv, (AV.sl (1 : Nat) [[(I left)]])])) ∧ (((Option.some lo) = (Option.some lo)) ∧ (g))) (.need (((AV.one lv') = true) ∧ ((5 : Nat) < (8 : Nat))) (.leaf (Exit.normal, St.of 136 ((AObj.cells (0 : Nat) uc') :: ((AObj.cells (0 : Nat) rc) :: ((AObj.cells (0 : Nat) (setL [(flL (p.V)), (flLL (p.C)), (flR (p.R)), AV.zs, (I ((0 : Int))), lv, (AV.ms (1 : Nat) (0 : Nat) (0 : Nat) (0 : Nat) (List.length (p.V)) (List.length (p.V))), (AV.ms ((1 : Nat)) ((1 : Nat)) ((0 : Nat)) ((0 : Nat)) (p.V.length + (1 : Nat)) (p.V.length + (1 : Nat)))] (5 : Nat) [lv'])) :: (lo' :: ((AObj.cells (0 : Nat) [(I ((p.R.getD r.toNat r0).d)), (flL ((p.R.getD r.toNat r0).v)), (flLL ((p.R.getD r.toNat r0).w)), (I ((p.R.getD r.toNat r0).m))]) :: (AObj.resv :: (AObj.resv :: Y'))))))) [(1, (AV.row [(flL (p.V)), (flLL (p.C)), (flR (p.R))] (0 : Nat)), true), (3, (AV.ref (2 : Nat) (0 : Nat) (0 : Nat)), true), (56, (flR (p.R)), true), (57, (I ((↑p.R.length : Int))), true), (58, (I (IntKind.i64.wrap (r + (1 : Int)))), true)]))))))) (.leaf ((Exit.exit (2 : Nat)), St.of 136 ((AObj.cells (0 : Nat) uc) :: ((AObj.cells (0 : Nat) rc) :: ((AObj.cells (0 : Nat) [(flL (p.V)), (flLL (p.C)), (flR (p.R)), AV.zs, (I ((0 : Int))), lv, (AV.ms (1 : Nat) (0 : Nat) (0 : Nat) (0 : Nat) (List.length (p.V)) (List.length (p.V))), (AV.ms (1 : Nat) (1 : Nat) (0 : Nat) (0 : Nat) (p.V.length + (1 : Nat)) (p.V.length + (1 : Nat)))]) :: (lo :: (AObj.resv :: (AObj.resv :: (AObj.resv :: Y))))))) [(1, (AV.row [(flL (p.V)), (flLL (p.C)), (flR (p.R))] (0 : Nat)), true), (3, (AV.ref (2 : Nat) (0 : Nat) (0 : Nat)), true), (56, (flR (p.R)), true), (57, (I ((↑p.R.length : Int))), true), (58, (I r), true)])) := by kernel_rfl
end Go.Proofs.Ytngaihdpmoajeaa.Am

namespace Go.Proofs.Ytngaihdpmoajeaa.Am
open Go
set_option maxRecDepth 100000

def uA (p : Pb) : Nat → List (List Use)
  | 0 => List.replicate p.V.length []
  | r + 1 => usM (uA p r) (p.R.getD r r0) r (p.R.getD r r0).v.length
def lfK (p : Pb) : Nat → List Int
  | 0 => []
  | r + 1 => lfK p r ++ [leftM (p.R.getD r r0) (p.R.getD r r0).v.length]
theorem uA_len (p : Pb) : ∀ r, (uA p r).length = p.V.length
  | 0 => by simp [uA]
  | r + 1 => by unfold uA; rw [usM_len, uA_len p r]
theorem lfK_len (p : Pb) : ∀ r, (lfK p r).length = r
  | 0 => rfl
  | r + 1 => by unfold lfK; rw [List.length_append, lfK_len p r]; rfl
theorem uA_le {p : Pb} (hp : Ok p) (v : Nat) : ∀ r, ((uA p r).getD v []).length ≤ 24 * r
  | 0 => by
    have : (uA p 0).getD v [] = [] := by
      unfold uA
      rw [List.getD_eq_getElem?_getD, List.getElem?_replicate]
      split <;> rfl
    rw [this]
    exact Nat.zero_le _
  | r + 1 => by
    have ih := uA_le hp v r
    have h1 := usM_le (uA p r) (p.R.getD r r0) r v (p.R.getD r r0).v.length
    have h2 := rule_len (rule_getD hp r)
    have h3 := hp.n
    unfold uA
    omega
/-- The objects but the rule's. -/
def keep4 (n : Nat) : Nat → Option Nat := fun q => if q = 4 then none else if q < n then some q else none
theorem keep4_at {n q : Nat} (h5 : q ≠ 4) (hq : q < n) : keep4 n q = some q := by simp [keep4, h5, hq]
theorem keep4_some {n q z : Nat} (h : keep4 n q = some z) : q ≠ 4 ∧ q < n ∧ z = q := by
  unfold keep4 at h
  split at h
  · cases h
  · split at h
    · cases h; exact ⟨‹_›, ‹_›, rfl⟩
    · cases h
def good4 (n r : Nat) : Prop := r ≠ 4 ∧ r < n
theorem only_sV' {P : Nat → Prop} {s r : Nat} {rows : List (List AV)} (h : P r) : Only P (sV s r rows) := by
  cases rows with
  | nil => exact .zs
  | cons x l => exact .ms _ _ _ _ _ _ h
theorem only_ucs4 {n : Nat} (us : List (List Use)) (hn : 7 + us.length ≤ n) : ∀ x ∈ ucs us, Only (good4 n) x := fun x hx => by
  unfold ucs at hx
  obtain ⟨i, hi, rfl⟩ := List.mem_mapIdx.1 hx
  exact only_sV' ⟨by omega, by omega⟩
/-- The rule's variable is forgotten. -/
theorem hre_rule {p : Pb} {us us' : List (List Use)} {rs l l' : List Int} {X : AObj} (hl : us'.length = us.length) :
    HRe G0 (keep4 (7 + us.length)) (hS p us rs l .resv) (hS p us' rs l' X) (hS p us' rs l' .resv) := by
  have hk : ∀ r, good4 (7 + us.length) r → (hS p us' rs l' X)[r]? = some .resv ∨ keep4 (7 + us.length) r = some r := fun r hr => .inr (keep4_at hr.1 hr.2)
  have same : ∀ {q g : Nat} {c : List AV}, keep4 (7 + us.length) q = some q → (hS p us' rs l' X)[q]? = some (.cells g c) → (∀ z ∈ c, Only (good4 (7 + us.length)) z) → ORe G0 (keep4 (7 + us.length)) (hS p us' rs l' X) q (.cells g c) :=
    fun {q g c} h1 h2 h3 => ⟨q, c, h1, h2, rfl, fun j y hj => ⟨y, hj, Re.only hk (h3 y (List.mem_of_getElem? hj))⟩⟩
  have hlen : ∀ (us : List (List Use)) (l : List Int) (X : AObj), (hS p us rs l X).length = 7 + us.length := fun us l X => by unfold hS; rw [hN_len, uY_len]
  refine ⟨gbelow0, fun q o ho hne => ?_, fun q q' z h1 h2 => ?_, fun q z h1 => ?_, fun q o ho => ?_⟩
  · have hq : q < 7 + us.length := by
      have := (List.getElem?_eq_some_iff.1 ho).1
      rwa [hlen] at this
    refine keep4_at (fun e => ?_) hq
    subst e; cases ho; exact hne rfl
  · have := keep4_some h1
    have := keep4_some h2
    omega
  · rw [hlen]
    have := keep4_some h1
    omega
  · match q, ho with
    | 0, ho => cases ho; exact same (keep4_at (by omega) (by omega)) rfl (only_ucs4 us' (by omega))
    | 1, ho =>
      cases ho
      refine same (keep4_at (by omega) (by omega)) rfl fun z hz => ?_
      obtain ⟨n, _, rfl⟩ := List.mem_map.1 hz
      exact .int _ _
    | 2, ho =>
      cases ho
      refine same (keep4_at (by omega) (by omega)) rfl fun z hz => ?_
      simp only [List.mem_cons, List.not_mem_nil, or_false] at hz
      rcases hz with rfl | rfl | rfl | rfl | rfl | rfl | rfl | rfl
      · exact .of0 (below_flL _)
      · exact .of0 (below_flLL _)
      · exact .of0 (below_flR _)
      · exact .zs
      · exact .int _ _
      · exact only_sV' ⟨by omega, by omega⟩
      · exact .ms _ _ _ _ _ _ ⟨by omega, by omega⟩
      · exact .ms _ _ _ _ _ _ ⟨by omega, by omega⟩
    | 3, ho =>
      have ho' : some (sO (rowI l')) = some o := ho
      cases ho'
      cases l' with
      | nil => exact fun z hz => by obtain ⟨_, _, rfl⟩ := keep4_some hz; rfl
      | cons y t =>
        refine same (q := 3) (g := (rowI t).length) (c := (rowI (y :: t)).flatten) (keep4_at (by omega) (by omega)) rfl fun z hz => ?_
        rw [rowI_flatten] at hz
        obtain ⟨n, _, rfl⟩ := List.mem_map.1 hz
        exact .int _ _
    | 4, ho => cases ho; exact fun z hz => absurd rfl (keep4_some hz).1
    | 5, ho => cases ho; exact fun z hz => by obtain ⟨_, _, rfl⟩ := keep4_some hz; rfl
    | 6, ho => cases ho; exact fun z hz => by obtain ⟨_, _, rfl⟩ := keep4_some hz; rfl
    | q + 7, ho =>
      have ho' : (uY us')[q]? = some o := ho
      have hq : q < us.length := by have := (List.getElem?_eq_some_iff.1 ho').1; rw [uY_len] at this; omega
      have hsome := ho'
      rw [uY_get us' (by omega)] at ho'
      cases ho'
      obtain ⟨g, c0, h | ⟨h1, h2, h3, h4⟩⟩ := hu_same (π := keep4 (7 + us.length)) (σ := hS p us' rs l' X) hsome
      · rw [h.2]
        intro z hz
        obtain ⟨_, _, rfl⟩ := keep4_some hz
        show (uY us')[q]? = _
        rw [hsome, h.2]
      · rw [h2]
        exact ⟨q + 7, c0, keep4_at (by omega) (by omega), h1, h3.symm, h4⟩
theorem loopsOu : (∀ x ∈ loopsOf bodyO, idOf x = 11 → x = bodyM) ∧ ∀ x ∈ loopsOf bodyO, idOf x = 17 → x = bodyI := two_loops loopsO (by kernel_rfl) (by kernel_rfl) (by omega)
theorem aZero56 : (aZero Try.prog 56).map AV.cells = some [I 0, .zs, .zs, I 0] := by kernel_rfl
theorem only_stO (p : Pb) (uc rc : List AV) (lv : AV) (lo X : AObj) (Y : Heap) (r : Int) (n : Nat) (hn : 7 ≤ n) : ∀ y ∈ (stO p uc rc lv lo X Y r).a, Only (good4 n) y := of_all (fun q hq => by
  simp only [List.mem_cons, List.not_mem_nil, or_false] at hq
  rcases hq with rfl | rfl | rfl | rfl | rfl
  · exact .of0 (below_row (below_pb p))
  · exact .ref _ _ _ ⟨by omega, by omega⟩
  · exact .of0 (below_flR _)
  · exact .int _ _
  · exact .int _ _) .junk
theorem runOe (p : Pb) (uc rc : List AV) (lv : AV) (lo : AObj) (Y : Heap) : xBody Try.prog G0 { boxRow := false, clh := failH, hint := hNoAl } 200 noLoops keepO bodyO (stO p uc rc lv lo .resv Y p.R.length) = .ite (decide ((↑p.R.length : Int) < (↑p.R.length : Int))) (.need (((0 : Int) ≤ (↑p.R.length : Int)) ∧ ((↑p.R.length : Int) < (↑p.R.length : Int))) (.need (False) .fail)) (.leaf ((Exit.exit (2 : Nat)), St.of 136 ((AObj.cells (0 : Nat) uc) :: ((AObj.cells (0 : Nat) rc) :: ((AObj.cells (0 : Nat) [(flL (p.V)), (flLL (p.C)), (flR (p.R)), AV.zs, (I ((0 : Int))), lv, (AV.ms (1 : Nat) (0 : Nat) (0 : Nat) (0 : Nat) (List.length (p.V)) (List.length (p.V))), (AV.ms (1 : Nat) (1 : Nat) (0 : Nat) (0 : Nat) (p.V.length + (1 : Nat)) (p.V.length + (1 : Nat)))]) :: (lo :: (AObj.resv :: (AObj.resv :: (AObj.resv :: Y))))))) [(1, (AV.row [(flL (p.V)), (flLL (p.C)), (flR (p.R))] (0 : Nat)), true), (3, (AV.ref (2 : Nat) (0 : Nat) (0 : Nat)), true), (56, (flR (p.R)), true), (57, (I ((↑p.R.length : Int))), true), (58, (I ((↑p.R.length : Int))), true)])) := by kernel_rfl
theorem loopO {p : Pb} (hs : p.sh) (hp : Ok p) (rs : List Int) : LoopA bodyO p.R.length (fun r => stO p (ucs (uA p r)) (rs.map I) (sV 1 3 (rowI (lfK p r))) (sO (rowI (lfK p r))) .resv (uY (uA p r)) r) (fun r => stO p (ucs (uA p r)) (rs.map I) (sV 1 3 (rowI (lfK p r))) (sO (rowI (lfK p r))) .resv (uY (uA p r)) r)
    (stO p (ucs (uA p p.R.length)) (rs.map I) (sV 1 3 (rowI (lfK p p.R.length))) (sO (rowI (lfK p p.R.length))) .resv (uY (uA p p.R.length)) p.R.length) .ret (.exit 2) fun _ => false where
  n0 _ := rfl
  nR _ := rfl
  nX := rfl
  neR := nofun
  neX := nofun
  go r hr _ _ := by
    have hR := hp.r
    have hx := rule_getD hp r
    have hxs := sh_getR hs.2.2.2.2 r
    have hm := (loopM hp hx hxs (us := uA p r) (uA_len p r) (fun v => by have := uA_le hp v r; omega) rs (lfK p r) r).okB (fun _ _ => rfl) (c := bodyO) (i := 11) (keep := keepM) loopsOu.1
    have e0 : leftM (p.R.getD r r0) 0 = (p.R.getD r r0).m := by unfold leftM; exact Int.sub_zero _
    simp only [e0] at hm
    have hl := lfK_len p r
    have hcl : ClOk Try.prog G0 (EO (leftM (p.R.getD r r0) (p.R.getD r r0).v.length) (sV 1 3 (rowI (lfK p r))) (sV 1 3 (rowI (lfK p (r + 1)))) (sO (rowI (lfK p r))) (sO (rowI (lfK p (r + 1)))) True) := by
      refine .all ((hAlO_ok 4 aZero56 rfl fun n y hy => ?_).or ((hApO_ok els22 fun _ => grow_I (by omega) _ 3).or (hSto_ok 2 one22).ok)) failH_ok (fun l xs σ t v σ' h => (by cases h)) fun f xs t v h => by cases h
      simp only [List.mem_cons, List.not_mem_nil, or_false] at hy
      rcases hy with rfl | rfl | rfl | rfl
      · exact .int _ _
      · exact .zs
      · exact .zs
      · exact .int _ _
    have key := runO True p (ucs (uA p r)) (ucs (uA p (r + 1))) (rs.map I) (sV 1 3 (rowI (lfK p r))) (sV 1 3 (rowI (lfK p (r + 1)))) (sO (rowI (lfK p r))) (sO (rowI (lfK p (r + 1)))) (uY (uA p r)) (uY (uA p (r + 1))) r (leftM (p.R.getD r r0) (p.R.getD r r0).v.length)
    rw [Int.toNat_natCast, wrapS hr hs.2.2.2.1] at key
    have hsel : (xBody Try.prog G0 _ 200 _ keepO bodyO _).sel = some (.normal, stO p (ucs (uA p (r + 1))) (rs.map I) (sV 1 3 (rowI (lfK p (r + 1)))) (sO (rowI (lfK p (r + 1)))) (.cells 0 (rlC (p.R.getD r r0))) (uY (uA p (r + 1))) (r + 1 : Nat)) := (congrArg Tree.sel key).trans (by
      refine t_ite (fun _ => ?_) fun h => absurd (of_decide_eq_false h) (by omega)
      repeat first
        | refine t_need rfl ?_
        | refine t_need ⟨by omega, by omega⟩ ?_
        | refine t_need ⟨rfl, rfl, trivial⟩ ?_
        | refine t_need ⟨one_sV, by omega⟩ ?_
      rfl)
    have hexec := (xBody_ok (m := []) (R := fun q => q = none) names mixed hcl hm hsel).1
    have hre : HRe G0 (keep4 (7 + (uA p r).length)) (hS p (uA p r) rs (lfK p r) .resv) (hS p (uA p (r + 1)) rs (lfK p (r + 1)) (.cells 0 (rlC (p.R.getD r r0)))) (hS p (uA p (r + 1)) rs (lfK p (r + 1)) .resv) := hre_rule (by rw [uA_len, uA_len])
    exact hexec.re hre nofun rfl fun j y hj => ⟨y, hj, Re.only (P := good4 (7 + (uA p r).length)) (fun q hq => .inr (keep4_at hq.1 hq.2)) (only_stO p _ _ _ _ _ _ _ _ (by omega) y (List.mem_of_getElem? hj))⟩
  st r _ _ h := by cases h
  en _ := rnd (.all hNoAl_ok.ok failH_ok (fun l xs σ t v σ' h => (by cases h)) fun f xs t v h => by cases h) (lpNo _) ((congrArg Tree.sel (runOe p _ _ _ _ _)).trans (selIf (dF (by omega)))) rfl
end Go.Proofs.Ytngaihdpmoajeaa.Am

