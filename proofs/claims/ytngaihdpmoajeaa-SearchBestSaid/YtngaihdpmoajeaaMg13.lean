/-
  This file proves nothing of a law. It holds lemmas, of 8 texts in their order. No condition of its own.
-/
import Derived.Test.YtngaihdpmoajeaaMg12
import Derived.Test.YtngaihdpmoajeaaMg10
import Derived.Test.YtngaihdpmoajeaaMg9
namespace Go.Proofs.Ytngaihdpmoajeaa.Am
open Go
set_option maxRecDepth 100000

/-! ### A tree says so, whatever the heap -/
def SaysE (t : Tree (AV × Bool × Heap)) (v : AV) : Prop := ∃ s h, t.sel = some (v, s, h)
theorem sE_leaf {v : AV} {s : Bool} {h : Heap} : SaysE (.leaf (v, s, h)) v := ⟨s, h, rfl⟩
theorem sE_need {p : Prop} {x : Tree (AV × Bool × Heap)} {v : AV} (hp : p) (hx : SaysE x v) : SaysE (.need p x) v := by
  obtain ⟨s, h, hs⟩ := hx
  exact ⟨s, h, (selN hp).trans hs⟩
theorem sE_true {b : Bool} {x y : Tree (AV × Bool × Heap)} {v : AV} (hb : b = true) (hx : SaysE x v) : SaysE (.ite b x y) v := by subst hb; exact hx
theorem sE_false {b : Bool} {x y : Tree (AV × Bool × Heap)} {v : AV} (hb : b = false) (hy : SaysE y v) : SaysE (.ite b x y) v := by subst hb; exact hy
theorem ACall.saysE {E : Env} (hcl : ClOk Try.prog G0 E) {n : Nat} {f : FuncId} {xs : List AV} {tags : List Bool} {h : Heap} {v : AV} {t : Tree (AV × Bool × Heap)}
    (he : xCall Try.prog G0 E n f xs tags h = t) (hs : SaysE t v) : ∃ h', ACall Try.prog G0 f xs h v h' := by
  obtain ⟨s, h', hs⟩ := hs
  exact ⟨h', xCall_ok names mixed hcl ((congrArg Tree.sel he).trans hs)⟩
/-! ### The law's own problem -/
theorem cutL_sh (L : List (List Int)) : sh (cutL L 26) ∧ ∀ l ∈ cutL L 26, sh l := by
  refine ⟨?_, fun l hl => ?_⟩
  · show ((L.take 26).map _).length < _
    rw [List.length_map, List.length_take]
    omega
  · obtain ⟨x, _, rfl⟩ := List.mem_map.1 hl
    show (x.take 20).length < _
    rw [List.length_take]
    omega
theorem own_sh (p : Pb) : (ownP p).sh := by
  have ht : ∀ L : List Int, sh (L.take 26) := fun L => by
    show (L.take 26).length < _
    rw [List.length_take]
    omega
  refine ⟨ht _, (cutL_sh _).1, (cutL_sh _).2, ?_, fun x hx => ?_⟩
  · show ((p.R.take (ownN p)).map cutR).length < _
    have : ownN p ≤ 2049 := by unfold ownN; split <;> omega
    rw [List.length_map, List.length_take]
    omega
  · obtain ⟨y, _, rfl⟩ := List.mem_map.1 hx
    exact ⟨ht _, (cutL_sh _).1, (cutL_sh _).2⟩
theorem cutL_cutL (L : List (List Int)) : cutL (cutL L 26) 26 = cutL L 26 := by
  unfold cutL
  rw [← List.map_take, List.take_take, List.map_map, Nat.min_self]
  congr 1
  funext x
  show (x.take 20).take 20 = x.take 20
  rw [List.take_take, Nat.min_self]
theorem cutR_cutR (x : Rl) : cutR (cutR x) = cutR x := by
  unfold cutR
  simp only [cutL_cutL, List.take_take, Nat.min_self]
theorem own_own (p : Pb) : ownP (ownP p) = ownP p := by
  have hN : ownN (ownP p) = ownN p := by
    show (if ((p.R.take (ownN p)).map cutR).length > 2048 then 2049 else 12) = ownN p
    rw [List.length_map, List.length_take]
    unfold ownN
    by_cases h : p.R.length > 2048
    · rw [if_pos h, if_pos (by omega)]
    · rw [if_neg h, if_neg (by omega)]
  show Pb.mk ((p.V.take 26).take 26) (cutL (cutL p.C 26) 26) ((((p.R.take (ownN p)).map cutR).take (ownN (ownP p))).map cutR) = Pb.mk (p.V.take 26) (cutL p.C 26) ((p.R.take (ownN p)).map cutR)
  rw [hN, cutL_cutL, List.take_take, Nat.min_self, ← List.map_take, List.take_take, Nat.min_self, List.map_map]
  congr 1
  refine List.map_congr_left fun x _ => cutR_cutR x
/-! ### What both find -/
theorem sh_beg {p : Pb} (hp : Ok p) {a : List Int} (ha : Beg p a) : sh a := beg_sh hp ha
theorem solve_both (p : Pb) : ∃ (a : List Int) (c e : Int), sh a ∧ solveR p (bestW p []) = .tup [flL a, I c, I e] ∧ solveR p (refW p []) = .tup [flL a, I c, I e] := by
  unfold solveR
  cases hv : validP p with
  | false => exact ⟨[], 0, 1, sh_nil, rfl, rfl⟩
  | true =>
    have hp := valid_iff.1 hv
    rw [best_ref hp (beg_nil p)]
    cases hr : refW p [] with
    | none => exact ⟨[], 0, 7, sh_nil, rfl, rfl⟩
    | some x => exact ⟨x, costA p x, 0, beg_sh hp (refW_beg hp (beg_nil p) hr).1, rfl, rfl⟩
theorem first_both (p : Pb) : ∃ (a : List Int) (e : Int), sh a ∧ (bif validP p then resF (firstW p) else .tup [flL [], I 1]) = .tup [flL a, I e] ∧ (bif validP p then resF (refF p) else .tup [flL [], I 1]) = .tup [flL a, I e] := by
  cases hv : validP p with
  | false => exact ⟨[], 1, sh_nil, rfl, rfl⟩
  | true =>
    have hp := valid_iff.1 hv
    rw [first_ref hp]
    cases hr : refF p with
    | none => exact ⟨[], 7, sh_nil, rfl, rfl⟩
    | some x => exact ⟨x, 0, beg_sh hp (refF_beg hp hr).1, rfl, rfl⟩
theorem least_both (p : Pb) (a : List Int) : ∃ c e : Int, leastR p a (bestW p a) = .tup [I c, I e] ∧ leastR p a (refW p a) = .tup [I c, I e] := by
  unfold leastR
  cases hv : validP p with
  | false => exact ⟨0, 1, rfl, rfl⟩
  | true =>
    cases hb : begB p a with
    | false => exact ⟨0, 2, rfl, rfl⟩
    | true =>
      rw [best_ref (valid_iff.1 hv) (beg_iff.1 hb)]
      cases refW p a with
      | none => exact ⟨0, 7, rfl, rfl⟩
      | some x => exact ⟨costA p x, 0, rfl, rfl⟩
theorem count_both (p : Pb) (m : Int) : ∃ n e : Int, countR p m (countW p m) = .tup [I n, I e] ∧ countR p m (refN p m) = .tup [I n, I e] := by
  unfold countR
  cases hv : validP p with
  | false => exact ⟨0, 1, rfl, rfl⟩
  | true =>
    cases hb : inB m 0 1000000 with
    | false => exact ⟨0, 2, rfl, rfl⟩
    | true =>
      rw [count_ref (valid_iff.1 hv) (inB_iff.1 hb).1]
      exact ⟨_, 0, rfl, rfl⟩
theorem refl_eq {b : List Int} (h : sh b) (σ : Heap) : ACall Try.prog G0 23 [flL b, flL b] σ (.bool true) σ := by
  have := c23 (b := b) h σ
  rwa [beq_self_eq_true] at this
theorem same_self {o : Pb} (h : o.sh) (σ : Heap) : ACall Try.prog G0 30 [pAV o, pAV o] σ (.bool true) σ := by
  have := c30 (y := o) h σ
  rwa [dT rfl] at this
theorem need30 (a : List Int) (m : Nat) : (some (I (if (m : Int) < (a.length : Int) then (m : Int) else (a.length : Int)))) = some (I ((min a.length m : Nat) : Int)) := by
  congr 2
  split <;> omega
/-! ### SearchSolves -/
theorem call7 {p : Pb} (hs : p.sh) : ∃ σ', ACall Try.prog G0 7 [pAV p] [] (.bool true) σ' := by
  obtain ⟨a, c, e, ha, h1, h2⟩ := solve_both (ownP p)
  obtain ⟨b, g, hb, h3, h4⟩ := first_both (ownP p)
  have ho := own_sh p
  have hcl : ClOk Try.prog G0 (EN (k7 p (ownP p) (flL a) (flL b) (smallB (ownP p)) c e g) H7) := clokN (fun z hz xs hx σ => by
    simp only [k7, List.mem_cons, List.not_mem_nil, or_false] at hz
    rcases hz with rfl | rfl | rfl | rfl | rfl | rfl | rfl | rfl | rfl
    · rcases hx with rfl | rfl
      · exact c10 hs σ
      · have := c10 ho σ
        rwa [own_own] at this
    · obtain rfl : xs = _ := hx; exact c11 ho σ
    · obtain rfl : xs = _ := hx; exact c12 σ
    · obtain rfl : xs = _ := hx; exact h1 ▸ c21 ho σ
    · obtain rfl : xs = _ := hx; exact h2 ▸ c33 ho σ
    · obtain rfl : xs = _ := hx; exact h3 ▸ c22 ho σ
    · obtain rfl : xs = _ := hx; exact h4 ▸ c34 ho σ
    · rcases hx with rfl | rfl
      · exact refl_eq ha σ
      · exact refl_eq hb σ
    · obtain rfl : xs = _ := hx; exact same_self ho σ) ((hStA_ok 26 0).ok.or (hStA_ok 26 1).ok)
  refine ACall.saysE hcl (run7 p (ownP p) (flL a) (flL b) _ c e g) ?_
  cases smallB (ownP p) <;>
  repeat' (first
    | exact sE_leaf
    | refine sE_need (by first | exact rfl | exact .inl rfl | exact .inr rfl | exact ⟨rfl, rfl, Nat.le_refl _⟩) ?_
    | refine sE_true (by first | exact rfl | exact beq_self_eq_true _) ?_
    | refine sE_false rfl ?_)
/-! ### SearchCounts -/
theorem call3 {p : Pb} (hs : p.sh) (a : List Int) (m : Int) : ∃ σ', ACall Try.prog G0 3 [pAV p, flL a, I m] [] (.bool true) σ' := by
  have ho := own_sh p
  have ha : sh (a.take (min a.length 30)) := by
    show (a.take _).length < _
    rw [List.length_take]
    omega
  obtain ⟨c, e, h1, h2⟩ := least_both (ownP p) (a.take (min a.length 30))
  obtain ⟨n, g, h3, h4⟩ := count_both (ownP p) m
  have hcl : ClOk Try.prog G0 (EN (k3 p (ownP p) (a.take (min a.length 30)) m (smallB (ownP p)) c e n g) (H3 a)) := clokN (fun z hz xs hx σ => by
    simp only [k3, List.mem_cons, List.not_mem_nil, or_false] at hz
    rcases hz with rfl | rfl | rfl | rfl | rfl | rfl | rfl | rfl
    · obtain rfl : xs = _ := hx; exact c10 hs σ
    · obtain rfl : xs = _ := hx; exact c11 ho σ
    · obtain rfl : xs = _ := hx; exact c12 σ
    · obtain rfl : xs = _ := hx; exact c14d (by rw [List.length_take]; omega) σ
    · obtain rfl : xs = _ := hx; exact h1 ▸ c13 ho ha σ
    · obtain rfl : xs = _ := hx; exact h2 ▸ c15 ho ha σ
    · obtain rfl : xs = _ := hx; exact h3 ▸ c16 ho m σ
    · obtain rfl : xs = _ := hx; exact h4 ▸ c17 ho m σ) ((hStA_ok 26 0).ok.or (hSlAt_ok _ _ _))
  refine ACall.saysE hcl (run3 p (ownP p) a m _ c e n g) ?_
  cases smallB (ownP p) <;>
  repeat' (first
    | exact sE_leaf
    | refine sE_need (by first | exact rfl | exact .inl rfl | exact .inr rfl | exact ⟨rfl, rfl, Nat.le_refl _⟩ | exact ⟨rfl, need30 a 30, Nat.min_le_left _ _⟩) ?_
    | refine sE_true (by first | exact rfl | exact beq_self_eq_true _) ?_
    | refine sE_false rfl ?_)
/-! ### SearchChecks -/
theorem only_sh (p : Pb) (hs : p.sh) (D : List Int) : (onlyP p D).sh := by
  unfold onlyP
  cases validP p with
  | false => exact ⟨sh_nil, sh_nil, fun _ h => (by cases h), sh_nil, fun _ h => (by cases h)⟩
  | true =>
    refine ⟨hs.1, hs.2.1, hs.2.2.1, ?_, fun x hx => hs.2.2.2.2 x (List.mem_filter.1 hx).1⟩
    have h1 : (p.R.filter fun x => D.contains x.d).length ≤ p.R.length := List.length_filter_le _ _
    have h2 : p.R.length < _ := hs.2.2.2.1
    show (p.R.filter fun x => D.contains x.d).length < _
    omega
theorem brkL_sh {p : Pb} (hs : p.sh) (a : List Int) : sh (if whole p a = 0 then brkL p a p.R.length else []) := by
  split
  · have h1 := brkL_len p a p.R.length
    have h2 : p.R.length < _ := hs.2.2.2.1
    show (brkL p a p.R.length).length < _
    omega
  · exact sh_nil
theorem call6 {p : Pb} (hs : p.sh) (a d : List Int) : ∃ σ', ACall Try.prog G0 6 [pAV p, flL a, flL d] [] (.bool true) σ' := by
  have ho := own_sh p
  have ha : sh (a.take (min a.length 30)) := by
    show (a.take _).length < _
    rw [List.length_take]
    omega
  have hd : sh (d.take (min d.length 20)) := by
    show (d.take _).length < _
    rw [List.length_take]
    omega
  have hcl : ClOk Try.prog G0 (EN (k6 p (ownP p) (onlyP (ownP p) (d.take (min d.length 20))) (a.take (min a.length 30)) (d.take (min d.length 20)) (if whole (ownP p) (a.take (min a.length 30)) = 0 then brkL (ownP p) (a.take (min a.length 30)) (ownP p).R.length else []) (validP (ownP p))
      (if whole (ownP p) (a.take (min a.length 30)) = 0 then costA (ownP p) (a.take (min a.length 30)) else 0) (whole (ownP p) (a.take (min a.length 30))) (whole (ownP p) (a.take (min a.length 30)))) (H6 a d)) := clokN (fun z hz xs hx σ => by
    simp only [k6, List.mem_cons, List.not_mem_nil, or_false] at hz
    rcases hz with rfl | rfl | rfl | rfl | rfl | rfl | rfl | rfl | rfl | rfl | rfl | rfl | rfl
    · rcases hx with rfl | rfl
      · exact c10 hs σ
      · have := c10 ho σ
        rwa [own_own] at this
    · rcases hx with rfl | rfl
      · exact c14d (by rw [List.length_take]; omega) σ
      · exact c14d (by rw [List.length_take]; omega) σ
    · obtain rfl : xs = _ := hx; exact c24 ho ha σ
    · obtain rfl : xs = _ := hx; exact c26 ho ha σ
    · obtain rfl : xs = _ := hx; exact c25 ho ha σ
    · obtain rfl : xs = _ := hx; exact c27 ho ha σ
    · obtain rfl : xs = _ := hx; exact refl_eq (brkL_sh ho _) σ
    · obtain rfl : xs = _ := hx; exact c28 ho σ
    · obtain rfl : xs = _ := hx; exact c29 ho σ
    · obtain rfl : xs = _ := hx; exact c31 ho hd σ
    · obtain rfl : xs = _ := hx; exact c32 ho hd σ
    · rcases hx with rfl | rfl
      · exact same_self (only_sh _ ho _) σ
      · exact same_self ho σ
    · obtain rfl : xs = _ := hx; exact c12 σ) ((hStA_ok 26 0).ok.or ((hStA_ok 26 1).ok.or ((hSlAt_ok _ _ _).or (hSlAt_ok _ _ _))))
  refine ACall.saysE hcl (run6 p (ownP p) _ a d _ _ _ _ _) ?_
  repeat' (first
    | exact sE_leaf
    | refine sE_need (by first | exact rfl | exact .inl rfl | exact .inr rfl | exact ⟨rfl, rfl, Nat.le_refl _⟩ | exact ⟨rfl, need30 a 30, Nat.min_le_left _ _⟩ | exact ⟨rfl, need30 d 20, Nat.min_le_left _ _⟩) ?_
    | refine sE_true (by first | exact rfl | exact beq_self_eq_true _) ?_
    | refine sE_false (by first | exact rfl | exact bne_self_eq_false _) ?_)
end Go.Proofs.Ytngaihdpmoajeaa.Am

namespace Go.Proofs.Ytngaihdpmoajeaa.Am
open Go
set_option maxRecDepth 100000

/-- The loop at a place of a code's loops. -/
theorem nth_loop {c : Code} {k i : Nat} {b : Code} {ids : List Nat} (h1 : (loopsOf c).map idOf = ids) (hn : ids.Nodup) (hb : (loopsOf c)[k]? = some b) (hi : ids[k]? = some i) : ∀ x ∈ loopsOf c, idOf x = i → x = b := by
  intro x hx hxi
  obtain ⟨j, hj⟩ := List.mem_iff_getElem?.1 hx
  have hj2 : ids[j]? = some i := by rw [← h1, List.getElem?_map, hj]; exact congrArg some hxi
  have hjl : j < ids.length := (List.getElem?_eq_some_iff.1 hj2).1
  have : j = k := (List.getElem?_inj hjl hn).1 (hj2.trans hi.symm)
  subst this
  exact Option.some.inj (hj.symm.trans hb)
noncomputable def body20c : Code := (loopsOf (bodyOf Try.prog 20)).headD .skip
noncomputable def body20r : Code := ((loopsOf (bodyOf Try.prog 20)).drop 1).headD .skip
noncomputable def body20i : Code := ((loopsOf (bodyOf Try.prog 20)).drop 2).headD .skip
theorem loops20c : ∀ x ∈ loopsOf (bodyOf Try.prog 20), idOf x = 3 → x = body20c := nth_loop (k := 0) (ids := [3, 8, 12]) (by kernel_rfl) (by decide) (by kernel_rfl) rfl
theorem loops20r : ∀ x ∈ loopsOf (bodyOf Try.prog 20), idOf x = 8 → x = body20r := nth_loop (k := 1) (ids := [3, 8, 12]) (by kernel_rfl) (by decide) (by kernel_rfl) rfl
theorem loops20i : loopsOf body20r = [body20i] := by kernel_rfl
def st20c (p : Pb) (a : List Int) (c k : Int) (h : Heap) : St := .of 68 h [(1, flL a, true), (2, .row (pbC p) 0, true), (4, .bool false, false), (5, I 0, true), (6, I c, true), (14, flL a, true), (15, I a.length, true), (16, I k, true)]
def st20r (p : Pb) (a : List Int) (c e k : Int) (h : Heap) : St := .of 68 h [(1, flL a, true), (2, .row (pbC p) 0, true), (4, .bool false, false), (5, I e, true), (6, I c, true), (33, flR p.R, true), (34, I p.R.length, true), (35, I k, true)]
def st20i (p : Pb) (x : Rl) (a : List Int) (c s k j : Int) : St := .of 68 [.cells 0 (rlC x)] [(1, flL a, true), (2, .row (pbC p) 0, true), (4, .bool false, false), (5, I 0, true), (6, I c, true), (10, .ref 0 0 0, true), (11, I s, true), (33, flR p.R, true), (34, I p.R.length, true), (35, I k, true), (40, flL x.v, true), (41, I x.v.length, true), (42, I j, true)]
theorem run20c (p : Pb) (a : List Int) (c k : Int) (h : Heap) : xBody Try.prog G0 {} 200 noLoops [1, 2, 4, 5, 6, 14, 15, 16] body20c (st20c p a c k h) = .ite (decide (k < (↑a.length : Int))) (.need (((0 : Int) ≤ k) ∧ (k < (↑a.length : Int))) (.need (((0 : Int) ≤ k) ∧ (k < (↑p.C.length : Int))) (.need (((0 : Int) ≤ a.getD k.toNat (0 : Int)) ∧ (a.getD k.toNat (0 : Int) < (↑(p.C.getD k.toNat []).length : Int))) (.leaf (Exit.normal, St.of 68 h [(1, (flL (a)), true), (2, (AV.row [(flL (p.V)), (flLL (p.C)), (flR (p.R))] (0 : Nat)), true), (4, (AV.bool false), false), (5, (I ((0 : Int))), true), (6, (I (IntKind.i64.wrap (c + (p.C.getD k.toNat []).getD (a.getD k.toNat (0 : Int)).toNat (0 : Int)))), true), (14, (flL (a)), true), (15, (I ((↑a.length : Int))), true), (16, (I (IntKind.i64.wrap (k + (1 : Int)))), true)]))))) (.leaf ((Exit.exit (0 : Nat)), St.of 68 h [(1, (flL (a)), true), (2, (AV.row [(flL (p.V)), (flLL (p.C)), (flR (p.R))] (0 : Nat)), true), (4, (AV.bool false), false), (5, (I ((0 : Int))), true), (6, (I c), true), (14, (flL (a)), true), (15, (I ((↑a.length : Int))), true), (16, (I k), true)])) := by kernel_rfl
theorem run20i (p : Pb) (x : Rl) (a : List Int) (c s k j : Int) : xBody Try.prog G0 {} 200 noLoops [1, 2, 4, 5, 6, 10, 11, 33, 34, 35, 40, 41, 42] body20i (st20i p x a c s k j) = .ite (decide (j < (↑x.v.length : Int))) (.need (((0 : Int) ≤ j) ∧ (j < (↑x.v.length : Int))) (.need (((0 : Int) ≤ j) ∧ (j < (↑x.w.length : Int))) (.need (((0 : Int) ≤ x.v.getD j.toNat (0 : Int)) ∧ (x.v.getD j.toNat (0 : Int) < (↑a.length : Int))) (.need (((0 : Int) ≤ a.getD (x.v.getD j.toNat (0 : Int)).toNat (0 : Int)) ∧ (a.getD (x.v.getD j.toNat (0 : Int)).toNat (0 : Int) < (↑(x.w.getD j.toNat []).length : Int))) (.leaf (Exit.normal, St.of 68 [(AObj.cells (0 : Nat) [(I (x.d)), (flL (x.v)), (flLL (x.w)), (I (x.m))])] [(1, (flL (a)), true), (2, (AV.row [(flL (p.V)), (flLL (p.C)), (flR (p.R))] (0 : Nat)), true), (4, (AV.bool false), false), (5, (I ((0 : Int))), true), (6, (I c), true), (10, (AV.ref (0 : Nat) (0 : Nat) (0 : Nat)), true), (11, (I (IntKind.i64.wrap (s + (x.w.getD j.toNat []).getD (a.getD (x.v.getD j.toNat (0 : Int)).toNat (0 : Int)).toNat (0 : Int)))), true), (33, (flR (p.R)), true), (34, (I ((↑p.R.length : Int))), true), (35, (I k), true), (40, (flL (x.v)), true), (41, (I ((↑x.v.length : Int))), true), (42, (I (IntKind.i64.wrap (j + (1 : Int)))), true)])))))) (.leaf ((Exit.exit (4 : Nat)), St.of 68 [(AObj.cells (0 : Nat) [(I (x.d)), (flL (x.v)), (flLL (x.w)), (I (x.m))])] [(1, (flL (a)), true), (2, (AV.row [(flL (p.V)), (flLL (p.C)), (flR (p.R))] (0 : Nat)), true), (4, (AV.bool false), false), (5, (I ((0 : Int))), true), (6, (I c), true), (10, (AV.ref (0 : Nat) (0 : Nat) (0 : Nat)), true), (11, (I s), true), (33, (flR (p.R)), true), (34, (I ((↑p.R.length : Int))), true), (35, (I k), true), (40, (flL (x.v)), true), (41, (I ((↑x.v.length : Int))), true), (42, (I j), true)])) := by kernel_rfl
theorem run20r (p : Pb) (a : List Int) (c k s j : Int) : xBody0 Try.prog G0 {} 200 (lpB 12 [1, 2, 4, 5, 6, 10, 11, 33, 34, 35, 40, 41, 42] (st20i p (p.R.getD k.toNat r0) a c 0 k 0) (.exit 4) (st20i p (p.R.getD k.toNat r0) a c s k j)) [1, 2, 4, 5, 6, 33, 34, 35] body20r (st20r p a c 0 k []) = .ite (decide (k < (↑p.R.length : Int))) (.need (((0 : Int) ≤ k) ∧ (k < (↑p.R.length : Int))) (.need ((st20i p (p.R.getD k.toNat r0) a c 0 k 0).vals = (st20i p (p.R.getD k.toNat r0) a c 0 k 0).vals) (.ite (decide (s > (p.R.getD k.toNat r0).m)) (.leaf (Exit.ret, St.of 68 [] [(1, (flL (a)), true), (2, (AV.row [(flL (p.V)), (flLL (p.C)), (flR (p.R))] (0 : Nat)), true), (4, (AV.bool false), false), (5, (I c), true), (6, (I c), true), (33, (flR (p.R)), true), (34, (I ((↑p.R.length : Int))), true), (35, (I k), true)])) (.leaf (Exit.normal, St.of 68 [] [(1, (flL (a)), true), (2, (AV.row [(flL (p.V)), (flLL (p.C)), (flR (p.R))] (0 : Nat)), true), (4, (AV.bool false), false), (5, (I ((0 : Int))), true), (6, (I c), true), (33, (flR (p.R)), true), (34, (I ((↑p.R.length : Int))), true), (35, (I (IntKind.i64.wrap (k + (1 : Int)))), true)]))))) (.leaf ((Exit.exit (2 : Nat)), St.of 68 [] [(1, (flL (a)), true), (2, (AV.row [(flL (p.V)), (flLL (p.C)), (flR (p.R))] (0 : Nat)), true), (4, (AV.bool false), false), (5, (I ((0 : Int))), true), (6, (I c), true), (33, (flR (p.R)), true), (34, (I ((↑p.R.length : Int))), true), (35, (I k), true)])) := by kernel_rfl
theorem runF20 (p : Pb) (a : List Int) (c k1 k2 k3 : Int) (t : Bool) : xenter Try.prog {} (xCode Try.prog G0 {} 200 (lpAnd (lpB 3 [1, 2, 4, 5, 6, 14, 15, 16] (st20c p a 0 0 []) (.exit 0) (st20c p a c k1 [])) (lpA 8 [1, 2, 4, 5, 6, 33, 34, 35] (st20r p a c 0 0 []) t .ret (st20r p a c c k2 []) (.exit 2) (st20r p a c 0 k3 [])))) 20 [pAV p, flL a] [true, true] [] = .need ((st20c p a 0 0 []).vals = (st20c p a 0 0 []).vals) (.need ((st20r p a c 0 0 []).vals = (st20r p a c 0 0 []).vals) (.ite (t) (.leaf ((AV.tup [(AV.bool false), (I c)]), true, [])) (.leaf ((AV.tup [(AV.bool true), (I c)]), true, [])))) := by kernel_rfl
theorem full_beg {p : Pb} {a : List Int} (ha : Full p a) : Beg p a := ha.1
theorem loop20c {p : Pb} (hp : Ok p) {a : List Int} (ha : Beg p a) : LoopA body20c a.length (fun k => st20c p a (sumK (costT p a) k) k []) (fun k => st20c p a (sumK (costT p a) k) k []) (st20c p a (costA p a) a.length []) .ret (.exit 0) fun _ => false := by
  refine .lin (fun _ => rfl) rfl nofun fun k hk => ⟨_, _, _, clok0, lpNo _, fun hlt => (congrArg Tree.sel (run20c p a _ k [])).trans ?_, fun he => (congrArg Tree.sel (run20c p a _ k [])).trans ?_⟩
  · have h1 := costK_bound hp ha (k := k + 1) (by omega)
    have h2 := beg_nat hp ha hlt
    have h3 := hp.c
    have h4 := ha.len
    have e : sumK (costT p a) (k + 1) = sumK (costT p a) k + (p.C.getD k []).getD (a.getD k 0).toNat 0 := rfl
    rw [selIt (dT (by omega)), selN ⟨by omega, by omega⟩, selN ⟨by omega, by omega⟩, Int.toNat_natCast, selN ⟨by omega, by omega⟩, ← e, wrap_i64 (by omega) (by omega), wrapS hlt (beg_sh hp ha)]
    rfl
  · rw [selIf (dF (by omega)), he]
    rfl
theorem loop20i {p : Pb} (hp : Ok p) {x : Rl} (hx : OkRule p.V x) (hs : x.sh) {a : List Int} (ha : Full p a) (c k : Int) : LoopA body20i x.v.length (fun j => st20i p x a c (sumK (leastT x a) j) k j) (fun j => st20i p x a c (sumK (leastT x a) j) k j) (st20i p x a c (leastA x a) k x.v.length) .ret (.exit 4) fun _ => false := by
  refine .lin (fun _ => rfl) rfl nofun fun j hj => ⟨_, _, _, clok0, lpNo _, fun hlt => (congrArg Tree.sel (run20i p x a c _ k j)).trans ?_, fun he => (congrArg Tree.sel (run20i p x a c _ k j)).trans ?_⟩
  · have h1 := leastK_bound hp hx ha.1 (k := j + 1) (by omega)
    have h3 := hx.len
    have hc := full_lt ha hx hlt
    have h2 := rule_beg hx ha.1 hlt hc
    have e : sumK (leastT x a) (j + 1) = sumK (leastT x a) j + leastT x a j := rfl
    have e2 : leastT x a j = (x.w.getD j []).getD (a.getD (x.v.getD j 0).toNat 0).toNat 0 := by unfold leastT; rw [dT hc]; rfl
    rw [wrapS hlt hs.1, Int.toNat_natCast, selIt (dT (by omega)), selN ⟨by omega, by omega⟩, ← e2, ← e, wrapI (by omega)]
    exact t_need ⟨by omega, by omega⟩ (t_need ⟨by omega, hc⟩ (t_need ⟨by omega, by omega⟩ rfl))
  · rw [selIf (dF (by omega)), he]
    rfl
theorem clean20r (p : Pb) (a : List Int) (c e k : Int) : (st20r p a c e k []).clean ∧ (st20r p a c e k []).h = [] := ⟨clean_of ⟨below_flL _, below_row (below_pb p), .bool _, .int _ _, .int _ _, below_flR _, .int _ _, .int _ _, trivial⟩, rfl⟩
theorem loop20r {p : Pb} (hs : p.sh) (hp : Ok p) {a : List Int} (ha : Full p a) (c : Int) : LoopA body20r p.R.length (fun k => st20r p a c 0 k []) (fun k => st20r p a c c k []) (st20r p a c 0 p.R.length []) .ret (.exit 2) (bad50 p a false) := by
  refine .of0 (fun _ => rfl) (fun _ => rfl) rfl nofun nofun (fun k => clean20r p a c 0 k) (fun k => clean20r p a c c k) (clean20r p a c 0 _) fun k hk hj => ?_
  have hi := (loop20i hp (rule_getD hp k) (sh_getR hs.2.2.2.2 k) ha c k).okB (fun _ _ => rfl) (c := body20r) (i := 12) (keep := [1, 2, 4, 5, 6, 10, 11, 33, 34, 35, 40, 41, 42]) (one_loop loops20i)
  have key := congrArg Tree.sel (run20r p a c k (leastA (p.R.getD k r0) a) (p.R.getD k r0).v.length)
  rw [Int.toNat_natCast] at key
  refine ⟨_, _, _, clok0, hi, fun hlt => key.trans ?_, fun he => key.trans ?_⟩
  · rw [wrapS hlt hs.2.2.2.1]
    refine (selIt (dT (by omega))).trans (t_need ⟨by omega, by omega⟩ (t_need rfl ?_))
    unfold bad50
    rw [Bool.false_and, cond_false]
    exact t_ite (fun h1 => by rw [h1]; rfl) fun h1 => by rw [h1]; rfl
  · rw [selIf (dF (by omega)), he]
    rfl
/-- WHAT good RETURNS. -/
theorem c20 {p : Pb} (hs : p.sh) (hp : Ok p) {a : List Int} (ha : Full p a) (h : Heap) : ACall Try.prog G0 20 [pAV p, flL a] h (.tup [.bool (posB p a false), I (costA p a)]) h := by
  refine ACall.lift0 (h' := []) ?_ (below_tup2 (.bool _) (.int _ _)) gbelow0 below_args2 h
  have h1 := (loop20c hp ha.1).okB (fun _ _ => rfl) (c := bodyOf Try.prog 20) (i := 3) (keep := [1, 2, 4, 5, 6, 14, 15, 16]) loops20c
  have h2 := (loop20r hs hp ha (costA p a)).ok (c := bodyOf Try.prog 20) (i := 8) (keep := [1, 2, 4, 5, 6, 33, 34, 35]) loops20r
  unfold posB
  refine ACall.says clok0 (lpAnd_ok h1 h2) (runF20 p a _ _ _ _ _) (says_need rfl (says_need rfl ?_))
  rw [anyK_stop]
  exact says_ite (fun hc => by rw [hc]; exact says_leaf) (fun hc => by rw [hc]; exact says_leaf)
end Go.Proofs.Ytngaihdpmoajeaa.Am

namespace Go.Proofs.Ytngaihdpmoajeaa.Am
open Go
set_option maxRecDepth 100000

/-! ### Puzzles -/
/-- A clause of a puzzle. -/
structure Cs where
  d : Int
  u : Int
  w : List Int
  m : Int
/-- A puzzle. -/
structure Pz where
  V : List Int
  C : List Int
  R : List Cs
def c0 : Cs := ⟨0, 0, [], 0⟩
def flB (L : List Int) : AV := .fl 1 L.length fun i => [.int .u8 (L.getD i 0)]
def flT (L : List Int) : AV := .fl 1 L.length fun i => [.int .i8 (L.getD i 0)]
def csC (c : Cs) : List AV := [.int .u8 c.d, .int .u8 c.u, flT c.w, .int .i8 c.m]
def flC (R : List Cs) : AV := .fl 4 R.length fun i => csC (R.getD i c0)
def pzC (x : Pz) : List AV := [flB x.V, flB x.C, flC x.R]
def pzAV (x : Pz) : AV := .agg (pzC x)
/-! ### Bits, remainders by unknown numbers -/
def uand8 (a b : Int) : Int := IntKind.u8.wrap ((BitVec.ofInt IntKind.u8.bits a &&& BitVec.ofInt IntKind.u8.bits b).toNat)
def ushr8 (a b : Int) : Int := a.fdiv (2 ^ (min b.toNat IntKind.u8.bits))
def hBit : Heap → Oper → (Operand → Option AV) → Option (AV × Bool × Heap × Prop) := fun h o ρ => match o.op with
  | .binOp .shr _ x y _ => match ρ x, ρ y with
    | some (.int .u8 a), some (.int .i64 b) => some (.int .u8 (ushr8 a b), true, h, 0 ≤ b)
    | _, _ => none
  | .binOp .and _ x y _ => match ρ x, ρ y with
    | some (.int .u8 a), some (.int .u8 b) => some (.int .u8 (uand8 a b), true, h, True)
    | _, _ => none
  | .binOp .rem _ x y _ => match ρ x, ρ y with
    | some (.int .i64 a), some (.int .i64 b) => some (I (a.tmod b), true, h, b ≠ 0)
    | _, _ => none
  | _ => none
theorem hBit_ok : HintA Try.prog hBit := by
  intro h o ρ y s h' p hh hp
  unfold hBit at hh
  split at hh
  · rename_i t x z g ho
    split at hh
    · rename_i a b hx hz
      cases hh
      unfold aopR
      simp only [ho, hx, hz, aBin, if_neg (by omega : ¬ b < 0), Option.map_some]
      rfl
    · cases hh
  · rename_i t x z g ho
    split at hh
    · rename_i a b hx hz
      cases hh
      unfold aopR
      simp only [ho, hx, hz, aBin]
      rfl
    · cases hh
  · rename_i t x z g ho
    split at hh
    · rename_i a b hx hz
      cases hh
      unfold aopR
      simp only [ho, hx, hz, aBin, if_neg hp]
      rfl
    · cases hh
  · cases hh
/-! ### The loops -/
noncomputable def b18 : Code := bodyOf Try.prog 18
noncomputable def lp18 (i : Nat) : Code := ((loopsOf b18).drop i).headD .skip
theorem ids18 : (loopsOf b18).map idOf = [4, 10, 19, 24, 29] := by kernel_rfl
noncomputable def body18A : Code := lp18 0
noncomputable def body18B : Code := lp18 1
noncomputable def body18C : Code := lp18 2
noncomputable def body18D : Code := lp18 3
noncomputable def body18E : Code := lp18 4
def hA (v : AV) (o : AObj) (w : AV) (q l : AObj) : Heap := [o, q, .resv, l, .resv, .resv, .cells 0 zPb, .cells 0 [v, w, .zs]]
def stA (x : Pz) (v : AV) (o : AObj) (w : AV) (q : AObj) (at' i : Int) : St := .of 162 (hA v o w q .resv) [(1, .row (pzC x) 0, true), (2, .ref 6 0 0, true), (3, .ref 7 0 0, true), (4, I at', true), (5, I i, true)]
def keepA : List Nat := [1, 2, 3, 4, 5]
def stB (x : Pz) (v : AV) (o : AObj) (w : AV) (q : AObj) (i n : Int) (at' : Int) (s : AV) (l : AObj) (j : Int) : St := .of 162 (hA v o w q l) [(1, .row (pzC x) 0, true), (2, .ref 6 0 0, true), (3, .ref 7 0 0, true), (4, I at', true), (5, I i, true), (7, s, true), (42, I n, true), (43, I j, true)]
def keepB : List Nat := [1, 2, 3, 4, 5, 7, 42, 43]
theorem run18B (g : Prop) (x : Pz) (v : AV) (o : AObj) (w : AV) (q : AObj) (i n at' : Int) (s s' : AV) (l l' : AObj) (j c : Int) : xBodyT { boxRow := false, hint := hApO 22 1 3 [I c] s s' l l' g } 200 noLoops keepB 8 body18B (stB x v o w q i n at' s l j) = .ite (decide (j < n)) (.ite (decide (at' < (↑x.C.length : Int))) (.need (((0 : Int) ≤ at') ∧ (at' < (↑x.C.length : Int))) (.need (((Option.some [s, (AV.sl (1 : Nat) [[(I (IntKind.i64.wrap (x.C.getD at'.toNat (0 : Int))))]])]) = (Option.some [s, (AV.sl (1 : Nat) [[(I c)]])])) ∧ (((Option.some l) = (Option.some l)) ∧ (g))) (.leaf (Exit.normal, St.of 162 [o, q, AObj.resv, l', AObj.resv, AObj.resv, (AObj.cells (0 : Nat) [AV.zs, AV.zs, AV.zs]), (AObj.cells (0 : Nat) [v, w, AV.zs])] [(1, (AV.row [(AV.fl (1 : Nat) (List.length (x.V)) (fun i => [AV.int IntKind.u8 (x.V.getD i (0 : Int))])), (AV.fl (1 : Nat) (List.length (x.C)) (fun i => [AV.int IntKind.u8 (x.C.getD i (0 : Int))])), (AV.fl (4 : Nat) (List.length (x.R)) (fun i => csC (x.R.getD i c0)))] (0 : Nat)), true), (2, (AV.ref (6 : Nat) (0 : Nat) (0 : Nat)), true), (3, (AV.ref (7 : Nat) (0 : Nat) (0 : Nat)), true), (4, (I (IntKind.i64.wrap (at' + (1 : Int)))), true), (5, (I i), true), (7, s', true), (42, (I n), true), (43, (I (IntKind.i64.wrap (j + (1 : Int)))), true)])))) (.need (((Option.some [s, (AV.sl (1 : Nat) [[(I ((0 : Int)))]])]) = (Option.some [s, (AV.sl (1 : Nat) [[(I c)]])])) ∧ (((Option.some l) = (Option.some l)) ∧ (g))) (.leaf (Exit.normal, St.of 162 [o, q, AObj.resv, l', AObj.resv, AObj.resv, (AObj.cells (0 : Nat) [AV.zs, AV.zs, AV.zs]), (AObj.cells (0 : Nat) [v, w, AV.zs])] [(1, (AV.row [(AV.fl (1 : Nat) (List.length (x.V)) (fun i => [AV.int IntKind.u8 (x.V.getD i (0 : Int))])), (AV.fl (1 : Nat) (List.length (x.C)) (fun i => [AV.int IntKind.u8 (x.C.getD i (0 : Int))])), (AV.fl (4 : Nat) (List.length (x.R)) (fun i => csC (x.R.getD i c0)))] (0 : Nat)), true), (2, (AV.ref (6 : Nat) (0 : Nat) (0 : Nat)), true), (3, (AV.ref (7 : Nat) (0 : Nat) (0 : Nat)), true), (4, (I (IntKind.i64.wrap (at' + (1 : Int)))), true), (5, (I i), true), (7, s', true), (42, (I n), true), (43, (I (IntKind.i64.wrap (j + (1 : Int)))), true)])))) (.leaf ((Exit.exit (2 : Nat)), St.of 162 [o, q, AObj.resv, l, AObj.resv, AObj.resv, (AObj.cells (0 : Nat) [AV.zs, AV.zs, AV.zs]), (AObj.cells (0 : Nat) [v, w, AV.zs])] [(1, (AV.row [(AV.fl (1 : Nat) (List.length (x.V)) (fun i => [AV.int IntKind.u8 (x.V.getD i (0 : Int))])), (AV.fl (1 : Nat) (List.length (x.C)) (fun i => [AV.int IntKind.u8 (x.C.getD i (0 : Int))])), (AV.fl (4 : Nat) (List.length (x.R)) (fun i => csC (x.R.getD i c0)))] (0 : Nat)), true), (2, (AV.ref (6 : Nat) (0 : Nat) (0 : Nat)), true), (3, (AV.ref (7 : Nat) (0 : Nat) (0 : Nat)), true), (4, (I at'), true), (5, (I i), true), (7, s, true), (42, (I n), true), (43, (I j), true)])) := by kernel_rfl
def mk18 (x : Pz) (i : Int) : Int := IntKind.i64.wrap (1 + Int.tmod (IntKind.i64.wrap (x.V.getD i.toNat 0)) 4)
theorem run18A (g : Prop) (x : Pz) (v v' : AV) (o o' : AObj) (w w' : AV) (q q' : AObj) (at' i n at2 : Int) (y : List Int) : xBodyT { boxRow := false, hint := orH (hApO 22 1 0 [I n] v v' o o' g) (orH (hApO 23 1 1 [flL y] w w' q q' g) (orH (hSto 22 7) (hSto 23 7))) } 200 (lpB 10 keepB (stB x v' o' w q i n at' .zs .resv 0) (.exit 2) (stB x v' o' w q i n at2 (flL y) .resv n)) keepA 8 body18A (stA x v o w q at' i) = .ite (decide (i < (↑x.V.length : Int))) (.ite (decide (i < (5 : Int))) (.need (((0 : Int) ≤ i) ∧ (i < (↑x.V.length : Int))) (.need (((Option.some [v, (AV.sl (1 : Nat) [[(I (IntKind.i64.wrap ((1 : Int) + (IntKind.i64.wrap (x.V.getD i.toNat (0 : Int))).tmod (4 : Int))))]])]) = (Option.some [v, (AV.sl (1 : Nat) [[(I n)]])])) ∧ (((Option.some o) = (Option.some o)) ∧ (g))) (.need (((AV.one v') = true) ∧ ((0 : Nat) < (3 : Nat))) (.need ((stB x v' o' w q i (mk18 x i) at' .zs .resv 0).vals = (stB x v' o' w q i n at' .zs .resv 0).vals) (.need (((Option.some [w, (AV.sl (1 : Nat) [[(flL (y))]])]) = (Option.some [w, (AV.sl (1 : Nat) [[(flL (y))]])])) ∧ (((Option.some q) = (Option.some q)) ∧ (g))) (.need (((AV.one w') = true) ∧ ((1 : Nat) < (3 : Nat))) (.leaf (Exit.normal, St.of 162 [o', q', AObj.resv, AObj.resv, AObj.resv, AObj.resv, (AObj.cells (0 : Nat) [AV.zs, AV.zs, AV.zs]), (AObj.cells (0 : Nat) (setL [v', w, AV.zs] (1 : Nat) [w']))] [(1, (AV.row [(AV.fl (1 : Nat) (List.length (x.V)) (fun i => [AV.int IntKind.u8 (x.V.getD i (0 : Int))])), (AV.fl (1 : Nat) (List.length (x.C)) (fun i => [AV.int IntKind.u8 (x.C.getD i (0 : Int))])), (AV.fl (4 : Nat) (List.length (x.R)) (fun i => csC (x.R.getD i c0)))] (0 : Nat)), true), (2, (AV.ref (6 : Nat) (0 : Nat) (0 : Nat)), true), (3, (AV.ref (7 : Nat) (0 : Nat) (0 : Nat)), true), (4, (I at2), true), (5, (I (IntKind.i64.wrap (i + (1 : Int)))), true)])))))))) (.leaf ((Exit.exit (0 : Nat)), St.of 162 [o, q, AObj.resv, AObj.resv, AObj.resv, AObj.resv, (AObj.cells (0 : Nat) [AV.zs, AV.zs, AV.zs]), (AObj.cells (0 : Nat) [v, w, AV.zs])] [(1, (AV.row [(AV.fl (1 : Nat) (List.length (x.V)) (fun i => [AV.int IntKind.u8 (x.V.getD i (0 : Int))])), (AV.fl (1 : Nat) (List.length (x.C)) (fun i => [AV.int IntKind.u8 (x.C.getD i (0 : Int))])), (AV.fl (4 : Nat) (List.length (x.R)) (fun i => csC (x.R.getD i c0)))] (0 : Nat)), true), (2, (AV.ref (6 : Nat) (0 : Nat) (0 : Nat)), true), (3, (AV.ref (7 : Nat) (0 : Nat) (0 : Nat)), true), (4, (I at'), true), (5, (I i), true)]))) (.leaf ((Exit.exit (0 : Nat)), St.of 162 [o, q, AObj.resv, AObj.resv, AObj.resv, AObj.resv, (AObj.cells (0 : Nat) [AV.zs, AV.zs, AV.zs]), (AObj.cells (0 : Nat) [v, w, AV.zs])] [(1, (AV.row [(AV.fl (1 : Nat) (List.length (x.V)) (fun i => [AV.int IntKind.u8 (x.V.getD i (0 : Int))])), (AV.fl (1 : Nat) (List.length (x.C)) (fun i => [AV.int IntKind.u8 (x.C.getD i (0 : Int))])), (AV.fl (4 : Nat) (List.length (x.R)) (fun i => csC (x.R.getD i c0)))] (0 : Nat)), true), (2, (AV.ref (6 : Nat) (0 : Nat) (0 : Nat)), true), (3, (AV.ref (7 : Nat) (0 : Nat) (0 : Nat)), true), (4, (I at'), true), (5, (I i), true)])) := by kernel_rfl

def hC (V : List Int) (C : List (List Int)) (v : AV) (r l vo wo : AObj) : Heap := [.resv, .resv, r, l, vo, wo, .cells 0 zPb, .cells 0 [flL V, flLL C, v]]
def stC (x : Pz) (V : List Int) (C : List (List Int)) (v : AV) (r : AObj) (k : Int) : St := .of 162 (hC V C v r .resv .resv .resv) [(1, .row (pzC x) 0, true), (2, .ref 6 0 0, true), (3, .ref 7 0 0, true), (9, I k, true)]
def keepC : List Nat := [1, 2, 3, 9]
def hD (V : List Int) (C : List (List Int)) (v : AV) (r l vo wo : AObj) (d : Int) (vv ww : AV) (m : Int) : Heap := [.resv, .resv, r, l, vo, wo, .cells 0 zPb, .cells 0 [flL V, flLL C, v], .cells 0 [I d, vv, ww, I m]]
def stD (x : Pz) (V : List Int) (C : List (List Int)) (v : AV) (r : AObj) (k d m : Int) (vv ww : AV) (vo wo : AObj) (at' j : Int) : St := .of 162 (hD V C v r .resv vo wo d vv ww m) [(1, .row (pzC x) 0, true), (2, .ref 6 0 0, true), (3, .ref 7 0 0, true), (9, I k, true), (10, .ref 8 0 0, true), (11, I at', true), (96, flL V, true), (97, I V.length, true), (98, I j, true)]
def keepD : List Nat := [1, 2, 3, 9, 10, 11, 96, 97, 98]
def stE (x : Pz) (V : List Int) (C : List (List Int)) (v : AV) (r : AObj) (k d m : Int) (vv ww : AV) (vo wo : AObj) (at' j u n : Int) (s : AV) (l : AObj) (i : Int) : St := .of 162 (hD V C v r l vo wo d vv ww m) [(1, .row (pzC x) 0, true), (2, .ref 6 0 0, true), (3, .ref 7 0 0, true), (9, I k, true), (10, .ref 8 0 0, true), (11, I at', true), (12, I u, true), (14, s, true), (96, flL V, true), (97, I V.length, true), (98, I j, true), (113, I n, true), (114, I i, true)]
def keepE : List Nat := [1, 2, 3, 9, 10, 11, 12, 14, 96, 97, 98, 113, 114]
theorem run18E (g : Prop) (x : Pz) (V : List Int) (C : List (List Int)) (v : AV) (r : AObj) (k d m : Int) (vv ww : AV) (vo wo : AObj) (at' j u n : Int) (s s' : AV) (l l' : AObj) (i c : Int) : xBodyT { boxRow := false, hint := hApO 22 1 3 [I c] s s' l l' g } 200 noLoops keepE 9 body18E (stE x V C v r k d m vv ww vo wo at' j u n s l i) = .ite (decide (i < n)) (.need (((0 : Int) ≤ k) ∧ (k < (↑x.R.length : Int))) (.ite (decide (at' < (↑(x.R.getD k.toNat c0).w.length : Int))) (.need (((0 : Int) ≤ k) ∧ (k < (↑x.R.length : Int))) (.need (((0 : Int) ≤ at') ∧ (at' < (↑(x.R.getD k.toNat c0).w.length : Int))) (.need (((Option.some [s, (AV.sl (1 : Nat) [[(I (IntKind.i64.wrap ((x.R.getD k.toNat c0).w.getD at'.toNat (0 : Int))))]])]) = (Option.some [s, (AV.sl (1 : Nat) [[(I c)]])])) ∧ (((Option.some l) = (Option.some l)) ∧ (g))) (.leaf (Exit.normal, St.of 162 [AObj.resv, AObj.resv, r, l', vo, wo, (AObj.cells (0 : Nat) [AV.zs, AV.zs, AV.zs]), (AObj.cells (0 : Nat) [(flL (V)), (flLL (C)), v]), (AObj.cells (0 : Nat) ((I d) :: (vv :: (ww :: ((I m) :: ([]))))))] [(1, (AV.row [(AV.fl (1 : Nat) (List.length (x.V)) (fun i => [AV.int IntKind.u8 (x.V.getD i (0 : Int))])), (AV.fl (1 : Nat) (List.length (x.C)) (fun i => [AV.int IntKind.u8 (x.C.getD i (0 : Int))])), (AV.fl (4 : Nat) (List.length (x.R)) (fun i => csC (x.R.getD i c0)))] (0 : Nat)), true), (2, (AV.ref (6 : Nat) (0 : Nat) (0 : Nat)), true), (3, (AV.ref (7 : Nat) (0 : Nat) (0 : Nat)), true), (9, (I k), true), (10, (AV.ref (8 : Nat) (0 : Nat) (0 : Nat)), true), (11, (I (IntKind.i64.wrap (at' + (1 : Int)))), true), (12, (I u), true), (14, s', true), (96, (flL (V)), true), (97, (I ((↑V.length : Int))), true), (98, (I j), true), (113, (I n), true), (114, (I (IntKind.i64.wrap (i + (1 : Int)))), true)]))))) (.need (((Option.some [s, (AV.sl (1 : Nat) [[(I ((0 : Int)))]])]) = (Option.some [s, (AV.sl (1 : Nat) [[(I c)]])])) ∧ (((Option.some l) = (Option.some l)) ∧ (g))) (.leaf (Exit.normal, St.of 162 [AObj.resv, AObj.resv, r, l', vo, wo, (AObj.cells (0 : Nat) [AV.zs, AV.zs, AV.zs]), (AObj.cells (0 : Nat) [(flL (V)), (flLL (C)), v]), (AObj.cells (0 : Nat) ((I d) :: (vv :: (ww :: ((I m) :: ([]))))))] [(1, (AV.row [(AV.fl (1 : Nat) (List.length (x.V)) (fun i => [AV.int IntKind.u8 (x.V.getD i (0 : Int))])), (AV.fl (1 : Nat) (List.length (x.C)) (fun i => [AV.int IntKind.u8 (x.C.getD i (0 : Int))])), (AV.fl (4 : Nat) (List.length (x.R)) (fun i => csC (x.R.getD i c0)))] (0 : Nat)), true), (2, (AV.ref (6 : Nat) (0 : Nat) (0 : Nat)), true), (3, (AV.ref (7 : Nat) (0 : Nat) (0 : Nat)), true), (9, (I k), true), (10, (AV.ref (8 : Nat) (0 : Nat) (0 : Nat)), true), (11, (I (IntKind.i64.wrap (at' + (1 : Int)))), true), (12, (I u), true), (14, s', true), (96, (flL (V)), true), (97, (I ((↑V.length : Int))), true), (98, (I j), true), (113, (I n), true), (114, (I (IntKind.i64.wrap (i + (1 : Int)))), true)]))))) (.leaf ((Exit.exit (8 : Nat)), St.of 162 [AObj.resv, AObj.resv, r, l, vo, wo, (AObj.cells (0 : Nat) [AV.zs, AV.zs, AV.zs]), (AObj.cells (0 : Nat) [(flL (V)), (flLL (C)), v]), (AObj.cells (0 : Nat) ((I d) :: (vv :: (ww :: ((I m) :: ([]))))))] [(1, (AV.row [(AV.fl (1 : Nat) (List.length (x.V)) (fun i => [AV.int IntKind.u8 (x.V.getD i (0 : Int))])), (AV.fl (1 : Nat) (List.length (x.C)) (fun i => [AV.int IntKind.u8 (x.C.getD i (0 : Int))])), (AV.fl (4 : Nat) (List.length (x.R)) (fun i => csC (x.R.getD i c0)))] (0 : Nat)), true), (2, (AV.ref (6 : Nat) (0 : Nat) (0 : Nat)), true), (3, (AV.ref (7 : Nat) (0 : Nat) (0 : Nat)), true), (9, (I k), true), (10, (AV.ref (8 : Nat) (0 : Nat) (0 : Nat)), true), (11, (I at'), true), (12, (I u), true), (14, s, true), (96, (flL (V)), true), (97, (I ((↑V.length : Int))), true), (98, (I j), true), (113, (I n), true), (114, (I i), true)])) := by kernel_rfl
theorem run18D (g : Prop) (x : Pz) (V : List Int) (C : List (List Int)) (v : AV) (r : AObj) (k d m : Int) (vv ww vv' ww' : AV) (vo wo vo' wo' : AObj) (at' at2 j : Int) (y : List Int) : xBodyT { boxRow := false, hint := orH (hApO 22 1 4 [I j] vv vv' vo vo' g) (orH (hApO 23 1 5 [flL y] ww ww' wo wo' g) (orH (hSto 22 8) (orH (hSto 23 8) hBit))) } 200 (lpB 29 keepE (stE x V C v r k d m vv ww vo wo at' j j (V.getD j.toNat 0) .zs .resv 0) (.exit 8) (stE x V C v r k d m vv ww vo wo at2 j j (V.getD j.toNat 0) (flL y) .resv (V.getD j.toNat 0))) keepD 9 body18D (stD x V C v r k d m vv ww vo wo at' j) = .ite (decide (j < (↑V.length : Int))) (.need (((0 : Int) ≤ j) ∧ (j < (↑V.length : Int))) (.need (((0 : Int) ≤ k) ∧ (k < (↑x.R.length : Int))) (.need ((0 : Int) ≤ j) (.need (True) (.ite (uand8 (ushr8 (x.R.getD k.toNat c0).u j) (1 : Int) == (0 : Int)) (.leaf (Exit.normal, St.of 162 [AObj.resv, AObj.resv, r, AObj.resv, vo, wo, (AObj.cells (0 : Nat) [AV.zs, AV.zs, AV.zs]), (AObj.cells (0 : Nat) [(flL (V)), (flLL (C)), v]), (AObj.cells (0 : Nat) ((I d) :: (vv :: (ww :: ((I m) :: ([]))))))] [(1, (AV.row [(AV.fl (1 : Nat) (List.length (x.V)) (fun i => [AV.int IntKind.u8 (x.V.getD i (0 : Int))])), (AV.fl (1 : Nat) (List.length (x.C)) (fun i => [AV.int IntKind.u8 (x.C.getD i (0 : Int))])), (AV.fl (4 : Nat) (List.length (x.R)) (fun i => csC (x.R.getD i c0)))] (0 : Nat)), true), (2, (AV.ref (6 : Nat) (0 : Nat) (0 : Nat)), true), (3, (AV.ref (7 : Nat) (0 : Nat) (0 : Nat)), true), (9, (I k), true), (10, (AV.ref (8 : Nat) (0 : Nat) (0 : Nat)), true), (11, (I at'), true), (96, (flL (V)), true), (97, (I ((↑V.length : Int))), true), (98, (I (IntKind.i64.wrap (j + (1 : Int)))), true)])) (.need ((stE x V C v r k d m vv ww vo wo at' j j (V.getD j.toNat 0) .zs .resv 0).vals = (stE x V C v r k d m vv ww vo wo at' j j (V.getD j.toNat 0) .zs .resv 0).vals) (.need (((Option.some [vv, (AV.sl (1 : Nat) [[(I j)]])]) = (Option.some [vv, (AV.sl (1 : Nat) [[(I j)]])])) ∧ (((Option.some vo) = (Option.some vo)) ∧ (g))) (.need (((AV.one vv') = true) ∧ ((1 : Nat) < (4 : Nat))) (.need (((Option.some [ww, (AV.sl (1 : Nat) [[(flL (y))]])]) = (Option.some [ww, (AV.sl (1 : Nat) [[(flL (y))]])])) ∧ (((Option.some wo) = (Option.some wo)) ∧ (g))) (.need (((AV.one ww') = true) ∧ ((2 : Nat) < (4 : Nat))) (.leaf (Exit.normal, St.of 162 [AObj.resv, AObj.resv, r, AObj.resv, vo', wo', (AObj.cells (0 : Nat) [AV.zs, AV.zs, AV.zs]), (AObj.cells (0 : Nat) [(flL (V)), (flLL (C)), v]), (AObj.cells (0 : Nat) (setL (setL ((AV.int (IntKind.i64) (d)) :: ((vv) :: ([ww, I m]))) (1 : Nat) [vv']) (2 : Nat) [ww']))] [(1, (AV.row [(AV.fl (1 : Nat) (List.length (x.V)) (fun i => [AV.int IntKind.u8 (x.V.getD i (0 : Int))])), (AV.fl (1 : Nat) (List.length (x.C)) (fun i => [AV.int IntKind.u8 (x.C.getD i (0 : Int))])), (AV.fl (4 : Nat) (List.length (x.R)) (fun i => csC (x.R.getD i c0)))] (0 : Nat)), true), (2, (AV.ref (6 : Nat) (0 : Nat) (0 : Nat)), true), (3, (AV.ref (7 : Nat) (0 : Nat) (0 : Nat)), true), (9, (I k), true), (10, (AV.ref (8 : Nat) (0 : Nat) (0 : Nat)), true), (11, (I at2), true), (96, (flL (V)), true), (97, (I ((↑V.length : Int))), true), (98, (I (IntKind.i64.wrap (j + (1 : Int)))), true)])))))))))))) (.leaf ((Exit.exit (6 : Nat)), St.of 162 [AObj.resv, AObj.resv, r, AObj.resv, vo, wo, (AObj.cells (0 : Nat) [AV.zs, AV.zs, AV.zs]), (AObj.cells (0 : Nat) [(flL (V)), (flLL (C)), v]), (AObj.cells (0 : Nat) ((I d) :: (vv :: (ww :: ((I m) :: ([]))))))] [(1, (AV.row [(AV.fl (1 : Nat) (List.length (x.V)) (fun i => [AV.int IntKind.u8 (x.V.getD i (0 : Int))])), (AV.fl (1 : Nat) (List.length (x.C)) (fun i => [AV.int IntKind.u8 (x.C.getD i (0 : Int))])), (AV.fl (4 : Nat) (List.length (x.R)) (fun i => csC (x.R.getD i c0)))] (0 : Nat)), true), (2, (AV.ref (6 : Nat) (0 : Nat) (0 : Nat)), true), (3, (AV.ref (7 : Nat) (0 : Nat) (0 : Nat)), true), (9, (I k), true), (10, (AV.ref (8 : Nat) (0 : Nat) (0 : Nat)), true), (11, (I at'), true), (96, (flL (V)), true), (97, (I ((↑V.length : Int))), true), (98, (I j), true)])) := by kernel_rfl
/-- The same as xBodyT, with statements whose order is open and that change the heap. -/
noncomputable def xBodyMT (E : Env) (mv : Nat → Option (List Nat × (Nat → Heap))) (n : Nat) (lp : Loops) (keep : List Nat) (m : Nat) (c : Code) (st : St) : Tree (Exit × St) :=
  (xCodeM Try.prog G0 E mv n lp c st).bind fun r => .leaf (r.1, { t := (r.2.only keep).t, n := r.2.n, h := r.2.h.take m })
theorem xBodyMT_ok {E : Env} (hcl : ClOk Try.prog G0 E) {mv : Nat → Option (List Nat × (Nat → Heap))} {R : Option Nat → Prop} {lp : Loops} {n m : Nat} {keep : List Nat} {c : Code} {st : St} {e : Exit} {st' : St} (hlp : LoopsOk Try.prog G0 R [] lp c)
    (h0 : st.h.length = m) (hc : CleanT m st') (hx : (xBodyMT E mv n lp keep m c st).sel = some (e, st')) : AExec Try.prog G0 R c { tmps := st.a } st.h e { tmps := st'.a } st'.h := by
  obtain ⟨⟨e0, st0⟩, h1, h2⟩ := Tree.of_bind hx
  cases h2
  obtain ⟨h3, h4⟩ := xCodeM_ok names mixed hcl n R [] lp c st _ _ hlp h1
  have h5 := h3.weak_post (a' := { tmps := st0.a, marks := [] }) (St.only_le keep st0)
  refine AExec.trim (g := st0.h.drop m) ?_ (hc.1.trans h0.symm) (by rw [h0]; exact hc.2.1) (by rw [h0]; exact hc.2.2)
  show AExec Try.prog G0 R c _ _ _ _ (st0.h.take m ++ st0.h.drop m)
  rw [List.take_append_drop]
  exact h5
noncomputable def mv18 (h : Heap) (d m : Int) : Nat → Option (List Nat × (Nat → Heap)) := fun id => bif Nat.beq id 21 then some ([15, 16], fun n => match n with
  | 0 => h
  | 1 => h ++ [.cells 0 [I 0, .zs, .zs, I 0]]
  | _ => h ++ [.cells 0 [I d, .zs, .zs, I m]]) else none
def dm18 (x : Pz) (k : Int) : Int := IntKind.i64.wrap (x.R.getD k.toNat c0).d
def mm18 (x : Pz) (k : Int) : Int := IntKind.i64.wrap (x.R.getD k.toNat c0).m
def E18C (g : Prop) (d m : Int) (U : List Int) (W : List (List Int)) (v v' : AV) (r r' : AObj) : Env := { boxRow := false, hint := orH (hApO 24 4 2 [I d, flL U, flLL W, I m] v v' r r' g) (orH (hSto 24 7) (hStA 56 8)) }
def EF18 : Env := { boxRow := true, hint := orH (hStA 26 6) (hStA 26 7) }
theorem runF18 (x : Pz) (V : List Int) (C : List (List Int)) (v : AV) (r : AObj) (a i k : Int) : xenter Try.prog EF18 (xCode Try.prog G0 EF18 200 (lpAnd (lpB 4 keepA (stA x .zs .resv .zs .resv 0 0) (.exit 0) (.of 162 (hC V C .zs .resv .resv .resv .resv) [(1, .row (pzC x) 0, true), (2, .ref 6 0 0, true), (3, .ref 7 0 0, true), (4, I a, true), (5, I i, true)])) (lpB 19 keepC (stC x V C .zs .resv 0) (.exit 4) (stC x V C v r k)))) 18 [pzAV x] [true] (List.replicate 6 .resv) = .need (((Option.some (3 : Nat)) = (Option.some (3 : Nat))) ∧ ((true = true) ∧ ((3 : Nat) ≤ (3 : Nat)))) (.need ((stA x .zs .resv .zs .resv 0 0).vals = (stA x .zs .resv .zs .resv 0 0).vals) (.need ((stC x V C .zs .resv 0).vals = (stC x V C .zs .resv 0).vals) (.need (((Option.some (3 : Nat)) = (Option.some (3 : Nat))) ∧ ((((List.take Try.prog.types[(26 : Nat)].size (List.drop (0 : Nat) [flL V, flLL C, v])).all AV.one) = true) ∧ ((3 : Nat) ≤ (3 : Nat)))) (.leaf ((AV.agg [(flL (V)), (flLL (C)), v]), true, [AObj.resv, AObj.resv, r, AObj.resv, AObj.resv, AObj.resv, (AObj.cells (0 : Nat) (setL [AV.zs, AV.zs, AV.zs] (0 : Nat) [(flL (V)), (flLL (C)), v])), (AObj.cells (0 : Nat) [(flL (V)), (flLL (C)), v])]))))) := by kernel_rfl
end Go.Proofs.Ytngaihdpmoajeaa.Am

namespace Go.Proofs.Ytngaihdpmoajeaa.Am
open Go
set_option maxRecDepth 100000

/-- Some places are given back. -/
def dropP (D : Nat → Bool) (n : Nat) : Nat → Option Nat := fun q => bif D q then none else if q < n then some q else none
theorem dropP_at {D : Nat → Bool} {n q : Nat} (h : D q = false) (hq : q < n) : dropP D n q = some q := by simp [dropP, h, hq]
theorem dropP_some {D : Nat → Bool} {n q z : Nat} (h : dropP D n q = some z) : D q = false ∧ q < n ∧ z = q := by
  unfold dropP at h
  cases hD : D q with
  | true => rw [hD] at h; cases h
  | false =>
    rw [hD, cond_false] at h
    split at h
    · cases h; exact ⟨rfl, ‹_›, rfl⟩
    · cases h
theorem dropP_none {D : Nat → Bool} {n r : Nat} (h : D r = true) : ∀ q, dropP D n q ≠ some r := fun q hq => by
  obtain ⟨h1, _, rfl⟩ := dropP_some hq
  rw [h] at h1; cases h1
def GoodD (D : Nat → Bool) (n r : Nat) : Prop := D r = false ∧ r < n
def OnlyO (P : Nat → Prop) : AObj → Prop
  | .cells _ c => ∀ x ∈ c, Only P x
  | .resv => True
  | .gone => True
  | _ => False
def ReC (π : Nat → Option Nat) (σ : Heap) : List AV → List AV → Prop
  | [], [] => True
  | x :: a, y :: b => Re G0 π σ x y ∧ ReC π σ a b
  | _, _ => False
theorem ReC.len {π : Nat → Option Nat} {σ : Heap} : ∀ {a b : List AV}, ReC π σ a b → b.length = a.length
  | [], [], _ => rfl
  | _ :: _, _ :: _, h => by rw [List.length_cons, List.length_cons, ReC.len h.2]
  | [], _ :: _, h => h.elim
  | _ :: _, [], h => h.elim
theorem ReC.at' {π : Nat → Option Nat} {σ : Heap} : ∀ {a b : List AV}, ReC π σ a b → ∀ (j : Nat) (y : AV), b[j]? = some y → ∃ x, a[j]? = some x ∧ Re G0 π σ x y
  | [], [], _, j, y, hj => by simp at hj
  | _ :: _, _ :: _, h, 0, y, hj => by cases hj; exact ⟨_, rfl, h.1⟩
  | _ :: _, _ :: _, h, j + 1, y, hj => ReC.at' h.2 j y hj
  | [], _ :: _, h, _, _, _ => h.elim
  | _ :: _, [], h, _, _, _ => h.elim
theorem Re.good {D : Nat → Bool} {n : Nat} {σ : Heap} {x : AV} (h : Only (GoodD D n) x) : Re G0 (dropP D n) σ x x := Re.only (fun _ hr => .inr (dropP_at hr.1 hr.2)) h
/-- What is to be shown of each object. -/
def DropO (D : Nat → Bool) (n : Nat) (σ1 : Heap) (r : Nat) (o : AObj) : Prop :=
  (D r = true ∧ o = .resv) ∨ (D r = false ∧ σ1[r]? = some o ∧ OnlyO (GoodD D n) o) ∨ (D r = false ∧ ∃ g c c0, o = .cells g c ∧ σ1[r]? = some (.cells g c0) ∧ ReC (dropP D n) σ1 c0 c)
def DropH (D : Nat → Bool) (n : Nat) (σ1 : Heap) : Nat → Heap → Prop
  | _, [] => True
  | r, o :: t => DropO D n σ1 r o ∧ DropH D n σ1 (r + 1) t
theorem DropH.at' {D : Nat → Bool} {n : Nat} {σ1 : Heap} : ∀ {t : Heap} {k : Nat}, DropH D n σ1 k t → ∀ (j : Nat) (o : AObj), t[j]? = some o → DropO D n σ1 (k + j) o
  | [], _, _, j, o, hj => by simp at hj
  | _ :: _, k, h, 0, o, hj => by cases hj; exact h.1
  | _ :: t, k, h, j + 1, o, hj => by
    have := DropH.at' (t := t) h.2 j o hj
    rwa [show k + 1 + j = k + (j + 1) by omega] at this
theorem HRe.drop {D : Nat → Bool} {n : Nat} {σ σ1 τ : Heap} (hs : σ.length = n) (ht : τ.length = n) (hσ : ∀ r o, σ[r]? = some o → D r = true → o = .resv) (ho : DropH D n σ1 0 τ) : HRe G0 (dropP D n) σ σ1 τ := by
  refine ⟨gbelow0, fun r o hr hne => ?_, fun r r' q h1 h2 => ?_, fun r q h => ?_, fun r o hr => ?_⟩
  · cases hD : D r with
    | true => exact absurd (hσ r o hr hD) hne
    | false => exact dropP_at hD (by have := (List.getElem?_eq_some_iff.1 hr).1; omega)
  · have := dropP_some h1
    have := dropP_some h2
    omega
  · have := dropP_some h
    omega
  · have hrn : r < n := by have := (List.getElem?_eq_some_iff.1 hr).1; omega
    have := ho.at' r o hr
    rw [Nat.zero_add] at this
    rcases this with ⟨h1, rfl⟩ | ⟨h1, h2, h3⟩ | ⟨h1, g, c, c0, rfl, h2, h3⟩
    · exact fun q hq => by rw [(dropP_some hq).1] at h1; cases h1
    · cases o with
      | cells g c => exact ⟨r, c, dropP_at h1 hrn, h2, rfl, fun j y hj => ⟨y, hj, Re.good (h3 y (List.mem_of_getElem? hj))⟩⟩
      | resv => exact fun q hq => by rw [(dropP_some hq).2.2]; exact h2
      | dfr => exact h3.elim
      | loop A => exact h3.elim
      | gone => trivial
    · exact ⟨r, c0, dropP_at h1 hrn, h2, h3.len, h3.at'⟩
/-- Frames, value by value. -/
def ReL (π : Nat → Option Nat) (σ : Heap) : List (Nat × AV × Bool) → List (Nat × AV × Bool) → Prop
  | [], [] => True
  | p :: l, q :: l' => p.1 = q.1 ∧ Re G0 π σ p.2.1 q.2.1 ∧ ReL π σ l l'
  | _, _ => False
theorem ReL.get {π : Nat → Option Nat} {σ : Heap} : ∀ {l l' : List (Nat × AV × Bool)} {t t' : PT}, ReL π σ l l' → (∀ j, Re G0 π σ (t.get j).1 (t'.get j).1) → ∀ j, Re G0 π σ ((l.foldl (fun t p => t.set p.1 p.2.1 p.2.2) t).get j).1 ((l'.foldl (fun t p => t.set p.1 p.2.1 p.2.2) t').get j).1
  | [], [], _, _, _, h, j => h j
  | p :: l, q :: l', t, t', hl, h, j => by
    rw [List.foldl_cons, List.foldl_cons]
    refine ReL.get hl.2.2 (fun j => ?_) j
    rw [PT.get_set, PT.get_set, hl.1]
    by_cases hj : j = q.1
    · rw [if_pos hj, if_pos hj]; exact hl.2.1
    · rw [if_neg hj, if_neg hj]; exact h j
  | [], _ :: _, _, _, hl, _, _ => hl.elim
  | _ :: _, [], _, _, hl, _, _ => hl.elim
theorem re_of {π : Nat → Option Nat} {σ : Heap} {n : Nat} {h h' : Heap} {l l' : List (Nat × AV × Bool)} (hl : ReL π σ l l') : ∀ (j : Nat) (y : AV), (St.of n h' l').a[j]? = some y → ∃ x, (St.of n h l).a[j]? = some x ∧ Re G0 π σ x y := by
  intro j y hj
  rw [St.at_eq] at hj
  unfold St.at at hj
  refine ⟨((St.of n h l).t.get j).1, ?_, ?_⟩
  · rw [St.at_eq]
    unfold St.at
    cases hb : Nat.blt j (St.of n h' l').n with
    | false => rw [hb] at hj; cases hj
    | true =>
      have : Nat.blt j (St.of n h l).n = true := hb
      rw [this]
      rfl
  · cases hb : Nat.blt j (St.of n h' l').n with
    | false => rw [hb] at hj; cases hj
    | true =>
      rw [hb] at hj
      cases hj
      exact ReL.get hl (fun j => by rw [PT.get_nil]; exact Re.junk) j
/-- A loop of which the whole run is known. -/
theorem lpB_exec {i : Nat} {keep : List Nat} {S X : St} {e : Exit} {body c : Code} (hr : AExec Try.prog G0 (fun r => r = none) (.loop body) { tmps := S.a } S.h e { tmps := X.a } X.h) (hn : X.n = S.n) (hu : ∀ x ∈ loopsOf c, idOf x = i → x = body) :
    LoopsOk Try.prog G0 (fun r => r = none) [] (lpB i keep S e X) c := by
  refine .of_list _ fun x hm => ?_
  intro kp s0 t e' st' h' hsel
  unfold lpB at h'
  cases hb : Nat.beq (idOf x) i with
  | false => rw [hb, cond_false] at h'; cases h'
  | true =>
    rw [hb, cond_true] at h'
    obtain rfl := hu x hm (Nat.eq_of_beq_eq_true hb)
    cases h'
    cases hsel
    exact ⟨hr, hn⟩
/-- The run of a loop that goes to its end. -/
theorem LoopA.exec {body : Code} {N : Nat} {S R : Nat → St} {X : St} {eR eX : Exit} {stop : Nat → Bool} (hs : LoopA body N S R X eR eX stop) (hn : ∀ k, k < N → stop k = false) :
    AExec Try.prog G0 (fun r => r = none) (.loop body) { tmps := (S 0).a } (S 0).h eX { tmps := X.a } X.h := by
  have key := hs.run N 0 (by omega) (fun j h => absurd h (by omega))
  unfold endA at key
  rw [decide_eq_false (fun h => by
    obtain ⟨k, h1, h2⟩ := (fstStop_iff _ _).1 h
    rw [hn k h1] at h2; cases h2)] at key
  exact .loop key
/-- The run of a loop at whose end places are given back. -/
theorem LoopA.drop {body : Code} {N n : Nat} {S R : Nat → St} {eR eX : Exit} {stop : Nat → Bool} {D : Nat → Bool} {m : Nat} {h h' : Heap} {l l' : List (Nat × AV × Bool)} (hs : LoopA body N S R (St.of m h l) eR eX stop) (hn : ∀ k, k < N → stop k = false)
    (h0 : (S 0).h.length = n) (ht : h'.length = n) (hσ : ∀ r o, (S 0).h[r]? = some o → D r = true → o = .resv) (ho : DropH D n h 0 h') (hl : ReL (dropP D n) h l l') :
    AExec Try.prog G0 (fun r => r = none) (.loop body) { tmps := (S 0).a } (S 0).h eX { tmps := (St.of m h' l').a } h' :=
  (hs.exec hn).re (.drop h0 ht hσ ho) nofun (by simp [St.a, St.of]) (re_of hl)
theorem onlyO_sO {P : Nat → Prop} {rows : List (List AV)} (h : ∀ x ∈ rows, ∀ y ∈ x, Below 0 y) : OnlyO P (sO rows) := by
  cases rows with
  | nil => trivial
  | cons x l =>
    intro y hy
    obtain ⟨z, hz, hy⟩ := List.mem_flatten.1 hy
    exact .of0 (h z hz y hy)
theorem onlySV {P : Nat → Prop} {s r : Nat} {rows : List (List AV)} (h : P r) : Only P (sV s r rows) := by
  cases rows with
  | nil => exact .zs
  | cons x l => exact .ms _ _ _ _ _ _ h
end Go.Proofs.Ytngaihdpmoajeaa.Am

namespace Go.Proofs.Ytngaihdpmoajeaa.Am
open Go
set_option maxRecDepth 100000

/-- The numbers of a puzzle are of 8 bits. -/
structure Pz.ok (x : Pz) : Prop where
  v : ∀ k, 0 ≤ x.V.getD k 0 ∧ x.V.getD k 0 ≤ 255
  c : ∀ k, 0 ≤ x.C.getD k 0 ∧ x.C.getD k 0 ≤ 255
  d : ∀ k, 0 ≤ (x.R.getD k c0).d ∧ (x.R.getD k c0).d ≤ 255
  m : ∀ k, -128 ≤ (x.R.getD k c0).m ∧ (x.R.getD k c0).m ≤ 127
  w : ∀ k j, -128 ≤ (x.R.getD k c0).w.getD j 0 ∧ (x.R.getD k c0).w.getD j 0 ≤ 127
def preL {α : Type} (f : Nat → α) (k : Nat) : List α := (List.range k).map f
theorem preL_succ {α : Type} (f : Nat → α) (k : Nat) : preL f (k + 1) = preL f k ++ [f k] := by simp [preL, List.range_succ]
theorem preL_len {α : Type} (f : Nat → α) (k : Nat) : (preL f k).length = k := by simp [preL]
theorem preL_getD {α : Type} (f : Nat → α) {k i : Nat} (h : i < k) (d : α) : (preL f k).getD i d = f i := by
  unfold preL
  rw [List.getD_eq_getElem?_getD, List.getElem?_map, List.getElem?_range h]
  rfl
/-- How many values a variable has. -/
def valM (x : Pz) (i : Nat) : Nat := 1 + (x.V.getD i 0).toNat % 4
theorem valM_bound (x : Pz) (i : Nat) : 1 ≤ valM x i ∧ valM x i ≤ 4 := by unfold valM; omega
theorem mk18_eq {x : Pz} (hx : x.ok) (i : Nat) : mk18 x i = (valM x i : Int) := by
  have h := hx.v i
  unfold mk18 valM
  rw [Int.toNat_natCast]
  obtain ⟨n, hn⟩ : ∃ n : Nat, x.V.getD i 0 = n := ⟨(x.V.getD i 0).toNat, by omega⟩
  have e0 : IntKind.i64.wrap (n : Int) = (n : Int) := wrapI (by omega)
  rw [hn, Int.toNat_natCast, e0]
  have e : Int.tmod (n : Int) 4 = ((n % 4 : Nat) : Int) := rfl
  rw [e, wrapI (by omega)]
  omega
/-- Where the costs of a variable begin. -/
def ofs (x : Pz) : Nat → Nat
  | 0 => 0
  | k + 1 => ofs x k + valM x k
theorem ofs_le (x : Pz) : ∀ k, ofs x k ≤ 4 * k
  | 0 => Nat.le_refl _
  | k + 1 => by
    have := ofs_le x k
    have := valM_bound x k
    show ofs x k + valM x k ≤ _
    omega
def costF (x : Pz) (o j : Nat) : Int := x.C.getD (o + j) 0
def cosR (x : Pz) (i : Nat) : List Int := preL (costF x (ofs x i)) (valM x i)
def valsM (x : Pz) (k : Nat) : List Int := preL (fun i => (valM x i : Int)) k
def costsM (x : Pz) (k : Nat) : List (List Int) := preL (cosR x) k
/-! ### The costs of one variable -/
theorem clokHint {H : Heap → Oper → (Operand → Option AV) → Option (AV × Bool × Heap × Prop)} (hH : HintOk Try.prog G0 H) : ClOk Try.prog G0 { boxRow := false, hint := H } := .all hH (fun f xs σ t u σ' h => (by cases h)) (fun l xs σ t v σ' h => (by cases h)) fun f xs t v h => by cases h
theorem below_pz (x : Pz) : ∀ y ∈ pzC x, Below 0 y := fun y hy => by
  simp only [pzC, List.mem_cons, List.not_mem_nil, or_false] at hy
  have h8 : ∀ L : List Int, Below 0 (flB L) := fun L => below_fl fun i y hy => by rw [List.mem_singleton.1 hy]; exact .int _ _
  have h9 : ∀ L : List Int, Below 0 (flT L) := fun L => below_fl fun i y hy => by rw [List.mem_singleton.1 hy]; exact .int _ _
  rcases hy with rfl | rfl | rfl
  · exact h8 _
  · exact h8 _
  · refine below_fl fun i y hy => ?_
    simp only [csC, List.mem_cons, List.not_mem_nil, or_false] at hy
    rcases hy with rfl | rfl | rfl | rfl
    · exact .int _ _
    · exact .int _ _
    · exact h9 _
    · exact .int _ _
theorem below_pzr {n : Nat} (x : Pz) : Below n (.row (pzC x) 0) := below_row fun y hy => (below_pz x y hy).up
theorem alone_A (L : List Int) (M : List (List Int)) (T : List Int) : ∀ o ∈ hA (sV 1 0 (rowI L)) (sO (rowI L)) (sV 1 1 (rowLL M)) (sO (rowLL M)) (sO (rowI T)), Alone 8 o := fun o ho => by
  simp only [hA, List.mem_cons, List.not_mem_nil, or_false] at ho
  rcases ho with rfl | rfl | rfl | rfl | rfl | rfl | rfl | rfl
  · exact alone_rowI _
  · exact alone_rowLL _
  · trivial
  · exact alone_rowI _
  · trivial
  · trivial
  · intro y hy
    simp only [zPb, List.mem_cons, List.not_mem_nil, or_false] at hy
    rcases hy with rfl | rfl | rfl <;> exact .zs
  · intro y hy
    simp only [List.mem_cons, List.not_mem_nil, or_false] at hy
    rcases hy with rfl | rfl | rfl
    · exact below_sV (by omega)
    · exact below_sV (by omega)
    · exact .zs
theorem clean18B (x : Pz) (L : List Int) (M : List (List Int)) (i n a : Int) (T : List Int) (j : Int) : CleanT 8 (stB x (sV 1 0 (rowI L)) (sO (rowI L)) (sV 1 1 (rowLL M)) (sO (rowLL M)) i n a (sV 1 3 (rowI T)) (sO (rowI T)) j) :=
  cleanT_of rfl (alone_A L M T) ⟨below_pzr x, .ref _ _ _ (by omega), .ref _ _ _ (by omega), .int _ _, .int _ _, below_sV (by omega), .int _ _, .int _ _, trivial⟩
theorem loop18B {x : Pz} (hx : x.ok) (L : List Int) (M : List (List Int)) (i : Int) (n o : Nat) (hb : o + n < 1000000) :
    LoopA body18B n (fun j => stB x (sV 1 0 (rowI L)) (sO (rowI L)) (sV 1 1 (rowLL M)) (sO (rowLL M)) i n (o + j : Nat) (sV 1 3 (rowI (preL (costF x o) j))) (sO (rowI (preL (costF x o) j))) j)
      (fun j => stB x (sV 1 0 (rowI L)) (sO (rowI L)) (sV 1 1 (rowLL M)) (sO (rowLL M)) i n (o + j : Nat) (sV 1 3 (rowI (preL (costF x o) j))) (sO (rowI (preL (costF x o) j))) j)
      (stB x (sV 1 0 (rowI L)) (sO (rowI L)) (sV 1 1 (rowLL M)) (sO (rowLL M)) i n (o + n : Nat) (sV 1 3 (rowI (preL (costF x o) n))) (sO (rowI (preL (costF x o) n))) n) .ret (.exit 2) fun _ => false := by
  refine .linT (m := 8) (fun _ => rfl) rfl nofun (fun k => clean18B x L M i n _ _ k) (clean18B x L M i n _ _ _) fun j hj => ?_
  have key := congrArg Tree.sel (run18B True x (sV 1 0 (rowI L)) (sO (rowI L)) (sV 1 1 (rowLL M)) (sO (rowLL M)) i n (o + j : Nat) (sV 1 3 (rowI (preL (costF x o) j))) (sV 1 3 (rowI (preL (costF x o) j ++ [costF x o j]))) (sO (rowI (preL (costF x o) j))) (sO (rowI (preL (costF x o) j ++ [costF x o j]))) j (costF x o j))
  have hc := hx.c (o + j)
  rw [Int.toNat_natCast] at key
  refine ⟨_, _, _, clokHint (hApO_ok els22 fun _ => grow_I (by rw [preL_len]; omega) _ 3), lpNo _, fun hlt => key.trans ?_, fun he => key.trans ?_⟩
  · have w1 : IntKind.i64.wrap (((o + j : Nat) : Int) + 1) = ((o + (j + 1) : Nat) : Int) := (wrapI (by omega)).trans (by omega)
    have w2 : IntKind.i64.wrap (j + 1 : Int) = ((j + 1 : Nat) : Int) := (wrapI (by omega)).trans (by omega)
    rw [w1, w2, preL_succ]
    refine (selIt (dT (by omega))).trans (t_ite (fun h1 => ?_) fun h1 => ?_)
    · have h1' := of_decide_eq_true h1
      have e : costF x o j = x.C.getD (o + j) 0 := rfl
      rw [wrapI (by omega), e]
      exact t_need ⟨by omega, h1'⟩ (t_need ⟨rfl, rfl, trivial⟩ rfl)
    · have h1' := of_decide_eq_false h1
      have e : costF x o j = 0 := by
        unfold costF
        rw [List.getD_eq_getElem?_getD, List.getElem?_eq_none (by omega)]
        rfl
      rw [e]
      exact t_need ⟨rfl, rfl, trivial⟩ rfl
  · rw [selIf (dF (by omega)), he]
    rfl
def D3 : Nat → Bool := fun q => Nat.beq q 3
theorem exec18B {x : Pz} (hx : x.ok) (L : List Int) (M : List (List Int)) (i : Int) (n o : Nat) (hb : o + n < 1000000) :
    AExec Try.prog G0 (fun r => r = none) (.loop body18B) { tmps := (stB x (sV 1 0 (rowI L)) (sO (rowI L)) (sV 1 1 (rowLL M)) (sO (rowLL M)) i n o .zs .resv 0).a } (hA (sV 1 0 (rowI L)) (sO (rowI L)) (sV 1 1 (rowLL M)) (sO (rowLL M)) .resv) (.exit 2)
      { tmps := (stB x (sV 1 0 (rowI L)) (sO (rowI L)) (sV 1 1 (rowLL M)) (sO (rowLL M)) i n (o + n : Nat) (flL (preL (costF x o) n)) .resv n).a } (hA (sV 1 0 (rowI L)) (sO (rowI L)) (sV 1 1 (rowLL M)) (sO (rowLL M)) .resv) := by
  refine (loop18B hx L M i n o hb).drop (n := 8) (D := D3) (fun _ _ => rfl) rfl rfl (fun r q hr hD => ?_) ?_ ?_
  · obtain rfl := Nat.eq_of_beq_eq_true hD
    cases hr; rfl
  · refine ⟨.inr (.inl ⟨rfl, rfl, onlyO_sO rowI_flat⟩), .inr (.inl ⟨rfl, rfl, onlyO_sO rowLL_flat⟩), .inr (.inl ⟨rfl, rfl, trivial⟩), .inl ⟨rfl, rfl⟩, .inr (.inl ⟨rfl, rfl, trivial⟩), .inr (.inl ⟨rfl, rfl, trivial⟩), .inr (.inl ⟨rfl, rfl, fun y hy => ?_⟩), .inr (.inl ⟨rfl, rfl, fun y hy => ?_⟩), trivial⟩
    · simp only [zPb, List.mem_cons, List.not_mem_nil, or_false] at hy
      rcases hy with rfl | rfl | rfl <;> exact .zs
    · simp only [List.mem_cons, List.not_mem_nil, or_false] at hy
      rcases hy with rfl | rfl | rfl
      · exact onlySV ⟨rfl, by omega⟩
      · exact onlySV ⟨rfl, by omega⟩
      · exact .zs
  · have rf : ∀ r, D3 r = false ∧ r < 8 → Re G0 (dropP D3 8) (hA (sV 1 0 (rowI L)) (sO (rowI L)) (sV 1 1 (rowLL M)) (sO (rowLL M)) (sO (rowI (preL (costF x o) n)))) (.ref r 0 0) (.ref r 0 0) := fun r h => Re.good (.ref _ _ _ h)
    exact ⟨rfl, Re.flat (below_pzr x), rfl, rf 6 ⟨rfl, by omega⟩, rfl, rf 7 ⟨rfl, by omega⟩, rfl, re_int, rfl, re_int, rfl, re_ints rfl (dropP_none rfl), rfl, re_int, rfl, re_int, trivial⟩
/-! ### The values, and the costs of all -/
def stA' (x : Pz) (L : List Int) (M : List (List Int)) (a i : Int) : St := stA x (sV 1 0 (rowI L)) (sO (rowI L)) (sV 1 1 (rowLL M)) (sO (rowLL M)) a i
theorem clean18A (x : Pz) (L : List Int) (M : List (List Int)) (a i : Int) : CleanT 8 (stA' x L M a i) :=
  cleanT_of rfl (alone_A L M []) ⟨below_pzr x, .ref _ _ _ (by omega), .ref _ _ _ (by omega), .int _ _, .int _ _, trivial⟩
theorem loops18A : loopsOf body18A = [body18B] := by kernel_rfl
def N18 (x : Pz) : Nat := min x.V.length 5
theorem loop18A {x : Pz} (hx : x.ok) : LoopA body18A (N18 x) (fun k => stA' x (valsM x k) (costsM x k) (ofs x k : Nat) k) (fun k => stA' x (valsM x k) (costsM x k) (ofs x k : Nat) k) (stA' x (valsM x (N18 x)) (costsM x (N18 x)) (ofs x (N18 x) : Nat) (N18 x)) .ret (.exit 0) fun _ => false := by
  have hN : N18 x ≤ 5 := by unfold N18; omega
  refine .linT (m := 8) (fun _ => rfl) rfl nofun (fun k => clean18A x _ _ _ k) (clean18A x _ _ _ _) fun k hk => ?_
  have ho := ofs_le x k
  have hv := valM_bound x k
  have hi := lpB_exec (i := 10) (keep := keepB) (S := stB x (sV 1 0 (rowI (valsM x (k + 1)))) (sO (rowI (valsM x (k + 1)))) (sV 1 1 (rowLL (costsM x k))) (sO (rowLL (costsM x k))) k (valM x k) (ofs x k) .zs .resv 0) (X := stB x (sV 1 0 (rowI (valsM x (k + 1)))) (sO (rowI (valsM x (k + 1)))) (sV 1 1 (rowLL (costsM x k))) (sO (rowLL (costsM x k))) k (valM x k) (ofs x k + valM x k : Nat) (flL (cosR x k)) .resv (valM x k))
    (exec18B hx (valsM x (k + 1)) (costsM x k) k (valM x k) (ofs x k) (by omega)) rfl (c := body18A) (one_loop loops18A)
  have key := congrArg Tree.sel (run18A True x (sV 1 0 (rowI (valsM x k))) (sV 1 0 (rowI (valsM x (k + 1)))) (sO (rowI (valsM x k))) (sO (rowI (valsM x (k + 1)))) (sV 1 1 (rowLL (costsM x k))) (sV 1 1 (rowLL (costsM x (k + 1)))) (sO (rowLL (costsM x k))) (sO (rowLL (costsM x (k + 1)))) (ofs x k) k (valM x k) (ofs x k + valM x k : Nat) (cosR x k))
  have e1 : valsM x (k + 1) = valsM x k ++ [(valM x k : Int)] := preL_succ _ _
  have e2 : costsM x (k + 1) = costsM x k ++ [cosR x k] := preL_succ _ _
  have g1 : Grow 1 0 [I (valM x k)] (sV 1 0 (rowI (valsM x k))) (sV 1 0 (rowI (valsM x (k + 1)))) (sO (rowI (valsM x k))) (sO (rowI (valsM x (k + 1)))) := by
    rw [e1]; exact grow_I (by unfold valsM; rw [preL_len]; omega) _ 0
  have g2 : Grow 1 1 [flL (cosR x k)] (sV 1 1 (rowLL (costsM x k))) (sV 1 1 (rowLL (costsM x (k + 1)))) (sO (rowLL (costsM x k))) (sO (rowLL (costsM x (k + 1)))) := by
    rw [e2]; exact grow_LL (by unfold costsM; rw [preL_len]; omega) _ 1
  refine ⟨_, _, _, clokHint ((hApO_ok els22 fun _ => g1).or ((hApO_ok els23 fun _ => g2).or ((hSto_ok 7 (one_of (by kernel_rfl))).ok.or (hSto_ok 7 (one_of (by kernel_rfl))).ok))), hi, fun hlt => key.trans ?_, fun he => key.trans ?_⟩
  · have hl : k < x.V.length := by unfold N18 at hlt; omega
    have w2 : IntKind.i64.wrap (k + 1 : Int) = ((k + 1 : Nat) : Int) := (wrapI (by omega)).trans (by omega)
    have hm := mk18_eq hx k
    have hm' : IntKind.i64.wrap ((1 : Int) + (IntKind.i64.wrap (x.V.getD (k : Int).toNat (0 : Int))).tmod (4 : Int)) = (valM x k : Int) := hm
    rw [w2, hm, hm']
    refine (selIt (dT (by omega))).trans ((selIt (dT (by omega))).trans (t_need ⟨by omega, by omega⟩ (t_need ⟨rfl, rfl, trivial⟩ (t_need ⟨one_sV, by omega⟩ (t_need rfl (t_need ⟨rfl, rfl, trivial⟩ (t_need ⟨one_sV, by omega⟩ ?_)))))))
    rfl
  · rw [← he]
    exact t_ite (fun h1 => (selIf (dF (by have := of_decide_eq_true h1; unfold N18 at he; omega))).trans rfl) fun _ => rfl
end Go.Proofs.Ytngaihdpmoajeaa.Am

namespace Go.Proofs.Ytngaihdpmoajeaa.Am
open Go Go.ChangeShapes Go.WideShapes
set_option maxRecDepth 100000
section
variable {H : Type} {enc : TypeId × Value → H} {w : World} {sp : Nat → Bool} {held : Bool}

theorem rangeU8 {n : Int} (h : (Lit.int .u8 n).wf = true) : 0 ≤ n ∧ n ≤ 255 := by
  simp [Lit.wf, IntKind.min, IntKind.max, IntKind.signed, IntKind.bits] at h
  exact ⟨by omega, by omega⟩
theorem rangeI8 {n : Int} (h : (Lit.int .i8 n).wf = true) : -128 ≤ n ∧ n ≤ 127 := by
  simp [Lit.wf, IntKind.min, IntKind.max, IntKind.signed, IntKind.bits] at h
  exact ⟨by omega, by omega⟩
theorem getD_all {L : List Int} {lo hi : Int} (h : ∀ y ∈ L, lo ≤ y ∧ y ≤ hi) (h0 : lo ≤ 0 ∧ 0 ≤ hi) (k : Nat) : lo ≤ L.getD k 0 ∧ L.getD k 0 ≤ hi := by
  by_cases hk : k < L.length
  · exact h _ (getD_mem hk)
  · rw [List.getD_eq_getElem?_getD, List.getElem?_eq_none (by omega)]
    exact h0
theorem open_bytes {fuel : Nat} {v : Value} {x : DataW H × List MemPlace} (h : DataW.trod enc Try.prog w 0 sp held fuel 36 [v] = some x) : ∃ B : List Int, RV w M0 v (flB B) ∧ (∀ y ∈ B, 0 ≤ y ∧ y ≤ 255) ∧ (Fits 36 x.1 → sh B) := by
  obtain ⟨B, h1, h2, h3⟩ := open_sl (k := 1) (q := fun n : Int => [AV.int .u8 n]) (d0 := 0) Try.underlying36 (by decide) (by kernel_rfl) (Nat.le_of_ble_eq_true (by kernel_rfl)) (fun _ => rfl) (rows_int Try.underlying5) h
  exact ⟨B, h1, fun y hy => rangeU8 (h2 y hy), fun hs => reach_sh (h3 hs).1⟩
theorem open_i8s {fuel : Nat} {v : Value} {x : DataW H × List MemPlace} (h : DataW.trod enc Try.prog w 0 sp held fuel 77 [v] = some x) : ∃ B : List Int, RV w M0 v (flT B) ∧ (∀ y ∈ B, -128 ≤ y ∧ y ≤ 127) ∧ (Fits 77 x.1 → True) := by
  obtain ⟨B, h1, h2, h3⟩ := open_sl (k := 1) (q := fun n : Int => [AV.int .i8 n]) (d0 := 0) Try.underlying77 (by decide) (by kernel_rfl) (Nat.le_of_ble_eq_true (by kernel_rfl)) (fun _ => rfl) (rows_int Try.underlying78) h
  exact ⟨B, h1, fun y hy => rangeI8 (h2 y hy), fun _ => trivial⟩
/-- The numbers of a clause. -/
def Cs.ok (c : Cs) : Prop := (0 ≤ c.d ∧ c.d ≤ 255) ∧ (∀ y ∈ c.w, -128 ≤ y ∧ y ≤ 127) ∧ -128 ≤ c.m ∧ c.m ≤ 127
theorem rows_clause : RowsAs H enc w sp held 80 csC Cs.ok (fun _ => True) := by
  intro fuel cs y h
  have hf := trod_one Try.underlying80 (by kernel_rfl) (by kernel_rfl) h
  obtain ⟨_, u0, z0, c0, t0, s0⟩ := hf 0 _ rfl
  obtain ⟨_, u1, z1, c1, t1, s1⟩ := hf 1 _ rfl
  obtain ⟨_, u2, z2, c2, t2, s2⟩ := hf 2 _ rfl
  obtain ⟨_, u3, z3, c3, t3, s3⟩ := hf 3 _ rfl
  obtain ⟨d, hd, _, wd⟩ := DataW.trod_int Try.underlying5 t0
  obtain ⟨u, hu, _, _⟩ := DataW.trod_int Try.underlying5 t1
  obtain ⟨W, hW, hWb, _⟩ := open_i8s t2
  obtain ⟨m, hm, _, wm⟩ := DataW.trod_int Try.underlying78 t3
  obtain rfl : u0 = .int .u8 d := by simpa using hd
  obtain rfl : u1 = .int .u8 u := by simpa using hu
  obtain rfl : u3 = .int .i8 m := by simpa using hm
  refine ⟨⟨d, u, W, m⟩, fun j z hz => ?_, ⟨rangeU8 wd, hWb, rangeI8 wm⟩, fun _ => trivial⟩
  match j, hz with
  | 0, hz => cases hz; exact ⟨_, c0, .int _ _⟩
  | 1, hz => cases hz; exact ⟨_, c1, .int _ _⟩
  | 2, hz => cases hz; exact ⟨_, c2, hW⟩
  | 3, hz => cases hz; exact ⟨_, c3, .int _ _⟩
  | j + 4, hz => simp [csC] at hz
theorem open_clauses {fuel : Nat} {v : Value} {x : DataW H × List MemPlace} (h : DataW.trod enc Try.prog w 0 sp held fuel 37 [v] = some x) : ∃ B : List Cs, RV w M0 v (flC B) ∧ (∀ c ∈ B, c.ok) := by
  obtain ⟨B, h1, h2, _⟩ := open_sl (k := 4) (q := csC) (d0 := c0) Try.underlying37 (by decide) (by kernel_rfl) (Nat.le_of_ble_eq_true (by kernel_rfl)) (fun _ => rfl) rows_clause h
  exact ⟨B, h1, h2⟩
/-- A PUZZLE, OPENED. -/
theorem open_pz {r : Reach} {b0 : Nat} {v : Value} {d : DataW H} {ps : List MemPlace} (hv : Value.okWide Try.prog w r b0 39 v) (h : DataW.Trod enc Try.prog w 0 sp held 39 v d ps) : ∃ x : Pz, RV w M0 v (pzAV x) ∧ x.ok := by
  obtain ⟨cs, rfl, hsz⟩ := okWide_struct Try.underlying39 hv
  obtain ⟨fuel, hf⟩ := h
  have hf := trod_one Try.underlying39 (by kernel_rfl) (by kernel_rfl) hf
  obtain ⟨_, u0, z0, k0, t0, s0⟩ := hf 0 _ rfl
  obtain ⟨_, u1, z1, k1, t1, s1⟩ := hf 1 _ rfl
  obtain ⟨_, u2, z2, k2, t2, s2⟩ := hf 2 _ rfl
  obtain ⟨V, hV, hVb, _⟩ := open_bytes t0
  obtain ⟨C, hC, hCb, _⟩ := open_bytes t1
  obtain ⟨R, hR, hRb⟩ := open_clauses t2
  have hcell : ∀ (j : Nat) (u : Value), (Value.agg cs).cells.toList[j]? = some u → cs.getD j undef = u := fun j u hu => by
    have hu : cs.toList[j]? = some u := hu
    rw [Array.getElem?_toList] at hu
    rw [Array.getD_eq_getD_getElem?, hu]
    rfl
  have hRk : ∀ k, (R.getD k c0).ok := fun k => by
    by_cases hk : k < R.length
    · exact hRb _ (getD_mem hk)
    · rw [List.getD_eq_getElem?_getD, List.getElem?_eq_none (by omega)]
      exact ⟨⟨by decide, by decide⟩, nofun, by decide, by decide⟩
  refine ⟨⟨V, C, R⟩, .agg _ _ (hsz.trans (by kernel_rfl)) fun j x hj => ?_, fun k => getD_all hVb ⟨by omega, by omega⟩ k, fun k => getD_all hCb ⟨by omega, by omega⟩ k, fun k => (hRk k).1, fun k => (hRk k).2.2, fun k j => getD_all (hRk k).2.1 ⟨by omega, by omega⟩ j⟩
  match j, hj with
  | 0, hj => cases hj; rw [hcell 0 _ k0]; exact hV
  | 1, hj => cases hj; rw [hcell 1 _ k1]; exact hC
  | 2, hj => cases hj; rw [hcell 2 _ k2]; exact hR
  | j + 3, hj => simp [pzC] at hj
theorem open_u8l {r : Reach} {b0 : Nat} {v : Value} {d : DataW H} {ps : List MemPlace} (hv : Value.okWide Try.prog w r b0 36 v) (h : DataW.Trod enc Try.prog w 0 sp held 36 v d ps) : ∃ B : List Int, RV w M0 v (flB B) ∧ (∀ y ∈ B, 0 ≤ y ∧ y ≤ 255) ∧ (Fits 36 d → sh B) := by
  obtain ⟨base, len, cap, rfl⟩ := okWide_slice Try.underlying36 hv
  obtain ⟨fuel, hf⟩ := h
  obtain ⟨B, h1, h2, h3⟩ := open_bytes hf
  exact ⟨B, h1, h2, h3⟩
end
end Go.Proofs.Ytngaihdpmoajeaa.Am

namespace Go.Proofs.Ytngaihdpmoajeaa.Am
open Go
set_option maxRecDepth 100000

theorem run18C (g : Prop) (x : Pz) (V : List Int) (C : List (List Int)) (v v' : AV) (r r' : AObj) (k : Int) (U : List Int) (W : List (List Int)) (at2 : Int) : xBodyMT (E18C g (dm18 x k) (mm18 x k) U W v v' r r') (mv18 (hC V C v r .resv .resv .resv) (dm18 x k) (mm18 x k)) 200 (lpB 24 keepD (stD x V C v r k (dm18 x k) (mm18 x k) .zs .zs .resv .resv 0 0) (.exit 6) (stD x V C v r k (dm18 x k) (mm18 x k) (flL U) (flLL W) .resv .resv at2 V.length)) keepC 8 body18C (stC x V C v r k) = .ite (decide (k < (↑x.R.length : Int))) (.ite (decide (k < (6 : Int))) (.need ([AObj.resv, AObj.resv, r, AObj.resv, AObj.resv, AObj.resv, (AObj.cells (0 : Nat) [AV.zs, AV.zs, AV.zs]), (AObj.cells (0 : Nat) [(flL (V)), (flLL (C)), v])] = [AObj.resv, AObj.resv, r, AObj.resv, AObj.resv, AObj.resv, (AObj.cells (0 : Nat) [AV.zs, AV.zs, AV.zs]), (AObj.cells (0 : Nat) [(flL (V)), (flLL (C)), v])]) (.need ([AObj.resv, AObj.resv, r, AObj.resv, AObj.resv, AObj.resv, (AObj.cells (0 : Nat) [AV.zs, AV.zs, AV.zs]), (AObj.cells (0 : Nat) [(flL (V)), (flLL (C)), v])] = [AObj.resv, AObj.resv, r, AObj.resv, AObj.resv, AObj.resv, (AObj.cells (0 : Nat) [AV.zs, AV.zs, AV.zs]), (AObj.cells (0 : Nat) [(flL (V)), (flLL (C)), v])]) (.need (((AV.row [(flB (x.V)), (flB (x.C)), (flC (x.R))] (2 : Nat)) = (AV.row [(flB (x.V)), (flB (x.C)), (flC (x.R))] (2 : Nat))) ∧ ([AObj.resv, AObj.resv, r, AObj.resv, AObj.resv, AObj.resv, (AObj.cells (0 : Nat) [AV.zs, AV.zs, AV.zs]), (AObj.cells (0 : Nat) [(flL (V)), (flLL (C)), v]), (AObj.cells (0 : Nat) [(I ((0 : Int))), AV.zs, AV.zs, (I ((0 : Int)))])] = [AObj.resv, AObj.resv, r, AObj.resv, AObj.resv, AObj.resv, (AObj.cells (0 : Nat) [AV.zs, AV.zs, AV.zs]), (AObj.cells (0 : Nat) [(flL (V)), (flLL (C)), v]), (AObj.cells (0 : Nat) [(I ((0 : Int))), AV.zs, AV.zs, (I ((0 : Int)))])])) (.need ([AObj.resv, AObj.resv, r, AObj.resv, AObj.resv, AObj.resv, (AObj.cells (0 : Nat) [AV.zs, AV.zs, AV.zs]), (AObj.cells (0 : Nat) [(flL (V)), (flLL (C)), v])] = [AObj.resv, AObj.resv, r, AObj.resv, AObj.resv, AObj.resv, (AObj.cells (0 : Nat) [AV.zs, AV.zs, AV.zs]), (AObj.cells (0 : Nat) [(flL (V)), (flLL (C)), v])]) (.need (((flC (x.R)) = (flC (x.R))) ∧ ([AObj.resv, AObj.resv, r, AObj.resv, AObj.resv, AObj.resv, (AObj.cells (0 : Nat) [AV.zs, AV.zs, AV.zs]), (AObj.cells (0 : Nat) [(flL (V)), (flLL (C)), v]), (AObj.cells (0 : Nat) [(I ((0 : Int))), AV.zs, AV.zs, (I ((0 : Int)))])] = [AObj.resv, AObj.resv, r, AObj.resv, AObj.resv, AObj.resv, (AObj.cells (0 : Nat) [AV.zs, AV.zs, AV.zs]), (AObj.cells (0 : Nat) [(flL (V)), (flLL (C)), v]), (AObj.cells (0 : Nat) [(I ((0 : Int))), AV.zs, AV.zs, (I ((0 : Int)))])])) (.need ([AObj.resv, AObj.resv, r, AObj.resv, AObj.resv, AObj.resv, (AObj.cells (0 : Nat) [AV.zs, AV.zs, AV.zs]), (AObj.cells (0 : Nat) [(flL (V)), (flLL (C)), v])] = [AObj.resv, AObj.resv, r, AObj.resv, AObj.resv, AObj.resv, (AObj.cells (0 : Nat) [AV.zs, AV.zs, AV.zs]), (AObj.cells (0 : Nat) [(flL (V)), (flLL (C)), v])]) (.need (((I k) = (I k)) ∧ ([AObj.resv, AObj.resv, r, AObj.resv, AObj.resv, AObj.resv, (AObj.cells (0 : Nat) [AV.zs, AV.zs, AV.zs]), (AObj.cells (0 : Nat) [(flL (V)), (flLL (C)), v]), (AObj.cells (0 : Nat) [(I ((0 : Int))), AV.zs, AV.zs, (I ((0 : Int)))])] = [AObj.resv, AObj.resv, r, AObj.resv, AObj.resv, AObj.resv, (AObj.cells (0 : Nat) [AV.zs, AV.zs, AV.zs]), (AObj.cells (0 : Nat) [(flL (V)), (flLL (C)), v]), (AObj.cells (0 : Nat) [(I ((0 : Int))), AV.zs, AV.zs, (I ((0 : Int)))])])) (.need (((0 : Int) ≤ k) ∧ (k < (↑x.R.length : Int))) (.need ([AObj.resv, AObj.resv, r, AObj.resv, AObj.resv, AObj.resv, (AObj.cells (0 : Nat) [AV.zs, AV.zs, AV.zs]), (AObj.cells (0 : Nat) [(flL (V)), (flLL (C)), v])] = [AObj.resv, AObj.resv, r, AObj.resv, AObj.resv, AObj.resv, (AObj.cells (0 : Nat) [AV.zs, AV.zs, AV.zs]), (AObj.cells (0 : Nat) [(flL (V)), (flLL (C)), v])]) (.need (((0 : Int) ≤ k) ∧ (k < (↑x.R.length : Int))) (.need (((AV.row [(AV.int IntKind.u8 ((x.R.getD k.toNat c0).d)), (AV.int IntKind.u8 ((x.R.getD k.toNat c0).u)), (flT ((x.R.getD k.toNat c0).w)), (AV.int IntKind.i8 ((x.R.getD k.toNat c0).m))] (0 : Nat)) = (AV.row [(AV.int IntKind.u8 ((x.R.getD k.toNat c0).d)), (AV.int IntKind.u8 ((x.R.getD k.toNat c0).u)), (flT ((x.R.getD k.toNat c0).w)), (AV.int IntKind.i8 ((x.R.getD k.toNat c0).m))] (0 : Nat))) ∧ ([AObj.resv, AObj.resv, r, AObj.resv, AObj.resv, AObj.resv, (AObj.cells (0 : Nat) [AV.zs, AV.zs, AV.zs]), (AObj.cells (0 : Nat) [(flL (V)), (flLL (C)), v]), (AObj.cells (0 : Nat) [(I ((0 : Int))), AV.zs, AV.zs, (I ((0 : Int)))])] = [AObj.resv, AObj.resv, r, AObj.resv, AObj.resv, AObj.resv, (AObj.cells (0 : Nat) [AV.zs, AV.zs, AV.zs]), (AObj.cells (0 : Nat) [(flL (V)), (flLL (C)), v]), (AObj.cells (0 : Nat) [(I ((0 : Int))), AV.zs, AV.zs, (I ((0 : Int)))])])) (.need ([AObj.resv, AObj.resv, r, AObj.resv, AObj.resv, AObj.resv, (AObj.cells (0 : Nat) [AV.zs, AV.zs, AV.zs]), (AObj.cells (0 : Nat) [(flL (V)), (flLL (C)), v])] = [AObj.resv, AObj.resv, r, AObj.resv, AObj.resv, AObj.resv, (AObj.cells (0 : Nat) [AV.zs, AV.zs, AV.zs]), (AObj.cells (0 : Nat) [(flL (V)), (flLL (C)), v])]) (.need (((AV.row [(AV.int IntKind.u8 ((x.R.getD k.toNat c0).d)), (AV.int IntKind.u8 ((x.R.getD k.toNat c0).u)), (flT ((x.R.getD k.toNat c0).w)), (AV.int IntKind.i8 ((x.R.getD k.toNat c0).m))] (0 : Nat)) = (AV.row [(AV.int IntKind.u8 ((x.R.getD k.toNat c0).d)), (AV.int IntKind.u8 ((x.R.getD k.toNat c0).u)), (flT ((x.R.getD k.toNat c0).w)), (AV.int IntKind.i8 ((x.R.getD k.toNat c0).m))] (0 : Nat))) ∧ ([AObj.resv, AObj.resv, r, AObj.resv, AObj.resv, AObj.resv, (AObj.cells (0 : Nat) [AV.zs, AV.zs, AV.zs]), (AObj.cells (0 : Nat) [(flL (V)), (flLL (C)), v]), (AObj.cells (0 : Nat) [(I ((0 : Int))), AV.zs, AV.zs, (I ((0 : Int)))])] = [AObj.resv, AObj.resv, r, AObj.resv, AObj.resv, AObj.resv, (AObj.cells (0 : Nat) [AV.zs, AV.zs, AV.zs]), (AObj.cells (0 : Nat) [(flL (V)), (flLL (C)), v]), (AObj.cells (0 : Nat) [(I ((0 : Int))), AV.zs, AV.zs, (I ((0 : Int)))])])) (.need ([AObj.resv, AObj.resv, r, AObj.resv, AObj.resv, AObj.resv, (AObj.cells (0 : Nat) [AV.zs, AV.zs, AV.zs]), (AObj.cells (0 : Nat) [(flL (V)), (flLL (C)), v])] = [AObj.resv, AObj.resv, r, AObj.resv, AObj.resv, AObj.resv, (AObj.cells (0 : Nat) [AV.zs, AV.zs, AV.zs]), (AObj.cells (0 : Nat) [(flL (V)), (flLL (C)), v])]) (.need (((AV.int IntKind.u8 ((x.R.getD k.toNat c0).d)) = (AV.int IntKind.u8 ((x.R.getD k.toNat c0).d))) ∧ ([AObj.resv, AObj.resv, r, AObj.resv, AObj.resv, AObj.resv, (AObj.cells (0 : Nat) [AV.zs, AV.zs, AV.zs]), (AObj.cells (0 : Nat) [(flL (V)), (flLL (C)), v]), (AObj.cells (0 : Nat) [(I ((0 : Int))), AV.zs, AV.zs, (I ((0 : Int)))])] = [AObj.resv, AObj.resv, r, AObj.resv, AObj.resv, AObj.resv, (AObj.cells (0 : Nat) [AV.zs, AV.zs, AV.zs]), (AObj.cells (0 : Nat) [(flL (V)), (flLL (C)), v]), (AObj.cells (0 : Nat) [(I ((0 : Int))), AV.zs, AV.zs, (I ((0 : Int)))])])) (.need ([AObj.resv, AObj.resv, r, AObj.resv, AObj.resv, AObj.resv, (AObj.cells (0 : Nat) [AV.zs, AV.zs, AV.zs]), (AObj.cells (0 : Nat) [(flL (V)), (flLL (C)), v])] = [AObj.resv, AObj.resv, r, AObj.resv, AObj.resv, AObj.resv, (AObj.cells (0 : Nat) [AV.zs, AV.zs, AV.zs]), (AObj.cells (0 : Nat) [(flL (V)), (flLL (C)), v])]) (.need (((I (IntKind.i64.wrap (x.R.getD k.toNat c0).d)) = (I (IntKind.i64.wrap (x.R.getD k.toNat c0).d))) ∧ ([AObj.resv, AObj.resv, r, AObj.resv, AObj.resv, AObj.resv, (AObj.cells (0 : Nat) [AV.zs, AV.zs, AV.zs]), (AObj.cells (0 : Nat) [(flL (V)), (flLL (C)), v]), (AObj.cells (0 : Nat) [(I ((0 : Int))), AV.zs, AV.zs, (I ((0 : Int)))])] = [AObj.resv, AObj.resv, r, AObj.resv, AObj.resv, AObj.resv, (AObj.cells (0 : Nat) [AV.zs, AV.zs, AV.zs]), (AObj.cells (0 : Nat) [(flL (V)), (flLL (C)), v]), (AObj.cells (0 : Nat) [(I ((0 : Int))), AV.zs, AV.zs, (I ((0 : Int)))])])) (.need ([AObj.resv, AObj.resv, r, AObj.resv, AObj.resv, AObj.resv, (AObj.cells (0 : Nat) [AV.zs, AV.zs, AV.zs]), (AObj.cells (0 : Nat) [(flL (V)), (flLL (C)), v])] = [AObj.resv, AObj.resv, r, AObj.resv, AObj.resv, AObj.resv, (AObj.cells (0 : Nat) [AV.zs, AV.zs, AV.zs]), (AObj.cells (0 : Nat) [(flL (V)), (flLL (C)), v])]) (.need (((AV.row [(flB (x.V)), (flB (x.C)), (flC (x.R))] (2 : Nat)) = (AV.row [(flB (x.V)), (flB (x.C)), (flC (x.R))] (2 : Nat))) ∧ ([AObj.resv, AObj.resv, r, AObj.resv, AObj.resv, AObj.resv, (AObj.cells (0 : Nat) [AV.zs, AV.zs, AV.zs]), (AObj.cells (0 : Nat) [(flL (V)), (flLL (C)), v]), (AObj.cells (0 : Nat) [(I ((0 : Int))), AV.zs, AV.zs, (I ((0 : Int)))])] = [AObj.resv, AObj.resv, r, AObj.resv, AObj.resv, AObj.resv, (AObj.cells (0 : Nat) [AV.zs, AV.zs, AV.zs]), (AObj.cells (0 : Nat) [(flL (V)), (flLL (C)), v]), (AObj.cells (0 : Nat) [(I ((0 : Int))), AV.zs, AV.zs, (I ((0 : Int)))])])) (.need ([AObj.resv, AObj.resv, r, AObj.resv, AObj.resv, AObj.resv, (AObj.cells (0 : Nat) [AV.zs, AV.zs, AV.zs]), (AObj.cells (0 : Nat) [(flL (V)), (flLL (C)), v])] = [AObj.resv, AObj.resv, r, AObj.resv, AObj.resv, AObj.resv, (AObj.cells (0 : Nat) [AV.zs, AV.zs, AV.zs]), (AObj.cells (0 : Nat) [(flL (V)), (flLL (C)), v])]) (.need (((flC (x.R)) = (flC (x.R))) ∧ ([AObj.resv, AObj.resv, r, AObj.resv, AObj.resv, AObj.resv, (AObj.cells (0 : Nat) [AV.zs, AV.zs, AV.zs]), (AObj.cells (0 : Nat) [(flL (V)), (flLL (C)), v]), (AObj.cells (0 : Nat) [(I ((0 : Int))), AV.zs, AV.zs, (I ((0 : Int)))])] = [AObj.resv, AObj.resv, r, AObj.resv, AObj.resv, AObj.resv, (AObj.cells (0 : Nat) [AV.zs, AV.zs, AV.zs]), (AObj.cells (0 : Nat) [(flL (V)), (flLL (C)), v]), (AObj.cells (0 : Nat) [(I ((0 : Int))), AV.zs, AV.zs, (I ((0 : Int)))])])) (.need ([AObj.resv, AObj.resv, r, AObj.resv, AObj.resv, AObj.resv, (AObj.cells (0 : Nat) [AV.zs, AV.zs, AV.zs]), (AObj.cells (0 : Nat) [(flL (V)), (flLL (C)), v])] = [AObj.resv, AObj.resv, r, AObj.resv, AObj.resv, AObj.resv, (AObj.cells (0 : Nat) [AV.zs, AV.zs, AV.zs]), (AObj.cells (0 : Nat) [(flL (V)), (flLL (C)), v])]) (.need (((I k) = (I k)) ∧ ([AObj.resv, AObj.resv, r, AObj.resv, AObj.resv, AObj.resv, (AObj.cells (0 : Nat) [AV.zs, AV.zs, AV.zs]), (AObj.cells (0 : Nat) [(flL (V)), (flLL (C)), v]), (AObj.cells (0 : Nat) [(I ((0 : Int))), AV.zs, AV.zs, (I ((0 : Int)))])] = [AObj.resv, AObj.resv, r, AObj.resv, AObj.resv, AObj.resv, (AObj.cells (0 : Nat) [AV.zs, AV.zs, AV.zs]), (AObj.cells (0 : Nat) [(flL (V)), (flLL (C)), v]), (AObj.cells (0 : Nat) [(I ((0 : Int))), AV.zs, AV.zs, (I ((0 : Int)))])])) (.need (((0 : Int) ≤ k) ∧ (k < (↑x.R.length : Int))) (.need ([AObj.resv, AObj.resv, r, AObj.resv, AObj.resv, AObj.resv, (AObj.cells (0 : Nat) [AV.zs, AV.zs, AV.zs]), (AObj.cells (0 : Nat) [(flL (V)), (flLL (C)), v])] = [AObj.resv, AObj.resv, r, AObj.resv, AObj.resv, AObj.resv, (AObj.cells (0 : Nat) [AV.zs, AV.zs, AV.zs]), (AObj.cells (0 : Nat) [(flL (V)), (flLL (C)), v])]) (.need (((0 : Int) ≤ k) ∧ (k < (↑x.R.length : Int))) (.need (((AV.row [(AV.int IntKind.u8 ((x.R.getD k.toNat c0).d)), (AV.int IntKind.u8 ((x.R.getD k.toNat c0).u)), (flT ((x.R.getD k.toNat c0).w)), (AV.int IntKind.i8 ((x.R.getD k.toNat c0).m))] (0 : Nat)) = (AV.row [(AV.int IntKind.u8 ((x.R.getD k.toNat c0).d)), (AV.int IntKind.u8 ((x.R.getD k.toNat c0).u)), (flT ((x.R.getD k.toNat c0).w)), (AV.int IntKind.i8 ((x.R.getD k.toNat c0).m))] (0 : Nat))) ∧ ([AObj.resv, AObj.resv, r, AObj.resv, AObj.resv, AObj.resv, (AObj.cells (0 : Nat) [AV.zs, AV.zs, AV.zs]), (AObj.cells (0 : Nat) [(flL (V)), (flLL (C)), v]), (AObj.cells (0 : Nat) [(I ((0 : Int))), AV.zs, AV.zs, (I ((0 : Int)))])] = [AObj.resv, AObj.resv, r, AObj.resv, AObj.resv, AObj.resv, (AObj.cells (0 : Nat) [AV.zs, AV.zs, AV.zs]), (AObj.cells (0 : Nat) [(flL (V)), (flLL (C)), v]), (AObj.cells (0 : Nat) [(I ((0 : Int))), AV.zs, AV.zs, (I ((0 : Int)))])])) (.need ([AObj.resv, AObj.resv, r, AObj.resv, AObj.resv, AObj.resv, (AObj.cells (0 : Nat) [AV.zs, AV.zs, AV.zs]), (AObj.cells (0 : Nat) [(flL (V)), (flLL (C)), v])] = [AObj.resv, AObj.resv, r, AObj.resv, AObj.resv, AObj.resv, (AObj.cells (0 : Nat) [AV.zs, AV.zs, AV.zs]), (AObj.cells (0 : Nat) [(flL (V)), (flLL (C)), v])]) (.need (((AV.row [(AV.int IntKind.u8 ((x.R.getD k.toNat c0).d)), (AV.int IntKind.u8 ((x.R.getD k.toNat c0).u)), (flT ((x.R.getD k.toNat c0).w)), (AV.int IntKind.i8 ((x.R.getD k.toNat c0).m))] (3 : Nat)) = (AV.row [(AV.int IntKind.u8 ((x.R.getD k.toNat c0).d)), (AV.int IntKind.u8 ((x.R.getD k.toNat c0).u)), (flT ((x.R.getD k.toNat c0).w)), (AV.int IntKind.i8 ((x.R.getD k.toNat c0).m))] (3 : Nat))) ∧ ([AObj.resv, AObj.resv, r, AObj.resv, AObj.resv, AObj.resv, (AObj.cells (0 : Nat) [AV.zs, AV.zs, AV.zs]), (AObj.cells (0 : Nat) [(flL (V)), (flLL (C)), v]), (AObj.cells (0 : Nat) [(I ((0 : Int))), AV.zs, AV.zs, (I ((0 : Int)))])] = [AObj.resv, AObj.resv, r, AObj.resv, AObj.resv, AObj.resv, (AObj.cells (0 : Nat) [AV.zs, AV.zs, AV.zs]), (AObj.cells (0 : Nat) [(flL (V)), (flLL (C)), v]), (AObj.cells (0 : Nat) [(I ((0 : Int))), AV.zs, AV.zs, (I ((0 : Int)))])])) (.need ([AObj.resv, AObj.resv, r, AObj.resv, AObj.resv, AObj.resv, (AObj.cells (0 : Nat) [AV.zs, AV.zs, AV.zs]), (AObj.cells (0 : Nat) [(flL (V)), (flLL (C)), v])] = [AObj.resv, AObj.resv, r, AObj.resv, AObj.resv, AObj.resv, (AObj.cells (0 : Nat) [AV.zs, AV.zs, AV.zs]), (AObj.cells (0 : Nat) [(flL (V)), (flLL (C)), v])]) (.need (((AV.int IntKind.i8 ((x.R.getD k.toNat c0).m)) = (AV.int IntKind.i8 ((x.R.getD k.toNat c0).m))) ∧ ([AObj.resv, AObj.resv, r, AObj.resv, AObj.resv, AObj.resv, (AObj.cells (0 : Nat) [AV.zs, AV.zs, AV.zs]), (AObj.cells (0 : Nat) [(flL (V)), (flLL (C)), v]), (AObj.cells (0 : Nat) [(I ((0 : Int))), AV.zs, AV.zs, (I ((0 : Int)))])] = [AObj.resv, AObj.resv, r, AObj.resv, AObj.resv, AObj.resv, (AObj.cells (0 : Nat) [AV.zs, AV.zs, AV.zs]), (AObj.cells (0 : Nat) [(flL (V)), (flLL (C)), v]), (AObj.cells (0 : Nat) [(I ((0 : Int))), AV.zs, AV.zs, (I ((0 : Int)))])])) (.need ([AObj.resv, AObj.resv, r, AObj.resv, AObj.resv, AObj.resv, (AObj.cells (0 : Nat) [AV.zs, AV.zs, AV.zs]), (AObj.cells (0 : Nat) [(flL (V)), (flLL (C)), v])] = [AObj.resv, AObj.resv, r, AObj.resv, AObj.resv, AObj.resv, (AObj.cells (0 : Nat) [AV.zs, AV.zs, AV.zs]), (AObj.cells (0 : Nat) [(flL (V)), (flLL (C)), v])]) (.need (((I (IntKind.i64.wrap (x.R.getD k.toNat c0).m)) = (I (IntKind.i64.wrap (x.R.getD k.toNat c0).m))) ∧ ([AObj.resv, AObj.resv, r, AObj.resv, AObj.resv, AObj.resv, (AObj.cells (0 : Nat) [AV.zs, AV.zs, AV.zs]), (AObj.cells (0 : Nat) [(flL (V)), (flLL (C)), v]), (AObj.cells (0 : Nat) [(I ((0 : Int))), AV.zs, AV.zs, (I ((0 : Int)))])] = [AObj.resv, AObj.resv, r, AObj.resv, AObj.resv, AObj.resv, (AObj.cells (0 : Nat) [AV.zs, AV.zs, AV.zs]), (AObj.cells (0 : Nat) [(flL (V)), (flLL (C)), v]), (AObj.cells (0 : Nat) [(I ((0 : Int))), AV.zs, AV.zs, (I ((0 : Int)))])])) (.need ([AObj.resv, AObj.resv, r, AObj.resv, AObj.resv, AObj.resv, (AObj.cells (0 : Nat) [AV.zs, AV.zs, AV.zs]), (AObj.cells (0 : Nat) [(flL (V)), (flLL (C)), v])] = [AObj.resv, AObj.resv, r, AObj.resv, AObj.resv, AObj.resv, (AObj.cells (0 : Nat) [AV.zs, AV.zs, AV.zs]), (AObj.cells (0 : Nat) [(flL (V)), (flLL (C)), v])]) (.need (((AV.agg (setL (setL [(I ((0 : Int))), AV.zs, AV.zs, (I ((0 : Int)))] (0 : Nat) [(I (IntKind.i64.wrap (x.R.getD k.toNat c0).d))]) (3 : Nat) [(I (IntKind.i64.wrap (x.R.getD k.toNat c0).m))])) = (AV.agg (setL (setL [(I ((0 : Int))), AV.zs, AV.zs, (I ((0 : Int)))] (0 : Nat) [(I (IntKind.i64.wrap (x.R.getD k.toNat c0).d))]) (3 : Nat) [(I (IntKind.i64.wrap (x.R.getD k.toNat c0).m))]))) ∧ ([AObj.resv, AObj.resv, r, AObj.resv, AObj.resv, AObj.resv, (AObj.cells (0 : Nat) [AV.zs, AV.zs, AV.zs]), (AObj.cells (0 : Nat) [(flL (V)), (flLL (C)), v]), (AObj.cells (0 : Nat) [(I ((0 : Int))), AV.zs, AV.zs, (I ((0 : Int)))])] = [AObj.resv, AObj.resv, r, AObj.resv, AObj.resv, AObj.resv, (AObj.cells (0 : Nat) [AV.zs, AV.zs, AV.zs]), (AObj.cells (0 : Nat) [(flL (V)), (flLL (C)), v]), (AObj.cells (0 : Nat) [(I ((0 : Int))), AV.zs, AV.zs, (I ((0 : Int)))])])) (.need ([AObj.resv, AObj.resv, r, AObj.resv, AObj.resv, AObj.resv, (AObj.cells (0 : Nat) [AV.zs, AV.zs, AV.zs]), (AObj.cells (0 : Nat) [(flL (V)), (flLL (C)), v]), (AObj.cells (0 : Nat) [(I ((0 : Int))), AV.zs, AV.zs, (I ((0 : Int)))])] = [AObj.resv, AObj.resv, r, AObj.resv, AObj.resv, AObj.resv, (AObj.cells (0 : Nat) [AV.zs, AV.zs, AV.zs]), (AObj.cells (0 : Nat) [(flL (V)), (flLL (C)), v]), (AObj.cells (0 : Nat) [(I ((0 : Int))), AV.zs, AV.zs, (I ((0 : Int)))])]) (.need (((Option.some (4 : Nat)) = (Option.some (4 : Nat))) ∧ ((true = true) ∧ ((4 : Nat) ≤ (4 : Nat)))) (.need ([AObj.resv, AObj.resv, r, AObj.resv, AObj.resv, AObj.resv, (AObj.cells (0 : Nat) [AV.zs, AV.zs, AV.zs]), (AObj.cells (0 : Nat) [(flL (V)), (flLL (C)), v]), (AObj.cells (0 : Nat) (setL [(I ((0 : Int))), AV.zs, AV.zs, (I ((0 : Int)))] (0 : Nat) (setL (setL [(I ((0 : Int))), AV.zs, AV.zs, (I ((0 : Int)))] (0 : Nat) [(I (IntKind.i64.wrap (x.R.getD k.toNat c0).d))]) (3 : Nat) [(I (IntKind.i64.wrap (x.R.getD k.toNat c0).m))])))] = [AObj.resv, AObj.resv, r, AObj.resv, AObj.resv, AObj.resv, (AObj.cells (0 : Nat) [AV.zs, AV.zs, AV.zs]), (AObj.cells (0 : Nat) [(flL (V)), (flLL (C)), v]), (AObj.cells (0 : Nat) [(I (dm18 x k)), AV.zs, AV.zs, (I (mm18 x k))])]) (.need ((stD x V C v r k (dm18 x k) (mm18 x k) .zs .zs .resv .resv 0 0).vals = (stD x V C v r k (dm18 x k) (mm18 x k) .zs .zs .resv .resv 0 0).vals) (.need (((Option.some [v, (AV.sl (4 : Nat) [[(I (dm18 x k)), (flL (U)), (flLL (W)), (I (mm18 x k))]])]) = (Option.some [v, (AV.sl (4 : Nat) [[(I (dm18 x k)), (flL (U)), (flLL (W)), (I (mm18 x k))]])])) ∧ (((Option.some r) = (Option.some r)) ∧ (g))) (.need (((AV.one v') = true) ∧ ((2 : Nat) < (3 : Nat))) (.leaf (Exit.normal, St.of 162 [AObj.resv, AObj.resv, r', AObj.resv, AObj.resv, AObj.resv, (AObj.cells (0 : Nat) [AV.zs, AV.zs, AV.zs]), (AObj.cells (0 : Nat) (setL [(flL (V)), (flLL (C)), v] (2 : Nat) [v']))] [(1, (AV.row [(flB (x.V)), (flB (x.C)), (flC (x.R))] (0 : Nat)), true), (2, (AV.ref (6 : Nat) (0 : Nat) (0 : Nat)), true), (3, (AV.ref (7 : Nat) (0 : Nat) (0 : Nat)), true), (9, (I (IntKind.i64.wrap (k + (1 : Int)))), true)]))))))))))))))))))))))))))))))))))))))))))) (.leaf ((Exit.exit (4 : Nat)), St.of 162 [AObj.resv, AObj.resv, r, AObj.resv, AObj.resv, AObj.resv, (AObj.cells (0 : Nat) [AV.zs, AV.zs, AV.zs]), (AObj.cells (0 : Nat) [(flL (V)), (flLL (C)), v])] [(1, (AV.row [(flB (x.V)), (flB (x.C)), (flC (x.R))] (0 : Nat)), true), (2, (AV.ref (6 : Nat) (0 : Nat) (0 : Nat)), true), (3, (AV.ref (7 : Nat) (0 : Nat) (0 : Nat)), true), (9, (I k), true)]))) (.leaf ((Exit.exit (4 : Nat)), St.of 162 [AObj.resv, AObj.resv, r, AObj.resv, AObj.resv, AObj.resv, (AObj.cells (0 : Nat) [AV.zs, AV.zs, AV.zs]), (AObj.cells (0 : Nat) [(flL (V)), (flLL (C)), v])] [(1, (AV.row [(flB (x.V)), (flB (x.C)), (flC (x.R))] (0 : Nat)), true), (2, (AV.ref (6 : Nat) (0 : Nat) (0 : Nat)), true), (3, (AV.ref (7 : Nat) (0 : Nat) (0 : Nat)), true), (9, (I k), true)])) := by kernel_rfl
theorem run18Ce (x : Pz) (V : List Int) (C : List (List Int)) (v : AV) (r : AObj) (k : Int) : xBodyT { boxRow := false } 200 (lpF 24 keepD (stD x V C v r k 0 0 .zs .zs .resv .resv 0 0)) keepC 8 body18C (stC x V C v r k) = .ite (decide (k < (↑x.R.length : Int))) (.ite (decide (k < (6 : Int))) (.need (((0 : Int) ≤ k) ∧ (k < (↑x.R.length : Int))) (.need (((0 : Int) ≤ k) ∧ (k < (↑x.R.length : Int))) .fail)) (.leaf ((Exit.exit (4 : Nat)), St.of 162 [AObj.resv, AObj.resv, r, AObj.resv, AObj.resv, AObj.resv, (AObj.cells (0 : Nat) [AV.zs, AV.zs, AV.zs]), (AObj.cells (0 : Nat) [(flL (V)), (flLL (C)), v])] [(1, (AV.row [(flB (x.V)), (flB (x.C)), (flC (x.R))] (0 : Nat)), true), (2, (AV.ref (6 : Nat) (0 : Nat) (0 : Nat)), true), (3, (AV.ref (7 : Nat) (0 : Nat) (0 : Nat)), true), (9, (I k), true)]))) (.leaf ((Exit.exit (4 : Nat)), St.of 162 [AObj.resv, AObj.resv, r, AObj.resv, AObj.resv, AObj.resv, (AObj.cells (0 : Nat) [AV.zs, AV.zs, AV.zs]), (AObj.cells (0 : Nat) [(flL (V)), (flLL (C)), v])] [(1, (AV.row [(flB (x.V)), (flB (x.C)), (flC (x.R))] (0 : Nat)), true), (2, (AV.ref (6 : Nat) (0 : Nat) (0 : Nat)), true), (3, (AV.ref (7 : Nat) (0 : Nat) (0 : Nat)), true), (9, (I k), true)])) := by kernel_rfl
end Go.Proofs.Ytngaihdpmoajeaa.Am

namespace Go.Proofs.Ytngaihdpmoajeaa.Am
open Go
set_option maxRecDepth 100000

def D01 : Nat → Bool := fun q => Nat.blt q 2
def D45 : Nat → Bool := fun q => Nat.beq q 4 || Nat.beq q 5
theorem only_zPb {P : Nat → Prop} : ∀ y ∈ zPb, Only P y := fun y hy => by
  simp only [zPb, List.mem_cons, List.not_mem_nil, or_false] at hy
  rcases hy with rfl | rfl | rfl <;> exact .zs
theorem exec18A {x : Pz} (hx : x.ok) : AExec Try.prog G0 (fun r => r = none) (.loop body18A) { tmps := (stA x .zs .resv .zs .resv 0 0).a } (hA .zs .resv .zs .resv .resv) (.exit 0)
    { tmps := (St.of 162 (hC (valsM x (N18 x)) (costsM x (N18 x)) .zs .resv .resv .resv .resv) [(1, .row (pzC x) 0, true), (2, .ref 6 0 0, true), (3, .ref 7 0 0, true), (4, I (ofs x (N18 x) : Nat), true), (5, I (N18 x), true)]).a } (hC (valsM x (N18 x)) (costsM x (N18 x)) .zs .resv .resv .resv .resv) := by
  refine (loop18A hx).drop (n := 8) (D := D01) (fun _ _ => rfl) rfl rfl (fun r q hr hD => ?_) ?_ ?_
  · have : r < 2 := by rw [← Nat.blt_eq]; exact hD
    match r, hr with
    | 0, hr => cases hr; rfl
    | 1, hr => cases hr; rfl
    | r + 2, _ => omega
  · refine ⟨.inl ⟨rfl, rfl⟩, .inl ⟨rfl, rfl⟩, .inr (.inl ⟨rfl, rfl, trivial⟩), .inr (.inl ⟨rfl, rfl, trivial⟩), .inr (.inl ⟨rfl, rfl, trivial⟩), .inr (.inl ⟨rfl, rfl, trivial⟩), .inr (.inl ⟨rfl, rfl, only_zPb⟩), .inr (.inr ⟨rfl, _, _, _, rfl, rfl, ?_⟩), trivial⟩
    exact ⟨re_ints rfl (dropP_none rfl), re_lists rfl (dropP_none rfl), Re.flat .zs, trivial⟩
  · have rf : ∀ (r : Nat) (σ : Heap), D01 r = false ∧ r < 8 → Re G0 (dropP D01 8) σ (.ref r 0 0) (.ref r 0 0) := fun r σ h => Re.good (.ref _ _ _ h)
    exact ⟨rfl, Re.flat (below_pzr x), rfl, rf 6 _ ⟨rfl, by omega⟩, rfl, rf 7 _ ⟨rfl, by omega⟩, rfl, re_int, rfl, re_int, trivial⟩
/-! ### The weights of one variable -/
def wF (c : Cs) (o j : Nat) : Int := c.w.getD (o + j) 0
section
variable (V : List Int) (C : List (List Int)) (R : List Rl) (k d m : Int) (U : List Int) (W : List (List Int))
theorem alone_D (T : List Int) : ∀ o ∈ hD V C (sV 4 2 (rowR R)) (sO (rowR R)) (sO (rowI T)) (sO (rowI U)) (sO (rowLL W)) d (sV 1 4 (rowI U)) (sV 1 5 (rowLL W)) m, Alone 9 o := fun o ho => by
  simp only [hD, List.mem_cons, List.not_mem_nil, or_false] at ho
  rcases ho with rfl | rfl | rfl | rfl | rfl | rfl | rfl | rfl | rfl
  · trivial
  · trivial
  · exact alone_sO fun x hx y hy => (rowR_flat x hx y hy).up
  · exact alone_rowI _
  · exact alone_rowI _
  · exact alone_rowLL _
  · intro y hy
    simp only [zPb, List.mem_cons, List.not_mem_nil, or_false] at hy
    rcases hy with rfl | rfl | rfl <;> exact .zs
  · intro y hy
    simp only [List.mem_cons, List.not_mem_nil, or_false] at hy
    rcases hy with rfl | rfl | rfl
    · exact (below_flL _).up
    · exact (below_flLL _).up
    · exact below_sV (by omega)
  · intro y hy
    simp only [List.mem_cons, List.not_mem_nil, or_false] at hy
    rcases hy with rfl | rfl | rfl | rfl
    · exact .int _ _
    · exact below_sV (by omega)
    · exact below_sV (by omega)
    · exact .int _ _
/-- The state over a variable's weights, by lists. -/
def stE' (x : Pz) (a j u n : Int) (T : List Int) (i : Int) : St := stE x V C (sV 4 2 (rowR R)) (sO (rowR R)) k d m (sV 1 4 (rowI U)) (sV 1 5 (rowLL W)) (sO (rowI U)) (sO (rowLL W)) a j u n (sV 1 3 (rowI T)) (sO (rowI T)) i
theorem clean18E (x : Pz) (a j u n : Int) (T : List Int) (i : Int) : CleanT 9 (stE' V C R k d m U W x a j u n T i) :=
  cleanT_of rfl (alone_D V C R d m U W T) ⟨below_pzr x, .ref _ _ _ (by omega), .ref _ _ _ (by omega), .int _ _, .ref _ _ _ (by omega), .int _ _, .int _ _, below_sV (by omega), (below_flL _).up, .int _ _, .int _ _, .int _ _, .int _ _, trivial⟩
end
theorem loop18E {x : Pz} (hx : x.ok) (V : List Int) (C : List (List Int)) (R : List Rl) {k : Nat} (hk : k < x.R.length) (d m : Int) (U : List Int) (W : List (List Int)) (j u : Int) (n o : Nat) (hb : o + n < 1000000) :
    LoopA body18E n (fun i => stE' V C R k d m U W x (o + i : Nat) j u n (preL (wF (x.R.getD k c0) o) i) i) (fun i => stE' V C R k d m U W x (o + i : Nat) j u n (preL (wF (x.R.getD k c0) o) i) i) (stE' V C R k d m U W x (o + n : Nat) j u n (preL (wF (x.R.getD k c0) o) n) n) .ret (.exit 8) fun _ => false := by
  refine .linT (m := 9) (fun _ => rfl) rfl nofun (fun i => clean18E V C R k d m U W x _ j u n _ i) (clean18E V C R k d m U W x _ j u n _ _) fun i hi => ?_
  have key := congrArg Tree.sel (run18E True x V C (sV 4 2 (rowR R)) (sO (rowR R)) k d m (sV 1 4 (rowI U)) (sV 1 5 (rowLL W)) (sO (rowI U)) (sO (rowLL W)) (o + i : Nat) j u n (sV 1 3 (rowI (preL (wF (x.R.getD k c0) o) i))) (sV 1 3 (rowI (preL (wF (x.R.getD k c0) o) i ++ [wF (x.R.getD k c0) o i]))) (sO (rowI (preL (wF (x.R.getD k c0) o) i))) (sO (rowI (preL (wF (x.R.getD k c0) o) i ++ [wF (x.R.getD k c0) o i]))) i (wF (x.R.getD k c0) o i))
  have hw := hx.w k (o + i)
  rw [Int.toNat_natCast, Int.toNat_natCast] at key
  refine ⟨_, _, _, clokHint (hApO_ok els22 fun _ => grow_I (by rw [preL_len]; omega) _ 3), lpNo _, fun hlt => key.trans ?_, fun he => key.trans ?_⟩
  · have w1 : IntKind.i64.wrap (((o + i : Nat) : Int) + 1) = ((o + (i + 1) : Nat) : Int) := (wrapI (by omega)).trans (by omega)
    have w2 : IntKind.i64.wrap (i + 1 : Int) = ((i + 1 : Nat) : Int) := (wrapI (by omega)).trans (by omega)
    rw [w1, w2, preL_succ]
    refine (selIt (dT (by omega))).trans (t_need ⟨by omega, by omega⟩ (t_ite (fun h1 => ?_) fun h1 => ?_))
    · have h1' := of_decide_eq_true h1
      have e : wF (x.R.getD k c0) o i = (x.R.getD k c0).w.getD (o + i) 0 := rfl
      rw [wrapI (by omega), e]
      exact t_need ⟨by omega, by omega⟩ (t_need ⟨by omega, h1'⟩ (t_need ⟨rfl, rfl, trivial⟩ rfl))
    · have h1' := of_decide_eq_false h1
      have e : wF (x.R.getD k c0) o i = 0 := by
        unfold wF
        rw [List.getD_eq_getElem?_getD, List.getElem?_eq_none (by omega)]
        rfl
      rw [e]
      exact t_need ⟨rfl, rfl, trivial⟩ rfl
  · rw [selIf (dF (by omega)), he]
    rfl
/-- The state behind a variable's weights. -/
def stEx (x : Pz) (V : List Int) (C : List (List Int)) (R : List Rl) (k d m : Int) (U : List Int) (W : List (List Int)) (a j u n : Int) (s : AV) (i : Int) : St := stE x V C (sV 4 2 (rowR R)) (sO (rowR R)) k d m (sV 1 4 (rowI U)) (sV 1 5 (rowLL W)) (sO (rowI U)) (sO (rowLL W)) a j u n s .resv i
def hDx (V : List Int) (C : List (List Int)) (R : List Rl) (d m : Int) (U : List Int) (W : List (List Int)) : Heap := hD V C (sV 4 2 (rowR R)) (sO (rowR R)) .resv (sO (rowI U)) (sO (rowLL W)) d (sV 1 4 (rowI U)) (sV 1 5 (rowLL W)) m
theorem exec18E {x : Pz} (hx : x.ok) (V : List Int) (C : List (List Int)) (R : List Rl) {k : Nat} (hk : k < x.R.length) (d m : Int) (U : List Int) (W : List (List Int)) (j u : Int) (n o : Nat) (hb : o + n < 1000000) :
    AExec Try.prog G0 (fun r => r = none) (.loop body18E) { tmps := (stEx x V C R k d m U W o j u n .zs 0).a } (hDx V C R d m U W) (.exit 8)
      { tmps := (stEx x V C R k d m U W (o + n : Nat) j u n (flL (preL (wF (x.R.getD k c0) o) n)) n).a } (hDx V C R d m U W) := by
  refine (loop18E hx V C R hk d m U W j u n o hb).drop (n := 9) (D := D3) (fun _ _ => rfl) rfl rfl (fun r q hr hD => ?_) ?_ ?_
  · obtain rfl := Nat.eq_of_beq_eq_true hD
    cases hr; rfl
  · refine ⟨.inr (.inl ⟨rfl, rfl, trivial⟩), .inr (.inl ⟨rfl, rfl, trivial⟩), .inr (.inl ⟨rfl, rfl, onlyO_sO rowR_flat⟩), .inl ⟨rfl, rfl⟩, .inr (.inl ⟨rfl, rfl, onlyO_sO rowI_flat⟩), .inr (.inl ⟨rfl, rfl, onlyO_sO rowLL_flat⟩), .inr (.inl ⟨rfl, rfl, only_zPb⟩), .inr (.inl ⟨rfl, rfl, fun y hy => ?_⟩), .inr (.inl ⟨rfl, rfl, fun y hy => ?_⟩), trivial⟩
    · simp only [List.mem_cons, List.not_mem_nil, or_false] at hy
      rcases hy with rfl | rfl | rfl
      · exact .of0 (below_flL _)
      · exact .of0 (below_flLL _)
      · exact onlySV ⟨rfl, by omega⟩
    · simp only [List.mem_cons, List.not_mem_nil, or_false] at hy
      rcases hy with rfl | rfl | rfl | rfl
      · exact .int _ _
      · exact onlySV ⟨rfl, by omega⟩
      · exact onlySV ⟨rfl, by omega⟩
      · exact .int _ _
  · have rf : ∀ (r : Nat) (σ : Heap), D3 r = false ∧ r < 9 → Re G0 (dropP D3 9) σ (.ref r 0 0) (.ref r 0 0) := fun r σ h => Re.good (.ref _ _ _ h)
    exact ⟨rfl, Re.flat (below_pzr x), rfl, rf 6 _ ⟨rfl, by omega⟩, rfl, rf 7 _ ⟨rfl, by omega⟩, rfl, re_int, rfl, rf 8 _ ⟨rfl, by omega⟩, rfl, re_int, rfl, re_int, rfl, re_ints rfl (dropP_none rfl), rfl, Re.flat (below_flL _), rfl, re_int, rfl, re_int, rfl, re_int, rfl, re_int, trivial⟩
/-! ### One rule -/
def bitC (c : Cs) (j : Nat) : Bool := !(uand8 (ushr8 c.u j) 1 == 0)
def varK (c : Cs) : Nat → List Int
  | 0 => []
  | j + 1 => bif bitC c j then varK c j ++ [(j : Int)] else varK c j
def offK (V : List Int) (c : Cs) : Nat → Nat
  | 0 => 0
  | j + 1 => bif bitC c j then offK V c j + (V.getD j 0).toNat else offK V c j
def wtK (V : List Int) (c : Cs) : Nat → List (List Int)
  | 0 => []
  | j + 1 => bif bitC c j then wtK V c j ++ [preL (wF c (offK V c j)) (V.getD j 0).toNat] else wtK V c j
theorem varK_len (c : Cs) : ∀ j, (varK c j).length ≤ j
  | 0 => Nat.le_refl _
  | j + 1 => by
    have := varK_len c j
    unfold varK
    cases bitC c j with
    | true => rw [cond_true, List.length_append, List.length_singleton]; omega
    | false => rw [cond_false]; omega
theorem wtK_len (V : List Int) (c : Cs) : ∀ j, (wtK V c j).length = (varK c j).length
  | 0 => rfl
  | j + 1 => by
    have := wtK_len V c j
    unfold wtK varK
    cases bitC c j with
    | true => rw [cond_true, cond_true, List.length_append, List.length_append, List.length_singleton, List.length_singleton, this]
    | false => rw [cond_false, cond_false, this]
theorem offK_le {V : List Int} (hV : ∀ j, V.getD j 0 ≤ 4) (c : Cs) : ∀ j, offK V c j ≤ 4 * j
  | 0 => Nat.le_refl _
  | j + 1 => by
    have := offK_le hV c j
    have := hV j
    unfold offK
    cases bitC c j with
    | true => rw [cond_true]; omega
    | false => rw [cond_false]; omega
def stD' (x : Pz) (V : List Int) (C : List (List Int)) (R : List Rl) (k d m : Int) (U : List Int) (W : List (List Int)) (a j : Int) : St := stD x V C (sV 4 2 (rowR R)) (sO (rowR R)) k d m (sV 1 4 (rowI U)) (sV 1 5 (rowLL W)) (sO (rowI U)) (sO (rowLL W)) a j
theorem clean18D (x : Pz) (V : List Int) (C : List (List Int)) (R : List Rl) (k d m : Int) (U : List Int) (W : List (List Int)) (a j : Int) : CleanT 9 (stD' x V C R k d m U W a j) :=
  cleanT_of rfl (alone_D V C R d m U W []) ⟨below_pzr x, .ref _ _ _ (by omega), .ref _ _ _ (by omega), .int _ _, .ref _ _ _ (by omega), .int _ _, (below_flL _).up, .int _ _, .int _ _, trivial⟩
theorem loops18D : loopsOf body18D = [body18E] := by kernel_rfl
theorem loop18D {x : Pz} (hx : x.ok) {V : List Int} (hV : ∀ j, V.getD j 0 ≤ 4) (hV0 : ∀ j, 0 ≤ V.getD j 0) (hVl : V.length ≤ 5) (C : List (List Int)) (R : List Rl) {k : Nat} (hk : k < x.R.length) (d m : Int) :
    LoopA body18D V.length (fun j => stD' x V C R k d m (varK (x.R.getD k c0) j) (wtK V (x.R.getD k c0) j) (offK V (x.R.getD k c0) j : Nat) j) (fun j => stD' x V C R k d m (varK (x.R.getD k c0) j) (wtK V (x.R.getD k c0) j) (offK V (x.R.getD k c0) j : Nat) j)
      (stD' x V C R k d m (varK (x.R.getD k c0) V.length) (wtK V (x.R.getD k c0) V.length) (offK V (x.R.getD k c0) V.length : Nat) V.length) .ret (.exit 6) fun _ => false := by
  refine .linT (m := 9) (fun _ => rfl) rfl nofun (fun j => clean18D x V C R k d m _ _ _ j) (clean18D x V C R k d m _ _ _ _) fun j hj => ?_
  have ho := offK_le hV (x.R.getD k c0) j
  have h4 := hV j
  have h0 := hV0 j
  have hn : V.getD j 0 = ((V.getD j 0).toNat : Int) := by omega
  have hvl := varK_len (x.R.getD k c0) j
  have hwl := wtK_len V (x.R.getD k c0) j
  have he := lpB_exec (i := 29) (keep := keepE) (S := stEx x V C R k d m (varK (x.R.getD k c0) j) (wtK V (x.R.getD k c0) j) (offK V (x.R.getD k c0) j : Nat) j j (V.getD j 0).toNat .zs 0) (X := stEx x V C R k d m (varK (x.R.getD k c0) j) (wtK V (x.R.getD k c0) j) (offK V (x.R.getD k c0) j + (V.getD j 0).toNat : Nat) j j (V.getD j 0).toNat (flL (preL (wF (x.R.getD k c0) (offK V (x.R.getD k c0) j)) (V.getD j 0).toNat)) (V.getD j 0).toNat)
    (exec18E hx V C R hk d m (varK (x.R.getD k c0) j) (wtK V (x.R.getD k c0) j) j j (V.getD j 0).toNat (offK V (x.R.getD k c0) j) (by omega)) rfl (c := body18D) (one_loop loops18D)
  have key := congrArg Tree.sel (run18D True x V C (sV 4 2 (rowR R)) (sO (rowR R)) k d m (sV 1 4 (rowI (varK (x.R.getD k c0) j))) (sV 1 5 (rowLL (wtK V (x.R.getD k c0) j))) (sV 1 4 (rowI (varK (x.R.getD k c0) j ++ [(j : Int)]))) (sV 1 5 (rowLL (wtK V (x.R.getD k c0) j ++ [preL (wF (x.R.getD k c0) (offK V (x.R.getD k c0) j)) (V.getD j 0).toNat])))
    (sO (rowI (varK (x.R.getD k c0) j))) (sO (rowLL (wtK V (x.R.getD k c0) j))) (sO (rowI (varK (x.R.getD k c0) j ++ [(j : Int)]))) (sO (rowLL (wtK V (x.R.getD k c0) j ++ [preL (wF (x.R.getD k c0) (offK V (x.R.getD k c0) j)) (V.getD j 0).toNat]))) (offK V (x.R.getD k c0) j : Nat) (offK V (x.R.getD k c0) j + (V.getD j 0).toNat : Nat) j (preL (wF (x.R.getD k c0) (offK V (x.R.getD k c0) j)) (V.getD j 0).toNat))
  rw [Int.toNat_natCast, Int.toNat_natCast, hn, Int.toNat_natCast] at key
  refine ⟨_, _, _, clokHint ((hApO_ok els22 fun _ => grow_I (by omega) _ 4).or ((hApO_ok els23 fun _ => grow_LL (by omega) _ 5).or ((hSto_ok 8 (one_of (by kernel_rfl))).ok.or ((hSto_ok 8 (one_of (by kernel_rfl))).ok.or hBit_ok.ok)))), he, fun hlt => key.trans ?_, fun he => key.trans ?_⟩
  · have w2 : IntKind.i64.wrap (j + 1 : Int) = ((j + 1 : Nat) : Int) := (wrapI (by omega)).trans (by omega)
    rw [w2]
    refine (selIt (dT (by omega))).trans (t_need ⟨by omega, by omega⟩ (t_need ⟨by omega, by omega⟩ (t_need (by omega) (t_need trivial (t_ite (fun h1 => ?_) fun h1 => ?_)))))
    · have hb : bitC (x.R.getD k c0) j = false := by unfold bitC; rw [h1]; rfl
      have e1 : varK (x.R.getD k c0) (j + 1) = varK (x.R.getD k c0) j := by show (bif _ then _ else _) = _; rw [hb]; rfl
      have e2 : wtK V (x.R.getD k c0) (j + 1) = wtK V (x.R.getD k c0) j := by show (bif _ then _ else _) = _; rw [hb]; rfl
      have e3 : offK V (x.R.getD k c0) (j + 1) = offK V (x.R.getD k c0) j := by show (bif _ then _ else _) = _; rw [hb]; rfl
      rw [e1, e2, e3]
      rfl
    · have hb : bitC (x.R.getD k c0) j = true := by unfold bitC; rw [h1]; rfl
      have e1 : varK (x.R.getD k c0) (j + 1) = varK (x.R.getD k c0) j ++ [(j : Int)] := by show (bif _ then _ else _) = _; rw [hb]; rfl
      have e2 : wtK V (x.R.getD k c0) (j + 1) = wtK V (x.R.getD k c0) j ++ [preL (wF (x.R.getD k c0) (offK V (x.R.getD k c0) j)) (V.getD j 0).toNat] := by show (bif _ then _ else _) = _; rw [hb]; rfl
      have e3 : offK V (x.R.getD k c0) (j + 1) = offK V (x.R.getD k c0) j + (V.getD j 0).toNat := by show (bif _ then _ else _) = _; rw [hb]; rfl
      rw [e1, e2, e3]
      exact t_need rfl (t_need ⟨rfl, rfl, trivial⟩ (t_need ⟨one_sV, by omega⟩ (t_need ⟨rfl, rfl, trivial⟩ (t_need ⟨one_sV, by omega⟩ rfl))))
  · rw [selIf (dF (by omega)), he]
    rfl
end Go.Proofs.Ytngaihdpmoajeaa.Am

