/-
  This file proves nothing of a law. It holds lemmas, of 1 texts in their order. No condition of its own.
-/
import Derived.Test.YtngaihdpmoajeaaMg12
namespace Go.Proofs.Ytngaihdpmoajeaa.Am
open Go
set_option maxRecDepth 100000

/-! ### A tree says so, whatever the heap -/
def SaysE (t : Tree (AV × Bool × Heap)) (v : AV) : Prop := ∃ s h, t.sel = some (v, s, h)
theorem sE_leaf {v : AV} {s : Bool} {h : Heap} : SaysE (.leaf (v, s, h)) v := ⟨s, h, rfl⟩
theorem sE_need {p : Prop} {x : Tree (AV × Bool × Heap)} {v : AV} (hp : p) (hx : SaysE x v) : SaysE (.need p x) v := by
  obtain ⟨s, h, hs⟩ := hx
  exact ⟨s, h, (selN hp).trans hs⟩
theorem sE_true {b : Bool} {x y : Tree (AV × Bool × Heap)} {v : AV} (hb : b = true) (hx : SaysE x v) : SaysE (.ite b x y) v := by subst hb; exact hx
theorem sE_false {b : Bool} {x y : Tree (AV × Bool × Heap)} {v : AV} (hb : b = false) (hy : SaysE y v) : SaysE (.ite b x y) v := by subst hb; exact hy
theorem ACall.saysE {E : Env} (hcl : ClOk Try.prog G0 E) {n : Nat} {f : FuncId} {xs : List AV} {tags : List Bool} {h : Heap} {v : AV} {t : Tree (AV × Bool × Heap)}
    (he : xCall Try.prog G0 E n f xs tags h = t) (hs : SaysE t v) : ∃ h', ACall Try.prog G0 f xs h v h' := by
  obtain ⟨s, h', hs⟩ := hs
  exact ⟨h', xCall_ok names mixed hcl ((congrArg Tree.sel he).trans hs)⟩
/-! ### The law's own problem -/
theorem cutL_sh (L : List (List Int)) : sh (cutL L 26) ∧ ∀ l ∈ cutL L 26, sh l := by
  refine ⟨?_, fun l hl => ?_⟩
  · show ((L.take 26).map _).length < _
    rw [List.length_map, List.length_take]
    omega
  · obtain ⟨x, _, rfl⟩ := List.mem_map.1 hl
    show (x.take 20).length < _
    rw [List.length_take]
    omega
theorem own_sh (p : Pb) : (ownP p).sh := by
  have ht : ∀ L : List Int, sh (L.take 26) := fun L => by
    show (L.take 26).length < _
    rw [List.length_take]
    omega
  refine ⟨ht _, (cutL_sh _).1, (cutL_sh _).2, ?_, fun x hx => ?_⟩
  · show ((p.R.take (ownN p)).map cutR).length < _
    have : ownN p ≤ 2049 := by unfold ownN; split <;> omega
    rw [List.length_map, List.length_take]
    omega
  · obtain ⟨y, _, rfl⟩ := List.mem_map.1 hx
    exact ⟨ht _, (cutL_sh _).1, (cutL_sh _).2⟩
theorem cutL_cutL (L : List (List Int)) : cutL (cutL L 26) 26 = cutL L 26 := by
  unfold cutL
  rw [← List.map_take, List.take_take, List.map_map, Nat.min_self]
  congr 1
  funext x
  show (x.take 20).take 20 = x.take 20
  rw [List.take_take, Nat.min_self]
theorem cutR_cutR (x : Rl) : cutR (cutR x) = cutR x := by
  unfold cutR
  simp only [cutL_cutL, List.take_take, Nat.min_self]
theorem own_own (p : Pb) : ownP (ownP p) = ownP p := by
  have hN : ownN (ownP p) = ownN p := by
    show (if ((p.R.take (ownN p)).map cutR).length > 2048 then 2049 else 12) = ownN p
    rw [List.length_map, List.length_take]
    unfold ownN
    by_cases h : p.R.length > 2048
    · rw [if_pos h, if_pos (by omega)]
    · rw [if_neg h, if_neg (by omega)]
  show Pb.mk ((p.V.take 26).take 26) (cutL (cutL p.C 26) 26) ((((p.R.take (ownN p)).map cutR).take (ownN (ownP p))).map cutR) = Pb.mk (p.V.take 26) (cutL p.C 26) ((p.R.take (ownN p)).map cutR)
  rw [hN, cutL_cutL, List.take_take, Nat.min_self, ← List.map_take, List.take_take, Nat.min_self, List.map_map]
  congr 1
  refine List.map_congr_left fun x _ => cutR_cutR x
/-! ### What both find -/
theorem sh_beg {p : Pb} (hp : Ok p) {a : List Int} (ha : Beg p a) : sh a := beg_sh hp ha
theorem solve_both (p : Pb) : ∃ (a : List Int) (c e : Int), sh a ∧ solveR p (bestW p []) = .tup [flL a, I c, I e] ∧ solveR p (refW p []) = .tup [flL a, I c, I e] := by
  unfold solveR
  cases hv : validP p with
  | false => exact ⟨[], 0, 1, sh_nil, rfl, rfl⟩
  | true =>
    have hp := valid_iff.1 hv
    rw [best_ref hp (beg_nil p)]
    cases hr : refW p [] with
    | none => exact ⟨[], 0, 7, sh_nil, rfl, rfl⟩
    | some x => exact ⟨x, costA p x, 0, beg_sh hp (refW_beg hp (beg_nil p) hr).1, rfl, rfl⟩
theorem first_both (p : Pb) : ∃ (a : List Int) (e : Int), sh a ∧ (bif validP p then resF (firstW p) else .tup [flL [], I 1]) = .tup [flL a, I e] ∧ (bif validP p then resF (refF p) else .tup [flL [], I 1]) = .tup [flL a, I e] := by
  cases hv : validP p with
  | false => exact ⟨[], 1, sh_nil, rfl, rfl⟩
  | true =>
    have hp := valid_iff.1 hv
    rw [first_ref hp]
    cases hr : refF p with
    | none => exact ⟨[], 7, sh_nil, rfl, rfl⟩
    | some x => exact ⟨x, 0, beg_sh hp (refF_beg hp hr).1, rfl, rfl⟩
theorem least_both (p : Pb) (a : List Int) : ∃ c e : Int, leastR p a (bestW p a) = .tup [I c, I e] ∧ leastR p a (refW p a) = .tup [I c, I e] := by
  unfold leastR
  cases hv : validP p with
  | false => exact ⟨0, 1, rfl, rfl⟩
  | true =>
    cases hb : begB p a with
    | false => exact ⟨0, 2, rfl, rfl⟩
    | true =>
      rw [best_ref (valid_iff.1 hv) (beg_iff.1 hb)]
      cases refW p a with
      | none => exact ⟨0, 7, rfl, rfl⟩
      | some x => exact ⟨costA p x, 0, rfl, rfl⟩
theorem count_both (p : Pb) (m : Int) : ∃ n e : Int, countR p m (countW p m) = .tup [I n, I e] ∧ countR p m (refN p m) = .tup [I n, I e] := by
  unfold countR
  cases hv : validP p with
  | false => exact ⟨0, 1, rfl, rfl⟩
  | true =>
    cases hb : inB m 0 1000000 with
    | false => exact ⟨0, 2, rfl, rfl⟩
    | true =>
      rw [count_ref (valid_iff.1 hv) (inB_iff.1 hb).1]
      exact ⟨_, 0, rfl, rfl⟩
theorem refl_eq {b : List Int} (h : sh b) (σ : Heap) : ACall Try.prog G0 23 [flL b, flL b] σ (.bool true) σ := by
  have := c23 (b := b) h σ
  rwa [beq_self_eq_true] at this
theorem same_self {o : Pb} (h : o.sh) (σ : Heap) : ACall Try.prog G0 30 [pAV o, pAV o] σ (.bool true) σ := by
  have := c30 (y := o) h σ
  rwa [dT rfl] at this
theorem need30 (a : List Int) (m : Nat) : (some (I (if (m : Int) < (a.length : Int) then (m : Int) else (a.length : Int)))) = some (I ((min a.length m : Nat) : Int)) := by
  congr 2
  split <;> omega
/-! ### SearchSolves -/
theorem call7 {p : Pb} (hs : p.sh) : ∃ σ', ACall Try.prog G0 7 [pAV p] [] (.bool true) σ' := by
  obtain ⟨a, c, e, ha, h1, h2⟩ := solve_both (ownP p)
  obtain ⟨b, g, hb, h3, h4⟩ := first_both (ownP p)
  have ho := own_sh p
  have hcl : ClOk Try.prog G0 (EN (k7 p (ownP p) (flL a) (flL b) (smallB (ownP p)) c e g) H7) := clokN (fun z hz xs hx σ => by
    simp only [k7, List.mem_cons, List.not_mem_nil, or_false] at hz
    rcases hz with rfl | rfl | rfl | rfl | rfl | rfl | rfl | rfl | rfl
    · rcases hx with rfl | rfl
      · exact c10 hs σ
      · have := c10 ho σ
        rwa [own_own] at this
    · obtain rfl : xs = _ := hx; exact c11 ho σ
    · obtain rfl : xs = _ := hx; exact c12 σ
    · obtain rfl : xs = _ := hx; exact h1 ▸ c21 ho σ
    · obtain rfl : xs = _ := hx; exact h2 ▸ c33 ho σ
    · obtain rfl : xs = _ := hx; exact h3 ▸ c22 ho σ
    · obtain rfl : xs = _ := hx; exact h4 ▸ c34 ho σ
    · rcases hx with rfl | rfl
      · exact refl_eq ha σ
      · exact refl_eq hb σ
    · obtain rfl : xs = _ := hx; exact same_self ho σ) ((hStA_ok 26 0).ok.or (hStA_ok 26 1).ok)
  refine ACall.saysE hcl (run7 p (ownP p) (flL a) (flL b) _ c e g) ?_
  cases smallB (ownP p) <;>
  repeat' (first
    | exact sE_leaf
    | refine sE_need (by first | exact rfl | exact .inl rfl | exact .inr rfl | exact ⟨rfl, rfl, Nat.le_refl _⟩) ?_
    | refine sE_true (by first | exact rfl | exact beq_self_eq_true _) ?_
    | refine sE_false rfl ?_)
/-! ### SearchCounts -/
theorem call3 {p : Pb} (hs : p.sh) (a : List Int) (m : Int) : ∃ σ', ACall Try.prog G0 3 [pAV p, flL a, I m] [] (.bool true) σ' := by
  have ho := own_sh p
  have ha : sh (a.take (min a.length 30)) := by
    show (a.take _).length < _
    rw [List.length_take]
    omega
  obtain ⟨c, e, h1, h2⟩ := least_both (ownP p) (a.take (min a.length 30))
  obtain ⟨n, g, h3, h4⟩ := count_both (ownP p) m
  have hcl : ClOk Try.prog G0 (EN (k3 p (ownP p) (a.take (min a.length 30)) m (smallB (ownP p)) c e n g) (H3 a)) := clokN (fun z hz xs hx σ => by
    simp only [k3, List.mem_cons, List.not_mem_nil, or_false] at hz
    rcases hz with rfl | rfl | rfl | rfl | rfl | rfl | rfl | rfl
    · obtain rfl : xs = _ := hx; exact c10 hs σ
    · obtain rfl : xs = _ := hx; exact c11 ho σ
    · obtain rfl : xs = _ := hx; exact c12 σ
    · obtain rfl : xs = _ := hx; exact c14d (by rw [List.length_take]; omega) σ
    · obtain rfl : xs = _ := hx; exact h1 ▸ c13 ho ha σ
    · obtain rfl : xs = _ := hx; exact h2 ▸ c15 ho ha σ
    · obtain rfl : xs = _ := hx; exact h3 ▸ c16 ho m σ
    · obtain rfl : xs = _ := hx; exact h4 ▸ c17 ho m σ) ((hStA_ok 26 0).ok.or (hSlAt_ok _ _ _))
  refine ACall.saysE hcl (run3 p (ownP p) a m _ c e n g) ?_
  cases smallB (ownP p) <;>
  repeat' (first
    | exact sE_leaf
    | refine sE_need (by first | exact rfl | exact .inl rfl | exact .inr rfl | exact ⟨rfl, rfl, Nat.le_refl _⟩ | exact ⟨rfl, need30 a 30, Nat.min_le_left _ _⟩) ?_
    | refine sE_true (by first | exact rfl | exact beq_self_eq_true _) ?_
    | refine sE_false rfl ?_)
/-! ### SearchChecks -/
theorem only_sh (p : Pb) (hs : p.sh) (D : List Int) : (onlyP p D).sh := by
  unfold onlyP
  cases validP p with
  | false => exact ⟨sh_nil, sh_nil, fun _ h => (by cases h), sh_nil, fun _ h => (by cases h)⟩
  | true =>
    refine ⟨hs.1, hs.2.1, hs.2.2.1, ?_, fun x hx => hs.2.2.2.2 x (List.mem_filter.1 hx).1⟩
    have h1 : (p.R.filter fun x => D.contains x.d).length ≤ p.R.length := List.length_filter_le _ _
    have h2 : p.R.length < _ := hs.2.2.2.1
    show (p.R.filter fun x => D.contains x.d).length < _
    omega
theorem brkL_sh {p : Pb} (hs : p.sh) (a : List Int) : sh (if whole p a = 0 then brkL p a p.R.length else []) := by
  split
  · have h1 := brkL_len p a p.R.length
    have h2 : p.R.length < _ := hs.2.2.2.1
    show (brkL p a p.R.length).length < _
    omega
  · exact sh_nil
theorem call6 {p : Pb} (hs : p.sh) (a d : List Int) : ∃ σ', ACall Try.prog G0 6 [pAV p, flL a, flL d] [] (.bool true) σ' := by
  have ho := own_sh p
  have ha : sh (a.take (min a.length 30)) := by
    show (a.take _).length < _
    rw [List.length_take]
    omega
  have hd : sh (d.take (min d.length 20)) := by
    show (d.take _).length < _
    rw [List.length_take]
    omega
  have hcl : ClOk Try.prog G0 (EN (k6 p (ownP p) (onlyP (ownP p) (d.take (min d.length 20))) (a.take (min a.length 30)) (d.take (min d.length 20)) (if whole (ownP p) (a.take (min a.length 30)) = 0 then brkL (ownP p) (a.take (min a.length 30)) (ownP p).R.length else []) (validP (ownP p))
      (if whole (ownP p) (a.take (min a.length 30)) = 0 then costA (ownP p) (a.take (min a.length 30)) else 0) (whole (ownP p) (a.take (min a.length 30))) (whole (ownP p) (a.take (min a.length 30)))) (H6 a d)) := clokN (fun z hz xs hx σ => by
    simp only [k6, List.mem_cons, List.not_mem_nil, or_false] at hz
    rcases hz with rfl | rfl | rfl | rfl | rfl | rfl | rfl | rfl | rfl | rfl | rfl | rfl | rfl
    · rcases hx with rfl | rfl
      · exact c10 hs σ
      · have := c10 ho σ
        rwa [own_own] at this
    · rcases hx with rfl | rfl
      · exact c14d (by rw [List.length_take]; omega) σ
      · exact c14d (by rw [List.length_take]; omega) σ
    · obtain rfl : xs = _ := hx; exact c24 ho ha σ
    · obtain rfl : xs = _ := hx; exact c26 ho ha σ
    · obtain rfl : xs = _ := hx; exact c25 ho ha σ
    · obtain rfl : xs = _ := hx; exact c27 ho ha σ
    · obtain rfl : xs = _ := hx; exact refl_eq (brkL_sh ho _) σ
    · obtain rfl : xs = _ := hx; exact c28 ho σ
    · obtain rfl : xs = _ := hx; exact c29 ho σ
    · obtain rfl : xs = _ := hx; exact c31 ho hd σ
    · obtain rfl : xs = _ := hx; exact c32 ho hd σ
    · rcases hx with rfl | rfl
      · exact same_self (only_sh _ ho _) σ
      · exact same_self ho σ
    · obtain rfl : xs = _ := hx; exact c12 σ) ((hStA_ok 26 0).ok.or ((hStA_ok 26 1).ok.or ((hSlAt_ok _ _ _).or (hSlAt_ok _ _ _))))
  refine ACall.saysE hcl (run6 p (ownP p) _ a d _ _ _ _ _) ?_
  repeat' (first
    | exact sE_leaf
    | refine sE_need (by first | exact rfl | exact .inl rfl | exact .inr rfl | exact ⟨rfl, rfl, Nat.le_refl _⟩ | exact ⟨rfl, need30 a 30, Nat.min_le_left _ _⟩ | exact ⟨rfl, need30 d 20, Nat.min_le_left _ _⟩) ?_
    | refine sE_true (by first | exact rfl | exact beq_self_eq_true _) ?_
    | refine sE_false (by first | exact rfl | exact bne_self_eq_false _) ?_)
end Go.Proofs.Ytngaihdpmoajeaa.Am

