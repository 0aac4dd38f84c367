/-
  This file proves nothing of a law. It holds lemmas, of 6 texts in their order. No condition of its own.
-/
import Derived.Test.YtngaihdpmoajeaaMg10
namespace Go.Proofs.Ytngaihdpmoajeaa.Am
open Go
set_option maxRecDepth 100000

/-- A new slice in the frame, told as data. -/
theorem AExec.newAt {R : Option Nat → Prop} {c : Code} {a pre post : List AV} {σ : Heap} {e : Exit} {g : Nat} {L : List Int} (h : AExec Try.prog G0 R c { tmps := a } σ e { tmps := pre ++ .ms 1 σ.length g 0 L.length L.length :: post } (σ ++ [.cells g (L.map I)])) (hp : ∀ x ∈ pre ++ post, Below σ.length x) :
    AExec Try.prog G0 R c { tmps := a } σ e { tmps := pre ++ flL L :: post } σ := by
  have h1 : AExec Try.prog G0 R c { tmps := a } σ e { tmps := pre ++ .sl 1 ((L.map I).map fun y => [y]) :: post } σ := by
    refine AExec.msData h (fun x hx => ?_) (by simp) fun j y hj => ?_
    · obtain ⟨n, _, rfl⟩ := List.mem_map.1 hx
      exact .int _ _
    · rcases Nat.lt_trichotomy j pre.length with hlt | rfl | hgt
      · rw [List.getElem?_append_left hlt] at hj ⊢
        exact .inl ⟨hj, hp y (by simp [List.mem_of_getElem? hj])⟩
      · rw [List.getElem?_append_right (Nat.le_refl _), Nat.sub_self] at hj ⊢
        cases hj
        exact .inr ⟨by simp, rfl⟩
      · rw [List.getElem?_append_right (by omega)] at hj ⊢
        obtain ⟨i, hi⟩ : ∃ i, j - pre.length = i + 1 := ⟨j - pre.length - 1, by omega⟩
        rw [hi] at hj ⊢
        simp only [List.getElem?_cons_succ] at hj ⊢
        exact .inl ⟨hj, hp y (by simp [List.mem_of_getElem? hj])⟩
  refine AExec.weak_sub h1 (by simp) fun j y hj => ?_
  by_cases hjp : j = pre.length
  · subst hjp
    rw [List.getElem?_append_right (Nat.le_refl _), Nat.sub_self] at hj
    cases hj
    exact ⟨_, by rw [List.getElem?_append_right (Nat.le_refl _), Nat.sub_self]; rfl, fun _ _ _ h => h.flL_of⟩
  · refine ⟨y, ?_, fun _ _ _ h => h⟩
    rcases Nat.lt_or_ge j pre.length with hlt | hge
    · rw [List.getElem?_append_left hlt] at hj ⊢
      exact hj
    · rw [List.getElem?_append_right (by omega)] at hj ⊢
      obtain ⟨i, hi⟩ : ∃ i, j - pre.length = i + 1 := ⟨j - pre.length - 1, by omega⟩
      rw [hi] at hj ⊢
      simpa using hj
/-- A copy, and what it is with one more. -/
def cpV (n : Nat) (a : List Int) : AV := match a with
  | [] => .zs
  | _ :: _ => .ms 1 n 0 0 a.length a.length
def cpO (a : List Int) : Heap := match a with
  | [] => []
  | _ :: _ => [.cells 0 (a.map I)]
def cpG (a : List Int) : Nat := match a with
  | [] => 0
  | _ :: _ => 1
theorem c14n {a : List Int} (hl : a.length ≤ 16777216) (h : Heap) : ACall Try.prog G0 14 [flL a] h (cpV h.length a) (h ++ cpO a) := by
  cases a with
  | nil =>
    have := (c14e h).arg1 sub_fl0
    simpa [cpV, cpO] using this
  | cons x l => exact c14s (by simp) hl h
theorem app_cl {a : List Int} (hl : a.length < 16777216) (x : Int) (h : Heap) : aAppend Try.prog (h ++ cpO a) 22 22 (cpV h.length a) (.sl 1 [[I x]]) = some (.ms 1 h.length (cpG a) 0 (a ++ [x]).length (a ++ [x]).length, h ++ [.cells (cpG a) ((a ++ [x]).map I)]) := by
  obtain ⟨ie, zx, h1, h2, h3, h4, h5, h6⟩ := el22.i
  have hn : notInt Try.prog 22 = true := by unfold notInt; rw [el22.u]
  have hc : ∀ σ : Heap, conts σ 1 (.sl 1 [[I x]]) = some (1, [I x]) := fun σ => by simp [conts]
  have hone : ([I x] : List AV).all AV.one = true := rfl
  unfold aAppend
  rw [el22.u]
  simp only [h1, h2, h3, hc, hn, hone, h4, h5, h6, and_self, if_true]
  cases a with
  | nil => simp [cpV, cpO, cpG]
  | cons y l =>
    have hobj : objAt (h ++ [AObj.cells 0 ((y :: l).map I)]) h.length 0 = some ((y :: l).map I) := by simp [objAt]
    simp only [cpV, cpO, hobj, cpG]
    have c1 : True ∧ (y :: l).length ≤ (y :: l).length ∧ 0 + (y :: l).length * 1 ≤ ((y :: l).map I).length := ⟨trivial, Nat.le_refl _, by simp⟩
    have c2 : ¬ (y :: l).length + 1 ≤ (y :: l).length := by omega
    have c3 : True ∧ (y :: l).length + 1 ≤ 16777216 := ⟨trivial, by omega⟩
    have htake : ((y :: l).map I).take ((y :: l).length * 1) = (y :: l).map I := List.take_of_length_le (by simp)
    rw [if_pos c1, if_neg (by omega), if_neg c2, if_pos c3, htake]
    simp
def Ecl (a : List Int) (x : Int) (cv av : AV) (h h1 h2 : Heap) : Env := { clh := clhs [(14, [flL a], h, cv, h1)], hint := hApp 22 cv (.sl 1 [[I x]]) av h1 h2 }
theorem clokcl {a : List Int} (hl : a.length < 16777216) (x : Int) (av : AV) (h h2 : Heap) : ClOk Try.prog G0 (Ecl a x (cpV h.length a) av h (h ++ cpO a) h2) := .all (hApp_ok _ _ _ _ _ _).ok (clhs_ok fun z hz => (by
  obtain rfl := List.mem_singleton.1 hz
  exact c14n (by omega) h)) (fun l xs σ t v σ' h => (by cases h)) (fun f xs t v h => (by cases h))
/-! ### The pieces of the loops -/
noncomputable def pA : Code → Code := fstS
noncomputable def pBC : Code → Code | .seq _ (.seq (.block _ c) _) => c | c => c
noncomputable def pD (c : Code) : Code := sndS (sndS c)
noncomputable def body67 : Code := (loopsOf (bodyOf Try.prog 67)).headD .skip
noncomputable def body64 : Code := (loopsOf (bodyOf Try.prog 64)).headD .skip
noncomputable def body51 : Code := (loopsOf (bodyOf Try.prog 51)).headD .skip
theorem loops67 : loopsOf (bodyOf Try.prog 67) = [body67] := by kernel_rfl
theorem loops64 : loopsOf (bodyOf Try.prog 64) = [body64] := by kernel_rfl
theorem loops51 : loopsOf (bodyOf Try.prog 51) = [body51] := by kernel_rfl
theorem code67 : body67 = .seq (pA body67) (.seq (.block 1 (.seq (fstS (pBC body67)) (sndS (pBC body67)))) (pD body67)) := by kernel_rfl
theorem code64 : body64 = .seq (pA body64) (.seq (.block 1 (.seq (fstS (pBC body64)) (sndS (pBC body64)))) (pD body64)) := by kernel_rfl
theorem code51 : body51 = .seq (pA body51) (.seq (.block 1 (.seq (fstS (pBC body51)) (sndS (pBC body51)))) (pD body51)) := by kernel_rfl
def st64 (p : Pb) (a : List Int) (k : Int) (h : Heap) : St := .of 43 h [(1, flL a, true), (2, .row (pbC p) 0, true), (4, .zs, false), (5, .bool false, false), (6, I k, true)]
def st64b (p : Pb) (a : List Int) (k : Int) (v : AV) (h : Heap) : St := .of 43 h [(1, flL a, true), (2, .row (pbC p) 0, true), (4, .zs, false), (5, .bool false, false), (6, I k, true), (7, v, true)]
theorem run64A (p : Pb) (a : List Int) (k : Int) (h : Heap) : xBody Try.prog G0 {} 200 noLoops [1, 2, 4, 5, 6] (pA body64) (st64 p a k h) = .need (((0 : Int) ≤ (↑a.length : Int)) ∧ ((↑a.length : Int) < (↑p.V.length : Int))) (.ite (decide (k < p.V.getD (↑a.length : Int).toNat (0 : Int))) (.leaf (Exit.normal, St.of 43 h [(1, (flL (a)), true), (2, (AV.row [(flL (p.V)), (flLL (p.C)), (flR (p.R))] (0 : Nat)), true), (4, AV.zs, false), (5, (AV.bool false), false), (6, (I k), true)])) (.leaf ((Exit.exit (0 : Nat)), St.of 43 h [(1, (flL (a)), true), (2, (AV.row [(flL (p.V)), (flLL (p.C)), (flR (p.R))] (0 : Nat)), true), (4, AV.zs, false), (5, (AV.bool false), false), (6, (I k), true)]))) := by kernel_rfl
theorem run64B (p : Pb) (a : List Int) (k : Int) (cv av : AV) (h h1 h2 : Heap) : xBody Try.prog G0 (Ecl a k cv av h h1 h2) 200 noLoops [1, 2, 4, 5, 6, 7] (fstS (pBC body64)) (st64 p a k h) = .need (([(flL (a))] = [(flL (a))]) ∧ (h = h)) (.need (((Option.some [cv, (AV.sl (1 : Nat) [[(I k)]])]) = (Option.some [cv, (AV.sl (1 : Nat) [[(I k)]])])) ∧ (((#[(22 : Nat), (22 : Nat)]) = (#[(22 : TypeId), (22 : TypeId)])) ∧ ((h1 = h1) ∧ ((aAppend Try.prog h1 (22 : TypeId) (22 : TypeId) cv (AV.sl (1 : Nat) [[I k]])) = (Option.some (av, h2)))))) (.leaf (Exit.normal, St.of 43 h2 [(1, (flL (a)), true), (2, (AV.row [(flL (p.V)), (flLL (p.C)), (flR (p.R))] (0 : Nat)), true), (4, AV.zs, false), (5, (AV.bool false), false), (6, (I k), true), (7, av, true)]))) := by kernel_rfl
def st51 (p : Pb) (a : List Int) (m n k : Int) (h : Heap) : St := .of 48 h [(1, flL a, true), (2, I m, true), (3, .row (pbC p) 0, true), (7, I n, true), (8, I k, true)]
def st51b (p : Pb) (a : List Int) (m n k : Int) (v : AV) (h : Heap) : St := .of 48 h [(1, flL a, true), (2, I m, true), (3, .row (pbC p) 0, true), (7, I n, true), (8, I k, true), (9, v, true)]
theorem run51A (p : Pb) (a : List Int) (m n k : Int) (h : Heap) : xBody Try.prog G0 {} 200 noLoops [1, 2, 3, 7, 8] (pA body51) (st51 p a m n k h) = .need (((0 : Int) ≤ (↑a.length : Int)) ∧ ((↑a.length : Int) < (↑p.V.length : Int))) (.ite (decide (k < p.V.getD (↑a.length : Int).toNat (0 : Int))) (.ite (decide (n < m)) (.leaf (Exit.normal, St.of 48 h [(1, (flL (a)), true), (2, (I m), true), (3, (AV.row [(flL (p.V)), (flLL (p.C)), (flR (p.R))] (0 : Nat)), true), (7, (I n), true), (8, (I k), true)])) (.leaf ((Exit.exit (0 : Nat)), St.of 48 h [(1, (flL (a)), true), (2, (I m), true), (3, (AV.row [(flL (p.V)), (flLL (p.C)), (flR (p.R))] (0 : Nat)), true), (7, (I n), true), (8, (I k), true)]))) (.leaf ((Exit.exit (0 : Nat)), St.of 48 h [(1, (flL (a)), true), (2, (I m), true), (3, (AV.row [(flL (p.V)), (flLL (p.C)), (flR (p.R))] (0 : Nat)), true), (7, (I n), true), (8, (I k), true)]))) := by kernel_rfl
theorem run51B (p : Pb) (a : List Int) (m n k : Int) (cv av : AV) (h h1 h2 : Heap) : xBody Try.prog G0 (Ecl a k cv av h h1 h2) 200 noLoops [1, 2, 3, 7, 8, 9] (fstS (pBC body51)) (st51 p a m n k h) = .need (([(flL (a))] = [(flL (a))]) ∧ (h = h)) (.need (((Option.some [cv, (AV.sl (1 : Nat) [[(I k)]])]) = (Option.some [cv, (AV.sl (1 : Nat) [[(I k)]])])) ∧ (((#[(22 : Nat), (22 : Nat)]) = (#[(22 : TypeId), (22 : TypeId)])) ∧ ((h1 = h1) ∧ ((aAppend Try.prog h1 (22 : TypeId) (22 : TypeId) cv (AV.sl (1 : Nat) [[I k]])) = (Option.some (av, h2)))))) (.leaf (Exit.normal, St.of 48 h2 [(1, (flL (a)), true), (2, (I m), true), (3, (AV.row [(flL (p.V)), (flLL (p.C)), (flR (p.R))] (0 : Nat)), true), (7, (I n), true), (8, (I k), true), (9, av, true)]))) := by kernel_rfl
def hB67 (p : Pb) (b : List AV) : Heap := [.cells 0 (pbC p), .cells 0 b, .cells 0 [.zs, I 0, .bool false]]
def st67 (a : List Int) (k : Int) (h : Heap) : St := .of 69 h [(1, flL a, true), (3, .ref 0 0 0, true), (5, .ref 1 0 0, true), (6, .ref 2 0 0, true), (8, I k, true)]
def st67b (a : List Int) (k : Int) (v : AV) (h : Heap) : St := .of 69 h [(1, flL a, true), (3, .ref 0 0 0, true), (5, .ref 1 0 0, true), (6, .ref 2 0 0, true), (8, I k, true), (9, v, true)]
theorem run67A (p : Pb) (b : List AV) (a : List Int) (k : Int) : xBody Try.prog G0 { boxRow := false } 200 noLoops [1, 3, 5, 6, 8] (pA body67) (st67 a k (hB67 p b)) = .need (((0 : Int) ≤ (↑a.length : Int)) ∧ ((↑a.length : Int) < (↑p.V.length : Int))) (.ite (decide (k < p.V.getD (↑a.length : Int).toNat (0 : Int))) (.leaf (Exit.normal, St.of 69 [(AObj.cells (0 : Nat) [(flL (p.V)), (flLL (p.C)), (flR (p.R))]), (AObj.cells (0 : Nat) b), (AObj.cells (0 : Nat) [AV.zs, (I ((0 : Int))), (AV.bool false)])] [(1, (flL (a)), true), (3, (AV.ref (0 : Nat) (0 : Nat) (0 : Nat)), true), (5, (AV.ref (1 : Nat) (0 : Nat) (0 : Nat)), true), (6, (AV.ref (2 : Nat) (0 : Nat) (0 : Nat)), true), (8, (I k), true)])) (.leaf ((Exit.exit (0 : Nat)), St.of 69 [(AObj.cells (0 : Nat) [(flL (p.V)), (flLL (p.C)), (flR (p.R))]), (AObj.cells (0 : Nat) b), (AObj.cells (0 : Nat) [AV.zs, (I ((0 : Int))), (AV.bool false)])] [(1, (flL (a)), true), (3, (AV.ref (0 : Nat) (0 : Nat) (0 : Nat)), true), (5, (AV.ref (1 : Nat) (0 : Nat) (0 : Nat)), true), (6, (AV.ref (2 : Nat) (0 : Nat) (0 : Nat)), true), (8, (I k), true)]))) := by kernel_rfl
theorem run67B (a : List Int) (k : Int) (cv av : AV) (h h1 h2 : Heap) : xBody Try.prog G0 (Ecl a k cv av h h1 h2) 200 noLoops [1, 3, 5, 6, 8, 9] (fstS (pBC body67)) (st67 a k h) = .need (([(flL (a))] = [(flL (a))]) ∧ (h = h)) (.need (((Option.some [cv, (AV.sl (1 : Nat) [[(I k)]])]) = (Option.some [cv, (AV.sl (1 : Nat) [[(I k)]])])) ∧ (((#[(22 : Nat), (22 : Nat)]) = (#[(22 : TypeId), (22 : TypeId)])) ∧ ((h1 = h1) ∧ ((aAppend Try.prog h1 (22 : TypeId) (22 : TypeId) cv (AV.sl (1 : Nat) [[I k]])) = (Option.some (av, h2)))))) (.leaf (Exit.normal, St.of 69 h2 [(1, (flL (a)), true), (3, (AV.ref (0 : Nat) (0 : Nat) (0 : Nat)), true), (5, (AV.ref (1 : Nat) (0 : Nat) (0 : Nat)), true), (6, (AV.ref (2 : Nat) (0 : Nat) (0 : Nat)), true), (8, (I k), true), (9, av, true)]))) := by kernel_rfl
theorem at64 (p : Pb) (a : List Int) (k : Int) (v : AV) (h : Heap) : (st64b p a k v h).a = [.junk, flL a, .row (pbC p) 0, .junk, .zs, .bool false, I k] ++ v :: List.replicate 35 .junk := by kernel_rfl
theorem at51 (p : Pb) (a : List Int) (m n k : Int) (v : AV) (h : Heap) : (st51b p a m n k v h).a = [.junk, flL a, I m, .row (pbC p) 0, .junk, .junk, .junk, I n, I k] ++ v :: List.replicate 38 .junk := by kernel_rfl
theorem at67 (a : List Int) (k : Int) (v : AV) (h : Heap) : (st67b a k v h).a = [.junk, flL a, .junk, .ref 0 0 0, .junk, .ref 1 0 0, .ref 2 0 0, .junk, I k] ++ v :: List.replicate 59 .junk := by kernel_rfl
theorem below_ints (L : List Int) (n : Nat) : ∀ x ∈ L.map I, Below n x := fun x hx => by
  obtain ⟨m, _, rfl⟩ := List.mem_map.1 hx
  exact .int _ _
section
variable {R : Option Nat → Prop} {p : Pb} {a : List Int}
theorem low_all {n : Nat} {l : List AV} {k : Nat} (h : ∀ x ∈ l, Below n x) : ∀ x ∈ l ++ List.replicate k .junk, Below n x := fun x hx => by
  rcases List.mem_append.1 hx with hx | hx
  · exact h x hx
  · rw [List.eq_of_mem_replicate hx]; exact .junk
theorem x64B (ha : a.length < 16777216) (k : Int) (h : Heap) : AExec Try.prog G0 R (fstS (pBC body64)) { tmps := (st64 p a k h).a } h .normal { tmps := (st64b p a k (flL (a ++ [k])) h).a } h := by
  have x := rnd (R := R) (n := 200) (keep := [1, 2, 4, 5, 6, 7]) (s := st64 p a k h) (t := st64b p a k (.ms 1 h.length (cpG a) 0 (a ++ [k]).length (a ++ [k]).length) (h ++ [.cells (cpG a) ((a ++ [k]).map I)])) (clokcl ha k _ h _) (lpNo _) ((congrArg Tree.sel (run64B p a k _ _ h _ _)).trans (t_need ⟨rfl, rfl⟩ (t_need ⟨rfl, rfl, rfl, app_cl ha k h⟩ rfl))) rfl
  rw [at64] at x ⊢
  refine AExec.newAt x (low_all fun y hy => ?_)
  simp only [List.mem_cons, List.not_mem_nil, or_false] at hy
  rcases hy with rfl | rfl | rfl | rfl | rfl | rfl | rfl
  · exact .junk
  · exact below_flL _
  · exact (below_row (below_pb p)).up
  · exact .junk
  · exact .zs
  · exact .bool _
  · exact .int _ _
theorem x51B (ha : a.length < 16777216) (m n k : Int) (h : Heap) : AExec Try.prog G0 R (fstS (pBC body51)) { tmps := (st51 p a m n k h).a } h .normal { tmps := (st51b p a m n k (flL (a ++ [k])) h).a } h := by
  have x := rnd (R := R) (n := 200) (keep := [1, 2, 3, 7, 8, 9]) (s := st51 p a m n k h) (t := st51b p a m n k (.ms 1 h.length (cpG a) 0 (a ++ [k]).length (a ++ [k]).length) (h ++ [.cells (cpG a) ((a ++ [k]).map I)])) (clokcl ha k _ h _) (lpNo _) ((congrArg Tree.sel (run51B p a m n k _ _ h _ _)).trans (t_need ⟨rfl, rfl⟩ (t_need ⟨rfl, rfl, rfl, app_cl ha k h⟩ rfl))) rfl
  rw [at51] at x ⊢
  refine AExec.newAt x (low_all fun y hy => ?_)
  simp only [List.mem_cons, List.not_mem_nil, or_false] at hy
  rcases hy with rfl | rfl | rfl | rfl | rfl | rfl | rfl | rfl | rfl
  · exact .junk
  · exact below_flL _
  · exact .int _ _
  · exact (below_row (below_pb p)).up
  · exact .junk
  · exact .junk
  · exact .junk
  · exact .int _ _
  · exact .int _ _
theorem x67B (ha : a.length < 16777216) (k : Int) (h : Heap) (hh : 3 ≤ h.length) : AExec Try.prog G0 R (fstS (pBC body67)) { tmps := (st67 a k h).a } h .normal { tmps := (st67b a k (flL (a ++ [k])) h).a } h := by
  have x := rnd (R := R) (n := 200) (keep := [1, 3, 5, 6, 8, 9]) (s := st67 a k h) (t := st67b a k (.ms 1 h.length (cpG a) 0 (a ++ [k]).length (a ++ [k]).length) (h ++ [.cells (cpG a) ((a ++ [k]).map I)])) (clokcl ha k _ h _) (lpNo _) ((congrArg Tree.sel (run67B a k _ _ h _ _)).trans (t_need ⟨rfl, rfl⟩ (t_need ⟨rfl, rfl, rfl, app_cl ha k h⟩ rfl))) rfl
  rw [at67] at x ⊢
  refine AExec.newAt x (low_all fun y hy => ?_)
  simp only [List.mem_cons, List.not_mem_nil, or_false] at hy
  rcases hy with rfl | rfl | rfl | rfl | rfl | rfl | rfl | rfl | rfl
  · exact .junk
  · exact below_flL _
  · exact .junk
  · exact .ref _ _ _ (by omega)
  · exact .junk
  · exact .ref _ _ _ (by omega)
  · exact .ref _ _ _ (by omega)
  · exact .junk
  · exact .int _ _
end
end Go.Proofs.Ytngaihdpmoajeaa.Am

namespace Go.Proofs.Ytngaihdpmoajeaa.Am
open Go
set_option maxRecDepth 100000

theorem run64C (q : Prop) (p : Pb) (a b : List Int) (k : Int) (ok is : Bool) (v : AV) (h : Heap) : xBody Try.prog G0 (EG q [(50, [pAV p, flL b, .bool true], .bool ok), (64, [pAV p, flL b], .tup [v, .bool is])]) 200 noLoops [1, 2, 4, 5, 6] (sndS (pBC body64)) (st64b p a k (flL b) h) = .need (q) (.need ([(AV.agg [(flL (p.V)), (flLL (p.C)), (flR (p.R))]), (flL (b)), (AV.bool true)] = [(AV.agg [(flL (p.V)), (flLL (p.C)), (flR (p.R))]), (flL (b)), (AV.bool true)]) (.ite (ok) (.need (q) (.need ([(AV.agg [(flL (p.V)), (flLL (p.C)), (flR (p.R))]), (flL (b))] = [(AV.agg [(flL (p.V)), (flLL (p.C)), (flR (p.R))]), (flL (b))]) (.ite (is) (.leaf (Exit.ret, St.of 43 h [(1, (flL (a)), true), (2, (AV.row [(flL (p.V)), (flLL (p.C)), (flR (p.R))] (0 : Nat)), true), (4, v, true), (5, (AV.bool true), false), (6, (I k), true)])) (.leaf (Exit.normal, St.of 43 h [(1, (flL (a)), true), (2, (AV.row [(flL (p.V)), (flLL (p.C)), (flR (p.R))] (0 : Nat)), true), (4, AV.zs, false), (5, (AV.bool false), false), (6, (I k), true)]))))) (.leaf (Exit.normal, St.of 43 h [(1, (flL (a)), true), (2, (AV.row [(flL (p.V)), (flLL (p.C)), (flR (p.R))] (0 : Nat)), true), (4, AV.zs, false), (5, (AV.bool false), false), (6, (I k), true)])))) := by kernel_rfl
theorem run64D (p : Pb) (a : List Int) (k : Int) (h : Heap) : xBody Try.prog G0 {} 200 noLoops [1, 2, 4, 5, 6] (pD body64) (st64 p a k h) = .leaf (Exit.normal, St.of 43 h [(1, (flL (a)), true), (2, (AV.row [(flL (p.V)), (flLL (p.C)), (flR (p.R))] (0 : Nat)), true), (4, AV.zs, false), (5, (AV.bool false), false), (6, (I (IntKind.i64.wrap (k + (1 : Int)))), true)]) := by kernel_rfl
def st64r (p : Pb) (a : List Int) (k : Int) (v : AV) (h : Heap) : St := .of 43 h [(1, flL a, true), (2, .row (pbC p) 0, true), (4, v, false), (5, .bool true, false), (6, I k, true)]
theorem runF64 (p : Pb) (a : List Int) (t : Bool) (v : AV) (k1 k2 : Int) (h : Heap) : xenter Try.prog {} (xCode Try.prog G0 {} 200 (lpA 4 [1, 2, 4, 5, 6] (st64 p a 0 h) t .ret (st64r p a k1 v h) (.exit 0) (st64 p a k2 h))) 64 [pAV p, flL a] [true, true] h = .ite ((↑a.length : Int) == (↑p.V.length : Int)) (.leaf ((AV.tup [(flL (a)), (AV.bool true)]), true, h)) (.need ((st64 p a 0 h).vals = (st64 p a 0 h).vals) (.ite (t) (.leaf ((AV.tup [v, (AV.bool true)]), false, h)) (.leaf ((AV.tup [AV.zs, (AV.bool false)]), false, h)))) := by kernel_rfl
theorem run51C (q : Prop) (p : Pb) (a b : List Int) (m n k : Int) (ok : Bool) (c : Int) (h : Heap) : xBody Try.prog G0 (EG q [(50, [pAV p, flL b, .bool true], .bool ok), (51, [pAV p, flL b, I (IntKind.i64.wrap (m - n))], I c)]) 200 noLoops [1, 2, 3, 7, 8] (sndS (pBC body51)) (st51b p a m n k (flL b) h) = .need (q) (.need ([(AV.agg [(flL (p.V)), (flLL (p.C)), (flR (p.R))]), (flL (b)), (AV.bool true)] = [(AV.agg [(flL (p.V)), (flLL (p.C)), (flR (p.R))]), (flL (b)), (AV.bool true)]) (.ite (ok) (.need (q) (.need ([(AV.agg [(flL (p.V)), (flLL (p.C)), (flR (p.R))]), (flL (b)), (I (IntKind.i64.wrap (m - n)))] = [(AV.agg [(flL (p.V)), (flLL (p.C)), (flR (p.R))]), (flL (b)), (I (IntKind.i64.wrap (m - n)))]) (.leaf (Exit.normal, St.of 48 h [(1, (flL (a)), true), (2, (I m), true), (3, (AV.row [(flL (p.V)), (flLL (p.C)), (flR (p.R))] (0 : Nat)), true), (7, (I (IntKind.i64.wrap (n + c))), true), (8, (I k), true)])))) (.leaf (Exit.normal, St.of 48 h [(1, (flL (a)), true), (2, (I m), true), (3, (AV.row [(flL (p.V)), (flLL (p.C)), (flR (p.R))] (0 : Nat)), true), (7, (I n), true), (8, (I k), true)])))) := by kernel_rfl
theorem run51D (p : Pb) (a : List Int) (m n k : Int) (h : Heap) : xBody Try.prog G0 {} 200 noLoops [1, 2, 3, 7, 8] (pD body51) (st51 p a m n k h) = .leaf (Exit.normal, St.of 48 h [(1, (flL (a)), true), (2, (I m), true), (3, (AV.row [(flL (p.V)), (flLL (p.C)), (flR (p.R))] (0 : Nat)), true), (7, (I n), true), (8, (I (IntKind.i64.wrap (k + (1 : Int)))), true)]) := by kernel_rfl
theorem runF51 (p : Pb) (a : List Int) (m : Int) (t : Bool) (n1 n2 k1 k2 : Int) (h : Heap) : xenter Try.prog {} (xCode Try.prog G0 {} 200 (lpA 5 [1, 2, 3, 7, 8] (st51 p a m 0 0 h) t (.exit 0) (st51 p a m n1 k1 h) (.exit 0) (st51 p a m n2 k2 h))) 51 [pAV p, flL a, I m] [true, true, true] h = .ite ((↑a.length : Int) == (↑p.V.length : Int)) (.leaf ((I ((1 : Int))), false, h)) (.need ((st51 p a m 0 0 h).vals = (st51 p a m 0 0 h).vals) (.ite (t) (.leaf ((I n1), true, h)) (.leaf ((I n2), true, h)))) := by kernel_rfl
theorem runG64 (p : Pb) (a : List Int) (h : Heap) : xenter Try.prog {} (xCode Try.prog G0 {} 200 (lpF 4 [1, 2, 4, 5, 6] (st64 p a 0 h))) 64 [pAV p, flL a] [true, true] h = .ite ((↑a.length : Int) == (↑p.V.length : Int)) (.leaf ((AV.tup [(flL (a)), (AV.bool true)]), true, h)) (.need ((st64 p a 0 h).vals = (st64 p a 0 h).vals) .fail) := by kernel_rfl
theorem runG51 (p : Pb) (a : List Int) (m : Int) (h : Heap) : xenter Try.prog {} (xCode Try.prog G0 {} 200 (lpF 5 [1, 2, 3, 7, 8] (st51 p a m 0 0 h))) 51 [pAV p, flL a, I m] [true, true, true] h = .ite ((↑a.length : Int) == (↑p.V.length : Int)) (.leaf ((I ((1 : Int))), false, h)) (.need ((st51 p a m 0 0 h).vals = (st51 p a m 0 0 h).vals) .fail) := by kernel_rfl
theorem vals64r (p : Pb) (a : List Int) (k : Int) (v : AV) (h : Heap) : (St.of 43 h [(1, flL a, true), (2, .row (pbC p) 0, true), (4, v, true), (5, .bool true, false), (6, I k, true)]).vals = (st64r p a k v h).vals := by kernel_rfl
/-! ### first -/
/-- The first that is found, from k on. -/
def fstL {α : Type} (g : Int → Option α) : Nat → Int → Option α
  | 0, _ => none
  | n + 1, k => match g k with
    | some x => some x
    | none => fstL g n (k + 1)
theorem fstL_stop {α : Type} (g : Int → Option α) : ∀ (d k : Nat), (decide (fstStop (fun j : Nat => (g j).isSome) d k < k + d) = true → fstL g d k = g (fstStop (fun j : Nat => (g j).isSome) d k : Nat)) ∧ (decide (fstStop (fun j : Nat => (g j).isSome) d k < k + d) = false → fstL g d k = none)
  | 0, k => ⟨fun h => absurd (of_decide_eq_true h) (by unfold fstStop; omega), fun _ => rfl⟩
  | d + 1, k => by
    unfold fstStop fstL
    cases hg : g k with
    | some x =>
      simp only [Option.isSome_some, if_true]
      exact ⟨fun _ => hg.symm, fun h => absurd (of_decide_eq_false h) (by omega)⟩
    | none =>
      simp only [Option.isSome_none, Bool.false_eq_true, if_false]
      have ih := fstL_stop g d (k + 1)
      rw [show k + 1 + d = k + (d + 1) by omega] at ih
      exact ih
def frW (p : Pb) : Nat → List Int → Option (List Int)
  | 0, a => some a
  | d + 1, a => fstL (fun k => bif posB p (a ++ [k]) true then frW p d (a ++ [k]) else none) (p.V.getD a.length 0).toNat 0
def resW (s : Option (List Int)) : AV := .tup [flL (s.getD []), .bool s.isSome]
section
variable {p : Pb} {a : List Int}
theorem loop64 (hs : p.sh) (hp : Ok p) (ha : Beg p a) {d : Nat} (hl : a.length < p.V.length) (h : Heap) (ih : ∀ k : Int, 0 ≤ k → k < p.V.getD a.length 0 → ∀ σ, ACall Try.prog G0 64 [pAV p, flL (a ++ [k])] σ (resW (frW p d (a ++ [k]))) σ) :
    LoopA body64 (p.V.getD a.length 0).toNat (fun k => st64 p a k h) (fun k => st64r p a k (flL ((bif posB p (a ++ [(k : Int)]) true then frW p d (a ++ [(k : Int)]) else none).getD [])) h) (st64 p a (p.V.getD a.length 0).toNat h) .ret (.exit 0) (fun k => (bif posB p (a ++ [(k : Int)]) true then frW p d (a ++ [(k : Int)]) else none).isSome) := by
  have hv := hp.v a.length hl
  have hn := hp.n
  have xA : ∀ k : Nat, k < (p.V.getD a.length 0).toNat → AExec Try.prog G0 (fun r => r = none) (pA body64) { tmps := (st64 p a k h).a } h .normal { tmps := (st64 p a k h).a } h := fun k hk =>
    rnd (n := 200) (keep := [1, 2, 4, 5, 6]) (s := st64 p a k h) (t := st64 p a k h) clok0 (lpNo _) ((congrArg Tree.sel (run64A p a k h)).trans (t_need ⟨by omega, by omega⟩ ((selIt (dT (by rw [Int.toNat_natCast]; omega))).trans rfl))) rfl
  have hcl : ∀ k : Nat, k < (p.V.getD a.length 0).toNat → ClOk Try.prog G0 (EG True [(50, [pAV p, flL (a ++ [(k : Int)]), .bool true], .bool (posB p (a ++ [(k : Int)]) true)), (64, [pAV p, flL (a ++ [(k : Int)])], resW (frW p d (a ++ [(k : Int)])))]) := fun k hk =>
    clokG2 (c50 hs hp (beg_app ha hl (by omega) (by omega)) true) (ih k (by omega) (by omega))
  refine ⟨fun _ => rfl, fun _ => rfl, rfl, nofun, nofun, fun k hk _ hst => ?_, fun k hk _ hst => ?_, fun _ => ?_⟩
  · have xC := rnd (R := fun r => r = none) (n := 200) (keep := [1, 2, 4, 5, 6]) (s := st64b p a k (flL (a ++ [(k : Int)])) h) (t := st64 p a k h) (hcl k hk) (lpNo _) ((congrArg Tree.sel (run64C True p a (a ++ [(k : Int)]) k _ (frW p d (a ++ [(k : Int)])).isSome _ h)).trans (t_need trivial (t_need rfl (t_ite (fun h1 => t_need trivial (t_need rfl ((selIf (by rw [h1] at hst; exact hst)).trans rfl))) fun _ => rfl)))) rfl
    have xD := rnd (R := fun r => r = none) (n := 200) (keep := [1, 2, 4, 5, 6]) (s := st64 p a k h) (t := st64 p a ((k + 1 : Nat) : Int) h) clok0 (lpNo _) ((congrArg Tree.sel (run64D p a k h)).trans (by rw [wrap_i64 (by omega) (by omega)]; rfl)) rfl
    rw [code64]
    exact .seq (xA k hk) (.seq (AExec.block_to (id := 1) (.seq (x64B (by omega) k h) xC) rfl) xD)
  · cases h1 : posB p (a ++ [(k : Int)]) true with
    | false => rw [h1] at hst; cases hst
    | true =>
      rw [h1] at hst
      have xC := rnd (R := fun r => r = none) (n := 200) (keep := [1, 2, 4, 5, 6]) (s := st64b p a k (flL (a ++ [(k : Int)])) h) (t := st64r p a k (flL ((frW p d (a ++ [(k : Int)])).getD [])) h) (hcl k hk) (lpNo _) ((congrArg Tree.sel (run64C True p a (a ++ [(k : Int)]) k _ (frW p d (a ++ [(k : Int)])).isSome _ h)).trans (t_need trivial (t_need rfl ((selIt h1).trans (t_need trivial (t_need rfl ((selIt hst).trans rfl))))))) (vals64r _ _ _ _ _)
      show AExec _ _ _ body64 { tmps := (st64 p a k h).a } h .ret { tmps := (st64r p a k (flL ((frW p d (a ++ [(k : Int)])).getD [])) h).a } h
      rw [code64]
      exact .seq (xA k hk) (.seq_out (AExec.block_to (id := 1) (.seq (x64B (by omega) k h) xC) rfl) nofun)
  · have x := rnd (R := fun r => r = none) (n := 200) (keep := [1, 2, 4, 5, 6]) (s := st64 p a (p.V.getD a.length 0).toNat h) (t := st64 p a (p.V.getD a.length 0).toNat h) clok0 (lpNo _) ((congrArg Tree.sel (run64A p a _ h)).trans (t_need ⟨by omega, by omega⟩ ((selIf (dF (by rw [Int.toNat_natCast]; omega))).trans rfl))) rfl
    rw [code64]
    exact .seq_out x nofun
theorem fstStop_hit {stop : Nat → Bool} : ∀ (d k : Nat), fstStop stop d k < k + d → stop (fstStop stop d k) = true
  | 0, k, h => by unfold fstStop at h; omega
  | d + 1, k, h => by
    unfold fstStop at h ⊢
    cases hk : stop k with
    | true => simpa using hk
    | false =>
      rw [hk] at h
      simp only [Bool.false_eq_true, if_false] at h ⊢
      exact fstStop_hit d (k + 1) (by omega)
theorem fstStop_hit0 {stop : Nat → Bool} {N : Nat} (h : fstStop stop N 0 < N) : stop (fstStop stop N 0) = true := fstStop_hit N 0 (by omega)
theorem c64 (hs : p.sh) (hp : Ok p) : ∀ (d : Nat) (a : List Int), Beg p a → a.length + d = p.V.length → ∀ h, ACall Try.prog G0 64 [pAV p, flL a] h (resW (frW p d a)) h
  | 0, a, ha, hd, h => ACall.says clok0 (lpF_ok 4 _ _ _) (runG64 p a h) (says_ite (fun _ => says_leaf) fun h => by rw [show a.length = p.V.length by omega] at h; simp at h)
  | d + 1, a, ha, hd, h => by
    have hl := loop64 hs hp ha (d := d) (by omega) h fun k h0 hk σ => c64 hs hp d (a ++ [k]) (beg_app ha (by omega) h0 hk) (by simp; omega) σ
    have e : frW p (d + 1) a = fstL (fun k => bif posB p (a ++ [k]) true then frW p d (a ++ [k]) else none) (p.V.getD a.length 0).toNat ((0 : Nat) : Int) := rfl
    obtain ⟨k1, k2⟩ := fstL_stop (fun k => bif posB p (a ++ [k]) true then frW p d (a ++ [k]) else none) (p.V.getD a.length 0).toNat 0
    rw [Nat.zero_add] at k1 k2
    rw [← e] at k1 k2
    have hx := hl.ok (c := bodyOf Try.prog 64) (i := 4) (keep := [1, 2, 4, 5, 6]) (one_loop loops64)
    cases hd1 : decide (fstStop (fun k : Nat => (bif posB p (a ++ [(k : Int)]) true then frW p d (a ++ [(k : Int)]) else none).isSome) (p.V.getD a.length 0).toNat 0 < (p.V.getD a.length 0).toNat) with
    | true =>
      have hs1 := fstStop_hit0 (of_decide_eq_true hd1)
      rw [hd1] at hx
      have e1 := k1 hd1
      rw [← e1] at hx hs1
      have key := ACall.says clok0 hx (runF64 p a true _ _ _ h) (says_ite (fun h => absurd (eq_of_beq h) (by omega)) fun _ => says_need rfl (says_ite (fun _ => says_leaf) fun h => by cases h))
      unfold resW
      rw [hs1]
      exact key
    | false =>
      rw [hd1] at hx
      rw [k2 hd1]
      have key := ACall.says clok0 hx (runF64 p a false _ _ _ h) (says_ite (fun h => absurd (eq_of_beq h) (by omega)) fun _ => says_need rfl (says_ite (fun h => (by cases h)) fun _ => says_leaf))
      exact key.conv (sub_tup2 sub_zsL _)
/-! ### count -/
def cntK (g : Int → Int → Int) (m : Int) : Nat → Int
  | 0 => 0
  | k + 1 => if cntK g m k < m then cntK g m k + g k (m - cntK g m k) else cntK g m k
def cntW (p : Pb) : Nat → List Int → Int → Int
  | 0, _, _ => 1
  | d + 1, a, m => cntK (fun k m' => bif posB p (a ++ [k]) true then cntW p d (a ++ [k]) m' else 0) m (p.V.getD a.length 0).toNat
theorem cntK_bound {g : Int → Int → Int} (hg : ∀ k m, 1 ≤ m → 0 ≤ g k m ∧ g k m ≤ m) {m : Int} (hm : 1 ≤ m) : ∀ k, 0 ≤ cntK g m k ∧ cntK g m k ≤ m
  | 0 => ⟨Int.le_refl _, by show (0 : Int) ≤ m; omega⟩
  | k + 1 => by
    have ih := cntK_bound hg hm k
    unfold cntK
    split
    · have := hg k (m - cntK g m k) (by omega)
      omega
    · exact ih
theorem cntW_bound (p : Pb) : ∀ (d : Nat) (a : List Int) (m : Int), 1 ≤ m → 0 ≤ cntW p d a m ∧ cntW p d a m ≤ m
  | 0, a, m, hm => ⟨by unfold cntW; omega, by unfold cntW; omega⟩
  | d + 1, a, m, hm => cntK_bound (fun k m' h => by
      cases posB p (a ++ [k]) true with
      | true => exact cntW_bound p d _ m' h
      | false => exact ⟨Int.le_refl _, by show (0 : Int) ≤ m'; omega⟩) hm _
theorem cntK_stay {g : Int → Int → Int} {m : Int} {k : Nat} (h : ¬ cntK g m k < m) : ∀ j, cntK g m (k + j) = cntK g m k
  | 0 => rfl
  | j + 1 => by
    have ih := cntK_stay h j
    show (if cntK g m (k + j) < m then cntK g m (k + j) + g (k + j : Nat) (m - cntK g m (k + j)) else cntK g m (k + j)) = cntK g m k
    rw [ih, if_neg h]
theorem loop51 (hs : p.sh) (hp : Ok p) (ha : Beg p a) {d : Nat} (hl : a.length < p.V.length) {m : Int} (h1 : 1 ≤ m) (h2 : m ≤ 1000000) (h : Heap) (ih : ∀ k m' : Int, 0 ≤ k → k < p.V.getD a.length 0 → 1 ≤ m' → m' ≤ 1000000 → ∀ σ, ACall Try.prog G0 51 [pAV p, flL (a ++ [k]), I m'] σ (I (cntW p d (a ++ [k]) m')) σ) :
    LoopA body51 (p.V.getD a.length 0).toNat (fun k => st51 p a m (cntK (fun k m' => bif posB p (a ++ [k]) true then cntW p d (a ++ [k]) m' else 0) m k) k h) (fun k => st51 p a m (cntK (fun k m' => bif posB p (a ++ [k]) true then cntW p d (a ++ [k]) m' else 0) m k) k h) (st51 p a m (cntW p (d + 1) a m) (p.V.getD a.length 0).toNat h) (.exit 0) (.exit 0)
      (fun k => !decide (cntK (fun k m' => bif posB p (a ++ [k]) true then cntW p d (a ++ [k]) m' else 0) m k < m)) := by
  have hv := hp.v a.length hl
  have hn := hp.n
  have hbd : ∀ k, _ := cntK_bound (g := fun k m' => bif posB p (a ++ [k]) true then cntW p d (a ++ [k]) m' else 0) (fun k m' h => by
      cases posB p (a ++ [k]) true with
      | true => exact cntW_bound p d _ m' h
      | false => exact ⟨Int.le_refl _, by show (0 : Int) ≤ m'; omega⟩) h1
  have e : cntW p (d + 1) a m = cntK (fun k m' => bif posB p (a ++ [k]) true then cntW p d (a ++ [k]) m' else 0) m (p.V.getD a.length 0).toNat := rfl
  rw [e]
  have hsucc : ∀ k : Nat, cntK (fun k m' => bif posB p (a ++ [k]) true then cntW p d (a ++ [k]) m' else 0) m (k + 1) = if cntK (fun k m' => bif posB p (a ++ [k]) true then cntW p d (a ++ [k]) m' else 0) m k < m then cntK (fun k m' => bif posB p (a ++ [k]) true then cntW p d (a ++ [k]) m' else 0) m k + (bif posB p (a ++ [(k : Int)]) true then cntW p d (a ++ [(k : Int)]) (m - cntK (fun k m' => bif posB p (a ++ [k]) true then cntW p d (a ++ [k]) m' else 0) m k) else 0) else cntK (fun k m' => bif posB p (a ++ [k]) true then cntW p d (a ++ [k]) m' else 0) m k := fun k => rfl
  generalize cntK (fun k m' => bif posB p (a ++ [k]) true then cntW p d (a ++ [k]) m' else 0) m = N at hbd hsucc ⊢
  refine ⟨fun _ => rfl, fun _ => rfl, rfl, nofun, nofun, fun k hk _ hst => ?_, fun k hk _ hst => ?_, fun _ => ?_⟩
  · have hlt : N k < m := by simpa using hst
    have hb := hbd k
    have hw : IntKind.i64.wrap (m - N k) = m - N k := wrap_i64 (by omega) (by omega)
    have xA := rnd (R := fun r => r = none) (n := 200) (keep := [1, 2, 3, 7, 8]) (s := st51 p a m (N k) k h) (t := st51 p a m (N k) k h) clok0 (lpNo _) ((congrArg Tree.sel (run51A p a m (N k) k h)).trans (t_need ⟨by omega, by omega⟩ ((selIt (dT (by rw [Int.toNat_natCast]; omega))).trans ((selIt (dT hlt)).trans rfl)))) rfl
    have hcl : ClOk Try.prog G0 (EG True [(50, [pAV p, flL (a ++ [(k : Int)]), .bool true], .bool (posB p (a ++ [(k : Int)]) true)), (51, [pAV p, flL (a ++ [(k : Int)]), I (IntKind.i64.wrap (m - N k))], I (cntW p d (a ++ [(k : Int)]) (m - N k)))]) :=
      clokG2 (c50 hs hp (beg_app ha hl (by omega) (by omega)) true) (by rw [hw]; exact ih k (m - N k) (by omega) (by omega) (by omega) (by omega))
    have hc := cntW_bound p d (a ++ [(k : Int)]) (m - N k) (by omega)
    have xC := rnd (R := fun r => r = none) (n := 200) (keep := [1, 2, 3, 7, 8]) (s := st51b p a m (N k) k (flL (a ++ [(k : Int)])) h) (t := st51 p a m (N (k + 1)) k h) hcl (lpNo _) ((congrArg Tree.sel (run51C True p a (a ++ [(k : Int)]) m (N k) k _ _ h)).trans (t_need trivial (t_need rfl (t_ite (fun h3 => t_need trivial (t_need rfl (by
      rw [hsucc, if_pos hlt, h3, cond_true, wrap_i64 (by omega) (by omega)]; rfl))) fun h3 => by
      rw [hsucc, if_pos hlt, h3, cond_false, Int.add_zero]; rfl)))) rfl
    have xD := rnd (R := fun r => r = none) (n := 200) (keep := [1, 2, 3, 7, 8]) (s := st51 p a m (N (k + 1)) k h) (t := st51 p a m (N (k + 1)) ((k + 1 : Nat) : Int) h) clok0 (lpNo _) ((congrArg Tree.sel (run51D p a m _ k h)).trans (by rw [wrap_i64 (by omega) (by omega)]; rfl)) rfl
    rw [code51]
    exact .seq xA (.seq (AExec.block_to (id := 1) (.seq (x51B (by omega) m (N k) k h) xC) rfl) xD)
  · have hlt : ¬ N k < m := by simpa using hst
    have xA := rnd (R := fun r => r = none) (n := 200) (keep := [1, 2, 3, 7, 8]) (s := st51 p a m (N k) k h) (t := st51 p a m (N k) k h) clok0 (lpNo _) ((congrArg Tree.sel (run51A p a m (N k) k h)).trans (t_need ⟨by omega, by omega⟩ ((selIt (dT (by rw [Int.toNat_natCast]; omega))).trans ((selIf (dF hlt)).trans rfl)))) rfl
    rw [code51]
    exact .seq_out xA nofun
  · have x := rnd (R := fun r => r = none) (n := 200) (keep := [1, 2, 3, 7, 8]) (s := st51 p a m (N (p.V.getD a.length 0).toNat) (p.V.getD a.length 0).toNat h) (t := st51 p a m (N (p.V.getD a.length 0).toNat) (p.V.getD a.length 0).toNat h) clok0 (lpNo _) ((congrArg Tree.sel (run51A p a m _ _ h)).trans (t_need ⟨by omega, by omega⟩ ((selIf (dF (by rw [Int.toNat_natCast]; omega))).trans rfl))) rfl
    rw [code51]
    exact .seq_out x nofun
theorem c51 (hs : p.sh) (hp : Ok p) : ∀ (d : Nat) (a : List Int) (m : Int), Beg p a → a.length + d = p.V.length → 1 ≤ m → m ≤ 1000000 → ∀ h, ACall Try.prog G0 51 [pAV p, flL a, I m] h (I (cntW p d a m)) h
  | 0, a, m, ha, hd, _, _, h => ACall.says clok0 (lpF_ok 5 _ _ _) (runG51 p a m h) (says_ite (fun _ => says_leaf) fun h => by rw [show a.length = p.V.length by omega] at h; simp at h)
  | d + 1, a, m, ha, hd, h1, h2, h => by
    have hl := loop51 hs hp ha (d := d) (by omega) h1 h2 h fun k m' h0 hk h3 h4 σ => c51 hs hp d (a ++ [k]) m' (beg_app ha (by omega) h0 hk) (by simp; omega) h3 h4 σ
    have e : cntW p (d + 1) a m = cntK (fun k m' => bif posB p (a ++ [k]) true then cntW p d (a ++ [k]) m' else 0) m (p.V.getD a.length 0).toNat := rfl
    have hx := hl.ok (c := bodyOf Try.prog 51) (i := 5) (keep := [1, 2, 3, 7, 8]) (one_loop loops51)
    refine ACall.says clok0 hx (runF51 p a m _ _ _ _ _ h) (says_ite (fun h => absurd (eq_of_beq h) (by omega)) fun _ => says_need rfl (says_ite (fun h3 => ?_) fun _ => says_leaf))
    have hs1 := fstStop_hit0 (of_decide_eq_true h3)
    have hst := cntK_stay (g := fun k m' => bif posB p (a ++ [k]) true then cntW p d (a ++ [k]) m' else 0) (m := m) (k := fstStop (fun k => !decide (cntK (fun k m' => bif posB p (a ++ [k]) true then cntW p d (a ++ [k]) m' else 0) m k < m)) (p.V.getD a.length 0).toNat 0) (by simpa using hs1)
    obtain ⟨j, hj⟩ : ∃ j, (p.V.getD a.length 0).toNat = fstStop (fun k => !decide (cntK (fun k m' => bif posB p (a ++ [k]) true then cntW p d (a ++ [k]) m' else 0) m k < m)) (p.V.getD a.length 0).toNat 0 + j := ⟨_, (Nat.add_sub_cancel' (Nat.le_of_lt (of_decide_eq_true h3))).symm⟩
    have e2 : cntK (fun k m' => bif posB p (a ++ [k]) true then cntW p d (a ++ [k]) m' else 0) m (p.V.getD a.length 0).toNat = _ := (congrArg _ hj).trans (hst j)
    rw [e, e2]
    exact says_leaf
end
end Go.Proofs.Ytngaihdpmoajeaa.Am

namespace Go.Proofs.Ytngaihdpmoajeaa.Am
open Go
set_option maxRecDepth 100000

/-- Rounds, one after the other. -/
def runK {α : Type} (g : Int → α → α) (b : α) : Nat → α
  | 0 => b
  | k + 1 => g k (runK g b k)
def fC (l : List Int) (c : Int) (b : Bool) : List AV := [flL l, I c, .bool b]
theorem run67C (q : Prop) (p : Pb) (a b : List Int) (k : Int) (ok : Bool) (bd : Int) (l l2 : List Int) (c c2 : Int) (i i2 : Bool) : xBody Try.prog G0 (EG q [(50, [pAV p, flL b, .bool true], .bool ok), (77, [pAV p, flL b], I bd), (67, [pAV p, flL b, .agg (fC l c i)], .agg (fC l2 c2 i2))]) 200 noLoops [1, 3, 5, 6, 8] (sndS (pBC body67)) (st67b a k (flL b) (hB67 p (fC l c i))) = .need (q) (.need ([(AV.agg [(flL (p.V)), (flLL (p.C)), (flR (p.R))]), (flL (b)), (AV.bool true)] = [(AV.agg [(flL (p.V)), (flLL (p.C)), (flR (p.R))]), (flL (b)), (AV.bool true)]) (.ite (ok) (.ite (!i) (.need (q) (.need ([(AV.agg [(flL (p.V)), (flLL (p.C)), (flR (p.R))]), (flL (b)), (AV.agg [(flL (l)), (I c), (AV.bool i)])] = [(AV.agg [(flL (p.V)), (flLL (p.C)), (flR (p.R))]), (flL (b)), (AV.agg [(flL (l)), (I c), (AV.bool i)])]) (.leaf (Exit.normal, St.of 69 [(AObj.cells (0 : Nat) [(flL (p.V)), (flLL (p.C)), (flR (p.R))]), (AObj.cells (0 : Nat) (setL [(flL (l)), (I c), (AV.bool i)] (0 : Nat) [(flL (l2)), (I c2), (AV.bool i2)])), (AObj.cells (0 : Nat) [AV.zs, (I ((0 : Int))), (AV.bool false)])] [(1, (flL (a)), true), (3, (AV.ref (0 : Nat) (0 : Nat) (0 : Nat)), true), (5, (AV.ref (1 : Nat) (0 : Nat) (0 : Nat)), true), (6, (AV.ref (2 : Nat) (0 : Nat) (0 : Nat)), true), (8, (I k), true)])))) (.need (q) (.need ([(AV.agg [(flL (p.V)), (flLL (p.C)), (flR (p.R))]), (flL (b))] = [(AV.agg [(flL (p.V)), (flLL (p.C)), (flR (p.R))]), (flL (b))]) (.ite (decide (bd < c)) (.need (q) (.need ([(AV.agg [(flL (p.V)), (flLL (p.C)), (flR (p.R))]), (flL (b)), (AV.agg [(flL (l)), (I c), (AV.bool i)])] = [(AV.agg [(flL (p.V)), (flLL (p.C)), (flR (p.R))]), (flL (b)), (AV.agg [(flL (l)), (I c), (AV.bool i)])]) (.leaf (Exit.normal, St.of 69 [(AObj.cells (0 : Nat) [(flL (p.V)), (flLL (p.C)), (flR (p.R))]), (AObj.cells (0 : Nat) (setL [(flL (l)), (I c), (AV.bool i)] (0 : Nat) [(flL (l2)), (I c2), (AV.bool i2)])), (AObj.cells (0 : Nat) [AV.zs, (I ((0 : Int))), (AV.bool false)])] [(1, (flL (a)), true), (3, (AV.ref (0 : Nat) (0 : Nat) (0 : Nat)), true), (5, (AV.ref (1 : Nat) (0 : Nat) (0 : Nat)), true), (6, (AV.ref (2 : Nat) (0 : Nat) (0 : Nat)), true), (8, (I k), true)])))) (.leaf (Exit.normal, St.of 69 [(AObj.cells (0 : Nat) [(flL (p.V)), (flLL (p.C)), (flR (p.R))]), (AObj.cells (0 : Nat) [(flL (l)), (I c), (AV.bool i)]), (AObj.cells (0 : Nat) [AV.zs, (I ((0 : Int))), (AV.bool false)])] [(1, (flL (a)), true), (3, (AV.ref (0 : Nat) (0 : Nat) (0 : Nat)), true), (5, (AV.ref (1 : Nat) (0 : Nat) (0 : Nat)), true), (6, (AV.ref (2 : Nat) (0 : Nat) (0 : Nat)), true), (8, (I k), true)])))))) (.leaf (Exit.normal, St.of 69 [(AObj.cells (0 : Nat) [(flL (p.V)), (flLL (p.C)), (flR (p.R))]), (AObj.cells (0 : Nat) [(flL (l)), (I c), (AV.bool i)]), (AObj.cells (0 : Nat) [AV.zs, (I ((0 : Int))), (AV.bool false)])] [(1, (flL (a)), true), (3, (AV.ref (0 : Nat) (0 : Nat) (0 : Nat)), true), (5, (AV.ref (1 : Nat) (0 : Nat) (0 : Nat)), true), (6, (AV.ref (2 : Nat) (0 : Nat) (0 : Nat)), true), (8, (I k), true)])))) := by kernel_rfl
theorem run67D (a : List Int) (k : Int) (h : Heap) : xBody Try.prog G0 {} 200 noLoops [1, 3, 5, 6, 8] (pD body67) (st67 a k h) = .leaf (Exit.normal, St.of 69 h [(1, (flL (a)), true), (3, (AV.ref (0 : Nat) (0 : Nat) (0 : Nat)), true), (5, (AV.ref (1 : Nat) (0 : Nat) (0 : Nat)), true), (6, (AV.ref (2 : Nat) (0 : Nat) (0 : Nat)), true), (8, (I (IntKind.i64.wrap (k + (1 : Int)))), true)]) := by kernel_rfl
def EGb (q : Prop) (l : List (FuncId × List AV × AV)) : Env := { EG q l with boxRow := false }
theorem runF67 (q : Prop) (p : Pb) (a l l2 : List Int) (c c2 k ca : Int) (i i2 : Bool) : xenter Try.prog (EGb q [(54, [pAV p, flL a], I ca), (14, [flL a], flL a)]) (xCode Try.prog G0 (EGb q [(54, [pAV p, flL a], I ca), (14, [flL a], flL a)]) 200 (lpB 7 [1, 3, 5, 6, 8] (st67 a 0 (hB67 p (fC l c i))) (.exit 0) (st67 a k (hB67 p (fC l2 c2 i2))))) 67 [pAV p, flL a, .agg (fC l c i)] [true, true, true] [] = .ite ((↑a.length : Int) == (↑p.V.length : Int)) (.need (q) (.need ([(AV.agg [(flL (p.V)), (flLL (p.C)), (flR (p.R))]), (flL (a))] = [(AV.agg [(flL (p.V)), (flLL (p.C)), (flR (p.R))]), (flL (a))]) (.ite (!i) (.need (q) (.need ([(flL (a))] = [(flL (a))]) (.leaf ((AV.agg [(flL (a)), (I ca), (AV.bool true)]), true, [(AObj.cells (0 : Nat) [(flL (p.V)), (flLL (p.C)), (flR (p.R))]), (AObj.cells (0 : Nat) [(flL (l)), (I c), (AV.bool i)]), (AObj.cells (0 : Nat) (setL [AV.zs, (I ((0 : Int))), (AV.bool false)] (0 : Nat) [(flL (a)), (I ca), (AV.bool true)]))])))) (.ite (decide (ca < c)) (.need (q) (.need ([(flL (a))] = [(flL (a))]) (.leaf ((AV.agg [(flL (a)), (I ca), (AV.bool true)]), true, [(AObj.cells (0 : Nat) [(flL (p.V)), (flLL (p.C)), (flR (p.R))]), (AObj.cells (0 : Nat) [(flL (l)), (I c), (AV.bool i)]), (AObj.cells (0 : Nat) (setL [AV.zs, (I ((0 : Int))), (AV.bool false)] (0 : Nat) [(flL (a)), (I ca), (AV.bool true)]))])))) (.leaf ((AV.agg [(flL (l)), (I c), (AV.bool i)]), true, [(AObj.cells (0 : Nat) [(flL (p.V)), (flLL (p.C)), (flR (p.R))]), (AObj.cells (0 : Nat) [(flL (l)), (I c), (AV.bool i)]), (AObj.cells (0 : Nat) (setL [AV.zs, (I ((0 : Int))), (AV.bool false)] (0 : Nat) [(flL (l)), (I c), (AV.bool i)]))])))))) (.need ((st67 a 0 (hB67 p (fC l c i))).vals = (st67 a 0 (hB67 p (fC l c i))).vals) (.leaf ((AV.agg [(flL (l2)), (I c2), (AV.bool i2)]), true, [(AObj.cells (0 : Nat) [(flL (p.V)), (flLL (p.C)), (flR (p.R))]), (AObj.cells (0 : Nat) [(flL (l2)), (I c2), (AV.bool i2)]), (AObj.cells (0 : Nat) (setL [AV.zs, (I ((0 : Int))), (AV.bool false)] (0 : Nat) [(flL (l2)), (I c2), (AV.bool i2)]))]))) := by kernel_rfl
theorem runG67 (q : Prop) (p : Pb) (a l : List Int) (c ca : Int) (i : Bool) : xenter Try.prog (EGb q [(54, [pAV p, flL a], I ca), (14, [flL a], flL a)]) (xCode Try.prog G0 (EGb q [(54, [pAV p, flL a], I ca), (14, [flL a], flL a)]) 200 (lpF 7 [1, 3, 5, 6, 8] (st67 a 0 (hB67 p (fC l c i))))) 67 [pAV p, flL a, .agg (fC l c i)] [true, true, true] [] = .ite ((↑a.length : Int) == (↑p.V.length : Int)) (.need (q) (.need ([(AV.agg [(flL (p.V)), (flLL (p.C)), (flR (p.R))]), (flL (a))] = [(AV.agg [(flL (p.V)), (flLL (p.C)), (flR (p.R))]), (flL (a))]) (.ite (!i) (.need (q) (.need ([(flL (a))] = [(flL (a))]) (.leaf ((AV.agg [(flL (a)), (I ca), (AV.bool true)]), true, [(AObj.cells (0 : Nat) [(flL (p.V)), (flLL (p.C)), (flR (p.R))]), (AObj.cells (0 : Nat) [(flL (l)), (I c), (AV.bool i)]), (AObj.cells (0 : Nat) (setL [AV.zs, (I ((0 : Int))), (AV.bool false)] (0 : Nat) [(flL (a)), (I ca), (AV.bool true)]))])))) (.ite (decide (ca < c)) (.need (q) (.need ([(flL (a))] = [(flL (a))]) (.leaf ((AV.agg [(flL (a)), (I ca), (AV.bool true)]), true, [(AObj.cells (0 : Nat) [(flL (p.V)), (flLL (p.C)), (flR (p.R))]), (AObj.cells (0 : Nat) [(flL (l)), (I c), (AV.bool i)]), (AObj.cells (0 : Nat) (setL [AV.zs, (I ((0 : Int))), (AV.bool false)] (0 : Nat) [(flL (a)), (I ca), (AV.bool true)]))])))) (.leaf ((AV.agg [(flL (l)), (I c), (AV.bool i)]), true, [(AObj.cells (0 : Nat) [(flL (p.V)), (flLL (p.C)), (flR (p.R))]), (AObj.cells (0 : Nat) [(flL (l)), (I c), (AV.bool i)]), (AObj.cells (0 : Nat) (setL [AV.zs, (I ((0 : Int))), (AV.bool false)] (0 : Nat) [(flL (l)), (I c), (AV.bool i)]))])))))) (.need ((st67 a 0 (hB67 p (fC l c i))).vals = (st67 a 0 (hB67 p (fC l c i))).vals) .fail) := by kernel_rfl
theorem run44 (q : Prop) (p : Pb) (a : List Int) (ok : Bool) (l : List Int) (c : Int) (i : Bool) : xCall Try.prog G0 (EG q [(50, [pAV p, flL a, .bool false], .bool ok), (67, [pAV p, flL a, .agg [.zs, I 0, .bool false]], .agg (fC l c i))]) 200 44 [pAV p, flL a] [true, true] [] = .need (q) (.need ([(AV.agg [(flL (p.V)), (flLL (p.C)), (flR (p.R))]), (flL (a)), (AV.bool false)] = [(AV.agg [(flL (p.V)), (flLL (p.C)), (flR (p.R))]), (flL (a)), (AV.bool false)]) (.ite (!ok) (.leaf ((AV.agg [AV.zs, (I ((0 : Int))), (AV.bool false)]), true, [(AObj.cells (0 : Nat) (setL [AV.zs, (I ((0 : Int))), (AV.bool false)] (0 : Nat) [AV.zs, (I ((0 : Int))), (AV.bool false)]))])) (.need (q) (.need ([(AV.agg [(flL (p.V)), (flLL (p.C)), (flR (p.R))]), (flL (a)), (AV.agg [AV.zs, (I ((0 : Int))), (AV.bool false)])] = [(AV.agg [(flL (p.V)), (flLL (p.C)), (flR (p.R))]), (flL (a)), (AV.agg [AV.zs, (I ((0 : Int))), (AV.bool false)])]) (.leaf ((AV.agg [(flL (l)), (I c), (AV.bool i)]), true, [(AObj.cells (0 : Nat) (setL [AV.zs, (I ((0 : Int))), (AV.bool false)] (0 : Nat) [(flL (l)), (I c), (AV.bool i)]))])))))) := by kernel_rfl
theorem clokGb {q : Prop} {l : List (FuncId × List AV × AV)} (hl : q → ∀ p ∈ l, ∀ σ, ACall Try.prog G0 p.1 p.2.1 σ p.2.2 σ) : ClOk Try.prog G0 (EGb q l) := .all .none failH_ok (fun l xs σ t v σ' h => (by cases h)) (clokG hl).cl
/-! ### better -/
def fV (p : Pb) (s : Option (List Int)) : List AV := fC (s.getD []) (s.elim 0 (costA p)) s.isSome
def btr (p : Pb) (c : Int) (b : Option (List Int)) : Bool := !b.isSome || decide (c < b.elim 0 (costA p))
/-- The best of both. -/
def betW (p : Pb) : Nat → List Int → Option (List Int) → Option (List Int)
  | 0, a, b => bif btr p (costA p a) b then some a else b
  | d + 1, a, b => runK (fun k b => bif posB p (a ++ [k]) true then (bif btr p (boundA p (a ++ [k])) b then betW p d (a ++ [k]) b else b) else b) b (p.V.getD a.length 0).toNat
theorem vals67 (a : List Int) (k : Int) (h : Heap) : (St.of 69 h [(1, flL a, true), (3, .ref 0 0 0, true), (5, .ref 1 0 0, true), (6, .ref 2 0 0, true), (8, I k, true)]).vals = (st67 a k h).vals := rfl
section
variable {p : Pb} {a : List Int}
theorem loop67 (hs : p.sh) (hp : Ok p) (ha : Beg p a) {d : Nat} (hl : a.length < p.V.length) (b0 : Option (List Int)) (ih : ∀ (k : Int) (b : Option (List Int)), 0 ≤ k → k < p.V.getD a.length 0 → ∀ σ, ACall Try.prog G0 67 [pAV p, flL (a ++ [k]), .agg (fV p b)] σ (.agg (fV p (betW p d (a ++ [k]) b))) σ) :
    LoopA body67 (p.V.getD a.length 0).toNat (fun k => st67 a k (hB67 p (fV p (runK (fun k b => bif posB p (a ++ [k]) true then (bif btr p (boundA p (a ++ [k])) b then betW p d (a ++ [k]) b else b) else b) b0 k)))) (fun k => st67 a k (hB67 p (fV p (runK (fun k b => bif posB p (a ++ [k]) true then (bif btr p (boundA p (a ++ [k])) b then betW p d (a ++ [k]) b else b) else b) b0 k)))) (st67 a (p.V.getD a.length 0).toNat (hB67 p (fV p (betW p (d + 1) a b0)))) .ret (.exit 0) (fun _ => false) := by
  have hv := hp.v a.length hl
  have hn := hp.n
  have e : betW p (d + 1) a b0 = runK (fun k b => bif posB p (a ++ [k]) true then (bif btr p (boundA p (a ++ [k])) b then betW p d (a ++ [k]) b else b) else b) b0 (p.V.getD a.length 0).toNat := rfl
  rw [e]
  have hsucc : ∀ k : Nat, runK (fun k b => bif posB p (a ++ [k]) true then (bif btr p (boundA p (a ++ [k])) b then betW p d (a ++ [k]) b else b) else b) b0 (k + 1) = bif posB p (a ++ [(k : Int)]) true then (bif btr p (boundA p (a ++ [(k : Int)])) (runK (fun k b => bif posB p (a ++ [k]) true then (bif btr p (boundA p (a ++ [k])) b then betW p d (a ++ [k]) b else b) else b) b0 k) then betW p d (a ++ [(k : Int)]) (runK (fun k b => bif posB p (a ++ [k]) true then (bif btr p (boundA p (a ++ [k])) b then betW p d (a ++ [k]) b else b) else b) b0 k) else (runK (fun k b => bif posB p (a ++ [k]) true then (bif btr p (boundA p (a ++ [k])) b then betW p d (a ++ [k]) b else b) else b) b0 k)) else (runK (fun k b => bif posB p (a ++ [k]) true then (bif btr p (boundA p (a ++ [k])) b then betW p d (a ++ [k]) b else b) else b) b0 k) := fun k => rfl
  generalize runK (fun k b => bif posB p (a ++ [k]) true then (bif btr p (boundA p (a ++ [k])) b then betW p d (a ++ [k]) b else b) else b) b0 = B at hsucc ⊢
  have hcl0 : ClOk Try.prog G0 { boxRow := false } := .all .none (fun f xs σ t v σ' h => (by cases h)) (fun l xs σ t v σ' h => (by cases h)) (fun f xs t v h => (by cases h))
  refine ⟨fun _ => rfl, fun _ => rfl, rfl, nofun, nofun, fun k hk _ _ => ?_, fun k hk _ hst => (by cases hst), fun _ => ?_⟩
  · have xA := rnd (R := fun r => r = none) (n := 200) (keep := [1, 3, 5, 6, 8]) (s := st67 a k (hB67 p (fV p (B k)))) (t := st67 a k (hB67 p (fV p (B k)))) hcl0 (lpNo _) ((congrArg Tree.sel (run67A p _ a k)).trans (t_need ⟨by omega, by omega⟩ ((selIt (dT (by rw [Int.toNat_natCast]; omega))).trans rfl))) rfl
    have hb := beg_app ha hl (x := (k : Int)) (by omega) (by omega)
    have hcl : ClOk Try.prog G0 (EG True [(50, [pAV p, flL (a ++ [(k : Int)]), .bool true], .bool (posB p (a ++ [(k : Int)]) true)), (77, [pAV p, flL (a ++ [(k : Int)])], I (boundA p (a ++ [(k : Int)]))), (67, [pAV p, flL (a ++ [(k : Int)]), .agg (fV p (B k))], .agg (fV p (betW p d (a ++ [(k : Int)]) (B k))))]) :=
      clokG3 (c50 hs hp hb true) (c77 hs hp hb) (ih k (B k) (by omega) (by omega))
    have xC := rnd (R := fun r => r = none) (n := 200) (keep := [1, 3, 5, 6, 8]) (s := st67b a k (flL (a ++ [(k : Int)])) (hB67 p (fV p (B k)))) (t := st67 a k (hB67 p (fV p (B (k + 1))))) hcl (lpNo _) ((congrArg Tree.sel (run67C True p a (a ++ [(k : Int)]) k _ _ _ _ _ _ _ _)).trans (t_need trivial (t_need rfl (t_ite (fun h1 => t_ite (fun h2 => t_need trivial (t_need rfl (by
      rw [hsucc, h1, cond_true]; unfold btr; rw [h2, Bool.true_or]; rfl))) fun h2 => t_need trivial (t_need rfl (t_ite (fun h3 => t_need trivial (t_need rfl (by
      rw [hsucc, h1, cond_true]; unfold btr; rw [h3, Bool.or_true]; rfl))) fun h3 => by
      rw [hsucc, h1, cond_true]; unfold btr; rw [h2, h3]; rfl))) fun h1 => by
      rw [hsucc, h1, cond_false]; rfl)))) rfl
    have xD := rnd (R := fun r => r = none) (n := 200) (keep := [1, 3, 5, 6, 8]) (s := st67 a k (hB67 p (fV p (B (k + 1))))) (t := st67 a ((k + 1 : Nat) : Int) (hB67 p (fV p (B (k + 1))))) clok0 (lpNo _) ((congrArg Tree.sel (run67D a k _)).trans (by rw [wrap_i64 (by omega) (by omega)]; rfl)) rfl
    rw [code67]
    exact .seq xA (.seq (AExec.block_to (id := 1) (.seq (x67B (by omega) k _ (by show 3 ≤ 3; omega)) xC) rfl) xD)
  · have x := rnd (R := fun r => r = none) (n := 200) (keep := [1, 3, 5, 6, 8]) (s := st67 a (p.V.getD a.length 0).toNat (hB67 p (fV p (B (p.V.getD a.length 0).toNat)))) (t := st67 a (p.V.getD a.length 0).toNat (hB67 p (fV p (B (p.V.getD a.length 0).toNat)))) hcl0 (lpNo _) ((congrArg Tree.sel (run67A p _ a _)).trans (t_need ⟨by omega, by omega⟩ ((selIf (dF (by rw [Int.toNat_natCast]; omega))).trans rfl))) rfl
    rw [code67]
    exact .seq_out x nofun
theorem below_fV (p : Pb) (s : Option (List Int)) : Below 0 (.agg (fV p s)) := .agg _ fun j x hx => by
  match j, hx with
  | 0, hx => cases hx; exact below_flL _
  | 1, hx => cases hx; exact .int _ _
  | 2, hx => cases hx; exact .bool _
  | j + 3, hx => simp [fV, fC] at hx
theorem below_args67 (p : Pb) (a : List Int) (s : Option (List Int)) : ∀ x ∈ [pAV p, flL a, .agg (fV p s)], Below 0 x := fun x hx => by
  simp only [List.mem_cons, List.not_mem_nil, or_false] at hx
  rcases hx with rfl | rfl | rfl
  · exact below_pAV p
  · exact below_flL _
  · exact below_fV p s
theorem c67 (hs : p.sh) (hp : Ok p) : ∀ (d : Nat) (a : List Int) (b : Option (List Int)), Beg p a → a.length + d = p.V.length → ∀ h, ACall Try.prog G0 67 [pAV p, flL a, .agg (fV p b)] h (.agg (fV p (betW p d a b))) h
  | 0, a, b, ha, hd, h => by
    have hn := hp.n
    have hcl : ClOk Try.prog G0 (EGb True [(54, [pAV p, flL a], I (costA p a)), (14, [flL a], flL a)]) := clokGb fun _ z hz σ => by
      simp only [List.mem_cons, List.not_mem_nil, or_false] at hz
      rcases hz with rfl | rfl
      · exact c54 hp ha σ
      · exact c14d (by omega) σ
    have e : betW p 0 a b = bif btr p (costA p a) b then some a else b := rfl
    have fin : ∀ {σ : Heap}, ACall Try.prog G0 67 [pAV p, flL a, .agg (fV p b)] [] (.agg (fV p (betW p 0 a b))) σ → ACall Try.prog G0 67 [pAV p, flL a, .agg (fV p b)] h (.agg (fV p (betW p 0 a b))) h := fun hc => hc.lift0 (below_fV p _) gbelow0 (below_args67 p a b) h
    have hx := fun v σ => ACall.says (v := v) (h' := σ) hcl (lpF_ok 7 _ _ _) (runG67 True p a (b.getD []) (b.elim 0 (costA p)) (costA p a) b.isSome)
    rw [e] at fin ⊢
    have hlen : ((a.length : Int) == p.V.length) = true := by rw [show a.length = p.V.length by omega]; simp
    unfold btr at fin ⊢
    cases h1 : (!b.isSome) with
    | true =>
      rw [h1, Bool.true_or, cond_true] at fin
      rw [Bool.true_or, cond_true]
      exact fin (hx _ _ (says_ite (fun _ => says_need trivial (says_need rfl (says_ite (fun _ => says_need trivial (says_need rfl says_leaf)) fun h2 => by rw [h1] at h2; cases h2))) fun h => by rw [hlen] at h; cases h))
    | false =>
      rw [h1, Bool.false_or] at fin
      rw [Bool.false_or]
      cases h3 : decide (costA p a < b.elim 0 (costA p)) with
      | true =>
        rw [h3, cond_true] at fin
        rw [cond_true]
        exact fin (hx _ _ (says_ite (fun _ => says_need trivial (says_need rfl (says_ite (fun h2 => by rw [h1] at h2; cases h2) fun _ => says_ite (fun _ => says_need trivial (says_need rfl says_leaf)) fun h2 => by rw [h3] at h2; cases h2))) fun h => by rw [hlen] at h; cases h))
      | false =>
        rw [h3, cond_false] at fin
        rw [cond_false]
        exact fin (hx _ _ (says_ite (fun _ => says_need trivial (says_need rfl (says_ite (fun h2 => by rw [h1] at h2; cases h2) fun _ => says_ite (fun h2 => by rw [h3] at h2; cases h2) fun _ => says_leaf))) fun h => by rw [hlen] at h; cases h))
  | d + 1, a, b, ha, hd, h => by
    have hl := loop67 hs hp ha (d := d) (by omega) b fun k b' h0 hk σ => c67 hs hp d (a ++ [k]) b' (beg_app ha (by omega) h0 hk) (by simp; omega) σ
    have hx := hl.okB (fun _ _ => rfl) (c := bodyOf Try.prog 67) (i := 7) (keep := [1, 3, 5, 6, 8]) (one_loop loops67)
    have hc := ACall.says (E := EGb False [(54, [pAV p, flL a], I 0), (14, [flL a], flL a)]) (clokGb nofun) hx (runF67 False p a (b.getD []) ((betW p (d + 1) a b).getD []) (b.elim 0 (costA p)) ((betW p (d + 1) a b).elim 0 (costA p)) _ 0 b.isSome (betW p (d + 1) a b).isSome) (says_ite (fun h => absurd (eq_of_beq h) (by omega)) fun _ => says_need rfl says_leaf)
    exact hc.lift0 (below_fV p _) gbelow0 (below_args67 p a b) h
end
end Go.Proofs.Ytngaihdpmoajeaa.Am

namespace Go.Proofs.Ytngaihdpmoajeaa.Am
open Go
set_option maxRecDepth 100000

theorem run33 (q : Prop) (p : Pb) (b : Bool) (l : List Int) (c : Int) (i : Bool) : xCall Try.prog G0 (EG q [(29, [pAV p], .bool b), (44, [pAV p, .zs], .agg (fC l c i))]) 200 33 [pAV p] [true] [] = .need (q) (.need ([(AV.agg [(flL (p.V)), (flLL (p.C)), (flR (p.R))])] = [(AV.agg [(flL (p.V)), (flLL (p.C)), (flR (p.R))])]) (.ite (!b) (.leaf ((AV.tup [AV.zs, (I ((0 : Int))), (I ((1 : Int)))]), false, [])) (.need (q) (.need ([(AV.agg [(flL (p.V)), (flLL (p.C)), (flR (p.R))]), AV.zs] = [(AV.agg [(flL (p.V)), (flLL (p.C)), (flR (p.R))]), AV.zs]) (.ite (!i) (.leaf ((AV.tup [AV.zs, (I ((0 : Int))), (I ((7 : Int)))]), false, [(AObj.cells (0 : Nat) (setL [AV.zs, (I ((0 : Int))), (AV.bool false)] (0 : Nat) [(flL (l)), (I c), (AV.bool i)]))])) (.leaf ((AV.tup [(flL (l)), (I c), (I ((0 : Int)))]), true, [(AObj.cells (0 : Nat) (setL [AV.zs, (I ((0 : Int))), (AV.bool false)] (0 : Nat) [(flL (l)), (I c), (AV.bool i)]))]))))))) := by kernel_rfl
theorem run15 (q : Prop) (p : Pb) (a : List Int) (b d : Bool) (l : List Int) (c : Int) (i : Bool) : xCall Try.prog G0 (EG q [(29, [pAV p], .bool b), (43, [pAV p, flL a], .bool d), (44, [pAV p, flL a], .agg (fC l c i))]) 200 15 [pAV p, flL a] [true, true] [] = .need (q) (.need ([(AV.agg [(flL (p.V)), (flLL (p.C)), (flR (p.R))])] = [(AV.agg [(flL (p.V)), (flLL (p.C)), (flR (p.R))])]) (.ite (!b) (.leaf ((AV.tup [(I ((0 : Int))), (I ((1 : Int)))]), false, [])) (.need (q) (.need ([(AV.agg [(flL (p.V)), (flLL (p.C)), (flR (p.R))]), (flL (a))] = [(AV.agg [(flL (p.V)), (flLL (p.C)), (flR (p.R))]), (flL (a))]) (.ite (!d) (.leaf ((AV.tup [(I ((0 : Int))), (I ((2 : Int)))]), false, [])) (.need (q) (.need ([(AV.agg [(flL (p.V)), (flLL (p.C)), (flR (p.R))]), (flL (a))] = [(AV.agg [(flL (p.V)), (flLL (p.C)), (flR (p.R))]), (flL (a))]) (.ite (!i) (.leaf ((AV.tup [(I ((0 : Int))), (I ((7 : Int)))]), false, [(AObj.cells (0 : Nat) (setL [AV.zs, (I ((0 : Int))), (AV.bool false)] (0 : Nat) [(flL (l)), (I c), (AV.bool i)]))])) (.leaf ((AV.tup [(I c), (I ((0 : Int)))]), true, [(AObj.cells (0 : Nat) (setL [AV.zs, (I ((0 : Int))), (AV.bool false)] (0 : Nat) [(flL (l)), (I c), (AV.bool i)]))])))))))))) := by kernel_rfl
theorem run34 (q : Prop) (p : Pb) (b d i : Bool) (v : AV) : xCall Try.prog G0 (EG q [(29, [pAV p], .bool b), (50, [pAV p, .zs, .bool false], .bool d), (64, [pAV p, .zs], .tup [v, .bool i])]) 200 34 [pAV p] [true] [] = .need (q) (.need ([(AV.agg [(flL (p.V)), (flLL (p.C)), (flR (p.R))])] = [(AV.agg [(flL (p.V)), (flLL (p.C)), (flR (p.R))])]) (.ite (!b) (.leaf ((AV.tup [AV.zs, (I ((1 : Int)))]), false, [])) (.need (q) (.need ([(AV.agg [(flL (p.V)), (flLL (p.C)), (flR (p.R))]), AV.zs, (AV.bool false)] = [(AV.agg [(flL (p.V)), (flLL (p.C)), (flR (p.R))]), AV.zs, (AV.bool false)]) (.ite (d) (.need (q) (.need ([(AV.agg [(flL (p.V)), (flLL (p.C)), (flR (p.R))]), AV.zs] = [(AV.agg [(flL (p.V)), (flLL (p.C)), (flR (p.R))]), AV.zs]) (.ite (i) (.leaf ((AV.tup [v, (I ((0 : Int)))]), true, [])) (.leaf ((AV.tup [AV.zs, (I ((7 : Int)))]), false, []))))) (.leaf ((AV.tup [AV.zs, (I ((7 : Int)))]), false, []))))))) := by kernel_rfl
theorem run17 (q : Prop) (p : Pb) (m : Int) (b d : Bool) (n : Int) : xCall Try.prog G0 (EG q [(29, [pAV p], .bool b), (50, [pAV p, .zs, .bool false], .bool d), (51, [pAV p, .zs, I m], I n)]) 200 17 [pAV p, I m] [true, true] [] = .need (q) (.need ([(AV.agg [(flL (p.V)), (flLL (p.C)), (flR (p.R))])] = [(AV.agg [(flL (p.V)), (flLL (p.C)), (flR (p.R))])]) (.ite (!b) (.leaf ((AV.tup [(I ((0 : Int))), (I ((1 : Int)))]), false, [])) (.ite (!inB m (0 : Int) (1000000 : Int)) (.leaf ((AV.tup [(I ((0 : Int))), (I ((2 : Int)))]), false, [])) (.ite (m == (0 : Int)) (.leaf ((AV.tup [(I ((0 : Int))), (I ((0 : Int)))]), false, [])) (.need (q) (.need ([(AV.agg [(flL (p.V)), (flLL (p.C)), (flR (p.R))]), AV.zs, (AV.bool false)] = [(AV.agg [(flL (p.V)), (flLL (p.C)), (flR (p.R))]), AV.zs, (AV.bool false)]) (.ite (!d) (.leaf ((AV.tup [(I ((0 : Int))), (I ((0 : Int)))]), false, [])) (.need (q) (.need ([(AV.agg [(flL (p.V)), (flLL (p.C)), (flR (p.R))]), AV.zs, (I m)] = [(AV.agg [(flL (p.V)), (flLL (p.C)), (flR (p.R))]), AV.zs, (I m)]) (.leaf ((AV.tup [(I n), (I ((0 : Int)))]), true, []))))))))))) := by kernel_rfl
theorem run33n (p : Pb) : xCall Try.prog G0 (EG True [(29, [pAV p], .bool false)]) 200 33 [pAV p] [true] [] = .need (True) (.need ([(AV.agg [(flL (p.V)), (flLL (p.C)), (flR (p.R))])] = [(AV.agg [(flL (p.V)), (flLL (p.C)), (flR (p.R))])]) (.ite (!false) (.leaf ((AV.tup [AV.zs, (I ((0 : Int))), (I ((1 : Int)))]), false, [])) .fail)) := by kernel_rfl
theorem run15n (p : Pb) (a : List Int) : xCall Try.prog G0 (EG True [(29, [pAV p], .bool false)]) 200 15 [pAV p, flL a] [true, true] [] = .need (True) (.need ([(AV.agg [(flL (p.V)), (flLL (p.C)), (flR (p.R))])] = [(AV.agg [(flL (p.V)), (flLL (p.C)), (flR (p.R))])]) (.ite (!false) (.leaf ((AV.tup [(I ((0 : Int))), (I ((1 : Int)))]), false, [])) .fail)) := by kernel_rfl
theorem run15m (p : Pb) (a : List Int) : xCall Try.prog G0 (EG True [(29, [pAV p], .bool true), (43, [pAV p, flL a], .bool false)]) 200 15 [pAV p, flL a] [true, true] [] = .need (True) (.need ([(AV.agg [(flL (p.V)), (flLL (p.C)), (flR (p.R))])] = [(AV.agg [(flL (p.V)), (flLL (p.C)), (flR (p.R))])]) (.ite (!true) (.leaf ((AV.tup [(I ((0 : Int))), (I ((1 : Int)))]), false, [])) (.need (True) (.need ([(AV.agg [(flL (p.V)), (flLL (p.C)), (flR (p.R))]), (flL (a))] = [(AV.agg [(flL (p.V)), (flLL (p.C)), (flR (p.R))]), (flL (a))]) (.ite (!false) (.leaf ((AV.tup [(I ((0 : Int))), (I ((2 : Int)))]), false, [])) .fail))))) := by kernel_rfl
theorem run34n (p : Pb) : xCall Try.prog G0 (EG True [(29, [pAV p], .bool false)]) 200 34 [pAV p] [true] [] = .need (True) (.need ([(AV.agg [(flL (p.V)), (flLL (p.C)), (flR (p.R))])] = [(AV.agg [(flL (p.V)), (flLL (p.C)), (flR (p.R))])]) (.ite (!false) (.leaf ((AV.tup [AV.zs, (I ((1 : Int)))]), false, [])) .fail)) := by kernel_rfl
theorem run17n (p : Pb) (m : Int) : xCall Try.prog G0 (EG True [(29, [pAV p], .bool false)]) 200 17 [pAV p, I m] [true, true] [] = .need (True) (.need ([(AV.agg [(flL (p.V)), (flLL (p.C)), (flR (p.R))])] = [(AV.agg [(flL (p.V)), (flLL (p.C)), (flR (p.R))])]) (.ite (!false) (.leaf ((AV.tup [(I ((0 : Int))), (I ((1 : Int)))]), false, [])) (.ite (!inB m (0 : Int) (1000000 : Int)) (.leaf ((AV.tup [(I ((0 : Int))), (I ((2 : Int)))]), false, [])) (.ite (m == (0 : Int)) (.leaf ((AV.tup [(I ((0 : Int))), (I ((0 : Int)))]), false, [])) .fail)))) := by kernel_rfl
theorem run17m (p : Pb) (m : Int) : xCall Try.prog G0 (EG True [(29, [pAV p], .bool true)]) 200 17 [pAV p, I m] [true, true] [] = .need (True) (.need ([(AV.agg [(flL (p.V)), (flLL (p.C)), (flR (p.R))])] = [(AV.agg [(flL (p.V)), (flLL (p.C)), (flR (p.R))])]) (.ite (!true) (.leaf ((AV.tup [(I ((0 : Int))), (I ((1 : Int)))]), false, [])) (.ite (!inB m (0 : Int) (1000000 : Int)) (.leaf ((AV.tup [(I ((0 : Int))), (I ((2 : Int)))]), false, [])) (.ite (m == (0 : Int)) (.leaf ((AV.tup [(I ((0 : Int))), (I ((0 : Int)))]), false, [])) .fail)))) := by kernel_rfl
/-- What the reference finds. -/
def refW (p : Pb) (a : List Int) : Option (List Int) := bif posB p a false then betW p (p.V.length - a.length) a none else none
def refF (p : Pb) : Option (List Int) := bif posB p [] false then frW p p.V.length [] else none
def refN (p : Pb) (m : Int) : Int := bif m == 0 || !posB p [] false then 0 else cntW p p.V.length [] m
theorem sub_agg3 {a a' : AV} (h : Sub a a') (b c : AV) : Sub (.agg [a, b, c]) (.agg [a', b, c]) := fun w M u hu => by
  cases hu with
  | agg vs _ h1 h2 => exact .agg vs _ (by simpa using h1) fun j y hj => (by
      match j, hj with
      | 0, hj => cases hj; exact h _ _ _ (h2 0 a rfl)
      | 1, hj => exact h2 1 y hj
      | 2, hj => exact h2 2 y hj
      | j + 3, hj => simp at hj)
theorem sub_f0 (p : Pb) : Sub (.agg [.zs, I 0, .bool false]) (.agg (fV p none)) := sub_agg3 sub_zsL _ _
section
variable {p : Pb}
theorem c44 (hs : p.sh) (hp : Ok p) {a : List Int} (ha : Beg p a) (h : Heap) : ACall Try.prog G0 44 [pAV p, flL a] h (.agg (fV p (refW p a))) h := by
  have h67 : ∀ σ, ACall Try.prog G0 67 [pAV p, flL a, .agg [.zs, I 0, .bool false]] σ (.agg (fV p (betW p (p.V.length - a.length) a none))) σ := fun σ => (c67 hs hp _ a none ha (by have := ha.len; omega) σ).arg3 (sub_refl _) (sub_refl _) (sub_f0 p)
  have hcl := clokG2 (q := True) (c50 hs hp ha false) h67
  unfold refW
  cases hq : posB p a false with
  | false =>
    rw [hq] at hcl
    have h1 : ACall Try.prog G0 44 [pAV p, flL a] [] (.agg [.zs, I 0, .bool false]) _ := ACall.saysC hcl (run44 True p a false _ _ _) (says_need trivial (says_need rfl (says_ite (fun _ => says_leaf) fun h => by cases h)))
    exact (h1.conv (sub_f0 p)).lift0 (below_fV p none) gbelow0 below_args2 h
  | true =>
    rw [hq] at hcl
    have h1 : ACall Try.prog G0 44 [pAV p, flL a] [] (.agg (fV p (betW p (p.V.length - a.length) a none))) _ := ACall.saysC hcl (run44 True p a true _ _ _) (says_need trivial (says_need rfl (says_ite (fun h => (by cases h)) fun _ => says_need trivial (says_need rfl says_leaf))))
    exact h1.lift0 (below_fV p _) gbelow0 below_args2 h
theorem below_arg1 (p : Pb) : ∀ x ∈ [pAV p], Below 0 x := fun x hx => by rw [List.mem_singleton.1 hx]; exact below_pAV p
theorem below_argI (p : Pb) (m : Int) : ∀ x ∈ [pAV p, I m], Below 0 x := fun x hx => by
  simp only [List.mem_cons, List.not_mem_nil, or_false] at hx
  rcases hx with rfl | rfl
  · exact below_pAV p
  · exact .int _ _
theorem below_tI (a b : Int) : Below 0 (.tup [I a, I b]) := below_tup2 (.int _ _) (.int _ _)
theorem c33 (hs : p.sh) (h : Heap) : ACall Try.prog G0 33 [pAV p] h (solveR p (refW p [])) h := by
  unfold solveR
  cases hv : validP p with
  | false => exact (((ACall.saysC (clokG1 fun _ => hv ▸ c29 hs) (run33n p) (says_need trivial (says_need rfl (says_ite (fun _ => says_leaf) fun h => (by cases h)))) : ACall Try.prog G0 33 [pAV p] [] (.tup [.zs, I 0, I 1]) []).conv (sub_tup3 sub_zsL _ _)).lift0 (below_tup3 (below_flL _) (.int _ _) (.int _ _)) gbelow0 (below_arg1 p) h)
  | true =>
    have hp := valid_iff.1 hv
    have h44 : ∀ σ, ACall Try.prog G0 44 [pAV p, .zs] σ (.agg (fV p (refW p []))) σ := fun σ => (c44 hs hp (beg_nil p) σ).arg2 (sub_refl _) sub_zsL
    rw [cond_true]
    have hcl := clokG2 (q := True) (hv ▸ c29 hs) h44
    have hx := fun v σ => ACall.saysC (v := v) (h' := σ) hcl (run33 True p true _ _ _)
    cases hb : refW p [] with
    | none =>
      rw [hb] at hx
      exact ((hx (.tup [.zs, I 0, I 7]) _ (says_need trivial (says_need rfl (says_ite (fun h => (by cases h)) fun _ => says_need trivial (says_need rfl (says_ite (fun _ => says_leaf) fun h => by cases h)))))).conv (sub_tup3 sub_zsL _ _)).lift0 (below_resC p none) gbelow0 (below_arg1 p) h
    | some b =>
      rw [hb] at hx
      exact (hx (resC p (some b)) _ (says_need trivial (says_need rfl (says_ite (fun h => (by cases h)) fun _ => says_need trivial (says_need rfl (says_ite (fun h => (by cases h)) fun _ => says_leaf)))))).lift0 (below_resC p (some b)) gbelow0 (below_arg1 p) h
theorem c15 (hs : p.sh) {a : List Int} (ha : sh a) (h : Heap) : ACall Try.prog G0 15 [pAV p, flL a] h (leastR p a (refW p a)) h := by
  unfold leastR
  cases hv : validP p with
  | false => exact (ACall.saysC (clokG1 fun _ => hv ▸ c29 hs) (run15n p a) (says_need trivial (says_need rfl (says_ite (fun _ => says_leaf) fun h => (by cases h)))) : ACall Try.prog G0 15 [pAV p, flL a] [] (.tup [I 0, I 1]) []).lift0 (below_tI _ _) gbelow0 below_args2 h
  | true =>
    have hp := valid_iff.1 hv
    cases hb : begB p a with
    | false => exact (ACall.saysC (clokG2 (hv ▸ c29 hs) (hb ▸ c43 hp ha)) (run15m p a) (says_need trivial (says_need rfl (says_ite (fun h => (by cases h)) fun _ => says_need trivial (says_need rfl (says_ite (fun _ => says_leaf) fun h => by cases h))))) : ACall Try.prog G0 15 [pAV p, flL a] [] (.tup [I 0, I 2]) []).lift0 (below_tI _ _) gbelow0 below_args2 h
    | true =>
      rw [cond_true, cond_true]
      have hcl := clokG3 (q := True) (hv ▸ c29 hs) (hb ▸ c43 hp ha) (c44 hs hp (beg_iff.1 hb))
      have hx := fun v σ => ACall.saysC (v := v) (h' := σ) hcl (run15 True p a true true _ _ _)
      cases hc : refW p a with
      | none =>
        rw [hc] at hx
        exact (hx (.tup [I 0, I 7]) _ (says_need trivial (says_need rfl (says_ite (fun h => (by cases h)) fun _ => says_need trivial (says_need rfl (says_ite (fun h => (by cases h)) fun _ => says_need trivial (says_need rfl (says_ite (fun _ => says_leaf) fun h => by cases h)))))))).lift0 (below_tI _ _) gbelow0 below_args2 h
      | some b =>
        rw [hc] at hx
        exact (hx (.tup [I (costA p b), I 0]) _ (says_need trivial (says_need rfl (says_ite (fun h => (by cases h)) fun _ => says_need trivial (says_need rfl (says_ite (fun h => (by cases h)) fun _ => says_need trivial (says_need rfl (says_ite (fun h => (by cases h)) fun _ => says_leaf)))))))).lift0 (below_tI _ _) gbelow0 below_args2 h
theorem c34 (hs : p.sh) (h : Heap) : ACall Try.prog G0 34 [pAV p] h (bif validP p then resF (refF p) else .tup [flL [], I 1]) h := by
  have fin : ∀ {n : Int}, ACall Try.prog G0 34 [pAV p] [] (.tup [.zs, I n]) [] → ACall Try.prog G0 34 [pAV p] h (.tup [flL [], I n]) h := fun hc => (hc.conv (sub_tup2 sub_zsL _)).lift0 (below_tup2 (below_flL _) (.int _ _)) gbelow0 (below_arg1 p) h
  cases hv : validP p with
  | false => exact fin (ACall.saysC (clokG1 fun _ => hv ▸ c29 hs) (run34n p) (says_need trivial (says_need rfl (says_ite (fun _ => says_leaf) fun h => (by cases h)))))
  | true =>
    have hp := valid_iff.1 hv
    have h64 : ∀ σ, ACall Try.prog G0 64 [pAV p, .zs] σ (resW (frW p p.V.length [])) σ := fun σ => (c64 hs hp _ [] (beg_nil p) (by simp) σ).arg2 (sub_refl _) sub_zsL
    have h50 : ∀ σ, ACall Try.prog G0 50 [pAV p, .zs, .bool false] σ (.bool (posB p [] false)) σ := fun σ => (c50 hs hp (beg_nil p) false σ).arg3 (sub_refl _) sub_zsL (sub_refl _)
    rw [cond_true]
    unfold refF
    have hcl := clokG3 (q := True) (hv ▸ c29 hs) h50 h64
    have hx := fun v σ => ACall.saysC (v := v) (h' := σ) hcl (run34 True p true _ _ _)
    cases hq : posB p [] false with
    | false =>
      rw [hq] at hx
      exact fin (hx _ _ (says_need trivial (says_need rfl (says_ite (fun h => (by cases h)) fun _ => says_need trivial (says_need rfl (says_ite (fun h => (by cases h)) fun _ => says_leaf))))))
    | true =>
      rw [hq] at hx
      rw [cond_true]
      cases hb : frW p p.V.length [] with
      | none =>
        rw [hb] at hx
        exact fin (hx _ _ (says_need trivial (says_need rfl (says_ite (fun h => (by cases h)) fun _ => says_need trivial (says_need rfl (says_ite (fun _ => says_need trivial (says_need rfl (says_ite (fun h => (by cases h)) fun _ => says_leaf))) fun h => by cases h))))))
      | some b =>
        rw [hb] at hx
        exact (hx (.tup [flL b, I 0]) _ (says_need trivial (says_need rfl (says_ite (fun h => (by cases h)) fun _ => says_need trivial (says_need rfl (says_ite (fun _ => says_need trivial (says_need rfl (says_ite (fun _ => says_leaf) fun h => by cases h))) fun h => by cases h)))))).lift0 (below_tup2 (below_flL _) (.int _ _)) gbelow0 (below_arg1 p) h
theorem c17 (hs : p.sh) (m : Int) (h : Heap) : ACall Try.prog G0 17 [pAV p, I m] h (countR p m (refN p m)) h := by
  have fin : ∀ {n k : Int}, ACall Try.prog G0 17 [pAV p, I m] [] (.tup [I n, I k]) [] → ACall Try.prog G0 17 [pAV p, I m] h (.tup [I n, I k]) h := fun hc => hc.lift0 (below_tI _ _) gbelow0 (below_argI p m) h
  unfold countR
  cases hv : validP p with
  | false => exact fin (ACall.saysC (clokG1 fun _ => hv ▸ c29 hs) (run17n p m) (says_need trivial (says_need rfl (says_ite (fun _ => says_leaf) fun h => (by cases h)))))
  | true =>
    cases hm : inB m 0 1000000 with
    | false => exact fin (ACall.saysC (clokG1 fun _ => hv ▸ c29 hs) (run17m p m) (says_need trivial (says_need rfl (says_ite (fun h => (by cases h)) fun _ => says_ite (fun _ => says_leaf) fun h => by rw [hm] at h; cases h))))
    | true =>
    have hp := valid_iff.1 hv
    have hmb := inB_iff.1 hm
    rw [cond_true, cond_true]
    unfold refN
    cases h0 : (m == 0) with
    | true => exact fin (ACall.saysC (clokG1 fun _ => hv ▸ c29 hs) (run17m p m) (says_need trivial (says_need rfl (says_ite (fun h => (by cases h)) fun _ => says_ite (fun h => by rw [hm] at h; cases h) fun _ => says_ite (fun _ => says_leaf) fun h => by rw [h0] at h; cases h))))
    | false =>
    have hne : m ≠ 0 := fun h => by rw [h] at h0; simp at h0
    have h51 : ∀ σ, ACall Try.prog G0 51 [pAV p, .zs, I m] σ (I (cntW p p.V.length [] m)) σ := fun σ => (c51 hs hp _ [] m (beg_nil p) (by simp) (by omega) hmb.2 σ).arg3 (sub_refl _) sub_zsL (sub_refl _)
    have h50 : ∀ σ, ACall Try.prog G0 50 [pAV p, .zs, .bool false] σ (.bool (posB p [] false)) σ := fun σ => (c50 hs hp (beg_nil p) false σ).arg3 (sub_refl _) sub_zsL (sub_refl _)
    have hcl := clokG3 (q := True) (hv ▸ c29 hs) h50 h51
    have hx := fun v σ => ACall.saysC (v := v) (h' := σ) hcl (run17 True p m true _ _)
    rw [Bool.false_or]
    cases hq : posB p [] false with
    | false =>
      rw [hq] at hx
      exact fin (hx _ _ (says_need trivial (says_need rfl (says_ite (fun h => (by cases h)) fun _ => says_ite (fun h => by rw [hm] at h; cases h) fun _ => says_ite (fun h => by rw [h0] at h; cases h) fun _ => says_need trivial (says_need rfl (says_ite (fun _ => says_leaf) fun h => by cases h))))))
    | true =>
      rw [hq] at hx
      exact fin (hx _ _ (says_need trivial (says_need rfl (says_ite (fun h => (by cases h)) fun _ => says_ite (fun h => by rw [hm] at h; cases h) fun _ => says_ite (fun h => by rw [h0] at h; cases h) fun _ => says_need trivial (says_need rfl (says_ite (fun h => (by cases h)) fun _ => says_need trivial (says_need rfl says_leaf)))))))
end
end Go.Proofs.Ytngaihdpmoajeaa.Am

namespace Go.Proofs.Ytngaihdpmoajeaa.Am
open Go
set_option maxRecDepth 100000

noncomputable def body63 : Code := (loopsOf (bodyOf Try.prog 63)).headD .skip
theorem loops63 : loopsOf (bodyOf Try.prog 63) = [body63] := by kernel_rfl
def st63 (L : List (List Int)) (v : AV) (o : AObj) (k : Int) : St := .of 19 [o] [(3, v, true), (6, flLL L, true), (7, I L.length, true), (8, I k, true)]
theorem run63 (q g : Prop) (L : List (List Int)) (v v' : AV) (o o' : AObj) (k : Int) : xBodyT (EH q [(14, [flL (L.getD k.toNat [])], flL (L.getD k.toNat []))] (hApO 23 1 0 [flL (L.getD k.toNat [])] v v' o o' g)) 200 noLoops [3, 6, 7, 8] 1 body63 (st63 L v o k) = .ite (decide (k < (↑L.length : Int))) (.need (((0 : Int) ≤ k) ∧ (k < (↑L.length : Int))) (.need (q) (.need ([(flL (L.getD k.toNat []))] = [(flL (L.getD k.toNat []))]) (.need (((Option.some [v, (AV.sl (1 : Nat) [[(flL (L.getD k.toNat []))]])]) = (Option.some [v, (AV.sl (1 : Nat) [[(flL (L.getD k.toNat []))]])])) ∧ (((Option.some o) = (Option.some o)) ∧ (g))) (.leaf (Exit.normal, St.of 19 [o'] [(3, v', true), (6, (flLL (L)), true), (7, (I ((↑L.length : Int))), true), (8, (I (IntKind.i64.wrap (k + (1 : Int)))), true)])))))) (.leaf ((Exit.exit (0 : Nat)), St.of 19 [o] [(3, v, true), (6, (flLL (L)), true), (7, (I ((↑L.length : Int))), true), (8, (I k), true)])) := by kernel_rfl
theorem runF63 (L : List (List Int)) (v : AV) (o : AObj) (k : Int) : xenter Try.prog {} (xCode Try.prog G0 {} 200 (lpB 3 [3, 6, 7, 8] (st63 L .zs .resv 0) (.exit 0) (st63 L v o k))) 63 [flLL L] [true] [.resv] = .need ((st63 L .zs .resv 0).vals = (st63 L .zs .resv 0).vals) (.leaf (v, true, [o])) := by kernel_rfl
noncomputable def body40 : Code := (loopsOf (bodyOf Try.prog 40)).headD .skip
theorem loops40 : loopsOf (bodyOf Try.prog 40) = [body40] := by kernel_rfl
def st40 (L : List (List Int)) (n : Int) (v : AV) (o : AObj) (k : Int) : St := .of 34 [o] [(0, flLL L, true), (1, I n, true), (5, v, true), (6, I k, true)]
theorem run40 (q g : Prop) (L : List (List Int)) (n : Int) (v v' : AV) (o o' : AObj) (m : Nat) (y : List Int) (k : Int) : xBodyT (EH q [(14, [flL y], flL y)] (orH (hSlc (L.getD k.toNat []) m) (hApO 23 1 0 [flL y] v v' o o' g))) 200 noLoops [0, 1, 5, 6] 1 body40 (st40 L n v o k) = .ite (decide (k < (↑L.length : Int))) (.ite (decide (k < n)) (.need (((0 : Int) ≤ k) ∧ (k < (↑L.length : Int))) (.need (((0 : Int) ≤ k) ∧ (k < (↑L.length : Int))) (.need (((Option.some (flL (L.getD k.toNat []))) = (Option.some (flL (L.getD k.toNat [])))) ∧ (((Option.some (I (if (20 : Int) < (↑(L.getD k.toNat []).length : Int) then (20 : Int) else (↑(L.getD k.toNat []).length : Int)))) = (Option.some (I ((↑m : Int))))) ∧ (m ≤ (L.getD k.toNat []).length))) (.need (q) (.need ([(flL (List.take m (L.getD k.toNat [])))] = [(flL (y))]) (.need (((Option.some [v, (AV.sl (1 : Nat) [[(flL (y))]])]) = (Option.some [v, (AV.sl (1 : Nat) [[(flL (y))]])])) ∧ (((Option.some o) = (Option.some o)) ∧ (g))) (.leaf (Exit.normal, St.of 34 [o'] [(0, (flLL (L)), true), (1, (I n), true), (5, v', true), (6, (I (IntKind.i64.wrap (k + (1 : Int)))), true)])))))))) (.leaf ((Exit.exit (0 : Nat)), St.of 34 [o] [(0, (flLL (L)), true), (1, (I n), true), (5, v, true), (6, (I k), true)]))) (.leaf ((Exit.exit (0 : Nat)), St.of 34 [o] [(0, (flLL (L)), true), (1, (I n), true), (5, v, true), (6, (I k), true)])) := by kernel_rfl
theorem runF40 (L : List (List Int)) (n : Int) (v : AV) (o : AObj) (k : Int) : xenter Try.prog {} (xCode Try.prog G0 {} 200 (lpB 3 [0, 1, 5, 6] (st40 L n .zs .resv 0) (.exit 0) (st40 L n v o k))) 40 [flLL L, I n] [true, true] [.resv] = .need ((st40 L n .zs .resv 0).vals = (st40 L n .zs .resv 0).vals) (.leaf (v, true, [o])) := by kernel_rfl
def rowLL (L : List (List Int)) : List (List AV) := L.map fun x => [flL x]
theorem rowLL_app (L : List (List Int)) (x : List Int) : rowLL L ++ [[flL x]] = rowLL (L ++ [x]) := by simp [rowLL]
theorem rowLL_len (L : List (List Int)) : ∀ x ∈ rowLL L, x.length = 1 := fun x hx => by
  obtain ⟨n, _, rfl⟩ := List.mem_map.1 hx; rfl
theorem rowLL_flat {L : List (List Int)} : ∀ x ∈ rowLL L, ∀ y ∈ x, Below 0 y := fun x hx y hy => by
  obtain ⟨n, _, rfl⟩ := List.mem_map.1 hx
  rw [List.mem_singleton.1 hy]
  exact below_flL _
theorem rowLL_getD (L : List (List Int)) {i : Nat} (hi : i < L.length) : (rowLL L).getD i [] = [flL (L.getD i [])] := by
  unfold rowLL
  simp [List.getD_eq_getElem?_getD, hi]
theorem re_lists {π : Nat → Option Nat} {σ : Heap} {r : Nat} {L : List (List Int)} (ho : σ[r]? = some (sO (rowLL L))) (hπ : ∀ q, π q ≠ some r) : Re G0 π σ (sV 1 r (rowLL L)) (flLL L) := by
  have h := re_sV ho hπ (rowLL_len L) (fun x hx y hy => Re.flat (rowLL_flat x hx y hy))
  have e : (rowLL L).length = L.length := by simp [rowLL]
  rw [e] at h
  exact h.conv fun w M v hv => fl_congr (fun i hi => rowLL_getD L hi) hv
theorem grow_LL {L : List (List Int)} (hl : L.length < 16777216) (x : List Int) (r : Nat) : Grow 1 r [flL x] (sV 1 r (rowLL L)) (sV 1 r (rowLL (L ++ [x]))) (sO (rowLL L)) (sO (rowLL (L ++ [x]))) :=
  ⟨rowLL L, rfl, rfl, by rw [rowLL_app], by rw [rowLL_app], rowLL_len L, rfl, fun y hy => by rw [List.mem_singleton.1 hy]; rfl, by simpa [rowLL] using hl⟩
theorem alone_rowLL {m : Nat} (L : List (List Int)) : Alone m (sO (rowLL L)) := alone_sO fun x hx y hy => (rowLL_flat x hx y hy).up
theorem clean63 (L M : List (List Int)) (k : Int) : CleanT 1 (st63 L (sV 1 0 (rowLL M)) (sO (rowLL M)) k) :=
  cleanT_of rfl (one_alone (alone_rowLL M)) ⟨below_sV (by omega), (below_flLL _).up, .int _ _, .int _ _, trivial⟩
theorem take_succL {L : List (List Int)} {k : Nat} (hk : k < L.length) : L.take (k + 1) = L.take k ++ [L.getD k []] := by
  rw [List.take_succ_eq_append_getElem hk, List.getD_eq_getElem?_getD, List.getElem?_eq_getElem hk]
  rfl
theorem loop63 {L : List (List Int)} (hl : L.length < 16777216) (hx : ∀ x ∈ L, x.length ≤ 16777216) : LoopA body63 L.length (fun k => st63 L (sV 1 0 (rowLL (L.take k))) (sO (rowLL (L.take k))) k) (fun k => st63 L (sV 1 0 (rowLL (L.take k))) (sO (rowLL (L.take k))) k) (st63 L (sV 1 0 (rowLL L)) (sO (rowLL L)) L.length) .ret (.exit 0) fun _ => false := by
  refine .linT (m := 1) (fun _ => rfl) rfl nofun (fun k => clean63 L _ k) (clean63 L _ _) fun k hk => ?_
  have key := congrArg Tree.sel (run63 (k < L.length) (k < L.length) L (sV 1 0 (rowLL (L.take k))) (sV 1 0 (rowLL (L.take k ++ [L.getD k []]))) (sO (rowLL (L.take k))) (sO (rowLL (L.take k ++ [L.getD k []]))) k)
  rw [Int.toNat_natCast] at key
  refine ⟨_, _, _, clokH (fun hlt z hz σ => ?_) (hApO_ok els23 fun _ => grow_LL (by rw [List.length_take]; omega) _ 0), lpNo _, fun hlt => key.trans ?_, fun he => key.trans ?_⟩
  · obtain rfl := List.mem_singleton.1 hz
    exact c14d (hx _ (getD_mem hlt)) σ
  · rw [wrapS hlt (by show L.length < _; omega), take_succL hlt]
    exact (selIt (dT (by omega))).trans (t_need ⟨by omega, by omega⟩ (t_need hlt (t_need rfl (t_need ⟨rfl, rfl, hlt⟩ rfl))))
  · rw [selIf (dF (by omega)), he, List.take_length]
    rfl
theorem c63 {L : List (List Int)} (hl : L.length < 16777216) (hx : ∀ x ∈ L, x.length ≤ 16777216) (h : Heap) : ACall Try.prog G0 63 [flLL L] h (flLL L) h := by
  have hc : ACall Try.prog G0 63 [flLL L] [.resv] (sV 1 0 (rowLL L)) [sO (rowLL L)] :=
    ACall.says clok0 ((loop63 hl hx).okB (fun _ _ => rfl) (one_loop loops63)) (runF63 L _ _ _) (says_need rfl says_leaf)
  exact hc.out (k := 1) (re_lists rfl nofun) (below_flLL _) (fun x hx => by rw [List.mem_singleton.1 hx]; exact below_flLL _) h
/-- The law's own lists. -/
def cutL (L : List (List Int)) (n : Nat) : List (List Int) := (L.take n).map fun x => x.take 20
theorem cutL_len (L : List (List Int)) (n : Nat) : (cutL L n).length = min n L.length := by simp [cutL]
theorem cutL_succ {L : List (List Int)} {k : Nat} (hk : k < L.length) : cutL L (k + 1) = cutL L k ++ [(L.getD k []).take 20] := by
  unfold cutL
  rw [take_succL hk, List.map_append]
  rfl
theorem cutL_over {L : List (List Int)} {n : Nat} (h : L.length ≤ n) : cutL L n = cutL L L.length := by
  unfold cutL
  rw [List.take_of_length_le h, List.take_length]
theorem clean40 (L M : List (List Int)) (n k : Int) : CleanT 1 (st40 L n (sV 1 0 (rowLL M)) (sO (rowLL M)) k) :=
  cleanT_of rfl (one_alone (alone_rowLL M)) ⟨(below_flLL _).up, .int _ _, below_sV (by omega), .int _ _, trivial⟩
theorem min20 (L : List Int) : (if (20 : Int) < (L.length : Int) then (20 : Int) else (L.length : Int)) = ((min L.length 20 : Nat) : Int) := by
  split <;> omega
theorem loop40 {L : List (List Int)} (hl : sh L) {n : Nat} (hn : n < 16777216) : LoopA body40 (min L.length n) (fun k => st40 L n (sV 1 0 (rowLL (cutL L k))) (sO (rowLL (cutL L k))) k) (fun k => st40 L n (sV 1 0 (rowLL (cutL L k))) (sO (rowLL (cutL L k))) k) (st40 L n (sV 1 0 (rowLL (cutL L n))) (sO (rowLL (cutL L n))) (min L.length n : Nat)) .ret (.exit 0) fun _ => false := by
  refine .linT (m := 1) (fun _ => rfl) rfl nofun (fun k => clean40 L _ _ k) (clean40 L _ _ _) fun k hk => ?_
  have key := congrArg Tree.sel (run40 True True L n (sV 1 0 (rowLL (cutL L k))) (sV 1 0 (rowLL (cutL L k ++ [(L.getD k []).take 20]))) (sO (rowLL (cutL L k))) (sO (rowLL (cutL L k ++ [(L.getD k []).take 20]))) (min (L.getD k []).length 20) ((L.getD k []).take 20) k)
  rw [Int.toNat_natCast, min20] at key
  have htake : (L.getD k []).take (min (L.getD k []).length 20) = (L.getD k []).take 20 := by
    rw [Nat.min_comm, ← List.take_take, List.take_length]
  rw [htake] at key
  have hcl := cutL_len L k
  refine ⟨EH True _ _, _, _, clokH (fun _ z hz σ => ?_) ((hSlc_ok _ _).or (hApO_ok els23 fun _ => grow_LL (by omega) _ 0)), lpNo _, fun hlt => key.trans ?_, fun he => key.trans ?_⟩
  · obtain rfl := List.mem_singleton.1 hz
    exact c14d (by rw [List.length_take]; omega) σ
  · have hlt' : k < L.length := by omega
    rw [wrapS hlt' hl, cutL_succ hlt']
    exact (selIt (dT (by omega))).trans ((selIt (dT (by omega))).trans (t_need ⟨by omega, by omega⟩ (t_need ⟨by omega, by omega⟩ (t_need ⟨rfl, rfl, by omega⟩ (t_need trivial (t_need rfl (t_need ⟨rfl, rfl, trivial⟩ rfl)))))))
  · have e : cutL L k = cutL L n := by
      by_cases h : L.length ≤ n
      · rw [cutL_over h, he, Nat.min_eq_left h]
      · rw [he, Nat.min_eq_right (by omega)]
    rw [e, ← he]
    exact t_ite (fun h1 => (selIf (dF (by have := of_decide_eq_true h1; omega))).trans rfl) fun _ => rfl
theorem c40 {L : List (List Int)} (hl : sh L) {n : Nat} (hn : n < 16777216) (h : Heap) : ACall Try.prog G0 40 [flLL L, I n] h (flLL (cutL L n)) h := by
  have hc : ACall Try.prog G0 40 [flLL L, I n] [.resv] (sV 1 0 (rowLL (cutL L n))) [sO (rowLL (cutL L n))] :=
    ACall.says clok0 ((loop40 hl hn).okB (fun _ _ => rfl) (one_loop loops40)) (runF40 L n _ _ _) (says_need rfl says_leaf)
  exact hc.out (k := 1) (re_lists rfl nofun) (below_flLL _) (fun x hx => by
    simp only [List.mem_cons, List.not_mem_nil, or_false] at hx
    rcases hx with rfl | rfl
    · exact below_flLL _
    · exact .int _ _) h
end Go.Proofs.Ytngaihdpmoajeaa.Am

namespace Go.Proofs.Ytngaihdpmoajeaa.Am
open Go
set_option maxRecDepth 100000

/-- A struct, stored into the object r. -/
def hStA (t : TypeId) (r : Nat) : Heap → Oper → (Operand → Option AV) → Option (AV × Bool × Heap × Prop) := fun h o ρ => match o.op with
  | .store t' x y => bif Nat.beq t' t then (match ρ x with
    | some (.ref r' g off) => bif Nat.beq r' r then (match objAt h r g, ρ y with
      | some c, some (.agg vs) => some (.tup [], false, h.set r (.cells g (setL c off vs)), (Try.prog.info? t).map (·.size) = some vs.length ∧ vs.all AV.one = true ∧ off + vs.length ≤ c.length)
      | _, _ => none) else none
    | _ => none) else none
  | _ => none
theorem hStA_ok (t : TypeId) (r : Nat) : HintA Try.prog (hStA t r) := by
  intro h o ρ y s h' p hh hp
  unfold hStA at hh
  split at hh <;> first | (cases hh; done) | skip
  rename_i t' x y' ho
  cases ht : Nat.beq t' t with
  | false => rw [ht] at hh; cases hh
  | true =>
  rw [ht, cond_true] at hh
  obtain rfl := Nat.eq_of_beq_eq_true ht
  split at hh <;> first | (cases hh; done) | skip
  rename_i r' g off hx
  cases hr : Nat.beq r' r with
  | false => rw [hr] at hh; cases hh
  | true =>
  rw [hr, cond_true] at hh
  obtain rfl := Nat.eq_of_beq_eq_true hr
  split at hh <;> first | (cases hh; done) | skip
  rename_i c vs hc hy
  cases hh
  obtain ⟨p1, p2, p3⟩ := hp
  obtain ⟨i, e1, e2⟩ := Option.map_eq_some_iff.1 p1
  have ec : (AV.agg vs).cells = vs := rfl
  unfold aopR
  simp only [ho, hx, hy, aStore, e1, hc]
  rw [ec, if_pos ⟨e2.symm, by omega, p2⟩]
  rfl
def zPb : List AV := [.zs, .zs, .zs]
def cutR (x : Rl) : Rl := ⟨x.d, x.v.take 26, cutL x.w 26, x.m⟩
noncomputable def body10 : Code := (loopsOf (bodyOf Try.prog 10)).headD .skip
theorem loops10 : loopsOf (bodyOf Try.prog 10) = [body10] := by kernel_rfl
def st10 (p : Pb) (V : List Int) (C : List (List Int)) (most : Int) (v : AV) (o : AObj) (k : Int) : St := .of 60 [o, .cells 0 zPb, .cells 0 [flL V, flLL C, v]] [(1, .row (pbC p) 0, true), (2, .ref 1 0 0, true), (3, .ref 2 0 0, true), (4, I most, true), (5, I k, true)]
def E10 (q g : Prop) (x : Rl) (y : List Int) (w : List (List Int)) (m : Nat) (v v' : AV) (o o' : AObj) : Env := EH q [(14, [flL y], flL y), (40, [flLL x.w, I 26], flLL w)] (orH (hSlc x.v m) (orH (hApO 24 4 0 [I x.d, flL y, flLL w, I x.m] v v' o o' g) (hSto 24 2)))
theorem run10 (q g : Prop) (p : Pb) (V : List Int) (C : List (List Int)) (most : Int) (y : List Int) (w : List (List Int)) (m : Nat) (v v' : AV) (o o' : AObj) (k : Int) : xBodyT (E10 q g (p.R.getD k.toNat r0) y w m v v' o o') 200 noLoops [1, 2, 3, 4, 5] 3 body10 (st10 p V C most v o k) = .ite (decide (k < (↑p.R.length : Int))) (.ite (decide (k < most)) (.need (((0 : Int) ≤ k) ∧ (k < (↑p.R.length : Int))) (.need (((Option.some (flL ((p.R.getD k.toNat r0).v))) = (Option.some (flL ((p.R.getD k.toNat r0).v)))) ∧ (((Option.some (I (if (26 : Int) < (↑(p.R.getD k.toNat r0).v.length : Int) then (26 : Int) else (↑(p.R.getD k.toNat r0).v.length : Int)))) = (Option.some (I ((↑m : Int))))) ∧ (m ≤ (p.R.getD k.toNat r0).v.length))) (.need (q) (.need ([(flL (List.take m (p.R.getD k.toNat r0).v))] = [(flL (y))]) (.need (q) (.need ([(flLL ((p.R.getD k.toNat r0).w)), (I ((26 : Int)))] = [(flLL ((p.R.getD k.toNat r0).w)), (I ((26 : Int)))]) (.need (((Option.some [v, (AV.sl (4 : Nat) [[(I ((p.R.getD k.toNat r0).d)), (flL (y)), (flLL (w)), (I ((p.R.getD k.toNat r0).m))]])]) = (Option.some [v, (AV.sl (4 : Nat) [[(I ((p.R.getD k.toNat r0).d)), (flL (y)), (flLL (w)), (I ((p.R.getD k.toNat r0).m))]])])) ∧ (((Option.some o) = (Option.some o)) ∧ (g))) (.need (((AV.one v') = true) ∧ ((2 : Nat) < (3 : Nat))) (.leaf (Exit.normal, St.of 60 [o', (AObj.cells (0 : Nat) [AV.zs, AV.zs, AV.zs]), (AObj.cells (0 : Nat) (setL [(flL (V)), (flLL (C)), v] (2 : Nat) [v']))] [(1, (AV.row [(flL (p.V)), (flLL (p.C)), (flR (p.R))] (0 : Nat)), true), (2, (AV.ref (1 : Nat) (0 : Nat) (0 : Nat)), true), (3, (AV.ref (2 : Nat) (0 : Nat) (0 : Nat)), true), (4, (I most), true), (5, (I (IntKind.i64.wrap (k + (1 : Int)))), true)])))))))))) (.leaf ((Exit.exit (0 : Nat)), St.of 60 [o, (AObj.cells (0 : Nat) [AV.zs, AV.zs, AV.zs]), (AObj.cells (0 : Nat) [(flL (V)), (flLL (C)), v])] [(1, (AV.row [(flL (p.V)), (flLL (p.C)), (flR (p.R))] (0 : Nat)), true), (2, (AV.ref (1 : Nat) (0 : Nat) (0 : Nat)), true), (3, (AV.ref (2 : Nat) (0 : Nat) (0 : Nat)), true), (4, (I most), true), (5, (I k), true)]))) (.leaf ((Exit.exit (0 : Nat)), St.of 60 [o, (AObj.cells (0 : Nat) [AV.zs, AV.zs, AV.zs]), (AObj.cells (0 : Nat) [(flL (V)), (flLL (C)), v])] [(1, (AV.row [(flL (p.V)), (flLL (p.C)), (flR (p.R))] (0 : Nat)), true), (2, (AV.ref (1 : Nat) (0 : Nat) (0 : Nat)), true), (3, (AV.ref (2 : Nat) (0 : Nat) (0 : Nat)), true), (4, (I most), true), (5, (I k), true)])) := by kernel_rfl
noncomputable def mv10 (V : List Int) (C : List (List Int)) : Nat → Option (List Nat × (Nat → Heap)) := fun id => bif Nat.beq id 1 then some ([12, 13], fun n => match n with
  | 0 => [.resv, .cells 0 zPb]
  | 1 => [.resv, .cells 0 zPb, .cells 0 zPb]
  | _ => [.resv, .cells 0 zPb, .cells 0 [flL V, flLL C, .zs]]) else none
theorem runF10 (p : Pb) (V : List Int) (C : List (List Int)) (m : Nat) (most : Int) (v : AV) (o : AObj) (k : Int) : xenter Try.prog (EH True [(14, [flL V], flL V), (40, [flLL p.C, I 26], flLL C)] (orH (hSlc p.V m) (hStA 26 1))) (xCodeM Try.prog G0 (EH True [(14, [flL V], flL V), (40, [flLL p.C, I 26], flLL C)] (orH (hSlc p.V m) (hStA 26 1))) (mv10 V C) 200 (lpB 6 [1, 2, 3, 4, 5] (st10 p V C most .zs .resv 0) (.exit 0) (st10 p V C most v o k))) 10 [pAV p] [true] [.resv] = .need ([AObj.resv, (AObj.cells (0 : Nat) [AV.zs, AV.zs, AV.zs])] = [AObj.resv, (AObj.cells (0 : Nat) [AV.zs, AV.zs, AV.zs])]) (.need ([AObj.resv, (AObj.cells (0 : Nat) [AV.zs, AV.zs, AV.zs])] = [AObj.resv, (AObj.cells (0 : Nat) [AV.zs, AV.zs, AV.zs])]) (.need (((AV.row [(flL (p.V)), (flLL (p.C)), (flR (p.R))] (0 : Nat)) = (AV.row [(flL (p.V)), (flLL (p.C)), (flR (p.R))] (0 : Nat))) ∧ ([AObj.resv, (AObj.cells (0 : Nat) [AV.zs, AV.zs, AV.zs]), (AObj.cells (0 : Nat) [AV.zs, AV.zs, AV.zs])] = [AObj.resv, (AObj.cells (0 : Nat) [AV.zs, AV.zs, AV.zs]), (AObj.cells (0 : Nat) [AV.zs, AV.zs, AV.zs])])) (.need ([AObj.resv, (AObj.cells (0 : Nat) [AV.zs, AV.zs, AV.zs])] = [AObj.resv, (AObj.cells (0 : Nat) [AV.zs, AV.zs, AV.zs])]) (.need (((flL (p.V)) = (flL (p.V))) ∧ ([AObj.resv, (AObj.cells (0 : Nat) [AV.zs, AV.zs, AV.zs]), (AObj.cells (0 : Nat) [AV.zs, AV.zs, AV.zs])] = [AObj.resv, (AObj.cells (0 : Nat) [AV.zs, AV.zs, AV.zs]), (AObj.cells (0 : Nat) [AV.zs, AV.zs, AV.zs])])) (.need ([AObj.resv, (AObj.cells (0 : Nat) [AV.zs, AV.zs, AV.zs])] = [AObj.resv, (AObj.cells (0 : Nat) [AV.zs, AV.zs, AV.zs])]) (.need (((AV.row [(flL (p.V)), (flLL (p.C)), (flR (p.R))] (0 : Nat)) = (AV.row [(flL (p.V)), (flLL (p.C)), (flR (p.R))] (0 : Nat))) ∧ ([AObj.resv, (AObj.cells (0 : Nat) [AV.zs, AV.zs, AV.zs]), (AObj.cells (0 : Nat) [AV.zs, AV.zs, AV.zs])] = [AObj.resv, (AObj.cells (0 : Nat) [AV.zs, AV.zs, AV.zs]), (AObj.cells (0 : Nat) [AV.zs, AV.zs, AV.zs])])) (.need ([AObj.resv, (AObj.cells (0 : Nat) [AV.zs, AV.zs, AV.zs])] = [AObj.resv, (AObj.cells (0 : Nat) [AV.zs, AV.zs, AV.zs])]) (.need (((flL (p.V)) = (flL (p.V))) ∧ ([AObj.resv, (AObj.cells (0 : Nat) [AV.zs, AV.zs, AV.zs]), (AObj.cells (0 : Nat) [AV.zs, AV.zs, AV.zs])] = [AObj.resv, (AObj.cells (0 : Nat) [AV.zs, AV.zs, AV.zs]), (AObj.cells (0 : Nat) [AV.zs, AV.zs, AV.zs])])) (.need ([AObj.resv, (AObj.cells (0 : Nat) [AV.zs, AV.zs, AV.zs])] = [AObj.resv, (AObj.cells (0 : Nat) [AV.zs, AV.zs, AV.zs])]) (.need (((I ((↑p.V.length : Int))) = (I ((↑p.V.length : Int)))) ∧ ([AObj.resv, (AObj.cells (0 : Nat) [AV.zs, AV.zs, AV.zs]), (AObj.cells (0 : Nat) [AV.zs, AV.zs, AV.zs])] = [AObj.resv, (AObj.cells (0 : Nat) [AV.zs, AV.zs, AV.zs]), (AObj.cells (0 : Nat) [AV.zs, AV.zs, AV.zs])])) (.need ([AObj.resv, (AObj.cells (0 : Nat) [AV.zs, AV.zs, AV.zs])] = [AObj.resv, (AObj.cells (0 : Nat) [AV.zs, AV.zs, AV.zs])]) (.need (((I (if (26 : Int) < (↑p.V.length : Int) then (26 : Int) else (↑p.V.length : Int))) = (I (if (26 : Int) < (↑p.V.length : Int) then (26 : Int) else (↑p.V.length : Int)))) ∧ ([AObj.resv, (AObj.cells (0 : Nat) [AV.zs, AV.zs, AV.zs]), (AObj.cells (0 : Nat) [AV.zs, AV.zs, AV.zs])] = [AObj.resv, (AObj.cells (0 : Nat) [AV.zs, AV.zs, AV.zs]), (AObj.cells (0 : Nat) [AV.zs, AV.zs, AV.zs])])) (.need (((Option.some (flL (p.V))) = (Option.some (flL (p.V)))) ∧ (((Option.some (I (if (26 : Int) < (↑p.V.length : Int) then (26 : Int) else (↑p.V.length : Int)))) = (Option.some (I ((↑m : Int))))) ∧ (m ≤ p.V.length))) (.need ([AObj.resv, (AObj.cells (0 : Nat) [AV.zs, AV.zs, AV.zs])] = [AObj.resv, (AObj.cells (0 : Nat) [AV.zs, AV.zs, AV.zs])]) (.need (((Option.some (flL (p.V))) = (Option.some (flL (p.V)))) ∧ (((Option.some (I (if (26 : Int) < (↑p.V.length : Int) then (26 : Int) else (↑p.V.length : Int)))) = (Option.some (I ((↑m : Int))))) ∧ (m ≤ p.V.length))) (.need (((flL (List.take m p.V)) = (flL (List.take m p.V))) ∧ ([AObj.resv, (AObj.cells (0 : Nat) [AV.zs, AV.zs, AV.zs]), (AObj.cells (0 : Nat) [AV.zs, AV.zs, AV.zs])] = [AObj.resv, (AObj.cells (0 : Nat) [AV.zs, AV.zs, AV.zs]), (AObj.cells (0 : Nat) [AV.zs, AV.zs, AV.zs])])) (.need (True) (.need ([(flL (List.take m p.V))] = [(flL (V))]) (.need ([AObj.resv, (AObj.cells (0 : Nat) [AV.zs, AV.zs, AV.zs])] = [AObj.resv, (AObj.cells (0 : Nat) [AV.zs, AV.zs, AV.zs])]) (.need (True) (.need ([(flL (List.take m p.V))] = [(flL (V))]) (.need (((flL (V)) = (flL (V))) ∧ ([AObj.resv, (AObj.cells (0 : Nat) [AV.zs, AV.zs, AV.zs]), (AObj.cells (0 : Nat) [AV.zs, AV.zs, AV.zs])] = [AObj.resv, (AObj.cells (0 : Nat) [AV.zs, AV.zs, AV.zs]), (AObj.cells (0 : Nat) [AV.zs, AV.zs, AV.zs])])) (.need ([AObj.resv, (AObj.cells (0 : Nat) [AV.zs, AV.zs, AV.zs])] = [AObj.resv, (AObj.cells (0 : Nat) [AV.zs, AV.zs, AV.zs])]) (.need (((AV.row [(flL (p.V)), (flLL (p.C)), (flR (p.R))] (1 : Nat)) = (AV.row [(flL (p.V)), (flLL (p.C)), (flR (p.R))] (1 : Nat))) ∧ ([AObj.resv, (AObj.cells (0 : Nat) [AV.zs, AV.zs, AV.zs]), (AObj.cells (0 : Nat) [AV.zs, AV.zs, AV.zs])] = [AObj.resv, (AObj.cells (0 : Nat) [AV.zs, AV.zs, AV.zs]), (AObj.cells (0 : Nat) [AV.zs, AV.zs, AV.zs])])) (.need ([AObj.resv, (AObj.cells (0 : Nat) [AV.zs, AV.zs, AV.zs])] = [AObj.resv, (AObj.cells (0 : Nat) [AV.zs, AV.zs, AV.zs])]) (.need (((flLL (p.C)) = (flLL (p.C))) ∧ ([AObj.resv, (AObj.cells (0 : Nat) [AV.zs, AV.zs, AV.zs]), (AObj.cells (0 : Nat) [AV.zs, AV.zs, AV.zs])] = [AObj.resv, (AObj.cells (0 : Nat) [AV.zs, AV.zs, AV.zs]), (AObj.cells (0 : Nat) [AV.zs, AV.zs, AV.zs])])) (.need (True) (.need ([(flLL (p.C)), (I ((26 : Int)))] = [(flLL (p.C)), (I ((26 : Int)))]) (.need ([AObj.resv, (AObj.cells (0 : Nat) [AV.zs, AV.zs, AV.zs])] = [AObj.resv, (AObj.cells (0 : Nat) [AV.zs, AV.zs, AV.zs])]) (.need (True) (.need ([(flLL (p.C)), (I ((26 : Int)))] = [(flLL (p.C)), (I ((26 : Int)))]) (.need (((flLL (C)) = (flLL (C))) ∧ ([AObj.resv, (AObj.cells (0 : Nat) [AV.zs, AV.zs, AV.zs]), (AObj.cells (0 : Nat) [AV.zs, AV.zs, AV.zs])] = [AObj.resv, (AObj.cells (0 : Nat) [AV.zs, AV.zs, AV.zs]), (AObj.cells (0 : Nat) [AV.zs, AV.zs, AV.zs])])) (.need ([AObj.resv, (AObj.cells (0 : Nat) [AV.zs, AV.zs, AV.zs])] = [AObj.resv, (AObj.cells (0 : Nat) [AV.zs, AV.zs, AV.zs])]) (.need (((AV.agg (setL (setL [AV.zs, AV.zs, AV.zs] (0 : Nat) [(flL (V))]) (1 : Nat) [(flLL (C))])) = (AV.agg (setL (setL [AV.zs, AV.zs, AV.zs] (0 : Nat) [(flL (V))]) (1 : Nat) [(flLL (C))]))) ∧ ([AObj.resv, (AObj.cells (0 : Nat) [AV.zs, AV.zs, AV.zs]), (AObj.cells (0 : Nat) [AV.zs, AV.zs, AV.zs])] = [AObj.resv, (AObj.cells (0 : Nat) [AV.zs, AV.zs, AV.zs]), (AObj.cells (0 : Nat) [AV.zs, AV.zs, AV.zs])])) (.need ([AObj.resv, (AObj.cells (0 : Nat) [AV.zs, AV.zs, AV.zs]), (AObj.cells (0 : Nat) [AV.zs, AV.zs, AV.zs])] = [AObj.resv, (AObj.cells (0 : Nat) [AV.zs, AV.zs, AV.zs]), (AObj.cells (0 : Nat) [AV.zs, AV.zs, AV.zs])]) (.need ([AObj.resv, (AObj.cells (0 : Nat) [AV.zs, AV.zs, AV.zs]), (AObj.cells (0 : Nat) (setL [AV.zs, AV.zs, AV.zs] (0 : Nat) [(flL (V)), (flLL (C)), AV.zs]))] = [AObj.resv, (AObj.cells (0 : Nat) [AV.zs, AV.zs, AV.zs]), (AObj.cells (0 : Nat) [(flL (V)), (flLL (C)), AV.zs])]) (.ite (decide ((↑p.R.length : Int) > (2048 : Int))) (.need ((st10 p V C 2049 .zs .resv 0).vals = (st10 p V C most .zs .resv 0).vals) (.need (((Option.some (3 : Nat)) = (Option.some (3 : Nat))) ∧ ((((List.take Try.prog.types[(26 : Nat)].size (List.drop (0 : Nat) [flL V, flLL C, v])).all AV.one) = true) ∧ ((0 : Nat) + (List.take Try.prog.types[(26 : Nat)].size (List.drop (0 : Nat) [flL V, flLL C, v])).length ≤ zPb.length))) (.leaf ((AV.agg [(flL (V)), (flLL (C)), v]), true, [o, (AObj.cells (0 : Nat) (setL [AV.zs, AV.zs, AV.zs] (0 : Nat) [(flL (V)), (flLL (C)), v])), (AObj.cells (0 : Nat) [(flL (V)), (flLL (C)), v])])))) (.need ((st10 p V C 12 .zs .resv 0).vals = (st10 p V C most .zs .resv 0).vals) (.need (((Option.some (3 : Nat)) = (Option.some (3 : Nat))) ∧ ((((List.take Try.prog.types[(26 : Nat)].size (List.drop (0 : Nat) [flL V, flLL C, v])).all AV.one) = true) ∧ ((0 : Nat) + (List.take Try.prog.types[(26 : Nat)].size (List.drop (0 : Nat) [flL V, flLL C, v])).length ≤ zPb.length))) (.leaf ((AV.agg [(flL (V)), (flLL (C)), v]), true, [o, (AObj.cells (0 : Nat) (setL [AV.zs, AV.zs, AV.zs] (0 : Nat) [(flL (V)), (flLL (C)), v])), (AObj.cells (0 : Nat) [(flL (V)), (flLL (C)), v])]))))))))))))))))))))))))))))))))))))))))) := by kernel_rfl
noncomputable def body31 : Code := (loopsOf (bodyOf Try.prog 31)).headD .skip
theorem loops31 : loopsOf (bodyOf Try.prog 31) = [body31] := by kernel_rfl
def st31 (p : Pb) (D : List Int) (v : AV) (o : AObj) (k : Int) : St := .of 49 [o, .cells 0 zPb, .cells 0 [flL p.V, flLL p.C, v]] [(1, flL D, true), (2, .row (pbC p) 0, true), (4, .ref 1 0 0, true), (5, .fn 63 [] [], true), (6, .ref 2 0 0, true), (22, flR p.R, true), (23, I p.R.length, true), (24, I k, true)]
def keep31 : List Nat := [1, 2, 4, 5, 6, 22, 23, 24]
def E31 (q g : Prop) (D : List Int) (x : Rl) (b : Bool) (v v' : AV) (o o' : AObj) : Env := EH q [(35, [flL D, I x.d], .bool b), (14, [flL x.v], flL x.v), (63, [flLL x.w], flLL x.w)] (orH (hApO 24 4 0 (rlC x) v v' o o' g) (hSto 24 2))
theorem run31 (q g : Prop) (p : Pb) (D : List Int) (b : Bool) (v v' : AV) (o o' : AObj) (k : Int) : xBodyT (E31 q g D (p.R.getD k.toNat r0) b v v' o o') 200 noLoops keep31 3 body31 (st31 p D v o k) = .ite (decide (k < (↑p.R.length : Int))) (.need (((0 : Int) ≤ k) ∧ (k < (↑p.R.length : Int))) (.need (q) (.need ([(flL (D)), (I ((p.R.getD k.toNat r0).d))] = [(flL (D)), (I ((p.R.getD k.toNat r0).d))]) (.ite (b) (.need (q) (.need ([(flL ((p.R.getD k.toNat r0).v))] = [(flL ((p.R.getD k.toNat r0).v))]) (.need (q) (.need ([(flLL ((p.R.getD k.toNat r0).w))] = [(flLL ((p.R.getD k.toNat r0).w))]) (.need (((Option.some [v, (AV.sl (4 : Nat) [[(I ((p.R.getD k.toNat r0).d)), (flL ((p.R.getD k.toNat r0).v)), (flLL ((p.R.getD k.toNat r0).w)), (I ((p.R.getD k.toNat r0).m))]])]) = (Option.some [v, (AV.sl (4 : Nat) [[(I ((p.R.getD k.toNat r0).d)), (flL ((p.R.getD k.toNat r0).v)), (flLL ((p.R.getD k.toNat r0).w)), (I ((p.R.getD k.toNat r0).m))]])])) ∧ (((Option.some o) = (Option.some o)) ∧ (g))) (.need (((AV.one v') = true) ∧ ((2 : Nat) < (3 : Nat))) (.leaf (Exit.normal, St.of 49 [o', (AObj.cells (0 : Nat) [AV.zs, AV.zs, AV.zs]), (AObj.cells (0 : Nat) (setL [(flL (p.V)), (flLL (p.C)), v] (2 : Nat) [v']))] [(1, (flL (D)), true), (2, (AV.row [(flL (p.V)), (flLL (p.C)), (flR (p.R))] (0 : Nat)), true), (4, (AV.ref (1 : Nat) (0 : Nat) (0 : Nat)), true), (5, (AV.fn (63 : Nat) [] []), true), (6, (AV.ref (2 : Nat) (0 : Nat) (0 : Nat)), true), (22, (flR (p.R)), true), (23, (I ((↑p.R.length : Int))), true), (24, (I (IntKind.i64.wrap (k + (1 : Int)))), true)])))))))) (.leaf (Exit.normal, St.of 49 [o, (AObj.cells (0 : Nat) [AV.zs, AV.zs, AV.zs]), (AObj.cells (0 : Nat) [(flL (p.V)), (flLL (p.C)), v])] [(1, (flL (D)), true), (2, (AV.row [(flL (p.V)), (flLL (p.C)), (flR (p.R))] (0 : Nat)), true), (4, (AV.ref (1 : Nat) (0 : Nat) (0 : Nat)), true), (5, (AV.fn (63 : Nat) [] []), true), (6, (AV.ref (2 : Nat) (0 : Nat) (0 : Nat)), true), (22, (flR (p.R)), true), (23, (I ((↑p.R.length : Int))), true), (24, (I (IntKind.i64.wrap (k + (1 : Int)))), true)])))))) (.leaf ((Exit.exit (0 : Nat)), St.of 49 [o, (AObj.cells (0 : Nat) [AV.zs, AV.zs, AV.zs]), (AObj.cells (0 : Nat) [(flL (p.V)), (flLL (p.C)), v])] [(1, (flL (D)), true), (2, (AV.row [(flL (p.V)), (flLL (p.C)), (flR (p.R))] (0 : Nat)), true), (4, (AV.ref (1 : Nat) (0 : Nat) (0 : Nat)), true), (5, (AV.fn (63 : Nat) [] []), true), (6, (AV.ref (2 : Nat) (0 : Nat) (0 : Nat)), true), (22, (flR (p.R)), true), (23, (I ((↑p.R.length : Int))), true), (24, (I k), true)])) := by kernel_rfl
noncomputable def mv31 (V : List Int) (C : List (List Int)) : Nat → Option (List Nat × (Nat → Heap)) := fun id => bif Nat.beq id 4 then some ([8, 9], fun n => match n with
  | 0 => [.resv, .cells 0 zPb]
  | 1 => [.resv, .cells 0 zPb, .cells 0 zPb]
  | _ => [.resv, .cells 0 zPb, .cells 0 [flL V, flLL C, .zs]]) else none
theorem runF31 (p : Pb) (D : List Int) (v : AV) (o : AObj) (k : Int) : xenter Try.prog (EH True [(28, [pAV p], .bool true), (14, [flL p.V], flL p.V), (63, [flLL p.C], flLL p.C)] (hStA 26 1)) (xCodeM Try.prog G0 (EH True [(28, [pAV p], .bool true), (14, [flL p.V], flL p.V), (63, [flLL p.C], flLL p.C)] (hStA 26 1)) (mv31 p.V p.C) 200 (lpB 6 keep31 (st31 p D .zs .resv 0) (.exit 0) (st31 p D v o k))) 31 [pAV p, flL D] [true, true] [.resv] = .need (True) (.need ([(AV.agg [(flL (p.V)), (flLL (p.C)), (flR (p.R))])] = [(AV.agg [(flL (p.V)), (flLL (p.C)), (flR (p.R))])]) (.ite (!true) (.need (((Option.some (3 : Nat)) = (Option.some (3 : Nat))) ∧ ((true = true) ∧ ((0 : Nat) + [AV.zs, AV.zs, AV.zs].length ≤ (AV.agg [AV.zs, AV.zs, AV.zs]).cells.length))) (.leaf ((AV.agg [AV.zs, AV.zs, AV.zs]), true, [AObj.resv, (AObj.cells (0 : Nat) (setL [AV.zs, AV.zs, AV.zs] (0 : Nat) [AV.zs, AV.zs, AV.zs]))]))) (.need ([AObj.resv, (AObj.cells (0 : Nat) [AV.zs, AV.zs, AV.zs])] = [AObj.resv, (AObj.cells (0 : Nat) [AV.zs, AV.zs, AV.zs])]) (.need ([AObj.resv, (AObj.cells (0 : Nat) [AV.zs, AV.zs, AV.zs])] = [AObj.resv, (AObj.cells (0 : Nat) [AV.zs, AV.zs, AV.zs])]) (.need (((AV.row [(flL (p.V)), (flLL (p.C)), (flR (p.R))] (0 : Nat)) = (AV.row [(flL (p.V)), (flLL (p.C)), (flR (p.R))] (0 : Nat))) ∧ ([AObj.resv, (AObj.cells (0 : Nat) [AV.zs, AV.zs, AV.zs]), (AObj.cells (0 : Nat) [AV.zs, AV.zs, AV.zs])] = [AObj.resv, (AObj.cells (0 : Nat) [AV.zs, AV.zs, AV.zs]), (AObj.cells (0 : Nat) [AV.zs, AV.zs, AV.zs])])) (.need ([AObj.resv, (AObj.cells (0 : Nat) [AV.zs, AV.zs, AV.zs])] = [AObj.resv, (AObj.cells (0 : Nat) [AV.zs, AV.zs, AV.zs])]) (.need (((flL (p.V)) = (flL (p.V))) ∧ ([AObj.resv, (AObj.cells (0 : Nat) [AV.zs, AV.zs, AV.zs]), (AObj.cells (0 : Nat) [AV.zs, AV.zs, AV.zs])] = [AObj.resv, (AObj.cells (0 : Nat) [AV.zs, AV.zs, AV.zs]), (AObj.cells (0 : Nat) [AV.zs, AV.zs, AV.zs])])) (.need (True) (.need ([(flL (p.V))] = [(flL (p.V))]) (.need ([AObj.resv, (AObj.cells (0 : Nat) [AV.zs, AV.zs, AV.zs])] = [AObj.resv, (AObj.cells (0 : Nat) [AV.zs, AV.zs, AV.zs])]) (.need (True) (.need ([(flL (p.V))] = [(flL (p.V))]) (.need (((flL (p.V)) = (flL (p.V))) ∧ ([AObj.resv, (AObj.cells (0 : Nat) [AV.zs, AV.zs, AV.zs]), (AObj.cells (0 : Nat) [AV.zs, AV.zs, AV.zs])] = [AObj.resv, (AObj.cells (0 : Nat) [AV.zs, AV.zs, AV.zs]), (AObj.cells (0 : Nat) [AV.zs, AV.zs, AV.zs])])) (.need ([AObj.resv, (AObj.cells (0 : Nat) [AV.zs, AV.zs, AV.zs])] = [AObj.resv, (AObj.cells (0 : Nat) [AV.zs, AV.zs, AV.zs])]) (.need (((AV.fn (63 : Nat) [] []) = (AV.fn (63 : Nat) [] [])) ∧ ([AObj.resv, (AObj.cells (0 : Nat) [AV.zs, AV.zs, AV.zs]), (AObj.cells (0 : Nat) [AV.zs, AV.zs, AV.zs])] = [AObj.resv, (AObj.cells (0 : Nat) [AV.zs, AV.zs, AV.zs]), (AObj.cells (0 : Nat) [AV.zs, AV.zs, AV.zs])])) (.need ([AObj.resv, (AObj.cells (0 : Nat) [AV.zs, AV.zs, AV.zs])] = [AObj.resv, (AObj.cells (0 : Nat) [AV.zs, AV.zs, AV.zs])]) (.need (((AV.row [(flL (p.V)), (flLL (p.C)), (flR (p.R))] (1 : Nat)) = (AV.row [(flL (p.V)), (flLL (p.C)), (flR (p.R))] (1 : Nat))) ∧ ([AObj.resv, (AObj.cells (0 : Nat) [AV.zs, AV.zs, AV.zs]), (AObj.cells (0 : Nat) [AV.zs, AV.zs, AV.zs])] = [AObj.resv, (AObj.cells (0 : Nat) [AV.zs, AV.zs, AV.zs]), (AObj.cells (0 : Nat) [AV.zs, AV.zs, AV.zs])])) (.need ([AObj.resv, (AObj.cells (0 : Nat) [AV.zs, AV.zs, AV.zs])] = [AObj.resv, (AObj.cells (0 : Nat) [AV.zs, AV.zs, AV.zs])]) (.need (((flLL (p.C)) = (flLL (p.C))) ∧ ([AObj.resv, (AObj.cells (0 : Nat) [AV.zs, AV.zs, AV.zs]), (AObj.cells (0 : Nat) [AV.zs, AV.zs, AV.zs])] = [AObj.resv, (AObj.cells (0 : Nat) [AV.zs, AV.zs, AV.zs]), (AObj.cells (0 : Nat) [AV.zs, AV.zs, AV.zs])])) (.need (True) (.need ([(flLL (p.C))] = [(flLL (p.C))]) (.need ([AObj.resv, (AObj.cells (0 : Nat) [AV.zs, AV.zs, AV.zs])] = [AObj.resv, (AObj.cells (0 : Nat) [AV.zs, AV.zs, AV.zs])]) (.need (True) (.need ([(flLL (p.C))] = [(flLL (p.C))]) (.need (((flLL (p.C)) = (flLL (p.C))) ∧ ([AObj.resv, (AObj.cells (0 : Nat) [AV.zs, AV.zs, AV.zs]), (AObj.cells (0 : Nat) [AV.zs, AV.zs, AV.zs])] = [AObj.resv, (AObj.cells (0 : Nat) [AV.zs, AV.zs, AV.zs]), (AObj.cells (0 : Nat) [AV.zs, AV.zs, AV.zs])])) (.need ([AObj.resv, (AObj.cells (0 : Nat) [AV.zs, AV.zs, AV.zs])] = [AObj.resv, (AObj.cells (0 : Nat) [AV.zs, AV.zs, AV.zs])]) (.need (((AV.agg (setL (setL [AV.zs, AV.zs, AV.zs] (0 : Nat) [(flL (p.V))]) (1 : Nat) [(flLL (p.C))])) = (AV.agg (setL (setL [AV.zs, AV.zs, AV.zs] (0 : Nat) [(flL (p.V))]) (1 : Nat) [(flLL (p.C))]))) ∧ ([AObj.resv, (AObj.cells (0 : Nat) [AV.zs, AV.zs, AV.zs]), (AObj.cells (0 : Nat) [AV.zs, AV.zs, AV.zs])] = [AObj.resv, (AObj.cells (0 : Nat) [AV.zs, AV.zs, AV.zs]), (AObj.cells (0 : Nat) [AV.zs, AV.zs, AV.zs])])) (.need ([AObj.resv, (AObj.cells (0 : Nat) [AV.zs, AV.zs, AV.zs]), (AObj.cells (0 : Nat) [AV.zs, AV.zs, AV.zs])] = [AObj.resv, (AObj.cells (0 : Nat) [AV.zs, AV.zs, AV.zs]), (AObj.cells (0 : Nat) [AV.zs, AV.zs, AV.zs])]) (.need ([AObj.resv, (AObj.cells (0 : Nat) [AV.zs, AV.zs, AV.zs]), (AObj.cells (0 : Nat) (setL [AV.zs, AV.zs, AV.zs] (0 : Nat) [(flL (p.V)), (flLL (p.C)), AV.zs]))] = [AObj.resv, (AObj.cells (0 : Nat) [AV.zs, AV.zs, AV.zs]), (AObj.cells (0 : Nat) [(flL (p.V)), (flLL (p.C)), AV.zs])]) (.need ((st31 p D .zs .resv 0).vals = (st31 p D .zs .resv 0).vals) (.need (((Option.some (3 : Nat)) = (Option.some (3 : Nat))) ∧ ((((List.take Try.prog.types[(26 : Nat)].size (List.drop (0 : Nat) [flL p.V, flLL p.C, v])).all AV.one) = true) ∧ ((0 : Nat) + (List.take Try.prog.types[(26 : Nat)].size (List.drop (0 : Nat) [flL p.V, flLL p.C, v])).length ≤ zPb.length))) (.leaf ((AV.agg [(flL (p.V)), (flLL (p.C)), v]), true, [o, (AObj.cells (0 : Nat) (setL [AV.zs, AV.zs, AV.zs] (0 : Nat) [(flL (p.V)), (flLL (p.C)), v])), (AObj.cells (0 : Nat) [(flL (p.V)), (flLL (p.C)), v])]))))))))))))))))))))))))))))))))) := by kernel_rfl
theorem runG31 (p : Pb) (D : List Int) : xenter Try.prog (EG True [(28, [pAV p], .bool false)]) (xCode Try.prog G0 (EG True [(28, [pAV p], .bool false)]) 200 (lpF 6 keep31 (st31 p D .zs .resv 0))) 31 [pAV p, flL D] [true, true] [] = .need (True) (.need ([(AV.agg [(flL (p.V)), (flLL (p.C)), (flR (p.R))])] = [(AV.agg [(flL (p.V)), (flLL (p.C)), (flR (p.R))])]) (.ite (!false) (.leaf ((AV.agg [AV.zs, AV.zs, AV.zs]), true, [(AObj.cells (0 : Nat) (setL [AV.zs, AV.zs, AV.zs] (0 : Nat) [AV.zs, AV.zs, AV.zs]))])) .fail)) := by kernel_rfl
noncomputable def body32 : Code := (loopsOf (bodyOf Try.prog 32)).headD .skip
theorem loops32 : loopsOf (bodyOf Try.prog 32) = [body32] := by kernel_rfl
def st32 (p : Pb) (D : List Int) (v : AV) (o : AObj) (k : Int) : St := .of 36 [o, .cells 0 zPb, .cells 0 [flL p.V, flLL p.C, v]] [(1, flL D, true), (2, .row (pbC p) 0, true), (4, .ref 1 0 0, true), (5, .ref 2 0 0, true), (18, flR p.R, true), (19, I p.R.length, true), (20, I k, true)]
def keep32 : List Nat := [1, 2, 4, 5, 18, 19, 20]
def E32 (q g : Prop) (D : List Int) (x : Rl) (b : Bool) (v v' : AV) (o o' : AObj) : Env := EH q [(35, [flL D, I x.d], .bool b)] (orH (hApO 24 4 0 (rlC x) v v' o o' g) (hSto 24 2))
theorem run32 (q g : Prop) (p : Pb) (D : List Int) (b : Bool) (v v' : AV) (o o' : AObj) (k : Int) : xBodyT (E32 q g D (p.R.getD k.toNat r0) b v v' o o') 200 noLoops keep32 3 body32 (st32 p D v o k) = .ite (decide (k < (↑p.R.length : Int))) (.need (((0 : Int) ≤ k) ∧ (k < (↑p.R.length : Int))) (.need (q) (.need ([(flL (D)), (I ((p.R.getD k.toNat r0).d))] = [(flL (D)), (I ((p.R.getD k.toNat r0).d))]) (.ite (b) (.need (((Option.some [v, (AV.sl (4 : Nat) [[(I ((p.R.getD k.toNat r0).d)), (flL ((p.R.getD k.toNat r0).v)), (flLL ((p.R.getD k.toNat r0).w)), (I ((p.R.getD k.toNat r0).m))]])]) = (Option.some [v, (AV.sl (4 : Nat) [[(I ((p.R.getD k.toNat r0).d)), (flL ((p.R.getD k.toNat r0).v)), (flLL ((p.R.getD k.toNat r0).w)), (I ((p.R.getD k.toNat r0).m))]])])) ∧ (((Option.some o) = (Option.some o)) ∧ (g))) (.need (((AV.one v') = true) ∧ ((2 : Nat) < (3 : Nat))) (.leaf (Exit.normal, St.of 36 [o', (AObj.cells (0 : Nat) [AV.zs, AV.zs, AV.zs]), (AObj.cells (0 : Nat) (setL [(flL (p.V)), (flLL (p.C)), v] (2 : Nat) [v']))] [(1, (flL (D)), true), (2, (AV.row [(flL (p.V)), (flLL (p.C)), (flR (p.R))] (0 : Nat)), true), (4, (AV.ref (1 : Nat) (0 : Nat) (0 : Nat)), true), (5, (AV.ref (2 : Nat) (0 : Nat) (0 : Nat)), true), (18, (flR (p.R)), true), (19, (I ((↑p.R.length : Int))), true), (20, (I (IntKind.i64.wrap (k + (1 : Int)))), true)])))) (.leaf (Exit.normal, St.of 36 [o, (AObj.cells (0 : Nat) [AV.zs, AV.zs, AV.zs]), (AObj.cells (0 : Nat) [(flL (p.V)), (flLL (p.C)), v])] [(1, (flL (D)), true), (2, (AV.row [(flL (p.V)), (flLL (p.C)), (flR (p.R))] (0 : Nat)), true), (4, (AV.ref (1 : Nat) (0 : Nat) (0 : Nat)), true), (5, (AV.ref (2 : Nat) (0 : Nat) (0 : Nat)), true), (18, (flR (p.R)), true), (19, (I ((↑p.R.length : Int))), true), (20, (I (IntKind.i64.wrap (k + (1 : Int)))), true)])))))) (.leaf ((Exit.exit (0 : Nat)), St.of 36 [o, (AObj.cells (0 : Nat) [AV.zs, AV.zs, AV.zs]), (AObj.cells (0 : Nat) [(flL (p.V)), (flLL (p.C)), v])] [(1, (flL (D)), true), (2, (AV.row [(flL (p.V)), (flLL (p.C)), (flR (p.R))] (0 : Nat)), true), (4, (AV.ref (1 : Nat) (0 : Nat) (0 : Nat)), true), (5, (AV.ref (2 : Nat) (0 : Nat) (0 : Nat)), true), (18, (flR (p.R)), true), (19, (I ((↑p.R.length : Int))), true), (20, (I k), true)])) := by kernel_rfl
theorem runF32 (p : Pb) (D : List Int) (v : AV) (o : AObj) (k : Int) : xenter Try.prog (EH True [(29, [pAV p], .bool true)] (hStA 26 1)) (xCode Try.prog G0 (EH True [(29, [pAV p], .bool true)] (hStA 26 1)) 200 (lpB 5 keep32 (st32 p D .zs .resv 0) (.exit 0) (st32 p D v o k))) 32 [pAV p, flL D] [true, true] [.resv] = .need (True) (.need ([(AV.agg [(flL (p.V)), (flLL (p.C)), (flR (p.R))])] = [(AV.agg [(flL (p.V)), (flLL (p.C)), (flR (p.R))])]) (.ite (!true) (.need (((Option.some (3 : Nat)) = (Option.some (3 : Nat))) ∧ ((true = true) ∧ ((0 : Nat) + [AV.zs, AV.zs, AV.zs].length ≤ (AV.agg [AV.zs, AV.zs, AV.zs]).cells.length))) (.leaf ((AV.agg [AV.zs, AV.zs, AV.zs]), true, [AObj.resv, (AObj.cells (0 : Nat) (setL [AV.zs, AV.zs, AV.zs] (0 : Nat) [AV.zs, AV.zs, AV.zs]))]))) (.need ((st32 p D .zs .resv 0).vals = (st32 p D .zs .resv 0).vals) (.need (((Option.some (3 : Nat)) = (Option.some (3 : Nat))) ∧ ((((List.take Try.prog.types[(26 : Nat)].size (List.drop (0 : Nat) [flL p.V, flLL p.C, v])).all AV.one) = true) ∧ ((0 : Nat) + (List.take Try.prog.types[(26 : Nat)].size (List.drop (0 : Nat) [flL p.V, flLL p.C, v])).length ≤ zPb.length))) (.leaf ((AV.agg [(flL (p.V)), (flLL (p.C)), v]), true, [o, (AObj.cells (0 : Nat) (setL [AV.zs, AV.zs, AV.zs] (0 : Nat) [(flL (p.V)), (flLL (p.C)), v])), (AObj.cells (0 : Nat) [(flL (p.V)), (flLL (p.C)), v])])))))) := by kernel_rfl
theorem runG32 (p : Pb) (D : List Int) : xenter Try.prog (EG True [(29, [pAV p], .bool false)]) (xCode Try.prog G0 (EG True [(29, [pAV p], .bool false)]) 200 (lpF 5 keep32 (st32 p D .zs .resv 0))) 32 [pAV p, flL D] [true, true] [.resv] = .need (True) (.need ([(AV.agg [(flL (p.V)), (flLL (p.C)), (flR (p.R))])] = [(AV.agg [(flL (p.V)), (flLL (p.C)), (flR (p.R))])]) (.ite (!false) (.leaf ((AV.agg [AV.zs, AV.zs, AV.zs]), true, [AObj.resv, (AObj.cells (0 : Nat) (setL [AV.zs, AV.zs, AV.zs] (0 : Nat) [AV.zs, AV.zs, AV.zs]))])) (.need ((st32 p D .zs .resv 0).vals = (st32 p D .zs .resv 0).vals) .fail))) := by kernel_rfl
end Go.Proofs.Ytngaihdpmoajeaa.Am

