/-
  This file proves nothing of a law. It holds lemmas, of 13 texts in their order. No condition of its own.
-/
import Derived.Test.YtngaihdpmoajeaaMg8
namespace Go.Proofs.Ytngaihdpmoajeaa.Am
open Go
set_option maxRecDepth 100000

/-! ### The user that keeps the best -/
def bV : Option (List Int) → AV
  | none => .zs
  | some a => flL a
def lsV (p : Pb) : Option (List Int) → Int
  | none => 24000001
  | some a => costA p a
def eV : Option (List Int) → Int
  | none => 7
  | some _ => 0
noncomputable def lp42 (s : LoopState) : ALoop := { loop0 (st42g []).a #[31, 32] as42 bd42 6 with state := s }
noncomputable def Z42 (p : Pb) (ls : LoopState) (s : Option (List Int)) : Heap := [.cells 0 [bV s], .cells 0 [I (lsV p s)], .cells 0 [I (eV s)], .dfr, .loop (lp42 ls)]
noncomputable def K42 (p : Pb) : Cns (Option (List Int)) where
  most := lsV p
  yst _ a := some a
  more _ _ := true
  Z s := Z42 p .ready s ++ vars69 7 8 F66 []
  inv _ := True
theorem run66 (x0 x1 x2 x3 : AObj) (c : Int) (W : Heap) : xCall Try.prog G0 {} 200 66 [.ref 4 0 0] [true] (x0 :: x1 :: x2 :: x3 :: .cells 0 [I c] :: W) = .leaf ((I c), true, (x0 :: (x1 :: (x2 :: (x3 :: ((AObj.cells (0 : Nat) [(I c)]) :: W)))))) := by kernel_rfl
theorem putA42 (v : AV) (c : Int) : putPs [31, 32] [v, I c] (st42g []).a = (st42s v c []).a := by kernel_rfl
theorem yield42 (p : Pb) (a t : List Int) (s : Option (List Int)) : AYield Try.prog G0 7 [flL a, I (costA p a)] (SH p a t ((K42 p).Z s)) (.bool true) (SH p a t ((K42 p).Z (some a))) := by
  refine AYield.of_round (P := Try.prog) (G := G0) (l := 7) (A := lp42 .ready) (args := [flL a, I (costA p a)]) (σ := SH p a t ((K42 p).Z s)) (σ1 := SH p a t ((K42 p).Z s)) (σ3 := SH p a t (Z42 p .busy (some a) ++ vars69 7 8 F66 []))
    (a1 := (st42t (flL a) (costA p a) []).a) (a3 := (St.of 40 [] []).a) (e := .normal) (j := none) rfl rfl rfl ?_ rfl ?_ rfl rfl
  · show AExec Try.prog G0 _ as42 { tmps := putPs [31, 32] [flL a, I (costA p a)] (st42g []).a } _ .normal _ _
    rw [putA42]
    exact rnd (n := 200) (keep := [10, 11, 12, 13, 14]) (s := st42s (flL a) (costA p a) (SH p a t ((K42 p).Z s))) (t := st42t (flL a) (costA p a) (SH p a t ((K42 p).Z s))) clok0 (lpNo _) (congrArg Tree.sel (run42s (flL a) (costA p a) _)) rfl
  · exact rnd (n := 200) (keep := []) (s := st42t (flL a) (costA p a) (SH p a t (Z42 p .busy s ++ vars69 7 8 F66 []))) (t := St.of 40 (SH p a t (Z42 p .busy (some a) ++ vars69 7 8 F66 [])) []) clok0 (lpNo _) (congrArg Tree.sel (run42t _ _ _ _ _ _ _ _ _ _)) rfl
theorem usr42 (p : Pb) : Usr p (K42 p) 7 8 10 9 F66 66 [] [.ref 4 0 0] where
  fn := rfl
  yld a t s _ _ _ _ := yield42 p a t s
  inv _ _ _ _ _ _ := trivial
  most _ _ _ _ _ := ACall.saysC (tags := [true]) clok0 (run66 _ _ _ _ _ _) says_leaf
  ht _ _ _ := ⟨8, 0, 0, _, rfl, rfl, rfl⟩
  hw _ _ _ := ⟨10, 0, 0, _, rfl, rfl, rfl⟩
  hu _ _ _ := ⟨9, 0, 0, _, rfl, rfl, rfl⟩
/-- What cheapest finds. -/
noncomputable def bestW (p : Pb) (a : List Int) : Option (List Int) := (runW p (K42 p) a none).2
def resC (p : Pb) : Option (List Int) → AV
  | none => .tup [flL [], I 0, I 7]
  | some a => .tup [flL a, I (costA p a), I 0]
theorem beg_take {p : Pb} {a : List Int} (ha : Beg p a) (k : Nat) : Beg p (a.take k) := by
  have := ha.len
  refine ⟨by rw [List.length_take]; omega, fun i hi => ?_⟩
  rw [List.length_take] at hi
  have h := ha.at' i (by omega)
  rw [List.getD_eq_getElem?_getD, List.getElem?_take, if_pos (by omega), ← List.getD_eq_getElem?_getD]
  exact h
theorem take_succD {a : List Int} {k : Nat} (hk : k < a.length) : a.take (k + 1) = a.take k ++ [a.getD k 0] := by
  rw [List.take_succ_eq_append_getElem hk, List.getD_eq_getElem?_getD, List.getElem?_eq_getElem hk]
  rfl
theorem loop42 {p : Pb} (hp : Ok p) {a : List Int} (ha : Beg p a) : LoopA body42 a.length (fun k => st42l a k (SH p (a.take k) [] [])) (fun k => st42l a k (SH p (a.take k) [] [])) (st42l a a.length (SH p a [] [])) .ret (.exit 0) fun _ => false where
  n0 _ := rfl
  nR _ := rfl
  nX := rfl
  neR := nofun
  neX := nofun
  st _ _ _ h := by cases h
  en _ := by
    rw [List.take_length]
    refine rnd (n := 200) (keep := [7, 17, 18, 19]) (E := E42l False (a.getD (a.length : Int).toNat 0) (SH p a [] []) (SH p a [] []) true) (.all .none (clhq_ok nofun) (fun l xs σ t v σ' h => (by cases h)) (fun f xs t v h => (by cases h))) (lpNo _) ((congrArg Tree.sel (run42l False a a.length _ _ true)).trans ?_) rfl
    rw [selIf (dF (by omega))]
    rfl
  go k hlt _ _ := by
    have hl := ha.len
    have hb := beg_take ha k
    have hlk : (a.take k).length = k := by rw [List.length_take]; omega
    have hat := ha.at' k hlt
    have h65 := s65 (t := []) hp hb (by omega) (x := a.getD k 0) hat.1 (by rw [hlk]; exact hat.2) (by unfold Small; simp; omega) []
    rw [← take_succD hlt] at h65
    generalize putOk (nextU p (a.take k)) (a.getD k 0) (leftA p (a.take k)) (nextU p (a.take k)).length = ok at h65
    refine rnd (n := 200) (keep := [7, 17, 18, 19]) (E := E42l True (a.getD (k : Int).toNat 0) (SH p (a.take k) [] []) (SH p (a.take (k + 1)) [] []) ok) (.all .none (clhq_ok fun _ x hx => ?_) (fun l xs σ t v σ' h => (by cases h)) (fun f xs t v h => (by cases h))) (lpNo _) ((congrArg Tree.sel (run42l True a k _ _ ok)).trans ?_) rfl
    · obtain rfl := List.mem_singleton.1 hx
      exact h65
    · rw [wrapS hlt (beg_sh hp ha)]
      exact (selIt (dT (by omega))).trans (t_need ⟨by omega, by omega⟩ (t_need trivial (t_need ⟨rfl, rfl⟩ rfl)))
theorem cl42e_ok {f : FuncId} {xs : List AV} {t : Tree AV} {v : AV} (h : E42e.cl f xs = some t) (hs : t.sel = some v) (σ : Heap) : ACall Try.prog G0 f xs σ v σ := by
  unfold E42e at h
  simp only at h
  split at h <;> first | (cases h; done) | skip
  · cases h; cases hs; exact c48 σ
  · cases h; cases hs; exact c47 _ _ _ _ σ
theorem clok42e : ClOk Try.prog G0 E42e := .of rfl rfl fun f xs t v h hs σ => cl42e_ok h hs σ
theorem start_SH {p : Pb} (hp : Ok p) : sH p .zs .resv 0 (lV (lfK p p.R.length)) (lO (lfK p p.R.length)) (uA p p.R.length) (rsK p p.V.length) = SH p [] [] [] := by
  rw [left_start hp]
  rfl
theorem evF42 : ev G0 (st42g []).a (.tmp 30) = some (S69 F66) := by kernel_rfl
theorem rndM {R : Option Nat → Prop} {m : List Nat} {E : Env} {lp : Loops} {body : Code} {n : Nat} {keep : List Nat} {s t st' : St} {e : Exit} (hcl : ClOk Try.prog G0 E) (hlp : LoopsOk Try.prog G0 R m lp body)
    (h : (xBody Try.prog G0 E n lp keep body s).sel = some (e, st')) (hv : st'.vals = t.vals) : AExec Try.prog G0 R body { tmps := s.a, marks := m } s.h e { tmps := t.a, marks := m } t.h := by
  have key := (xBody_ok (m := m) names mixed hcl hlp h).1
  rw [(vals_eq hv).1, (vals_eq hv).2] at key
  exact key
/-- The end's frame. -/
def st42y (p : Pb) (s : Option (List Int)) : St := match s with
  | none => st42x .zs (I 7) (I 0) []
  | some b => st42x (flL b) (I 0) (I (costA p b)) []
theorem res42 (b e c : AV) (σ : Heap) : aResults Try.prog σ (st42x b e c []).a [.tmp 4, .tmp 5, .tmp 6] = some [b, c, e] := by kernel_rfl
theorem vals42x (b e c : AV) (h : Heap) : (St.of 40 h [(4, b, true), (5, c, true), (6, e, false)]).vals = (st42x b e c h).vals := by kernel_rfl
theorem vals42z (b e c : AV) (h : Heap) : (St.of 40 h [(4, b, false), (5, c, false), (6, e, true)]).vals = (st42x b e c h).vals := by kernel_rfl
/-- The whole of cheapest's code. -/
theorem exec42 {p : Pb} (hs : p.sh) (hp : Ok p) {a : List Int} (ha : Beg p a) : ∃ t', AExec Try.prog G0 (fun r => r = none) (bodyOf Try.prog 42) { tmps := (st42a p (flL a) []).a } [] .ret
    { tmps := (st42y p (bestW p a)).a, marks := [6] } (SH p a t' (Z42 p .exhausted (bestW p a) ++ vars69 7 8 F66 [])) := by
  have x0 := rnd (R := fun r => r = none) (n := 200) (keep := [1, 2]) (s := st42a p (flL a) []) (t := st42b p (flL a) []) clok0 (lpNo _) (congrArg Tree.sel (run42a p (flL a) [])) rfl
  have x1 := rnd (R := fun r => r = none) (n := 200) (keep := [1, 7]) (s := st42b p (flL a) []) (t := st42c (flL a) (SH p [] [] [])) (E := E42b p [] (SH p [] [] [])) (.all .none (clhs_ok fun x hx => (by
    obtain rfl := List.mem_singleton.1 hx
    exact start_SH hp ▸ c46 hs hp)) (fun l xs σ t v σ' h => (by cases h)) (fun f xs t v h => (by cases h))) (lpNo _) ((congrArg Tree.sel (run42b p (flL a) _ _)).trans (t_need ⟨rfl, rfl⟩ rfl)) rfl
  have x2 := rnd (n := 200) (keep := [7]) (s := st42c (flL a) (SH p [] [] [])) (t := st42d (SH p a [] [])) clok0 ((loop42 hp ha).okB (fun _ _ => rfl) (c := c42 2) (i := 3) (keep := [7, 17, 18, 19]) (one_loop loops42)) ((congrArg Tree.sel (run42c a a.length _ _)).trans (t_need rfl rfl)) rfl
  have x3 := rnd (R := fun r => r = none) (n := 200) (keep := [7, 10]) (s := st42d (SH p a [] [])) (t := st42e (SH p a [] [.cells 0 [.zs]])) clok0 (lpNo _) (congrArg Tree.sel (run42d _ _ _)) rfl
  have x4 := rnd (R := fun r => r = none) (n := 200) (keep := [7, 10, 11, 12]) (s := st42e (SH p a [] [.cells 0 [.zs]])) (t := st42f (SH p a [] [.cells 0 [.zs], .cells 0 [I 24000001], .cells 0 [I 7]])) clok42e (lpNo _) (congrArg Tree.sel (run42e _ _ _ _)) rfl
  have x5 := rnd (R := fun r => r = none) (n := 200) (keep := [10, 11, 12, 30]) (s := st42f (SH p a [] [.cells 0 [.zs], .cells 0 [I 24000001], .cells 0 [I 7]])) (t := st42g (SH p a [] [.cells 0 [.zs], .cells 0 [I 24000001], .cells 0 [I 7]])) clok42e (lpNo _) (congrArg Tree.sel (run42f _)) rfl
  have hsm : Small p a [] := by have := ha.len; unfold Small; simpa using this
  obtain ⟨t', h1, _, h3⟩ := c69 hp ha hsm (K := K42 p) (Zc := fun s => Z42 p .ready s) (l := 7) (n := 8) (usr42 p) (fun _ => rfl) (s := none) trivial rfl
  have hrf : AExec Try.prog G0 (fun r => r = none) (.rangeFunc (.tmp 30) #[31, 32] as42 bd42) { tmps := (st42g []).a } (SH p a [] [.cells 0 [.zs], .cells 0 [I 24000001], .cells 0 [I 7]]) .normal { tmps := (st42g []).a, marks := [6] } (SH p a t' (Z42 p .exhausted (bestW p a) ++ vars69 7 8 F66 [])) := by
    exact AExec.rangeFunc (m := []) (v := .tup []) (A' := lp42 .ready) evF42 (first := []) (σ2 := SH p a t' ((K42 p).Z (bestW p a))) h3 rfl nofun (fun _ => ⟨rfl, rfl, rfl⟩) (fun c h => by cases h)
  refine ⟨t', ?_⟩
  rw [code42]
  refine .seq x0 (.seq x1 (.seq x2 (.seq x3 (.seq x4 (.seq (.seq x5 (AExec.block_to (id := 2) hrf rfl)) ?_)))))
  have key := run42x (.cells 0 (sC p (aV a t') (costA p a) (lV (leftA p a)) (uA p p.R.length) (rsK p p.V.length))) (lO (leftA p a)) (aO a t')
  cases hb : bestW p a with
  | none => exact rndM (m := [6]) (s := st42g (SH p a t' (Z42 p .exhausted none ++ vars69 7 8 F66 []))) (t := st42x .zs (I 7) (I 0) (SH p a t' (Z42 p .exhausted none ++ vars69 7 8 F66 []))) clok0 (lpNo (c42 6)) (congrArg Tree.sel (key .zs 24000001 7 _)) (vals42z _ _ _ _)
  | some b => exact rndM (m := [6]) (s := st42g (SH p a t' (Z42 p .exhausted (some b) ++ vars69 7 8 F66 []))) (t := st42x (flL b) (I 0) (I (costA p b)) (SH p a t' (Z42 p .exhausted (some b) ++ vars69 7 8 F66 []))) clok0 (lpNo (c42 6)) (congrArg Tree.sel (key (flL b) (costA p b) 0 _)) (vals42x _ _ _ _)
theorem re_tup3 {π : Nat → Option Nat} {σ : Heap} {a b c a' b' c' : AV} (ha : Re G0 π σ a a') (hb : Re G0 π σ b b') (hc : Re G0 π σ c c') : Re G0 π σ (.tup [a, b, c]) (.tup [a', b', c']) := Re.tup rfl fun j y hj => by
  match j, hj with
  | 0, hj => cases hj; exact ⟨_, rfl, ha⟩
  | 1, hj => cases hj; exact ⟨_, rfl, hb⟩
  | 2, hj => cases hj; exact ⟨_, rfl, hc⟩
  | j + 3, hj => simp at hj
theorem below_tup3 {n : Nat} {a b c : AV} (ha : Below n a) (hb : Below n b) (hc : Below n c) : Below n (.tup [a, b, c]) := .tup _ fun j x hx => by
  match j, hx with
  | 0, hx => cases hx; exact ha
  | 1, hx => cases hx; exact hb
  | 2, hx => cases hx; exact hc
  | j + 3, hx => simp at hx
theorem below_resC (p : Pb) (s : Option (List Int)) : Below 0 (resC p s) := by
  cases s with
  | none => exact below_tup3 (below_flL _) (.int _ _) (.int _ _)
  | some a => exact below_tup3 (below_flL _) (.int _ _) (.int _ _)
/-- A function's facts. -/
theorem fnFact {f : FuncId} {rs : List ResultVar} {n : Nat} (h : (Try.prog.funcs[f]?).map (fun fn => (fn.results.toList, fn.ntmps)) = some (rs, n)) {fn : Func} (hf : Try.prog.funcs[f]? = some fn) : fn.results.toList = rs ∧ fn.ntmps = n := by
  rw [hf] at h
  have := Option.some.inj h
  exact Prod.mk.inj this
/-- Parameters, and nothing else. -/
theorem le_args {xs a : List AV} {n k : Nat} (hn : n - xs.length = k) (e : a = xs ++ List.replicate k .junk) : Le (xs ++ List.replicate (n - xs.length) (.tup [])) a := by
  rw [hn, e]
  refine ⟨by simp, fun j y hj => ?_⟩
  by_cases h : j < xs.length
  · rw [List.getElem?_append_left h] at hj ⊢
    exact .inr hj
  · rw [List.getElem?_append_right (by omega)] at hj
    exact .inl (List.eq_of_mem_replicate (List.mem_of_getElem? hj))
/-- WHAT cheapest RETURNS. -/
theorem c42r {p : Pb} (hs : p.sh) (hp : Ok p) {a : List Int} (ha : Beg p a) (h : Heap) : ACall Try.prog G0 42 [pAV p, flL a] h (resC p (bestW p a)) h := by
  obtain ⟨fn, c, k1, k2, k3⟩ := fnOf (f := 42) (by kernel_rfl)
  obtain ⟨t', hall⟩ := exec42 hs hp ha
  rw [k3] at hall
  obtain ⟨hres, hnt⟩ := fnFact (f := 42) (rs := [.tmp 4, .tmp 5, .tmp 6]) (n := 40) (by kernel_rfl) k1
  have hle : Le ([pAV p, flL a] ++ List.replicate (fn.ntmps - [pAV p, flL a].length) (.tup [])) (st42a p (flL a) []).a := le_args (k := 38) (by rw [hnt]; rfl) (by kernel_rfl)
  cases hb : bestW p a with
  | none =>
    rw [hb] at hall
    have key := ACall.of_body_marks (args := [pAV p, flL a]) (xs := [.zs, I 0, I 7]) k1 k2 (names 42 fn k1) (.weak hle hall) (.inr rfl) (by simp) (fun r hr => by rw [List.mem_singleton.1 hr]; rfl) (by rw [hres]; exact res42 _ _ _ _)
    exact ACall.out (k := 0) key (re_tup3 re_zs re_int re_int) (below_resC p none) below_args2 h
  | some b =>
    rw [hb] at hall
    have key := ACall.of_body_marks (args := [pAV p, flL a]) (xs := [flL b, I (costA p b), I 0]) k1 k2 (names 42 fn k1) (.weak hle hall) (.inr rfl) (by simp) (fun r hr => by rw [List.mem_singleton.1 hr]; rfl) (by rw [hres]; exact res42 _ _ _ _)
    exact ACall.out (k := 0) key (re_tup3 (Re.flat (below_flL _)) re_int re_int) (below_resC p (some b)) below_args2 h
end Go.Proofs.Ytngaihdpmoajeaa.Am

namespace Go.Proofs.Ytngaihdpmoajeaa.Am
open Go
set_option maxRecDepth 100000

theorem run21 (q : Prop) (p : Pb) (b : Bool) (v : AV) (c e : Int) (h : Heap) : xCall Try.prog G0 (EG q [(28, [pAV p], .bool b), (42, [pAV p, .zs], .tup [v, I c, I e])]) 200 21 [pAV p] [true] h = .need (q) (.need ([(AV.agg [(flL (p.V)), (flLL (p.C)), (flR (p.R))])] = [(AV.agg [(flL (p.V)), (flLL (p.C)), (flR (p.R))])]) (.ite (!b) (.leaf ((AV.tup [AV.zs, (I ((0 : Int))), (I ((1 : Int)))]), false, h)) (.need (q) (.need ([(AV.agg [(flL (p.V)), (flLL (p.C)), (flR (p.R))]), AV.zs] = [(AV.agg [(flL (p.V)), (flLL (p.C)), (flR (p.R))]), AV.zs]) (.leaf ((AV.tup [v, (I c), (I e)]), true, h)))))) := by kernel_rfl
theorem run13 (q : Prop) (p : Pb) (a : List Int) (b d : Bool) (v : AV) (c e : Int) (h : Heap) : xCall Try.prog G0 (EG q [(28, [pAV p], .bool b), (41, [pAV p, flL a], .bool d), (42, [pAV p, flL a], .tup [v, I c, I e])]) 200 13 [pAV p, flL a] [true, true] h = .need (q) (.need ([(AV.agg [(flL (p.V)), (flLL (p.C)), (flR (p.R))])] = [(AV.agg [(flL (p.V)), (flLL (p.C)), (flR (p.R))])]) (.ite (!b) (.leaf ((AV.tup [(I ((0 : Int))), (I ((1 : Int)))]), false, h)) (.need (q) (.need ([(AV.agg [(flL (p.V)), (flLL (p.C)), (flR (p.R))]), (flL (a))] = [(AV.agg [(flL (p.V)), (flLL (p.C)), (flR (p.R))]), (flL (a))]) (.ite (!d) (.leaf ((AV.tup [(I ((0 : Int))), (I ((2 : Int)))]), false, h)) (.need (q) (.need ([(AV.agg [(flL (p.V)), (flLL (p.C)), (flR (p.R))]), (flL (a))] = [(AV.agg [(flL (p.V)), (flLL (p.C)), (flR (p.R))]), (flL (a))]) (.leaf ((AV.tup [(I c), (I e)]), true, h))))))))) := by kernel_rfl
theorem run21n (p : Pb) (h : Heap) : xCall Try.prog G0 (EG True [(28, [pAV p], .bool false)]) 200 21 [pAV p] [true] h = .need (True) (.need ([(AV.agg [(flL (p.V)), (flLL (p.C)), (flR (p.R))])] = [(AV.agg [(flL (p.V)), (flLL (p.C)), (flR (p.R))])]) (.ite (!false) (.leaf ((AV.tup [AV.zs, (I ((0 : Int))), (I ((1 : Int)))]), false, h)) .fail)) := by kernel_rfl
theorem run13n (p : Pb) (a : List Int) (h : Heap) : xCall Try.prog G0 (EG True [(28, [pAV p], .bool false)]) 200 13 [pAV p, flL a] [true, true] h = .need (True) (.need ([(AV.agg [(flL (p.V)), (flLL (p.C)), (flR (p.R))])] = [(AV.agg [(flL (p.V)), (flLL (p.C)), (flR (p.R))])]) (.ite (!false) (.leaf ((AV.tup [(I ((0 : Int))), (I ((1 : Int)))]), false, h)) .fail)) := by kernel_rfl
theorem run13m (p : Pb) (a : List Int) (h : Heap) : xCall Try.prog G0 (EG True [(28, [pAV p], .bool true), (41, [pAV p, flL a], .bool false)]) 200 13 [pAV p, flL a] [true, true] h = .need (True) (.need ([(AV.agg [(flL (p.V)), (flLL (p.C)), (flR (p.R))])] = [(AV.agg [(flL (p.V)), (flLL (p.C)), (flR (p.R))])]) (.ite (!true) (.leaf ((AV.tup [(I ((0 : Int))), (I ((1 : Int)))]), false, h)) (.need (True) (.need ([(AV.agg [(flL (p.V)), (flLL (p.C)), (flR (p.R))]), (flL (a))] = [(AV.agg [(flL (p.V)), (flLL (p.C)), (flR (p.R))]), (flL (a))]) (.ite (!false) (.leaf ((AV.tup [(I ((0 : Int))), (I ((2 : Int)))]), false, h)) .fail))))) := by kernel_rfl
theorem sub_refl (x : AV) : Sub x x := fun _ _ _ h => h
theorem sub_tup {xs ys : List AV} (hl : ys.length = xs.length) (h : ∀ (j : Nat) (y : AV), ys[j]? = some y → ∃ x, xs[j]? = some x ∧ Sub x y) : Sub (.tup xs) (.tup ys) := fun w M u hu => by
  cases hu with
  | tup vs _ h1 h2 => exact .tup vs ys (by omega) fun j y hj => (by
      obtain ⟨x, e1, e2⟩ := h j y hj
      exact e2 _ _ _ (h2 j x e1))
theorem sub_zsL : Sub .zs (flL []) := fun _ _ _ hv => by cases hv; exact .fl _ _ _ _ (.sl0 _ _ _)
theorem sub_tup3 {a a' : AV} (h : Sub a a') (b c : AV) : Sub (.tup [a, b, c]) (.tup [a', b, c]) := sub_tup rfl fun j y hj => by
  match j, hj with
  | 0, hj => cases hj; exact ⟨_, rfl, h⟩
  | 1, hj => exact ⟨_, hj, sub_refl _⟩
  | 2, hj => exact ⟨_, hj, sub_refl _⟩
  | j + 3, hj => simp at hj
theorem clokG2 {q : Prop} {f g : FuncId} {xs ys : List AV} {v u : AV} (h1 : ∀ σ, ACall Try.prog G0 f xs σ v σ) (h2 : ∀ σ, ACall Try.prog G0 g ys σ u σ) : ClOk Try.prog G0 (EG q [(f, xs, v), (g, ys, u)]) := clokG fun _ p hp σ => by
  simp only [List.mem_cons, List.not_mem_nil, or_false] at hp
  rcases hp with rfl | rfl
  · exact h1 σ
  · exact h2 σ
theorem clokG3 {q : Prop} {f g k : FuncId} {xs ys zs : List AV} {v u t : AV} (h1 : ∀ σ, ACall Try.prog G0 f xs σ v σ) (h2 : ∀ σ, ACall Try.prog G0 g ys σ u σ) (h3 : ∀ σ, ACall Try.prog G0 k zs σ t σ) : ClOk Try.prog G0 (EG q [(f, xs, v), (g, ys, u), (k, zs, t)]) := clokG fun _ p hp σ => by
  simp only [List.mem_cons, List.not_mem_nil, or_false] at hp
  rcases hp with rfl | rfl | rfl
  · exact h1 σ
  · exact h2 σ
  · exact h3 σ
def solveR (p : Pb) (s : Option (List Int)) : AV := bif validP p then resC p s else .tup [flL [], I 0, I 1]
def resL (p : Pb) : Option (List Int) → AV
  | none => .tup [I 0, I 7]
  | some a => .tup [I (costA p a), I 0]
def leastR (p : Pb) (a : List Int) (s : Option (List Int)) : AV := bif validP p then (bif begB p a then resL p s else .tup [I 0, I 2]) else .tup [I 0, I 1]
/-- WHAT Solve RETURNS. -/
theorem c21 {p : Pb} (hs : p.sh) (h : Heap) : ACall Try.prog G0 21 [pAV p] h (solveR p (bestW p [])) h := by
  unfold solveR
  cases hv : validP p with
  | false => exact (ACall.saysC (clokG1 fun _ => hv ▸ c28 hs) (run21n p h) (says_need trivial (says_need rfl (says_ite (fun _ => says_leaf) fun h => (by cases h))))).conv (sub_tup3 sub_zsL _ _)
  | true =>
    have hp := valid_iff.1 hv
    have h42 : ∀ σ, ACall Try.prog G0 42 [pAV p, .zs] σ (resC p (bestW p [])) σ := fun σ => (c42r hs hp (beg_nil p) σ).arg2 (sub_refl _) sub_zsL
    rw [cond_true]
    cases hb : bestW p [] with
    | none => exact ACall.saysC (clokG2 (hv ▸ c28 hs) (by rw [hb] at h42; exact h42)) (run21 True p true _ _ _ h) (says_need trivial (says_need rfl (says_ite (fun h => (by cases h)) fun _ => says_need trivial (says_need rfl says_leaf))))
    | some b => exact ACall.saysC (clokG2 (hv ▸ c28 hs) (by rw [hb] at h42; exact h42)) (run21 True p true _ _ _ h) (says_need trivial (says_need rfl (says_ite (fun h => (by cases h)) fun _ => says_need trivial (says_need rfl says_leaf))))
/-- WHAT Least RETURNS. -/
theorem c13 {p : Pb} (hs : p.sh) {a : List Int} (ha : sh a) (h : Heap) : ACall Try.prog G0 13 [pAV p, flL a] h (leastR p a (bestW p a)) h := by
  unfold leastR
  cases hv : validP p with
  | false => exact ACall.saysC (clokG1 fun _ => hv ▸ c28 hs) (run13n p a h) (says_need trivial (says_need rfl (says_ite (fun _ => says_leaf) fun h => (by cases h))))
  | true =>
    have hp := valid_iff.1 hv
    cases hb : begB p a with
    | false => exact ACall.saysC (clokG2 (hv ▸ c28 hs) (hb ▸ c41 hp ha)) (run13m p a h) (says_need trivial (says_need rfl (says_ite (fun h => (by cases h)) fun _ => says_need trivial (says_need rfl (says_ite (fun _ => says_leaf) fun h => by cases h)))))
    | true =>
      have h42 := c42r hs hp (beg_iff.1 hb)
      rw [cond_true, cond_true]
      cases hc : bestW p a with
      | none => exact ACall.saysC (clokG3 (hv ▸ c28 hs) (hb ▸ c41 hp ha) (by rw [hc] at h42; exact h42)) (run13 True p a true true _ _ _ h) (says_need trivial (says_need rfl (says_ite (fun h => (by cases h)) fun _ => says_need trivial (says_need rfl (says_ite (fun h => (by cases h)) fun _ => says_need trivial (says_need rfl says_leaf))))))
      | some b => exact ACall.saysC (clokG3 (hv ▸ c28 hs) (hb ▸ c41 hp ha) (by rw [hc] at h42; exact h42)) (run13 True p a true true _ _ _ h) (says_need trivial (says_need rfl (says_ite (fun h => (by cases h)) fun _ => says_need trivial (says_need rfl (says_ite (fun h => (by cases h)) fun _ => says_need trivial (says_need rfl says_leaf))))))
end Go.Proofs.Ytngaihdpmoajeaa.Am

namespace Go.Proofs.Ytngaihdpmoajeaa.Am
open Go
set_option maxRecDepth 100000

/-! ### A new state beside others -/
theorem Inv.unroom {w : World} {M : Map} : ∀ {k : Nat}, Inv G0 w M (List.replicate k .resv) → Inv G0 w M []
  | k, hi => by
    have hn : ∀ r, M r = none := fun r => by
      cases hm : M r with
      | none => rfl
      | some p =>
        have h := hi.dom r p hm
        rw [List.length_replicate] at h
        have := hi.resv r (by rw [List.getElem?_replicate, if_pos h])
        rw [hm] at this
        exact this
    exact .of hi.glob hi.inj (fun r p h => by rw [hn r] at h; cases h) hi.lt hi.far fun r o h => by simp at h
theorem ACall.unroom {f : FuncId} {args : List AV} {v : AV} {σ1 : Heap} (k : Nat) (h : ACall Try.prog G0 f args [] v σ1) : ACall Try.prog G0 f args (List.replicate k .resv) v σ1 :=
  ⟨h.1, fun w M vs hi hvs => h.2 w M vs hi.unroom hvs⟩
theorem n46 {p : Pb} (hs : p.sh) (hp : Ok p) (Z : Heap) : ACall Try.prog G0 46 [pAV p] (.resv :: .resv :: .resv :: Z) SR (SH p [] [] Z) := by
  have h := (start_SH hp ▸ c46 hs hp).unroom 3
  exact h.beside rfl gbelow0 (fun x hx => by rw [List.mem_singleton.1 hx]; exact (below_pAV p).up) (fun o ho => by rw [List.eq_of_mem_replicate ho]; trivial) Z
noncomputable def b22 : Code := bodyOf Try.prog 22
noncomputable def t22 : Code := sndS (sndS b22)
noncomputable def c22c (i : Nat) : Code := match i with
  | 0 => fstS b22
  | 1 => fstS (sndS b22)
  | 2 => fstS (fstS t22)
  | _ => sndS t22
noncomputable def as22 : Code := rfA (sndS (fstS t22))
noncomputable def bd22 : Code := rfB (sndS (fstS t22))
theorem code22 : bodyOf Try.prog 22 = .seq (c22c 0) (.seq (c22c 1) (.seq (.seq (c22c 2) (.block 0 (.rangeFunc (.tmp 10) #[11, 12] as22 bd22))) (c22c 3))) := by kernel_rfl
def F48 : AV := .fn 48 [] []
def st22a (p : Pb) (h : Heap) : St := .of 14 h [(0, pAV p, true)]
def st22b (p : Pb) (h : Heap) : St := .of 14 h [(1, .row (pbC p) 0, true), (2, .ref 3 0 0, true), (3, .ref 4 0 0, true)]
def st22c (h : Heap) : St := .of 14 h [(2, .ref 3 0 0, true), (3, .ref 4 0 0, true), (10, S69 F48, true)]
def E22a : Env := { boxRow := true, hint := orH (hAlO 22 3 [.zs]) (hAlO 30 4 [I 0]) }
theorem clok22a : ClOk Try.prog G0 E22a := .all ((hAlO_ok 3 (by kernel_rfl) rfl fun n x hx => by obtain rfl := List.mem_singleton.1 hx; exact .zs).or (hAlO_ok 4 (by kernel_rfl) rfl fun n x hx => by obtain rfl := List.mem_singleton.1 hx; exact .int _ _)) (fun f xs σ t v σ' h => (by cases h)) (fun l xs σ t v σ' h => (by cases h)) (fun f xs t v h => (by cases h))
theorem run22a (p : Pb) : xBody Try.prog G0 E22a 200 noLoops [1, 2, 3] (c22c 0) (st22a p [.resv, .resv, .resv, .resv, .resv]) = .need ((Option.some AObj.resv) = (Option.some AObj.resv)) (.need ((Option.some AObj.resv) = (Option.some AObj.resv)) (.leaf (Exit.normal, St.of 14 [AObj.resv, AObj.resv, AObj.resv, (AObj.cells (0 : Nat) [AV.zs]), (AObj.cells (0 : Nat) [(I ((0 : Int)))])] [(1, (AV.row [(flL (p.V)), (flLL (p.C)), (flR (p.R))] (0 : Nat)), true), (2, (AV.ref (3 : Nat) (0 : Nat) (0 : Nat)), true), (3, (AV.ref (4 : Nat) (0 : Nat) (0 : Nat)), true)]))) := by kernel_rfl
def clV (p : Pb) : FuncId → List AV → Option (Tree AV) := fun f xs => bif Nat.beq f 28 then some (.need (xs = [pAV p]) (.leaf (.bool true))) else E42e.cl f xs
def E22b (p : Pb) (h h1 : Heap) : Env := { cl := clV p, clh := clhs [(46, [pAV p], h, SR, h1)] }
theorem run22b (p : Pb) (x0 x1 x2 : AObj) : xBody Try.prog G0 (EG True [(28, [pAV p], .bool true)]) 200 noLoops [1, 2, 3] (c22c 1) (st22b p [x0, x1, x2, .cells 0 [.zs], .cells 0 [I 0]]) = .need (True) (.need ([(AV.agg [(flL (p.V)), (flLL (p.C)), (flR (p.R))])] = [(AV.agg [(flL (p.V)), (flLL (p.C)), (flR (p.R))])]) (.ite (!true) (.leaf (Exit.ret, St.of 14 [x0, x1, x2, (AObj.cells (0 : Nat) (setL [AV.zs] (0 : Nat) [AV.zs])), (AObj.cells (0 : Nat) (setL [(I ((0 : Int)))] (0 : Nat) [(I ((1 : Int)))]))] [(1, (AV.row [(flL (p.V)), (flLL (p.C)), (flR (p.R))] (0 : Nat)), true), (2, (AV.ref (3 : Nat) (0 : Nat) (0 : Nat)), true), (3, (AV.ref (4 : Nat) (0 : Nat) (0 : Nat)), true)])) (.leaf (Exit.normal, St.of 14 [x0, x1, x2, (AObj.cells (0 : Nat) [AV.zs]), (AObj.cells (0 : Nat) [(I ((0 : Int)))])] [(1, (AV.row [(flL (p.V)), (flLL (p.C)), (flR (p.R))] (0 : Nat)), true), (2, (AV.ref (3 : Nat) (0 : Nat) (0 : Nat)), true), (3, (AV.ref (4 : Nat) (0 : Nat) (0 : Nat)), true)])))) := by kernel_rfl
theorem run22c (p : Pb) (h h1 : Heap) : xBody Try.prog G0 (E22b p h h1) 200 noLoops [2, 3, 10] (c22c 2) (st22b p h) = .need (([(AV.agg [(flL (p.V)), (flLL (p.C)), (flR (p.R))])] = [(AV.agg [(flL (p.V)), (flLL (p.C)), (flR (p.R))])]) ∧ (h = h)) (.leaf (Exit.normal, St.of 14 h1 [(2, (AV.ref (3 : Nat) (0 : Nat) (0 : Nat)), true), (3, (AV.ref (4 : Nat) (0 : Nat) (0 : Nat)), true), (10, (AV.fn (69 : Nat) [] [(AV.row [(AV.ref (0 : Nat) (0 : Nat) (0 : Nat))] (0 : Nat)), (AV.row [(AV.fn (48 : Nat) [] [])] (0 : Nat))]), true)])) := by kernel_rfl
theorem run22x (x0 x1 x2 : AObj) (b : AV) (e : Int) (W : Heap) : xBody Try.prog G0 {} 200 noLoops [2, 3, 10] (c22c 3) (st22c (x0 :: x1 :: x2 :: .cells 0 [b] :: .cells 0 [I e] :: W)) = .leaf (Exit.ret, St.of 14 (x0 :: (x1 :: (x2 :: ((AObj.cells (0 : Nat) (setL [b] (0 : Nat) [AV.zs])) :: ((AObj.cells (0 : Nat) (setL [(I e)] (0 : Nat) [(I ((7 : Int)))])) :: W))))) [(2, (AV.ref (3 : Nat) (0 : Nat) (0 : Nat)), true), (3, (AV.ref (4 : Nat) (0 : Nat) (0 : Nat)), true), (10, (AV.fn (69 : Nat) [] [(AV.row [(AV.ref (0 : Nat) (0 : Nat) (0 : Nat))] (0 : Nat)), (AV.row [(AV.fn (48 : Nat) [] [])] (0 : Nat))]), true)]) := by kernel_rfl
def st22s (v : AV) (c : Int) (h : Heap) : St := .of 14 h [(2, .ref 3 0 0, true), (3, .ref 4 0 0, true), (10, S69 F48, true), (11, v, true), (12, I c, true)]
def st22t (v : AV) (h : Heap) : St := .of 14 h [(2, .ref 3 0 0, true), (3, .ref 4 0 0, true), (4, v, true)]
theorem run22s (v : AV) (c : Int) (h : Heap) : xBody Try.prog G0 {} 200 noLoops [2, 3, 4] as22 (st22s v c h) = .leaf (Exit.normal, St.of 14 h [(2, (AV.ref (3 : Nat) (0 : Nat) (0 : Nat)), true), (3, (AV.ref (4 : Nat) (0 : Nat) (0 : Nat)), true), (4, v, true)]) := by kernel_rfl
theorem run22t (x0 x1 x2 : AObj) (n : Nat) (f : Nat → List AV) (b : AV) (e : Int) (W : Heap) : xBody Try.prog G0 {} 200 noLoops [] bd22 (st22t (.fl 1 n f) (x0 :: x1 :: x2 :: .cells 0 [b] :: .cells 0 [I e] :: W)) = .leaf (Exit.ret, St.of 14 (x0 :: (x1 :: (x2 :: ((AObj.cells (0 : Nat) (setL [b] (0 : Nat) [(AV.fl (1 : Nat) n f)])) :: ((AObj.cells (0 : Nat) (setL [(I e)] (0 : Nat) [(I ((0 : Int)))])) :: W))))) []) := by kernel_rfl
theorem run22n (p : Pb) : xCall Try.prog G0 (EG True [(28, [pAV p], .bool false)]) 200 22 [pAV p] [true] [] = .need (True) (.need ([(AV.agg [(flL (p.V)), (flLL (p.C)), (flR (p.R))])] = [(AV.agg [(flL (p.V)), (flLL (p.C)), (flR (p.R))])]) (.ite (!false) (.leaf ((AV.tup [AV.zs, (I ((1 : Int)))]), true, [(AObj.cells (0 : Nat) (setL [AV.zs] (0 : Nat) [AV.zs])), (AObj.cells (0 : Nat) (setL [(I ((0 : Int)))] (0 : Nat) [(I ((1 : Int)))]))])) .fail)) := by kernel_rfl
theorem clV_ok {p : Pb} (hs : p.sh) (hv : validP p = true) {f : FuncId} {xs : List AV} {t : Tree AV} {v : AV} (h : clV p f xs = some t) (hs' : t.sel = some v) (σ : Heap) : ACall Try.prog G0 f xs σ v σ := by
  unfold clV at h
  cases hf : Nat.beq f 28 with
  | false =>
    rw [hf, cond_false] at h
    exact cl42e_ok h hs' σ
  | true =>
    rw [hf, cond_true] at h
    cases h
    obtain ⟨rfl, h2⟩ := Tree.of_need hs'
    cases h2
    obtain rfl := Nat.eq_of_beq_eq_true hf
    exact hv ▸ c28 hs σ
theorem clok22b {p : Pb} (hs : p.sh) (hv : validP p = true) {h h1 : Heap} (h46 : ACall Try.prog G0 46 [pAV p] h SR h1) : ClOk Try.prog G0 (E22b p h h1) := .all .none (clhs_ok fun x hx => (by
    obtain rfl := List.mem_singleton.1 hx
    exact h46)) (fun l xs σ t v σ' h => (by cases h)) (fun f xs t v h hs' σ => clV_ok hs hv h hs' σ)
/-! ### The user that takes the first -/
noncomputable def lp22 : Option (List Int) → ALoop
  | none => loop0 (st22c []).a #[11, 12] as22 bd22 5
  | some _ => { loop0 (st22c []).a #[11, 12] as22 bd22 5 with state := .done, pending := some .ret }
noncomputable def Z22 (L : ALoop) (s : Option (List Int)) : Heap := [.cells 0 [bV s], .cells 0 [I (match s with | none => 0 | some _ => 0)], .dfr, .loop L]
noncomputable def K22 : Cns (Option (List Int)) where
  most _ := 24000001
  yst _ a := some a
  more _ _ := false
  Z s := Z22 (lp22 s) s ++ vars69 6 7 F48 []
  inv s := s = none
theorem putA22 (v : AV) (c : Int) : putPs [11, 12] [v, I c] (st22c []).a = (st22s v c []).a := by kernel_rfl
theorem yield22 (p : Pb) (a t : List Int) : AYield Try.prog G0 6 [flL a, I (costA p a)] (SH p a t (K22.Z none)) (.bool false) (SH p a t (K22.Z (some a))) := by
  refine AYield.of_round (P := Try.prog) (G := G0) (l := 6) (A := lp22 none) (args := [flL a, I (costA p a)]) (σ := SH p a t (K22.Z none)) (σ1 := SH p a t (K22.Z none)) (σ3 := SH p a t (Z22 { lp22 none with state := .busy } (some a) ++ vars69 6 7 F48 []))
    (a1 := (st22t (flL a) []).a) (a3 := (St.of 14 [] []).a) (e := .ret) (j := some .ret) rfl rfl rfl ?_ rfl ?_ rfl rfl
  · show AExec Try.prog G0 _ as22 { tmps := putPs [11, 12] [flL a, I (costA p a)] (st22c []).a } _ .normal _ _
    rw [putA22]
    exact rnd (n := 200) (keep := [2, 3, 4]) (s := st22s (flL a) (costA p a) (SH p a t (K22.Z none))) (t := st22t (flL a) (SH p a t (K22.Z none))) clok0 (lpNo _) (congrArg Tree.sel (run22s (flL a) (costA p a) _)) rfl
  · exact rnd (n := 200) (keep := []) (s := st22t (flL a) (SH p a t (Z22 { lp22 none with state := .busy } none ++ vars69 6 7 F48 []))) (t := St.of 14 (SH p a t (Z22 { lp22 none with state := .busy } (some a) ++ vars69 6 7 F48 [])) []) clok0 (lpNo _) (congrArg Tree.sel (run22t _ _ _ _ _ _ _ _)) rfl
theorem usr22 (p : Pb) : Usr p K22 6 7 9 8 F48 48 [] [] where
  fn := rfl
  yld a t s h _ _ _ := by cases h; exact yield22 p a t
  inv _ _ _ _ _ h := by cases h
  most _ _ _ _ _ := c48 _
  ht _ _ _ := ⟨7, 0, 0, _, rfl, rfl, rfl⟩
  hw _ _ _ := ⟨9, 0, 0, _, rfl, rfl, rfl⟩
  hu _ _ _ := ⟨8, 0, 0, _, rfl, rfl, rfl⟩
/-- What First finds. -/
noncomputable def firstW (p : Pb) : Option (List Int) := (runW p K22 [] none).2
theorem evF22 : ev G0 (st22c []).a (.tmp 10) = some (S69 F48) := by kernel_rfl
def resF : Option (List Int) → AV
  | none => .tup [flL [], I 7]
  | some a => .tup [flL a, I 0]
theorem res22 (x0 x1 x2 : AObj) (b : AV) (e : Int) (W : Heap) : aResults Try.prog (x0 :: x1 :: x2 :: .cells 0 [b] :: .cells 0 [I e] :: W) (st22c []).a [.cell 2 22, .cell 3 30] = some [b, I e] := by kernel_rfl
/-- WHAT First RETURNS. -/
theorem c22 {p : Pb} (hs : p.sh) (h : Heap) : ACall Try.prog G0 22 [pAV p] h (bif validP p then resF (firstW p) else .tup [flL [], I 1]) h := by
  have hargs : ∀ x ∈ [pAV p], Below 0 x := fun x hx => by rw [List.mem_singleton.1 hx]; exact below_pAV p
  cases hv : validP p with
  | false =>
    have h1 : ACall Try.prog G0 22 [pAV p] [] (.tup [.zs, I 1]) _ := ACall.saysC (clokG1 fun _ => hv ▸ c28 hs) (run22n p) (says_need trivial (says_need rfl (says_ite (fun _ => says_leaf) fun h => (by cases h))))
    exact ACall.out (k := 0) h1 (re_tup2 re_zs re_int) (below_tup2 (below_flL _) (.int _ _)) hargs h
  | true =>
    have hp := valid_iff.1 hv
    have n := n46 hs hp [.cells 0 [.zs], .cells 0 [I 0]]
    have x0 := rnd (R := fun r => r = none) (n := 200) (keep := [1, 2, 3]) (s := st22a p [.resv, .resv, .resv, .resv, .resv]) (t := st22b p [.resv, .resv, .resv, .cells 0 [.zs], .cells 0 [I 0]]) clok22a (lpNo _) ((congrArg Tree.sel (run22a p)).trans (t_need rfl (t_need rfl rfl))) rfl
    have x1 := rnd (R := fun r => r = none) (n := 200) (keep := [1, 2, 3]) (s := st22b p [.resv, .resv, .resv, .cells 0 [.zs], .cells 0 [I 0]]) (t := st22b p [.resv, .resv, .resv, .cells 0 [.zs], .cells 0 [I 0]]) (clokG1 fun _ => hv ▸ c28 hs) (lpNo _) ((congrArg Tree.sel (run22b p .resv .resv .resv)).trans (t_need trivial (t_need rfl ((selIf rfl).trans rfl)))) rfl
    have x2 := rnd (R := fun r => r = none) (n := 200) (keep := [2, 3, 10]) (s := st22b p [.resv, .resv, .resv, .cells 0 [.zs], .cells 0 [I 0]]) (t := st22c (SH p [] [] [.cells 0 [.zs], .cells 0 [I 0]])) (clok22b hs hv n) (lpNo _) ((congrArg Tree.sel (run22c p _ _)).trans (t_need ⟨rfl, rfl⟩ rfl)) rfl
    obtain ⟨t', h1, _, h3⟩ := c69 hp (beg_nil p) (t := []) (by show 0 ≤ _; omega) (K := K22) (Zc := fun s => Z22 (lp22 s) s) (l := 6) (n := 7) (usr22 p) (fun _ => rfl) (s := none) rfl rfl
    obtain ⟨fn, c, k1, k2, k3⟩ := fnOf (f := 22) (by kernel_rfl)
    obtain ⟨hres, hnt⟩ := fnFact (f := 22) (rs := [.cell 2 22, .cell 3 30]) (n := 14) (by kernel_rfl) k1
    have hle : Le ([pAV p] ++ List.replicate (fn.ntmps - [pAV p].length) (.tup [])) (st22a p []).a := le_args (k := 13) (by rw [hnt]; rfl) (by kernel_rfl)
    have fin : ∀ {s : Option (List Int)} {b : AV} {e : Int} {W : Heap}, AExec Try.prog G0 (fun r => r = none) (bodyOf Try.prog 22) { tmps := (st22a p []).a } [.resv, .resv, .resv, .resv, .resv] .ret { tmps := (st22c []).a, marks := [5] } (SH p [] t' (.cells 0 [b] :: .cells 0 [I e] :: .dfr :: W)) → Re G0 noneP (SH p [] t' (.cells 0 [b] :: .cells 0 [I e] :: .gone :: W)) (.tup [b, I e]) (resF s) → Below 0 (resF s) → ACall Try.prog G0 22 [pAV p] h (resF s) h := by
      intro s b e W hx hr hb
      rw [k3] at hx
      have key := ACall.of_body_marks (args := [pAV p]) (xs := [b, I e]) k1 k2 (names 22 fn k1) (.weak hle hx) (.inr rfl) (by simp) (fun r hr => by rw [List.mem_singleton.1 hr]; rfl) (by rw [hres]; exact res22 _ _ _ _ _ _)
      exact ACall.out (k := 5) key hr hb hargs h
    have hf : ∀ {e : Exit} {a' : AAct} {σ' : Heap}, ((lp22 (firstW p)).pending = none → e = .normal ∧ a' = { tmps := (st22c []).a, marks := [5] } ∧ σ' = (SH p [] t' (K22.Z (firstW p))).set 6 (.loop { lp22 (firstW p) with state := .exhausted })) → (∀ c, (lp22 (firstW p)).pending = some c → AExec Try.prog G0 (fun r => r = none) c { tmps := (st22c []).a, marks := [5] } ((SH p [] t' (K22.Z (firstW p))).set 6 (.loop { lp22 (firstW p) with state := .exhausted })) e a' σ') →
        AExec Try.prog G0 (fun r => r = none) (.rangeFunc (.tmp 10) #[11, 12] as22 bd22) { tmps := (st22c []).a } (SH p [] [] [.cells 0 [.zs], .cells 0 [I 0]]) e a' σ' := fun g1 g2 => by
      refine AExec.rangeFunc (m := []) (v := .tup []) (A' := lp22 (firstW p)) evF22 (first := []) (σ2 := SH p [] t' (K22.Z (firstW p))) h3 rfl ?_ g1 g2
      cases firstW p <;> nofun
    rw [cond_true]
    cases hb : firstW p with
    | none =>
      rw [hb] at hf
      have hrf := hf (e := .normal) (fun _ => ⟨rfl, rfl, rfl⟩) (fun c hc => by cases hc)
      have x3 := rndM (R := fun r => r = none) (m := [5]) (n := 200) (keep := [2, 3, 10]) (s := st22c (SH p [] t' (Z22 { lp22 none with state := .exhausted } none ++ vars69 6 7 F48 []))) (t := st22c (SH p [] t' (.cells 0 [.zs] :: .cells 0 [I 7] :: .dfr :: .loop { lp22 none with state := .exhausted } :: vars69 6 7 F48 []))) clok0 (lpNo (c22c 3)) (congrArg Tree.sel (run22x _ _ _ _ _ _)) rfl
      refine fin (s := none) (W := .loop { lp22 none with state := .exhausted } :: vars69 6 7 F48 []) (by rw [code22]; exact .seq x0 (.seq x1 (.seq (.seq x2 (AExec.block_to (id := 0) hrf rfl)) x3))) (re_tup2 re_zs re_int) (below_tup2 (below_flL _) (.int _ _))
    | some b =>
      rw [hb] at hf
      have hrf := hf (e := .ret) (fun hc => by cases hc) (fun c hc => by cases hc; exact .ret)
      refine fin (s := some b) (b := flL b) (e := 0) (W := .loop { lp22 (some b) with state := .exhausted } :: vars69 6 7 F48 []) (by rw [code22]; exact .seq x0 (.seq x1 (.seq_out (.seq x2 (AExec.block_to (id := 0) hrf rfl)) nofun))) (re_tup2 (Re.flat (below_flL _)) re_int) (below_tup2 (below_flL _) (.int _ _))
end Go.Proofs.Ytngaihdpmoajeaa.Am

namespace Go.Proofs.Ytngaihdpmoajeaa.Am
open Go
set_option maxRecDepth 100000

noncomputable def b16 : Code := bodyOf Try.prog 16
noncomputable def t16 : Code := sndS (sndS b16)
noncomputable def c16c (i : Nat) : Code := match i with
  | 0 => fstS b16
  | 1 => fstS (sndS b16)
  | 2 => fstS t16
  | 3 => fstS (fstS (sndS t16))
  | _ => sndS (sndS t16)
noncomputable def as16 : Code := rfA (sndS (fstS (sndS t16)))
noncomputable def bd16 : Code := rfB (sndS (fstS (sndS t16)))
theorem code16 : bodyOf Try.prog 16 = .seq (c16c 0) (.seq (c16c 1) (.seq (c16c 2) (.seq (.seq (c16c 3) (.block 1 (.rangeFunc (.tmp 17) #[18, 19] as16 bd16))) (c16c 4)))) := by kernel_rfl
def st16a (p : Pb) (m : Int) (h : Heap) : St := .of 26 h [(0, pAV p, true), (1, I m, true)]
def st16b (p : Pb) (m : Int) (h : Heap) : St := .of 26 h [(2, .row (pbC p) 0, true), (3, .row [I m] 0, true)]
def st16c (p : Pb) (m : Int) (h : Heap) : St := .of 26 h [(2, .row (pbC p) 0, true), (3, .row [I m] 0, true), (6, .ref 3 0 0, true)]
def st16d (m : Int) (h : Heap) : St := .of 26 h [(3, .row [I m] 0, true), (6, .ref 3 0 0, true), (17, S69 F48, true)]
def st16x (n : Int) (h : Heap) : St := .of 26 h [(4, I n, true), (5, I 0, true)]
theorem run16a (p : Pb) (m : Int) (h : Heap) : xBody Try.prog G0 {} 200 noLoops [2, 3] (c16c 0) (st16a p m h) = .leaf (Exit.normal, St.of 26 h [(2, (AV.row [(flL (p.V)), (flLL (p.C)), (flR (p.R))] (0 : Nat)), true), (3, (AV.row [(I m)] (0 : Nat)), true)]) := by kernel_rfl
theorem run16b (p : Pb) (m : Int) (h : Heap) : xBody Try.prog G0 (EG True [(28, [pAV p], .bool true)]) 200 noLoops [2, 3] (c16c 1) (st16b p m h) = .need (True) (.need ([(AV.agg [(flL (p.V)), (flLL (p.C)), (flR (p.R))])] = [(AV.agg [(flL (p.V)), (flLL (p.C)), (flR (p.R))])]) (.ite (!true) (.leaf (Exit.ret, St.of 26 h [(2, (AV.row [(flL (p.V)), (flLL (p.C)), (flR (p.R))] (0 : Nat)), true), (3, (AV.row [(I m)] (0 : Nat)), true)])) (.ite (!inB m (0 : Int) (1000000 : Int)) (.leaf (Exit.ret, St.of 26 h [(2, (AV.row [(flL (p.V)), (flLL (p.C)), (flR (p.R))] (0 : Nat)), true), (3, (AV.row [(I m)] (0 : Nat)), true)])) (.leaf (Exit.normal, St.of 26 h [(2, (AV.row [(flL (p.V)), (flLL (p.C)), (flR (p.R))] (0 : Nat)), true), (3, (AV.row [(I m)] (0 : Nat)), true)]))))) := by kernel_rfl
def E16c : Env := { hint := hAlO 3 3 [I 0] }
theorem clok16c : ClOk Try.prog G0 E16c := .all (hAlO_ok 3 (by kernel_rfl) rfl fun n x hx => by obtain rfl := List.mem_singleton.1 hx; exact .int _ _) (fun f xs σ t v σ' h => (by cases h)) (fun l xs σ t v σ' h => (by cases h)) (fun f xs t v h => (by cases h))
theorem run16c (p : Pb) (m : Int) : xBody Try.prog G0 E16c 200 noLoops [2, 3, 6] (c16c 2) (st16b p m [.resv, .resv, .resv, .resv]) = .need ((Option.some AObj.resv) = (Option.some AObj.resv)) (.leaf (Exit.normal, St.of 26 [AObj.resv, AObj.resv, AObj.resv, (AObj.cells (0 : Nat) (setL [(I ((0 : Int)))] (0 : Nat) [(I ((0 : Int)))]))] [(2, (AV.row [(flL (p.V)), (flLL (p.C)), (flR (p.R))] (0 : Nat)), true), (3, (AV.row [(I m)] (0 : Nat)), true), (6, (AV.ref (3 : Nat) (0 : Nat) (0 : Nat)), true)])) := by kernel_rfl
theorem run16d (p : Pb) (m : Int) (h h1 : Heap) : xBody Try.prog G0 (E22b p h h1) 200 noLoops [3, 6, 17] (c16c 3) (st16c p m h) = .need (([(AV.agg [(flL (p.V)), (flLL (p.C)), (flR (p.R))])] = [(AV.agg [(flL (p.V)), (flLL (p.C)), (flR (p.R))])]) ∧ (h = h)) (.leaf (Exit.normal, St.of 26 h1 [(3, (AV.row [(I m)] (0 : Nat)), true), (6, (AV.ref (3 : Nat) (0 : Nat) (0 : Nat)), true), (17, (AV.fn (69 : Nat) [] [(AV.row [(AV.ref (0 : Nat) (0 : Nat) (0 : Nat))] (0 : Nat)), (AV.row [(AV.fn (48 : Nat) [] [])] (0 : Nat))]), true)])) := by kernel_rfl
theorem run16x (x0 x1 x2 : AObj) (m n : Int) (W : Heap) : xBody Try.prog G0 {} 200 noLoops [4, 5] (c16c 4) (st16d m (x0 :: x1 :: x2 :: .cells 0 [I n] :: W)) = .leaf (Exit.ret, St.of 26 (x0 :: (x1 :: (x2 :: ((AObj.cells (0 : Nat) [(I n)]) :: W)))) [(4, (I n), true), (5, (I ((0 : Int))), false)]) := by kernel_rfl
def st16s (m : Int) (v : AV) (c : Int) (h : Heap) : St := .of 26 h [(3, .row [I m] 0, true), (6, .ref 3 0 0, true), (17, S69 F48, true), (18, v, true), (19, I c, true)]
def st16t (m : Int) (h : Heap) : St := .of 26 h [(3, .row [I m] 0, true), (6, .ref 3 0 0, true)]
theorem run16s (m : Int) (v : AV) (c : Int) (h : Heap) : xBody Try.prog G0 {} 200 noLoops [3, 6] as16 (st16s m v c h) = .leaf (Exit.normal, St.of 26 h [(3, (AV.row [(I m)] (0 : Nat)), true), (6, (AV.ref (3 : Nat) (0 : Nat) (0 : Nat)), true)]) := by kernel_rfl
theorem run16t (x0 x1 x2 : AObj) (m n : Int) (W : Heap) : xBody Try.prog G0 {} 200 noLoops [] bd16 (st16t m (x0 :: x1 :: x2 :: .cells 0 [I n] :: W)) = .ite (n == m) (.leaf ((Exit.exit (1 : Nat)), St.of 26 (x0 :: (x1 :: (x2 :: ((AObj.cells (0 : Nat) [(I n)]) :: W)))) [])) (.leaf (Exit.normal, St.of 26 (x0 :: (x1 :: (x2 :: ((AObj.cells (0 : Nat) (setL [(I n)] (0 : Nat) [(I (IntKind.i64.wrap (n + (1 : Int))))])) :: W)))) [])) := by kernel_rfl
theorem run16n (p : Pb) (m : Int) : xCall Try.prog G0 (EG True [(28, [pAV p], .bool false)]) 200 16 [pAV p, I m] [true, true] [] = .need (True) (.need ([(AV.agg [(flL (p.V)), (flLL (p.C)), (flR (p.R))])] = [(AV.agg [(flL (p.V)), (flLL (p.C)), (flR (p.R))])]) (.ite (!false) (.leaf ((AV.tup [(I ((0 : Int))), (I ((1 : Int)))]), false, [])) (.ite (!inB m (0 : Int) (1000000 : Int)) (.leaf ((AV.tup [(I ((0 : Int))), (I ((2 : Int)))]), false, [])) .fail))) := by kernel_rfl
theorem run16m (p : Pb) (m : Int) : xCall Try.prog G0 (EG True [(28, [pAV p], .bool true)]) 200 16 [pAV p, I m] [true, true] [] = .need (True) (.need ([(AV.agg [(flL (p.V)), (flLL (p.C)), (flR (p.R))])] = [(AV.agg [(flL (p.V)), (flLL (p.C)), (flR (p.R))])]) (.ite (!true) (.leaf ((AV.tup [(I ((0 : Int))), (I ((1 : Int)))]), false, [])) (.ite (!inB m (0 : Int) (1000000 : Int)) (.leaf ((AV.tup [(I ((0 : Int))), (I ((2 : Int)))]), false, [])) .fail))) := by kernel_rfl
/-! ### The user that counts -/
noncomputable def lp16 (m : Int) : Bool → ALoop
  | false => loop0 (st16d m []).a #[18, 19] as16 bd16 4
  | true => { loop0 (st16d m []).a #[18, 19] as16 bd16 4 with state := .done, pending := some (.exit 1) }
noncomputable def Z16 (L : ALoop) (n : Int) : Heap := [.cells 0 [I n], .dfr, .loop L]
noncomputable def K16 (m : Int) : Cns (Int × Bool) where
  most _ := 24000001
  yst s _ := bif s.1 == m then (s.1, true) else (s.1 + 1, false)
  more s _ := !(s.1 == m)
  Z s := Z16 (lp16 m s.2) s.1 ++ vars69 5 6 F48 []
  inv s := s.2 = false ∧ 0 ≤ s.1 ∧ s.1 ≤ m
theorem putA16 (m : Int) (v : AV) (c : Int) : putPs [18, 19] [v, I c] (st16d m []).a = (st16s m v c []).a := by kernel_rfl
theorem yield16 (p : Pb) {m : Int} (hm : m ≤ 1000000) (a t : List Int) {s : Int × Bool} (hi : (K16 m).inv s) : AYield Try.prog G0 5 [flL a, I (costA p a)] (SH p a t ((K16 m).Z s)) (.bool ((K16 m).more s a)) (SH p a t ((K16 m).Z ((K16 m).yst s a))) := by
  obtain ⟨n, b⟩ := s
  obtain ⟨h0, h1, h2⟩ := hi
  simp only at h0 h1 h2
  subst h0
  have has : AExec Try.prog G0 (fun r => r ≠ none) as16 { tmps := putPs [18, 19] [flL a, I (costA p a)] (st16d m []).a } (SH p a t ((K16 m).Z (n, false))) .normal { tmps := (st16t m []).a } (SH p a t ((K16 m).Z (n, false))) := by
    rw [putA16]
    exact rnd (n := 200) (keep := [3, 6]) (s := st16s m (flL a) (costA p a) (SH p a t ((K16 m).Z (n, false)))) (t := st16t m (SH p a t ((K16 m).Z (n, false)))) clok0 (lpNo _) (congrArg Tree.sel (run16s m (flL a) (costA p a) _)) rfl
  cases he : n == m with
  | true =>
    have e1 : (K16 m).more (n, false) a = false := by show (!(n == m)) = false; rw [he]; rfl
    have e2 : (K16 m).yst (n, false) a = (n, true) := by show (bif n == m then (n, true) else (n + 1, false)) = (n, true); rw [he]; rfl
    rw [e1, e2]
    refine AYield.of_round (P := Try.prog) (G := G0) (l := 5) (A := lp16 m false) (args := [flL a, I (costA p a)]) (σ := SH p a t ((K16 m).Z (n, false))) (σ1 := SH p a t ((K16 m).Z (n, false))) (σ3 := SH p a t (Z16 { lp16 m false with state := .busy } n ++ vars69 5 6 F48 []))
      (a1 := (st16t m []).a) (a3 := (St.of 26 [] []).a) (e := .exit 1) (j := some (.exit 1)) rfl rfl rfl has rfl ?_ rfl rfl
    exact rnd (n := 200) (keep := []) (s := st16t m (SH p a t (Z16 { lp16 m false with state := .busy } n ++ vars69 5 6 F48 []))) (t := St.of 26 (SH p a t (Z16 { lp16 m false with state := .busy } n ++ vars69 5 6 F48 [])) []) clok0 (lpNo _) ((congrArg Tree.sel (run16t _ _ _ _ _ _)).trans ((selIt he).trans rfl)) rfl
  | false =>
    have e1 : (K16 m).more (n, false) a = true := by show (!(n == m)) = true; rw [he]; rfl
    have e2 : (K16 m).yst (n, false) a = (n + 1, false) := by show (bif n == m then (n, true) else (n + 1, false)) = (n + 1, false); rw [he]; rfl
    rw [e1, e2]
    have hne : n ≠ m := fun h => by rw [h] at he; simp at he
    have hw : IntKind.i64.wrap (n + 1) = n + 1 := wrapI ⟨by omega, by omega⟩
    refine AYield.of_round (P := Try.prog) (G := G0) (l := 5) (A := lp16 m false) (args := [flL a, I (costA p a)]) (σ := SH p a t ((K16 m).Z (n, false))) (σ1 := SH p a t ((K16 m).Z (n, false))) (σ3 := SH p a t (Z16 { lp16 m false with state := .busy } (n + 1) ++ vars69 5 6 F48 []))
      (a1 := (st16t m []).a) (a3 := (St.of 26 [] []).a) (e := .normal) (j := none) rfl rfl rfl has rfl ?_ rfl rfl
    exact rnd (n := 200) (keep := []) (s := st16t m (SH p a t (Z16 { lp16 m false with state := .busy } n ++ vars69 5 6 F48 []))) (t := St.of 26 (SH p a t (Z16 { lp16 m false with state := .busy } (n + 1) ++ vars69 5 6 F48 [])) []) clok0 (lpNo _) ((congrArg Tree.sel (run16t _ _ _ _ _ _)).trans ((selIf he).trans (by rw [hw]; rfl))) rfl
theorem usr16 (p : Pb) {m : Int} (hm : m ≤ 1000000) : Usr p (K16 m) 5 6 8 7 F48 48 [] [] where
  fn := rfl
  yld a t s h _ _ _ := yield16 p hm a t h
  inv a s h _ _ hm' := by
    obtain ⟨n, b⟩ := s
    obtain ⟨h0, h1, h2⟩ := h
    simp only at h0 h1 h2
    have he : (n == m) = false := by
      have : (!(n == m)) = true := hm'
      simpa using this
    have hne : n ≠ m := fun h => by rw [h] at he; simp at he
    show (K16 m).inv (bif n == m then (n, true) else (n + 1, false))
    rw [he]
    exact ⟨rfl, by show 0 ≤ n + 1; omega, by show n + 1 ≤ m; omega⟩
  most _ _ _ _ _ := c48 _
  ht _ _ _ := ⟨6, 0, 0, _, rfl, rfl, rfl⟩
  hw _ _ _ := ⟨8, 0, 0, _, rfl, rfl, rfl⟩
  hu _ _ _ := ⟨7, 0, 0, _, rfl, rfl, rfl⟩
/-- What Count counts. -/
noncomputable def countW (p : Pb) (m : Int) : Int := (runW p (K16 m) [] (0, false)).2.1
theorem evF16 (m : Int) : ev G0 (st16d m []).a (.tmp 17) = some (S69 F48) := by kernel_rfl
def countR (p : Pb) (m n : Int) : AV := bif validP p then (bif inB m 0 1000000 then .tup [I n, I 0] else .tup [I 0, I 2]) else .tup [I 0, I 1]
theorem res16 (n : Int) (σ : Heap) : aResults Try.prog σ (st16x n []).a [.tmp 4, .tmp 5] = some [I n, I 0] := by kernel_rfl
theorem vals16x (n : Int) (h : Heap) : (St.of 26 h [(4, I n, true), (5, I 0, false)]).vals = (st16x n h).vals := by kernel_rfl
/-- WHAT Count RETURNS. -/
theorem c16 {p : Pb} (hs : p.sh) (m : Int) (h : Heap) : ACall Try.prog G0 16 [pAV p, I m] h (countR p m (countW p m)) h := by
  have hargs : ∀ x ∈ [pAV p, I m], Below 0 x := fun x hx => by
    simp only [List.mem_cons, List.not_mem_nil, or_false] at hx
    rcases hx with rfl | rfl
    · exact below_pAV p
    · exact .int _ _
  have hbt : ∀ a b : Int, Below 0 (.tup [I a, I b]) := fun a b => below_tup2 (.int _ _) (.int _ _)
  unfold countR
  cases hv : validP p with
  | false =>
    have h1 : ACall Try.prog G0 16 [pAV p, I m] [] (.tup [I 0, I 1]) _ := ACall.saysC (clokG1 fun _ => hv ▸ c28 hs) (run16n p m) (says_need trivial (says_need rfl (says_ite (fun _ => says_leaf) fun h => (by cases h))))
    exact h1.lift0 (hbt _ _) gbelow0 hargs h
  | true =>
  cases hm : inB m 0 1000000 with
  | false =>
    have h1 : ACall Try.prog G0 16 [pAV p, I m] [] (.tup [I 0, I 2]) _ := ACall.saysC (clokG1 fun _ => hv ▸ c28 hs) (run16m p m) (says_need trivial (says_need rfl (says_ite (fun h => (by cases h)) fun _ => says_ite (fun _ => says_leaf) fun h => by rw [hm] at h; cases h)))
    exact h1.lift0 (hbt _ _) gbelow0 hargs h
  | true =>
    have hp := valid_iff.1 hv
    have hmb := inB_iff.1 hm
    have n := n46 hs hp [.cells 0 [I 0]]
    have x0 := rnd (R := fun r => r = none) (n := 200) (keep := [2, 3]) (s := st16a p m [.resv, .resv, .resv, .resv]) (t := st16b p m [.resv, .resv, .resv, .resv]) clok0 (lpNo _) (congrArg Tree.sel (run16a p m _)) rfl
    have x1 := rnd (R := fun r => r = none) (n := 200) (keep := [2, 3]) (s := st16b p m [.resv, .resv, .resv, .resv]) (t := st16b p m [.resv, .resv, .resv, .resv]) (clokG1 fun _ => hv ▸ c28 hs) (lpNo _) ((congrArg Tree.sel (run16b p m _)).trans (t_need trivial (t_need rfl ((selIf rfl).trans ((selIf (by rw [hm]; rfl)).trans rfl))))) rfl
    have x2 := rnd (R := fun r => r = none) (n := 200) (keep := [2, 3, 6]) (s := st16b p m [.resv, .resv, .resv, .resv]) (t := st16c p m [.resv, .resv, .resv, .cells 0 [I 0]]) clok16c (lpNo _) ((congrArg Tree.sel (run16c p m)).trans (t_need rfl rfl)) rfl
    have x3 := rnd (R := fun r => r = none) (n := 200) (keep := [3, 6, 17]) (s := st16c p m [.resv, .resv, .resv, .cells 0 [I 0]]) (t := st16d m (SH p [] [] [.cells 0 [I 0]])) (clok22b hs hv n) (lpNo _) ((congrArg Tree.sel (run16d p m _ _)).trans (t_need ⟨rfl, rfl⟩ rfl)) rfl
    obtain ⟨t', h1, _, h3⟩ := c69 hp (beg_nil p) (t := []) (by show 0 ≤ _; omega) (K := K16 m) (Zc := fun s => Z16 (lp16 m s.2) s.1) (l := 5) (n := 6) (usr16 p hmb.2) (fun _ => rfl) (s := (0, false)) ⟨rfl, Int.le_refl _, hmb.1⟩ rfl
    have hcw : (runW p (K16 m) [] (0, false)).2.1 = countW p m := rfl
    generalize hst : (runW p (K16 m) [] (0, false)).2 = st at h3 hcw
    obtain ⟨q, b⟩ := st
    simp only at hcw
    have hrf : AExec Try.prog G0 (fun r => r = none) (.rangeFunc (.tmp 17) #[18, 19] as16 bd16) { tmps := (st16d m []).a } (SH p [] [] [.cells 0 [I 0]]) (bif b then .exit 1 else .normal) { tmps := (st16d m []).a, marks := [4] } (SH p [] t' (Z16 { lp16 m b with state := .exhausted } q ++ vars69 5 6 F48 [])) := by
      cases b with
      | false => exact AExec.rangeFunc (m := []) (v := .tup []) (A' := lp16 m false) (evF16 m) (first := []) (σ2 := SH p [] t' ((K16 m).Z (q, false))) h3 rfl nofun (fun _ => ⟨rfl, rfl, rfl⟩) (fun c h => by cases h)
      | true => exact AExec.rangeFunc (m := []) (v := .tup []) (A' := lp16 m true) (evF16 m) (first := []) (σ2 := SH p [] t' ((K16 m).Z (q, true))) h3 rfl nofun (fun h => by cases h) (fun c h => by cases h; exact .exit)
    have x4 := rndM (R := fun r => r = none) (m := [4]) (n := 200) (keep := [4, 5]) (s := st16d m (SH p [] t' (Z16 { lp16 m b with state := .exhausted } q ++ vars69 5 6 F48 []))) (t := st16x q (SH p [] t' (Z16 { lp16 m b with state := .exhausted } q ++ vars69 5 6 F48 []))) clok0 (lpNo (c16c 4)) (congrArg Tree.sel (run16x _ _ _ _ _ _)) (vals16x _ _)
    obtain ⟨fn, c, k1, k2, k3⟩ := fnOf (f := 16) (by kernel_rfl)
    obtain ⟨hres, hnt⟩ := fnFact (f := 16) (rs := [.tmp 4, .tmp 5]) (n := 26) (by kernel_rfl) k1
    have hle : Le ([pAV p, I m] ++ List.replicate (fn.ntmps - [pAV p, I m].length) (.tup [])) (st16a p m []).a := le_args (k := 24) (by rw [hnt]; rfl) (by kernel_rfl)
    have hall : AExec Try.prog G0 (fun r => r = none) (bodyOf Try.prog 16) { tmps := (st16a p m []).a } [.resv, .resv, .resv, .resv] .ret { tmps := (st16x q []).a, marks := [4] } (SH p [] t' (Z16 { lp16 m b with state := .exhausted } q ++ vars69 5 6 F48 [])) := by
      rw [code16]
      exact .seq x0 (.seq x1 (.seq x2 (.seq (.seq x3 (AExec.block_to (id := 1) hrf (by cases b <;> rfl))) x4)))
    rw [k3] at hall
    have key := ACall.of_body_marks (args := [pAV p, I m]) (xs := [I q, I 0]) k1 k2 (names 16 fn k1) (.weak hle hall) (.inr rfl) (by simp) (fun r hr => by rw [List.mem_singleton.1 hr]; rfl) (by rw [hres]; exact res16 _ _)
    rw [cond_true, cond_true, ← hcw]
    exact ACall.out (k := 4) key (re_tup2 re_int re_int) (hbt _ _) hargs h
end Go.Proofs.Ytngaihdpmoajeaa.Am

namespace Go.Proofs.Ytngaihdpmoajeaa.Am
open Go
set_option maxRecDepth 100000

/-! ### The pieces of the loops -/
section
variable {R : Option Nat → Prop} {p : Pb} {a : List Int}
end
end Go.Proofs.Ytngaihdpmoajeaa.Am

namespace Go.Proofs.Ytngaihdpmoajeaa.Am
open Go
set_option maxRecDepth 100000

/-! ### first -/
/-- The first that is found, from k on. -/
def fstL {α : Type} (g : Int → Option α) : Nat → Int → Option α
  | 0, _ => none
  | n + 1, k => match g k with
    | some x => some x
    | none => fstL g n (k + 1)
def frW (p : Pb) : Nat → List Int → Option (List Int)
  | 0, a => some a
  | d + 1, a => fstL (fun k => bif posB p (a ++ [k]) true then frW p d (a ++ [k]) else none) (p.V.getD a.length 0).toNat 0
section
variable {p : Pb} {a : List Int}
/-! ### count -/
def cntK (g : Int → Int → Int) (m : Int) : Nat → Int
  | 0 => 0
  | k + 1 => if cntK g m k < m then cntK g m k + g k (m - cntK g m k) else cntK g m k
def cntW (p : Pb) : Nat → List Int → Int → Int
  | 0, _, _ => 1
  | d + 1, a, m => cntK (fun k m' => bif posB p (a ++ [k]) true then cntW p d (a ++ [k]) m' else 0) m (p.V.getD a.length 0).toNat
end
end Go.Proofs.Ytngaihdpmoajeaa.Am

namespace Go.Proofs.Ytngaihdpmoajeaa.Am
open Go
set_option maxRecDepth 100000

/-- Rounds, one after the other. -/
def runK {α : Type} (g : Int → α → α) (b : α) : Nat → α
  | 0 => b
  | k + 1 => g k (runK g b k)
/-! ### better -/
def btr (p : Pb) (c : Int) (b : Option (List Int)) : Bool := !b.isSome || decide (c < b.elim 0 (costA p))
/-- The best of both. -/
def betW (p : Pb) : Nat → List Int → Option (List Int) → Option (List Int)
  | 0, a, b => bif btr p (costA p a) b then some a else b
  | d + 1, a, b => runK (fun k b => bif posB p (a ++ [k]) true then (bif btr p (boundA p (a ++ [k])) b then betW p d (a ++ [k]) b else b) else b) b (p.V.getD a.length 0).toNat
section
variable {p : Pb} {a : List Int}
end
end Go.Proofs.Ytngaihdpmoajeaa.Am

namespace Go.Proofs.Ytngaihdpmoajeaa.Am
open Go
set_option maxRecDepth 100000

/-- What the reference finds. -/
def refW (p : Pb) (a : List Int) : Option (List Int) := bif posB p a false then betW p (p.V.length - a.length) a none else none
def refF (p : Pb) : Option (List Int) := bif posB p [] false then frW p p.V.length [] else none
def refN (p : Pb) (m : Int) : Int := bif m == 0 || !posB p [] false then 0 else cntW p p.V.length [] m
section
variable {p : Pb}
end
end Go.Proofs.Ytngaihdpmoajeaa.Am

namespace Go.Proofs.Ytngaihdpmoajeaa.Am
open Go
set_option maxRecDepth 100000

noncomputable def body63 : Code := (loopsOf (bodyOf Try.prog 63)).headD .skip
theorem loops63 : loopsOf (bodyOf Try.prog 63) = [body63] := by kernel_rfl
def st63 (L : List (List Int)) (v : AV) (o : AObj) (k : Int) : St := .of 19 [o] [(3, v, true), (6, flLL L, true), (7, I L.length, true), (8, I k, true)]
theorem run63 (q g : Prop) (L : List (List Int)) (v v' : AV) (o o' : AObj) (k : Int) : xBodyT (EH q [(14, [flL (L.getD k.toNat [])], flL (L.getD k.toNat []))] (hApO 23 1 0 [flL (L.getD k.toNat [])] v v' o o' g)) 200 noLoops [3, 6, 7, 8] 1 body63 (st63 L v o k) = .ite (decide (k < (↑L.length : Int))) (.need (((0 : Int) ≤ k) ∧ (k < (↑L.length : Int))) (.need (q) (.need ([(flL (L.getD k.toNat []))] = [(flL (L.getD k.toNat []))]) (.need (((Option.some [v, (AV.sl (1 : Nat) [[(flL (L.getD k.toNat []))]])]) = (Option.some [v, (AV.sl (1 : Nat) [[(flL (L.getD k.toNat []))]])])) ∧ (((Option.some o) = (Option.some o)) ∧ (g))) (.leaf (Exit.normal, St.of 19 [o'] [(3, v', true), (6, (flLL (L)), true), (7, (I ((↑L.length : Int))), true), (8, (I (IntKind.i64.wrap (k + (1 : Int)))), true)])))))) (.leaf ((Exit.exit (0 : Nat)), St.of 19 [o] [(3, v, true), (6, (flLL (L)), true), (7, (I ((↑L.length : Int))), true), (8, (I k), true)])) := by kernel_rfl
theorem runF63 (L : List (List Int)) (v : AV) (o : AObj) (k : Int) : xenter Try.prog {} (xCode Try.prog G0 {} 200 (lpB 3 [3, 6, 7, 8] (st63 L .zs .resv 0) (.exit 0) (st63 L v o k))) 63 [flLL L] [true] [.resv] = .need ((st63 L .zs .resv 0).vals = (st63 L .zs .resv 0).vals) (.leaf (v, true, [o])) := by kernel_rfl
def rowLL (L : List (List Int)) : List (List AV) := L.map fun x => [flL x]
theorem rowLL_app (L : List (List Int)) (x : List Int) : rowLL L ++ [[flL x]] = rowLL (L ++ [x]) := by simp [rowLL]
theorem rowLL_len (L : List (List Int)) : ∀ x ∈ rowLL L, x.length = 1 := fun x hx => by
  obtain ⟨n, _, rfl⟩ := List.mem_map.1 hx; rfl
theorem rowLL_flat {L : List (List Int)} : ∀ x ∈ rowLL L, ∀ y ∈ x, Below 0 y := fun x hx y hy => by
  obtain ⟨n, _, rfl⟩ := List.mem_map.1 hx
  rw [List.mem_singleton.1 hy]
  exact below_flL _
theorem rowLL_getD (L : List (List Int)) {i : Nat} (hi : i < L.length) : (rowLL L).getD i [] = [flL (L.getD i [])] := by
  unfold rowLL
  simp [List.getD_eq_getElem?_getD, hi]
theorem re_lists {π : Nat → Option Nat} {σ : Heap} {r : Nat} {L : List (List Int)} (ho : σ[r]? = some (sO (rowLL L))) (hπ : ∀ q, π q ≠ some r) : Re G0 π σ (sV 1 r (rowLL L)) (flLL L) := by
  have h := re_sV ho hπ (rowLL_len L) (fun x hx y hy => Re.flat (rowLL_flat x hx y hy))
  have e : (rowLL L).length = L.length := by simp [rowLL]
  rw [e] at h
  exact h.conv fun w M v hv => fl_congr (fun i hi => rowLL_getD L hi) hv
theorem grow_LL {L : List (List Int)} (hl : L.length < 16777216) (x : List Int) (r : Nat) : Grow 1 r [flL x] (sV 1 r (rowLL L)) (sV 1 r (rowLL (L ++ [x]))) (sO (rowLL L)) (sO (rowLL (L ++ [x]))) :=
  ⟨rowLL L, rfl, rfl, by rw [rowLL_app], by rw [rowLL_app], rowLL_len L, rfl, fun y hy => by rw [List.mem_singleton.1 hy]; rfl, by simpa [rowLL] using hl⟩
theorem alone_rowLL {m : Nat} (L : List (List Int)) : Alone m (sO (rowLL L)) := alone_sO fun x hx y hy => (rowLL_flat x hx y hy).up
theorem clean63 (L M : List (List Int)) (k : Int) : CleanT 1 (st63 L (sV 1 0 (rowLL M)) (sO (rowLL M)) k) :=
  cleanT_of rfl (one_alone (alone_rowLL M)) ⟨below_sV (by omega), (below_flLL _).up, .int _ _, .int _ _, trivial⟩
theorem take_succL {L : List (List Int)} {k : Nat} (hk : k < L.length) : L.take (k + 1) = L.take k ++ [L.getD k []] := by
  rw [List.take_succ_eq_append_getElem hk, List.getD_eq_getElem?_getD, List.getElem?_eq_getElem hk]
  rfl
theorem loop63 {L : List (List Int)} (hl : L.length < 16777216) (hx : ∀ x ∈ L, x.length ≤ 16777216) : LoopA body63 L.length (fun k => st63 L (sV 1 0 (rowLL (L.take k))) (sO (rowLL (L.take k))) k) (fun k => st63 L (sV 1 0 (rowLL (L.take k))) (sO (rowLL (L.take k))) k) (st63 L (sV 1 0 (rowLL L)) (sO (rowLL L)) L.length) .ret (.exit 0) fun _ => false := by
  refine .linT (m := 1) (fun _ => rfl) rfl nofun (fun k => clean63 L _ k) (clean63 L _ _) fun k hk => ?_
  have key := congrArg Tree.sel (run63 (k < L.length) (k < L.length) L (sV 1 0 (rowLL (L.take k))) (sV 1 0 (rowLL (L.take k ++ [L.getD k []]))) (sO (rowLL (L.take k))) (sO (rowLL (L.take k ++ [L.getD k []]))) k)
  rw [Int.toNat_natCast] at key
  refine ⟨_, _, _, clokH (fun hlt z hz σ => ?_) (hApO_ok els23 fun _ => grow_LL (by rw [List.length_take]; omega) _ 0), lpNo _, fun hlt => key.trans ?_, fun he => key.trans ?_⟩
  · obtain rfl := List.mem_singleton.1 hz
    exact c14d (hx _ (getD_mem hlt)) σ
  · rw [wrapS hlt (by show L.length < _; omega), take_succL hlt]
    exact (selIt (dT (by omega))).trans (t_need ⟨by omega, by omega⟩ (t_need hlt (t_need rfl (t_need ⟨rfl, rfl, hlt⟩ rfl))))
  · rw [selIf (dF (by omega)), he, List.take_length]
    rfl
theorem c63 {L : List (List Int)} (hl : L.length < 16777216) (hx : ∀ x ∈ L, x.length ≤ 16777216) (h : Heap) : ACall Try.prog G0 63 [flLL L] h (flLL L) h := by
  have hc : ACall Try.prog G0 63 [flLL L] [.resv] (sV 1 0 (rowLL L)) [sO (rowLL L)] :=
    ACall.says clok0 ((loop63 hl hx).okB (fun _ _ => rfl) (one_loop loops63)) (runF63 L _ _ _) (says_need rfl says_leaf)
  exact hc.out (k := 1) (re_lists rfl nofun) (below_flLL _) (fun x hx => by rw [List.mem_singleton.1 hx]; exact below_flLL _) h
end Go.Proofs.Ytngaihdpmoajeaa.Am

namespace Go.Proofs.Ytngaihdpmoajeaa.Am
open Go
set_option maxRecDepth 100000

/-- A struct, stored into the object r. -/
def hStA (t : TypeId) (r : Nat) : Heap → Oper → (Operand → Option AV) → Option (AV × Bool × Heap × Prop) := fun h o ρ => match o.op with
  | .store t' x y => bif Nat.beq t' t then (match ρ x with
    | some (.ref r' g off) => bif Nat.beq r' r then (match objAt h r g, ρ y with
      | some c, some (.agg vs) => some (.tup [], false, h.set r (.cells g (setL c off vs)), (Try.prog.info? t).map (·.size) = some vs.length ∧ vs.all AV.one = true ∧ off + vs.length ≤ c.length)
      | _, _ => none) else none
    | _ => none) else none
  | _ => none
theorem hStA_ok (t : TypeId) (r : Nat) : HintA Try.prog (hStA t r) := by
  intro h o ρ y s h' p hh hp
  unfold hStA at hh
  split at hh <;> first | (cases hh; done) | skip
  rename_i t' x y' ho
  cases ht : Nat.beq t' t with
  | false => rw [ht] at hh; cases hh
  | true =>
  rw [ht, cond_true] at hh
  obtain rfl := Nat.eq_of_beq_eq_true ht
  split at hh <;> first | (cases hh; done) | skip
  rename_i r' g off hx
  cases hr : Nat.beq r' r with
  | false => rw [hr] at hh; cases hh
  | true =>
  rw [hr, cond_true] at hh
  obtain rfl := Nat.eq_of_beq_eq_true hr
  split at hh <;> first | (cases hh; done) | skip
  rename_i c vs hc hy
  cases hh
  obtain ⟨p1, p2, p3⟩ := hp
  obtain ⟨i, e1, e2⟩ := Option.map_eq_some_iff.1 p1
  have ec : (AV.agg vs).cells = vs := rfl
  unfold aopR
  simp only [ho, hx, hy, aStore, e1, hc]
  rw [ec, if_pos ⟨e2.symm, by omega, p2⟩]
  rfl
def zPb : List AV := [.zs, .zs, .zs]
noncomputable def body31 : Code := (loopsOf (bodyOf Try.prog 31)).headD .skip
theorem loops31 : loopsOf (bodyOf Try.prog 31) = [body31] := by kernel_rfl
def st31 (p : Pb) (D : List Int) (v : AV) (o : AObj) (k : Int) : St := .of 49 [o, .cells 0 zPb, .cells 0 [flL p.V, flLL p.C, v]] [(1, flL D, true), (2, .row (pbC p) 0, true), (4, .ref 1 0 0, true), (5, .fn 63 [] [], true), (6, .ref 2 0 0, true), (22, flR p.R, true), (23, I p.R.length, true), (24, I k, true)]
def keep31 : List Nat := [1, 2, 4, 5, 6, 22, 23, 24]
def E31 (q g : Prop) (D : List Int) (x : Rl) (b : Bool) (v v' : AV) (o o' : AObj) : Env := EH q [(35, [flL D, I x.d], .bool b), (14, [flL x.v], flL x.v), (63, [flLL x.w], flLL x.w)] (orH (hApO 24 4 0 (rlC x) v v' o o' g) (hSto 24 2))
theorem run31 (q g : Prop) (p : Pb) (D : List Int) (b : Bool) (v v' : AV) (o o' : AObj) (k : Int) : xBodyT (E31 q g D (p.R.getD k.toNat r0) b v v' o o') 200 noLoops keep31 3 body31 (st31 p D v o k) = .ite (decide (k < (↑p.R.length : Int))) (.need (((0 : Int) ≤ k) ∧ (k < (↑p.R.length : Int))) (.need (q) (.need ([(flL (D)), (I ((p.R.getD k.toNat r0).d))] = [(flL (D)), (I ((p.R.getD k.toNat r0).d))]) (.ite (b) (.need (q) (.need ([(flL ((p.R.getD k.toNat r0).v))] = [(flL ((p.R.getD k.toNat r0).v))]) (.need (q) (.need ([(flLL ((p.R.getD k.toNat r0).w))] = [(flLL ((p.R.getD k.toNat r0).w))]) (.need (((Option.some [v, (AV.sl (4 : Nat) [[(I ((p.R.getD k.toNat r0).d)), (flL ((p.R.getD k.toNat r0).v)), (flLL ((p.R.getD k.toNat r0).w)), (I ((p.R.getD k.toNat r0).m))]])]) = (Option.some [v, (AV.sl (4 : Nat) [[(I ((p.R.getD k.toNat r0).d)), (flL ((p.R.getD k.toNat r0).v)), (flLL ((p.R.getD k.toNat r0).w)), (I ((p.R.getD k.toNat r0).m))]])])) ∧ (((Option.some o) = (Option.some o)) ∧ (g))) (.need (((AV.one v') = true) ∧ ((2 : Nat) < (3 : Nat))) (.leaf (Exit.normal, St.of 49 [o', (AObj.cells (0 : Nat) [AV.zs, AV.zs, AV.zs]), (AObj.cells (0 : Nat) (setL [(flL (p.V)), (flLL (p.C)), v] (2 : Nat) [v']))] [(1, (flL (D)), true), (2, (AV.row [(flL (p.V)), (flLL (p.C)), (flR (p.R))] (0 : Nat)), true), (4, (AV.ref (1 : Nat) (0 : Nat) (0 : Nat)), true), (5, (AV.fn (63 : Nat) [] []), true), (6, (AV.ref (2 : Nat) (0 : Nat) (0 : Nat)), true), (22, (flR (p.R)), true), (23, (I ((↑p.R.length : Int))), true), (24, (I (IntKind.i64.wrap (k + (1 : Int)))), true)])))))))) (.leaf (Exit.normal, St.of 49 [o, (AObj.cells (0 : Nat) [AV.zs, AV.zs, AV.zs]), (AObj.cells (0 : Nat) [(flL (p.V)), (flLL (p.C)), v])] [(1, (flL (D)), true), (2, (AV.row [(flL (p.V)), (flLL (p.C)), (flR (p.R))] (0 : Nat)), true), (4, (AV.ref (1 : Nat) (0 : Nat) (0 : Nat)), true), (5, (AV.fn (63 : Nat) [] []), true), (6, (AV.ref (2 : Nat) (0 : Nat) (0 : Nat)), true), (22, (flR (p.R)), true), (23, (I ((↑p.R.length : Int))), true), (24, (I (IntKind.i64.wrap (k + (1 : Int)))), true)])))))) (.leaf ((Exit.exit (0 : Nat)), St.of 49 [o, (AObj.cells (0 : Nat) [AV.zs, AV.zs, AV.zs]), (AObj.cells (0 : Nat) [(flL (p.V)), (flLL (p.C)), v])] [(1, (flL (D)), true), (2, (AV.row [(flL (p.V)), (flLL (p.C)), (flR (p.R))] (0 : Nat)), true), (4, (AV.ref (1 : Nat) (0 : Nat) (0 : Nat)), true), (5, (AV.fn (63 : Nat) [] []), true), (6, (AV.ref (2 : Nat) (0 : Nat) (0 : Nat)), true), (22, (flR (p.R)), true), (23, (I ((↑p.R.length : Int))), true), (24, (I k), true)])) := by kernel_rfl
noncomputable def mv31 (V : List Int) (C : List (List Int)) : Nat → Option (List Nat × (Nat → Heap)) := fun id => bif Nat.beq id 4 then some ([8, 9], fun n => match n with
  | 0 => [.resv, .cells 0 zPb]
  | 1 => [.resv, .cells 0 zPb, .cells 0 zPb]
  | _ => [.resv, .cells 0 zPb, .cells 0 [flL V, flLL C, .zs]]) else none
theorem runF31 (p : Pb) (D : List Int) (v : AV) (o : AObj) (k : Int) : xenter Try.prog (EH True [(28, [pAV p], .bool true), (14, [flL p.V], flL p.V), (63, [flLL p.C], flLL p.C)] (hStA 26 1)) (xCodeM Try.prog G0 (EH True [(28, [pAV p], .bool true), (14, [flL p.V], flL p.V), (63, [flLL p.C], flLL p.C)] (hStA 26 1)) (mv31 p.V p.C) 200 (lpB 6 keep31 (st31 p D .zs .resv 0) (.exit 0) (st31 p D v o k))) 31 [pAV p, flL D] [true, true] [.resv] = .need (True) (.need ([(AV.agg [(flL (p.V)), (flLL (p.C)), (flR (p.R))])] = [(AV.agg [(flL (p.V)), (flLL (p.C)), (flR (p.R))])]) (.ite (!true) (.need (((Option.some (3 : Nat)) = (Option.some (3 : Nat))) ∧ ((true = true) ∧ ((0 : Nat) + [AV.zs, AV.zs, AV.zs].length ≤ (AV.agg [AV.zs, AV.zs, AV.zs]).cells.length))) (.leaf ((AV.agg [AV.zs, AV.zs, AV.zs]), true, [AObj.resv, (AObj.cells (0 : Nat) (setL [AV.zs, AV.zs, AV.zs] (0 : Nat) [AV.zs, AV.zs, AV.zs]))]))) (.need ([AObj.resv, (AObj.cells (0 : Nat) [AV.zs, AV.zs, AV.zs])] = [AObj.resv, (AObj.cells (0 : Nat) [AV.zs, AV.zs, AV.zs])]) (.need ([AObj.resv, (AObj.cells (0 : Nat) [AV.zs, AV.zs, AV.zs])] = [AObj.resv, (AObj.cells (0 : Nat) [AV.zs, AV.zs, AV.zs])]) (.need (((AV.row [(flL (p.V)), (flLL (p.C)), (flR (p.R))] (0 : Nat)) = (AV.row [(flL (p.V)), (flLL (p.C)), (flR (p.R))] (0 : Nat))) ∧ ([AObj.resv, (AObj.cells (0 : Nat) [AV.zs, AV.zs, AV.zs]), (AObj.cells (0 : Nat) [AV.zs, AV.zs, AV.zs])] = [AObj.resv, (AObj.cells (0 : Nat) [AV.zs, AV.zs, AV.zs]), (AObj.cells (0 : Nat) [AV.zs, AV.zs, AV.zs])])) (.need ([AObj.resv, (AObj.cells (0 : Nat) [AV.zs, AV.zs, AV.zs])] = [AObj.resv, (AObj.cells (0 : Nat) [AV.zs, AV.zs, AV.zs])]) (.need (((flL (p.V)) = (flL (p.V))) ∧ ([AObj.resv, (AObj.cells (0 : Nat) [AV.zs, AV.zs, AV.zs]), (AObj.cells (0 : Nat) [AV.zs, AV.zs, AV.zs])] = [AObj.resv, (AObj.cells (0 : Nat) [AV.zs, AV.zs, AV.zs]), (AObj.cells (0 : Nat) [AV.zs, AV.zs, AV.zs])])) (.need (True) (.need ([(flL (p.V))] = [(flL (p.V))]) (.need ([AObj.resv, (AObj.cells (0 : Nat) [AV.zs, AV.zs, AV.zs])] = [AObj.resv, (AObj.cells (0 : Nat) [AV.zs, AV.zs, AV.zs])]) (.need (True) (.need ([(flL (p.V))] = [(flL (p.V))]) (.need (((flL (p.V)) = (flL (p.V))) ∧ ([AObj.resv, (AObj.cells (0 : Nat) [AV.zs, AV.zs, AV.zs]), (AObj.cells (0 : Nat) [AV.zs, AV.zs, AV.zs])] = [AObj.resv, (AObj.cells (0 : Nat) [AV.zs, AV.zs, AV.zs]), (AObj.cells (0 : Nat) [AV.zs, AV.zs, AV.zs])])) (.need ([AObj.resv, (AObj.cells (0 : Nat) [AV.zs, AV.zs, AV.zs])] = [AObj.resv, (AObj.cells (0 : Nat) [AV.zs, AV.zs, AV.zs])]) (.need (((AV.fn (63 : Nat) [] []) = (AV.fn (63 : Nat) [] [])) ∧ ([AObj.resv, (AObj.cells (0 : Nat) [AV.zs, AV.zs, AV.zs]), (AObj.cells (0 : Nat) [AV.zs, AV.zs, AV.zs])] = [AObj.resv, (AObj.cells (0 : Nat) [AV.zs, AV.zs, AV.zs]), (AObj.cells (0 : Nat) [AV.zs, AV.zs, AV.zs])])) (.need ([AObj.resv, (AObj.cells (0 : Nat) [AV.zs, AV.zs, AV.zs])] = [AObj.resv, (AObj.cells (0 : Nat) [AV.zs, AV.zs, AV.zs])]) (.need (((AV.row [(flL (p.V)), (flLL (p.C)), (flR (p.R))] (1 : Nat)) = (AV.row [(flL (p.V)), (flLL (p.C)), (flR (p.R))] (1 : Nat))) ∧ ([AObj.resv, (AObj.cells (0 : Nat) [AV.zs, AV.zs, AV.zs]), (AObj.cells (0 : Nat) [AV.zs, AV.zs, AV.zs])] = [AObj.resv, (AObj.cells (0 : Nat) [AV.zs, AV.zs, AV.zs]), (AObj.cells (0 : Nat) [AV.zs, AV.zs, AV.zs])])) (.need ([AObj.resv, (AObj.cells (0 : Nat) [AV.zs, AV.zs, AV.zs])] = [AObj.resv, (AObj.cells (0 : Nat) [AV.zs, AV.zs, AV.zs])]) (.need (((flLL (p.C)) = (flLL (p.C))) ∧ ([AObj.resv, (AObj.cells (0 : Nat) [AV.zs, AV.zs, AV.zs]), (AObj.cells (0 : Nat) [AV.zs, AV.zs, AV.zs])] = [AObj.resv, (AObj.cells (0 : Nat) [AV.zs, AV.zs, AV.zs]), (AObj.cells (0 : Nat) [AV.zs, AV.zs, AV.zs])])) (.need (True) (.need ([(flLL (p.C))] = [(flLL (p.C))]) (.need ([AObj.resv, (AObj.cells (0 : Nat) [AV.zs, AV.zs, AV.zs])] = [AObj.resv, (AObj.cells (0 : Nat) [AV.zs, AV.zs, AV.zs])]) (.need (True) (.need ([(flLL (p.C))] = [(flLL (p.C))]) (.need (((flLL (p.C)) = (flLL (p.C))) ∧ ([AObj.resv, (AObj.cells (0 : Nat) [AV.zs, AV.zs, AV.zs]), (AObj.cells (0 : Nat) [AV.zs, AV.zs, AV.zs])] = [AObj.resv, (AObj.cells (0 : Nat) [AV.zs, AV.zs, AV.zs]), (AObj.cells (0 : Nat) [AV.zs, AV.zs, AV.zs])])) (.need ([AObj.resv, (AObj.cells (0 : Nat) [AV.zs, AV.zs, AV.zs])] = [AObj.resv, (AObj.cells (0 : Nat) [AV.zs, AV.zs, AV.zs])]) (.need (((AV.agg (setL (setL [AV.zs, AV.zs, AV.zs] (0 : Nat) [(flL (p.V))]) (1 : Nat) [(flLL (p.C))])) = (AV.agg (setL (setL [AV.zs, AV.zs, AV.zs] (0 : Nat) [(flL (p.V))]) (1 : Nat) [(flLL (p.C))]))) ∧ ([AObj.resv, (AObj.cells (0 : Nat) [AV.zs, AV.zs, AV.zs]), (AObj.cells (0 : Nat) [AV.zs, AV.zs, AV.zs])] = [AObj.resv, (AObj.cells (0 : Nat) [AV.zs, AV.zs, AV.zs]), (AObj.cells (0 : Nat) [AV.zs, AV.zs, AV.zs])])) (.need ([AObj.resv, (AObj.cells (0 : Nat) [AV.zs, AV.zs, AV.zs]), (AObj.cells (0 : Nat) [AV.zs, AV.zs, AV.zs])] = [AObj.resv, (AObj.cells (0 : Nat) [AV.zs, AV.zs, AV.zs]), (AObj.cells (0 : Nat) [AV.zs, AV.zs, AV.zs])]) (.need ([AObj.resv, (AObj.cells (0 : Nat) [AV.zs, AV.zs, AV.zs]), (AObj.cells (0 : Nat) (setL [AV.zs, AV.zs, AV.zs] (0 : Nat) [(flL (p.V)), (flLL (p.C)), AV.zs]))] = [AObj.resv, (AObj.cells (0 : Nat) [AV.zs, AV.zs, AV.zs]), (AObj.cells (0 : Nat) [(flL (p.V)), (flLL (p.C)), AV.zs])]) (.need ((st31 p D .zs .resv 0).vals = (st31 p D .zs .resv 0).vals) (.need (((Option.some (3 : Nat)) = (Option.some (3 : Nat))) ∧ ((((List.take Try.prog.types[(26 : Nat)].size (List.drop (0 : Nat) [flL p.V, flLL p.C, v])).all AV.one) = true) ∧ ((0 : Nat) + (List.take Try.prog.types[(26 : Nat)].size (List.drop (0 : Nat) [flL p.V, flLL p.C, v])).length ≤ zPb.length))) (.leaf ((AV.agg [(flL (p.V)), (flLL (p.C)), v]), true, [o, (AObj.cells (0 : Nat) (setL [AV.zs, AV.zs, AV.zs] (0 : Nat) [(flL (p.V)), (flLL (p.C)), v])), (AObj.cells (0 : Nat) [(flL (p.V)), (flLL (p.C)), v])]))))))))))))))))))))))))))))))))) := by kernel_rfl
theorem runG31 (p : Pb) (D : List Int) : xenter Try.prog (EG True [(28, [pAV p], .bool false)]) (xCode Try.prog G0 (EG True [(28, [pAV p], .bool false)]) 200 (lpF 6 keep31 (st31 p D .zs .resv 0))) 31 [pAV p, flL D] [true, true] [] = .need (True) (.need ([(AV.agg [(flL (p.V)), (flLL (p.C)), (flR (p.R))])] = [(AV.agg [(flL (p.V)), (flLL (p.C)), (flR (p.R))])]) (.ite (!false) (.leaf ((AV.agg [AV.zs, AV.zs, AV.zs]), true, [(AObj.cells (0 : Nat) (setL [AV.zs, AV.zs, AV.zs] (0 : Nat) [AV.zs, AV.zs, AV.zs]))])) .fail)) := by kernel_rfl
end Go.Proofs.Ytngaihdpmoajeaa.Am

namespace Go.Proofs.Ytngaihdpmoajeaa.Am
open Go
set_option maxRecDepth 100000

def rowR (R : List Rl) : List (List AV) := R.map rlC
theorem rowR_app (R : List Rl) (x : Rl) : rowR R ++ [rlC x] = rowR (R ++ [x]) := by simp [rowR]
theorem rowR_len (R : List Rl) : ∀ x ∈ rowR R, x.length = 4 := fun x hx => by
  obtain ⟨n, _, rfl⟩ := List.mem_map.1 hx; rfl
theorem below_rlC (x : Rl) : ∀ y ∈ rlC x, Below 0 y := fun y hy => by
  simp only [rlC, List.mem_cons, List.not_mem_nil, or_false] at hy
  rcases hy with rfl | rfl | rfl | rfl
  · exact .int _ _
  · exact below_flL _
  · exact below_flLL _
  · exact .int _ _
theorem rowR_flat {R : List Rl} : ∀ x ∈ rowR R, ∀ y ∈ x, Below 0 y := fun x hx y hy => by
  obtain ⟨n, _, rfl⟩ := List.mem_map.1 hx
  exact below_rlC n y hy
theorem rowR_getD (R : List Rl) {i : Nat} (hi : i < R.length) : (rowR R).getD i [] = rlC (R.getD i r0) := by
  unfold rowR
  simp [List.getD_eq_getElem?_getD, hi]
theorem re_rules {π : Nat → Option Nat} {σ : Heap} {r : Nat} {R : List Rl} (ho : σ[r]? = some (sO (rowR R))) (hπ : ∀ q, π q ≠ some r) : Re G0 π σ (sV 4 r (rowR R)) (flR R) := by
  have h := re_sV ho hπ (rowR_len R) (fun x hx y hy => Re.flat (rowR_flat x hx y hy))
  have e : (rowR R).length = R.length := by simp [rowR]
  rw [e] at h
  exact h.conv fun w M v hv => fl_congr (fun i hi => rowR_getD R hi) hv
theorem one_rlC (x : Rl) : ∀ y ∈ rlC x, y.one = true := fun y hy => by
  simp only [rlC, List.mem_cons, List.not_mem_nil, or_false] at hy
  rcases hy with rfl | rfl | rfl | rfl <;> rfl
theorem grow_R {R : List Rl} (hl : R.length < 16777216) (x : Rl) (r : Nat) : Grow 4 r (rlC x) (sV 4 r (rowR R)) (sV 4 r (rowR (R ++ [x]))) (sO (rowR R)) (sO (rowR (R ++ [x]))) :=
  ⟨rowR R, rfl, rfl, by rw [rowR_app], by rw [rowR_app], rowR_len R, rfl, one_rlC x, by simpa [rowR] using hl⟩
theorem alone_3 {V : List Int} {C : List (List Int)} (R : List Rl) : ∀ o ∈ ([sO (rowR R), .cells 0 zPb, .cells 0 [flL V, flLL C, sV 4 0 (rowR R)]] : Heap), Alone 3 o := fun o ho => by
  simp only [List.mem_cons, List.not_mem_nil, or_false] at ho
  rcases ho with rfl | rfl | rfl
  · exact alone_sO fun x hx y hy => (rowR_flat x hx y hy).up
  · intro y hy
    simp only [zPb, List.mem_cons, List.not_mem_nil, or_false] at hy
    rcases hy with rfl | rfl | rfl <;> exact .zs
  · intro y hy
    simp only [List.mem_cons, List.not_mem_nil, or_false] at hy
    rcases hy with rfl | rfl | rfl
    · exact (below_flL _).up
    · exact (below_flLL _).up
    · exact below_sV (by omega)
theorem tk26 (a b c : AV) : List.take Try.prog.types[(26 : Nat)].size (List.drop 0 [a, b, c]) = [a, b, c] := by kernel_rfl
theorem need26 (V : List Int) (C : List (List Int)) (L : List (List AV)) : ((some (3 : Nat) : Option Nat) = some 3) ∧ ((List.take Try.prog.types[(26 : Nat)].size (List.drop 0 [flL V, flLL C, sV 4 0 L])).all AV.one = true) ∧ (0 + (List.take Try.prog.types[(26 : Nat)].size (List.drop 0 [flL V, flLL C, sV 4 0 L])).length ≤ zPb.length) := by
  rw [tk26]
  refine ⟨rfl, ?_, by show 3 ≤ 3; omega⟩
  simp only [List.all_cons, one_sV]
  rfl
theorem re_pb {π : Nat → Option Nat} {σ : Heap} {r : Nat} {p : Pb} (ho : σ[r]? = some (sO (rowR p.R))) (hπ : ∀ q, π q ≠ some r) : Re G0 π σ (.agg [flL p.V, flLL p.C, sV 4 r (rowR p.R)]) (pAV p) := Re.agg rfl fun j y hj => by
  match j, hj with
  | 0, hj => cases hj; exact ⟨_, rfl, Re.flat (below_flL _)⟩
  | 1, hj => cases hj; exact ⟨_, rfl, Re.flat (below_flLL _)⟩
  | 2, hj => cases hj; exact ⟨_, rfl, re_rules ho hπ⟩
  | j + 3, hj => simp [pbC] at hj
theorem take_succR {R : List Rl} {k : Nat} (hk : k < R.length) : R.take (k + 1) = R.take k ++ [R.getD k r0] := by
  rw [List.take_succ_eq_append_getElem hk, List.getD_eq_getElem?_getD, List.getElem?_eq_getElem hk]
  rfl
/-! ### own -/
theorem ACall.saysM {E : Env} (hcl : ClOk Try.prog G0 E) {mv : Nat → Option (List Nat × (Nat → Heap))} {lp : Loops} {n : Nat} {f : FuncId} (hi : ((Try.prog.funcs[f]?).bind (·.body)).isSome = true) (hlp : LoopsOk Try.prog G0 (fun r => r = none) [] lp (bodyOf Try.prog f)) {xs : List AV} {tags : List Bool} {h h' : Heap} {v : AV} {t : Tree (AV × Bool × Heap)}
    (he : xenter Try.prog E (xCodeM Try.prog G0 E mv n lp) f xs tags h = t) (hs : Says t v h') : ACall Try.prog G0 f xs h v h' := by
  obtain ⟨s, hs⟩ := hs
  obtain ⟨fn, c, k1, k2, k3⟩ := fnOf hi
  rw [k3] at hlp
  exact xFnM_ok names mixed hcl k1 k2 hlp ((congrArg Tree.sel he).trans hs)
/-! ### Only -/
def pb0 : Pb := ⟨[], [], []⟩
def onlyP (p : Pb) (D : List Int) : Pb := bif validP p then ⟨p.V, p.C, p.R.filter fun x => D.contains x.d⟩ else pb0
theorem re_pb0 {π : Nat → Option Nat} {σ : Heap} : Re G0 π σ (.agg zPb) (pAV pb0) := Re.agg rfl fun j y hj => by
  match j, hj with
  | 0, hj => cases hj; exact ⟨_, rfl, re_zs⟩
  | 1, hj => cases hj; exact ⟨_, rfl, fun _ _ _ _ hv => by cases hv; exact .fl _ _ _ _ (.sl0 _ _ _)⟩
  | 2, hj => cases hj; exact ⟨_, rfl, fun _ _ _ _ hv => by cases hv; exact .fl _ _ _ _ (.sl0 _ _ _)⟩
  | j + 3, hj => simp [pbC] at hj
theorem filter_succ {R : List Rl} {k : Nat} (hk : k < R.length) (q : Rl → Bool) : (R.take (k + 1)).filter q = bif q (R.getD k r0) then (R.take k).filter q ++ [R.getD k r0] else (R.take k).filter q := by
  rw [take_succR hk, List.filter_append]
  generalize R.getD k r0 = x
  cases h : q x <;> simp [h]
theorem clean31 (p : Pb) (D : List Int) (R : List Rl) (k : Int) : CleanT 3 (st31 p D (sV 4 0 (rowR R)) (sO (rowR R)) k) :=
  cleanT_of rfl (alone_3 R) ⟨(below_flL _).up, (below_row (below_pb p)).up, .ref _ _ _ (by omega), .fn _ _ _ (fun _ _ h => by simp at h) (fun _ _ h => by simp at h), .ref _ _ _ (by omega), (below_flR _).up, .int _ _, .int _ _, trivial⟩
theorem rule_small {p : Pb} (hp : Ok p) {x : Rl} (hx : OkRule p.V x) : x.v.length ≤ 24 ∧ x.w.length ≤ 24 ∧ ∀ l ∈ x.w, l.length ≤ 16 := by
  have h1 := rule_len hx
  have h2 := hp.n
  have h3 := hx.len
  refine ⟨by omega, by omega, fun l hl => ?_⟩
  obtain ⟨k, hk, rfl⟩ := List.mem_iff_getElem.1 hl
  have h4 := hx.wl k (by omega)
  have h5 := hx.v k (by omega)
  have h6 := hp.v (x.v.getD k 0).toNat (by omega)
  rw [List.getD_eq_getElem?_getD, List.getElem?_eq_getElem hk] at h4
  simp only [Option.getD_some] at h4
  omega
theorem cost_small {p : Pb} (hp : Ok p) : ∀ l ∈ p.C, l.length ≤ 16 := fun l hl => by
  obtain ⟨k, hk, rfl⟩ := List.mem_iff_getElem.1 hl
  have h1 := hp.c
  have h4 := hp.cl k (by omega)
  have h6 := hp.v k (by omega)
  rw [List.getD_eq_getElem?_getD, List.getElem?_eq_getElem hk] at h4
  simp only [Option.getD_some] at h4
  omega
theorem loop31 {p : Pb} (hp : Ok p) {D : List Int} (hD : sh D) : LoopA body31 p.R.length (fun k => st31 p D (sV 4 0 (rowR ((p.R.take k).filter fun x => D.contains x.d))) (sO (rowR ((p.R.take k).filter fun x => D.contains x.d))) k) (fun k => st31 p D (sV 4 0 (rowR ((p.R.take k).filter fun x => D.contains x.d))) (sO (rowR ((p.R.take k).filter fun x => D.contains x.d))) k) (st31 p D (sV 4 0 (rowR (p.R.filter fun x => D.contains x.d))) (sO (rowR (p.R.filter fun x => D.contains x.d))) p.R.length) .ret (.exit 0) fun _ => false := by
  refine .linT (m := 3) (fun _ => rfl) rfl nofun (fun k => clean31 p D _ k) (clean31 p D _ _) fun k hk => ?_
  have key := congrArg Tree.sel (run31 True True p D (D.contains (p.R.getD k r0).d) (sV 4 0 (rowR ((p.R.take k).filter fun x => D.contains x.d))) (sV 4 0 (rowR ((p.R.take k).filter (fun x => D.contains x.d) ++ [p.R.getD k r0]))) (sO (rowR ((p.R.take k).filter fun x => D.contains x.d))) (sO (rowR ((p.R.take k).filter (fun x => D.contains x.d) ++ [p.R.getD k r0]))) k)
  rw [Int.toNat_natCast] at key
  have hx := rule_small hp (rule_getD hp k)
  have hr := hp.r
  have hlen : ((p.R.take k).filter fun x => D.contains x.d).length ≤ k := by
    have := List.length_filter_le (fun x : Rl => D.contains x.d) (p.R.take k)
    rw [List.length_take] at this
    omega
  refine ⟨E31 True True D (p.R.getD k r0) (D.contains (p.R.getD k r0).d) _ _ _ _, _, _, clokH (fun _ z hz σ => ?_) ((hApO_ok els24 fun _ => grow_R (by omega) (p.R.getD k r0) 0).or (hSto_ok 2 (one_of (by kernel_rfl))).ok), lpNo _, fun hlt => key.trans ?_, fun he => key.trans ?_⟩
  · simp only [List.mem_cons, List.not_mem_nil, or_false] at hz
    rcases hz with rfl | rfl | rfl
    · exact c35 hD _ σ
    · exact c14d (by omega) σ
    · exact c63 (by omega) (fun l hl => by have := hx.2.2 l hl; omega) σ
  · rw [wrapS hlt (by show p.R.length < _; omega), filter_succ hlt]
    refine (selIt (dT (by omega))).trans (t_need ⟨by omega, by omega⟩ (t_need trivial (t_need rfl (t_ite (fun h1 => ?_) fun h1 => ?_))))
    · rw [h1]
      exact t_need trivial (t_need rfl (t_need trivial (t_need rfl (t_need ⟨rfl, rfl, trivial⟩ (t_need ⟨one_sV, by omega⟩ rfl)))))
    · rw [h1]
      rfl
  · rw [selIf (dF (by omega)), he, List.take_length]
    rfl
/-- WHAT Only RETURNS. -/
theorem c31 {p : Pb} (hs : p.sh) {D : List Int} (hD : sh D) (h : Heap) : ACall Try.prog G0 31 [pAV p, flL D] h (pAV (onlyP p D)) h := by
  unfold onlyP
  cases hv : validP p with
  | false =>
    have hc : ACall Try.prog G0 31 [pAV p, flL D] [] (.agg zPb) _ := ACall.says (clokG1 fun _ => hv ▸ c28 hs) (lpF_ok 6 _ _ _) (runG31 p D) (says_need trivial (says_need rfl (says_ite (fun _ => says_leaf) fun h => by cases h)))
    exact ACall.out (k := 0) hc re_pb0 (below_pAV _) below_args2 h
  | true =>
    have hp := valid_iff.1 hv
    have hn := hp.n
    have hcc := hp.c
    have hcl : ClOk Try.prog G0 (EH True [(28, [pAV p], .bool true), (14, [flL p.V], flL p.V), (63, [flLL p.C], flLL p.C)] (hStA 26 1)) := clokH (fun _ z hz σ => by
      simp only [List.mem_cons, List.not_mem_nil, or_false] at hz
      rcases hz with rfl | rfl | rfl
      · exact hv ▸ c28 hs σ
      · exact c14d (by omega) σ
      · exact c63 (by omega) (fun l hl => by have := cost_small hp l hl; omega) σ) (hStA_ok 26 1).ok
    have hlp := (loop31 hp hD).okB (fun _ _ => rfl) (c := bodyOf Try.prog 31) (i := 6) (keep := keep31) (one_loop loops31)
    have hc : ACall Try.prog G0 31 [pAV p, flL D] [.resv] (.agg [flL p.V, flLL p.C, sV 4 0 (rowR (p.R.filter fun x => D.contains x.d))]) [sO (rowR (p.R.filter fun x => D.contains x.d)), .cells 0 [flL p.V, flLL p.C, sV 4 0 (rowR (p.R.filter fun x => D.contains x.d))], .cells 0 [flL p.V, flLL p.C, sV 4 0 (rowR (p.R.filter fun x => D.contains x.d))]] := by
      refine ACall.saysM hcl (by kernel_rfl) hlp (runF31 p D _ _ _) ?_
      refine says_need trivial (says_need rfl (says_ite (fun h => by cases h) fun _ => ?_))
      repeat refine says_need (by first | exact rfl | exact ⟨rfl, rfl⟩ | exact trivial | exact need26 _ _ _) ?_
      exact says_leaf
    exact hc.out (k := 1) (re_pb (p := ⟨p.V, p.C, p.R.filter fun x => D.contains x.d⟩) rfl nofun) (below_pAV _) below_args2 h
end Go.Proofs.Ytngaihdpmoajeaa.Am

namespace Go.Proofs.Ytngaihdpmoajeaa.Am
open Go
set_option maxRecDepth 100000

theorem run62 (q : Prop) (x y : Rl) (b c : Bool) (h : Heap) : xCall Try.prog G0 (EG q [(23, [flL x.v, flL y.v], .bool b), (60, [flLL x.w, flLL y.w, .fn 23 [] []], .bool c)]) 200 62 [.agg (rlC x), .agg (rlC y)] [true, true] h = .ite (x.d == y.d) (.ite (x.m == y.m) (.need (q) (.need ([(flL (x.v)), (flL (y.v))] = [(flL (x.v)), (flL (y.v))]) (.ite (b) (.need (q) (.need ([(flLL (x.w)), (flLL (y.w)), (AV.fn (23 : Nat) [] [])] = [(flLL (x.w)), (flLL (y.w)), (AV.fn (23 : Nat) [] [])]) (.leaf ((AV.bool c), true, h)))) (.leaf ((AV.bool false), false, h))))) (.leaf ((AV.bool false), false, h))) (.leaf ((AV.bool false), false, h)) := by kernel_rfl
noncomputable def body61 : Code := (loopsOf (bodyOf Try.prog 61)).headD .skip
theorem loops61 : loopsOf (bodyOf Try.prog 61) = [body61] := by kernel_rfl
def st61 (a b : List Rl) (k : Int) (h : Heap) : St := .of 32 h [(1, flR b, true), (2, .fn 62 [] [], true), (6, .bool false, false), (15, flR a, true), (16, I a.length, true), (17, I k, true)]
theorem run61 (q : Prop) (a b : List Rl) (k : Int) (t : Bool) : xBody0 Try.prog G0 (EG q [(62, [.agg (rlC (a.getD k.toNat r0)), .agg (rlC (b.getD k.toNat r0))], .bool t)]) 200 noLoops [1, 2, 6, 15, 16, 17] body61 (st61 a b k []) = .ite (decide (k < (↑a.length : Int))) (.need (((0 : Int) ≤ k) ∧ (k < (↑a.length : Int))) (.need (((0 : Int) ≤ k) ∧ (k < (↑b.length : Int))) (.need (q) (.need ([(AV.agg [(I ((a.getD k.toNat r0).d)), (flL ((a.getD k.toNat r0).v)), (flLL ((a.getD k.toNat r0).w)), (I ((a.getD k.toNat r0).m))]), (AV.agg [(I ((b.getD k.toNat r0).d)), (flL ((b.getD k.toNat r0).v)), (flLL ((b.getD k.toNat r0).w)), (I ((b.getD k.toNat r0).m))])] = [(AV.agg [(I ((a.getD k.toNat r0).d)), (flL ((a.getD k.toNat r0).v)), (flLL ((a.getD k.toNat r0).w)), (I ((a.getD k.toNat r0).m))]), (AV.agg [(I ((b.getD k.toNat r0).d)), (flL ((b.getD k.toNat r0).v)), (flLL ((b.getD k.toNat r0).w)), (I ((b.getD k.toNat r0).m))])]) (.ite (!t) (.leaf (Exit.ret, St.of 32 [] [(1, (flR (b)), true), (2, (AV.fn (62 : Nat) [] []), true), (6, (AV.bool false), false), (15, (flR (a)), true), (16, (I ((↑a.length : Int))), true), (17, (I k), true)])) (.leaf (Exit.normal, St.of 32 [] [(1, (flR (b)), true), (2, (AV.fn (62 : Nat) [] []), true), (6, (AV.bool false), false), (15, (flR (a)), true), (16, (I ((↑a.length : Int))), true), (17, (I (IntKind.i64.wrap (k + (1 : Int)))), true)]))))))) (.leaf ((Exit.exit (0 : Nat)), St.of 32 [] [(1, (flR (b)), true), (2, (AV.fn (62 : Nat) [] []), true), (6, (AV.bool false), false), (15, (flR (a)), true), (16, (I ((↑a.length : Int))), true), (17, (I k), true)])) := by kernel_rfl
theorem runF61 (a b : List Rl) (t : Bool) (k1 k2 : Int) (h : Heap) : xenter Try.prog {} (xCode Try.prog G0 {} 200 (lpA 4 [1, 2, 6, 15, 16, 17] (st61 a b 0 h) t .ret (st61 a b k1 h) (.exit 0) (st61 a b k2 h))) 61 [flR a, flR b, .fn 62 [] []] [true, true, true] h = .ite ((↑a.length : Int) != (↑b.length : Int)) (.leaf ((AV.bool false), false, h)) (.need ((st61 a b 0 h).vals = (st61 a b 0 h).vals) (.ite (t) (.leaf ((AV.bool false), false, h)) (.leaf ((AV.bool true), false, h)))) := by kernel_rfl
theorem runG61 (a b : List Rl) (h : Heap) : xenter Try.prog {} (xCode Try.prog G0 {} 200 (lpF 4 [1, 2, 6, 15, 16, 17] (st61 a b 0 h))) 61 [flR a, flR b, .fn 62 [] []] [true, true, true] h = .ite ((↑a.length : Int) != (↑b.length : Int)) (.leaf ((AV.bool false), false, h)) (.need ((st61 a b 0 h).vals = (st61 a b 0 h).vals) .fail) := by kernel_rfl
theorem run30 (q : Prop) (x y : Pb) (a b c : Bool) (h : Heap) : xCall Try.prog G0 (EG q [(23, [flL x.V, flL y.V], .bool a), (60, [flLL x.C, flLL y.C, .fn 23 [] []], .bool b), (61, [flR x.R, flR y.R, .fn 62 [] []], .bool c)]) 200 30 [pAV x, pAV y] [true, true] h = .need (q) (.need ([(flL (x.V)), (flL (y.V))] = [(flL (x.V)), (flL (y.V))]) (.ite (!a) (.leaf ((AV.bool false), false, h)) (.need (q) (.need ([(flLL (x.C)), (flLL (y.C)), (AV.fn (23 : Nat) [] [])] = [(flLL (x.C)), (flLL (y.C)), (AV.fn (23 : Nat) [] [])]) (.ite (!b) (.leaf ((AV.bool false), false, h)) (.need (q) (.need ([(flR (x.R)), (flR (y.R)), (AV.fn (62 : Nat) [] [])] = [(flR (x.R)), (flR (y.R)), (AV.fn (62 : Nat) [] [])]) (.leaf ((AV.bool c), true, h))))))))) := by kernel_rfl
theorem c62 {x y : Rl} (hx : x.sh) (h : Heap) : ACall Try.prog G0 62 [.agg (rlC x), .agg (rlC y)] h (.bool (decide (x = y))) h := by
  have hcl : ClOk Try.prog G0 (EG True [(23, [flL x.v, flL y.v], .bool (x.v == y.v)), (60, [flLL x.w, flLL y.w, .fn 23 [] []], .bool (x.w == y.w))]) := clokG2 (c23 hx.1) (c60 hx.2.1 hx.2.2)
  refine ACall.saysC hcl (run62 True x y _ _ h) ?_
  obtain ⟨d, v, w, m⟩ := x
  obtain ⟨d', v', w', m'⟩ := y
  simp only
  refine says_ite (fun h1 => says_ite (fun h2 => says_need trivial (says_need trivial (says_ite (fun h3 => says_need trivial (says_need trivial ?_)) fun h3 => ?_))) fun h2 => ?_) fun h1 => ?_
  · have e1 := eq_of_beq h1
    have e2 := eq_of_beq h2
    have e3 := eq_of_beq h3
    subst e1; subst e2; subst e3
    have e : (w == w') = decide ((⟨d, v, w, m⟩ : Rl) = ⟨d, v, w', m⟩) := by
      rw [Bool.eq_iff_iff, beq_iff_eq, decide_eq_true_iff]
      exact ⟨fun h => by rw [h], fun h => (Rl.mk.injEq _ _ _ _ _ _ _ _ ▸ h).2.2.1⟩
    rw [← e]
    exact says_leaf
  · have e : decide ((⟨d, v, w, m⟩ : Rl) = ⟨d', v', w', m'⟩) = false := by
      refine decide_eq_false fun h => ?_
      cases h
      simp at h3
    rw [e]
    exact says_leaf
  · have e : decide ((⟨d, v, w, m⟩ : Rl) = ⟨d', v', w', m'⟩) = false := by
      refine decide_eq_false fun h => ?_
      cases h
      simp at h2
    rw [e]
    exact says_leaf
  · have e : decide ((⟨d, v, w, m⟩ : Rl) = ⟨d', v', w', m'⟩) = false := by
      refine decide_eq_false fun h => ?_
      cases h
      simp at h1
    rw [e]
    exact says_leaf
theorem clean61 (a b : List Rl) (k : Int) : (st61 a b k []).clean ∧ (st61 a b k []).h = [] := ⟨clean_of ⟨below_flR _, .fn _ _ _ (fun _ _ h => by simp at h) (fun _ _ h => by simp at h), .bool _, below_flR _, .int _ _, .int _ _, trivial⟩, rfl⟩
theorem loop61 {a b : List Rl} (ha : sh a) (hx : ∀ x ∈ a, x.sh) (he : a.length = b.length) : LoopA body61 a.length (fun k => st61 a b k []) (fun k => st61 a b k []) (st61 a b a.length []) .ret (.exit 0) (fun k => !decide (a.getD k r0 = b.getD k r0)) := by
  refine .of0 (fun _ => rfl) (fun _ => rfl) rfl nofun nofun (fun k => clean61 a b k) (fun k => clean61 a b k) (clean61 a b _) fun k hk hj => ⟨EG True [(62, [.agg (rlC (a.getD (k : Int).toNat r0)), .agg (rlC (b.getD (k : Int).toNat r0))], .bool (decide (a.getD (k : Int).toNat r0 = b.getD (k : Int).toNat r0)))], _, _, clokG1 (fun _ => c62 (sh_getR hx _)), lpNo _, fun hlt => (congrArg Tree.sel (run61 True a b k _)).trans ?_, fun he' => (congrArg Tree.sel (run61 True a b k _)).trans ?_⟩
  · rw [wrapS hlt ha, Int.toNat_natCast]
    rw [selIt (dT (by omega)), selN ⟨by omega, by omega⟩]
    refine t_need ⟨by omega, by omega⟩ (t_need trivial (t_need rfl ?_))
    exact t_ite (fun h2 => by rw [h2]; rfl) fun h2 => by rw [h2]; rfl
  · rw [selIf (dF (by omega)), he']
    rfl
theorem listR_eq_iff (a b : List Rl) : a = b ↔ a.length = b.length ∧ ∀ k, k < a.length → a.getD k r0 = b.getD k r0 := by
  constructor
  · rintro rfl; exact ⟨rfl, fun _ _ => rfl⟩
  · intro ⟨h1, h2⟩
    apply List.ext_getElem h1
    intro k h3 h4
    have := h2 k h3
    simpa [List.getD_eq_getElem?_getD, h3, h4] using this
theorem c61 {a b : List Rl} (ha : sh a) (hx : ∀ x ∈ a, x.sh) (h : Heap) : ACall Try.prog G0 61 [flR a, flR b, .fn 62 [] []] h (.bool (decide (a = b))) h := by
  have hargs : ∀ x ∈ [flR a, flR b, .fn 62 [] []], Below 0 x := fun x hx => by
    simp only [List.mem_cons, List.not_mem_nil, or_false] at hx
    rcases hx with rfl | rfl | rfl
    · exact below_flR _
    · exact below_flR _
    · exact .fn _ _ _ (fun _ _ h => by simp at h) (fun _ _ h => by simp at h)
  refine ACall.lift0 (h' := []) ?_ (.bool _) gbelow0 hargs h
  by_cases he : a.length = b.length
  · refine ACall.says clok0 ((loop61 ha hx he).ok (one_loop loops61)) (runF61 a b _ _ _ []) ?_
    refine says_ite (fun h => absurd h (by rw [bne_iff_ne]; omega)) fun _ => says_need rfl (says_ite (fun h1 => ?_) fun h1 => ?_)
    · obtain ⟨k, h2, h3⟩ := (fstStop_iff _ _).1 (of_decide_eq_true h1)
      have e : decide (a = b) = false := decide_eq_false fun e => by subst e; simp at h3
      rw [e]
      exact says_leaf
    · have e : decide (a = b) = true := decide_eq_true ((listR_eq_iff a b).2 ⟨he, fun k hk => by
        have := fun h => of_decide_eq_false h1 ((fstStop_iff _ _).2 ⟨k, hk, h⟩)
        simpa using this⟩)
      rw [e]
      exact says_leaf
  · have e : decide (a = b) = false := decide_eq_false fun e => he (by rw [e])
    rw [e]
    exact ACall.says clok0 (lpF_ok 4 _ _ _) (runG61 a b []) (says_ite (fun _ => says_leaf) fun h => by rw [bne_eq_false_iff_eq] at h; omega)
/-- WHAT same RETURNS. -/
theorem c30 {x y : Pb} (hx : x.sh) (h : Heap) : ACall Try.prog G0 30 [pAV x, pAV y] h (.bool (decide (x = y))) h := by
  have hcl := clokG3 (q := True) (c23 (b := y.V) hx.1) (c60 (b := y.C) hx.2.1 hx.2.2.1) (c61 (b := y.R) hx.2.2.2.1 hx.2.2.2.2)
  refine ACall.saysC hcl (run30 True x y _ _ _ h) ?_
  obtain ⟨V, C, R⟩ := x
  obtain ⟨V', C', R'⟩ := y
  simp only
  refine says_need trivial (says_need trivial (says_ite (fun h1 => ?_) fun h1 => says_need trivial (says_need trivial (says_ite (fun h2 => ?_) fun h2 => says_need trivial (says_need trivial ?_)))))
  · have e : decide ((⟨V, C, R⟩ : Pb) = ⟨V', C', R'⟩) = false := decide_eq_false fun h => by cases h; simp at h1
    rw [e]
    exact says_leaf
  · have e : decide ((⟨V, C, R⟩ : Pb) = ⟨V', C', R'⟩) = false := decide_eq_false fun h => by cases h; simp at h2
    rw [e]
    exact says_leaf
  · have e1 : V = V' := by simpa using h1
    have e2 : C = C' := by simpa using h2
    subst e1; subst e2
    have e : decide (R = R') = decide ((⟨V, C, R⟩ : Pb) = ⟨V, C, R'⟩) := by
      rw [Bool.eq_iff_iff, decide_eq_true_iff, decide_eq_true_iff]
      exact ⟨fun h => by rw [h], fun h => (Pb.mk.injEq _ _ _ _ _ _ ▸ h).2.2⟩
    rw [← e]
    exact says_leaf
/-! ### small -/
end Go.Proofs.Ytngaihdpmoajeaa.Am

namespace Go.Proofs.Ytngaihdpmoajeaa.Am
open Go
set_option maxRecDepth 100000

/-! ### Open beginnings -/
theorem pos_opn (p : Pb) (a : List Int) : posB p a false = true ↔ Opn p a := by
  unfold posB Opn
  rw [Bool.not_eq_true', anyK_iff]
  refine forall_congr' fun j => forall_congr' fun hj => ?_
  unfold bad50
  rw [Bool.false_and, cond_false, decide_eq_false_iff_not]
  omega
theorem leastT_ne {x : Rl} {a : List Int} {y : Int} {i : Nat} (hn : x.v.getD i 0 ≠ (a.length : Int)) (h0 : 0 ≤ x.v.getD i 0) : leastT x (a ++ [y]) i = leastT x a i := by
  unfold leastT
  by_cases h : x.v.getD i 0 < a.length
  · rw [dT h, dT (by rw [List.length_append, List.length_singleton]; omega), getD_app_lt (by omega)]
  · rw [dF h, dF (by rw [List.length_append, List.length_singleton]; omega)]
    rfl
theorem least_app_ne {V : List Int} {x : Rl} (hx : OkRule V x) {a : List Int} {y : Int} (hn : (a.length : Int) ∉ x.v) : leastA x (a ++ [y]) = leastA x a := sumK_congr fun i hi => leastT_ne (fun e => hn (by rw [← e]; exact getD_mem hi)) (hx.v i hi).1
theorem pos_app {p : Pb} (hp : Ok p) {a : List Int} {y : Int} (ho : Opn p a) : posB p (a ++ [y]) true = true ↔ Opn p (a ++ [y]) := by
  unfold posB
  rw [Bool.not_eq_true', anyK_iff]
  unfold Opn
  refine forall_congr' fun j => forall_congr' fun hj => ?_
  unfold bad50
  have e : ((a ++ [y]).length : Int) - 1 = a.length := by rw [List.length_append, List.length_singleton]; omega
  rw [e]
  cases hc : (p.R.getD j r0).v.contains (a.length : Int) with
  | true =>
    simp only [Bool.not_true, Bool.and_false, cond_false, decide_eq_false_iff_not]
    omega
  | false =>
    have hn : (a.length : Int) ∉ (p.R.getD j r0).v := by
      rw [← List.contains_iff_mem, hc]
      simp
    rw [least_app_ne (rule_getD hp j) hn]
    simp only [Bool.not_false, Bool.and_true, cond_true, true_iff]
    exact ho j hj
theorem putW_pos {p : Pb} (hp : Ok p) {a : List Int} (hl : a.length < p.V.length) (ho : Opn p a) {x : Int} (h0 : 0 ≤ x) (hx : x < p.V.getD a.length 0) : putW p a x = posB p (a ++ [x]) true := by
  rw [Bool.eq_iff_iff, pos_app hp ho]
  exact put_opn hp hl h0 hx ho
theorem any_pos (p : Pb) (a : List Int) : (!(leftA p a).any fun n => decide (n < 0)) = posB p a false := by
  rw [Bool.eq_iff_iff, open_opn, pos_opn]
theorem bound_lt {p : Pb} (hp : Ok p) {a : List Int} (ha : Beg p a) : boundA p a < 24000001 := by
  have h1 := costK_bound' hp ha
  have h2 := restK_bound hp (i := a.length) (k := p.V.length - a.length) (by have := ha.len; omega)
  have h3 := hp.n
  have h4 := ha.len
  unfold boundA restA
  omega
theorem btr_eq {p : Pb} {c : Int} (hc : c < 24000001) (s : Option (List Int)) : btr p c s = decide (c < lsV p s) := by
  cases s with
  | none => show true = decide (c < 24000001); rw [dT hc]
  | some b => rfl
theorem bound_full {p : Pb} {a : List Int} (h : a.length = p.V.length) : boundA p a = costA p a := by
  unfold boundA restA
  rw [h, Nat.sub_self]
  exact Int.add_zero _
/-! ### Loops -/
theorem runK_shift {α : Type} (g : Int → α → α) (b : α) : ∀ c : Nat, runK (fun k => g (k + 1)) (g 0 b) c = runK g b (c + 1)
  | 0 => rfl
  | c + 1 => by
    show g ((c : Int) + 1) (runK (fun k => g (k + 1)) (g 0 b) c) = g ((c + 1 : Nat) : Int) (runK g b (c + 1))
    rw [runK_shift g b c, Int.natCast_succ]
theorem loopW_runK {τ : Type} {step : Int → τ → Bool × τ} {g : Int → τ → τ} {N : Int} : ∀ (c : Nat) (k : Int) (s : τ), 0 ≤ k → k + c = N → (∀ x s, 0 ≤ x → x < N → step x s = (true, g x s)) → loopW step c k s = (true, runK (fun j => g (k + j)) s c)
  | 0, _, _, _, _, _ => rfl
  | c + 1, k, s, h0, hk, h => by
    have e := h k s h0 (by omega)
    unfold loopW
    rw [e]
    simp only [cond_true]
    rw [loopW_runK c (k + 1) (g k s) (by omega) (by omega) h]
    have e2 : (fun j : Int => g (k + 1 + j)) = fun j => (fun i => g (k + i)) (j + 1) := by
      funext j
      rw [show k + 1 + j = k + (j + 1) by omega]
    have e3 : g k s = (fun i => g (k + i)) 0 s := by show g k s = g (k + 0) s; rw [Int.add_zero]
    rw [e2, e3]
    exact congrArg (Prod.mk true) (runK_shift (fun i => g (k + i)) s c)
/-! ### The best -/
theorem walk_best {p : Pb} (hp : Ok p) : ∀ (d : Nat) (a : List Int) (s : Option (List Int)), Beg p a → a.length + d = p.V.length → Opn p a → boundA p a < lsV p s → walkW p (K42 p) d a s = (true, betW p d a s)
  | 0, a, s, ha, hd, ho, hb => by
    have h1 := bound_lt hp ha
    rw [bound_full (by omega)] at h1 hb
    show (true, some a) = (true, bif btr p (costA p a) s then some a else s)
    rw [btr_eq h1, dT hb]
    rfl
  | d + 1, a, s, ha, hd, ho, hb => by
    have hv := hp.v a.length (by omega)
    have key := loopW_runK (step := fun x s => bif goesW p (K42 p) a x s then walkW p (K42 p) d (a ++ [x]) s else (true, s)) (g := fun k b => bif posB p (a ++ [k]) true then (bif btr p (boundA p (a ++ [k])) b then betW p d (a ++ [k]) b else b) else b) (N := p.V.getD a.length 0) (p.V.getD a.length 0).toNat 0 s (Int.le_refl _) (by omega) (fun x s h0 hx => ?_)
    · have e : (fun j : Int => (fun (k : Int) b => bif posB p (a ++ [k]) true then (bif btr p (boundA p (a ++ [k])) b then betW p d (a ++ [k]) b else b) else b) (0 + j)) = fun k b => bif posB p (a ++ [k]) true then (bif btr p (boundA p (a ++ [k])) b then betW p d (a ++ [k]) b else b) else b := by
        funext j
        rw [Int.zero_add]
      rw [e] at key
      exact key
    · have hb' := beg_app ha (by omega) h0 hx
      have hpw := putW_pos hp (by omega) ho h0 hx
      have hbt := btr_eq (p := p) (bound_lt hp hb') s
      unfold goesW
      rw [hpw, hbt]
      cases hq : posB p (a ++ [x]) true with
      | false => rfl
      | true =>
        rw [cond_true, cond_true]
        show (bif decide (boundA p (a ++ [x]) < lsV p s) then _ else _) = _
        cases hd2 : decide (boundA p (a ++ [x]) < lsV p s) with
        | false => rfl
        | true => exact walk_best hp d (a ++ [x]) s hb' (by simp; omega) ((pos_app hp ho).1 hq) (of_decide_eq_true hd2)
/-- THE PROGRAM AND THE REFERENCE FIND THE SAME BEST. -/
theorem best_ref {p : Pb} (hp : Ok p) {a : List Int} (ha : Beg p a) : bestW p a = refW p a := by
  unfold bestW refW runW
  rw [any_pos]
  have hl := ha.len
  cases hq : posB p a false with
  | false => rfl
  | true =>
    have hb : boundA p a < lsV p none := bound_lt hp ha
    have e : decide (boundA p a < (K42 p).most none) = true := dT hb
    rw [cond_true, e, cond_true, cond_true, walk_best hp _ a none ha (by omega) ((pos_opn p a).1 hq) hb]
/-! ### The first -/
theorem loopW_fstL {α : Type} {step : Int → Option α → Bool × Option α} {g : Int → Option α} {N : Int} : ∀ (c : Nat) (k : Int), 0 ≤ k → k + c = N → (∀ x, 0 ≤ x → x < N → step x none = ((g x).isNone, g x)) → loopW step c k none = ((fstL g c k).isNone, fstL g c k)
  | 0, _, _, _, _ => rfl
  | c + 1, k, h0, hk, h => by
    have e := h k h0 (by omega)
    unfold loopW fstL
    rw [e]
    cases hg : g k with
    | none =>
      simp only [Option.isNone_none, cond_true]
      exact loopW_fstL c (k + 1) (by omega) (by omega) h
    | some b => rfl
theorem walk_first {p : Pb} (hp : Ok p) : ∀ (d : Nat) (a : List Int), Beg p a → a.length + d = p.V.length → Opn p a → walkW p K22 d a none = ((frW p d a).isNone, frW p d a)
  | 0, a, _, _, _ => rfl
  | d + 1, a, ha, hd, ho => by
    have hv := hp.v a.length (by omega)
    refine loopW_fstL (step := fun x s => bif goesW p K22 a x s then walkW p K22 d (a ++ [x]) s else (true, s)) (g := fun k => bif posB p (a ++ [k]) true then frW p d (a ++ [k]) else none) (N := p.V.getD a.length 0) _ 0 (Int.le_refl _) (by omega) fun x h0 hx => ?_
    have hb' := beg_app ha (by omega) h0 hx
    have hpw := putW_pos hp (by omega) ho h0 hx
    have hbd : decide (boundA p (a ++ [x]) < K22.most none) = true := dT (bound_lt hp hb')
    unfold goesW
    rw [hpw, hbd]
    cases hq : posB p (a ++ [x]) true with
    | false => rfl
    | true => exact walk_first hp d (a ++ [x]) hb' (by simp; omega) ((pos_app hp ho).1 hq)
/-- THE SAME FIRST. -/
theorem first_ref {p : Pb} (hp : Ok p) : firstW p = refF p := by
  unfold firstW refF runW
  rw [any_pos]
  cases hq : posB p [] false with
  | false => rfl
  | true =>
    have e : decide (boundA p [] < K22.most none) = true := dT (bound_lt hp (beg_nil p))
    rw [cond_true, e, cond_true, cond_true]
    have := walk_first hp p.V.length [] (beg_nil p) (by simp) ((pos_opn p []).1 hq)
    show (walkW p K22 p.V.length [] none).2 = _
    rw [this]
/-! ### The count -/
def cntN (p : Pb) : Nat → List Int → Int
  | 0, _ => 1
  | d + 1, a => sumK (fun k => bif posB p (a ++ [(k : Int)]) true then cntN p d (a ++ [(k : Int)]) else 0) (p.V.getD a.length 0).toNat
theorem cntN_nonneg (p : Pb) : ∀ (d : Nat) (a : List Int), 0 ≤ cntN p d a
  | 0, _ => by unfold cntN; omega
  | d + 1, a => by
    unfold cntN
    refine sumK_nonneg fun i _ => ?_
    cases posB p (a ++ [(i : Int)]) true with
    | true => exact cntN_nonneg p d _
    | false => exact Int.le_refl _
def minI (a b : Int) : Int := if a ≤ b then a else b
theorem cntK_min {g : Int → Int → Int} {f : Nat → Int} {m : Int} (hm : 1 ≤ m) (hf : ∀ i, 0 ≤ f i) (hg : ∀ (i : Nat) m', 1 ≤ m' → g i m' = minI (f i) m') : ∀ k, cntK g m k = minI (sumK f k) m
  | 0 => by
    show (0 : Int) = minI 0 m
    unfold minI
    rw [if_pos (by omega)]
  | k + 1 => by
    have ih := cntK_min hm hf hg k
    have h0 := hf k
    have e : sumK f (k + 1) = sumK f k + f k := rfl
    have hs : 0 ≤ sumK f k := sumK_nonneg fun i _ => hf i
    unfold cntK
    rw [ih, e]
    by_cases h : sumK f k < m
    · have e2 : minI (sumK f k) m = sumK f k := if_pos (by omega)
      rw [e2, if_pos h, hg k _ (by omega)]
      unfold minI
      split <;> split <;> omega
    · have e2 : minI (sumK f k) m = m := by unfold minI; split <;> omega
      rw [e2, if_neg (by omega)]
      unfold minI
      split <;> omega
theorem cntW_min (p : Pb) : ∀ (d : Nat) (a : List Int) (m : Int), 1 ≤ m → cntW p d a m = minI (cntN p d a) m
  | 0, a, m, hm => by
    show (1 : Int) = minI 1 m
    unfold minI
    rw [if_pos hm]
  | d + 1, a, m, hm => cntK_min (f := fun k => bif posB p (a ++ [(k : Int)]) true then cntN p d (a ++ [(k : Int)]) else 0) hm (fun i => by
      show 0 ≤ (bif posB p (a ++ [(i : Int)]) true then cntN p d (a ++ [(i : Int)]) else 0)
      cases posB p (a ++ [(i : Int)]) true with
      | true => exact cntN_nonneg p d _
      | false => exact Int.le_refl _) (fun i m' hm' => by
      show (bif posB p (a ++ [(i : Int)]) true then cntW p d (a ++ [(i : Int)]) m' else 0) = minI (bif posB p (a ++ [(i : Int)]) true then cntN p d (a ++ [(i : Int)]) else 0) m'
      cases posB p (a ++ [(i : Int)]) true with
      | true => exact cntW_min p d _ m' hm'
      | false => unfold minI; rw [cond_false, cond_false, if_pos (by omega)]) _
/-- What a run of counting does. -/
def cntS (n c m : Int) : Bool × (Int × Bool) := bif decide (n + c ≤ m) then (true, (n + c, false)) else (false, (m, true))
theorem loopW_cnt {step : Int → (Int × Bool) → Bool × (Int × Bool)} {f : Nat → Int} {m : Int} (hf : ∀ i, 0 ≤ f i) {N : Nat} (hst : ∀ (i : Nat) n, i < N → 0 ≤ n → n ≤ m → step i (n, false) = cntS n (f i) m) : ∀ (c k : Nat) (n : Int), k + c = N → 0 ≤ n → n ≤ m → loopW step c k (n, false) = cntS n (sumK f N - sumK f k) m
  | 0, k, n, hk, h0, h1 => by
    obtain rfl : k = N := by omega
    unfold loopW cntS
    rw [Int.sub_self, Int.add_zero, dT h1]
    rfl
  | c + 1, k, n, hk, h0, h1 => by
    have e := hst k n (by omega) h0 h1
    have hge : sumK f (k + 1) ≤ sumK f N := by
      obtain ⟨j, hj⟩ : ∃ j, N = k + 1 + j := ⟨N - (k + 1), by omega⟩
      rw [hj]
      clear hj hst e hk
      induction j with
      | zero => exact Int.le_refl _
      | succ j ih =>
        have : sumK f (k + 1 + (j + 1)) = sumK f (k + 1 + j) + f (k + 1 + j) := rfl
        have := hf (k + 1 + j)
        omega
    have e1 : sumK f (k + 1) = sumK f k + f k := rfl
    have h3 := hf k
    unfold loopW
    rw [e]
    unfold cntS
    by_cases hle : n + f k ≤ m
    · rw [dT hle]
      simp only [cond_true]
      have ih := loopW_cnt hf hst c (k + 1) (n + f k) (by omega) (by omega) hle
      rw [Int.natCast_succ] at ih
      rw [ih]
      unfold cntS
      rw [show n + f k + (sumK f N - sumK f (k + 1)) = n + (sumK f N - sumK f k) by omega]
    · rw [dF hle, dF (by omega)]
      rfl
theorem walk_count {p : Pb} (hp : Ok p) {m : Int} : ∀ (d : Nat) (a : List Int) (n : Int), Beg p a → a.length + d = p.V.length → Opn p a → 0 ≤ n → n ≤ m → walkW p (K16 m) d a (n, false) = cntS n (cntN p d a) m
  | 0, a, n, _, _, _, h0, h1 => by
    show (!(n == m), bif n == m then (n, true) else (n + 1, false)) = cntS n 1 m
    unfold cntS
    by_cases he : n = m
    · subst he
      rw [beq_self_eq_true, dF (by omega)]
      rfl
    · have : (n == m) = false := beq_eq_false_iff_ne.2 he
      rw [this, dT (by omega)]
      rfl
  | d + 1, a, n, ha, hd, ho, h0, h1 => by
    have hv := hp.v a.length (by omega)
    have key := loopW_cnt (step := fun x s => bif goesW p (K16 m) a x s then walkW p (K16 m) d (a ++ [x]) s else (true, s)) (f := fun k => bif posB p (a ++ [(k : Int)]) true then cntN p d (a ++ [(k : Int)]) else 0) (m := m) (N := (p.V.getD a.length 0).toNat) (fun i => by
      show 0 ≤ (bif posB p (a ++ [(i : Int)]) true then cntN p d (a ++ [(i : Int)]) else 0)
      cases posB p (a ++ [(i : Int)]) true with
      | true => exact cntN_nonneg p d _
      | false => exact Int.le_refl _) (fun i n hi h0 h1 => ?_) (p.V.getD a.length 0).toNat 0 n (by omega) h0 h1
    · have e : sumK (fun k => bif posB p (a ++ [(k : Int)]) true then cntN p d (a ++ [(k : Int)]) else 0) (p.V.getD a.length 0).toNat - sumK (fun k => bif posB p (a ++ [(k : Int)]) true then cntN p d (a ++ [(k : Int)]) else 0) 0 = cntN p (d + 1) a := Int.sub_zero _
      rw [e] at key
      exact key
    · have hb' := beg_app ha (x := (i : Int)) (by omega) (by omega) (by omega)
      have hpw := putW_pos hp (by omega) ho (x := (i : Int)) (by omega) (by omega)
      have hbd : decide (boundA p (a ++ [(i : Int)]) < (K16 m).most (n, false)) = true := dT (bound_lt hp hb')
      show (bif goesW p (K16 m) a i (n, false) then walkW p (K16 m) d (a ++ [(i : Int)]) (n, false) else (true, (n, false))) = cntS n (bif posB p (a ++ [(i : Int)]) true then cntN p d (a ++ [(i : Int)]) else 0) m
      unfold goesW
      rw [hpw, hbd]
      cases hq : posB p (a ++ [(i : Int)]) true with
      | false =>
        unfold cntS
        simp only [cond_false, Int.add_zero, dT h1, cond_true]
      | true => exact walk_count hp d (a ++ [(i : Int)]) n hb' (by simp; omega) ((pos_app hp ho).1 hq) h0 h1
/-- THE SAME COUNT. -/
theorem count_eq {p : Pb} (hp : Ok p) {m : Int} (hm : 0 ≤ m) : countW p m = bif posB p [] false then minI (cntN p p.V.length []) m else 0 := by
  unfold countW runW
  rw [any_pos]
  cases hq : posB p [] false with
  | false => rfl
  | true =>
    have e : decide (boundA p [] < (K16 m).most (0, false)) = true := dT (bound_lt hp (beg_nil p))
    rw [cond_true, e, cond_true, cond_true]
    have := walk_count hp (m := m) p.V.length [] 0 (beg_nil p) (by simp) ((pos_opn p []).1 hq) (Int.le_refl _) hm
    show (walkW p (K16 m) p.V.length [] (0, false)).2.1 = _
    rw [this]
    unfold cntS minI
    by_cases h : cntN p p.V.length [] ≤ m
    · rw [dT (by omega), if_pos h, cond_true]
      exact Int.zero_add _
    · rw [dF (by omega), if_neg h]
      rfl
theorem count_ref {p : Pb} (hp : Ok p) {m : Int} (hm : 0 ≤ m) : countW p m = refN p m := by
  rw [count_eq hp hm]
  unfold refN
  by_cases h0 : m = 0
  · subst h0
    have h1 := cntN_nonneg p p.V.length []
    have e : minI (cntN p p.V.length []) 0 = 0 := by unfold minI; split <;> omega
    rw [e]
    cases posB p [] false <;> rfl
  · have e : (m == 0) = false := beq_eq_false_iff_ne.2 h0
    rw [e, Bool.false_or]
    cases posB p [] false with
    | false => rfl
    | true => exact (cntW_min p _ [] m (by omega)).symm
end Go.Proofs.Ytngaihdpmoajeaa.Am

