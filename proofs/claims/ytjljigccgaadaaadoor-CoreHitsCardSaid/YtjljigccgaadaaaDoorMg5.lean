/-
  This file proves nothing of a law. It holds lemmas, of 8 texts in their order. No condition of its own.
-/
import Derived.Test.YtjljigccgaadaaaDoorMg4
namespace Go.Proofs.YtjljigccgaadaaaDoor.Am
open Go
set_option maxRecDepth 100000

/-- What every returns: all irreducible sets, in their order. -/
def everyL (f : Nat → Bool) (n : Nat) : List (List Int) := ((allSeq n).filter (irr f)).map ints
theorem allSeq_len {n : Nat} (hn : n ≤ 12) : (allSeq n).length ≤ 8192 := by
  have h : ((List.range 13).all fun n => decide ((allSeq n).length ≤ 8192)) = true := by kernel_rfl
  have := List.all_eq_true.1 h n (List.mem_range.2 (by omega))
  simpa using this

/-! ### The rounds together -/
abbrev SE : Type := (Nat → Int) × List (List Int)
def ystE (f : Nat → Bool) (p : SE) (s : Nat) : SE := ((irrS (onceS f) p.1 s).2, if (irrS (onceS f) p.1 s).1 then p.2 ++ [ints s] else p.2)
def GoodE (c : Nat) (p : SE) : Prop := p.2.length + c ≤ 1048575
theorem foldE {f : Nat → Bool} : ∀ (l : List Nat) (K : Nat → Int) (L : List (List Int)), KOk f K → (∀ s ∈ l, s < 2 ^ 64) → ∃ K', l.foldl (ystE f) (K, L) = (K', L ++ (l.filter (irr f)).map ints)
  | [], K, L, _, _ => ⟨K, by simp⟩
  | s :: l, K, L, hK, hs => by
    obtain ⟨h1, h2⟩ := irrS_ok (f := f) (stp := onceS f) (Good := KOk f) (fun st s h => onceS_ok h s) (hs s (by simp)) hK
    obtain ⟨K', h3⟩ := foldE l (irrS (onceS f) K s).2 (if irr f s then L ++ [ints s] else L) h2 fun s hs' => hs s (by simp [hs'])
    refine ⟨K', ?_⟩
    rw [List.foldl_cons]
    have e : ystE f (K, L) s = ((irrS (onceS f) K s).2, if irr f s then L ++ [ints s] else L) := by unfold ystE; rw [h1]
    rw [e, h3]
    congr 1
    cases h : irr f s <;> simp [h]

section
variable {σ : Heap} {g : FuncId} {caps : List AV} {f : Nat → Bool} {n : Nat}
theorem yokE (hn : n ≤ 12) (hg : HasAt σ g caps f (2 ^ n)) : YOk (σ.length + 5) n (fun p : SE => hE σ n (.fn g [] caps) .ready p.1 p.2) (ystE f) GoodE := by
  refine ⟨fun c p s hgd hs => roundE hn hg hs p.1 ?_, fun c p s hgd _ => ?_⟩
  · unfold GoodE at hgd; omega
  · unfold GoodE ystE at *
    simp only
    split
    · rw [List.length_append, List.length_singleton]; omega
    · omega

/-! ### The way to the loop -/
theorem repl_one (x : AV) : ∀ n : Nat, repl n [x] = (List.range n).map fun _ => x := by
  intro n
  apply List.ext_getElem?
  intro j
  by_cases h : j < n
  · rw [repl_get n [x] j (by simpa using h), List.getElem?_map, List.getElem?_range h]
    simp [Nat.mod_one]
  · rw [List.getElem?_eq_none (by rw [repl_length]; simp; omega), List.getElem?_eq_none (by simp; omega)]
theorem make8 (h : Heap) {m : Nat} (hm : m ≤ 16777216) : aMake Tryd.prog h 85 (I m) (I m) = some (.ms 1 h.length 0 0 m m, h ++ [.cells 0 (cK .i8 m fun _ => 0)]) := by
  have el : Elem1 85 86 := elem1 Tryd.underlying85 (by kernel_rfl) (by kernel_rfl)
  obtain ⟨ie, zx, h1, h2, h3, h4, h5, h6⟩ := el.i
  have hz : aZero Tryd.prog 86 = some (.int .i8 0) := by kernel_rfl
  rw [hz] at h2
  cases h2
  have hr : repl m [.int .i8 0] = cK .i8 m fun _ => 0 := repl_one _ m
  have hc : 0 ≤ (m : Int) ∧ (m : Int) ≤ m ∧ (m : Int) ≤ 16777216 ∧ ie.bytes ≤ 65536 ∧ (AV.int .i8 0).cells.length = ie.size ∧ (AV.int .i8 0).cells.all AV.one = true := ⟨by omega, by omega, by omega, h4, by rw [h3]; rfl, rfl⟩
  unfold aMake
  rw [el.u]
  simp only [h1, hz]
  rw [if_pos hc]
  have e2 : (AV.int .i8 0).cells = [.int .i8 0] := rfl
  simp only [Int.toNat_natCast, e2, hr, h3]
theorem alloc85 (h : Heap) : aAlloc Tryd.prog h 85 = some (.ref h.length 0 0, h ++ [.cells 0 [.zs]]) := by kernel_rfl
theorem alloc61 (h : Heap) : aAlloc Tryd.prog h 61 = some (.ref h.length 0 0, h ++ [.cells 0 [.nilf]]) := by kernel_rfl
theorem alloc29 (h : Heap) : aAlloc Tryd.prog h 29 = some (.ref h.length 0 0, h ++ [.cells 0 [.zs]]) := by kernel_rfl

def stE0 (n : Int) (fv : AV) (h : Heap) : St := .of 25 h [(0, I n, true), (1, fv, true)]
def stE1 (n : Int) (fv : AV) (h : Heap) : St := .of 25 h [(0, I n, true), (3, .row [fv] 0, true)]
def stE2 (n : Int) (fv : AV) (N : Nat) (h : Heap) : St := .of 25 h [(0, I n, true), (3, .row [fv] 0, true), (5, .ref N 0 0, true)]
def stE3 (n : Int) (M : Nat) (h : Heap) : St := .of 25 h [(0, I n, true), (6, .ref M 0 0, true)]
def stE4 (n : Int) (M N : Nat) (h : Heap) : St := .of 25 h [(0, I n, true), (6, .ref M 0 0, true), (7, .ref N 0 0, true)]
def Er1 (N : Nat) (m : Int) (v : AV) (h h1 h2 h3 : Heap) : Env := { hint := orH hShift (orH (hMk 85 v m h h1) (orH (hAl 85 N h1 h2) (hSt 85 (.ref N 0 0) v h2 h3))) }
theorem clokr1 (N : Nat) (m : Int) (v : AV) (h h1 h2 h3 : Heap) : ClOk Tryd.prog G0 (Er1 N m v h h1 h2 h3) := .ofH rfl rfl (hShift_ok.ok.or ((hMk_ok _ _ _ _ _).ok.or ((hAl_ok _ _ _ _).ok.or (hSt_ok _ _ _ _ _).ok))) fun f xs t v h => by cases h
def Er2 (M : Nat) (v : AV) (h1 h2 h3 : Heap) : Env := { hint := orH (hAl 61 M h1 h2) (hSt 61 (.ref M 0 0) v h2 h3) }
theorem clokr2 (M : Nat) (v : AV) (h1 h2 h3 : Heap) : ClOk Tryd.prog G0 (Er2 M v h1 h2 h3) := .ofH rfl rfl ((hAl_ok _ _ _ _).ok.or (hSt_ok _ _ _ _ _).ok) fun f xs t v h => by cases h
def Er3 (N : Nat) (h h1 : Heap) : Env := { hint := hAl 29 N h h1 }
theorem clokr3 (N : Nat) (h h1 : Heap) : ClOk Tryd.prog G0 (Er3 N h h1) := .ofH rfl rfl (hAl_ok _ _ _ _).ok fun f xs t v h => by cases h
def Er4 : Env := { cl := cl47 }
theorem clokr4 : ClOk Tryd.prog G0 Er4 := .of rfl rfl fun f xs t v h hs σ => cl47_ok h hs σ
theorem runr0 (n : Int) (g : FuncId) (caps : List AV) (h : Heap) : xBody Tryd.prog G0 {} 200 noLoops [0, 3] (c47 0) (stE0 n (.fn g [] caps) h) = .leaf (.normal, stE1 n (.fn g [] caps) h) := by kernel_rfl
theorem runr1 (n m : Int) (fv v : AV) (N : Nat) (h h1 h2 h3 : Heap) : xBody Tryd.prog G0 (Er1 N m v h h1 h2 h3) 200 noLoops [0, 3, 5] (c47 1) (stE1 n fv h) =
    .need (0 ≤ n) (.need (some (I (IntKind.i64.wrap (1 * 2 ^ min n.toNat IntKind.i64.bits))) = some (I m) ∧ some (I (IntKind.i64.wrap (1 * 2 ^ min n.toNat IntKind.i64.bits))) = some (I m) ∧ h = h ∧ aMake Tryd.prog h 85 (I m) (I m) = some (v, h1))
      (.need (h1 = h1 ∧ aAlloc Tryd.prog h1 85 = some (.ref N 0 0, h2)) (.need (some (AV.ref N 0 0) = some (AV.ref N 0 0) ∧ some v = some v ∧ h2 = h2 ∧ aStore Tryd.prog h2 85 (.ref N 0 0) v = some h3) (.leaf (.normal, stE2 n fv N h3))))) := by kernel_rfl
theorem runr2 (n : Int) (fv : AV) (M N : Nat) (h1 h2 h3 : Heap) : xBody Tryd.prog G0 (Er2 M (.fn 67 [] [.ref N 0 0, .row [fv] 0]) h1 h2 h3) 200 noLoops [0, 6] (c47 2) (stE2 n fv N h1) =
    .need (h1 = h1 ∧ aAlloc Tryd.prog h1 61 = some (.ref M 0 0, h2)) (.need (some (AV.ref M 0 0) = some (AV.ref M 0 0) ∧ some (AV.fn 67 [] [.ref N 0 0, .row [fv] 0]) = some (AV.fn 67 [] [.ref N 0 0, .row [fv] 0]) ∧ h2 = h2 ∧ aStore Tryd.prog h2 61 (.ref M 0 0) (.fn 67 [] [.ref N 0 0, .row [fv] 0]) = some h3)
      (.leaf (.normal, stE3 n M h3))) := by kernel_rfl
theorem runr3 (n : Int) (M N : Nat) (h h1 : Heap) : xBody Tryd.prog G0 (Er3 N h h1) 200 noLoops [0, 6, 7] (c47 3) (stE3 n M h) = .need (h = h ∧ aAlloc Tryd.prog h 29 = some (.ref N 0 0, h1)) (.leaf (.normal, stE4 n M N h1)) := by kernel_rfl
theorem runr4 (n N : Nat) (h : Heap) : xBody Tryd.prog G0 Er4 200 noLoops [6, 7, 14] (c47 4) (stE4 n (N + 2) (N + 3) h) = .leaf (.normal, stF N n h) := by kernel_rfl
def Er5 (v : AV) : Env := { hint := hLd 29 v }
theorem clokr5 (v : AV) : ClOk Tryd.prog G0 (Er5 v) := .ofH rfl rfl (hLd_ok Tryd.underlying29 rfl _).ok fun f xs t v h => by cases h
def stE5 (v : AV) (h : Heap) : St := .of 25 h [(4, v, true)]
theorem runr5 (n N : Nat) (v : AV) (h : Heap) : xBody Tryd.prog G0 (Er5 v) 200 noLoops [4] (c47 5) (stF N n h) = .need (objAt h (N + 3) 0 = some [v]) (.leaf (.ret, stE5 v h)) := by kernel_rfl
theorem evF (N n : Nat) (h : Heap) : ev G0 (stF N n h).a (.tmp 14) = some (.fn 77 [] [.row [I n] 0]) := by kernel_rfl
theorem stF_a (N n : Nat) (h h' : Heap) : (stF N n h).a = (stF N n h').a := rfl
theorem argsE (n : Int) (fv : AV) (h : Heap) : Le ([I n, fv] ++ List.replicate 23 (.tup [])) (stE0 n fv h).a := by
  have e : (stE0 n fv h).a = I n :: fv :: List.replicate 23 .junk := by kernel_rfl
  rw [e]
  refine ⟨by simp, fun j y hj => ?_⟩
  match j, hj with
  | 0, hj => exact .inr hj
  | 1, hj => exact .inr hj
  | j + 2, hj =>
    refine .inl (List.eq_of_mem_replicate (n := 23) (List.mem_of_getElem? (i := j) ?_))
    simpa using hj

/-- The four objects ahead of the loop. -/
def four (N n : Nat) (fv : AV) : Heap := [.cells 0 (cK .i8 (2 ^ n) fun _ => 0), .cells 0 [.ms 1 N 0 0 (2 ^ n) (2 ^ n)], .cells 0 [.fn 67 [] (caps67 N fv)], .cells 0 [.zs]]
theorem preE (hn : n ≤ 12) {z : Code} {ez : Exit} {az : AAct} {σz : Heap} (hz : AExec Tryd.prog G0 (fun r => r = none) z { tmps := (stE4 n (σ.length + 2) (σ.length + 3) (σ ++ four σ.length n (.fn g [] caps))).a } (σ ++ four σ.length n (.fn g [] caps)) ez az σz) :
    AExec Tryd.prog G0 (fun r => r = none) (.seq (c47 0) (.seq (c47 1) (.seq (c47 2) (.seq (c47 3) z)))) { tmps := (stE0 n (.fn g [] caps) σ).a } σ ez az σz := by
  have hm : 2 ^ n ≤ 2 ^ 12 := Nat.pow_le_pow_right (by omega) hn
  let fv : AV := .fn g [] caps
  let h1 : Heap := σ ++ [.cells 0 (cK .i8 (2 ^ n) fun _ => 0)]
  have l1 : h1.length = σ.length + 1 := by simp [h1]
  let h3 : Heap := h1 ++ [.cells 0 [.ms 1 σ.length 0 0 (2 ^ n) (2 ^ n)]]
  have l3 : h3.length = σ.length + 2 := by simp [h3, h1]
  let h5 : Heap := h3 ++ [.cells 0 [.fn 67 [] (caps67 σ.length fv)]]
  have l5 : h5.length = σ.length + 3 := by simp [h5, h3, h1]
  have e6 : h5 ++ [.cells 0 [.zs]] = σ ++ four σ.length n fv := by simp [h5, h3, h1, four]
  have hw : IntKind.i64.wrap (1 * 2 ^ min (n : Int).toNat IntKind.i64.bits) = ((2 ^ n : Nat) : Int) := by
    have hb : IntKind.i64.bits = 64 := rfl
    rw [Int.toNat_natCast, hb, Nat.min_eq_left (by omega), Int.one_mul]
    have e : ((2 : Int) ^ n) = ((2 ^ n : Nat) : Int) := by simp
    rw [e]
    generalize 2 ^ n = q at hm
    exact wrap_i64 (by omega) (by omega)
  have x0 := (xBody_ok (m := []) (R := fun r => r = none) names mixed clok0 (lpNo (c47 0)) (n := 200) (keep := [0, 3]) (st := stE0 n fv σ) (st' := stE1 n fv σ) (by rw [runr0]; rfl)).1
  have x1 := (xBody_ok (m := []) (R := fun r => r = none) names mixed (clokr1 (σ.length + 1) (2 ^ n : Nat) (.ms 1 σ.length 0 0 (2 ^ n) (2 ^ n)) σ h1 (h1 ++ [.cells 0 [.zs]]) h3) (lpNo (c47 1)) (n := 200) (keep := [0, 3, 5]) (st := stE1 n fv σ) (st' := stE2 n fv (σ.length + 1) h3) (by
    rw [runr1, Tree.sel_need (by omega), hw, Tree.sel_need ⟨rfl, rfl, rfl, make8 σ (by omega)⟩, Tree.sel_need ⟨rfl, by rw [alloc85, l1]⟩, Tree.sel_need ⟨rfl, rfl, rfl, by rw [← l1]; exact store_new (one_of (by kernel_rfl)) h1 _ _ rfl⟩]
    rfl)).1
  have x2 := (xBody_ok (m := []) (R := fun r => r = none) names mixed (clokr2 (σ.length + 2) (.fn 67 [] (caps67 σ.length fv)) h3 (h3 ++ [.cells 0 [.nilf]]) h5) (lpNo (c47 2)) (n := 200) (keep := [0, 6]) (st := stE2 n fv (σ.length + 1) h3) (st' := stE3 n (σ.length + 2) h5) (by
    have := runr2 n fv (σ.length + 2) (σ.length + 1) h3 (h3 ++ [.cells 0 [.nilf]]) h5
    refine (congrArg Tree.sel this).trans ?_
    rw [Tree.sel_need ⟨rfl, by rw [alloc61, l3]⟩, Tree.sel_need ⟨rfl, rfl, rfl, by rw [← l3]; exact store_new (one_of (by kernel_rfl)) h3 _ _ rfl⟩]
    rfl)).1
  have x3 := (xBody_ok (m := []) (R := fun r => r = none) names mixed (clokr3 (σ.length + 3) h5 (h5 ++ [.cells 0 [.zs]])) (lpNo (c47 3)) (n := 200) (keep := [0, 6, 7]) (st := stE3 n (σ.length + 2) h5) (st' := stE4 n (σ.length + 2) (σ.length + 3) (h5 ++ [.cells 0 [.zs]])) (by
    rw [runr3, Tree.sel_need ⟨rfl, by rw [alloc29, l5]⟩]
    rfl)).1
  rw [e6] at x3
  exact .seq x0 (.seq x1 (.seq x2 (.seq x3 hz)))

/-- WHAT every RETURNS. -/
theorem c47x (hn : n ≤ 12) (hg : HasAt σ g caps f (2 ^ n)) : ∃ X, ACall Tryd.prog G0 47 [I n, .fn g [] caps] σ (vA (σ.length + 7) ((everyL f n).map flL)) (σ ++ X) ∧ ∀ x r, (everyL f n).map flL = x :: r → (σ ++ X)[σ.length + 7]? = some (.cells r.length (x :: r)) := by
  let fv : AV := .fn g [] caps
  let h6 : Heap := σ ++ four σ.length n fv
  have l6 : h6.length = σ.length + 4 := by simp [h6, four]
  -- the loop
  have hy := yokE hn hg
  let h : Heap := h6 ++ [.dfr] ++ [.loop (loop0 (stF σ.length n h6).a #[15] as47 bd47 h6.length)]
  have lh : h.length = σ.length + 6 := by simp [h, l6]
  obtain ⟨K', hfold⟩ := foldE (f := f) (allSeq n) (fun _ => 0) [] (fun s => .inl rfl) (fun s hs => by
    have h1 := allSeq_lt hs
    have h2 : 2 ^ n ≤ 2 ^ 12 := Nat.pow_le_pow_right (by omega) hn
    omega)
  have h0 : hE σ n fv .ready (fun _ => 0) [] = h ++ [.cells 0 [clos (σ.length + 5) h.length n]] := by
    rw [lh]
    simp [hE, seven, h, h6, four, oA, vA, lpE, loop0]
    exact stF_a _ _ _ _
  have hc := c77 (l := σ.length + 5) (h := h) (by omega) hy (fun st => by rw [lh]; exact objAt_app rfl) ((fun _ => 0), []) h0 (by have := allSeq_len hn; unfold GoodE; simp; omega)
  rw [hfold] at hc
  simp only [List.nil_append] at hc
  have hrf : AExec Tryd.prog G0 (fun r => r = none) (.rangeFunc (.tmp 14) #[15] as47 bd47) { tmps := (stF σ.length n h6).a } h6 .normal { tmps := (stF σ.length n h6).a, marks := [h6.length] } (hE σ n fv .exhausted K' (everyL f n)) := by
    refine AExec.rangeFunc (m := []) (v := .tup []) (A' := lpE σ.length n .ready) (evF _ _ _) (first := []) (σ2 := hE σ n fv .ready K' (everyL f n)) ?_ ?_ (by intro h; cases h) (fun _ => ⟨rfl, rfl, ?_⟩) (fun c h => by cases h)
    · have e : h6.length + 1 = σ.length + 5 := by omega
      rw [e]; exact hc
    · rw [l6]; exact at_app σ _ 5
    · rw [l6]; exact (set_app σ (seven σ.length n fv .ready K' (everyL f n) ++ oA ((everyL f n).map flL)) 5 (.loop (lpE σ.length n .exhausted))).symm
  have x4 := (xBody_ok (m := []) (R := fun r => r = none) names mixed clokr4 (lpNo (c47 4)) (n := 200) (keep := [6, 7, 14]) (st := stE4 n (σ.length + 2) (σ.length + 3) h6) (st' := stF σ.length n h6) (by rw [runr4]; rfl)).1
  have x5 := (xBody_ok (m := [h6.length]) (R := fun r => r = none) names mixed (clokr5 (vA (σ.length + 7) ((everyL f n).map flL))) (lpNo (c47 5)) (n := 200) (keep := [4]) (st := stF σ.length n (hE σ n fv .exhausted K' (everyL f n))) (st' := stE5 (vA (σ.length + 7) ((everyL f n).map flL)) (hE σ n fv .exhausted K' (everyL f n))) (by
    have g1 : objAt (hE σ n fv .exhausted K' (everyL f n)) (σ.length + 3) 0 = some [vA (σ.length + 7) ((everyL f n).map flL)] := objAt_app rfl
    rw [runr5, Tree.sel_need g1]; rfl)).1
  have hall := preE (σ := σ) (g := g) (caps := caps) hn (.seq (.seq x4 (AExec.block_to (id := 0) hrf rfl)) x5)
  rw [← code47] at hall
  obtain ⟨fn, c, k1, k2, k3⟩ := fnOf (f := 47) (by kernel_rfl)
  rw [k3] at hall
  have hres : fn.results.toList = [.tmp 4] := by
    have : (Tryd.prog.funcs[47]?).map (·.results.toList) = some [.tmp 4] := by kernel_rfl
    rw [k1] at this
    exact Option.some.inj this
  have hnt : fn.ntmps = 25 := by
    have : (Tryd.prog.funcs[47]?).map (·.ntmps) = some 25 := by kernel_rfl
    rw [k1] at this
    exact Option.some.inj this
  have key := ACall.of_body_marks (args := [I n, fv]) (xs := [vA (σ.length + 7) ((everyL f n).map flL)]) k1 k2 (names 47 fn k1) (.weak (by rw [hnt]; exact argsE _ _ _) hall) (.inr rfl) (by simp) (fun r hr => ?_) ?_
  · have hgone : goneAll [h6.length] (hE σ n fv .exhausted K' (everyL f n)) = σ ++ (((seven σ.length n fv .exhausted K' (everyL f n)).set 4 .gone) ++ oA ((everyL f n).map flL)) := by
      rw [l6]
      exact set_app σ _ 4 _
    refine ⟨((seven σ.length n fv .exhausted K' (everyL f n)).set 4 .gone) ++ oA ((everyL f n).map flL), ?_, fun x r hx => ?_⟩
    · rw [← hgone]; exact key
    · rw [at_app, hx]; rfl
  · rw [List.mem_singleton.1 hr, l6]
    exact at_app σ _ 4
  · rw [hres]
    have : (stE5 (vA (σ.length + 7) ((everyL f n).map flL)) (hE σ n fv .exhausted K' (everyL f n))).a[4]? = some (vA (σ.length + 7) ((everyL f n).map flL)) := by kernel_rfl
    simp only [aResults, aResult, this]
theorem c47r (hn : n ≤ 12) (hg : HasAt σ g caps f (2 ^ n)) : ACall Tryd.prog G0 47 [I n, .fn g [] caps] σ (flLL (everyL f n)) σ := by
  obtain ⟨X, h1, h2⟩ := c47x hn hg
  generalize hL : everyL f n = L at h1 h2
  cases L with
  | nil => exact (h1.forget .zs).conv fun _ _ _ h => h.flLL_zs
  | cons x r =>
    have h3 := h1.msData (cells := flL x :: r.map flL) (by omega) (h2 _ _ rfl) (fun y hy => by
      have : y ∈ (x :: r).map flL := hy
      obtain ⟨z, _, rfl⟩ := List.mem_map.1 this
      exact below_flL z)
    exact h3.conv fun _ _ _ h => RV.flLL_of (L := x :: r) h
end
end Go.Proofs.YtjljigccgaadaaaDoor.Am

namespace Go.Proofs.YtjljigccgaadaaaDoor.Am
open Go
set_option maxRecDepth 100000

/-- Lists and an error. -/
def resLL (L : List (List Int)) (e : Int) : AV := .tup [flLL L, I e]
theorem ACall.resZsL {f : FuncId} {xs : List AV} {σ σ' : Heap} {e : Int} (h : ACall Tryd.prog G0 f xs σ (.tup [.zs, I e]) σ') : ACall Tryd.prog G0 f xs σ (resLL [] e) σ' :=
  h.conv fun _ _ _ h => h.tup2 (fun _ h => h.flLL_zs) fun _ h => h
theorem below_tup2 {n : Nat} {a b : AV} (ha : Below n a) (hb : Below n b) : Below n (.tup [a, b]) := .tup _ fun j x hx => by
  match j, hx with
  | 0, hx => cases hx; exact ha
  | 1, hx => cases hx; exact hb
  | j + 2, hx => simp at hx

/-- Asked whether a list can be fulfilled: the answer is always the same, and nothing turns. -/
def FulAt (σ : Heap) (g : FuncId) (caps : List AV) (f : Nat → Bool) : Prop := ∀ (X : Heap) (s : Nat), s < 2 ^ 64 → ACall Tryd.prog G0 g (flN (bitsL s) :: caps) (σ ++ X) (.bool (f s)) (σ ++ X)
section
variable {σ : Heap} {g : FuncId} {caps : List AV} {f : Nat → Bool}
theorem FulAt.more (h : FulAt σ g caps f) (Y : Heap) : FulAt (σ ++ Y) g caps f := fun X s hs => by rw [List.append_assoc]; exact h (Y ++ X) s hs
theorem FulAt.ful (h : FulAt σ g caps f) (X : Heap) : FulOk g caps (fun _ : Unit => σ ++ X) fun _ s => (f s, ()) := fun _ s hs => h X s hs
theorem FulAt.has (h : FulAt σ g caps f) (m : Nat) : HasAt σ 65 [.row [.fn g [] caps] 0] (fun s => !f s) m := fun X s _ hs => c65 (h.ful X) () s trivial hs

def cl15 : FuncId → List AV → Option (Tree AV) := fun f xs => match f, xs with
  | 41, [.int .i64 n, .int .i64 m, .fn _ _ _] => some (.leaf (I (askE n m)))
  | 42, [.fn g xs ys] => some (.leaf (.fn 65 [] [.row [.fn g xs ys] 0]))
  | 43, [.int .i64 n] => some (.need (0 ≤ n ∧ n ≤ 64) (.leaf (U (2 ^ n.toNat - 1 : Nat))))
  | _, _ => none
theorem cl15_ok {f : FuncId} {xs : List AV} {t : Tree AV} {v : AV} (hq : cl15 f xs = some t) (hs : t.sel = some v) (σ : Heap) : ACall Tryd.prog G0 f xs σ v σ := by
  unfold cl15 at hq
  split at hq <;> first | (cases hq; done) | skip
  · cases hq; cases hs; exact c41 _ _ _ _ _ σ
  · cases hq; cases hs; exact c42 _ _ _ σ
  · rename_i n
    cases hq
    obtain ⟨h1, hs2⟩ := Tree.of_need hs
    cases hs2
    have := c43 (n := n.toNat) (by omega) σ
    rwa [show ((n.toNat : Nat) : Int) = n by omega] at this
def clh15 (n : Int) (fv v : AV) (h : Heap) : FuncId → List AV → Heap → Option (Tree (AV × Heap)) := fun f xs h0 => match f with
  | 47 => some (.need (xs = [I n, fv] ∧ h0 = h) (.leaf (v, h)))
  | _ => none
theorem clh15_ok {n : Int} {fv v : AV} {h : Heap} (hc : ACall Tryd.prog G0 47 [I n, fv] h v h) : ∀ f xs σ t u σ', clh15 n fv v h f xs σ = some t → t.sel = some (u, σ') → ACall Tryd.prog G0 f xs σ u σ' := by
  intro f xs σ t u σ' hq hs
  unfold clh15 at hq
  split at hq <;> first | (cases hq; done) | skip
  cases hq
  obtain ⟨⟨rfl, rfl⟩, hs2⟩ := Tree.of_need hs
  cases hs2
  exact hc
def E15 (n : Int) (fv v : AV) (h : Heap) : Env := { cl := cl15, clh := clh15 n fv v h }
theorem run15 (n : Int) (g : FuncId) (caps : List AV) (v : AV) (h : Heap) : xCall Tryd.prog G0 (E15 n (.fn 65 [] [.row [.fn g [] caps] 0]) v h) 200 15 [I n, .fn g [] caps] [true, true] h =
    .ite (askE n 12 != 0) (.leaf (.tup [.zs, I (askE n 12)], true, h)) (.need ([I n, .fn 65 [] [.row [.fn g [] caps] 0]] = [I n, .fn 65 [] [.row [.fn g [] caps] 0]] ∧ h = h) (.leaf (.tup [v, I 0], true, h))) := by kernel_rfl
def Efail15 : Env := { cl := cl15, clh := failH }
theorem clokf15 : ClOk Tryd.prog G0 Efail15 := .all .none failH_ok (fun l xs σ t v σ' h => (by cases h)) fun f xs t v h hs σ => cl15_ok h hs σ
theorem askE_bad {n m : Int} (hn : n < 0 ∨ n > m) : askE n m = 2 := by
  unfold askE
  by_cases h : n < 0
  · rw [decide_eq_true h]; rfl
  · rw [decide_eq_false h, decide_eq_true (by omega)]; rfl
theorem askE_good {n m : Int} (h0 : 0 ≤ n) (h1 : n ≤ m) : askE n m = 0 := by
  unfold askE; rw [decide_eq_false (by omega), decide_eq_false (by omega)]; rfl
/-- WHAT All RETURNS. -/
theorem c15 {n : Nat} (hn : n ≤ 12) (hf : FulAt σ g caps f) : ACall Tryd.prog G0 15 [I n, .fn g [] caps] σ (resLL (everyL (fun s => !f s) n) 0) σ := by
  have h47 := c47r hn (hf.has (2 ^ n))
  have hcl : ClOk Tryd.prog G0 (E15 n (.fn 65 [] [.row [.fn g [] caps] 0]) (flLL (everyL (fun s => !f s) n)) σ) := .all .none (clh15_ok h47) (fun l xs σ t v σ' h => (by cases h)) fun f xs t v h hs σ => cl15_ok h hs σ
  refine xCall_ok (n := 200) (tags := [true, true]) (s := true) names mixed hcl ?_
  rw [run15, selI, askE_good (by omega) (by omega), bne_self_eq_false, cond_false]
  exact Tree.sel_need ⟨rfl, rfl⟩
theorem c15e {n : Int} (hn : n < 0 ∨ n > 12) (g : FuncId) (xs ys : List AV) (h : Heap) : ACall Tryd.prog G0 15 [I n, .fn g xs ys] h (resLL [] 2) h := by
  have run : xCall Tryd.prog G0 Efail15 200 15 [I n, .fn g xs ys] [true, true] h = .ite (askE n 12 != 0) (.leaf (.tup [.zs, I (askE n 12)], true, h)) .fail := by kernel_rfl
  refine (xCall_ok (n := 200) (tags := [true, true]) (s := true) (v := .tup [.zs, I 2]) names mixed clokf15 ?_).resZsL
  rw [run, askE_bad hn]; rfl

/-! ### Repairs -/
def h16 (N : Nat) (h h1 h2 h3 h4 : Heap) (x y : AV) := orH (hAl 63 N h h1) (orH (hAl 61 (N + 1) h1 h2) (orH (hSt 63 (.ref N 0 0) x h2 h3) (hSt 61 (.ref (N + 1) 0 0) y h3 h4)))
theorem h16_ok (N : Nat) (h h1 h2 h3 h4 : Heap) (x y : AV) : HintOk Tryd.prog G0 (h16 N h h1 h2 h3 h4 x y) := (hAl_ok _ _ _ _).ok.or ((hAl_ok _ _ _ _).ok.or ((hSt_ok _ _ _ _ _).ok.or (hSt_ok _ _ _ _ _).ok))
def E16 (n : Int) (N : Nat) (fv v : AV) (h h1 h2 h3 h4 : Heap) (y : AV) : Env := { cl := cl15, clh := clh15 n fv v h4, hint := h16 N h h1 h2 h3 h4 (U (2 ^ n.toNat - 1 : Nat)) y }
def bad65 (g : FuncId) (caps : List AV) : AV := .fn 65 [] [.row [.fn g [] caps] 0]
def caps48 (N : Nat) : List AV := [.ref (N + 1) 0 0, .ref N 0 0]
theorem run16 (n : Int) (g : FuncId) (caps : List AV) (v : AV) (N : Nat) (h h1 h2 h3 h4 : Heap) : xCall Tryd.prog G0 (E16 n N (.fn 48 [] (caps48 N)) v h h1 h2 h3 h4 (bad65 g caps)) 200 16 [I n, .fn g [] caps] [true, true] h =
    .ite (askE n 12 != 0) (.leaf (.tup [.zs, I (askE n 12)], true, h)) (.need (0 ≤ n ∧ n ≤ 64) (.need (h = h ∧ aAlloc Tryd.prog h 63 = some (.ref N 0 0, h1)) (.need (h1 = h1 ∧ aAlloc Tryd.prog h1 61 = some (.ref (N + 1) 0 0, h2))
      (.need (some (AV.ref N 0 0) = some (AV.ref N 0 0) ∧ some (U (2 ^ n.toNat - 1 : Nat)) = some (U (2 ^ n.toNat - 1 : Nat)) ∧ h2 = h2 ∧ aStore Tryd.prog h2 63 (.ref N 0 0) (U (2 ^ n.toNat - 1 : Nat)) = some h3)
        (.need (some (AV.ref (N + 1) 0 0) = some (AV.ref (N + 1) 0 0) ∧ some (bad65 g caps) = some (bad65 g caps) ∧ h3 = h3 ∧ aStore Tryd.prog h3 61 (.ref (N + 1) 0 0) (bad65 g caps) = some h4)
          (.need ([I n, .fn 48 [] (caps48 N)] = [I n, .fn 48 [] (caps48 N)] ∧ h4 = h4) (.leaf (.tup [v, I 0], true, h4)))))))) := by kernel_rfl
def clh48 (fv : AV) (s : Int) (b : Bool) (h : Heap) : FuncId → List AV → Heap → Option (Tree (AV × Heap)) := fun f xs h0 => match f with
  | 65 => some (.need (xs = [U s, fv] ∧ h0 = h) (.leaf (.bool b, h)))
  | _ => none
def E48 (a : Int) (fv : AV) (s : Int) (b : Bool) (h : Heap) : Env := { clh := clh48 fv s b h, hint := orH (hLd 61 (.fn 65 [] [fv])) (hLd 63 (U a)) }
theorem run48 (a s : Int) (fv : AV) (s' : Int) (b : Bool) (N : Nat) (h : Heap) : xCall Tryd.prog G0 (E48 a fv s' b h) 200 48 [U s, .ref (N + 1) 0 0, .ref N 0 0] [true, true, true] h =
    .need (objAt h (N + 1) 0 = some [.fn 65 [] [fv]]) (.need (objAt h N 0 = some [U a]) (.need ([U (uandNot a s), fv] = [U s', fv] ∧ h = h) (.leaf (.bool (!b), true, h)))) := by kernel_rfl
/-- The numbers below n that are not in a set. -/
def comp (n s : Nat) : Nat := (2 ^ n - 1) &&& (2 ^ 64 - 1 - s)
/-- The two variables of Repairs. -/
def two16 (n : Nat) (g : FuncId) (caps : List AV) : Heap := [.cells 0 [U (2 ^ n - 1 : Nat)], .cells 0 [bad65 g caps]]
theorem has48 (hf : FulAt σ g caps f) {n : Nat} (hn : n ≤ 12) (m : Nat) : HasAt (σ ++ two16 n g caps) 48 (caps48 σ.length) (fun s => f (comp n s)) m := by
  intro X s _ hs
  have h64 : 2 ^ n ≤ 2 ^ 12 := Nat.pow_le_pow_right (by omega) hn
  have hp := Nat.two_pow_pos n
  have hlt : comp n s < 2 ^ 64 := Nat.lt_of_le_of_lt Nat.and_le_left (by omega)
  have hc := c65 ((hf.more (two16 n g caps)).ful X) () (comp n s) trivial hlt
  have hcl : ClOk Tryd.prog G0 (E48 (2 ^ n - 1 : Nat) (.row [.fn g [] caps] 0) (comp n s) (!f (comp n s)) (σ ++ two16 n g caps ++ X)) := by
    refine .all ((hLd_ok (by kernel_rfl : Tryd.prog.underlying 61 = some (.func #[63] #[4] false)) rfl _).ok.or (hLd_ok (by kernel_rfl : Tryd.prog.underlying 63 = some (.int .u64)) rfl _).ok) ?_ (fun l xs σ t v σ' h => (by cases h)) (fun f xs t v h => by cases h)
    intro f' xs σ' t u σ'' hq hsel
    replace hq : clh48 _ _ _ _ f' xs σ' = some t := hq
    unfold clh48 at hq
    split at hq <;> first | (cases hq; done) | skip
    cases hq
    obtain ⟨⟨rfl, rfl⟩, hs2⟩ := Tree.of_need hsel
    cases hs2
    exact hc
  refine xCall_ok (n := 200) (tags := [true, true, true]) (s := true) names mixed hcl ?_
  have g1 : objAt (σ ++ two16 n g caps ++ X) (σ.length + 1) 0 = some [.fn 65 [] [.row [.fn g [] caps] 0]] := by rw [List.append_assoc]; exact objAt_app rfl
  have g0 : objAt (σ ++ two16 n g caps ++ X) σ.length 0 = some [U (2 ^ n - 1 : Nat)] := by rw [List.append_assoc]; exact objAt_app (i := 0) rfl
  have harg : uandNot (2 ^ n - 1 : Nat) s = (comp n s : Nat) := uandNot_nat (by omega) hs
  have := run48 (2 ^ n - 1 : Nat) s (.row [.fn g [] caps] 0) (comp n s) (!f (comp n s)) σ.length (σ ++ two16 n g caps ++ X)
  refine (congrArg Tree.sel this).trans ?_
  rw [harg, Tree.sel_need g1, Tree.sel_need g0, Tree.sel_need ⟨rfl, rfl⟩, Bool.not_not]
  rfl
theorem alloc63 (h : Heap) : aAlloc Tryd.prog h 63 = some (.ref h.length 0 0, h ++ [.cells 0 [U 0]]) := by kernel_rfl
/-- A store into a variable behind a heap. -/
theorem store_app {t : TypeId} (ht : One t) {σ rest : Heap} {i : Nat} {x y : AV} (hi : rest[i]? = some (.cells 0 [y])) (hx : x.one = true) : aStore Tryd.prog (σ ++ rest) t (.ref (σ.length + i) 0 0) x = some (σ ++ rest.set i (.cells 0 [x])) := by
  obtain ⟨j, h1, h2⟩ := ht
  have ho : objAt (σ ++ rest) (σ.length + i) 0 = some [y] := objAt_app hi
  have hc : x.cells = [x] := by cases x <;> first | rfl | cases hx
  simp only [aStore, h1, ho, h2, hc]
  rw [if_pos ⟨rfl, by simp, by simp [hx]⟩, set_app]
  simp [setL]
/-- WHAT Repairs RETURNS. -/
theorem c16 {n : Nat} (hn : n ≤ 12) (hf : FulAt σ g caps f) : ACall Tryd.prog G0 16 [I n, .fn g [] caps] σ (resLL (everyL (fun s => f (comp n s)) n) 0) σ := by
  have h47 := c47r hn (has48 hf hn (2 ^ n))
  have hcl : ClOk Tryd.prog G0 (E16 n σ.length (.fn 48 [] (caps48 σ.length)) (flLL (everyL (fun s => f (comp n s)) n)) σ (σ ++ [.cells 0 [U 0]]) (σ ++ [.cells 0 [U 0], .cells 0 [.nilf]]) (σ ++ [.cells 0 [U (2 ^ n - 1 : Nat)], .cells 0 [.nilf]]) (σ ++ two16 n g caps) (bad65 g caps)) :=
    .all (h16_ok _ _ _ _ _ _ _ _) (clh15_ok h47) (fun l xs σ t v σ' h => (by cases h)) fun f xs t v h hs σ => cl15_ok h hs σ
  refine ACall.forget (X := two16 n g caps) (xCall_ok (n := 200) (tags := [true, true]) (s := true) names mixed hcl ?_) (below_tup2 (below_flLL _) (.int _ _))
  have a1 : aAlloc Tryd.prog (σ ++ [.cells 0 [U 0]]) 61 = some (.ref (σ.length + 1) 0 0, σ ++ [.cells 0 [U 0], .cells 0 [.nilf]]) := by rw [alloc61]; simp
  rw [run16, selI, askE_good (by omega) (by omega), bne_self_eq_false, cond_false, Tree.sel_need ⟨by omega, by omega⟩, Tree.sel_need ⟨rfl, alloc63 σ⟩, Tree.sel_need ⟨rfl, a1⟩, Int.toNat_natCast,
    Tree.sel_need ⟨rfl, rfl, rfl, store_app (one_of (by kernel_rfl)) (i := 0) rfl rfl⟩, Tree.sel_need ⟨rfl, rfl, rfl, store_app (one_of (by kernel_rfl)) (i := 1) rfl rfl⟩]
  exact Tree.sel_need ⟨rfl, rfl⟩
def E16e (n : Int) (N : Nat) (h h1 h2 h3 h4 : Heap) (y : AV) : Env := { cl := cl15, clh := failH, hint := h16 N h h1 h2 h3 h4 (U (2 ^ n.toNat - 1 : Nat)) y }
theorem run16e (n : Int) (g : FuncId) (caps : List AV) (N : Nat) (h h1 h2 h3 h4 : Heap) : xCall Tryd.prog G0 (E16e n N h h1 h2 h3 h4 (bad65 g caps)) 200 16 [I n, .fn g [] caps] [true, true] h =
    .ite (askE n 12 != 0) (.leaf (.tup [.zs, I (askE n 12)], true, h)) (.need (0 ≤ n ∧ n ≤ 64) (.need (h = h ∧ aAlloc Tryd.prog h 63 = some (.ref N 0 0, h1)) (.need (h1 = h1 ∧ aAlloc Tryd.prog h1 61 = some (.ref (N + 1) 0 0, h2))
      (.need (some (AV.ref N 0 0) = some (AV.ref N 0 0) ∧ some (U (2 ^ n.toNat - 1 : Nat)) = some (U (2 ^ n.toNat - 1 : Nat)) ∧ h2 = h2 ∧ aStore Tryd.prog h2 63 (.ref N 0 0) (U (2 ^ n.toNat - 1 : Nat)) = some h3)
        (.need (some (AV.ref (N + 1) 0 0) = some (AV.ref (N + 1) 0 0) ∧ some (bad65 g caps) = some (bad65 g caps) ∧ h3 = h3 ∧ aStore Tryd.prog h3 61 (.ref (N + 1) 0 0) (bad65 g caps) = some h4) .fail))))) := by kernel_rfl
theorem c16e {n : Int} (hn : n < 0 ∨ n > 12) (g : FuncId) (caps : List AV) (h : Heap) : ACall Tryd.prog G0 16 [I n, .fn g [] caps] h (resLL [] 2) h := by
  refine (xCall_ok (n := 200) (tags := [true, true]) (s := true) (v := .tup [.zs, I 2]) (E := E16e n 0 h h h h h (bad65 g caps)) names mixed (.all (h16_ok _ _ _ _ _ _ _ _) failH_ok (fun l xs σ t v σ' h => (by cases h)) fun f xs t v h hs σ => cl15_ok h hs σ) ?_).resZsL
  rw [run16e, askE_bad hn]; rfl
end
end Go.Proofs.YtjljigccgaadaaaDoor.Am

namespace Go.Proofs.YtjljigccgaadaaaDoor.Am
open Go
set_option maxRecDepth 100000

/-- A look into a list of integers that lies in an object. -/
def hLst (t : TypeId) (k : IntKind) (r g : Nat) (L : List Int) : Heap → Oper → (Operand → Option AV) → Option (AV × Bool × Heap × Prop) := fun h o ρ => match o.op with
  | .load t' x => if t' = t then (match ρ x with
    | some (.ref r' g' off) => some (.int k (L.getD off 0), true, h, r' = r ∧ g' = g ∧ off < L.length ∧ objAt h r g = some (L.map (AV.int k)))
    | _ => none) else none
  | _ => none
theorem hLst_ok {t : TypeId} {k : IntKind} (hu : Tryd.prog.underlying t = some (.int k)) (r g : Nat) (L : List Int) : HintA Tryd.prog (hLst t k r g L) := by
  intro h o ρ y s h' p hh hp
  unfold hLst at hh
  split at hh
  · rename_i t' x ho
    split at hh
    · rename_i ht
      subst ht
      split at hh
      · rename_i r' g' off hx
        cases hh
        obtain ⟨rfl, rfl, hlt, hc⟩ := hp
        unfold aopR
        simp only [ho, hx, Option.bind_some, aLoad, hc]
        unfold Am.cut
        rw [hu]
        simp [aggD, hlt, List.getD_eq_getElem?_getD]
      · cases hh
    · cases hh
  · cases hh

/-- The place of the first element with a property; none: -1. -/
def idxOf (p : Int → Bool) : List Int → Nat → Int
  | [], _ => -1
  | x :: r, k => bif p x then (k : Int) else idxOf p r (k + 1)
theorem idxOf_nonneg {p : Int → Bool} : ∀ (L : List Int) (k : Nat), decide (idxOf p L k ≥ 0) = L.any p
  | [], k => rfl
  | x :: r, k => by
    unfold idxOf
    cases h : p x with
    | true => simp [h]
    | false => simp [h, idxOf_nonneg r (k + 1)]

/-! ### Index and IndexFunc -/
def msv (r g m : Nat) : AV := .ms 1 r g 0 m m
def E69 (r g : Nat) (L : List Int) : Env := { hint := hLst 63 .u64 r g L }
theorem clok69 (r g : Nat) (L : List Int) : ClOk Tryd.prog G0 (E69 r g L) := .ofH rfl rfl (hLst_ok (by kernel_rfl) r g L).ok fun f xs t v h => by cases h
def st69 (v w : AV) (m k : Int) (h : Heap) : St := .of 19 h [(0, v, true), (1, w, true), (7, I m, true), (8, I k, true)]
def stR69 (k : AV) (h : Heap) : St := .of 19 h [(4, k, true)]
def stE69 (h : Heap) : St := .of 19 h []
noncomputable def body69 : Code := (loopsOf (bodyOf Tryd.prog 69)).headD .skip
noncomputable def body70 : Code := (loopsOf (bodyOf Tryd.prog 70)).headD .skip
def in69 (r g m k : Nat) (L : List Int) (h : Heap) (x : Tree (Exit × St)) : Tree (Exit × St) :=
  .need (0 ≤ (k : Int) ∧ (k : Int) < m ∧ (objAt h r g).isSome = true) (.need (r = r ∧ g = g ∧ 0 + (k : Int).toNat * 1 < L.length ∧ objAt h r g = some (L.map (AV.int .u64))) x)
theorem run69n (r g m : Nat) (L : List Int) (s : Int) (k : Nat) (h : Heap) : xBody Tryd.prog G0 (E69 r g L) 200 noLoops [0, 1, 7, 8] body69 (st69 (msv r g m) (U s) m k h) =
    .ite (decide ((k : Int) < m)) (in69 r g m k L h (.ite (s == L.getD (0 + (k : Int).toNat * 1) 0) (.leaf (.ret, st69 (msv r g m) (U s) m k h)) (.leaf (.normal, st69 (msv r g m) (U s) m (IntKind.i64.wrap (k + 1)) h)))) (.leaf (.exit 0, st69 (msv r g m) (U s) m k h)) := by kernel_rfl
theorem run69r (r g m : Nat) (L : List Int) (s : Int) (k : Nat) (h : Heap) : xBody Tryd.prog G0 (E69 r g L) 200 noLoops [4] body69 (st69 (msv r g m) (U s) m k h) =
    .ite (decide ((k : Int) < m)) (in69 r g m k L h (.ite (s == L.getD (0 + (k : Int).toNat * 1) 0) (.leaf (.ret, stR69 (I k) h)) (.leaf (.normal, .of 19 h [(4, .junk, false)])))) (.leaf (.exit 0, .of 19 h [(4, .junk, false)])) := by kernel_rfl
theorem run69x (r g m : Nat) (L : List Int) (s : Int) (k : Nat) (h : Heap) : xBody Tryd.prog G0 (E69 r g L) 200 noLoops [] body69 (st69 (msv r g m) (U s) m k h) =
    .ite (decide ((k : Int) < m)) (in69 r g m k L h (.ite (s == L.getD (0 + (k : Int).toNat * 1) 0) (.leaf (.ret, stE69 h)) (.leaf (.normal, stE69 h)))) (.leaf (.exit 0, stE69 h)) := by kernel_rfl
def fn52 (s : Int) : AV := .fn 52 [] [.row [U s] 0]
theorem run70n (r g m : Nat) (L : List Int) (s : Int) (k : Nat) (h : Heap) : xBody Tryd.prog G0 (E69 r g L) 200 noLoops [0, 1, 7, 8] body70 (st69 (msv r g m) (fn52 s) m k h) =
    .ite (decide ((k : Int) < m)) (in69 r g m k L h (.ite (uand (L.getD (0 + (k : Int).toNat * 1) 0) s == 0) (.leaf (.ret, st69 (msv r g m) (fn52 s) m k h)) (.leaf (.normal, st69 (msv r g m) (fn52 s) m (IntKind.i64.wrap (k + 1)) h)))) (.leaf (.exit 0, st69 (msv r g m) (fn52 s) m k h)) := by kernel_rfl
theorem run70r (r g m : Nat) (L : List Int) (s : Int) (k : Nat) (h : Heap) : xBody Tryd.prog G0 (E69 r g L) 200 noLoops [4] body70 (st69 (msv r g m) (fn52 s) m k h) =
    .ite (decide ((k : Int) < m)) (in69 r g m k L h (.ite (uand (L.getD (0 + (k : Int).toNat * 1) 0) s == 0) (.leaf (.ret, stR69 (I k) h)) (.leaf (.normal, .of 19 h [(4, .junk, false)])))) (.leaf (.exit 0, .of 19 h [(4, .junk, false)])) := by kernel_rfl
theorem run70x (r g m : Nat) (L : List Int) (s : Int) (k : Nat) (h : Heap) : xBody Tryd.prog G0 (E69 r g L) 200 noLoops [] body70 (st69 (msv r g m) (fn52 s) m k h) =
    .ite (decide ((k : Int) < m)) (in69 r g m k L h (.ite (uand (L.getD (0 + (k : Int).toNat * 1) 0) s == 0) (.leaf (.ret, stE69 h)) (.leaf (.normal, stE69 h)))) (.leaf (.exit 0, stE69 h)) := by kernel_rfl
def end69 (i : Int) (h : Heap) : Exit × St := bif decide (i ≥ 0) then (.ret, stR69 (I i) h) else (.exit 0, stE69 h)
theorem end69_nat (k : Nat) (h : Heap) : end69 k h = (.ret, stR69 (I k) h) := by unfold end69; rw [decide_eq_true (by omega)]; rfl
theorem off69 (k : Nat) : 0 + (k : Int).toNat * 1 = k := by omega
section
variable {r g : Nat} {L : List Int} {h : Heap}
theorem in69_sel (ho : objAt h r g = some (L.map (AV.int .u64))) {k : Nat} (hk : k < L.length) (x : Tree (Exit × St)) : (in69 r g L.length k L h x).sel = x.sel := by
  unfold in69
  rw [Tree.sel_need ⟨by omega, by omega, by rw [ho]; rfl⟩, Tree.sel_need ⟨rfl, rfl, by omega, ho⟩]
theorem loop69 {R : Option Nat → Prop} (ho : objAt h r g = some (L.map (AV.int .u64))) (hl : L.length < 4611686018427387904) (s : Int) : ∀ (d k : Nat), k + d = L.length →
    ALoopRun Tryd.prog G0 R body69 { tmps := (st69 (msv r g L.length) (U s) L.length k h).a } h (end69 (idxOf (s == ·) (L.drop k) k) h).1 { tmps := (end69 (idxOf (s == ·) (L.drop k) k) h).2.a } h
  | 0, k, hk => by
    rw [List.drop_eq_nil_of_le (by omega)]
    refine .stop (xBody_ok (m := []) names mixed (clok69 r g L) (lpNo body69) (n := 200) (keep := []) (st := st69 (msv r g L.length) (U s) L.length k h) (st' := stE69 h) ?_).1 nofun
    rw [run69x, selI, decide_eq_false (by omega)]
    rfl
  | d + 1, k, hk => by
    have hlt : k < L.length := by omega
    have hg : L.getD k 0 = L[k] := by simp [List.getD_eq_getElem?_getD, hlt]
    rw [List.drop_eq_getElem_cons hlt, idxOf]
    cases hp : (s == L[k]) with
    | true =>
      rw [cond_true, end69_nat]
      refine .stop (xBody_ok (m := []) names mixed (clok69 r g L) (lpNo body69) (n := 200) (keep := [4]) (st := st69 (msv r g L.length) (U s) L.length k h) (st' := stR69 (I k) h) ?_).1 nofun
      rw [run69r, selI, decide_eq_true (by omega), cond_true, in69_sel ho hlt, selI, off69, hg, hp]
      rfl
    | false =>
      rw [cond_false]
      refine .next (xBody_ok (m := []) names mixed (clok69 r g L) (lpNo body69) (n := 200) (keep := [0, 1, 7, 8]) (st := st69 (msv r g L.length) (U s) L.length k h) (st' := st69 (msv r g L.length) (U s) L.length (k + 1 : Nat) h) ?_).1 (loop69 ho hl s d (k + 1) (by omega))
      have hw : IntKind.i64.wrap ((k : Int) + 1) = ((k + 1 : Nat) : Int) := wrap_i64 (by omega) (by omega)
      rw [run69n, selI, decide_eq_true (by omega), cond_true, in69_sel ho hlt, selI, off69, hg, hp, hw]
      rfl
theorem loop70 {R : Option Nat → Prop} (ho : objAt h r g = some (L.map (AV.int .u64))) (hl : L.length < 4611686018427387904) (s : Int) : ∀ (d k : Nat), k + d = L.length →
    ALoopRun Tryd.prog G0 R body70 { tmps := (st69 (msv r g L.length) (fn52 s) L.length k h).a } h (end69 (idxOf (fun x => uand x s == 0) (L.drop k) k) h).1 { tmps := (end69 (idxOf (fun x => uand x s == 0) (L.drop k) k) h).2.a } h
  | 0, k, hk => by
    rw [List.drop_eq_nil_of_le (by omega)]
    refine .stop (xBody_ok (m := []) names mixed (clok69 r g L) (lpNo body70) (n := 200) (keep := []) (st := st69 (msv r g L.length) (fn52 s) L.length k h) (st' := stE69 h) ?_).1 nofun
    rw [run70x, selI, decide_eq_false (by omega)]
    rfl
  | d + 1, k, hk => by
    have hlt : k < L.length := by omega
    have hg : L.getD k 0 = L[k] := by simp [List.getD_eq_getElem?_getD, hlt]
    rw [List.drop_eq_getElem_cons hlt, idxOf]
    cases hp : (uand L[k] s == 0) with
    | true =>
      rw [cond_true, end69_nat]
      refine .stop (xBody_ok (m := []) names mixed (clok69 r g L) (lpNo body70) (n := 200) (keep := [4]) (st := st69 (msv r g L.length) (fn52 s) L.length k h) (st' := stR69 (I k) h) ?_).1 nofun
      rw [run70r, selI, decide_eq_true (by omega), cond_true, in69_sel ho hlt, selI, off69, hg, hp]
      rfl
    | false =>
      rw [cond_false]
      refine .next (xBody_ok (m := []) names mixed (clok69 r g L) (lpNo body70) (n := 200) (keep := [0, 1, 7, 8]) (st := st69 (msv r g L.length) (fn52 s) L.length k h) (st' := st69 (msv r g L.length) (fn52 s) L.length (k + 1 : Nat) h) ?_).1 (loop70 ho hl s d (k + 1) (by omega))
      have hw : IntKind.i64.wrap ((k : Int) + 1) = ((k + 1 : Nat) : Int) := wrap_i64 (by omega) (by omega)
      rw [run70n, selI, decide_eq_true (by omega), cond_true, in69_sel ho hlt, selI, off69, hg, hp, hw]
      rfl
def lp69 (v w : AV) (m : Int) (h : Heap) (b : Bool) (i : Int) : Loops := fun id => match id with
  | 2 => some ([0, 1, 7, 8], st69 v w m 0 h, .ite b (.leaf (.ret, stR69 (I i) h)) (.leaf (.exit 0, stE69 h)))
  | _ => none
theorem loops69 : loopsOf (bodyOf Tryd.prog 69) = [body69] := by kernel_rfl
theorem loops70 : loopsOf (bodyOf Tryd.prog 70) = [body70] := by kernel_rfl
theorem id69 : idOf body69 = 2 := by kernel_rfl
theorem id70 : idOf body70 = 2 := by kernel_rfl
theorem runF69 (r g m : Nat) (s : Int) (h : Heap) (b : Bool) (i : Int) : xenter Tryd.prog {} (xCode Tryd.prog G0 {} 200 (lp69 (msv r g m) (U s) m h b i)) 69 [msv r g m, U s] [true, true] h = .need ((st69 (msv r g m) (U s) m 0 h).vals = (st69 (msv r g m) (U s) m 0 h).vals) (.ite b (.leaf (I i, true, h)) (.leaf (I (-1), false, h))) := by kernel_rfl
theorem runF70 (r g m : Nat) (s : Int) (h : Heap) (b : Bool) (i : Int) : xenter Tryd.prog {} (xCode Tryd.prog G0 {} 200 (lp69 (msv r g m) (fn52 s) m h b i)) 70 [msv r g m, fn52 s] [true, true] h = .need ((st69 (msv r g m) (fn52 s) m 0 h).vals = (st69 (msv r g m) (fn52 s) m 0 h).vals) (.ite b (.leaf (I i, true, h)) (.leaf (I (-1), false, h))) := by kernel_rfl
theorem idxOf_neg {p : Int → Bool} : ∀ (L : List Int) (k : Nat), ¬ idxOf p L k ≥ 0 → idxOf p L k = -1
  | [], k, _ => rfl
  | x :: r, k, h => by
    unfold idxOf at h ⊢
    cases hp : p x with
    | true => rw [hp] at h; simp at h
    | false => rw [hp] at h; exact idxOf_neg r (k + 1) h
theorem c69 (ho : objAt h r g = some (L.map (AV.int .u64))) (hl : L.length < 4611686018427387904) (s : Int) : ACall Tryd.prog G0 69 [msv r g L.length, U s] h (I (idxOf (s == ·) L 0)) h := by
  have key := loop69 (R := fun r => r = none) ho hl s L.length 0 (by omega)
  rw [List.drop_zero] at key
  generalize hi : idxOf (s == ·) L 0 = i at key
  refine .find (s := decide (i ≥ 0)) (tags := [true, true]) (n := 200) (lp := lp69 (msv r g L.length) (U s) L.length h (decide (i ≥ 0)) i) clok0 (.of_list _ fun x hm => ?_) ?_
  · rw [loops69] at hm
    obtain rfl := List.mem_singleton.1 hm
    intro keep s0 t e st' h' hs
    rw [id69] at h'
    cases h'
    unfold end69 at key
    rw [selI] at hs
    revert hs key
    cases decide (i ≥ 0) <;> intro key hs <;> cases hs <;> exact ⟨.loop key, rfl⟩
  · rw [runF69, selR, selI]
    by_cases h0 : i ≥ 0
    · rw [decide_eq_true h0]; rfl
    · rw [decide_eq_false h0, ← hi, idxOf_neg L 0 (by rw [hi]; exact h0)]; rfl
theorem c70 (ho : objAt h r g = some (L.map (AV.int .u64))) (hl : L.length < 4611686018427387904) (s : Int) : ACall Tryd.prog G0 70 [msv r g L.length, fn52 s] h (I (idxOf (fun x => uand x s == 0) L 0)) h := by
  have key := loop70 (R := fun r => r = none) ho hl s L.length 0 (by omega)
  rw [List.drop_zero] at key
  generalize hi : idxOf (fun x => uand x s == 0) L 0 = i at key
  refine .find (s := decide (i ≥ 0)) (tags := [true, true]) (n := 200) (lp := lp69 (msv r g L.length) (fn52 s) L.length h (decide (i ≥ 0)) i) clok0 (.of_list _ fun x hm => ?_) ?_
  · rw [loops70] at hm
    obtain rfl := List.mem_singleton.1 hm
    intro keep s0 t e st' h' hs
    rw [id70] at h'
    cases h'
    unfold end69 at key
    rw [selI] at hs
    revert hs key
    cases decide (i ≥ 0) <;> intro key hs <;> cases hs <;> exact ⟨.loop key, rfl⟩
  · rw [runF70, selR, selI]
    by_cases h0 : i ≥ 0
    · rw [decide_eq_true h0]; rfl
    · rw [decide_eq_false h0, ← hi, idxOf_neg L 0 (by rw [hi]; exact h0)]; rfl
end
/-- The list, as its variable holds it. -/
def vU (r : Nat) (L : List Int) : AV := vA r (L.map (AV.int .u64))
/-- Where its object lies. -/
def AtU (h : Heap) (r : Nat) (L : List Int) : Prop := L ≠ [] → objAt h r (L.length - 1) = some (L.map (AV.int .u64))
section
variable {r : Nat} {L : List Int} {h : Heap}
theorem c69v (ho : AtU h r L) (hl : L.length < 4611686018427387904) (s : Int) : ACall Tryd.prog G0 69 [vU r L, U s] h (I (idxOf (s == ·) L 0)) h := by
  cases L with
  | nil =>
    have run : xCall Tryd.prog G0 {} 200 69 [.zs, U s] [true, true] h = .leaf (I (-1), false, h) := by kernel_rfl
    exact xCall_ok (n := 200) (tags := [true, true]) (s := false) names mixed clok0 (by unfold vU; exact congrArg Tree.sel run)
  | cons x l =>
    have := c69 (r := r) (g := l.length) (L := x :: l) (h := h) (ho (by simp)) hl s
    have e : vU r (x :: l) = msv r l.length (x :: l).length := by simp [vU, vA, msv]
    rw [e]; exact this
theorem c70v (ho : AtU h r L) (hl : L.length < 4611686018427387904) (s : Int) : ACall Tryd.prog G0 70 [vU r L, fn52 s] h (I (idxOf (fun x => uand x s == 0) L 0)) h := by
  cases L with
  | nil =>
    have run : xCall Tryd.prog G0 {} 200 70 [.zs, fn52 s] [true, true] h = .leaf (I (-1), false, h) := by kernel_rfl
    exact xCall_ok (n := 200) (tags := [true, true]) (s := false) names mixed clok0 (by unfold vU; exact congrArg Tree.sel run)
  | cons x l =>
    have := c70 (r := r) (g := l.length) (L := x :: l) (h := h) (ho (by simp)) hl s
    have e : vU r (x :: l) = msv r l.length (x :: l).length := by simp [vU, vA, msv]
    rw [e]; exact this
def clhI (f1 : FuncId) (xs1 : List AV) (i : Int) (h : Heap) : FuncId → List AV → Heap → Option (Tree (AV × Heap)) := fun f xs h0 => if f = f1 then some (.need (xs = xs1 ∧ h0 = h) (.leaf (I i, h))) else none
theorem clokI {f1 : FuncId} {xs1 : List AV} {i : Int} {h : Heap} (hc : ACall Tryd.prog G0 f1 xs1 h (I i) h) : ClOk Tryd.prog G0 { clh := clhI f1 xs1 i h } := by
  refine .all .none ?_ (fun l xs σ t v σ' h => (by cases h)) (fun f xs t v h => (by cases h))
  intro f xs σ t v σ' hq hs
  replace hq : clhI f1 xs1 i h f xs σ = some t := hq
  unfold clhI at hq
  split at hq
  · rename_i hf
    subst hf
    cases hq
    obtain ⟨⟨rfl, rfl⟩, hs2⟩ := Tree.of_need hs
    cases hs2
    exact hc
  · cases hq
theorem run49 (v w : AV) (i : Int) (h : Heap) : xCall Tryd.prog G0 { clh := clhI 69 [v, w] i h } 200 49 [v, w] [true, true] h = .need ([v, w] = [v, w] ∧ h = h) (.leaf (.bool (decide (i ≥ 0)), true, h)) := by kernel_rfl
theorem run51 (v w : AV) (i : Int) (h : Heap) : xCall Tryd.prog G0 { clh := clhI 70 [v, w] i h } 200 51 [v, w] [true, true] h = .need ([v, w] = [v, w] ∧ h = h) (.leaf (.bool (decide (i ≥ 0)), true, h)) := by kernel_rfl
theorem c49 (ho : AtU h r L) (hl : L.length < 4611686018427387904) (s : Int) : ACall Tryd.prog G0 49 [vU r L, U s] h (.bool (L.any (s == ·))) h := by
  refine xCall_ok (n := 200) (tags := [true, true]) (s := true) names mixed (clokI (c69v ho hl s)) ?_
  rw [run49, Tree.sel_need ⟨rfl, rfl⟩, idxOf_nonneg]
  rfl
theorem c51 (ho : AtU h r L) (hl : L.length < 4611686018427387904) (s : Int) : ACall Tryd.prog G0 51 [vU r L, fn52 s] h (.bool (L.any fun x => uand x s == 0)) h := by
  refine xCall_ok (n := 200) (tags := [true, true]) (s := true) names mixed (clokI (c70v ho hl s)) ?_
  rw [run51, Tree.sel_need ⟨rfl, rfl⟩, idxOf_nonneg]
  rfl
end
end Go.Proofs.YtjljigccgaadaaaDoor.Am

namespace Go.Proofs.YtjljigccgaadaaaDoor.Am
open Go
set_option maxRecDepth 100000

/-- The different sets of lists, in the order in which they come; none, if a list is no set. -/
def hitLoop (n : Int) : List (List Int) → List Int → Option (List Int)
  | [], L => some L
  | x :: r, L => match ofL n x with
    | none => none
    | some s => hitLoop n r (if L.any ((s : Int) == ·) then L else L ++ [(s : Int)])
/-- A set hits all of them. -/
def hits (L : List Int) (s : Nat) : Bool := !(L.any fun x => uand x s == 0)

/-- The heap with the variable l. -/
def hH (σ : Heap) (L : List Int) : Heap := σ ++ ([.cells 0 [vU (σ.length + 1) L]] ++ oA (L.map (AV.int .u64)))
theorem hH_box (σ : Heap) (L : List Int) (X : Heap) : objAt (hH σ L ++ X) σ.length 0 = some [vU (σ.length + 1) L] := by
  unfold hH
  rw [List.append_assoc]
  exact objAt_app (i := 0) rfl
theorem hH_at (σ : Heap) (L : List Int) (X : Heap) : AtU (hH σ L ++ X) (σ.length + 1) L := by
  intro h
  unfold hH
  rw [List.append_assoc]
  cases L with
  | nil => exact absurd rfl h
  | cons x l =>
    refine objAt_app (i := 1) ?_
    simp [oA]
def cl17 (n : Int) (x v : AV) (s : Int) (ok b : Bool) (h : Heap) : FuncId → List AV → Heap → Option (Tree (AV × Heap)) := fun f xs h0 => match f with
  | 45 => some (.need (xs = [I n, x] ∧ h0 = h) (.leaf (.tup [U s, .bool ok], h)))
  | 49 => some (.need (xs = [v, U s] ∧ h0 = h) (.leaf (.bool b, h)))
  | _ => none
def E17 (n : Int) (x v v' : AV) (s : Int) (ok b : Bool) (N : Nat) (h h1 h2 : Heap) : Env := { clh := cl17 n x v s ok b h, hint := orH (hLd 70 v) (orH (hApp 70 v (.sl 1 [[U s]]) v' h h1) (hSt 70 (.ref N 0 0) v' h1 h2)) }
theorem clok17 {n : Int} {x v v' : AV} {s : Int} {ok b : Bool} {N : Nat} {h h1 h2 : Heap} (h45 : ACall Tryd.prog G0 45 [I n, x] h (.tup [U s, .bool ok]) h) (h49 : ACall Tryd.prog G0 49 [v, U s] h (.bool b) h) : ClOk Tryd.prog G0 (E17 n x v v' s ok b N h h1 h2) := by
  refine .all ((hLd_ok Tryd.underlying70 rfl _).ok.or ((hApp_ok _ _ _ _ _ _).ok.or (hSt_ok _ _ _ _ _).ok)) ?_ (fun l xs σ t v σ' h => (by cases h)) (fun f xs t v h => (by cases h))
  intro f xs σ t u σ' hq hs
  replace hq : cl17 n x v s ok b h f xs σ = some t := hq
  unfold cl17 at hq
  split at hq <;> first | (cases hq; done) | skip
  all_goals
    cases hq
    obtain ⟨⟨rfl, rfl⟩, hs2⟩ := Tree.of_need hs
    cases hs2
  · exact h45
  · exact h49
def st17 (n : Int) (SL : List (List Int)) (k : Int) (N : Nat) (h : Heap) : St := .of 48 h [(0, I n, true), (6, .ref N 0 0, true), (22, flLL SL, true), (23, I SL.length, true), (24, I k, true)]
def stX17 (n : Int) (N : Nat) (h : Heap) : St := .of 48 h [(0, I n, true), (6, .ref N 0 0, true)]
def stR17 (h : Heap) : St := .of 48 h [(4, .zs, false), (5, I 2, false)]
def stJ17 (h : Heap) : St := .of 48 h [(4, .junk, false), (5, .junk, false)]
noncomputable def body17 : Code := (loopsOf (bodyOf Tryd.prog 17)).headD .skip
def tree17 (n : Int) (SL : List (List Int)) (v v' : AV) (s : Int) (ok b : Bool) (k N : Nat) (h h1 h2 : Heap) (r a1 a2 x : Tree (Exit × St)) : Tree (Exit × St) :=
  .ite (decide ((k : Int) < SL.length)) (.need (0 ≤ (k : Int) ∧ (k : Int) < SL.length) (.need ([I n, flL (SL.getD (k : Int).toNat [])] = [I n, flL (SL.getD k [])] ∧ h = h) (.ite (!ok) r (.need (objAt h N 0 = some [v]) (.need ([v, U s] = [v, U s] ∧ h = h) (.ite (!b)
    (.need (objAt h N 0 = some [v]) (.need (some [v, .sl 1 [[U s]]] = some [v, .sl 1 [[U s]]] ∧ #[70, 70] = #[70, 70] ∧ h = h ∧ aAppend Tryd.prog h 70 70 v (.sl 1 [[U s]]) = some (v', h1))
      (.need (some (AV.ref N 0 0) = some (AV.ref N 0 0) ∧ some v' = some v' ∧ h1 = h1 ∧ aStore Tryd.prog h1 70 (.ref N 0 0) v' = some h2) a2))) a1)))))) x
theorem run17n (n : Int) (SL : List (List Int)) (v v' : AV) (s : Int) (ok b : Bool) (k N : Nat) (h h1 h2 : Heap) : xBody Tryd.prog G0 (E17 n (flL (SL.getD k [])) v v' s ok b N h h1 h2) 200 noLoops [0, 6, 22, 23, 24] body17 (st17 n SL k N h) =
    tree17 n SL v v' s ok b k N h h1 h2 (.leaf (.ret, st17 n SL k N h)) (.leaf (.normal, st17 n SL (IntKind.i64.wrap (k + 1)) N h)) (.leaf (.normal, st17 n SL (IntKind.i64.wrap (k + 1)) N h2)) (.leaf (.exit 0, st17 n SL k N h)) := by kernel_rfl
theorem run17r (n : Int) (SL : List (List Int)) (v v' : AV) (s : Int) (ok b : Bool) (k N : Nat) (h h1 h2 : Heap) : xBody Tryd.prog G0 (E17 n (flL (SL.getD k [])) v v' s ok b N h h1 h2) 200 noLoops [4, 5] body17 (st17 n SL k N h) =
    tree17 n SL v v' s ok b k N h h1 h2 (.leaf (.ret, stR17 h)) (.leaf (.normal, stJ17 h)) (.leaf (.normal, stJ17 h2)) (.leaf (.exit 0, stJ17 h)) := by kernel_rfl
theorem run17x (n : Int) (SL : List (List Int)) (k N : Nat) (h : Heap) : xBody Tryd.prog G0 { clh := failH } 200 noLoops [0, 6] body17 (st17 n SL k N h) =
    .ite (decide ((k : Int) < SL.length)) (.need (0 ≤ (k : Int) ∧ (k : Int) < SL.length) .fail) (.leaf (.exit 0, stX17 n N h)) := by kernel_rfl
theorem clokFail : ClOk Tryd.prog G0 { clh := failH } := .all .none failH_ok (fun l xs σ t v σ' h => (by cases h)) (fun f xs t v h => (by cases h))
def end17 (n : Int) (N : Nat) (o : Option (List Int)) (h : Heap) : Exit × St := match o with
  | some _ => (.exit 0, stX17 n N h)
  | none => (.ret, stR17 h)
section
variable {σ : Heap}
theorem loop17 {R : Option Nat → Prop} {n : Int} (hn : n ≤ 64) {SL : List (List Int)} (hSL : ∀ x ∈ SL, x.length < 9223372036854775807) (hlen : SL.length ≤ 4096) : ∀ (d k : Nat) (L : List Int), k + d = SL.length → L.length ≤ k →
    ∃ σ', ALoopRun Tryd.prog G0 R body17 { tmps := (st17 n SL k σ.length (hH σ L)).a } (hH σ L) (end17 n σ.length (hitLoop n (SL.drop k) L) σ').1 { tmps := (end17 n σ.length (hitLoop n (SL.drop k) L) σ').2.a } σ' ∧ (∀ L', hitLoop n (SL.drop k) L = some L' → σ' = hH σ L' ∧ L'.length ≤ 4096) ∧ ∃ X, σ' = σ ++ X
  | 0, k, L, hk, hLk => by
    rw [List.drop_eq_nil_of_le (by omega)]
    refine ⟨hH σ L, .stop (xBody_ok (m := []) names mixed clokFail (lpNo body17) (n := 200) (keep := [0, 6]) (st := st17 n SL k σ.length (hH σ L)) (st' := stX17 n σ.length (hH σ L)) ?_).1 nofun, fun L' h => ?_, _, rfl⟩
    · rw [run17x, selI, decide_eq_false (by omega)]; rfl
    · cases h; exact ⟨rfl, by omega⟩
  | d + 1, k, L, hk, hLk => by
    have hlt : k < SL.length := by omega
    have hg : SL.getD k [] = SL[k] := by simp [List.getD_eq_getElem?_getD, hlt]
    have h45 := c45 hn (hSL SL[k] (List.getElem_mem hlt)) (hH σ L)
    rw [List.drop_eq_getElem_cons hlt, hitLoop]
    have hat : AtU (hH σ L) (σ.length + 1) L := by have := hH_at σ L []; rwa [List.append_nil] at this
    have hbox : objAt (hH σ L) σ.length 0 = some [vU (σ.length + 1) L] := by have := hH_box σ L []; rwa [List.append_nil] at this
    cases ho : ofL n SL[k] with
    | none =>
      rw [ho] at h45
      refine ⟨hH σ L, .stop (xBody_ok (m := []) names mixed (clok17 (x := flL (SL.getD k [])) (v := vU (σ.length + 1) L) (v' := .junk) (s := (0 : Nat)) (ok := false) (b := L.any (((0 : Nat) : Int) == ·)) (N := σ.length) (h1 := []) (h2 := []) (by rw [hg]; exact h45) (c49 hat (by omega) _)) (lpNo body17) (n := 200) (keep := [4, 5]) (st := st17 n SL k σ.length (hH σ L)) (st' := stR17 (hH σ L)) ?_).1 nofun, fun L' h => (by cases h), _, rfl⟩
      rw [run17r, tree17, selI, decide_eq_true (by omega), cond_true, Tree.sel_need ⟨by omega, by omega⟩, Int.toNat_natCast, Tree.sel_need ⟨rfl, rfl⟩]
      rfl
    | some s =>
      rw [ho] at h45
      have hw : IntKind.i64.wrap ((k : Int) + 1) = ((k + 1 : Nat) : Int) := wrap_i64 (by omega) (by omega)
      have hc49 := c49 hat (by omega) (s : Int)
      cases hb : L.any ((s : Int) == ·) with
      | true =>
        simp only [hb, if_true]
        rw [hb] at hc49
        obtain ⟨σ', h1, h2, h3⟩ := loop17 (R := R) hn hSL hlen d (k + 1) L (by omega) (by omega)
        refine ⟨σ', .next (xBody_ok (m := []) names mixed (clok17 (x := flL (SL.getD k [])) (v' := .junk) (ok := true) (b := true) (N := σ.length) (h1 := []) (h2 := []) (by rw [hg]; exact h45) hc49) (lpNo body17) (n := 200) (keep := [0, 6, 22, 23, 24]) (st := st17 n SL k σ.length (hH σ L)) (st' := st17 n SL (k + 1 : Nat) σ.length (hH σ L)) ?_).1 h1, h2, h3⟩
        rw [run17n, tree17, selI, decide_eq_true (by omega), cond_true, Tree.sel_need ⟨by omega, by omega⟩, Int.toNat_natCast, Tree.sel_need ⟨rfl, rfl⟩, selI, Bool.not_true, cond_false, Tree.sel_need hbox, Tree.sel_need ⟨rfl, rfl⟩, selI, hw]
        rfl
      | false =>
        simp only [hb, Bool.false_eq_true, if_false]
        rw [hb] at hc49
        obtain ⟨σ', h1, h2, h3⟩ := loop17 (R := R) hn hSL hlen d (k + 1) (L ++ [(s : Int)]) (by omega) (by simp; omega)
        have happ := append_vA el70 (σ ++ [.cells 0 [vU (σ.length + 1) L]]) (L.map (AV.int .u64)) (U s) rfl (by simp; omega)
        have hl1 : (σ ++ [AObj.cells 0 [vU (σ.length + 1) L]]).length = σ.length + 1 := by simp
        have hm : L.map (AV.int .u64) ++ [U s] = (L ++ [(s : Int)]).map (AV.int .u64) := by simp
        rw [hl1, hm, List.append_assoc, List.append_assoc] at happ
        have hone : (vU (σ.length + 1) (L ++ [(s : Int)])).one = true := by unfold vU; cases (L ++ [(s : Int)]).map (AV.int .u64) <;> rfl
        have hsto := store_app (t := 70) (one_of (by kernel_rfl)) (σ := σ) (rest := [.cells 0 [vU (σ.length + 1) L]] ++ oA ((L ++ [(s : Int)]).map (AV.int .u64))) (i := 0) (y := vU (σ.length + 1) L) rfl hone
        refine ⟨σ', .next (xBody_ok (m := []) names mixed (clok17 (x := flL (SL.getD k [])) (v' := vU (σ.length + 1) (L ++ [(s : Int)])) (ok := true) (b := false) (N := σ.length) (h1 := σ ++ ([.cells 0 [vU (σ.length + 1) L]] ++ oA ((L ++ [(s : Int)]).map (AV.int .u64)))) (h2 := hH σ (L ++ [(s : Int)])) (by rw [hg]; exact h45) hc49) (lpNo body17) (n := 200) (keep := [0, 6, 22, 23, 24]) (st := st17 n SL k σ.length (hH σ L)) (st' := st17 n SL (k + 1 : Nat) σ.length (hH σ (L ++ [(s : Int)]))) ?_).1 h1, h2, h3⟩
        rw [run17n, tree17, selI, decide_eq_true (by omega), cond_true, Tree.sel_need ⟨by omega, by omega⟩, Int.toNat_natCast, Tree.sel_need ⟨rfl, rfl⟩, selI, Bool.not_true, cond_false, Tree.sel_need hbox, Tree.sel_need ⟨rfl, rfl⟩, selI, Bool.not_false, cond_true, Tree.sel_need hbox, Tree.sel_need ⟨rfl, rfl, rfl, happ⟩, Tree.sel_need ⟨rfl, rfl, rfl, hsto⟩, hw]
        rfl

/-! ### The function that every asks -/
def E50 (v : AV) (s : Int) (b : Bool) (h : Heap) : Env := { hint := hLd 70 v, clh := fun f xs h0 => match f with
  | 51 => some (.need (xs = [v, fn52 s] ∧ h0 = h) (.leaf (.bool b, h)))
  | _ => none }
theorem run50 (s : Int) (v : AV) (b : Bool) (N : Nat) (h : Heap) : xCall Tryd.prog G0 (E50 v s b h) 200 50 [U s, .ref N 0 0] [true, true] h = .need (objAt h N 0 = some [v]) (.need ([v, fn52 s] = [v, fn52 s] ∧ h = h) (.leaf (.bool (!b), true, h))) := by kernel_rfl
theorem has50 {L : List Int} (hl : L.length ≤ 4096) (m : Nat) : HasAt (hH σ L) 50 [.ref σ.length 0 0] (hits L) m := by
  intro X s _ _
  have hc := c51 (hH_at σ L X) (by omega) s
  refine xCall_ok (n := 200) (tags := [true, true]) (s := true) (E := E50 (vU (σ.length + 1) L) s (L.any fun x => uand x s == 0) (hH σ L ++ X)) names mixed (.all (hLd_ok Tryd.underlying70 rfl _).ok ?_ (fun l xs σ t v σ' h => (by cases h)) (fun f xs t v h => (by cases h))) ?_
  · intro f xs σ' t u σ'' hq hs
    simp only [E50] at hq
    split at hq <;> first | (cases hq; done) | skip
    cases hq
    obtain ⟨⟨rfl, rfl⟩, hs2⟩ := Tree.of_need hs
    cases hs2
    exact hc
  · rw [run50, Tree.sel_need (hH_box σ L X), Tree.sel_need ⟨rfl, rfl⟩]
    rfl

/-! ### Hitting -/
def lp17 (n : Int) (SL : List (List Int)) (N : Nat) (h : Heap) (b : Bool) (h' : Heap) : Loops := fun id => match id with
  | 5 => some ([0, 6, 22, 23, 24], st17 n SL 0 N h, .ite b (.leaf (.exit 0, stX17 n N h')) (.leaf (.ret, stR17 h')))
  | _ => none
def EH (n : Int) (N : Nat) (v : AV) (h h1 h' : Heap) : Env := { clh := clh15 n (.fn 50 [] [.ref N 0 0]) v h', hint := hAl 70 N h h1 }
theorem runF17 (n : Int) (SL : List (List Int)) (v : AV) (N : Nat) (h h1 h' : Heap) (b : Bool) : xenter Tryd.prog (EH n N v h h1 h') (xCode Tryd.prog G0 (EH n N v h h1 h') 200 (lp17 n SL N h1 b h')) 17 [I n, flLL SL] [true, true] h =
    .ite (decide (n < 0)) (.leaf (.tup [.zs, I 2], false, h)) (.ite (decide (n > 12)) (.leaf (.tup [.zs, I 2], false, h)) (.ite (decide ((SL.length : Int) > 4096)) (.leaf (.tup [.zs, I 2], false, h))
      (.need (h = h ∧ aAlloc Tryd.prog h 70 = some (.ref N 0 0, h1)) (.need ((st17 n SL 0 N h1).vals = (st17 n SL 0 N h1).vals) (.ite b (.need ([I n, .fn 50 [] [.ref N 0 0]] = [I n, .fn 50 [] [.ref N 0 0]] ∧ h' = h') (.leaf (.tup [v, I 0], true, h'))) (.leaf (.tup [.zs, I 2], false, h'))))))) := by kernel_rfl
theorem loops17 : loopsOf (bodyOf Tryd.prog 17) = [body17] := by kernel_rfl
theorem id17 : idOf body17 = 5 := by kernel_rfl
theorem alloc70 (h : Heap) : aAlloc Tryd.prog h 70 = some (.ref h.length 0 0, h ++ [.cells 0 [.zs]]) := by kernel_rfl
/-- What Hitting returns: lists, and an error. -/
def hitR (n : Nat) (SL : List (List Int)) : AV := match hitLoop n SL [] with
  | some L => resLL (everyL (hits L) n) 0
  | none => resLL [] 2
theorem c17 {n : Nat} (hn : n ≤ 12) {SL : List (List Int)} (hSL : ∀ x ∈ SL, x.length < 9223372036854775807) (hlen : SL.length ≤ 4096) : ACall Tryd.prog G0 17 [I n, flLL SL] σ (hitR n SL) σ := by
  obtain ⟨σ', h1, h2, X, hX⟩ := loop17 (σ := σ) (R := fun r => r = none) (n := n) (by omega) hSL hlen SL.length 0 [] (by omega) (by simp)
  rw [List.drop_zero] at h1 h2
  have hal : aAlloc Tryd.prog σ 70 = some (.ref σ.length 0 0, hH σ []) := alloc70 σ
  have hlp : ∀ o, hitLoop n SL [] = o → LoopsOk Tryd.prog G0 (fun r => r = none) [] (lp17 n SL σ.length (hH σ []) o.isSome σ') (bodyOf Tryd.prog 17) := fun o ho => by
    refine .of_list _ fun x hm => ?_
    rw [loops17] at hm
    obtain rfl := List.mem_singleton.1 hm
    intro keep s0 t e st' h' hs
    rw [id17] at h'
    cases h'
    rw [ho] at h1
    cases o with
    | none => cases hs; exact ⟨.loop h1, rfl⟩
    | some L => cases hs; exact ⟨.loop h1, rfl⟩
  unfold hitR
  cases ho : hitLoop n SL [] with
  | none =>
    have key : ACall Tryd.prog G0 17 [I n, flLL SL] σ (.tup [.zs, I 2]) σ' := by
      refine .find (s := false) (n := 200) (tags := [true, true]) (E := { clh := failH, hint := hAl 70 σ.length σ (hH σ []) }) (.all (hAl_ok _ _ _ _).ok failH_ok (fun l xs σ t v σ' h => (by cases h)) (fun f xs t v h => (by cases h))) (hlp none ho) ?_
      have run : xenter Tryd.prog { clh := failH, hint := hAl 70 σ.length σ (hH σ []) } (xCode Tryd.prog G0 { clh := failH, hint := hAl 70 σ.length σ (hH σ []) } 200 (lp17 n SL σ.length (hH σ []) false σ')) 17 [I n, flLL SL] [true, true] σ =
          .ite (decide ((n : Int) < 0)) (.leaf (.tup [.zs, I 2], false, σ)) (.ite (decide ((n : Int) > 12)) (.leaf (.tup [.zs, I 2], false, σ)) (.ite (decide ((SL.length : Int) > 4096)) (.leaf (.tup [.zs, I 2], false, σ))
            (.need (σ = σ ∧ aAlloc Tryd.prog σ 70 = some (.ref σ.length 0 0, hH σ [])) (.need ((st17 n SL 0 σ.length (hH σ [])).vals = (st17 n SL 0 σ.length (hH σ [])).vals) (.ite false .fail (.leaf (.tup [.zs, I 2], false, σ'))))))) := by kernel_rfl
      refine (congrArg Tree.sel run).trans ?_
      rw [selI, decide_eq_false (by omega), cond_false, selI, decide_eq_false (by omega), cond_false, selI, decide_eq_false (by omega), cond_false, Tree.sel_need ⟨rfl, hal⟩, selR]
      rfl
    rw [hX] at key
    exact (key.forget (below_tup2 .zs (.int _ _))).resZsL
  | some L =>
    obtain ⟨e1, e2⟩ := h2 L ho
    have h47 := c47r hn (has50 (σ := σ) e2 (2 ^ n))
    have key : ACall Tryd.prog G0 17 [I n, flLL SL] σ (resLL (everyL (hits L) n) 0) σ' := by
      have hlp' := hlp (some L) ho
      rw [e1] at hlp' ⊢
      refine .find (s := true) (n := 200) (tags := [true, true]) (E := EH n σ.length (flLL (everyL (hits L) n)) σ (hH σ []) (hH σ L)) (.all (hAl_ok _ _ _ _).ok (clh15_ok h47) (fun l xs σ t v σ' h => (by cases h)) (fun f xs t v h => (by cases h))) hlp' ?_
      refine (congrArg Tree.sel (runF17 n SL _ _ _ _ _ true)).trans ?_
      rw [selI, decide_eq_false (by omega), cond_false, selI, decide_eq_false (by omega), cond_false, selI, decide_eq_false (by omega), cond_false, Tree.sel_need ⟨rfl, hal⟩, selR, selI, cond_true, Tree.sel_need ⟨rfl, rfl⟩]
      rfl
    rw [hX] at key
    exact key.forget (below_tup2 (below_flLL _) (.int _ _))
theorem c17e {n : Int} {SL : List (List Int)} (h : n < 0 ∨ n > 12 ∨ (SL.length : Int) > 4096) : ACall Tryd.prog G0 17 [I n, flLL SL] σ (resLL [] 2) σ := by
  have run : xenter Tryd.prog { clh := failH, hint := hAl 70 σ.length σ (hH σ []) } (xCode Tryd.prog G0 { clh := failH, hint := hAl 70 σ.length σ (hH σ []) } 200 (fun id => match id with | 5 => some ([0, 6, 22, 23, 24], st17 n SL 0 σ.length (hH σ []), .fail) | _ => none)) 17 [I n, flLL SL] [true, true] σ =
      .ite (decide (n < 0)) (.leaf (.tup [.zs, I 2], false, σ)) (.ite (decide (n > 12)) (.leaf (.tup [.zs, I 2], false, σ)) (.ite (decide ((SL.length : Int) > 4096)) (.leaf (.tup [.zs, I 2], false, σ))
        (.need (σ = σ ∧ aAlloc Tryd.prog σ 70 = some (.ref σ.length 0 0, hH σ [])) (.need ((st17 n SL 0 σ.length (hH σ [])).vals = (st17 n SL 0 σ.length (hH σ [])).vals) .fail)))) := by kernel_rfl
  have key : ACall Tryd.prog G0 17 [I n, flLL SL] σ (.tup [.zs, I 2]) σ := by
    refine .find (s := false) (n := 200) (tags := [true, true]) (lp := fun id => match id with | 5 => some ([0, 6, 22, 23, 24], st17 n SL 0 σ.length (hH σ []), .fail) | _ => none) (E := { clh := failH, hint := hAl 70 σ.length σ (hH σ []) }) (.all (hAl_ok _ _ _ _).ok failH_ok (fun l xs σ t v σ' h => (by cases h)) (fun f xs t v h => (by cases h))) (.of_list _ fun x hm => ?_) ?_
    · rw [loops17] at hm
      obtain rfl := List.mem_singleton.1 hm
      intro keep s0 t e st' h' hs
      rw [id17] at h'
      cases h'
      cases hs
    · rw [run, selI]
      by_cases h1 : n < 0
      · rw [decide_eq_true h1]; rfl
      · rw [decide_eq_false h1, cond_false, selI]
        by_cases h2 : n > 12
        · rw [decide_eq_true h2]; rfl
        · rw [decide_eq_false h2, cond_false, selI, decide_eq_true (by omega)]; rfl
  exact key.resZsL
end
end Go.Proofs.YtjljigccgaadaaaDoor.Am

namespace Go.Proofs.YtjljigccgaadaaaDoor.Am
open Go
set_option maxRecDepth 100000

/-! ### Loops that look for something -/
def lpS (i : Nat) (keep : List Nat) (S : St) (b : Bool) (r x : St) : Loops := fun id => bif Nat.beq id i then some (keep, S, .ite b (.leaf (.ret, r)) (.leaf (.exit 0, x))) else none
/-- A loop that goes over 0 to N - 1, and returns where it stops. -/
structure Scan (body : Code) (keep : List Nat) (N : Nat) (S R : Nat → St) (X : St) (stop : Nat → Bool) : Prop where
  n0 : ∀ k, (S k).n = (S 0).n
  nR : ∀ k, (R k).n = (S 0).n
  nX : X.n = (S 0).n
  run : ∀ k, k ≤ N → ∃ E, ClOk Tryd.prog G0 E ∧ (xBody Tryd.prog G0 E 200 noLoops keep body (S k)).sel = some (bif decide (k < N) then bif stop k then (.ret, R k) else (.normal, S (k + 1)) else (.exit 0, X))
section
variable {body : Code} {keep : List Nat} {N : Nat} {S R : Nat → St} {X : St} {stop : Nat → Bool}
def scanEnd (N p : Nat) (R : Nat → St) (X : St) : Exit × St := bif decide (p < N) then (.ret, R p) else (.exit 0, X)
theorem Scan.loop (hs : Scan body keep N S R X stop) {Rr : Option Nat → Prop} : ∀ (d k : Nat), k + d = N →
    ALoopRun Tryd.prog G0 Rr body { tmps := (S k).a } (S k).h (scanEnd N (fstStop stop d k) R X).1 { tmps := (scanEnd N (fstStop stop d k) R X).2.a } (scanEnd N (fstStop stop d k) R X).2.h
  | 0, k, hk => by
    obtain ⟨E, h1, h2⟩ := hs.run k (by omega)
    rw [decide_eq_false (by omega), cond_false] at h2
    simp only [fstStop]
    unfold scanEnd
    rw [decide_eq_false (by omega), cond_false]
    exact .stop (xBody_ok (m := []) names mixed h1 (lpNo body) h2).1 nofun
  | d + 1, k, hk => by
    obtain ⟨E, h1, h2⟩ := hs.run k (by omega)
    rw [decide_eq_true (by omega), cond_true] at h2
    unfold fstStop
    cases hp : stop k with
    | true =>
      rw [hp, cond_true] at h2
      simp only [if_true]
      unfold scanEnd
      rw [decide_eq_true (by omega), cond_true]
      exact .stop (xBody_ok (m := []) names mixed h1 (lpNo body) h2).1 nofun
    | false =>
      rw [hp, cond_false] at h2
      simp only [Bool.false_eq_true, if_false]
      exact .next (xBody_ok (m := []) names mixed h1 (lpNo body) h2).1 (hs.loop d (k + 1) (by omega))
theorem Scan.ok (hs : Scan body keep N S R X stop) {f : FuncId} {i : Nat} (hl : loopsOf (bodyOf Tryd.prog f) = [body]) (hi : idOf body = i) :
    LoopsOk Tryd.prog G0 (fun r => r = none) [] (lpS i keep (S 0) (decide (fstStop stop N 0 < N)) (R (fstStop stop N 0)) X) (bodyOf Tryd.prog f) := by
  refine .of_list _ fun x hm => ?_
  rw [hl] at hm
  obtain rfl := List.mem_singleton.1 hm
  intro kp s0 t e st' h' hsel
  rw [hi] at h'
  unfold lpS at h'
  rw [Nat.beq_refl, cond_true] at h'
  cases h'
  have key := hs.loop (Rr := fun r => r = none) N 0 (by omega)
  rw [selI] at hsel
  unfold scanEnd at key
  revert key hsel
  cases decide (fstStop stop N 0 < N) with
  | true => intro hsel key; cases hsel; exact ⟨.loop key, hs.nR _⟩
  | false => intro hsel key; cases hsel; exact ⟨.loop key, hs.nX⟩
end
/-- A loop that is not reached. -/
def lpF (i : Nat) (keep : List Nat) (S : St) : Loops := fun id => bif Nat.beq id i then some (keep, S, .fail) else none
theorem lpF_ok (i : Nat) (keep : List Nat) (S : St) (c : Code) : LoopsOk Tryd.prog G0 (fun r => r = none) [] (lpF i keep S) c := by
  refine .of_list _ fun x hm => ?_
  intro kp s0 t e st' h' hsel
  unfold lpF at h'
  cases hb : Nat.beq (idOf x) i with
  | true => rw [hb, cond_true] at h'; cases h'; cases hsel
  | false => rw [hb, cond_false] at h'; cases h'
theorem fstStop_at' {stop : Nat → Bool} : ∀ (d k : Nat), fstStop stop d k < k + d → stop (fstStop stop d k) = true
  | 0, k, h => by unfold fstStop at h; omega
  | d + 1, k, h => by
    unfold fstStop at h ⊢
    split
    · assumption
    · rename_i hk; rw [if_neg hk] at h; exact fstStop_at' d (k + 1) (by omega)
theorem fstStop_iff (stop : Nat → Bool) (N : Nat) : fstStop stop N 0 < N ↔ ∃ k, k < N ∧ stop k = true := by
  constructor
  · intro h; exact ⟨_, h, fstStop_at' N 0 (by omega)⟩
  · intro ⟨k, h1, h2⟩
    by_cases h : fstStop stop N 0 < N
    · exact h
    · have := fstStop_before (stop := stop) N 0 k (by omega) (by omega)
      rw [h2] at this; cases this

/-! ### Lists, read back -/
def unL : AV → List Int
  | .fl _ n r => (List.range n).map fun i => intOf ((r i).headD .junk)
  | _ => []
theorem unL_flL (L : List Int) : unL (flL L) = L := by
  apply List.ext_getElem?
  intro i
  simp only [unL, flL, List.getElem?_map]
  by_cases h : i < L.length
  · simp [h, List.getD_eq_getElem?_getD, intOf]
  · simp [h]

/-! ### Equal -/
noncomputable def body26 : Code := (loopsOf (bodyOf Tryd.prog 26)).headD .skip
def st26 (a b : List Int) (k : Int) (h : Heap) : St := .of 26 h [(0, flL a, true), (1, flL b, true), (4, .bool false, false), (12, I a.length, true), (13, I k, true)]
theorem run26 (a b : List Int) (k : Nat) (h : Heap) : xBody Tryd.prog G0 {} 200 noLoops [0, 1, 4, 12, 13] body26 (st26 a b k h) =
    .ite (decide ((k : Int) < a.length)) (.need (0 ≤ (k : Int) ∧ (k : Int) < a.length) (.need (0 ≤ (k : Int) ∧ (k : Int) < b.length) (.ite (a.getD (k : Int).toNat 0 != b.getD (k : Int).toNat 0) (.leaf (.ret, st26 a b k h)) (.leaf (.normal, st26 a b (IntKind.i64.wrap (k + 1)) h))))) (.leaf (.exit 0, st26 a b k h)) := by kernel_rfl
theorem scan26 {a b : List Int} (hl : a.length < 4611686018427387904) (he : a.length = b.length) (h : Heap) : Scan body26 [0, 1, 4, 12, 13] a.length (fun k => st26 a b k h) (fun k => st26 a b k h) (st26 a b a.length h) fun k => a.getD k 0 != b.getD k 0 := by
  refine ⟨fun _ => rfl, fun _ => rfl, rfl, fun k hk => ⟨{}, clok0, ?_⟩⟩
  rw [run26, selI]
  by_cases hlt : k < a.length
  · have hw : IntKind.i64.wrap ((k : Int) + 1) = ((k + 1 : Nat) : Int) := wrap_i64 (by omega) (by omega)
    rw [decide_eq_true (by omega), decide_eq_true hlt, cond_true, cond_true, Tree.sel_need ⟨by omega, by omega⟩, Tree.sel_need ⟨by omega, by omega⟩, Int.toNat_natCast, selI, hw]
    cases a.getD k 0 != b.getD k 0 <;> rfl
  · have : k = a.length := by omega
    subst this
    rw [decide_eq_false (by omega), decide_eq_false hlt]
    rfl
theorem loops26 : loopsOf (bodyOf Tryd.prog 26) = [body26] := by kernel_rfl
theorem id26 : idOf body26 = 4 := by kernel_rfl
theorem runF26 (a b : List Int) (h : Heap) (t : Bool) (p q : Int) : xenter Tryd.prog {} (xCode Tryd.prog G0 {} 200 (lpS 4 [0, 1, 4, 12, 13] (st26 a b 0 h) t (st26 a b p h) (st26 a b q h))) 26 [flL a, flL b] [true, true] h =
    .ite ((a.length : Int) != b.length) (.leaf (.bool false, false, h)) (.need ((st26 a b 0 h).vals = (st26 a b 0 h).vals) (.ite t (.leaf (.bool false, false, h)) (.leaf (.bool true, false, h)))) := by kernel_rfl
theorem list_eq_iff (a b : List Int) : a = b ↔ a.length = b.length ∧ ∀ k, k < a.length → a.getD k 0 = b.getD k 0 := by
  constructor
  · rintro rfl; exact ⟨rfl, fun _ _ => rfl⟩
  · intro ⟨h1, h2⟩
    apply List.ext_getElem h1
    intro k h3 h4
    have := h2 k h3
    simpa [List.getD_eq_getElem?_getD, h3, h4] using this
theorem c26 {a b : List Int} (hl : a.length < 4611686018427387904) (h : Heap) : ACall Tryd.prog G0 26 [flL a, flL b] h (.bool (a == b)) h := by
  by_cases he : a.length = b.length
  · have hs := scan26 hl he h
    refine .find (s := false) (n := 200) (tags := [true, true]) clok0 (hs.ok loops26 id26) ?_
    refine (congrArg Tree.sel (runF26 a b h _ _ _)).trans ?_
    rw [selI, bne_eq_false_iff_eq.2 (by omega : (a.length : Int) = b.length), cond_false, selR, selI]
    by_cases hp : fstStop (fun k => a.getD k 0 != b.getD k 0) a.length 0 < a.length
    · rw [decide_eq_true hp]
      obtain ⟨k, h1, h2⟩ := (fstStop_iff _ _).1 hp
      have : (a == b) = false := beq_eq_false_iff_ne.2 fun e => by subst e; simp at h2
      rw [this]; rfl
    · rw [decide_eq_false hp]
      have : a = b := (list_eq_iff a b).2 ⟨he, fun k hk => by
        have := fun h => hp ((fstStop_iff _ _).2 ⟨k, hk, h⟩)
        simpa using this⟩
      rw [this, beq_self_eq_true]; rfl
  · have run2 : xenter Tryd.prog {} (xCode Tryd.prog G0 {} 200 (lpF 4 [0, 1, 4, 12, 13] (st26 a b 0 h))) 26 [flL a, flL b] [true, true] h =
      .ite ((a.length : Int) != b.length) (.leaf (.bool false, false, h)) (.need ((st26 a b 0 h).vals = (st26 a b 0 h).vals) .fail) := by kernel_rfl
    refine .find (s := false) (n := 200) (tags := [true, true]) clok0 (lpF_ok 4 [0, 1, 4, 12, 13] (st26 a b 0 h) _) ?_
    rw [run2, selI, bne_iff_ne.2 (by omega : (a.length : Int) ≠ b.length)]
    have : (a == b) = false := beq_eq_false_iff_ne.2 fun e => he (by rw [e])
    rw [this]; rfl
end Go.Proofs.YtjljigccgaadaaaDoor.Am

namespace Go.Proofs.YtjljigccgaadaaaDoor.Am
open Go
set_option maxRecDepth 100000

/-! ### EqualFunc, same -/
noncomputable def body53 : Code := (loopsOf (bodyOf Tryd.prog 53)).headD .skip
def cl26 : FuncId → List AV → Option (Tree AV) := fun f xs => match f, xs with
  | 26, [x, y] => some (.need (x = flL (unL x) ∧ y = flL (unL y) ∧ (unL x).length < 4611686018427387904) (.leaf (.bool (unL x == unL y))))
  | _, _ => none
theorem cl26_ok {f : FuncId} {xs : List AV} {t : Tree AV} {v : AV} (hq : cl26 f xs = some t) (hs : t.sel = some v) (σ : Heap) : ACall Tryd.prog G0 f xs σ v σ := by
  unfold cl26 at hq
  split at hq <;> first | (cases hq; done) | skip
  rename_i x y
  cases hq
  obtain ⟨⟨h1, h2, h3⟩, hs2⟩ := Tree.of_need hs
  cases hs2
  have := c26 (a := unL x) (b := unL y) h3 σ
  rwa [← h1, ← h2] at this
theorem clok26 : ClOk Tryd.prog G0 { cl := cl26 } := .of rfl rfl fun f xs t v h hs σ => cl26_ok h hs σ
def st53 (a b : List (List Int)) (k : Int) (h : Heap) : St := .of 32 h [(1, flLL b, true), (2, .fn 26 [] [], true), (6, .bool false, false), (15, flLL a, true), (16, I a.length, true), (17, I k, true)]
theorem run53 (a b : List (List Int)) (k : Nat) (h : Heap) : xBody Tryd.prog G0 { cl := cl26 } 200 noLoops [1, 2, 6, 15, 16, 17] body53 (st53 a b k h) =
    .ite (decide ((k : Int) < a.length)) (.need (0 ≤ (k : Int) ∧ (k : Int) < a.length) (.need (0 ≤ (k : Int) ∧ (k : Int) < b.length) (.need (flL (a.getD (k : Int).toNat []) = flL (unL (flL (a.getD (k : Int).toNat []))) ∧ flL (b.getD (k : Int).toNat []) = flL (unL (flL (b.getD (k : Int).toNat []))) ∧ (unL (flL (a.getD (k : Int).toNat []))).length < 4611686018427387904)
      (.ite (!(unL (flL (a.getD (k : Int).toNat [])) == unL (flL (b.getD (k : Int).toNat [])))) (.leaf (.ret, st53 a b k h)) (.leaf (.normal, st53 a b (IntKind.i64.wrap (k + 1)) h)))))) (.leaf (.exit 0, st53 a b k h)) := by kernel_rfl
theorem scan53 {a b : List (List Int)} (hl : a.length < 4611686018427387904) (hx : ∀ x ∈ a, x.length < 4611686018427387904) (he : a.length = b.length) (h : Heap) : Scan body53 [1, 2, 6, 15, 16, 17] a.length (fun k => st53 a b k h) (fun k => st53 a b k h) (st53 a b a.length h) fun k => !(a.getD k [] == b.getD k []) := by
  refine ⟨fun _ => rfl, fun _ => rfl, rfl, fun k hk => ⟨_, clok26, ?_⟩⟩
  rw [run53, selI]
  by_cases hlt : k < a.length
  · have hw : IntKind.i64.wrap ((k : Int) + 1) = ((k + 1 : Nat) : Int) := wrap_i64 (by omega) (by omega)
    have hm : (a.getD k []).length < 4611686018427387904 := by
      have : a.getD k [] = a[k] := by simp [List.getD_eq_getElem?_getD, hlt]
      rw [this]; exact hx _ (List.getElem_mem hlt)
    rw [Int.toNat_natCast, unL_flL, unL_flL]
    rw [decide_eq_true (by omega), decide_eq_true hlt, cond_true, cond_true, Tree.sel_need ⟨by omega, by omega⟩, Tree.sel_need ⟨by omega, by omega⟩, Tree.sel_need ⟨rfl, rfl, hm⟩, selI, hw]
    cases !(a.getD k [] == b.getD k []) <;> rfl
  · have : k = a.length := by omega
    subst this
    rw [decide_eq_false (by omega), decide_eq_false hlt]
    rfl
theorem loops53 : loopsOf (bodyOf Tryd.prog 53) = [body53] := by kernel_rfl
theorem id53 : idOf body53 = 4 := by kernel_rfl
theorem runF53 (a b : List (List Int)) (h : Heap) (t : Bool) (p q : Int) : xenter Tryd.prog { cl := cl26 } (xCode Tryd.prog G0 { cl := cl26 } 200 (lpS 4 [1, 2, 6, 15, 16, 17] (st53 a b 0 h) t (st53 a b p h) (st53 a b q h))) 53 [flLL a, flLL b, .fn 26 [] []] [true, true, true] h =
    .ite ((a.length : Int) != b.length) (.leaf (.bool false, false, h)) (.need ((st53 a b 0 h).vals = (st53 a b 0 h).vals) (.ite t (.leaf (.bool false, false, h)) (.leaf (.bool true, false, h)))) := by kernel_rfl
theorem runF53' (a b : List (List Int)) (h : Heap) : xenter Tryd.prog { cl := cl26 } (xCode Tryd.prog G0 { cl := cl26 } 200 (lpF 4 [1, 2, 6, 15, 16, 17] (st53 a b 0 h))) 53 [flLL a, flLL b, .fn 26 [] []] [true, true, true] h =
    .ite ((a.length : Int) != b.length) (.leaf (.bool false, false, h)) (.need ((st53 a b 0 h).vals = (st53 a b 0 h).vals) .fail) := by kernel_rfl
theorem listL_eq_iff (a b : List (List Int)) : a = b ↔ a.length = b.length ∧ ∀ k, k < a.length → a.getD k [] = b.getD k [] := by
  constructor
  · rintro rfl; exact ⟨rfl, fun _ _ => rfl⟩
  · intro ⟨h1, h2⟩
    apply List.ext_getElem h1
    intro k h3 h4
    have := h2 k h3
    simpa [List.getD_eq_getElem?_getD, h3, h4] using this
theorem c53 {a b : List (List Int)} (hl : a.length < 4611686018427387904) (hx : ∀ x ∈ a, x.length < 4611686018427387904) (h : Heap) : ACall Tryd.prog G0 53 [flLL a, flLL b, .fn 26 [] []] h (.bool (a == b)) h := by
  by_cases he : a.length = b.length
  · have hs := scan53 hl hx he h
    refine .find (s := false) (n := 200) (tags := [true, true, true]) clok26 (hs.ok loops53 id53) ?_
    refine (congrArg Tree.sel (runF53 a b h _ _ _)).trans ?_
    rw [selI, bne_eq_false_iff_eq.2 (by omega : (a.length : Int) = b.length), cond_false, selR, selI]
    by_cases hp : fstStop (fun k => !(a.getD k [] == b.getD k [])) a.length 0 < a.length
    · rw [decide_eq_true hp]
      obtain ⟨k, h1, h2⟩ := (fstStop_iff _ _).1 hp
      have : (a == b) = false := beq_eq_false_iff_ne.2 fun e => by subst e; simp at h2
      rw [this]; rfl
    · rw [decide_eq_false hp]
      have : a = b := (listL_eq_iff a b).2 ⟨he, fun k hk => by
        have := fun h => hp ((fstStop_iff _ _).2 ⟨k, hk, h⟩)
        simpa using this⟩
      rw [this, beq_self_eq_true]; rfl
  · refine .find (s := false) (n := 200) (tags := [true, true, true]) clok26 (lpF_ok 4 [1, 2, 6, 15, 16, 17] (st53 a b 0 h) _) ?_
    rw [runF53', selI, bne_iff_ne.2 (by omega : (a.length : Int) ≠ b.length)]
    have : (a == b) = false := beq_eq_false_iff_ne.2 fun e => he (by rw [e])
    rw [this]; rfl
def unLL : AV → List (List Int)
  | .fl _ n r => (List.range n).map fun i => unL ((r i).headD .junk)
  | _ => []
theorem unLL_flLL (L : List (List Int)) : unLL (flLL L) = L := by
  apply List.ext_getElem?
  intro i
  simp only [unLL, flLL, List.getElem?_map]
  by_cases h : i < L.length
  · simp [h, List.getD_eq_getElem?_getD, unL_flL]
  · simp [h]
/-- Few enough elements. -/
def shortLL (a : List (List Int)) : Prop := a.length < 4611686018427387904 ∧ ∀ x ∈ a, x.length < 4611686018427387904
def cl53 : FuncId → List AV → Option (Tree AV) := fun f xs => match f, xs with
  | 53, [x, y, .fn 26 [] []] => some (.need (x = flLL (unLL x) ∧ y = flLL (unLL y) ∧ shortLL (unLL x)) (.leaf (.bool (unLL x == unLL y))))
  | _, _ => none
theorem cl53_ok {f : FuncId} {xs : List AV} {t : Tree AV} {v : AV} (hq : cl53 f xs = some t) (hs : t.sel = some v) (σ : Heap) : ACall Tryd.prog G0 f xs σ v σ := by
  unfold cl53 at hq
  split at hq <;> first | (cases hq; done) | skip
  rename_i x y
  cases hq
  obtain ⟨⟨h1, h2, h3⟩, hs2⟩ := Tree.of_need hs
  cases hs2
  have := c53 (a := unLL x) (b := unLL y) h3.1 h3.2 σ
  rwa [← h1, ← h2] at this
theorem clok53 : ClOk Tryd.prog G0 { cl := cl53 } := .of rfl rfl fun f xs t v h hs σ => cl53_ok h hs σ
theorem run18 (a b : List (List Int)) (h : Heap) : xCall Tryd.prog G0 { cl := cl53 } 200 18 [flLL a, flLL b] [true, true] h = .need (flLL a = flLL (unLL (flLL a)) ∧ flLL b = flLL (unLL (flLL b)) ∧ shortLL (unLL (flLL a))) (.leaf (.bool (unLL (flLL a) == unLL (flLL b)), true, h)) := by kernel_rfl
theorem c18 {a b : List (List Int)} (hl : shortLL a) (h : Heap) : ACall Tryd.prog G0 18 [flLL a, flLL b] h (.bool (a == b)) h := by
  refine xCall_ok (n := 200) (tags := [true, true]) (s := true) names mixed clok53 ?_
  rw [run18, unLL_flLL, unLL_flLL, Tree.sel_need ⟨rfl, rfl, hl⟩]
  rfl

/-! ### Index, Contains -/
noncomputable def body71 : Code := (loopsOf (bodyOf Tryd.prog 71)).headD .skip
def st71 (a : List Int) (x k r : Int) (b : Bool) (h : Heap) : St := .of 19 h [(0, flL a, true), (1, I x, true), (4, I r, b), (7, I a.length, true), (8, I k, true)]
theorem run71 (a : List Int) (x : Int) (k : Nat) (h : Heap) : xBody Tryd.prog G0 {} 200 noLoops [0, 1, 4, 7, 8] body71 (st71 a x k 0 false h) =
    .ite (decide ((k : Int) < a.length)) (.need (0 ≤ (k : Int) ∧ (k : Int) < a.length) (.ite (x == a.getD (k : Int).toNat 0) (.leaf (.ret, st71 a x k k true h)) (.leaf (.normal, st71 a x (IntKind.i64.wrap (k + 1)) 0 false h)))) (.leaf (.exit 0, st71 a x k 0 false h)) := by kernel_rfl
theorem scan71 {a : List Int} (hl : a.length < 4611686018427387904) (x : Int) (h : Heap) : Scan body71 [0, 1, 4, 7, 8] a.length (fun k => st71 a x k 0 false h) (fun k => st71 a x k k true h) (st71 a x a.length 0 false h) fun k => x == a.getD k 0 := by
  refine ⟨fun _ => rfl, fun _ => rfl, rfl, fun k hk => ⟨_, clok0, ?_⟩⟩
  rw [run71, selI]
  by_cases hlt : k < a.length
  · have hw : IntKind.i64.wrap ((k : Int) + 1) = ((k + 1 : Nat) : Int) := wrap_i64 (by omega) (by omega)
    rw [decide_eq_true (by omega), decide_eq_true hlt, cond_true, cond_true, Tree.sel_need ⟨by omega, by omega⟩, selI, Int.toNat_natCast, hw]
    cases x == a.getD k 0 <;> rfl
  · have : k = a.length := by omega
    subst this
    rw [decide_eq_false (by omega), decide_eq_false hlt]
    rfl
theorem loops71 : loopsOf (bodyOf Tryd.prog 71) = [body71] := by kernel_rfl
theorem id71 : idOf body71 = 2 := by kernel_rfl
theorem runF71 (a : List Int) (x : Int) (h : Heap) (t : Bool) (p q : Int) : xenter Tryd.prog {} (xCode Tryd.prog G0 {} 200 (lpS 2 [0, 1, 4, 7, 8] (st71 a x 0 0 false h) t (st71 a x p p true h) (st71 a x q 0 false h))) 71 [flL a, I x] [true, true] h =
    .need ((st71 a x 0 0 false h).vals = (st71 a x 0 0 false h).vals) (.ite t (.leaf (I p, true, h)) (.leaf (I (-1), false, h))) := by kernel_rfl
/-- The first place of a number; none: -1. -/
def index (a : List Int) (x : Int) : Int := bif decide (fstStop (fun k => x == a.getD k 0) a.length 0 < a.length) then ((fstStop (fun k => x == a.getD k 0) a.length 0 : Nat) : Int) else -1
theorem index_nonneg (a : List Int) (x : Int) : decide (index a x ≥ 0) = a.contains x := by
  unfold index
  by_cases hp : fstStop (fun k => x == a.getD k 0) a.length 0 < a.length
  · rw [decide_eq_true hp, cond_true, decide_eq_true (by omega)]
    obtain ⟨k, h1, h2⟩ := (fstStop_iff _ _).1 hp
    have : x = a[k] := by simpa [List.getD_eq_getElem?_getD, h1] using h2
    symm
    rw [List.contains_iff_mem, this]
    exact List.getElem_mem h1
  · rw [decide_eq_false hp, cond_false]
    symm
    rw [show decide ((-1 : Int) ≥ 0) = false from rfl, ← Bool.not_eq_true, List.contains_iff_mem]
    intro hm
    obtain ⟨k, h1, rfl⟩ := List.getElem_of_mem hm
    exact hp ((fstStop_iff _ _).2 ⟨k, h1, by simp [List.getD_eq_getElem?_getD, h1]⟩)
theorem c71 {a : List Int} (hl : a.length < 4611686018427387904) (x : Int) (h : Heap) : ACall Tryd.prog G0 71 [flL a, I x] h (I (index a x)) h := by
  refine .find (s := decide (fstStop (fun k => x == a.getD k 0) a.length 0 < a.length)) (n := 200) (tags := [true, true]) clok0 ((scan71 hl x h).ok loops71 id71) ?_
  refine (congrArg Tree.sel (runF71 a x h _ _ _)).trans ?_
  rw [selR, selI]
  unfold index
  cases decide (fstStop (fun k => x == a.getD k 0) a.length 0 < a.length) <;> rfl
def cl71 : FuncId → List AV → Option (Tree AV) := fun f xs => match f, xs with
  | 71, [x, .int .i64 y] => some (.need (x = flL (unL x) ∧ (unL x).length < 4611686018427387904) (.leaf (I (index (unL x) y))))
  | _, _ => none
theorem clok71 : ClOk Tryd.prog G0 { cl := cl71 } := .of rfl rfl fun f xs t v hq hs σ => by
  replace hq : cl71 f xs = some t := hq
  unfold cl71 at hq
  split at hq <;> first | (cases hq; done) | skip
  rename_i x y
  cases hq
  obtain ⟨⟨h1, h3⟩, hs2⟩ := Tree.of_need hs
  cases hs2
  have := c71 (a := unL x) h3 y σ
  rwa [← h1] at this
theorem run55 (a : List Int) (x : Int) (h : Heap) : xCall Tryd.prog G0 { cl := cl71 } 200 55 [flL a, I x] [true, true] h = .need (flL a = flL (unL (flL a)) ∧ (unL (flL a)).length < 4611686018427387904) (.leaf (.bool (decide (index (unL (flL a)) x ≥ 0)), true, h)) := by kernel_rfl
theorem c55 {a : List Int} (hl : a.length < 4611686018427387904) (x : Int) (h : Heap) : ACall Tryd.prog G0 55 [flL a, I x] h (.bool (a.contains x)) h := by
  refine xCall_ok (n := 200) (tags := [true, true]) (s := true) names mixed clok71 ?_
  rw [run55, unL_flL, Tree.sel_need ⟨rfl, hl⟩, index_nonneg]
  rfl

/-! ### The chapter's example -/
def cl55 : FuncId → List AV → Option (Tree AV) := fun f xs => match f, xs with
  | 55, [x, .int .i64 y] => some (.need (x = flL (unL x) ∧ (unL x).length < 4611686018427387904) (.leaf (.bool ((unL x).contains y))))
  | _, _ => none
theorem clok55 : ClOk Tryd.prog G0 { cl := cl55 } := .of rfl rfl fun f xs t v hq hs σ => by
  replace hq : cl55 f xs = some t := hq
  unfold cl55 at hq
  split at hq <;> first | (cases hq; done) | skip
  rename_i x y
  cases hq
  obtain ⟨⟨h1, h3⟩, hs2⟩ := Tree.of_need hs
  cases hs2
  have := c55 (a := unL x) h3 y σ
  rwa [← h1] at this
/-- What the example says of a list. -/
def exF (a : List Int) : Bool := !(a.contains 0 && a.contains 2) && !(a.contains 1 && a.contains 2) && !a.contains 3
def exN (a : List Int) (x : Tree (AV × Bool × Heap)) : Tree (AV × Bool × Heap) := .need (flL a = flL (unL (flL a)) ∧ (unL (flL a)).length < 4611686018427387904) x
def exB (a : List Int) (x : Int) : Bool := (unL (flL a)).contains x
def exT (a : List Int) (f l : Tree (AV × Bool × Heap)) : Tree (AV × Bool × Heap) := exN a (.ite (exB a 1) (exN a (.ite (!exB a 2) l f)) l)
def exL (a : List Int) (h : Heap) : Tree (AV × Bool × Heap) := exN a (.leaf (.bool (!exB a 3), true, h))
theorem run19 (a : List Int) (h : Heap) : xCall Tryd.prog G0 { cl := cl55 } 200 19 [flL a] [true] h =
    exN a (.ite (exB a 0) (exN a (.ite (!exB a 2) (exT a (.leaf (.bool false, false, h)) (exL a h)) (.leaf (.bool false, false, h)))) (exT a (.leaf (.bool false, false, h)) (exL a h))) := by kernel_rfl
theorem exN_sel {a : List Int} (hl : a.length < 4611686018427387904) (x : Tree (AV × Bool × Heap)) : (exN a x).sel = x.sel := Tree.sel_need (by rw [unL_flL]; exact ⟨rfl, hl⟩)
theorem exT_sel {a : List Int} (hl : a.length < 4611686018427387904) (f l : Tree (AV × Bool × Heap)) : (exT a f l).sel = bif a.contains 1 && a.contains 2 then f.sel else l.sel := by
  unfold exT
  rw [exN_sel hl, selI, exN_sel hl, selI]
  unfold exB
  rw [unL_flL]
  cases a.contains 1 <;> cases a.contains 2 <;> rfl
theorem c19 {a : List Int} (hl : a.length < 4611686018427387904) (h : Heap) : ACall Tryd.prog G0 19 [flL a] h (.bool (exF a)) h := by
  refine xCall_ok (n := 200) (tags := [true]) (s := !(a.contains 0 && a.contains 2) && !(a.contains 1 && a.contains 2)) names mixed clok55 ?_
  rw [run19, exN_sel hl, selI, exN_sel hl, selI, exT_sel hl]
  unfold exL exF
  rw [exN_sel hl]
  unfold exB
  rw [unL_flL]
  cases a.contains 0 <;> cases a.contains 1 <;> cases a.contains 2 <;> cases a.contains 3 <;> rfl
end Go.Proofs.YtjljigccgaadaaaDoor.Am

namespace Go.Proofs.YtjljigccgaadaaaDoor.Am
open Go
set_option maxRecDepth 100000

/-! ### bits -/
/-- The set of a list of numbers, as bits. -/
def orL : List Nat → Nat
  | [] => 0
  | x :: r => 2 ^ x ||| orL r
theorem orL_bit (j : Nat) : ∀ L : List Nat, (orL L).testBit j = decide (j ∈ L)
  | [] => by simp [orL]
  | x :: r => by
    unfold orL
    rw [Nat.testBit_or, orL_bit j r, Nat.testBit_two_pow]
    by_cases h : x = j
    · subst h; simp
    · have : ¬ j = x := fun e => h e.symm
      simp [h, this]
theorem orL_lt : ∀ {L : List Nat}, (∀ x ∈ L, x < 64) → orL L < 2 ^ 64
  | [], _ => by simp [orL]
  | x :: r, h => Nat.or_lt_two_pow (Nat.pow_lt_pow_right (by omega) (h x (by simp))) (orL_lt fun y hy => h y (by simp [hy]))
theorem orL_bitsL {s : Nat} (h : s < 2 ^ 64) : orL (bitsL s) = s := by
  apply Nat.eq_of_testBit_eq
  intro j
  rw [orL_bit]
  by_cases hj : j < 64
  · cases hs : s.testBit j with
    | true => exact decide_eq_true (mem_bitsL.2 ⟨hj, hs⟩)
    | false => exact decide_eq_false fun hm => by rw [(mem_bitsL.1 hm).2] at hs; cases hs
  · rw [Nat.testBit_lt_two_pow (Nat.lt_of_lt_of_le h (Nat.pow_le_pow_right (by omega) (by omega)))]
    exact decide_eq_false fun hm => hj (mem_bitsL.1 hm).1
theorem orL_append (a b : List Nat) : orL (a ++ b) = orL a ||| orL b := by
  apply Nat.eq_of_testBit_eq
  intro j
  rw [Nat.testBit_or, orL_bit, orL_bit, orL_bit]
  simp

noncomputable def body72 : Code := (loopsOf (bodyOf Tryd.prog 72)).headD .skip
noncomputable def body28 : Code := (loopsOf (bodyOf Tryd.prog 28)).headD .skip
def st72 (a : List Int) (x k : Int) (h : Heap) : St := .of 18 h [(2, U 0, false), (3, U x, true), (6, flL a, true), (7, I a.length, true), (8, I k, true)]
theorem run72 (a : List Int) (x : Int) (k : Nat) (h : Heap) : xBody Tryd.prog G0 Esh 200 noLoops [2, 3, 6, 7, 8] body72 (st72 a x k h) =
    .ite (decide ((k : Int) < a.length)) (.need (0 ≤ (k : Int) ∧ (k : Int) < a.length) (.need (0 ≤ a.getD (k : Int).toNat 0) (.leaf (.normal, st72 a (uor x (ushl 1 (a.getD (k : Int).toNat 0))) (IntKind.i64.wrap (k + 1)) h)))) (.leaf (.exit 0, st72 a x k h)) := by kernel_rfl
theorem run28 (a : List Int) (x : Int) (k : Nat) (h : Heap) : xBody Tryd.prog G0 Esh 200 noLoops [2, 3, 6, 7, 8] body28 (st72 a x k h) =
    .ite (decide ((k : Int) < a.length)) (.need (0 ≤ (k : Int) ∧ (k : Int) < a.length) (.need (0 ≤ a.getD (k : Int).toNat 0) (.leaf (.normal, st72 a (uor x (ushl 1 (a.getD (k : Int).toNat 0))) (IntKind.i64.wrap (k + 1)) h)))) (.leaf (.exit 0, st72 a x k h)) := by kernel_rfl
/-- The numbers of a list, as integers. -/
def zL (L : List Nat) : List Int := L.map Int.ofNat
theorem zL_getD {L : List Nat} {k : Nat} (h : k < L.length) : (zL L).getD k 0 = ((L[k] : Nat) : Int) := by simp [zL, List.getD_eq_getElem?_getD, h]
theorem scanBits {body : Code} (hr : ∀ (a : List Int) (x : Int) (k : Nat) (h : Heap), xBody Tryd.prog G0 Esh 200 noLoops [2, 3, 6, 7, 8] body (st72 a x k h) =
    .ite (decide ((k : Int) < a.length)) (.need (0 ≤ (k : Int) ∧ (k : Int) < a.length) (.need (0 ≤ a.getD (k : Int).toNat 0) (.leaf (.normal, st72 a (uor x (ushl 1 (a.getD (k : Int).toNat 0))) (IntKind.i64.wrap (k + 1)) h)))) (.leaf (.exit 0, st72 a x k h)))
    {L : List Nat} (hL : ∀ x ∈ L, x < 64) (hl : L.length < 4611686018427387904) (h : Heap) : Scan body [2, 3, 6, 7, 8] L.length (fun k => st72 (zL L) (orL (L.take k) : Nat) k h) (fun k => st72 (zL L) 0 k h) (st72 (zL L) (orL L : Nat) L.length h) fun _ => false := by
  refine ⟨fun _ => rfl, fun _ => rfl, rfl, fun k hk => ⟨_, clokSh, ?_⟩⟩
  have hlen : (zL L).length = L.length := by simp [zL]
  rw [hr, selI, hlen]
  by_cases hlt : k < L.length
  · have hw : IntKind.i64.wrap ((k : Int) + 1) = ((k + 1 : Nat) : Int) := wrap_i64 (by omega) (by omega)
    have hx := hL L[k] (List.getElem_mem hlt)
    have ht : orL (L.take (k + 1)) = orL (L.take k) ||| 2 ^ L[k] := by
      rw [List.take_succ_eq_append_getElem hlt, orL_append]
      simp [orL]
    have hlo : orL (L.take k) < 2 ^ 64 := orL_lt fun x hx => hL x (List.mem_of_mem_take hx)
    rw [decide_eq_true (by omega), decide_eq_true hlt, cond_true, cond_true, Tree.sel_need ⟨by omega, by omega⟩, Int.toNat_natCast, zL_getD hlt, Tree.sel_need (by omega), ushl_one hx, uor_nat hlo (Nat.pow_lt_pow_right (by omega) hx), hw, ht]
    rfl
  · have : k = L.length := by omega
    subst this
    rw [decide_eq_false (by omega), decide_eq_false hlt, List.take_length]
    rfl
theorem loops72 : loopsOf (bodyOf Tryd.prog 72) = [body72] := by kernel_rfl
theorem id72 : idOf body72 = 3 := by kernel_rfl
theorem loops28 : loopsOf (bodyOf Tryd.prog 28) = [body28] := by kernel_rfl
theorem id28 : idOf body28 = 3 := by kernel_rfl
/-- A loop that goes to its end. -/
def lpX (i : Nat) (keep : List Nat) (S x : St) : Loops := fun id => bif Nat.beq id i then some (keep, S, .leaf (.exit 0, x)) else none
theorem fstStop_none (N : Nat) : fstStop (fun _ => false) N 0 = N := by
  have h := fstStop_le (stop := fun _ => false) N 0
  by_cases hlt : fstStop (fun _ => false) N 0 < N
  · obtain ⟨k, _, h⟩ := (fstStop_iff _ _).1 hlt; cases h
  · omega
theorem Scan.okX {body : Code} {keep : List Nat} {N : Nat} {S R : Nat → St} {X : St} (hs : Scan body keep N S R X fun _ => false) {f : FuncId} {i : Nat} (hl : loopsOf (bodyOf Tryd.prog f) = [body]) (hi : idOf body = i) :
    LoopsOk Tryd.prog G0 (fun r => r = none) [] (lpX i keep (S 0) X) (bodyOf Tryd.prog f) := by
  refine .of_list _ fun x hm => ?_
  rw [hl] at hm
  obtain rfl := List.mem_singleton.1 hm
  intro kp s0 t e st' h' hsel
  rw [hi] at h'
  unfold lpX at h'
  rw [Nat.beq_refl, cond_true] at h'
  cases h'
  have key := hs.loop (Rr := fun r => r = none) N 0 (by omega)
  rw [fstStop_none] at key
  unfold scanEnd at key
  rw [decide_eq_false (Nat.lt_irrefl N)] at key
  cases hsel
  exact ⟨.loop key, hs.nX⟩
theorem runF72 (a : List Int) (h : Heap) (p q : Int) : xenter Tryd.prog {} (xCode Tryd.prog G0 {} 200 (lpX 3 [2, 3, 6, 7, 8] (st72 a 0 0 h) (st72 a p q h))) 72 [flL a] [true] h =
    .need ((st72 a 0 0 h).vals = (st72 a 0 0 h).vals) (.leaf (U p, true, h)) := by kernel_rfl
theorem runF28 (a : List Int) (h : Heap) (p q : Int) : xenter Tryd.prog {} (xCode Tryd.prog G0 {} 200 (lpX 3 [2, 3, 6, 7, 8] (st72 a 0 0 h) (st72 a p q h))) 28 [flL a] [true] h =
    .need ((st72 a 0 0 h).vals = (st72 a 0 0 h).vals) (.leaf (U p, true, h)) := by kernel_rfl
theorem c72 {L : List Nat} (hL : ∀ x ∈ L, x < 64) (hl : L.length < 4611686018427387904) (h : Heap) : ACall Tryd.prog G0 72 [flN L] h (U (orL L : Nat)) h := by
  have hs := (scanBits run72 hL hl h).okX loops72 id72
  have e : (zL L).length = L.length := by simp [zL]
  refine .find (s := true) (n := 200) (tags := [true]) clok0 hs ?_
  exact (congrArg Tree.sel (runF72 (zL L) h (orL L : Nat) L.length)).trans (selR.trans rfl)
theorem c28 {L : List Nat} (hL : ∀ x ∈ L, x < 64) (hl : L.length < 4611686018427387904) (h : Heap) : ACall Tryd.prog G0 28 [flN L] h (U (orL L : Nat)) h := by
  have hs := (scanBits run28 hL hl h).okX loops28 id28
  refine .find (s := true) (n := 200) (tags := [true]) clok0 hs ?_
  exact (congrArg Tree.sel (runF28 (zL L) h (orL L : Nat) L.length)).trans (selR.trans rfl)

/-! ### Fulfils -/
/-- A list of numbers of 64 bits, as data. -/
def flU (L : List Int) : AV := .fl 1 L.length fun i => [U (L.getD i 0)]
theorem flU_rows (L : List Int) : (List.range L.length).map (fun i => ([U (L.getD i 0)] : List AV)) = (L.map U).map fun y => [y] := by
  apply List.ext_getElem?
  intro i
  simp only [List.getElem?_map]
  by_cases h : i < L.length
  · simp [h, List.getD_eq_getElem?_getD]
  · simp [h]
theorem RV.flU_of {w : World} {M : Map} {u : Value} {L : List Int} (h : RV w M u (.sl 1 ((L.map U).map fun y => [y]))) : RV w M u (flU L) := by
  refine .fl _ _ _ _ ?_
  rw [flU_rows]; exact h
theorem RV.flU_zs {w : World} {M : Map} {u : Value} (h : RV w M u .zs) : RV w M u (flU []) := by cases h; exact .fl _ _ _ _ (.sl0 _ _ _)
theorem RV.fA_flU {w : World} {M : Map} {u : Value} {L : List Int} (h : RV w M u (fA (L.map U))) : RV w M u (flU L) := by
  cases L with
  | nil => exact h.flU_zs
  | cons x r => exact h.flU_of
theorem below_flU {n : Nat} (L : List Int) : Below n (flU L) := below_fl fun i x hx => by rw [List.mem_singleton.1 hx]; exact .int _ _
/-- A table. -/
structure Tab where
  few : Bool
  bits : Int
  bad : List Int
def Tab.cells (t : Tab) : List AV := [.bool t.few, U t.bits, flU t.bad]
def Tab.av (t : Tab) : AV := .agg t.cells
/-- What a table says of a set. -/
def Tab.ful (t : Tab) (s : Int) : Bool := bif t.few then uand (ushr t.bits s) 1 == 1 else !(t.bad.any fun m => uand s m == m)
def cl57 : FuncId → List AV → Option (Tree AV) := fun f xs => match f, xs with
  | 72, [x] => some (.need (∃ L : List Nat, x = flN L ∧ (∀ y ∈ L, y < 64) ∧ L.length < 4611686018427387904) (.leaf (U (orL ((unL x).map Int.toNat) : Nat))))
  | _, _ => none
theorem unN (L : List Nat) : (unL (flN L)).map Int.toNat = L := by
  unfold flN
  rw [unL_flL, List.map_map]
  induction L with
  | nil => rfl
  | cons x r ih => simp only [List.map_cons, ih, Function.comp]; rfl
def E57 : Env := { boxRow := true, cl := cl57 }
theorem clok57 : ClOk Tryd.prog G0 E57 := .of rfl rfl fun f xs t v hq hs σ => by
  replace hq : cl57 f xs = some t := hq
  unfold cl57 at hq
  split at hq <;> first | (cases hq; done) | skip
  rename_i x
  cases hq
  obtain ⟨⟨L, rfl, h1, h2⟩, hs2⟩ := Tree.of_need hs
  cases hs2
  rw [unN]
  exact c72 h1 h2 σ
noncomputable def body57 : Code := (loopsOf (bodyOf Tryd.prog 57)).headD .skip
def st57 (bad : List Int) (s k : Int) (h : Heap) : St := .of 31 h [(4, .bool false, false), (5, U s, true), (19, flU bad, true), (20, I bad.length, true), (21, I k, true)]
theorem run57 (a : List Int) (s : Int) (k : Nat) (h : Heap) : xBody Tryd.prog G0 {} 200 noLoops [4, 5, 19, 20, 21] body57 (st57 a s k h) =
    .ite (decide ((k : Int) < a.length)) (.need (0 ≤ (k : Int) ∧ (k : Int) < a.length) (.ite (uand s (a.getD (k : Int).toNat 0) == a.getD (k : Int).toNat 0) (.leaf (.ret, st57 a s k h)) (.leaf (.normal, st57 a s (IntKind.i64.wrap (k + 1)) h)))) (.leaf (.exit 0, st57 a s k h)) := by kernel_rfl
theorem scan57 {a : List Int} (hl : a.length < 4611686018427387904) (s : Int) (h : Heap) : Scan body57 [4, 5, 19, 20, 21] a.length (fun k => st57 a s k h) (fun k => st57 a s k h) (st57 a s a.length h) fun k => uand s (a.getD k 0) == a.getD k 0 := by
  refine ⟨fun _ => rfl, fun _ => rfl, rfl, fun k hk => ⟨_, clok0, ?_⟩⟩
  rw [run57, selI]
  by_cases hlt : k < a.length
  · have hw : IntKind.i64.wrap ((k : Int) + 1) = ((k + 1 : Nat) : Int) := wrap_i64 (by omega) (by omega)
    rw [decide_eq_true (by omega), decide_eq_true hlt, cond_true, cond_true, Tree.sel_need ⟨by omega, by omega⟩, selI, Int.toNat_natCast, hw]
    cases uand s (a.getD k 0) == a.getD k 0 <;> rfl
  · have : k = a.length := by omega
    subst this
    rw [decide_eq_false (by omega), decide_eq_false hlt]
    rfl
theorem loops57 : loopsOf (bodyOf Tryd.prog 57) = [body57] := by kernel_rfl
theorem id57 : idOf body57 = 5 := by kernel_rfl
def need57 (L : List Nat) (x : Tree (AV × Bool × Heap)) : Tree (AV × Bool × Heap) := .need (∃ K : List Nat, flN L = flN K ∧ (∀ y ∈ K, y < 64) ∧ K.length < 4611686018427387904) x
def s57 (L : List Nat) : Int := (orL ((unL (flN L)).map Int.toNat) : Nat)
theorem runF57 (few : Bool) (b : Int) (bad : List Int) (L : List Nat) (h : Heap) (t : Bool) (p q : Int) : xenter Tryd.prog E57 (xCode Tryd.prog G0 E57 200 (lpS 5 [4, 5, 19, 20, 21] (st57 bad (s57 L) 0 h) t (st57 bad (s57 L) p h) (st57 bad (s57 L) q h))) 57 [.agg [.bool few, U b, flU bad], flN L] [true, true] h =
    need57 L (.ite few (.leaf (.bool (uand (ushr b (s57 L)) 1 == 1), true, h)) (.need ((st57 bad (s57 L) 0 h).vals = (st57 bad (s57 L) 0 h).vals) (.ite t (.leaf (.bool false, false, h)) (.leaf (.bool true, false, h))))) := by kernel_rfl
theorem any_fst (a : List Int) (p : Int → Bool) : a.any p = decide (fstStop (fun k => p (a.getD k 0)) a.length 0 < a.length) := by
  by_cases hp : fstStop (fun k => p (a.getD k 0)) a.length 0 < a.length
  · rw [decide_eq_true hp]
    obtain ⟨k, h1, h2⟩ := (fstStop_iff _ _).1 hp
    rw [List.any_eq_true]
    exact ⟨a[k], List.getElem_mem h1, by simpa [List.getD_eq_getElem?_getD, h1] using h2⟩
  · rw [decide_eq_false hp, ← Bool.not_eq_true, List.any_eq_true]
    rintro ⟨x, hm, hx⟩
    obtain ⟨k, h1, rfl⟩ := List.getElem_of_mem hm
    exact hp ((fstStop_iff _ _).2 ⟨k, h1, by simpa [List.getD_eq_getElem?_getD, h1] using hx⟩)
theorem c57 {T : Tab} (hb : T.bad.length < 4611686018427387904) {L : List Nat} (hL : ∀ x ∈ L, x < 64) (hl : L.length < 4611686018427387904) (h : Heap) : ACall Tryd.prog G0 57 [T.av, flN L] h (.bool (T.ful (orL L : Nat))) h := by
  have e : s57 L = (orL L : Nat) := by unfold s57; rw [unN]
  refine .find (s := T.few) (n := 200) (tags := [true, true]) clok57 ((scan57 hb (s57 L) h).ok loops57 id57) ?_
  refine (congrArg Tree.sel (runF57 T.few T.bits T.bad L h _ _ _)).trans ?_
  rw [need57, Tree.sel_need ⟨L, rfl, hL, hl⟩, selI, selR, selI, e]
  unfold Tab.ful
  rw [any_fst]
  cases T.few with
  | true => rfl
  | false => cases decide (fstStop (fun k => uand (orL L : Nat) (T.bad.getD k 0) == T.bad.getD k 0) T.bad.length 0 < T.bad.length) <;> rfl
/-! ### asks -/
def cl56 (T : Tab) (L : List Nat) : FuncId → List AV → Option (Tree AV) := fun f xs => match f, xs with
  | 57, [x, y] => some (.need (x = T.av ∧ y = flN L) (.leaf (.bool (T.ful (orL L : Nat)))))
  | _, _ => none
theorem run56 (T : Tab) (L : List Nat) (h : Heap) : xCall Tryd.prog G0 { cl := cl56 T L } 200 56 [flN L, .row [.bool T.few, U T.bits, flU T.bad] 0] [true, true] h = .need (Tab.av T = T.av ∧ flN L = flN L) (.leaf (.bool (T.ful (orL L : Nat)), true, h)) := by kernel_rfl
theorem c56 {T : Tab} (hb : T.bad.length < 4611686018427387904) {L : List Nat} (hL : ∀ x ∈ L, x < 64) (hl : L.length < 4611686018427387904) (h : Heap) : ACall Tryd.prog G0 56 [flN L, .row T.cells 0] h (.bool (T.ful (orL L : Nat))) h := by
  refine xCall_ok (n := 200) (tags := [true, true]) (s := true) (E := { cl := cl56 T L }) names mixed (.of rfl rfl fun f xs t v hq hs σ => ?_) ((congrArg Tree.sel (run56 T L h)).trans (Tree.sel_need ⟨rfl, rfl⟩))
  replace hq : cl56 T L f xs = some t := hq
  unfold cl56 at hq
  split at hq <;> first | (cases hq; done) | skip
  cases hq
  obtain ⟨⟨rfl, rfl⟩, hs2⟩ := Tree.of_need hs
  cases hs2
  exact c57 hb hL hl σ
/-- What asks returns. -/
def askV (T : Tab) : AV := .fn 56 [] [.row T.cells 0]
theorem bitsL_lt64 (s : Nat) : ∀ x ∈ bitsL s, x < 64 := fun _ hx => (mem_bitsL.1 hx).1
theorem fulAsk {T : Tab} (hb : T.bad.length < 4611686018427387904) (σ : Heap) : FulAt σ 56 [.row T.cells 0] fun s => T.ful (s : Nat) := fun X s hs => by
  have := c56 (T := T) hb (bitsL_lt64 s) (by have := bitsL_len s; omega) (σ ++ X)
  rwa [orL_bitsL hs] at this
def Ebox : Env := { boxRow := true }
theorem clokBox : ClOk Tryd.prog G0 Ebox := .of rfl rfl fun f xs t v h => by cases h
theorem run21 (few : Bool) (b : Int) (a : List Int) (h : Heap) : xCall Tryd.prog G0 Ebox 200 21 [.agg [.bool few, U b, flU a]] [true] h = .leaf (.fn 56 [] [.row [.bool few, U b, flU a] 0], true, h) := by kernel_rfl
theorem c21 (T : Tab) (h : Heap) : ACall Tryd.prog G0 21 [T.av] h (askV T) h := xCall_ok (n := 200) (tags := [true]) (s := true) names mixed clokBox (congrArg Tree.sel (run21 T.few T.bits T.bad h))
theorem run29 (b : Int) : xCall Tryd.prog G0 {} 200 29 [U b] [true] [] = .leaf (.agg [.bool true, U b, .zs], true, [.cells 0 [.bool true, U b, .zs]]) := by kernel_rfl
theorem RV.agg3 {w : World} {M : Map} {u : Value} {a b c c' : AV} (h : RV w M u (.agg [a, b, c])) (hc : ∀ v, RV w M v c → RV w M v c') : RV w M u (.agg [a, b, c']) := by
  cases h with
  | agg vs _ hl h =>
    refine .agg vs _ hl fun j x hx => ?_
    match j, hx with
    | 0, hx => cases hx; exact h 0 a rfl
    | 1, hx => cases hx; exact h 1 b rfl
    | 2, hx => cases hx; exact hc _ (h 2 c rfl)
    | j + 3, hx => simp at hx
theorem c29 (b : Int) (h : Heap) : ACall Tryd.prog G0 29 [U b] h (Tab.av ⟨true, b, []⟩) h := by
  have h0 := xCall_ok (n := 200) (tags := [true]) (s := true) names mixed clok0 (congrArg Tree.sel (run29 b))
  refine (h0.lift0 ?_ gbelow0 (fun x hx => ?_) h).conv fun _ _ _ h => h.agg3 fun _ h => h.flU_zs
  · refine .agg _ (below_list fun x hx => ?_)
    simp only [List.mem_cons, List.not_mem_nil, or_false] at hx
    rcases hx with rfl | rfl | rfl
    · exact .bool _
    · exact .int _ _
    · exact .zs
  · rw [List.mem_singleton.1 hx]; exact .int _ _
end Go.Proofs.YtjljigccgaadaaaDoor.Am

namespace Go.Proofs.YtjljigccgaadaaaDoor.Am
open Go
set_option maxRecDepth 100000

/-! ### Lists that are written out -/
/-- What is x is also x'. -/
def Sub (x x' : AV) : Prop := ∀ w M u, RV w M u x → RV w M u x'
theorem Sub.rfl' (x : AV) : Sub x x := fun _ _ _ h => h
theorem ACall.args {f : FuncId} {xs xs' : List AV} {σ σ' : Heap} {v : AV} (h : ACall Tryd.prog G0 f xs' σ v σ') (hl : xs.length = xs'.length) (hx : ∀ (j : Nat) (x' : AV), xs'[j]? = some x' → ∃ x, xs[j]? = some x ∧ Sub x x') : ACall Tryd.prog G0 f xs σ v σ' :=
  ⟨h.1, fun w M vs hi hvs => h.2 w M vs hi ⟨by rw [hvs.1, hl], fun j x' hj => by
    obtain ⟨x, h1, h2⟩ := hx j x' hj
    exact h2 _ _ _ (hvs.2 j x h1)⟩⟩
theorem ACall.arg2 {f : FuncId} {a b a' b' : AV} {σ σ' : Heap} {v : AV} (h : ACall Tryd.prog G0 f [a', b'] σ v σ') (ha : Sub a a') (hb : Sub b b') : ACall Tryd.prog G0 f [a, b] σ v σ' :=
  h.args rfl fun j x hx => by
    match j, hx with
    | 0, hx => cases hx; exact ⟨a, rfl, ha⟩
    | 1, hx => cases hx; exact ⟨b, rfl, hb⟩
    | j + 2, hx => simp at hx
theorem ACall.arg3 {f : FuncId} {a b c a' b' c' : AV} {σ σ' : Heap} {v : AV} (h : ACall Tryd.prog G0 f [a', b', c'] σ v σ') (ha : Sub a a') (hb : Sub b b') (hc : Sub c c') : ACall Tryd.prog G0 f [a, b, c] σ v σ' :=
  h.args rfl fun j x hx => by
    match j, hx with
    | 0, hx => cases hx; exact ⟨a, rfl, ha⟩
    | 1, hx => cases hx; exact ⟨b, rfl, hb⟩
    | 2, hx => cases hx; exact ⟨c, rfl, hc⟩
    | j + 3, hx => simp at hx
/-- A list that is written out. -/
def slL (L : List Int) : AV := .sl 1 ((L.map I).map fun y => [y])
def slLL (L : List (List Int)) : AV := .sl 1 ((L.map slL).map fun y => [y])
theorem sub_slL (L : List Int) : Sub (slL L) (flL L) := fun _ _ _ h => h.flL_of
theorem RV.sl_map {w : World} {M : Map} {u : Value} {α : Type} {p q : α → AV} (hpq : ∀ x, Sub (p x) (q x)) {L : List α} (h : RV w M u (.sl 1 ((L.map p).map fun y => [y]))) : RV w M u (.sl 1 ((L.map q).map fun y => [y])) := by
  generalize hr : ((L.map p).map fun y => [y]) = rows at h
  cases h with
  | sl0 base cap _ =>
    have : L = [] := by simpa using hr
    subst this
    exact .sl0 _ _ _
  | sl b o cap size f rows hb hc hl h hcap =>
    subst hr
    have e : ((L.map p).map fun y => [y]).length = ((L.map q).map fun y => [y]).length := by simp
    have ge : ∀ (i : Nat) (r : List AV), ((L.map q).map fun y => [y])[i]? = some r → ∃ x, L[i]? = some x ∧ r = [q x] := by
      intro i r hi
      simp only [List.getElem?_map, Option.map_eq_some_iff] at hi
      obtain ⟨_, ⟨x, hx, rfl⟩, rfl⟩ := hi
      exact ⟨x, hx, rfl⟩
    have gp : ∀ (i : Nat) (x : α), L[i]? = some x → ((L.map p).map fun y => [y])[i]? = some [p x] := fun i x hx => by simp [List.getElem?_map, hx]
    rw [e]
    refine .sl b o cap 1 f _ hb (fun i r j hi hj => ?_) (fun i r hi => ?_) (fun i r j x hi hj => ?_) (by rw [← e]; exact hcap)
    · obtain ⟨x, hx, _⟩ := ge i r hi
      exact hc i _ j (gp i x hx) hj
    · obtain ⟨x, _, rfl⟩ := ge i r hi; rfl
    · obtain ⟨y, hy, rfl⟩ := ge i r hi
      have : j = 0 := by
        match j, hj with
        | 0, _ => rfl
        | j + 1, hj => simp at hj
      subst this
      cases hj
      exact hpq _ _ _ _ (h i _ 0 _ (gp i y hy) rfl)
theorem sub_slLL (L : List (List Int)) : Sub (slLL L) (flLL L) := fun _ _ _ h => (RV.sl_map (p := slL) (q := flL) sub_slL h).flLL_of

/-! ### works -/
def ex : AV := .fn 19 [] []
theorem fulEx (σ : Heap) : FulAt σ 19 [] fun s => exF (ints s) := fun X s _ => c19 (by have := bitsL_len s; simp; omega) (σ ++ X)
def LA : List (List Int) := [[3], [0, 2], [1, 2]]
def LR : List (List Int) := [[2, 3], [0, 1, 3]]
def cl20 : FuncId → List AV → Option (Tree AV) := fun f xs => match f with
  | 13 => some (.need (xs = [I 4, ex]) (.leaf (resL [0, 2] 0)))
  | 15 => some (.need (xs = [I 4, ex]) (.leaf (resLL LA 0)))
  | 16 => some (.need (xs = [I 4, ex]) (.leaf (resLL LR 0)))
  | 17 => some (.need (xs = [I 4, flLL LA]) (.leaf (resLL LR 0)))
  | 14 => some (.need (xs = [I 4, slL [0, 2], ex]) (.leaf (.tup [.bool true, I 0])))
  | 26 => some (.need (xs = [flL [0, 2], slL [0, 2]]) (.leaf (.bool true)))
  | 18 => match xs with
    | [x, .fl 1 n r] => some (.need (x = flLL LR ∧ AV.fl 1 n r = flLL LR) (.leaf (.bool true)))
    | [x, y] => some (.need (∃ L, x = flLL L ∧ y = slLL L ∧ shortLL L) (.leaf (.bool true)))
    | _ => none
  | _ => none
theorem core4 : (coreS (badS fun (_ : Unit) s => (exF (ints s), ())) 4 ()).1 = some 5 := by kernel_rfl
theorem ofL4 : ofL 4 [0, 2] = some 5 := by kernel_rfl
theorem every4 : everyL (fun s => !exF (ints s)) 4 = LA := by kernel_rfl
theorem rep4 : everyL (fun s => exF (ints (comp 4 s))) 4 = LR := by kernel_rfl
theorem hit4 : hitR 4 LA = resLL LR 0 := by
  have h1 : hitLoop 4 LA [] = some [8, 5, 6] := by kernel_rfl
  have h2 : everyL (hits [8, 5, 6]) 4 = LR := by kernel_rfl
  unfold hitR
  simp only [show ((4 : Nat) : Int) = 4 from rfl, h1, h2]
def F20 (h : Heap) : Tree (AV × Bool × Heap) := .leaf (.bool false, false, h)
theorem run20 (h : Heap) : xCall Tryd.prog G0 { cl := cl20 } 200 20 [] [] h =
    .need ([I 4, ex] = [I 4, ex]) (.need ([I 4, ex] = [I 4, ex]) (.need ([I 4, ex] = [I 4, ex]) (.need ([flL [0, 2], slL [0, 2]] = [flL [0, 2], slL [0, 2]]) (.ite (!true) (F20 h) (.ite ((0 : Int) != 0) (F20 h)
      (.need (∃ L, flLL LA = flLL L ∧ slLL LA = slLL L ∧ shortLL L) (.ite (!true) (F20 h) (.ite ((0 : Int) != 0) (F20 h) (.need (∃ L, flLL LR = flLL L ∧ slLL LR = slLL L ∧ shortLL L) (.ite (!true) (F20 h) (.ite ((0 : Int) != 0) (F20 h)
        (.need ([I 4, slL [0, 2], ex] = [I 4, slL [0, 2], ex]) (.need ([I 4, flLL LA] = [I 4, flLL LA]) (.ite true (.ite ((0 : Int) == 0) (.need (flLL LR = flLL LR ∧ flLL LR = flLL LR) (.ite true (.leaf (.bool ((0 : Int) == 0), true, h)) (F20 h))) (F20 h)) (F20 h))))))))))))))) := by kernel_rfl
theorem shortLA : shortLL LA := ⟨by decide, by decide⟩
theorem shortLR : shortLL LR := ⟨by decide, by decide⟩
theorem clok20 : ClOk Tryd.prog G0 { cl := cl20 } := .of rfl rfl fun f xs t v hq hs σ => by
  replace hq : cl20 f xs = some t := hq
  have hf := fulEx σ
  have e0 : ∀ (b : Bool), (match ofL (4 : Nat) [0, 2] with | some s => (.tup [.bool b, I 0] : AV) | none => .tup [.bool false, I 2]) = .tup [.bool b, I 0] := by
    intro b; rw [show ofL ((4 : Nat) : Int) [0, 2] = some 5 from ofL4]
  unfold cl20 at hq
  split at hq
  · cases hq
    obtain ⟨rfl, hs2⟩ := Tree.of_need hs
    cases hs2
    have h := c13 (n := 4) (hf.ful []) (by omega) ()
    rw [core4, List.append_nil] at h
    exact h
  · cases hq
    obtain ⟨rfl, hs2⟩ := Tree.of_need hs
    cases hs2
    have h := c15 (n := 4) (by omega) hf
    rw [every4] at h
    exact h
  · cases hq
    obtain ⟨rfl, hs2⟩ := Tree.of_need hs
    cases hs2
    have h := c16 (n := 4) (by omega) hf
    rw [rep4] at h
    exact h
  · cases hq
    obtain ⟨rfl, hs2⟩ := Tree.of_need hs
    cases hs2
    have h := c17 (σ := σ) (n := 4) (by omega) (SL := LA) (fun x hx => by have := shortLA.2 x hx; omega) (by decide)
    rw [hit4] at h
    exact h
  · cases hq
    obtain ⟨rfl, hs2⟩ := Tree.of_need hs
    cases hs2
    have h := c14 (n := 4) (hf.ful []) (by omega) (L := [0, 2]) (by decide) ()
    have e1 : ofL ((4 : Nat) : Int) [0, 2] = some 5 := ofL4
    have e2 : (irrS (badS fun (_ : Unit) s => (exF (ints s), ())) () 5).1 = true := by kernel_rfl
    rw [e1] at h
    simp only [e2, List.append_nil] at h
    exact h.arg3 (Sub.rfl' _) (sub_slL _) (Sub.rfl' _)
  · cases hq
    obtain ⟨rfl, hs2⟩ := Tree.of_need hs
    cases hs2
    exact (c26 (a := [0, 2]) (b := [0, 2]) (by decide) σ).arg2 (Sub.rfl' _) (sub_slL _)
  · split at hq
    · cases hq
      obtain ⟨⟨rfl, h2⟩, hs2⟩ := Tree.of_need hs
      cases hs2
      rw [h2]
      exact c18 (a := LR) (b := LR) shortLR σ
    · cases hq
      obtain ⟨⟨L, rfl, rfl, h3⟩, hs2⟩ := Tree.of_need hs
      cases hs2
      have h := c18 (a := L) (b := L) h3 σ
      rw [beq_self_eq_true] at h
      exact h.arg2 (Sub.rfl' _) (sub_slLL _)
    · cases hq
  · cases hq
/-- THE CHAPTER'S EXAMPLES COME OUT. -/
theorem c20 (h : Heap) : ACall Tryd.prog G0 20 [] h (.bool true) h := by
  refine xCall_ok (n := 200) (tags := []) (s := true) names mixed clok20 ?_
  rw [run20, selR, selR, selR, selR, selI, Bool.not_true, cond_false, selI, bne_self_eq_false, cond_false, Tree.sel_need ⟨LA, rfl, rfl, shortLA⟩, selI, cond_false, selI, cond_false,
    Tree.sel_need ⟨LR, rfl, rfl, shortLR⟩, selI, cond_false, selI, cond_false, selR, selR, selI, cond_true, selI, beq_self_eq_true, cond_true, Tree.sel_need ⟨rfl, rfl⟩, selI, cond_true]
  rfl
end Go.Proofs.YtjljigccgaadaaaDoor.Am

