/-
  This file proves nothing of a law. It says what core.every returns: the irreducible sets, in the order of sets. Condition: at most 12 numbers; the function that is asked says the same each time, and leaves all else alone.
-/
import Derived.Test.YtjljigccgaadaaaDoorCore10
namespace Go.Proofs.YtjljigccgaadaaaDoor.Am
open Go
set_option maxRecDepth 100000

/-- What every returns: all irreducible sets, in their order. -/
def everyL (f : Nat → Bool) (n : Nat) : List (List Int) := ((allSeq n).filter (irr f)).map ints
theorem allSeq_len {n : Nat} (hn : n ≤ 12) : (allSeq n).length ≤ 8192 := by
  have h : ((List.range 13).all fun n => decide ((allSeq n).length ≤ 8192)) = true := by kernel_rfl
  have := List.all_eq_true.1 h n (List.mem_range.2 (by omega))
  simpa using this

/-! ### The rounds together -/
abbrev SE : Type := (Nat → Int) × List (List Int)
def ystE (f : Nat → Bool) (p : SE) (s : Nat) : SE := ((irrS (onceS f) p.1 s).2, if (irrS (onceS f) p.1 s).1 then p.2 ++ [ints s] else p.2)
def GoodE (c : Nat) (p : SE) : Prop := p.2.length + c ≤ 1048575
theorem foldE {f : Nat → Bool} : ∀ (l : List Nat) (K : Nat → Int) (L : List (List Int)), KOk f K → (∀ s ∈ l, s < 2 ^ 64) → ∃ K', l.foldl (ystE f) (K, L) = (K', L ++ (l.filter (irr f)).map ints)
  | [], K, L, _, _ => ⟨K, by simp⟩
  | s :: l, K, L, hK, hs => by
    obtain ⟨h1, h2⟩ := irrS_ok (f := f) (stp := onceS f) (Good := KOk f) (fun st s h => onceS_ok h s) (hs s (by simp)) hK
    obtain ⟨K', h3⟩ := foldE l (irrS (onceS f) K s).2 (if irr f s then L ++ [ints s] else L) h2 fun s hs' => hs s (by simp [hs'])
    refine ⟨K', ?_⟩
    rw [List.foldl_cons]
    have e : ystE f (K, L) s = ((irrS (onceS f) K s).2, if irr f s then L ++ [ints s] else L) := by unfold ystE; rw [h1]
    rw [e, h3]
    congr 1
    cases h : irr f s <;> simp [h]

section
variable {σ : Heap} {g : FuncId} {caps : List AV} {f : Nat → Bool} {n : Nat}
theorem yokE (hn : n ≤ 12) (hg : HasAt σ g caps f (2 ^ n)) : YOk (σ.length + 5) n (fun p : SE => hE σ n (.fn g [] caps) .ready p.1 p.2) (ystE f) GoodE := by
  refine ⟨fun c p s hgd hs => roundE hn hg hs p.1 ?_, fun c p s hgd _ => ?_⟩
  · unfold GoodE at hgd; omega
  · unfold GoodE ystE at *
    simp only
    split
    · rw [List.length_append, List.length_singleton]; omega
    · omega

/-! ### The way to the loop -/
theorem repl_one (x : AV) : ∀ n : Nat, repl n [x] = (List.range n).map fun _ => x := by
  intro n
  apply List.ext_getElem?
  intro j
  by_cases h : j < n
  · rw [repl_get n [x] j (by simpa using h), List.getElem?_map, List.getElem?_range h]
    simp [Nat.mod_one]
  · rw [List.getElem?_eq_none (by rw [repl_length]; simp; omega), List.getElem?_eq_none (by simp; omega)]
theorem make8 (h : Heap) {m : Nat} (hm : m ≤ 16777216) : aMake Tryd.prog h 85 (I m) (I m) = some (.ms 1 h.length 0 0 m m, h ++ [.cells 0 (cK .i8 m fun _ => 0)]) := by
  have el : Elem1 85 86 := elem1 Tryd.underlying85 (by kernel_rfl) (by kernel_rfl)
  obtain ⟨ie, zx, h1, h2, h3, h4, h5, h6⟩ := el.i
  have hz : aZero Tryd.prog 86 = some (.int .i8 0) := by kernel_rfl
  rw [hz] at h2
  cases h2
  have hr : repl m [.int .i8 0] = cK .i8 m fun _ => 0 := repl_one _ m
  have hc : 0 ≤ (m : Int) ∧ (m : Int) ≤ m ∧ (m : Int) ≤ 16777216 ∧ ie.bytes ≤ 65536 ∧ (AV.int .i8 0).cells.length = ie.size ∧ (AV.int .i8 0).cells.all AV.one = true := ⟨by omega, by omega, by omega, h4, by rw [h3]; rfl, rfl⟩
  unfold aMake
  rw [el.u]
  simp only [h1, hz]
  rw [if_pos hc]
  have e2 : (AV.int .i8 0).cells = [.int .i8 0] := rfl
  simp only [Int.toNat_natCast, e2, hr, h3]
theorem alloc85 (h : Heap) : aAlloc Tryd.prog h 85 = some (.ref h.length 0 0, h ++ [.cells 0 [.zs]]) := by kernel_rfl
theorem alloc61 (h : Heap) : aAlloc Tryd.prog h 61 = some (.ref h.length 0 0, h ++ [.cells 0 [.nilf]]) := by kernel_rfl
theorem alloc29 (h : Heap) : aAlloc Tryd.prog h 29 = some (.ref h.length 0 0, h ++ [.cells 0 [.zs]]) := by kernel_rfl

def stE0 (n : Int) (fv : AV) (h : Heap) : St := .of 25 h [(0, I n, true), (1, fv, true)]
def stE1 (n : Int) (fv : AV) (h : Heap) : St := .of 25 h [(0, I n, true), (3, .row [fv] 0, true)]
def stE2 (n : Int) (fv : AV) (N : Nat) (h : Heap) : St := .of 25 h [(0, I n, true), (3, .row [fv] 0, true), (5, .ref N 0 0, true)]
def stE3 (n : Int) (M : Nat) (h : Heap) : St := .of 25 h [(0, I n, true), (6, .ref M 0 0, true)]
def stE4 (n : Int) (M N : Nat) (h : Heap) : St := .of 25 h [(0, I n, true), (6, .ref M 0 0, true), (7, .ref N 0 0, true)]
def Er1 (N : Nat) (m : Int) (v : AV) (h h1 h2 h3 : Heap) : Env := { hint := orH hShift (orH (hMk 85 v m h h1) (orH (hAl 85 N h1 h2) (hSt 85 (.ref N 0 0) v h2 h3))) }
theorem clokr1 (N : Nat) (m : Int) (v : AV) (h h1 h2 h3 : Heap) : ClOk Tryd.prog G0 (Er1 N m v h h1 h2 h3) := .ofH rfl rfl (hShift_ok.ok.or ((hMk_ok _ _ _ _ _).ok.or ((hAl_ok _ _ _ _).ok.or (hSt_ok _ _ _ _ _).ok))) fun f xs t v h => by cases h
def Er2 (M : Nat) (v : AV) (h1 h2 h3 : Heap) : Env := { hint := orH (hAl 61 M h1 h2) (hSt 61 (.ref M 0 0) v h2 h3) }
theorem clokr2 (M : Nat) (v : AV) (h1 h2 h3 : Heap) : ClOk Tryd.prog G0 (Er2 M v h1 h2 h3) := .ofH rfl rfl ((hAl_ok _ _ _ _).ok.or (hSt_ok _ _ _ _ _).ok) fun f xs t v h => by cases h
def Er3 (N : Nat) (h h1 : Heap) : Env := { hint := hAl 29 N h h1 }
theorem clokr3 (N : Nat) (h h1 : Heap) : ClOk Tryd.prog G0 (Er3 N h h1) := .ofH rfl rfl (hAl_ok _ _ _ _).ok fun f xs t v h => by cases h
def Er4 : Env := { cl := cl47 }
theorem clokr4 : ClOk Tryd.prog G0 Er4 := .of rfl rfl fun f xs t v h hs σ => cl47_ok h hs σ
theorem runr0 (n : Int) (g : FuncId) (caps : List AV) (h : Heap) : xBody Tryd.prog G0 {} 200 noLoops [0, 3] (c47 0) (stE0 n (.fn g [] caps) h) = .leaf (.normal, stE1 n (.fn g [] caps) h) := by kernel_rfl
theorem runr1 (n m : Int) (fv v : AV) (N : Nat) (h h1 h2 h3 : Heap) : xBody Tryd.prog G0 (Er1 N m v h h1 h2 h3) 200 noLoops [0, 3, 5] (c47 1) (stE1 n fv h) =
    .need (0 ≤ n) (.need (some (I (IntKind.i64.wrap (1 * 2 ^ min n.toNat IntKind.i64.bits))) = some (I m) ∧ some (I (IntKind.i64.wrap (1 * 2 ^ min n.toNat IntKind.i64.bits))) = some (I m) ∧ h = h ∧ aMake Tryd.prog h 85 (I m) (I m) = some (v, h1))
      (.need (h1 = h1 ∧ aAlloc Tryd.prog h1 85 = some (.ref N 0 0, h2)) (.need (some (AV.ref N 0 0) = some (AV.ref N 0 0) ∧ some v = some v ∧ h2 = h2 ∧ aStore Tryd.prog h2 85 (.ref N 0 0) v = some h3) (.leaf (.normal, stE2 n fv N h3))))) := by kernel_rfl
theorem runr2 (n : Int) (fv : AV) (M N : Nat) (h1 h2 h3 : Heap) : xBody Tryd.prog G0 (Er2 M (.fn 67 [] [.ref N 0 0, .row [fv] 0]) h1 h2 h3) 200 noLoops [0, 6] (c47 2) (stE2 n fv N h1) =
    .need (h1 = h1 ∧ aAlloc Tryd.prog h1 61 = some (.ref M 0 0, h2)) (.need (some (AV.ref M 0 0) = some (AV.ref M 0 0) ∧ some (AV.fn 67 [] [.ref N 0 0, .row [fv] 0]) = some (AV.fn 67 [] [.ref N 0 0, .row [fv] 0]) ∧ h2 = h2 ∧ aStore Tryd.prog h2 61 (.ref M 0 0) (.fn 67 [] [.ref N 0 0, .row [fv] 0]) = some h3)
      (.leaf (.normal, stE3 n M h3))) := by kernel_rfl
theorem runr3 (n : Int) (M N : Nat) (h h1 : Heap) : xBody Tryd.prog G0 (Er3 N h h1) 200 noLoops [0, 6, 7] (c47 3) (stE3 n M h) = .need (h = h ∧ aAlloc Tryd.prog h 29 = some (.ref N 0 0, h1)) (.leaf (.normal, stE4 n M N h1)) := by kernel_rfl
theorem runr4 (n N : Nat) (h : Heap) : xBody Tryd.prog G0 Er4 200 noLoops [6, 7, 14] (c47 4) (stE4 n (N + 2) (N + 3) h) = .leaf (.normal, stF N n h) := by kernel_rfl
def Er5 (v : AV) : Env := { hint := hLd 29 v }
theorem clokr5 (v : AV) : ClOk Tryd.prog G0 (Er5 v) := .ofH rfl rfl (hLd_ok Tryd.underlying29 rfl _).ok fun f xs t v h => by cases h
def stE5 (v : AV) (h : Heap) : St := .of 25 h [(4, v, true)]
theorem runr5 (n N : Nat) (v : AV) (h : Heap) : xBody Tryd.prog G0 (Er5 v) 200 noLoops [4] (c47 5) (stF N n h) = .need (objAt h (N + 3) 0 = some [v]) (.leaf (.ret, stE5 v h)) := by kernel_rfl
theorem evF (N n : Nat) (h : Heap) : ev G0 (stF N n h).a (.tmp 14) = some (.fn 77 [] [.row [I n] 0]) := by kernel_rfl
theorem stF_a (N n : Nat) (h h' : Heap) : (stF N n h).a = (stF N n h').a := rfl
theorem argsE (n : Int) (fv : AV) (h : Heap) : Le ([I n, fv] ++ List.replicate 23 (.tup [])) (stE0 n fv h).a := by
  have e : (stE0 n fv h).a = I n :: fv :: List.replicate 23 .junk := by kernel_rfl
  rw [e]
  refine ⟨by simp, fun j y hj => ?_⟩
  match j, hj with
  | 0, hj => exact .inr hj
  | 1, hj => exact .inr hj
  | j + 2, hj =>
    refine .inl (List.eq_of_mem_replicate (n := 23) (List.mem_of_getElem? (i := j) ?_))
    simpa using hj

/-- The four objects ahead of the loop. -/
def four (N n : Nat) (fv : AV) : Heap := [.cells 0 (cK .i8 (2 ^ n) fun _ => 0), .cells 0 [.ms 1 N 0 0 (2 ^ n) (2 ^ n)], .cells 0 [.fn 67 [] (caps67 N fv)], .cells 0 [.zs]]
theorem preE (hn : n ≤ 12) {z : Code} {ez : Exit} {az : AAct} {σz : Heap} (hz : AExec Tryd.prog G0 (fun r => r = none) z { tmps := (stE4 n (σ.length + 2) (σ.length + 3) (σ ++ four σ.length n (.fn g [] caps))).a } (σ ++ four σ.length n (.fn g [] caps)) ez az σz) :
    AExec Tryd.prog G0 (fun r => r = none) (.seq (c47 0) (.seq (c47 1) (.seq (c47 2) (.seq (c47 3) z)))) { tmps := (stE0 n (.fn g [] caps) σ).a } σ ez az σz := by
  have hm : 2 ^ n ≤ 2 ^ 12 := Nat.pow_le_pow_right (by omega) hn
  let fv : AV := .fn g [] caps
  let h1 : Heap := σ ++ [.cells 0 (cK .i8 (2 ^ n) fun _ => 0)]
  have l1 : h1.length = σ.length + 1 := by simp [h1]
  let h3 : Heap := h1 ++ [.cells 0 [.ms 1 σ.length 0 0 (2 ^ n) (2 ^ n)]]
  have l3 : h3.length = σ.length + 2 := by simp [h3, h1]
  let h5 : Heap := h3 ++ [.cells 0 [.fn 67 [] (caps67 σ.length fv)]]
  have l5 : h5.length = σ.length + 3 := by simp [h5, h3, h1]
  have e6 : h5 ++ [.cells 0 [.zs]] = σ ++ four σ.length n fv := by simp [h5, h3, h1, four]
  have hw : IntKind.i64.wrap (1 * 2 ^ min (n : Int).toNat IntKind.i64.bits) = ((2 ^ n : Nat) : Int) := by
    have hb : IntKind.i64.bits = 64 := rfl
    rw [Int.toNat_natCast, hb, Nat.min_eq_left (by omega), Int.one_mul]
    have e : ((2 : Int) ^ n) = ((2 ^ n : Nat) : Int) := by simp
    rw [e]
    generalize 2 ^ n = q at hm
    exact wrap_i64 (by omega) (by omega)
  have x0 := (xBody_ok (m := []) (R := fun r => r = none) names mixed clok0 (lpNo (c47 0)) (n := 200) (keep := [0, 3]) (st := stE0 n fv σ) (st' := stE1 n fv σ) (by rw [runr0]; rfl)).1
  have x1 := (xBody_ok (m := []) (R := fun r => r = none) names mixed (clokr1 (σ.length + 1) (2 ^ n : Nat) (.ms 1 σ.length 0 0 (2 ^ n) (2 ^ n)) σ h1 (h1 ++ [.cells 0 [.zs]]) h3) (lpNo (c47 1)) (n := 200) (keep := [0, 3, 5]) (st := stE1 n fv σ) (st' := stE2 n fv (σ.length + 1) h3) (by
    rw [runr1, Tree.sel_need (by omega), hw, Tree.sel_need ⟨rfl, rfl, rfl, make8 σ (by omega)⟩, Tree.sel_need ⟨rfl, by rw [alloc85, l1]⟩, Tree.sel_need ⟨rfl, rfl, rfl, by rw [← l1]; exact store_new (one_of (by kernel_rfl)) h1 _ _ rfl⟩]
    rfl)).1
  have x2 := (xBody_ok (m := []) (R := fun r => r = none) names mixed (clokr2 (σ.length + 2) (.fn 67 [] (caps67 σ.length fv)) h3 (h3 ++ [.cells 0 [.nilf]]) h5) (lpNo (c47 2)) (n := 200) (keep := [0, 6]) (st := stE2 n fv (σ.length + 1) h3) (st' := stE3 n (σ.length + 2) h5) (by
    have := runr2 n fv (σ.length + 2) (σ.length + 1) h3 (h3 ++ [.cells 0 [.nilf]]) h5
    refine (congrArg Tree.sel this).trans ?_
    rw [Tree.sel_need ⟨rfl, by rw [alloc61, l3]⟩, Tree.sel_need ⟨rfl, rfl, rfl, by rw [← l3]; exact store_new (one_of (by kernel_rfl)) h3 _ _ rfl⟩]
    rfl)).1
  have x3 := (xBody_ok (m := []) (R := fun r => r = none) names mixed (clokr3 (σ.length + 3) h5 (h5 ++ [.cells 0 [.zs]])) (lpNo (c47 3)) (n := 200) (keep := [0, 6, 7]) (st := stE3 n (σ.length + 2) h5) (st' := stE4 n (σ.length + 2) (σ.length + 3) (h5 ++ [.cells 0 [.zs]])) (by
    rw [runr3, Tree.sel_need ⟨rfl, by rw [alloc29, l5]⟩]
    rfl)).1
  rw [e6] at x3
  exact .seq x0 (.seq x1 (.seq x2 (.seq x3 hz)))

/-- WHAT every RETURNS. -/
theorem c47x (hn : n ≤ 12) (hg : HasAt σ g caps f (2 ^ n)) : ∃ X, ACall Tryd.prog G0 47 [I n, .fn g [] caps] σ (vA (σ.length + 7) ((everyL f n).map flL)) (σ ++ X) ∧ ∀ x r, (everyL f n).map flL = x :: r → (σ ++ X)[σ.length + 7]? = some (.cells r.length (x :: r)) := by
  let fv : AV := .fn g [] caps
  let h6 : Heap := σ ++ four σ.length n fv
  have l6 : h6.length = σ.length + 4 := by simp [h6, four]
  -- the loop
  have hy := yokE hn hg
  let h : Heap := h6 ++ [.dfr] ++ [.loop (loop0 (stF σ.length n h6).a #[15] as47 bd47 h6.length)]
  have lh : h.length = σ.length + 6 := by simp [h, l6]
  obtain ⟨K', hfold⟩ := foldE (f := f) (allSeq n) (fun _ => 0) [] (fun s => .inl rfl) (fun s hs => by
    have h1 := allSeq_lt hs
    have h2 : 2 ^ n ≤ 2 ^ 12 := Nat.pow_le_pow_right (by omega) hn
    omega)
  have h0 : hE σ n fv .ready (fun _ => 0) [] = h ++ [.cells 0 [clos (σ.length + 5) h.length n]] := by
    rw [lh]
    simp [hE, seven, h, h6, four, oA, vA, lpE, loop0]
    exact stF_a _ _ _ _
  have hc := c77 (l := σ.length + 5) (h := h) (by omega) hy (fun st => by rw [lh]; exact objAt_app rfl) ((fun _ => 0), []) h0 (by have := allSeq_len hn; unfold GoodE; simp; omega)
  rw [hfold] at hc
  simp only [List.nil_append] at hc
  have hrf : AExec Tryd.prog G0 (fun r => r = none) (.rangeFunc (.tmp 14) #[15] as47 bd47) { tmps := (stF σ.length n h6).a } h6 .normal { tmps := (stF σ.length n h6).a, marks := [h6.length] } (hE σ n fv .exhausted K' (everyL f n)) := by
    refine AExec.rangeFunc (m := []) (v := .tup []) (A' := lpE σ.length n .ready) (evF _ _ _) (first := []) (σ2 := hE σ n fv .ready K' (everyL f n)) ?_ ?_ (by intro h; cases h) (fun _ => ⟨rfl, rfl, ?_⟩) (fun c h => by cases h)
    · have e : h6.length + 1 = σ.length + 5 := by omega
      rw [e]; exact hc
    · rw [l6]; exact at_app σ _ 5
    · rw [l6]; exact (set_app σ (seven σ.length n fv .ready K' (everyL f n) ++ oA ((everyL f n).map flL)) 5 (.loop (lpE σ.length n .exhausted))).symm
  have x4 := (xBody_ok (m := []) (R := fun r => r = none) names mixed clokr4 (lpNo (c47 4)) (n := 200) (keep := [6, 7, 14]) (st := stE4 n (σ.length + 2) (σ.length + 3) h6) (st' := stF σ.length n h6) (by rw [runr4]; rfl)).1
  have x5 := (xBody_ok (m := [h6.length]) (R := fun r => r = none) names mixed (clokr5 (vA (σ.length + 7) ((everyL f n).map flL))) (lpNo (c47 5)) (n := 200) (keep := [4]) (st := stF σ.length n (hE σ n fv .exhausted K' (everyL f n))) (st' := stE5 (vA (σ.length + 7) ((everyL f n).map flL)) (hE σ n fv .exhausted K' (everyL f n))) (by
    have g1 : objAt (hE σ n fv .exhausted K' (everyL f n)) (σ.length + 3) 0 = some [vA (σ.length + 7) ((everyL f n).map flL)] := objAt_app rfl
    rw [runr5, Tree.sel_need g1]; rfl)).1
  have hall := preE (σ := σ) (g := g) (caps := caps) hn (.seq (.seq x4 (AExec.block_to (id := 0) hrf rfl)) x5)
  rw [← code47] at hall
  obtain ⟨fn, c, k1, k2, k3⟩ := fnOf (f := 47) (by kernel_rfl)
  rw [k3] at hall
  have hres : fn.results.toList = [.tmp 4] := by
    have : (Tryd.prog.funcs[47]?).map (·.results.toList) = some [.tmp 4] := by kernel_rfl
    rw [k1] at this
    exact Option.some.inj this
  have hnt : fn.ntmps = 25 := by
    have : (Tryd.prog.funcs[47]?).map (·.ntmps) = some 25 := by kernel_rfl
    rw [k1] at this
    exact Option.some.inj this
  have key := ACall.of_body_marks (args := [I n, fv]) (xs := [vA (σ.length + 7) ((everyL f n).map flL)]) k1 k2 (names 47 fn k1) (.weak (by rw [hnt]; exact argsE _ _ _) hall) (.inr rfl) (by simp) (fun r hr => ?_) ?_
  · have hgone : goneAll [h6.length] (hE σ n fv .exhausted K' (everyL f n)) = σ ++ (((seven σ.length n fv .exhausted K' (everyL f n)).set 4 .gone) ++ oA ((everyL f n).map flL)) := by
      rw [l6]
      exact set_app σ _ 4 _
    refine ⟨((seven σ.length n fv .exhausted K' (everyL f n)).set 4 .gone) ++ oA ((everyL f n).map flL), ?_, fun x r hx => ?_⟩
    · rw [← hgone]; exact key
    · rw [at_app, hx]; rfl
  · rw [List.mem_singleton.1 hr, l6]
    exact at_app σ _ 4
  · rw [hres]
    have : (stE5 (vA (σ.length + 7) ((everyL f n).map flL)) (hE σ n fv .exhausted K' (everyL f n))).a[4]? = some (vA (σ.length + 7) ((everyL f n).map flL)) := by kernel_rfl
    simp only [aResults, aResult, this]
theorem c47r (hn : n ≤ 12) (hg : HasAt σ g caps f (2 ^ n)) : ACall Tryd.prog G0 47 [I n, .fn g [] caps] σ (flLL (everyL f n)) σ := by
  obtain ⟨X, h1, h2⟩ := c47x hn hg
  generalize hL : everyL f n = L at h1 h2
  cases L with
  | nil => exact (h1.forget .zs).conv fun _ _ _ h => h.flLL_zs
  | cons x r =>
    have h3 := h1.msData (cells := flL x :: r.map flL) (by omega) (h2 _ _ rfl) (fun y hy => by
      have : y ∈ (x :: r).map flL := hy
      obtain ⟨z, _, rfl⟩ := List.mem_map.1 this
      exact below_flL z)
    exact h3.conv fun _ _ _ h => RV.flLL_of (L := x :: r) h
end
end Go.Proofs.YtjljigccgaadaaaDoor.Am
