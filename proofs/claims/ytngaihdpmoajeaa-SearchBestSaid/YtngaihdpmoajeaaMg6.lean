/-
  This file proves nothing of a law. It holds lemmas, of 3 texts in their order. No condition of its own.
-/
import Derived.Test.YtngaihdpmoajeaaMg5
namespace Go.Proofs.Ytngaihdpmoajeaa.Am
open Go
set_option maxRecDepth 100000

/-! ### Problems -/
structure Rl where
  d : Int
  v : List Int
  w : List (List Int)
  m : Int
  deriving DecidableEq
structure Pb where
  V : List Int
  C : List (List Int)
  R : List Rl
  deriving DecidableEq
def r0 : Rl := ⟨0, [], [], 0⟩
def rlC (x : Rl) : List AV := [I x.d, flL x.v, flLL x.w, I x.m]
def flR (R : List Rl) : AV := .fl 4 R.length fun i => rlC (R.getD i r0)
def pbC (p : Pb) : List AV := [flL p.V, flLL p.C, flR p.R]
def pAV (p : Pb) : AV := .agg (pbC p)
def sh {α : Type} (L : List α) : Prop := L.length < 4611686018427387904
def Rl.sh (x : Rl) : Prop := Am.sh x.v ∧ Am.sh x.w ∧ ∀ l ∈ x.w, Am.sh l
def Pb.sh (p : Pb) : Prop := Am.sh p.V ∧ Am.sh p.C ∧ (∀ l ∈ p.C, Am.sh l) ∧ Am.sh p.R ∧ ∀ x ∈ p.R, x.sh
theorem sh_nil {α : Type} : sh ([] : List α) := by show (0 : Nat) < _; omega
theorem sh_getD {L : List (List Int)} (h : ∀ l ∈ L, sh l) (k : Nat) : sh (L.getD k []) := by
  by_cases hk : k < L.length
  · exact h _ (getD_mem hk)
  · rw [List.getD_eq_getElem?_getD, List.getElem?_eq_none (by omega)]; exact sh_nil
theorem sh_getR {R : List Rl} (h : ∀ x ∈ R, x.sh) (k : Nat) : (R.getD k r0).sh := by
  by_cases hk : k < R.length
  · exact h _ (getD_mem hk)
  · rw [List.getD_eq_getElem?_getD, List.getElem?_eq_none (by omega)]; exact ⟨sh_nil, sh_nil, nofun⟩

/-! ### IndexFunc, ContainsFunc of a list of rules -/
noncomputable def body76 : Code := (loopsOf (bodyOf Try.prog 76)).headD .skip
def st76 (L : List Rl) (f : AV) (r : Int) (k : Int) (b : Bool) (h : Heap) : St := .of 19 h [(0, flR L, true), (1, f, true), (4, I r, b), (7, I L.length, true), (8, I k, true)]
theorem run76 (p : Prop) (L : List Rl) (g : FuncId) (caps : List AV) (t : Bool) (k : Int) (h : Heap) : xBody Try.prog G0 (EV p g (.agg (rlC (L.getD k.toNat r0)) :: caps) (.bool t)) 200 noLoops [0, 1, 4, 7, 8] body76 (st76 L (.fn g [] caps) 0 k false h) = .ite (decide (k < (↑L.length : Int))) (.need (((0 : Int) ≤ k) ∧ (k < (↑L.length : Int))) (.need ((p) ∧ ((g = g) ∧ (((AV.agg [(I ((L.getD k.toNat r0).d)), (flL ((L.getD k.toNat r0).v)), (flLL ((L.getD k.toNat r0).w)), (I ((L.getD k.toNat r0).m))]) :: caps) = ((AV.agg [(I ((L.getD k.toNat r0).d)), (flL ((L.getD k.toNat r0).v)), (flLL ((L.getD k.toNat r0).w)), (I ((L.getD k.toNat r0).m))]) :: caps)))) (.ite (t) (.leaf (Exit.ret, St.of 19 h [(0, (flR (L)), true), (1, (AV.fn g [] caps), true), (4, (I k), true), (7, (I ((↑L.length : Int))), true), (8, (I k), true)])) (.leaf (Exit.normal, St.of 19 h [(0, (flR (L)), true), (1, (AV.fn g [] caps), true), (4, (I ((0 : Int))), false), (7, (I ((↑L.length : Int))), true), (8, (I (IntKind.i64.wrap (k + (1 : Int)))), true)]))))) (.leaf ((Exit.exit ((0 : Nat))), St.of 19 h [(0, (flR (L)), true), (1, (AV.fn g [] caps), true), (4, (I ((0 : Int))), false), (7, (I ((↑L.length : Int))), true), (8, (I k), true)])) := by kernel_rfl
theorem loops76 : loopsOf (bodyOf Try.prog 76) = [body76] := by kernel_rfl
theorem runF76 (L : List Rl) (f : AV) (t : Bool) (p q : Int) (h : Heap) : xenter Try.prog {} (xCode Try.prog G0 {} 200 (lpA 2 [0, 1, 4, 7, 8] (st76 L f 0 0 false h) t .ret (st76 L f p p true h) (.exit 0) (st76 L f 0 q false h))) 76 [flR L, f] [true, true] h = .need ((st76 L f 0 0 false h).vals = (st76 L f 0 0 false h).vals) (.ite (t) (.leaf ((I p), true, h)) (.leaf ((I ((-1 : Int))), false, h))) := by kernel_rfl
theorem loop76 {L : List Rl} (hl : sh L) {g : FuncId} {caps : List AV} {q : Rl → Bool} (hg : ∀ x ∈ L, ∀ σ, ACall Try.prog G0 g (.agg (rlC x) :: caps) σ (.bool (q x)) σ) (h : Heap) :
    LoopA body76 L.length (fun k => st76 L (.fn g [] caps) 0 k false h) (fun k => st76 L (.fn g [] caps) k k true h) (st76 L (.fn g [] caps) 0 L.length false h) .ret (.exit 0) fun k => q (L.getD k r0) where
  n0 _ := rfl
  nR _ := rfl
  nX := rfl
  neR := nofun
  neX := nofun
  go k hk _ hs := rnd (clokV fun _ => hg _ (getD_mem hk)) (lpNo _) ((congrArg Tree.sel (run76 True L g caps (q (L.getD k r0)) k h)).trans (by rw [selIt (dT (by omega)), selN ⟨by omega, by omega⟩, Int.toNat_natCast, selN ⟨trivial, rfl, rfl⟩, selIf hs, wrapS hk hl]; rfl)) rfl
  st k hk _ hs := rnd (clokV fun _ => hg _ (getD_mem hk)) (lpNo _) ((congrArg Tree.sel (run76 True L g caps (q (L.getD k r0)) k h)).trans (by rw [selIt (dT (by omega)), selN ⟨by omega, by omega⟩, Int.toNat_natCast, selN ⟨trivial, rfl, rfl⟩, selIt hs]; rfl)) rfl
  en _ := rnd (clokV (p := False) nofun) (lpNo _) ((congrArg Tree.sel (run76 False L g caps true L.length h)).trans (by rw [selIf (dF (by omega))]; rfl)) rfl
theorem c76 {L : List Rl} (hl : sh L) {g : FuncId} {caps : List AV} {q : Rl → Bool} (hg : ∀ x ∈ L, ∀ σ, ACall Try.prog G0 g (.agg (rlC x) :: caps) σ (.bool (q x)) σ) :
    ∃ n : Int, (∀ h, ACall Try.prog G0 76 [flR L, .fn g [] caps] h (I n) h) ∧ decide (n ≥ 0) = L.any q := by
  have hs := loop76 hl hg
  have key := fun h => congrArg Tree.sel (runF76 L (.fn g [] caps) (decide (fstStop (fun k => q (L.getD k r0)) L.length 0 < L.length)) (fstStop (fun k => q (L.getD k r0)) L.length 0 : Nat) L.length h)
  by_cases hp : fstStop (fun k => q (L.getD k r0)) L.length 0 < L.length
  · refine ⟨_, fun h => .find (s := true) (n := 200) (tags := [true, true]) clok0 ((hs h).ok (one_loop loops76)) ((key h).trans (by rw [selN rfl, selIt (dT hp)]; rfl)), ?_⟩
    obtain ⟨k, h1, h2⟩ := (fstStop_iff _ _).1 hp
    rw [dT (by omega), eq_comm, List.any_eq_true]
    exact ⟨_, getD_mem h1, h2⟩
  · refine ⟨_, fun h => .find (s := false) (n := 200) (tags := [true, true]) clok0 ((hs h).ok (one_loop loops76)) ((key h).trans (by rw [selN rfl, selIf (dF hp)]; rfl)), ?_⟩
    rw [dF (by omega), eq_comm, List.any_eq_false]
    intro x hx h2
    obtain ⟨k, hk, rfl⟩ := List.mem_iff_getElem.1 hx
    exact hp ((fstStop_iff _ _).2 ⟨k, hk, by rw [List.getD_eq_getElem?_getD, List.getElem?_eq_getElem hk]; exact h2⟩)
theorem run57 (p : Prop) (x f : AV) (n : Int) (h : Heap) : xCall Try.prog G0 (EV p 76 [x, f] (I n)) 200 57 [x, f] [true, true] h = .need ((p) ∧ ((((76 : Nat)) = ((76 : FuncId))) ∧ ([x, f] = [x, f]))) (.leaf ((AV.bool (decide (n ≥ (0 : Int)))), true, h)) := by kernel_rfl
theorem c57 {L : List Rl} (hl : sh L) {g : FuncId} {caps : List AV} {q : Rl → Bool} (hg : ∀ x ∈ L, ∀ σ, ACall Try.prog G0 g (.agg (rlC x) :: caps) σ (.bool (q x)) σ) (h : Heap) : ACall Try.prog G0 57 [flR L, .fn g [] caps] h (.bool (L.any q)) h := by
  obtain ⟨n, h1, h2⟩ := c76 hl hg
  rw [← h2]
  exact xCall_ok (n := 200) (tags := [true, true]) (s := true) names mixed (clokV fun _ => h1) ((congrArg Tree.sel (run57 True _ _ n h)).trans (selN ⟨trivial, rfl, rfl⟩))

/-! ### Is a rule bad? -/
def lastOf (v : List Int) : Nat → Int
  | 0 => -1
  | k + 1 => v.getD k 0
def bad58 (V : List Int) (x : Rl) (k : Nat) : Bool := decide (x.v.getD k 0 ≤ lastOf x.v k) || (decide (x.v.getD k 0 ≥ V.length) || (decide (k ≥ x.w.length) || ((((x.w.getD k []).length : Int) != V.getD (x.v.getD k 0).toNat 0) || anyOut (x.w.getD k []) (-100000000) 100000000)))
noncomputable def body58 : Code := (loopsOf (bodyOf Try.prog 58)).headD .skip
def st58 (p : Pb) (x : Rl) (r : Bool) (last k : Int) (b : Bool) (h : Heap) : St := .of 76 h [(1, .row (pbC p) 0, true), (2, .row (rlC x) 0, true), (3, .bool r, false), (4, I last, b), (8, flL x.v, true), (9, I x.v.length, true), (10, I k, b)]
def E58 (l : List Int) (t : Bool) : Env := EK [(56, [I (-100000000), I 100000000], .fn 75 [] (outC (-100000000) 100000000)), (55, [flL l, .fn 75 [] (outC (-100000000) 100000000)], .bool t)]
theorem clok58 {l : List Int} (hl : sh l) : ClOk Try.prog G0 (E58 l (anyOut l (-100000000) 100000000)) := clokK fun p hp σ => by
  simp only [List.mem_cons, List.not_mem_nil, or_false] at hp
  rcases hp with rfl | rfl
  · exact c56 _ _ σ
  · exact c55o hl _ _ σ
theorem run58 (p : Pb) (x : Rl) (t : Bool) (last k : Int) (h : Heap) : xBody Try.prog G0 (E58 (x.w.getD k.toNat []) t) 200 noLoops [1, 2, 3, 4, 8, 9, 10] body58 (st58 p x false last k true h) = .ite (decide (k < (↑x.v.length : Int))) (.need (((0 : Int) ≤ k) ∧ (k < (↑x.v.length : Int))) (.ite (decide (x.v.getD k.toNat (0 : Int) ≤ last)) (.leaf (Exit.ret, St.of 76 h [(1, (AV.row [(flL (p.V)), (flLL (p.C)), (flR (p.R))] ((0 : Nat))), true), (2, (AV.row [(I (x.d)), (flL (x.v)), (flLL (x.w)), (I (x.m))] ((0 : Nat))), true), (3, (AV.bool true), false), (4, (I last), true), (8, (flL (x.v)), true), (9, (I ((↑x.v.length : Int))), true), (10, (I k), true)])) (.ite (decide (x.v.getD k.toNat (0 : Int) ≥ (↑p.V.length : Int))) (.leaf (Exit.ret, St.of 76 h [(1, (AV.row [(flL (p.V)), (flLL (p.C)), (flR (p.R))] ((0 : Nat))), true), (2, (AV.row [(I (x.d)), (flL (x.v)), (flLL (x.w)), (I (x.m))] ((0 : Nat))), true), (3, (AV.bool true), false), (4, (I last), true), (8, (flL (x.v)), true), (9, (I ((↑x.v.length : Int))), true), (10, (I k), true)])) (.ite (decide (k ≥ (↑x.w.length : Int))) (.leaf (Exit.ret, St.of 76 h [(1, (AV.row [(flL (p.V)), (flLL (p.C)), (flR (p.R))] ((0 : Nat))), true), (2, (AV.row [(I (x.d)), (flL (x.v)), (flLL (x.w)), (I (x.m))] ((0 : Nat))), true), (3, (AV.bool true), false), (4, (I last), true), (8, (flL (x.v)), true), (9, (I ((↑x.v.length : Int))), true), (10, (I k), true)])) (.need (((0 : Int) ≤ k) ∧ (k < (↑x.w.length : Int))) (.need (((0 : Int) ≤ x.v.getD k.toNat (0 : Int)) ∧ (x.v.getD k.toNat (0 : Int) < (↑p.V.length : Int))) (.ite ((↑(x.w.getD k.toNat []).length : Int) != p.V.getD (x.v.getD k.toNat (0 : Int)).toNat (0 : Int)) (.leaf (Exit.ret, St.of 76 h [(1, (AV.row [(flL (p.V)), (flLL (p.C)), (flR (p.R))] ((0 : Nat))), true), (2, (AV.row [(I (x.d)), (flL (x.v)), (flLL (x.w)), (I (x.m))] ((0 : Nat))), true), (3, (AV.bool true), false), (4, (I last), true), (8, (flL (x.v)), true), (9, (I ((↑x.v.length : Int))), true), (10, (I k), true)])) (.need (((0 : Int) ≤ k) ∧ (k < (↑x.w.length : Int))) (.need ([(I ((-100000000 : Int))), (I ((100000000 : Int)))] = [(I ((-100000000 : Int))), (I ((100000000 : Int)))]) (.need ([(flL (x.w.getD k.toNat [])), (AV.fn ((75 : FuncId)) [] [(AV.row [(I ((-100000000 : Int)))] ((0 : Nat))), (AV.row [(I ((100000000 : Int)))] ((0 : Nat)))])] = [(flL (x.w.getD k.toNat [])), (AV.fn ((75 : FuncId)) [] [(AV.row [(I ((-100000000 : Int)))] ((0 : Nat))), (AV.row [(I ((100000000 : Int)))] ((0 : Nat)))])]) (.ite (t) (.leaf (Exit.ret, St.of 76 h [(1, (AV.row [(flL (p.V)), (flLL (p.C)), (flR (p.R))] ((0 : Nat))), true), (2, (AV.row [(I (x.d)), (flL (x.v)), (flLL (x.w)), (I (x.m))] ((0 : Nat))), true), (3, (AV.bool true), false), (4, (I last), true), (8, (flL (x.v)), true), (9, (I ((↑x.v.length : Int))), true), (10, (I k), true)])) (.leaf (Exit.normal, St.of 76 h [(1, (AV.row [(flL (p.V)), (flLL (p.C)), (flR (p.R))] ((0 : Nat))), true), (2, (AV.row [(I (x.d)), (flL (x.v)), (flLL (x.w)), (I (x.m))] ((0 : Nat))), true), (3, (AV.bool false), false), (4, (I (x.v.getD k.toNat (0 : Int))), true), (8, (flL (x.v)), true), (9, (I ((↑x.v.length : Int))), true), (10, (I (IntKind.i64.wrap (k + (1 : Int)))), true)]))))))))))))) (.leaf ((Exit.exit ((0 : Nat))), St.of 76 h [(1, (AV.row [(flL (p.V)), (flLL (p.C)), (flR (p.R))] ((0 : Nat))), true), (2, (AV.row [(I (x.d)), (flL (x.v)), (flLL (x.w)), (I (x.m))] ((0 : Nat))), true), (3, (AV.bool false), false), (4, (I last), true), (8, (flL (x.v)), true), (9, (I ((↑x.v.length : Int))), true), (10, (I k), true)])) := by kernel_rfl
theorem loops58 : loopsOf (bodyOf Try.prog 58) = [body58] := by kernel_rfl
theorem bad_false {V : List Int} {x : Rl} {k : Nat} (h : bad58 V x k = false) : ¬ x.v.getD k 0 ≤ lastOf x.v k ∧ ¬ x.v.getD k 0 ≥ V.length ∧ ¬ k ≥ x.w.length ∧ (((x.w.getD k []).length : Int) != V.getD (x.v.getD k 0).toNat 0) = false ∧ anyOut (x.w.getD k []) (-100000000) 100000000 = false := by
  unfold bad58 at h
  simp only [Bool.or_eq_false_iff, decide_eq_false_iff_not] at h
  exact h
theorem last_ge {V : List Int} {x : Rl} : ∀ {k : Nat}, (∀ j, j < k → bad58 V x j = false) → -1 ≤ lastOf x.v k
  | 0, _ => Int.le_refl _
  | k + 1, h => by
    have h1 := last_ge (k := k) fun j hj => h j (by omega)
    have h2 := (bad_false (h k (by omega))).1
    show -1 ≤ x.v.getD k 0
    omega
theorem loop58 {p : Pb} {x : Rl} (hx : x.sh) (h : Heap) : LoopA body58 x.v.length (fun k => st58 p x false (lastOf x.v k) k true h) (fun k => st58 p x true (lastOf x.v k) k true h) (st58 p x false (lastOf x.v x.v.length) x.v.length true h) .ret (.exit 0) (bad58 p.V x) where
  n0 _ := rfl
  nR _ := rfl
  nX := rfl
  neR := nofun
  neX := nofun
  go k hk hj hs := rnd (clok58 (sh_getD hx.2.2 k)) (lpNo _) ((congrArg Tree.sel (run58 p x (anyOut (x.w.getD k []) (-100000000) 100000000) (lastOf x.v k) k h)).trans (by
    obtain ⟨h1, h2, h3, h4, h5⟩ := bad_false hs
    have h0 := last_ge hj
    rw [selIt (dT (by omega)), selN ⟨by omega, by omega⟩, Int.toNat_natCast, selIf (dF h1), selIf (dF h2), selIf (dF (by omega)), selN ⟨by omega, by omega⟩, selN ⟨by omega, by omega⟩, selIf h4, selN ⟨by omega, by omega⟩, selR, selR, selIf h5, wrapS hk hx.1]
    rfl)) rfl
  st k hk hj hs := rnd (clok58 (sh_getD hx.2.2 k)) (lpNo _) ((congrArg Tree.sel (run58 p x (anyOut (x.w.getD k []) (-100000000) 100000000) (lastOf x.v k) k h)).trans (by
    have h0 := last_ge hj
    unfold bad58 at hs
    rw [selIt (dT (by omega)), selN ⟨by omega, by omega⟩, Int.toNat_natCast]
    by_cases h1 : x.v.getD k 0 ≤ lastOf x.v k
    · rw [selIt (dT h1)]; rfl
    rw [selIf (dF h1)]
    by_cases h2 : x.v.getD k 0 ≥ p.V.length
    · rw [selIt (dT h2)]; rfl
    rw [selIf (dF h2)]
    by_cases h3 : k ≥ x.w.length
    · rw [selIt (dT (by omega))]; rfl
    rw [selIf (dF (by omega)), selN ⟨by omega, by omega⟩, selN ⟨by omega, by omega⟩]
    rw [dF h1, dF h2, dF h3, Bool.false_or, Bool.false_or, Bool.false_or] at hs
    cases h4 : (((x.w.getD k []).length : Int) != p.V.getD (x.v.getD k 0).toNat 0) with
    | true => rw [selIt rfl]; rfl
    | false =>
      rw [h4, Bool.false_or] at hs
      rw [selIf rfl, selN ⟨by omega, by omega⟩, selR, selR, selIt hs]; rfl)) rfl
  en _ := rnd (clok58 (sh_getD hx.2.2 x.v.length)) (lpNo _) ((congrArg Tree.sel (run58 p x (anyOut (x.w.getD x.v.length []) (-100000000) 100000000) (lastOf x.v x.v.length) x.v.length h)).trans (by rw [selIf (dF (by omega))]; rfl)) rfl
/-- What a tree of results says. -/
def Says (t : Tree (AV × Bool × Heap)) (v : AV) (h : Heap) : Prop := ∃ s, t.sel = some (v, s, h)
theorem says_leaf {v : AV} {s : Bool} {h : Heap} : Says (.leaf (v, s, h)) v h := ⟨s, rfl⟩
theorem says_need {p : Prop} {x : Tree (AV × Bool × Heap)} {v : AV} {h : Heap} (hp : p) (hx : Says x v h) : Says (.need p x) v h := by
  obtain ⟨s, hs⟩ := hx
  exact ⟨s, (selN hp).trans hs⟩
theorem says_ite {b : Bool} {x y : Tree (AV × Bool × Heap)} {v : AV} {h : Heap} (hx : b = true → Says x v h) (hy : b = false → Says y v h) : Says (.ite b x y) v h := by
  cases b with
  | true => exact hx rfl
  | false => exact hy rfl
theorem ACall.says {E : Env} (hcl : ClOk Try.prog G0 E) {lp : Loops} {n : Nat} {f : FuncId} (hlp : LoopsOk Try.prog G0 (fun r => r = none) [] lp (bodyOf Try.prog f)) {xs : List AV} {tags : List Bool} {h h' : Heap} {v : AV} {t : Tree (AV × Bool × Heap)}
    (he : xenter Try.prog E (xCode Try.prog G0 E n lp) f xs tags h = t) (hs : Says t v h') : ACall Try.prog G0 f xs h v h' := by
  obtain ⟨s, hs⟩ := hs
  exact .find (s := s) hcl hlp ((congrArg Tree.sel he).trans hs)
theorem ACall.saysC {E : Env} (hcl : ClOk Try.prog G0 E) {n : Nat} {f : FuncId} {xs : List AV} {tags : List Bool} {h h' : Heap} {v : AV} {t : Tree (AV × Bool × Heap)}
    (he : xCall Try.prog G0 E n f xs tags h = t) (hs : Says t v h') : ACall Try.prog G0 f xs h v h' := by
  obtain ⟨s, hs⟩ := hs
  exact xCall_ok names mixed hcl ((congrArg Tree.sel he).trans hs)
/-- Simple functions, always known. -/
def clS : FuncId → List AV → Option (Tree AV) := fun f xs => match f, xs with
  | 45, [.int .i64 a, .int .i64 b, .int .i64 c] => some (.leaf (.bool (inB a b c)))
  | 49, [.int .i64 a, .int .i64 b, .int .i64 c] => some (.leaf (.bool (inB a b c)))
  | 56, [.int .i64 a, .int .i64 b] => some (.leaf (.fn 75 [] (outC a b)))
  | _, _ => none
theorem clS_ok {f : FuncId} {xs : List AV} {t : Tree AV} {v : AV} (hq : clS f xs = some t) (hs : t.sel = some v) (σ : Heap) : ACall Try.prog G0 f xs σ v σ := by
  unfold clS at hq
  split at hq <;> first | (cases hq; done) | skip
  · cases hq; cases hs; exact c45 _ _ _ σ
  · cases hq; cases hs; exact c49 _ _ _ σ
  · cases hq; cases hs; exact c56 _ _ σ
def ES (l : List (FuncId × List AV × AV)) : Env := { clh := failH, cl := fun f xs => match clS f xs with
  | some t => some t
  | none => clL l f xs }
theorem clokS {l : List (FuncId × List AV × AV)} (hl : ∀ p ∈ l, ∀ σ, ACall Try.prog G0 p.1 p.2.1 σ p.2.2 σ) : ClOk Try.prog G0 (ES l) := .all .none failH_ok (fun l xs σ t v σ' h => (by cases h)) fun f xs t v h hs σ => by
  replace h : (match clS f xs with
    | some t => some t
    | none => clL l f xs) = some t := h
  split at h
  · rename_i t' ht; cases h; exact clS_ok ht hs σ
  · exact clL_ok hl f xs t v h hs σ
theorem clokS0 : ClOk Try.prog G0 (ES []) := clokS nofun
theorem clokS1 {f : FuncId} {xs : List AV} {v : AV} (h : ∀ σ, ACall Try.prog G0 f xs σ v σ) : ClOk Try.prog G0 (ES [(f, xs, v)]) := clokS fun p hp σ => by
  obtain rfl := List.mem_singleton.1 hp
  exact h σ
theorem clokS2 {f g : FuncId} {xs ys : List AV} {v u : AV} (h : ∀ σ, ACall Try.prog G0 f xs σ v σ) (k : ∀ σ, ACall Try.prog G0 g ys σ u σ) : ClOk Try.prog G0 (ES [(f, xs, v), (g, ys, u)]) := clokS fun p hp σ => by
  rcases List.mem_cons.1 hp with rfl | hp
  · exact h σ
  · obtain rfl := List.mem_singleton.1 hp
    exact k σ
theorem runF58 (p : Pb) (x : Rl) (t : Bool) (l1 l2 k1 k2 : Int) (h : Heap) : xenter Try.prog (ES []) (xCode Try.prog G0 (ES []) 200 (lpA 3 [1, 2, 3, 4, 8, 9, 10] (st58 p x false (-1) 0 true h) t .ret (st58 p x true l1 k1 true h) (.exit 0) (st58 p x false l2 k2 true h))) 58 [.agg (rlC x), .row (pbC p) 0] [true, true] h = .need ((st58 p x false (-1) 0 true h).vals = (st58 p x false (-1) 0 true h).vals) (.ite (t) (.leaf ((AV.bool true), false, h)) (.ite ((↑x.w.length : Int) != (↑x.v.length : Int)) (.leaf ((AV.bool true), false, h)) (.ite (!inB x.d (0 : Int) (1000000 : Int)) (.leaf ((AV.bool true), false, h)) (.leaf ((AV.bool (!inB x.m (-10000000000 : Int) (10000000000 : Int))), true, h))))) := by kernel_rfl
theorem loops58' : ∀ x ∈ loopsOf (bodyOf Try.prog 58), idOf x = 3 → x = body58 := one_loop loops58
/-- Some k below N. -/
def anyK (q : Nat → Bool) (N : Nat) : Bool := (List.range N).any q
theorem anyK_stop (q : Nat → Bool) (N : Nat) : decide (fstStop q N 0 < N) = anyK q N := by
  rw [Bool.eq_iff_iff, decide_eq_true_eq, fstStop_iff]
  unfold anyK
  rw [List.any_eq_true]
  exact ⟨fun ⟨k, h1, h2⟩ => ⟨k, List.mem_range.2 h1, h2⟩, fun ⟨k, h1, h2⟩ => ⟨k, List.mem_range.1 h1, h2⟩⟩
theorem anyK_false {q : Nat → Bool} {N : Nat} (h : anyK q N = false) : ∀ k, k < N → q k = false := fun k hk => by
  have := List.any_eq_false.1 h k (List.mem_range.2 hk)
  simpa using this
def badRl (V : List Int) (x : Rl) : Bool := anyK (bad58 V x) x.v.length || ((((x.w.length : Int) != x.v.length) || !inB x.d 0 1000000) || !inB x.m (-10000000000) 10000000000)
theorem c58 {p : Pb} {x : Rl} (hx : x.sh) (h : Heap) : ACall Try.prog G0 58 [.agg (rlC x), .row (pbC p) 0] h (.bool (badRl p.V x)) h := by
  have hs := loop58 (p := p) hx h
  refine ACall.says clokS0 (hs.ok loops58') (runF58 p x _ _ _ _ _ h) (says_need rfl ?_)
  rw [anyK_stop]
  unfold badRl
  refine says_ite (fun hc => by rw [hc]; exact says_leaf) (fun hc => ?_)
  rw [hc, Bool.false_or]
  refine says_ite (fun hc => by rw [hc]; exact says_leaf) (fun hc => ?_)
  rw [hc, Bool.false_or]
  refine says_ite (fun hc => by rw [hc]; exact says_leaf) (fun hc => ?_)
  rw [hc, Bool.false_or]
  exact says_leaf

/-! ### Is a problem valid? -/
def bad28 (p : Pb) (k : Nat) : Bool := (((p.C.getD k []).length : Int) != p.V.getD k 0) || anyOut (p.C.getD k []) 0 1000000
noncomputable def body28 : Code := (loopsOf (bodyOf Try.prog 28)).headD .skip
def st28 (p : Pb) (k : Int) (h : Heap) : St := .of 57 h [(1, .row (pbC p) 0, true), (2, .bool false, false), (31, flLL p.C, true), (32, I p.C.length, true), (33, I k, true)]
def E28 (l : List Int) (t : Bool) : Env := ES [(55, [flL l, .fn 75 [] (outC 0 1000000)], .bool t)]
theorem clok28 {l : List Int} (hl : sh l) : ClOk Try.prog G0 (E28 l (anyOut l 0 1000000)) := clokS1 (c55o hl _ _)
theorem run28 (p : Pb) (t : Bool) (k : Int) (h : Heap) : xBody Try.prog G0 (E28 (p.C.getD k.toNat []) t) 200 noLoops [1, 2, 31, 32, 33] body28 (st28 p k h) = .ite (decide (k < (↑p.C.length : Int))) (.need (((0 : Int) ≤ k) ∧ (k < (↑p.C.length : Int))) (.need (((0 : Int) ≤ k) ∧ (k < (↑p.V.length : Int))) (.ite ((↑(p.C.getD k.toNat []).length : Int) != p.V.getD k.toNat (0 : Int)) (.leaf (Exit.ret, St.of 57 h [(1, (AV.row [(flL (p.V)), (flLL (p.C)), (flR (p.R))] ((0 : Nat))), true), (2, (AV.bool false), false), (31, (flLL (p.C)), true), (32, (I ((↑p.C.length : Int))), true), (33, (I k), true)])) (.need ([(flL (p.C.getD k.toNat [])), (AV.fn ((75 : FuncId)) [] [(AV.row [(I ((0 : Int)))] ((0 : Nat))), (AV.row [(I ((1000000 : Int)))] ((0 : Nat)))])] = [(flL (p.C.getD k.toNat [])), (AV.fn ((75 : FuncId)) [] [(AV.row [(I ((0 : Int)))] ((0 : Nat))), (AV.row [(I ((1000000 : Int)))] ((0 : Nat)))])]) (.ite (t) (.leaf (Exit.ret, St.of 57 h [(1, (AV.row [(flL (p.V)), (flLL (p.C)), (flR (p.R))] ((0 : Nat))), true), (2, (AV.bool false), false), (31, (flLL (p.C)), true), (32, (I ((↑p.C.length : Int))), true), (33, (I k), true)])) (.leaf (Exit.normal, St.of 57 h [(1, (AV.row [(flL (p.V)), (flLL (p.C)), (flR (p.R))] ((0 : Nat))), true), (2, (AV.bool false), false), (31, (flLL (p.C)), true), (32, (I ((↑p.C.length : Int))), true), (33, (I (IntKind.i64.wrap (k + (1 : Int)))), true)]))))))) (.leaf ((Exit.exit ((0 : Nat))), St.of 57 h [(1, (AV.row [(flL (p.V)), (flLL (p.C)), (flR (p.R))] ((0 : Nat))), true), (2, (AV.bool false), false), (31, (flLL (p.C)), true), (32, (I ((↑p.C.length : Int))), true), (33, (I k), true)])) := by kernel_rfl
theorem loops28 : loopsOf (bodyOf Try.prog 28) = [body28] := by kernel_rfl
theorem loop28 {p : Pb} (hp : p.sh) (he : p.C.length = p.V.length) (h : Heap) : LoopA body28 p.C.length (fun k => st28 p k h) (fun k => st28 p k h) (st28 p p.C.length h) .ret (.exit 0) (bad28 p) where
  n0 _ := rfl
  nR _ := rfl
  nX := rfl
  neR := nofun
  neX := nofun
  go k hk hj hs := rnd (clok28 (sh_getD hp.2.2.1 k)) (lpNo _) ((congrArg Tree.sel (run28 p (anyOut (p.C.getD k []) 0 1000000) k h)).trans (by
    obtain ⟨h1, h2⟩ := Bool.or_eq_false_iff.1 hs
    rw [selIt (dT (by omega)), selN ⟨by omega, by omega⟩, selN ⟨by omega, by omega⟩, Int.toNat_natCast, selIf h1, selR, selIf h2, wrapS hk hp.2.1]
    rfl)) rfl
  st k hk hj hs := rnd (clok28 (sh_getD hp.2.2.1 k)) (lpNo _) ((congrArg Tree.sel (run28 p (anyOut (p.C.getD k []) 0 1000000) k h)).trans (by
    unfold bad28 at hs
    rw [selIt (dT (by omega)), selN ⟨by omega, by omega⟩, selN ⟨by omega, by omega⟩, Int.toNat_natCast]
    cases h4 : (((p.C.getD k []).length : Int) != p.V.getD k 0) with
    | true => rw [selIt rfl]; rfl
    | false =>
      rw [h4, Bool.false_or] at hs
      rw [selIf rfl, selR, selIt hs]; rfl)) rfl
  en _ := rnd (clok28 (sh_getD hp.2.2.1 p.C.length)) (lpNo _) ((congrArg Tree.sel (run28 p (anyOut (p.C.getD p.C.length []) 0 1000000) p.C.length h)).trans (by rw [selIf (dF (by omega))]; rfl)) rfl
def F28 (p : Pb) (a b : Bool) : Env := ES [(55, [flL p.V, .fn 75 [] (outC 1 16)], .bool a), (57, [flR p.R, .fn 58 [] [.row (pbC p) 0]], .bool b)]
theorem clokF28 {p : Pb} (hp : p.sh) : ClOk Try.prog G0 (F28 p (anyOut p.V 1 16) (p.R.any (badRl p.V))) := clokS2 (c55o hp.1 _ _) (c57 hp.2.2.2.1 fun x hx σ => c58 (hp.2.2.2.2 x hx) σ)
theorem runF28 (p : Pb) (a b t : Bool) (k1 k2 : Int) (h : Heap) : xenter Try.prog (F28 p a b) (xCode Try.prog G0 (F28 p a b) 200 (lpA 4 [1, 2, 31, 32, 33] (st28 p 0 h) t .ret (st28 p k1 h) (.exit 0) (st28 p k2 h))) 28 [pAV p] [true] h = .ite (decide ((↑p.V.length : Int) > (24 : Int))) (.leaf ((AV.bool false), false, h)) (.ite ((↑p.C.length : Int) != (↑p.V.length : Int)) (.leaf ((AV.bool false), false, h)) (.ite (decide ((↑p.R.length : Int) > (2048 : Int))) (.leaf ((AV.bool false), false, h)) (.need ([(flL (p.V)), (AV.fn ((75 : FuncId)) [] [(AV.row [(I ((1 : Int)))] ((0 : Nat))), (AV.row [(I ((16 : Int)))] ((0 : Nat)))])] = [(flL (p.V)), (AV.fn ((75 : FuncId)) [] [(AV.row [(I ((1 : Int)))] ((0 : Nat))), (AV.row [(I ((16 : Int)))] ((0 : Nat)))])]) (.ite (a) (.leaf ((AV.bool false), false, h)) (.need ((st28 p 0 h).vals = (st28 p 0 h).vals) (.ite (t) (.leaf ((AV.bool false), false, h)) (.need ([(flR (p.R)), (AV.fn ((58 : Nat)) [] [(AV.row [(flL (p.V)), (flLL (p.C)), (flR (p.R))] ((0 : Nat)))])] = [(flR (p.R)), (AV.fn ((58 : FuncId)) [] [(AV.row [(flL (p.V)), (flLL (p.C)), (flR (p.R))] ((0 : Nat)))])]) (.leaf ((AV.bool (!b)), true, h))))))))) := by kernel_rfl
theorem runG28 (p : Pb) (a b : Bool) (h : Heap) : xenter Try.prog (F28 p a b) (xCode Try.prog G0 (F28 p a b) 200 (lpF 4 [1, 2, 31, 32, 33] (st28 p 0 h))) 28 [pAV p] [true] h = .ite (decide ((↑p.V.length : Int) > (24 : Int))) (.leaf ((AV.bool false), false, h)) (.ite ((↑p.C.length : Int) != (↑p.V.length : Int)) (.leaf ((AV.bool false), false, h)) (.ite (decide ((↑p.R.length : Int) > (2048 : Int))) (.leaf ((AV.bool false), false, h)) (.need ([(flL (p.V)), (AV.fn ((75 : FuncId)) [] [(AV.row [(I ((1 : Int)))] ((0 : Nat))), (AV.row [(I ((16 : Int)))] ((0 : Nat)))])] = [(flL (p.V)), (AV.fn ((75 : FuncId)) [] [(AV.row [(I ((1 : Int)))] ((0 : Nat))), (AV.row [(I ((16 : Int)))] ((0 : Nat)))])]) (.ite (a) (.leaf ((AV.bool false), false, h)) (.need ((st28 p 0 h).vals = (st28 p 0 h).vals) .fail))))) := by kernel_rfl
/-- WHEN A PROBLEM IS VALID. -/
def validP (p : Pb) : Bool := !(decide ((p.V.length : Int) > 24) || (((p.C.length : Int) != p.V.length) || (decide ((p.R.length : Int) > 2048) || anyOut p.V 1 16))) && (!anyK (bad28 p) p.C.length && !p.R.any (badRl p.V))
theorem c28 {p : Pb} (hp : p.sh) (h : Heap) : ACall Try.prog G0 28 [pAV p] h (.bool (validP p)) h := by
  unfold validP
  by_cases he : p.C.length = p.V.length
  · have hs := loop28 hp he h
    refine ACall.says (clokF28 hp) (hs.ok (one_loop loops28)) (runF28 p _ _ _ _ _ h) ?_
    rw [anyK_stop]
    refine says_ite (fun hc => by rw [hc]; exact says_leaf) (fun hc => ?_)
    rw [hc, Bool.false_or]
    refine says_ite (fun hc => by rw [hc]; exact says_leaf) (fun hc => ?_)
    rw [hc, Bool.false_or]
    refine says_ite (fun hc => by rw [hc]; exact says_leaf) (fun hc => says_need rfl ?_)
    rw [hc, Bool.false_or]
    refine says_ite (fun hc => by rw [hc]; exact says_leaf) (fun hc => says_need rfl ?_)
    rw [hc, Bool.not_false, Bool.true_and]
    refine says_ite (fun hc => by rw [hc]; exact says_leaf) (fun hc => says_need rfl ?_)
    rw [hc, Bool.not_false, Bool.true_and]
    exact says_leaf
  · refine ACall.says (clokF28 hp) (lpF_ok 4 _ _ _) (runG28 p _ _ h) ?_
    refine says_ite (fun hc => by rw [hc]; exact says_leaf) (fun hc => ?_)
    rw [hc, Bool.false_or]
    refine says_ite (fun hc => by rw [hc]; exact says_leaf) (fun hc => ?_)
    exact absurd hc (by rw [bne_eq_false_iff_eq]; omega)
end Go.Proofs.Ytngaihdpmoajeaa.Am

namespace Go.Proofs.Ytngaihdpmoajeaa.Am
open Go
set_option maxRecDepth 100000

theorem t_ite {α : Type} {b : Bool} {x y : Tree α} {r : Option α} (hx : b = true → x.sel = r) (hy : b = false → y.sel = r) : (Tree.ite b x y).sel = r := by
  cases b with
  | true => exact hx rfl
  | false => exact hy rfl
theorem t_need {α : Type} {p : Prop} {x : Tree α} {r : Option α} (hp : p) (hx : x.sel = r) : (Tree.need p x).sel = r := (selN hp).trans hx
/-- What a round says: it stops, or goes on. -/
def rndR (b : Bool) (e : Exit) (R S : St) : Option (Exit × St) := some (bif b then (e, R) else (.normal, S))
theorem LoopA.of {body : Code} {N : Nat} {S R : Nat → St} {X : St} {eR eX : Exit} {stop : Nat → Bool} (n0 : ∀ k, (S k).n = (S 0).n) (nR : ∀ k, (R k).n = (S 0).n) (nX : X.n = (S 0).n) (neR : eR ≠ .normal) (neX : eX ≠ .normal)
    (hr : ∀ k, k ≤ N → (∀ j, j < k → stop j = false) → ∃ E lp keep, ClOk Try.prog G0 E ∧ LoopsOk Try.prog G0 (fun r => r = none) [] lp body ∧ (k < N → (xBody Try.prog G0 E 200 lp keep body (S k)).sel = rndR (stop k) eR (R k) (S (k + 1))) ∧ (k = N → (xBody Try.prog G0 E 200 lp keep body (S k)).sel = some (eX, X))) : LoopA body N S R X eR eX stop where
  n0 := n0
  nR := nR
  nX := nX
  neR := neR
  neX := neX
  go k hk hj hs := by
    obtain ⟨E, lp, keep, h1, h2, h3, _⟩ := hr k (by omega) hj
    replace h3 := h3 hk
    unfold rndR at h3
    rw [hs] at h3
    exact rnd h1 h2 h3 rfl
  st k hk hj hs := by
    obtain ⟨E, lp, keep, h1, h2, h3, _⟩ := hr k (by omega) hj
    replace h3 := h3 hk
    unfold rndR at h3
    rw [hs] at h3
    exact rnd h1 h2 h3 rfl
  en hj := by
    obtain ⟨E, lp, keep, h1, h2, _, h3⟩ := hr N (Nat.le_refl N) hj
    exact rnd h1 h2 (h3 rfl) rfl
theorem two_loops {a b c : Code} {i j : Nat} (h : loopsOf c = [a, b]) (ha : idOf a = i) (hb : idOf b = j) (hij : i ≠ j) : (∀ x ∈ loopsOf c, idOf x = i → x = a) ∧ ∀ x ∈ loopsOf c, idOf x = j → x = b := by
  constructor <;> intro x hx hi <;> rw [h] at hx <;> simp only [List.mem_cons, List.not_mem_nil, or_false] at hx <;> rcases hx with rfl | rfl
  · rfl
  · omega
  · omega
  · rfl
theorem anyOut_K (L : List Int) (lo hi : Int) : anyK (fun k => !inB (L.getD k 0) lo hi) L.length = anyOut L lo hi := by
  unfold anyK anyOut
  rw [Bool.eq_iff_iff, List.any_eq_true, List.any_eq_true]
  constructor
  · rintro ⟨k, h1, h2⟩
    exact ⟨_, getD_mem (List.mem_range.1 h1), h2⟩
  · rintro ⟨x, h1, h2⟩
    obtain ⟨k, hk, rfl⟩ := List.mem_iff_getElem.1 h1
    exact ⟨k, List.mem_range.2 hk, by rw [List.getD_eq_getElem?_getD, List.getElem?_eq_getElem hk]; exact h2⟩
/-! ### validRule -/
noncomputable def body59 : Code := (loopsOf (bodyOf Try.prog 59)).headD .skip
noncomputable def inner59 : Code := (loopsOf body59).headD .skip
theorem loops59 : loopsOf (bodyOf Try.prog 59) = [body59, inner59] := by kernel_rfl
theorem loops59i : loopsOf body59 = [inner59] := by kernel_rfl
theorem loops59u : (∀ x ∈ loopsOf (bodyOf Try.prog 59), idOf x = 4 → x = body59) ∧ ∀ x ∈ loopsOf (bodyOf Try.prog 59), idOf x = 9 → x = inner59 := two_loops loops59 (by kernel_rfl) (by kernel_rfl) (by omega)
def st59 (p : Pb) (x : Rl) (r : Bool) (k : Int) (h : Heap) : St := .of 86 h [(2, .row (pbC p) 0, true), (3, .row (rlC x) 0, true), (4, .bool r, false), (29, flL x.v, true), (30, I x.v.length, true), (31, I k, true)]
def st59i (p : Pb) (x : Rl) (r : Bool) (k : Int) (l : List Int) (j : Int) (h : Heap) : St := .of 86 h [(2, .row (pbC p) 0, true), (3, .row (rlC x) 0, true), (4, .bool r, false), (29, flL x.v, true), (30, I x.v.length, true), (31, I k, true), (75, flL l, true), (76, I l.length, true), (77, I j, true)]
theorem run59i (p : Pb) (x : Rl) (k : Int) (l : List Int) (j : Int) (h : Heap) : xBody Try.prog G0 (ES []) 200 noLoops [2, 3, 4, 29, 30, 31, 75, 76, 77] inner59 (st59i p x false k l j h) = .ite (decide (j < (↑l.length : Int))) (.need (((0 : Int) ≤ j) ∧ (j < (↑l.length : Int))) (.ite (!inB (l.getD j.toNat (0 : Int)) (-100000000 : Int) (100000000 : Int)) (.leaf (Exit.ret, St.of 86 h [(2, (AV.row [(flL (p.V)), (flLL (p.C)), (flR (p.R))] ((0 : Nat))), true), (3, (AV.row [(I (x.d)), (flL (x.v)), (flLL (x.w)), (I (x.m))] ((0 : Nat))), true), (4, (AV.bool false), false), (29, (flL (x.v)), true), (30, (I ((↑x.v.length : Int))), true), (31, (I k), true), (75, (flL (l)), true), (76, (I ((↑l.length : Int))), true), (77, (I j), true)])) (.leaf (Exit.normal, St.of 86 h [(2, (AV.row [(flL (p.V)), (flLL (p.C)), (flR (p.R))] ((0 : Nat))), true), (3, (AV.row [(I (x.d)), (flL (x.v)), (flLL (x.w)), (I (x.m))] ((0 : Nat))), true), (4, (AV.bool false), false), (29, (flL (x.v)), true), (30, (I ((↑x.v.length : Int))), true), (31, (I k), true), (75, (flL (l)), true), (76, (I ((↑l.length : Int))), true), (77, (I (IntKind.i64.wrap (j + (1 : Int)))), true)])))) (.leaf ((Exit.exit ((2 : Nat))), St.of 86 h [(2, (AV.row [(flL (p.V)), (flLL (p.C)), (flR (p.R))] ((0 : Nat))), true), (3, (AV.row [(I (x.d)), (flL (x.v)), (flLL (x.w)), (I (x.m))] ((0 : Nat))), true), (4, (AV.bool false), false), (29, (flL (x.v)), true), (30, (I ((↑x.v.length : Int))), true), (31, (I k), true), (75, (flL (l)), true), (76, (I ((↑l.length : Int))), true), (77, (I j), true)])) := by kernel_rfl
theorem loop59i (p : Pb) (x : Rl) (k : Int) {l : List Int} (hl : sh l) (h : Heap) : LoopA inner59 l.length (fun j => st59i p x false k l j h) (fun j => st59i p x false k l j h) (st59i p x false k l l.length h) .ret (.exit 2) (fun j => !inB (l.getD j 0) (-100000000) 100000000) where
  n0 _ := rfl
  nR _ := rfl
  nX := rfl
  neR := nofun
  neX := nofun
  go j hj _ hs := rnd clokS0 (lpNo _) ((congrArg Tree.sel (run59i p x k l j h)).trans (by rw [selIt (dT (by omega)), selN ⟨by omega, by omega⟩, Int.toNat_natCast, selIf hs, wrapS hj hl]; rfl)) rfl
  st j hj _ hs := rnd clokS0 (lpNo _) ((congrArg Tree.sel (run59i p x k l j h)).trans (by rw [selIt (dT (by omega)), selN ⟨by omega, by omega⟩, Int.toNat_natCast, selIt hs]; rfl)) rfl
  en _ := rnd clokS0 (lpNo _) ((congrArg Tree.sel (run59i p x k l l.length h)).trans (by rw [selIf (dF (by omega))]; rfl)) rfl
theorem run59 (p : Pb) (x : Rl) (t : Bool) (k : Int) (j1 j2 : Int) (h : Heap) : xBody Try.prog G0 (ES []) 200 (lpA 9 [2, 3, 4, 29, 30, 31, 75, 76, 77] (st59i p x false k (x.w.getD k.toNat []) 0 h) t .ret (st59i p x false k (x.w.getD k.toNat []) j1 h) (.exit 2) (st59i p x false k (x.w.getD k.toNat []) j2 h)) [2, 3, 4, 29, 30, 31] body59 (st59 p x false k h) = .ite (decide (k < (↑x.v.length : Int))) (.need (((0 : Int) ≤ k) ∧ (k < (↑x.v.length : Int))) (.ite (!inB (x.v.getD k.toNat (0 : Int)) (0 : Int) (IntKind.i64.wrap ((↑p.V.length : Int) - (1 : Int)))) (.leaf (Exit.ret, St.of 86 h [(2, (AV.row [(flL (p.V)), (flLL (p.C)), (flR (p.R))] ((0 : Nat))), true), (3, (AV.row [(I (x.d)), (flL (x.v)), (flLL (x.w)), (I (x.m))] ((0 : Nat))), true), (4, (AV.bool false), false), (29, (flL (x.v)), true), (30, (I ((↑x.v.length : Int))), true), (31, (I k), true)])) (.ite (decide (k > (0 : Int))) (.need (((0 : Int) ≤ IntKind.i64.wrap (k - (1 : Int))) ∧ (IntKind.i64.wrap (k - (1 : Int)) < (↑x.v.length : Int))) (.ite (decide (x.v.getD k.toNat (0 : Int) ≤ x.v.getD (IntKind.i64.wrap (k - (1 : Int))).toNat (0 : Int))) (.leaf (Exit.ret, St.of 86 h [(2, (AV.row [(flL (p.V)), (flLL (p.C)), (flR (p.R))] ((0 : Nat))), true), (3, (AV.row [(I (x.d)), (flL (x.v)), (flLL (x.w)), (I (x.m))] ((0 : Nat))), true), (4, (AV.bool false), false), (29, (flL (x.v)), true), (30, (I ((↑x.v.length : Int))), true), (31, (I k), true)])) (.need (((0 : Int) ≤ k) ∧ (k < (↑x.w.length : Int))) (.need (((0 : Int) ≤ x.v.getD k.toNat (0 : Int)) ∧ (x.v.getD k.toNat (0 : Int) < (↑p.V.length : Int))) (.ite ((↑(x.w.getD k.toNat []).length : Int) != p.V.getD (x.v.getD k.toNat (0 : Int)).toNat (0 : Int)) (.leaf (Exit.ret, St.of 86 h [(2, (AV.row [(flL (p.V)), (flLL (p.C)), (flR (p.R))] ((0 : Nat))), true), (3, (AV.row [(I (x.d)), (flL (x.v)), (flLL (x.w)), (I (x.m))] ((0 : Nat))), true), (4, (AV.bool false), false), (29, (flL (x.v)), true), (30, (I ((↑x.v.length : Int))), true), (31, (I k), true)])) (.need (((0 : Int) ≤ k) ∧ (k < (↑x.w.length : Int))) (.need ((st59i p x false k (x.w.getD k.toNat []) 0 h).vals = (st59i p x false k (x.w.getD k.toNat []) 0 h).vals) (.ite (t) (.leaf (Exit.ret, St.of 86 h [(2, (AV.row [(flL (p.V)), (flLL (p.C)), (flR (p.R))] ((0 : Nat))), true), (3, (AV.row [(I (x.d)), (flL (x.v)), (flLL (x.w)), (I (x.m))] ((0 : Nat))), true), (4, (AV.bool false), false), (29, (flL (x.v)), true), (30, (I ((↑x.v.length : Int))), true), (31, (I k), true)])) (.leaf (Exit.normal, St.of 86 h [(2, (AV.row [(flL (p.V)), (flLL (p.C)), (flR (p.R))] ((0 : Nat))), true), (3, (AV.row [(I (x.d)), (flL (x.v)), (flLL (x.w)), (I (x.m))] ((0 : Nat))), true), (4, (AV.bool false), false), (29, (flL (x.v)), true), (30, (I ((↑x.v.length : Int))), true), (31, (I (IntKind.i64.wrap (k + (1 : Int)))), true)])))))))))) (.need (((0 : Int) ≤ k) ∧ (k < (↑x.w.length : Int))) (.need (((0 : Int) ≤ x.v.getD k.toNat (0 : Int)) ∧ (x.v.getD k.toNat (0 : Int) < (↑p.V.length : Int))) (.ite ((↑(x.w.getD k.toNat []).length : Int) != p.V.getD (x.v.getD k.toNat (0 : Int)).toNat (0 : Int)) (.leaf (Exit.ret, St.of 86 h [(2, (AV.row [(flL (p.V)), (flLL (p.C)), (flR (p.R))] ((0 : Nat))), true), (3, (AV.row [(I (x.d)), (flL (x.v)), (flLL (x.w)), (I (x.m))] ((0 : Nat))), true), (4, (AV.bool false), false), (29, (flL (x.v)), true), (30, (I ((↑x.v.length : Int))), true), (31, (I k), true)])) (.need (((0 : Int) ≤ k) ∧ (k < (↑x.w.length : Int))) (.need ((st59i p x false k (x.w.getD k.toNat []) 0 h).vals = (st59i p x false k (x.w.getD k.toNat []) 0 h).vals) (.ite (t) (.leaf (Exit.ret, St.of 86 h [(2, (AV.row [(flL (p.V)), (flLL (p.C)), (flR (p.R))] ((0 : Nat))), true), (3, (AV.row [(I (x.d)), (flL (x.v)), (flLL (x.w)), (I (x.m))] ((0 : Nat))), true), (4, (AV.bool false), false), (29, (flL (x.v)), true), (30, (I ((↑x.v.length : Int))), true), (31, (I k), true)])) (.leaf (Exit.normal, St.of 86 h [(2, (AV.row [(flL (p.V)), (flLL (p.C)), (flR (p.R))] ((0 : Nat))), true), (3, (AV.row [(I (x.d)), (flL (x.v)), (flLL (x.w)), (I (x.m))] ((0 : Nat))), true), (4, (AV.bool false), false), (29, (flL (x.v)), true), (30, (I ((↑x.v.length : Int))), true), (31, (I (IntKind.i64.wrap (k + (1 : Int)))), true)]))))))))))) (.leaf ((Exit.exit ((0 : Nat))), St.of 86 h [(2, (AV.row [(flL (p.V)), (flLL (p.C)), (flR (p.R))] ((0 : Nat))), true), (3, (AV.row [(I (x.d)), (flL (x.v)), (flLL (x.w)), (I (x.m))] ((0 : Nat))), true), (4, (AV.bool false), false), (29, (flL (x.v)), true), (30, (I ((↑x.v.length : Int))), true), (31, (I k), true)])) := by kernel_rfl
def bad59 (V : List Int) (x : Rl) (k : Nat) : Bool := !inB (x.v.getD k 0) 0 ((V.length : Int) - 1) || ((decide ((k : Int) > 0) && decide (x.v.getD k 0 ≤ x.v.getD (k - 1) 0)) || ((((x.w.getD k []).length : Int) != V.getD (x.v.getD k 0).toNat 0) || anyOut (x.w.getD k []) (-100000000) 100000000))
theorem loop59 {p : Pb} {x : Rl} (hp : sh p.V) (hx : x.sh) (hlen : x.w.length = x.v.length) (h : Heap) : LoopA body59 x.v.length (fun k => st59 p x false k h) (fun k => st59 p x false k h) (st59 p x false x.v.length h) .ret (.exit 0) (bad59 p.V x) := by
  refine .of (fun _ => rfl) (fun _ => rfl) rfl nofun nofun fun k hk hj => ⟨_, _, _, clokS0, (loop59i p x k (sh_getD hx.2.2 k) h).ok (one_loop loops59i), fun hlt => (congrArg Tree.sel (run59 p x _ k _ _ h)).trans ?_, fun he => (congrArg Tree.sel (run59 p x _ k _ _ h)).trans ?_⟩
  · have hw : IntKind.i64.wrap ((k : Int) + 1) = ((k + 1 : Nat) : Int) := wrapS hlt hx.1
    have hw2 : IntKind.i64.wrap ((p.V.length : Int) - 1) = (p.V.length : Int) - 1 := wrap_i64 (by omega) (by have : p.V.length < _ := hp; omega)
    have hw3 : 0 < k → IntKind.i64.wrap ((k : Int) - 1) = ((k - 1 : Nat) : Int) := fun h0 => (wrap_i64 (by omega) (by have : x.v.length < _ := hx.1; omega)).trans (by omega)
    rw [hw, hw2, anyK_stop, Int.toNat_natCast, anyOut_K]
    unfold bad59
    rw [selIt (dT (by omega)), selN ⟨by omega, by omega⟩]
    refine t_ite (fun h1 => by rw [h1]; rfl) fun h1 => ?_
    have hin := inB_iff.1 (by simpa using h1 : inB (x.v.getD k 0) 0 ((p.V.length : Int) - 1) = true)
    rw [h1, Bool.false_or]
    refine t_ite (fun h2 => ?_) fun h2 => ?_
    · have h2' := of_decide_eq_true h2
      rw [hw3 (by omega), Int.toNat_natCast]
      refine t_need ⟨by omega, by omega⟩ (t_ite (fun h3 => by rw [h2, h3]; rfl) fun h3 => t_need ⟨by omega, by omega⟩ (t_need ⟨by omega, by omega⟩ (t_ite (fun h4 => by rw [h2, h3, h4]; rfl) fun h4 => t_need ⟨by omega, by omega⟩ (t_need rfl (t_ite (fun h5 => by rw [h2, h3, h4, h5]; rfl) fun h5 => by rw [h2, h3, h4, h5]; rfl)))))
    · refine t_need ⟨by omega, by omega⟩ (t_need ⟨by omega, by omega⟩ (t_ite (fun h4 => by rw [h2, h4]; rfl) fun h4 => t_need ⟨by omega, by omega⟩ (t_need rfl (t_ite (fun h5 => by rw [h2, h4, h5]; rfl) fun h5 => by rw [h2, h4, h5]; rfl))))
  · rw [selIf (dF (by omega)), he]
    rfl
theorem runF59 (p : Pb) (x : Rl) (t : Bool) (k1 k2 : Int) (h : Heap) : xenter Try.prog (ES []) (xCode Try.prog G0 (ES []) 200 (lpA 4 [2, 3, 4, 29, 30, 31] (st59 p x false 0 h) t .ret (st59 p x false k1 h) (.exit 0) (st59 p x false k2 h))) 59 [pAV p, .agg (rlC x)] [true, true] h = .ite (!inB x.d (0 : Int) (1000000 : Int)) (.leaf ((AV.bool false), false, h)) (.ite ((↑x.w.length : Int) != (↑x.v.length : Int)) (.leaf ((AV.bool false), false, h)) (.ite (!inB x.m (-10000000000 : Int) (10000000000 : Int)) (.leaf ((AV.bool false), false, h)) (.need ((st59 p x false 0 h).vals = (st59 p x false 0 h).vals) (.ite (t) (.leaf ((AV.bool false), false, h)) (.leaf ((AV.bool true), false, h)))))) := by kernel_rfl
theorem runG59 (p : Pb) (x : Rl) (h : Heap) : xenter Try.prog (ES []) (xCode Try.prog G0 (ES []) 200 (lpF 4 [2, 3, 4, 29, 30, 31] (st59 p x false 0 h))) 59 [pAV p, .agg (rlC x)] [true, true] h = .ite (!inB x.d (0 : Int) (1000000 : Int)) (.leaf ((AV.bool false), false, h)) (.ite ((↑x.w.length : Int) != (↑x.v.length : Int)) (.leaf ((AV.bool false), false, h)) (.ite (!inB x.m (-10000000000 : Int) (10000000000 : Int)) (.leaf ((AV.bool false), false, h)) (.need ((st59 p x false 0 h).vals = (st59 p x false 0 h).vals) .fail))) := by kernel_rfl
def okRl (V : List Int) (x : Rl) : Bool := !(!inB x.d 0 1000000 || (((x.w.length : Int) != x.v.length) || !inB x.m (-10000000000) 10000000000)) && !anyK (bad59 V x) x.v.length
theorem c59 {p : Pb} {x : Rl} (hp : sh p.V) (hx : x.sh) (h : Heap) : ACall Try.prog G0 59 [pAV p, .agg (rlC x)] h (.bool (okRl p.V x)) h := by
  unfold okRl
  by_cases he : x.w.length = x.v.length
  · refine ACall.says clokS0 ((loop59 hp hx he h).ok loops59u.1) (runF59 p x _ _ _ h) ?_
    rw [anyK_stop]
    refine says_ite (fun hc => by rw [hc]; exact says_leaf) (fun hc => ?_)
    rw [hc, Bool.false_or]
    refine says_ite (fun hc => by rw [hc]; exact says_leaf) (fun hc => ?_)
    rw [hc, Bool.false_or]
    refine says_ite (fun hc => by rw [hc]; exact says_leaf) (fun hc => says_need rfl ?_)
    rw [hc, Bool.not_false, Bool.true_and]
    exact says_ite (fun hc => by rw [hc]; exact says_leaf) (fun hc => by rw [hc]; exact says_leaf)
  · refine ACall.says clokS0 (lpF_ok 4 _ _ _) (runG59 p x h) ?_
    refine says_ite (fun hc => by rw [hc]; exact says_leaf) (fun hc => ?_)
    rw [hc, Bool.false_or]
    refine says_ite (fun hc => by rw [hc]; exact says_leaf) (fun hc => ?_)
    exact absurd hc (by rw [bne_eq_false_iff_eq]; omega)
/-- Both say the same where nothing before is bad. -/
theorem anyK_same {p q : Nat → Bool} : ∀ {N : Nat}, (∀ k, k < N → (∀ j, j < k → p j = false) → p k = q k) → anyK p N = anyK q N
  | 0, _ => rfl
  | N + 1, h => by
    have ih := anyK_same (N := N) fun k hk => h k (by omega)
    unfold anyK at ih ⊢
    rw [List.range_succ, List.any_append, List.any_append, ih]
    cases hq : (List.range N).any q with
    | true => rfl
    | false =>
      rw [hq] at ih
      simp only [List.any_cons, List.any_nil, Bool.or_false, Bool.false_or]
      exact h N (by omega) fun j hj => anyK_false (q := p) (N := N) ih j hj
theorem bad_same {V : List Int} {x : Rl} (he : x.w.length = x.v.length) : anyK (bad58 V x) x.v.length = anyK (bad59 V x) x.v.length := by
  refine anyK_same fun k hk hj => ?_
  have h0 := last_ge hj
  have e : ∀ {a b : Int}, decide (a ≤ b) = true ↔ a ≤ b := decide_eq_true_iff
  unfold bad58 bad59
  generalize hv : x.v.getD k 0 = v
  cases k with
  | zero =>
    rw [show lastOf x.v 0 = -1 from rfl, dF (show ¬ (0 ≥ x.w.length) by omega), Bool.false_or, dF (show ¬ (((0 : Nat) : Int) > 0) by omega), Bool.false_and, Bool.false_or]
    unfold inB
    by_cases h1 : v ≤ -1
    · rw [dT h1, dF (show ¬ 0 ≤ v by omega)]; rfl
    · rw [dF h1, dT (show 0 ≤ v by omega), Bool.false_or, Bool.true_and]
      by_cases h2 : v ≥ V.length
      · rw [dT h2, dF (by omega)]; rfl
      · rw [dF h2, dT (show v ≤ (V.length : Int) - 1 by omega)]; rfl
  | succ k =>
    have hb := bad_false (hj k (by omega))
    have hl : lastOf x.v (k + 1) = x.v.getD k 0 := rfl
    rw [hl] at h0
    rw [hl, Nat.add_sub_cancel, dF (show ¬ (k + 1 ≥ x.w.length) by omega), Bool.false_or, dT (show (((k + 1 : Nat) : Int) > 0) by omega), Bool.true_and]
    have h0' : 0 ≤ x.v.getD k 0 := by
      have := last_ge (k := k) (fun j h => hj j (by omega))
      have := hb.1
      omega
    unfold inB
    by_cases h1 : v ≤ x.v.getD k 0
    · rw [dT h1, Bool.true_or, Bool.true_or, Bool.or_true]
    · rw [dF h1, Bool.false_or, Bool.false_or, dT (show 0 ≤ v by omega), Bool.true_and]
      by_cases h2 : v ≥ V.length
      · rw [dT h2, dF (by omega)]; rfl
      · rw [dF h2, dT (show v ≤ (V.length : Int) - 1 by omega)]; rfl
theorem okRl_bad (V : List Int) (x : Rl) : okRl V x = !badRl V x := by
  unfold okRl badRl
  cases he : ((x.w.length : Int) != x.v.length) with
  | true => simp
  | false =>
    rw [bad_same (by have := bne_eq_false_iff_eq.1 he; omega)]
    cases anyK (bad59 V x) x.v.length <;> cases inB x.d 0 1000000 <;> cases inB x.m (-10000000000) 10000000000 <;> rfl

/-! ### The reference's Valid -/
/-- Rounds that leave objects behind, from the empty heap. -/
def AllB : List (Nat × AV × Bool) → Prop
  | [] => True
  | p :: r => Below 0 p.2.1 ∧ AllB r
theorem clean_of {n : Nat} {h : Heap} : ∀ {l : List (Nat × AV × Bool)}, AllB l → (St.of n h l).clean := fun {l} hl => St.of_clean fun p hp => by
  induction l with
  | nil => cases hp
  | cons q r ih =>
    rcases List.mem_cons.1 hp with rfl | hp
    · exact hl.1
    · exact ih hl.2 hp
theorem LoopA.of0 {body : Code} {N : Nat} {S R : Nat → St} {X : St} {eR eX : Exit} {stop : Nat → Bool} (n0 : ∀ k, (S k).n = (S 0).n) (nR : ∀ k, (R k).n = (S 0).n) (nX : X.n = (S 0).n) (neR : eR ≠ .normal) (neX : eX ≠ .normal)
    (cS : ∀ k, (S k).clean ∧ (S k).h = []) (cR : ∀ k, (R k).clean ∧ (R k).h = []) (cX : X.clean ∧ X.h = [])
    (hr : ∀ k, k ≤ N → (∀ j, j < k → stop j = false) → ∃ E lp keep, ClOk Try.prog G0 E ∧ LoopsOk Try.prog G0 (fun r => r = none) [] lp body ∧ (k < N → (xBody0 Try.prog G0 E 200 lp keep body (S k)).sel = rndR (stop k) eR (R k) (S (k + 1))) ∧ (k = N → (xBody0 Try.prog G0 E 200 lp keep body (S k)).sel = some (eX, X))) : LoopA body N S R X eR eX stop where
  n0 := n0
  nR := nR
  nX := nX
  neR := neR
  neX := neX
  go k hk hj hs := by
    obtain ⟨E, lp, keep, h1, h2, h3, _⟩ := hr k (by omega) hj
    replace h3 := h3 hk
    unfold rndR at h3
    rw [hs] at h3
    rw [(cS k).2, (cS (k + 1)).2]
    exact (xBody0_ok names mixed h1 h2 (cS k).2 (cS (k + 1)).1 h3).1
  st k hk hj hs := by
    obtain ⟨E, lp, keep, h1, h2, h3, _⟩ := hr k (by omega) hj
    replace h3 := h3 hk
    unfold rndR at h3
    rw [hs] at h3
    rw [(cS k).2, (cR k).2]
    exact (xBody0_ok names mixed h1 h2 (cS k).2 (cR k).1 h3).1
  en hj := by
    obtain ⟨E, lp, keep, h1, h2, _, h3⟩ := hr N (Nat.le_refl N) hj
    rw [(cS N).2, cX.2]
    exact (xBody0_ok names mixed h1 h2 (cS N).2 cX.1 (h3 rfl)).1
theorem below_rl (x : Rl) : ∀ y ∈ rlC x, Below 0 y := fun y hy => by
  simp only [rlC, List.mem_cons, List.not_mem_nil, or_false] at hy
  rcases hy with rfl | rfl | rfl | rfl
  · exact .int _ _
  · exact below_flL _
  · exact below_flLL _
  · exact .int _ _
theorem below_flR (R : List Rl) : Below 0 (flR R) := below_fl fun _ y hy => below_rl _ y hy
theorem below_pb (p : Pb) : ∀ y ∈ pbC p, Below 0 y := fun y hy => by
  simp only [pbC, List.mem_cons, List.not_mem_nil, or_false] at hy
  rcases hy with rfl | rfl | rfl
  · exact below_flL _
  · exact below_flLL _
  · exact below_flR _
theorem below_row {n : Nat} {l : List AV} {o : Nat} (h : ∀ y ∈ l, Below n y) : Below n (.row l o) := .row _ _ (below_list h)
theorem below_agg {n : Nat} {l : List AV} (h : ∀ y ∈ l, Below n y) : Below n (.agg l) := .agg _ (below_list h)
theorem below_pAV (p : Pb) : Below 0 (pAV p) := below_agg (below_pb p)
noncomputable def body29 : Code := (loopsOf (bodyOf Try.prog 29)).headD .skip
noncomputable def inner29 : Code := (loopsOf body29).headD .skip
noncomputable def body29r : Code := ((loopsOf (bodyOf Try.prog 29)).drop 2).headD .skip
theorem loops29 : loopsOf (bodyOf Try.prog 29) = [body29, inner29, body29r] := by kernel_rfl
theorem loops29i : loopsOf body29 = [inner29] := by kernel_rfl
theorem loops29a : ∀ x ∈ loopsOf (bodyOf Try.prog 29), idOf x = 4 → x = body29 := by
  have h1 : idOf inner29 = 9 := by kernel_rfl
  have h2 : idOf body29r = 16 := by kernel_rfl
  intro x hx hi
  rw [loops29] at hx
  simp only [List.mem_cons, List.not_mem_nil, or_false] at hx
  rcases hx with rfl | rfl | rfl
  · rfl
  · omega
  · omega
theorem loops29b : ∀ x ∈ loopsOf (bodyOf Try.prog 29), idOf x = 16 → x = body29r := by
  have h1 : idOf inner29 = 9 := by kernel_rfl
  have h2 : idOf body29 = 4 := by kernel_rfl
  intro x hx hi
  rw [loops29] at hx
  simp only [List.mem_cons, List.not_mem_nil, or_false] at hx
  rcases hx with rfl | rfl | rfl
  · omega
  · omega
  · rfl
def st29 (p : Pb) (k : Int) (h : Heap) : St := .of 76 h [(1, .row (pbC p) 0, true), (2, .bool false, false), (29, flL p.V, true), (30, I p.V.length, true), (31, I k, true)]
def st29i (p : Pb) (k : Int) (l : List Int) (j : Int) (h : Heap) : St := .of 76 h [(1, .row (pbC p) 0, true), (2, .bool false, false), (29, flL p.V, true), (30, I p.V.length, true), (31, I k, true), (53, flL l, true), (54, I l.length, true), (55, I j, true)]
def st29r (p : Pb) (k : Int) (h : Heap) : St := .of 76 h [(1, .row (pbC p) 0, true), (2, .bool false, false), (65, flR p.R, true), (66, I p.R.length, true), (67, I k, true)]
theorem run29i (p : Pb) (k : Int) (l : List Int) (j : Int) (h : Heap) : xBody Try.prog G0 (ES []) 200 noLoops [1, 2, 29, 30, 31, 53, 54, 55] inner29 (st29i p k l j h) = .ite (decide (j < (↑l.length : Int))) (.need (((0 : Int) ≤ j) ∧ (j < (↑l.length : Int))) (.ite (!inB (l.getD j.toNat (0 : Int)) (0 : Int) (1000000 : Int)) (.leaf (Exit.ret, St.of 76 h [(1, (AV.row [(flL (p.V)), (flLL (p.C)), (flR (p.R))] ((0 : Nat))), true), (2, (AV.bool false), false), (29, (flL (p.V)), true), (30, (I ((↑p.V.length : Int))), true), (31, (I k), true), (53, (flL (l)), true), (54, (I ((↑l.length : Int))), true), (55, (I j), true)])) (.leaf (Exit.normal, St.of 76 h [(1, (AV.row [(flL (p.V)), (flLL (p.C)), (flR (p.R))] ((0 : Nat))), true), (2, (AV.bool false), false), (29, (flL (p.V)), true), (30, (I ((↑p.V.length : Int))), true), (31, (I k), true), (53, (flL (l)), true), (54, (I ((↑l.length : Int))), true), (55, (I (IntKind.i64.wrap (j + (1 : Int)))), true)])))) (.leaf ((Exit.exit ((2 : Nat))), St.of 76 h [(1, (AV.row [(flL (p.V)), (flLL (p.C)), (flR (p.R))] ((0 : Nat))), true), (2, (AV.bool false), false), (29, (flL (p.V)), true), (30, (I ((↑p.V.length : Int))), true), (31, (I k), true), (53, (flL (l)), true), (54, (I ((↑l.length : Int))), true), (55, (I j), true)])) := by kernel_rfl
theorem loop29i (p : Pb) (k : Int) {l : List Int} (hl : sh l) (h : Heap) : LoopA inner29 l.length (fun j => st29i p k l j h) (fun j => st29i p k l j h) (st29i p k l l.length h) .ret (.exit 2) (fun j => !inB (l.getD j 0) 0 1000000) where
  n0 _ := rfl
  nR _ := rfl
  nX := rfl
  neR := nofun
  neX := nofun
  go j hj _ hs := rnd clokS0 (lpNo _) ((congrArg Tree.sel (run29i p k l j h)).trans (by rw [selIt (dT (by omega)), selN ⟨by omega, by omega⟩, Int.toNat_natCast, selIf hs, wrapS hj hl]; rfl)) rfl
  st j hj _ hs := rnd clokS0 (lpNo _) ((congrArg Tree.sel (run29i p k l j h)).trans (by rw [selIt (dT (by omega)), selN ⟨by omega, by omega⟩, Int.toNat_natCast, selIt hs]; rfl)) rfl
  en _ := rnd clokS0 (lpNo _) ((congrArg Tree.sel (run29i p k l l.length h)).trans (by rw [selIf (dF (by omega))]; rfl)) rfl
theorem run29 (p : Pb) (t : Bool) (k : Int) (j1 j2 : Int) (h : Heap) : xBody Try.prog G0 (ES []) 200 (lpA 9 [1, 2, 29, 30, 31, 53, 54, 55] (st29i p k (p.C.getD k.toNat []) 0 h) t .ret (st29i p k (p.C.getD k.toNat []) j1 h) (.exit 2) (st29i p k (p.C.getD k.toNat []) j2 h)) [1, 2, 29, 30, 31] body29 (st29 p k h) = .ite (decide (k < (↑p.V.length : Int))) (.need (((0 : Int) ≤ k) ∧ (k < (↑p.V.length : Int))) (.ite (!inB (p.V.getD k.toNat (0 : Int)) (1 : Int) (16 : Int)) (.leaf (Exit.ret, St.of 76 h [(1, (AV.row [(flL (p.V)), (flLL (p.C)), (flR (p.R))] ((0 : Nat))), true), (2, (AV.bool false), false), (29, (flL (p.V)), true), (30, (I ((↑p.V.length : Int))), true), (31, (I k), true)])) (.need (((0 : Int) ≤ k) ∧ (k < (↑p.C.length : Int))) (.ite ((↑(p.C.getD k.toNat []).length : Int) != p.V.getD k.toNat (0 : Int)) (.leaf (Exit.ret, St.of 76 h [(1, (AV.row [(flL (p.V)), (flLL (p.C)), (flR (p.R))] ((0 : Nat))), true), (2, (AV.bool false), false), (29, (flL (p.V)), true), (30, (I ((↑p.V.length : Int))), true), (31, (I k), true)])) (.need (((0 : Int) ≤ k) ∧ (k < (↑p.C.length : Int))) (.need ((st29i p k (p.C.getD k.toNat []) 0 h).vals = (st29i p k (p.C.getD k.toNat []) 0 h).vals) (.ite (t) (.leaf (Exit.ret, St.of 76 h [(1, (AV.row [(flL (p.V)), (flLL (p.C)), (flR (p.R))] ((0 : Nat))), true), (2, (AV.bool false), false), (29, (flL (p.V)), true), (30, (I ((↑p.V.length : Int))), true), (31, (I k), true)])) (.leaf (Exit.normal, St.of 76 h [(1, (AV.row [(flL (p.V)), (flLL (p.C)), (flR (p.R))] ((0 : Nat))), true), (2, (AV.bool false), false), (29, (flL (p.V)), true), (30, (I ((↑p.V.length : Int))), true), (31, (I (IntKind.i64.wrap (k + (1 : Int)))), true)]))))))))) (.leaf ((Exit.exit ((0 : Nat))), St.of 76 h [(1, (AV.row [(flL (p.V)), (flLL (p.C)), (flR (p.R))] ((0 : Nat))), true), (2, (AV.bool false), false), (29, (flL (p.V)), true), (30, (I ((↑p.V.length : Int))), true), (31, (I k), true)])) := by kernel_rfl
def bad29 (p : Pb) (k : Nat) : Bool := !inB (p.V.getD k 0) 1 16 || ((((p.C.getD k []).length : Int) != p.V.getD k 0) || anyOut (p.C.getD k []) 0 1000000)
theorem loop29 {p : Pb} (hp : p.sh) (he : p.C.length = p.V.length) (h : Heap) : LoopA body29 p.V.length (fun k => st29 p k h) (fun k => st29 p k h) (st29 p p.V.length h) .ret (.exit 0) (bad29 p) := by
  refine .of (fun _ => rfl) (fun _ => rfl) rfl nofun nofun fun k hk hj => ⟨_, _, _, clokS0, (loop29i p k (sh_getD hp.2.2.1 k) h).ok (one_loop loops29i), fun hlt => (congrArg Tree.sel (run29 p _ k _ _ h)).trans ?_, fun he => (congrArg Tree.sel (run29 p _ k _ _ h)).trans ?_⟩
  · rw [wrapS hlt hp.1, anyK_stop, Int.toNat_natCast, anyOut_K]
    unfold bad29
    rw [selIt (dT (by omega)), selN ⟨by omega, by omega⟩]
    exact t_ite (fun h1 => by rw [h1]; rfl) fun h1 => t_need ⟨by omega, by omega⟩ (t_ite (fun h2 => by rw [h1, h2]; rfl) fun h2 => t_need ⟨by omega, by omega⟩ (t_need rfl (t_ite (fun h3 => by rw [h1, h2, h3]; rfl) fun h3 => by rw [h1, h2, h3]; rfl)))
  · rw [selIf (dF (by omega)), he]
    rfl
def E29 (p : Pb) (x : Rl) (b : Bool) : Env := ES [(59, [pAV p, .agg (rlC x)], .bool b)]
theorem run29r (p : Pb) (t : Bool) (k : Int) : xBody0 Try.prog G0 (E29 p (p.R.getD k.toNat r0) t) 200 noLoops [1, 2, 65, 66, 67] body29r (st29r p k []) = .ite (decide (k < (↑p.R.length : Int))) (.need (((0 : Int) ≤ k) ∧ (k < (↑p.R.length : Int))) (.need ([(AV.agg [(flL (p.V)), (flLL (p.C)), (flR (p.R))]), (AV.agg [(I ((p.R.getD k.toNat r0).d)), (flL ((p.R.getD k.toNat r0).v)), (flLL ((p.R.getD k.toNat r0).w)), (I ((p.R.getD k.toNat r0).m))])] = [(AV.agg [(flL (p.V)), (flLL (p.C)), (flR (p.R))]), (AV.agg [(I ((p.R.getD k.toNat r0).d)), (flL ((p.R.getD k.toNat r0).v)), (flLL ((p.R.getD k.toNat r0).w)), (I ((p.R.getD k.toNat r0).m))])]) (.ite (!t) (.leaf (Exit.ret, St.of 76 [] [(1, (AV.row [(flL (p.V)), (flLL (p.C)), (flR (p.R))] ((0 : Nat))), true), (2, (AV.bool false), false), (65, (flR (p.R)), true), (66, (I ((↑p.R.length : Int))), true), (67, (I k), true)])) (.leaf (Exit.normal, St.of 76 [] [(1, (AV.row [(flL (p.V)), (flLL (p.C)), (flR (p.R))] ((0 : Nat))), true), (2, (AV.bool false), false), (65, (flR (p.R)), true), (66, (I ((↑p.R.length : Int))), true), (67, (I (IntKind.i64.wrap (k + (1 : Int)))), true)]))))) (.leaf ((Exit.exit ((4 : Nat))), St.of 76 [] [(1, (AV.row [(flL (p.V)), (flLL (p.C)), (flR (p.R))] ((0 : Nat))), true), (2, (AV.bool false), false), (65, (flR (p.R)), true), (66, (I ((↑p.R.length : Int))), true), (67, (I k), true)])) := by kernel_rfl
theorem clean29r (p : Pb) (k : Int) : (st29r p k []).clean ∧ (st29r p k []).h = [] := ⟨clean_of ⟨below_row (below_pb p), .bool _, below_flR _, .int _ _, .int _ _, trivial⟩, rfl⟩
theorem loop29r {p : Pb} (hp : p.sh) : LoopA body29r p.R.length (fun k => st29r p k []) (fun k => st29r p k []) (st29r p p.R.length []) .ret (.exit 4) (fun k => !okRl p.V (p.R.getD k r0)) := by
  refine .of0 (fun _ => rfl) (fun _ => rfl) rfl nofun nofun (fun k => clean29r p k) (fun k => clean29r p k) (clean29r p _) fun k hk hj => ⟨E29 p (p.R.getD (k : Int).toNat r0) (okRl p.V (p.R.getD (k : Int).toNat r0)), _, _, clokS1 (c59 hp.1 (sh_getR hp.2.2.2.2 _)), lpNo _, fun hlt => (congrArg Tree.sel (run29r p _ k)).trans ?_, fun he => (congrArg Tree.sel (run29r p _ k)).trans ?_⟩
  · rw [wrapS hlt hp.2.2.2.1, Int.toNat_natCast]
    rw [selIt (dT (by omega)), selN ⟨by omega, by omega⟩]
    exact t_need rfl (t_ite (fun h2 => by rw [h2]; rfl) fun h2 => by rw [h2]; rfl)
  · rw [selIf (dF (by omega)), he]
    rfl
theorem runF29 (p : Pb) (t u : Bool) (k1 k2 k3 k4 : Int) : xenter Try.prog (ES []) (xCode Try.prog G0 (ES []) 200 (lpAnd (lpA 4 [1, 2, 29, 30, 31] (st29 p 0 []) t .ret (st29 p k1 []) (.exit 0) (st29 p k2 [])) (lpA 16 [1, 2, 65, 66, 67] (st29r p 0 []) u .ret (st29r p k3 []) (.exit 4) (st29r p k4 [])))) 29 [pAV p] [true] [] = .ite (decide ((↑p.V.length : Int) > (24 : Int))) (.leaf ((AV.bool false), false, [])) (.ite ((↑p.C.length : Int) != (↑p.V.length : Int)) (.leaf ((AV.bool false), false, [])) (.ite (decide ((↑p.R.length : Int) > (2048 : Int))) (.leaf ((AV.bool false), false, [])) (.need ((st29 p 0 []).vals = (st29 p 0 []).vals) (.ite (t) (.leaf ((AV.bool false), false, [])) (.need ((st29r p 0 []).vals = (st29r p 0 []).vals) (.ite (u) (.leaf ((AV.bool false), false, [])) (.leaf ((AV.bool true), false, [])))))))) := by kernel_rfl
theorem runG29 (p : Pb) : xenter Try.prog (ES []) (xCode Try.prog G0 (ES []) 200 (lpF 4 [1, 2, 29, 30, 31] (st29 p 0 []))) 29 [pAV p] [true] [] = .ite (decide ((↑p.V.length : Int) > (24 : Int))) (.leaf ((AV.bool false), false, [])) (.ite ((↑p.C.length : Int) != (↑p.V.length : Int)) (.leaf ((AV.bool false), false, [])) (.ite (decide ((↑p.R.length : Int) > (2048 : Int))) (.leaf ((AV.bool false), false, [])) (.need ((st29 p 0 []).vals = (st29 p 0 []).vals) .fail))) := by kernel_rfl
def ref29 (p : Pb) : Bool := !(decide ((p.V.length : Int) > 24) || (((p.C.length : Int) != p.V.length) || decide ((p.R.length : Int) > 2048))) && (!anyK (bad29 p) p.V.length && !anyK (fun k => !okRl p.V (p.R.getD k r0)) p.R.length)
theorem c29r {p : Pb} (hp : p.sh) (h : Heap) : ACall Try.prog G0 29 [pAV p] h (.bool (ref29 p)) h := by
  refine ACall.lift0 (h' := []) ?_ (.bool _) gbelow0 (fun x hx => by rw [List.mem_singleton.1 hx]; exact below_pAV p) h
  unfold ref29
  by_cases he : p.C.length = p.V.length
  · refine ACall.says clokS0 (lpAnd_ok ((loop29 hp he []).ok loops29a) ((loop29r hp).ok loops29b)) (runF29 p _ _ _ _ _ _) ?_
    rw [anyK_stop, anyK_stop]
    refine says_ite (fun hc => by rw [hc]; exact says_leaf) (fun hc => ?_)
    rw [hc, Bool.false_or]
    refine says_ite (fun hc => by rw [hc]; exact says_leaf) (fun hc => ?_)
    rw [hc, Bool.false_or]
    refine says_ite (fun hc => by rw [hc]; exact says_leaf) (fun hc => says_need rfl ?_)
    rw [hc, Bool.not_false, Bool.true_and]
    refine says_ite (fun hc => by rw [hc]; exact says_leaf) (fun hc => says_need rfl ?_)
    rw [hc, Bool.not_false, Bool.true_and]
    exact says_ite (fun hc => by rw [hc]; exact says_leaf) (fun hc => by rw [hc]; exact says_leaf)
  · refine ACall.says clokS0 (lpF_ok 4 _ _ _) (runG29 p) ?_
    refine says_ite (fun hc => by rw [hc]; exact says_leaf) (fun hc => ?_)
    rw [hc, Bool.false_or]
    refine says_ite (fun hc => by rw [hc]; exact says_leaf) (fun hc => ?_)
    exact absurd hc (by rw [bne_eq_false_iff_eq]; omega)
theorem anyK_getR (q : Rl → Bool) (L : List Rl) : anyK (fun k => q (L.getD k r0)) L.length = L.any q := by
  unfold anyK
  rw [Bool.eq_iff_iff, List.any_eq_true, List.any_eq_true]
  constructor
  · rintro ⟨k, h1, h2⟩
    exact ⟨_, getD_mem (List.mem_range.1 h1), h2⟩
  · rintro ⟨x, h1, h2⟩
    obtain ⟨k, hk, rfl⟩ := List.mem_iff_getElem.1 h1
    exact ⟨k, List.mem_range.2 hk, by rw [List.getD_eq_getElem?_getD, List.getElem?_eq_getElem hk]; exact h2⟩
theorem anyK_or (a b : Nat → Bool) (N : Nat) : anyK (fun k => a k || b k) N = (anyK a N || anyK b N) := by
  unfold anyK
  induction List.range N with
  | nil => rfl
  | cons x r ih =>
    rw [List.any_cons, List.any_cons, List.any_cons, ih]
    cases a x <;> cases b x <;> cases r.any a <;> cases r.any b <;> rfl
theorem ref29_valid (p : Pb) : ref29 p = validP p := by
  unfold ref29 validP
  cases he : ((p.C.length : Int) != p.V.length) with
  | true => simp
  | false =>
    have e1 : anyK (fun k => !okRl p.V (p.R.getD k r0)) p.R.length = p.R.any (badRl p.V) := by
      have : (fun k => !okRl p.V (p.R.getD k r0)) = fun k => badRl p.V (p.R.getD k r0) := by funext k; rw [okRl_bad, Bool.not_not]
      rw [this, anyK_getR]
    have e2 : anyK (bad29 p) p.V.length = (anyOut p.V 1 16 || anyK (bad28 p) p.C.length) := by
      have h1 : p.C.length = p.V.length := by have := bne_eq_false_iff_eq.1 he; omega
      have : bad29 p = fun k => !inB (p.V.getD k 0) 1 16 || bad28 p k := rfl
      rw [this, anyK_or, anyOut_K, h1]
    rw [e1, e2]
    cases decide ((p.V.length : Int) > 24) <;> cases decide ((p.R.length : Int) > 2048) <;> cases anyOut p.V 1 16 <;> cases anyK (bad28 p) p.C.length <;> cases p.R.any (badRl p.V) <;> rfl
/-- WHAT THE REFERENCE'S Valid RETURNS. -/
theorem c29 {p : Pb} (hp : p.sh) (h : Heap) : ACall Try.prog G0 29 [pAV p] h (.bool (validP p)) h := ref29_valid p ▸ c29r hp h
end Go.Proofs.Ytngaihdpmoajeaa.Am

namespace Go.Proofs.Ytngaihdpmoajeaa.Am
open Go
set_option maxRecDepth 100000

/-! ### A valid problem -/
structure OkRule (V : List Int) (x : Rl) : Prop where
  d : 0 ≤ x.d ∧ x.d ≤ 1000000
  m : -10000000000 ≤ x.m ∧ x.m ≤ 10000000000
  len : x.w.length = x.v.length
  v : ∀ k, k < x.v.length → 0 ≤ x.v.getD k 0 ∧ x.v.getD k 0 < V.length
  up : ∀ k, k + 1 < x.v.length → x.v.getD k 0 < x.v.getD (k + 1) 0
  wl : ∀ k, k < x.v.length → ((x.w.getD k []).length : Int) = V.getD (x.v.getD k 0).toNat 0
  w : ∀ k, k < x.v.length → ∀ y ∈ x.w.getD k [], -100000000 ≤ y ∧ y ≤ 100000000
structure Ok (p : Pb) : Prop where
  n : p.V.length ≤ 24
  c : p.C.length = p.V.length
  r : p.R.length ≤ 2048
  v : ∀ k, k < p.V.length → 1 ≤ p.V.getD k 0 ∧ p.V.getD k 0 ≤ 16
  cl : ∀ k, k < p.V.length → ((p.C.getD k []).length : Int) = p.V.getD k 0
  cv : ∀ k, k < p.V.length → ∀ y ∈ p.C.getD k [], 0 ≤ y ∧ y ≤ 1000000
  rl : ∀ x ∈ p.R, OkRule p.V x
theorem anyK_iff {q : Nat → Bool} {N : Nat} : anyK q N = false ↔ ∀ k, k < N → q k = false := by
  refine ⟨anyK_false, fun h => ?_⟩
  unfold anyK
  rw [List.any_eq_false]
  intro k hk
  rw [h k (List.mem_range.1 hk)]
  simp
theorem anyOut_iff {L : List Int} {lo hi : Int} : anyOut L lo hi = false ↔ ∀ y ∈ L, lo ≤ y ∧ y ≤ hi := by
  unfold anyOut
  rw [List.any_eq_false]
  refine forall_congr' fun y => forall_congr' fun _ => ?_
  rw [Bool.not_eq_true, Bool.not_eq_false', inB_iff]
theorem okRule_iff {V : List Int} {x : Rl} : okRl V x = true ↔ OkRule V x := by
  unfold okRl
  rw [Bool.and_eq_true, Bool.not_eq_true', Bool.not_eq_true', Bool.or_eq_false_iff, Bool.or_eq_false_iff, Bool.not_eq_false', Bool.not_eq_false', inB_iff, inB_iff, bne_eq_false_iff_eq, anyK_iff]
  have key : ∀ k, bad59 V x k = false ↔ ((0 ≤ x.v.getD k 0 ∧ x.v.getD k 0 ≤ (V.length : Int) - 1) ∧ (0 < k → x.v.getD (k - 1) 0 < x.v.getD k 0) ∧ ((x.w.getD k []).length : Int) = V.getD (x.v.getD k 0).toNat 0 ∧ ∀ y ∈ x.w.getD k [], -100000000 ≤ y ∧ y ≤ 100000000) := by
    intro k
    unfold bad59
    rw [Bool.or_eq_false_iff, Bool.or_eq_false_iff, Bool.or_eq_false_iff, Bool.not_eq_false', inB_iff, bne_eq_false_iff_eq, anyOut_iff, Bool.and_eq_false_iff, decide_eq_false_iff_not, decide_eq_false_iff_not]
    refine and_congr_right fun _ => and_congr_left fun _ => ⟨fun h h0 => ?_, fun h => ?_⟩
    · rcases h with h | h <;> omega
    · by_cases h0 : 0 < k
      · exact .inr (by have := h h0; omega)
      · exact .inl (by omega)
  constructor
  · rintro ⟨⟨h1, h2, h3⟩, h4⟩
    have h4' := fun k hk => (key k).1 (h4 k hk)
    exact ⟨h1, h3, by omega, fun k hk => ⟨(h4' k hk).1.1, by have := (h4' k hk).1.2; omega⟩, fun k hk => by
      have := (h4' (k + 1) hk).2.1 (by omega)
      rwa [Nat.add_sub_cancel] at this, fun k hk => (h4' k hk).2.2.1, fun k hk => (h4' k hk).2.2.2⟩
  · intro h
    refine ⟨⟨h.d, by have := h.len; omega, h.m⟩, fun k hk => (key k).2 ⟨⟨(h.v k hk).1, by have := (h.v k hk).2; omega⟩, fun h0 => ?_, h.wl k hk, h.w k hk⟩⟩
    have := h.up (k - 1) (by omega)
    rwa [Nat.sub_add_cancel h0] at this
theorem valid_iff {p : Pb} : validP p = true ↔ Ok p := by
  unfold validP
  rw [Bool.and_eq_true, Bool.and_eq_true, Bool.not_eq_true', Bool.not_eq_true', Bool.not_eq_true', Bool.or_eq_false_iff, Bool.or_eq_false_iff, Bool.or_eq_false_iff, decide_eq_false_iff_not, decide_eq_false_iff_not, bne_eq_false_iff_eq, anyOut_iff, anyK_iff, List.any_eq_false]
  have key : ∀ k, bad28 p k = false ↔ (((p.C.getD k []).length : Int) = p.V.getD k 0 ∧ ∀ y ∈ p.C.getD k [], 0 ≤ y ∧ y ≤ 1000000) := by
    intro k
    unfold bad28
    rw [Bool.or_eq_false_iff, bne_eq_false_iff_eq, anyOut_iff]
  have rule : ∀ x, (¬ badRl p.V x = true) ↔ OkRule p.V x := by
    intro x
    rw [← okRule_iff, okRl_bad]
    simp
  constructor
  · rintro ⟨⟨h1, h2, h3, h4⟩, h5, h6⟩
    have hc : p.C.length = p.V.length := by omega
    exact ⟨by omega, hc, by omega, fun k hk => h4 _ (getD_mem hk), fun k hk => ((key k).1 (h5 k (by omega))).1, fun k hk => ((key k).1 (h5 k (by omega))).2, fun x hx => (rule x).1 (h6 x hx)⟩
  · intro h
    have hc := h.c
    have hn := h.n
    have hr := h.r
    refine ⟨⟨by omega, by omega, by omega, fun y hy => ?_⟩, fun k hk => (key k).2 ⟨h.cl k (by omega), h.cv k (by omega)⟩, fun x hx => (rule x).2 (h.rl x hx)⟩
    obtain ⟨k, hk, rfl⟩ := List.mem_iff_getElem.1 hy
    have := h.v k hk
    rwa [List.getD_eq_getElem?_getD, List.getElem?_eq_getElem hk] at this

/-! ### Beginnings -/
/-- A list is the beginning of an assignment. -/
structure Beg (p : Pb) (a : List Int) : Prop where
  len : a.length ≤ p.V.length
  at' : ∀ k, k < a.length → 0 ≤ a.getD k 0 ∧ a.getD k 0 < p.V.getD k 0
def begB (p : Pb) (a : List Int) : Bool := !decide ((a.length : Int) > p.V.length) && !anyK (fun k => !inB (a.getD k 0) 0 (p.V.getD k 0 - 1)) a.length
theorem beg_iff {p : Pb} {a : List Int} : begB p a = true ↔ Beg p a := by
  unfold begB
  rw [Bool.and_eq_true, Bool.not_eq_true', Bool.not_eq_true', decide_eq_false_iff_not, anyK_iff]
  constructor
  · rintro ⟨h1, h2⟩
    refine ⟨by omega, fun k hk => ?_⟩
    have := h2 k hk
    rw [Bool.not_eq_false', inB_iff] at this
    omega
  · intro h
    refine ⟨by have := h.len; omega, fun k hk => ?_⟩
    rw [Bool.not_eq_false', inB_iff]
    have := h.at' k hk
    omega
noncomputable def body41 : Code := (loopsOf (bodyOf Try.prog 41)).headD .skip
theorem loops41 : loopsOf (bodyOf Try.prog 41) = [body41] := by kernel_rfl
def st41 (p : Pb) (a : List Int) (k : Int) (h : Heap) : St := .of 30 h [(1, flL a, true), (2, .row (pbC p) 0, true), (4, .bool false, false), (13, flL a, true), (14, I a.length, true), (15, I k, true)]
theorem run41 (p : Pb) (a : List Int) (k : Int) (h : Heap) : xBody Try.prog G0 (ES []) 200 noLoops [1, 2, 4, 13, 14, 15] body41 (st41 p a k h) = .ite (decide (k < (↑a.length : Int))) (.need (((0 : Int) ≤ k) ∧ (k < (↑a.length : Int))) (.need (((0 : Int) ≤ k) ∧ (k < (↑p.V.length : Int))) (.ite (!inB (a.getD k.toNat (0 : Int)) (0 : Int) (IntKind.i64.wrap (p.V.getD k.toNat (0 : Int) - (1 : Int)))) (.leaf (Exit.ret, St.of 30 h [(1, (flL (a)), true), (2, (AV.row [(flL (p.V)), (flLL (p.C)), (flR (p.R))] ((0 : Nat))), true), (4, (AV.bool false), false), (13, (flL (a)), true), (14, (I ((↑a.length : Int))), true), (15, (I k), true)])) (.leaf (Exit.normal, St.of 30 h [(1, (flL (a)), true), (2, (AV.row [(flL (p.V)), (flLL (p.C)), (flR (p.R))] ((0 : Nat))), true), (4, (AV.bool false), false), (13, (flL (a)), true), (14, (I ((↑a.length : Int))), true), (15, (I (IntKind.i64.wrap (k + (1 : Int)))), true)]))))) (.leaf ((Exit.exit ((0 : Nat))), St.of 30 h [(1, (flL (a)), true), (2, (AV.row [(flL (p.V)), (flLL (p.C)), (flR (p.R))] ((0 : Nat))), true), (4, (AV.bool false), false), (13, (flL (a)), true), (14, (I ((↑a.length : Int))), true), (15, (I k), true)])) := by kernel_rfl
theorem ok_sub {p : Pb} (hp : Ok p) {k : Nat} (hk : k < p.V.length) : IntKind.i64.wrap (p.V.getD k 0 - 1) = p.V.getD k 0 - 1 := by
  have := hp.v k hk
  exact wrap_i64 (by omega) (by omega)
theorem loop41 {p : Pb} (hp : Ok p) {a : List Int} (ha : sh a) (hl : a.length ≤ p.V.length) (h : Heap) : LoopA body41 a.length (fun k => st41 p a k h) (fun k => st41 p a k h) (st41 p a a.length h) .ret (.exit 0) (fun k => !inB (a.getD k 0) 0 (p.V.getD k 0 - 1)) := by
  refine .of (fun _ => rfl) (fun _ => rfl) rfl nofun nofun fun k hk hj => ⟨_, _, _, clokS0, lpNo _, fun hlt => (congrArg Tree.sel (run41 p a k h)).trans ?_, fun he => (congrArg Tree.sel (run41 p a k h)).trans ?_⟩
  · rw [wrapS hlt ha, Int.toNat_natCast, ok_sub hp (by omega)]
    rw [selIt (dT (by omega)), selN ⟨by omega, by omega⟩]
    exact t_need ⟨by omega, by omega⟩ (t_ite (fun h1 => by rw [h1]; rfl) fun h1 => by rw [h1]; rfl)
  · rw [selIf (dF (by omega)), he]
    rfl
theorem runF41 (p : Pb) (a : List Int) (t : Bool) (k1 k2 : Int) (h : Heap) : xenter Try.prog (ES []) (xCode Try.prog G0 (ES []) 200 (lpA 4 [1, 2, 4, 13, 14, 15] (st41 p a 0 h) t .ret (st41 p a k1 h) (.exit 0) (st41 p a k2 h))) 41 [pAV p, flL a] [true, true] h = .ite (decide ((↑a.length : Int) > (↑p.V.length : Int))) (.leaf ((AV.bool false), false, h)) (.need ((st41 p a 0 h).vals = (st41 p a 0 h).vals) (.ite (t) (.leaf ((AV.bool false), false, h)) (.leaf ((AV.bool true), false, h)))) := by kernel_rfl
theorem runG41 (p : Pb) (a : List Int) (h : Heap) : xenter Try.prog (ES []) (xCode Try.prog G0 (ES []) 200 (lpF 4 [1, 2, 4, 13, 14, 15] (st41 p a 0 h))) 41 [pAV p, flL a] [true, true] h = .ite (decide ((↑a.length : Int) > (↑p.V.length : Int))) (.leaf ((AV.bool false), false, h)) (.need ((st41 p a 0 h).vals = (st41 p a 0 h).vals) .fail) := by kernel_rfl
theorem c41 {p : Pb} (hp : Ok p) {a : List Int} (ha : sh a) (h : Heap) : ACall Try.prog G0 41 [pAV p, flL a] h (.bool (begB p a)) h := by
  unfold begB
  by_cases hl : a.length ≤ p.V.length
  · refine ACall.says clokS0 ((loop41 hp ha hl h).ok (one_loop loops41)) (runF41 p a _ _ _ h) ?_
    rw [anyK_stop]
    refine says_ite (fun hc => absurd (of_decide_eq_true hc) (by omega)) fun hc => says_need rfl ?_
    rw [hc, Bool.not_false, Bool.true_and]
    exact says_ite (fun hc => by rw [hc]; exact says_leaf) (fun hc => by rw [hc]; exact says_leaf)
  · refine ACall.says clokS0 (lpF_ok 4 _ _ _) (runG41 p a h) ?_
    refine says_ite (fun hc => by rw [hc]; exact says_leaf) fun hc => absurd (of_decide_eq_false hc) (by omega)
noncomputable def body43 : Code := (loopsOf (bodyOf Try.prog 43)).headD .skip
theorem loops43 : loopsOf (bodyOf Try.prog 43) = [body43] := by kernel_rfl
theorem run43 (p : Pb) (a : List Int) (k : Int) (h : Heap) : xBody Try.prog G0 (ES []) 200 noLoops [1, 2, 4, 13, 14, 15] body43 (st41 p a k h) = .ite (decide (k < (↑a.length : Int))) (.need (((0 : Int) ≤ k) ∧ (k < (↑a.length : Int))) (.need (((0 : Int) ≤ k) ∧ (k < (↑p.V.length : Int))) (.ite (!inB (a.getD k.toNat (0 : Int)) (0 : Int) (IntKind.i64.wrap (p.V.getD k.toNat (0 : Int) - (1 : Int)))) (.leaf (Exit.ret, St.of 30 h [(1, (flL (a)), true), (2, (AV.row [(flL (p.V)), (flLL (p.C)), (flR (p.R))] ((0 : Nat))), true), (4, (AV.bool false), false), (13, (flL (a)), true), (14, (I ((↑a.length : Int))), true), (15, (I k), true)])) (.leaf (Exit.normal, St.of 30 h [(1, (flL (a)), true), (2, (AV.row [(flL (p.V)), (flLL (p.C)), (flR (p.R))] ((0 : Nat))), true), (4, (AV.bool false), false), (13, (flL (a)), true), (14, (I ((↑a.length : Int))), true), (15, (I (IntKind.i64.wrap (k + (1 : Int)))), true)]))))) (.leaf ((Exit.exit ((0 : Nat))), St.of 30 h [(1, (flL (a)), true), (2, (AV.row [(flL (p.V)), (flLL (p.C)), (flR (p.R))] ((0 : Nat))), true), (4, (AV.bool false), false), (13, (flL (a)), true), (14, (I ((↑a.length : Int))), true), (15, (I k), true)])) := by kernel_rfl
theorem loop43 {p : Pb} (hp : Ok p) {a : List Int} (ha : sh a) (hl : a.length ≤ p.V.length) (h : Heap) : LoopA body43 a.length (fun k => st41 p a k h) (fun k => st41 p a k h) (st41 p a a.length h) .ret (.exit 0) (fun k => !inB (a.getD k 0) 0 (p.V.getD k 0 - 1)) := by
  refine .of (fun _ => rfl) (fun _ => rfl) rfl nofun nofun fun k hk hj => ⟨_, _, _, clokS0, lpNo _, fun hlt => (congrArg Tree.sel (run43 p a k h)).trans ?_, fun he => (congrArg Tree.sel (run43 p a k h)).trans ?_⟩
  · rw [wrapS hlt ha, Int.toNat_natCast, ok_sub hp (by omega)]
    rw [selIt (dT (by omega)), selN ⟨by omega, by omega⟩]
    exact t_need ⟨by omega, by omega⟩ (t_ite (fun h1 => by rw [h1]; rfl) fun h1 => by rw [h1]; rfl)
  · rw [selIf (dF (by omega)), he]
    rfl
theorem runF43 (p : Pb) (a : List Int) (t : Bool) (k1 k2 : Int) (h : Heap) : xenter Try.prog (ES []) (xCode Try.prog G0 (ES []) 200 (lpA 4 [1, 2, 4, 13, 14, 15] (st41 p a 0 h) t .ret (st41 p a k1 h) (.exit 0) (st41 p a k2 h))) 43 [pAV p, flL a] [true, true] h = .ite (decide ((↑a.length : Int) > (↑p.V.length : Int))) (.leaf ((AV.bool false), false, h)) (.need ((st41 p a 0 h).vals = (st41 p a 0 h).vals) (.ite (t) (.leaf ((AV.bool false), false, h)) (.leaf ((AV.bool true), false, h)))) := by kernel_rfl
theorem runG43 (p : Pb) (a : List Int) (h : Heap) : xenter Try.prog (ES []) (xCode Try.prog G0 (ES []) 200 (lpF 4 [1, 2, 4, 13, 14, 15] (st41 p a 0 h))) 43 [pAV p, flL a] [true, true] h = .ite (decide ((↑a.length : Int) > (↑p.V.length : Int))) (.leaf ((AV.bool false), false, h)) (.need ((st41 p a 0 h).vals = (st41 p a 0 h).vals) .fail) := by kernel_rfl
theorem c43 {p : Pb} (hp : Ok p) {a : List Int} (ha : sh a) (h : Heap) : ACall Try.prog G0 43 [pAV p, flL a] h (.bool (begB p a)) h := by
  unfold begB
  by_cases hl : a.length ≤ p.V.length
  · refine ACall.says clokS0 ((loop43 hp ha hl h).ok (one_loop loops43)) (runF43 p a _ _ _ h) ?_
    rw [anyK_stop]
    refine says_ite (fun hc => absurd (of_decide_eq_true hc) (by omega)) fun hc => says_need rfl ?_
    rw [hc, Bool.not_false, Bool.true_and]
    exact says_ite (fun hc => by rw [hc]; exact says_leaf) (fun hc => by rw [hc]; exact says_leaf)
  · refine ACall.says clokS0 (lpF_ok 4 _ _ _) (runG43 p a h) ?_
    refine says_ite (fun hc => by rw [hc]; exact says_leaf) fun hc => absurd (of_decide_eq_false hc) (by omega)
/-! ### whole -/
def E52 (p : Pb) (a : List Int) (b c : Bool) : Env := ES [(28, [pAV p], .bool b), (41, [pAV p, flL a], .bool c)]
theorem run52 (p : Pb) (a : List Int) (b c : Bool) (h : Heap) : xCall Try.prog G0 (E52 p a b c) 200 52 [pAV p, flL a] [true, true] h = .need ([(AV.agg [(flL (p.V)), (flLL (p.C)), (flR (p.R))])] = [(AV.agg [(flL (p.V)), (flLL (p.C)), (flR (p.R))])]) (.ite (!b) (.leaf ((I ((1 : Int))), false, h)) (.ite ((↑a.length : Int) != (↑p.V.length : Int)) (.leaf ((I ((2 : Int))), false, h)) (.need ([(AV.agg [(flL (p.V)), (flLL (p.C)), (flR (p.R))]), (flL (a))] = [(AV.agg [(flL (p.V)), (flLL (p.C)), (flR (p.R))]), (flL (a))]) (.ite (!c) (.leaf ((I ((2 : Int))), false, h)) (.leaf ((I ((0 : Int))), false, h)))))) := by kernel_rfl
theorem run52n (p : Pb) (a : List Int) (h : Heap) : xCall Try.prog G0 (ES [(28, [pAV p], .bool false)]) 200 52 [pAV p, flL a] [true, true] h = .need ([(AV.agg [(flL (p.V)), (flLL (p.C)), (flR (p.R))])] = [(AV.agg [(flL (p.V)), (flLL (p.C)), (flR (p.R))])]) (.ite (!false) (.leaf ((I ((1 : Int))), false, h)) (.ite ((↑a.length : Int) != (↑p.V.length : Int)) (.leaf ((I ((2 : Int))), false, h)) .fail)) := by kernel_rfl
def whole (p : Pb) (a : List Int) : Int := bif validP p then (bif ((a.length : Int) != p.V.length) || !begB p a then 2 else 0) else 1
theorem c52 {p : Pb} (hs : p.sh) {a : List Int} (ha : sh a) (h : Heap) : ACall Try.prog G0 52 [pAV p, flL a] h (I (whole p a)) h := by
  unfold whole
  cases hv : validP p with
  | false =>
    refine ACall.saysC (clokS1 (hv ▸ c28 hs)) (run52n p a h) ?_
    exact says_need rfl says_leaf
  | true =>
    have hp := valid_iff.1 hv
    refine ACall.saysC (clokS2 (hv ▸ c28 hs) (c41 hp ha)) (run52 p a _ _ h) ?_
    refine says_need rfl (says_ite (fun h => (by cases h)) fun _ => says_ite (fun h1 => by rw [h1]; exact says_leaf) fun h1 => says_need rfl ?_)
    rw [h1, Bool.false_or]
    exact says_ite (fun h2 => by rw [h2]; exact says_leaf) fun h2 => by rw [h2]; exact says_leaf
end Go.Proofs.Ytngaihdpmoajeaa.Am

