/-
  This file proves nothing of a law. It holds lemmas, of 3 texts in their order. No condition of its own.
-/
import Derived.Test.YtngaihdpmoajeaaMg6
namespace Go.Proofs.Ytngaihdpmoajeaa.Am
open Go
set_option maxRecDepth 100000

/-- Calls that are known on a condition. -/
def EG (q : Prop) (l : List (FuncId × List AV × AV)) : Env := { clh := failH, cl := fun f xs => match clS f xs with
  | some t => some t
  | none => (clL l f xs).map fun t => .need q t }
theorem clokG {q : Prop} {l : List (FuncId × List AV × AV)} (hl : q → ∀ p ∈ l, ∀ σ, ACall Try.prog G0 p.1 p.2.1 σ p.2.2 σ) : ClOk Try.prog G0 (EG q l) := .all .none failH_ok (fun l xs σ t v σ' h => (by cases h)) fun f xs t v h hs σ => by
  replace h : (match clS f xs with
    | some t => some t
    | none => (clL l f xs).map fun t => .need q t) = some t := h
  split at h
  · rename_i t' ht; cases h; exact clS_ok ht hs σ
  · obtain ⟨t', h1, rfl⟩ := Option.map_eq_some_iff.1 h
    obtain ⟨hq, h2⟩ := Tree.of_need hs
    exact clL_ok (hl hq) f xs t' v h1 h2 σ
theorem clokG1 {q : Prop} {f : FuncId} {xs : List AV} {v : AV} (h : q → ∀ σ, ACall Try.prog G0 f xs σ v σ) : ClOk Try.prog G0 (EG q [(f, xs, v)]) := clokG fun hq p hp σ => by
  obtain rfl := List.mem_singleton.1 hp
  exact h hq σ
/-! ### Min, Max -/
def runM (f : Int → Int → Int) (L : List Int) : Nat → Int
  | 0 => L.getD 0 0
  | k + 1 => f (runM f L k) (L.getD (k + 1) 0)
def mn (a b : Int) : Int := if b < a then b else a
def mx (a b : Int) : Int := if b > a then b else a
def minL (L : List Int) : Int := runM mn L (L.length - 1)
def maxL (L : List Int) : Int := runM mx L (L.length - 1)
noncomputable def body36 : Code := (loopsOf (bodyOf Try.prog 36)).headD .skip
theorem loops36 : loopsOf (bodyOf Try.prog 36) = [body36] := by kernel_rfl
def st36 (L : List Int) (m k : Int) (h : Heap) : St := .of 25 h [(0, flL L, true), (3, I m, true), (4, I k, true)]
theorem run36 (L : List Int) (m k : Int) (h : Heap) : xBody Try.prog G0 {} 200 noLoops [0, 3, 4] body36 (st36 L m k h) = .ite (decide (k < (↑L.length : Int))) (.need (((0 : Int) ≤ k) ∧ (k < (↑L.length : Int))) (.leaf (Exit.normal, St.of 25 h [(0, (flL (L)), true), (3, (I (if L.getD k.toNat (0 : Int) < m then L.getD k.toNat (0 : Int) else m)), true), (4, (I (IntKind.i64.wrap (k + (1 : Int)))), true)]))) (.leaf ((Exit.exit ((0 : Nat))), St.of 25 h [(0, (flL (L)), true), (3, (I m), true), (4, (I k), true)])) := by kernel_rfl
theorem runF36 (L : List Int) (m k : Int) (h : Heap) : xenter Try.prog {} (xCode Try.prog G0 {} 200 (lpB 5 [0, 3, 4] (st36 L (L.getD 0 0) 1 h) (.exit 0) (st36 L m k h))) 36 [flL L] [true] h = .ite (decide ((↑L.length : Int) < (1 : Int))) .fail (.need (((0 : Int) ≤ (0 : Int)) ∧ ((0 : Int) < (↑L.length : Int))) (.need ((st36 L (L.getD 0 0) 1 h).vals = (st36 L (L.getD 0 0) 1 h).vals) (.leaf ((I m), true, h)))) := by kernel_rfl
noncomputable def body68 : Code := (loopsOf (bodyOf Try.prog 68)).headD .skip
theorem loops68 : loopsOf (bodyOf Try.prog 68) = [body68] := by kernel_rfl
theorem run68 (L : List Int) (m k : Int) (h : Heap) : xBody Try.prog G0 {} 200 noLoops [0, 3, 4] body68 (st36 L m k h) = .ite (decide (k < (↑L.length : Int))) (.need (((0 : Int) ≤ k) ∧ (k < (↑L.length : Int))) (.leaf (Exit.normal, St.of 25 h [(0, (flL (L)), true), (3, (I (if L.getD k.toNat (0 : Int) > m then L.getD k.toNat (0 : Int) else m)), true), (4, (I (IntKind.i64.wrap (k + (1 : Int)))), true)]))) (.leaf ((Exit.exit ((0 : Nat))), St.of 25 h [(0, (flL (L)), true), (3, (I m), true), (4, (I k), true)])) := by kernel_rfl
theorem runF68 (L : List Int) (m k : Int) (h : Heap) : xenter Try.prog {} (xCode Try.prog G0 {} 200 (lpB 5 [0, 3, 4] (st36 L (L.getD 0 0) 1 h) (.exit 0) (st36 L m k h))) 68 [flL L] [true] h = .ite (decide ((↑L.length : Int) < (1 : Int))) .fail (.need (((0 : Int) ≤ (0 : Int)) ∧ ((0 : Int) < (↑L.length : Int))) (.need ((st36 L (L.getD 0 0) 1 h).vals = (st36 L (L.getD 0 0) 1 h).vals) (.leaf ((I m), true, h)))) := by kernel_rfl
/-- A loop that goes to its end. -/
theorem LoopA.lin {body : Code} {N : Nat} {S : Nat → St} {X : St} {eX : Exit} (n0 : ∀ k, (S k).n = (S 0).n) (nX : X.n = (S 0).n) (neX : eX ≠ .normal)
    (hr : ∀ k, k ≤ N → ∃ E lp keep, ClOk Try.prog G0 E ∧ LoopsOk Try.prog G0 (fun r => r = none) [] lp body ∧ (k < N → (xBody Try.prog G0 E 200 lp keep body (S k)).sel = some (.normal, S (k + 1))) ∧ (k = N → (xBody Try.prog G0 E 200 lp keep body (S k)).sel = some (eX, X))) : LoopA body N S S X .ret eX fun _ => false :=
  .of n0 n0 nX nofun neX fun k hk _ => hr k hk
theorem loop36 {L : List Int} (hl : sh L) (h0 : 0 < L.length) (h : Heap) : LoopA body36 (L.length - 1) (fun k => st36 L (runM mn L k) ((k + 1 : Nat) : Int) h) (fun k => st36 L (runM mn L k) ((k + 1 : Nat) : Int) h) (st36 L (minL L) L.length h) .ret (.exit 0) fun _ => false := by
  refine .lin (fun _ => rfl) rfl nofun fun k hk => ⟨_, _, _, clok0, lpNo _, fun hlt => (congrArg Tree.sel (run36 L _ _ h)).trans ?_, fun he => (congrArg Tree.sel (run36 L _ _ h)).trans ?_⟩
  · rw [wrapS (n := L.length) (k := k + 1) (by omega) hl, Int.toNat_natCast, selIt (dT (by omega)), selN ⟨by omega, by omega⟩]
    rfl
  · rw [selIf (dF (by omega)), he, Nat.sub_add_cancel h0]
    rfl
theorem c36 {L : List Int} (hl : sh L) (h0 : 0 < L.length) (h : Heap) : ACall Try.prog G0 36 [flL L] h (I (minL L)) h := by
  refine ACall.says clok0 ((loop36 hl h0 h).okB (fun _ _ => rfl) (one_loop loops36)) (runF36 L _ _ h) ?_
  exact says_ite (fun hc => absurd (of_decide_eq_true hc) (by omega)) fun _ => says_need ⟨by omega, by omega⟩ (says_need rfl says_leaf)
theorem loop68 {L : List Int} (hl : sh L) (h0 : 0 < L.length) (h : Heap) : LoopA body68 (L.length - 1) (fun k => st36 L (runM mx L k) ((k + 1 : Nat) : Int) h) (fun k => st36 L (runM mx L k) ((k + 1 : Nat) : Int) h) (st36 L (maxL L) L.length h) .ret (.exit 0) fun _ => false := by
  refine .lin (fun _ => rfl) rfl nofun fun k hk => ⟨_, _, _, clok0, lpNo _, fun hlt => (congrArg Tree.sel (run68 L _ _ h)).trans ?_, fun he => (congrArg Tree.sel (run68 L _ _ h)).trans ?_⟩
  · rw [wrapS (n := L.length) (k := k + 1) (by omega) hl, Int.toNat_natCast, selIt (dT (by omega)), selN ⟨by omega, by omega⟩]
    rfl
  · rw [selIf (dF (by omega)), he, Nat.sub_add_cancel h0]
    rfl
theorem c68 {L : List Int} (hl : sh L) (h0 : 0 < L.length) (h : Heap) : ACall Try.prog G0 68 [flL L] h (I (maxL L)) h := by
  refine ACall.says clok0 ((loop68 hl h0 h).okB (fun _ _ => rfl) (one_loop loops68)) (runF68 L _ _ h) ?_
  exact says_ite (fun hc => absurd (of_decide_eq_true hc) (by omega)) fun _ => says_need ⟨by omega, by omega⟩ (says_need rfl says_leaf)
theorem runM_mn (L : List Int) : ∀ (k : Nat), (∀ j, j ≤ k → runM mn L k ≤ L.getD j 0) ∧ ∃ j, j ≤ k ∧ runM mn L k = L.getD j 0
  | 0 => ⟨fun j hj => by obtain rfl : j = 0 := by omega
                         exact Int.le_refl _, 0, Nat.le_refl _, rfl⟩
  | k + 1 => by
    obtain ⟨h1, i, h2, h3⟩ := runM_mn L k
    have e : runM mn L (k + 1) = if L.getD (k + 1) 0 < runM mn L k then L.getD (k + 1) 0 else runM mn L k := rfl
    rw [e]
    constructor
    · intro j hj
      by_cases he : j = k + 1
      · subst he; split <;> omega
      · have := h1 j (by omega)
        split <;> omega
    · split
      · exact ⟨k + 1, Nat.le_refl _, rfl⟩
      · exact ⟨i, by omega, h3⟩
theorem runM_mx (L : List Int) : ∀ (k : Nat), (∀ j, j ≤ k → L.getD j 0 ≤ runM mx L k) ∧ ∃ j, j ≤ k ∧ runM mx L k = L.getD j 0
  | 0 => ⟨fun j hj => by obtain rfl : j = 0 := by omega
                         exact Int.le_refl _, 0, Nat.le_refl _, rfl⟩
  | k + 1 => by
    obtain ⟨h1, i, h2, h3⟩ := runM_mx L k
    have e : runM mx L (k + 1) = if L.getD (k + 1) 0 > runM mx L k then L.getD (k + 1) 0 else runM mx L k := rfl
    rw [e]
    constructor
    · intro j hj
      by_cases he : j = k + 1
      · subst he; split <;> omega
      · have := h1 j (by omega)
        split <;> omega
    · split
      · exact ⟨k + 1, Nat.le_refl _, rfl⟩
      · exact ⟨i, by omega, h3⟩
theorem minL_le {L : List Int} {k : Nat} (hk : k < L.length) : minL L ≤ L.getD k 0 := (runM_mn L _).1 k (by omega)
theorem minL_mem {L : List Int} (h : 0 < L.length) : minL L ∈ L := by
  obtain ⟨j, h1, h2⟩ := (runM_mn L (L.length - 1)).2
  unfold minL
  rw [h2]
  exact getD_mem (by omega)
theorem maxL_ge {L : List Int} {k : Nat} (hk : k < L.length) : L.getD k 0 ≤ maxL L := (runM_mx L _).1 k (by omega)
theorem maxL_mem {L : List Int} (h : 0 < L.length) : maxL L ∈ L := by
  obtain ⟨j, h1, h2⟩ := (runM_mx L (L.length - 1)).2
  unfold maxL
  rw [h2]
  exact getD_mem (by omega)

/-! ### Sums -/
def sumK (f : Nat → Int) : Nat → Int
  | 0 => 0
  | k + 1 => sumK f k + f k
theorem sumK_bound {f : Nat → Int} {lo hi : Int} : ∀ {k : Nat}, (∀ i, i < k → lo ≤ f i ∧ f i ≤ hi) → lo * k ≤ sumK f k ∧ sumK f k ≤ hi * k
  | 0, _ => by simp [sumK]
  | k + 1, h => by
    have h1 := sumK_bound (k := k) fun i hi => h i (by omega)
    have h2 := h k (by omega)
    have e : sumK f (k + 1) = sumK f k + f k := rfl
    rw [e]
    have e1 : lo * ((k + 1 : Nat) : Int) = lo * k + lo := by rw [Int.natCast_succ, Int.mul_add, Int.mul_one]
    have e2 : hi * ((k + 1 : Nat) : Int) = hi * k + hi := by rw [Int.natCast_succ, Int.mul_add, Int.mul_one]
    omega
theorem sumK_congr {f g : Nat → Int} : ∀ {k : Nat}, (∀ i, i < k → f i = g i) → sumK f k = sumK g k
  | 0, _ => rfl
  | k + 1, h => by
    show sumK f k + f k = sumK g k + g k
    rw [sumK_congr fun i hi => h i (by omega), h k (by omega)]
theorem sumK_le {f g : Nat → Int} : ∀ {k : Nat}, (∀ i, i < k → f i ≤ g i) → sumK f k ≤ sumK g k
  | 0, _ => Int.le_refl _
  | k + 1, h => by
    show sumK f k + f k ≤ sumK g k + g k
    have := sumK_le (k := k) fun i hi => h i (by omega)
    have := h k (by omega)
    omega
/-- What a value of a variable costs. -/
def costT (p : Pb) (a : List Int) (i : Nat) : Int := (p.C.getD i []).getD (a.getD i 0).toNat 0
def costA (p : Pb) (a : List Int) : Int := sumK (costT p a) a.length
theorem getD_bound {L : List Int} {lo hi : Int} (h : ∀ y ∈ L, lo ≤ y ∧ y ≤ hi) {k : Nat} (hk : k < L.length) : lo ≤ L.getD k 0 ∧ L.getD k 0 ≤ hi := h _ (getD_mem hk)
theorem beg_nat {p : Pb} (hp : Ok p) {a : List Int} (ha : Beg p a) {i : Nat} (hi : i < a.length) : 0 ≤ a.getD i 0 ∧ (a.getD i 0).toNat < (p.C.getD i []).length ∧ (((p.C.getD i []).length : Int) = p.V.getD i 0) := by
  have h1 := ha.at' i hi
  have h2 := hp.cl i (by have := ha.len; omega)
  omega
theorem costT_bound {p : Pb} (hp : Ok p) {a : List Int} (ha : Beg p a) {i : Nat} (hi : i < a.length) : 0 ≤ costT p a i ∧ costT p a i ≤ 1000000 :=
  getD_bound (hp.cv i (by have := ha.len; omega)) (beg_nat hp ha hi).2.1
theorem costK_bound {p : Pb} (hp : Ok p) {a : List Int} (ha : Beg p a) {k : Nat} (hk : k ≤ a.length) : 0 ≤ sumK (costT p a) k ∧ sumK (costT p a) k ≤ 24000000 := by
  have h1 := sumK_bound (f := costT p a) (k := k) fun i hi => costT_bound hp ha (show i < a.length by omega)
  have h2 := ha.len
  have h3 := hp.n
  omega
theorem beg_sh {p : Pb} (hp : Ok p) {a : List Int} (ha : Beg p a) : sh a := by
  have := ha.len
  have := hp.n
  show a.length < _
  omega
noncomputable def body54 : Code := (loopsOf (bodyOf Try.prog 54)).headD .skip
theorem loops54 : loopsOf (bodyOf Try.prog 54) = [body54] := by kernel_rfl
def st54 (p : Pb) (a : List Int) (s k : Int) (b : Bool) (h : Heap) : St := .of 27 h [(1, flL a, true), (2, .row (pbC p) 0, true), (5, I s, b), (8, flL a, true), (9, I a.length, true), (10, I k, true)]
theorem run54 (p : Pb) (a : List Int) (s k : Int) (h : Heap) : xBody Try.prog G0 {} 200 noLoops [1, 2, 5, 8, 9, 10] body54 (st54 p a s k true h) = .ite (decide (k < (↑a.length : Int))) (.need (((0 : Int) ≤ k) ∧ (k < (↑a.length : Int))) (.need (((0 : Int) ≤ k) ∧ (k < (↑p.C.length : Int))) (.need (((0 : Int) ≤ a.getD k.toNat (0 : Int)) ∧ (a.getD k.toNat (0 : Int) < (↑(p.C.getD k.toNat []).length : Int))) (.leaf (Exit.normal, St.of 27 h [(1, (flL (a)), true), (2, (AV.row [(flL (p.V)), (flLL (p.C)), (flR (p.R))] ((0 : Nat))), true), (5, (I (IntKind.i64.wrap (s + (p.C.getD k.toNat []).getD (a.getD k.toNat (0 : Int)).toNat (0 : Int)))), true), (8, (flL (a)), true), (9, (I ((↑a.length : Int))), true), (10, (I (IntKind.i64.wrap (k + (1 : Int)))), true)]))))) (.leaf ((Exit.exit ((0 : Nat))), St.of 27 h [(1, (flL (a)), true), (2, (AV.row [(flL (p.V)), (flLL (p.C)), (flR (p.R))] ((0 : Nat))), true), (5, (I s), true), (8, (flL (a)), true), (9, (I ((↑a.length : Int))), true), (10, (I k), true)])) := by kernel_rfl
theorem loop54 {p : Pb} (hp : Ok p) {a : List Int} (ha : Beg p a) (h : Heap) : LoopA body54 a.length (fun k => st54 p a (sumK (costT p a) k) k true h) (fun k => st54 p a (sumK (costT p a) k) k true h) (st54 p a (costA p a) a.length true h) .ret (.exit 0) fun _ => false := by
  refine .lin (fun _ => rfl) rfl nofun fun k hk => ⟨_, _, _, clok0, lpNo _, fun hlt => (congrArg Tree.sel (run54 p a _ k h)).trans ?_, fun he => (congrArg Tree.sel (run54 p a _ k h)).trans ?_⟩
  · have h1 := costK_bound hp ha (k := k + 1) (by omega)
    have h2 := beg_nat hp ha hlt
    have h3 := hp.c
    have h4 := ha.len
    have e : sumK (costT p a) (k + 1) = sumK (costT p a) k + (p.C.getD k []).getD (a.getD k 0).toNat 0 := rfl
    rw [selIt (dT (by omega)), selN ⟨by omega, by omega⟩, selN ⟨by omega, by omega⟩, Int.toNat_natCast, selN ⟨by omega, by omega⟩, ← e, wrap_i64 (by omega) (by omega), wrapS hlt (beg_sh hp ha)]
    rfl
  · rw [selIf (dF (by omega)), he]
    rfl
theorem runF54 (p : Pb) (a : List Int) (s k : Int) (h : Heap) : xenter Try.prog {} (xCode Try.prog G0 {} 200 (lpB 3 [1, 2, 5, 8, 9, 10] (st54 p a 0 0 true h) (.exit 0) (st54 p a s k true h))) 54 [pAV p, flL a] [true, true] h = .need ((st54 p a 0 0 true h).vals = (st54 p a 0 0 true h).vals) (.leaf ((I s), true, h)) := by kernel_rfl
theorem c54 {p : Pb} (hp : Ok p) {a : List Int} (ha : Beg p a) (h : Heap) : ACall Try.prog G0 54 [pAV p, flL a] h (I (costA p a)) h := by
  refine ACall.says clok0 ((loop54 hp ha h).okB (fun _ _ => rfl) (one_loop loops54)) (runF54 p a _ _ h) ?_
  exact says_need rfl says_leaf

/-! ### Weights -/
def leastT (x : Rl) (a : List Int) (i : Nat) : Int := bif decide (x.v.getD i 0 < a.length) then (x.w.getD i []).getD (a.getD (x.v.getD i 0).toNat 0).toNat 0 else minL (x.w.getD i [])
/-- The least that a rule's sum can be. -/
def leastA (x : Rl) (a : List Int) : Int := sumK (leastT x a) x.v.length
theorem rule_ge {V : List Int} {x : Rl} (hx : OkRule V x) : ∀ {k : Nat}, k < x.v.length → (k : Int) ≤ x.v.getD k 0
  | 0, h => (hx.v 0 h).1
  | k + 1, h => by
    have := rule_ge hx (k := k) (by omega)
    have := hx.up k h
    omega
theorem rule_len {V : List Int} {x : Rl} (hx : OkRule V x) : x.v.length ≤ V.length := by
  by_cases h : x.v.length = 0
  · omega
  · have h1 := rule_ge hx (k := x.v.length - 1) (by omega)
    have h2 := (hx.v (x.v.length - 1) (by omega)).2
    omega
theorem rule_pos {p : Pb} (hp : Ok p) {x : Rl} (hx : OkRule p.V x) {k : Nat} (hk : k < x.v.length) : 0 < (x.w.getD k []).length := by
  have h1 := hx.v k hk
  have h2 := hx.wl k hk
  have h3 := hp.v (x.v.getD k 0).toNat (by omega)
  omega
theorem rule_beg {p : Pb} {x : Rl} (hx : OkRule p.V x) {a : List Int} (ha : Beg p a) {k : Nat} (hk : k < x.v.length) (hlt : x.v.getD k 0 < a.length) :
    0 ≤ x.v.getD k 0 ∧ 0 ≤ a.getD (x.v.getD k 0).toNat 0 ∧ (a.getD (x.v.getD k 0).toNat 0).toNat < (x.w.getD k []).length := by
  have h1 := hx.v k hk
  have h2 := hx.wl k hk
  have h3 := ha.at' (x.v.getD k 0).toNat (by omega)
  omega
theorem leastT_bound {p : Pb} (hp : Ok p) {x : Rl} (hx : OkRule p.V x) {a : List Int} (ha : Beg p a) {k : Nat} (hk : k < x.v.length) : -100000000 ≤ leastT x a k ∧ leastT x a k ≤ 100000000 := by
  unfold leastT
  by_cases hlt : x.v.getD k 0 < a.length
  · rw [dT hlt, cond_true]
    exact getD_bound (hx.w k hk) (rule_beg hx ha hk hlt).2.2
  · rw [dF hlt, cond_false]
    exact hx.w k hk _ (minL_mem (rule_pos hp hx hk))
theorem leastK_bound {p : Pb} (hp : Ok p) {x : Rl} (hx : OkRule p.V x) {a : List Int} (ha : Beg p a) {k : Nat} (hk : k ≤ x.v.length) : -2400000000 ≤ sumK (leastT x a) k ∧ sumK (leastT x a) k ≤ 2400000000 := by
  have h1 := sumK_bound (f := leastT x a) (k := k) fun i hi => leastT_bound hp hx ha (show i < x.v.length by omega)
  have h2 := rule_len hx
  have h3 := hp.n
  omega
noncomputable def body53 : Code := (loopsOf (bodyOf Try.prog 53)).headD .skip
theorem loops53 : loopsOf (bodyOf Try.prog 53) = [body53] := by kernel_rfl
def st53 (x : Rl) (a : List Int) (s k : Int) (b : Bool) (h : Heap) : St := .of 43 h [(1, flL a, true), (2, .row (rlC x) 0, true), (5, I s, b), (9, flL x.v, true), (10, I x.v.length, true), (11, I k, true)]
theorem run53 (q : Prop) (x : Rl) (a : List Int) (s k : Int) (h : Heap) : xBody Try.prog G0 (EG q [(36, [flL (x.w.getD k.toNat [])], I (minL (x.w.getD k.toNat [])))]) 200 noLoops [1, 2, 5, 9, 10, 11] body53 (st53 x a s k true h) = .ite (decide (k < (↑x.v.length : Int))) (.need (((0 : Int) ≤ k) ∧ (k < (↑x.v.length : Int))) (.ite (decide (x.v.getD k.toNat (0 : Int) < (↑a.length : Int))) (.need (((0 : Int) ≤ k) ∧ (k < (↑x.w.length : Int))) (.need (((0 : Int) ≤ x.v.getD k.toNat (0 : Int)) ∧ (x.v.getD k.toNat (0 : Int) < (↑a.length : Int))) (.need (((0 : Int) ≤ a.getD (x.v.getD k.toNat (0 : Int)).toNat (0 : Int)) ∧ (a.getD (x.v.getD k.toNat (0 : Int)).toNat (0 : Int) < (↑(x.w.getD k.toNat []).length : Int))) (.leaf (Exit.normal, St.of 43 h [(1, (flL (a)), true), (2, (AV.row [(I (x.d)), (flL (x.v)), (flLL (x.w)), (I (x.m))] ((0 : Nat))), true), (5, (I (IntKind.i64.wrap (s + (x.w.getD k.toNat []).getD (a.getD (x.v.getD k.toNat (0 : Int)).toNat (0 : Int)).toNat (0 : Int)))), true), (9, (flL (x.v)), true), (10, (I ((↑x.v.length : Int))), true), (11, (I (IntKind.i64.wrap (k + (1 : Int)))), true)]))))) (.need (((0 : Int) ≤ k) ∧ (k < (↑x.w.length : Int))) (.need (q) (.need ([(flL (x.w.getD k.toNat []))] = [(flL (x.w.getD k.toNat []))]) (.leaf (Exit.normal, St.of 43 h [(1, (flL (a)), true), (2, (AV.row [(I (x.d)), (flL (x.v)), (flLL (x.w)), (I (x.m))] ((0 : Nat))), true), (5, (I (IntKind.i64.wrap (s + minL (x.w.getD k.toNat [])))), true), (9, (flL (x.v)), true), (10, (I ((↑x.v.length : Int))), true), (11, (I (IntKind.i64.wrap (k + (1 : Int)))), true)]))))))) (.leaf ((Exit.exit ((0 : Nat))), St.of 43 h [(1, (flL (a)), true), (2, (AV.row [(I (x.d)), (flL (x.v)), (flLL (x.w)), (I (x.m))] ((0 : Nat))), true), (5, (I s), true), (9, (flL (x.v)), true), (10, (I ((↑x.v.length : Int))), true), (11, (I k), true)])) := by kernel_rfl
theorem runF53 (x : Rl) (a : List Int) (s k : Int) (h : Heap) : xenter Try.prog {} (xCode Try.prog G0 {} 200 (lpB 3 [1, 2, 5, 9, 10, 11] (st53 x a 0 0 true h) (.exit 0) (st53 x a s k true h))) 53 [.agg (rlC x), flL a] [true, true] h = .need ((st53 x a 0 0 true h).vals = (st53 x a 0 0 true h).vals) (.leaf ((I s), true, h)) := by kernel_rfl
theorem rule_sh {x : Rl} (hx : x.sh) (k : Nat) : sh (x.w.getD k []) := sh_getD hx.2.2 k
theorem loop53 {p : Pb} (hp : Ok p) {x : Rl} (hx : OkRule p.V x) (hs : x.sh) {a : List Int} (ha : Beg p a) (h : Heap) : LoopA body53 x.v.length (fun k => st53 x a (sumK (leastT x a) k) k true h) (fun k => st53 x a (sumK (leastT x a) k) k true h) (st53 x a (leastA x a) x.v.length true h) .ret (.exit 0) fun _ => false := by
  refine .lin (fun _ => rfl) rfl nofun fun k hk => ⟨EG (k < x.v.length) [(36, [flL (x.w.getD (k : Int).toNat [])], I (minL (x.w.getD (k : Int).toNat [])))], _, _, clokG1 fun hlt => by rw [Int.toNat_natCast]; exact c36 (rule_sh hs k) (rule_pos hp hx hlt), lpNo _, fun hlt => (congrArg Tree.sel (run53 _ x a _ k h)).trans ?_, fun he => (congrArg Tree.sel (run53 _ x a _ k h)).trans ?_⟩
  · have h1 := leastK_bound hp hx ha (k := k + 1) (by omega)
    have h3 := hx.len
    have hv := hx.v k hlt
    have e : sumK (leastT x a) (k + 1) = sumK (leastT x a) k + leastT x a k := rfl
    rw [wrapS hlt hs.1, Int.toNat_natCast, selIt (dT (by omega)), selN ⟨by omega, by omega⟩]
    refine t_ite (fun hc => ?_) fun hc => ?_
    · have h2 := rule_beg hx ha hlt (of_decide_eq_true hc)
      have e2 : leastT x a k = (x.w.getD k []).getD (a.getD (x.v.getD k 0).toNat 0).toNat 0 := by unfold leastT; rw [hc]; rfl
      rw [← e2, ← e, wrap_i64 (by omega) (by omega)]
      exact t_need ⟨by omega, by omega⟩ (t_need ⟨by omega, of_decide_eq_true hc⟩ (t_need ⟨by omega, by omega⟩ rfl))
    · have e2 : leastT x a k = minL (x.w.getD k []) := by unfold leastT; rw [hc]; rfl
      rw [← e2, ← e, wrap_i64 (by omega) (by omega)]
      exact t_need ⟨by omega, by omega⟩ (t_need hlt (t_need rfl rfl))
  · rw [selIf (dF (by omega)), he]
    rfl
/-- WHAT least RETURNS. -/
theorem c53 {p : Pb} (hp : Ok p) {x : Rl} (hx : OkRule p.V x) (hs : x.sh) {a : List Int} (ha : Beg p a) (h : Heap) : ACall Try.prog G0 53 [.agg (rlC x), flL a] h (I (leastA x a)) h := by
  refine ACall.says clok0 ((loop53 hp hx hs ha h).okB (fun _ _ => rfl) (one_loop loops53)) (runF53 x a _ _ h) ?_
  exact says_need rfl says_leaf

/-! ### possible, bound -/
noncomputable def body50 : Code := (loopsOf (bodyOf Try.prog 50)).headD .skip
theorem loops50 : loopsOf (bodyOf Try.prog 50) = [body50] := by kernel_rfl
def st50 (p : Pb) (a : List Int) (l r : Bool) (k : Int) (h : Heap) : St := .of 33 h [(1, flL a, true), (2, .bool l, true), (6, .bool r, false), (10, flR p.R, true), (11, I p.R.length, true), (12, I k, true)]
def E50 (q : Prop) (x : Rl) (a : List Int) (c : Bool) : Env := EG q [(35, [flL x.v, I (IntKind.i64.wrap ((a.length : Int) - 1))], .bool c), (53, [.agg (rlC x), flL a], I (leastA x a))]
theorem run50 (q : Prop) (p : Pb) (a : List Int) (l c : Bool) (k : Int) : xBody0 Try.prog G0 (E50 q (p.R.getD k.toNat r0) a c) 200 noLoops [1, 2, 6, 10, 11, 12] body50 (st50 p a l false k []) = .ite (decide (k < (↑p.R.length : Int))) (.need (((0 : Int) ≤ k) ∧ (k < (↑p.R.length : Int))) (.ite (l) (.need (q) (.need ([(flL ((p.R.getD k.toNat r0).v)), (I (IntKind.i64.wrap ((↑a.length : Int) - (1 : Int))))] = [(flL ((p.R.getD k.toNat r0).v)), (I (IntKind.i64.wrap ((↑a.length : Int) - (1 : Int))))]) (.ite (!c) (.leaf (Exit.normal, St.of 33 [] [(1, (flL (a)), true), (2, (AV.bool l), true), (6, (AV.bool false), false), (10, (flR (p.R)), true), (11, (I ((↑p.R.length : Int))), true), (12, (I (IntKind.i64.wrap (k + (1 : Int)))), true)])) (.need (q) (.need ([(AV.agg [(I ((p.R.getD k.toNat r0).d)), (flL ((p.R.getD k.toNat r0).v)), (flLL ((p.R.getD k.toNat r0).w)), (I ((p.R.getD k.toNat r0).m))]), (flL (a))] = [(AV.agg [(I ((p.R.getD k.toNat r0).d)), (flL ((p.R.getD k.toNat r0).v)), (flLL ((p.R.getD k.toNat r0).w)), (I ((p.R.getD k.toNat r0).m))]), (flL (a))]) (.ite (decide (leastA (p.R.getD k.toNat r0) a > (p.R.getD k.toNat r0).m)) (.leaf (Exit.ret, St.of 33 [] [(1, (flL (a)), true), (2, (AV.bool l), true), (6, (AV.bool false), false), (10, (flR (p.R)), true), (11, (I ((↑p.R.length : Int))), true), (12, (I k), true)])) (.leaf (Exit.normal, St.of 33 [] [(1, (flL (a)), true), (2, (AV.bool l), true), (6, (AV.bool false), false), (10, (flR (p.R)), true), (11, (I ((↑p.R.length : Int))), true), (12, (I (IntKind.i64.wrap (k + (1 : Int)))), true)])))))))) (.need (q) (.need ([(AV.agg [(I ((p.R.getD k.toNat r0).d)), (flL ((p.R.getD k.toNat r0).v)), (flLL ((p.R.getD k.toNat r0).w)), (I ((p.R.getD k.toNat r0).m))]), (flL (a))] = [(AV.agg [(I ((p.R.getD k.toNat r0).d)), (flL ((p.R.getD k.toNat r0).v)), (flLL ((p.R.getD k.toNat r0).w)), (I ((p.R.getD k.toNat r0).m))]), (flL (a))]) (.ite (decide (leastA (p.R.getD k.toNat r0) a > (p.R.getD k.toNat r0).m)) (.leaf (Exit.ret, St.of 33 [] [(1, (flL (a)), true), (2, (AV.bool l), true), (6, (AV.bool false), false), (10, (flR (p.R)), true), (11, (I ((↑p.R.length : Int))), true), (12, (I k), true)])) (.leaf (Exit.normal, St.of 33 [] [(1, (flL (a)), true), (2, (AV.bool l), true), (6, (AV.bool false), false), (10, (flR (p.R)), true), (11, (I ((↑p.R.length : Int))), true), (12, (I (IntKind.i64.wrap (k + (1 : Int)))), true)]))))))) (.leaf ((Exit.exit ((0 : Nat))), St.of 33 [] [(1, (flL (a)), true), (2, (AV.bool l), true), (6, (AV.bool false), false), (10, (flR (p.R)), true), (11, (I ((↑p.R.length : Int))), true), (12, (I k), true)])) := by kernel_rfl
theorem runF50 (p : Pb) (a : List Int) (l t : Bool) (k1 k2 : Int) : xenter Try.prog {} (xCode Try.prog G0 {} 200 (lpA 2 [1, 2, 6, 10, 11, 12] (st50 p a l false 0 []) t .ret (st50 p a l false k1 []) (.exit 0) (st50 p a l false k2 []))) 50 [pAV p, flL a, .bool l] [true, true, true] [] = .need ((st50 p a l false 0 []).vals = (st50 p a l false 0 []).vals) (.ite (t) (.leaf ((AV.bool false), false, [])) (.leaf ((AV.bool true), false, []))) := by kernel_rfl
noncomputable def body77 : Code := (loopsOf (bodyOf Try.prog 77)).headD .skip
theorem loops77 : loopsOf (bodyOf Try.prog 77) = [body77] := by kernel_rfl
def st77 (p : Pb) (s k : Int) (h : Heap) : St := .of 28 h [(2, .row (pbC p) 0, true), (5, I s, true), (6, I k, true)]
theorem run77 (q : Prop) (p : Pb) (s k : Int) (h : Heap) : xBody Try.prog G0 (EG q [(36, [flL (p.C.getD k.toNat [])], I (minL (p.C.getD k.toNat [])))]) 200 noLoops [2, 5, 6] body77 (st77 p s k h) = .ite (decide (k < (↑p.V.length : Int))) (.need (((0 : Int) ≤ k) ∧ (k < (↑p.C.length : Int))) (.need (q) (.need ([(flL (p.C.getD k.toNat []))] = [(flL (p.C.getD k.toNat []))]) (.leaf (Exit.normal, St.of 28 h [(2, (AV.row [(flL (p.V)), (flLL (p.C)), (flR (p.R))] ((0 : Nat))), true), (5, (I (IntKind.i64.wrap (s + minL (p.C.getD k.toNat [])))), true), (6, (I (IntKind.i64.wrap (k + (1 : Int)))), true)]))))) (.leaf ((Exit.exit ((0 : Nat))), St.of 28 h [(2, (AV.row [(flL (p.V)), (flLL (p.C)), (flR (p.R))] ((0 : Nat))), true), (5, (I s), true), (6, (I k), true)])) := by kernel_rfl
theorem runF77 (p : Pb) (a : List Int) (s k : Int) (c : Int) (h : Heap) : xenter Try.prog (EG True [(54, [pAV p, flL a], I c)]) (xCode Try.prog G0 (EG True [(54, [pAV p, flL a], I c)]) 200 (lpB 3 [2, 5, 6] (st77 p c a.length h) (.exit 0) (st77 p s k h))) 77 [pAV p, flL a] [true, true] h = .need (True) (.need ([(AV.agg [(flL (p.V)), (flLL (p.C)), (flR (p.R))]), (flL (a))] = [(AV.agg [(flL (p.V)), (flLL (p.C)), (flR (p.R))]), (flL (a))]) (.need ((st77 p c a.length h).vals = (st77 p c a.length h).vals) (.leaf ((I s), true, h)))) := by kernel_rfl

theorem wrapI {n : Int} (h : -9223372036854775808 ≤ n ∧ n < 9223372036854775808) : IntKind.i64.wrap n = n := wrap_i64 h.1 h.2
def bad50 (p : Pb) (a : List Int) (l : Bool) (k : Nat) : Bool := bif l && !(p.R.getD k r0).v.contains ((a.length : Int) - 1) then false else decide (leastA (p.R.getD k r0) a > (p.R.getD k r0).m)
theorem clean50 (p : Pb) (a : List Int) (l : Bool) (k : Int) : (st50 p a l false k []).clean ∧ (st50 p a l false k []).h = [] := ⟨clean_of ⟨below_flL _, .bool _, .bool _, below_flR _, .int _ _, .int _ _, trivial⟩, rfl⟩
theorem loop50 {p : Pb} (hs : p.sh) (hp : Ok p) {a : List Int} (ha : Beg p a) (l : Bool) : LoopA body50 p.R.length (fun k => st50 p a l false k []) (fun k => st50 p a l false k []) (st50 p a l false p.R.length []) .ret (.exit 0) (bad50 p a l) := by
  have hw2 : IntKind.i64.wrap ((a.length : Int) - 1) = (a.length : Int) - 1 := wrapI (by have : a.length < _ := beg_sh hp ha; omega)
  refine .of0 (fun _ => rfl) (fun _ => rfl) rfl nofun nofun (fun k => clean50 p a l k) (fun k => clean50 p a l k) (clean50 p a l _) fun k hk hj => ⟨E50 (k < p.R.length) (p.R.getD (k : Int).toNat r0) a ((p.R.getD (k : Int).toNat r0).v.contains ((a.length : Int) - 1)), _, _, clokG fun hlt z hz σ => ?_, lpNo _, fun hlt => (congrArg Tree.sel (run50 _ p a l _ k)).trans ?_, fun he => (congrArg Tree.sel (run50 _ p a l _ k)).trans ?_⟩
  · have hm : p.R.getD (k : Int).toNat r0 ∈ p.R := by rw [Int.toNat_natCast]; exact getD_mem hlt
    simp only [List.mem_cons, List.not_mem_nil, or_false] at hz
    rcases hz with rfl | rfl
    · rw [hw2]; exact c35 (hs.2.2.2.2 _ hm).1 _ σ
    · exact c53 hp (hp.rl _ hm) (hs.2.2.2.2 _ hm) ha σ
  · rw [wrapS hlt hs.2.2.2.1, hw2, Int.toNat_natCast, selIt (dT (by omega)), selN ⟨by omega, by omega⟩]
    unfold bad50
    refine t_ite (fun hc => ?_) fun hc => ?_
    · rw [hc, Bool.true_and]
      exact t_need hlt (t_need rfl (t_ite (fun h1 => by rw [h1]; rfl) fun h1 => t_need hlt (t_need rfl (t_ite (fun h2 => by rw [h1, h2]; rfl) fun h2 => by rw [h1, h2]; rfl))))
    · rw [hc, Bool.false_and]
      exact t_need hlt (t_need rfl (t_ite (fun h2 => by rw [h2]; rfl) fun h2 => by rw [h2]; rfl))
  · rw [selIf (dF (by omega)), he]
    rfl
/-- No rule is broken for sure (l: of those of the last variable alone). -/
def posB (p : Pb) (a : List Int) (l : Bool) : Bool := !anyK (bad50 p a l) p.R.length
theorem c50 {p : Pb} (hs : p.sh) (hp : Ok p) {a : List Int} (ha : Beg p a) (l : Bool) (h : Heap) : ACall Try.prog G0 50 [pAV p, flL a, .bool l] h (.bool (posB p a l)) h := by
  refine ACall.lift0 (h' := []) ?_ (.bool _) gbelow0 (fun x hx => by
    simp only [List.mem_cons, List.not_mem_nil, or_false] at hx
    rcases hx with rfl | rfl | rfl
    · exact below_pAV p
    · exact below_flL _
    · exact .bool _) h
  unfold posB
  refine ACall.says clok0 ((loop50 hs hp ha l).ok (one_loop loops50)) (runF50 p a l _ _ _) (says_need rfl ?_)
  rw [anyK_stop]
  exact says_ite (fun hc => by rw [hc]; exact says_leaf) (fun hc => by rw [hc]; exact says_leaf)
/-- What the variables from i on cost at least. -/
def restT (p : Pb) (i j : Nat) : Int := minL (p.C.getD (i + j) [])
def restA (p : Pb) (i : Nat) : Int := sumK (restT p i) (p.V.length - i)
def boundA (p : Pb) (a : List Int) : Int := costA p a + restA p a.length
theorem cost_pos {p : Pb} (hp : Ok p) {i : Nat} (hi : i < p.V.length) : 0 < (p.C.getD i []).length := by
  have := hp.cl i hi
  have := hp.v i hi
  omega
theorem minC_bound {p : Pb} (hp : Ok p) {i : Nat} (hi : i < p.V.length) : 0 ≤ minL (p.C.getD i []) ∧ minL (p.C.getD i []) ≤ 1000000 := hp.cv i hi _ (minL_mem (cost_pos hp hi))
theorem restK_bound {p : Pb} (hp : Ok p) {i k : Nat} (hk : i + k ≤ p.V.length) : 0 ≤ sumK (restT p i) k ∧ sumK (restT p i) k ≤ 1000000 * k := by
  have h1 := sumK_bound (f := restT p i) (k := k) fun j hj => minC_bound hp (show i + j < p.V.length by omega)
  omega
theorem costK_bound' {p : Pb} (hp : Ok p) {a : List Int} (ha : Beg p a) : 0 ≤ costA p a ∧ costA p a ≤ 1000000 * a.length := by
  have h1 := sumK_bound (f := costT p a) (k := a.length) fun i hi => costT_bound hp ha hi
  unfold costA
  omega
theorem loop77 {p : Pb} (hs : p.sh) (hp : Ok p) {a : List Int} (ha : Beg p a) (h : Heap) : LoopA body77 (p.V.length - a.length) (fun k => st77 p (costA p a + sumK (restT p a.length) k) (a.length + k : Nat) h) (fun k => st77 p (costA p a + sumK (restT p a.length) k) (a.length + k : Nat) h) (st77 p (boundA p a) p.V.length h) .ret (.exit 0) fun _ => false := by
  have hl := ha.len
  have hn := hp.n
  have hc := hp.c
  refine .lin (fun _ => rfl) rfl nofun fun k hk => ⟨EG (k < p.V.length - a.length) [(36, [flL (p.C.getD ((a.length + k : Nat) : Int).toNat [])], I (minL (p.C.getD ((a.length + k : Nat) : Int).toNat [])))], _, _, clokG1 fun hlt => by rw [Int.toNat_natCast]; exact c36 (sh_getD hs.2.2.1 _) (cost_pos hp (by omega)), lpNo _, fun hlt => (congrArg Tree.sel (run77 _ p _ _ h)).trans ?_, fun he => (congrArg Tree.sel (run77 _ p _ _ h)).trans ?_⟩
  · have h1 := costK_bound' hp ha
    have h2 := restK_bound hp (i := a.length) (k := k + 1) (by omega)
    have e : sumK (restT p a.length) (k + 1) = sumK (restT p a.length) k + minL (p.C.getD (a.length + k) []) := rfl
    rw [selIt (dT (by omega)), selN ⟨by omega, by omega⟩, Int.toNat_natCast, selN hlt, selN rfl, Int.add_assoc, ← e, wrapI (by omega), wrapS (n := p.V.length) (by omega) hs.1]
    rfl
  · rw [selIf (dF (by omega)), he]
    have e2 : a.length + (p.V.length - a.length) = p.V.length := by omega
    rw [e2]
    rfl
theorem c77 {p : Pb} (hs : p.sh) (hp : Ok p) {a : List Int} (ha : Beg p a) (h : Heap) : ACall Try.prog G0 77 [pAV p, flL a] h (I (boundA p a)) h := by
  have hl := (loop77 hs hp ha h).okB (fun _ _ => rfl) (c := bodyOf Try.prog 77) (i := 3) (keep := [2, 5, 6]) (one_loop loops77)
  have e : costA p a + sumK (restT p a.length) 0 = costA p a := Int.add_zero _
  simp only [Nat.add_zero] at hl
  rw [e] at hl
  refine ACall.says (clokG1 fun _ => c54 hp ha) hl (runF77 p a _ _ _ h) ?_
  exact says_need trivial (says_need rfl (says_need rfl says_leaf))

/-! ### The program's Cost -/
noncomputable def body25 : Code := (loopsOf (bodyOf Try.prog 25)).headD .skip
theorem loops25 : loopsOf (bodyOf Try.prog 25) = [body25] := by kernel_rfl
def st25 (p : Pb) (a : List Int) (s k : Int) (b : Bool) (h : Heap) : St := .of 35 h [(1, flL a, true), (2, .row (pbC p) 0, true), (7, I s, b), (16, flL a, true), (17, I a.length, true), (18, I k, true)]
theorem run25 (p : Pb) (a : List Int) (s k : Int) (h : Heap) : xBody Try.prog G0 {} 200 noLoops [1, 2, 7, 16, 17, 18] body25 (st25 p a s k true h) = .ite (decide (k < (↑a.length : Int))) (.need (((0 : Int) ≤ k) ∧ (k < (↑a.length : Int))) (.need (((0 : Int) ≤ k) ∧ (k < (↑p.C.length : Int))) (.need (((0 : Int) ≤ a.getD k.toNat (0 : Int)) ∧ (a.getD k.toNat (0 : Int) < (↑(p.C.getD k.toNat []).length : Int))) (.leaf (Exit.normal, St.of 35 h [(1, (flL (a)), true), (2, (AV.row [(flL (p.V)), (flLL (p.C)), (flR (p.R))] ((0 : Nat))), true), (7, (I (IntKind.i64.wrap (s + (p.C.getD k.toNat []).getD (a.getD k.toNat (0 : Int)).toNat (0 : Int)))), true), (16, (flL (a)), true), (17, (I ((↑a.length : Int))), true), (18, (I (IntKind.i64.wrap (k + (1 : Int)))), true)]))))) (.leaf ((Exit.exit ((0 : Nat))), St.of 35 h [(1, (flL (a)), true), (2, (AV.row [(flL (p.V)), (flLL (p.C)), (flR (p.R))] ((0 : Nat))), true), (7, (I s), true), (16, (flL (a)), true), (17, (I ((↑a.length : Int))), true), (18, (I k), true)])) := by kernel_rfl
theorem runF25 (p : Pb) (a : List Int) (s k : Int) (c : Int) (h : Heap) : xenter Try.prog (EG True [(52, [pAV p, flL a], I c)]) (xCode Try.prog G0 (EG True [(52, [pAV p, flL a], I c)]) 200 (lpB 6 [1, 2, 7, 16, 17, 18] (st25 p a 0 0 true h) (.exit 0) (st25 p a s k true h))) 25 [pAV p, flL a] [true, true] h = .need (True) (.need ([(AV.agg [(flL (p.V)), (flLL (p.C)), (flR (p.R))]), (flL (a))] = [(AV.agg [(flL (p.V)), (flLL (p.C)), (flR (p.R))]), (flL (a))]) (.ite (c != (0 : Int)) (.leaf ((AV.tup [(I ((0 : Int))), (I c)]), true, h)) (.need ((st25 p a 0 0 true h).vals = (st25 p a 0 0 true h).vals) (.leaf ((AV.tup [(I s), (I ((0 : Int)))]), true, h))))) := by kernel_rfl
theorem runG25 (p : Pb) (a : List Int) (c : Int) (h : Heap) : xenter Try.prog (EG True [(52, [pAV p, flL a], I c)]) (xCode Try.prog G0 (EG True [(52, [pAV p, flL a], I c)]) 200 (lpF 6 [1, 2, 7, 16, 17, 18] (st25 p a 0 0 true h))) 25 [pAV p, flL a] [true, true] h = .need (True) (.need ([(AV.agg [(flL (p.V)), (flLL (p.C)), (flR (p.R))]), (flL (a))] = [(AV.agg [(flL (p.V)), (flLL (p.C)), (flR (p.R))]), (flL (a))]) (.ite (c != (0 : Int)) (.leaf ((AV.tup [(I ((0 : Int))), (I c)]), true, h)) (.need ((st25 p a 0 0 true h).vals = (st25 p a 0 0 true h).vals) .fail))) := by kernel_rfl

theorem loop25 {p : Pb} (hp : Ok p) {a : List Int} (ha : Beg p a) (h : Heap) : LoopA body25 a.length (fun k => st25 p a (sumK (costT p a) k) k true h) (fun k => st25 p a (sumK (costT p a) k) k true h) (st25 p a (costA p a) a.length true h) .ret (.exit 0) fun _ => false := by
  refine .lin (fun _ => rfl) rfl nofun fun k hk => ⟨_, _, _, clok0, lpNo _, fun hlt => (congrArg Tree.sel (run25 p a _ k h)).trans ?_, fun he => (congrArg Tree.sel (run25 p a _ k h)).trans ?_⟩
  · have h1 := costK_bound hp ha (k := k + 1) (by omega)
    have h2 := beg_nat hp ha hlt
    have h3 := hp.c
    have h4 := ha.len
    have e : sumK (costT p a) (k + 1) = sumK (costT p a) k + (p.C.getD k []).getD (a.getD k 0).toNat 0 := rfl
    rw [selIt (dT (by omega)), selN ⟨by omega, by omega⟩, selN ⟨by omega, by omega⟩, Int.toNat_natCast, selN ⟨by omega, by omega⟩, ← e, wrap_i64 (by omega) (by omega), wrapS hlt (beg_sh hp ha)]
    rfl
  · rw [selIf (dF (by omega)), he]
    rfl
/-- An assignment, and nothing else. -/
def Full (p : Pb) (a : List Int) : Prop := Beg p a ∧ a.length = p.V.length
theorem whole_cases (p : Pb) (a : List Int) : (whole p a = 0 ∧ Ok p ∧ Full p a) ∨ whole p a = 1 ∨ whole p a = 2 := by
  unfold whole
  cases hv : validP p with
  | false => exact .inr (.inl rfl)
  | true =>
    rw [cond_true]
    cases h1 : ((a.length : Int) != p.V.length) with
    | true => exact .inr (.inr rfl)
    | false =>
      rw [Bool.false_or]
      cases h2 : begB p a with
      | false => exact .inr (.inr rfl)
      | true => exact .inl ⟨rfl, valid_iff.1 hv, beg_iff.1 h2, by have := bne_eq_false_iff_eq.1 h1; omega⟩
theorem whole_ok {p : Pb} {a : List Int} (hp : Ok p) (ha : Full p a) : whole p a = 0 := by
  unfold whole
  rw [valid_iff.2 hp, beg_iff.2 ha.1, cond_true, bne_eq_false_iff_eq.2 (by have := ha.2; omega)]
  rfl
def costR (p : Pb) (a : List Int) : AV := .tup [I (if whole p a = 0 then costA p a else 0), I (whole p a)]
theorem c25 {p : Pb} (hs : p.sh) {a : List Int} (ha : sh a) (h : Heap) : ACall Try.prog G0 25 [pAV p, flL a] h (costR p a) h := by
  unfold costR
  rcases whole_cases p a with ⟨h0, hp, hb⟩ | h0 | h0
  · refine ACall.says (clokG1 fun _ => h0 ▸ c52 hs ha) ((loop25 hp hb.1 h).okB (fun _ _ => rfl) (one_loop loops25)) (runF25 p a _ _ 0 h) ?_
    rw [h0, if_pos rfl]
    exact says_need trivial (says_need rfl (says_ite (fun h => (by cases h)) fun _ => says_need rfl says_leaf))
  · refine ACall.says (clokG1 fun _ => h0 ▸ c52 hs ha) (lpF_ok 6 _ _ _) (runG25 p a 1 h) ?_
    rw [h0, if_neg (by omega)]
    exact says_need trivial (says_need rfl (says_ite (fun _ => says_leaf) fun h => by cases h))
  · refine ACall.says (clokG1 fun _ => h0 ▸ c52 hs ha) (lpF_ok 6 _ _ _) (runG25 p a 2 h) ?_
    rw [h0, if_neg (by omega)]
    exact says_need trivial (says_need rfl (says_ite (fun _ => says_leaf) fun h => by cases h))

/-! ### The reference's Cost -/
def l27 (p : Pb) (a : List Int) (v b : Bool) (c : Int) : List (FuncId × List AV × AV) := [(29, [pAV p], .bool v), (43, [pAV p, flL a], .bool b), (54, [pAV p, flL a], I c)]
theorem run27 (p : Pb) (a : List Int) (v b : Bool) (c : Int) (h : Heap) : xCall Try.prog G0 (EG True (l27 p a v b c)) 200 27 [pAV p, flL a] [true, true] h = .need (True) (.need ([(AV.agg [(flL (p.V)), (flLL (p.C)), (flR (p.R))])] = [(AV.agg [(flL (p.V)), (flLL (p.C)), (flR (p.R))])]) (.ite (!v) (.leaf ((AV.tup [(I ((0 : Int))), (I ((1 : Int)))]), false, h)) (.ite ((↑a.length : Int) != (↑p.V.length : Int)) (.leaf ((AV.tup [(I ((0 : Int))), (I ((2 : Int)))]), false, h)) (.need (True) (.need ([(AV.agg [(flL (p.V)), (flLL (p.C)), (flR (p.R))]), (flL (a))] = [(AV.agg [(flL (p.V)), (flLL (p.C)), (flR (p.R))]), (flL (a))]) (.ite (!b) (.leaf ((AV.tup [(I ((0 : Int))), (I ((2 : Int)))]), false, h)) (.need (True) (.need ([(AV.agg [(flL (p.V)), (flLL (p.C)), (flR (p.R))]), (flL (a))] = [(AV.agg [(flL (p.V)), (flLL (p.C)), (flR (p.R))]), (flL (a))]) (.leaf ((AV.tup [(I c), (I ((0 : Int)))]), true, h)))))))))) := by kernel_rfl
theorem run27n (p : Pb) (a : List Int) (h : Heap) : xCall Try.prog G0 (EG True [(29, [pAV p], .bool false)]) 200 27 [pAV p, flL a] [true, true] h = .need (True) (.need ([(AV.agg [(flL (p.V)), (flLL (p.C)), (flR (p.R))])] = [(AV.agg [(flL (p.V)), (flLL (p.C)), (flR (p.R))])]) (.ite (!false) (.leaf ((AV.tup [(I ((0 : Int))), (I ((1 : Int)))]), false, h)) (.ite ((↑a.length : Int) != (↑p.V.length : Int)) (.leaf ((AV.tup [(I ((0 : Int))), (I ((2 : Int)))]), false, h)) .fail))) := by kernel_rfl
theorem run27m (p : Pb) (a : List Int) (b : Bool) (h : Heap) : xCall Try.prog G0 (EG True [(29, [pAV p], .bool true), (43, [pAV p, flL a], .bool b)]) 200 27 [pAV p, flL a] [true, true] h = .need (True) (.need ([(AV.agg [(flL (p.V)), (flLL (p.C)), (flR (p.R))])] = [(AV.agg [(flL (p.V)), (flLL (p.C)), (flR (p.R))])]) (.ite (!true) (.leaf ((AV.tup [(I ((0 : Int))), (I ((1 : Int)))]), false, h)) (.ite ((↑a.length : Int) != (↑p.V.length : Int)) (.leaf ((AV.tup [(I ((0 : Int))), (I ((2 : Int)))]), false, h)) (.need (True) (.need ([(AV.agg [(flL (p.V)), (flLL (p.C)), (flR (p.R))]), (flL (a))] = [(AV.agg [(flL (p.V)), (flLL (p.C)), (flR (p.R))]), (flL (a))]) (.ite (!b) (.leaf ((AV.tup [(I ((0 : Int))), (I ((2 : Int)))]), false, h)) .fail)))))) := by kernel_rfl
theorem c27 {p : Pb} (hs : p.sh) {a : List Int} (ha : sh a) (h : Heap) : ACall Try.prog G0 27 [pAV p, flL a] h (costR p a) h := by
  unfold costR
  cases hv : validP p with
  | false =>
    have hw : whole p a = 1 := by unfold whole; rw [hv]; rfl
    rw [hw, if_neg (by omega)]
    refine ACall.saysC (clokG1 fun _ => hv ▸ c29 hs) (run27n p a h) (says_need trivial (says_need rfl says_leaf))
  | true =>
    have hp := valid_iff.1 hv
    by_cases hf : ((a.length : Int) != p.V.length) = false ∧ begB p a = true
    · have hb := beg_iff.1 hf.2
      have hw : whole p a = 0 := whole_ok hp ⟨hb, by have := bne_eq_false_iff_eq.1 hf.1; omega⟩
      rw [hw, if_pos rfl]
      refine ACall.saysC (clokG fun _ z hz σ => ?_) (run27 p a true true (costA p a) h) ?_
      · simp only [l27, List.mem_cons, List.not_mem_nil, or_false] at hz
        rcases hz with rfl | rfl | rfl
        · exact hv ▸ c29 hs σ
        · exact hf.2 ▸ c43 hp ha σ
        · exact c54 hp hb σ
      · rw [hf.1]
        exact says_need trivial (says_need rfl (says_ite (fun h => (by cases h)) fun _ => says_ite (fun h => (by cases h)) fun _ => says_need trivial (says_need rfl (says_ite (fun h => (by cases h)) fun _ => says_need trivial (says_need rfl says_leaf)))))
    · have hw : whole p a = 2 := by
        unfold whole
        rw [hv, cond_true]
        cases h1 : ((a.length : Int) != p.V.length) with
        | true => rfl
        | false =>
          cases h2 : begB p a with
          | false => rfl
          | true => exact absurd ⟨h1, h2⟩ hf
      rw [hw, if_neg (by omega)]
      refine ACall.saysC (clokG fun _ z hz σ => ?_) (run27m p a (begB p a) h) ?_
      · simp only [List.mem_cons, List.not_mem_nil, or_false] at hz
        rcases hz with rfl | rfl
        · exact hv ▸ c29 hs σ
        · exact c43 hp ha σ
      · refine says_need trivial (says_need rfl (says_ite (fun h => (by cases h)) fun _ => says_ite (fun _ => says_leaf) fun h1 => says_need trivial (says_need rfl (says_ite (fun _ => says_leaf) fun h2 => ?_))))
        exact absurd ⟨h1, by simpa using h2⟩ hf
end Go.Proofs.Ytngaihdpmoajeaa.Am

namespace Go.Proofs.Ytngaihdpmoajeaa.Am
open Go
set_option maxRecDepth 100000

/-- A slice type whose elements are s cells. -/
structure ElemS (t e : TypeId) (s : Nat) : Prop where
  u : Try.prog.underlying t = some (.slice e)
  i : ∃ ie zx, Try.prog.info? e = some ie ∧ aZero Try.prog e = some zx ∧ ie.size = s ∧ ie.bytes ≤ 65536 ∧ zx.cells.length = s ∧ zx.cells.all AV.one = true
theorem elemS {t e : TypeId} {s : Nat} (hu : Try.prog.underlying t = some (.slice e)) (h1 : (Try.prog.info? e).map (fun i => (i.size, decide (i.bytes ≤ 65536))) = some (s, true)) (h2 : (aZero Try.prog e).map (fun z => (z.cells.length, z.cells.all AV.one)) = some (s, true)) : ElemS t e s := by
  obtain ⟨ie, e1, e2⟩ := Option.map_eq_some_iff.1 h1
  obtain ⟨zx, e3, e4⟩ := Option.map_eq_some_iff.1 h2
  simp only [Prod.mk.injEq, decide_eq_true_eq] at e2 e4
  exact ⟨hu, ie, zx, e1, e3, e2.1, e2.2, e4.1, e4.2⟩
theorem els22 : ElemS 22 3 1 := elemS Try.underlying22 (by kernel_rfl) (by kernel_rfl)
theorem els23 : ElemS 23 22 1 := elemS Try.underlying23 (by kernel_rfl) (by kernel_rfl)
theorem els24 : ElemS 24 56 4 := elemS Try.underlying24 (by kernel_rfl) (by kernel_rfl)
/-- A slice that grows, as its variable holds it (r: its place), and what lies at its place. -/
def sV (s r : Nat) : List (List AV) → AV
  | [] => .zs
  | _ :: l => .ms s r l.length 0 (l.length + 1) (l.length + 1)
def sO : List (List AV) → AObj
  | [] => .resv
  | x :: l => .cells l.length (x :: l).flatten
theorem flatS_len {s : Nat} : ∀ {L : List (List AV)}, (∀ r ∈ L, r.length = s) → L.flatten.length = L.length * s
  | [], _ => by simp
  | x :: l, h => by
    rw [List.flatten_cons, List.length_append, flatS_len fun r hr => h r (by simp [hr]), h x (by simp), List.length_cons, Nat.succ_mul]
    omega
theorem Inv.belowObj {G : Nat → Option (List AV)} {w : World} {M : Map} {σ : Heap} (hi : Inv G w M σ) {q : Nat} {o : AObj} (ho : σ[q]? = some o) : (∀ g c, o = .cells g c → ∀ x ∈ c, Below σ.length x) ∧ ∀ A, o = .loop A → (∀ x ∈ A.tmps, Below σ.length x) ∧ A.defers < σ.length ∧ σ[A.defers]? ≠ some .resv := by
  have hn : ∀ r p, M r = some p → r < σ.length := hi.dom
  constructor
  · rintro g c rfl x hx
    obtain ⟨b, cs, e, _, _, _, h4⟩ := hi.cells q g c ho
    obtain ⟨j, hj, rfl⟩ := List.mem_iff_getElem.1 hx
    exact (h4 j _ (List.getElem?_eq_getElem hj)).isBelow hn
  · rintro A rfl
    obtain ⟨b, L, _, _, h3⟩ := hi.loop q A ho
    refine ⟨fun x hx => ?_, hn _ _ h3.defers.1, fun hr => ?_⟩
    · obtain ⟨j, hj, rfl⟩ := List.mem_iff_getElem.1 hx
      exact (h3.tmps j _ (List.getElem?_eq_getElem hj)).isBelow hn
    · have := hi.resv _ hr
      rw [h3.defers.1] at this
      cases this
/-- The last object, moved to a place that was kept for it. -/
def slotP (n r : Nat) : Nat → Option Nat := fun q => if q = r then some n else if q < n then some q else none
theorem slotP_at {n r : Nat} : slotP n r r = some n := by simp [slotP]
theorem slotP_ne {n r q : Nat} (h : q ≠ r) (hq : q < n) : slotP n r q = some q := by simp [slotP, h, hq]
theorem slotP_some {n r q z : Nat} (h : slotP n r q = some z) : (q = r ∧ z = n) ∨ (q ≠ r ∧ q < n ∧ z = q) := by
  unfold slotP at h
  split at h
  · cases h; exact .inl ⟨‹_›, rfl⟩
  · split at h
    · cases h; exact .inr ⟨‹_›, ‹_›, rfl⟩
    · cases h
theorem Inv.slot {w w1 : World} {M M1 : Map} {σ : Heap} {r g : Nat} {c : List AV} (hi : Inv G0 w M σ) (he : Ext w M w1 M1) (hi1 : Inv G0 w1 M1 (σ ++ [.cells g c])) (hr : σ[r]? = some .resv) (hb : ∀ x ∈ c, Below σ.length x) :
    Ext w M w1 (M1.re (slotP σ.length r)) ∧ Inv G0 w1 (M1.re (slotP σ.length r)) (σ.set r (.cells g c)) := by
  have hlt : r < σ.length := (List.getElem?_eq_some_iff.1 hr).1
  have hk : KeepB (slotP σ.length r) σ.length (σ ++ [.cells g c]) := fun q hq => by
    by_cases hqr : q = r
    · subst hqr; left; rw [List.getElem?_append_left hq]; exact hr
    · right; exact slotP_ne hqr hq
  refine hi.re he hi1 ⟨gbelow0, fun q o' ho' hne => ?_, fun q q' z h1 h2 => ?_, fun q z h1 => ?_, fun q o' ho' => ?_⟩
  · have hq : q < σ.length := (List.getElem?_eq_some_iff.1 ho').1
    by_cases hqr : q = r
    · subst hqr; rw [hr] at ho'; cases ho'; exact absurd rfl hne
    · exact slotP_ne hqr hq
  · rcases slotP_some h1 with ⟨h1, h3⟩ | ⟨h1, h3, h4⟩ <;> rcases slotP_some h2 with ⟨h2, h5⟩ | ⟨h2, h5, h6⟩ <;> omega
  · rw [List.length_set]
    rcases slotP_some h1 with ⟨h1, h3⟩ | ⟨h1, h3, h4⟩ <;> omega
  · rw [List.getElem?_set] at ho'
    by_cases hqr : r = q
    · subst hqr
      rw [if_pos rfl, if_pos hlt] at ho'
      cases ho'
      exact ⟨σ.length, c, slotP_at, by simp, rfl, fun j y hj => ⟨y, hj, Re.below hk (hb y (List.mem_of_getElem? hj))⟩⟩
    · rw [if_neg hqr] at ho'
      have hq : q < σ.length := (List.getElem?_eq_some_iff.1 ho').1
      have hπ : slotP σ.length r q = some q := slotP_ne (fun e => hqr e.symm) hq
      have h1 : (σ ++ [AObj.cells g c])[q]? = some o' := by rw [List.getElem?_append_left hq]; exact ho'
      obtain ⟨b1, b2⟩ := hi.belowObj ho'
      cases o' with
      | cells g' c' => exact ⟨q, c', hπ, h1, rfl, fun j y hj => ⟨y, hj, Re.below hk (b1 _ _ rfl y (List.mem_of_getElem? hj))⟩⟩
      | resv => exact fun z hz => by rw [hπ] at hz; cases hz; exact h1
      | dfr => exact ⟨q, hπ, h1⟩
      | loop A =>
        obtain ⟨h3, h4, h5⟩ := b2 A rfl
        refine ⟨hπ, h1, slotP_ne (fun e => h5 (by rw [e]; exact hr)) h4, fun x hx => Re.below hk (h3 x hx)⟩
      | gone => trivial
theorem AStep.slot {a : AAct} {o : Oper} {σ : Heap} {r g s len cap : Nat} {c : List AV} (h : AStep Try.prog G0 a σ o (.ms s σ.length g 0 len cap) (σ ++ [.cells g c])) (hr : σ[r]? = some .resv) (hb : ∀ w M ac, Inv G0 w M σ → RAct w M ac a → ∀ x ∈ c, Below σ.length x) :
    AStep Try.prog G0 a σ o (.ms s r g 0 len cap) (σ.set r (.cells g c)) := by
  intro r0 w M ac K Q hi ha hK
  refine h r0 w M ac K Q hi ha fun v w' M' hv he hi' => ?_
  obtain ⟨h1, h2⟩ := hi.slot he hi' hr (hb w M ac hi ha)
  exact hK v w' _ (Re.ms slotP_at w' M' v hi' hv) h1 h2
/-- Growing at its place, told beforehand. -/
def hApS (t : TypeId) (s r : Nat) (L : List (List AV)) (row : List AV) : Heap → Oper → (Operand → Option AV) → Option (AV × Bool × Heap × Prop) := fun h o ρ => match o.op with
  | .call { callee := .builtin .append, args := args, argTypes := ts } => bif ts == #[t, t] then some (sV s r (L ++ [row]), true, h.set r (sO (L ++ [row])), evAllR ρ args.toList = some [sV s r L, .sl s [row]] ∧ h[r]? = some (sO L) ∧ (∀ x ∈ L, x.length = s) ∧ row.length = s ∧ (∀ x ∈ row, x.one = true) ∧ L.length < 16777216) else none
  | _ => none
theorem hApS_ok {t e : TypeId} {s : Nat} (he : ElemS t e s) (r : Nat) (L : List (List AV)) (row : List AV) : HintOk Try.prog G0 (hApS t s r L row) := by
  refine ⟨fun h o a m y tg h' p hh hp => ?_, fun h o ρ y tg h' p hh hp hq => ?_⟩
  · unfold hApS at hh
    split at hh <;> first | (cases hh; done) | skip
    rename_i args ts ho
    cases hts : ts == #[t, t] with
    | false => rw [hts] at hh; cases hh
    | true =>
    rw [hts, cond_true] at hh
    have hts' : ts = #[t, t] := eq_of_beq hts
    subst hts'
    cases hh
    obtain ⟨p1, p3, p4, p5, p6, p7⟩ := hp
    obtain ⟨ie, zx, h1, h2, h3, h4, h5, h6⟩ := he.i
    have hn : notInt Try.prog t = true := by unfold notInt; rw [he.u]
    have hrow : row.all AV.one = true := List.all_eq_true.2 p6
    have hstep : ∀ {v : AV} {σ1 : Heap}, aAppend Try.prog h t t (sV s r L) (.sl s [row]) = some (v, σ1) → AStep Try.prog G0 { tmps := a, marks := m } h o v σ1 := fun {v σ1} hq => by
      refine AStep.op ?_
      rw [aopR_eq]
      unfold aopR
      simp only [ho, p1, Option.bind_some, aBuiltin]
      exact hq
    have hconts : conts h ie.size (.sl s [row]) = some (1, row) := by simp [conts, h3]
    cases L with
    | nil =>
      have ha : aAppend Try.prog h t t (sV s r []) (.sl s [row]) = some (.ms s h.length 0 0 1 1, h ++ [.cells 0 row]) := by
        unfold aAppend
        rw [he.u]
        simp only [h1, h2, hconts]
        simp only [hn, hrow, h4, h5, h3, h6, and_self, if_true, sV]
        simp
      have := AStep.slot (hstep ha) p3 fun w M ac hi hact x hx => ?_
      · have e : sO ([] ++ [row]) = .cells 0 row := by simp [sO]
        rw [e]
        exact this
      · have hxs := evAll_ok hi hact.tmps (evAllR_eq G0 a _ ▸ p1)
        have hb := (hxs.2 1 _ rfl).isBelow hi.dom
        cases hb with
        | sl _ _ hb =>
          obtain ⟨j, hj, rfl⟩ := List.mem_iff_getElem.1 hx
          exact hb 0 row j _ rfl (List.getElem?_eq_getElem hj)
    | cons x l =>
      have hobj : objAt h r l.length = some (x :: l).flatten := by
        unfold objAt
        rw [p3]
        simp [sO]
      have hlen : (x :: l).flatten.length = (l.length + 1) * s := by rw [flatS_len p4, List.length_cons]
      refine hstep ?_
      unfold aAppend
      rw [he.u]
      simp only [h1, h2, hconts]
      simp only [hn, hrow, h4, h5, h3, h6, and_self, if_true, sV, hobj]
      simp only [List.length_cons] at p7
      have hfit : l.length + 1 + 1 ≤ 16777216 := by omega
      have hroom : ¬ l.length + 1 + 1 ≤ l.length + 1 := by omega
      have htake : (x :: l).flatten.take ((l.length + 1) * s) = (x :: l).flatten := List.take_of_length_le (by omega)
      rw [if_pos ⟨trivial, by omega⟩, if_neg (by omega), if_neg hroom, if_pos ⟨trivial, hfit⟩, htake]
      simp [sO]
  · unfold hApS at hh
    split at hh <;> first | (cases hh; done) | skip
    rename_i args ts ho
    exfalso
    revert hq
    unfold Am.quiet
    rw [ho]
    simp
/-- One more at its place. -/
def Grow (s r : Nat) (row : List AV) (v v' : AV) (o o' : AObj) : Prop := ∃ L, v = sV s r L ∧ o = sO L ∧ v' = sV s r (L ++ [row]) ∧ o' = sO (L ++ [row]) ∧ (∀ x ∈ L, x.length = s) ∧ row.length = s ∧ (∀ x ∈ row, x.one = true) ∧ L.length < 16777216
/-- The same, by names. -/
def hApO (t : TypeId) (s r : Nat) (row : List AV) (v v' : AV) (o o' : AObj) (g : Prop) : Heap → Oper → (Operand → Option AV) → Option (AV × Bool × Heap × Prop) := fun h oo ρ => match oo.op with
  | .call { callee := .builtin .append, args := args, argTypes := ts } => bif ts == #[t, t] then some (v', true, h.set r o', evAllR ρ args.toList = some [v, .sl s [row]] ∧ h[r]? = some o ∧ g) else none
  | _ => none
theorem hApO_ok {t e : TypeId} {s : Nat} (he : ElemS t e s) {r : Nat} {row : List AV} {v v' : AV} {o o' : AObj} {g : Prop} (hg : g → Grow s r row v v' o o') : HintOk Try.prog G0 (hApO t s r row v v' o o' g) := by
  refine ⟨fun h oo a m y tg h' p hh hp => ?_, fun h oo ρ y tg h' p hh hp hq => ?_⟩
  · unfold hApO at hh
    split at hh <;> first | (cases hh; done) | skip
    rename_i args ts ho
    cases hts : ts == #[t, t] with
    | false => rw [hts] at hh; cases hh
    | true =>
    rw [hts, cond_true] at hh
    cases hh
    obtain ⟨p1, p2, p3⟩ := hp
    obtain ⟨L, rfl, rfl, rfl, rfl, p4, p5, p6, p7⟩ := hg p3
    refine (hApS_ok he r L row).step h oo a m _ true _ (evAllR (ev G0 a) args.toList = some [sV s r L, .sl s [row]] ∧ h[r]? = some (sO L) ∧ (∀ x ∈ L, x.length = s) ∧ row.length = s ∧ (∀ x ∈ row, x.one = true) ∧ L.length < 16777216) ?_ ⟨p1, p2, p4, p5, p6, p7⟩
    unfold hApS
    rw [ho]
    simp only [hts, cond_true]
  · unfold hApO at hh
    split at hh <;> first | (cases hh; done) | skip
    rename_i args ts ho
    exfalso
    revert hq
    unfold Am.quiet
    rw [ho]
    simp

/-! ### What lies behind is forgotten -/
def idP (n : Nat) : Nat → Option Nat := fun q => if q < n then some q else none
theorem idP_lt {n q : Nat} (h : q < n) : idP n q = some q := by simp [idP, h]
theorem idP_some {n q z : Nat} (h : idP n q = some z) : q < n ∧ z = q := by
  unfold idP at h
  split at h
  · cases h; exact ⟨‹_›, rfl⟩
  · cases h
theorem HRe.trim {σ τ g : Heap} (hl : τ.length = σ.length) (ha : ∀ o ∈ τ, Alone σ.length o) : HRe G0 (idP σ.length) σ (τ ++ g) τ := by
  have hk : KeepB (idP σ.length) σ.length (τ ++ g) := fun q hq => .inr (idP_lt hq)
  refine ⟨gbelow0, fun q o' ho' _ => idP_lt (List.getElem?_eq_some_iff.1 ho').1, fun q q' z h1 h2 => ?_, fun q z h1 => ?_, fun q o' ho' => ?_⟩
  · have := idP_some h1
    have := idP_some h2
    omega
  · have := idP_some h1
    omega
  · have hq : q < τ.length := (List.getElem?_eq_some_iff.1 ho').1
    have h1 : (τ ++ g)[q]? = some o' := by rw [List.getElem?_append_left hq]; exact ho'
    have hal := ha o' (List.mem_of_getElem? ho')
    cases o' with
    | cells g' c' => exact ⟨q, c', idP_lt (by omega), h1, rfl, fun j y hj => ⟨y, hj, Re.below hk (hal y (List.mem_of_getElem? hj))⟩⟩
    | resv => exact fun z hz => by rw [(idP_some hz).2]; exact h1
    | dfr => exact hal.elim
    | loop A => exact hal.elim
    | gone => trivial
theorem AExec.trim {R : Option Nat → Prop} {c : Code} {a a' : List AV} {σ τ g : Heap} {e : Exit} (h : AExec Try.prog G0 R c { tmps := a } σ e { tmps := a' } (τ ++ g)) (hl : τ.length = σ.length) (ha : ∀ o ∈ τ, Alone σ.length o) (hv : ∀ x ∈ a', Below σ.length x) : AExec Try.prog G0 R c { tmps := a } σ e { tmps := a' } τ :=
  h.re (.trim hl ha) (fun _ h => by cases h) rfl fun j y hj => ⟨y, hj, Re.below (fun _ hq => .inr (idP_lt hq)) (hv y (List.mem_of_getElem? hj))⟩
theorem ACall.trim {f : FuncId} {args : List AV} {v : AV} {σ τ g : Heap} (h : ACall Try.prog G0 f args σ v (τ ++ g)) (hl : τ.length = σ.length) (ha : ∀ o ∈ τ, Alone σ.length o) (hv : Below σ.length v) : ACall Try.prog G0 f args σ v τ :=
  h.re (.trim hl ha) (Re.below (fun _ hq => .inr (idP_lt hq)) hv)
/-- A piece of code; some temporaries of it, the first m objects. -/
noncomputable def xBodyT (E : Env) (n : Nat) (lp : Loops) (keep : List Nat) (m : Nat) (c : Code) (st : St) : Tree (Exit × St) :=
  (xCode Try.prog G0 E n lp c st).bind fun r => .leaf (r.1, { t := (r.2.only keep).t, n := r.2.n, h := r.2.h.take m })
/-- A frame and a heap that know of n objects. -/
def CleanT (m : Nat) (st : St) : Prop := st.h.length = m ∧ (∀ o ∈ st.h, Alone m o) ∧ ∀ x ∈ st.a, Below m x
theorem xBodyT_ok {E : Env} (hcl : ClOk Try.prog G0 E) {R : Option Nat → Prop} {lp : Loops} {n m : Nat} {keep : List Nat} {c : Code} {st : St} {e : Exit} {st' : St} (hlp : LoopsOk Try.prog G0 R [] lp c)
    (h0 : st.h.length = m) (hc : CleanT m st') (hx : (xBodyT E n lp keep m c st).sel = some (e, st')) : AExec Try.prog G0 R c { tmps := st.a } st.h e { tmps := st'.a } st'.h := by
  obtain ⟨⟨e0, st0⟩, h1, h2⟩ := Tree.of_bind hx
  cases h2
  obtain ⟨h3, h4⟩ := xCode_ok names mixed hcl n R [] lp c st _ _ hlp h1
  have h5 := h3.weak_post (a' := { tmps := st0.a, marks := [] }) (St.only_le keep st0)
  refine AExec.trim (g := st0.h.drop m) ?_ (hc.1.trans h0.symm) (by rw [h0]; exact hc.2.1) (by rw [h0]; exact hc.2.2)
  show AExec Try.prog G0 R c _ _ _ _ (st0.h.take m ++ st0.h.drop m)
  rw [List.take_append_drop]
  exact h5
theorem LoopA.ofT {body : Code} {N m : Nat} {S R : Nat → St} {X : St} {eR eX : Exit} {stop : Nat → Bool} (n0 : ∀ k, (S k).n = (S 0).n) (nR : ∀ k, (R k).n = (S 0).n) (nX : X.n = (S 0).n) (neR : eR ≠ .normal) (neX : eX ≠ .normal)
    (cS : ∀ k, CleanT m (S k)) (cR : ∀ k, CleanT m (R k)) (cX : CleanT m X)
    (hr : ∀ k, k ≤ N → (∀ j, j < k → stop j = false) → ∃ E lp keep, ClOk Try.prog G0 E ∧ LoopsOk Try.prog G0 (fun r => r = none) [] lp body ∧ (k < N → (xBodyT E 200 lp keep m body (S k)).sel = rndR (stop k) eR (R k) (S (k + 1))) ∧ (k = N → (xBodyT E 200 lp keep m body (S k)).sel = some (eX, X))) : LoopA body N S R X eR eX stop where
  n0 := n0
  nR := nR
  nX := nX
  neR := neR
  neX := neX
  go k hk hj hs := by
    obtain ⟨E, lp, keep, h1, h2, h3, _⟩ := hr k (by omega) hj
    replace h3 := h3 hk
    unfold rndR at h3
    rw [hs] at h3
    exact xBodyT_ok h1 h2 (cS k).1 (cS (k + 1)) h3
  st k hk hj hs := by
    obtain ⟨E, lp, keep, h1, h2, h3, _⟩ := hr k (by omega) hj
    replace h3 := h3 hk
    unfold rndR at h3
    rw [hs] at h3
    exact xBodyT_ok h1 h2 (cS k).1 (cR k) h3
  en hj := by
    obtain ⟨E, lp, keep, h1, h2, _, h3⟩ := hr N (Nat.le_refl N) hj
    exact xBodyT_ok h1 h2 (cS N).1 cX (h3 rfl)
theorem LoopA.linT {body : Code} {N m : Nat} {S : Nat → St} {X : St} {eX : Exit} (n0 : ∀ k, (S k).n = (S 0).n) (nX : X.n = (S 0).n) (neX : eX ≠ .normal) (cS : ∀ k, CleanT m (S k)) (cX : CleanT m X)
    (hr : ∀ k, k ≤ N → ∃ E lp keep, ClOk Try.prog G0 E ∧ LoopsOk Try.prog G0 (fun r => r = none) [] lp body ∧ (k < N → (xBodyT E 200 lp keep m body (S k)).sel = some (.normal, S (k + 1))) ∧ (k = N → (xBodyT E 200 lp keep m body (S k)).sel = some (eX, X))) : LoopA body N S S X .ret eX fun _ => false :=
  .ofT n0 n0 nX nofun neX cS cS cX fun k hk _ => hr k hk
/-- What a frame's values say of objects. -/
def AllN (m : Nat) : List (Nat × AV × Bool) → Prop
  | [] => True
  | p :: r => Below m p.2.1 ∧ AllN m r
theorem cleanT_of {m n : Nat} {h : Heap} {l : List (Nat × AV × Bool)} (h1 : h.length = m) (h2 : ∀ o ∈ h, Alone m o) (hl : AllN m l) : CleanT m (St.of n h l) := by
  refine ⟨h1, h2, fun x hx => ?_⟩
  have key : ∀ p ∈ l, Below m p.2.1 := by
    clear hx
    induction l with
    | nil => intro p hp; cases hp
    | cons q r ih =>
      intro p hp
      rcases List.mem_cons.1 hp with rfl | hp
      · exact hl.1
      · exact ih hl.2 p hp
  simp only [St.a, St.of, List.mem_map] at hx
  obtain ⟨j, _, rfl⟩ := hx
  rcases of_get l .nil j with h1 | ⟨p, hp, h1⟩
  · rw [h1, PT.get_nil]; exact .junk
  · rw [h1]; exact key p hp

/-! ### Results as data -/
theorem fl_congr {s n : Nat} {f g : Nat → List AV} (h : ∀ i, i < n → f i = g i) {w : World} {M : Map} {u : Value} (hu : RV w M u (.fl s n f)) : RV w M u (.fl s n g) := by
  have e : (List.range n).map f = (List.range n).map g := List.map_congr_left fun i hi => h i (List.mem_range.1 hi)
  cases hu with
  | fl _ _ _ _ hu => exact .fl _ _ _ _ (e ▸ hu)
theorem re_sV {π : Nat → Option Nat} {σ : Heap} {s r : Nat} {rows : List (List AV)} (ho : σ[r]? = some (sO rows)) (hπ : ∀ q, π q ≠ some r) (hl : ∀ x ∈ rows, x.length = s) (hb : ∀ x ∈ rows, ∀ y ∈ x, Re G0 π σ y y) : Re G0 π σ (sV s r rows) (.fl s rows.length fun i => rows.getD i []) := by
  cases rows with
  | nil => exact fun w M v hi hv => by cases hv; exact .fl _ _ _ _ (.sl0 _ _ _)
  | cons x l =>
    refine Re.data (cells := (x :: l).flatten) ho hπ (by rw [flatS_len hl, List.length_cons]; exact Nat.le_refl _) (fun i hi => hl _ (getD_mem (L := x :: l) hi)) fun i j y hi hj => ⟨y, ?_, hb _ (getD_mem (L := x :: l) hi) y (List.mem_of_getElem? hj)⟩
    have hjs : j < s := by
      have := (List.getElem?_eq_some_iff.1 hj).1
      rwa [hl _ (getD_mem (L := x :: l) hi)] at this
    have key : ∀ (L : List (List AV)) (i : Nat), (∀ x ∈ L, x.length = s) → i < L.length → L.flatten[i * s + j]? = (L.getD i [])[j]? := by
      intro L
      induction L with
      | nil => intro i _ h; simp at h
      | cons z t ih =>
        intro i h1 h2
        rw [List.flatten_cons]
        cases i with
        | zero =>
          rw [Nat.zero_mul, Nat.zero_add, List.getElem?_append_left (by rw [h1 z (by simp)]; exact hjs)]
          rfl
        | succ i =>
          have e : (i + 1) * s + j = z.length + (i * s + j) := by rw [h1 z (by simp), Nat.succ_mul]; omega
          rw [e, List.getElem?_append_right (by omega), Nat.add_sub_cancel_left, ih i (fun r hr => h1 r (by simp [hr])) (by simpa using h2)]
          simp
    rw [key (x :: l) i hl hi]
    exact hj
def noneP : Nat → Option Nat := fun _ => none
theorem ACall.out {f : FuncId} {args : List AV} {v v' : AV} {σ1 : Heap} {k : Nat} (h : ACall Try.prog G0 f args (List.replicate k .resv) v σ1) (hv : Re G0 noneP σ1 v v') (hb : Below 0 v') (ha : ∀ x ∈ args, Below 0 x) (σ : Heap) : ACall Try.prog G0 f args σ v' σ := by
  have h1 : ACall Try.prog G0 f args [] v σ1 := ACall.rooms (σ := []) k h
  have h2 : ACall Try.prog G0 f args [] v' [] := h1.re ⟨gbelow0, fun r o h => (by simp at h), fun r r' q h => (by cases h), fun r q h => (by cases h), fun r o h => by simp at h⟩ hv
  exact h2.lift0 hb gbelow0 ha σ
/-- Lists of integers, as rows. -/
def rowI (L : List Int) : List (List AV) := L.map fun n => [I n]
theorem rowI_len (L : List Int) : ∀ x ∈ rowI L, x.length = 1 := fun x hx => by
  obtain ⟨n, _, rfl⟩ := List.mem_map.1 hx; rfl
theorem rowI_flat {L : List Int} : ∀ x ∈ rowI L, ∀ y ∈ x, Below 0 y := fun x hx y hy => by
  obtain ⟨n, _, rfl⟩ := List.mem_map.1 hx
  rw [List.mem_singleton.1 hy]
  exact .int _ _
theorem rowI_getD (L : List Int) {i : Nat} (hi : i < L.length) : (rowI L).getD i [] = [I (L.getD i 0)] := by
  unfold rowI
  simp [List.getD_eq_getElem?_getD, hi]
theorem re_ints {π : Nat → Option Nat} {σ : Heap} {r : Nat} {L : List Int} (ho : σ[r]? = some (sO (rowI L))) (hπ : ∀ q, π q ≠ some r) : Re G0 π σ (sV 1 r (rowI L)) (flL L) := by
  have h := re_sV ho hπ (rowI_len L) (fun x hx y hy => Re.flat (rowI_flat x hx y hy))
  have e : (rowI L).length = L.length := by simp [rowI]
  rw [e] at h
  exact h.conv fun w M v hv => fl_congr (fun i hi => rowI_getD L hi) hv
theorem alone_sO {m : Nat} {rows : List (List AV)} (h : ∀ x ∈ rows, ∀ y ∈ x, Below m y) : Alone m (sO rows) := by
  cases rows with
  | nil => trivial
  | cons x l =>
    intro y hy
    obtain ⟨z, hz, hy⟩ := List.mem_flatten.1 hy
    exact h z hz y hy
theorem below_sV {m s r : Nat} {rows : List (List AV)} (h : r < m) : Below m (sV s r rows) := by
  cases rows with
  | nil => exact .zs
  | cons x l => exact .ms _ _ _ _ _ _ h
theorem rowI_app (L : List Int) (n : Int) : rowI L ++ [[I n]] = rowI (L ++ [n]) := by simp [rowI]
end Go.Proofs.Ytngaihdpmoajeaa.Am

namespace Go.Proofs.Ytngaihdpmoajeaa.Am
open Go
set_option maxRecDepth 100000

/-- The rules that are broken, of the first k. -/
def brkL (p : Pb) (a : List Int) : Nat → List Int
  | 0 => []
  | k + 1 => if leastA (p.R.getD k r0) a > (p.R.getD k r0).m then brkL p a k ++ [(k : Int)] else brkL p a k
theorem brkL_len (p : Pb) (a : List Int) : ∀ k, (brkL p a k).length ≤ k
  | 0 => Nat.le_refl _
  | k + 1 => by
    have := brkL_len p a k
    unfold brkL
    split
    · rw [List.length_append, List.length_singleton]; omega
    · omega
def brkR (p : Pb) (a : List Int) : AV := .tup [flL (if whole p a = 0 then brkL p a p.R.length else []), I (whole p a)]
/-- Calls that are known, and a list that grows. -/
def EH (q : Prop) (l : List (FuncId × List AV × AV)) (H : Heap → Oper → (Operand → Option AV) → Option (AV × Bool × Heap × Prop)) : Env := { EG q l with hint := H }
theorem clokH {q : Prop} {l : List (FuncId × List AV × AV)} {H : Heap → Oper → (Operand → Option AV) → Option (AV × Bool × Heap × Prop)} (hl : q → ∀ p ∈ l, ∀ σ, ACall Try.prog G0 p.1 p.2.1 σ p.2.2 σ) (hH : HintOk Try.prog G0 H) : ClOk Try.prog G0 (EH q l H) :=
  .all hH (clokG hl).clh (fun l xs σ t v σ' h => (by cases h)) (clokG hl).cl

/-! ### The program's -/
noncomputable def body24 : Code := (loopsOf (bodyOf Try.prog 24)).headD .skip
noncomputable def inner24 : Code := (loopsOf body24).headD .skip
theorem loops24 : loopsOf (bodyOf Try.prog 24) = [body24, inner24] := by kernel_rfl
theorem loops24i : loopsOf body24 = [inner24] := by kernel_rfl
theorem loops24u : (∀ x ∈ loopsOf (bodyOf Try.prog 24), idOf x = 6 → x = body24) ∧ ∀ x ∈ loopsOf (bodyOf Try.prog 24), idOf x = 10 → x = inner24 := two_loops loops24 (by kernel_rfl) (by kernel_rfl) (by omega)
def st24 (p : Pb) (a : List Int) (v : AV) (o : AObj) (k : Int) (b : Bool) : St := .of 59 [o] [(1, flL a, true), (2, .row (pbC p) 0, true), (7, v, b), (20, flR p.R, true), (21, I p.R.length, true), (22, I k, true)]
def st24i (p : Pb) (a : List Int) (v : AV) (o : AObj) (k : Int) (x : Rl) (s j : Int) : St := .of 59 [o, .cells 0 (rlC x)] [(1, flL a, true), (2, .row (pbC p) 0, true), (7, v, true), (8, I k, true), (9, .ref 1 0 0, true), (10, I s, true), (20, flR p.R, true), (21, I p.R.length, true), (22, I k, true), (28, flL x.v, true), (29, I x.v.length, true), (30, I j, true)]
def keep24 : List Nat := [1, 2, 7, 20, 21, 22]
def keep24i : List Nat := [1, 2, 7, 8, 9, 10, 20, 21, 22, 28, 29, 30]
theorem run24i (p : Pb) (a : List Int) (v : AV) (o : AObj) (k : Int) (x : Rl) (s j : Int) : xBody Try.prog G0 {} 200 noLoops keep24i inner24 (st24i p a v o k x s j) = .ite (decide (j < (↑x.v.length : Int))) (.need (((0 : Int) ≤ j) ∧ (j < (↑x.v.length : Int))) (.need (((0 : Int) ≤ j) ∧ (j < (↑x.w.length : Int))) (.need (((0 : Int) ≤ x.v.getD j.toNat (0 : Int)) ∧ (x.v.getD j.toNat (0 : Int) < (↑a.length : Int))) (.need (((0 : Int) ≤ a.getD (x.v.getD j.toNat (0 : Int)).toNat (0 : Int)) ∧ (a.getD (x.v.getD j.toNat (0 : Int)).toNat (0 : Int) < (↑(x.w.getD j.toNat []).length : Int))) (.leaf (Exit.normal, St.of 59 [o, (AObj.cells ((0 : Nat)) [(I (x.d)), (flL (x.v)), (flLL (x.w)), (I (x.m))])] [(1, (flL (a)), true), (2, (AV.row [(flL (p.V)), (flLL (p.C)), (flR (p.R))] ((0 : Nat))), true), (7, v, true), (8, (I k), true), (9, (AV.ref ((1 : Nat)) ((0 : Nat)) ((0 : Nat))), true), (10, (I (IntKind.i64.wrap (s + (x.w.getD j.toNat []).getD (a.getD (x.v.getD j.toNat (0 : Int)).toNat (0 : Int)).toNat (0 : Int)))), true), (20, (flR (p.R)), true), (21, (I ((↑p.R.length : Int))), true), (22, (I k), true), (28, (flL (x.v)), true), (29, (I ((↑x.v.length : Int))), true), (30, (I (IntKind.i64.wrap (j + (1 : Int)))), true)])))))) (.leaf ((Exit.exit ((2 : Nat))), St.of 59 [o, (AObj.cells ((0 : Nat)) [(I (x.d)), (flL (x.v)), (flLL (x.w)), (I (x.m))])] [(1, (flL (a)), true), (2, (AV.row [(flL (p.V)), (flLL (p.C)), (flR (p.R))] ((0 : Nat))), true), (7, v, true), (8, (I k), true), (9, (AV.ref ((1 : Nat)) ((0 : Nat)) ((0 : Nat))), true), (10, (I s), true), (20, (flR (p.R)), true), (21, (I ((↑p.R.length : Int))), true), (22, (I k), true), (28, (flL (x.v)), true), (29, (I ((↑x.v.length : Int))), true), (30, (I j), true)])) := by kernel_rfl
theorem run24 (q g : Prop) (p : Pb) (a : List Int) (v v' : AV) (o o' : AObj) (k s j : Int) : xBodyT (EH q [] (hApO 22 1 0 [I k] v v' o o' g)) 200 (lpB 10 keep24i (st24i p a v o k (p.R.getD k.toNat r0) 0 0) (.exit 2) (st24i p a v o k (p.R.getD k.toNat r0) s j)) keep24 1 body24 (st24 p a v o k true) = .ite (decide (k < (↑p.R.length : Int))) (.need (((0 : Int) ≤ k) ∧ (k < (↑p.R.length : Int))) (.need ((st24i p a v o k (p.R.getD k.toNat r0) 0 0).vals = (st24i p a v o k (p.R.getD k.toNat r0) 0 0).vals) (.ite (decide (s > (p.R.getD k.toNat r0).m)) (.need (((Option.some [v, (AV.sl (Try.prog.types[(3 : Nat)].size) [[(I k)]])]) = (Option.some [v, (AV.sl ((1 : Nat)) [[(I k)]])])) ∧ (((Option.some o) = (Option.some o)) ∧ (g))) (.leaf (Exit.normal, St.of 59 [o'] [(1, (flL (a)), true), (2, (AV.row [(flL (p.V)), (flLL (p.C)), (flR (p.R))] ((0 : Nat))), true), (7, v', true), (20, (flR (p.R)), true), (21, (I ((↑p.R.length : Int))), true), (22, (I (IntKind.i64.wrap (k + (1 : Int)))), true)]))) (.leaf (Exit.normal, St.of 59 [o] [(1, (flL (a)), true), (2, (AV.row [(flL (p.V)), (flLL (p.C)), (flR (p.R))] ((0 : Nat))), true), (7, v, true), (20, (flR (p.R)), true), (21, (I ((↑p.R.length : Int))), true), (22, (I (IntKind.i64.wrap (k + (1 : Int)))), true)]))))) (.leaf ((Exit.exit ((0 : Nat))), St.of 59 [o] [(1, (flL (a)), true), (2, (AV.row [(flL (p.V)), (flLL (p.C)), (flR (p.R))] ((0 : Nat))), true), (7, v, true), (20, (flR (p.R)), true), (21, (I ((↑p.R.length : Int))), true), (22, (I k), true)])) := by kernel_rfl
theorem runF24 (p : Pb) (a : List Int) (c : Int) (v : AV) (o : AObj) (k : Int) : xenter Try.prog (EG True [(52, [pAV p, flL a], I c)]) (xCode Try.prog G0 (EG True [(52, [pAV p, flL a], I c)]) 200 (lpB 6 keep24 (st24 p a .zs .resv 0 true) (.exit 0) (st24 p a v o k true))) 24 [pAV p, flL a] [true, true] [.resv] = .need (True) (.need ([(AV.agg [(flL (p.V)), (flLL (p.C)), (flR (p.R))]), (flL (a))] = [(AV.agg [(flL (p.V)), (flLL (p.C)), (flR (p.R))]), (flL (a))]) (.ite (c != (0 : Int)) (.leaf ((AV.tup [AV.zs, (I c)]), true, [AObj.resv])) (.need ((st24 p a .zs .resv 0 true).vals = (st24 p a .zs .resv 0 true).vals) (.leaf ((AV.tup [v, (I ((0 : Int)))]), true, [o]))))) := by kernel_rfl
theorem runG24 (p : Pb) (a : List Int) (c : Int) : xenter Try.prog (EG True [(52, [pAV p, flL a], I c)]) (xCode Try.prog G0 (EG True [(52, [pAV p, flL a], I c)]) 200 (lpF 6 keep24 (st24 p a .zs .resv 0 true))) 24 [pAV p, flL a] [true, true] [.resv] = .need (True) (.need ([(AV.agg [(flL (p.V)), (flLL (p.C)), (flR (p.R))]), (flL (a))] = [(AV.agg [(flL (p.V)), (flLL (p.C)), (flR (p.R))]), (flL (a))]) (.ite (c != (0 : Int)) (.leaf ((AV.tup [AV.zs, (I c)]), true, [AObj.resv])) (.need ((st24 p a .zs .resv 0 true).vals = (st24 p a .zs .resv 0 true).vals) .fail))) := by kernel_rfl
theorem full_lt {p : Pb} {a : List Int} (ha : Full p a) {x : Rl} (hx : OkRule p.V x) {k : Nat} (hk : k < x.v.length) : x.v.getD k 0 < a.length := by
  have := hx.v k hk
  have := ha.2
  omega
theorem loop24i {p : Pb} (hp : Ok p) {x : Rl} (hx : OkRule p.V x) (hs : x.sh) {a : List Int} (ha : Full p a) (v : AV) (o : AObj) (k : Int) : LoopA inner24 x.v.length (fun j => st24i p a v o k x (sumK (leastT x a) j) j) (fun j => st24i p a v o k x (sumK (leastT x a) j) j) (st24i p a v o k x (leastA x a) x.v.length) .ret (.exit 2) fun _ => false := by
  refine .lin (fun _ => rfl) rfl nofun fun j hj => ⟨_, _, _, clok0, lpNo _, fun hlt => (congrArg Tree.sel (run24i p a v o k x _ j)).trans ?_, fun he => (congrArg Tree.sel (run24i p a v o k x _ j)).trans ?_⟩
  · have h1 := leastK_bound hp hx ha.1 (k := j + 1) (by omega)
    have h3 := hx.len
    have hc := full_lt ha hx hlt
    have h2 := rule_beg hx ha.1 hlt hc
    have e : sumK (leastT x a) (j + 1) = sumK (leastT x a) j + leastT x a j := rfl
    have e2 : leastT x a j = (x.w.getD j []).getD (a.getD (x.v.getD j 0).toNat 0).toNat 0 := by unfold leastT; rw [dT hc]; rfl
    rw [wrapS hlt hs.1, Int.toNat_natCast, selIt (dT (by omega)), selN ⟨by omega, by omega⟩, ← e2, ← e, wrapI (by omega)]
    exact t_need ⟨by omega, by omega⟩ (t_need ⟨by omega, hc⟩ (t_need ⟨by omega, by omega⟩ rfl))
  · rw [selIf (dF (by omega)), he]
    rfl
theorem grow_I {L : List Int} (hl : L.length < 16777216) (n : Int) (r : Nat) : Grow 1 r [I n] (sV 1 r (rowI L)) (sV 1 r (rowI (L ++ [n]))) (sO (rowI L)) (sO (rowI (L ++ [n]))) :=
  ⟨rowI L, rfl, rfl, by rw [rowI_app], by rw [rowI_app], rowI_len L, rfl, fun x hx => by rw [List.mem_singleton.1 hx]; rfl, by simpa [rowI] using hl⟩
theorem one_alone {m : Nat} {o : AObj} (h : Alone m o) : ∀ o' ∈ [o], Alone m o' := fun o' ho => by rw [List.mem_singleton.1 ho]; exact h
theorem alone_rowI {m : Nat} (L : List Int) : Alone m (sO (rowI L)) := alone_sO fun x hx y hy => (rowI_flat x hx y hy).up
theorem clean24 (p : Pb) (a L : List Int) (k : Int) (b : Bool) : CleanT 1 (st24 p a (sV 1 0 (rowI L)) (sO (rowI L)) k b) :=
  cleanT_of rfl (one_alone (alone_rowI L)) ⟨below_flL _, (below_row (below_pb p)).up, below_sV (by omega), (below_flR _).up, .int _ _, .int _ _, trivial⟩
theorem rule_getD {p : Pb} (hp : Ok p) (k : Nat) : OkRule p.V (p.R.getD k r0) := by
  by_cases hk : k < p.R.length
  · exact hp.rl _ (getD_mem hk)
  · rw [List.getD_eq_getElem?_getD, List.getElem?_eq_none (by omega)]
    have h0 : ∀ {k : Nat}, ¬ k < (Option.getD none r0).v.length := fun {k} h => by simp [r0] at h
    exact ⟨⟨Int.le_refl _, by decide⟩, ⟨by decide, by decide⟩, rfl, fun k h => absurd h h0, fun k h => absurd h h0, fun k h => absurd h h0, fun k h => absurd h h0⟩
theorem loop24 {p : Pb} (hs : p.sh) (hp : Ok p) {a : List Int} (ha : Full p a) : LoopA body24 p.R.length (fun k => st24 p a (sV 1 0 (rowI (brkL p a k))) (sO (rowI (brkL p a k))) k true) (fun k => st24 p a (sV 1 0 (rowI (brkL p a k))) (sO (rowI (brkL p a k))) k true) (st24 p a (sV 1 0 (rowI (brkL p a p.R.length))) (sO (rowI (brkL p a p.R.length))) p.R.length true) .ret (.exit 0) fun _ => false := by
  refine .linT (m := 1) (fun _ => rfl) rfl nofun (fun k => clean24 p a _ k true) (clean24 p a _ _ true) fun k hk => ?_
  have hi := (loop24i hp (rule_getD hp k) (sh_getR hs.2.2.2.2 k) ha (sV 1 0 (rowI (brkL p a k))) (sO (rowI (brkL p a k))) k).okB (fun _ _ => rfl) (c := body24) (i := 10) (keep := keep24i) (one_loop loops24i)
  have hlen := brkL_len p a k
  have hr := hp.r
  have key := congrArg Tree.sel (run24 True True p a (sV 1 0 (rowI (brkL p a k))) (sV 1 0 (rowI (brkL p a k ++ [(k : Int)]))) (sO (rowI (brkL p a k))) (sO (rowI (brkL p a k ++ [(k : Int)]))) k (leastA (p.R.getD k r0) a) (p.R.getD k r0).v.length)
  rw [Int.toNat_natCast] at key
  refine ⟨EH True [] (hApO 22 1 0 [I k] (sV 1 0 (rowI (brkL p a k))) (sV 1 0 (rowI (brkL p a k ++ [(k : Int)]))) (sO (rowI (brkL p a k))) (sO (rowI (brkL p a k ++ [(k : Int)]))) True), _, keep24, clokH (fun _ => nofun) (hApO_ok els22 fun _ => grow_I (by omega) k 0), hi, fun hlt => key.trans ?_, fun he => key.trans ?_⟩
  · rw [wrapS hlt hs.2.2.2.1]
    refine (selIt (dT (by omega))).trans (t_need ⟨by omega, by omega⟩ (t_need rfl (t_ite (fun h1 => t_need ⟨rfl, rfl, trivial⟩ ?_) fun h1 => ?_)))
    · have e : brkL p a (k + 1) = brkL p a k ++ [(k : Int)] := if_pos (of_decide_eq_true h1)
      rw [e]; rfl
    · have e : brkL p a (k + 1) = brkL p a k := if_neg (of_decide_eq_false h1)
      rw [e]; rfl
  · rw [selIf (dF (by omega)), he]
    rfl
theorem re_tup2 {π : Nat → Option Nat} {σ : Heap} {a b a' b' : AV} (ha : Re G0 π σ a a') (hb : Re G0 π σ b b') : Re G0 π σ (.tup [a, b]) (.tup [a', b']) := Re.tup rfl fun j y hj => by
  match j, hj with
  | 0, hj => cases hj; exact ⟨_, rfl, ha⟩
  | 1, hj => cases hj; exact ⟨_, rfl, hb⟩
  | j + 2, hj => simp at hj
theorem re_zs {π : Nat → Option Nat} {σ : Heap} : Re G0 π σ .zs (flL []) := fun _ _ _ _ hv => by cases hv; exact .fl _ _ _ _ (.sl0 _ _ _)
theorem re_int {π : Nat → Option Nat} {σ : Heap} {n : Int} : Re G0 π σ (I n) (I n) := Re.flat (.int _ _)
theorem below_tup2 {n : Nat} {a b : AV} (ha : Below n a) (hb : Below n b) : Below n (.tup [a, b]) := .tup _ fun j x hx => by
  match j, hx with
  | 0, hx => cases hx; exact ha
  | 1, hx => cases hx; exact hb
  | j + 2, hx => simp at hx
theorem below_args2 {p : Pb} {a : List Int} : ∀ x ∈ [pAV p, flL a], Below 0 x := fun x hx => by
  simp only [List.mem_cons, List.not_mem_nil, or_false] at hx
  rcases hx with rfl | rfl
  · exact below_pAV p
  · exact below_flL _
/-- WHAT Broken RETURNS. -/
theorem c24 {p : Pb} (hs : p.sh) {a : List Int} (ha : sh a) (h : Heap) : ACall Try.prog G0 24 [pAV p, flL a] h (brkR p a) h := by
  unfold brkR
  rcases whole_cases p a with ⟨h0, hp, hb⟩ | h0 | h0
  · rw [h0, if_pos rfl]
    have hc : ACall Try.prog G0 24 [pAV p, flL a] [.resv] (.tup [sV 1 0 (rowI (brkL p a p.R.length)), I 0]) [sO (rowI (brkL p a p.R.length))] := by
      refine ACall.says (clokG1 fun _ => h0 ▸ c52 hs ha) ((loop24 hs hp hb).okB (fun _ _ => rfl) loops24u.1) (runF24 p a 0 _ _ _) ?_
      exact says_need trivial (says_need rfl (says_ite (fun h => (by cases h)) fun _ => says_need rfl says_leaf))
    exact hc.out (k := 1) (re_tup2 (re_ints rfl nofun) re_int) (below_tup2 (below_flL _) (.int _ _)) below_args2 h
  · rw [h0, if_neg (by omega)]
    have hc : ACall Try.prog G0 24 [pAV p, flL a] [.resv] (.tup [.zs, I 1]) [.resv] := by
      refine ACall.says (clokG1 fun _ => h0 ▸ c52 hs ha) (lpF_ok 6 _ _ _) (runG24 p a 1) ?_
      exact says_need trivial (says_need rfl (says_ite (fun _ => says_leaf) fun h => by cases h))
    exact hc.out (k := 1) (re_tup2 re_zs re_int) (below_tup2 (below_flL _) (.int _ _)) below_args2 h
  · rw [h0, if_neg (by omega)]
    have hc : ACall Try.prog G0 24 [pAV p, flL a] [.resv] (.tup [.zs, I 2]) [.resv] := by
      refine ACall.says (clokG1 fun _ => h0 ▸ c52 hs ha) (lpF_ok 6 _ _ _) (runG24 p a 2) ?_
      exact says_need trivial (says_need rfl (says_ite (fun _ => says_leaf) fun h => by cases h))
    exact hc.out (k := 1) (re_tup2 re_zs re_int) (below_tup2 (below_flL _) (.int _ _)) below_args2 h

/-! ### The reference's -/
noncomputable def body26 : Code := (loopsOf (bodyOf Try.prog 26)).headD .skip
theorem loops26 : loopsOf (bodyOf Try.prog 26) = [body26] := by kernel_rfl
def st26 (p : Pb) (a : List Int) (v : AV) (o : AObj) (k : Int) (b : Bool) : St := .of 44 [o] [(1, flL a, true), (6, v, b), (25, flR p.R, true), (26, I p.R.length, true), (27, I k, true)]
theorem run26 (q g : Prop) (p : Pb) (a : List Int) (v v' : AV) (o o' : AObj) (k : Int) : xBodyT (EH q [(53, [.agg (rlC (p.R.getD k.toNat r0)), flL a], I (leastA (p.R.getD k.toNat r0) a))] (hApO 22 1 0 [I k] v v' o o' g)) 200 noLoops [1, 6, 25, 26, 27] 1 body26 (st26 p a v o k true) = .ite (decide (k < (↑p.R.length : Int))) (.need (((0 : Int) ≤ k) ∧ (k < (↑p.R.length : Int))) (.need (q) (.need ([(AV.agg [(I ((p.R.getD k.toNat r0).d)), (flL ((p.R.getD k.toNat r0).v)), (flLL ((p.R.getD k.toNat r0).w)), (I ((p.R.getD k.toNat r0).m))]), (flL (a))] = [(AV.agg [(I ((p.R.getD k.toNat r0).d)), (flL ((p.R.getD k.toNat r0).v)), (flLL ((p.R.getD k.toNat r0).w)), (I ((p.R.getD k.toNat r0).m))]), (flL (a))]) (.ite (decide (leastA (p.R.getD k.toNat r0) a > (p.R.getD k.toNat r0).m)) (.need (((Option.some [v, (AV.sl (Try.prog.types[(3 : Nat)].size) [[(I k)]])]) = (Option.some [v, (AV.sl ((1 : Nat)) [[(I k)]])])) ∧ (((Option.some o) = (Option.some o)) ∧ (g))) (.leaf (Exit.normal, St.of 44 [o'] [(1, (flL (a)), true), (6, v', true), (25, (flR (p.R)), true), (26, (I ((↑p.R.length : Int))), true), (27, (I (IntKind.i64.wrap (k + (1 : Int)))), true)]))) (.leaf (Exit.normal, St.of 44 [o] [(1, (flL (a)), true), (6, v, true), (25, (flR (p.R)), true), (26, (I ((↑p.R.length : Int))), true), (27, (I (IntKind.i64.wrap (k + (1 : Int)))), true)])))))) (.leaf ((Exit.exit ((0 : Nat))), St.of 44 [o] [(1, (flL (a)), true), (6, v, true), (25, (flR (p.R)), true), (26, (I ((↑p.R.length : Int))), true), (27, (I k), true)])) := by kernel_rfl
theorem runF26 (p : Pb) (a : List Int) (b c : Bool) (v : AV) (o : AObj) (k : Int) : xenter Try.prog (EG True [(29, [pAV p], .bool b), (43, [pAV p, flL a], .bool c)]) (xCode Try.prog G0 (EG True [(29, [pAV p], .bool b), (43, [pAV p, flL a], .bool c)]) 200 (lpB 7 [1, 6, 25, 26, 27] (st26 p a .zs .resv 0 true) (.exit 0) (st26 p a v o k true))) 26 [pAV p, flL a] [true, true] [.resv] = .need (True) (.need ([(AV.agg [(flL (p.V)), (flLL (p.C)), (flR (p.R))])] = [(AV.agg [(flL (p.V)), (flLL (p.C)), (flR (p.R))])]) (.ite (!b) (.leaf ((AV.tup [AV.zs, (I ((1 : Int)))]), false, [AObj.resv])) (.ite ((↑a.length : Int) != (↑p.V.length : Int)) (.leaf ((AV.tup [AV.zs, (I ((2 : Int)))]), false, [AObj.resv])) (.need (True) (.need ([(AV.agg [(flL (p.V)), (flLL (p.C)), (flR (p.R))]), (flL (a))] = [(AV.agg [(flL (p.V)), (flLL (p.C)), (flR (p.R))]), (flL (a))]) (.ite (!c) (.leaf ((AV.tup [AV.zs, (I ((2 : Int)))]), false, [AObj.resv])) (.need ((st26 p a .zs .resv 0 true).vals = (st26 p a .zs .resv 0 true).vals) (.leaf ((AV.tup [v, (I ((0 : Int)))]), true, [o]))))))))) := by kernel_rfl
theorem runG26 (p : Pb) (a : List Int) (b c : Bool) : xenter Try.prog (EG True [(29, [pAV p], .bool b), (43, [pAV p, flL a], .bool c)]) (xCode Try.prog G0 (EG True [(29, [pAV p], .bool b), (43, [pAV p, flL a], .bool c)]) 200 (lpF 7 [1, 6, 25, 26, 27] (st26 p a .zs .resv 0 true))) 26 [pAV p, flL a] [true, true] [.resv] = .need (True) (.need ([(AV.agg [(flL (p.V)), (flLL (p.C)), (flR (p.R))])] = [(AV.agg [(flL (p.V)), (flLL (p.C)), (flR (p.R))])]) (.ite (!b) (.leaf ((AV.tup [AV.zs, (I ((1 : Int)))]), false, [AObj.resv])) (.ite ((↑a.length : Int) != (↑p.V.length : Int)) (.leaf ((AV.tup [AV.zs, (I ((2 : Int)))]), false, [AObj.resv])) (.need (True) (.need ([(AV.agg [(flL (p.V)), (flLL (p.C)), (flR (p.R))]), (flL (a))] = [(AV.agg [(flL (p.V)), (flLL (p.C)), (flR (p.R))]), (flL (a))]) (.ite (!c) (.leaf ((AV.tup [AV.zs, (I ((2 : Int)))]), false, [AObj.resv])) (.need ((st26 p a .zs .resv 0 true).vals = (st26 p a .zs .resv 0 true).vals) .fail))))))) := by kernel_rfl
theorem runH26 (p : Pb) (a : List Int) : xenter Try.prog (EG True [(29, [pAV p], .bool false)]) (xCode Try.prog G0 (EG True [(29, [pAV p], .bool false)]) 200 (lpF 7 [1, 6, 25, 26, 27] (st26 p a .zs .resv 0 true))) 26 [pAV p, flL a] [true, true] [.resv] = .need (True) (.need ([(AV.agg [(flL (p.V)), (flLL (p.C)), (flR (p.R))])] = [(AV.agg [(flL (p.V)), (flLL (p.C)), (flR (p.R))])]) (.ite (!false) (.leaf ((AV.tup [AV.zs, (I ((1 : Int)))]), false, [AObj.resv])) (.ite ((↑a.length : Int) != (↑p.V.length : Int)) (.leaf ((AV.tup [AV.zs, (I ((2 : Int)))]), false, [AObj.resv])) .fail))) := by kernel_rfl
theorem clean26 (p : Pb) (a L : List Int) (k : Int) (b : Bool) : CleanT 1 (st26 p a (sV 1 0 (rowI L)) (sO (rowI L)) k b) :=
  cleanT_of rfl (one_alone (alone_rowI L)) ⟨below_flL _, below_sV (by omega), (below_flR _).up, .int _ _, .int _ _, trivial⟩
theorem loop26 {p : Pb} (hs : p.sh) (hp : Ok p) {a : List Int} (ha : Beg p a) : LoopA body26 p.R.length (fun k => st26 p a (sV 1 0 (rowI (brkL p a k))) (sO (rowI (brkL p a k))) k true) (fun k => st26 p a (sV 1 0 (rowI (brkL p a k))) (sO (rowI (brkL p a k))) k true) (st26 p a (sV 1 0 (rowI (brkL p a p.R.length))) (sO (rowI (brkL p a p.R.length))) p.R.length true) .ret (.exit 0) fun _ => false := by
  refine .linT (m := 1) (fun _ => rfl) rfl nofun (fun k => clean26 p a _ k true) (clean26 p a _ _ true) fun k hk => ?_
  have hlen := brkL_len p a k
  have hr := hp.r
  have key := congrArg Tree.sel (run26 True True p a (sV 1 0 (rowI (brkL p a k))) (sV 1 0 (rowI (brkL p a k ++ [(k : Int)]))) (sO (rowI (brkL p a k))) (sO (rowI (brkL p a k ++ [(k : Int)]))) k)
  rw [Int.toNat_natCast] at key
  refine ⟨_, _, _, clokH (fun _ z hz σ => ?_) (hApO_ok els22 fun _ => grow_I (by omega) k 0), lpNo _, fun hlt => key.trans ?_, fun he => key.trans ?_⟩
  · obtain rfl := List.mem_singleton.1 hz
    exact c53 hp (rule_getD hp k) (sh_getR hs.2.2.2.2 k) ha σ
  · rw [wrapS hlt hs.2.2.2.1]
    refine (selIt (dT (by omega))).trans (t_need ⟨by omega, by omega⟩ (t_need trivial (t_need rfl (t_ite (fun h1 => t_need ⟨rfl, rfl, trivial⟩ ?_) fun h1 => ?_))))
    · have e : brkL p a (k + 1) = brkL p a k ++ [(k : Int)] := if_pos (of_decide_eq_true h1)
      rw [e]; rfl
    · have e : brkL p a (k + 1) = brkL p a k := if_neg (of_decide_eq_false h1)
      rw [e]; rfl
  · rw [selIf (dF (by omega)), he]
    rfl
theorem c26 {p : Pb} (hs : p.sh) {a : List Int} (ha : sh a) (h : Heap) : ACall Try.prog G0 26 [pAV p, flL a] h (brkR p a) h := by
  unfold brkR
  cases hv : validP p with
  | false =>
    have h0 : whole p a = 1 := by unfold whole; rw [hv]; rfl
    rw [h0, if_neg (by omega)]
    have hc : ACall Try.prog G0 26 [pAV p, flL a] [.resv] (.tup [.zs, I 1]) [.resv] :=
      ACall.says (clokG1 fun _ => hv ▸ c29 hs) (lpF_ok 7 _ _ _) (runH26 p a) (says_need trivial (says_need rfl says_leaf))
    exact hc.out (k := 1) (re_tup2 re_zs re_int) (below_tup2 (below_flL _) (.int _ _)) below_args2 h
  | true =>
    have hp := valid_iff.1 hv
    have hcl : ClOk Try.prog G0 (EG True [(29, [pAV p], .bool true), (43, [pAV p, flL a], .bool (begB p a))]) := clokG fun _ z hz σ => by
      simp only [List.mem_cons, List.not_mem_nil, or_false] at hz
      rcases hz with rfl | rfl
      · exact hv ▸ c29 hs σ
      · exact c43 hp ha σ
    by_cases hf : ((a.length : Int) != p.V.length) = false ∧ begB p a = true
    · have hb := beg_iff.1 hf.2
      have h0 : whole p a = 0 := whole_ok hp ⟨hb, by have := bne_eq_false_iff_eq.1 hf.1; omega⟩
      rw [h0, if_pos rfl]
      have hc : ACall Try.prog G0 26 [pAV p, flL a] [.resv] (.tup [sV 1 0 (rowI (brkL p a p.R.length)), I 0]) [sO (rowI (brkL p a p.R.length))] := by
        refine ACall.says hcl ((loop26 hs hp hb).okB (fun _ _ => rfl) (one_loop loops26)) (runF26 p a _ _ _ _ _) ?_
        rw [hf.1, hf.2]
        exact says_need trivial (says_need rfl (says_ite (fun h => (by cases h)) fun _ => says_ite (fun h => (by cases h)) fun _ => says_need trivial (says_need rfl (says_ite (fun h => (by cases h)) fun _ => says_need rfl says_leaf))))
      exact hc.out (k := 1) (re_tup2 (re_ints rfl nofun) re_int) (below_tup2 (below_flL _) (.int _ _)) below_args2 h
    · have h0 : whole p a = 2 := by
        unfold whole
        rw [hv, cond_true]
        cases h1 : ((a.length : Int) != p.V.length) with
        | true => rfl
        | false =>
          cases h2 : begB p a with
          | false => rfl
          | true => exact absurd ⟨h1, h2⟩ hf
      rw [h0, if_neg (by omega)]
      have hc : ACall Try.prog G0 26 [pAV p, flL a] [.resv] (.tup [.zs, I 2]) [.resv] := by
        refine ACall.says hcl (lpF_ok 7 _ _ _) (runG26 p a _ _) ?_
        refine says_need trivial (says_need rfl (says_ite (fun h => (by cases h)) fun _ => says_ite (fun _ => says_leaf) fun h1 => says_need trivial (says_need rfl (says_ite (fun _ => says_leaf) fun h2 => ?_))))
        exact absurd ⟨h1, by simpa using h2⟩ hf
      exact hc.out (k := 1) (re_tup2 re_zs re_int) (below_tup2 (below_flL _) (.int _ _)) below_args2 h
end Go.Proofs.Ytngaihdpmoajeaa.Am

