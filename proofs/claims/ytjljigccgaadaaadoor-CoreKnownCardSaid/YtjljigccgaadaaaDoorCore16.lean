/-
  This file proves nothing of a law. It says when lists of lists are the same, what the library's Contains returns for a list that nobody changes, and what the chapter's example says. Condition: lists shorter than 2 to the 62.
-/
import Derived.Test.YtjljigccgaadaaaDoorCore15
namespace Go.Proofs.YtjljigccgaadaaaDoor.Am
open Go
set_option maxRecDepth 100000

/-! ### EqualFunc, same -/
noncomputable def body53 : Code := (loopsOf (bodyOf Tryd.prog 53)).headD .skip
def cl26 : FuncId → List AV → Option (Tree AV) := fun f xs => match f, xs with
  | 26, [x, y] => some (.need (x = flL (unL x) ∧ y = flL (unL y) ∧ (unL x).length < 4611686018427387904) (.leaf (.bool (unL x == unL y))))
  | _, _ => none
theorem cl26_ok {f : FuncId} {xs : List AV} {t : Tree AV} {v : AV} (hq : cl26 f xs = some t) (hs : t.sel = some v) (σ : Heap) : ACall Tryd.prog G0 f xs σ v σ := by
  unfold cl26 at hq
  split at hq <;> first | (cases hq; done) | skip
  rename_i x y
  cases hq
  obtain ⟨⟨h1, h2, h3⟩, hs2⟩ := Tree.of_need hs
  cases hs2
  have := c26 (a := unL x) (b := unL y) h3 σ
  rwa [← h1, ← h2] at this
theorem clok26 : ClOk Tryd.prog G0 { cl := cl26 } := .of rfl rfl fun f xs t v h hs σ => cl26_ok h hs σ
def st53 (a b : List (List Int)) (k : Int) (h : Heap) : St := .of 32 h [(1, flLL b, true), (2, .fn 26 [] [], true), (6, .bool false, false), (15, flLL a, true), (16, I a.length, true), (17, I k, true)]
theorem run53 (a b : List (List Int)) (k : Nat) (h : Heap) : xBody Tryd.prog G0 { cl := cl26 } 200 noLoops [1, 2, 6, 15, 16, 17] body53 (st53 a b k h) =
    .ite (decide ((k : Int) < a.length)) (.need (0 ≤ (k : Int) ∧ (k : Int) < a.length) (.need (0 ≤ (k : Int) ∧ (k : Int) < b.length) (.need (flL (a.getD (k : Int).toNat []) = flL (unL (flL (a.getD (k : Int).toNat []))) ∧ flL (b.getD (k : Int).toNat []) = flL (unL (flL (b.getD (k : Int).toNat []))) ∧ (unL (flL (a.getD (k : Int).toNat []))).length < 4611686018427387904)
      (.ite (!(unL (flL (a.getD (k : Int).toNat [])) == unL (flL (b.getD (k : Int).toNat [])))) (.leaf (.ret, st53 a b k h)) (.leaf (.normal, st53 a b (IntKind.i64.wrap (k + 1)) h)))))) (.leaf (.exit 0, st53 a b k h)) := by kernel_rfl
theorem scan53 {a b : List (List Int)} (hl : a.length < 4611686018427387904) (hx : ∀ x ∈ a, x.length < 4611686018427387904) (he : a.length = b.length) (h : Heap) : Scan body53 [1, 2, 6, 15, 16, 17] a.length (fun k => st53 a b k h) (fun k => st53 a b k h) (st53 a b a.length h) fun k => !(a.getD k [] == b.getD k []) := by
  refine ⟨fun _ => rfl, fun _ => rfl, rfl, fun k hk => ⟨_, clok26, ?_⟩⟩
  rw [run53, selI]
  by_cases hlt : k < a.length
  · have hw : IntKind.i64.wrap ((k : Int) + 1) = ((k + 1 : Nat) : Int) := wrap_i64 (by omega) (by omega)
    have hm : (a.getD k []).length < 4611686018427387904 := by
      have : a.getD k [] = a[k] := by simp [List.getD_eq_getElem?_getD, hlt]
      rw [this]; exact hx _ (List.getElem_mem hlt)
    rw [Int.toNat_natCast, unL_flL, unL_flL]
    rw [decide_eq_true (by omega), decide_eq_true hlt, cond_true, cond_true, Tree.sel_need ⟨by omega, by omega⟩, Tree.sel_need ⟨by omega, by omega⟩, Tree.sel_need ⟨rfl, rfl, hm⟩, selI, hw]
    cases !(a.getD k [] == b.getD k []) <;> rfl
  · have : k = a.length := by omega
    subst this
    rw [decide_eq_false (by omega), decide_eq_false hlt]
    rfl
theorem loops53 : loopsOf (bodyOf Tryd.prog 53) = [body53] := by kernel_rfl
theorem id53 : idOf body53 = 4 := by kernel_rfl
theorem runF53 (a b : List (List Int)) (h : Heap) (t : Bool) (p q : Int) : xenter Tryd.prog { cl := cl26 } (xCode Tryd.prog G0 { cl := cl26 } 200 (lpS 4 [1, 2, 6, 15, 16, 17] (st53 a b 0 h) t (st53 a b p h) (st53 a b q h))) 53 [flLL a, flLL b, .fn 26 [] []] [true, true, true] h =
    .ite ((a.length : Int) != b.length) (.leaf (.bool false, false, h)) (.need ((st53 a b 0 h).vals = (st53 a b 0 h).vals) (.ite t (.leaf (.bool false, false, h)) (.leaf (.bool true, false, h)))) := by kernel_rfl
theorem runF53' (a b : List (List Int)) (h : Heap) : xenter Tryd.prog { cl := cl26 } (xCode Tryd.prog G0 { cl := cl26 } 200 (lpF 4 [1, 2, 6, 15, 16, 17] (st53 a b 0 h))) 53 [flLL a, flLL b, .fn 26 [] []] [true, true, true] h =
    .ite ((a.length : Int) != b.length) (.leaf (.bool false, false, h)) (.need ((st53 a b 0 h).vals = (st53 a b 0 h).vals) .fail) := by kernel_rfl
theorem listL_eq_iff (a b : List (List Int)) : a = b ↔ a.length = b.length ∧ ∀ k, k < a.length → a.getD k [] = b.getD k [] := by
  constructor
  · rintro rfl; exact ⟨rfl, fun _ _ => rfl⟩
  · intro ⟨h1, h2⟩
    apply List.ext_getElem h1
    intro k h3 h4
    have := h2 k h3
    simpa [List.getD_eq_getElem?_getD, h3, h4] using this
theorem c53 {a b : List (List Int)} (hl : a.length < 4611686018427387904) (hx : ∀ x ∈ a, x.length < 4611686018427387904) (h : Heap) : ACall Tryd.prog G0 53 [flLL a, flLL b, .fn 26 [] []] h (.bool (a == b)) h := by
  by_cases he : a.length = b.length
  · have hs := scan53 hl hx he h
    refine .find (s := false) (n := 200) (tags := [true, true, true]) clok26 (hs.ok loops53 id53) ?_
    refine (congrArg Tree.sel (runF53 a b h _ _ _)).trans ?_
    rw [selI, bne_eq_false_iff_eq.2 (by omega : (a.length : Int) = b.length), cond_false, selR, selI]
    by_cases hp : fstStop (fun k => !(a.getD k [] == b.getD k [])) a.length 0 < a.length
    · rw [decide_eq_true hp]
      obtain ⟨k, h1, h2⟩ := (fstStop_iff _ _).1 hp
      have : (a == b) = false := beq_eq_false_iff_ne.2 fun e => by subst e; simp at h2
      rw [this]; rfl
    · rw [decide_eq_false hp]
      have : a = b := (listL_eq_iff a b).2 ⟨he, fun k hk => by
        have := fun h => hp ((fstStop_iff _ _).2 ⟨k, hk, h⟩)
        simpa using this⟩
      rw [this, beq_self_eq_true]; rfl
  · refine .find (s := false) (n := 200) (tags := [true, true, true]) clok26 (lpF_ok 4 [1, 2, 6, 15, 16, 17] (st53 a b 0 h) _) ?_
    rw [runF53', selI, bne_iff_ne.2 (by omega : (a.length : Int) ≠ b.length)]
    have : (a == b) = false := beq_eq_false_iff_ne.2 fun e => he (by rw [e])
    rw [this]; rfl
def unLL : AV → List (List Int)
  | .fl _ n r => (List.range n).map fun i => unL ((r i).headD .junk)
  | _ => []
theorem unLL_flLL (L : List (List Int)) : unLL (flLL L) = L := by
  apply List.ext_getElem?
  intro i
  simp only [unLL, flLL, List.getElem?_map]
  by_cases h : i < L.length
  · simp [h, List.getD_eq_getElem?_getD, unL_flL]
  · simp [h]
/-- Few enough elements. -/
def shortLL (a : List (List Int)) : Prop := a.length < 4611686018427387904 ∧ ∀ x ∈ a, x.length < 4611686018427387904
def cl53 : FuncId → List AV → Option (Tree AV) := fun f xs => match f, xs with
  | 53, [x, y, .fn 26 [] []] => some (.need (x = flLL (unLL x) ∧ y = flLL (unLL y) ∧ shortLL (unLL x)) (.leaf (.bool (unLL x == unLL y))))
  | _, _ => none
theorem cl53_ok {f : FuncId} {xs : List AV} {t : Tree AV} {v : AV} (hq : cl53 f xs = some t) (hs : t.sel = some v) (σ : Heap) : ACall Tryd.prog G0 f xs σ v σ := by
  unfold cl53 at hq
  split at hq <;> first | (cases hq; done) | skip
  rename_i x y
  cases hq
  obtain ⟨⟨h1, h2, h3⟩, hs2⟩ := Tree.of_need hs
  cases hs2
  have := c53 (a := unLL x) (b := unLL y) h3.1 h3.2 σ
  rwa [← h1, ← h2] at this
theorem clok53 : ClOk Tryd.prog G0 { cl := cl53 } := .of rfl rfl fun f xs t v h hs σ => cl53_ok h hs σ
theorem run18 (a b : List (List Int)) (h : Heap) : xCall Tryd.prog G0 { cl := cl53 } 200 18 [flLL a, flLL b] [true, true] h = .need (flLL a = flLL (unLL (flLL a)) ∧ flLL b = flLL (unLL (flLL b)) ∧ shortLL (unLL (flLL a))) (.leaf (.bool (unLL (flLL a) == unLL (flLL b)), true, h)) := by kernel_rfl
theorem c18 {a b : List (List Int)} (hl : shortLL a) (h : Heap) : ACall Tryd.prog G0 18 [flLL a, flLL b] h (.bool (a == b)) h := by
  refine xCall_ok (n := 200) (tags := [true, true]) (s := true) names mixed clok53 ?_
  rw [run18, unLL_flLL, unLL_flLL, Tree.sel_need ⟨rfl, rfl, hl⟩]
  rfl

/-! ### Index, Contains -/
noncomputable def body71 : Code := (loopsOf (bodyOf Tryd.prog 71)).headD .skip
def st71 (a : List Int) (x k r : Int) (b : Bool) (h : Heap) : St := .of 19 h [(0, flL a, true), (1, I x, true), (4, I r, b), (7, I a.length, true), (8, I k, true)]
theorem run71 (a : List Int) (x : Int) (k : Nat) (h : Heap) : xBody Tryd.prog G0 {} 200 noLoops [0, 1, 4, 7, 8] body71 (st71 a x k 0 false h) =
    .ite (decide ((k : Int) < a.length)) (.need (0 ≤ (k : Int) ∧ (k : Int) < a.length) (.ite (x == a.getD (k : Int).toNat 0) (.leaf (.ret, st71 a x k k true h)) (.leaf (.normal, st71 a x (IntKind.i64.wrap (k + 1)) 0 false h)))) (.leaf (.exit 0, st71 a x k 0 false h)) := by kernel_rfl
theorem scan71 {a : List Int} (hl : a.length < 4611686018427387904) (x : Int) (h : Heap) : Scan body71 [0, 1, 4, 7, 8] a.length (fun k => st71 a x k 0 false h) (fun k => st71 a x k k true h) (st71 a x a.length 0 false h) fun k => x == a.getD k 0 := by
  refine ⟨fun _ => rfl, fun _ => rfl, rfl, fun k hk => ⟨_, clok0, ?_⟩⟩
  rw [run71, selI]
  by_cases hlt : k < a.length
  · have hw : IntKind.i64.wrap ((k : Int) + 1) = ((k + 1 : Nat) : Int) := wrap_i64 (by omega) (by omega)
    rw [decide_eq_true (by omega), decide_eq_true hlt, cond_true, cond_true, Tree.sel_need ⟨by omega, by omega⟩, selI, Int.toNat_natCast, hw]
    cases x == a.getD k 0 <;> rfl
  · have : k = a.length := by omega
    subst this
    rw [decide_eq_false (by omega), decide_eq_false hlt]
    rfl
theorem loops71 : loopsOf (bodyOf Tryd.prog 71) = [body71] := by kernel_rfl
theorem id71 : idOf body71 = 2 := by kernel_rfl
theorem runF71 (a : List Int) (x : Int) (h : Heap) (t : Bool) (p q : Int) : xenter Tryd.prog {} (xCode Tryd.prog G0 {} 200 (lpS 2 [0, 1, 4, 7, 8] (st71 a x 0 0 false h) t (st71 a x p p true h) (st71 a x q 0 false h))) 71 [flL a, I x] [true, true] h =
    .need ((st71 a x 0 0 false h).vals = (st71 a x 0 0 false h).vals) (.ite t (.leaf (I p, true, h)) (.leaf (I (-1), false, h))) := by kernel_rfl
/-- The first place of a number; none: -1. -/
def index (a : List Int) (x : Int) : Int := bif decide (fstStop (fun k => x == a.getD k 0) a.length 0 < a.length) then ((fstStop (fun k => x == a.getD k 0) a.length 0 : Nat) : Int) else -1
theorem index_nonneg (a : List Int) (x : Int) : decide (index a x ≥ 0) = a.contains x := by
  unfold index
  by_cases hp : fstStop (fun k => x == a.getD k 0) a.length 0 < a.length
  · rw [decide_eq_true hp, cond_true, decide_eq_true (by omega)]
    obtain ⟨k, h1, h2⟩ := (fstStop_iff _ _).1 hp
    have : x = a[k] := by simpa [List.getD_eq_getElem?_getD, h1] using h2
    symm
    rw [List.contains_iff_mem, this]
    exact List.getElem_mem h1
  · rw [decide_eq_false hp, cond_false]
    symm
    rw [show decide ((-1 : Int) ≥ 0) = false from rfl, ← Bool.not_eq_true, List.contains_iff_mem]
    intro hm
    obtain ⟨k, h1, rfl⟩ := List.getElem_of_mem hm
    exact hp ((fstStop_iff _ _).2 ⟨k, h1, by simp [List.getD_eq_getElem?_getD, h1]⟩)
theorem c71 {a : List Int} (hl : a.length < 4611686018427387904) (x : Int) (h : Heap) : ACall Tryd.prog G0 71 [flL a, I x] h (I (index a x)) h := by
  refine .find (s := decide (fstStop (fun k => x == a.getD k 0) a.length 0 < a.length)) (n := 200) (tags := [true, true]) clok0 ((scan71 hl x h).ok loops71 id71) ?_
  refine (congrArg Tree.sel (runF71 a x h _ _ _)).trans ?_
  rw [selR, selI]
  unfold index
  cases decide (fstStop (fun k => x == a.getD k 0) a.length 0 < a.length) <;> rfl
def cl71 : FuncId → List AV → Option (Tree AV) := fun f xs => match f, xs with
  | 71, [x, .int .i64 y] => some (.need (x = flL (unL x) ∧ (unL x).length < 4611686018427387904) (.leaf (I (index (unL x) y))))
  | _, _ => none
theorem clok71 : ClOk Tryd.prog G0 { cl := cl71 } := .of rfl rfl fun f xs t v hq hs σ => by
  replace hq : cl71 f xs = some t := hq
  unfold cl71 at hq
  split at hq <;> first | (cases hq; done) | skip
  rename_i x y
  cases hq
  obtain ⟨⟨h1, h3⟩, hs2⟩ := Tree.of_need hs
  cases hs2
  have := c71 (a := unL x) h3 y σ
  rwa [← h1] at this
theorem run55 (a : List Int) (x : Int) (h : Heap) : xCall Tryd.prog G0 { cl := cl71 } 200 55 [flL a, I x] [true, true] h = .need (flL a = flL (unL (flL a)) ∧ (unL (flL a)).length < 4611686018427387904) (.leaf (.bool (decide (index (unL (flL a)) x ≥ 0)), true, h)) := by kernel_rfl
theorem c55 {a : List Int} (hl : a.length < 4611686018427387904) (x : Int) (h : Heap) : ACall Tryd.prog G0 55 [flL a, I x] h (.bool (a.contains x)) h := by
  refine xCall_ok (n := 200) (tags := [true, true]) (s := true) names mixed clok71 ?_
  rw [run55, unL_flL, Tree.sel_need ⟨rfl, hl⟩, index_nonneg]
  rfl

/-! ### The chapter's example -/
def cl55 : FuncId → List AV → Option (Tree AV) := fun f xs => match f, xs with
  | 55, [x, .int .i64 y] => some (.need (x = flL (unL x) ∧ (unL x).length < 4611686018427387904) (.leaf (.bool ((unL x).contains y))))
  | _, _ => none
theorem clok55 : ClOk Tryd.prog G0 { cl := cl55 } := .of rfl rfl fun f xs t v hq hs σ => by
  replace hq : cl55 f xs = some t := hq
  unfold cl55 at hq
  split at hq <;> first | (cases hq; done) | skip
  rename_i x y
  cases hq
  obtain ⟨⟨h1, h3⟩, hs2⟩ := Tree.of_need hs
  cases hs2
  have := c55 (a := unL x) h3 y σ
  rwa [← h1] at this
/-- What the example says of a list. -/
def exF (a : List Int) : Bool := !(a.contains 0 && a.contains 2) && !(a.contains 1 && a.contains 2) && !a.contains 3
def exN (a : List Int) (x : Tree (AV × Bool × Heap)) : Tree (AV × Bool × Heap) := .need (flL a = flL (unL (flL a)) ∧ (unL (flL a)).length < 4611686018427387904) x
def exB (a : List Int) (x : Int) : Bool := (unL (flL a)).contains x
def exT (a : List Int) (f l : Tree (AV × Bool × Heap)) : Tree (AV × Bool × Heap) := exN a (.ite (exB a 1) (exN a (.ite (!exB a 2) l f)) l)
def exL (a : List Int) (h : Heap) : Tree (AV × Bool × Heap) := exN a (.leaf (.bool (!exB a 3), true, h))
theorem run19 (a : List Int) (h : Heap) : xCall Tryd.prog G0 { cl := cl55 } 200 19 [flL a] [true] h =
    exN a (.ite (exB a 0) (exN a (.ite (!exB a 2) (exT a (.leaf (.bool false, false, h)) (exL a h)) (.leaf (.bool false, false, h)))) (exT a (.leaf (.bool false, false, h)) (exL a h))) := by kernel_rfl
theorem exN_sel {a : List Int} (hl : a.length < 4611686018427387904) (x : Tree (AV × Bool × Heap)) : (exN a x).sel = x.sel := Tree.sel_need (by rw [unL_flL]; exact ⟨rfl, hl⟩)
theorem exT_sel {a : List Int} (hl : a.length < 4611686018427387904) (f l : Tree (AV × Bool × Heap)) : (exT a f l).sel = bif a.contains 1 && a.contains 2 then f.sel else l.sel := by
  unfold exT
  rw [exN_sel hl, selI, exN_sel hl, selI]
  unfold exB
  rw [unL_flL]
  cases a.contains 1 <;> cases a.contains 2 <;> rfl
theorem c19 {a : List Int} (hl : a.length < 4611686018427387904) (h : Heap) : ACall Tryd.prog G0 19 [flL a] h (.bool (exF a)) h := by
  refine xCall_ok (n := 200) (tags := [true]) (s := !(a.contains 0 && a.contains 2) && !(a.contains 1 && a.contains 2)) names mixed clok55 ?_
  rw [run19, exN_sel hl, selI, exN_sel hl, selI, exT_sel hl]
  unfold exL exF
  rw [exN_sel hl]
  unfold exB
  rw [unL_flL]
  cases a.contains 0 <;> cases a.contains 1 <;> cases a.contains 2 <;> cases a.contains 3 <;> rfl
end Go.Proofs.YtjljigccgaadaaaDoor.Am
