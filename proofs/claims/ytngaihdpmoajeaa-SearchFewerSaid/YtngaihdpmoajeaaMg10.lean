/-
  This file proves nothing of a law. It holds lemmas, of 12 texts in their order. No condition of its own.
-/
import Derived.Test.YtngaihdpmoajeaaMg9
import Derived.Test.YtngaihdpmoajeaaMg3
import Derived.SizedLaws
import Derived.Test.YtngaihdpmoajeaaMg8
import Derived.Test.YtngaihdpmoajeaaMg7
namespace Go.Proofs.Ytngaihdpmoajeaa.Am
open Go
set_option maxRecDepth 100000

/-! ### Lists, read off plain values -/
def mapO {α β : Type} (f : α → Option β) : List α → Option (List β)
  | [] => some []
  | x :: r => match f x, mapO f r with
    | some y, some ys => some (y :: ys)
    | _, _ => none
theorem mapO_ok {α β : Type} {f : α → Option β} : ∀ {l : List α} {ys : List β}, mapO f l = some ys → ys.length = l.length ∧ ∀ (i : Nat) (y : β), ys[i]? = some y → ∃ x, l[i]? = some x ∧ f x = some y
  | [], ys, h => by cases h; exact ⟨rfl, fun i y hi => by simp at hi⟩
  | x :: r, ys, h => by
    unfold mapO at h
    split at h
    · rename_i y zs hy hz
      cases h
      obtain ⟨h1, h2⟩ := mapO_ok hz
      refine ⟨by simp [h1], fun i z hi => ?_⟩
      cases i with
      | zero => simp at hi; subst hi; exact ⟨x, rfl, hy⟩
      | succ i => simpa using h2 i z (by simpa using hi)
    · cases h
/-- Rows of a slice. -/
def decRows {α : Type} (s : Nat) (f : List AV → Option α) : AV → Option (List α)
  | .zs => some []
  | .sl s' rows => bif Nat.beq s' s then mapO f rows else none
  | .fl s' n r => bif Nat.beq s' s then mapO (fun i => f (r i)) (List.range n) else none
  | _ => none
/-- What a row is told as. -/
def RowOk {α : Type} (f : List AV → Option α) (q : α → List AV) : Prop := ∀ r x, f r = some x → ∀ (j : Nat) (y' : AV), (q x)[j]? = some y' → ∃ y, r[j]? = some y ∧ Sub y y'
theorem RV.rowsS {w : World} {M : Map} {u : Value} {α : Type} {s : Nat} {q : α → List AV} {d : α} {rows : List (List AV)} {L : List α} (hq : ∀ x, (q x).length = s) (hl : L.length = rows.length) (hx : ∀ (i : Nat) (x : α), L[i]? = some x → ∃ r, rows[i]? = some r ∧ ∀ (j : Nat) (y' : AV), (q x)[j]? = some y' → ∃ y, r[j]? = some y ∧ Sub y y') (h : RV w M u (.sl s rows)) : RV w M u (.fl s L.length fun i => q (L.getD i d)) := by
  refine .fl _ _ _ _ ?_
  have hlen : ((List.range L.length).map fun i => q (L.getD i d)).length = L.length := by simp
  have ge : ∀ (i : Nat) (r : List AV), ((List.range L.length).map fun i => q (L.getD i d))[i]? = some r → ∃ x, L[i]? = some x ∧ r = q x := by
    intro i r hi
    have hil : i < L.length := by have := (List.getElem?_eq_some_iff.1 hi).1; rwa [hlen] at this
    rw [List.getElem?_map, List.getElem?_range hil] at hi
    cases hi
    exact ⟨L[i], List.getElem?_eq_getElem hil, by show q (L.getD i d) = q L[i]; rw [List.getD_eq_getElem?_getD, List.getElem?_eq_getElem hil]; rfl⟩
  cases h with
  | sl0 base cap _ =>
    have : L = [] := by simpa using hl
    subst this
    exact .sl0 _ _ _
  | sl b o cap size f rows hb hc hl2 h hcap =>
    have e : rows.length = ((List.range L.length).map fun i => q (L.getD i d)).length := by rw [hlen, hl]
    rw [e]
    refine .sl b o cap s f _ hb (fun i r j hi hj => ?_) (fun i r hi => ?_) (fun i r j x hi hj => ?_) (by rw [← e]; exact hcap)
    · obtain ⟨x, h1, _⟩ := ge i r hi
      obtain ⟨r', h2, _⟩ := hx i x h1
      exact hc i _ j h2 hj
    · obtain ⟨x, _, rfl⟩ := ge i r hi; exact hq x
    · obtain ⟨z, h1, rfl⟩ := ge i r hi
      obtain ⟨r', h2, h3⟩ := hx i z h1
      obtain ⟨y, h4, h5⟩ := h3 j x hj
      exact h5 _ _ _ (h i _ j _ h2 h4)
theorem decRows_ok {α : Type} {s : Nat} {f : List AV → Option α} {q : α → List AV} (hf : RowOk f q) (hq : ∀ x, (q x).length = s) (d : α) {x : AV} {L : List α} (h : decRows s f x = some L) : Sub x (.fl s L.length fun i => q (L.getD i d)) := by
  intro w M u hv
  unfold decRows at h
  split at h
  · cases h
    cases hv
    exact .fl _ _ _ _ (.sl0 _ _ _)
  · rename_i s' rows
    cases hs : Nat.beq s' s with
    | false => rw [hs] at h; cases h
    | true =>
      rw [hs, cond_true] at h
      obtain rfl := Nat.eq_of_beq_eq_true hs
      obtain ⟨h1, h2⟩ := mapO_ok h
      exact RV.rowsS hq h1 (fun i x hi => by
        obtain ⟨r, hr, hd⟩ := h2 i x hi
        exact ⟨r, hr, hf r x hd⟩) hv
  · rename_i s' n r
    cases hs : Nat.beq s' s with
    | false => rw [hs] at h; cases h
    | true =>
      rw [hs, cond_true] at h
      obtain rfl := Nat.eq_of_beq_eq_true hs
      obtain ⟨h1, h2⟩ := mapO_ok h
      cases hv with
      | fl _ _ _ _ hv =>
        refine RV.rowsS hq (by simpa using h1) (fun i x hi => ?_) hv
        obtain ⟨k, hk, hd⟩ := h2 i x hi
        obtain ⟨hlt, hk2⟩ := List.getElem?_eq_some_iff.1 hk
        have : k = i := by simpa using hk2.symm
        subst this
        exact ⟨r k, by rw [List.getElem?_map, hk]; rfl, hf _ _ hd⟩
  · cases h
def decI : AV → Option Int
  | .int .i64 n => some n
  | _ => none
theorem decI_ok {x : AV} {n : Int} (h : decI x = some n) : x = I n := by
  unfold decI at h
  split at h
  · cases h; rfl
  · cases h
def row1 {α : Type} (f : AV → Option α) : List AV → Option α
  | [x] => f x
  | _ => none
theorem row1_ok {α : Type} {f : AV → Option α} {q : α → AV} (hf : ∀ x y, f x = some y → Sub x (q y)) : RowOk (row1 f) fun x => [q x] := by
  intro r x h j y' hj
  unfold row1 at h
  split at h
  · match j, hj with
    | 0, hj => cases hj; exact ⟨_, rfl, hf _ _ h⟩
    | j + 1, hj => simp at hj
  · cases h
def decL : AV → Option (List Int) := decRows 1 (row1 decI)
theorem decL_ok {x : AV} {L : List Int} (h : decL x = some L) : Sub x (flL L) := decRows_ok (row1_ok (q := I) fun _ _ h => by rw [decI_ok h]; exact sub_refl _) (fun _ => rfl) 0 h
def decLL : AV → Option (List (List Int)) := decRows 1 (row1 decL)
theorem decLL_ok {x : AV} {L : List (List Int)} (h : decLL x = some L) : Sub x (flLL L) := decRows_ok (row1_ok (q := flL) fun _ _ h => decL_ok h) (fun _ => rfl) [] h
def decRl : List AV → Option Rl
  | [a, b, c, d] => match decI a, decL b, decLL c, decI d with
    | some d, some v, some w, some m => some ⟨d, v, w, m⟩
    | _, _, _, _ => none
  | _ => none
theorem decRl_ok : RowOk decRl rlC := by
  intro r x h j y' hj
  unfold decRl at h
  split at h
  · split at h
    · rename_i h1 h2 h3 h4
      cases h
      match j, hj with
      | 0, hj => cases hj; exact ⟨_, rfl, by rw [decI_ok h1]; exact sub_refl _⟩
      | 1, hj => cases hj; exact ⟨_, rfl, decL_ok h2⟩
      | 2, hj => cases hj; exact ⟨_, rfl, decLL_ok h3⟩
      | 3, hj => cases hj; exact ⟨_, rfl, by rw [decI_ok h4]; exact sub_refl _⟩
      | j + 4, hj => simp [rlC] at hj
    · cases h
  · cases h
def decRs : AV → Option (List Rl) := decRows 4 decRl
theorem decRs_ok {x : AV} {L : List Rl} (h : decRs x = some L) : Sub x (flR L) := decRows_ok decRl_ok (fun _ => rfl) r0 h
def decP : AV → Option Pb
  | .agg [a, b, c] => match decL a, decLL b, decRs c with
    | some V, some C, some R => some ⟨V, C, R⟩
    | _, _, _ => none
  | _ => none
theorem decP_ok {x : AV} {p : Pb} (h : decP x = some p) : Sub x (pAV p) := by
  unfold decP at h
  split at h
  · split at h
    · rename_i a b c _ _ _ V C R h1 h2 h3
      cases h
      intro w M u hu
      cases hu with
      | agg vs _ h4 h5 => exact .agg vs _ (by simpa [pbC] using h4) fun j y hj => (by
          match j, hj with
          | 0, hj => cases hj; exact decL_ok h1 _ _ _ (h5 0 a rfl)
          | 1, hj => cases hj; exact decLL_ok h2 _ _ _ (h5 1 b rfl)
          | 2, hj => cases hj; exact decRs_ok h3 _ _ _ (h5 2 c rfl)
          | j + 3, hj => simp [pbC] at hj)
    · cases h
  · cases h
def shB {α : Type} (L : List α) : Bool := Nat.blt L.length 4611686018427387904
theorem shB_ok {α : Type} {L : List α} (h : shB L = true) : sh L := by
  unfold shB Nat.blt at h
  exact Nat.le_of_ble_eq_true h
def shRl (x : Rl) : Bool := shB x.v && (shB x.w && x.w.all shB)
def shPb (p : Pb) : Bool := shB p.V && (shB p.C && (p.C.all shB && (shB p.R && p.R.all shRl)))
theorem shRl_ok {x : Rl} (h : shRl x = true) : x.sh := by
  unfold shRl at h
  rw [Bool.and_eq_true, Bool.and_eq_true, List.all_eq_true] at h
  exact ⟨shB_ok h.1, shB_ok h.2.1, fun l hl => shB_ok (h.2.2 l hl)⟩
theorem shPb_ok {p : Pb} (h : shPb p = true) : p.sh := by
  unfold shPb at h
  rw [Bool.and_eq_true, Bool.and_eq_true, Bool.and_eq_true, Bool.and_eq_true, List.all_eq_true, List.all_eq_true] at h
  exact ⟨shB_ok h.1, shB_ok h.2.1, fun l hl => shB_ok (h.2.2.1 l hl), shB_ok h.2.2.2.1, fun x hx => shRl_ok (h.2.2.2.2 x hx)⟩
def getP (x : AV) (k : Pb → AV) : Option (Tree AV) := match decP x with
  | some p => bif shPb p then some (.leaf (k p)) else none
  | none => none
theorem getP_ok {x : AV} {k : Pb → AV} {t : Tree AV} (h : getP x k = some t) : ∃ p, Sub x (pAV p) ∧ p.sh ∧ t = .leaf (k p) := by
  unfold getP at h
  split at h
  · rename_i p hp
    cases hs : shPb p with
    | false => rw [hs] at h; cases h
    | true =>
      rw [hs, cond_true] at h
      cases h
      exact ⟨p, decP_ok hp, shPb_ok hs, rfl⟩
  · cases h
def getPL (x y : AV) (k : Pb → List Int → AV) : Option (Tree AV) := match decL y with
  | some a => bif shB a then getP x fun p => k p a else none
  | none => none
theorem getPL_ok {x y : AV} {k : Pb → List Int → AV} {t : Tree AV} (h : getPL x y k = some t) : ∃ p a, Sub x (pAV p) ∧ Sub y (flL a) ∧ p.sh ∧ sh a ∧ t = .leaf (k p a) := by
  unfold getPL at h
  split at h
  · rename_i a ha
    cases hs : shB a with
    | false => rw [hs] at h; cases h
    | true =>
      rw [hs, cond_true] at h
      obtain ⟨p, h1, h2, h3⟩ := getP_ok h
      exact ⟨p, a, h1, decL_ok ha, h2, shB_ok hs, h3⟩
  · cases h
def firstR (p : Pb) : AV := bif validP p then resF (refF p) else .tup [flL [], I 1]
/-- The contracts. -/
def clC : FuncId → List AV → Option (Tree AV) := fun f xs => match f with
  | 24 => match xs with
    | [x, y] => getPL x y brkR
    | _ => none
  | 25 => match xs with
    | [x, y] => getPL x y costR
    | _ => none
  | 21 => match xs with
    | [x] => getP x fun p => solveR p (bif validP p then refW p [] else none)
    | _ => none
  | 22 => match xs with
    | [x] => getP x firstR
    | _ => none
  | 28 => match xs with
    | [x] => getP x fun p => .bool (validP p)
    | _ => none
  | 23 => match xs with
    | [x, y] => match decL x, decL y with
      | some a, some b => bif shB a then some (.leaf (.bool (a == b))) else none
      | _, _ => none
    | _ => none
  | 13 => match xs with
    | [x, y] => getPL x y fun p a => leastR p a (bif validP p && begB p a then refW p a else none)
    | _ => none
  | 16 => match xs with
    | [x, .int .i64 m] => getP x fun p => countR p m (bif validP p && inB m 0 1000000 then refN p m else 0)
    | _ => none
  | 31 => match xs with
    | [x, y] => getPL x y fun p a => pAV (onlyP p a)
    | _ => none
  | 30 => match xs with
    | [x, y] => match decP y with
      | some q => getP x fun p => .bool (decide (p = q))
      | none => none
    | _ => none
  | _ => none
theorem solveR_ref (p : Pb) : solveR p (bif validP p then refW p [] else none) = solveR p (bestW p []) := by
  unfold solveR
  cases hv : validP p with
  | false => rfl
  | true => rw [cond_true, best_ref (valid_iff.1 hv) (beg_nil p)]; rfl
theorem leastR_ref (p : Pb) (a : List Int) : leastR p a (bif validP p && begB p a then refW p a else none) = leastR p a (bestW p a) := by
  unfold leastR
  cases hv : validP p with
  | false => rfl
  | true =>
    cases hb : begB p a with
    | false => rfl
    | true => rw [Bool.and_true, cond_true, best_ref (valid_iff.1 hv) (beg_iff.1 hb)]; rfl
theorem countR_ref (p : Pb) (m : Int) : countR p m (bif validP p && inB m 0 1000000 then refN p m else 0) = countR p m (countW p m) := by
  unfold countR
  cases hv : validP p with
  | false => rfl
  | true =>
    cases hm : inB m 0 1000000 with
    | false => rfl
    | true => rw [Bool.and_true, cond_true, count_ref (valid_iff.1 hv) (inB_iff.1 hm).1]; rfl
theorem firstR_ref (p : Pb) : firstR p = bif validP p then resF (firstW p) else .tup [flL [], I 1] := by
  unfold firstR
  cases hv : validP p with
  | false => rfl
  | true => rw [cond_true, first_ref (valid_iff.1 hv)]; rfl
theorem clC_ok {f : FuncId} {xs : List AV} {t : Tree AV} {v : AV} (hq : clC f xs = some t) (hs : t.sel = some v) (σ : Heap) : ACall Try.prog G0 f xs σ v σ := by
  unfold clC at hq
  split at hq
  · split at hq <;> first | (cases hq; done) | skip
    obtain ⟨p, a, h1, h2, h3, h4, rfl⟩ := getPL_ok hq
    cases hs
    exact (c24 h3 h4 σ).arg2 h1 h2
  · split at hq <;> first | (cases hq; done) | skip
    obtain ⟨p, a, h1, h2, h3, h4, rfl⟩ := getPL_ok hq
    cases hs
    exact (c25 h3 h4 σ).arg2 h1 h2
  · split at hq <;> first | (cases hq; done) | skip
    obtain ⟨p, h1, h3, rfl⟩ := getP_ok hq
    cases hs
    rw [solveR_ref]
    exact (c21 h3 σ).arg1 h1
  · split at hq <;> first | (cases hq; done) | skip
    obtain ⟨p, h1, h3, rfl⟩ := getP_ok hq
    cases hs
    rw [firstR_ref]
    exact (c22 h3 σ).arg1 h1
  · split at hq <;> first | (cases hq; done) | skip
    obtain ⟨p, h1, h3, rfl⟩ := getP_ok hq
    cases hs
    exact (c28 h3 σ).arg1 h1
  · split at hq <;> first | (cases hq; done) | skip
    split at hq <;> first | (cases hq; done) | skip
    rename_i a b ha hb
    cases hsh : shB a with
    | false => rw [hsh] at hq; cases hq
    | true =>
      rw [hsh] at hq
      cases hq
      cases hs
      exact (c23 (shB_ok hsh) σ).arg2 (decL_ok ha) (decL_ok hb)
  · split at hq <;> first | (cases hq; done) | skip
    obtain ⟨p, a, h1, h2, h3, h4, rfl⟩ := getPL_ok hq
    cases hs
    rw [leastR_ref]
    exact (c13 h3 h4 σ).arg2 h1 h2
  · split at hq <;> first | (cases hq; done) | skip
    obtain ⟨p, h1, h3, rfl⟩ := getP_ok hq
    cases hs
    rw [countR_ref]
    exact (c16 h3 _ σ).arg2 h1 (sub_refl _)
  · split at hq <;> first | (cases hq; done) | skip
    obtain ⟨p, a, h1, h2, h3, h4, rfl⟩ := getPL_ok hq
    cases hs
    exact (c31 h3 h4 σ).arg2 h1 h2
  · split at hq <;> first | (cases hq; done) | skip
    split at hq <;> first | (cases hq; done) | skip
    rename_i q hp
    obtain ⟨p, h1, h3, rfl⟩ := getP_ok hq
    cases hs
    exact (c30 h3 σ).arg2 h1 (decP_ok hp)
  · cases hq
end Go.Proofs.Ytngaihdpmoajeaa.Am

namespace Go.Proofs.Ytngaihdpmoajeaa.Am
open Go
set_option maxRecDepth 100000

def EC2 : Env := { cl := clC }
theorem clokC2 : ClOk Try.prog G0 EC2 := .of rfl rfl fun f xs t v h hs σ => clC_ok h hs σ
theorem run12 : (xCall Try.prog G0 EC2 200 12 [] [] []).sel.map (fun r => r.1) = some (.bool true) := by kernel_rfl
/-- THE EXAMPLES COME OUT. -/
theorem c12 (h : Heap) : ACall Try.prog G0 12 [] h (.bool true) h := by
  obtain ⟨⟨v, s, h'⟩, h1, h2⟩ := Option.map_eq_some_iff.1 run12
  obtain rfl : v = .bool true := h2
  exact (xCall_ok names mixed clokC2 h1).lift0 (.bool _) gbelow0 nofun h
end Go.Proofs.Ytngaihdpmoajeaa.Am

namespace Go.Proofs.Ytngaihdpmoajeaa.Am
open Go
set_option maxRecDepth 100000

/-! ### Numbers in a row -/
def rng : Nat → Int → List Int
  | 0, _ => []
  | n + 1, k => k :: rng n (k + 1)
theorem rng_mem {x : Int} : ∀ {n : Nat} {k : Int}, x ∈ rng n k ↔ k ≤ x ∧ x < k + n
  | 0, k => by simp only [rng, List.not_mem_nil, false_iff]; omega
  | n + 1, k => by
    simp only [rng, List.mem_cons, rng_mem (n := n) (k := k + 1)]
    omega
theorem rng_snoc : ∀ (n : Nat) (k : Int), rng (n + 1) k = rng n k ++ [k + n]
  | 0, k => by simp [rng]
  | n + 1, k => by
    show k :: rng (n + 1) (k + 1) = k :: rng n (k + 1) ++ [k + ((n + 1 : Nat) : Int)]
    rw [rng_snoc n (k + 1), List.cons_append]
    congr 3
    omega
/-! ### All assignments that begin so -/
def allL (p : Pb) : Nat → List Int → List (List Int)
  | 0, a => [a]
  | d + 1, a => (rng (p.V.getD a.length 0).toNat 0).flatMap fun k => allL p d (a ++ [k])
theorem allL_pre (p : Pb) : ∀ (d : Nat) {a x : List Int}, x ∈ allL p d a → ∃ s, x = a ++ s
  | 0, a, x, h => ⟨[], by rw [List.mem_singleton.1 h, List.append_nil]⟩
  | d + 1, a, x, h => by
    obtain ⟨k, _, h⟩ := List.mem_flatMap.1 h
    obtain ⟨s, rfl⟩ := allL_pre p d h
    exact ⟨[k] ++ s, by rw [List.append_assoc]⟩
theorem allL_beg {p : Pb} : ∀ (d : Nat) {a x : List Int}, Beg p a → a.length + d ≤ p.V.length → x ∈ allL p d a → Beg p x
  | 0, a, x, ha, _, h => by rw [List.mem_singleton.1 h]; exact ha
  | d + 1, a, x, ha, hl, h => by
    obtain ⟨k, hk, h⟩ := List.mem_flatMap.1 h
    have := rng_mem.1 hk
    exact allL_beg d (beg_app ha (by omega) (by omega) (by omega)) (by rw [List.length_append, List.length_singleton]; omega) h
/-! ### Solutions -/
def solL (p : Pb) (d : Nat) (a : List Int) : List (List Int) := (allL p d a).filter fun x => posB p x false
theorem getD_pre {α : Type} {u s : List α} {i : Nat} {d : α} (h : i < u.length) : (u ++ s).getD i d = u.getD i d := by
  rw [List.getD_eq_getElem?_getD, List.getElem?_append_left h, ← List.getD_eq_getElem?_getD]
theorem least_mono {p : Pb} {x : Rl} (hx : OkRule p.V x) {a s : List Int} (hb : Beg p (a ++ s)) : leastA x a ≤ leastA x (a ++ s) := sumK_le fun i hi => by
  have hv := hx.v i hi
  unfold leastT
  by_cases h1 : x.v.getD i 0 < a.length
  · rw [dT h1, dT (by rw [List.length_append]; omega), cond_true, cond_true, getD_pre (by omega)]
    exact Int.le_refl _
  · rw [dF h1, cond_false]
    by_cases h2 : x.v.getD i 0 < (a ++ s).length
    · rw [dT h2, cond_true]
      refine minL_le ?_
      have := hb.at' (x.v.getD i 0).toNat (by omega)
      have := hx.wl i hi
      omega
    · rw [dF h2, cond_false]
      exact Int.le_refl _
theorem opn_pre {p : Pb} (hp : Ok p) {a s : List Int} (hb : Beg p (a ++ s)) (ho : Opn p (a ++ s)) : Opn p a := fun j hj => by
  have := least_mono (rule_getD hp j) hb
  have := ho j hj
  omega
theorem sol_none {p : Pb} (hp : Ok p) {d : Nat} {a : List Int} (ha : Beg p a) (hl : a.length + d ≤ p.V.length) (hn : ¬ Opn p a) : solL p d a = [] := by
  unfold solL
  rw [List.filter_eq_nil_iff]
  intro x hx hpos
  obtain ⟨s, rfl⟩ := allL_pre p d hx
  exact hn (opn_pre hp (allL_beg d ha hl hx) ((pos_opn p _).1 hpos))
theorem flatMap_congr' {α β : Type} {f g : α → List β} : ∀ {l : List α}, (∀ x ∈ l, f x = g x) → l.flatMap f = l.flatMap g
  | [], _ => rfl
  | x :: r, h => by
    rw [List.flatMap_cons, List.flatMap_cons, h x (by simp), flatMap_congr' fun y hy => h y (by simp [hy])]
/-- The solutions, value by value. -/
theorem sol_succ {p : Pb} (hp : Ok p) {d : Nat} {a : List Int} (ha : Beg p a) (hl : a.length + (d + 1) ≤ p.V.length) (ho : Opn p a) :
    solL p (d + 1) a = (rng (p.V.getD a.length 0).toNat 0).flatMap fun k => bif posB p (a ++ [k]) true then solL p d (a ++ [k]) else [] := by
  unfold solL
  show ((rng (p.V.getD a.length 0).toNat 0).flatMap fun k => allL p d (a ++ [k])).filter _ = _
  rw [List.filter_flatMap]
  refine flatMap_congr' fun k hk => ?_
  have := rng_mem.1 hk
  cases hq : posB p (a ++ [k]) true with
  | true => rfl
  | false =>
    refine sol_none hp (beg_app ha (by omega) (by omega) (by omega)) (by rw [List.length_append, List.length_singleton]; omega) fun h => ?_
    rw [(pos_app hp ho).2 h] at hq
    cases hq
theorem sol_zero {p : Pb} {a : List Int} (ho : Opn p a) : solL p 0 a = [a] := by
  unfold solL allL
  rw [List.filter_cons, if_pos ((pos_opn p a).2 ho)]
  rfl
/-! ### First -/
/-! ### How many -/
theorem sum_flat {α : Type} {f : Nat → Int} {F : Int → List α} : ∀ n : Nat, (∀ j : Nat, j < n → f j = ((F j).length : Int)) → sumK f n = (((rng n 0).flatMap F).length : Int)
  | 0, _ => rfl
  | n + 1, h => by
    rw [rng_snoc, List.flatMap_append, List.length_append, List.flatMap_singleton]
    unfold sumK
    rw [sum_flat n fun j hj => h j (by omega), h n (by omega), Int.zero_add]
    omega
theorem cntN_sol {p : Pb} (hp : Ok p) : ∀ (d : Nat) {a : List Int}, Beg p a → a.length + d = p.V.length → Opn p a → cntN p d a = ((solL p d a).length : Int)
  | 0, a, _, _, ho => by rw [sol_zero ho]; rfl
  | d + 1, a, ha, hl, ho => by
    rw [sol_succ hp ha (by omega) ho]
    unfold cntN
    refine sum_flat _ fun j hj => ?_
    cases hq : posB p (a ++ [(j : Int)]) true with
    | true =>
      exact cntN_sol hp d (beg_app ha (by omega) (by omega) (by omega)) (by rw [List.length_append, List.length_singleton]; omega) ((pos_app hp ho).1 hq)
    | false => rfl
/-! ### The best -/
def bstep (p : Pb) (b : Option (List Int)) (x : List Int) : Option (List Int) := bif btr p (costA p x) b then some x else b
theorem run_flat {α β : Type} {g : Int → β → β} {F : Int → List α} {st : β → α → β} (b : β) : ∀ n : Nat, (∀ (j : Nat) (c : β), j < n → g j c = (F j).foldl st c) → runK g b n = ((rng n 0).flatMap F).foldl st b
  | 0, _ => rfl
  | n + 1, h => by
    rw [rng_snoc, List.flatMap_append, List.foldl_append, List.flatMap_singleton]
    unfold runK
    rw [run_flat b n fun j c hj => h j c (by omega), h n _ (by omega), Int.zero_add]
theorem bound_app {p : Pb} (hp : Ok p) {a : List Int} (hl : a.length < p.V.length) {x : Int} (h0 : 0 ≤ x) (hx : x < p.V.getD a.length 0) : boundA p a ≤ boundA p (a ++ [x]) := by
  unfold boundA restA
  rw [cost_app, List.length_append, List.length_singleton]
  obtain ⟨n, hn⟩ : ∃ n, p.V.length - a.length = n + 1 := ⟨p.V.length - a.length - 1, by omega⟩
  have hn' : p.V.length - (a.length + 1) = n := by omega
  rw [hn, hn', sumK_front]
  have e : sumK (fun i => restT p a.length (i + 1)) n = sumK (restT p (a.length + 1)) n := sumK_congr fun i _ => by
    unfold restT
    rw [show a.length + (i + 1) = a.length + 1 + i by omega]
  rw [e]
  have : restT p a.length 0 ≤ (p.C.getD a.length []).getD x.toNat 0 := by
    unfold restT
    rw [Nat.add_zero]
    exact minL_le (by have := hp.cl a.length hl; omega)
  omega
theorem bound_sol {p : Pb} (hp : Ok p) : ∀ (d : Nat) {a x : List Int}, Beg p a → a.length + d = p.V.length → x ∈ allL p d a → boundA p a ≤ costA p x
  | 0, a, x, ha, hl, h => by rw [List.mem_singleton.1 h, ← bound_full hl]; exact Int.le_refl _
  | d + 1, a, x, ha, hl, h => by
    obtain ⟨k, hk, h⟩ := List.mem_flatMap.1 h
    have := rng_mem.1 hk
    have h1 := bound_app hp (a := a) (by omega) (x := k) (by omega) (by omega)
    have h2 := bound_sol hp d (beg_app ha (by omega) (by omega) (by omega)) (by rw [List.length_append, List.length_singleton]; omega) h
    omega
theorem fold_keep {p : Pb} : ∀ {l : List (List Int)} {b : Option (List Int)}, (∀ x ∈ l, btr p (costA p x) b = false) → l.foldl (bstep p) b = b
  | [], b, _ => rfl
  | x :: r, b, h => by
    rw [List.foldl_cons]
    have : bstep p b x = b := by unfold bstep; rw [h x (by simp)]; rfl
    rw [this]
    exact fold_keep fun y hy => h y (by simp [hy])
theorem btr_mono {p : Pb} {c e : Int} (h : c ≤ e) {b : Option (List Int)} (hb : btr p c b = false) : btr p e b = false := by
  unfold btr at hb ⊢
  rw [Bool.or_eq_false_iff, decide_eq_false_iff_not] at hb ⊢
  exact ⟨hb.1, by omega⟩
theorem betW_sol {p : Pb} (hp : Ok p) : ∀ (d : Nat) {a : List Int} (b : Option (List Int)), Beg p a → a.length + d = p.V.length → Opn p a → betW p d a b = (solL p d a).foldl (bstep p) b
  | 0, a, b, _, _, ho => by rw [sol_zero ho]; rfl
  | d + 1, a, b, ha, hl, ho => by
    rw [sol_succ hp ha (by omega) ho]
    unfold betW
    refine run_flat b _ fun j c hj => ?_
    have hb := beg_app ha (by omega) (x := (j : Int)) (by omega) (by omega)
    have hl' : (a ++ [(j : Int)]).length + d = p.V.length := by rw [List.length_append, List.length_singleton]; omega
    cases hq : posB p (a ++ [(j : Int)]) true with
    | true =>
      have ih := betW_sol hp d c hb hl' ((pos_app hp ho).1 hq)
      rw [cond_true, cond_true]
      cases ht : btr p (boundA p (a ++ [(j : Int)])) c with
      | true => exact ih
      | false =>
        refine (fold_keep fun x hx => ?_).symm
        exact btr_mono (bound_sol hp d hb hl' (List.mem_filter.1 hx).1) ht
    | false => rfl
/-! ### What the functions find -/
theorem refW_sol {p : Pb} (hp : Ok p) {a : List Int} (ha : Beg p a) : refW p a = (solL p (p.V.length - a.length) a).foldl (bstep p) none := by
  have hl := ha.len
  unfold refW
  cases hq : posB p a false with
  | true => exact betW_sol hp _ none ha (by omega) ((pos_opn p a).1 hq)
  | false =>
    rw [sol_none hp ha (by omega) fun h => by rw [(pos_opn p a).2 h] at hq; cases hq]
    rfl
theorem refN_sol {p : Pb} (hp : Ok p) {m : Int} (hm : 0 ≤ m) : refN p m = minI ((solL p p.V.length []).length : Int) m := by
  rw [← count_ref hp hm, count_eq hp hm]
  cases hq : posB p [] false with
  | true => rw [cntN_sol hp _ (beg_nil p) (by simp) ((pos_opn p []).1 hq)]; rfl
  | false =>
    rw [sol_none hp (beg_nil p) (by simp) fun h => by rw [(pos_opn p []).2 h] at hq; cases hq]
    show (0 : Int) = minI 0 m
    unfold minI
    rw [if_pos hm]
theorem fold_mem {p : Pb} : ∀ {l : List (List Int)} {b : Option (List Int)} {x : List Int}, l.foldl (bstep p) b = some x → x ∈ l ∨ b = some x
  | [], b, x, h => .inr h
  | y :: r, b, x, h => by
    rcases fold_mem (l := r) h with h | h
    · exact .inl (by simp [h])
    · unfold bstep at h
      cases hc : btr p (costA p y) b with
      | true => rw [hc] at h; cases h; exact .inl (by simp)
      | false => rw [hc] at h; exact .inr h
end Go.Proofs.Ytngaihdpmoajeaa.Am

namespace Go.Proofs.Ytngaihdpmoajeaa.Am
open Go
set_option maxRecDepth 100000

/-! ### Calls that are known where a condition on their arguments holds -/
def clK : List (FuncId × (List AV → Prop) × (List AV → AV)) → FuncId → List AV → Option (Tree AV)
  | [], _, _ => none
  | (g, P, v) :: r, f, xs => if f = g then some (.need (P xs) (.leaf (v xs))) else clK r f xs
theorem clK_ok {l : List (FuncId × (List AV → Prop) × (List AV → AV))} (hl : ∀ p ∈ l, ∀ xs, p.2.1 xs → ∀ σ, ACall Try.prog G0 p.1 xs σ (p.2.2 xs) σ) : ∀ f xs t v, clK l f xs = some t → t.sel = some v → ∀ σ, ACall Try.prog G0 f xs σ v σ := by
  induction l with
  | nil => intro f xs t v hq; cases hq
  | cons p r ih =>
    intro f xs t v hq hs σ
    obtain ⟨g, P, u⟩ := p
    unfold clK at hq
    by_cases h : f = g
    · rw [if_pos h] at hq
      cases hq
      obtain ⟨h1, h2⟩ := Tree.of_need hs
      cases h2
      subst h
      exact hl (f, P, u) (List.mem_cons_self ..) xs h1 σ
    · rw [if_neg h] at hq
      exact ih (fun p hp => hl p (by simp [hp])) f xs t v hq hs σ
def EN (l : List (FuncId × (List AV → Prop) × (List AV → AV))) (H : Heap → Oper → (Operand → Option AV) → Option (AV × Bool × Heap × Prop)) : Env := { boxRow := false, clh := failH, cl := clK l, hint := H }
def is1 (a : List AV) (v : AV) : (List AV → Prop) × (List AV → AV) := (fun xs => xs = a, fun _ => v)
def is2 (a b : List AV) (v : AV) : (List AV → Prop) × (List AV → AV) := (fun xs => xs = a ∨ xs = b, fun _ => v)
/-- The calls of SearchCounts. -/
def k3 (p o : Pb) (a : List Int) (m : Int) (s : Bool) (c e n g : Int) : List (FuncId × (List AV → Prop) × (List AV → AV)) :=
  [(10, is1 [pAV p] (pAV o)), (11, is1 [pAV o] (.bool s)), (12, is1 [] (.bool true)), (14, is1 [flL a] (flL a)), (13, is1 [pAV o, flL a] (.tup [I c, I e])), (15, is1 [pAV o, flL a] (.tup [I c, I e])),
   (16, is1 [pAV o, I m] (.tup [I n, I g])), (17, is1 [pAV o, I m] (.tup [I n, I g]))]
end Go.Proofs.Ytngaihdpmoajeaa.Am

namespace Go.Proofs.Ytngaihdpmoajeaa.Am
open Go Go.ChangeShapes Go.WideShapes
set_option maxRecDepth 100000
theorem own : ownKnob Try.prog.godebug = none := by kernel_rfl
theorem laidOut : laidOutB Try.prog = true := by kernel_rfl
section
variable {H : Type} {enc : TypeId × Value → H} {w : World} {sp : Nat → Bool} {held : Bool}

/-- A reading is no longer than a machine can hold. -/
def Fits (t : TypeId) (d : DataW H) : Prop := ∀ n ∈ d.weights Try.prog t, n ≤ reachBytes
theorem weightsAll_mem {P : Program} {e : TypeId} {d : DataW H} {n : Nat} : ∀ {l : List (DataW H)}, d ∈ l → n ∈ d.weights P e → n ∈ DataW.weightsAll P e l
  | x :: r, hd, hn => by
    unfold DataW.weightsAll
    rcases List.mem_cons.1 hd with rfl | hd
    · exact List.mem_append_left _ hn
    · exact List.mem_append_right _ (weightsAll_mem hd hn)
/-- How an element reads: as the cells of x; T holds of x, and S if the reading is small. -/
def RowsAs (H : Type) (enc : TypeId × Value → H) (w : World) (sp : Nat → Bool) (held : Bool) {α : Type} (e : TypeId) (q : α → List AV) (T S : α → Prop) : Prop :=
  ∀ (fuel : Nat) (cs : List Value) (y : DataW H × List MemPlace), DataW.trod enc Try.prog w 0 sp held fuel e cs = some y →
    ∃ x : α, (∀ (j : Nat) (z : AV), (q x)[j]? = some z → ∃ u, cs[j]? = some u ∧ RV w M0 u z) ∧ T x ∧ (Fits e y.1 → S x)
/-- A SLICE, OPENED. -/
theorem open_sl {α : Type} {t e : TypeId} {k : Nat} {q : α → List AV} {T S : α → Prop} {d0 : α} (ht : Try.prog.underlying t = some (.slice e)) (hk : 0 < k) (hC : Try.prog.cellsOf e = k) (hB : 0 < Try.prog.bytesOf e) (hq : ∀ x, (q x).length = k)
    (hrow : RowsAs H enc w sp held e q T S) {fuel : Nat} {v : Value} {x : DataW H × List MemPlace} (h : DataW.trod enc Try.prog w 0 sp held fuel t [v] = some x) :
    ∃ B : List α, RV w M0 v (.fl k B.length fun i => q (B.getD i d0)) ∧ (∀ b ∈ B, T b) ∧ (Fits t x.1 → B.length ≤ reachBytes ∧ ∀ b ∈ B, S b) := by
  rcases Go.Deep.open_slice ht h with ⟨hv, _⟩ | ⟨a, len, cap, m, n0, D, Pl, hcs, _, hl, _, hm, hx, hi⟩
  · obtain rfl : v = .slice none 0 0 := by simpa using hv
    exact ⟨[], .fl _ _ _ _ (.sl0 _ _ _), fun _ hb => (by cases hb), fun _ => ⟨Nat.zero_le _, fun _ hb => (by cases hb)⟩⟩
  · obtain rfl : v = .slice (some a) len cap := by simpa using hcs
    have hlm : len ≤ m := by rw [hm]; split <;> omega
    have key : ∀ i, ∃ (b : α) (us : Nat → Value), i < len → (∀ j, j < k → w.cell? (a.add (i * k + j)) = some (us j)) ∧ (∀ (j : Nat) (z : AV), (q b)[j]? = some z → RV w M0 (us j) z) ∧ T b ∧ (Fits e (D i) → S b) := fun i => by
      by_cases hb : i < len
      · obtain ⟨cs', hc, ht'⟩ := hi i (by omega)
        rw [hC] at hc
        obtain ⟨_, hcl, hat⟩ := World.cells?_some hc
        obtain ⟨b, h1, h2, h3⟩ := hrow _ _ _ ht'
        refine ⟨b, fun j => cs'.getD j undef, fun _ => ⟨fun j hj => ?_, fun j z hz => ?_, h2, h3⟩⟩
        · rw [← Go.Deep.add_add, hat j hj]
          show cs'[j]? = some (cs'.getD j undef)
          rw [List.getD_eq_getElem?_getD, List.getElem?_eq_getElem (by omega)]
          rfl
        · obtain ⟨u, hu, hr⟩ := h1 j z hz
          show RV w M0 (cs'.getD j undef) z
          rw [List.getD_eq_getElem?_getD, hu]
          exact hr
      · exact ⟨d0, fun _ => undef, fun h1 => absurd h1 hb⟩
    have pick : ∃ (f : Nat → α) (us : Nat → Nat → Value), ∀ i, i < len → (∀ j, j < k → w.cell? (a.add (i * k + j)) = some (us i j)) ∧ (∀ (j : Nat) (z : AV), (q (f i))[j]? = some z → RV w M0 (us i j) z) ∧ T (f i) ∧ (Fits e (D i) → S (f i)) :=
      ⟨fun i => Classical.choose (key i), fun i => Classical.choose (Classical.choose_spec (key i)), fun i => Classical.choose_spec (Classical.choose_spec (key i))⟩
    obtain ⟨f, us, hf⟩ := pick
    have hB1 : ((List.range len).map f).length = len := by simp
    have hget : ∀ i, i < len → ((List.range len).map f).getD i d0 = f i := fun i hil => by
      rw [List.getD_eq_getElem?_getD, List.getElem?_map, List.getElem?_range hil]
      rfl
    refine ⟨(List.range len).map f, .fl _ _ _ _ ?_, fun b hb => ?_, fun hs => ?_⟩
    · rw [hB1]
      by_cases h0 : len = 0
      · subst h0; exact .sl0 _ _ _
      · have h00 := (hf 0 (by omega)).1 0 hk
        simp only [Nat.zero_mul, Nat.add_zero] at h00
        have ha0 : a.add 0 = a := by unfold Addr.add; rfl
        rw [ha0] at h00
        obtain ⟨hsp, hbl⟩ := cell_spot h00
        have hlen : ((List.range len).map fun i => q (((List.range len).map f).getD i d0)).length = len := by simp
        have := RV.sl (w := w) (M := M0) a.block a.off cap k us ((List.range len).map fun i => q (((List.range len).map f).getD i d0)) (imm_top hbl)
          (fun i r j hr hj => by
            have hil : i < len := by have := (List.getElem?_eq_some_iff.1 hr).1; rwa [hlen] at this
            have := (hf i hil).1 j hj
            rw [add_spot hsp] at this
            rw [Nat.add_assoc]
            exact this)
          (fun i r hr => by
            obtain ⟨i', _, rfl⟩ := List.mem_map.1 (List.mem_of_getElem? hr)
            exact hq _)
          (fun i r j y hr hy => by
            have hil : i < len := by have := (List.getElem?_eq_some_iff.1 hr).1; rwa [hlen] at this
            rw [List.getElem?_map, List.getElem?_range hil] at hr
            cases hr
            have hy : (q (((List.range len).map f).getD i d0))[j]? = some y := hy
            rw [hget i hil] at hy
            exact (hf i hil).2.1 j y hy)
          (by rw [hlen]; exact hl)
        rw [hlen] at this
        have ha : a = ⟨a.block, a.off, none⟩ := by cases a; simp only at hsp; subst hsp; rfl
        rw [ha]
        exact this
    · obtain ⟨i, hir, rfl⟩ := List.mem_map.1 hb
      exact (hf i (List.mem_range.1 hir)).2.2.1
    · have hw : ∀ n, n ∈ (x.1).weights Try.prog t → n ≤ reachBytes := hs
      rw [hx] at hw
      simp only [DataW.weights, ht, List.mem_cons, List.mem_append] at hw
      refine ⟨?_, fun b hb => ?_⟩
      · have := hw _ (.inl rfl)
        rw [hB1]
        simp only [List.length_map, List.length_range] at this
        refine Nat.le_trans ?_ this
        refine Nat.le_trans ?_ (Nat.le_mul_of_pos_right _ hB)
        omega
      · obtain ⟨i, hir, rfl⟩ := List.mem_map.1 hb
        refine (hf i (List.mem_range.1 hir)).2.2.2 fun n hn => hw n (.inr (.inl ?_))
        exact weightsAll_mem (List.mem_map.2 ⟨i, hir, rfl⟩) hn
theorem reach_sh {n : Nat} (h : n ≤ reachBytes) : n < 4611686018427387904 := by
  have h3 := reachBytes_lt
  omega
theorem rows_int {k : IntKind} {e : TypeId} (he : Try.prog.underlying e = some (.int k)) : RowsAs H enc w sp held e (fun n : Int => [AV.int k n]) (fun n => (Lit.int k n).wf = true) fun _ => True := by
  intro fuel cs y h
  obtain ⟨n, rfl, _, hw⟩ := DataW.trod_int he h
  refine ⟨n, fun j z hz => ?_, hw, fun _ => trivial⟩
  match j, hz with
  | 0, hz => cases hz; exact ⟨_, rfl, .int _ _⟩
  | j + 1, hz => simp at hz
theorem each_small {ts : List TypeId} {ds : List (DataW H)} (h : ∀ n ∈ DataW.weightsEach Try.prog ts ds, n ≤ reachBytes) {j : Nat} {t : TypeId} {d : DataW H} (ht : ts[j]? = some t) (hd : ds[j]? = some d) : Fits t d := fun n hn => h n (DataW.weights_mem_each ht hd n hn)
/-- A struct of one-cell fields, as an element: each field's reading. -/
theorem trod_one {e : TypeId} {fs : Array Field} (he : Try.prog.underlying e = some (.struct fs)) (hone : Go.Deep.oneCellFields Try.prog fs = true) (hC : Try.prog.cellsOf e = fs.size) {fuel : Nat} {cs : List Value} {y : DataW H × List MemPlace}
    (h : DataW.trod enc Try.prog w 0 sp held fuel e cs = some y) :
    ∀ (j : Nat) (f : Field), fs[j]? = some f → ∃ (n : Nat) (u : Value) (z : DataW H × List MemPlace), cs[j]? = some u ∧ DataW.trod enc Try.prog w 0 sp held n f.type [u] = some z ∧ (Fits e y.1 → Fits f.type z.1) := by
  obtain ⟨xs, n, _, hx, hlen, hyl, hf⟩ := DataW.trod_struct he h
  intro j f hfj
  have hj : j < fs.size := (Array.getElem?_eq_some_iff.1 hfj).1
  obtain ⟨ho, hk⟩ := Go.Deep.hone_of hone j f hfj
  have h1 := hf j f hfj
  have hjc : j < cs.length := by rw [hlen, hC]; exact hj
  rw [ho, hk, drop_take_one hjc, List.getElem?_eq_getElem (by omega)] at h1
  refine ⟨n, cs[j], xs[j]'(by omega), List.getElem?_eq_getElem hjc, h1, fun hs => ?_⟩
  have hw : ∀ n, n ∈ (y.1).weights Try.prog e → n ≤ reachBytes := hs
  rw [hx] at hw
  simp only [DataW.weights, he] at hw
  refine each_small (j := j) hw ?_ ?_
  · rw [List.getElem?_map, Array.getElem?_toList, hfj]; rfl
  · rw [List.getElem?_map, List.getElem?_eq_getElem (by omega)]; rfl
/-- An argument reads behind the call as it did. -/
theorem stays {t : TypeId} (hr : Try.prog.readableRec t = true) (hrow : decide (t < Try.prog.types.size) = true) {W W' : World} {v : Value} {d : DataW H} {ps : List MemPlace}
    (h : DataW.Trod enc Try.prog W 0 (fun _ => true) true t v d ps) (hb : Go.RowKit.Below W.heap.size W W') (hlt : ∀ x ∈ ps, x.block < W.heap.size) {sp : Nat → Bool} (hsp : ∀ x ∈ ps, sp x.block = true) :
    DataW.Trod enc Try.prog W' 0 sp true t v d ps :=
  WideElems.Trod_stays laidOut hr (of_decide_eq_true hrow) h (fun x hx => hb.same (hlt x hx)) hsp
end
end Go.Proofs.Ytngaihdpmoajeaa.Am

namespace Go.Proofs.Ytngaihdpmoajeaa.Am
open Go
set_option maxRecDepth 100000

/-! ### A tree says so, whatever the heap -/
/-! ### The law's own problem -/
/-! ### What both find -/
theorem same_self {o : Pb} (h : o.sh) (σ : Heap) : ACall Try.prog G0 30 [pAV o, pAV o] σ (.bool true) σ := by
  have := c30 (y := o) h σ
  rwa [dT rfl] at this
/-! ### SearchSolves -/
/-! ### SearchCounts -/
/-! ### SearchChecks -/
end Go.Proofs.Ytngaihdpmoajeaa.Am

namespace Go.Proofs.Ytngaihdpmoajeaa.Am
open Go
set_option maxRecDepth 100000

/-- The loop at a place of a code's loops. -/
theorem nth_loop {c : Code} {k i : Nat} {b : Code} {ids : List Nat} (h1 : (loopsOf c).map idOf = ids) (hn : ids.Nodup) (hb : (loopsOf c)[k]? = some b) (hi : ids[k]? = some i) : ∀ x ∈ loopsOf c, idOf x = i → x = b := by
  intro x hx hxi
  obtain ⟨j, hj⟩ := List.mem_iff_getElem?.1 hx
  have hj2 : ids[j]? = some i := by rw [← h1, List.getElem?_map, hj]; exact congrArg some hxi
  have hjl : j < ids.length := (List.getElem?_eq_some_iff.1 hj2).1
  have : j = k := (List.getElem?_inj hjl hn).1 (hj2.trans hi.symm)
  subst this
  exact Option.some.inj (hj.symm.trans hb)
end Go.Proofs.Ytngaihdpmoajeaa.Am

namespace Go.Proofs.Ytngaihdpmoajeaa.Am
open Go
set_option maxRecDepth 100000

/-! ### Puzzles -/
/-- A clause of a puzzle. -/
structure Cs where
  d : Int
  u : Int
  w : List Int
  m : Int
/-- A puzzle. -/
structure Pz where
  V : List Int
  C : List Int
  R : List Cs
def c0 : Cs := ⟨0, 0, [], 0⟩
def flB (L : List Int) : AV := .fl 1 L.length fun i => [.int .u8 (L.getD i 0)]
def flT (L : List Int) : AV := .fl 1 L.length fun i => [.int .i8 (L.getD i 0)]
def csC (c : Cs) : List AV := [.int .u8 c.d, .int .u8 c.u, flT c.w, .int .i8 c.m]
def flC (R : List Cs) : AV := .fl 4 R.length fun i => csC (R.getD i c0)
def pzC (x : Pz) : List AV := [flB x.V, flB x.C, flC x.R]
def pzAV (x : Pz) : AV := .agg (pzC x)
/-! ### Bits, remainders by unknown numbers -/
def uand8 (a b : Int) : Int := IntKind.u8.wrap ((BitVec.ofInt IntKind.u8.bits a &&& BitVec.ofInt IntKind.u8.bits b).toNat)
def ushr8 (a b : Int) : Int := a.fdiv (2 ^ (min b.toNat IntKind.u8.bits))
def hBit : Heap → Oper → (Operand → Option AV) → Option (AV × Bool × Heap × Prop) := fun h o ρ => match o.op with
  | .binOp .shr _ x y _ => match ρ x, ρ y with
    | some (.int .u8 a), some (.int .i64 b) => some (.int .u8 (ushr8 a b), true, h, 0 ≤ b)
    | _, _ => none
  | .binOp .and _ x y _ => match ρ x, ρ y with
    | some (.int .u8 a), some (.int .u8 b) => some (.int .u8 (uand8 a b), true, h, True)
    | _, _ => none
  | .binOp .rem _ x y _ => match ρ x, ρ y with
    | some (.int .i64 a), some (.int .i64 b) => some (I (a.tmod b), true, h, b ≠ 0)
    | _, _ => none
  | _ => none
theorem hBit_ok : HintA Try.prog hBit := by
  intro h o ρ y s h' p hh hp
  unfold hBit at hh
  split at hh
  · rename_i t x z g ho
    split at hh
    · rename_i a b hx hz
      cases hh
      unfold aopR
      simp only [ho, hx, hz, aBin, if_neg (by omega : ¬ b < 0), Option.map_some]
      rfl
    · cases hh
  · rename_i t x z g ho
    split at hh
    · rename_i a b hx hz
      cases hh
      unfold aopR
      simp only [ho, hx, hz, aBin]
      rfl
    · cases hh
  · rename_i t x z g ho
    split at hh
    · rename_i a b hx hz
      cases hh
      unfold aopR
      simp only [ho, hx, hz, aBin, if_neg hp]
      rfl
    · cases hh
  · cases hh
/-! ### The loops -/
noncomputable def b18 : Code := bodyOf Try.prog 18
noncomputable def lp18 (i : Nat) : Code := ((loopsOf b18).drop i).headD .skip
theorem ids18 : (loopsOf b18).map idOf = [4, 10, 19, 24, 29] := by kernel_rfl
noncomputable def body18A : Code := lp18 0
noncomputable def body18B : Code := lp18 1
noncomputable def body18C : Code := lp18 2
noncomputable def body18D : Code := lp18 3
noncomputable def body18E : Code := lp18 4
def hA (v : AV) (o : AObj) (w : AV) (q l : AObj) : Heap := [o, q, .resv, l, .resv, .resv, .cells 0 zPb, .cells 0 [v, w, .zs]]
def stA (x : Pz) (v : AV) (o : AObj) (w : AV) (q : AObj) (at' i : Int) : St := .of 162 (hA v o w q .resv) [(1, .row (pzC x) 0, true), (2, .ref 6 0 0, true), (3, .ref 7 0 0, true), (4, I at', true), (5, I i, true)]
def keepA : List Nat := [1, 2, 3, 4, 5]
def stB (x : Pz) (v : AV) (o : AObj) (w : AV) (q : AObj) (i n : Int) (at' : Int) (s : AV) (l : AObj) (j : Int) : St := .of 162 (hA v o w q l) [(1, .row (pzC x) 0, true), (2, .ref 6 0 0, true), (3, .ref 7 0 0, true), (4, I at', true), (5, I i, true), (7, s, true), (42, I n, true), (43, I j, true)]
def keepB : List Nat := [1, 2, 3, 4, 5, 7, 42, 43]
theorem run18B (g : Prop) (x : Pz) (v : AV) (o : AObj) (w : AV) (q : AObj) (i n at' : Int) (s s' : AV) (l l' : AObj) (j c : Int) : xBodyT { boxRow := false, hint := hApO 22 1 3 [I c] s s' l l' g } 200 noLoops keepB 8 body18B (stB x v o w q i n at' s l j) = .ite (decide (j < n)) (.ite (decide (at' < (↑x.C.length : Int))) (.need (((0 : Int) ≤ at') ∧ (at' < (↑x.C.length : Int))) (.need (((Option.some [s, (AV.sl (1 : Nat) [[(I (IntKind.i64.wrap (x.C.getD at'.toNat (0 : Int))))]])]) = (Option.some [s, (AV.sl (1 : Nat) [[(I c)]])])) ∧ (((Option.some l) = (Option.some l)) ∧ (g))) (.leaf (Exit.normal, St.of 162 [o, q, AObj.resv, l', AObj.resv, AObj.resv, (AObj.cells (0 : Nat) [AV.zs, AV.zs, AV.zs]), (AObj.cells (0 : Nat) [v, w, AV.zs])] [(1, (AV.row [(AV.fl (1 : Nat) (List.length (x.V)) (fun i => [AV.int IntKind.u8 (x.V.getD i (0 : Int))])), (AV.fl (1 : Nat) (List.length (x.C)) (fun i => [AV.int IntKind.u8 (x.C.getD i (0 : Int))])), (AV.fl (4 : Nat) (List.length (x.R)) (fun i => csC (x.R.getD i c0)))] (0 : Nat)), true), (2, (AV.ref (6 : Nat) (0 : Nat) (0 : Nat)), true), (3, (AV.ref (7 : Nat) (0 : Nat) (0 : Nat)), true), (4, (I (IntKind.i64.wrap (at' + (1 : Int)))), true), (5, (I i), true), (7, s', true), (42, (I n), true), (43, (I (IntKind.i64.wrap (j + (1 : Int)))), true)])))) (.need (((Option.some [s, (AV.sl (1 : Nat) [[(I ((0 : Int)))]])]) = (Option.some [s, (AV.sl (1 : Nat) [[(I c)]])])) ∧ (((Option.some l) = (Option.some l)) ∧ (g))) (.leaf (Exit.normal, St.of 162 [o, q, AObj.resv, l', AObj.resv, AObj.resv, (AObj.cells (0 : Nat) [AV.zs, AV.zs, AV.zs]), (AObj.cells (0 : Nat) [v, w, AV.zs])] [(1, (AV.row [(AV.fl (1 : Nat) (List.length (x.V)) (fun i => [AV.int IntKind.u8 (x.V.getD i (0 : Int))])), (AV.fl (1 : Nat) (List.length (x.C)) (fun i => [AV.int IntKind.u8 (x.C.getD i (0 : Int))])), (AV.fl (4 : Nat) (List.length (x.R)) (fun i => csC (x.R.getD i c0)))] (0 : Nat)), true), (2, (AV.ref (6 : Nat) (0 : Nat) (0 : Nat)), true), (3, (AV.ref (7 : Nat) (0 : Nat) (0 : Nat)), true), (4, (I (IntKind.i64.wrap (at' + (1 : Int)))), true), (5, (I i), true), (7, s', true), (42, (I n), true), (43, (I (IntKind.i64.wrap (j + (1 : Int)))), true)])))) (.leaf ((Exit.exit (2 : Nat)), St.of 162 [o, q, AObj.resv, l, AObj.resv, AObj.resv, (AObj.cells (0 : Nat) [AV.zs, AV.zs, AV.zs]), (AObj.cells (0 : Nat) [v, w, AV.zs])] [(1, (AV.row [(AV.fl (1 : Nat) (List.length (x.V)) (fun i => [AV.int IntKind.u8 (x.V.getD i (0 : Int))])), (AV.fl (1 : Nat) (List.length (x.C)) (fun i => [AV.int IntKind.u8 (x.C.getD i (0 : Int))])), (AV.fl (4 : Nat) (List.length (x.R)) (fun i => csC (x.R.getD i c0)))] (0 : Nat)), true), (2, (AV.ref (6 : Nat) (0 : Nat) (0 : Nat)), true), (3, (AV.ref (7 : Nat) (0 : Nat) (0 : Nat)), true), (4, (I at'), true), (5, (I i), true), (7, s, true), (42, (I n), true), (43, (I j), true)])) := by kernel_rfl
def mk18 (x : Pz) (i : Int) : Int := IntKind.i64.wrap (1 + Int.tmod (IntKind.i64.wrap (x.V.getD i.toNat 0)) 4)
theorem run18A (g : Prop) (x : Pz) (v v' : AV) (o o' : AObj) (w w' : AV) (q q' : AObj) (at' i n at2 : Int) (y : List Int) : xBodyT { boxRow := false, hint := orH (hApO 22 1 0 [I n] v v' o o' g) (orH (hApO 23 1 1 [flL y] w w' q q' g) (orH (hSto 22 7) (hSto 23 7))) } 200 (lpB 10 keepB (stB x v' o' w q i n at' .zs .resv 0) (.exit 2) (stB x v' o' w q i n at2 (flL y) .resv n)) keepA 8 body18A (stA x v o w q at' i) = .ite (decide (i < (↑x.V.length : Int))) (.ite (decide (i < (5 : Int))) (.need (((0 : Int) ≤ i) ∧ (i < (↑x.V.length : Int))) (.need (((Option.some [v, (AV.sl (1 : Nat) [[(I (IntKind.i64.wrap ((1 : Int) + (IntKind.i64.wrap (x.V.getD i.toNat (0 : Int))).tmod (4 : Int))))]])]) = (Option.some [v, (AV.sl (1 : Nat) [[(I n)]])])) ∧ (((Option.some o) = (Option.some o)) ∧ (g))) (.need (((AV.one v') = true) ∧ ((0 : Nat) < (3 : Nat))) (.need ((stB x v' o' w q i (mk18 x i) at' .zs .resv 0).vals = (stB x v' o' w q i n at' .zs .resv 0).vals) (.need (((Option.some [w, (AV.sl (1 : Nat) [[(flL (y))]])]) = (Option.some [w, (AV.sl (1 : Nat) [[(flL (y))]])])) ∧ (((Option.some q) = (Option.some q)) ∧ (g))) (.need (((AV.one w') = true) ∧ ((1 : Nat) < (3 : Nat))) (.leaf (Exit.normal, St.of 162 [o', q', AObj.resv, AObj.resv, AObj.resv, AObj.resv, (AObj.cells (0 : Nat) [AV.zs, AV.zs, AV.zs]), (AObj.cells (0 : Nat) (setL [v', w, AV.zs] (1 : Nat) [w']))] [(1, (AV.row [(AV.fl (1 : Nat) (List.length (x.V)) (fun i => [AV.int IntKind.u8 (x.V.getD i (0 : Int))])), (AV.fl (1 : Nat) (List.length (x.C)) (fun i => [AV.int IntKind.u8 (x.C.getD i (0 : Int))])), (AV.fl (4 : Nat) (List.length (x.R)) (fun i => csC (x.R.getD i c0)))] (0 : Nat)), true), (2, (AV.ref (6 : Nat) (0 : Nat) (0 : Nat)), true), (3, (AV.ref (7 : Nat) (0 : Nat) (0 : Nat)), true), (4, (I at2), true), (5, (I (IntKind.i64.wrap (i + (1 : Int)))), true)])))))))) (.leaf ((Exit.exit (0 : Nat)), St.of 162 [o, q, AObj.resv, AObj.resv, AObj.resv, AObj.resv, (AObj.cells (0 : Nat) [AV.zs, AV.zs, AV.zs]), (AObj.cells (0 : Nat) [v, w, AV.zs])] [(1, (AV.row [(AV.fl (1 : Nat) (List.length (x.V)) (fun i => [AV.int IntKind.u8 (x.V.getD i (0 : Int))])), (AV.fl (1 : Nat) (List.length (x.C)) (fun i => [AV.int IntKind.u8 (x.C.getD i (0 : Int))])), (AV.fl (4 : Nat) (List.length (x.R)) (fun i => csC (x.R.getD i c0)))] (0 : Nat)), true), (2, (AV.ref (6 : Nat) (0 : Nat) (0 : Nat)), true), (3, (AV.ref (7 : Nat) (0 : Nat) (0 : Nat)), true), (4, (I at'), true), (5, (I i), true)]))) (.leaf ((Exit.exit (0 : Nat)), St.of 162 [o, q, AObj.resv, AObj.resv, AObj.resv, AObj.resv, (AObj.cells (0 : Nat) [AV.zs, AV.zs, AV.zs]), (AObj.cells (0 : Nat) [v, w, AV.zs])] [(1, (AV.row [(AV.fl (1 : Nat) (List.length (x.V)) (fun i => [AV.int IntKind.u8 (x.V.getD i (0 : Int))])), (AV.fl (1 : Nat) (List.length (x.C)) (fun i => [AV.int IntKind.u8 (x.C.getD i (0 : Int))])), (AV.fl (4 : Nat) (List.length (x.R)) (fun i => csC (x.R.getD i c0)))] (0 : Nat)), true), (2, (AV.ref (6 : Nat) (0 : Nat) (0 : Nat)), true), (3, (AV.ref (7 : Nat) (0 : Nat) (0 : Nat)), true), (4, (I at'), true), (5, (I i), true)])) := by kernel_rfl

def hC (V : List Int) (C : List (List Int)) (v : AV) (r l vo wo : AObj) : Heap := [.resv, .resv, r, l, vo, wo, .cells 0 zPb, .cells 0 [flL V, flLL C, v]]
def stC (x : Pz) (V : List Int) (C : List (List Int)) (v : AV) (r : AObj) (k : Int) : St := .of 162 (hC V C v r .resv .resv .resv) [(1, .row (pzC x) 0, true), (2, .ref 6 0 0, true), (3, .ref 7 0 0, true), (9, I k, true)]
def keepC : List Nat := [1, 2, 3, 9]
def hD (V : List Int) (C : List (List Int)) (v : AV) (r l vo wo : AObj) (d : Int) (vv ww : AV) (m : Int) : Heap := [.resv, .resv, r, l, vo, wo, .cells 0 zPb, .cells 0 [flL V, flLL C, v], .cells 0 [I d, vv, ww, I m]]
def stD (x : Pz) (V : List Int) (C : List (List Int)) (v : AV) (r : AObj) (k d m : Int) (vv ww : AV) (vo wo : AObj) (at' j : Int) : St := .of 162 (hD V C v r .resv vo wo d vv ww m) [(1, .row (pzC x) 0, true), (2, .ref 6 0 0, true), (3, .ref 7 0 0, true), (9, I k, true), (10, .ref 8 0 0, true), (11, I at', true), (96, flL V, true), (97, I V.length, true), (98, I j, true)]
def keepD : List Nat := [1, 2, 3, 9, 10, 11, 96, 97, 98]
def stE (x : Pz) (V : List Int) (C : List (List Int)) (v : AV) (r : AObj) (k d m : Int) (vv ww : AV) (vo wo : AObj) (at' j u n : Int) (s : AV) (l : AObj) (i : Int) : St := .of 162 (hD V C v r l vo wo d vv ww m) [(1, .row (pzC x) 0, true), (2, .ref 6 0 0, true), (3, .ref 7 0 0, true), (9, I k, true), (10, .ref 8 0 0, true), (11, I at', true), (12, I u, true), (14, s, true), (96, flL V, true), (97, I V.length, true), (98, I j, true), (113, I n, true), (114, I i, true)]
def keepE : List Nat := [1, 2, 3, 9, 10, 11, 12, 14, 96, 97, 98, 113, 114]
theorem run18E (g : Prop) (x : Pz) (V : List Int) (C : List (List Int)) (v : AV) (r : AObj) (k d m : Int) (vv ww : AV) (vo wo : AObj) (at' j u n : Int) (s s' : AV) (l l' : AObj) (i c : Int) : xBodyT { boxRow := false, hint := hApO 22 1 3 [I c] s s' l l' g } 200 noLoops keepE 9 body18E (stE x V C v r k d m vv ww vo wo at' j u n s l i) = .ite (decide (i < n)) (.need (((0 : Int) ≤ k) ∧ (k < (↑x.R.length : Int))) (.ite (decide (at' < (↑(x.R.getD k.toNat c0).w.length : Int))) (.need (((0 : Int) ≤ k) ∧ (k < (↑x.R.length : Int))) (.need (((0 : Int) ≤ at') ∧ (at' < (↑(x.R.getD k.toNat c0).w.length : Int))) (.need (((Option.some [s, (AV.sl (1 : Nat) [[(I (IntKind.i64.wrap ((x.R.getD k.toNat c0).w.getD at'.toNat (0 : Int))))]])]) = (Option.some [s, (AV.sl (1 : Nat) [[(I c)]])])) ∧ (((Option.some l) = (Option.some l)) ∧ (g))) (.leaf (Exit.normal, St.of 162 [AObj.resv, AObj.resv, r, l', vo, wo, (AObj.cells (0 : Nat) [AV.zs, AV.zs, AV.zs]), (AObj.cells (0 : Nat) [(flL (V)), (flLL (C)), v]), (AObj.cells (0 : Nat) ((I d) :: (vv :: (ww :: ((I m) :: ([]))))))] [(1, (AV.row [(AV.fl (1 : Nat) (List.length (x.V)) (fun i => [AV.int IntKind.u8 (x.V.getD i (0 : Int))])), (AV.fl (1 : Nat) (List.length (x.C)) (fun i => [AV.int IntKind.u8 (x.C.getD i (0 : Int))])), (AV.fl (4 : Nat) (List.length (x.R)) (fun i => csC (x.R.getD i c0)))] (0 : Nat)), true), (2, (AV.ref (6 : Nat) (0 : Nat) (0 : Nat)), true), (3, (AV.ref (7 : Nat) (0 : Nat) (0 : Nat)), true), (9, (I k), true), (10, (AV.ref (8 : Nat) (0 : Nat) (0 : Nat)), true), (11, (I (IntKind.i64.wrap (at' + (1 : Int)))), true), (12, (I u), true), (14, s', true), (96, (flL (V)), true), (97, (I ((↑V.length : Int))), true), (98, (I j), true), (113, (I n), true), (114, (I (IntKind.i64.wrap (i + (1 : Int)))), true)]))))) (.need (((Option.some [s, (AV.sl (1 : Nat) [[(I ((0 : Int)))]])]) = (Option.some [s, (AV.sl (1 : Nat) [[(I c)]])])) ∧ (((Option.some l) = (Option.some l)) ∧ (g))) (.leaf (Exit.normal, St.of 162 [AObj.resv, AObj.resv, r, l', vo, wo, (AObj.cells (0 : Nat) [AV.zs, AV.zs, AV.zs]), (AObj.cells (0 : Nat) [(flL (V)), (flLL (C)), v]), (AObj.cells (0 : Nat) ((I d) :: (vv :: (ww :: ((I m) :: ([]))))))] [(1, (AV.row [(AV.fl (1 : Nat) (List.length (x.V)) (fun i => [AV.int IntKind.u8 (x.V.getD i (0 : Int))])), (AV.fl (1 : Nat) (List.length (x.C)) (fun i => [AV.int IntKind.u8 (x.C.getD i (0 : Int))])), (AV.fl (4 : Nat) (List.length (x.R)) (fun i => csC (x.R.getD i c0)))] (0 : Nat)), true), (2, (AV.ref (6 : Nat) (0 : Nat) (0 : Nat)), true), (3, (AV.ref (7 : Nat) (0 : Nat) (0 : Nat)), true), (9, (I k), true), (10, (AV.ref (8 : Nat) (0 : Nat) (0 : Nat)), true), (11, (I (IntKind.i64.wrap (at' + (1 : Int)))), true), (12, (I u), true), (14, s', true), (96, (flL (V)), true), (97, (I ((↑V.length : Int))), true), (98, (I j), true), (113, (I n), true), (114, (I (IntKind.i64.wrap (i + (1 : Int)))), true)]))))) (.leaf ((Exit.exit (8 : Nat)), St.of 162 [AObj.resv, AObj.resv, r, l, vo, wo, (AObj.cells (0 : Nat) [AV.zs, AV.zs, AV.zs]), (AObj.cells (0 : Nat) [(flL (V)), (flLL (C)), v]), (AObj.cells (0 : Nat) ((I d) :: (vv :: (ww :: ((I m) :: ([]))))))] [(1, (AV.row [(AV.fl (1 : Nat) (List.length (x.V)) (fun i => [AV.int IntKind.u8 (x.V.getD i (0 : Int))])), (AV.fl (1 : Nat) (List.length (x.C)) (fun i => [AV.int IntKind.u8 (x.C.getD i (0 : Int))])), (AV.fl (4 : Nat) (List.length (x.R)) (fun i => csC (x.R.getD i c0)))] (0 : Nat)), true), (2, (AV.ref (6 : Nat) (0 : Nat) (0 : Nat)), true), (3, (AV.ref (7 : Nat) (0 : Nat) (0 : Nat)), true), (9, (I k), true), (10, (AV.ref (8 : Nat) (0 : Nat) (0 : Nat)), true), (11, (I at'), true), (12, (I u), true), (14, s, true), (96, (flL (V)), true), (97, (I ((↑V.length : Int))), true), (98, (I j), true), (113, (I n), true), (114, (I i), true)])) := by kernel_rfl
theorem run18D (g : Prop) (x : Pz) (V : List Int) (C : List (List Int)) (v : AV) (r : AObj) (k d m : Int) (vv ww vv' ww' : AV) (vo wo vo' wo' : AObj) (at' at2 j : Int) (y : List Int) : xBodyT { boxRow := false, hint := orH (hApO 22 1 4 [I j] vv vv' vo vo' g) (orH (hApO 23 1 5 [flL y] ww ww' wo wo' g) (orH (hSto 22 8) (orH (hSto 23 8) hBit))) } 200 (lpB 29 keepE (stE x V C v r k d m vv ww vo wo at' j j (V.getD j.toNat 0) .zs .resv 0) (.exit 8) (stE x V C v r k d m vv ww vo wo at2 j j (V.getD j.toNat 0) (flL y) .resv (V.getD j.toNat 0))) keepD 9 body18D (stD x V C v r k d m vv ww vo wo at' j) = .ite (decide (j < (↑V.length : Int))) (.need (((0 : Int) ≤ j) ∧ (j < (↑V.length : Int))) (.need (((0 : Int) ≤ k) ∧ (k < (↑x.R.length : Int))) (.need ((0 : Int) ≤ j) (.need (True) (.ite (uand8 (ushr8 (x.R.getD k.toNat c0).u j) (1 : Int) == (0 : Int)) (.leaf (Exit.normal, St.of 162 [AObj.resv, AObj.resv, r, AObj.resv, vo, wo, (AObj.cells (0 : Nat) [AV.zs, AV.zs, AV.zs]), (AObj.cells (0 : Nat) [(flL (V)), (flLL (C)), v]), (AObj.cells (0 : Nat) ((I d) :: (vv :: (ww :: ((I m) :: ([]))))))] [(1, (AV.row [(AV.fl (1 : Nat) (List.length (x.V)) (fun i => [AV.int IntKind.u8 (x.V.getD i (0 : Int))])), (AV.fl (1 : Nat) (List.length (x.C)) (fun i => [AV.int IntKind.u8 (x.C.getD i (0 : Int))])), (AV.fl (4 : Nat) (List.length (x.R)) (fun i => csC (x.R.getD i c0)))] (0 : Nat)), true), (2, (AV.ref (6 : Nat) (0 : Nat) (0 : Nat)), true), (3, (AV.ref (7 : Nat) (0 : Nat) (0 : Nat)), true), (9, (I k), true), (10, (AV.ref (8 : Nat) (0 : Nat) (0 : Nat)), true), (11, (I at'), true), (96, (flL (V)), true), (97, (I ((↑V.length : Int))), true), (98, (I (IntKind.i64.wrap (j + (1 : Int)))), true)])) (.need ((stE x V C v r k d m vv ww vo wo at' j j (V.getD j.toNat 0) .zs .resv 0).vals = (stE x V C v r k d m vv ww vo wo at' j j (V.getD j.toNat 0) .zs .resv 0).vals) (.need (((Option.some [vv, (AV.sl (1 : Nat) [[(I j)]])]) = (Option.some [vv, (AV.sl (1 : Nat) [[(I j)]])])) ∧ (((Option.some vo) = (Option.some vo)) ∧ (g))) (.need (((AV.one vv') = true) ∧ ((1 : Nat) < (4 : Nat))) (.need (((Option.some [ww, (AV.sl (1 : Nat) [[(flL (y))]])]) = (Option.some [ww, (AV.sl (1 : Nat) [[(flL (y))]])])) ∧ (((Option.some wo) = (Option.some wo)) ∧ (g))) (.need (((AV.one ww') = true) ∧ ((2 : Nat) < (4 : Nat))) (.leaf (Exit.normal, St.of 162 [AObj.resv, AObj.resv, r, AObj.resv, vo', wo', (AObj.cells (0 : Nat) [AV.zs, AV.zs, AV.zs]), (AObj.cells (0 : Nat) [(flL (V)), (flLL (C)), v]), (AObj.cells (0 : Nat) (setL (setL ((AV.int (IntKind.i64) (d)) :: ((vv) :: ([ww, I m]))) (1 : Nat) [vv']) (2 : Nat) [ww']))] [(1, (AV.row [(AV.fl (1 : Nat) (List.length (x.V)) (fun i => [AV.int IntKind.u8 (x.V.getD i (0 : Int))])), (AV.fl (1 : Nat) (List.length (x.C)) (fun i => [AV.int IntKind.u8 (x.C.getD i (0 : Int))])), (AV.fl (4 : Nat) (List.length (x.R)) (fun i => csC (x.R.getD i c0)))] (0 : Nat)), true), (2, (AV.ref (6 : Nat) (0 : Nat) (0 : Nat)), true), (3, (AV.ref (7 : Nat) (0 : Nat) (0 : Nat)), true), (9, (I k), true), (10, (AV.ref (8 : Nat) (0 : Nat) (0 : Nat)), true), (11, (I at2), true), (96, (flL (V)), true), (97, (I ((↑V.length : Int))), true), (98, (I (IntKind.i64.wrap (j + (1 : Int)))), true)])))))))))))) (.leaf ((Exit.exit (6 : Nat)), St.of 162 [AObj.resv, AObj.resv, r, AObj.resv, vo, wo, (AObj.cells (0 : Nat) [AV.zs, AV.zs, AV.zs]), (AObj.cells (0 : Nat) [(flL (V)), (flLL (C)), v]), (AObj.cells (0 : Nat) ((I d) :: (vv :: (ww :: ((I m) :: ([]))))))] [(1, (AV.row [(AV.fl (1 : Nat) (List.length (x.V)) (fun i => [AV.int IntKind.u8 (x.V.getD i (0 : Int))])), (AV.fl (1 : Nat) (List.length (x.C)) (fun i => [AV.int IntKind.u8 (x.C.getD i (0 : Int))])), (AV.fl (4 : Nat) (List.length (x.R)) (fun i => csC (x.R.getD i c0)))] (0 : Nat)), true), (2, (AV.ref (6 : Nat) (0 : Nat) (0 : Nat)), true), (3, (AV.ref (7 : Nat) (0 : Nat) (0 : Nat)), true), (9, (I k), true), (10, (AV.ref (8 : Nat) (0 : Nat) (0 : Nat)), true), (11, (I at'), true), (96, (flL (V)), true), (97, (I ((↑V.length : Int))), true), (98, (I j), true)])) := by kernel_rfl
/-- The same as xBodyT, with statements whose order is open and that change the heap. -/
noncomputable def xBodyMT (E : Env) (mv : Nat → Option (List Nat × (Nat → Heap))) (n : Nat) (lp : Loops) (keep : List Nat) (m : Nat) (c : Code) (st : St) : Tree (Exit × St) :=
  (xCodeM Try.prog G0 E mv n lp c st).bind fun r => .leaf (r.1, { t := (r.2.only keep).t, n := r.2.n, h := r.2.h.take m })
theorem xBodyMT_ok {E : Env} (hcl : ClOk Try.prog G0 E) {mv : Nat → Option (List Nat × (Nat → Heap))} {R : Option Nat → Prop} {lp : Loops} {n m : Nat} {keep : List Nat} {c : Code} {st : St} {e : Exit} {st' : St} (hlp : LoopsOk Try.prog G0 R [] lp c)
    (h0 : st.h.length = m) (hc : CleanT m st') (hx : (xBodyMT E mv n lp keep m c st).sel = some (e, st')) : AExec Try.prog G0 R c { tmps := st.a } st.h e { tmps := st'.a } st'.h := by
  obtain ⟨⟨e0, st0⟩, h1, h2⟩ := Tree.of_bind hx
  cases h2
  obtain ⟨h3, h4⟩ := xCodeM_ok names mixed hcl n R [] lp c st _ _ hlp h1
  have h5 := h3.weak_post (a' := { tmps := st0.a, marks := [] }) (St.only_le keep st0)
  refine AExec.trim (g := st0.h.drop m) ?_ (hc.1.trans h0.symm) (by rw [h0]; exact hc.2.1) (by rw [h0]; exact hc.2.2)
  show AExec Try.prog G0 R c _ _ _ _ (st0.h.take m ++ st0.h.drop m)
  rw [List.take_append_drop]
  exact h5
noncomputable def mv18 (h : Heap) (d m : Int) : Nat → Option (List Nat × (Nat → Heap)) := fun id => bif Nat.beq id 21 then some ([15, 16], fun n => match n with
  | 0 => h
  | 1 => h ++ [.cells 0 [I 0, .zs, .zs, I 0]]
  | _ => h ++ [.cells 0 [I d, .zs, .zs, I m]]) else none
def dm18 (x : Pz) (k : Int) : Int := IntKind.i64.wrap (x.R.getD k.toNat c0).d
def mm18 (x : Pz) (k : Int) : Int := IntKind.i64.wrap (x.R.getD k.toNat c0).m
def E18C (g : Prop) (d m : Int) (U : List Int) (W : List (List Int)) (v v' : AV) (r r' : AObj) : Env := { boxRow := false, hint := orH (hApO 24 4 2 [I d, flL U, flLL W, I m] v v' r r' g) (orH (hSto 24 7) (hStA 56 8)) }
def EF18 : Env := { boxRow := true, hint := orH (hStA 26 6) (hStA 26 7) }
theorem runF18 (x : Pz) (V : List Int) (C : List (List Int)) (v : AV) (r : AObj) (a i k : Int) : xenter Try.prog EF18 (xCode Try.prog G0 EF18 200 (lpAnd (lpB 4 keepA (stA x .zs .resv .zs .resv 0 0) (.exit 0) (.of 162 (hC V C .zs .resv .resv .resv .resv) [(1, .row (pzC x) 0, true), (2, .ref 6 0 0, true), (3, .ref 7 0 0, true), (4, I a, true), (5, I i, true)])) (lpB 19 keepC (stC x V C .zs .resv 0) (.exit 4) (stC x V C v r k)))) 18 [pzAV x] [true] (List.replicate 6 .resv) = .need (((Option.some (3 : Nat)) = (Option.some (3 : Nat))) ∧ ((true = true) ∧ ((3 : Nat) ≤ (3 : Nat)))) (.need ((stA x .zs .resv .zs .resv 0 0).vals = (stA x .zs .resv .zs .resv 0 0).vals) (.need ((stC x V C .zs .resv 0).vals = (stC x V C .zs .resv 0).vals) (.need (((Option.some (3 : Nat)) = (Option.some (3 : Nat))) ∧ ((((List.take Try.prog.types[(26 : Nat)].size (List.drop (0 : Nat) [flL V, flLL C, v])).all AV.one) = true) ∧ ((3 : Nat) ≤ (3 : Nat)))) (.leaf ((AV.agg [(flL (V)), (flLL (C)), v]), true, [AObj.resv, AObj.resv, r, AObj.resv, AObj.resv, AObj.resv, (AObj.cells (0 : Nat) (setL [AV.zs, AV.zs, AV.zs] (0 : Nat) [(flL (V)), (flLL (C)), v])), (AObj.cells (0 : Nat) [(flL (V)), (flLL (C)), v])]))))) := by kernel_rfl
end Go.Proofs.Ytngaihdpmoajeaa.Am

namespace Go.Proofs.Ytngaihdpmoajeaa.Am
open Go
set_option maxRecDepth 100000

/-- Some places are given back. -/
def dropP (D : Nat → Bool) (n : Nat) : Nat → Option Nat := fun q => bif D q then none else if q < n then some q else none
theorem dropP_at {D : Nat → Bool} {n q : Nat} (h : D q = false) (hq : q < n) : dropP D n q = some q := by simp [dropP, h, hq]
theorem dropP_some {D : Nat → Bool} {n q z : Nat} (h : dropP D n q = some z) : D q = false ∧ q < n ∧ z = q := by
  unfold dropP at h
  cases hD : D q with
  | true => rw [hD] at h; cases h
  | false =>
    rw [hD, cond_false] at h
    split at h
    · cases h; exact ⟨rfl, ‹_›, rfl⟩
    · cases h
theorem dropP_none {D : Nat → Bool} {n r : Nat} (h : D r = true) : ∀ q, dropP D n q ≠ some r := fun q hq => by
  obtain ⟨h1, _, rfl⟩ := dropP_some hq
  rw [h] at h1; cases h1
def GoodD (D : Nat → Bool) (n r : Nat) : Prop := D r = false ∧ r < n
def OnlyO (P : Nat → Prop) : AObj → Prop
  | .cells _ c => ∀ x ∈ c, Only P x
  | .resv => True
  | .gone => True
  | _ => False
def ReC (π : Nat → Option Nat) (σ : Heap) : List AV → List AV → Prop
  | [], [] => True
  | x :: a, y :: b => Re G0 π σ x y ∧ ReC π σ a b
  | _, _ => False
theorem ReC.len {π : Nat → Option Nat} {σ : Heap} : ∀ {a b : List AV}, ReC π σ a b → b.length = a.length
  | [], [], _ => rfl
  | _ :: _, _ :: _, h => by rw [List.length_cons, List.length_cons, ReC.len h.2]
  | [], _ :: _, h => h.elim
  | _ :: _, [], h => h.elim
theorem ReC.at' {π : Nat → Option Nat} {σ : Heap} : ∀ {a b : List AV}, ReC π σ a b → ∀ (j : Nat) (y : AV), b[j]? = some y → ∃ x, a[j]? = some x ∧ Re G0 π σ x y
  | [], [], _, j, y, hj => by simp at hj
  | _ :: _, _ :: _, h, 0, y, hj => by cases hj; exact ⟨_, rfl, h.1⟩
  | _ :: _, _ :: _, h, j + 1, y, hj => ReC.at' h.2 j y hj
  | [], _ :: _, h, _, _, _ => h.elim
  | _ :: _, [], h, _, _, _ => h.elim
theorem Re.good {D : Nat → Bool} {n : Nat} {σ : Heap} {x : AV} (h : Only (GoodD D n) x) : Re G0 (dropP D n) σ x x := Re.only (fun _ hr => .inr (dropP_at hr.1 hr.2)) h
/-- What is to be shown of each object. -/
def DropO (D : Nat → Bool) (n : Nat) (σ1 : Heap) (r : Nat) (o : AObj) : Prop :=
  (D r = true ∧ o = .resv) ∨ (D r = false ∧ σ1[r]? = some o ∧ OnlyO (GoodD D n) o) ∨ (D r = false ∧ ∃ g c c0, o = .cells g c ∧ σ1[r]? = some (.cells g c0) ∧ ReC (dropP D n) σ1 c0 c)
def DropH (D : Nat → Bool) (n : Nat) (σ1 : Heap) : Nat → Heap → Prop
  | _, [] => True
  | r, o :: t => DropO D n σ1 r o ∧ DropH D n σ1 (r + 1) t
theorem DropH.at' {D : Nat → Bool} {n : Nat} {σ1 : Heap} : ∀ {t : Heap} {k : Nat}, DropH D n σ1 k t → ∀ (j : Nat) (o : AObj), t[j]? = some o → DropO D n σ1 (k + j) o
  | [], _, _, j, o, hj => by simp at hj
  | _ :: _, k, h, 0, o, hj => by cases hj; exact h.1
  | _ :: t, k, h, j + 1, o, hj => by
    have := DropH.at' (t := t) h.2 j o hj
    rwa [show k + 1 + j = k + (j + 1) by omega] at this
theorem HRe.drop {D : Nat → Bool} {n : Nat} {σ σ1 τ : Heap} (hs : σ.length = n) (ht : τ.length = n) (hσ : ∀ r o, σ[r]? = some o → D r = true → o = .resv) (ho : DropH D n σ1 0 τ) : HRe G0 (dropP D n) σ σ1 τ := by
  refine ⟨gbelow0, fun r o hr hne => ?_, fun r r' q h1 h2 => ?_, fun r q h => ?_, fun r o hr => ?_⟩
  · cases hD : D r with
    | true => exact absurd (hσ r o hr hD) hne
    | false => exact dropP_at hD (by have := (List.getElem?_eq_some_iff.1 hr).1; omega)
  · have := dropP_some h1
    have := dropP_some h2
    omega
  · have := dropP_some h
    omega
  · have hrn : r < n := by have := (List.getElem?_eq_some_iff.1 hr).1; omega
    have := ho.at' r o hr
    rw [Nat.zero_add] at this
    rcases this with ⟨h1, rfl⟩ | ⟨h1, h2, h3⟩ | ⟨h1, g, c, c0, rfl, h2, h3⟩
    · exact fun q hq => by rw [(dropP_some hq).1] at h1; cases h1
    · cases o with
      | cells g c => exact ⟨r, c, dropP_at h1 hrn, h2, rfl, fun j y hj => ⟨y, hj, Re.good (h3 y (List.mem_of_getElem? hj))⟩⟩
      | resv => exact fun q hq => by rw [(dropP_some hq).2.2]; exact h2
      | dfr => exact h3.elim
      | loop A => exact h3.elim
      | gone => trivial
    · exact ⟨r, c0, dropP_at h1 hrn, h2, h3.len, h3.at'⟩
/-- Frames, value by value. -/
def ReL (π : Nat → Option Nat) (σ : Heap) : List (Nat × AV × Bool) → List (Nat × AV × Bool) → Prop
  | [], [] => True
  | p :: l, q :: l' => p.1 = q.1 ∧ Re G0 π σ p.2.1 q.2.1 ∧ ReL π σ l l'
  | _, _ => False
theorem ReL.get {π : Nat → Option Nat} {σ : Heap} : ∀ {l l' : List (Nat × AV × Bool)} {t t' : PT}, ReL π σ l l' → (∀ j, Re G0 π σ (t.get j).1 (t'.get j).1) → ∀ j, Re G0 π σ ((l.foldl (fun t p => t.set p.1 p.2.1 p.2.2) t).get j).1 ((l'.foldl (fun t p => t.set p.1 p.2.1 p.2.2) t').get j).1
  | [], [], _, _, _, h, j => h j
  | p :: l, q :: l', t, t', hl, h, j => by
    rw [List.foldl_cons, List.foldl_cons]
    refine ReL.get hl.2.2 (fun j => ?_) j
    rw [PT.get_set, PT.get_set, hl.1]
    by_cases hj : j = q.1
    · rw [if_pos hj, if_pos hj]; exact hl.2.1
    · rw [if_neg hj, if_neg hj]; exact h j
  | [], _ :: _, _, _, hl, _, _ => hl.elim
  | _ :: _, [], _, _, hl, _, _ => hl.elim
theorem re_of {π : Nat → Option Nat} {σ : Heap} {n : Nat} {h h' : Heap} {l l' : List (Nat × AV × Bool)} (hl : ReL π σ l l') : ∀ (j : Nat) (y : AV), (St.of n h' l').a[j]? = some y → ∃ x, (St.of n h l).a[j]? = some x ∧ Re G0 π σ x y := by
  intro j y hj
  rw [St.at_eq] at hj
  unfold St.at at hj
  refine ⟨((St.of n h l).t.get j).1, ?_, ?_⟩
  · rw [St.at_eq]
    unfold St.at
    cases hb : Nat.blt j (St.of n h' l').n with
    | false => rw [hb] at hj; cases hj
    | true =>
      have : Nat.blt j (St.of n h l).n = true := hb
      rw [this]
      rfl
  · cases hb : Nat.blt j (St.of n h' l').n with
    | false => rw [hb] at hj; cases hj
    | true =>
      rw [hb] at hj
      cases hj
      exact ReL.get hl (fun j => by rw [PT.get_nil]; exact Re.junk) j
/-- A loop of which the whole run is known. -/
theorem lpB_exec {i : Nat} {keep : List Nat} {S X : St} {e : Exit} {body c : Code} (hr : AExec Try.prog G0 (fun r => r = none) (.loop body) { tmps := S.a } S.h e { tmps := X.a } X.h) (hn : X.n = S.n) (hu : ∀ x ∈ loopsOf c, idOf x = i → x = body) :
    LoopsOk Try.prog G0 (fun r => r = none) [] (lpB i keep S e X) c := by
  refine .of_list _ fun x hm => ?_
  intro kp s0 t e' st' h' hsel
  unfold lpB at h'
  cases hb : Nat.beq (idOf x) i with
  | false => rw [hb, cond_false] at h'; cases h'
  | true =>
    rw [hb, cond_true] at h'
    obtain rfl := hu x hm (Nat.eq_of_beq_eq_true hb)
    cases h'
    cases hsel
    exact ⟨hr, hn⟩
/-- The run of a loop that goes to its end. -/
theorem LoopA.exec {body : Code} {N : Nat} {S R : Nat → St} {X : St} {eR eX : Exit} {stop : Nat → Bool} (hs : LoopA body N S R X eR eX stop) (hn : ∀ k, k < N → stop k = false) :
    AExec Try.prog G0 (fun r => r = none) (.loop body) { tmps := (S 0).a } (S 0).h eX { tmps := X.a } X.h := by
  have key := hs.run N 0 (by omega) (fun j h => absurd h (by omega))
  unfold endA at key
  rw [decide_eq_false (fun h => by
    obtain ⟨k, h1, h2⟩ := (fstStop_iff _ _).1 h
    rw [hn k h1] at h2; cases h2)] at key
  exact .loop key
/-- The run of a loop at whose end places are given back. -/
theorem LoopA.drop {body : Code} {N n : Nat} {S R : Nat → St} {eR eX : Exit} {stop : Nat → Bool} {D : Nat → Bool} {m : Nat} {h h' : Heap} {l l' : List (Nat × AV × Bool)} (hs : LoopA body N S R (St.of m h l) eR eX stop) (hn : ∀ k, k < N → stop k = false)
    (h0 : (S 0).h.length = n) (ht : h'.length = n) (hσ : ∀ r o, (S 0).h[r]? = some o → D r = true → o = .resv) (ho : DropH D n h 0 h') (hl : ReL (dropP D n) h l l') :
    AExec Try.prog G0 (fun r => r = none) (.loop body) { tmps := (S 0).a } (S 0).h eX { tmps := (St.of m h' l').a } h' :=
  (hs.exec hn).re (.drop h0 ht hσ ho) nofun (by simp [St.a, St.of]) (re_of hl)
theorem onlyO_sO {P : Nat → Prop} {rows : List (List AV)} (h : ∀ x ∈ rows, ∀ y ∈ x, Below 0 y) : OnlyO P (sO rows) := by
  cases rows with
  | nil => trivial
  | cons x l =>
    intro y hy
    obtain ⟨z, hz, hy⟩ := List.mem_flatten.1 hy
    exact .of0 (h z hz y hy)
theorem onlySV {P : Nat → Prop} {s r : Nat} {rows : List (List AV)} (h : P r) : Only P (sV s r rows) := by
  cases rows with
  | nil => exact .zs
  | cons x l => exact .ms _ _ _ _ _ _ h
end Go.Proofs.Ytngaihdpmoajeaa.Am

namespace Go.Proofs.Ytngaihdpmoajeaa.Am
open Go
set_option maxRecDepth 100000

/-- The numbers of a puzzle are of 8 bits. -/
structure Pz.ok (x : Pz) : Prop where
  v : ∀ k, 0 ≤ x.V.getD k 0 ∧ x.V.getD k 0 ≤ 255
  c : ∀ k, 0 ≤ x.C.getD k 0 ∧ x.C.getD k 0 ≤ 255
  d : ∀ k, 0 ≤ (x.R.getD k c0).d ∧ (x.R.getD k c0).d ≤ 255
  m : ∀ k, -128 ≤ (x.R.getD k c0).m ∧ (x.R.getD k c0).m ≤ 127
  w : ∀ k j, -128 ≤ (x.R.getD k c0).w.getD j 0 ∧ (x.R.getD k c0).w.getD j 0 ≤ 127
def preL {α : Type} (f : Nat → α) (k : Nat) : List α := (List.range k).map f
theorem preL_succ {α : Type} (f : Nat → α) (k : Nat) : preL f (k + 1) = preL f k ++ [f k] := by simp [preL, List.range_succ]
theorem preL_len {α : Type} (f : Nat → α) (k : Nat) : (preL f k).length = k := by simp [preL]
theorem preL_getD {α : Type} (f : Nat → α) {k i : Nat} (h : i < k) (d : α) : (preL f k).getD i d = f i := by
  unfold preL
  rw [List.getD_eq_getElem?_getD, List.getElem?_map, List.getElem?_range h]
  rfl
/-- How many values a variable has. -/
def valM (x : Pz) (i : Nat) : Nat := 1 + (x.V.getD i 0).toNat % 4
theorem valM_bound (x : Pz) (i : Nat) : 1 ≤ valM x i ∧ valM x i ≤ 4 := by unfold valM; omega
theorem mk18_eq {x : Pz} (hx : x.ok) (i : Nat) : mk18 x i = (valM x i : Int) := by
  have h := hx.v i
  unfold mk18 valM
  rw [Int.toNat_natCast]
  obtain ⟨n, hn⟩ : ∃ n : Nat, x.V.getD i 0 = n := ⟨(x.V.getD i 0).toNat, by omega⟩
  have e0 : IntKind.i64.wrap (n : Int) = (n : Int) := wrapI (by omega)
  rw [hn, Int.toNat_natCast, e0]
  have e : Int.tmod (n : Int) 4 = ((n % 4 : Nat) : Int) := rfl
  rw [e, wrapI (by omega)]
  omega
/-- Where the costs of a variable begin. -/
def ofs (x : Pz) : Nat → Nat
  | 0 => 0
  | k + 1 => ofs x k + valM x k
theorem ofs_le (x : Pz) : ∀ k, ofs x k ≤ 4 * k
  | 0 => Nat.le_refl _
  | k + 1 => by
    have := ofs_le x k
    have := valM_bound x k
    show ofs x k + valM x k ≤ _
    omega
def costF (x : Pz) (o j : Nat) : Int := x.C.getD (o + j) 0
def cosR (x : Pz) (i : Nat) : List Int := preL (costF x (ofs x i)) (valM x i)
def valsM (x : Pz) (k : Nat) : List Int := preL (fun i => (valM x i : Int)) k
def costsM (x : Pz) (k : Nat) : List (List Int) := preL (cosR x) k
/-! ### The costs of one variable -/
theorem clokHint {H : Heap → Oper → (Operand → Option AV) → Option (AV × Bool × Heap × Prop)} (hH : HintOk Try.prog G0 H) : ClOk Try.prog G0 { boxRow := false, hint := H } := .all hH (fun f xs σ t u σ' h => (by cases h)) (fun l xs σ t v σ' h => (by cases h)) fun f xs t v h => by cases h
theorem below_pz (x : Pz) : ∀ y ∈ pzC x, Below 0 y := fun y hy => by
  simp only [pzC, List.mem_cons, List.not_mem_nil, or_false] at hy
  have h8 : ∀ L : List Int, Below 0 (flB L) := fun L => below_fl fun i y hy => by rw [List.mem_singleton.1 hy]; exact .int _ _
  have h9 : ∀ L : List Int, Below 0 (flT L) := fun L => below_fl fun i y hy => by rw [List.mem_singleton.1 hy]; exact .int _ _
  rcases hy with rfl | rfl | rfl
  · exact h8 _
  · exact h8 _
  · refine below_fl fun i y hy => ?_
    simp only [csC, List.mem_cons, List.not_mem_nil, or_false] at hy
    rcases hy with rfl | rfl | rfl | rfl
    · exact .int _ _
    · exact .int _ _
    · exact h9 _
    · exact .int _ _
theorem below_pzr {n : Nat} (x : Pz) : Below n (.row (pzC x) 0) := below_row fun y hy => (below_pz x y hy).up
theorem alone_A (L : List Int) (M : List (List Int)) (T : List Int) : ∀ o ∈ hA (sV 1 0 (rowI L)) (sO (rowI L)) (sV 1 1 (rowLL M)) (sO (rowLL M)) (sO (rowI T)), Alone 8 o := fun o ho => by
  simp only [hA, List.mem_cons, List.not_mem_nil, or_false] at ho
  rcases ho with rfl | rfl | rfl | rfl | rfl | rfl | rfl | rfl
  · exact alone_rowI _
  · exact alone_rowLL _
  · trivial
  · exact alone_rowI _
  · trivial
  · trivial
  · intro y hy
    simp only [zPb, List.mem_cons, List.not_mem_nil, or_false] at hy
    rcases hy with rfl | rfl | rfl <;> exact .zs
  · intro y hy
    simp only [List.mem_cons, List.not_mem_nil, or_false] at hy
    rcases hy with rfl | rfl | rfl
    · exact below_sV (by omega)
    · exact below_sV (by omega)
    · exact .zs
theorem clean18B (x : Pz) (L : List Int) (M : List (List Int)) (i n a : Int) (T : List Int) (j : Int) : CleanT 8 (stB x (sV 1 0 (rowI L)) (sO (rowI L)) (sV 1 1 (rowLL M)) (sO (rowLL M)) i n a (sV 1 3 (rowI T)) (sO (rowI T)) j) :=
  cleanT_of rfl (alone_A L M T) ⟨below_pzr x, .ref _ _ _ (by omega), .ref _ _ _ (by omega), .int _ _, .int _ _, below_sV (by omega), .int _ _, .int _ _, trivial⟩
theorem loop18B {x : Pz} (hx : x.ok) (L : List Int) (M : List (List Int)) (i : Int) (n o : Nat) (hb : o + n < 1000000) :
    LoopA body18B n (fun j => stB x (sV 1 0 (rowI L)) (sO (rowI L)) (sV 1 1 (rowLL M)) (sO (rowLL M)) i n (o + j : Nat) (sV 1 3 (rowI (preL (costF x o) j))) (sO (rowI (preL (costF x o) j))) j)
      (fun j => stB x (sV 1 0 (rowI L)) (sO (rowI L)) (sV 1 1 (rowLL M)) (sO (rowLL M)) i n (o + j : Nat) (sV 1 3 (rowI (preL (costF x o) j))) (sO (rowI (preL (costF x o) j))) j)
      (stB x (sV 1 0 (rowI L)) (sO (rowI L)) (sV 1 1 (rowLL M)) (sO (rowLL M)) i n (o + n : Nat) (sV 1 3 (rowI (preL (costF x o) n))) (sO (rowI (preL (costF x o) n))) n) .ret (.exit 2) fun _ => false := by
  refine .linT (m := 8) (fun _ => rfl) rfl nofun (fun k => clean18B x L M i n _ _ k) (clean18B x L M i n _ _ _) fun j hj => ?_
  have key := congrArg Tree.sel (run18B True x (sV 1 0 (rowI L)) (sO (rowI L)) (sV 1 1 (rowLL M)) (sO (rowLL M)) i n (o + j : Nat) (sV 1 3 (rowI (preL (costF x o) j))) (sV 1 3 (rowI (preL (costF x o) j ++ [costF x o j]))) (sO (rowI (preL (costF x o) j))) (sO (rowI (preL (costF x o) j ++ [costF x o j]))) j (costF x o j))
  have hc := hx.c (o + j)
  rw [Int.toNat_natCast] at key
  refine ⟨_, _, _, clokHint (hApO_ok els22 fun _ => grow_I (by rw [preL_len]; omega) _ 3), lpNo _, fun hlt => key.trans ?_, fun he => key.trans ?_⟩
  · have w1 : IntKind.i64.wrap (((o + j : Nat) : Int) + 1) = ((o + (j + 1) : Nat) : Int) := (wrapI (by omega)).trans (by omega)
    have w2 : IntKind.i64.wrap (j + 1 : Int) = ((j + 1 : Nat) : Int) := (wrapI (by omega)).trans (by omega)
    rw [w1, w2, preL_succ]
    refine (selIt (dT (by omega))).trans (t_ite (fun h1 => ?_) fun h1 => ?_)
    · have h1' := of_decide_eq_true h1
      have e : costF x o j = x.C.getD (o + j) 0 := rfl
      rw [wrapI (by omega), e]
      exact t_need ⟨by omega, h1'⟩ (t_need ⟨rfl, rfl, trivial⟩ rfl)
    · have h1' := of_decide_eq_false h1
      have e : costF x o j = 0 := by
        unfold costF
        rw [List.getD_eq_getElem?_getD, List.getElem?_eq_none (by omega)]
        rfl
      rw [e]
      exact t_need ⟨rfl, rfl, trivial⟩ rfl
  · rw [selIf (dF (by omega)), he]
    rfl
def D3 : Nat → Bool := fun q => Nat.beq q 3
theorem exec18B {x : Pz} (hx : x.ok) (L : List Int) (M : List (List Int)) (i : Int) (n o : Nat) (hb : o + n < 1000000) :
    AExec Try.prog G0 (fun r => r = none) (.loop body18B) { tmps := (stB x (sV 1 0 (rowI L)) (sO (rowI L)) (sV 1 1 (rowLL M)) (sO (rowLL M)) i n o .zs .resv 0).a } (hA (sV 1 0 (rowI L)) (sO (rowI L)) (sV 1 1 (rowLL M)) (sO (rowLL M)) .resv) (.exit 2)
      { tmps := (stB x (sV 1 0 (rowI L)) (sO (rowI L)) (sV 1 1 (rowLL M)) (sO (rowLL M)) i n (o + n : Nat) (flL (preL (costF x o) n)) .resv n).a } (hA (sV 1 0 (rowI L)) (sO (rowI L)) (sV 1 1 (rowLL M)) (sO (rowLL M)) .resv) := by
  refine (loop18B hx L M i n o hb).drop (n := 8) (D := D3) (fun _ _ => rfl) rfl rfl (fun r q hr hD => ?_) ?_ ?_
  · obtain rfl := Nat.eq_of_beq_eq_true hD
    cases hr; rfl
  · refine ⟨.inr (.inl ⟨rfl, rfl, onlyO_sO rowI_flat⟩), .inr (.inl ⟨rfl, rfl, onlyO_sO rowLL_flat⟩), .inr (.inl ⟨rfl, rfl, trivial⟩), .inl ⟨rfl, rfl⟩, .inr (.inl ⟨rfl, rfl, trivial⟩), .inr (.inl ⟨rfl, rfl, trivial⟩), .inr (.inl ⟨rfl, rfl, fun y hy => ?_⟩), .inr (.inl ⟨rfl, rfl, fun y hy => ?_⟩), trivial⟩
    · simp only [zPb, List.mem_cons, List.not_mem_nil, or_false] at hy
      rcases hy with rfl | rfl | rfl <;> exact .zs
    · simp only [List.mem_cons, List.not_mem_nil, or_false] at hy
      rcases hy with rfl | rfl | rfl
      · exact onlySV ⟨rfl, by omega⟩
      · exact onlySV ⟨rfl, by omega⟩
      · exact .zs
  · have rf : ∀ r, D3 r = false ∧ r < 8 → Re G0 (dropP D3 8) (hA (sV 1 0 (rowI L)) (sO (rowI L)) (sV 1 1 (rowLL M)) (sO (rowLL M)) (sO (rowI (preL (costF x o) n)))) (.ref r 0 0) (.ref r 0 0) := fun r h => Re.good (.ref _ _ _ h)
    exact ⟨rfl, Re.flat (below_pzr x), rfl, rf 6 ⟨rfl, by omega⟩, rfl, rf 7 ⟨rfl, by omega⟩, rfl, re_int, rfl, re_int, rfl, re_ints rfl (dropP_none rfl), rfl, re_int, rfl, re_int, trivial⟩
/-! ### The values, and the costs of all -/
def stA' (x : Pz) (L : List Int) (M : List (List Int)) (a i : Int) : St := stA x (sV 1 0 (rowI L)) (sO (rowI L)) (sV 1 1 (rowLL M)) (sO (rowLL M)) a i
theorem clean18A (x : Pz) (L : List Int) (M : List (List Int)) (a i : Int) : CleanT 8 (stA' x L M a i) :=
  cleanT_of rfl (alone_A L M []) ⟨below_pzr x, .ref _ _ _ (by omega), .ref _ _ _ (by omega), .int _ _, .int _ _, trivial⟩
theorem loops18A : loopsOf body18A = [body18B] := by kernel_rfl
def N18 (x : Pz) : Nat := min x.V.length 5
theorem loop18A {x : Pz} (hx : x.ok) : LoopA body18A (N18 x) (fun k => stA' x (valsM x k) (costsM x k) (ofs x k : Nat) k) (fun k => stA' x (valsM x k) (costsM x k) (ofs x k : Nat) k) (stA' x (valsM x (N18 x)) (costsM x (N18 x)) (ofs x (N18 x) : Nat) (N18 x)) .ret (.exit 0) fun _ => false := by
  have hN : N18 x ≤ 5 := by unfold N18; omega
  refine .linT (m := 8) (fun _ => rfl) rfl nofun (fun k => clean18A x _ _ _ k) (clean18A x _ _ _ _) fun k hk => ?_
  have ho := ofs_le x k
  have hv := valM_bound x k
  have hi := lpB_exec (i := 10) (keep := keepB) (S := stB x (sV 1 0 (rowI (valsM x (k + 1)))) (sO (rowI (valsM x (k + 1)))) (sV 1 1 (rowLL (costsM x k))) (sO (rowLL (costsM x k))) k (valM x k) (ofs x k) .zs .resv 0) (X := stB x (sV 1 0 (rowI (valsM x (k + 1)))) (sO (rowI (valsM x (k + 1)))) (sV 1 1 (rowLL (costsM x k))) (sO (rowLL (costsM x k))) k (valM x k) (ofs x k + valM x k : Nat) (flL (cosR x k)) .resv (valM x k))
    (exec18B hx (valsM x (k + 1)) (costsM x k) k (valM x k) (ofs x k) (by omega)) rfl (c := body18A) (one_loop loops18A)
  have key := congrArg Tree.sel (run18A True x (sV 1 0 (rowI (valsM x k))) (sV 1 0 (rowI (valsM x (k + 1)))) (sO (rowI (valsM x k))) (sO (rowI (valsM x (k + 1)))) (sV 1 1 (rowLL (costsM x k))) (sV 1 1 (rowLL (costsM x (k + 1)))) (sO (rowLL (costsM x k))) (sO (rowLL (costsM x (k + 1)))) (ofs x k) k (valM x k) (ofs x k + valM x k : Nat) (cosR x k))
  have e1 : valsM x (k + 1) = valsM x k ++ [(valM x k : Int)] := preL_succ _ _
  have e2 : costsM x (k + 1) = costsM x k ++ [cosR x k] := preL_succ _ _
  have g1 : Grow 1 0 [I (valM x k)] (sV 1 0 (rowI (valsM x k))) (sV 1 0 (rowI (valsM x (k + 1)))) (sO (rowI (valsM x k))) (sO (rowI (valsM x (k + 1)))) := by
    rw [e1]; exact grow_I (by unfold valsM; rw [preL_len]; omega) _ 0
  have g2 : Grow 1 1 [flL (cosR x k)] (sV 1 1 (rowLL (costsM x k))) (sV 1 1 (rowLL (costsM x (k + 1)))) (sO (rowLL (costsM x k))) (sO (rowLL (costsM x (k + 1)))) := by
    rw [e2]; exact grow_LL (by unfold costsM; rw [preL_len]; omega) _ 1
  refine ⟨_, _, _, clokHint ((hApO_ok els22 fun _ => g1).or ((hApO_ok els23 fun _ => g2).or ((hSto_ok 7 (one_of (by kernel_rfl))).ok.or (hSto_ok 7 (one_of (by kernel_rfl))).ok))), hi, fun hlt => key.trans ?_, fun he => key.trans ?_⟩
  · have hl : k < x.V.length := by unfold N18 at hlt; omega
    have w2 : IntKind.i64.wrap (k + 1 : Int) = ((k + 1 : Nat) : Int) := (wrapI (by omega)).trans (by omega)
    have hm := mk18_eq hx k
    have hm' : IntKind.i64.wrap ((1 : Int) + (IntKind.i64.wrap (x.V.getD (k : Int).toNat (0 : Int))).tmod (4 : Int)) = (valM x k : Int) := hm
    rw [w2, hm, hm']
    refine (selIt (dT (by omega))).trans ((selIt (dT (by omega))).trans (t_need ⟨by omega, by omega⟩ (t_need ⟨rfl, rfl, trivial⟩ (t_need ⟨one_sV, by omega⟩ (t_need rfl (t_need ⟨rfl, rfl, trivial⟩ (t_need ⟨one_sV, by omega⟩ ?_)))))))
    rfl
  · rw [← he]
    exact t_ite (fun h1 => (selIf (dF (by have := of_decide_eq_true h1; unfold N18 at he; omega))).trans rfl) fun _ => rfl
end Go.Proofs.Ytngaihdpmoajeaa.Am

namespace Go.Proofs.Ytngaihdpmoajeaa.Am
open Go Go.ChangeShapes Go.WideShapes
set_option maxRecDepth 100000
section
variable {H : Type} {enc : TypeId × Value → H} {w : World} {sp : Nat → Bool} {held : Bool}

theorem rangeU8 {n : Int} (h : (Lit.int .u8 n).wf = true) : 0 ≤ n ∧ n ≤ 255 := by
  simp [Lit.wf, IntKind.min, IntKind.max, IntKind.signed, IntKind.bits] at h
  exact ⟨by omega, by omega⟩
theorem rangeI8 {n : Int} (h : (Lit.int .i8 n).wf = true) : -128 ≤ n ∧ n ≤ 127 := by
  simp [Lit.wf, IntKind.min, IntKind.max, IntKind.signed, IntKind.bits] at h
  exact ⟨by omega, by omega⟩
theorem getD_all {L : List Int} {lo hi : Int} (h : ∀ y ∈ L, lo ≤ y ∧ y ≤ hi) (h0 : lo ≤ 0 ∧ 0 ≤ hi) (k : Nat) : lo ≤ L.getD k 0 ∧ L.getD k 0 ≤ hi := by
  by_cases hk : k < L.length
  · exact h _ (getD_mem hk)
  · rw [List.getD_eq_getElem?_getD, List.getElem?_eq_none (by omega)]
    exact h0
theorem open_bytes {fuel : Nat} {v : Value} {x : DataW H × List MemPlace} (h : DataW.trod enc Try.prog w 0 sp held fuel 36 [v] = some x) : ∃ B : List Int, RV w M0 v (flB B) ∧ (∀ y ∈ B, 0 ≤ y ∧ y ≤ 255) ∧ (Fits 36 x.1 → sh B) := by
  obtain ⟨B, h1, h2, h3⟩ := open_sl (k := 1) (q := fun n : Int => [AV.int .u8 n]) (d0 := 0) Try.underlying36 (by decide) (by kernel_rfl) (Nat.le_of_ble_eq_true (by kernel_rfl)) (fun _ => rfl) (rows_int Try.underlying5) h
  exact ⟨B, h1, fun y hy => rangeU8 (h2 y hy), fun hs => reach_sh (h3 hs).1⟩
theorem open_i8s {fuel : Nat} {v : Value} {x : DataW H × List MemPlace} (h : DataW.trod enc Try.prog w 0 sp held fuel 77 [v] = some x) : ∃ B : List Int, RV w M0 v (flT B) ∧ (∀ y ∈ B, -128 ≤ y ∧ y ≤ 127) ∧ (Fits 77 x.1 → True) := by
  obtain ⟨B, h1, h2, h3⟩ := open_sl (k := 1) (q := fun n : Int => [AV.int .i8 n]) (d0 := 0) Try.underlying77 (by decide) (by kernel_rfl) (Nat.le_of_ble_eq_true (by kernel_rfl)) (fun _ => rfl) (rows_int Try.underlying78) h
  exact ⟨B, h1, fun y hy => rangeI8 (h2 y hy), fun _ => trivial⟩
/-- The numbers of a clause. -/
def Cs.ok (c : Cs) : Prop := (0 ≤ c.d ∧ c.d ≤ 255) ∧ (∀ y ∈ c.w, -128 ≤ y ∧ y ≤ 127) ∧ -128 ≤ c.m ∧ c.m ≤ 127
theorem rows_clause : RowsAs H enc w sp held 80 csC Cs.ok (fun _ => True) := by
  intro fuel cs y h
  have hf := trod_one Try.underlying80 (by kernel_rfl) (by kernel_rfl) h
  obtain ⟨_, u0, z0, c0, t0, s0⟩ := hf 0 _ rfl
  obtain ⟨_, u1, z1, c1, t1, s1⟩ := hf 1 _ rfl
  obtain ⟨_, u2, z2, c2, t2, s2⟩ := hf 2 _ rfl
  obtain ⟨_, u3, z3, c3, t3, s3⟩ := hf 3 _ rfl
  obtain ⟨d, hd, _, wd⟩ := DataW.trod_int Try.underlying5 t0
  obtain ⟨u, hu, _, _⟩ := DataW.trod_int Try.underlying5 t1
  obtain ⟨W, hW, hWb, _⟩ := open_i8s t2
  obtain ⟨m, hm, _, wm⟩ := DataW.trod_int Try.underlying78 t3
  obtain rfl : u0 = .int .u8 d := by simpa using hd
  obtain rfl : u1 = .int .u8 u := by simpa using hu
  obtain rfl : u3 = .int .i8 m := by simpa using hm
  refine ⟨⟨d, u, W, m⟩, fun j z hz => ?_, ⟨rangeU8 wd, hWb, rangeI8 wm⟩, fun _ => trivial⟩
  match j, hz with
  | 0, hz => cases hz; exact ⟨_, c0, .int _ _⟩
  | 1, hz => cases hz; exact ⟨_, c1, .int _ _⟩
  | 2, hz => cases hz; exact ⟨_, c2, hW⟩
  | 3, hz => cases hz; exact ⟨_, c3, .int _ _⟩
  | j + 4, hz => simp [csC] at hz
theorem open_clauses {fuel : Nat} {v : Value} {x : DataW H × List MemPlace} (h : DataW.trod enc Try.prog w 0 sp held fuel 37 [v] = some x) : ∃ B : List Cs, RV w M0 v (flC B) ∧ (∀ c ∈ B, c.ok) := by
  obtain ⟨B, h1, h2, _⟩ := open_sl (k := 4) (q := csC) (d0 := c0) Try.underlying37 (by decide) (by kernel_rfl) (Nat.le_of_ble_eq_true (by kernel_rfl)) (fun _ => rfl) rows_clause h
  exact ⟨B, h1, h2⟩
/-- A PUZZLE, OPENED. -/
theorem open_pz {r : Reach} {b0 : Nat} {v : Value} {d : DataW H} {ps : List MemPlace} (hv : Value.okWide Try.prog w r b0 39 v) (h : DataW.Trod enc Try.prog w 0 sp held 39 v d ps) : ∃ x : Pz, RV w M0 v (pzAV x) ∧ x.ok := by
  obtain ⟨cs, rfl, hsz⟩ := okWide_struct Try.underlying39 hv
  obtain ⟨fuel, hf⟩ := h
  have hf := trod_one Try.underlying39 (by kernel_rfl) (by kernel_rfl) hf
  obtain ⟨_, u0, z0, k0, t0, s0⟩ := hf 0 _ rfl
  obtain ⟨_, u1, z1, k1, t1, s1⟩ := hf 1 _ rfl
  obtain ⟨_, u2, z2, k2, t2, s2⟩ := hf 2 _ rfl
  obtain ⟨V, hV, hVb, _⟩ := open_bytes t0
  obtain ⟨C, hC, hCb, _⟩ := open_bytes t1
  obtain ⟨R, hR, hRb⟩ := open_clauses t2
  have hcell : ∀ (j : Nat) (u : Value), (Value.agg cs).cells.toList[j]? = some u → cs.getD j undef = u := fun j u hu => by
    have hu : cs.toList[j]? = some u := hu
    rw [Array.getElem?_toList] at hu
    rw [Array.getD_eq_getD_getElem?, hu]
    rfl
  have hRk : ∀ k, (R.getD k c0).ok := fun k => by
    by_cases hk : k < R.length
    · exact hRb _ (getD_mem hk)
    · rw [List.getD_eq_getElem?_getD, List.getElem?_eq_none (by omega)]
      exact ⟨⟨by decide, by decide⟩, nofun, by decide, by decide⟩
  refine ⟨⟨V, C, R⟩, .agg _ _ (hsz.trans (by kernel_rfl)) fun j x hj => ?_, fun k => getD_all hVb ⟨by omega, by omega⟩ k, fun k => getD_all hCb ⟨by omega, by omega⟩ k, fun k => (hRk k).1, fun k => (hRk k).2.2, fun k j => getD_all (hRk k).2.1 ⟨by omega, by omega⟩ j⟩
  match j, hj with
  | 0, hj => cases hj; rw [hcell 0 _ k0]; exact hV
  | 1, hj => cases hj; rw [hcell 1 _ k1]; exact hC
  | 2, hj => cases hj; rw [hcell 2 _ k2]; exact hR
  | j + 3, hj => simp [pzC] at hj
theorem open_u8l {r : Reach} {b0 : Nat} {v : Value} {d : DataW H} {ps : List MemPlace} (hv : Value.okWide Try.prog w r b0 36 v) (h : DataW.Trod enc Try.prog w 0 sp held 36 v d ps) : ∃ B : List Int, RV w M0 v (flB B) ∧ (∀ y ∈ B, 0 ≤ y ∧ y ≤ 255) ∧ (Fits 36 d → sh B) := by
  obtain ⟨base, len, cap, rfl⟩ := okWide_slice Try.underlying36 hv
  obtain ⟨fuel, hf⟩ := h
  obtain ⟨B, h1, h2, h3⟩ := open_bytes hf
  exact ⟨B, h1, h2, h3⟩
end
end Go.Proofs.Ytngaihdpmoajeaa.Am

namespace Go.Proofs.Ytngaihdpmoajeaa.Am
open Go
set_option maxRecDepth 100000

theorem run18C (g : Prop) (x : Pz) (V : List Int) (C : List (List Int)) (v v' : AV) (r r' : AObj) (k : Int) (U : List Int) (W : List (List Int)) (at2 : Int) : xBodyMT (E18C g (dm18 x k) (mm18 x k) U W v v' r r') (mv18 (hC V C v r .resv .resv .resv) (dm18 x k) (mm18 x k)) 200 (lpB 24 keepD (stD x V C v r k (dm18 x k) (mm18 x k) .zs .zs .resv .resv 0 0) (.exit 6) (stD x V C v r k (dm18 x k) (mm18 x k) (flL U) (flLL W) .resv .resv at2 V.length)) keepC 8 body18C (stC x V C v r k) = .ite (decide (k < (↑x.R.length : Int))) (.ite (decide (k < (6 : Int))) (.need ([AObj.resv, AObj.resv, r, AObj.resv, AObj.resv, AObj.resv, (AObj.cells (0 : Nat) [AV.zs, AV.zs, AV.zs]), (AObj.cells (0 : Nat) [(flL (V)), (flLL (C)), v])] = [AObj.resv, AObj.resv, r, AObj.resv, AObj.resv, AObj.resv, (AObj.cells (0 : Nat) [AV.zs, AV.zs, AV.zs]), (AObj.cells (0 : Nat) [(flL (V)), (flLL (C)), v])]) (.need ([AObj.resv, AObj.resv, r, AObj.resv, AObj.resv, AObj.resv, (AObj.cells (0 : Nat) [AV.zs, AV.zs, AV.zs]), (AObj.cells (0 : Nat) [(flL (V)), (flLL (C)), v])] = [AObj.resv, AObj.resv, r, AObj.resv, AObj.resv, AObj.resv, (AObj.cells (0 : Nat) [AV.zs, AV.zs, AV.zs]), (AObj.cells (0 : Nat) [(flL (V)), (flLL (C)), v])]) (.need (((AV.row [(flB (x.V)), (flB (x.C)), (flC (x.R))] (2 : Nat)) = (AV.row [(flB (x.V)), (flB (x.C)), (flC (x.R))] (2 : Nat))) ∧ ([AObj.resv, AObj.resv, r, AObj.resv, AObj.resv, AObj.resv, (AObj.cells (0 : Nat) [AV.zs, AV.zs, AV.zs]), (AObj.cells (0 : Nat) [(flL (V)), (flLL (C)), v]), (AObj.cells (0 : Nat) [(I ((0 : Int))), AV.zs, AV.zs, (I ((0 : Int)))])] = [AObj.resv, AObj.resv, r, AObj.resv, AObj.resv, AObj.resv, (AObj.cells (0 : Nat) [AV.zs, AV.zs, AV.zs]), (AObj.cells (0 : Nat) [(flL (V)), (flLL (C)), v]), (AObj.cells (0 : Nat) [(I ((0 : Int))), AV.zs, AV.zs, (I ((0 : Int)))])])) (.need ([AObj.resv, AObj.resv, r, AObj.resv, AObj.resv, AObj.resv, (AObj.cells (0 : Nat) [AV.zs, AV.zs, AV.zs]), (AObj.cells (0 : Nat) [(flL (V)), (flLL (C)), v])] = [AObj.resv, AObj.resv, r, AObj.resv, AObj.resv, AObj.resv, (AObj.cells (0 : Nat) [AV.zs, AV.zs, AV.zs]), (AObj.cells (0 : Nat) [(flL (V)), (flLL (C)), v])]) (.need (((flC (x.R)) = (flC (x.R))) ∧ ([AObj.resv, AObj.resv, r, AObj.resv, AObj.resv, AObj.resv, (AObj.cells (0 : Nat) [AV.zs, AV.zs, AV.zs]), (AObj.cells (0 : Nat) [(flL (V)), (flLL (C)), v]), (AObj.cells (0 : Nat) [(I ((0 : Int))), AV.zs, AV.zs, (I ((0 : Int)))])] = [AObj.resv, AObj.resv, r, AObj.resv, AObj.resv, AObj.resv, (AObj.cells (0 : Nat) [AV.zs, AV.zs, AV.zs]), (AObj.cells (0 : Nat) [(flL (V)), (flLL (C)), v]), (AObj.cells (0 : Nat) [(I ((0 : Int))), AV.zs, AV.zs, (I ((0 : Int)))])])) (.need ([AObj.resv, AObj.resv, r, AObj.resv, AObj.resv, AObj.resv, (AObj.cells (0 : Nat) [AV.zs, AV.zs, AV.zs]), (AObj.cells (0 : Nat) [(flL (V)), (flLL (C)), v])] = [AObj.resv, AObj.resv, r, AObj.resv, AObj.resv, AObj.resv, (AObj.cells (0 : Nat) [AV.zs, AV.zs, AV.zs]), (AObj.cells (0 : Nat) [(flL (V)), (flLL (C)), v])]) (.need (((I k) = (I k)) ∧ ([AObj.resv, AObj.resv, r, AObj.resv, AObj.resv, AObj.resv, (AObj.cells (0 : Nat) [AV.zs, AV.zs, AV.zs]), (AObj.cells (0 : Nat) [(flL (V)), (flLL (C)), v]), (AObj.cells (0 : Nat) [(I ((0 : Int))), AV.zs, AV.zs, (I ((0 : Int)))])] = [AObj.resv, AObj.resv, r, AObj.resv, AObj.resv, AObj.resv, (AObj.cells (0 : Nat) [AV.zs, AV.zs, AV.zs]), (AObj.cells (0 : Nat) [(flL (V)), (flLL (C)), v]), (AObj.cells (0 : Nat) [(I ((0 : Int))), AV.zs, AV.zs, (I ((0 : Int)))])])) (.need (((0 : Int) ≤ k) ∧ (k < (↑x.R.length : Int))) (.need ([AObj.resv, AObj.resv, r, AObj.resv, AObj.resv, AObj.resv, (AObj.cells (0 : Nat) [AV.zs, AV.zs, AV.zs]), (AObj.cells (0 : Nat) [(flL (V)), (flLL (C)), v])] = [AObj.resv, AObj.resv, r, AObj.resv, AObj.resv, AObj.resv, (AObj.cells (0 : Nat) [AV.zs, AV.zs, AV.zs]), (AObj.cells (0 : Nat) [(flL (V)), (flLL (C)), v])]) (.need (((0 : Int) ≤ k) ∧ (k < (↑x.R.length : Int))) (.need (((AV.row [(AV.int IntKind.u8 ((x.R.getD k.toNat c0).d)), (AV.int IntKind.u8 ((x.R.getD k.toNat c0).u)), (flT ((x.R.getD k.toNat c0).w)), (AV.int IntKind.i8 ((x.R.getD k.toNat c0).m))] (0 : Nat)) = (AV.row [(AV.int IntKind.u8 ((x.R.getD k.toNat c0).d)), (AV.int IntKind.u8 ((x.R.getD k.toNat c0).u)), (flT ((x.R.getD k.toNat c0).w)), (AV.int IntKind.i8 ((x.R.getD k.toNat c0).m))] (0 : Nat))) ∧ ([AObj.resv, AObj.resv, r, AObj.resv, AObj.resv, AObj.resv, (AObj.cells (0 : Nat) [AV.zs, AV.zs, AV.zs]), (AObj.cells (0 : Nat) [(flL (V)), (flLL (C)), v]), (AObj.cells (0 : Nat) [(I ((0 : Int))), AV.zs, AV.zs, (I ((0 : Int)))])] = [AObj.resv, AObj.resv, r, AObj.resv, AObj.resv, AObj.resv, (AObj.cells (0 : Nat) [AV.zs, AV.zs, AV.zs]), (AObj.cells (0 : Nat) [(flL (V)), (flLL (C)), v]), (AObj.cells (0 : Nat) [(I ((0 : Int))), AV.zs, AV.zs, (I ((0 : Int)))])])) (.need ([AObj.resv, AObj.resv, r, AObj.resv, AObj.resv, AObj.resv, (AObj.cells (0 : Nat) [AV.zs, AV.zs, AV.zs]), (AObj.cells (0 : Nat) [(flL (V)), (flLL (C)), v])] = [AObj.resv, AObj.resv, r, AObj.resv, AObj.resv, AObj.resv, (AObj.cells (0 : Nat) [AV.zs, AV.zs, AV.zs]), (AObj.cells (0 : Nat) [(flL (V)), (flLL (C)), v])]) (.need (((AV.row [(AV.int IntKind.u8 ((x.R.getD k.toNat c0).d)), (AV.int IntKind.u8 ((x.R.getD k.toNat c0).u)), (flT ((x.R.getD k.toNat c0).w)), (AV.int IntKind.i8 ((x.R.getD k.toNat c0).m))] (0 : Nat)) = (AV.row [(AV.int IntKind.u8 ((x.R.getD k.toNat c0).d)), (AV.int IntKind.u8 ((x.R.getD k.toNat c0).u)), (flT ((x.R.getD k.toNat c0).w)), (AV.int IntKind.i8 ((x.R.getD k.toNat c0).m))] (0 : Nat))) ∧ ([AObj.resv, AObj.resv, r, AObj.resv, AObj.resv, AObj.resv, (AObj.cells (0 : Nat) [AV.zs, AV.zs, AV.zs]), (AObj.cells (0 : Nat) [(flL (V)), (flLL (C)), v]), (AObj.cells (0 : Nat) [(I ((0 : Int))), AV.zs, AV.zs, (I ((0 : Int)))])] = [AObj.resv, AObj.resv, r, AObj.resv, AObj.resv, AObj.resv, (AObj.cells (0 : Nat) [AV.zs, AV.zs, AV.zs]), (AObj.cells (0 : Nat) [(flL (V)), (flLL (C)), v]), (AObj.cells (0 : Nat) [(I ((0 : Int))), AV.zs, AV.zs, (I ((0 : Int)))])])) (.need ([AObj.resv, AObj.resv, r, AObj.resv, AObj.resv, AObj.resv, (AObj.cells (0 : Nat) [AV.zs, AV.zs, AV.zs]), (AObj.cells (0 : Nat) [(flL (V)), (flLL (C)), v])] = [AObj.resv, AObj.resv, r, AObj.resv, AObj.resv, AObj.resv, (AObj.cells (0 : Nat) [AV.zs, AV.zs, AV.zs]), (AObj.cells (0 : Nat) [(flL (V)), (flLL (C)), v])]) (.need (((AV.int IntKind.u8 ((x.R.getD k.toNat c0).d)) = (AV.int IntKind.u8 ((x.R.getD k.toNat c0).d))) ∧ ([AObj.resv, AObj.resv, r, AObj.resv, AObj.resv, AObj.resv, (AObj.cells (0 : Nat) [AV.zs, AV.zs, AV.zs]), (AObj.cells (0 : Nat) [(flL (V)), (flLL (C)), v]), (AObj.cells (0 : Nat) [(I ((0 : Int))), AV.zs, AV.zs, (I ((0 : Int)))])] = [AObj.resv, AObj.resv, r, AObj.resv, AObj.resv, AObj.resv, (AObj.cells (0 : Nat) [AV.zs, AV.zs, AV.zs]), (AObj.cells (0 : Nat) [(flL (V)), (flLL (C)), v]), (AObj.cells (0 : Nat) [(I ((0 : Int))), AV.zs, AV.zs, (I ((0 : Int)))])])) (.need ([AObj.resv, AObj.resv, r, AObj.resv, AObj.resv, AObj.resv, (AObj.cells (0 : Nat) [AV.zs, AV.zs, AV.zs]), (AObj.cells (0 : Nat) [(flL (V)), (flLL (C)), v])] = [AObj.resv, AObj.resv, r, AObj.resv, AObj.resv, AObj.resv, (AObj.cells (0 : Nat) [AV.zs, AV.zs, AV.zs]), (AObj.cells (0 : Nat) [(flL (V)), (flLL (C)), v])]) (.need (((I (IntKind.i64.wrap (x.R.getD k.toNat c0).d)) = (I (IntKind.i64.wrap (x.R.getD k.toNat c0).d))) ∧ ([AObj.resv, AObj.resv, r, AObj.resv, AObj.resv, AObj.resv, (AObj.cells (0 : Nat) [AV.zs, AV.zs, AV.zs]), (AObj.cells (0 : Nat) [(flL (V)), (flLL (C)), v]), (AObj.cells (0 : Nat) [(I ((0 : Int))), AV.zs, AV.zs, (I ((0 : Int)))])] = [AObj.resv, AObj.resv, r, AObj.resv, AObj.resv, AObj.resv, (AObj.cells (0 : Nat) [AV.zs, AV.zs, AV.zs]), (AObj.cells (0 : Nat) [(flL (V)), (flLL (C)), v]), (AObj.cells (0 : Nat) [(I ((0 : Int))), AV.zs, AV.zs, (I ((0 : Int)))])])) (.need ([AObj.resv, AObj.resv, r, AObj.resv, AObj.resv, AObj.resv, (AObj.cells (0 : Nat) [AV.zs, AV.zs, AV.zs]), (AObj.cells (0 : Nat) [(flL (V)), (flLL (C)), v])] = [AObj.resv, AObj.resv, r, AObj.resv, AObj.resv, AObj.resv, (AObj.cells (0 : Nat) [AV.zs, AV.zs, AV.zs]), (AObj.cells (0 : Nat) [(flL (V)), (flLL (C)), v])]) (.need (((AV.row [(flB (x.V)), (flB (x.C)), (flC (x.R))] (2 : Nat)) = (AV.row [(flB (x.V)), (flB (x.C)), (flC (x.R))] (2 : Nat))) ∧ ([AObj.resv, AObj.resv, r, AObj.resv, AObj.resv, AObj.resv, (AObj.cells (0 : Nat) [AV.zs, AV.zs, AV.zs]), (AObj.cells (0 : Nat) [(flL (V)), (flLL (C)), v]), (AObj.cells (0 : Nat) [(I ((0 : Int))), AV.zs, AV.zs, (I ((0 : Int)))])] = [AObj.resv, AObj.resv, r, AObj.resv, AObj.resv, AObj.resv, (AObj.cells (0 : Nat) [AV.zs, AV.zs, AV.zs]), (AObj.cells (0 : Nat) [(flL (V)), (flLL (C)), v]), (AObj.cells (0 : Nat) [(I ((0 : Int))), AV.zs, AV.zs, (I ((0 : Int)))])])) (.need ([AObj.resv, AObj.resv, r, AObj.resv, AObj.resv, AObj.resv, (AObj.cells (0 : Nat) [AV.zs, AV.zs, AV.zs]), (AObj.cells (0 : Nat) [(flL (V)), (flLL (C)), v])] = [AObj.resv, AObj.resv, r, AObj.resv, AObj.resv, AObj.resv, (AObj.cells (0 : Nat) [AV.zs, AV.zs, AV.zs]), (AObj.cells (0 : Nat) [(flL (V)), (flLL (C)), v])]) (.need (((flC (x.R)) = (flC (x.R))) ∧ ([AObj.resv, AObj.resv, r, AObj.resv, AObj.resv, AObj.resv, (AObj.cells (0 : Nat) [AV.zs, AV.zs, AV.zs]), (AObj.cells (0 : Nat) [(flL (V)), (flLL (C)), v]), (AObj.cells (0 : Nat) [(I ((0 : Int))), AV.zs, AV.zs, (I ((0 : Int)))])] = [AObj.resv, AObj.resv, r, AObj.resv, AObj.resv, AObj.resv, (AObj.cells (0 : Nat) [AV.zs, AV.zs, AV.zs]), (AObj.cells (0 : Nat) [(flL (V)), (flLL (C)), v]), (AObj.cells (0 : Nat) [(I ((0 : Int))), AV.zs, AV.zs, (I ((0 : Int)))])])) (.need ([AObj.resv, AObj.resv, r, AObj.resv, AObj.resv, AObj.resv, (AObj.cells (0 : Nat) [AV.zs, AV.zs, AV.zs]), (AObj.cells (0 : Nat) [(flL (V)), (flLL (C)), v])] = [AObj.resv, AObj.resv, r, AObj.resv, AObj.resv, AObj.resv, (AObj.cells (0 : Nat) [AV.zs, AV.zs, AV.zs]), (AObj.cells (0 : Nat) [(flL (V)), (flLL (C)), v])]) (.need (((I k) = (I k)) ∧ ([AObj.resv, AObj.resv, r, AObj.resv, AObj.resv, AObj.resv, (AObj.cells (0 : Nat) [AV.zs, AV.zs, AV.zs]), (AObj.cells (0 : Nat) [(flL (V)), (flLL (C)), v]), (AObj.cells (0 : Nat) [(I ((0 : Int))), AV.zs, AV.zs, (I ((0 : Int)))])] = [AObj.resv, AObj.resv, r, AObj.resv, AObj.resv, AObj.resv, (AObj.cells (0 : Nat) [AV.zs, AV.zs, AV.zs]), (AObj.cells (0 : Nat) [(flL (V)), (flLL (C)), v]), (AObj.cells (0 : Nat) [(I ((0 : Int))), AV.zs, AV.zs, (I ((0 : Int)))])])) (.need (((0 : Int) ≤ k) ∧ (k < (↑x.R.length : Int))) (.need ([AObj.resv, AObj.resv, r, AObj.resv, AObj.resv, AObj.resv, (AObj.cells (0 : Nat) [AV.zs, AV.zs, AV.zs]), (AObj.cells (0 : Nat) [(flL (V)), (flLL (C)), v])] = [AObj.resv, AObj.resv, r, AObj.resv, AObj.resv, AObj.resv, (AObj.cells (0 : Nat) [AV.zs, AV.zs, AV.zs]), (AObj.cells (0 : Nat) [(flL (V)), (flLL (C)), v])]) (.need (((0 : Int) ≤ k) ∧ (k < (↑x.R.length : Int))) (.need (((AV.row [(AV.int IntKind.u8 ((x.R.getD k.toNat c0).d)), (AV.int IntKind.u8 ((x.R.getD k.toNat c0).u)), (flT ((x.R.getD k.toNat c0).w)), (AV.int IntKind.i8 ((x.R.getD k.toNat c0).m))] (0 : Nat)) = (AV.row [(AV.int IntKind.u8 ((x.R.getD k.toNat c0).d)), (AV.int IntKind.u8 ((x.R.getD k.toNat c0).u)), (flT ((x.R.getD k.toNat c0).w)), (AV.int IntKind.i8 ((x.R.getD k.toNat c0).m))] (0 : Nat))) ∧ ([AObj.resv, AObj.resv, r, AObj.resv, AObj.resv, AObj.resv, (AObj.cells (0 : Nat) [AV.zs, AV.zs, AV.zs]), (AObj.cells (0 : Nat) [(flL (V)), (flLL (C)), v]), (AObj.cells (0 : Nat) [(I ((0 : Int))), AV.zs, AV.zs, (I ((0 : Int)))])] = [AObj.resv, AObj.resv, r, AObj.resv, AObj.resv, AObj.resv, (AObj.cells (0 : Nat) [AV.zs, AV.zs, AV.zs]), (AObj.cells (0 : Nat) [(flL (V)), (flLL (C)), v]), (AObj.cells (0 : Nat) [(I ((0 : Int))), AV.zs, AV.zs, (I ((0 : Int)))])])) (.need ([AObj.resv, AObj.resv, r, AObj.resv, AObj.resv, AObj.resv, (AObj.cells (0 : Nat) [AV.zs, AV.zs, AV.zs]), (AObj.cells (0 : Nat) [(flL (V)), (flLL (C)), v])] = [AObj.resv, AObj.resv, r, AObj.resv, AObj.resv, AObj.resv, (AObj.cells (0 : Nat) [AV.zs, AV.zs, AV.zs]), (AObj.cells (0 : Nat) [(flL (V)), (flLL (C)), v])]) (.need (((AV.row [(AV.int IntKind.u8 ((x.R.getD k.toNat c0).d)), (AV.int IntKind.u8 ((x.R.getD k.toNat c0).u)), (flT ((x.R.getD k.toNat c0).w)), (AV.int IntKind.i8 ((x.R.getD k.toNat c0).m))] (3 : Nat)) = (AV.row [(AV.int IntKind.u8 ((x.R.getD k.toNat c0).d)), (AV.int IntKind.u8 ((x.R.getD k.toNat c0).u)), (flT ((x.R.getD k.toNat c0).w)), (AV.int IntKind.i8 ((x.R.getD k.toNat c0).m))] (3 : Nat))) ∧ ([AObj.resv, AObj.resv, r, AObj.resv, AObj.resv, AObj.resv, (AObj.cells (0 : Nat) [AV.zs, AV.zs, AV.zs]), (AObj.cells (0 : Nat) [(flL (V)), (flLL (C)), v]), (AObj.cells (0 : Nat) [(I ((0 : Int))), AV.zs, AV.zs, (I ((0 : Int)))])] = [AObj.resv, AObj.resv, r, AObj.resv, AObj.resv, AObj.resv, (AObj.cells (0 : Nat) [AV.zs, AV.zs, AV.zs]), (AObj.cells (0 : Nat) [(flL (V)), (flLL (C)), v]), (AObj.cells (0 : Nat) [(I ((0 : Int))), AV.zs, AV.zs, (I ((0 : Int)))])])) (.need ([AObj.resv, AObj.resv, r, AObj.resv, AObj.resv, AObj.resv, (AObj.cells (0 : Nat) [AV.zs, AV.zs, AV.zs]), (AObj.cells (0 : Nat) [(flL (V)), (flLL (C)), v])] = [AObj.resv, AObj.resv, r, AObj.resv, AObj.resv, AObj.resv, (AObj.cells (0 : Nat) [AV.zs, AV.zs, AV.zs]), (AObj.cells (0 : Nat) [(flL (V)), (flLL (C)), v])]) (.need (((AV.int IntKind.i8 ((x.R.getD k.toNat c0).m)) = (AV.int IntKind.i8 ((x.R.getD k.toNat c0).m))) ∧ ([AObj.resv, AObj.resv, r, AObj.resv, AObj.resv, AObj.resv, (AObj.cells (0 : Nat) [AV.zs, AV.zs, AV.zs]), (AObj.cells (0 : Nat) [(flL (V)), (flLL (C)), v]), (AObj.cells (0 : Nat) [(I ((0 : Int))), AV.zs, AV.zs, (I ((0 : Int)))])] = [AObj.resv, AObj.resv, r, AObj.resv, AObj.resv, AObj.resv, (AObj.cells (0 : Nat) [AV.zs, AV.zs, AV.zs]), (AObj.cells (0 : Nat) [(flL (V)), (flLL (C)), v]), (AObj.cells (0 : Nat) [(I ((0 : Int))), AV.zs, AV.zs, (I ((0 : Int)))])])) (.need ([AObj.resv, AObj.resv, r, AObj.resv, AObj.resv, AObj.resv, (AObj.cells (0 : Nat) [AV.zs, AV.zs, AV.zs]), (AObj.cells (0 : Nat) [(flL (V)), (flLL (C)), v])] = [AObj.resv, AObj.resv, r, AObj.resv, AObj.resv, AObj.resv, (AObj.cells (0 : Nat) [AV.zs, AV.zs, AV.zs]), (AObj.cells (0 : Nat) [(flL (V)), (flLL (C)), v])]) (.need (((I (IntKind.i64.wrap (x.R.getD k.toNat c0).m)) = (I (IntKind.i64.wrap (x.R.getD k.toNat c0).m))) ∧ ([AObj.resv, AObj.resv, r, AObj.resv, AObj.resv, AObj.resv, (AObj.cells (0 : Nat) [AV.zs, AV.zs, AV.zs]), (AObj.cells (0 : Nat) [(flL (V)), (flLL (C)), v]), (AObj.cells (0 : Nat) [(I ((0 : Int))), AV.zs, AV.zs, (I ((0 : Int)))])] = [AObj.resv, AObj.resv, r, AObj.resv, AObj.resv, AObj.resv, (AObj.cells (0 : Nat) [AV.zs, AV.zs, AV.zs]), (AObj.cells (0 : Nat) [(flL (V)), (flLL (C)), v]), (AObj.cells (0 : Nat) [(I ((0 : Int))), AV.zs, AV.zs, (I ((0 : Int)))])])) (.need ([AObj.resv, AObj.resv, r, AObj.resv, AObj.resv, AObj.resv, (AObj.cells (0 : Nat) [AV.zs, AV.zs, AV.zs]), (AObj.cells (0 : Nat) [(flL (V)), (flLL (C)), v])] = [AObj.resv, AObj.resv, r, AObj.resv, AObj.resv, AObj.resv, (AObj.cells (0 : Nat) [AV.zs, AV.zs, AV.zs]), (AObj.cells (0 : Nat) [(flL (V)), (flLL (C)), v])]) (.need (((AV.agg (setL (setL [(I ((0 : Int))), AV.zs, AV.zs, (I ((0 : Int)))] (0 : Nat) [(I (IntKind.i64.wrap (x.R.getD k.toNat c0).d))]) (3 : Nat) [(I (IntKind.i64.wrap (x.R.getD k.toNat c0).m))])) = (AV.agg (setL (setL [(I ((0 : Int))), AV.zs, AV.zs, (I ((0 : Int)))] (0 : Nat) [(I (IntKind.i64.wrap (x.R.getD k.toNat c0).d))]) (3 : Nat) [(I (IntKind.i64.wrap (x.R.getD k.toNat c0).m))]))) ∧ ([AObj.resv, AObj.resv, r, AObj.resv, AObj.resv, AObj.resv, (AObj.cells (0 : Nat) [AV.zs, AV.zs, AV.zs]), (AObj.cells (0 : Nat) [(flL (V)), (flLL (C)), v]), (AObj.cells (0 : Nat) [(I ((0 : Int))), AV.zs, AV.zs, (I ((0 : Int)))])] = [AObj.resv, AObj.resv, r, AObj.resv, AObj.resv, AObj.resv, (AObj.cells (0 : Nat) [AV.zs, AV.zs, AV.zs]), (AObj.cells (0 : Nat) [(flL (V)), (flLL (C)), v]), (AObj.cells (0 : Nat) [(I ((0 : Int))), AV.zs, AV.zs, (I ((0 : Int)))])])) (.need ([AObj.resv, AObj.resv, r, AObj.resv, AObj.resv, AObj.resv, (AObj.cells (0 : Nat) [AV.zs, AV.zs, AV.zs]), (AObj.cells (0 : Nat) [(flL (V)), (flLL (C)), v]), (AObj.cells (0 : Nat) [(I ((0 : Int))), AV.zs, AV.zs, (I ((0 : Int)))])] = [AObj.resv, AObj.resv, r, AObj.resv, AObj.resv, AObj.resv, (AObj.cells (0 : Nat) [AV.zs, AV.zs, AV.zs]), (AObj.cells (0 : Nat) [(flL (V)), (flLL (C)), v]), (AObj.cells (0 : Nat) [(I ((0 : Int))), AV.zs, AV.zs, (I ((0 : Int)))])]) (.need (((Option.some (4 : Nat)) = (Option.some (4 : Nat))) ∧ ((true = true) ∧ ((4 : Nat) ≤ (4 : Nat)))) (.need ([AObj.resv, AObj.resv, r, AObj.resv, AObj.resv, AObj.resv, (AObj.cells (0 : Nat) [AV.zs, AV.zs, AV.zs]), (AObj.cells (0 : Nat) [(flL (V)), (flLL (C)), v]), (AObj.cells (0 : Nat) (setL [(I ((0 : Int))), AV.zs, AV.zs, (I ((0 : Int)))] (0 : Nat) (setL (setL [(I ((0 : Int))), AV.zs, AV.zs, (I ((0 : Int)))] (0 : Nat) [(I (IntKind.i64.wrap (x.R.getD k.toNat c0).d))]) (3 : Nat) [(I (IntKind.i64.wrap (x.R.getD k.toNat c0).m))])))] = [AObj.resv, AObj.resv, r, AObj.resv, AObj.resv, AObj.resv, (AObj.cells (0 : Nat) [AV.zs, AV.zs, AV.zs]), (AObj.cells (0 : Nat) [(flL (V)), (flLL (C)), v]), (AObj.cells (0 : Nat) [(I (dm18 x k)), AV.zs, AV.zs, (I (mm18 x k))])]) (.need ((stD x V C v r k (dm18 x k) (mm18 x k) .zs .zs .resv .resv 0 0).vals = (stD x V C v r k (dm18 x k) (mm18 x k) .zs .zs .resv .resv 0 0).vals) (.need (((Option.some [v, (AV.sl (4 : Nat) [[(I (dm18 x k)), (flL (U)), (flLL (W)), (I (mm18 x k))]])]) = (Option.some [v, (AV.sl (4 : Nat) [[(I (dm18 x k)), (flL (U)), (flLL (W)), (I (mm18 x k))]])])) ∧ (((Option.some r) = (Option.some r)) ∧ (g))) (.need (((AV.one v') = true) ∧ ((2 : Nat) < (3 : Nat))) (.leaf (Exit.normal, St.of 162 [AObj.resv, AObj.resv, r', AObj.resv, AObj.resv, AObj.resv, (AObj.cells (0 : Nat) [AV.zs, AV.zs, AV.zs]), (AObj.cells (0 : Nat) (setL [(flL (V)), (flLL (C)), v] (2 : Nat) [v']))] [(1, (AV.row [(flB (x.V)), (flB (x.C)), (flC (x.R))] (0 : Nat)), true), (2, (AV.ref (6 : Nat) (0 : Nat) (0 : Nat)), true), (3, (AV.ref (7 : Nat) (0 : Nat) (0 : Nat)), true), (9, (I (IntKind.i64.wrap (k + (1 : Int)))), true)]))))))))))))))))))))))))))))))))))))))))))) (.leaf ((Exit.exit (4 : Nat)), St.of 162 [AObj.resv, AObj.resv, r, AObj.resv, AObj.resv, AObj.resv, (AObj.cells (0 : Nat) [AV.zs, AV.zs, AV.zs]), (AObj.cells (0 : Nat) [(flL (V)), (flLL (C)), v])] [(1, (AV.row [(flB (x.V)), (flB (x.C)), (flC (x.R))] (0 : Nat)), true), (2, (AV.ref (6 : Nat) (0 : Nat) (0 : Nat)), true), (3, (AV.ref (7 : Nat) (0 : Nat) (0 : Nat)), true), (9, (I k), true)]))) (.leaf ((Exit.exit (4 : Nat)), St.of 162 [AObj.resv, AObj.resv, r, AObj.resv, AObj.resv, AObj.resv, (AObj.cells (0 : Nat) [AV.zs, AV.zs, AV.zs]), (AObj.cells (0 : Nat) [(flL (V)), (flLL (C)), v])] [(1, (AV.row [(flB (x.V)), (flB (x.C)), (flC (x.R))] (0 : Nat)), true), (2, (AV.ref (6 : Nat) (0 : Nat) (0 : Nat)), true), (3, (AV.ref (7 : Nat) (0 : Nat) (0 : Nat)), true), (9, (I k), true)])) := by kernel_rfl
theorem run18Ce (x : Pz) (V : List Int) (C : List (List Int)) (v : AV) (r : AObj) (k : Int) : xBodyT { boxRow := false } 200 (lpF 24 keepD (stD x V C v r k 0 0 .zs .zs .resv .resv 0 0)) keepC 8 body18C (stC x V C v r k) = .ite (decide (k < (↑x.R.length : Int))) (.ite (decide (k < (6 : Int))) (.need (((0 : Int) ≤ k) ∧ (k < (↑x.R.length : Int))) (.need (((0 : Int) ≤ k) ∧ (k < (↑x.R.length : Int))) .fail)) (.leaf ((Exit.exit (4 : Nat)), St.of 162 [AObj.resv, AObj.resv, r, AObj.resv, AObj.resv, AObj.resv, (AObj.cells (0 : Nat) [AV.zs, AV.zs, AV.zs]), (AObj.cells (0 : Nat) [(flL (V)), (flLL (C)), v])] [(1, (AV.row [(flB (x.V)), (flB (x.C)), (flC (x.R))] (0 : Nat)), true), (2, (AV.ref (6 : Nat) (0 : Nat) (0 : Nat)), true), (3, (AV.ref (7 : Nat) (0 : Nat) (0 : Nat)), true), (9, (I k), true)]))) (.leaf ((Exit.exit (4 : Nat)), St.of 162 [AObj.resv, AObj.resv, r, AObj.resv, AObj.resv, AObj.resv, (AObj.cells (0 : Nat) [AV.zs, AV.zs, AV.zs]), (AObj.cells (0 : Nat) [(flL (V)), (flLL (C)), v])] [(1, (AV.row [(flB (x.V)), (flB (x.C)), (flC (x.R))] (0 : Nat)), true), (2, (AV.ref (6 : Nat) (0 : Nat) (0 : Nat)), true), (3, (AV.ref (7 : Nat) (0 : Nat) (0 : Nat)), true), (9, (I k), true)])) := by kernel_rfl
end Go.Proofs.Ytngaihdpmoajeaa.Am

