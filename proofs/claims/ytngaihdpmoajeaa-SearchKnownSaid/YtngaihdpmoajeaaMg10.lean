/-
  This file proves nothing of a law. It holds lemmas, of 25 texts in their order. No condition of its own.
-/
import Derived.Test.YtngaihdpmoajeaaMg9
import Derived.Test.YtngaihdpmoajeaaMg8
import Derived.Test.YtngaihdpmoajeaaMg7
namespace Go.Proofs.Ytngaihdpmoajeaa.Am
open Go
set_option maxRecDepth 100000

/-! ### Lists, read off plain values -/
def mapO {α β : Type} (f : α → Option β) : List α → Option (List β)
  | [] => some []
  | x :: r => match f x, mapO f r with
    | some y, some ys => some (y :: ys)
    | _, _ => none
theorem mapO_ok {α β : Type} {f : α → Option β} : ∀ {l : List α} {ys : List β}, mapO f l = some ys → ys.length = l.length ∧ ∀ (i : Nat) (y : β), ys[i]? = some y → ∃ x, l[i]? = some x ∧ f x = some y
  | [], ys, h => by cases h; exact ⟨rfl, fun i y hi => by simp at hi⟩
  | x :: r, ys, h => by
    unfold mapO at h
    split at h
    · rename_i y zs hy hz
      cases h
      obtain ⟨h1, h2⟩ := mapO_ok hz
      refine ⟨by simp [h1], fun i z hi => ?_⟩
      cases i with
      | zero => simp at hi; subst hi; exact ⟨x, rfl, hy⟩
      | succ i => simpa using h2 i z (by simpa using hi)
    · cases h
/-- Rows of a slice. -/
def decRows {α : Type} (s : Nat) (f : List AV → Option α) : AV → Option (List α)
  | .zs => some []
  | .sl s' rows => bif Nat.beq s' s then mapO f rows else none
  | .fl s' n r => bif Nat.beq s' s then mapO (fun i => f (r i)) (List.range n) else none
  | _ => none
/-- What a row is told as. -/
def RowOk {α : Type} (f : List AV → Option α) (q : α → List AV) : Prop := ∀ r x, f r = some x → ∀ (j : Nat) (y' : AV), (q x)[j]? = some y' → ∃ y, r[j]? = some y ∧ Sub y y'
theorem RV.rowsS {w : World} {M : Map} {u : Value} {α : Type} {s : Nat} {q : α → List AV} {d : α} {rows : List (List AV)} {L : List α} (hq : ∀ x, (q x).length = s) (hl : L.length = rows.length) (hx : ∀ (i : Nat) (x : α), L[i]? = some x → ∃ r, rows[i]? = some r ∧ ∀ (j : Nat) (y' : AV), (q x)[j]? = some y' → ∃ y, r[j]? = some y ∧ Sub y y') (h : RV w M u (.sl s rows)) : RV w M u (.fl s L.length fun i => q (L.getD i d)) := by
  refine .fl _ _ _ _ ?_
  have hlen : ((List.range L.length).map fun i => q (L.getD i d)).length = L.length := by simp
  have ge : ∀ (i : Nat) (r : List AV), ((List.range L.length).map fun i => q (L.getD i d))[i]? = some r → ∃ x, L[i]? = some x ∧ r = q x := by
    intro i r hi
    have hil : i < L.length := by have := (List.getElem?_eq_some_iff.1 hi).1; rwa [hlen] at this
    rw [List.getElem?_map, List.getElem?_range hil] at hi
    cases hi
    exact ⟨L[i], List.getElem?_eq_getElem hil, by show q (L.getD i d) = q L[i]; rw [List.getD_eq_getElem?_getD, List.getElem?_eq_getElem hil]; rfl⟩
  cases h with
  | sl0 base cap _ =>
    have : L = [] := by simpa using hl
    subst this
    exact .sl0 _ _ _
  | sl b o cap size f rows hb hc hl2 h hcap =>
    have e : rows.length = ((List.range L.length).map fun i => q (L.getD i d)).length := by rw [hlen, hl]
    rw [e]
    refine .sl b o cap s f _ hb (fun i r j hi hj => ?_) (fun i r hi => ?_) (fun i r j x hi hj => ?_) (by rw [← e]; exact hcap)
    · obtain ⟨x, h1, _⟩ := ge i r hi
      obtain ⟨r', h2, _⟩ := hx i x h1
      exact hc i _ j h2 hj
    · obtain ⟨x, _, rfl⟩ := ge i r hi; exact hq x
    · obtain ⟨z, h1, rfl⟩ := ge i r hi
      obtain ⟨r', h2, h3⟩ := hx i z h1
      obtain ⟨y, h4, h5⟩ := h3 j x hj
      exact h5 _ _ _ (h i _ j _ h2 h4)
theorem decRows_ok {α : Type} {s : Nat} {f : List AV → Option α} {q : α → List AV} (hf : RowOk f q) (hq : ∀ x, (q x).length = s) (d : α) {x : AV} {L : List α} (h : decRows s f x = some L) : Sub x (.fl s L.length fun i => q (L.getD i d)) := by
  intro w M u hv
  unfold decRows at h
  split at h
  · cases h
    cases hv
    exact .fl _ _ _ _ (.sl0 _ _ _)
  · rename_i s' rows
    cases hs : Nat.beq s' s with
    | false => rw [hs] at h; cases h
    | true =>
      rw [hs, cond_true] at h
      obtain rfl := Nat.eq_of_beq_eq_true hs
      obtain ⟨h1, h2⟩ := mapO_ok h
      exact RV.rowsS hq h1 (fun i x hi => by
        obtain ⟨r, hr, hd⟩ := h2 i x hi
        exact ⟨r, hr, hf r x hd⟩) hv
  · rename_i s' n r
    cases hs : Nat.beq s' s with
    | false => rw [hs] at h; cases h
    | true =>
      rw [hs, cond_true] at h
      obtain rfl := Nat.eq_of_beq_eq_true hs
      obtain ⟨h1, h2⟩ := mapO_ok h
      cases hv with
      | fl _ _ _ _ hv =>
        refine RV.rowsS hq (by simpa using h1) (fun i x hi => ?_) hv
        obtain ⟨k, hk, hd⟩ := h2 i x hi
        obtain ⟨hlt, hk2⟩ := List.getElem?_eq_some_iff.1 hk
        have : k = i := by simpa using hk2.symm
        subst this
        exact ⟨r k, by rw [List.getElem?_map, hk]; rfl, hf _ _ hd⟩
  · cases h
def decI : AV → Option Int
  | .int .i64 n => some n
  | _ => none
theorem decI_ok {x : AV} {n : Int} (h : decI x = some n) : x = I n := by
  unfold decI at h
  split at h
  · cases h; rfl
  · cases h
def row1 {α : Type} (f : AV → Option α) : List AV → Option α
  | [x] => f x
  | _ => none
theorem row1_ok {α : Type} {f : AV → Option α} {q : α → AV} (hf : ∀ x y, f x = some y → Sub x (q y)) : RowOk (row1 f) fun x => [q x] := by
  intro r x h j y' hj
  unfold row1 at h
  split at h
  · match j, hj with
    | 0, hj => cases hj; exact ⟨_, rfl, hf _ _ h⟩
    | j + 1, hj => simp at hj
  · cases h
def decL : AV → Option (List Int) := decRows 1 (row1 decI)
theorem decL_ok {x : AV} {L : List Int} (h : decL x = some L) : Sub x (flL L) := decRows_ok (row1_ok (q := I) fun _ _ h => by rw [decI_ok h]; exact sub_refl _) (fun _ => rfl) 0 h
def decLL : AV → Option (List (List Int)) := decRows 1 (row1 decL)
theorem decLL_ok {x : AV} {L : List (List Int)} (h : decLL x = some L) : Sub x (flLL L) := decRows_ok (row1_ok (q := flL) fun _ _ h => decL_ok h) (fun _ => rfl) [] h
def decRl : List AV → Option Rl
  | [a, b, c, d] => match decI a, decL b, decLL c, decI d with
    | some d, some v, some w, some m => some ⟨d, v, w, m⟩
    | _, _, _, _ => none
  | _ => none
theorem decRl_ok : RowOk decRl rlC := by
  intro r x h j y' hj
  unfold decRl at h
  split at h
  · split at h
    · rename_i h1 h2 h3 h4
      cases h
      match j, hj with
      | 0, hj => cases hj; exact ⟨_, rfl, by rw [decI_ok h1]; exact sub_refl _⟩
      | 1, hj => cases hj; exact ⟨_, rfl, decL_ok h2⟩
      | 2, hj => cases hj; exact ⟨_, rfl, decLL_ok h3⟩
      | 3, hj => cases hj; exact ⟨_, rfl, by rw [decI_ok h4]; exact sub_refl _⟩
      | j + 4, hj => simp [rlC] at hj
    · cases h
  · cases h
def decRs : AV → Option (List Rl) := decRows 4 decRl
theorem decRs_ok {x : AV} {L : List Rl} (h : decRs x = some L) : Sub x (flR L) := decRows_ok decRl_ok (fun _ => rfl) r0 h
def decP : AV → Option Pb
  | .agg [a, b, c] => match decL a, decLL b, decRs c with
    | some V, some C, some R => some ⟨V, C, R⟩
    | _, _, _ => none
  | _ => none
theorem decP_ok {x : AV} {p : Pb} (h : decP x = some p) : Sub x (pAV p) := by
  unfold decP at h
  split at h
  · split at h
    · rename_i a b c _ _ _ V C R h1 h2 h3
      cases h
      intro w M u hu
      cases hu with
      | agg vs _ h4 h5 => exact .agg vs _ (by simpa [pbC] using h4) fun j y hj => (by
          match j, hj with
          | 0, hj => cases hj; exact decL_ok h1 _ _ _ (h5 0 a rfl)
          | 1, hj => cases hj; exact decLL_ok h2 _ _ _ (h5 1 b rfl)
          | 2, hj => cases hj; exact decRs_ok h3 _ _ _ (h5 2 c rfl)
          | j + 3, hj => simp [pbC] at hj)
    · cases h
  · cases h
def shB {α : Type} (L : List α) : Bool := Nat.blt L.length 4611686018427387904
theorem shB_ok {α : Type} {L : List α} (h : shB L = true) : sh L := by
  unfold shB Nat.blt at h
  exact Nat.le_of_ble_eq_true h
def shRl (x : Rl) : Bool := shB x.v && (shB x.w && x.w.all shB)
def shPb (p : Pb) : Bool := shB p.V && (shB p.C && (p.C.all shB && (shB p.R && p.R.all shRl)))
theorem shRl_ok {x : Rl} (h : shRl x = true) : x.sh := by
  unfold shRl at h
  rw [Bool.and_eq_true, Bool.and_eq_true, List.all_eq_true] at h
  exact ⟨shB_ok h.1, shB_ok h.2.1, fun l hl => shB_ok (h.2.2 l hl)⟩
theorem shPb_ok {p : Pb} (h : shPb p = true) : p.sh := by
  unfold shPb at h
  rw [Bool.and_eq_true, Bool.and_eq_true, Bool.and_eq_true, Bool.and_eq_true, List.all_eq_true, List.all_eq_true] at h
  exact ⟨shB_ok h.1, shB_ok h.2.1, fun l hl => shB_ok (h.2.2.1 l hl), shB_ok h.2.2.2.1, fun x hx => shRl_ok (h.2.2.2.2 x hx)⟩
def getP (x : AV) (k : Pb → AV) : Option (Tree AV) := match decP x with
  | some p => bif shPb p then some (.leaf (k p)) else none
  | none => none
theorem getP_ok {x : AV} {k : Pb → AV} {t : Tree AV} (h : getP x k = some t) : ∃ p, Sub x (pAV p) ∧ p.sh ∧ t = .leaf (k p) := by
  unfold getP at h
  split at h
  · rename_i p hp
    cases hs : shPb p with
    | false => rw [hs] at h; cases h
    | true =>
      rw [hs, cond_true] at h
      cases h
      exact ⟨p, decP_ok hp, shPb_ok hs, rfl⟩
  · cases h
def getPL (x y : AV) (k : Pb → List Int → AV) : Option (Tree AV) := match decL y with
  | some a => bif shB a then getP x fun p => k p a else none
  | none => none
theorem getPL_ok {x y : AV} {k : Pb → List Int → AV} {t : Tree AV} (h : getPL x y k = some t) : ∃ p a, Sub x (pAV p) ∧ Sub y (flL a) ∧ p.sh ∧ sh a ∧ t = .leaf (k p a) := by
  unfold getPL at h
  split at h
  · rename_i a ha
    cases hs : shB a with
    | false => rw [hs] at h; cases h
    | true =>
      rw [hs, cond_true] at h
      obtain ⟨p, h1, h2, h3⟩ := getP_ok h
      exact ⟨p, a, h1, decL_ok ha, h2, shB_ok hs, h3⟩
  · cases h
def firstR (p : Pb) : AV := bif validP p then resF (refF p) else .tup [flL [], I 1]
/-- The contracts. -/
def clC : FuncId → List AV → Option (Tree AV) := fun f xs => match f with
  | 24 => match xs with
    | [x, y] => getPL x y brkR
    | _ => none
  | 25 => match xs with
    | [x, y] => getPL x y costR
    | _ => none
  | 21 => match xs with
    | [x] => getP x fun p => solveR p (bif validP p then refW p [] else none)
    | _ => none
  | 22 => match xs with
    | [x] => getP x firstR
    | _ => none
  | 28 => match xs with
    | [x] => getP x fun p => .bool (validP p)
    | _ => none
  | 23 => match xs with
    | [x, y] => match decL x, decL y with
      | some a, some b => bif shB a then some (.leaf (.bool (a == b))) else none
      | _, _ => none
    | _ => none
  | 13 => match xs with
    | [x, y] => getPL x y fun p a => leastR p a (bif validP p && begB p a then refW p a else none)
    | _ => none
  | 16 => match xs with
    | [x, .int .i64 m] => getP x fun p => countR p m (bif validP p && inB m 0 1000000 then refN p m else 0)
    | _ => none
  | 31 => match xs with
    | [x, y] => getPL x y fun p a => pAV (onlyP p a)
    | _ => none
  | 30 => match xs with
    | [x, y] => match decP y with
      | some q => getP x fun p => .bool (decide (p = q))
      | none => none
    | _ => none
  | _ => none
theorem solveR_ref (p : Pb) : solveR p (bif validP p then refW p [] else none) = solveR p (bestW p []) := by
  unfold solveR
  cases hv : validP p with
  | false => rfl
  | true => rw [cond_true, best_ref (valid_iff.1 hv) (beg_nil p)]; rfl
theorem leastR_ref (p : Pb) (a : List Int) : leastR p a (bif validP p && begB p a then refW p a else none) = leastR p a (bestW p a) := by
  unfold leastR
  cases hv : validP p with
  | false => rfl
  | true =>
    cases hb : begB p a with
    | false => rfl
    | true => rw [Bool.and_true, cond_true, best_ref (valid_iff.1 hv) (beg_iff.1 hb)]; rfl
theorem countR_ref (p : Pb) (m : Int) : countR p m (bif validP p && inB m 0 1000000 then refN p m else 0) = countR p m (countW p m) := by
  unfold countR
  cases hv : validP p with
  | false => rfl
  | true =>
    cases hm : inB m 0 1000000 with
    | false => rfl
    | true => rw [Bool.and_true, cond_true, count_ref (valid_iff.1 hv) (inB_iff.1 hm).1]; rfl
theorem firstR_ref (p : Pb) : firstR p = bif validP p then resF (firstW p) else .tup [flL [], I 1] := by
  unfold firstR
  cases hv : validP p with
  | false => rfl
  | true => rw [cond_true, first_ref (valid_iff.1 hv)]; rfl
theorem clC_ok {f : FuncId} {xs : List AV} {t : Tree AV} {v : AV} (hq : clC f xs = some t) (hs : t.sel = some v) (σ : Heap) : ACall Try.prog G0 f xs σ v σ := by
  unfold clC at hq
  split at hq
  · split at hq <;> first | (cases hq; done) | skip
    obtain ⟨p, a, h1, h2, h3, h4, rfl⟩ := getPL_ok hq
    cases hs
    exact (c24 h3 h4 σ).arg2 h1 h2
  · split at hq <;> first | (cases hq; done) | skip
    obtain ⟨p, a, h1, h2, h3, h4, rfl⟩ := getPL_ok hq
    cases hs
    exact (c25 h3 h4 σ).arg2 h1 h2
  · split at hq <;> first | (cases hq; done) | skip
    obtain ⟨p, h1, h3, rfl⟩ := getP_ok hq
    cases hs
    rw [solveR_ref]
    exact (c21 h3 σ).arg1 h1
  · split at hq <;> first | (cases hq; done) | skip
    obtain ⟨p, h1, h3, rfl⟩ := getP_ok hq
    cases hs
    rw [firstR_ref]
    exact (c22 h3 σ).arg1 h1
  · split at hq <;> first | (cases hq; done) | skip
    obtain ⟨p, h1, h3, rfl⟩ := getP_ok hq
    cases hs
    exact (c28 h3 σ).arg1 h1
  · split at hq <;> first | (cases hq; done) | skip
    split at hq <;> first | (cases hq; done) | skip
    rename_i a b ha hb
    cases hsh : shB a with
    | false => rw [hsh] at hq; cases hq
    | true =>
      rw [hsh] at hq
      cases hq
      cases hs
      exact (c23 (shB_ok hsh) σ).arg2 (decL_ok ha) (decL_ok hb)
  · split at hq <;> first | (cases hq; done) | skip
    obtain ⟨p, a, h1, h2, h3, h4, rfl⟩ := getPL_ok hq
    cases hs
    rw [leastR_ref]
    exact (c13 h3 h4 σ).arg2 h1 h2
  · split at hq <;> first | (cases hq; done) | skip
    obtain ⟨p, h1, h3, rfl⟩ := getP_ok hq
    cases hs
    rw [countR_ref]
    exact (c16 h3 _ σ).arg2 h1 (sub_refl _)
  · split at hq <;> first | (cases hq; done) | skip
    obtain ⟨p, a, h1, h2, h3, h4, rfl⟩ := getPL_ok hq
    cases hs
    exact (c31 h3 h4 σ).arg2 h1 h2
  · split at hq <;> first | (cases hq; done) | skip
    split at hq <;> first | (cases hq; done) | skip
    rename_i q hp
    obtain ⟨p, h1, h3, rfl⟩ := getP_ok hq
    cases hs
    exact (c30 h3 σ).arg2 h1 (decP_ok hp)
  · cases hq
end Go.Proofs.Ytngaihdpmoajeaa.Am

namespace Go.Proofs.Ytngaihdpmoajeaa.Am
open Go
set_option maxRecDepth 100000

def EC2 : Env := { cl := clC }
theorem clokC2 : ClOk Try.prog G0 EC2 := .of rfl rfl fun f xs t v h hs σ => clC_ok h hs σ
theorem run12 : (xCall Try.prog G0 EC2 200 12 [] [] []).sel.map (fun r => r.1) = some (.bool true) := by kernel_rfl
/-- THE EXAMPLES COME OUT. -/
theorem c12 (h : Heap) : ACall Try.prog G0 12 [] h (.bool true) h := by
  obtain ⟨⟨v, s, h'⟩, h1, h2⟩ := Option.map_eq_some_iff.1 run12
  obtain rfl : v = .bool true := h2
  exact (xCall_ok names mixed clokC2 h1).lift0 (.bool _) gbelow0 nofun h
end Go.Proofs.Ytngaihdpmoajeaa.Am

namespace Go.Proofs.Ytngaihdpmoajeaa.Am
open Go
set_option maxRecDepth 100000

/-! ### Numbers in a row -/
/-! ### All assignments that begin so -/
/-! ### Solutions -/
/-! ### First -/
/-! ### How many -/
/-! ### The best -/
/-! ### What the functions find -/
end Go.Proofs.Ytngaihdpmoajeaa.Am

namespace Go.Proofs.Ytngaihdpmoajeaa.Am
open Go
set_option maxRecDepth 100000

/-! ### Calls that are known where a condition on their arguments holds -/
def clK : List (FuncId × (List AV → Prop) × (List AV → AV)) → FuncId → List AV → Option (Tree AV)
  | [], _, _ => none
  | (g, P, v) :: r, f, xs => if f = g then some (.need (P xs) (.leaf (v xs))) else clK r f xs
theorem clK_ok {l : List (FuncId × (List AV → Prop) × (List AV → AV))} (hl : ∀ p ∈ l, ∀ xs, p.2.1 xs → ∀ σ, ACall Try.prog G0 p.1 xs σ (p.2.2 xs) σ) : ∀ f xs t v, clK l f xs = some t → t.sel = some v → ∀ σ, ACall Try.prog G0 f xs σ v σ := by
  induction l with
  | nil => intro f xs t v hq; cases hq
  | cons p r ih =>
    intro f xs t v hq hs σ
    obtain ⟨g, P, u⟩ := p
    unfold clK at hq
    by_cases h : f = g
    · rw [if_pos h] at hq
      cases hq
      obtain ⟨h1, h2⟩ := Tree.of_need hs
      cases h2
      subst h
      exact hl (f, P, u) (List.mem_cons_self ..) xs h1 σ
    · rw [if_neg h] at hq
      exact ih (fun p hp => hl p (by simp [hp])) f xs t v hq hs σ
def EN (l : List (FuncId × (List AV → Prop) × (List AV → AV))) (H : Heap → Oper → (Operand → Option AV) → Option (AV × Bool × Heap × Prop)) : Env := { boxRow := false, clh := failH, cl := clK l, hint := H }
theorem clokN {l : List (FuncId × (List AV → Prop) × (List AV → AV))} {H : Heap → Oper → (Operand → Option AV) → Option (AV × Bool × Heap × Prop)} (hl : ∀ p ∈ l, ∀ xs, p.2.1 xs → ∀ σ, ACall Try.prog G0 p.1 xs σ (p.2.2 xs) σ) (hH : HintOk Try.prog G0 H) : ClOk Try.prog G0 (EN l H) :=
  .all hH failH_ok (fun l xs σ t v σ' h => (by cases h)) fun f xs t v h hs σ => clK_ok hl f xs t v h hs σ
def is1 (a : List AV) (v : AV) : (List AV → Prop) × (List AV → AV) := (fun xs => xs = a, fun _ => v)
def is2 (a b : List AV) (v : AV) : (List AV → Prop) × (List AV → AV) := (fun xs => xs = a ∨ xs = b, fun _ => v)
/-- The calls of SearchCounts. -/
def k3 (p o : Pb) (a : List Int) (m : Int) (s : Bool) (c e n g : Int) : List (FuncId × (List AV → Prop) × (List AV → AV)) :=
  [(10, is1 [pAV p] (pAV o)), (11, is1 [pAV o] (.bool s)), (12, is1 [] (.bool true)), (14, is1 [flL a] (flL a)), (13, is1 [pAV o, flL a] (.tup [I c, I e])), (15, is1 [pAV o, flL a] (.tup [I c, I e])),
   (16, is1 [pAV o, I m] (.tup [I n, I g])), (17, is1 [pAV o, I m] (.tup [I n, I g]))]
end Go.Proofs.Ytngaihdpmoajeaa.Am

namespace Go.Proofs.Ytngaihdpmoajeaa.Am
open Go
set_option maxRecDepth 100000

/-! ### A tree says so, whatever the heap -/
/-! ### The law's own problem -/
/-! ### What both find -/
/-! ### SearchSolves -/
/-! ### SearchCounts -/
/-! ### SearchChecks -/
end Go.Proofs.Ytngaihdpmoajeaa.Am

namespace Go.Proofs.Ytngaihdpmoajeaa.Am
open Go
set_option maxRecDepth 100000

/-- The loop at a place of a code's loops. -/
theorem nth_loop {c : Code} {k i : Nat} {b : Code} {ids : List Nat} (h1 : (loopsOf c).map idOf = ids) (hn : ids.Nodup) (hb : (loopsOf c)[k]? = some b) (hi : ids[k]? = some i) : ∀ x ∈ loopsOf c, idOf x = i → x = b := by
  intro x hx hxi
  obtain ⟨j, hj⟩ := List.mem_iff_getElem?.1 hx
  have hj2 : ids[j]? = some i := by rw [← h1, List.getElem?_map, hj]; exact congrArg some hxi
  have hjl : j < ids.length := (List.getElem?_eq_some_iff.1 hj2).1
  have : j = k := (List.getElem?_inj hjl hn).1 (hj2.trans hi.symm)
  subst this
  exact Option.some.inj (hj.symm.trans hb)
end Go.Proofs.Ytngaihdpmoajeaa.Am

namespace Go.Proofs.Ytngaihdpmoajeaa.Am
open Go
set_option maxRecDepth 100000

/-! ### Puzzles -/
/-- A clause of a puzzle. -/
structure Cs where
  d : Int
  u : Int
  w : List Int
  m : Int
/-- A puzzle. -/
structure Pz where
  V : List Int
  C : List Int
  R : List Cs
def c0 : Cs := ⟨0, 0, [], 0⟩
def flB (L : List Int) : AV := .fl 1 L.length fun i => [.int .u8 (L.getD i 0)]
def flT (L : List Int) : AV := .fl 1 L.length fun i => [.int .i8 (L.getD i 0)]
def csC (c : Cs) : List AV := [.int .u8 c.d, .int .u8 c.u, flT c.w, .int .i8 c.m]
def flC (R : List Cs) : AV := .fl 4 R.length fun i => csC (R.getD i c0)
def pzC (x : Pz) : List AV := [flB x.V, flB x.C, flC x.R]
def pzAV (x : Pz) : AV := .agg (pzC x)
/-! ### Bits, remainders by unknown numbers -/
/-! ### The loops -/
def hA (v : AV) (o : AObj) (w : AV) (q l : AObj) : Heap := [o, q, .resv, l, .resv, .resv, .cells 0 zPb, .cells 0 [v, w, .zs]]
def hC (V : List Int) (C : List (List Int)) (v : AV) (r l vo wo : AObj) : Heap := [.resv, .resv, r, l, vo, wo, .cells 0 zPb, .cells 0 [flL V, flLL C, v]]
def hD (V : List Int) (C : List (List Int)) (v : AV) (r l vo wo : AObj) (d : Int) (vv ww : AV) (m : Int) : Heap := [.resv, .resv, r, l, vo, wo, .cells 0 zPb, .cells 0 [flL V, flLL C, v], .cells 0 [I d, vv, ww, I m]]
end Go.Proofs.Ytngaihdpmoajeaa.Am

namespace Go.Proofs.Ytngaihdpmoajeaa.Am
open Go
set_option maxRecDepth 100000

end Go.Proofs.Ytngaihdpmoajeaa.Am

namespace Go.Proofs.Ytngaihdpmoajeaa.Am
open Go
set_option maxRecDepth 100000

/-- Some places are given back. -/
def dropP (D : Nat → Bool) (n : Nat) : Nat → Option Nat := fun q => bif D q then none else if q < n then some q else none
theorem dropP_at {D : Nat → Bool} {n q : Nat} (h : D q = false) (hq : q < n) : dropP D n q = some q := by simp [dropP, h, hq]
theorem dropP_some {D : Nat → Bool} {n q z : Nat} (h : dropP D n q = some z) : D q = false ∧ q < n ∧ z = q := by
  unfold dropP at h
  cases hD : D q with
  | true => rw [hD] at h; cases h
  | false =>
    rw [hD, cond_false] at h
    split at h
    · cases h; exact ⟨rfl, ‹_›, rfl⟩
    · cases h
theorem dropP_none {D : Nat → Bool} {n r : Nat} (h : D r = true) : ∀ q, dropP D n q ≠ some r := fun q hq => by
  obtain ⟨h1, _, rfl⟩ := dropP_some hq
  rw [h] at h1; cases h1
def GoodD (D : Nat → Bool) (n r : Nat) : Prop := D r = false ∧ r < n
def OnlyO (P : Nat → Prop) : AObj → Prop
  | .cells _ c => ∀ x ∈ c, Only P x
  | .resv => True
  | .gone => True
  | _ => False
def ReC (π : Nat → Option Nat) (σ : Heap) : List AV → List AV → Prop
  | [], [] => True
  | x :: a, y :: b => Re G0 π σ x y ∧ ReC π σ a b
  | _, _ => False
theorem ReC.len {π : Nat → Option Nat} {σ : Heap} : ∀ {a b : List AV}, ReC π σ a b → b.length = a.length
  | [], [], _ => rfl
  | _ :: _, _ :: _, h => by rw [List.length_cons, List.length_cons, ReC.len h.2]
  | [], _ :: _, h => h.elim
  | _ :: _, [], h => h.elim
theorem ReC.at' {π : Nat → Option Nat} {σ : Heap} : ∀ {a b : List AV}, ReC π σ a b → ∀ (j : Nat) (y : AV), b[j]? = some y → ∃ x, a[j]? = some x ∧ Re G0 π σ x y
  | [], [], _, j, y, hj => by simp at hj
  | _ :: _, _ :: _, h, 0, y, hj => by cases hj; exact ⟨_, rfl, h.1⟩
  | _ :: _, _ :: _, h, j + 1, y, hj => ReC.at' h.2 j y hj
  | [], _ :: _, h, _, _, _ => h.elim
  | _ :: _, [], h, _, _, _ => h.elim
theorem Re.good {D : Nat → Bool} {n : Nat} {σ : Heap} {x : AV} (h : Only (GoodD D n) x) : Re G0 (dropP D n) σ x x := Re.only (fun _ hr => .inr (dropP_at hr.1 hr.2)) h
/-- What is to be shown of each object. -/
def DropO (D : Nat → Bool) (n : Nat) (σ1 : Heap) (r : Nat) (o : AObj) : Prop :=
  (D r = true ∧ o = .resv) ∨ (D r = false ∧ σ1[r]? = some o ∧ OnlyO (GoodD D n) o) ∨ (D r = false ∧ ∃ g c c0, o = .cells g c ∧ σ1[r]? = some (.cells g c0) ∧ ReC (dropP D n) σ1 c0 c)
def DropH (D : Nat → Bool) (n : Nat) (σ1 : Heap) : Nat → Heap → Prop
  | _, [] => True
  | r, o :: t => DropO D n σ1 r o ∧ DropH D n σ1 (r + 1) t
theorem DropH.at' {D : Nat → Bool} {n : Nat} {σ1 : Heap} : ∀ {t : Heap} {k : Nat}, DropH D n σ1 k t → ∀ (j : Nat) (o : AObj), t[j]? = some o → DropO D n σ1 (k + j) o
  | [], _, _, j, o, hj => by simp at hj
  | _ :: _, k, h, 0, o, hj => by cases hj; exact h.1
  | _ :: t, k, h, j + 1, o, hj => by
    have := DropH.at' (t := t) h.2 j o hj
    rwa [show k + 1 + j = k + (j + 1) by omega] at this
theorem HRe.drop {D : Nat → Bool} {n : Nat} {σ σ1 τ : Heap} (hs : σ.length = n) (ht : τ.length = n) (hσ : ∀ r o, σ[r]? = some o → D r = true → o = .resv) (ho : DropH D n σ1 0 τ) : HRe G0 (dropP D n) σ σ1 τ := by
  refine ⟨gbelow0, fun r o hr hne => ?_, fun r r' q h1 h2 => ?_, fun r q h => ?_, fun r o hr => ?_⟩
  · cases hD : D r with
    | true => exact absurd (hσ r o hr hD) hne
    | false => exact dropP_at hD (by have := (List.getElem?_eq_some_iff.1 hr).1; omega)
  · have := dropP_some h1
    have := dropP_some h2
    omega
  · have := dropP_some h
    omega
  · have hrn : r < n := by have := (List.getElem?_eq_some_iff.1 hr).1; omega
    have := ho.at' r o hr
    rw [Nat.zero_add] at this
    rcases this with ⟨h1, rfl⟩ | ⟨h1, h2, h3⟩ | ⟨h1, g, c, c0, rfl, h2, h3⟩
    · exact fun q hq => by rw [(dropP_some hq).1] at h1; cases h1
    · cases o with
      | cells g c => exact ⟨r, c, dropP_at h1 hrn, h2, rfl, fun j y hj => ⟨y, hj, Re.good (h3 y (List.mem_of_getElem? hj))⟩⟩
      | resv => exact fun q hq => by rw [(dropP_some hq).2.2]; exact h2
      | dfr => exact h3.elim
      | loop A => exact h3.elim
      | gone => trivial
    · exact ⟨r, c0, dropP_at h1 hrn, h2, h3.len, h3.at'⟩
/-- Frames, value by value. -/
def ReL (π : Nat → Option Nat) (σ : Heap) : List (Nat × AV × Bool) → List (Nat × AV × Bool) → Prop
  | [], [] => True
  | p :: l, q :: l' => p.1 = q.1 ∧ Re G0 π σ p.2.1 q.2.1 ∧ ReL π σ l l'
  | _, _ => False
theorem ReL.get {π : Nat → Option Nat} {σ : Heap} : ∀ {l l' : List (Nat × AV × Bool)} {t t' : PT}, ReL π σ l l' → (∀ j, Re G0 π σ (t.get j).1 (t'.get j).1) → ∀ j, Re G0 π σ ((l.foldl (fun t p => t.set p.1 p.2.1 p.2.2) t).get j).1 ((l'.foldl (fun t p => t.set p.1 p.2.1 p.2.2) t').get j).1
  | [], [], _, _, _, h, j => h j
  | p :: l, q :: l', t, t', hl, h, j => by
    rw [List.foldl_cons, List.foldl_cons]
    refine ReL.get hl.2.2 (fun j => ?_) j
    rw [PT.get_set, PT.get_set, hl.1]
    by_cases hj : j = q.1
    · rw [if_pos hj, if_pos hj]; exact hl.2.1
    · rw [if_neg hj, if_neg hj]; exact h j
  | [], _ :: _, _, _, hl, _, _ => hl.elim
  | _ :: _, [], _, _, hl, _, _ => hl.elim
theorem re_of {π : Nat → Option Nat} {σ : Heap} {n : Nat} {h h' : Heap} {l l' : List (Nat × AV × Bool)} (hl : ReL π σ l l') : ∀ (j : Nat) (y : AV), (St.of n h' l').a[j]? = some y → ∃ x, (St.of n h l).a[j]? = some x ∧ Re G0 π σ x y := by
  intro j y hj
  rw [St.at_eq] at hj
  unfold St.at at hj
  refine ⟨((St.of n h l).t.get j).1, ?_, ?_⟩
  · rw [St.at_eq]
    unfold St.at
    cases hb : Nat.blt j (St.of n h' l').n with
    | false => rw [hb] at hj; cases hj
    | true =>
      have : Nat.blt j (St.of n h l).n = true := hb
      rw [this]
      rfl
  · cases hb : Nat.blt j (St.of n h' l').n with
    | false => rw [hb] at hj; cases hj
    | true =>
      rw [hb] at hj
      cases hj
      exact ReL.get hl (fun j => by rw [PT.get_nil]; exact Re.junk) j
/-- A loop of which the whole run is known. -/
theorem lpB_exec {i : Nat} {keep : List Nat} {S X : St} {e : Exit} {body c : Code} (hr : AExec Try.prog G0 (fun r => r = none) (.loop body) { tmps := S.a } S.h e { tmps := X.a } X.h) (hn : X.n = S.n) (hu : ∀ x ∈ loopsOf c, idOf x = i → x = body) :
    LoopsOk Try.prog G0 (fun r => r = none) [] (lpB i keep S e X) c := by
  refine .of_list _ fun x hm => ?_
  intro kp s0 t e' st' h' hsel
  unfold lpB at h'
  cases hb : Nat.beq (idOf x) i with
  | false => rw [hb, cond_false] at h'; cases h'
  | true =>
    rw [hb, cond_true] at h'
    obtain rfl := hu x hm (Nat.eq_of_beq_eq_true hb)
    cases h'
    cases hsel
    exact ⟨hr, hn⟩
/-- The run of a loop that goes to its end. -/
theorem LoopA.exec {body : Code} {N : Nat} {S R : Nat → St} {X : St} {eR eX : Exit} {stop : Nat → Bool} (hs : LoopA body N S R X eR eX stop) (hn : ∀ k, k < N → stop k = false) :
    AExec Try.prog G0 (fun r => r = none) (.loop body) { tmps := (S 0).a } (S 0).h eX { tmps := X.a } X.h := by
  have key := hs.run N 0 (by omega) (fun j h => absurd h (by omega))
  unfold endA at key
  rw [decide_eq_false (fun h => by
    obtain ⟨k, h1, h2⟩ := (fstStop_iff _ _).1 h
    rw [hn k h1] at h2; cases h2)] at key
  exact .loop key
/-- The run of a loop at whose end places are given back. -/
theorem LoopA.drop {body : Code} {N n : Nat} {S R : Nat → St} {eR eX : Exit} {stop : Nat → Bool} {D : Nat → Bool} {m : Nat} {h h' : Heap} {l l' : List (Nat × AV × Bool)} (hs : LoopA body N S R (St.of m h l) eR eX stop) (hn : ∀ k, k < N → stop k = false)
    (h0 : (S 0).h.length = n) (ht : h'.length = n) (hσ : ∀ r o, (S 0).h[r]? = some o → D r = true → o = .resv) (ho : DropH D n h 0 h') (hl : ReL (dropP D n) h l l') :
    AExec Try.prog G0 (fun r => r = none) (.loop body) { tmps := (S 0).a } (S 0).h eX { tmps := (St.of m h' l').a } h' :=
  (hs.exec hn).re (.drop h0 ht hσ ho) nofun (by simp [St.a, St.of]) (re_of hl)
theorem onlyO_sO {P : Nat → Prop} {rows : List (List AV)} (h : ∀ x ∈ rows, ∀ y ∈ x, Below 0 y) : OnlyO P (sO rows) := by
  cases rows with
  | nil => trivial
  | cons x l =>
    intro y hy
    obtain ⟨z, hz, hy⟩ := List.mem_flatten.1 hy
    exact .of0 (h z hz y hy)
theorem onlySV {P : Nat → Prop} {s r : Nat} {rows : List (List AV)} (h : P r) : Only P (sV s r rows) := by
  cases rows with
  | nil => exact .zs
  | cons x l => exact .ms _ _ _ _ _ _ h
end Go.Proofs.Ytngaihdpmoajeaa.Am

namespace Go.Proofs.Ytngaihdpmoajeaa.Am
open Go
set_option maxRecDepth 100000

/-- The numbers of a puzzle are of 8 bits. -/
structure Pz.ok (x : Pz) : Prop where
  v : ∀ k, 0 ≤ x.V.getD k 0 ∧ x.V.getD k 0 ≤ 255
  c : ∀ k, 0 ≤ x.C.getD k 0 ∧ x.C.getD k 0 ≤ 255
  d : ∀ k, 0 ≤ (x.R.getD k c0).d ∧ (x.R.getD k c0).d ≤ 255
  m : ∀ k, -128 ≤ (x.R.getD k c0).m ∧ (x.R.getD k c0).m ≤ 127
  w : ∀ k j, -128 ≤ (x.R.getD k c0).w.getD j 0 ∧ (x.R.getD k c0).w.getD j 0 ≤ 127
def preL {α : Type} (f : Nat → α) (k : Nat) : List α := (List.range k).map f
theorem preL_succ {α : Type} (f : Nat → α) (k : Nat) : preL f (k + 1) = preL f k ++ [f k] := by simp [preL, List.range_succ]
theorem preL_len {α : Type} (f : Nat → α) (k : Nat) : (preL f k).length = k := by simp [preL]
/-! ### The costs of one variable -/
theorem clokHint {H : Heap → Oper → (Operand → Option AV) → Option (AV × Bool × Heap × Prop)} (hH : HintOk Try.prog G0 H) : ClOk Try.prog G0 { boxRow := false, hint := H } := .all hH (fun f xs σ t u σ' h => (by cases h)) (fun l xs σ t v σ' h => (by cases h)) fun f xs t v h => by cases h
def D3 : Nat → Bool := fun q => Nat.beq q 3
/-! ### The values, and the costs of all -/
end Go.Proofs.Ytngaihdpmoajeaa.Am

namespace Go.Proofs.Ytngaihdpmoajeaa.Am
open Go
set_option maxRecDepth 100000

def D45 : Nat → Bool := fun q => Nat.beq q 4 || Nat.beq q 5
/-! ### The weights of one variable -/
section
variable (V : List Int) (C : List (List Int)) (R : List Rl) (k d m : Int) (U : List Int) (W : List (List Int))
end
/-! ### One rule -/
end Go.Proofs.Ytngaihdpmoajeaa.Am

namespace Go.Proofs.Ytngaihdpmoajeaa.Am
open Go
set_option maxRecDepth 100000

/-! ### All rules -/
/-! ### The problem -/
end Go.Proofs.Ytngaihdpmoajeaa.Am

namespace Go.Proofs.Ytngaihdpmoajeaa.Am
open Go
set_option maxRecDepth 100000

/-- An assignment in an object of its own. -/
def hX (o : AObj) (b : List Int) : Heap := [o, .cells 0 (b.map I)]
section
variable {p : Pb} {n : Nat} {b : List Int} {i : Nat} (hb : b.length = n) (hV : p.V.length = n) (hk : n ≤ 1000) (hi : i < n) (h0 : -1000000 ≤ b.getD i 0 ∧ b.getD i 0 ≤ 1000000) (o : AObj)
include hb hV hk hi h0
end
end Go.Proofs.Ytngaihdpmoajeaa.Am

namespace Go.Proofs.Ytngaihdpmoajeaa.Am
open Go
set_option maxRecDepth 100000

/-- Each of a list is followed by the next one; z: what follows the last one. -/
def Ch (f : List Int → Bool × List Int) : List (List Int) → Bool × List Int → Prop
  | [], _ => True
  | [x], z => f x = z
  | x :: y :: l, z => f x = (true, y) ∧ Ch f (y :: l) z
theorem Ch.app {f : List Int → Bool × List Int} {y : List Int} {l2 : List (List Int)} {z : Bool × List Int} (h2 : Ch f (y :: l2) z) : ∀ {l1 : List (List Int)}, Ch f l1 (true, y) → Ch f (l1 ++ y :: l2) z
  | [], _ => h2
  | [_], h1 => ⟨h1, h2⟩
  | _ :: x' :: l, h1 => ⟨h1.1, Ch.app h2 (l1 := x' :: l) h1.2⟩
theorem Ch.at' {f : List Int → Bool × List Int} {z : Bool × List Int} : ∀ {A : List (List Int)}, Ch f A z → ∀ k, k < A.length → f (A.getD k []) = if k + 1 < A.length then (true, A.getD (k + 1) []) else z
  | [], _, k, hk => by simp at hk
  | [x], h, k, hk => by
    obtain rfl : k = 0 := by simpa using hk
    rw [if_neg (by simp)]
    exact h
  | x :: y :: l, h, 0, _ => by
    rw [if_pos (by simp)]
    exact h.1
  | x :: y :: l, h, k + 1, hk => by
    have := Ch.at' (A := y :: l) h.2 k (by simpa using hk)
    simp only [List.getD_cons_succ, List.length_cons, Nat.add_lt_add_iff_right] at this ⊢
    exact this
def zer (d : Nat) : List Int := List.replicate d 0
end Go.Proofs.Ytngaihdpmoajeaa.Am

namespace Go.Proofs.Ytngaihdpmoajeaa.Am
open Go
set_option maxRecDepth 100000

/-- A new slice of zeros. -/
def hMkZ (r n : Nat) : Heap → Oper → (Operand → Option AV) → Option (AV × Bool × Heap × Prop) := fun h o ρ => match o.op with
  | .makeSlice 22 l c => some (.ms 1 r 0 0 n n, true, h ++ [.cells 0 ((zer n).map I)], ρ l = some (I n) ∧ ρ c = some (I n) ∧ h.length = r ∧ n ≤ 16777216)
  | _ => none
theorem hMkZ_ok (r n : Nat) : HintA Try.prog (hMkZ r n) := by
  intro h o ρ y s h' p hh hp
  unfold hMkZ at hh
  split at hh <;> first | (cases hh; done) | skip
  rename_i l c ho
  cases hh
  obtain ⟨p1, p2, rfl, p4⟩ := hp
  have hz : aZero Try.prog 3 = some (I 0) := by kernel_rfl
  unfold aopR
  simp only [ho, p1, p2]
  rw [make46 h el22 hz rfl p4, repl_map]
  rfl
def k4 (x : Pz) (p : Pb) (bv fv a f : AV) (c e g n h : Int) : List (FuncId × (List AV → Prop) × (List AV → AV)) :=
  [(18, is1 [pzAV x] (pAV p)), (21, is1 [pAV p] (.tup [a, I c, I e])), (22, is1 [pAV p] (.tup [f, I g])), (16, is1 [pAV p, I 1000000] (.tup [I n, I h])), (23, is2 [a, bv] [f, fv] (.bool true)), (12, is1 [] (.bool true))]
end Go.Proofs.Ytngaihdpmoajeaa.Am

namespace Go.Proofs.Ytngaihdpmoajeaa.Am
open Go
set_option maxRecDepth 100000

theorem ok_sh {p : Pb} (hp : Ok p) : p.sh := by
  have h1 := hp.n
  have h2 := hp.c
  have h3 := hp.r
  have e : ∀ {α : Type} {L : List α}, L.length ≤ 4000 → sh L := fun {α L} h => by
    show L.length < _
    omega
  exact ⟨e (by omega), e (by omega), fun l hl => e (by have := cost_small hp l hl; omega), e (by omega), fun x hx => by
    have := rule_small hp (hp.rl x hx)
    exact ⟨e (by omega), e (by omega), fun l hl => e (by have := this.2.2 l hl; omega)⟩⟩
/-! ### Calls on an assignment of one's own -/
/-! ### What has been seen of all assignments -/
/-! ### The loop -/
/-! ### SearchBest -/
end Go.Proofs.Ytngaihdpmoajeaa.Am

namespace Go.Proofs.Ytngaihdpmoajeaa.Am
open Go
set_option maxRecDepth 100000

noncomputable def b9 : Code := bodyOf Try.prog 9
noncomputable def lp9 (i : Nat) : Code := ((loopsOf b9).drop i).headD .skip
theorem ids9 : (loopsOf b9).map idOf = [10, 26, 44, 49, 55, 59] := by kernel_rfl
noncomputable def body9b : Code := lp9 1
noncomputable def body9v : Code := lp9 2
noncomputable def body9l : Code := lp9 3
noncomputable def body9k : Code := lp9 4
noncomputable def body9u : Code := lp9 5
/-- The heap while the great problem is made. -/
def hK (o1 o2 V C R l yv yw : AObj) (v c r : AV) : Heap := [V, C, R, l, yv, yw, o1, o2, .cells 0 [v, c, r]]
def stL (o1 o2 V C R : AObj) (v c r : AV) (x : Int) (s : AV) (l : AObj) (j : Int) : St := .of 505 (hK o1 o2 V C R l .resv .resv v c r) [(0, .bool false, false), (38, .ref 8 0 0, true), (39, I x, true), (40, s, true), (394, I x, true), (402, I j, true)]
def keepL : List Nat := [0, 38, 39, 40, 394, 402]
theorem run9l (g : Prop) (o1 o2 V C R : AObj) (v c r : AV) (x : Int) (s s' : AV) (l l' : AObj) (j : Int) : xBodyT { boxRow := false, hint := hApO 22 1 3 [I (IntKind.i64.wrap (15 - j))] s s' l l' g } 200 noLoops keepL 9 body9l (stL o1 o2 V C R v c r x s l j) = .ite (decide (j < (16 : Int))) (.need (((Option.some [s, (AV.sl (1 : Nat) [[(I (IntKind.i64.wrap ((15 : Int) - j)))]])]) = (Option.some [s, (AV.sl (1 : Nat) [[(I (IntKind.i64.wrap ((15 : Int) - j)))]])])) ∧ (((Option.some l) = (Option.some l)) ∧ (g))) (.leaf (Exit.normal, St.of 505 [V, C, R, l', AObj.resv, AObj.resv, o1, o2, (AObj.cells (0 : Nat) [v, c, r])] [(0, (AV.bool false), false), (38, (AV.ref (8 : Nat) (0 : Nat) (0 : Nat)), true), (39, (I x), true), (40, s', true), (394, (I x), true), (402, (I (IntKind.i64.wrap (j + (1 : Int)))), true)]))) (.leaf ((Exit.exit (6 : Nat)), St.of 505 [V, C, R, l, AObj.resv, AObj.resv, o1, o2, (AObj.cells (0 : Nat) [v, c, r])] [(0, (AV.bool false), false), (38, (AV.ref (8 : Nat) (0 : Nat) (0 : Nat)), true), (39, (I x), true), (40, s, true), (394, (I x), true), (402, (I j), true)])) := by kernel_rfl
def hU (o1 o2 V C R yv yw : AObj) (v c r : AV) (k : Int) (vv ww : AV) : Heap := [V, C, R, .resv, yv, yw, o1, o2, .cells 0 [v, c, r], .cells 0 [I k, vv, ww, I 2]]
def stU (o1 o2 V C R : AObj) (v c r : AV) (x k : Int) (vv ww : AV) (yv yw : AObj) (u : Int) : St := .of 505 (hU o1 o2 V C R yv yw v c r k vv ww) [(0, .bool false, false), (38, .ref 8 0 0, true), (39, I x, true), (42, I k, true), (43, .ref 9 0 0, true), (394, I x, true), (427, I u, true)]
def keepU : List Nat := [0, 38, 39, 42, 43, 394, 427]
def wX : AV := .ms 1 10 0 0 16 16
def EU (g : Prop) (u : Int) (vv vv' ww ww' : AV) (yv yv' yw yw' : AObj) : Env := { boxRow := false, hint := orH (hMkZ 10 16) (orH (hArrG 22 3 .i64 10) (orH (hApO 22 1 4 [I u] vv vv' yv yv' g) (orH (hApO 23 1 5 [wX] ww ww' yw yw' g) (orH (hSto 22 9) (hSto 23 9))))) }
theorem run9u (g : Prop) (o1 o2 V C R : AObj) (v c r : AV) (x k : Int) (vv vv' ww ww' : AV) (yv yv' yw yw' : AObj) (u : Int) : xBody Try.prog G0 (EU g u vv vv' ww ww' yv yv' yw yw') 200 noLoops keepU body9u (stU o1 o2 V C R v c r x k vv ww yv yw u) = .ite (decide (u < (24 : Int))) (.need (((Option.some (I ((16 : Int)))) = (Option.some (I ((↑(16 : Nat) : Int))))) ∧ (((Option.some (I ((16 : Int)))) = (Option.some (I ((↑(16 : Nat) : Int))))) ∧ (((10 : Nat) = (10 : Nat)) ∧ ((16 : Nat) ≤ (16777216 : Nat))))) (.need (((0 : Int) ≤ k) ∧ ((k < (↑(16 : Nat) : Int)) ∧ ((0 : Nat) = (0 : Nat)))) (.need (((0 : Nat) = (0 : Nat)) ∧ ((k.toNat) < (16 : Nat))) (.need (((Option.some [vv, (AV.sl (1 : Nat) [[(I u)]])]) = (Option.some [vv, (AV.sl (1 : Nat) [[(I u)]])])) ∧ (((Option.some yv) = (Option.some yv)) ∧ (g))) (.need (((AV.one vv') = true) ∧ ((1 : Nat) < (4 : Nat))) (.need (((Option.some [ww, (AV.sl (1 : Nat) [[(AV.ms (1 : Nat) (10 : Nat) (0 : Nat) (0 : Nat) (16 : Nat) (16 : Nat))]])]) = (Option.some [ww, (AV.sl (1 : Nat) [[(AV.ms (1 : Nat) (10 : Nat) (0 : Nat) (0 : Nat) (16 : Nat) (16 : Nat))]])])) ∧ (((Option.some yw) = (Option.some yw)) ∧ (g))) (.need (((AV.one ww') = true) ∧ ((2 : Nat) < (4 : Nat))) (.leaf (Exit.normal, St.of 505 [V, C, R, AObj.resv, yv', yw', o1, o2, (AObj.cells (0 : Nat) [v, c, r]), (AObj.cells (0 : Nat) (setL (setL [(I k), vv, ww, (I ((2 : Int)))] (1 : Nat) [vv']) (2 : Nat) [ww'])), (AObj.cells (0 : Nat) (setL [(I ((0 : Int))), (I ((0 : Int))), (I ((0 : Int))), (I ((0 : Int))), (I ((0 : Int))), (I ((0 : Int))), (I ((0 : Int))), (I ((0 : Int))), (I ((0 : Int))), (I ((0 : Int))), (I ((0 : Int))), (I ((0 : Int))), (I ((0 : Int))), (I ((0 : Int))), (I ((0 : Int))), (I ((0 : Int)))] (k.toNat) [(I ((1 : Int)))]))] [(0, (AV.bool false), false), (38, (AV.ref (8 : Nat) (0 : Nat) (0 : Nat)), true), (39, (I x), true), (42, (I k), true), (43, (AV.ref (9 : Nat) (0 : Nat) (0 : Nat)), true), (394, (I x), true), (427, (I (IntKind.i64.wrap (u + (1 : Int)))), true)]))))))))) (.leaf ((Exit.exit (10 : Nat)), St.of 505 [V, C, R, AObj.resv, yv, yw, o1, o2, (AObj.cells (0 : Nat) [v, c, r]), (AObj.cells (0 : Nat) [(I k), vv, ww, (I ((2 : Int)))])] [(0, (AV.bool false), false), (38, (AV.ref (8 : Nat) (0 : Nat) (0 : Nat)), true), (39, (I x), true), (42, (I k), true), (43, (AV.ref (9 : Nat) (0 : Nat) (0 : Nat)), true), (394, (I x), true), (427, (I u), true)])) := by kernel_rfl
def stK (o1 o2 V C R : AObj) (v c r : AV) (x k : Int) : St := .of 505 (hK o1 o2 V C R .resv .resv .resv v c r) [(0, .bool false, false), (38, .ref 8 0 0, true), (39, I x, true), (42, I k, true), (394, I x, true)]
def keepK : List Nat := [0, 38, 39, 42, 394]
def EK9 (g : Prop) (k : Int) (U : List Int) (W : List (List Int)) (r r' : AV) (R R' : AObj) : Env := { boxRow := false, hint := orH (hApO 24 4 2 [I k, flL U, flLL W, I 2] r r' R R' g) (orH (hSto 24 8) (hStA 56 9)) }
theorem run9k (g : Prop) (o1 o2 V C R R' : AObj) (v c r r' : AV) (x k : Int) (U : List Int) (W : List (List Int)) : xBodyT (EK9 g k U W r r' R R') 200 (lpB 59 keepU (stU o1 o2 V C R v c r x k .zs .zs .resv .resv 0) (.exit 10) (stU o1 o2 V C R v c r x k (flL U) (flLL W) .resv .resv 24)) keepK 9 body9k (stK o1 o2 V C R v c r x k) = .ite (decide (k < (16 : Int))) (.ite (x == (0 : Int)) (.need (((Option.some (4 : Nat)) = (Option.some (4 : Nat))) ∧ ((true = true) ∧ ((4 : Nat) ≤ (4 : Nat)))) (.need ((stU o1 o2 V C R v c r x k .zs .zs .resv .resv 0).vals = (stU o1 o2 V C R v c r x k .zs .zs .resv .resv 0).vals) (.need (((Option.some [r, (AV.sl (4 : Nat) [[(I k), (flL (U)), (flLL (W)), (I ((2 : Int)))]])]) = (Option.some [r, (AV.sl (4 : Nat) [[(I k), (flL (U)), (flLL (W)), (I ((2 : Int)))]])])) ∧ (((Option.some R) = (Option.some R)) ∧ (g))) (.need (((AV.one r') = true) ∧ ((2 : Nat) < (3 : Nat))) (.leaf (Exit.normal, St.of 505 [V, C, R', AObj.resv, AObj.resv, AObj.resv, o1, o2, (AObj.cells (0 : Nat) (setL [v, c, r] (2 : Nat) [r']))] [(0, (AV.bool false), false), (38, (AV.ref (8 : Nat) (0 : Nat) (0 : Nat)), true), (39, (I x), true), (42, (I (IntKind.i64.wrap (k + (1 : Int)))), true), (394, (I x), true)])))))) (.leaf ((Exit.exit (8 : Nat)), St.of 505 [V, C, R, AObj.resv, AObj.resv, AObj.resv, o1, o2, (AObj.cells (0 : Nat) [v, c, r])] [(0, (AV.bool false), false), (38, (AV.ref (8 : Nat) (0 : Nat) (0 : Nat)), true), (39, (I x), true), (42, (I k), true), (394, (I x), true)]))) (.leaf ((Exit.exit (8 : Nat)), St.of 505 [V, C, R, AObj.resv, AObj.resv, AObj.resv, o1, o2, (AObj.cells (0 : Nat) [v, c, r])] [(0, (AV.bool false), false), (38, (AV.ref (8 : Nat) (0 : Nat) (0 : Nat)), true), (39, (I x), true), (42, (I k), true), (394, (I x), true)])) := by kernel_rfl
def stV (o1 o2 V C R : AObj) (v c r : AV) (x : Int) : St := .of 505 (hK o1 o2 V C R .resv .resv .resv v c r) [(0, .bool false, false), (38, .ref 8 0 0, true), (394, I x, true)]
def keepV : List Nat := [0, 38, 394]
def EV9 (g : Prop) (l : List Int) (v v' c c' : AV) (V V' C C' : AObj) : Env := { boxRow := false, hint := orH (hApO 22 1 0 [I 16] v v' V V' g) (orH (hApO 23 1 1 [flL l] c c' C C' g) (orH (hSto 22 8) (hSto 23 8))) }
theorem run9v (g : Prop) (o1 o2 V V' C C' R R' : AObj) (v v' c c' r r' : AV) (x k : Int) (l : List Int) : xBodyT (EV9 g l v v' c c' V V' C C') 200 (lpAnd (lpB 49 keepL (stL o1 o2 V' C R v' c r x .zs .resv 0) (.exit 6) (stL o1 o2 V' C R v' c r x (flL l) .resv 16)) (lpB 55 keepK (stK o1 o2 V' C' R v' c' r x 0) (.exit 8) (stK o1 o2 V' C' R' v' c' r' x k))) keepV 9 body9v (stV o1 o2 V C R v c r x) = .ite (decide (x < (24 : Int))) (.need (((Option.some [v, (AV.sl (1 : Nat) [[(I ((16 : Int)))]])]) = (Option.some [v, (AV.sl (1 : Nat) [[(I ((16 : Int)))]])])) ∧ (((Option.some V) = (Option.some V)) ∧ (g))) (.need (((AV.one v') = true) ∧ ((0 : Nat) < (3 : Nat))) (.need ((stL o1 o2 V' C R v' c r x .zs .resv 0).vals = (stL o1 o2 V' C R v' c r x .zs .resv 0).vals) (.need (((Option.some [c, (AV.sl (1 : Nat) [[(flL (l))]])]) = (Option.some [c, (AV.sl (1 : Nat) [[(flL (l))]])])) ∧ (((Option.some C) = (Option.some C)) ∧ (g))) (.need (((AV.one c') = true) ∧ ((1 : Nat) < (3 : Nat))) (.need ((stK o1 o2 V' C' R v' c' r x 0).vals = (stK o1 o2 V' C' R v' c' r x 0).vals) (.leaf (Exit.normal, St.of 505 [V', C', R', AObj.resv, AObj.resv, AObj.resv, o1, o2, (AObj.cells (0 : Nat) [v', c', r'])] [(0, (AV.bool false), false), (38, (AV.ref (8 : Nat) (0 : Nat) (0 : Nat)), true), (394, (I (IntKind.i64.wrap (x + (1 : Int)))), true)])))))))) (.leaf ((Exit.exit (4 : Nat)), St.of 505 [V, C, R, AObj.resv, AObj.resv, AObj.resv, o1, o2, (AObj.cells (0 : Nat) [v, c, r])] [(0, (AV.bool false), false), (38, (AV.ref (8 : Nat) (0 : Nat) (0 : Nat)), true), (394, (I x), true)])) := by kernel_rfl
theorem run9ke (o1 o2 V C R : AObj) (v c r : AV) (x k : Int) : xBodyT { boxRow := false, hint := orH (hSto 24 8) (hStA 56 9) } 200 (lpF 59 keepU (stU o1 o2 V C R v c r x k .zs .zs .resv .resv 0)) keepK 9 body9k (stK o1 o2 V C R v c r x k) = .ite (decide (k < (16 : Int))) (.ite (x == (0 : Int)) (.need (((Option.some (4 : Nat)) = (Option.some (4 : Nat))) ∧ ((true = true) ∧ ((4 : Nat) ≤ (4 : Nat)))) (.need ((stU o1 o2 V C R v c r x k .zs .zs .resv .resv 0).vals = (stU o1 o2 V C R v c r x k .zs .zs .resv .resv 0).vals) .fail)) (.leaf ((Exit.exit (8 : Nat)), St.of 505 [V, C, R, AObj.resv, AObj.resv, AObj.resv, o1, o2, (AObj.cells (0 : Nat) [v, c, r])] [(0, (AV.bool false), false), (38, (AV.ref (8 : Nat) (0 : Nat) (0 : Nat)), true), (39, (I x), true), (42, (I k), true), (394, (I x), true)]))) (.leaf ((Exit.exit (8 : Nat)), St.of 505 [V, C, R, AObj.resv, AObj.resv, AObj.resv, o1, o2, (AObj.cells (0 : Nat) [v, c, r])] [(0, (AV.bool false), false), (38, (AV.ref (8 : Nat) (0 : Nat) (0 : Nat)), true), (39, (I x), true), (42, (I k), true), (394, (I x), true)])) := by kernel_rfl
end Go.Proofs.Ytngaihdpmoajeaa.Am

namespace Go.Proofs.Ytngaihdpmoajeaa.Am
open Go
set_option maxRecDepth 100000

theorem alone_up {o : AObj} (h : Alone 0 o) (n : Nat) : Alone n o := by
  cases o with
  | cells g c => exact fun x hx => (h x hx).up
  | resv => trivial
  | gone => trivial
  | dfr => exact h.elim
  | loop A => exact h.elim
theorem alone_only {o : AObj} (h : Alone 0 o) (P : Nat → Prop) : OnlyO P o := by
  cases o with
  | cells g c => exact fun x hx => .of0 (h x hx)
  | resv => trivial
  | gone => trivial
  | dfr => exact h.elim
  | loop A => exact h.elim
theorem ReC.app {π : Nat → Option Nat} {σ : Heap} : ∀ {a b a' b' : List AV}, ReC π σ a b → ReC π σ a' b' → ReC π σ (a ++ a') (b ++ b')
  | [], [], _, _, _, h => h
  | _ :: _, _ :: _, _, _, h1, h2 => ⟨h1.1, ReC.app h1.2 h2⟩
  | [], _ :: _, _, _, h, _ => h.elim
  | _ :: _, [], _, _, h, _ => h.elim
theorem ReC.flat {π : Nat → Option Nat} {σ : Heap} : ∀ {a : List AV}, (∀ x ∈ a, Below 0 x) → ReC π σ a a
  | [], _ => trivial
  | x :: a, h => ⟨Re.flat (h x (by simp)), ReC.flat fun y hy => h y (by simp [hy])⟩
theorem re_msL {π : Nat → Option Nat} {σ : Heap} {r g cap : Nat} {L : List Int} (ho : σ[r]? = some (.cells g (L.map I))) (hπ : ∀ q, π q ≠ some r) : Re G0 π σ (.ms 1 r g 0 L.length cap) (flL L) :=
  Re.data ho hπ (by simp) (fun _ _ => rfl) fun i j y hi hj => by
    match j, hj with
    | 0, hj =>
      cases hj
      refine ⟨I (L.getD i 0), ?_, re_int⟩
      rw [Nat.mul_one, Nat.add_zero]
      exact map_get L hi
    | j + 1, hj => simp at hj
theorem sV_len {s r : Nat} {a b : List (List AV)} (h : a.length = b.length) : sV s r a = sV s r b := by
  cases a with
  | nil => cases b with
    | nil => rfl
    | cons y t => simp at h
  | cons x l => cases b with
    | nil => simp at h
    | cons y t =>
      have : l.length = t.length := by simpa using h
      show AV.ms s r l.length 0 (l.length + 1) (l.length + 1) = AV.ms s r t.length 0 (t.length + 1) (t.length + 1)
      rw [this]
section
variable {o1 o2 : AObj} (h1 : Alone 0 o1) (h2 : Alone 0 o2)
/-- The heap, by lists. -/
def hK' (o1 o2 : AObj) (V : List Int) (C : List (List Int)) (R : List Rl) (L : List Int) (U : List Int) (W : List (List Int)) : Heap := hK o1 o2 (sO (rowI V)) (sO (rowLL C)) (sO (rowR R)) (sO (rowI L)) (sO (rowI U)) (sO (rowLL W)) (sV 1 0 (rowI V)) (sV 1 1 (rowLL C)) (sV 4 2 (rowR R))
include h1 h2
theorem alone_K (V : List Int) (C : List (List Int)) (R : List Rl) (L : List Int) (U : List Int) (W : List (List Int)) {n : Nat} (hn : 9 ≤ n) : ∀ o ∈ hK' o1 o2 V C R L U W, Alone n o := fun o ho => by
  simp only [hK', hK, List.mem_cons, List.not_mem_nil, or_false] at ho
  rcases ho with rfl | rfl | rfl | rfl | rfl | rfl | rfl | rfl | rfl
  · exact alone_rowI _
  · exact alone_rowLL _
  · exact alone_sO fun x hx y hy => (rowR_flat x hx y hy).up
  · exact alone_rowI _
  · exact alone_rowI _
  · exact alone_rowLL _
  · exact alone_up h1 n
  · exact alone_up h2 n
  · intro y hy
    simp only [List.mem_cons, List.not_mem_nil, or_false] at hy
    rcases hy with rfl | rfl | rfl <;> exact below_sV (by omega)
/-! ### The costs of one variable -/
def desF (j : Nat) : Int := 15 - (j : Int)
def stL' (o1 o2 : AObj) (V : List Int) (C : List (List Int)) (R : List Rl) (x : Int) (L : List Int) (j : Int) : St := stL o1 o2 (sO (rowI V)) (sO (rowLL C)) (sO (rowR R)) (sV 1 0 (rowI V)) (sV 1 1 (rowLL C)) (sV 4 2 (rowR R)) x (sV 1 3 (rowI L)) (sO (rowI L)) j
theorem clean9l (V : List Int) (C : List (List Int)) (R : List Rl) (x : Int) (L : List Int) (j : Int) : CleanT 9 (stL' o1 o2 V C R x L j) :=
  cleanT_of rfl (alone_K h1 h2 V C R L [] [] (Nat.le_refl 9)) ⟨.bool _, .ref _ _ _ (by omega), .int _ _, below_sV (by omega), .int _ _, .int _ _, trivial⟩
theorem loop9l (V : List Int) (C : List (List Int)) (R : List Rl) (x : Int) : LoopA body9l 16 (fun j => stL' o1 o2 V C R x (preL desF j) j) (fun j => stL' o1 o2 V C R x (preL desF j) j) (stL' o1 o2 V C R x (preL desF 16) 16) .ret (.exit 6) fun _ => false := by
  refine .linT (m := 9) (fun _ => rfl) rfl nofun (fun j => clean9l h1 h2 V C R x _ j) (clean9l h1 h2 V C R x _ _) fun j hj => ?_
  have key := congrArg Tree.sel (run9l True o1 o2 (sO (rowI V)) (sO (rowLL C)) (sO (rowR R)) (sV 1 0 (rowI V)) (sV 1 1 (rowLL C)) (sV 4 2 (rowR R)) x (sV 1 3 (rowI (preL desF j))) (sV 1 3 (rowI (preL desF j ++ [desF j]))) (sO (rowI (preL desF j))) (sO (rowI (preL desF j ++ [desF j]))) j)
  have w1 : IntKind.i64.wrap (15 - (j : Int)) = desF j := wrapI (by omega)
  have w2 : IntKind.i64.wrap (j + 1 : Int) = ((j + 1 : Nat) : Int) := (wrapI (by omega)).trans (by omega)
  rw [w1, w2, ← preL_succ] at key
  refine ⟨_, _, _, clokHint (hApO_ok els22 fun _ => by rw [preL_succ]; exact grow_I (by rw [preL_len]; omega) _ 3), lpNo _, fun hlt => key.trans ?_, fun he => key.trans ?_⟩
  · exact (selIt (dT (by omega))).trans (t_need ⟨rfl, rfl, trivial⟩ rfl)
  · rw [selIf (dF (by omega)), he]
    rfl
omit h1 h2 in
theorem only_big {D : Nat → Bool} {n : Nat} (V : List Int) (C : List (List Int)) (R : List Rl) (hn : 9 ≤ n) (h0 : D 0 = false) (h1' : D 1 = false) (h2' : D 2 = false) : OnlyO (GoodD D n) (.cells 0 [sV 1 0 (rowI V), sV 1 1 (rowLL C), sV 4 2 (rowR R)]) := by
  intro y hy
  simp only [List.mem_cons, List.not_mem_nil, or_false] at hy
  rcases hy with rfl | rfl | rfl
  · exact onlySV ⟨h0, by omega⟩
  · exact onlySV ⟨h1', by omega⟩
  · exact onlySV ⟨h2', by omega⟩
theorem exec9l (V : List Int) (C : List (List Int)) (R : List Rl) (x : Int) : AExec Try.prog G0 (fun q => q = none) (.loop body9l) { tmps := (stL' o1 o2 V C R x [] 0).a } (hK' o1 o2 V C R [] [] []) (.exit 6)
    { tmps := (stL o1 o2 (sO (rowI V)) (sO (rowLL C)) (sO (rowR R)) (sV 1 0 (rowI V)) (sV 1 1 (rowLL C)) (sV 4 2 (rowR R)) x (flL (preL desF 16)) .resv 16).a } (hK' o1 o2 V C R [] [] []) := by
  have hl := loop9l h1 h2 V C R x
  generalize preL desF 16 = L at hl ⊢
  refine hl.drop (n := 9) (D := D3) (fun _ _ => rfl) rfl rfl (fun r q hr hD => ?_) ?_ ?_
  · obtain rfl := Nat.eq_of_beq_eq_true hD
    cases hr; rfl
  · exact ⟨.inr (.inl ⟨rfl, rfl, onlyO_sO rowI_flat⟩), .inr (.inl ⟨rfl, rfl, onlyO_sO rowLL_flat⟩), .inr (.inl ⟨rfl, rfl, onlyO_sO rowR_flat⟩), .inl ⟨rfl, rfl⟩, .inr (.inl ⟨rfl, rfl, trivial⟩), .inr (.inl ⟨rfl, rfl, trivial⟩), .inr (.inl ⟨rfl, rfl, alone_only h1 _⟩), .inr (.inl ⟨rfl, rfl, alone_only h2 _⟩), .inr (.inl ⟨rfl, rfl, only_big V C R (Nat.le_refl 9) rfl rfl rfl⟩), trivial⟩
  · exact ⟨rfl, Re.flat (.bool _), rfl, Re.good (.ref _ _ _ ⟨rfl, by omega⟩), rfl, re_int, rfl, re_ints rfl (dropP_none rfl), rfl, re_int, rfl, re_int, trivial⟩
/-! ### One variable of a rule -/
omit h1 h2 in
theorem zer_len (n : Nat) : (zer n).length = n := List.length_replicate
def unitL (k : Nat) : List Int := (zer 16).set k 1
omit h1 h2 in
theorem unit_len (k : Nat) : (unitL k).length = 16 := by unfold unitL; rw [List.length_set, zer_len]
def numF (u : Nat) : Int := u
def hU' (o1 o2 : AObj) (V : List Int) (C : List (List Int)) (R : List Rl) (k : Nat) (U : List Int) (W : List (List Int)) : Heap := hU o1 o2 (sO (rowI V)) (sO (rowLL C)) (sO (rowR R)) (sO (rowI U)) (sO (rowLL W)) (sV 1 0 (rowI V)) (sV 1 1 (rowLL C)) (sV 4 2 (rowR R)) k (sV 1 4 (rowI U)) (sV 1 5 (rowLL W))
def stU' (o1 o2 : AObj) (V : List Int) (C : List (List Int)) (R : List Rl) (x : Int) (k : Nat) (U : List Int) (W : List (List Int)) (u : Int) : St := stU o1 o2 (sO (rowI V)) (sO (rowLL C)) (sO (rowR R)) (sV 1 0 (rowI V)) (sV 1 1 (rowLL C)) (sV 4 2 (rowR R)) x k (sV 1 4 (rowI U)) (sV 1 5 (rowLL W)) (sO (rowI U)) (sO (rowLL W)) u
def noD : Nat → Bool := fun _ => false
omit h1 h2 in
theorem rowLL_flatten (W : List (List Int)) : (rowLL W).flatten = W.map flL := by
  induction W with
  | nil => rfl
  | cons x l ih =>
    show ([flL x] : List AV) ++ (rowLL l).flatten = flL x :: l.map flL
    rw [ih]
    rfl
theorem round9u (V : List Int) (C : List (List Int)) (R : List Rl) (x : Int) {k : Nat} (hk : k < 16) (U : List Int) {W : List (List Int)} (hU : U.length < 1000) (hW : W.length < 1000) {u : Nat} (hu : u < 24) :
    AExec Try.prog G0 (fun q => q = none) body9u { tmps := (stU' o1 o2 V C R x k U W u).a } (hU' o1 o2 V C R k U W) .normal { tmps := (stU' o1 o2 V C R x k (U ++ [(u : Int)]) (W ++ [unitL k]) (u + 1 : Nat)).a } (hU' o1 o2 V C R k (U ++ [(u : Int)]) (W ++ [unitL k])) := by
  have key := congrArg Tree.sel (run9u True o1 o2 (sO (rowI V)) (sO (rowLL C)) (sO (rowR R)) (sV 1 0 (rowI V)) (sV 1 1 (rowLL C)) (sV 4 2 (rowR R)) x k (sV 1 4 (rowI U)) (sV 1 4 (rowI (U ++ [(u : Int)]))) (sV 1 5 (rowLL W)) (sV 1 5 (rowLL W ++ [[wX]])) (sO (rowI U)) (sO (rowI (U ++ [(u : Int)]))) (sO (rowLL W)) (sO (rowLL W ++ [[wX]])) u)
  have w2 : IntKind.i64.wrap (u + 1 : Int) = ((u + 1 : Nat) : Int) := (wrapI (by omega)).trans (by omega)
  have hset : setL ((zer 16).map I) k [I 1] = (unitL k).map I := map_setL _ (by rw [zer_len]; omega) 1
  have hset' : setL [I 0, I 0, I 0, I 0, I 0, I 0, I 0, I 0, I 0, I 0, I 0, I 0, I 0, I 0, I 0, I 0] k [I 1] = (unitL k).map I := hset
  rw [w2, Int.toNat_natCast, hset'] at key
  have g2 : Grow 1 5 [wX] (sV 1 5 (rowLL W)) (sV 1 5 (rowLL W ++ [[wX]])) (sO (rowLL W)) (sO (rowLL W ++ [[wX]])) :=
    ⟨rowLL W, rfl, rfl, rfl, rfl, rowLL_len W, rfl, fun y hy => by rw [List.mem_singleton.1 hy]; rfl, by unfold rowLL; rw [List.length_map]; omega⟩
  have hcl : ClOk Try.prog G0 (EU True u (sV 1 4 (rowI U)) (sV 1 4 (rowI (U ++ [(u : Int)]))) (sV 1 5 (rowLL W)) (sV 1 5 (rowLL W ++ [[wX]])) (sO (rowI U)) (sO (rowI (U ++ [(u : Int)]))) (sO (rowLL W)) (sO (rowLL W ++ [[wX]]))) :=
    clokHint ((hMkZ_ok _ _).ok.or ((hArrG_ok 10 Try.underlying22 one3 Try.underlying3 one3).ok.or ((hApO_ok els22 fun _ => grow_I (by omega) _ 4).or ((hApO_ok els23 fun _ => g2).or ((hSto_ok 9 (one_of (by kernel_rfl))).ok.or (hSto_ok 9 (one_of (by kernel_rfl))).ok)))))
  have hx : AExec Try.prog G0 (fun q => q = none) body9u { tmps := (stU' o1 o2 V C R x k U W u).a } (hU' o1 o2 V C R k U W) .normal { tmps := (stU' o1 o2 V C R x k (U ++ [(u : Int)]) (W ++ [unitL k]) (u + 1 : Nat)).a }
      [sO (rowI V), sO (rowLL C), sO (rowR R), .resv, sO (rowI (U ++ [(u : Int)])), sO (rowLL W ++ [[wX]]), o1, o2, .cells 0 [sV 1 0 (rowI V), sV 1 1 (rowLL C), sV 4 2 (rowR R)], .cells 0 [I k, sV 1 4 (rowI (U ++ [(u : Int)])), sV 1 5 (rowLL W ++ [[wX]]), I 2], .cells 0 ((unitL k).map I)] := by
    have hsel := key.trans ((selIt (dT (by omega))).trans (t_need ⟨rfl, rfl, rfl, by omega⟩ (t_need ⟨by omega, by omega, rfl⟩ (t_need ⟨rfl, hk⟩ (t_need ⟨rfl, rfl, trivial⟩ (t_need ⟨one_sV, by omega⟩ (t_need ⟨rfl, rfl, trivial⟩ (t_need ⟨one_sV, by omega⟩ rfl))))))))
    exact (xBody_ok (m := []) names mixed hcl (lpNo _) hsel).1
  have hkeep : sV 1 5 (rowLL W ++ [[wX]]) = sV 1 5 (rowLL (W ++ [unitL k])) := sV_len (by unfold rowLL; simp)
  have e1 : sO (rowLL W ++ [[wX]]) = .cells W.length (W.map flL ++ [wX]) := by
    cases W with
    | nil => rfl
    | cons y l =>
      show AObj.cells ((rowLL l) ++ [[wX]]).length (([flL y] :: ((rowLL l) ++ [[wX]])).flatten) = _
      rw [List.flatten_cons, List.flatten_append, rowLL_flatten, List.length_append]
      unfold rowLL
      simp
  have e2 : sO (rowLL (W ++ [unitL k])) = .cells W.length ((W ++ [unitL k]).map flL) := by
    cases W with
    | nil => rfl
    | cons y l =>
      show AObj.cells (rowLL (l ++ [unitL k])).length ((rowLL ((y :: l) ++ [unitL k])).flatten) = _
      rw [rowLL_flatten]
      unfold rowLL
      simp
  rw [hkeep, e1] at hx
  refine hx.re (τ := hU' o1 o2 V C R k (U ++ [(u : Int)]) (W ++ [unitL k])) (.drop (D := noD) (n := 10) rfl rfl (fun _ _ _ h => by cases h) ?_) nofun rfl fun j y hj => ⟨y, hj, Re.good ?_⟩
  · refine ⟨.inr (.inl ⟨rfl, rfl, onlyO_sO rowI_flat⟩), .inr (.inl ⟨rfl, rfl, onlyO_sO rowLL_flat⟩), .inr (.inl ⟨rfl, rfl, onlyO_sO rowR_flat⟩), .inr (.inl ⟨rfl, rfl, trivial⟩), .inr (.inl ⟨rfl, rfl, onlyO_sO rowI_flat⟩), .inr (.inr ⟨rfl, _, _, _, e2, rfl, ?_⟩), .inr (.inl ⟨rfl, rfl, alone_only h1 _⟩), .inr (.inl ⟨rfl, rfl, alone_only h2 _⟩), .inr (.inl ⟨rfl, rfl, only_big V C R (by omega) rfl rfl rfl⟩), .inr (.inl ⟨rfl, rfl, ?_⟩), trivial⟩
    · rw [List.map_append]
      refine ReC.app (ReC.flat fun y hy => ?_) ⟨?_, trivial⟩
      · obtain ⟨z, _, rfl⟩ := List.mem_map.1 hy
        exact below_flL _
      · have := re_msL (π := dropP noD 10) (σ := [sO (rowI V), sO (rowLL C), sO (rowR R), .resv, sO (rowI (U ++ [(u : Int)])), .cells W.length (W.map flL ++ [wX]), o1, o2, .cells 0 [sV 1 0 (rowI V), sV 1 1 (rowLL C), sV 4 2 (rowR R)], .cells 0 [I k, sV 1 4 (rowI (U ++ [(u : Int)])), sV 1 5 (rowLL (W ++ [unitL k])), I 2], .cells 0 ((unitL k).map I)]) (r := 10) (g := 0) (cap := 16) (L := unitL k) rfl fun q hq => by have := dropP_some hq; omega
        rw [unit_len] at this
        exact this
    · intro y hy
      simp only [List.mem_cons, List.not_mem_nil, or_false] at hy
      rcases hy with rfl | rfl | rfl | rfl
      · exact .int _ _
      · exact onlySV ⟨rfl, by omega⟩
      · exact onlySV ⟨rfl, by omega⟩
      · exact .int _ _
  · revert y hj
    intro y hj
    have := List.mem_of_getElem? hj
    refine of_all (Q := fun v => Only (GoodD noD 10) v) (fun q hq => ?_) .junk y this
    simp only [List.mem_cons, List.not_mem_nil, or_false] at hq
    rcases hq with rfl | rfl | rfl | rfl | rfl | rfl | rfl
    · exact .bool _
    · exact .ref _ _ _ ⟨rfl, by omega⟩
    · exact .int _ _
    · exact .int _ _
    · exact .ref _ _ _ ⟨rfl, by omega⟩
    · exact .int _ _
    · exact .int _ _
/-- The loop over the variables of a rule. -/
def unitF (k : Nat) (_ : Nat) : List Int := unitL k
theorem loop9u (V : List Int) (C : List (List Int)) (R : List Rl) (x : Int) {k : Nat} (hk : k < 16) :
    LoopA body9u 24 (fun u => stU' o1 o2 V C R x k (preL numF u) (preL (unitF k) u) u) (fun u => stU' o1 o2 V C R x k (preL numF u) (preL (unitF k) u) u) (stU' o1 o2 V C R x k (preL numF 24) (preL (unitF k) 24) 24) .ret (.exit 10) fun _ => false where
  n0 _ := rfl
  nR _ := rfl
  nX := rfl
  neR := nofun
  neX := nofun
  go u hu _ _ := by
    have := round9u h1 h2 V C R x hk (preL numF u) (W := preL (unitF k) u) (by rw [preL_len]; omega) (by rw [preL_len]; omega) hu
    have e1 : preL numF u ++ [(u : Int)] = preL numF (u + 1) := (preL_succ _ _).symm
    have e2 : preL (unitF k) u ++ [unitL k] = preL (unitF k) (u + 1) := (preL_succ _ _).symm
    rw [e1, e2] at this
    exact this
  st u _ _ hs := by cases hs
  en _ := by
    have key := congrArg Tree.sel (run9u False o1 o2 (sO (rowI V)) (sO (rowLL C)) (sO (rowR R)) (sV 1 0 (rowI V)) (sV 1 1 (rowLL C)) (sV 4 2 (rowR R)) x k (sV 1 4 (rowI (preL numF 24))) .zs (sV 1 5 (rowLL (preL (unitF k) 24))) .zs (sO (rowI (preL numF 24))) .resv (sO (rowLL (preL (unitF k) 24))) .resv 24)
    generalize preL numF 24 = U at key ⊢
    generalize preL (unitF k) 24 = W at key ⊢
    have hcl : ClOk Try.prog G0 (EU False 24 (sV 1 4 (rowI U)) .zs (sV 1 5 (rowLL W)) .zs (sO (rowI U)) .resv (sO (rowLL W)) .resv) :=
      clokHint ((hMkZ_ok _ _).ok.or ((hArrG_ok 10 Try.underlying22 one3 Try.underlying3 one3).ok.or ((hApO_ok els22 fun h => h.elim).or ((hApO_ok els23 fun h => h.elim).or ((hSto_ok 9 (one_of (by kernel_rfl))).ok.or (hSto_ok 9 (one_of (by kernel_rfl))).ok)))))
    have hsel := key.trans ((selIf (dF (by omega))).trans rfl)
    exact (xBody_ok (m := []) names mixed hcl (lpNo _) hsel).1
theorem exec9u (V : List Int) (C : List (List Int)) (R : List Rl) (x : Int) {k : Nat} (hk : k < 16) : AExec Try.prog G0 (fun q => q = none) (.loop body9u) { tmps := (stU' o1 o2 V C R x k [] [] 0).a } (hU' o1 o2 V C R k [] []) (.exit 10)
    { tmps := (stU o1 o2 (sO (rowI V)) (sO (rowLL C)) (sO (rowR R)) (sV 1 0 (rowI V)) (sV 1 1 (rowLL C)) (sV 4 2 (rowR R)) x k (flL (preL numF 24)) (flLL (preL (unitF k) 24)) .resv .resv 24).a } (hU o1 o2 (sO (rowI V)) (sO (rowLL C)) (sO (rowR R)) .resv .resv (sV 1 0 (rowI V)) (sV 1 1 (rowLL C)) (sV 4 2 (rowR R)) k (flL (preL numF 24)) (flLL (preL (unitF k) 24))) := by
  have hl := loop9u h1 h2 V C R x hk
  generalize preL numF 24 = U at hl ⊢
  generalize preL (unitF k) 24 = W at hl ⊢
  refine hl.drop (n := 10) (D := D45) (fun _ _ => rfl) rfl rfl (fun r q hr hD => ?_) ?_ ?_
  · have hr' : r < 10 := (List.getElem?_eq_some_iff.1 hr).1
    match r, hr, hD, hr' with
    | 4, hr, _, _ => cases hr; rfl
    | 5, hr, _, _ => cases hr; rfl
    | 0, _, hD, _ => cases hD
    | 1, _, hD, _ => cases hD
    | 2, _, hD, _ => cases hD
    | 3, _, hD, _ => cases hD
    | 6, _, hD, _ => cases hD
    | 7, _, hD, _ => cases hD
    | 8, _, hD, _ => cases hD
    | 9, _, hD, _ => cases hD
    | r + 10, _, _, h => omega
  · refine ⟨.inr (.inl ⟨rfl, rfl, onlyO_sO rowI_flat⟩), .inr (.inl ⟨rfl, rfl, onlyO_sO rowLL_flat⟩), .inr (.inl ⟨rfl, rfl, onlyO_sO rowR_flat⟩), .inr (.inl ⟨rfl, rfl, trivial⟩), .inl ⟨rfl, rfl⟩, .inl ⟨rfl, rfl⟩, .inr (.inl ⟨rfl, rfl, alone_only h1 _⟩), .inr (.inl ⟨rfl, rfl, alone_only h2 _⟩), .inr (.inl ⟨rfl, rfl, only_big V C R (by omega) rfl rfl rfl⟩), .inr (.inr ⟨rfl, _, _, _, rfl, rfl, ?_⟩), trivial⟩
    exact ⟨re_int, re_ints rfl (dropP_none rfl), re_lists rfl (dropP_none rfl), re_int, trivial⟩
  · have rf : ∀ (r : Nat) (σ : Heap), D45 r = false ∧ r < 10 → Re G0 (dropP D45 10) σ (.ref r 0 0) (.ref r 0 0) := fun r σ h => Re.good (.ref _ _ _ h)
    exact ⟨rfl, Re.flat (.bool _), rfl, rf 8 _ ⟨rfl, by omega⟩, rfl, re_int, rfl, re_int, rfl, rf 9 _ ⟨rfl, by omega⟩, rfl, re_int, rfl, re_int, trivial⟩
end
end Go.Proofs.Ytngaihdpmoajeaa.Am

namespace Go.Proofs.Ytngaihdpmoajeaa.Am
open Go
set_option maxRecDepth 100000

/-- A rule of the great problem. -/
def bigR (k : Nat) : Rl := ⟨k, preL numF 24, preL (unitF k) 24, 2⟩
section
variable {o1 o2 : AObj} (h1 : Alone 0 o1) (h2 : Alone 0 o2)
def stK' (o1 o2 : AObj) (V : List Int) (C : List (List Int)) (R : List Rl) (x k : Int) : St := stK o1 o2 (sO (rowI V)) (sO (rowLL C)) (sO (rowR R)) (sV 1 0 (rowI V)) (sV 1 1 (rowLL C)) (sV 4 2 (rowR R)) x k
include h1 h2
theorem clean9k (V : List Int) (C : List (List Int)) (R : List Rl) (x k : Int) : CleanT 9 (stK' o1 o2 V C R x k) :=
  cleanT_of rfl (alone_K h1 h2 V C R [] [] [] (Nat.le_refl 9)) ⟨.bool _, .ref _ _ _ (by omega), .int _ _, .int _ _, .int _ _, trivial⟩
omit h1 h2 in
theorem loops9k : loopsOf body9k = [body9u] := by kernel_rfl
theorem round9k (V : List Int) (C : List (List Int)) {R : List Rl} (hR : R.length < 1000) {k : Nat} (hk : k < 16) : AExec Try.prog G0 (fun q => q = none) body9k { tmps := (stK' o1 o2 V C R 0 k).a } (stK' o1 o2 V C R 0 k).h .normal { tmps := (stK' o1 o2 V C (R ++ [bigR k]) 0 (k + 1 : Nat)).a } (stK' o1 o2 V C (R ++ [bigR k]) 0 (k + 1 : Nat)).h := by
  have hi := lpB_exec (i := 59) (keep := keepU) (S := stU o1 o2 (sO (rowI V)) (sO (rowLL C)) (sO (rowR R)) (sV 1 0 (rowI V)) (sV 1 1 (rowLL C)) (sV 4 2 (rowR R)) 0 k .zs .zs .resv .resv 0) (X := stU o1 o2 (sO (rowI V)) (sO (rowLL C)) (sO (rowR R)) (sV 1 0 (rowI V)) (sV 1 1 (rowLL C)) (sV 4 2 (rowR R)) 0 k (flL (preL numF 24)) (flLL (preL (unitF k) 24)) .resv .resv 24)
    (exec9u h1 h2 V C R 0 hk) rfl (c := body9k) (one_loop loops9k)
  have key := congrArg Tree.sel (run9k True o1 o2 (sO (rowI V)) (sO (rowLL C)) (sO (rowR R)) (sO (rowR (R ++ [bigR k]))) (sV 1 0 (rowI V)) (sV 1 1 (rowLL C)) (sV 4 2 (rowR R)) (sV 4 2 (rowR (R ++ [bigR k]))) 0 k (preL numF 24) (preL (unitF k) 24))
  have w2 : IntKind.i64.wrap (k + 1 : Int) = ((k + 1 : Nat) : Int) := (wrapI (by omega)).trans (by omega)
  have g1 : Grow 4 2 [I (k : Int), flL (preL numF 24), flLL (preL (unitF k) 24), I 2] (sV 4 2 (rowR R)) (sV 4 2 (rowR (R ++ [bigR k]))) (sO (rowR R)) (sO (rowR (R ++ [bigR k]))) := grow_R (by omega) (bigR k) 2
  rw [w2] at key
  generalize bigR k = b at key g1 ⊢
  generalize preL numF 24 = U at key g1 hi
  generalize preL (unitF k) 24 = W at key g1 hi
  refine xBodyT_ok (m := 9) (st := stK' o1 o2 V C R 0 k) (clokHint ((hApO_ok els24 fun _ => g1).or ((hSto_ok 8 (one_of (by kernel_rfl))).ok.or (hStA_ok 56 9).ok))) hi rfl (clean9k h1 h2 V C _ _ _) (key.trans ?_)
  exact (selIt (dT (by omega))).trans ((selIt rfl).trans (t_need ⟨rfl, rfl, Nat.le_refl _⟩ (t_need rfl (t_need ⟨rfl, rfl, trivial⟩ (t_need ⟨one_sV, by omega⟩ rfl)))))
theorem end9k (V : List Int) (C : List (List Int)) (R : List Rl) {x k : Int} (h : 16 ≤ k ∨ x ≠ 0) : AExec Try.prog G0 (fun q => q = none) body9k { tmps := (stK' o1 o2 V C R x k).a } (stK' o1 o2 V C R x k).h (.exit 8) { tmps := (stK' o1 o2 V C R x k).a } (stK' o1 o2 V C R x k).h := by
  have key := congrArg Tree.sel (run9ke o1 o2 (sO (rowI V)) (sO (rowLL C)) (sO (rowR R)) (sV 1 0 (rowI V)) (sV 1 1 (rowLL C)) (sV 4 2 (rowR R)) x k)
  refine xBodyT_ok (m := 9) (E := { boxRow := false, hint := orH (hSto 24 8) (hStA 56 9) }) (st := stK' o1 o2 V C R x k) (clokHint ((hSto_ok 8 (one_of (by kernel_rfl))).ok.or (hStA_ok 56 9).ok)) (lpF_ok 59 keepU _ _) rfl (clean9k h1 h2 V C R x k) (key.trans ?_)
  refine t_ite (fun hk => ?_) fun _ => rfl
  have hk' := of_decide_eq_true hk
  exact (selIf (by rw [beq_eq_false_iff_ne]; omega)).trans rfl
theorem loop9k (V : List Int) (C : List (List Int)) : LoopA body9k 16 (fun k => stK' o1 o2 V C (preL bigR k) 0 k) (fun k => stK' o1 o2 V C (preL bigR k) 0 k) (stK' o1 o2 V C (preL bigR 16) 0 16) .ret (.exit 8) fun _ => false where
  n0 _ := rfl
  nR _ := rfl
  nX := rfl
  neR := nofun
  neX := nofun
  go k hk _ _ := by
    have := round9k h1 h2 V C (R := preL bigR k) (by rw [preL_len]; omega) hk
    have e1 : preL bigR k ++ [bigR k] = preL bigR (k + 1) := (preL_succ _ _).symm
    rw [e1] at this
    exact this
  st k _ _ hs := by cases hs
  en _ := end9k h1 h2 V C (preL bigR 16) (.inl (Int.le_refl 16))
theorem exec9k (V : List Int) (C : List (List Int)) (x : Nat) : ∃ k, AExec Try.prog G0 (fun q => q = none) (.loop body9k) { tmps := (stK' o1 o2 V C (if x = 0 then [] else preL bigR 16) x 0).a } (stK' o1 o2 V C (if x = 0 then [] else preL bigR 16) x 0).h (.exit 8) { tmps := (stK' o1 o2 V C (preL bigR 16) x k).a } (stK' o1 o2 V C (preL bigR 16) x k).h := by
  by_cases hx : x = 0
  · subst hx
    exact ⟨16, (loop9k h1 h2 V C).exec fun _ _ => rfl⟩
  · rw [if_neg hx]
    exact ⟨0, .loop (.stop (end9k h1 h2 V C (preL bigR 16) (.inr (by omega))) nofun)⟩
/-! ### All variables -/
def sixF (_ : Nat) : Int := 16
def desL (_ : Nat) : List Int := preL desF 16
def rulesB (x : Nat) : List Rl := if x = 0 then [] else preL bigR 16
def stV' (o1 o2 : AObj) (x : Nat) : St := stV o1 o2 (sO (rowI (preL sixF x))) (sO (rowLL (preL desL x))) (sO (rowR (rulesB x))) (sV 1 0 (rowI (preL sixF x))) (sV 1 1 (rowLL (preL desL x))) (sV 4 2 (rowR (rulesB x))) x
theorem clean9v (x : Nat) : CleanT 9 (stV' o1 o2 x) :=
  cleanT_of rfl (alone_K h1 h2 (preL sixF x) (preL desL x) (rulesB x) [] [] [] (Nat.le_refl 9)) ⟨.bool _, .ref _ _ _ (by omega), .int _ _, trivial⟩
omit h1 h2 in
theorem ids9v : (loopsOf body9v).map idOf = [49, 55, 59] := by kernel_rfl
theorem both9v {x : Nat} (hx : x ≤ 24) : (x < 24 → AExec Try.prog G0 (fun q => q = none) body9v { tmps := (stV' o1 o2 x).a } (stV' o1 o2 x).h .normal { tmps := (stV' o1 o2 (x + 1)).a } (stV' o1 o2 (x + 1)).h) ∧ (x = 24 → AExec Try.prog G0 (fun q => q = none) body9v { tmps := (stV' o1 o2 x).a } (stV' o1 o2 x).h (.exit 4) { tmps := (stV' o1 o2 x).a } (stV' o1 o2 x).h) := by
  have eV : preL sixF (x + 1) = preL sixF x ++ [16] := preL_succ _ _
  have eC : preL desL (x + 1) = preL desL x ++ [preL desF 16] := preL_succ _ _
  have eR : rulesB (x + 1) = preL bigR 16 := rfl
  obtain ⟨k, hk⟩ := exec9k h1 h2 (preL sixF (x + 1)) (preL desL (x + 1)) x
  have hlx := exec9l h1 h2 (preL sixF (x + 1)) (preL desL x) (rulesB x) x
  have hl1 := lpB_exec (i := 49) (keep := keepL) (S := stL' o1 o2 (preL sixF (x + 1)) (preL desL x) (rulesB x) x [] 0) (X := stL o1 o2 (sO (rowI (preL sixF (x + 1)))) (sO (rowLL (preL desL x))) (sO (rowR (rulesB x))) (sV 1 0 (rowI (preL sixF (x + 1)))) (sV 1 1 (rowLL (preL desL x))) (sV 4 2 (rowR (rulesB x))) x (flL (preL desF 16)) .resv 16)
    hlx rfl (c := body9v) (nth_loop (k := 0) (i := 49) (ids := [49, 55, 59]) ids9v (by decide) (by kernel_rfl) rfl)
  have hl2 := lpB_exec (i := 55) (keep := keepK) (S := stK' o1 o2 (preL sixF (x + 1)) (preL desL (x + 1)) (rulesB x) x 0) (X := stK' o1 o2 (preL sixF (x + 1)) (preL desL (x + 1)) (preL bigR 16) x k) hk rfl (c := body9v) (nth_loop (k := 1) (i := 55) (ids := [49, 55, 59]) ids9v (by decide) (by kernel_rfl) rfl)
  have g1 : Grow 1 0 [I 16] (sV 1 0 (rowI (preL sixF x))) (sV 1 0 (rowI (preL sixF (x + 1)))) (sO (rowI (preL sixF x))) (sO (rowI (preL sixF (x + 1)))) := by
    rw [eV]; exact grow_I (by rw [preL_len]; omega) _ 0
  have g2 : Grow 1 1 [flL (preL desF 16)] (sV 1 1 (rowLL (preL desL x))) (sV 1 1 (rowLL (preL desL (x + 1)))) (sO (rowLL (preL desL x))) (sO (rowLL (preL desL (x + 1)))) := by
    rw [eC]; exact grow_LL (by rw [preL_len]; omega) _ 1
  have key := congrArg Tree.sel (run9v True o1 o2 (sO (rowI (preL sixF x))) (sO (rowI (preL sixF (x + 1)))) (sO (rowLL (preL desL x))) (sO (rowLL (preL desL (x + 1)))) (sO (rowR (rulesB x))) (sO (rowR (rulesB (x + 1)))) (sV 1 0 (rowI (preL sixF x))) (sV 1 0 (rowI (preL sixF (x + 1)))) (sV 1 1 (rowLL (preL desL x))) (sV 1 1 (rowLL (preL desL (x + 1)))) (sV 4 2 (rowR (rulesB x))) (sV 4 2 (rowR (rulesB (x + 1)))) x k (preL desF 16))
  have w2 : IntKind.i64.wrap (x + 1 : Int) = ((x + 1 : Nat) : Int) := (wrapI (by omega)).trans (by omega)
  rw [w2] at key
  have hcl := clokHint ((hApO_ok (r := 0) els22 fun (_ : True) => g1).or ((hApO_ok (r := 1) els23 fun (_ : True) => g2).or ((hSto_ok 8 (t := 22) (one_of (by kernel_rfl))).ok.or (hSto_ok 8 (t := 23) (one_of (by kernel_rfl))).ok)))
  refine ⟨fun hlt => xBodyT_ok (m := 9) (st := stV' o1 o2 x) hcl (lpAnd_ok hl1 hl2) rfl (clean9v h1 h2 (x + 1)) (key.trans ?_), fun he => xBodyT_ok (m := 9) (st := stV' o1 o2 x) hcl (lpAnd_ok hl1 hl2) rfl (clean9v h1 h2 x) (key.trans ?_)⟩
  · exact (selIt (dT (by omega))).trans (t_need ⟨rfl, rfl, trivial⟩ (t_need ⟨one_sV, by omega⟩ (t_need rfl (t_need ⟨rfl, rfl, trivial⟩ (t_need ⟨one_sV, by omega⟩ (t_need rfl rfl))))))
  · exact (selIf (dF (by omega))).trans rfl
theorem loop9v : LoopA body9v 24 (stV' o1 o2) (stV' o1 o2) (stV' o1 o2 24) .ret (.exit 4) fun _ => false where
  n0 _ := rfl
  nR _ := rfl
  nX := rfl
  neR := nofun
  neX := nofun
  go x hx _ _ := (both9v h1 h2 (Nat.le_of_lt hx)).1 hx
  st x _ _ hs := by cases hs
  en _ := (both9v h1 h2 (Nat.le_refl 24)).2 rfl
/-- THE GREAT PROBLEM. -/
def bigP : Pb := ⟨preL sixF 24, preL desL 24, preL bigR 16⟩
def hB9 (o1 o2 : AObj) : Heap := [.resv, .resv, .resv, .resv, .resv, .resv, o1, o2, .cells 0 (pbC bigP)]
def D012 : Nat → Bool := fun q => Nat.blt q 3
theorem exec9v : AExec Try.prog G0 (fun q => q = none) (.loop body9v) { tmps := (stV o1 o2 .resv .resv .resv .zs .zs .zs 0).a } (hK o1 o2 .resv .resv .resv .resv .resv .resv .zs .zs .zs) (.exit 4)
    { tmps := (St.of 505 (hB9 o1 o2) [(0, .bool false, false), (38, .ref 8 0 0, false), (394, I 24, false)]).a } (hB9 o1 o2) := by
  have hl := loop9v h1 h2
  have hX : stV' o1 o2 24 = stV o1 o2 (sO (rowI bigP.V)) (sO (rowLL bigP.C)) (sO (rowR bigP.R)) (sV 1 0 (rowI bigP.V)) (sV 1 1 (rowLL bigP.C)) (sV 4 2 (rowR bigP.R)) 24 := rfl
  have hB : hB9 o1 o2 = [.resv, .resv, .resv, .resv, .resv, .resv, o1, o2, .cells 0 [flL bigP.V, flLL bigP.C, flR bigP.R]] := rfl
  rw [hX] at hl
  rw [hB]
  generalize bigP = b at hl ⊢
  refine hl.drop (n := 9) (D := D012) (fun _ _ => rfl) rfl rfl (fun r q hr hD => ?_) ?_ ?_
  · have hr' : r < 3 := by rw [← Nat.blt_eq]; exact hD
    match r, hr, hr' with
    | 0, hr, _ => cases hr; rfl
    | 1, hr, _ => cases hr; rfl
    | 2, hr, _ => cases hr; rfl
    | r + 3, _, h => omega
  · refine ⟨.inl ⟨rfl, rfl⟩, .inl ⟨rfl, rfl⟩, .inl ⟨rfl, rfl⟩, .inr (.inl ⟨rfl, rfl, trivial⟩), .inr (.inl ⟨rfl, rfl, trivial⟩), .inr (.inl ⟨rfl, rfl, trivial⟩), .inr (.inl ⟨rfl, rfl, alone_only h1 _⟩), .inr (.inl ⟨rfl, rfl, alone_only h2 _⟩), .inr (.inr ⟨rfl, _, _, _, rfl, rfl, ?_⟩), trivial⟩
    exact ⟨re_ints rfl (dropP_none rfl), re_lists rfl (dropP_none rfl), re_rules rfl (dropP_none rfl), trivial⟩
  · exact ⟨rfl, Re.flat (.bool _), rfl, Re.good (.ref _ _ _ ⟨rfl, by omega⟩), rfl, re_int, trivial⟩
end
end Go.Proofs.Ytngaihdpmoajeaa.Am

namespace Go.Proofs.Ytngaihdpmoajeaa.Am
open Go
set_option maxRecDepth 100000

/-! ### The great problem -/
def fstB : List Int := [0, 0, 1, 1, 2, 2, 3, 3, 4, 4, 5, 5, 6, 6, 7, 7, 8, 8, 9, 9, 10, 10, 11, 11]
theorem big_valid : validP bigP = true := by kernel_rfl
theorem big_first : (refF bigP == some fstB) = true := by kernel_rfl
theorem big_beg : begB bigP (fstB.take 23) = true := by kernel_rfl
theorem big_least : ((refW bigP (fstB.take 23)).map (costA bigP) == some 224) = true := by kernel_rfl
theorem big_ok : Ok bigP := valid_iff.1 big_valid
theorem big22 (σ : Heap) : ACall Try.prog G0 22 [pAV bigP] σ (.tup [flL fstB, I 0]) σ := by
  have h := c22 (ok_sh big_ok) σ
  rw [big_valid, cond_true, first_ref big_ok, eq_of_beq big_first] at h
  exact h
theorem big13 (σ : Heap) : ACall Try.prog G0 13 [pAV bigP, flL (fstB.take 23)] σ (.tup [I 224, I 0]) σ := by
  have hb := beg_iff.1 big_beg
  have h := c13 (ok_sh big_ok) (beg_sh big_ok hb) σ
  obtain ⟨x, hx, hc⟩ := Option.map_eq_some_iff.1 (eq_of_beq big_least)
  unfold leastR at h
  rw [big_valid, big_beg, cond_true, cond_true, best_ref big_ok hb, hx] at h
  have e : resL bigP (some x) = .tup [I (costA bigP x), I 0] := rfl
  rw [e, hc] at h
  exact h
/-! ### New slices that nobody writes to, as data -/
theorem re_idP (M : Map) (n : Nat) : M.re (idP n) = M.cut n := by
  unfold Map.re Map.cut
  congr 1
  funext r
  unfold idP
  by_cases h : r < n
  · rw [if_pos h, if_pos h]; rfl
  · rw [if_neg h, if_neg h]; rfl
theorem replS_get {z : List AV} : ∀ (n i j : Nat), i < n → j < z.length → (repl n z)[i * z.length + j]? = z[j]?
  | 0, i, j, h, _ => by omega
  | n + 1, 0, j, _, hj => by
    unfold repl
    rw [Nat.zero_mul, Nat.zero_add, List.getElem?_append_left hj]
  | n + 1, i + 1, j, h, hj => by
    unfold repl
    have e : (i + 1) * z.length + j = z.length + (i * z.length + j) := by rw [Nat.succ_mul]; omega
    rw [e, List.getElem?_append_right (by omega), Nat.add_sub_cancel_left]
    exact replS_get n i j (by omega) hj
def hMkD (t s : Nat) (z : List AV) : Heap → Oper → (Operand → Option AV) → Option (AV × Bool × Heap × Prop) := fun h o ρ => match o.op with
  | .makeSlice t' l c => bif Nat.beq t' t then (match ρ l with
    | some (.int .i64 n) => some (.fl s n.toNat (fun _ => z), false, h, ρ c = some (I n) ∧ 0 ≤ n ∧ n ≤ 16777216)
    | _ => none) else none
  | _ => none
theorem hMkD_ok {t e : TypeId} {s : Nat} (he : ElemS t e s) {z : List AV} (hz : (aZero Try.prog e).map AV.cells = some z) (hb : ∀ x ∈ z, Below 0 x) : HintOk Try.prog G0 (hMkD t s z) := by
  refine ⟨fun h o a m y tg h' p hh hp => ?_, fun h o ρ y tg h' p hh hp hq => ?_⟩
  · unfold hMkD at hh
    split at hh <;> first | (cases hh; done) | skip
    rename_i t' l c ho
    cases ht : Nat.beq t' t with
    | false => rw [ht] at hh; cases hh
    | true =>
    rw [ht, cond_true] at hh
    obtain rfl := Nat.eq_of_beq_eq_true ht
    split at hh <;> first | (cases hh; done) | skip
    rename_i n hl
    cases hh
    obtain ⟨p1, p2, p3⟩ := hp
    obtain ⟨ie, zx, e1, e2, e3, e4, e5, e6⟩ := he.i
    have hzc : zx.cells = z := by
      rw [e2] at hz
      exact Option.some.inj hz
    have hop : aopR Try.prog (ev G0 a) h o = some (.ms s h.length 0 0 n.toNat n.toNat, h ++ [.cells 0 (repl n.toNat z)]) := by
      unfold aopR
      simp only [ho, hl, p1, aMake, he.u, e1, e2, e3]
      rw [← hzc, if_pos ⟨p2, Int.le_refl _, p3, e4, e5, e6⟩]
    have hstep : AStep Try.prog G0 { tmps := a, marks := m } h o (.ms s h.length 0 0 n.toNat n.toNat) (h ++ [.cells 0 (repl n.toNat z)]) := AStep.op (by rw [aopR_eq]; exact hop)
    have hzl : z.length = s := by rw [← hzc]; exact e5
    intro r0 w M ac K Q hi ha hK
    refine hstep r0 w M ac K Q hi ha fun v w' M' hv hext hi' => ?_
    obtain ⟨h1, h2⟩ := hi.forget hext hi'
    have h3 := Re.data (π := idP h.length) (σ := h ++ [.cells 0 (repl n.toNat z)]) (size := s) (r := h.length) (g := 0) (len := n.toNat) (cap := n.toNat) (cells := repl n.toNat z) (rows := fun _ => z) (by simp) (fun q hq => by have := idP_some hq; omega) (by rw [repl_length, hzl]; exact Nat.le_refl _) (fun _ _ => hzl) (fun i j y hil hj => ⟨y, by
        have hjl := (List.getElem?_eq_some_iff.1 hj).1
        have := replS_get (z := z) n.toNat i j hil hjl
        rw [hzl] at this
        rw [this]
        exact hj, Re.flat (hb y (List.mem_of_getElem? hj))⟩) w' M' v hi' hv
    rw [re_idP] at h3
    exact hK v w' _ h3 h1 h2
  · unfold hMkD at hh
    split at hh <;> first | (cases hh; done) | skip
    rename_i t' l c ho
    exfalso
    revert hq
    unfold Am.quiet
    rw [ho]
    simp
/-! ### The problem of one variable and one rule -/
/-- Calls by the temporary that holds the function. -/
def hCalC (g : FuncId) (T : List (Nat × List AV × AV)) : Heap → Oper → (Operand → Option AV) → Option (AV × Bool × Heap × Prop) := fun h o ρ => match o.op with
  | .call c => match c.callee with
    | .value (.tmp j) => match T.find? (fun e => Nat.beq e.1 j) with
      | some (_, xs, v) => some (v, false, h, ρ (.tmp j) = some (.fn g [] []) ∧ evAllR ρ c.args.toList = some xs)
      | none => none
    | _ => none
  | _ => none
theorem hCalC_ok {g : FuncId} {T : List (Nat × List AV × AV)} (hT : ∀ e ∈ T, ∀ σ, ACall Try.prog G0 g e.2.1 σ e.2.2 σ) : HintOk Try.prog G0 (hCalC g T) := by
  refine ⟨fun h o a m y tg h' p hh hp => ?_, fun h o ρ y tg h' p hh hp hq => ?_⟩
  · unfold hCalC at hh
    split at hh <;> first | (cases hh; done) | skip
    rename_i c ho
    split at hh <;> first | (cases hh; done) | skip
    rename_i j hcal
    split at hh <;> first | (cases hh; done) | skip
    rename_i j' xs v hf
    cases hh
    obtain ⟨p1, p2⟩ := hp
    refine AStep.call (first := []) (caps := []) ho hcal p1 (by rw [evAllR_eq]; exact p2) ?_
    have := hT _ (List.mem_of_find?_eq_some hf) h
    simpa using this
  · unfold hCalC at hh
    split at hh <;> first | (cases hh; done) | skip
    split at hh <;> first | (cases hh; done) | skip
    split at hh <;> first | (cases hh; done) | skip
    cases hh
    rfl
def one39 (n : Int) (rc : List (List AV)) (d : Int) (v w : AV) (m : Int) : AV := .agg [.sl 1 [[I n]], .sl 1 [[.sl 1 rc]], .sl 4 [[I d, v, w, I m]]]
theorem run39a (n d m : Int) (rc : List (List AV)) : (xCall Try.prog G0 {} 200 39 [I n, .sl 1 rc, .agg [I d, .zs, .zs, I m]] [false, false, false] []).sel.map (fun r => r.1) = some (one39 n rc d .zs .zs m) := by kernel_rfl
theorem run39b (n d m : Int) (rc rv : List (List AV)) : (xCall Try.prog G0 {} 200 39 [I n, .sl 1 rc, .agg [I d, .sl 1 rv, .zs, I m]] [false, false, false] []).sel.map (fun r => r.1) = some (one39 n rc d (.sl 1 rv) .zs m) := by kernel_rfl
theorem run39c (n d m : Int) (rc rv rw' : List (List AV)) : (xCall Try.prog G0 {} 200 39 [I n, .sl 1 rc, .agg [I d, .sl 1 rv, .sl 1 rw', I m]] [false, false, false] []).sel.map (fun r => r.1) = some (one39 n rc d (.sl 1 rv) (.sl 1 rw') m) := by kernel_rfl
theorem below_sl1 {n s : Nat} {r : List (List AV)} (h : ∀ x ∈ r, ∀ y ∈ x, Below n y) : Below n (.sl s r) := .sl _ _ fun _ _ _ _ hi hj => h _ (List.mem_of_getElem? hi) _ (List.mem_of_getElem? hj)
theorem c39 (n d m : Int) {rc : List (List AV)} {v w : AV} (h : (v = .zs ∧ w = .zs) ∨ (∃ rv, v = .sl 1 rv ∧ w = .zs) ∨ ∃ rv rw', v = .sl 1 rv ∧ w = .sl 1 rw') (hc : Below 0 (.sl 1 rc)) (hv : Below 0 v) (hw : Below 0 w) (σ : Heap) :
    ACall Try.prog G0 39 [I n, .sl 1 rc, .agg [I d, v, w, I m]] σ (one39 n rc d v w m) σ := by
  have hbr : Below 0 (one39 n rc d v w m) := by
    refine .agg _ (below_list fun y hy => ?_)
    simp only [List.mem_cons, List.not_mem_nil, or_false] at hy
    rcases hy with rfl | rfl | rfl
    · exact below_sl1 fun x hx y hy => by rw [List.mem_singleton.1 hx] at hy; rw [List.mem_singleton.1 hy]; exact .int _ _
    · exact below_sl1 fun x hx y hy => by rw [List.mem_singleton.1 hx] at hy; rw [List.mem_singleton.1 hy]; exact hc
    · refine below_sl1 fun x hx y hy => ?_
      rw [List.mem_singleton.1 hx] at hy
      simp only [List.mem_cons, List.not_mem_nil, or_false] at hy
      rcases hy with rfl | rfl | rfl | rfl
      · exact .int _ _
      · exact hv
      · exact hw
      · exact .int _ _
  have hba : ∀ x ∈ [I n, .sl 1 rc, .agg [I d, v, w, I m]], Below 0 x := fun x hx => by
    simp only [List.mem_cons, List.not_mem_nil, or_false] at hx
    rcases hx with rfl | rfl | rfl
    · exact .int _ _
    · exact hc
    · refine .agg _ (below_list fun y hy => ?_)
      simp only [List.mem_cons, List.not_mem_nil, or_false] at hy
      rcases hy with rfl | rfl | rfl | rfl
      · exact .int _ _
      · exact hv
      · exact hw
      · exact .int _ _
  have key : (xCall Try.prog G0 {} 200 39 [I n, .sl 1 rc, .agg [I d, v, w, I m]] [false, false, false] []).sel.map (fun r => r.1) = some (one39 n rc d v w m) := by
    rcases h with ⟨rfl, rfl⟩ | ⟨rv, rfl, rfl⟩ | ⟨rv, rw', rfl, rfl⟩
    · exact run39a n d m rc
    · exact run39b n d m rc rv
    · exact run39c n d m rc rv rw'
  obtain ⟨⟨u, s, h'⟩, h1, h2⟩ := Option.map_eq_some_iff.1 key
  obtain rfl : u = _ := h2
  exact (xCall_ok names mixed clok0 h1).lift0 hbr gbelow0 hba σ
end Go.Proofs.Ytngaihdpmoajeaa.Am

namespace Go.Proofs.Ytngaihdpmoajeaa.Am
open Go
set_option maxRecDepth 100000

/-! ### The beginning -/
def hP (p : Pb) (o : AObj) : Heap := [o, .cells 0 (pbC p)]
/-! ### The values of the next variable -/
def k5 (x : Pz) (p : Pb) (a bk : List Int) (c e w : Int) (ok : Bool) : List (FuncId × (List AV → Prop) × (List AV → AV)) :=
  [(18, is1 [pzAV x] (pAV p)), (14, is1 [flL a] (flL a)), (13, is1 [pAV p, flL a] (.tup [I c, I e])), (24, is1 [pAV p, flL a] (.tup [flL bk, I 0])), (25, is1 [pAV p, flL a] (.tup [I w, I 0])), (20, is1 [pAV p, flL a] (.tup [.bool ok, I w])), (12, is1 [] (.bool true))]
end Go.Proofs.Ytngaihdpmoajeaa.Am

namespace Go.Proofs.Ytngaihdpmoajeaa.Am
open Go
set_option maxRecDepth 100000

/-! ### The beginning -/
/-! ### The least cost -/
/-! ### The values of the next variable -/
end Go.Proofs.Ytngaihdpmoajeaa.Am

namespace Go.Proofs.Ytngaihdpmoajeaa.Am
open Go
set_option maxRecDepth 100000

end Go.Proofs.Ytngaihdpmoajeaa.Am

namespace Go.Proofs.Ytngaihdpmoajeaa.Am
open Go
set_option maxRecDepth 100000

/-! ### SearchFewer -/
def hQ (p q : Pb) : Heap := [.resv, .resv, .cells 0 (pbC p), .cells 0 (pbC q)]
/-- A call that leaves the heap alone, known by the temporary that is its first argument. -/
def hCal (f : FuncId) (j : Nat) (xs : List AV) (v : AV) : Heap → Oper → (Operand → Option AV) → Option (AV × Bool × Heap × Prop) := fun h o ρ => match o.op with
  | .call c => match c.callee with
    | .value (.func g) => match c.args.toList with
      | .tmp i :: _ => bif Nat.beq g f && Nat.beq i j then some (v, true, h, evAllR ρ c.args.toList = some xs) else none
      | _ => none
    | _ => none
  | _ => none
theorem hCal_ok {f : FuncId} {j : Nat} {xs : List AV} {v : AV} (hc : ∀ σ, ACall Try.prog G0 f xs σ v σ) : HintOk Try.prog G0 (hCal f j xs v) := by
  refine ⟨fun h o a m y tg h' p hh hp => ?_, fun h o ρ y tg h' p hh hp hq => ?_⟩
  · unfold hCal at hh
    split at hh <;> first | (cases hh; done) | skip
    rename_i c ho
    split at hh <;> first | (cases hh; done) | skip
    rename_i g hcal
    split at hh <;> first | (cases hh; done) | skip
    cases hb : Nat.beq g f && Nat.beq _ j with
    | false => rw [hb] at hh; cases hh
    | true =>
      rw [hb, cond_true] at hh
      cases hh
      obtain rfl := Nat.eq_of_beq_eq_true (Bool.and_eq_true_iff.1 hb).1
      refine AStep.call (first := []) (caps := []) ho hcal rfl (by rw [evAllR_eq]; exact hp) ?_
      have := hc h
      simpa using this
  · unfold hCal at hh
    split at hh <;> first | (cases hh; done) | skip
    split at hh <;> first | (cases hh; done) | skip
    split at hh <;> first | (cases hh; done) | skip
    revert hh
    cases Nat.beq _ _ && Nat.beq _ _ <;> intro hh <;> cases hh <;> rfl
end Go.Proofs.Ytngaihdpmoajeaa.Am

namespace Go.Proofs.Ytngaihdpmoajeaa.Am
open Go
set_option maxRecDepth 100000

/-! ### The odd problems -/
def flP (Q : List Pb) : AV := .fl 3 Q.length fun i => pbC (Q.getD i pb0)
def hO (o1 o2 : AObj) : Heap := [.resv, .resv, .resv, .resv, .resv, .resv, o1, o2]
def st9b (o1 o2 : AObj) (v : AV) (n k : Int) : St := .of 505 (hO o1 o2) [(0, .bool false, false), (275, v, true), (276, I n, true), (277, I k, true)]
def keep9b : List Nat := [0, 275, 276, 277]
def k9 (q : Pb) : List (FuncId × (List AV → Prop) × (List AV → AV)) :=
  [(21, is1 [pAV q] (.tup [flL [], I 0, I 1])), (22, is1 [pAV q] (.tup [flL [], I 1])), (13, is1 [pAV q, slL [-1]] (.tup [I 0, I 1])), (16, is1 [pAV q, I (-1)] (.tup [I 0, I 1])), (25, is1 [pAV q, slL [-1]] (.tup [I 0, I 1])), (24, is1 [pAV q, slL [-1]] (.tup [flL [], I 1])),
   (28, is1 [pAV q] (.bool false)), (31, is1 [pAV q, .zs] (pAV pb0)), (30, is1 [pAV pb0, .agg zPb] (.bool true))]
theorem run9b (o1 o2 : AObj) (Q : List Pb) (k : Int) : xBodyT (EN (k9 (Q.getD k.toNat pb0)) (hStA 26 8)) 200 noLoops keep9b 8 body9b (st9b o1 o2 (flP Q) Q.length k) = .ite (decide (k < (↑Q.length : Int))) (.need (((0 : Int) ≤ k) ∧ (k < (↑Q.length : Int))) (.need (((Option.some (3 : Nat)) = (Option.some (3 : Nat))) ∧ ((true = true) ∧ ((3 : Nat) ≤ (3 : Nat)))) (.need ([(AV.agg [(flL ((Q.getD k.toNat pb0).V)), (flLL ((Q.getD k.toNat pb0).C)), (flR ((Q.getD k.toNat pb0).R))])] = [(AV.agg [(flL ((Q.getD k.toNat pb0).V)), (flLL ((Q.getD k.toNat pb0).C)), (flR ((Q.getD k.toNat pb0).R))])]) (.need ([(AV.agg [(flL ((Q.getD k.toNat pb0).V)), (flLL ((Q.getD k.toNat pb0).C)), (flR ((Q.getD k.toNat pb0).R))])] = [(AV.agg [(flL ((Q.getD k.toNat pb0).V)), (flLL ((Q.getD k.toNat pb0).C)), (flR ((Q.getD k.toNat pb0).R))])]) (.need ([(AV.agg [(flL ((Q.getD k.toNat pb0).V)), (flLL ((Q.getD k.toNat pb0).C)), (flR ((Q.getD k.toNat pb0).R))]), (AV.sl (1 : Nat) [[(I ((-1 : Int)))]])] = [(AV.agg [(flL ((Q.getD k.toNat pb0).V)), (flLL ((Q.getD k.toNat pb0).C)), (flR ((Q.getD k.toNat pb0).R))]), (AV.sl (1 : Nat) [[(I ((-1 : Int)))]])]) (.need ([(AV.agg [(flL ((Q.getD k.toNat pb0).V)), (flLL ((Q.getD k.toNat pb0).C)), (flR ((Q.getD k.toNat pb0).R))]), (I ((-1 : Int)))] = [(AV.agg [(flL ((Q.getD k.toNat pb0).V)), (flLL ((Q.getD k.toNat pb0).C)), (flR ((Q.getD k.toNat pb0).R))]), (I ((-1 : Int)))]) (.need ([(AV.agg [(flL ((Q.getD k.toNat pb0).V)), (flLL ((Q.getD k.toNat pb0).C)), (flR ((Q.getD k.toNat pb0).R))]), (AV.sl (1 : Nat) [[(I ((-1 : Int)))]])] = [(AV.agg [(flL ((Q.getD k.toNat pb0).V)), (flLL ((Q.getD k.toNat pb0).C)), (flR ((Q.getD k.toNat pb0).R))]), (AV.sl (1 : Nat) [[(I ((-1 : Int)))]])]) (.need ([(AV.agg [(flL ((Q.getD k.toNat pb0).V)), (flLL ((Q.getD k.toNat pb0).C)), (flR ((Q.getD k.toNat pb0).R))]), (AV.sl (1 : Nat) [[(I ((-1 : Int)))]])] = [(AV.agg [(flL ((Q.getD k.toNat pb0).V)), (flLL ((Q.getD k.toNat pb0).C)), (flR ((Q.getD k.toNat pb0).R))]), (AV.sl (1 : Nat) [[(I ((-1 : Int)))]])]) (.need ([(AV.agg [(flL ((Q.getD k.toNat pb0).V)), (flLL ((Q.getD k.toNat pb0).C)), (flR ((Q.getD k.toNat pb0).R))])] = [(AV.agg [(flL ((Q.getD k.toNat pb0).V)), (flLL ((Q.getD k.toNat pb0).C)), (flR ((Q.getD k.toNat pb0).R))])]) (.ite (false) (.leaf (Exit.ret, St.of 505 [AObj.resv, AObj.resv, AObj.resv, AObj.resv, AObj.resv, AObj.resv, o1, o2] [(0, (AV.bool false), false), (275, (AV.fl (3 : Nat) (List.length Q) (fun i => pbC (Q.getD i pb0))), true), (276, (I ((↑Q.length : Int))), true), (277, (I k), true)])) (.ite ((1 : Int) != (1 : Int)) (.leaf (Exit.ret, St.of 505 [AObj.resv, AObj.resv, AObj.resv, AObj.resv, AObj.resv, AObj.resv, o1, o2] [(0, (AV.bool false), false), (275, (AV.fl (3 : Nat) (List.length Q) (fun i => pbC (Q.getD i pb0))), true), (276, (I ((↑Q.length : Int))), true), (277, (I k), true)])) (.ite ((1 : Int) != (1 : Int)) (.leaf (Exit.ret, St.of 505 [AObj.resv, AObj.resv, AObj.resv, AObj.resv, AObj.resv, AObj.resv, o1, o2] [(0, (AV.bool false), false), (275, (AV.fl (3 : Nat) (List.length Q) (fun i => pbC (Q.getD i pb0))), true), (276, (I ((↑Q.length : Int))), true), (277, (I k), true)])) (.ite ((1 : Int) != (1 : Int)) (.leaf (Exit.ret, St.of 505 [AObj.resv, AObj.resv, AObj.resv, AObj.resv, AObj.resv, AObj.resv, o1, o2] [(0, (AV.bool false), false), (275, (AV.fl (3 : Nat) (List.length Q) (fun i => pbC (Q.getD i pb0))), true), (276, (I ((↑Q.length : Int))), true), (277, (I k), true)])) (.ite ((1 : Int) != (1 : Int)) (.leaf (Exit.ret, St.of 505 [AObj.resv, AObj.resv, AObj.resv, AObj.resv, AObj.resv, AObj.resv, o1, o2] [(0, (AV.bool false), false), (275, (AV.fl (3 : Nat) (List.length Q) (fun i => pbC (Q.getD i pb0))), true), (276, (I ((↑Q.length : Int))), true), (277, (I k), true)])) (.ite ((1 : Int) != (1 : Int)) (.leaf (Exit.ret, St.of 505 [AObj.resv, AObj.resv, AObj.resv, AObj.resv, AObj.resv, AObj.resv, o1, o2] [(0, (AV.bool false), false), (275, (AV.fl (3 : Nat) (List.length Q) (fun i => pbC (Q.getD i pb0))), true), (276, (I ((↑Q.length : Int))), true), (277, (I k), true)])) (.ite ((1 : Int) != (1 : Int)) (.leaf (Exit.ret, St.of 505 [AObj.resv, AObj.resv, AObj.resv, AObj.resv, AObj.resv, AObj.resv, o1, o2] [(0, (AV.bool false), false), (275, (AV.fl (3 : Nat) (List.length Q) (fun i => pbC (Q.getD i pb0))), true), (276, (I ((↑Q.length : Int))), true), (277, (I k), true)])) (.need ([(AV.agg [(flL ((Q.getD k.toNat pb0).V)), (flLL ((Q.getD k.toNat pb0).C)), (flR ((Q.getD k.toNat pb0).R))]), AV.zs] = [(AV.agg [(flL ((Q.getD k.toNat pb0).V)), (flLL ((Q.getD k.toNat pb0).C)), (flR ((Q.getD k.toNat pb0).R))]), AV.zs]) (.need ([(AV.agg [(flL (pb0.V)), (flLL (pb0.C)), (flR (pb0.R))]), (AV.agg [AV.zs, AV.zs, AV.zs])] = [(AV.agg [(flL (pb0.V)), (flLL (pb0.C)), (flR (pb0.R))]), (AV.agg [AV.zs, AV.zs, AV.zs])]) (.ite (!true) (.leaf (Exit.ret, St.of 505 [AObj.resv, AObj.resv, AObj.resv, AObj.resv, AObj.resv, AObj.resv, o1, o2] [(0, (AV.bool false), false), (275, (AV.fl (3 : Nat) (List.length Q) (fun i => pbC (Q.getD i pb0))), true), (276, (I ((↑Q.length : Int))), true), (277, (I k), true)])) (.leaf (Exit.normal, St.of 505 [AObj.resv, AObj.resv, AObj.resv, AObj.resv, AObj.resv, AObj.resv, o1, o2] [(0, (AV.bool false), false), (275, (AV.fl (3 : Nat) (List.length Q) (fun i => pbC (Q.getD i pb0))), true), (276, (I ((↑Q.length : Int))), true), (277, (I (IntKind.i64.wrap (k + (1 : Int)))), true)]))))))))))))))))))))) (.leaf ((Exit.exit (2 : Nat)), St.of 505 [AObj.resv, AObj.resv, AObj.resv, AObj.resv, AObj.resv, AObj.resv, o1, o2] [(0, (AV.bool false), false), (275, (AV.fl (3 : Nat) (List.length Q) (fun i => pbC (Q.getD i pb0))), true), (276, (I ((↑Q.length : Int))), true), (277, (I k), true)])) := by kernel_rfl
theorem run9be (o1 o2 : AObj) (Q : List Pb) (k : Int) : xBodyT (EN [] (hStA 26 8)) 200 noLoops keep9b 8 body9b (st9b o1 o2 (flP Q) Q.length k) = .ite (decide (k < (↑Q.length : Int))) (.need (((0 : Int) ≤ k) ∧ (k < (↑Q.length : Int))) (.need (((Option.some (3 : Nat)) = (Option.some (3 : Nat))) ∧ ((true = true) ∧ ((3 : Nat) ≤ (3 : Nat)))) .fail)) (.leaf ((Exit.exit (2 : Nat)), St.of 505 [AObj.resv, AObj.resv, AObj.resv, AObj.resv, AObj.resv, AObj.resv, o1, o2] [(0, (AV.bool false), false), (275, (AV.fl (3 : Nat) (List.length Q) (fun i => pbC (Q.getD i pb0))), true), (276, (I ((↑Q.length : Int))), true), (277, (I k), true)])) := by kernel_rfl
/-! ### SearchKnown -/
def i1 (n : Int) : List (List AV) := [[I n]]
def c00 : List (List AV) := [[I 0], [I 0]]
/-- The problems of one variable: the temporary that holds the function, its costs, the rule. -/
def T39 : List (Nat × List (List AV) × Int × AV × AV × Int) :=
  [(205, i1 (-1), 0, .zs, .zs, 0), (209, i1 1000001, 0, .zs, .zs, 0), (213, c00, 0, .zs, .zs, 0), (217, i1 0, -1, .zs, .zs, 0), (221, i1 0, 1000001, .zs, .zs, 0),
   (225, i1 0, 0, .sl 1 (i1 1), .sl 1 [[.sl 1 (i1 0)]], 0), (232, i1 0, 0, .sl 1 (i1 0), .zs, 0), (237, i1 0, 0, .sl 1 (i1 0), .sl 1 [[.sl 1 c00]], 0), (244, i1 0, 0, .sl 1 c00, .sl 1 [[.sl 1 (i1 0)], [.sl 1 (i1 0)]], 0),
   (252, i1 0, 0, .sl 1 (i1 0), .sl 1 [[.sl 1 (i1 100000001)]], 0), (259, i1 0, 0, .sl 1 (i1 0), .sl 1 [[.sl 1 (i1 (-100000001))]], 0), (266, i1 0, 0, .zs, .zs, 10000000001), (270, i1 0, 0, .zs, .zs, -10000000001)]
def call39 (e : Nat × List (List AV) × Int × AV × AV × Int) : Nat × List AV × AV := (e.1, [I 1, .sl 1 e.2.1, .agg [I e.2.2.1, e.2.2.2.1, e.2.2.2.2.1, I e.2.2.2.2.2]], one39 1 e.2.1 e.2.2.1 e.2.2.2.1 e.2.2.2.2.1 e.2.2.2.2.2)
def zR : List AV := [I 0, .zs, .zs, I 0]
def zrs (n : Nat) : AV := .fl 1 n fun _ => [I 0]
/-- The odd problems, as they are written. -/
def rows9 : List (List AV) :=
  [[zrs 25, .fl 1 25 (fun _ => [.zs]), .zs], [.sl 1 (i1 0), .sl 1 [[.zs]], .zs], [.sl 1 (i1 17), .sl 1 [[zrs 17]], .zs], [.sl 1 (i1 1), .zs, .zs], [.zs, .sl 1 [[.sl 1 (i1 0)]], .zs], [.zs, .zs, .fl 4 2049 (fun _ => zR)]] ++
    T39.map fun e => [.sl 1 (i1 1), .sl 1 [[.sl 1 e.2.1]], .sl 4 [[I e.2.2.1, e.2.2.2.1, e.2.2.2.2.1, I e.2.2.2.2.2]]]
def cl9 : FuncId → List AV → Option (Tree AV) := fun f xs => match f with
  | 12 => match xs with
    | [] => some (.leaf (.bool true))
    | _ => none
  | _ => clC f xs
def H9 : Heap → Oper → (Operand → Option AV) → Option (AV × Bool × Heap × Prop) := orH (hCal 22 455 [pAV bigP] (.tup [flL fstB, I 0])) (orH (hCal 13 460 [pAV bigP, flL (fstB.take 23)] (.tup [I 224, I 0])) (orH (hCalC 39 (T39.map call39)) (orH (hMkD 22 1 [I 0]) (orH (hMkD 23 1 [.zs]) (orH (hMkD 24 4 zR) (hSlc fstB 23))))))
def E9 : Env := { closed := true, cl := cl9, hint := H9 }
def smpC : List AV := [slL [2, 3, 2], .sl 1 [[slL [0, 4]], [slL [1, 0, 5]], [slL [0, 0]]], .sl 4 [[I 7, slL [0, 1, 2], .sl 1 [[slL [1, 0]], [slL [1, 0, 0]], [slL [1, 0]]], I 1], [I 8, slL [0, 1], .sl 1 [[slL [0, 1]], [slL [0, 0, -1]]], I 0]]]
def oS : AObj := .cells 0 smpC
noncomputable def mv9 : Nat → Option (List Nat × (Nat → Heap)) := fun id => bif Nat.beq id 24 then some ([], fun _ => hO oS oS) else none
def lpK9 : Loops := lpAnd (lpB 26 keep9b (st9b oS oS (.sl 3 rows9) 19 0) (.exit 2) (.of 505 (hO oS oS) [(0, .bool false, false)])) (lpB 44 keepV (stV oS oS .resv .resv .resv .zs .zs .zs 0) (.exit 4) (.of 505 (hB9 oS oS) [(0, .bool false, false), (38, .ref 8 0 0, false), (394, I 24, false)]))
theorem runF9 (_u : Unit) : xenter Try.prog E9 (xCodeM Try.prog G0 E9 mv9 200 lpK9) 9 [] [] (List.replicate 6 .resv) = .need ((hO oS oS) = (hO oS oS)) (.need (((Option.some (I ((25 : Int)))) = (Option.some (I ((25 : Int))))) ∧ (((0 : Int) ≤ (25 : Int)) ∧ ((25 : Int) ≤ (16777216 : Int)))) (.need ((hO oS oS) = (hO oS oS)) (.need (((Option.some (I ((25 : Int)))) = (Option.some (I ((25 : Int))))) ∧ (((0 : Int) ≤ (25 : Int)) ∧ ((25 : Int) ≤ (16777216 : Int)))) (.need ((hO oS oS) = (hO oS oS)) (.need ((hO oS oS) = (hO oS oS)) (.need ((hO oS oS) = (hO oS oS)) (.need ((hO oS oS) = (hO oS oS)) (.need ((hO oS oS) = (hO oS oS)) (.need ((hO oS oS) = (hO oS oS)) (.need (((Option.some (I ((17 : Int)))) = (Option.some (I ((17 : Int))))) ∧ (((0 : Int) ≤ (17 : Int)) ∧ ((17 : Int) ≤ (16777216 : Int)))) (.need ((hO oS oS) = (hO oS oS)) (.need ((hO oS oS) = (hO oS oS)) (.need ((hO oS oS) = (hO oS oS)) (.need ((hO oS oS) = (hO oS oS)) (.need ((hO oS oS) = (hO oS oS)) (.need ((hO oS oS) = (hO oS oS)) (.need ((hO oS oS) = (hO oS oS)) (.need ((hO oS oS) = (hO oS oS)) (.need (((Option.some (I ((2049 : Int)))) = (Option.some (I ((2049 : Int))))) ∧ (((0 : Int) ≤ (2049 : Int)) ∧ ((2049 : Int) ≤ (16777216 : Int)))) (.need ((hO oS oS) = (hO oS oS)) (.need ((hO oS oS) = (hO oS oS)) (.need ((hO oS oS) = (hO oS oS)) (.need ((hO oS oS) = (hO oS oS)) (.need ((hO oS oS) = (hO oS oS)) (.need (((Option.some (AV.fn (39 : Nat) [] [])) = (Option.some (AV.fn (39 : Nat) [] []))) ∧ ((Option.some [(I ((1 : Int))), (AV.sl (1 : Nat) [[(I ((-1 : Int)))]]), (AV.agg [(I ((0 : Int))), AV.zs, AV.zs, (I ((0 : Int)))])]) = (Option.some [(I ((1 : Int))), (AV.sl (1 : Nat) [[(I ((-1 : Int)))]]), (AV.agg [(I (((205 : Nat), i1 (-1 : Int), (0 : Int), AV.zs, AV.zs, (0 : Int)).snd.snd.fst)), AV.zs, AV.zs, (I (((205 : Nat), i1 (-1 : Int), (0 : Int), AV.zs, AV.zs, (0 : Int)).snd.snd.snd.snd.snd))])]))) (.need ((hO oS oS) = (hO oS oS)) (.need ((hO oS oS) = (hO oS oS)) (.need ((hO oS oS) = (hO oS oS)) (.need ((hO oS oS) = (hO oS oS)) (.need (((Option.some (AV.fn (39 : Nat) [] [])) = (Option.some (AV.fn (39 : Nat) [] []))) ∧ ((Option.some [(I ((1 : Int))), (AV.sl (1 : Nat) [[(I ((1000001 : Int)))]]), (AV.agg [(I ((0 : Int))), AV.zs, AV.zs, (I ((0 : Int)))])]) = (Option.some [(I ((1 : Int))), (AV.sl (1 : Nat) [[(I ((1000001 : Int)))]]), (AV.agg [(I (((209 : Nat), i1 (1000001 : Int), (0 : Int), AV.zs, AV.zs, (0 : Int)).snd.snd.fst)), AV.zs, AV.zs, (I (((209 : Nat), i1 (1000001 : Int), (0 : Int), AV.zs, AV.zs, (0 : Int)).snd.snd.snd.snd.snd))])]))) (.need ((hO oS oS) = (hO oS oS)) (.need ((hO oS oS) = (hO oS oS)) (.need ((hO oS oS) = (hO oS oS)) (.need ((hO oS oS) = (hO oS oS)) (.need (((Option.some (AV.fn (39 : Nat) [] [])) = (Option.some (AV.fn (39 : Nat) [] []))) ∧ ((Option.some [(I ((1 : Int))), (AV.sl (1 : Nat) [[(I ((0 : Int)))], [(I ((0 : Int)))]]), (AV.agg [(I ((0 : Int))), AV.zs, AV.zs, (I ((0 : Int)))])]) = (Option.some [(I ((1 : Int))), (AV.sl (1 : Nat) [[(I ((0 : Int)))], [(I ((0 : Int)))]]), (AV.agg [(I (((213 : Nat), c00, (0 : Int), AV.zs, AV.zs, (0 : Int)).snd.snd.fst)), AV.zs, AV.zs, (I (((213 : Nat), c00, (0 : Int), AV.zs, AV.zs, (0 : Int)).snd.snd.snd.snd.snd))])]))) (.need ((hO oS oS) = (hO oS oS)) (.need ((hO oS oS) = (hO oS oS)) (.need ((hO oS oS) = (hO oS oS)) (.need ((hO oS oS) = (hO oS oS)) (.need (((Option.some (AV.fn (39 : Nat) [] [])) = (Option.some (AV.fn (39 : Nat) [] []))) ∧ ((Option.some [(I ((1 : Int))), (AV.sl (1 : Nat) [[(I ((0 : Int)))]]), (AV.agg (setL [(I ((0 : Int))), AV.zs, AV.zs, (I ((0 : Int)))] (0 : Nat) [(I ((-1 : Int)))]))]) = (Option.some [(I ((1 : Int))), (AV.sl (1 : Nat) [[(I ((0 : Int)))]]), (AV.agg [(I (((217 : Nat), i1 (0 : Int), (-1 : Int), AV.zs, AV.zs, (0 : Int)).snd.snd.fst)), AV.zs, AV.zs, (I (((217 : Nat), i1 (0 : Int), (-1 : Int), AV.zs, AV.zs, (0 : Int)).snd.snd.snd.snd.snd))])]))) (.need ((hO oS oS) = (hO oS oS)) (.need ((hO oS oS) = (hO oS oS)) (.need ((hO oS oS) = (hO oS oS)) (.need ((hO oS oS) = (hO oS oS)) (.need (((Option.some (AV.fn (39 : Nat) [] [])) = (Option.some (AV.fn (39 : Nat) [] []))) ∧ ((Option.some [(I ((1 : Int))), (AV.sl (1 : Nat) [[(I ((0 : Int)))]]), (AV.agg (setL [(I ((0 : Int))), AV.zs, AV.zs, (I ((0 : Int)))] (0 : Nat) [(I ((1000001 : Int)))]))]) = (Option.some [(I ((1 : Int))), (AV.sl (1 : Nat) [[(I ((0 : Int)))]]), (AV.agg [(I (((221 : Nat), i1 (0 : Int), (1000001 : Int), AV.zs, AV.zs, (0 : Int)).snd.snd.fst)), AV.zs, AV.zs, (I (((221 : Nat), i1 (0 : Int), (1000001 : Int), AV.zs, AV.zs, (0 : Int)).snd.snd.snd.snd.snd))])]))) (.need ((hO oS oS) = (hO oS oS)) (.need ((hO oS oS) = (hO oS oS)) (.need ((hO oS oS) = (hO oS oS)) (.need ((hO oS oS) = (hO oS oS)) (.need ((hO oS oS) = (hO oS oS)) (.need ((hO oS oS) = (hO oS oS)) (.need ((hO oS oS) = (hO oS oS)) (.need (((Option.some (AV.fn (39 : Nat) [] [])) = (Option.some (AV.fn (39 : Nat) [] []))) ∧ ((Option.some [(I ((1 : Int))), (AV.sl (1 : Nat) [[(I ((0 : Int)))]]), (AV.agg (setL (setL [(I ((0 : Int))), AV.zs, AV.zs, (I ((0 : Int)))] (1 : Nat) [(AV.sl (1 : Nat) [[(I ((1 : Int)))]])]) (2 : Nat) [(AV.sl (1 : Nat) [[(AV.sl (1 : Nat) [[(I ((0 : Int)))]])]])]))]) = (Option.some [(I ((1 : Int))), (AV.sl (1 : Nat) [[(I ((0 : Int)))]]), (AV.agg [(I (((225 : Nat), i1 (0 : Int), (0 : Int), AV.sl (1 : Nat) (i1 (1 : Int)), AV.sl (1 : Nat) [[AV.sl (1 : Nat) (i1 (0 : Int))]], (0 : Int)).snd.snd.fst)), (AV.sl (1 : Nat) [[(I ((1 : Int)))]]), (AV.sl (1 : Nat) [[(AV.sl (1 : Nat) [[(I ((0 : Int)))]])]]), (I (((225 : Nat), i1 (0 : Int), (0 : Int), AV.sl (1 : Nat) (i1 (1 : Int)), AV.sl (1 : Nat) [[AV.sl (1 : Nat) (i1 (0 : Int))]], (0 : Int)).snd.snd.snd.snd.snd))])]))) (.need ((hO oS oS) = (hO oS oS)) (.need ((hO oS oS) = (hO oS oS)) (.need ((hO oS oS) = (hO oS oS)) (.need ((hO oS oS) = (hO oS oS)) (.need ((hO oS oS) = (hO oS oS)) (.need (((Option.some (AV.fn (39 : Nat) [] [])) = (Option.some (AV.fn (39 : Nat) [] []))) ∧ ((Option.some [(I ((1 : Int))), (AV.sl (1 : Nat) [[(I ((0 : Int)))]]), (AV.agg (setL [(I ((0 : Int))), AV.zs, AV.zs, (I ((0 : Int)))] (1 : Nat) [(AV.sl (1 : Nat) [[(I ((0 : Int)))]])]))]) = (Option.some [(I ((1 : Int))), (AV.sl (1 : Nat) [[(I ((0 : Int)))]]), (AV.agg [(I (((232 : Nat), i1 (0 : Int), (0 : Int), AV.sl (1 : Nat) (i1 (0 : Int)), AV.zs, (0 : Int)).snd.snd.fst)), (AV.sl (1 : Nat) [[(I ((0 : Int)))]]), AV.zs, (I (((232 : Nat), i1 (0 : Int), (0 : Int), AV.sl (1 : Nat) (i1 (0 : Int)), AV.zs, (0 : Int)).snd.snd.snd.snd.snd))])]))) (.need ((hO oS oS) = (hO oS oS)) (.need ((hO oS oS) = (hO oS oS)) (.need ((hO oS oS) = (hO oS oS)) (.need ((hO oS oS) = (hO oS oS)) (.need ((hO oS oS) = (hO oS oS)) (.need ((hO oS oS) = (hO oS oS)) (.need ((hO oS oS) = (hO oS oS)) (.need (((Option.some (AV.fn (39 : Nat) [] [])) = (Option.some (AV.fn (39 : Nat) [] []))) ∧ ((Option.some [(I ((1 : Int))), (AV.sl (1 : Nat) [[(I ((0 : Int)))]]), (AV.agg (setL (setL [(I ((0 : Int))), AV.zs, AV.zs, (I ((0 : Int)))] (1 : Nat) [(AV.sl (1 : Nat) [[(I ((0 : Int)))]])]) (2 : Nat) [(AV.sl (1 : Nat) [[(AV.sl (1 : Nat) [[(I ((0 : Int)))], [(I ((0 : Int)))]])]])]))]) = (Option.some [(I ((1 : Int))), (AV.sl (1 : Nat) [[(I ((0 : Int)))]]), (AV.agg [(I (((237 : Nat), i1 (0 : Int), (0 : Int), AV.sl (1 : Nat) (i1 (0 : Int)), AV.sl (1 : Nat) [[AV.sl (1 : Nat) c00]], (0 : Int)).snd.snd.fst)), (AV.sl (1 : Nat) [[(I ((0 : Int)))]]), (AV.sl (1 : Nat) [[(AV.sl (1 : Nat) [[(I ((0 : Int)))], [(I ((0 : Int)))]])]]), (I (((237 : Nat), i1 (0 : Int), (0 : Int), AV.sl (1 : Nat) (i1 (0 : Int)), AV.sl (1 : Nat) [[AV.sl (1 : Nat) c00]], (0 : Int)).snd.snd.snd.snd.snd))])]))) (.need ((hO oS oS) = (hO oS oS)) (.need ((hO oS oS) = (hO oS oS)) (.need ((hO oS oS) = (hO oS oS)) (.need ((hO oS oS) = (hO oS oS)) (.need ((hO oS oS) = (hO oS oS)) (.need ((hO oS oS) = (hO oS oS)) (.need ((hO oS oS) = (hO oS oS)) (.need ((hO oS oS) = (hO oS oS)) (.need (((Option.some (AV.fn (39 : Nat) [] [])) = (Option.some (AV.fn (39 : Nat) [] []))) ∧ ((Option.some [(I ((1 : Int))), (AV.sl (1 : Nat) [[(I ((0 : Int)))]]), (AV.agg (setL (setL [(I ((0 : Int))), AV.zs, AV.zs, (I ((0 : Int)))] (1 : Nat) [(AV.sl (1 : Nat) [[(I ((0 : Int)))], [(I ((0 : Int)))]])]) (2 : Nat) [(AV.sl (1 : Nat) [[(AV.sl (1 : Nat) [[(I ((0 : Int)))]])], [(AV.sl (1 : Nat) [[(I ((0 : Int)))]])]])]))]) = (Option.some [(I ((1 : Int))), (AV.sl (1 : Nat) [[(I ((0 : Int)))]]), (AV.agg [(I (((244 : Nat), i1 (0 : Int), (0 : Int), AV.sl (1 : Nat) c00, AV.sl (1 : Nat) [[AV.sl (1 : Nat) (i1 (0 : Int))], [AV.sl (1 : Nat) (i1 (0 : Int))]], (0 : Int)).snd.snd.fst)), (AV.sl (1 : Nat) [[(I ((0 : Int)))], [(I ((0 : Int)))]]), (AV.sl (1 : Nat) [[(AV.sl (1 : Nat) [[(I ((0 : Int)))]])], [(AV.sl (1 : Nat) [[(I ((0 : Int)))]])]]), (I (((244 : Nat), i1 (0 : Int), (0 : Int), AV.sl (1 : Nat) c00, AV.sl (1 : Nat) [[AV.sl (1 : Nat) (i1 (0 : Int))], [AV.sl (1 : Nat) (i1 (0 : Int))]], (0 : Int)).snd.snd.snd.snd.snd))])]))) (.need ((hO oS oS) = (hO oS oS)) (.need ((hO oS oS) = (hO oS oS)) (.need ((hO oS oS) = (hO oS oS)) (.need ((hO oS oS) = (hO oS oS)) (.need ((hO oS oS) = (hO oS oS)) (.need ((hO oS oS) = (hO oS oS)) (.need ((hO oS oS) = (hO oS oS)) (.need (((Option.some (AV.fn (39 : Nat) [] [])) = (Option.some (AV.fn (39 : Nat) [] []))) ∧ ((Option.some [(I ((1 : Int))), (AV.sl (1 : Nat) [[(I ((0 : Int)))]]), (AV.agg (setL (setL [(I ((0 : Int))), AV.zs, AV.zs, (I ((0 : Int)))] (1 : Nat) [(AV.sl (1 : Nat) [[(I ((0 : Int)))]])]) (2 : Nat) [(AV.sl (1 : Nat) [[(AV.sl (1 : Nat) [[(I ((100000001 : Int)))]])]])]))]) = (Option.some [(I ((1 : Int))), (AV.sl (1 : Nat) [[(I ((0 : Int)))]]), (AV.agg [(I (((252 : Nat), i1 (0 : Int), (0 : Int), AV.sl (1 : Nat) (i1 (0 : Int)), AV.sl (1 : Nat) [[AV.sl (1 : Nat) (i1 (100000001 : Int))]], (0 : Int)).snd.snd.fst)), (AV.sl (1 : Nat) [[(I ((0 : Int)))]]), (AV.sl (1 : Nat) [[(AV.sl (1 : Nat) [[(I ((100000001 : Int)))]])]]), (I (((252 : Nat), i1 (0 : Int), (0 : Int), AV.sl (1 : Nat) (i1 (0 : Int)), AV.sl (1 : Nat) [[AV.sl (1 : Nat) (i1 (100000001 : Int))]], (0 : Int)).snd.snd.snd.snd.snd))])]))) (.need ((hO oS oS) = (hO oS oS)) (.need ((hO oS oS) = (hO oS oS)) (.need ((hO oS oS) = (hO oS oS)) (.need ((hO oS oS) = (hO oS oS)) (.need ((hO oS oS) = (hO oS oS)) (.need ((hO oS oS) = (hO oS oS)) (.need ((hO oS oS) = (hO oS oS)) (.need (((Option.some (AV.fn (39 : Nat) [] [])) = (Option.some (AV.fn (39 : Nat) [] []))) ∧ ((Option.some [(I ((1 : Int))), (AV.sl (1 : Nat) [[(I ((0 : Int)))]]), (AV.agg (setL (setL [(I ((0 : Int))), AV.zs, AV.zs, (I ((0 : Int)))] (1 : Nat) [(AV.sl (1 : Nat) [[(I ((0 : Int)))]])]) (2 : Nat) [(AV.sl (1 : Nat) [[(AV.sl (1 : Nat) [[(I ((-100000001 : Int)))]])]])]))]) = (Option.some [(I ((1 : Int))), (AV.sl (1 : Nat) [[(I ((0 : Int)))]]), (AV.agg [(I (((259 : Nat), i1 (0 : Int), (0 : Int), AV.sl (1 : Nat) (i1 (0 : Int)), AV.sl (1 : Nat) [[AV.sl (1 : Nat) (i1 (-100000001 : Int))]], (0 : Int)).snd.snd.fst)), (AV.sl (1 : Nat) [[(I ((0 : Int)))]]), (AV.sl (1 : Nat) [[(AV.sl (1 : Nat) [[(I ((-100000001 : Int)))]])]]), (I (((259 : Nat), i1 (0 : Int), (0 : Int), AV.sl (1 : Nat) (i1 (0 : Int)), AV.sl (1 : Nat) [[AV.sl (1 : Nat) (i1 (-100000001 : Int))]], (0 : Int)).snd.snd.snd.snd.snd))])]))) (.need ((hO oS oS) = (hO oS oS)) (.need ((hO oS oS) = (hO oS oS)) (.need ((hO oS oS) = (hO oS oS)) (.need ((hO oS oS) = (hO oS oS)) (.need (((Option.some (AV.fn (39 : Nat) [] [])) = (Option.some (AV.fn (39 : Nat) [] []))) ∧ ((Option.some [(I ((1 : Int))), (AV.sl (1 : Nat) [[(I ((0 : Int)))]]), (AV.agg (setL [(I ((0 : Int))), AV.zs, AV.zs, (I ((0 : Int)))] (3 : Nat) [(I ((10000000001 : Int)))]))]) = (Option.some [(I ((1 : Int))), (AV.sl (1 : Nat) [[(I ((0 : Int)))]]), (AV.agg [(I (((266 : Nat), i1 (0 : Int), (0 : Int), AV.zs, AV.zs, (10000000001 : Int)).snd.snd.fst)), AV.zs, AV.zs, (I (((266 : Nat), i1 (0 : Int), (0 : Int), AV.zs, AV.zs, (10000000001 : Int)).snd.snd.snd.snd.snd))])]))) (.need ((hO oS oS) = (hO oS oS)) (.need ((hO oS oS) = (hO oS oS)) (.need ((hO oS oS) = (hO oS oS)) (.need ((hO oS oS) = (hO oS oS)) (.need (((Option.some (AV.fn (39 : Nat) [] [])) = (Option.some (AV.fn (39 : Nat) [] []))) ∧ ((Option.some [(I ((1 : Int))), (AV.sl (1 : Nat) [[(I ((0 : Int)))]]), (AV.agg (setL [(I ((0 : Int))), AV.zs, AV.zs, (I ((0 : Int)))] (3 : Nat) [(I ((-10000000001 : Int)))]))]) = (Option.some [(I ((1 : Int))), (AV.sl (1 : Nat) [[(I ((0 : Int)))]]), (AV.agg [(I (((270 : Nat), i1 (0 : Int), (0 : Int), AV.zs, AV.zs, (-10000000001 : Int)).snd.snd.fst)), AV.zs, AV.zs, (I (((270 : Nat), i1 (0 : Int), (0 : Int), AV.zs, AV.zs, (-10000000001 : Int)).snd.snd.snd.snd.snd))])]))) (.need ((hO oS oS) = (hO oS oS)) (.need ((hO oS oS) = (hO oS oS)) (.need ((hO oS oS) = (hO oS oS)) (.need ((st9b oS oS (.sl 3 rows9) 19 0).vals = (st9b oS oS (.sl 3 rows9) 19 0).vals) (.need ((stV oS oS .resv .resv .resv .zs .zs .zs 0).vals = (stV oS oS .resv .resv .resv .zs .zs .zs 0).vals) (.need ((Option.some [(AV.agg [(flL (bigP.V)), (flLL (bigP.C)), (flR (bigP.R))])]) = (Option.some [(AV.agg [(flL (bigP.V)), (flLL (bigP.C)), (flR (bigP.R))])])) (.need (((Option.some (flL (fstB))) = (Option.some (flL (fstB)))) ∧ (((Option.some (I (if (23 : Int) < (↑fstB.length : Int) then (23 : Int) else (↑fstB.length : Int)))) = (Option.some (I ((↑(23 : Nat) : Int))))) ∧ ((23 : Nat) ≤ fstB.length))) (.need ((Option.some [(AV.agg [(flL (bigP.V)), (flLL (bigP.C)), (flR (bigP.R))]), (flL (List.take (23 : Nat) fstB))]) = (Option.some [(AV.agg [(flL (bigP.V)), (flLL (bigP.C)), (flR (bigP.R))]), (flL (List.take (23 : Nat) fstB))])) (.leaf ((AV.bool true), false, (hB9 oS oS))))))))))))))))))))))))))))))))))))))))))))))))))))))))))))))))))))))))))))))))))))))))))))))))))))))))))))))))) := by kernel_rfl
end Go.Proofs.Ytngaihdpmoajeaa.Am

