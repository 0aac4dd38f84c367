/-
  This file proves nothing of a law. It holds lemmas, of 11 texts in their order. No condition of its own.
-/
import Derived.Test.YtngaihdpmoajeaaMg5
import Derived.Test.YtngaihdpmoajeaaMg8
namespace Go.Proofs.Ytngaihdpmoajeaa.Am
open Go
/-- All objects that a value names are such. -/
inductive Only (P : Nat → Prop) : AV → Prop where
  | int (k : IntKind) (i : Int) : Only P (.int k i)
  | bool (b : Bool) : Only P (.bool b)
  | nilp : Only P .nilp
  | nilf : Only P .nilf
  | ref (r g off : Nat) (h : P r) : Only P (.ref r g off)
  | row (cells : List AV) (off : Nat) (h : ∀ (j : Nat) (x : AV), cells[j]? = some x → Only P x) : Only P (.row cells off)
  | sl (size : Nat) (rows : List (List AV)) (h : ∀ (i : Nat) (r : List AV) (j : Nat) (x : AV), rows[i]? = some r → r[j]? = some x → Only P x) : Only P (.sl size rows)
  | fl (size k : Nat) (rows : Nat → List AV) (h : Only P (.sl size ((List.range k).map rows))) : Only P (.fl size k rows)
  | zs : Only P .zs
  | ms (size r g off len cap : Nat) (h : P r) : Only P (.ms size r g off len cap)
  | agg (xs : List AV) (h : ∀ (j : Nat) (x : AV), xs[j]? = some x → Only P x) : Only P (.agg xs)
  | tup (xs : List AV) (h : ∀ (j : Nat) (x : AV), xs[j]? = some x → Only P x) : Only P (.tup xs)
  | fn (f : FuncId) (xs ys : List AV) (h1 : ∀ (j : Nat) (x : AV), xs[j]? = some x → Only P x) (h2 : ∀ (j : Nat) (x : AV), ys[j]? = some x → Only P x) : Only P (.fn f xs ys)
  | yf (l : Nat) (h : P l) : Only P (.yf l)
  | anyb : Only P .anyb
  | mx (size r g off len cap : Nat) (h : P r) : Only P (.mx size r g off len cap)
  | junk : Only P .junk
theorem Only.of_below {P : Nat → Prop} {n : Nat} {x : AV} (h : Below n x) (hP : ∀ r, r < n → P r) : Only P x := by
  induction h with
  | int k i => exact .int k i
  | bool b => exact .bool b
  | nilp => exact .nilp
  | nilf => exact .nilf
  | ref r g off h => exact .ref r g off (hP r h)
  | row cells off _ ih => exact .row cells off ih
  | sl size rows _ ih => exact .sl size rows ih
  | fl size k rows _ ih => exact .fl size k rows ih
  | zs => exact .zs
  | ms size r g off len cap h => exact .ms size r g off len cap (hP r h)
  | agg xs _ ih => exact .agg xs ih
  | tup xs _ ih => exact .tup xs ih
  | fn f xs ys _ _ ih1 ih2 => exact .fn f xs ys ih1 ih2
  | yf l h => exact .yf l (hP l h)
  | anyb => exact .anyb
  | mx size r g off len cap h => exact .mx size r g off len cap (hP r h)
  | junk => exact .junk
theorem Only.of0 {P : Nat → Prop} {x : AV} (h : Below 0 x) : Only P x := .of_below h fun r h => by omega
section
variable {G : Nat → Option (List AV)} {w : World} {M : Map}
theorem RV.reO {P : Nat → Prop} {σ : Heap} {π : Nat → Option Nat} (hi : Inv G w M σ) (hk : ∀ r, P r → σ[r]? = some .resv ∨ π r = some r) {v : Value} {x : AV} (hv : RV w M v x) (hb : Only P x) : RV w (M.re π) v x := by
  have hm : ∀ r p, P r → M r = some p → M.re π r = some p := fun r p hr hp => by
    rcases hk r hr with h | h
    · rw [hi.resv r h] at hp; cases hp
    · rw [Map.re_at h]; exact hp
  induction hv with
  | int k i => exact .int k i
  | bool b => exact .bool b
  | nilp => exact .nilp
  | nilf => exact .nilf
  | ref r g off b hr => cases hb with | ref _ _ _ hlt => exact .ref r g off b (hm _ _ hlt hr)
  | refS r g off b g' p hr hg => cases hb with | ref _ _ _ hlt => exact .refS r g off b g' p (hm _ _ hlt hr) hg
  | row b o off f cells hi hc _ ih => cases hb with | row _ _ h => exact .row b o off f cells (hi.re π) hc fun j x hj => ih j x hj (h j x hj)
  | sl0 base cap size => exact .sl0 base cap size
  | sl b o cap size f rows hi hc hl _ hcap ih => cases hb with | sl _ _ h => exact .sl b o cap size f rows (hi.re π) hc hl (fun i r j x hi hj => ih i r j x hi hj (h i r j x hi hj)) hcap
  | fl v size k rows _ ih => cases hb with | fl _ _ _ h => exact .fl _ size k rows (ih h)
  | zs base => exact .zs base
  | ms size r g off len cap b capc c e hr hlen hcc hsz hfit => cases hb with | ms _ _ _ _ _ _ hlt => exact .ms size r g off len cap b capc c e (hm _ _ hlt hr) hlen hcc hsz hfit
  | msS size r g off len cap b g' p capc hr hg => cases hb with | ms _ _ _ _ _ _ hlt => exact .msS size r g off len cap b g' p capc (hm _ _ hlt hr) hg
  | agg vs xs hl _ ih => cases hb with | agg _ h => exact .agg vs xs hl fun j x hj => ih j x hj (h j x hj)
  | tup vs xs hl _ ih => cases hb with | tup _ h => exact .tup vs xs hl fun j x hj => ih j x hj (h j x hj)
  | fn f fs cs xs ys hl1 hl2 _ _ ih1 ih2 => cases hb with | fn _ _ _ h1 h2 => exact .fn f fs cs xs ys hl1 hl2 (fun j x hj => ih1 j x hj (h1 j x hj)) (fun j x hj => ih2 j x hj (h2 j x hj))
  | yf l b hr => cases hb with | yf _ hlt => exact .yf l b (hm _ _ hlt hr)
  | yfS l b g fn fs cs hr hg => cases hb with | yf _ hlt => exact .yfS l b g fn fs cs (hm _ _ hlt hr) hg
  | anyb b => exact .anyb b
  | mx size r g off len cap b c e hr hlen hsz hfit => cases hb with | mx _ _ _ _ _ _ hlt => exact .mx size r g off len cap b c e (hm _ _ hlt hr) hlen hsz hfit
  | mxS size r g off len cap b g' p hr hg => cases hb with | mx _ _ _ _ _ _ hlt => exact .mxS size r g off len cap b g' p (hm _ _ hlt hr) hg
  | junk v => exact .junk v
theorem Re.only {P : Nat → Prop} {σ : Heap} {π : Nat → Option Nat} {x : AV} (hk : ∀ r, P r → σ[r]? = some .resv ∨ π r = some r) (hb : Only P x) : Re G π σ x x := fun _ _ _ hi hv => hv.reO hi hk hb
end
end Go.Proofs.Ytngaihdpmoajeaa.Am

namespace Go.Proofs.Ytngaihdpmoajeaa.Am
open Go
set_option maxRecDepth 100000

/-! ### The least costs from each variable on -/
def rsK (p : Pb) : Nat → List Int
  | 0 => List.replicate (p.V.length + 1) 0
  | k + 1 => (rsK p k).set (p.V.length - 1 - k) ((rsK p k).getD (p.V.length - k) 0 + minL (p.C.getD (p.V.length - 1 - k) []))
theorem rsK_len (p : Pb) : ∀ k, (rsK p k).length = p.V.length + 1
  | 0 => by simp [rsK]
  | k + 1 => by unfold rsK; rw [List.length_set, rsK_len p k]
theorem sumK_front (f : Nat → Int) : ∀ n, sumK f (n + 1) = f 0 + sumK (fun i => f (i + 1)) n
  | 0 => by simp [sumK]
  | n + 1 => by
    have ih := sumK_front f n
    have e1 : sumK f (n + 1 + 1) = sumK f (n + 1) + f (n + 1) := rfl
    have e2 : sumK (fun i => f (i + 1)) (n + 1) = sumK (fun i => f (i + 1)) n + f (n + 1) := rfl
    omega
theorem restA_step (p : Pb) {i : Nat} (hi : i < p.V.length) : restA p i = minL (p.C.getD i []) + restA p (i + 1) := by
  unfold restA
  have e : p.V.length - i = (p.V.length - (i + 1)) + 1 := by omega
  rw [e, sumK_front]
  have e2 : sumK (fun j => restT p i (j + 1)) (p.V.length - (i + 1)) = sumK (restT p (i + 1)) (p.V.length - (i + 1)) := sumK_congr fun j _ => by
    unfold restT
    congr 2
    omega
  rw [e2]
  rfl
theorem restA_end (p : Pb) : restA p p.V.length = 0 := by unfold restA; rw [Nat.sub_self]; rfl
theorem rsK_get (p : Pb) : ∀ k, k ≤ p.V.length → ∀ j, p.V.length - k ≤ j → j ≤ p.V.length → (rsK p k).getD j 0 = restA p j
  | 0, _, j, h1, h2 => by
    obtain rfl : j = p.V.length := by omega
    rw [restA_end]
    simp [rsK, List.getD_eq_getElem?_getD]
  | k + 1, hk, j, h1, h2 => by
    have hl := rsK_len p k
    unfold rsK
    rw [getD_setL]
    by_cases hj : p.V.length - 1 - k = j
    · rw [if_pos ⟨hj, by omega⟩, rsK_get p k (by omega) (p.V.length - k) (by omega) (by omega), hj]
      have e : p.V.length - k = j + 1 := by omega
      rw [e, restA_step p (show j < p.V.length by omega)]
      omega
    · rw [if_neg (fun h => hj h.1)]
      exact rsK_get p k (by omega) j (by omega) h2
theorem repl_map (n : Nat) : repl n [I 0] = (List.replicate n (0 : Int)).map I := by
  induction n with
  | zero => rfl
  | succ n ih => unfold repl; rw [ih]; rfl
theorem loopR {p : Pb} (hs : p.sh) (hp : Ok p) (Y : Heap) : LoopA bodyR p.V.length (fun k => stR p ((rsK p k).map I) ((p.V.length : Int) - 1 - k) Y) (fun k => stR p ((rsK p k).map I) ((p.V.length : Int) - 1 - k) Y) (stR p ((rsK p p.V.length).map I) (-1) Y) .ret (.exit 0) fun _ => false := by
  have hn := hp.n
  have hc := hp.c
  refine .lin (fun _ => rfl) rfl nofun fun k hk => ⟨{ EG (k < p.V.length) [(36, [flL (p.C.getD ((p.V.length : Int) - 1 - k).toNat [])], I (minL (p.C.getD ((p.V.length : Int) - 1 - k).toNat [])))] with boxRow := false, hint := hArrG 22 3 .i64 1 }, noLoops, [1, 2, 3, 4], ?_, lpNo _, fun hlt => ?_, fun he => ?_⟩
  · refine .all arr_ok.ok failH_ok (fun l xs σ t v σ' h => (by cases h)) (clokG1 (q := k < p.V.length) (f := 36) fun hlt => ?_).cl
    exact c36 (sh_getD hs.2.2.1 _) (cost_pos hp (by omega))
  · have e0 : ((p.V.length : Int) - 1 - k).toNat = p.V.length - 1 - k := by omega
    have hw1 : IntKind.i64.wrap ((p.V.length : Int) - 1 - k + 1) = ((p.V.length - k : Nat) : Int) := (wrapI (by omega)).trans (by omega)
    have hw2 : IntKind.i64.wrap ((p.V.length : Int) - 1 - k - 1) = (p.V.length : Int) - 1 - (k + 1 : Nat) := (wrapI (by omega)).trans (by omega)
    have hl := rsK_len p k
    have hi1 : p.V.length - k < (rsK p k).length := by omega
    have hi2 : p.V.length - 1 - k < (rsK p k).length := by omega
    have hr := rsK_get p k (by omega) (p.V.length - k) (by omega) (by omega)
    have hb := restK_bound hp (i := p.V.length - k) (k := p.V.length - (p.V.length - k)) (by omega)
    have hm := minC_bound hp (i := p.V.length - 1 - k) (by omega)
    have hra : restA p (p.V.length - k) = sumK (restT p (p.V.length - k)) (p.V.length - (p.V.length - k)) := rfl
    refine (congrArg Tree.sel (runR _ p _ _ Y)).trans ?_
    rw [hw1, hw2, e0, Int.toNat_natCast, map_getD _ hi1, wrapI (by omega), map_setL _ hi2]
    have e1 : (rsK p k).set (p.V.length - 1 - k) ((rsK p k).getD (p.V.length - k) 0 + minL (p.C.getD (p.V.length - 1 - k) [])) = rsK p (k + 1) := rfl
    rw [e1]
    exact (selIt (dT (by omega))).trans (t_need ⟨by omega, by omega, rfl⟩ (t_need ⟨rfl, _, map_get _ hi1⟩ (t_need ⟨by omega, by omega⟩ (t_need hlt (t_need rfl (t_need ⟨by omega, by omega, rfl⟩ (t_need ⟨rfl, by rw [List.length_map]; exact hi2⟩ rfl)))))))
  · subst he
    have e : (p.V.length : Int) - 1 - p.V.length = -1 := by omega
    rw [e]
    refine (congrArg Tree.sel (runR _ p _ _ Y)).trans ?_
    exact (selIf (dF (by omega))).trans rfl

/-! ### The weights of one variable -/
def lessK (w : List Int) (least : Int) : Nat → List Int
  | 0 => []
  | j + 1 => lessK w least j ++ [w.getD j 0 - least]
theorem lessK_len (w : List Int) (least : Int) : ∀ j, (lessK w least j).length = j
  | 0 => rfl
  | j + 1 => by unfold lessK; rw [List.length_append, lessK_len w least j]; rfl
theorem lessK_get (w : List Int) (least : Int) : ∀ j i, i < j → (lessK w least j).getD i 0 = w.getD i 0 - least
  | j + 1, i, h => by
    unfold lessK
    rw [List.getD_eq_getElem?_getD, List.getElem?_append]
    have hl := lessK_len w least j
    by_cases hi : i < j
    · rw [if_pos (by omega), ← List.getD_eq_getElem?_getD]
      exact lessK_get w least j i hi
    · obtain rfl : i = j := by omega
      rw [if_neg (by omega), hl, Nat.sub_self]
      rfl
/-- How much more than the least each weight is. -/
def lessL (w : List Int) : List Int := lessK w (minL w) w.length
theorem lessL_len (w : List Int) : (lessL w).length = w.length := lessK_len _ _ _
theorem lessL_get (w : List Int) {i : Nat} (hi : i < w.length) : (lessL w).getD i 0 = w.getD i 0 - minL w := lessK_get _ _ _ _ hi
theorem loopI {p : Pb} (ucs rcs : List AV) (lv : AV) (lo X : AObj) (r : Int) (Y : Heap) (left k v : Int) (x : Rl) {w : List Int} {least : Int} (hw : w.length ≤ 1000000) (hb : ∀ j, j < w.length → -4000000000000000000 ≤ w.getD j 0 - least ∧ w.getD j 0 - least ≤ 4000000000000000000) :
    LoopA bodyI w.length (fun j => stI p ucs rcs lv lo X r (sV 1 6 (rowI (lessK w least j))) (sO (rowI (lessK w least j))) Y left k v least x w j) (fun j => stI p ucs rcs lv lo X r (sV 1 6 (rowI (lessK w least j))) (sO (rowI (lessK w least j))) Y left k v least x w j)
      (stI p ucs rcs lv lo X r (sV 1 6 (rowI (lessK w least w.length))) (sO (rowI (lessK w least w.length))) Y left k v least x w w.length) .ret (.exit 6) fun _ => false := by
  refine .lin (fun _ => rfl) rfl nofun fun j hj => ?_
  have hlen := lessK_len w least j
  have hwr : j < w.length → IntKind.i64.wrap (w.getD j 0 - least) = w.getD j 0 - least := fun h => wrapI (by have := hb j h; omega)
  have key := congrArg Tree.sel (runI True p ucs rcs lv lo X r (sV 1 6 (rowI (lessK w least j))) (sV 1 6 (rowI (lessK w least j ++ [IntKind.i64.wrap (w.getD j 0 - least)]))) (sO (rowI (lessK w least j))) (sO (rowI (lessK w least j ++ [IntKind.i64.wrap (w.getD j 0 - least)]))) Y left k v least x w j)
  rw [Int.toNat_natCast] at key
  refine ⟨_, noLoops, keepI, .ofH rfl rfl ((hApO_ok els22 fun _ => grow_I (by omega) _ 6).or (hSto_ok 5 one22).ok) (fun f xs t v h => by cases h), lpNo _, fun hlt => key.trans ?_, fun he => key.trans ?_⟩
  · rw [wrapS hlt (by omega), hwr hlt]
    have e1 : lessK w least j ++ [w.getD j 0 - least] = lessK w least (j + 1) := rfl
    rw [e1]
    have h1 : (sV 1 6 (rowI (lessK w least (j + 1)))).one = true := by
      cases rowI (lessK w least (j + 1)) <;> rfl
    exact (selIt (dT (by omega))).trans (t_need ⟨by omega, by omega⟩ (t_need ⟨rfl, rfl, trivial⟩ (t_need ⟨h1, by omega⟩ rfl)))
  · subst he
    exact (selIf (dF (by omega))).trans rfl
end Go.Proofs.Ytngaihdpmoajeaa.Am

namespace Go.Proofs.Ytngaihdpmoajeaa.Am
open Go
set_option maxRecDepth 100000

abbrev Use := Int × List Int
/-- The uses' cells, and what lies at their places. -/
def ucs (us : List (List Use)) : List AV := us.mapIdx fun v l => sV 2 (7 + v) (l.map useC)
def uY (us : List (List Use)) : Heap := us.map fun l => sO (l.map useC)
def addU (us : List (List Use)) (v : Nat) (u : Use) : List (List Use) := us.set v (us.getD v [] ++ [u])
theorem addU_len (us : List (List Use)) (v : Nat) (u : Use) : (addU us v u).length = us.length := by unfold addU; rw [List.length_set]
theorem ucs_len (us : List (List Use)) : (ucs us).length = us.length := by simp [ucs]
theorem ucs_get (us : List (List Use)) {v : Nat} (hv : v < us.length) : (ucs us)[v]? = some (sV 2 (7 + v) ((us.getD v []).map useC)) := by
  simp [ucs, hv, List.getD_eq_getElem?_getD]
theorem sV_same {s r : Nat} {a b : List (List AV)} (h : a.length = b.length) : sV s r a = sV s r b := by
  cases a with
  | nil =>
    cases b with
    | nil => rfl
    | cons y q => simp at h
  | cons x l =>
    cases b with
    | nil => simp at h
    | cons y q => simp only [List.length_cons, Nat.add_right_cancel_iff] at h; simp [sV, h]
theorem ucs_add (us : List (List Use)) {v : Nat} (hv : v < us.length) (u : Use) (row : List AV) : setL (ucs us) v [sV 2 (7 + v) ((us.getD v []).map useC ++ [row])] = ucs (addU us v u) := by
  apply List.ext_getElem?
  intro i
  rw [setL_get (by rw [ucs_len]; simp; omega)]
  simp only [List.length_singleton]
  by_cases h1 : i < v
  · rw [if_pos h1, ucs_get us (by omega), ucs_get _ (by rw [addU_len]; omega)]
    have e : (addU us v u).getD i [] = us.getD i [] := by
      unfold addU
      simp [List.getD_eq_getElem?_getD, List.getElem?_set_ne (show v ≠ i by omega)]
    rw [e]
  · rw [if_neg h1]
    by_cases h2 : i < v + 1
    · obtain rfl : i = v := by omega
      rw [if_pos h2, Nat.sub_self, ucs_get _ (by rw [addU_len]; exact hv)]
      have e : (addU us i u).getD i [] = us.getD i [] ++ [u] := by
        unfold addU
        simp [List.getD_eq_getElem?_getD, hv]
      rw [e]
      simp only [List.getElem?_cons_zero, Option.some.injEq]
      exact sV_same (by simp)
    · rw [if_neg h2]
      by_cases h3 : i < us.length
      · rw [ucs_get us h3, ucs_get _ (by rw [addU_len]; exact h3)]
        have e : (addU us v u).getD i [] = us.getD i [] := by
          unfold addU
          simp [List.getD_eq_getElem?_getD, List.getElem?_set_ne (show v ≠ i by omega)]
        rw [e]
      · rw [List.getElem?_eq_none (by rw [ucs_len]; omega), List.getElem?_eq_none (by rw [ucs_len, addU_len]; omega)]
theorem uY_len (us : List (List Use)) : (uY us).length = us.length := by simp [uY]
theorem uY_get (us : List (List Use)) {v : Nat} (hv : v < us.length) : (uY us)[v]? = some (sO ((us.getD v []).map useC)) := by
  simp [uY, hv, List.getD_eq_getElem?_getD]
theorem useC_len (u : Use) : (useC u).length = 2 := rfl
theorem useC_rows (l : List Use) : ∀ x ∈ l.map useC, x.length = 2 := fun x hx => by
  obtain ⟨u, _, rfl⟩ := List.mem_map.1 hx; rfl
theorem useC_below (u : Use) : ∀ x ∈ useC u, Below 0 x := fun x hx => by
  simp only [useC, List.mem_cons, List.not_mem_nil, or_false] at hx
  rcases hx with rfl | rfl
  · exact .int _ _
  · exact below_flL _
theorem els102 : ElemS 102 101 2 := elemS Try.underlying102 (by kernel_rfl) (by kernel_rfl)
theorem grow_U {l : List Use} (hl : l.length < 16777216) (r : Nat) (n : Int) {ls : AV} (h1 : ls.one = true) : Grow 2 r [I n, ls] (sV 2 r (l.map useC)) (sV 2 r (l.map useC ++ [[I n, ls]])) (sO (l.map useC)) (sO (l.map useC ++ [[I n, ls]])) :=
  ⟨l.map useC, rfl, rfl, rfl, rfl, useC_rows l, rfl, fun x hx => by
    simp only [List.mem_cons, List.not_mem_nil, or_false] at hx
    rcases hx with rfl | rfl
    · rfl
    · exact h1, by simpa using hl⟩
/-- The heap at the head of the rounds. -/
def hS (p : Pb) (us : List (List Use)) (rs l : List Int) (X : AObj) : Heap := hN p (ucs us) (rs.map I) (sV 1 3 (rowI l)) (sO (rowI l)) X .resv .resv (uY us)
theorem hN_len (p : Pb) (uc rc : List AV) (lv : AV) (lo X Uo Lo : AObj) (Y : Heap) : (hN p uc rc lv lo X Uo Lo Y).length = 7 + Y.length := by simp [hN]; omega
/-- The objects but the round's own. -/
def keepP (n : Nat) : Nat → Option Nat := fun q => if q = 5 ∨ q = 6 then none else if q < n then some q else none
theorem keepP_at {n q : Nat} (h5 : q ≠ 5) (h6 : q ≠ 6) (hq : q < n) : keepP n q = some q := by simp [keepP, h5, h6, hq]
theorem keepP_some {n q z : Nat} (h : keepP n q = some z) : q ≠ 5 ∧ q ≠ 6 ∧ q < n ∧ z = q := by
  unfold keepP at h
  split at h
  · cases h
  · split at h
    · cases h; exact ⟨fun e => by subst e; simp_all, fun e => by subst e; simp_all, ‹_›, rfl⟩
    · cases h
def goodP (n r : Nat) : Prop := r ≠ 5 ∧ r ≠ 6 ∧ r < n
theorem only_sV {n s r : Nat} {rows : List (List AV)} (h : goodP n r) : Only (goodP n) (sV s r rows) := by
  cases rows with
  | nil => exact .zs
  | cons x l => exact .ms _ _ _ _ _ _ h
theorem only_ucs {n : Nat} (us : List (List Use)) (hn : 7 + us.length ≤ n) : ∀ x ∈ ucs us, Only (goodP n) x := fun x hx => by
  unfold ucs at hx
  obtain ⟨i, hi, rfl⟩ := List.mem_mapIdx.1 hx
  exact only_sV ⟨by omega, by omega, by omega⟩
/-- What the round's own variables held is told as data; they are forgotten. -/
theorem hre_round {p : Pb} {us us' : List (List Use)} {rs l : List Int} {x : Rl} {U0 Lo : AObj} {Y : Heap} (hl : us'.length = us.length) (hY : Y.length = us.length)
    (hu : ∀ v, v < us.length → ∃ g c0, (Y[v]? = some (sO ((us'.getD v []).map useC)) ∧ sO ((us'.getD v []).map useC) = .resv) ∨ (Y[v]? = some (.cells g c0) ∧ sO ((us'.getD v []).map useC) = .cells g ((us'.getD v []).map useC).flatten ∧ c0.length = ((us'.getD v []).map useC).flatten.length ∧
      ∀ (j : Nat) (y : AV), (((us'.getD v []).map useC).flatten)[j]? = some y → ∃ z, c0[j]? = some z ∧ Re G0 (keepP (7 + us.length)) (hN p (ucs us') (rs.map I) (sV 1 3 (rowI l)) (sO (rowI l)) (.cells 0 (rlC x)) U0 Lo Y) z y)) :
    HRe G0 (keepP (7 + us.length)) (hS p us rs l (.cells 0 (rlC x))) (hN p (ucs us') (rs.map I) (sV 1 3 (rowI l)) (sO (rowI l)) (.cells 0 (rlC x)) U0 Lo Y) (hS p us' rs l (.cells 0 (rlC x))) := by
  have hk : ∀ r, goodP (7 + us.length) r → (hN p (ucs us') (rs.map I) (sV 1 3 (rowI l)) (sO (rowI l)) (.cells 0 (rlC x)) U0 Lo Y)[r]? = some .resv ∨ keepP (7 + us.length) r = some r := fun r hr => .inr (keepP_at hr.1 hr.2.1 hr.2.2)
  have same : ∀ {q g : Nat} {c : List AV}, keepP (7 + us.length) q = some q → (hN p (ucs us') (rs.map I) (sV 1 3 (rowI l)) (sO (rowI l)) (.cells 0 (rlC x)) U0 Lo Y)[q]? = some (.cells g c) → (∀ z ∈ c, Only (goodP (7 + us.length)) z) → ORe G0 (keepP (7 + us.length)) (hN p (ucs us') (rs.map I) (sV 1 3 (rowI l)) (sO (rowI l)) (.cells 0 (rlC x)) U0 Lo Y) q (.cells g c) :=
    fun {q g c} h1 h2 h3 => ⟨q, c, h1, h2, rfl, fun j y hj => ⟨y, hj, Re.only hk (h3 y (List.mem_of_getElem? hj))⟩⟩
  refine ⟨gbelow0, fun q o ho hne => ?_, fun q q' z h1 h2 => ?_, fun q z h1 => ?_, fun q o ho => ?_⟩
  · have hq : q < 7 + us.length := by
      have := (List.getElem?_eq_some_iff.1 ho).1
      unfold hS at this
      rw [hN_len, uY_len] at this
      exact this
    refine keepP_at (fun e => ?_) (fun e => ?_) hq
    · subst e; cases ho; exact hne rfl
    · subst e; cases ho; exact hne rfl
  · have := keepP_some h1
    have := keepP_some h2
    omega
  · unfold hS
    rw [hN_len, uY_len]
    have := keepP_some h1
    omega
  · match q, ho with
    | 0, ho => cases ho; exact same (keepP_at (by omega) (by omega) (by omega)) rfl (only_ucs us' (by omega))
    | 1, ho =>
      cases ho
      refine same (keepP_at (by omega) (by omega) (by omega)) rfl fun z hz => ?_
      obtain ⟨n, _, rfl⟩ := List.mem_map.1 hz
      exact .int _ _
    | 2, ho =>
      cases ho
      refine same (keepP_at (by omega) (by omega) (by omega)) rfl fun z hz => ?_
      simp only [List.mem_cons, List.not_mem_nil, or_false] at hz
      rcases hz with rfl | rfl | rfl | rfl | rfl | rfl | rfl | rfl
      · exact .of0 (below_flL _)
      · exact .of0 (below_flLL _)
      · exact .of0 (below_flR _)
      · exact .zs
      · exact .int _ _
      · exact only_sV ⟨by omega, by omega, by omega⟩
      · exact .ms _ _ _ _ _ _ ⟨by omega, by omega, by omega⟩
      · exact .ms _ _ _ _ _ _ ⟨by omega, by omega, by omega⟩
    | 3, ho =>
      have ho' : some (sO (rowI l)) = some o := ho
      cases ho'
      cases l with
      | nil => exact fun z hz => by obtain ⟨_, _, _, rfl⟩ := keepP_some hz; rfl
      | cons y t =>
        refine same (q := 3) (g := (rowI t).length) (c := (rowI (y :: t)).flatten) (keepP_at (by omega) (by omega) (by omega)) rfl fun z hz => ?_
        rw [rowI_flatten] at hz
        obtain ⟨n, _, rfl⟩ := List.mem_map.1 hz
        exact .int _ _
    | 4, ho => cases ho; exact same (keepP_at (by omega) (by omega) (by omega)) rfl fun z hz => .of0 (below_rl x z hz)
    | 5, ho => cases ho; exact fun z hz => absurd rfl (keepP_some hz).1
    | 6, ho => cases ho; exact fun z hz => absurd rfl (keepP_some hz).2.1
    | q + 7, ho =>
      have ho' : (uY us')[q]? = some o := ho
      have hq : q < us.length := by have := (List.getElem?_eq_some_iff.1 ho').1; rw [uY_len] at this; omega
      rw [uY_get us' (by omega)] at ho'
      cases ho'
      obtain ⟨g, c0, h | ⟨h1, h2, h3, h4⟩⟩ := hu q hq
      · rw [h.2]
        intro z hz
        obtain ⟨_, _, _, rfl⟩ := keepP_some hz
        show Y[q]? = _
        rw [h.1, h.2]
      · rw [h2]
        exact ⟨q + 7, c0, keepP_at (by omega) (by omega) (by omega), h1, h3.symm, h4⟩
end Go.Proofs.Ytngaihdpmoajeaa.Am

namespace Go.Proofs.Ytngaihdpmoajeaa.Am
open Go
set_option maxRecDepth 100000

theorem addU_self {us : List (List Use)} {v : Nat} (hv : v < us.length) (u : Use) : (addU us v u).getD v [] = us.getD v [] ++ [u] := by
  unfold addU
  simp [List.getD_eq_getElem?_getD, hv]
theorem addU_ne {us : List (List Use)} {v i : Nat} (h : i ≠ v) (u : Use) : (addU us v u).getD i [] = us.getD i [] := by
  unfold addU
  simp [List.getD_eq_getElem?_getD, List.getElem?_set_ne (Ne.symm h)]
/-- Max of a list that has grown at the place 6. -/
theorem c68m {L : List Int} (hl : sh L) (h0 : 0 < L.length) {h : Heap} (ho : h[6]? = some (sO (rowI L))) : ACall Try.prog G0 68 [sV 1 6 (rowI L)] h (I (maxL L)) h := by
  have hne : L ≠ [] := fun e => by rw [e] at h0; simp at h0
  have h1 : ACall Try.prog G0 68 [slL L] [] (I (maxL L)) [] := (c68 hl h0 []).arg1 (sub_slL L)
  refine h1.frz gbelow0 (.int _ _) rfl fun j x' hj => ?_
  match j, hj with
  | 0, hj =>
    cases hj
    refine ⟨_, rfl, .inr (.inr ⟨6, L.length - 1, L.map I, ?_, ?_, fun y hy => ?_, rfl⟩)⟩
    · cases L with
      | nil => exact absurd rfl hne
      | cons y t => simp [rowI, sV]
    · rw [ho, sO_rowI hne]
    · obtain ⟨n, _, rfl⟩ := List.mem_map.1 hy
      exact .int _ _
  | j + 1, hj => simp at hj
def stepU (us : List (List Use)) (x : Rl) (r : Nat) (k : Nat) : List (List Use) := if maxL (lessL (x.w.getD k [])) > 0 then addU us (x.v.getD k 0).toNat (r, lessL (x.w.getD k [])) else us
theorem stepU_len (us : List (List Use)) (x : Rl) (r k : Nat) : (stepU us x r k).length = us.length := by
  unfold stepU
  split
  · exact addU_len _ _ _
  · rfl
theorem hN_at7 (p : Pb) (uc rc : List AV) (lv : AV) (lo X Uo Lo : AObj) (Y : Heap) (v : Nat) : (hN p uc rc lv lo X Uo Lo Y)[7 + v]? = Y[v]? := by
  rw [Nat.add_comm]
  rfl
theorem hN_set7 (p : Pb) (uc rc : List AV) (lv : AV) (lo X Uo Lo : AObj) (Y : Heap) (v : Nat) (o : AObj) : (hN p uc rc lv lo X Uo Lo Y).set (7 + v) o = (hN p uc rc lv lo X Uo Lo Y).take 7 ++ Y.set v o := by
  rw [Nat.add_comm]
  rfl
theorem one_sV {s r : Nat} {rows : List (List AV)} : (sV s r rows).one = true := by cases rows <;> rfl
theorem aZero101 : (aZero Try.prog 101).map AV.cells = some [I 0, .zs] := by kernel_rfl
theorem of_all {n : Nat} {h : Heap} {l : List (Nat × AV × Bool)} {Q : AV → Prop} (hl : ∀ p ∈ l, Q p.2.1) (hj : Q .junk) : ∀ x ∈ (St.of n h l).a, Q x := fun x hx => by
  simp only [St.a, St.of, List.mem_map] at hx
  obtain ⟨j, _, rfl⟩ := hx
  rcases of_get l .nil j with h1 | ⟨p, hp, h1⟩
  · rw [h1, PT.get_nil]; exact hj
  · rw [h1]; exact hl p hp
theorem flat_mem {l : List Use} {j : Nat} {y : AV} (h : ((l.map useC).flatten)[j]? = some y) : Below 0 y := by
  obtain ⟨row, h1, h2⟩ := List.mem_flatten.1 (List.mem_of_getElem? h)
  obtain ⟨u, _, rfl⟩ := List.mem_map.1 h1
  exact useC_below u y h2
/-- A place that has not turned. -/
theorem hu_same {l : List Use} {π : Nat → Option Nat} {σ : Heap} {oY : Option AObj} (hY : oY = some (sO (l.map useC))) : ∃ g c0, (oY = some (sO (l.map useC)) ∧ sO (l.map useC) = .resv) ∨ (oY = some (.cells g c0) ∧ sO (l.map useC) = .cells g (l.map useC).flatten ∧ c0.length = (l.map useC).flatten.length ∧
    ∀ (j : Nat) (y : AV), ((l.map useC).flatten)[j]? = some y → ∃ z, c0[j]? = some z ∧ Re G0 π σ z y) := by
  cases l with
  | nil => exact ⟨0, [], .inl ⟨hY, rfl⟩⟩
  | cons u t => exact ⟨(t.map useC).length, ((u :: t).map useC).flatten, .inr ⟨hY, rfl, rfl, fun j y hj => ⟨y, hj, Re.flat (flat_mem hj)⟩⟩⟩
/-- A place with one use more. -/
theorem hu_new {l : List Use} {r : Int} {less : List Int} {ls : AV} {π : Nat → Option Nat} {σ : Heap} {oY : Option AObj} (hY : oY = some (sO (l.map useC ++ [[I r, ls]]))) (hre : Re G0 π σ ls (flL less)) : ∃ g c0, (oY = some (sO ((l ++ [(r, less)]).map useC)) ∧ sO ((l ++ [(r, less)]).map useC) = .resv) ∨ (oY = some (.cells g c0) ∧ sO ((l ++ [(r, less)]).map useC) = .cells g ((l ++ [(r, less)]).map useC).flatten ∧ c0.length = ((l ++ [(r, less)]).map useC).flatten.length ∧
    ∀ (j : Nat) (y : AV), (((l ++ [(r, less)]).map useC).flatten)[j]? = some y → ∃ z, c0[j]? = some z ∧ Re G0 π σ z y) := by
  have e1 : sO ((l ++ [(r, less)]).map useC) = .cells l.length ((l ++ [(r, less)]).map useC).flatten := by
    cases l with
    | nil => rfl
    | cons u t => simp [sO]
  have e2 : sO (l.map useC ++ [[I r, ls]]) = .cells l.length ((l.map useC).flatten ++ [I r, ls]) := by
    cases l with
    | nil => rfl
    | cons u t => simp [sO]
  have e3 : ((l ++ [(r, less)]).map useC).flatten = (l.map useC).flatten ++ [I r, flL less] := by simp [useC]
  refine ⟨l.length, (l.map useC).flatten ++ [I r, ls], .inr ⟨hY.trans (by rw [e2]), e1, by rw [e3]; simp, fun j y hj => ?_⟩⟩
  rw [e3, List.getElem?_append] at hj
  by_cases hlt : j < ((l.map useC).flatten).length
  · rw [if_pos hlt] at hj
    exact ⟨y, by rw [List.getElem?_append_left hlt]; exact hj, Re.flat (flat_mem hj)⟩
  · rw [if_neg hlt] at hj
    rw [List.getElem?_append_right (by omega)]
    generalize j - ((l.map useC).flatten).length = i at hj
    match i, hj with
    | 0, hj => cases hj; exact ⟨_, rfl, re_int⟩
    | 1, hj => cases hj; exact ⟨_, rfl, hre⟩
    | i + 2, hj => simp at hj
theorem only_stM (p : Pb) (uc rc : List AV) (lv : AV) (lo Uo Lo : AObj) (r : Int) (Y : Heap) (left k : Int) (x : Rl) (n : Nat) (hn : 7 ≤ n) : ∀ y ∈ (stM p uc rc lv lo Uo Lo r Y left k x).a, Only (goodP n) y := of_all (fun q hq => by
  simp only [List.mem_cons, List.not_mem_nil, or_false] at hq
  rcases hq with rfl | rfl | rfl | rfl | rfl | rfl | rfl | rfl | rfl | rfl | rfl
  · exact .of0 (below_row (below_pb p))
  · exact .ref _ _ _ ⟨by omega, by omega, by omega⟩
  · exact .int _ _
  · exact .ref _ _ _ ⟨by omega, by omega, by omega⟩
  · exact .int _ _
  · exact .of0 (below_flR _)
  · exact .int _ _
  · exact .int _ _
  · exact .of0 (below_flL _)
  · exact .int _ _
  · exact .int _ _) .junk
/-- ONE VARIABLE OF A RULE. -/
theorem roundM {p : Pb} (hp : Ok p) {x : Rl} (hx : OkRule p.V x) (hs : x.sh) {us : List (List Use)} (hus : us.length = p.V.length) (hul : ∀ v, (us.getD v []).length < 1000000) (rs l : List Int) (r : Nat) {k : Nat} (hk : k < x.v.length) {left : Int} (hleft : -1000000000000 ≤ left ∧ left ≤ 1000000000000) :
    AExec Try.prog G0 (fun q => q = none) bodyM { tmps := (stM p (ucs us) (rs.map I) (sV 1 3 (rowI l)) (sO (rowI l)) .resv .resv r (uY us) left k x).a } (hS p us rs l (.cells 0 (rlC x))) .normal
      { tmps := (stM p (ucs (stepU us x r k)) (rs.map I) (sV 1 3 (rowI l)) (sO (rowI l)) .resv .resv r (uY (stepU us x r k)) (left - minL (x.w.getD k [])) (k + 1 : Nat) x).a } (hS p (stepU us x r k) rs l (.cells 0 (rlC x))) := by
  have hv := hx.v k hk
  have hn := hp.n
  have hxl := rule_len hx
  have hpos := rule_pos hp hx hk
  have hws := rule_sh hs k
  have hwl := hx.wl k hk
  have hVb := hp.v (x.v.getD k 0).toNat (by omega)
  have hmin := hx.w k hk _ (minL_mem hpos)
  have hwb : ∀ j, j < (x.w.getD k []).length → -4000000000000000000 ≤ (x.w.getD k []).getD j 0 - minL (x.w.getD k []) ∧ (x.w.getD k []).getD j 0 - minL (x.w.getD k []) ≤ 4000000000000000000 := fun j hj => by
    have := getD_bound (hx.w k hk) hj
    omega
  have hlen : (lessL (x.w.getD k [])).length = (x.w.getD k []).length := lessL_len _
  have hw1 : IntKind.i64.wrap (left - minL (x.w.getD k [])) = left - minL (x.w.getD k []) := wrapI (by omega)
  have hw2 : IntKind.i64.wrap ((k : Int) + 1) = ((k + 1 : Nat) : Int) := wrapS hk hs.1
  have hvl : (x.v.getD k 0).toNat < us.length := by omega
  have hi := (loopI (p := p) (ucs us) (rs.map I) (sV 1 3 (rowI l)) (sO (rowI l)) (.cells 0 (rlC x)) r (uY us) (left - minL (x.w.getD k [])) k (x.v.getD k 0) x (w := x.w.getD k []) (least := minL (x.w.getD k [])) (by omega) hwb).okB (fun _ _ => rfl) (c := bodyM) (i := 17) (keep := keepI) (one_loop loopsM)
  have key := runV True p (ucs us) (rs.map I) (sV 1 3 (rowI l)) (sO (rowI l)) r (sV 1 6 (rowI (lessL (x.w.getD k [])))) (sO (rowI (lessL (x.w.getD k [])))) (uY us) ((uY us).set (x.v.getD k 0).toNat (sO ((us.getD (x.v.getD k 0).toNat []).map useC ++ [[I (r : Int), sV 1 6 (rowI (lessL (x.w.getD k [])))]]))) left k x (maxL (lessL (x.w.getD k [])))
    (sV 2 (7 + (x.v.getD k 0).toNat) ((us.getD (x.v.getD k 0).toNat []).map useC)) (sV 2 (7 + (x.v.getD k 0).toNat) ((us.getD (x.v.getD k 0).toNat []).map useC ++ [[I (r : Int), sV 1 6 (rowI (lessL (x.w.getD k [])))]]))
    (sO ((us.getD (x.v.getD k 0).toNat []).map useC)) (sO ((us.getD (x.v.getD k 0).toNat []).map useC ++ [[I (r : Int), sV 1 6 (rowI (lessL (x.w.getD k [])))]]))
  rw [Int.toNat_natCast, hw1, hw2] at key
  have hcl : ClOk Try.prog G0 (EM (x.w.getD k []) (sV 1 6 (rowI (lessL (x.w.getD k [])))) (maxL (lessL (x.w.getD k []))) (hN p (ucs us) (rs.map I) (sV 1 3 (rowI l)) (sO (rowI l)) (.cells 0 (rlC x)) (.cells 0 [I (r : Int), sV 1 6 (rowI (lessL (x.w.getD k [])))]) (sO (rowI (lessL (x.w.getD k [])))) (uY us)) (x.v.getD k 0) r
      (sV 2 (7 + (x.v.getD k 0).toNat) ((us.getD (x.v.getD k 0).toNat []).map useC)) (sV 2 (7 + (x.v.getD k 0).toNat) ((us.getD (x.v.getD k 0).toNat []).map useC ++ [[I (r : Int), sV 1 6 (rowI (lessL (x.w.getD k [])))]]))
      (sO ((us.getD (x.v.getD k 0).toNat []).map useC)) (sO ((us.getD (x.v.getD k 0).toNat []).map useC ++ [[I (r : Int), sV 1 6 (rowI (lessL (x.w.getD k [])))]])) ((uY us).set (x.v.getD k 0).toNat (sO ((us.getD (x.v.getD k 0).toNat []).map useC ++ [[I (r : Int), sV 1 6 (rowI (lessL (x.w.getD k [])))]]))) True) := by
    refine .all ((hAlO_ok 5 aZero101 rfl fun n y hy => ?_).or ((hLdO_ok 0 Try.underlying102 rfl _).ok.or ((hApY_ok els102 fun _ => grow_U (by have := hul (x.v.getD k 0).toNat; omega) _ _ one_sV).or ((hLitO_ok els102 (by omega) _).ok.or (hSto_ok 0 (one_of (by kernel_rfl))).ok))))
      (clhK_ok (c68m (by show (lessL (x.w.getD k [])).length < _; rw [hlen]; exact hws) (by omega) rfl)) (fun l xs σ t v σ' h => (by cases h)) (clokG1 (q := True) (f := 36) fun _ => c36 hws hpos).cl
    simp only [List.mem_cons, List.not_mem_nil, or_false] at hy
    rcases hy with rfl | rfl
    · exact .int _ _
    · exact .zs
  have hlessre : ∀ (us' : List (List Use)) (Y : Heap), Re G0 (keepP (7 + us.length)) (hN p (ucs us') (rs.map I) (sV 1 3 (rowI l)) (sO (rowI l)) (.cells 0 (rlC x)) (.cells 0 [I (r : Int), sV 1 6 (rowI (lessL (x.w.getD k [])))]) (sO (rowI (lessL (x.w.getD k [])))) Y) (sV 1 6 (rowI (lessL (x.w.getD k [])))) (flL (lessL (x.w.getD k []))) :=
    fun us' Y => re_ints rfl fun q hq => by have := keepP_some hq; omega
  have hframe : ∀ (uc rc : List AV) (lv : AV) (lo Uo Lo : AObj) (Y : Heap) (lf kk : Int) (σ1 : Heap) (j : Nat) (y : AV), (stM p uc rc lv lo Uo Lo r Y lf kk x).a[j]? = some y → Re G0 (keepP (7 + us.length)) σ1 y y := fun uc rc lv lo Uo Lo Y lf kk σ1 j y hy =>
    Re.only (P := goodP (7 + us.length)) (fun q hq => .inr (keepP_at hq.1 hq.2.1 hq.2.2)) (only_stM p uc rc lv lo Uo Lo r Y lf kk x _ (by omega) y (List.mem_of_getElem? hy))
  by_cases hm : maxL (lessL (x.w.getD k [])) > 0
  · have hst : stepU us x r k = addU us (x.v.getD k 0).toNat (r, lessL (x.w.getD k [])) := if_pos hm
    have hucs := ucs_add us hvl (r, lessL (x.w.getD k [])) [I (r : Int), sV 1 6 (rowI (lessL (x.w.getD k [])))]
    have hsel : (xBodyM Try.prog G0 _ _ 200 _ keepM bodyM _).sel = some (.normal, stM p (ucs (stepU us x r k)) (rs.map I) (sV 1 3 (rowI l)) (sO (rowI l)) (.cells 0 [I (r : Int), sV 1 6 (rowI (lessL (x.w.getD k [])))]) (sO (rowI (lessL (x.w.getD k [])))) r ((uY us).set (x.v.getD k 0).toNat (sO ((us.getD (x.v.getD k 0).toNat []).map useC ++ [[I (r : Int), sV 1 6 (rowI (lessL (x.w.getD k [])))]]))) (left - minL (x.w.getD k [])) (k + 1 : Nat) x) := (congrArg Tree.sel key).trans (by
      rw [hst, ← hucs]
      have e0 : 0 + (x.v.getD k 0).toNat * 1 = (x.v.getD k 0).toNat := by omega
      have hxw := hx.len
      have g1 : (uY us)[(x.v.getD k 0).toNat]? = some (sO ((us.getD (x.v.getD k 0).toNat []).map useC)) := uY_get us hvl
      have gap := hN_set7 p (ucs us) (rs.map I) (sV 1 3 (rowI l)) (sO (rowI l)) (.cells 0 (rlC x)) (.cells 0 [I (r : Int), sV 1 6 (rowI (lessL (x.w.getD k [])))]) (sO (rowI (lessL (x.w.getD k [])))) (uY us) (x.v.getD k 0).toNat (sO ((us.getD (x.v.getD k 0).toNat []).map useC ++ [[I (r : Int), sV 1 6 (rowI (lessL (x.w.getD k [])))]]))
      have gat := (hN_at7 p (ucs us) (rs.map I) (sV 1 3 (rowI l)) (sO (rowI l)) (.cells 0 (rlC x)) (.cells 0 [I (r : Int), sV 1 6 (rowI (lessL (x.w.getD k [])))]) (sO (rowI (lessL (x.w.getD k [])))) (uY us) (x.v.getD k 0).toNat).trans g1
      have guv : (ucs us)[0 + (x.v.getD k 0).toNat * 1]? = some (sV 2 (7 + (x.v.getD k 0).toNat) ((us.getD (x.v.getD k 0).toNat []).map useC)) := by rw [e0]; exact ucs_get us hvl
      have hul2 : 0 + (x.v.getD k 0).toNat * 1 < (ucs us).length := by rw [ucs_len]; omega
      refine t_ite (fun _ => ?_) fun h => absurd (of_decide_eq_false h) (by omega)
      refine t_need ⟨by omega, by omega⟩ (t_need ⟨by omega, by omega⟩ (t_need trivial (t_need rfl (t_need rfl (t_need ⟨by omega, by omega⟩ (t_need rfl (t_need ⟨rfl, rfl⟩ (t_ite (fun _ => ?_) fun h => absurd (of_decide_eq_false h) (by omega)))))))))
      rw [show (setL (ucs us) (x.v.getD k 0).toNat [sV 2 (7 + (x.v.getD k 0).toNat) ((us.getD (x.v.getD k 0).toNat []).map useC ++ [[I (r : Int), sV 1 6 (rowI (lessL (x.w.getD k [])))]])]) = setL (ucs us) (0 + (x.v.getD k 0).toNat * 1) [sV 2 (7 + (x.v.getD k 0).toNat) ((us.getD (x.v.getD k 0).toNat []).map useC ++ [[I (r : Int), sV 1 6 (rowI (lessL (x.w.getD k [])))]])] from by rw [e0]]
      have hrow : ∀ z ∈ [I (r : Int), sV 1 6 (rowI (lessL (x.w.getD k [])))], z.one = true := fun z hz => by
        simp only [List.mem_cons, List.not_mem_nil, or_false] at hz
        rcases hz with rfl | rfl
        · rfl
        · exact one_sV
      repeat first
        | refine t_need rfl ?_
        | refine t_need ⟨rfl, rfl⟩ ?_
        | refine t_need ⟨hv.1, by omega, rfl⟩ ?_
        | refine t_need ⟨rfl, guv⟩ ?_
        | refine t_need ⟨rfl, rfl, hrow⟩ ?_
        | refine t_need ⟨rfl, rfl, trivial, gat, gap⟩ ?_
        | refine t_need ⟨one_sV, hul2⟩ ?_
      rfl)
    have hexec := (xBodyM_ok (m := []) (R := fun q => q = none) names mixed hcl hi hsel).1
    rw [hst] at hexec
    rw [hst]
    exact hexec.re (hre_round (addU_len _ _ _) (by rw [List.length_set, uY_len]) fun v hvv => by
      by_cases he : v = (x.v.getD k 0).toNat
      · subst he
        have e1 := addU_self hvl ((r : Int), lessL (x.w.getD k []))
        rw [e1]
        exact hu_new (by rw [List.getElem?_set_self (by rw [uY_len]; exact hvl)]) (hlessre _ _)
      · have e1 := addU_ne (us := us) he ((r : Int), lessL (x.w.getD k []))
        rw [e1]
        exact hu_same (by rw [List.getElem?_set_ne (Ne.symm he)]; exact uY_get us hvv)) nofun rfl fun j y hj => ⟨y, hj, hframe _ _ _ _ _ _ _ _ _ _ j y hj⟩
  · have hst : stepU us x r k = us := if_neg hm
    have hsel : (xBodyM Try.prog G0 _ _ 200 _ keepM bodyM _).sel = some (.normal, stM p (ucs us) (rs.map I) (sV 1 3 (rowI l)) (sO (rowI l)) (.cells 0 [I (r : Int), sV 1 6 (rowI (lessL (x.w.getD k [])))]) (sO (rowI (lessL (x.w.getD k [])))) r (uY us) (left - minL (x.w.getD k [])) (k + 1 : Nat) x) := (congrArg Tree.sel key).trans (by
      have hxw := hx.len
      refine t_ite (fun _ => ?_) fun h => absurd (of_decide_eq_false h) (by omega)
      refine t_need ⟨by omega, by omega⟩ (t_need ⟨by omega, by omega⟩ (t_need trivial (t_need rfl (t_need rfl (t_need ⟨by omega, by omega⟩ (t_need rfl (t_need ⟨rfl, rfl⟩ (t_ite (fun h => absurd (of_decide_eq_true h) hm) fun _ => ?_))))))))
      rfl)
    have hexec := (xBodyM_ok (m := []) (R := fun q => q = none) names mixed hcl hi hsel).1
    rw [hst]
    exact hexec.re (hre_round rfl (by rw [uY_len]) fun v hvv => hu_same (uY_get us hvv)) nofun rfl fun j y hj => ⟨y, hj, hframe _ _ _ _ _ _ _ _ _ _ j y hj⟩
end Go.Proofs.Ytngaihdpmoajeaa.Am

namespace Go.Proofs.Ytngaihdpmoajeaa.Am
open Go
set_option maxRecDepth 100000

theorem runVe (p : Pb) (uc rc : List AV) (lv : AV) (lo : AObj) (r : Int) (Y : Heap) (left : Int) (x : Rl) : xBody Try.prog G0 { boxRow := false, clh := failH } 200 noLoops keepM bodyM (stM p uc rc lv lo .resv .resv r Y left x.v.length x) = .ite (decide ((↑x.v.length : Int) < (↑x.v.length : Int))) (.need (((0 : Int) ≤ (↑x.v.length : Int)) ∧ ((↑x.v.length : Int) < (↑x.v.length : Int))) (.need (((0 : Int) ≤ (↑x.v.length : Int)) ∧ ((↑x.v.length : Int) < (↑x.w.length : Int))) .fail)) (.leaf ((Exit.exit (4 : Nat)), St.of 136 ((AObj.cells (0 : Nat) uc) :: ((AObj.cells (0 : Nat) rc) :: ((AObj.cells (0 : Nat) [(flL (p.V)), (flLL (p.C)), (flR (p.R)), AV.zs, (I ((0 : Int))), lv, (AV.ms (1 : Nat) (0 : Nat) (0 : Nat) (0 : Nat) (List.length (p.V)) (List.length (p.V))), (AV.ms (1 : Nat) (1 : Nat) (0 : Nat) (0 : Nat) (p.V.length + (1 : Nat)) (p.V.length + (1 : Nat)))]) :: (lo :: ((AObj.cells (0 : Nat) [(I (x.d)), (flL (x.v)), (flLL (x.w)), (I (x.m))]) :: (AObj.resv :: (AObj.resv :: Y))))))) [(1, (AV.row [(flL (p.V)), (flLL (p.C)), (flR (p.R))] (0 : Nat)), true), (3, (AV.ref (2 : Nat) (0 : Nat) (0 : Nat)), true), (5, (I r), true), (6, (AV.ref (4 : Nat) (0 : Nat) (0 : Nat)), true), (7, (I left), true), (56, (flR (p.R)), true), (57, (I ((↑p.R.length : Int))), true), (58, (I r), true), (66, (flL (x.v)), true), (67, (I ((↑x.v.length : Int))), true), (68, (I ((↑x.v.length : Int))), true)])) := by kernel_rfl
def usM (us : List (List Use)) (x : Rl) (r : Nat) : Nat → List (List Use)
  | 0 => us
  | k + 1 => stepU (usM us x r k) x r k
def leftM (x : Rl) (k : Nat) : Int := x.m - sumK (fun i => minL (x.w.getD i [])) k
theorem usM_len (us : List (List Use)) (x : Rl) (r : Nat) : ∀ k, (usM us x r k).length = us.length
  | 0 => rfl
  | k + 1 => by unfold usM; rw [stepU_len, usM_len us x r k]
theorem addU_le (us : List (List Use)) (w v : Nat) (u : Use) : ((addU us w u).getD v []).length ≤ (us.getD v []).length + 1 := by
  by_cases hv : v = w
  · subst hv
    by_cases hl : v < us.length
    · rw [addU_self hl]; simp
    · unfold addU
      rw [List.set_eq_of_length_le (by omega)]
      omega
  · rw [addU_ne hv]; omega
theorem usM_le (us : List (List Use)) (x : Rl) (r v : Nat) : ∀ k, ((usM us x r k).getD v []).length ≤ (us.getD v []).length + k
  | 0 => Nat.le_refl _
  | k + 1 => by
    have ih := usM_le us x r v k
    unfold usM stepU
    split
    · have := addU_le (usM us x r k) (x.v.getD k 0).toNat v (r, lessL (x.w.getD k []))
      omega
    · omega
theorem leftM_bound {p : Pb} (hp : Ok p) {x : Rl} (hx : OkRule p.V x) {k : Nat} (hk : k ≤ x.v.length) : -13000000000 ≤ leftM x k ∧ leftM x k ≤ 13000000000 := by
  have h1 := sumK_bound (f := fun i => minL (x.w.getD i [])) (k := k) (lo := -100000000) (hi := 100000000) fun i hi => hx.w i (by omega) _ (minL_mem (rule_pos hp hx (by omega)))
  have h2 := rule_len hx
  have h3 := hp.n
  have h4 := hx.m
  unfold leftM
  omega
theorem loopM {p : Pb} (hp : Ok p) {x : Rl} (hx : OkRule p.V x) (hs : x.sh) {us : List (List Use)} (hus : us.length = p.V.length) (hul : ∀ v, (us.getD v []).length < 900000) (rs l : List Int) (r : Nat) :
    LoopA bodyM x.v.length (fun k => stM p (ucs (usM us x r k)) (rs.map I) (sV 1 3 (rowI l)) (sO (rowI l)) .resv .resv r (uY (usM us x r k)) (leftM x k) k x) (fun k => stM p (ucs (usM us x r k)) (rs.map I) (sV 1 3 (rowI l)) (sO (rowI l)) .resv .resv r (uY (usM us x r k)) (leftM x k) k x)
      (stM p (ucs (usM us x r x.v.length)) (rs.map I) (sV 1 3 (rowI l)) (sO (rowI l)) .resv .resv r (uY (usM us x r x.v.length)) (leftM x x.v.length) x.v.length x) .ret (.exit 4) fun _ => false where
  n0 _ := rfl
  nR _ := rfl
  nX := rfl
  neR := nofun
  neX := nofun
  go k hk _ _ := by
    have hb := leftM_bound hp hx (k := k) (by omega)
    have hxl := rule_len hx
    have hn := hp.n
    have key := roundM hp hx hs (us := usM us x r k) (by rw [usM_len]; exact hus) (fun v => by have := usM_le us x r v k; have := hul v; omega) rs l r hk (left := leftM x k) (by omega)
    have e : leftM x k - minL (x.w.getD k []) = leftM x (k + 1) := by
      unfold leftM
      have : sumK (fun i => minL (x.w.getD i [])) (k + 1) = sumK (fun i => minL (x.w.getD i [])) k + minL (x.w.getD k []) := rfl
      omega
    rw [e] at key
    exact key
  st k _ _ h := by cases h
  en _ := rnd (.all .none failH_ok (fun l xs σ t v σ' h => (by cases h)) fun f xs t v h => by cases h) (lpNo _) ((congrArg Tree.sel (runVe p _ _ _ _ r _ _ x)).trans (selIf (dF (by omega)))) rfl
/-! ### One rule -/
def stO (p : Pb) (uc rc : List AV) (lv : AV) (lo X : AObj) (Y : Heap) (r : Int) : St :=
  .of 136 (hN p uc rc lv lo X .resv .resv Y) [(1, .row (pbC p) 0, true), (3, .ref 2 0 0, true), (56, flR p.R, true), (57, I p.R.length, true), (58, I r, true)]
def keepO : List Nat := [1, 3, 56, 57, 58]
def EO (left : Int) (lv lv' : AV) (lo lo' : AObj) (g : Prop) : Env := { boxRow := false, clh := failH, hint := orH (hAlO 56 4 [I 0, .zs, .zs, I 0]) (orH (hApO 22 1 3 [I left] lv lv' lo lo' g) (hSto 22 2)) }
theorem runO (g : Prop) (p : Pb) (uc uc' rc : List AV) (lv lv' : AV) (lo lo' : AObj) (Y Y' : Heap) (r left : Int) : xBody Try.prog G0 (EO left lv lv' lo lo' g) 200 (lpB 11 keepM (stM p uc rc lv lo .resv .resv r Y (p.R.getD r.toNat r0).m 0 (p.R.getD r.toNat r0)) (.exit 4) (stM p uc' rc lv lo .resv .resv r Y' left (p.R.getD r.toNat r0).v.length (p.R.getD r.toNat r0))) keepO bodyO (stO p uc rc lv lo .resv Y r) = .ite (decide (r < (↑p.R.length : Int))) (.need (((0 : Int) ≤ r) ∧ (r < (↑p.R.length : Int))) (.need ((Option.some AObj.resv) = (Option.some AObj.resv)) (.need ((stM p uc rc lv lo .resv .resv r Y (p.R.getD r.toNat r0).m 0 (p.R.getD r.toNat r0)).vals = (stM p uc rc lv lo .resv .resv r Y (p.R.getD r.toNat r0).m 0 (p.R.getD r.toNat r0)).vals) (.need (((Option.some [lv, (AV.sl (1 : Nat) [[(I left)]])]) = (Option.some [lv, (AV.sl (1 : Nat) [[(I left)]])])) ∧ (((Option.some lo) = (Option.some lo)) ∧ (g))) (.need (((AV.one lv') = true) ∧ ((5 : Nat) < (8 : Nat))) (.leaf (Exit.normal, St.of 136 ((AObj.cells (0 : Nat) uc') :: ((AObj.cells (0 : Nat) rc) :: ((AObj.cells (0 : Nat) (setL [(flL (p.V)), (flLL (p.C)), (flR (p.R)), AV.zs, (I ((0 : Int))), lv, (AV.ms (1 : Nat) (0 : Nat) (0 : Nat) (0 : Nat) (List.length (p.V)) (List.length (p.V))), (AV.ms ((1 : Nat)) ((1 : Nat)) ((0 : Nat)) ((0 : Nat)) (p.V.length + (1 : Nat)) (p.V.length + (1 : Nat)))] (5 : Nat) [lv'])) :: (lo' :: ((AObj.cells (0 : Nat) [(I ((p.R.getD r.toNat r0).d)), (flL ((p.R.getD r.toNat r0).v)), (flLL ((p.R.getD r.toNat r0).w)), (I ((p.R.getD r.toNat r0).m))]) :: (AObj.resv :: (AObj.resv :: Y'))))))) [(1, (AV.row [(flL (p.V)), (flLL (p.C)), (flR (p.R))] (0 : Nat)), true), (3, (AV.ref (2 : Nat) (0 : Nat) (0 : Nat)), true), (56, (flR (p.R)), true), (57, (I ((↑p.R.length : Int))), true), (58, (I (IntKind.i64.wrap (r + (1 : Int)))), true)]))))))) (.leaf ((Exit.exit (2 : Nat)), St.of 136 ((AObj.cells (0 : Nat) uc) :: ((AObj.cells (0 : Nat) rc) :: ((AObj.cells (0 : Nat) [(flL (p.V)), (flLL (p.C)), (flR (p.R)), AV.zs, (I ((0 : Int))), lv, (AV.ms (1 : Nat) (0 : Nat) (0 : Nat) (0 : Nat) (List.length (p.V)) (List.length (p.V))), (AV.ms (1 : Nat) (1 : Nat) (0 : Nat) (0 : Nat) (p.V.length + (1 : Nat)) (p.V.length + (1 : Nat)))]) :: (lo :: (AObj.resv :: (AObj.resv :: (AObj.resv :: Y))))))) [(1, (AV.row [(flL (p.V)), (flLL (p.C)), (flR (p.R))] (0 : Nat)), true), (3, (AV.ref (2 : Nat) (0 : Nat) (0 : Nat)), true), (56, (flR (p.R)), true), (57, (I ((↑p.R.length : Int))), true), (58, (I r), true)])) := by kernel_rfl
end Go.Proofs.Ytngaihdpmoajeaa.Am

namespace Go.Proofs.Ytngaihdpmoajeaa.Am
open Go
set_option maxRecDepth 100000

def uA (p : Pb) : Nat → List (List Use)
  | 0 => List.replicate p.V.length []
  | r + 1 => usM (uA p r) (p.R.getD r r0) r (p.R.getD r r0).v.length
def lfK (p : Pb) : Nat → List Int
  | 0 => []
  | r + 1 => lfK p r ++ [leftM (p.R.getD r r0) (p.R.getD r r0).v.length]
theorem uA_len (p : Pb) : ∀ r, (uA p r).length = p.V.length
  | 0 => by simp [uA]
  | r + 1 => by unfold uA; rw [usM_len, uA_len p r]
theorem lfK_len (p : Pb) : ∀ r, (lfK p r).length = r
  | 0 => rfl
  | r + 1 => by unfold lfK; rw [List.length_append, lfK_len p r]; rfl
theorem uA_le {p : Pb} (hp : Ok p) (v : Nat) : ∀ r, ((uA p r).getD v []).length ≤ 24 * r
  | 0 => by
    have : (uA p 0).getD v [] = [] := by
      unfold uA
      rw [List.getD_eq_getElem?_getD, List.getElem?_replicate]
      split <;> rfl
    rw [this]
    exact Nat.zero_le _
  | r + 1 => by
    have ih := uA_le hp v r
    have h1 := usM_le (uA p r) (p.R.getD r r0) r v (p.R.getD r r0).v.length
    have h2 := rule_len (rule_getD hp r)
    have h3 := hp.n
    unfold uA
    omega
/-- The objects but the rule's. -/
def keep4 (n : Nat) : Nat → Option Nat := fun q => if q = 4 then none else if q < n then some q else none
theorem keep4_at {n q : Nat} (h5 : q ≠ 4) (hq : q < n) : keep4 n q = some q := by simp [keep4, h5, hq]
theorem keep4_some {n q z : Nat} (h : keep4 n q = some z) : q ≠ 4 ∧ q < n ∧ z = q := by
  unfold keep4 at h
  split at h
  · cases h
  · split at h
    · cases h; exact ⟨‹_›, ‹_›, rfl⟩
    · cases h
def good4 (n r : Nat) : Prop := r ≠ 4 ∧ r < n
theorem only_sV' {P : Nat → Prop} {s r : Nat} {rows : List (List AV)} (h : P r) : Only P (sV s r rows) := by
  cases rows with
  | nil => exact .zs
  | cons x l => exact .ms _ _ _ _ _ _ h
theorem only_ucs4 {n : Nat} (us : List (List Use)) (hn : 7 + us.length ≤ n) : ∀ x ∈ ucs us, Only (good4 n) x := fun x hx => by
  unfold ucs at hx
  obtain ⟨i, hi, rfl⟩ := List.mem_mapIdx.1 hx
  exact only_sV' ⟨by omega, by omega⟩
/-- The rule's variable is forgotten. -/
theorem hre_rule {p : Pb} {us us' : List (List Use)} {rs l l' : List Int} {X : AObj} (hl : us'.length = us.length) :
    HRe G0 (keep4 (7 + us.length)) (hS p us rs l .resv) (hS p us' rs l' X) (hS p us' rs l' .resv) := by
  have hk : ∀ r, good4 (7 + us.length) r → (hS p us' rs l' X)[r]? = some .resv ∨ keep4 (7 + us.length) r = some r := fun r hr => .inr (keep4_at hr.1 hr.2)
  have same : ∀ {q g : Nat} {c : List AV}, keep4 (7 + us.length) q = some q → (hS p us' rs l' X)[q]? = some (.cells g c) → (∀ z ∈ c, Only (good4 (7 + us.length)) z) → ORe G0 (keep4 (7 + us.length)) (hS p us' rs l' X) q (.cells g c) :=
    fun {q g c} h1 h2 h3 => ⟨q, c, h1, h2, rfl, fun j y hj => ⟨y, hj, Re.only hk (h3 y (List.mem_of_getElem? hj))⟩⟩
  have hlen : ∀ (us : List (List Use)) (l : List Int) (X : AObj), (hS p us rs l X).length = 7 + us.length := fun us l X => by unfold hS; rw [hN_len, uY_len]
  refine ⟨gbelow0, fun q o ho hne => ?_, fun q q' z h1 h2 => ?_, fun q z h1 => ?_, fun q o ho => ?_⟩
  · have hq : q < 7 + us.length := by
      have := (List.getElem?_eq_some_iff.1 ho).1
      rwa [hlen] at this
    refine keep4_at (fun e => ?_) hq
    subst e; cases ho; exact hne rfl
  · have := keep4_some h1
    have := keep4_some h2
    omega
  · rw [hlen]
    have := keep4_some h1
    omega
  · match q, ho with
    | 0, ho => cases ho; exact same (keep4_at (by omega) (by omega)) rfl (only_ucs4 us' (by omega))
    | 1, ho =>
      cases ho
      refine same (keep4_at (by omega) (by omega)) rfl fun z hz => ?_
      obtain ⟨n, _, rfl⟩ := List.mem_map.1 hz
      exact .int _ _
    | 2, ho =>
      cases ho
      refine same (keep4_at (by omega) (by omega)) rfl fun z hz => ?_
      simp only [List.mem_cons, List.not_mem_nil, or_false] at hz
      rcases hz with rfl | rfl | rfl | rfl | rfl | rfl | rfl | rfl
      · exact .of0 (below_flL _)
      · exact .of0 (below_flLL _)
      · exact .of0 (below_flR _)
      · exact .zs
      · exact .int _ _
      · exact only_sV' ⟨by omega, by omega⟩
      · exact .ms _ _ _ _ _ _ ⟨by omega, by omega⟩
      · exact .ms _ _ _ _ _ _ ⟨by omega, by omega⟩
    | 3, ho =>
      have ho' : some (sO (rowI l')) = some o := ho
      cases ho'
      cases l' with
      | nil => exact fun z hz => by obtain ⟨_, _, rfl⟩ := keep4_some hz; rfl
      | cons y t =>
        refine same (q := 3) (g := (rowI t).length) (c := (rowI (y :: t)).flatten) (keep4_at (by omega) (by omega)) rfl fun z hz => ?_
        rw [rowI_flatten] at hz
        obtain ⟨n, _, rfl⟩ := List.mem_map.1 hz
        exact .int _ _
    | 4, ho => cases ho; exact fun z hz => absurd rfl (keep4_some hz).1
    | 5, ho => cases ho; exact fun z hz => by obtain ⟨_, _, rfl⟩ := keep4_some hz; rfl
    | 6, ho => cases ho; exact fun z hz => by obtain ⟨_, _, rfl⟩ := keep4_some hz; rfl
    | q + 7, ho =>
      have ho' : (uY us')[q]? = some o := ho
      have hq : q < us.length := by have := (List.getElem?_eq_some_iff.1 ho').1; rw [uY_len] at this; omega
      have hsome := ho'
      rw [uY_get us' (by omega)] at ho'
      cases ho'
      obtain ⟨g, c0, h | ⟨h1, h2, h3, h4⟩⟩ := hu_same (π := keep4 (7 + us.length)) (σ := hS p us' rs l' X) hsome
      · rw [h.2]
        intro z hz
        obtain ⟨_, _, rfl⟩ := keep4_some hz
        show (uY us')[q]? = _
        rw [hsome, h.2]
      · rw [h2]
        exact ⟨q + 7, c0, keep4_at (by omega) (by omega), h1, h3.symm, h4⟩
theorem loopsOu : (∀ x ∈ loopsOf bodyO, idOf x = 11 → x = bodyM) ∧ ∀ x ∈ loopsOf bodyO, idOf x = 17 → x = bodyI := two_loops loopsO (by kernel_rfl) (by kernel_rfl) (by omega)
theorem aZero56 : (aZero Try.prog 56).map AV.cells = some [I 0, .zs, .zs, I 0] := by kernel_rfl
theorem only_stO (p : Pb) (uc rc : List AV) (lv : AV) (lo X : AObj) (Y : Heap) (r : Int) (n : Nat) (hn : 7 ≤ n) : ∀ y ∈ (stO p uc rc lv lo X Y r).a, Only (good4 n) y := of_all (fun q hq => by
  simp only [List.mem_cons, List.not_mem_nil, or_false] at hq
  rcases hq with rfl | rfl | rfl | rfl | rfl
  · exact .of0 (below_row (below_pb p))
  · exact .ref _ _ _ ⟨by omega, by omega⟩
  · exact .of0 (below_flR _)
  · exact .int _ _
  · exact .int _ _) .junk
theorem runOe (p : Pb) (uc rc : List AV) (lv : AV) (lo : AObj) (Y : Heap) : xBody Try.prog G0 { boxRow := false, clh := failH, hint := hNoAl } 200 noLoops keepO bodyO (stO p uc rc lv lo .resv Y p.R.length) = .ite (decide ((↑p.R.length : Int) < (↑p.R.length : Int))) (.need (((0 : Int) ≤ (↑p.R.length : Int)) ∧ ((↑p.R.length : Int) < (↑p.R.length : Int))) (.need (False) .fail)) (.leaf ((Exit.exit (2 : Nat)), St.of 136 ((AObj.cells (0 : Nat) uc) :: ((AObj.cells (0 : Nat) rc) :: ((AObj.cells (0 : Nat) [(flL (p.V)), (flLL (p.C)), (flR (p.R)), AV.zs, (I ((0 : Int))), lv, (AV.ms (1 : Nat) (0 : Nat) (0 : Nat) (0 : Nat) (List.length (p.V)) (List.length (p.V))), (AV.ms (1 : Nat) (1 : Nat) (0 : Nat) (0 : Nat) (p.V.length + (1 : Nat)) (p.V.length + (1 : Nat)))]) :: (lo :: (AObj.resv :: (AObj.resv :: (AObj.resv :: Y))))))) [(1, (AV.row [(flL (p.V)), (flLL (p.C)), (flR (p.R))] (0 : Nat)), true), (3, (AV.ref (2 : Nat) (0 : Nat) (0 : Nat)), true), (56, (flR (p.R)), true), (57, (I ((↑p.R.length : Int))), true), (58, (I ((↑p.R.length : Int))), true)])) := by kernel_rfl
theorem loopO {p : Pb} (hs : p.sh) (hp : Ok p) (rs : List Int) : LoopA bodyO p.R.length (fun r => stO p (ucs (uA p r)) (rs.map I) (sV 1 3 (rowI (lfK p r))) (sO (rowI (lfK p r))) .resv (uY (uA p r)) r) (fun r => stO p (ucs (uA p r)) (rs.map I) (sV 1 3 (rowI (lfK p r))) (sO (rowI (lfK p r))) .resv (uY (uA p r)) r)
    (stO p (ucs (uA p p.R.length)) (rs.map I) (sV 1 3 (rowI (lfK p p.R.length))) (sO (rowI (lfK p p.R.length))) .resv (uY (uA p p.R.length)) p.R.length) .ret (.exit 2) fun _ => false where
  n0 _ := rfl
  nR _ := rfl
  nX := rfl
  neR := nofun
  neX := nofun
  go r hr _ _ := by
    have hR := hp.r
    have hx := rule_getD hp r
    have hxs := sh_getR hs.2.2.2.2 r
    have hm := (loopM hp hx hxs (us := uA p r) (uA_len p r) (fun v => by have := uA_le hp v r; omega) rs (lfK p r) r).okB (fun _ _ => rfl) (c := bodyO) (i := 11) (keep := keepM) loopsOu.1
    have e0 : leftM (p.R.getD r r0) 0 = (p.R.getD r r0).m := by unfold leftM; exact Int.sub_zero _
    simp only [e0] at hm
    have hl := lfK_len p r
    have hcl : ClOk Try.prog G0 (EO (leftM (p.R.getD r r0) (p.R.getD r r0).v.length) (sV 1 3 (rowI (lfK p r))) (sV 1 3 (rowI (lfK p (r + 1)))) (sO (rowI (lfK p r))) (sO (rowI (lfK p (r + 1)))) True) := by
      refine .all ((hAlO_ok 4 aZero56 rfl fun n y hy => ?_).or ((hApO_ok els22 fun _ => grow_I (by omega) _ 3).or (hSto_ok 2 one22).ok)) failH_ok (fun l xs σ t v σ' h => (by cases h)) fun f xs t v h => by cases h
      simp only [List.mem_cons, List.not_mem_nil, or_false] at hy
      rcases hy with rfl | rfl | rfl | rfl
      · exact .int _ _
      · exact .zs
      · exact .zs
      · exact .int _ _
    have key := runO True p (ucs (uA p r)) (ucs (uA p (r + 1))) (rs.map I) (sV 1 3 (rowI (lfK p r))) (sV 1 3 (rowI (lfK p (r + 1)))) (sO (rowI (lfK p r))) (sO (rowI (lfK p (r + 1)))) (uY (uA p r)) (uY (uA p (r + 1))) r (leftM (p.R.getD r r0) (p.R.getD r r0).v.length)
    rw [Int.toNat_natCast, wrapS hr hs.2.2.2.1] at key
    have hsel : (xBody Try.prog G0 _ 200 _ keepO bodyO _).sel = some (.normal, stO p (ucs (uA p (r + 1))) (rs.map I) (sV 1 3 (rowI (lfK p (r + 1)))) (sO (rowI (lfK p (r + 1)))) (.cells 0 (rlC (p.R.getD r r0))) (uY (uA p (r + 1))) (r + 1 : Nat)) := (congrArg Tree.sel key).trans (by
      refine t_ite (fun _ => ?_) fun h => absurd (of_decide_eq_false h) (by omega)
      repeat first
        | refine t_need rfl ?_
        | refine t_need ⟨by omega, by omega⟩ ?_
        | refine t_need ⟨rfl, rfl, trivial⟩ ?_
        | refine t_need ⟨one_sV, by omega⟩ ?_
      rfl)
    have hexec := (xBody_ok (m := []) (R := fun q => q = none) names mixed hcl hm hsel).1
    have hre : HRe G0 (keep4 (7 + (uA p r).length)) (hS p (uA p r) rs (lfK p r) .resv) (hS p (uA p (r + 1)) rs (lfK p (r + 1)) (.cells 0 (rlC (p.R.getD r r0)))) (hS p (uA p (r + 1)) rs (lfK p (r + 1)) .resv) := hre_rule (by rw [uA_len, uA_len])
    exact hexec.re hre nofun rfl fun j y hj => ⟨y, hj, Re.only (P := good4 (7 + (uA p r).length)) (fun q hq => .inr (keep4_at hq.1 hq.2)) (only_stO p _ _ _ _ _ _ _ _ (by omega) y (List.mem_of_getElem? hj))⟩
  st r _ _ h := by cases h
  en _ := rnd (.all hNoAl_ok.ok failH_ok (fun l xs σ t v σ' h => (by cases h)) fun f xs t v h => by cases h) (lpNo _) ((congrArg Tree.sel (runOe p _ _ _ _ _)).trans (selIf (dF (by omega)))) rfl
end Go.Proofs.Ytngaihdpmoajeaa.Am

namespace Go.Proofs.Ytngaihdpmoajeaa.Am
open Go
set_option maxRecDepth 100000

noncomputable def c46a : Code := fstS b46
noncomputable def c46c : Code := sndS (sndS b46)
theorem code46 : bodyOf Try.prog 46 = .seq c46a (.seq (.region 1 ops46.toArray true) c46c) := by kernel_rfl
theorem loops46c : loopsOf c46c = [bodyR, bodyO, bodyM, bodyI] := by kernel_rfl
def st46i (p : Pb) (h : Heap) : St := .of 136 h [(0, pAV p, true)]
theorem run46a (p : Pb) (h : Heap) : xBody Try.prog G0 {} 200 noLoops [1, 2] c46a (st46i p h) = .leaf (Exit.normal, St.of 136 h [(1, (AV.row [(flL (p.V)), (flLL (p.C)), (flR (p.R))] (0 : Nat)), true), (2, AV.nilp, false)]) := by kernel_rfl
def st46e (h : Heap) : St := .of 136 h [(2, .ref 2 0 0, true)]
theorem run46c (p : Pb) (uc rc : List AV) (lv : AV) (lo : AObj) (Y0 Y : Heap) : xBody Try.prog G0 { boxRow := false, clh := failH } 200 (lpAnd (lpB 3 [1, 2, 3, 4] (stR p (repl (p.V.length + 1) [I 0]) (IntKind.i64.wrap ((p.V.length : Int) - 1)) (.resv :: .resv :: .resv :: .resv :: Y0)) (.exit 0) (stR p rc (-1) (.resv :: .resv :: .resv :: .resv :: Y0))) (lpB 7 keepO (stO p (repl p.V.length [.zs]) rc .zs .resv .resv Y0 0) (.exit 2) (stO p uc rc lv lo .resv Y p.R.length))) [2] c46c (st46 p 13 (.cells 0 (repl p.V.length [.zs]) :: .cells 0 (repl (p.V.length + 1) [I 0]) :: .cells 0 (s46 p) :: .resv :: .resv :: .resv :: .resv :: Y0)) = .need ((stR p (repl (p.V.length + 1) [I 0]) (IntKind.i64.wrap ((p.V.length : Int) - 1)) (.resv :: .resv :: .resv :: .resv :: Y0)).vals = (stR p (repl (p.V.length + 1) [I 0]) (IntKind.i64.wrap ((p.V.length : Int) - 1)) (.resv :: .resv :: .resv :: .resv :: Y0)).vals) (.need ((stO p (repl p.V.length [.zs]) rc .zs .resv .resv Y0 0).vals = (stO p (repl p.V.length [.zs]) rc .zs .resv .resv Y0 0).vals) (.leaf (Exit.ret, St.of 136 ((AObj.cells (0 : Nat) uc) :: ((AObj.cells (0 : Nat) rc) :: ((AObj.cells (0 : Nat) [(flL (p.V)), (flLL (p.C)), (flR (p.R)), AV.zs, (I ((0 : Int))), lv, (AV.ms (1 : Nat) (0 : Nat) (0 : Nat) (0 : Nat) (List.length (p.V)) (List.length (p.V))), (AV.ms (1 : Nat) (1 : Nat) (0 : Nat) (0 : Nat) (p.V.length + (1 : Nat)) (p.V.length + (1 : Nat)))]) :: (lo :: (AObj.resv :: (AObj.resv :: (AObj.resv :: Y))))))) [(2, (AV.ref (2 : Nat) (0 : Nat) (0 : Nat)), true)]))) := by kernel_rfl
theorem ucs0 (n : Nat) : ucs (List.replicate n []) = repl n [.zs] := by
  apply List.ext_getElem?
  intro i
  have hr : ∀ n : Nat, repl n [AV.zs] = List.replicate n .zs := by
    intro n
    induction n with
    | zero => rfl
    | succ n ih => unfold repl; rw [ih]; rfl
  rw [hr]
  unfold ucs
  rw [List.getElem?_mapIdx, List.getElem?_replicate, List.getElem?_replicate]
  split <;> rfl
theorem uY0 (n : Nat) : uY (List.replicate n []) = List.replicate n .resv := by
  unfold uY
  rw [List.map_replicate]
  rfl
theorem ids46c : ∀ x ∈ loopsOf c46c, (idOf x = 3 → x = bodyR) ∧ (idOf x = 7 → x = bodyO) := by
  have h1 : idOf bodyR = 3 := by kernel_rfl
  have h2 : idOf bodyO = 7 := by kernel_rfl
  have h3 : idOf bodyM = 11 := by kernel_rfl
  have h4 : idOf bodyI = 17 := by kernel_rfl
  intro x hx
  rw [loops46c] at hx
  simp only [List.mem_cons, List.not_mem_nil, or_false] at hx
  rcases hx with rfl | rfl | rfl | rfl
  · exact ⟨fun _ => rfl, fun h => by omega⟩
  · exact ⟨fun h => by omega, fun _ => rfl⟩
  · exact ⟨fun h => by omega, fun h => by omega⟩
  · exact ⟨fun h => by omega, fun h => by omega⟩
theorem exec46 {p : Pb} (hs : p.sh) (hp : Ok p) : AExec Try.prog G0 (fun r => r = none) (bodyOf Try.prog 46) { tmps := (st46i p (List.replicate (7 + p.V.length) .resv)).a } (List.replicate (7 + p.V.length) .resv) .ret { tmps := (st46e []).a } (hS p (uA p p.R.length) (rsK p p.V.length) (lfK p p.R.length) .resv) := by
  rw [code46]
  have hn := hp.n
  have x0 : AExec Try.prog G0 (fun r => r = none) c46a { tmps := (st46i p (List.replicate (7 + p.V.length) .resv)).a } (st46i p (List.replicate (7 + p.V.length) .resv)).h .normal { tmps := (st46 p 0 (List.replicate (7 + p.V.length) .resv)).a } (st46 p 0 (List.replicate (7 + p.V.length) .resv)).h :=
    rnd clok0 (lpNo _) (congrArg Tree.sel (run46a p _)) (by kernel_rfl)
  have x1 := first46 (R := fun r => r = none) hn (p := p)
  have e4 : (List.replicate (4 + p.V.length) .resv : Heap) = .resv :: .resv :: .resv :: .resv :: List.replicate p.V.length .resv := by
    have : 4 + p.V.length = p.V.length + 1 + 1 + 1 + 1 := by omega
    rw [this]
    rfl
  rw [e4] at x1
  have hw : IntKind.i64.wrap ((p.V.length : Int) - 1) = (p.V.length : Int) - 1 := wrapI (by omega)
  have hR := (loopR hs hp (.resv :: .resv :: .resv :: .resv :: List.replicate p.V.length .resv)).okB (fun _ _ => rfl) (c := c46c) (i := 3) (keep := [1, 2, 3, 4]) (fun x hx => (ids46c x hx).1)
  have hO := (loopO hs hp (rsK p p.V.length)).okB (fun _ _ => rfl) (c := c46c) (i := 7) (keep := keepO) (fun x hx => (ids46c x hx).2)
  have e1 : (rsK p 0).map I = repl (p.V.length + 1) [I 0] := (repl_map _).symm
  have e2 : (p.V.length : Int) - 1 - (0 : Nat) = (p.V.length : Int) - 1 := by omega
  have e3 : ucs (uA p 0) = repl p.V.length [.zs] := ucs0 _
  have e5 : uY (uA p 0) = List.replicate p.V.length .resv := uY0 _
  have e6 : lfK p 0 = [] := rfl
  simp only [e1, e2] at hR
  simp only [e3, e5, e6] at hO
  have key := run46c p (ucs (uA p p.R.length)) ((rsK p p.V.length).map I) (sV 1 3 (rowI (lfK p p.R.length))) (sO (rowI (lfK p p.R.length))) (List.replicate p.V.length .resv) (uY (uA p p.R.length))
  rw [hw] at key
  have x2 : AExec Try.prog G0 (fun r => r = none) c46c { tmps := (st46 p 13 (.cells 0 (repl p.V.length [.zs]) :: .cells 0 (repl (p.V.length + 1) [I 0]) :: .cells 0 (s46 p) :: .resv :: .resv :: .resv :: .resv :: List.replicate p.V.length .resv)).a } (.cells 0 (repl p.V.length [.zs]) :: .cells 0 (repl (p.V.length + 1) [I 0]) :: .cells 0 (s46 p) :: .resv :: .resv :: .resv :: .resv :: List.replicate p.V.length .resv) .ret { tmps := (st46e (hS p (uA p p.R.length) (rsK p p.V.length) (lfK p p.R.length) .resv)).a } (hS p (uA p p.R.length) (rsK p p.V.length) (lfK p p.R.length) .resv) :=
    rnd (s := st46 p 13 (.cells 0 (repl p.V.length [.zs]) :: .cells 0 (repl (p.V.length + 1) [I 0]) :: .cells 0 (s46 p) :: .resv :: .resv :: .resv :: .resv :: List.replicate p.V.length .resv)) (t := st46e (hS p (uA p p.R.length) (rsK p p.V.length) (lfK p p.R.length) .resv)) (.all .none failH_ok (fun l xs σ t v σ' h => (by cases h)) fun f xs t v h => by cases h) (lpAnd_ok hR hO) ((congrArg Tree.sel key).trans (t_need rfl (t_need rfl rfl))) rfl
  exact .seq x0 (.seq x1 x2)
theorem map_getDU (l : List Use) {i : Nat} (hi : i < l.length) : (l.map useC).getD i [] = useC (l.getD i (0, [])) := by
  simp [List.getD_eq_getElem?_getD, hi]
/-- The search's state, its uses and rest told as data. -/
def endP : Nat → Option Nat
  | 0 => some 2
  | 1 => some 3
  | _ => none
theorem below_rs (l : List Int) : ∀ x ∈ l.map I, Below 0 x := fun x hx => by
  obtain ⟨n, _, rfl⟩ := List.mem_map.1 hx
  exact .int _ _
theorem c46 {p : Pb} (hs : p.sh) (hp : Ok p) : ACall Try.prog G0 46 [pAV p] [] SR (sH p .zs .resv 0 (lV (lfK p p.R.length)) (lO (lfK p p.R.length)) (uA p p.R.length) (rsK p p.V.length)) := by
  obtain ⟨fn, c, k1, k2, k3⟩ := fnOf (f := 46) (by kernel_rfl)
  have hall := exec46 hs hp
  rw [k3] at hall
  have hres : fn.results.toList = [.tmp 2] := by
    have : (Try.prog.funcs[46]?).map (·.results.toList) = some [.tmp 2] := by kernel_rfl
    rw [k1] at this
    exact Option.some.inj this
  have hnt : fn.ntmps = 136 := by
    have : (Try.prog.funcs[46]?).map (·.ntmps) = some 136 := by kernel_rfl
    rw [k1] at this
    exact Option.some.inj this
  have h1 : ACall Try.prog G0 46 [pAV p] (List.replicate (7 + p.V.length) .resv) (.ref 2 0 0) (hS p (uA p p.R.length) (rsK p p.V.length) (lfK p p.R.length) .resv) := by
    refine ACall.of_body (args := [pAV p]) (xs := [.ref 2 0 0]) k1 k2 (names 46 fn k1) (.weak ?_ hall) (.inr rfl) ?_
    · have e : (st46i p (List.replicate (7 + p.V.length) .resv)).a = pAV p :: List.replicate 135 .junk := by kernel_rfl
      rw [hnt, e]
      refine ⟨by simp, fun j y hj => ?_⟩
      match j, hj with
      | 0, hj => exact .inr hj
      | j + 1, hj => exact .inl (List.eq_of_mem_replicate (n := 135) (List.mem_of_getElem? (i := j) (by simpa using hj)))
    · rw [hres]
      have : (st46e []).a[2]? = some (.ref 2 0 0) := by kernel_rfl
      simp only [aResults, aResult, this]
  have h2 : ACall Try.prog G0 46 [pAV p] [] (.ref 2 0 0) (hS p (uA p p.R.length) (rsK p p.V.length) (lfK p p.R.length) .resv) := ACall.rooms (σ := []) (7 + p.V.length) h1
  have hul : (uA p p.R.length).length = p.V.length := uA_len p _
  have hrl : (rsK p p.V.length).length = p.V.length + 1 := rsK_len p _
  have no0 : ∀ q, endP q ≠ some 0 := fun q h => by
    match q, h with
    | 0, h => cases h
    | 1, h => cases h
  have no1 : ∀ q, endP q ≠ some 1 := fun q h => by
    match q, h with
    | 0, h => cases h
    | 1, h => cases h
  have no7 : ∀ q i, endP q ≠ some (7 + i) := fun q i h => by
    match q, h with
    | 0, h => simp only [endP, Option.some.injEq] at h; omega
    | 1, h => simp only [endP, Option.some.injEq] at h; omega
  have huses : Re G0 endP (hS p (uA p p.R.length) (rsK p p.V.length) (lfK p p.R.length) .resv) (.ms 1 0 0 0 p.V.length p.V.length) (usesAV (uA p p.R.length)) := by
    have := Re.data (G := G0) (π := endP) (σ := hS p (uA p p.R.length) (rsK p p.V.length) (lfK p p.R.length) .resv) (size := 1) (r := 0) (g := 0) (len := p.V.length) (cap := p.V.length) (cells := ucs (uA p p.R.length)) (rows := fun i => [useAV ((uA p p.R.length).getD i [])]) rfl no0 (by rw [ucs_len, hul]; omega) (fun i hi => rfl) fun i j y hi hj => by
      obtain rfl : j = 0 := by have := (List.getElem?_eq_some_iff.1 hj).1; simp at this; exact this
      cases hj
      refine ⟨_, by rw [Nat.mul_one, Nat.add_zero]; exact ucs_get _ (by omega), ?_⟩
      have hre := re_sV (π := endP) (s := 2) (r := 7 + i) (rows := ((uA p p.R.length).getD i []).map useC) (σ := hS p (uA p p.R.length) (rsK p p.V.length) (lfK p p.R.length) .resv) ((hN_at7 p _ _ _ _ _ _ _ _ i).trans (uY_get _ (by omega))) (fun q => no7 q i) (useC_rows _) (fun x hx y hy => by
        obtain ⟨u, _, rfl⟩ := List.mem_map.1 hx
        exact Re.flat (useC_below u y hy))
      rw [List.length_map] at hre
      exact hre.conv fun w M v hv => fl_congr (fun i hi => map_getDU _ hi) hv
    unfold usesAV
    rw [hul]
    exact this
  have hrest : Re G0 endP (hS p (uA p p.R.length) (rsK p p.V.length) (lfK p p.R.length) .resv) (.ms 1 1 0 0 (p.V.length + 1) (p.V.length + 1)) (flL (rsK p p.V.length)) := by
    have := Re.data (G := G0) (π := endP) (σ := hS p (uA p p.R.length) (rsK p p.V.length) (lfK p p.R.length) .resv) (size := 1) (r := 1) (g := 0) (len := p.V.length + 1) (cap := p.V.length + 1) (cells := (rsK p p.V.length).map I) (rows := fun i => [I ((rsK p p.V.length).getD i 0)]) rfl no1 (by rw [List.length_map, hrl]; omega) (fun i hi => rfl) fun i j y hi hj => by
      obtain rfl : j = 0 := by have := (List.getElem?_eq_some_iff.1 hj).1; simp at this; exact this
      cases hj
      exact ⟨_, by rw [Nat.mul_one, Nat.add_zero]; exact map_get _ (by omega), re_int⟩
    unfold flL
    rw [hrl]
    exact this
  have hleft : Re G0 endP (hS p (uA p p.R.length) (rsK p p.V.length) (lfK p p.R.length) .resv) (sV 1 3 (rowI (lfK p p.R.length))) (lV (lfK p p.R.length)) := by
    unfold lV
    cases rowI (lfK p p.R.length) with
    | nil => exact Re.flat .zs
    | cons x l => exact Re.ms rfl
  refine h2.re (π := endP) ⟨gbelow0, fun r o h => by simp at h, fun q q' z h h' => ?_, fun q z h => ?_, fun q o ho => ?_⟩ (Re.ref rfl)
  · match q, q', h, h' with
    | 0, 0, _, _ => rfl
    | 1, 1, _, _ => rfl
    | 0, 1, h, h' => cases h; cases h'
    | 1, 0, h, h' => cases h; cases h'
  · match q, h with
    | 0, h => show 0 < 3; omega
    | 1, h => show 1 < 3; omega
  · match q, ho with
    | 0, ho =>
      cases ho
      refine ⟨2, _, rfl, rfl, rfl, fun j y hj => ?_⟩
      match j, hj with
      | 0, hj => cases hj; exact ⟨_, rfl, Re.flat (below_flL _)⟩
      | 1, hj => cases hj; exact ⟨_, rfl, Re.flat (below_flLL _)⟩
      | 2, hj => cases hj; exact ⟨_, rfl, Re.flat (below_flR _)⟩
      | 3, hj => cases hj; exact ⟨_, rfl, Re.flat .zs⟩
      | 4, hj => cases hj; exact ⟨_, rfl, re_int⟩
      | 5, hj => cases hj; exact ⟨_, rfl, hleft⟩
      | 6, hj => cases hj; exact ⟨_, rfl, huses⟩
      | 7, hj => cases hj; exact ⟨_, rfl, hrest⟩
      | j + 8, hj => simp [sC] at hj
    | 1, ho =>
      have ho' : some (lO (lfK p p.R.length)) = some o := ho
      cases ho'
      generalize lfK p p.R.length = l
      cases l with
      | nil => exact fun z hz => by cases hz; rfl
      | cons y t =>
        refine ⟨3, (rowI (y :: t)).flatten, rfl, rfl, rfl, fun j z hj => ⟨z, hj, Re.flat ?_⟩⟩
        have hm : z ∈ (rowI (y :: t)).flatten := List.mem_of_getElem? hj
        rw [rowI_flatten] at hm
        exact below_rs _ z hm
    | 2, ho => cases ho; exact fun z hz => by cases hz
    | q + 3, ho => simp [sH] at ho
end Go.Proofs.Ytngaihdpmoajeaa.Am

namespace Go.Proofs.Ytngaihdpmoajeaa.Am
open Go
set_option maxRecDepth 100000

/-- What is left of each rule at the beginning of an assignment. -/
def leftA (p : Pb) (a : List Int) : List Int := p.R.map fun x => x.m - leastA x a
theorem leftA_len (p : Pb) (a : List Int) : (leftA p a).length = p.R.length := by simp [leftA]
theorem leftA_get (p : Pb) (a : List Int) {j : Nat} (hj : j < p.R.length) : (leftA p a).getD j 0 = (p.R.getD j r0).m - leastA (p.R.getD j r0) a := by
  simp [leftA, List.getD_eq_getElem?_getD, hj]
theorem list_ext {a b : List Int} (hl : a.length = b.length) (h : ∀ j, j < a.length → a.getD j 0 = b.getD j 0) : a = b := (list_eq_iff a b).2 ⟨hl, h⟩
theorem lfK_get (p : Pb) : ∀ r j, j < r → (lfK p r).getD j 0 = leftM (p.R.getD j r0) (p.R.getD j r0).v.length
  | r + 1, j, h => by
    have hl := lfK_len p r
    unfold lfK
    rw [List.getD_eq_getElem?_getD, List.getElem?_append]
    by_cases hj : j < r
    · rw [if_pos (by omega), ← List.getD_eq_getElem?_getD]
      exact lfK_get p r j hj
    · obtain rfl : j = r := by omega
      rw [if_neg (by omega), hl, Nat.sub_self]
      rfl
theorem least_nil {V : List Int} {x : Rl} (hx : OkRule V x) : leastA x [] = sumK (fun i => minL (x.w.getD i [])) x.v.length := sumK_congr fun i hi => by
  unfold leastT
  have := hx.v i hi
  have h0 : ¬ x.v.getD i 0 < (([] : List Int).length : Int) := by
    show ¬ x.v.getD i 0 < ((0 : Nat) : Int)
    omega
  rw [dF h0]
  rfl
/-- AT THE START. -/
theorem left_start {p : Pb} (hp : Ok p) : lfK p p.R.length = leftA p [] := list_ext (by rw [lfK_len, leftA_len]) fun j hj => by
  rw [lfK_len] at hj
  rw [lfK_get p _ j hj, leftA_get p [] hj, least_nil (rule_getD hp j)]
  rfl

/-! ### Uses by rule -/
def useT (u : List Use) (j : Nat) (x : Int) (i : Nat) : Int := if (u.getD i (0, [])).1.toNat = j then (u.getD i (0, [])).2.getD x.toNat 0 else 0
def tot (u : List Use) (j : Nat) (x : Int) : Int := sumK (useT u j x) u.length
theorem putL_get (u : List Use) (x : Int) (l : List Int) {j : Nat} (hj : j < l.length) : ∀ k, (putL u x l k).getD j 0 = l.getD j 0 - sumK (useT u j x) k
  | 0 => by show l.getD j 0 = l.getD j 0 - 0; omega
  | k + 1 => by
    have ih := putL_get u x l hj k
    have hl := putL_len u x l k
    have e : sumK (useT u j x) (k + 1) = sumK (useT u j x) k + useT u j x k := rfl
    unfold putL
    rw [getD_setL, e]
    unfold useT
    by_cases h : (u.getD k (0, [])).1.toNat = j
    · rw [if_pos ⟨h, by omega⟩, if_pos h, h, ih]
      unfold useT
      omega
    · rw [if_neg (fun hh => h hh.1), if_neg h, ih]
      unfold useT
      omega
theorem backL_get (u : List Use) (x : Int) (l : List Int) {j : Nat} (hj : j < l.length) : ∀ k, (backL u x l k).getD j 0 = l.getD j 0 + sumK (useT u j x) k
  | 0 => by show l.getD j 0 = l.getD j 0 + 0; omega
  | k + 1 => by
    have ih := backL_get u x l hj k
    have hl := backL_len u x l k
    have e : sumK (useT u j x) (k + 1) = sumK (useT u j x) k + useT u j x k := rfl
    unfold backL
    rw [getD_setL, e]
    unfold useT
    by_cases h : (u.getD k (0, [])).1.toNat = j
    · rw [if_pos ⟨h, by omega⟩, if_pos h, h, ih]
      unfold useT
      omega
    · rw [if_neg (fun hh => h hh.1), if_neg h, ih]
      unfold useT
      omega
theorem getD_app_lt {α : Type} {u : List α} {e : α} {i : Nat} {d : α} (h : i < u.length) : (u ++ [e]).getD i d = u.getD i d := by
  rw [List.getD_eq_getElem?_getD, List.getElem?_append_left h, ← List.getD_eq_getElem?_getD]
theorem getD_app_eq {α : Type} {u : List α} {e : α} {d : α} : (u ++ [e]).getD u.length d = e := by
  rw [List.getD_eq_getElem?_getD, List.getElem?_append_right (Nat.le_refl _), Nat.sub_self]
  rfl
theorem tot_app (u : List Use) (e : Use) (j : Nat) (x : Int) : tot (u ++ [e]) j x = tot u j x + if e.1.toNat = j then e.2.getD x.toNat 0 else 0 := by
  unfold tot
  rw [List.length_append, List.length_singleton]
  show sumK (useT (u ++ [e]) j x) u.length + useT (u ++ [e]) j x u.length = _
  have h1 : sumK (useT (u ++ [e]) j x) u.length = sumK (useT u j x) u.length := sumK_congr fun i hi => by
    unfold useT
    rw [getD_app_lt hi]
  have h2 : useT (u ++ [e]) j x u.length = if e.1.toNat = j then e.2.getD x.toNat 0 else 0 := by
    unfold useT
    rw [getD_app_eq]
  rw [h1, h2]
/-- What value x of variable v takes of a rule, by its i-th variable. -/
def dT' (y : Rl) (v : Nat) (x : Int) (i : Nat) : Int := if (y.v.getD i 0).toNat = v then (y.w.getD i []).getD x.toNat 0 - minL (y.w.getD i []) else 0
theorem less_zero {w : List Int} {i : Nat} (hi : i < w.length) (h : ¬ maxL (lessL w) > 0) : w.getD i 0 - minL w = 0 := by
  have h1 := maxL_ge (L := lessL w) (k := i) (by rw [lessL_len]; exact hi)
  rw [lessL_get w hi] at h1
  have h2 := minL_le hi
  omega
theorem tot_usM {V : List Int} {us : List (List Use)} {y : Rl} {r v : Nat} {x : Int} (hy : OkRule V y) (hv : v < us.length) (hx : (x.toNat : Int) < V.getD v 0) (j : Nat) : ∀ k, k ≤ y.v.length → tot ((usM us y r k).getD v []) j x = tot (us.getD v []) j x + if r = j then sumK (dT' y v x) k else 0
  | 0, _ => by
    have e : sumK (dT' y v x) 0 = 0 := rfl
    rw [e]
    show tot (us.getD v []) j x = _
    split <;> omega
  | k + 1, hk => by
    have ih := tot_usM (r := r) hy hv hx j k (by omega)
    have hl := usM_len us y r k
    have e : sumK (dT' y v x) (k + 1) = sumK (dT' y v x) k + dT' y v x k := rfl
    have hwl := hy.wl k (by omega)
    have hin : (y.v.getD k 0).toNat = v → x.toNat < (y.w.getD k []).length := fun h => by rw [h] at hwl; omega
    rw [e]
    show tot ((stepU (usM us y r k) y r k).getD v []) j x = _
    unfold stepU
    by_cases hm : maxL (lessL (y.w.getD k [])) > 0
    · rw [if_pos hm]
      by_cases he : (y.v.getD k 0).toNat = v
      · rw [he, addU_self (by omega), tot_app, ih]
        have e2 : dT' y v x k = (y.w.getD k []).getD x.toNat 0 - minL (y.w.getD k []) := if_pos he
        rw [lessL_get _ (hin he), e2]
        have e3 : ((r : Int)).toNat = r := Int.toNat_natCast r
        rw [e3]
        split <;> omega
      · rw [addU_ne (Ne.symm he), ih]
        have e2 : dT' y v x k = 0 := if_neg he
        rw [e2, Int.add_zero]
    · rw [if_neg hm, ih]
      have e2 : dT' y v x k = 0 := by
        unfold dT'
        split
        · rename_i he
          exact less_zero (hin he) hm
        · rfl
      rw [e2, Int.add_zero]
theorem tot_uA {p : Pb} (hp : Ok p) {v : Nat} {x : Int} (hv : v < p.V.length) (hx : (x.toNat : Int) < p.V.getD v 0) (j : Nat) : ∀ r, tot ((uA p r).getD v []) j x = if j < r then sumK (dT' (p.R.getD j r0) v x) (p.R.getD j r0).v.length else 0
  | 0 => by
    have e : (uA p 0).getD v [] = [] := by
      unfold uA
      rw [List.getD_eq_getElem?_getD, List.getElem?_replicate]
      split <;> rfl
    rw [e, if_neg (by omega)]
    rfl
  | r + 1 => by
    have ih := tot_uA hp hv hx j r
    have hk := tot_usM (rule_getD hp r) (us := uA p r) (r := r) (by rw [uA_len]; exact hv) hx j _ (Nat.le_refl _)
    show tot ((usM (uA p r) (p.R.getD r r0) r (p.R.getD r r0).v.length).getD v []) j x = _
    rw [hk, ih]
    by_cases h1 : r = j
    · subst h1
      rw [if_neg (by omega), if_pos rfl, if_pos (by omega)]
      omega
    · rw [if_neg h1]
      by_cases h2 : j < r
      · rw [if_pos h2, if_pos (by omega)]; omega
      · rw [if_neg h2, if_neg (by omega)]; omega
/-- What a value more does to the least sum. -/
theorem leastT_app {V : List Int} {y : Rl} (hy : OkRule V y) (a : List Int) (x : Int) {i : Nat} (hi : i < y.v.length) : leastT y (a ++ [x]) i = leastT y a i + dT' y a.length x i := by
  have hv := hy.v i hi
  unfold leastT dT'
  have hl : (a ++ [x]).length = a.length + 1 := by simp
  by_cases h1 : y.v.getD i 0 < a.length
  · rw [dT h1, dT (by omega), cond_true, cond_true, if_neg (by omega), getD_app_lt (by omega)]
    omega
  · rw [dF h1, cond_false]
    by_cases h2 : y.v.getD i 0 < (a.length : Int) + 1
    · have e : (y.v.getD i 0).toNat = a.length := by omega
      rw [dT (by omega), cond_true, if_pos e, e, getD_app_eq]
      omega
    · rw [dF (by omega), cond_false, if_neg (by omega)]
      omega
theorem sumK_add (f g : Nat → Int) : ∀ k, sumK (fun i => f i + g i) k = sumK f k + sumK g k
  | 0 => rfl
  | k + 1 => by
    have := sumK_add f g k
    show sumK (fun i => f i + g i) k + (f k + g k) = sumK f k + f k + (sumK g k + g k)
    omega
theorem leastA_app {V : List Int} {y : Rl} (hy : OkRule V y) (a : List Int) (x : Int) : leastA y (a ++ [x]) = leastA y a + sumK (dT' y a.length x) y.v.length := by
  unfold leastA
  rw [← sumK_add]
  exact sumK_congr fun i hi => leastT_app hy a x hi
/-- A VALUE IS PUT. -/
theorem left_put {p : Pb} (hp : Ok p) {a : List Int} (ha : a.length < p.V.length) {x : Int} (hx : (x.toNat : Int) < p.V.getD a.length 0) : putL ((uA p p.R.length).getD a.length []) x (leftA p a) ((uA p p.R.length).getD a.length []).length = leftA p (a ++ [x]) :=
  list_ext (by rw [putL_len, leftA_len, leftA_len]) fun j hj => by
    rw [putL_len, leftA_len] at hj
    rw [putL_get _ _ _ (by rw [leftA_len]; exact hj), leftA_get p _ hj, leftA_get p _ hj, leastA_app (rule_getD hp j)]
    have := tot_uA hp ha hx j p.R.length
    rw [if_pos hj] at this
    unfold tot at this
    omega
/-- A VALUE IS TAKEN BACK. -/
theorem left_back {p : Pb} (hp : Ok p) {a : List Int} (ha : a.length < p.V.length) {x : Int} (hx : (x.toNat : Int) < p.V.getD a.length 0) : backL ((uA p p.R.length).getD a.length []) x (leftA p (a ++ [x])) ((uA p p.R.length).getD a.length []).length = leftA p a :=
  list_ext (by rw [backL_len, leftA_len, leftA_len]) fun j hj => by
    rw [backL_len, leftA_len] at hj
    rw [backL_get _ _ _ (by rw [leftA_len]; exact hj), leftA_get p _ hj, leftA_get p _ hj, leastA_app (rule_getD hp j)]
    have := tot_uA hp ha hx j p.R.length
    rw [if_pos hj] at this
    unfold tot at this
    omega
end Go.Proofs.Ytngaihdpmoajeaa.Am

namespace Go.Proofs.Ytngaihdpmoajeaa.Am
open Go
set_option maxRecDepth 100000

/-- A use of variable v. -/
def IsUse (p : Pb) (r v : Nat) (e : Use) : Prop := ∃ j, j < r ∧ e.1 = (j : Int) ∧ ∃ i, i < (p.R.getD j r0).v.length ∧ e.2 = lessL ((p.R.getD j r0).w.getD i []) ∧ ((p.R.getD j r0).v.getD i 0).toNat = v
theorem use_usM {p : Pb} {us : List (List Use)} {r v : Nat} (h0 : ∀ e ∈ us.getD v [], IsUse p (r + 1) v e) : ∀ k, k ≤ (p.R.getD r r0).v.length → ∀ e ∈ (usM us (p.R.getD r r0) r k).getD v [], IsUse p (r + 1) v e
  | 0, _ => h0
  | k + 1, hk => by
    have ih := use_usM h0 k (by omega)
    intro e he
    have he' : e ∈ (stepU (usM us (p.R.getD r r0) r k) (p.R.getD r r0) r k).getD v [] := he
    unfold stepU at he'
    split at he'
    · by_cases hv : v = ((p.R.getD r r0).v.getD k 0).toNat
      · by_cases hl : v < (usM us (p.R.getD r r0) r k).length
        · rw [← hv, addU_self hl] at he'
          rcases List.mem_append.1 he' with h | h
          · exact ih e h
          · rw [List.mem_singleton.1 h]
            exact ⟨r, by omega, rfl, k, by omega, rfl, hv.symm⟩
        · unfold addU at he'
          rw [List.set_eq_of_length_le (by omega)] at he'
          exact ih e he'
      · rw [addU_ne hv] at he'
        exact ih e he'
    · exact ih e he'
theorem use_uA {p : Pb} (v : Nat) : ∀ r, ∀ e ∈ (uA p r).getD v [], IsUse p r v e
  | 0, e, he => by
    have e0 : (uA p 0).getD v [] = [] := by
      unfold uA
      rw [List.getD_eq_getElem?_getD, List.getElem?_replicate]
      split <;> rfl
    rw [e0] at he
    cases he
  | r + 1, e, he => use_usM (us := uA p r) (fun e he => by
      obtain ⟨j, h1, h2⟩ := use_uA v r e he
      exact ⟨j, by omega, h2⟩) _ (Nat.le_refl _) e he
theorem leftA_bound {p : Pb} (hp : Ok p) {a : List Int} (ha : Beg p a) (j : Nat) : -13000000000 ≤ (leftA p a).getD j 0 ∧ (leftA p a).getD j 0 ≤ 13000000000 := by
  by_cases hj : j < p.R.length
  · rw [leftA_get p a hj]
    have hx := rule_getD hp j
    have h1 := leastK_bound hp hx ha (k := (p.R.getD j r0).v.length) (Nat.le_refl _)
    have h2 := hx.m
    unfold leastA
    omega
  · have : (leftA p a).getD j 0 = 0 := by
      rw [List.getD_eq_getElem?_getD, List.getElem?_eq_none (by rw [leftA_len]; omega)]
      rfl
    rw [this]
    omega
/-- The uses of the next variable. -/
def nextU (p : Pb) (a : List Int) : List Use := (uA p p.R.length).getD a.length []
theorem fit_use {p : Pb} (hp : Ok p) {a b : List Int} (hb : Beg p b) {x : Int} (h0 : 0 ≤ x) (hx : x < p.V.getD a.length 0) : Fit (nextU p a) x (leftA p b) := by
  have hx' : (x.toNat : Int) < p.V.getD a.length 0 := by omega
  have hu : ∀ k, k < (nextU p a).length → IsUse p p.R.length a.length ((nextU p a).getD k (0, [])) := fun k hk => use_uA _ _ _ (getD_mem hk)
  have hin : ∀ j i, i < (p.R.getD j r0).v.length → ((p.R.getD j r0).v.getD i 0).toNat = a.length → x.toNat < ((p.R.getD j r0).w.getD i []).length := fun j i hi he => by
    have := (rule_getD hp j).wl i hi
    rw [he] at this
    omega
  refine ⟨h0, fun k hk => ?_, fun k hk => ?_, fun k hk => ?_, ?_, fun j => ?_⟩
  · obtain ⟨j, h1, h2, _⟩ := hu k hk
    rw [h2, leftA_len]
    omega
  · obtain ⟨j, h1, h2, i, h3, h4, h5⟩ := hu k hk
    rw [h4, lessL_len]
    exact hin j i h3 h5
  · obtain ⟨j, h1, h2, i, h3, h4, h5⟩ := hu k hk
    have hl := hin j i h3 h5
    rw [h4, lessL_get _ hl]
    have hx := rule_getD hp j
    have b1 := getD_bound (hx.w i h3) hl
    have b2 := hx.w i h3 _ (minL_mem (by omega))
    omega
  · have := uA_le hp a.length p.R.length
    have := hp.r
    unfold nextU
    omega
  · have := leftA_bound hp hb j
    omega
/-- No rule is broken for sure. -/
def Opn (p : Pb) (a : List Int) : Prop := ∀ j, j < p.R.length → leastA (p.R.getD j r0) a ≤ (p.R.getD j r0).m
theorem sumK_nonneg {f : Nat → Int} : ∀ {k : Nat}, (∀ i, i < k → 0 ≤ f i) → 0 ≤ sumK f k
  | 0, _ => Int.le_refl _
  | k + 1, h => by
    have := sumK_nonneg (k := k) fun i hi => h i (by omega)
    have := h k (by omega)
    show 0 ≤ sumK f k + f k
    omega
theorem sumK_mono {f : Nat → Int} {a b : Nat} (hab : a ≤ b) (h : ∀ i, i < b → 0 ≤ f i) : sumK f a ≤ sumK f b := by
  induction b with
  | zero =>
    obtain rfl : a = 0 := by omega
    exact Int.le_refl _
  | succ b ih =>
    by_cases he : a = b + 1
    · subst he; exact Int.le_refl _
    · have h1 := ih (by omega) fun i hi => h i (by omega)
      have h2 := h b (by omega)
      show _ ≤ sumK f b + f b
      omega
theorem putOk_iff (u : List Use) (x : Int) (l : List Int) : ∀ k, putOk u x l k = true ↔ ∀ i, i < k → (putL u x l (i + 1)).getD (u.getD i (0, [])).1.toNat 0 ≥ 0
  | 0 => ⟨fun _ i hi => absurd hi (by omega), fun _ => rfl⟩
  | k + 1 => by
    have ih := putOk_iff u x l k
    show (bif putOk u x l k then decide ((putL u x l (k + 1)).getD (u.getD k (0, [])).1.toNat 0 ≥ 0) else false) = true ↔ _
    constructor
    · intro h i hi
      cases hk : putOk u x l k with
      | false => rw [hk] at h; cases h
      | true =>
        rw [hk, cond_true] at h
        by_cases he : i = k
        · subst he; exact of_decide_eq_true h
        · exact ih.1 hk i (by omega)
    · intro h
      rw [ih.2 fun i hi => h i (by omega), cond_true]
      exact decide_eq_true (h k (by omega))
/-- WHEN put SAYS TRUE. -/
theorem put_opn {p : Pb} (hp : Ok p) {a : List Int} (ha : a.length < p.V.length) {x : Int} (h0 : 0 ≤ x) (hx : x < p.V.getD a.length 0) (ho : Opn p a) : putOk (nextU p a) x (leftA p a) (nextU p a).length = true ↔ Opn p (a ++ [x]) := by
  have hx' : (x.toNat : Int) < p.V.getD a.length 0 := by omega
  have hfin : putL (nextU p a) x (leftA p a) (nextU p a).length = leftA p (a ++ [x]) := left_put hp ha hx'
  have hu : ∀ k, k < (nextU p a).length → IsUse p p.R.length a.length ((nextU p a).getD k (0, [])) := fun k hk => use_uA _ _ _ (getD_mem hk)
  have hnn : ∀ j i, i < (nextU p a).length → 0 ≤ useT (nextU p a) j x i := fun j i hi => by
    unfold useT
    split
    · obtain ⟨j', h1, h2, i', h3, h4, h5⟩ := hu i hi
      have hl : x.toNat < ((p.R.getD j' r0).w.getD i' []).length := by
        have := (rule_getD hp j').wl i' h3
        rw [h5] at this
        omega
      rw [h4, lessL_get _ hl]
      have := minL_le hl
      omega
    · omega
  have hval : ∀ j, j < p.R.length → ∀ k, (putL (nextU p a) x (leftA p a) k).getD j 0 = (leftA p a).getD j 0 - sumK (useT (nextU p a) j x) k := fun j hj k => putL_get _ _ _ (by rw [leftA_len]; exact hj) k
  rw [putOk_iff]
  constructor
  · intro h j hj
    have hv := hval j hj (nextU p a).length
    rw [hfin, leftA_get p _ hj] at hv
    -- the last touch of rule j
    have key : ∀ k, k ≤ (nextU p a).length → (leftA p a).getD j 0 - sumK (useT (nextU p a) j x) k ≥ 0 := by
      intro k
      induction k with
      | zero =>
        intro _
        have := ho j hj
        rw [leftA_get p _ hj]
        show (p.R.getD j r0).m - leastA (p.R.getD j r0) a - 0 ≥ 0
        omega
      | succ k ih =>
        intro hk
        have ih := ih (by omega)
        by_cases he : ((nextU p a).getD k (0, [])).1.toNat = j
        · have := h k (by omega)
          rw [he, hval j hj] at this
          exact this
        · have e : sumK (useT (nextU p a) j x) (k + 1) = sumK (useT (nextU p a) j x) k + useT (nextU p a) j x k := rfl
          have e2 : useT (nextU p a) j x k = 0 := if_neg he
          omega
    have := key _ (Nat.le_refl _)
    omega
  · intro h k hk
    obtain ⟨j, h1, h2, _⟩ := hu k hk
    have e : ((nextU p a).getD k (0, [])).1.toNat = j := by rw [h2]; exact Int.toNat_natCast j
    rw [e, hval j h1]
    have hv := hval j h1 (nextU p a).length
    rw [hfin, leftA_get p _ h1] at hv
    have h3 := h j h1
    have h4 := sumK_mono (f := useT (nextU p a) j x) (show k + 1 ≤ (nextU p a).length by omega) (hnn j)
    omega
/-- WHEN open SAYS TRUE. -/
theorem open_opn (p : Pb) (a : List Int) : (!(leftA p a).any fun n => decide (n < 0)) = true ↔ Opn p a := by
  rw [Bool.not_eq_true', List.any_eq_false]
  constructor
  · intro h j hj
    have := h ((leftA p a).getD j 0) (getD_mem (by rw [leftA_len]; exact hj))
    rw [leftA_get p a hj, decide_eq_true_eq] at this
    omega
  · intro h n hn
    obtain ⟨j, hj, rfl⟩ := List.mem_iff_getElem.1 hn
    rw [leftA_len] at hj
    have h1 := h j hj
    have h2 := leftA_get p a hj
    rw [List.getD_eq_getElem?_getD, List.getElem?_eq_getElem (by rw [leftA_len]; exact hj)] at h2
    simp only [Option.getD_some] at h2
    rw [decide_eq_true_eq, h2]
    omega
end Go.Proofs.Ytngaihdpmoajeaa.Am

namespace Go.Proofs.Ytngaihdpmoajeaa.Am
open Go
set_option maxRecDepth 100000

/-- The heap while the values a are put; t: what lies behind them; Z: the others' objects. -/
def SH (p : Pb) (a t : List Int) (Z : Heap) : Heap := sH p (aV a t) (aO a t) (costA p a) (lV (leftA p a)) (lO (leftA p a)) (uA p p.R.length) (rsK p p.V.length) ++ Z
theorem sH_all (p : Pb) (a t : List Int) : ∀ o ∈ sH p (aV a t) (aO a t) (costA p a) (lV (leftA p a)) (lO (leftA p a)) (uA p p.R.length) (rsK p p.V.length), Alone 3 o := sH_alone (below_aV a t) (alone_aO a t) (below_lV _) (alone_lO _)
theorem besideS {f : FuncId} {args : List AV} {v : AV} {p : Pb} {a t : List Int} {h1 : Heap} (h : ACall Try.prog G0 f args (sH p (aV a t) (aO a t) (costA p a) (lV (leftA p a)) (lO (leftA p a)) (uA p p.R.length) (rsK p p.V.length)) v h1) (hl : h1.length = 3) (ha : ∀ x ∈ args, Below 3 x) (Z : Heap) : ACall Try.prog G0 f args (SH p a t Z) v (h1 ++ Z) :=
  h.beside (by rw [hl]; rfl) gbelow0 ha (sH_all p a t) Z
theorem below_SR : Below 3 SR := .ref _ _ _ (by omega)
theorem cost_app (p : Pb) (a : List Int) (x : Int) : costA p (a ++ [x]) = costA p a + (p.C.getD a.length []).getD x.toNat 0 := by
  unfold costA
  rw [List.length_append, List.length_singleton]
  show sumK (costT p (a ++ [x])) a.length + costT p (a ++ [x]) a.length = _
  have h1 : sumK (costT p (a ++ [x])) a.length = sumK (costT p a) a.length := sumK_congr fun i hi => by
    unfold costT
    rw [getD_app_lt hi]
  have h2 : costT p (a ++ [x]) a.length = (p.C.getD a.length []).getD x.toNat 0 := by
    unfold costT
    rw [getD_app_eq]
  rw [h1, h2]
theorem beg_app {p : Pb} {a : List Int} (ha : Beg p a) (hl : a.length < p.V.length) {x : Int} (h0 : 0 ≤ x) (hx : x < p.V.getD a.length 0) : Beg p (a ++ [x]) := by
  refine ⟨by simp; omega, fun k hk => ?_⟩
  have hk' : k < a.length + 1 := by simpa using hk
  by_cases he : k < a.length
  · rw [getD_app_lt he]
    exact ha.at' k he
  · obtain rfl : k = a.length := by omega
    rw [getD_app_eq]
    exact ⟨h0, hx⟩
/-- Room for what lies behind. -/
def Small (p : Pb) (a t : List Int) : Prop := (a ++ t).length ≤ p.V.length
section
variable {p : Pb} {a t : List Int}
/-- put. -/
theorem s65 (hp : Ok p) (ha : Beg p a) (hl : a.length < p.V.length) {x : Int} (h0 : 0 ≤ x) (hx : x < p.V.getD a.length 0) (hs : Small p a t) (Z : Heap) :
    ACall Try.prog G0 65 [SR, I x] (SH p a t Z) (.bool (putOk (nextU p a) x (leftA p a) (nextU p a).length)) (SH p (a ++ [x]) t.tail Z) := by
  have hb := beg_app ha hl h0 hx
  have hn := hp.n
  have hc := hp.c
  have hcl := hp.cl a.length hl
  have hk := costK_bound' hp hb
  rw [cost_app] at hk
  have key := c65 (p := p) (a := a) (t := t) (c := costA p a) (l := leftA p a) (us := uA p p.R.length) (rs := rsK p p.V.length) (x := x) (fit_use hp ha h0 hx) (by unfold Small at hs; omega) (by rw [uA_len]; exact hl) (by omega) (by omega) (by simp only [List.length_append, List.length_singleton] at hk; omega)
  have hput := left_put hp hl (x := x) (a := a) (by omega)
  have h1 := besideS key rfl (fun y hy => by
    simp only [List.mem_cons, List.not_mem_nil, or_false] at hy
    rcases hy with rfl | rfl
    · exact below_SR
    · exact .int _ _) Z
  rw [hput, ← cost_app] at h1
  have e : lV (leftA p a) = lV (leftA p (a ++ [x])) := lV_len (by rw [leftA_len, leftA_len])
  unfold SH at h1 ⊢
  rw [← e]
  exact h1
/-- back. -/
theorem s70 (hp : Ok p) (ha : Beg p a) (hl : a.length < p.V.length) {x : Int} (h0 : 0 ≤ x) (hx : x < p.V.getD a.length 0) (hs : Small p (a ++ [x]) t) (Z : Heap) :
    ACall Try.prog G0 70 [SR] (SH p (a ++ [x]) t Z) (.tup []) (SH p a (x :: t) Z) := by
  have hb := beg_app ha hl h0 hx
  have hn := hp.n
  have hc := hp.c
  have hcl := hp.cl a.length hl
  have hk := costK_bound' hp ha
  have happ := cost_app p a x
  have key := c70 (p := p) (a := a) (t := t) (c := costA p (a ++ [x])) (l := leftA p (a ++ [x])) (us := uA p p.R.length) (rs := rsK p p.V.length) (x := x) (fit_use hp hb h0 hx) (by unfold Small at hs; omega) (by rw [uA_len]; exact hl) (by omega) (by omega) (by omega)
  have hback := left_back hp hl (x := x) (a := a) (by omega)
  have h1 := besideS key rfl (fun y hy => by
    rw [List.mem_singleton.1 hy]; exact below_SR) Z
  have hcost : costA p (a ++ [x]) - (p.C.getD a.length []).getD x.toNat 0 = costA p a := by omega
  rw [hback, hcost] at h1
  have e : lV (leftA p (a ++ [x])) = lV (leftA p a) := lV_len (by rw [leftA_len, leftA_len])
  unfold SH at h1 ⊢
  rw [e] at h1 ⊢
  exact h1
/-- bound. -/
theorem s72 (hp : Ok p) (ha : Beg p a) (Z : Heap) : ACall Try.prog G0 72 [SR] (SH p a t Z) (I (boundA p a)) (SH p a t Z) := by
  have hn := hp.n
  have hl := ha.len
  have hr := rsK_get p p.V.length (Nat.le_refl _) a.length (by omega) hl
  have hk := costK_bound' hp ha
  have hr2 := restK_bound hp (i := a.length) (k := p.V.length - a.length) (by omega)
  have e : restA p a.length = sumK (restT p a.length) (p.V.length - a.length) := rfl
  have key := c72 (p := p) (a := a) (t := t) (c := costA p a) (l := lV (leftA p a)) (lo := lO (leftA p a)) (us := uA p p.R.length) (rs := rsK p p.V.length) (by rw [rsK_len]; omega) (by omega)
  have h1 := besideS key rfl (fun y hy => by
    rw [List.mem_singleton.1 hy]; exact below_SR) Z
  rw [hr] at h1
  exact h1
/-- open. -/
theorem s73 (hp : Ok p) (Z : Heap) : ACall Try.prog G0 73 [SR] (SH p a t Z) (.bool (!(leftA p a).any fun n => decide (n < 0))) (SH p a t Z) := by
  have hr := hp.r
  have key := c73 (p := p) (v := aV a t) (o := aO a t) (c := costA p a) (l := leftA p a) (us := uA p p.R.length) (rs := rsK p p.V.length) (by show (leftA p a).length < _; rw [leftA_len]; omega)
  exact besideS key rfl (fun y hy => by
    rw [List.mem_singleton.1 hy]; exact below_SR) Z
end
/-! ### The copy of the values -/
theorem run14c (v : AV) (r g len cap : Nat) (h h1 : Heap) : xCall Try.prog G0 { hint := orH (hNil 22) (hApp 22 .zs (.ms 1 r g 0 len cap) v h h1) } 200 14 [.ms 1 r g 0 len cap] [true] h =
    .need ((objAt h r g).isSome = true) (.ite false (.leaf (.zs, false, h)) (.need (some ([.zs, .ms 1 r g 0 len cap] : List AV) = some [.zs, .ms 1 r g 0 len cap] ∧ #[22, 22] = #[22, 22] ∧ h = h ∧ aAppend Try.prog h 22 22 .zs (.ms 1 r g 0 len cap) = some (v, h1)) (.leaf (v, true, h1)))) := by kernel_rfl
theorem c14p {L c : List Int} {len cap : Nat} (hlen : len = L.length) (hc : L = c.take len) (hl : c.length ≤ 16777216) {h : Heap} {r g : Nat} (ho : objAt h r g = some (c.map I)) (hle : len ≤ c.length) : ACall Try.prog G0 14 [.ms 1 r g 0 len cap] h (flL L) h := by
  have hconts : conts h 1 (.ms 1 r g 0 len cap) = some (len, L.map I) := by
    unfold conts
    simp only [ho]
    rw [if_pos ⟨trivial, by rw [List.length_map]; omega⟩]
    rw [hc]
    simp [List.map_take]
  have hcl : ∀ v h1, ClOk Try.prog G0 { hint := orH (hNil 22) (hApp 22 .zs (.ms 1 r g 0 len cap) v h h1) } := fun v h1 => .ofH rfl rfl ((hNil_ok Try.underlying22).or (hApp_ok _ _ _ _ _ _).ok) fun f xs t v h => by cases h
  by_cases h0 : L = []
  · have ha : aAppend Try.prog h 22 22 .zs (.ms 1 r g 0 len cap) = some (.zs, h) := by
      obtain ⟨ie, zx, h1, h2, h3, h4, h5, h6⟩ := el22.i
      have hn : notInt Try.prog 22 = true := by unfold notInt; rw [el22.u]
      unfold aAppend
      rw [el22.u]
      simp only [h1, h2, h3, hconts]
      subst h0
      simp only [List.length_nil] at hlen
      subst hlen
      have hall : (([] : List Int).map I).all AV.one = true := rfl
      simp only [hn, hall, h4, h5, h6, and_self, if_true]
    refine (xCall_ok (n := 200) (tags := [true]) (s := true) (v := .zs) names mixed (hcl .zs h) ?_).conv fun w M u hu => by rw [h0]; exact hu.flL_zs
    refine (congrArg Tree.sel (run14c _ r g len cap h _)).trans ?_
    rw [Tree.sel_need (by rw [ho]; rfl), selI, cond_false, Tree.sel_need ⟨rfl, rfl, rfl, ha⟩]
    rfl
  · have ha := append_zs el22 h (.ms 1 r g 0 len cap) (L := L.map I) (by rw [hconts, List.length_map, hlen]) (one_map L) (by rw [List.length_map]; omega) (by simpa using h0)
    rw [List.length_map] at ha
    refine ACall.newL (L := L) ?_
    refine xCall_ok (n := 200) (tags := [true]) (s := true) names mixed (hcl (.ms 1 h.length 0 0 L.length L.length) (h ++ [.cells 0 (L.map I)])) ?_
    refine (congrArg Tree.sel (run14c _ r g len cap h _)).trans ?_
    rw [Tree.sel_need (by rw [ho]; rfl), selI, cond_false, Tree.sel_need ⟨rfl, rfl, rfl, ha⟩]
    rfl
/-- The copy of the values. -/
theorem s14v {p : Pb} {a t : List Int} (hp : Ok p) (hs : Small p a t) (Z : Heap) : ACall Try.prog G0 14 [aV a t] (SH p a t Z) (flL a) (SH p a t Z) := by
  have hn := hp.n
  unfold Small at hs
  by_cases h0 : a ++ t = []
  · have ha : a = [] := (List.append_eq_nil_iff.1 h0).1
    have e : aV a t = .zs := by unfold aV; rw [h0]
    rw [e, ha]
    exact ((c14e _).arg1 sub_zs0).conv fun _ _ _ h => h.flL_zs
  · rw [aV_ms h0]
    refine c14p (c := a ++ t) rfl (by simp) (by omega) ?_ (by simp)
    unfold objAt
    have : (SH p a t Z)[2]? = some (aO a t) := rfl
    rw [this]
    unfold aO
    rw [sO_rowI h0]
    simp
end Go.Proofs.Ytngaihdpmoajeaa.Am

namespace Go.Proofs.Ytngaihdpmoajeaa.Am
open Go
set_option maxRecDepth 100000

/-- A call that leaves the heap alone, told at a heap (i: the temporary that holds the function; none: a named one). -/
def hCalT (i : Option Nat) (g : FuncId) (first caps xs : List AV) (v : AV) (h0 : Heap) : Heap → Oper → (Operand → Option AV) → Option (AV × Bool × Heap × Prop) := fun h o ρ => match o.op with
  | .call c => match c.callee with
    | .value (.tmp j) => match i with
      | some i => bif Nat.beq i j then some (v, true, h, ρ (.tmp j) = some (.fn g first caps) ∧ evAllR ρ c.args.toList = some xs ∧ h = h0) else none
      | none => none
    | .value (.func f) => match i with
      | some _ => none
      | none => bif Nat.beq f g then some (v, true, h, ρ (.func f) = some (.fn g first caps) ∧ evAllR ρ c.args.toList = some xs ∧ h = h0) else none
    | _ => none
  | _ => none
theorem hCalT_ok {i : Option Nat} {g : FuncId} {first caps xs : List AV} {v : AV} {h0 : Heap} (hc : ACall Try.prog G0 g (first ++ xs ++ caps) h0 v h0) : HintOk Try.prog G0 (hCalT i g first caps xs v h0) := by
  refine ⟨fun h o a m y tg h' p hh hp => ?_, fun h o ρ y tg h' p hh hp hq => ?_⟩
  · unfold hCalT at hh
    split at hh <;> first | (cases hh; done) | skip
    rename_i c ho
    split at hh <;> first | (cases hh; done) | skip
    · rename_i j hcal
      split at hh <;> first | (cases hh; done) | skip
      rename_i i
      cases hij : Nat.beq i j with
      | false => rw [hij] at hh; cases hh
      | true =>
        rw [hij, cond_true] at hh
        cases hh
        obtain ⟨p1, p2, rfl⟩ := hp
        exact AStep.call ho hcal p1 (by rw [evAllR_eq]; exact p2) hc
    · rename_i f hcal
      split at hh <;> first | (cases hh; done) | skip
      cases hij : Nat.beq f g with
      | false => rw [hij] at hh; cases hh
      | true =>
        rw [hij, cond_true] at hh
        cases hh
        obtain ⟨p1, p2, rfl⟩ := hp
        exact AStep.call ho hcal p1 (by rw [evAllR_eq]; exact p2) hc
  · unfold hCalT at hh
    split at hh <;> first | (cases hh; done) | skip
    split at hh <;> first | (cases hh; done) | skip
    · split at hh <;> first | (cases hh; done) | skip
      revert hh
      cases Nat.beq _ _ <;> intro hh <;> cases hh <;> rfl
    · split at hh <;> first | (cases hh; done) | skip
      revert hh
      cases Nat.beq _ _ <;> intro hh <;> cases hh <;> rfl
def caps71 (l nt nw nu : Nat) (mf : AV) : List AV := [.row [SR] 0, .row [.yf l] 0, .ref nt 0 0, .row [mf] 0, .ref nw 0 0, .ref nu 0 0]
def tags6 : List Bool := [true, true, true, true, true, true]
def cyK (l0 : Nat) (xs : List AV) (v : AV) (h0 h1 : Heap) : Nat → List AV → Heap → Option (Tree (AV × Heap)) := fun l ys h => some (.need (l = l0 ∧ ys = xs ∧ h = h0) (.leaf (v, h1)))
theorem cyK_ok {l0 : Nat} {xs0 : List AV} {v0 : AV} {h0 h1 : Heap} (hy : AYield Try.prog G0 l0 xs0 h0 v0 h1) : ∀ l xs σ t v σ', cyK l0 xs0 v0 h0 h1 l xs σ = some t → t.sel = some (v, σ') → AYield Try.prog G0 l xs σ v σ' := by
  intro l xs σ t v σ' hq hsel
  unfold cyK at hq
  cases hq
  obtain ⟨⟨rfl, rfl, rfl⟩, h2⟩ := Tree.of_need hsel
  cases h2
  exact hy
/-! ### The end of an assignment -/
def keep71 : List Nat := [0, 1, 2, 3, 4, 5, 6, 43, 44]
def st71 (l nt nw nu : Nat) (mf : AV) (h : Heap) (n k : Int) : St := .of 64 h [(0, .row [SR] 0, true), (1, .row [.yf l] 0, true), (2, .ref nt 0 0, true), (3, .row [mf] 0, true), (4, .ref nw 0 0, true), (5, .ref nu 0 0, true), (6, .bool false, false), (43, I n, true), (44, I k, true)]
def E71l (m l : Nat) (p : Pb) (v av : AV) (o : AObj) (c : Int) (lv : AV) (lo : AObj) (us : List (List (Int × List Int))) (rs : List Int) (Z : Heap) (b : Bool) (h1 : Heap) : Env := { boxRow := false, clh := failH, cy := cyK l [av, I c] (.bool b) (sH p v o c lv lo us rs ++ Z) h1, hint := orH (hLenT 22 [12, 40] v m) (hCalT none 14 [] [] [v] av (sH p v o c lv lo us rs ++ Z)) }
def E71n (m : Nat) (v : AV) : Env := { boxRow := false, clh := failH, hint := hLenT 22 [12, 40] v m }
theorem run71f (m : Nat) (l nt nw nu : Nat) (mf : AV) (p : Pb) (v av : AV) (o : AObj) (c : Int) (lv : AV) (lo : AObj) (us : List (List (Int × List Int))) (rs : List Int) (Z : Heap) (b : Bool) (h1 : Heap) : xenter Try.prog (E71l m l p v av o c lv lo us rs Z b h1) (xCode Try.prog G0 (E71l m l p v av o c lv lo us rs Z b h1) 200 (lpF 4 keep71 (st71 l nt nw nu mf (sH p v o c lv lo us rs ++ Z) (p.V.getD m 0) 0))) 71 (caps71 l nt nw nu mf) tags6 (sH p v o c lv lo us rs ++ Z) = .need (((Option.some v) = (Option.some v)) ∧ (((#[(22 : Nat)]) = (#[(22 : TypeId)])) ∧ ((aLen Try.prog (22 : TypeId) v) = (Option.some (I ((↑m : Int))))))) (.ite ((↑m : Int) == (↑p.V.length : Int)) (.need (((Option.some (AV.fn (14 : Nat) [] [])) = (Option.some (AV.fn (14 : Nat) [] []))) ∧ (((Option.some [v]) = (Option.some [v])) ∧ (((AObj.cells (0 : Nat) [(flL (p.V)), (flLL (p.C)), (flR (p.R)), v, (I c), lv, (usesAV (us)), (flL (rs))]) :: (lo :: (o :: Z))) = ((AObj.cells (0 : Nat) [(flL (p.V)), (flLL (p.C)), (flR (p.R)), v, (I c), lv, (usesAV (us)), (flL (rs))]) :: (lo :: (o :: Z)))))) (.need ((l = l) ∧ (([av, (I c)] = [av, (I c)]) ∧ (((AObj.cells (0 : Nat) [(flL (p.V)), (flLL (p.C)), (flR (p.R)), v, (I c), lv, (usesAV (us)), (flL (rs))]) :: (lo :: (o :: Z))) = ((AObj.cells (0 : Nat) [(flL (p.V)), (flLL (p.C)), (flR (p.R)), v, (I c), lv, (usesAV (us)), (flL (rs))]) :: (lo :: (o :: Z)))))) (.leaf ((AV.bool b), true, h1)))) (.need (((Option.some v) = (Option.some v)) ∧ (((#[(22 : Nat)]) = (#[(22 : TypeId)])) ∧ ((aLen Try.prog (22 : TypeId) v) = (Option.some (I ((↑m : Int))))))) (.need (((0 : Int) ≤ (↑m : Int)) ∧ ((↑m : Int) < (↑p.V.length : Int))) (.need ((st71 l nt nw nu mf (sH p v o c lv lo us rs ++ Z) (p.V.getD m 0) 0).vals = (st71 l nt nw nu mf (sH p v o c lv lo us rs ++ Z) (p.V.getD m 0) 0).vals) .fail)))) := by kernel_rfl
theorem run71x (m : Nat) (l nt nw nu : Nat) (mf : AV) (p : Pb) (v : AV) (o : AObj) (c : Int) (lv : AV) (lo : AObj) (us : List (List (Int × List Int))) (rs : List Int) (Z hx : Heap) (k : Int) : xenter Try.prog (E71n m v) (xCode Try.prog G0 (E71n m v) 200 (lpB 4 keep71 (st71 l nt nw nu mf (sH p v o c lv lo us rs ++ Z) (p.V.getD m 0) 0) (.exit 0) (st71 l nt nw nu mf hx (p.V.getD m 0) k))) 71 (caps71 l nt nw nu mf) tags6 (sH p v o c lv lo us rs ++ Z) = .need (((Option.some v) = (Option.some v)) ∧ (((#[(22 : Nat)]) = (#[(22 : TypeId)])) ∧ ((aLen Try.prog (22 : TypeId) v) = (Option.some (I ((↑m : Int))))))) (.ite ((↑m : Int) == (↑p.V.length : Int)) .fail (.need (((Option.some v) = (Option.some v)) ∧ (((#[(22 : Nat)]) = (#[(22 : TypeId)])) ∧ ((aLen Try.prog (22 : TypeId) v) = (Option.some (I ((↑m : Int))))))) (.need (((0 : Int) ≤ (↑m : Int)) ∧ ((↑m : Int) < (↑p.V.length : Int))) (.need ((st71 l nt nw nu mf (sH p v o c lv lo us rs ++ Z) (p.V.getD m 0) 0).vals = (st71 l nt nw nu mf (sH p v o c lv lo us rs ++ Z) (p.V.getD m 0) 0).vals) (.leaf ((AV.bool true), false, hx)))))) := by kernel_rfl
theorem run71s (m : Nat) (l nt nw nu : Nat) (mf : AV) (p : Pb) (v : AV) (o : AObj) (c : Int) (lv : AV) (lo : AObj) (us : List (List (Int × List Int))) (rs : List Int) (Z hx : Heap) (k : Int) : xenter Try.prog (E71n m v) (xCode Try.prog G0 (E71n m v) 200 (lpB 4 keep71 (st71 l nt nw nu mf (sH p v o c lv lo us rs ++ Z) (p.V.getD m 0) 0) .ret (st71 l nt nw nu mf hx (p.V.getD m 0) k))) 71 (caps71 l nt nw nu mf) tags6 (sH p v o c lv lo us rs ++ Z) = .need (((Option.some v) = (Option.some v)) ∧ (((#[(22 : Nat)]) = (#[(22 : TypeId)])) ∧ ((aLen Try.prog (22 : TypeId) v) = (Option.some (I ((↑m : Int))))))) (.ite ((↑m : Int) == (↑p.V.length : Int)) .fail (.need (((Option.some v) = (Option.some v)) ∧ (((#[(22 : Nat)]) = (#[(22 : TypeId)])) ∧ ((aLen Try.prog (22 : TypeId) v) = (Option.some (I ((↑m : Int))))))) (.need (((0 : Int) ≤ (↑m : Int)) ∧ ((↑m : Int) < (↑p.V.length : Int))) (.need ((st71 l nt nw nu mf (sH p v o c lv lo us rs ++ Z) (p.V.getD m 0) 0).vals = (st71 l nt nw nu mf (sH p v o c lv lo us rs ++ Z) (p.V.getD m 0) 0).vals) (.leaf ((AV.bool false), false, hx)))))) := by kernel_rfl

end Go.Proofs.Ytngaihdpmoajeaa.Am

