/-
  This file proves nothing of a law. It holds lemmas, of 12 texts in their order. No condition of its own.
-/
import Derived.Test.YtngaihdpmoajeaaMg7
namespace Go.Proofs.Ytngaihdpmoajeaa.Am
open Go
set_option maxRecDepth 100000

noncomputable def c46a : Code := fstS b46
noncomputable def c46c : Code := sndS (sndS b46)
theorem code46 : bodyOf Try.prog 46 = .seq c46a (.seq (.region 1 ops46.toArray true) c46c) := by kernel_rfl
theorem loops46c : loopsOf c46c = [bodyR, bodyO, bodyM, bodyI] := by kernel_rfl
def st46i (p : Pb) (h : Heap) : St := .of 136 h [(0, pAV p, true)]
theorem run46a (p : Pb) (h : Heap) : xBody Try.prog G0 {} 200 noLoops [1, 2] c46a (st46i p h) = .leaf (Exit.normal, St.of 136 h [(1, (AV.row [(flL (p.V)), (flLL (p.C)), (flR (p.R))] (0 : Nat)), true), (2, AV.nilp, false)]) := by kernel_rfl
def st46e (h : Heap) : St := .of 136 h [(2, .ref 2 0 0, true)]
theorem run46c (p : Pb) (uc rc : List AV) (lv : AV) (lo : AObj) (Y0 Y : Heap) : xBody Try.prog G0 { boxRow := false, clh := failH } 200 (lpAnd (lpB 3 [1, 2, 3, 4] (stR p (repl (p.V.length + 1) [I 0]) (IntKind.i64.wrap ((p.V.length : Int) - 1)) (.resv :: .resv :: .resv :: .resv :: Y0)) (.exit 0) (stR p rc (-1) (.resv :: .resv :: .resv :: .resv :: Y0))) (lpB 7 keepO (stO p (repl p.V.length [.zs]) rc .zs .resv .resv Y0 0) (.exit 2) (stO p uc rc lv lo .resv Y p.R.length))) [2] c46c (st46 p 13 (.cells 0 (repl p.V.length [.zs]) :: .cells 0 (repl (p.V.length + 1) [I 0]) :: .cells 0 (s46 p) :: .resv :: .resv :: .resv :: .resv :: Y0)) = .need ((stR p (repl (p.V.length + 1) [I 0]) (IntKind.i64.wrap ((p.V.length : Int) - 1)) (.resv :: .resv :: .resv :: .resv :: Y0)).vals = (stR p (repl (p.V.length + 1) [I 0]) (IntKind.i64.wrap ((p.V.length : Int) - 1)) (.resv :: .resv :: .resv :: .resv :: Y0)).vals) (.need ((stO p (repl p.V.length [.zs]) rc .zs .resv .resv Y0 0).vals = (stO p (repl p.V.length [.zs]) rc .zs .resv .resv Y0 0).vals) (.leaf (Exit.ret, St.of 136 ((AObj.cells (0 : Nat) uc) :: ((AObj.cells (0 : Nat) rc) :: ((AObj.cells (0 : Nat) [(flL (p.V)), (flLL (p.C)), (flR (p.R)), AV.zs, (I ((0 : Int))), lv, (AV.ms (1 : Nat) (0 : Nat) (0 : Nat) (0 : Nat) (List.length (p.V)) (List.length (p.V))), (AV.ms (1 : Nat) (1 : Nat) (0 : Nat) (0 : Nat) (p.V.length + (1 : Nat)) (p.V.length + (1 : Nat)))]) :: (lo :: (AObj.resv :: (AObj.resv :: (AObj.resv :: Y))))))) [(2, (AV.ref (2 : Nat) (0 : Nat) (0 : Nat)), true)]))) := by kernel_rfl
theorem ucs0 (n : Nat) : ucs (List.replicate n []) = repl n [.zs] := by
  apply List.ext_getElem?
  intro i
  have hr : ∀ n : Nat, repl n [AV.zs] = List.replicate n .zs := by
    intro n
    induction n with
    | zero => rfl
    | succ n ih => unfold repl; rw [ih]; rfl
  rw [hr]
  unfold ucs
  rw [List.getElem?_mapIdx, List.getElem?_replicate, List.getElem?_replicate]
  split <;> rfl
theorem uY0 (n : Nat) : uY (List.replicate n []) = List.replicate n .resv := by
  unfold uY
  rw [List.map_replicate]
  rfl
theorem ids46c : ∀ x ∈ loopsOf c46c, (idOf x = 3 → x = bodyR) ∧ (idOf x = 7 → x = bodyO) := by
  have h1 : idOf bodyR = 3 := by kernel_rfl
  have h2 : idOf bodyO = 7 := by kernel_rfl
  have h3 : idOf bodyM = 11 := by kernel_rfl
  have h4 : idOf bodyI = 17 := by kernel_rfl
  intro x hx
  rw [loops46c] at hx
  simp only [List.mem_cons, List.not_mem_nil, or_false] at hx
  rcases hx with rfl | rfl | rfl | rfl
  · exact ⟨fun _ => rfl, fun h => by omega⟩
  · exact ⟨fun h => by omega, fun _ => rfl⟩
  · exact ⟨fun h => by omega, fun h => by omega⟩
  · exact ⟨fun h => by omega, fun h => by omega⟩
theorem exec46 {p : Pb} (hs : p.sh) (hp : Ok p) : AExec Try.prog G0 (fun r => r = none) (bodyOf Try.prog 46) { tmps := (st46i p (List.replicate (7 + p.V.length) .resv)).a } (List.replicate (7 + p.V.length) .resv) .ret { tmps := (st46e []).a } (hS p (uA p p.R.length) (rsK p p.V.length) (lfK p p.R.length) .resv) := by
  rw [code46]
  have hn := hp.n
  have x0 : AExec Try.prog G0 (fun r => r = none) c46a { tmps := (st46i p (List.replicate (7 + p.V.length) .resv)).a } (st46i p (List.replicate (7 + p.V.length) .resv)).h .normal { tmps := (st46 p 0 (List.replicate (7 + p.V.length) .resv)).a } (st46 p 0 (List.replicate (7 + p.V.length) .resv)).h :=
    rnd clok0 (lpNo _) (congrArg Tree.sel (run46a p _)) (by kernel_rfl)
  have x1 := first46 (R := fun r => r = none) hn (p := p)
  have e4 : (List.replicate (4 + p.V.length) .resv : Heap) = .resv :: .resv :: .resv :: .resv :: List.replicate p.V.length .resv := by
    have : 4 + p.V.length = p.V.length + 1 + 1 + 1 + 1 := by omega
    rw [this]
    rfl
  rw [e4] at x1
  have hw : IntKind.i64.wrap ((p.V.length : Int) - 1) = (p.V.length : Int) - 1 := wrapI (by omega)
  have hR := (loopR hs hp (.resv :: .resv :: .resv :: .resv :: List.replicate p.V.length .resv)).okB (fun _ _ => rfl) (c := c46c) (i := 3) (keep := [1, 2, 3, 4]) (fun x hx => (ids46c x hx).1)
  have hO := (loopO hs hp (rsK p p.V.length)).okB (fun _ _ => rfl) (c := c46c) (i := 7) (keep := keepO) (fun x hx => (ids46c x hx).2)
  have e1 : (rsK p 0).map I = repl (p.V.length + 1) [I 0] := (repl_map _).symm
  have e2 : (p.V.length : Int) - 1 - (0 : Nat) = (p.V.length : Int) - 1 := by omega
  have e3 : ucs (uA p 0) = repl p.V.length [.zs] := ucs0 _
  have e5 : uY (uA p 0) = List.replicate p.V.length .resv := uY0 _
  have e6 : lfK p 0 = [] := rfl
  simp only [e1, e2] at hR
  simp only [e3, e5, e6] at hO
  have key := run46c p (ucs (uA p p.R.length)) ((rsK p p.V.length).map I) (sV 1 3 (rowI (lfK p p.R.length))) (sO (rowI (lfK p p.R.length))) (List.replicate p.V.length .resv) (uY (uA p p.R.length))
  rw [hw] at key
  have x2 : AExec Try.prog G0 (fun r => r = none) c46c { tmps := (st46 p 13 (.cells 0 (repl p.V.length [.zs]) :: .cells 0 (repl (p.V.length + 1) [I 0]) :: .cells 0 (s46 p) :: .resv :: .resv :: .resv :: .resv :: List.replicate p.V.length .resv)).a } (.cells 0 (repl p.V.length [.zs]) :: .cells 0 (repl (p.V.length + 1) [I 0]) :: .cells 0 (s46 p) :: .resv :: .resv :: .resv :: .resv :: List.replicate p.V.length .resv) .ret { tmps := (st46e (hS p (uA p p.R.length) (rsK p p.V.length) (lfK p p.R.length) .resv)).a } (hS p (uA p p.R.length) (rsK p p.V.length) (lfK p p.R.length) .resv) :=
    rnd (s := st46 p 13 (.cells 0 (repl p.V.length [.zs]) :: .cells 0 (repl (p.V.length + 1) [I 0]) :: .cells 0 (s46 p) :: .resv :: .resv :: .resv :: .resv :: List.replicate p.V.length .resv)) (t := st46e (hS p (uA p p.R.length) (rsK p p.V.length) (lfK p p.R.length) .resv)) (.all .none failH_ok (fun l xs σ t v σ' h => (by cases h)) fun f xs t v h => by cases h) (lpAnd_ok hR hO) ((congrArg Tree.sel key).trans (t_need rfl (t_need rfl rfl))) rfl
  exact .seq x0 (.seq x1 x2)
theorem map_getDU (l : List Use) {i : Nat} (hi : i < l.length) : (l.map useC).getD i [] = useC (l.getD i (0, [])) := by
  simp [List.getD_eq_getElem?_getD, hi]
/-- The search's state, its uses and rest told as data. -/
def endP : Nat → Option Nat
  | 0 => some 2
  | 1 => some 3
  | _ => none
theorem below_rs (l : List Int) : ∀ x ∈ l.map I, Below 0 x := fun x hx => by
  obtain ⟨n, _, rfl⟩ := List.mem_map.1 hx
  exact .int _ _
theorem c46 {p : Pb} (hs : p.sh) (hp : Ok p) : ACall Try.prog G0 46 [pAV p] [] SR (sH p .zs .resv 0 (lV (lfK p p.R.length)) (lO (lfK p p.R.length)) (uA p p.R.length) (rsK p p.V.length)) := by
  obtain ⟨fn, c, k1, k2, k3⟩ := fnOf (f := 46) (by kernel_rfl)
  have hall := exec46 hs hp
  rw [k3] at hall
  have hres : fn.results.toList = [.tmp 2] := by
    have : (Try.prog.funcs[46]?).map (·.results.toList) = some [.tmp 2] := by kernel_rfl
    rw [k1] at this
    exact Option.some.inj this
  have hnt : fn.ntmps = 136 := by
    have : (Try.prog.funcs[46]?).map (·.ntmps) = some 136 := by kernel_rfl
    rw [k1] at this
    exact Option.some.inj this
  have h1 : ACall Try.prog G0 46 [pAV p] (List.replicate (7 + p.V.length) .resv) (.ref 2 0 0) (hS p (uA p p.R.length) (rsK p p.V.length) (lfK p p.R.length) .resv) := by
    refine ACall.of_body (args := [pAV p]) (xs := [.ref 2 0 0]) k1 k2 (names 46 fn k1) (.weak ?_ hall) (.inr rfl) ?_
    · have e : (st46i p (List.replicate (7 + p.V.length) .resv)).a = pAV p :: List.replicate 135 .junk := by kernel_rfl
      rw [hnt, e]
      refine ⟨by simp, fun j y hj => ?_⟩
      match j, hj with
      | 0, hj => exact .inr hj
      | j + 1, hj => exact .inl (List.eq_of_mem_replicate (n := 135) (List.mem_of_getElem? (i := j) (by simpa using hj)))
    · rw [hres]
      have : (st46e []).a[2]? = some (.ref 2 0 0) := by kernel_rfl
      simp only [aResults, aResult, this]
  have h2 : ACall Try.prog G0 46 [pAV p] [] (.ref 2 0 0) (hS p (uA p p.R.length) (rsK p p.V.length) (lfK p p.R.length) .resv) := ACall.rooms (σ := []) (7 + p.V.length) h1
  have hul : (uA p p.R.length).length = p.V.length := uA_len p _
  have hrl : (rsK p p.V.length).length = p.V.length + 1 := rsK_len p _
  have no0 : ∀ q, endP q ≠ some 0 := fun q h => by
    match q, h with
    | 0, h => cases h
    | 1, h => cases h
  have no1 : ∀ q, endP q ≠ some 1 := fun q h => by
    match q, h with
    | 0, h => cases h
    | 1, h => cases h
  have no7 : ∀ q i, endP q ≠ some (7 + i) := fun q i h => by
    match q, h with
    | 0, h => simp only [endP, Option.some.injEq] at h; omega
    | 1, h => simp only [endP, Option.some.injEq] at h; omega
  have huses : Re G0 endP (hS p (uA p p.R.length) (rsK p p.V.length) (lfK p p.R.length) .resv) (.ms 1 0 0 0 p.V.length p.V.length) (usesAV (uA p p.R.length)) := by
    have := Re.data (G := G0) (π := endP) (σ := hS p (uA p p.R.length) (rsK p p.V.length) (lfK p p.R.length) .resv) (size := 1) (r := 0) (g := 0) (len := p.V.length) (cap := p.V.length) (cells := ucs (uA p p.R.length)) (rows := fun i => [useAV ((uA p p.R.length).getD i [])]) rfl no0 (by rw [ucs_len, hul]; omega) (fun i hi => rfl) fun i j y hi hj => by
      obtain rfl : j = 0 := by have := (List.getElem?_eq_some_iff.1 hj).1; simp at this; exact this
      cases hj
      refine ⟨_, by rw [Nat.mul_one, Nat.add_zero]; exact ucs_get _ (by omega), ?_⟩
      have hre := re_sV (π := endP) (s := 2) (r := 7 + i) (rows := ((uA p p.R.length).getD i []).map useC) (σ := hS p (uA p p.R.length) (rsK p p.V.length) (lfK p p.R.length) .resv) ((hN_at7 p _ _ _ _ _ _ _ _ i).trans (uY_get _ (by omega))) (fun q => no7 q i) (useC_rows _) (fun x hx y hy => by
        obtain ⟨u, _, rfl⟩ := List.mem_map.1 hx
        exact Re.flat (useC_below u y hy))
      rw [List.length_map] at hre
      exact hre.conv fun w M v hv => fl_congr (fun i hi => map_getDU _ hi) hv
    unfold usesAV
    rw [hul]
    exact this
  have hrest : Re G0 endP (hS p (uA p p.R.length) (rsK p p.V.length) (lfK p p.R.length) .resv) (.ms 1 1 0 0 (p.V.length + 1) (p.V.length + 1)) (flL (rsK p p.V.length)) := by
    have := Re.data (G := G0) (π := endP) (σ := hS p (uA p p.R.length) (rsK p p.V.length) (lfK p p.R.length) .resv) (size := 1) (r := 1) (g := 0) (len := p.V.length + 1) (cap := p.V.length + 1) (cells := (rsK p p.V.length).map I) (rows := fun i => [I ((rsK p p.V.length).getD i 0)]) rfl no1 (by rw [List.length_map, hrl]; omega) (fun i hi => rfl) fun i j y hi hj => by
      obtain rfl : j = 0 := by have := (List.getElem?_eq_some_iff.1 hj).1; simp at this; exact this
      cases hj
      exact ⟨_, by rw [Nat.mul_one, Nat.add_zero]; exact map_get _ (by omega), re_int⟩
    unfold flL
    rw [hrl]
    exact this
  have hleft : Re G0 endP (hS p (uA p p.R.length) (rsK p p.V.length) (lfK p p.R.length) .resv) (sV 1 3 (rowI (lfK p p.R.length))) (lV (lfK p p.R.length)) := by
    unfold lV
    cases rowI (lfK p p.R.length) with
    | nil => exact Re.flat .zs
    | cons x l => exact Re.ms rfl
  refine h2.re (π := endP) ⟨gbelow0, fun r o h => by simp at h, fun q q' z h h' => ?_, fun q z h => ?_, fun q o ho => ?_⟩ (Re.ref rfl)
  · match q, q', h, h' with
    | 0, 0, _, _ => rfl
    | 1, 1, _, _ => rfl
    | 0, 1, h, h' => cases h; cases h'
    | 1, 0, h, h' => cases h; cases h'
  · match q, h with
    | 0, h => show 0 < 3; omega
    | 1, h => show 1 < 3; omega
  · match q, ho with
    | 0, ho =>
      cases ho
      refine ⟨2, _, rfl, rfl, rfl, fun j y hj => ?_⟩
      match j, hj with
      | 0, hj => cases hj; exact ⟨_, rfl, Re.flat (below_flL _)⟩
      | 1, hj => cases hj; exact ⟨_, rfl, Re.flat (below_flLL _)⟩
      | 2, hj => cases hj; exact ⟨_, rfl, Re.flat (below_flR _)⟩
      | 3, hj => cases hj; exact ⟨_, rfl, Re.flat .zs⟩
      | 4, hj => cases hj; exact ⟨_, rfl, re_int⟩
      | 5, hj => cases hj; exact ⟨_, rfl, hleft⟩
      | 6, hj => cases hj; exact ⟨_, rfl, huses⟩
      | 7, hj => cases hj; exact ⟨_, rfl, hrest⟩
      | j + 8, hj => simp [sC] at hj
    | 1, ho =>
      have ho' : some (lO (lfK p p.R.length)) = some o := ho
      cases ho'
      generalize lfK p p.R.length = l
      cases l with
      | nil => exact fun z hz => by cases hz; rfl
      | cons y t =>
        refine ⟨3, (rowI (y :: t)).flatten, rfl, rfl, rfl, fun j z hj => ⟨z, hj, Re.flat ?_⟩⟩
        have hm : z ∈ (rowI (y :: t)).flatten := List.mem_of_getElem? hj
        rw [rowI_flatten] at hm
        exact below_rs _ z hm
    | 2, ho => cases ho; exact fun z hz => by cases hz
    | q + 3, ho => simp [sH] at ho
end Go.Proofs.Ytngaihdpmoajeaa.Am

namespace Go.Proofs.Ytngaihdpmoajeaa.Am
open Go
set_option maxRecDepth 100000

/-- What is left of each rule at the beginning of an assignment. -/
def leftA (p : Pb) (a : List Int) : List Int := p.R.map fun x => x.m - leastA x a
theorem leftA_len (p : Pb) (a : List Int) : (leftA p a).length = p.R.length := by simp [leftA]
theorem leftA_get (p : Pb) (a : List Int) {j : Nat} (hj : j < p.R.length) : (leftA p a).getD j 0 = (p.R.getD j r0).m - leastA (p.R.getD j r0) a := by
  simp [leftA, List.getD_eq_getElem?_getD, hj]
theorem list_ext {a b : List Int} (hl : a.length = b.length) (h : ∀ j, j < a.length → a.getD j 0 = b.getD j 0) : a = b := (list_eq_iff a b).2 ⟨hl, h⟩
theorem lfK_get (p : Pb) : ∀ r j, j < r → (lfK p r).getD j 0 = leftM (p.R.getD j r0) (p.R.getD j r0).v.length
  | r + 1, j, h => by
    have hl := lfK_len p r
    unfold lfK
    rw [List.getD_eq_getElem?_getD, List.getElem?_append]
    by_cases hj : j < r
    · rw [if_pos (by omega), ← List.getD_eq_getElem?_getD]
      exact lfK_get p r j hj
    · obtain rfl : j = r := by omega
      rw [if_neg (by omega), hl, Nat.sub_self]
      rfl
theorem least_nil {V : List Int} {x : Rl} (hx : OkRule V x) : leastA x [] = sumK (fun i => minL (x.w.getD i [])) x.v.length := sumK_congr fun i hi => by
  unfold leastT
  have := hx.v i hi
  have h0 : ¬ x.v.getD i 0 < (([] : List Int).length : Int) := by
    show ¬ x.v.getD i 0 < ((0 : Nat) : Int)
    omega
  rw [dF h0]
  rfl
/-- AT THE START. -/
theorem left_start {p : Pb} (hp : Ok p) : lfK p p.R.length = leftA p [] := list_ext (by rw [lfK_len, leftA_len]) fun j hj => by
  rw [lfK_len] at hj
  rw [lfK_get p _ j hj, leftA_get p [] hj, least_nil (rule_getD hp j)]
  rfl

/-! ### Uses by rule -/
def useT (u : List Use) (j : Nat) (x : Int) (i : Nat) : Int := if (u.getD i (0, [])).1.toNat = j then (u.getD i (0, [])).2.getD x.toNat 0 else 0
def tot (u : List Use) (j : Nat) (x : Int) : Int := sumK (useT u j x) u.length
theorem putL_get (u : List Use) (x : Int) (l : List Int) {j : Nat} (hj : j < l.length) : ∀ k, (putL u x l k).getD j 0 = l.getD j 0 - sumK (useT u j x) k
  | 0 => by show l.getD j 0 = l.getD j 0 - 0; omega
  | k + 1 => by
    have ih := putL_get u x l hj k
    have hl := putL_len u x l k
    have e : sumK (useT u j x) (k + 1) = sumK (useT u j x) k + useT u j x k := rfl
    unfold putL
    rw [getD_setL, e]
    unfold useT
    by_cases h : (u.getD k (0, [])).1.toNat = j
    · rw [if_pos ⟨h, by omega⟩, if_pos h, h, ih]
      unfold useT
      omega
    · rw [if_neg (fun hh => h hh.1), if_neg h, ih]
      unfold useT
      omega
theorem backL_get (u : List Use) (x : Int) (l : List Int) {j : Nat} (hj : j < l.length) : ∀ k, (backL u x l k).getD j 0 = l.getD j 0 + sumK (useT u j x) k
  | 0 => by show l.getD j 0 = l.getD j 0 + 0; omega
  | k + 1 => by
    have ih := backL_get u x l hj k
    have hl := backL_len u x l k
    have e : sumK (useT u j x) (k + 1) = sumK (useT u j x) k + useT u j x k := rfl
    unfold backL
    rw [getD_setL, e]
    unfold useT
    by_cases h : (u.getD k (0, [])).1.toNat = j
    · rw [if_pos ⟨h, by omega⟩, if_pos h, h, ih]
      unfold useT
      omega
    · rw [if_neg (fun hh => h hh.1), if_neg h, ih]
      unfold useT
      omega
theorem getD_app_lt {α : Type} {u : List α} {e : α} {i : Nat} {d : α} (h : i < u.length) : (u ++ [e]).getD i d = u.getD i d := by
  rw [List.getD_eq_getElem?_getD, List.getElem?_append_left h, ← List.getD_eq_getElem?_getD]
theorem getD_app_eq {α : Type} {u : List α} {e : α} {d : α} : (u ++ [e]).getD u.length d = e := by
  rw [List.getD_eq_getElem?_getD, List.getElem?_append_right (Nat.le_refl _), Nat.sub_self]
  rfl
theorem tot_app (u : List Use) (e : Use) (j : Nat) (x : Int) : tot (u ++ [e]) j x = tot u j x + if e.1.toNat = j then e.2.getD x.toNat 0 else 0 := by
  unfold tot
  rw [List.length_append, List.length_singleton]
  show sumK (useT (u ++ [e]) j x) u.length + useT (u ++ [e]) j x u.length = _
  have h1 : sumK (useT (u ++ [e]) j x) u.length = sumK (useT u j x) u.length := sumK_congr fun i hi => by
    unfold useT
    rw [getD_app_lt hi]
  have h2 : useT (u ++ [e]) j x u.length = if e.1.toNat = j then e.2.getD x.toNat 0 else 0 := by
    unfold useT
    rw [getD_app_eq]
  rw [h1, h2]
/-- What value x of variable v takes of a rule, by its i-th variable. -/
def dT' (y : Rl) (v : Nat) (x : Int) (i : Nat) : Int := if (y.v.getD i 0).toNat = v then (y.w.getD i []).getD x.toNat 0 - minL (y.w.getD i []) else 0
theorem less_zero {w : List Int} {i : Nat} (hi : i < w.length) (h : ¬ maxL (lessL w) > 0) : w.getD i 0 - minL w = 0 := by
  have h1 := maxL_ge (L := lessL w) (k := i) (by rw [lessL_len]; exact hi)
  rw [lessL_get w hi] at h1
  have h2 := minL_le hi
  omega
theorem tot_usM {V : List Int} {us : List (List Use)} {y : Rl} {r v : Nat} {x : Int} (hy : OkRule V y) (hv : v < us.length) (hx : (x.toNat : Int) < V.getD v 0) (j : Nat) : ∀ k, k ≤ y.v.length → tot ((usM us y r k).getD v []) j x = tot (us.getD v []) j x + if r = j then sumK (dT' y v x) k else 0
  | 0, _ => by
    have e : sumK (dT' y v x) 0 = 0 := rfl
    rw [e]
    show tot (us.getD v []) j x = _
    split <;> omega
  | k + 1, hk => by
    have ih := tot_usM (r := r) hy hv hx j k (by omega)
    have hl := usM_len us y r k
    have e : sumK (dT' y v x) (k + 1) = sumK (dT' y v x) k + dT' y v x k := rfl
    have hwl := hy.wl k (by omega)
    have hin : (y.v.getD k 0).toNat = v → x.toNat < (y.w.getD k []).length := fun h => by rw [h] at hwl; omega
    rw [e]
    show tot ((stepU (usM us y r k) y r k).getD v []) j x = _
    unfold stepU
    by_cases hm : maxL (lessL (y.w.getD k [])) > 0
    · rw [if_pos hm]
      by_cases he : (y.v.getD k 0).toNat = v
      · rw [he, addU_self (by omega), tot_app, ih]
        have e2 : dT' y v x k = (y.w.getD k []).getD x.toNat 0 - minL (y.w.getD k []) := if_pos he
        rw [lessL_get _ (hin he), e2]
        have e3 : ((r : Int)).toNat = r := Int.toNat_natCast r
        rw [e3]
        split <;> omega
      · rw [addU_ne (Ne.symm he), ih]
        have e2 : dT' y v x k = 0 := if_neg he
        rw [e2, Int.add_zero]
    · rw [if_neg hm, ih]
      have e2 : dT' y v x k = 0 := by
        unfold dT'
        split
        · rename_i he
          exact less_zero (hin he) hm
        · rfl
      rw [e2, Int.add_zero]
theorem tot_uA {p : Pb} (hp : Ok p) {v : Nat} {x : Int} (hv : v < p.V.length) (hx : (x.toNat : Int) < p.V.getD v 0) (j : Nat) : ∀ r, tot ((uA p r).getD v []) j x = if j < r then sumK (dT' (p.R.getD j r0) v x) (p.R.getD j r0).v.length else 0
  | 0 => by
    have e : (uA p 0).getD v [] = [] := by
      unfold uA
      rw [List.getD_eq_getElem?_getD, List.getElem?_replicate]
      split <;> rfl
    rw [e, if_neg (by omega)]
    rfl
  | r + 1 => by
    have ih := tot_uA hp hv hx j r
    have hk := tot_usM (rule_getD hp r) (us := uA p r) (r := r) (by rw [uA_len]; exact hv) hx j _ (Nat.le_refl _)
    show tot ((usM (uA p r) (p.R.getD r r0) r (p.R.getD r r0).v.length).getD v []) j x = _
    rw [hk, ih]
    by_cases h1 : r = j
    · subst h1
      rw [if_neg (by omega), if_pos rfl, if_pos (by omega)]
      omega
    · rw [if_neg h1]
      by_cases h2 : j < r
      · rw [if_pos h2, if_pos (by omega)]; omega
      · rw [if_neg h2, if_neg (by omega)]; omega
/-- What a value more does to the least sum. -/
theorem leastT_app {V : List Int} {y : Rl} (hy : OkRule V y) (a : List Int) (x : Int) {i : Nat} (hi : i < y.v.length) : leastT y (a ++ [x]) i = leastT y a i + dT' y a.length x i := by
  have hv := hy.v i hi
  unfold leastT dT'
  have hl : (a ++ [x]).length = a.length + 1 := by simp
  by_cases h1 : y.v.getD i 0 < a.length
  · rw [dT h1, dT (by omega), cond_true, cond_true, if_neg (by omega), getD_app_lt (by omega)]
    omega
  · rw [dF h1, cond_false]
    by_cases h2 : y.v.getD i 0 < (a.length : Int) + 1
    · have e : (y.v.getD i 0).toNat = a.length := by omega
      rw [dT (by omega), cond_true, if_pos e, e, getD_app_eq]
      omega
    · rw [dF (by omega), cond_false, if_neg (by omega)]
      omega
theorem sumK_add (f g : Nat → Int) : ∀ k, sumK (fun i => f i + g i) k = sumK f k + sumK g k
  | 0 => rfl
  | k + 1 => by
    have := sumK_add f g k
    show sumK (fun i => f i + g i) k + (f k + g k) = sumK f k + f k + (sumK g k + g k)
    omega
theorem leastA_app {V : List Int} {y : Rl} (hy : OkRule V y) (a : List Int) (x : Int) : leastA y (a ++ [x]) = leastA y a + sumK (dT' y a.length x) y.v.length := by
  unfold leastA
  rw [← sumK_add]
  exact sumK_congr fun i hi => leastT_app hy a x hi
/-- A VALUE IS PUT. -/
theorem left_put {p : Pb} (hp : Ok p) {a : List Int} (ha : a.length < p.V.length) {x : Int} (hx : (x.toNat : Int) < p.V.getD a.length 0) : putL ((uA p p.R.length).getD a.length []) x (leftA p a) ((uA p p.R.length).getD a.length []).length = leftA p (a ++ [x]) :=
  list_ext (by rw [putL_len, leftA_len, leftA_len]) fun j hj => by
    rw [putL_len, leftA_len] at hj
    rw [putL_get _ _ _ (by rw [leftA_len]; exact hj), leftA_get p _ hj, leftA_get p _ hj, leastA_app (rule_getD hp j)]
    have := tot_uA hp ha hx j p.R.length
    rw [if_pos hj] at this
    unfold tot at this
    omega
/-- A VALUE IS TAKEN BACK. -/
theorem left_back {p : Pb} (hp : Ok p) {a : List Int} (ha : a.length < p.V.length) {x : Int} (hx : (x.toNat : Int) < p.V.getD a.length 0) : backL ((uA p p.R.length).getD a.length []) x (leftA p (a ++ [x])) ((uA p p.R.length).getD a.length []).length = leftA p a :=
  list_ext (by rw [backL_len, leftA_len, leftA_len]) fun j hj => by
    rw [backL_len, leftA_len] at hj
    rw [backL_get _ _ _ (by rw [leftA_len]; exact hj), leftA_get p _ hj, leftA_get p _ hj, leastA_app (rule_getD hp j)]
    have := tot_uA hp ha hx j p.R.length
    rw [if_pos hj] at this
    unfold tot at this
    omega
end Go.Proofs.Ytngaihdpmoajeaa.Am

namespace Go.Proofs.Ytngaihdpmoajeaa.Am
open Go
set_option maxRecDepth 100000

/-- A use of variable v. -/
def IsUse (p : Pb) (r v : Nat) (e : Use) : Prop := ∃ j, j < r ∧ e.1 = (j : Int) ∧ ∃ i, i < (p.R.getD j r0).v.length ∧ e.2 = lessL ((p.R.getD j r0).w.getD i []) ∧ ((p.R.getD j r0).v.getD i 0).toNat = v
theorem use_usM {p : Pb} {us : List (List Use)} {r v : Nat} (h0 : ∀ e ∈ us.getD v [], IsUse p (r + 1) v e) : ∀ k, k ≤ (p.R.getD r r0).v.length → ∀ e ∈ (usM us (p.R.getD r r0) r k).getD v [], IsUse p (r + 1) v e
  | 0, _ => h0
  | k + 1, hk => by
    have ih := use_usM h0 k (by omega)
    intro e he
    have he' : e ∈ (stepU (usM us (p.R.getD r r0) r k) (p.R.getD r r0) r k).getD v [] := he
    unfold stepU at he'
    split at he'
    · by_cases hv : v = ((p.R.getD r r0).v.getD k 0).toNat
      · by_cases hl : v < (usM us (p.R.getD r r0) r k).length
        · rw [← hv, addU_self hl] at he'
          rcases List.mem_append.1 he' with h | h
          · exact ih e h
          · rw [List.mem_singleton.1 h]
            exact ⟨r, by omega, rfl, k, by omega, rfl, hv.symm⟩
        · unfold addU at he'
          rw [List.set_eq_of_length_le (by omega)] at he'
          exact ih e he'
      · rw [addU_ne hv] at he'
        exact ih e he'
    · exact ih e he'
theorem use_uA {p : Pb} (v : Nat) : ∀ r, ∀ e ∈ (uA p r).getD v [], IsUse p r v e
  | 0, e, he => by
    have e0 : (uA p 0).getD v [] = [] := by
      unfold uA
      rw [List.getD_eq_getElem?_getD, List.getElem?_replicate]
      split <;> rfl
    rw [e0] at he
    cases he
  | r + 1, e, he => use_usM (us := uA p r) (fun e he => by
      obtain ⟨j, h1, h2⟩ := use_uA v r e he
      exact ⟨j, by omega, h2⟩) _ (Nat.le_refl _) e he
theorem leftA_bound {p : Pb} (hp : Ok p) {a : List Int} (ha : Beg p a) (j : Nat) : -13000000000 ≤ (leftA p a).getD j 0 ∧ (leftA p a).getD j 0 ≤ 13000000000 := by
  by_cases hj : j < p.R.length
  · rw [leftA_get p a hj]
    have hx := rule_getD hp j
    have h1 := leastK_bound hp hx ha (k := (p.R.getD j r0).v.length) (Nat.le_refl _)
    have h2 := hx.m
    unfold leastA
    omega
  · have : (leftA p a).getD j 0 = 0 := by
      rw [List.getD_eq_getElem?_getD, List.getElem?_eq_none (by rw [leftA_len]; omega)]
      rfl
    rw [this]
    omega
/-- The uses of the next variable. -/
def nextU (p : Pb) (a : List Int) : List Use := (uA p p.R.length).getD a.length []
theorem fit_use {p : Pb} (hp : Ok p) {a b : List Int} (hb : Beg p b) {x : Int} (h0 : 0 ≤ x) (hx : x < p.V.getD a.length 0) : Fit (nextU p a) x (leftA p b) := by
  have hx' : (x.toNat : Int) < p.V.getD a.length 0 := by omega
  have hu : ∀ k, k < (nextU p a).length → IsUse p p.R.length a.length ((nextU p a).getD k (0, [])) := fun k hk => use_uA _ _ _ (getD_mem hk)
  have hin : ∀ j i, i < (p.R.getD j r0).v.length → ((p.R.getD j r0).v.getD i 0).toNat = a.length → x.toNat < ((p.R.getD j r0).w.getD i []).length := fun j i hi he => by
    have := (rule_getD hp j).wl i hi
    rw [he] at this
    omega
  refine ⟨h0, fun k hk => ?_, fun k hk => ?_, fun k hk => ?_, ?_, fun j => ?_⟩
  · obtain ⟨j, h1, h2, _⟩ := hu k hk
    rw [h2, leftA_len]
    omega
  · obtain ⟨j, h1, h2, i, h3, h4, h5⟩ := hu k hk
    rw [h4, lessL_len]
    exact hin j i h3 h5
  · obtain ⟨j, h1, h2, i, h3, h4, h5⟩ := hu k hk
    have hl := hin j i h3 h5
    rw [h4, lessL_get _ hl]
    have hx := rule_getD hp j
    have b1 := getD_bound (hx.w i h3) hl
    have b2 := hx.w i h3 _ (minL_mem (by omega))
    omega
  · have := uA_le hp a.length p.R.length
    have := hp.r
    unfold nextU
    omega
  · have := leftA_bound hp hb j
    omega
/-- No rule is broken for sure. -/
def Opn (p : Pb) (a : List Int) : Prop := ∀ j, j < p.R.length → leastA (p.R.getD j r0) a ≤ (p.R.getD j r0).m
theorem sumK_nonneg {f : Nat → Int} : ∀ {k : Nat}, (∀ i, i < k → 0 ≤ f i) → 0 ≤ sumK f k
  | 0, _ => Int.le_refl _
  | k + 1, h => by
    have := sumK_nonneg (k := k) fun i hi => h i (by omega)
    have := h k (by omega)
    show 0 ≤ sumK f k + f k
    omega
theorem sumK_mono {f : Nat → Int} {a b : Nat} (hab : a ≤ b) (h : ∀ i, i < b → 0 ≤ f i) : sumK f a ≤ sumK f b := by
  induction b with
  | zero =>
    obtain rfl : a = 0 := by omega
    exact Int.le_refl _
  | succ b ih =>
    by_cases he : a = b + 1
    · subst he; exact Int.le_refl _
    · have h1 := ih (by omega) fun i hi => h i (by omega)
      have h2 := h b (by omega)
      show _ ≤ sumK f b + f b
      omega
theorem putOk_iff (u : List Use) (x : Int) (l : List Int) : ∀ k, putOk u x l k = true ↔ ∀ i, i < k → (putL u x l (i + 1)).getD (u.getD i (0, [])).1.toNat 0 ≥ 0
  | 0 => ⟨fun _ i hi => absurd hi (by omega), fun _ => rfl⟩
  | k + 1 => by
    have ih := putOk_iff u x l k
    show (bif putOk u x l k then decide ((putL u x l (k + 1)).getD (u.getD k (0, [])).1.toNat 0 ≥ 0) else false) = true ↔ _
    constructor
    · intro h i hi
      cases hk : putOk u x l k with
      | false => rw [hk] at h; cases h
      | true =>
        rw [hk, cond_true] at h
        by_cases he : i = k
        · subst he; exact of_decide_eq_true h
        · exact ih.1 hk i (by omega)
    · intro h
      rw [ih.2 fun i hi => h i (by omega), cond_true]
      exact decide_eq_true (h k (by omega))
/-- WHEN put SAYS TRUE. -/
theorem put_opn {p : Pb} (hp : Ok p) {a : List Int} (ha : a.length < p.V.length) {x : Int} (h0 : 0 ≤ x) (hx : x < p.V.getD a.length 0) (ho : Opn p a) : putOk (nextU p a) x (leftA p a) (nextU p a).length = true ↔ Opn p (a ++ [x]) := by
  have hx' : (x.toNat : Int) < p.V.getD a.length 0 := by omega
  have hfin : putL (nextU p a) x (leftA p a) (nextU p a).length = leftA p (a ++ [x]) := left_put hp ha hx'
  have hu : ∀ k, k < (nextU p a).length → IsUse p p.R.length a.length ((nextU p a).getD k (0, [])) := fun k hk => use_uA _ _ _ (getD_mem hk)
  have hnn : ∀ j i, i < (nextU p a).length → 0 ≤ useT (nextU p a) j x i := fun j i hi => by
    unfold useT
    split
    · obtain ⟨j', h1, h2, i', h3, h4, h5⟩ := hu i hi
      have hl : x.toNat < ((p.R.getD j' r0).w.getD i' []).length := by
        have := (rule_getD hp j').wl i' h3
        rw [h5] at this
        omega
      rw [h4, lessL_get _ hl]
      have := minL_le hl
      omega
    · omega
  have hval : ∀ j, j < p.R.length → ∀ k, (putL (nextU p a) x (leftA p a) k).getD j 0 = (leftA p a).getD j 0 - sumK (useT (nextU p a) j x) k := fun j hj k => putL_get _ _ _ (by rw [leftA_len]; exact hj) k
  rw [putOk_iff]
  constructor
  · intro h j hj
    have hv := hval j hj (nextU p a).length
    rw [hfin, leftA_get p _ hj] at hv
    -- the last touch of rule j
    have key : ∀ k, k ≤ (nextU p a).length → (leftA p a).getD j 0 - sumK (useT (nextU p a) j x) k ≥ 0 := by
      intro k
      induction k with
      | zero =>
        intro _
        have := ho j hj
        rw [leftA_get p _ hj]
        show (p.R.getD j r0).m - leastA (p.R.getD j r0) a - 0 ≥ 0
        omega
      | succ k ih =>
        intro hk
        have ih := ih (by omega)
        by_cases he : ((nextU p a).getD k (0, [])).1.toNat = j
        · have := h k (by omega)
          rw [he, hval j hj] at this
          exact this
        · have e : sumK (useT (nextU p a) j x) (k + 1) = sumK (useT (nextU p a) j x) k + useT (nextU p a) j x k := rfl
          have e2 : useT (nextU p a) j x k = 0 := if_neg he
          omega
    have := key _ (Nat.le_refl _)
    omega
  · intro h k hk
    obtain ⟨j, h1, h2, _⟩ := hu k hk
    have e : ((nextU p a).getD k (0, [])).1.toNat = j := by rw [h2]; exact Int.toNat_natCast j
    rw [e, hval j h1]
    have hv := hval j h1 (nextU p a).length
    rw [hfin, leftA_get p _ h1] at hv
    have h3 := h j h1
    have h4 := sumK_mono (f := useT (nextU p a) j x) (show k + 1 ≤ (nextU p a).length by omega) (hnn j)
    omega
/-- WHEN open SAYS TRUE. -/
theorem open_opn (p : Pb) (a : List Int) : (!(leftA p a).any fun n => decide (n < 0)) = true ↔ Opn p a := by
  rw [Bool.not_eq_true', List.any_eq_false]
  constructor
  · intro h j hj
    have := h ((leftA p a).getD j 0) (getD_mem (by rw [leftA_len]; exact hj))
    rw [leftA_get p a hj, decide_eq_true_eq] at this
    omega
  · intro h n hn
    obtain ⟨j, hj, rfl⟩ := List.mem_iff_getElem.1 hn
    rw [leftA_len] at hj
    have h1 := h j hj
    have h2 := leftA_get p a hj
    rw [List.getD_eq_getElem?_getD, List.getElem?_eq_getElem (by rw [leftA_len]; exact hj)] at h2
    simp only [Option.getD_some] at h2
    rw [decide_eq_true_eq, h2]
    omega
end Go.Proofs.Ytngaihdpmoajeaa.Am

namespace Go.Proofs.Ytngaihdpmoajeaa.Am
open Go
set_option maxRecDepth 100000

/-- The heap while the values a are put; t: what lies behind them; Z: the others' objects. -/
def SH (p : Pb) (a t : List Int) (Z : Heap) : Heap := sH p (aV a t) (aO a t) (costA p a) (lV (leftA p a)) (lO (leftA p a)) (uA p p.R.length) (rsK p p.V.length) ++ Z
theorem sH_all (p : Pb) (a t : List Int) : ∀ o ∈ sH p (aV a t) (aO a t) (costA p a) (lV (leftA p a)) (lO (leftA p a)) (uA p p.R.length) (rsK p p.V.length), Alone 3 o := sH_alone (below_aV a t) (alone_aO a t) (below_lV _) (alone_lO _)
theorem besideS {f : FuncId} {args : List AV} {v : AV} {p : Pb} {a t : List Int} {h1 : Heap} (h : ACall Try.prog G0 f args (sH p (aV a t) (aO a t) (costA p a) (lV (leftA p a)) (lO (leftA p a)) (uA p p.R.length) (rsK p p.V.length)) v h1) (hl : h1.length = 3) (ha : ∀ x ∈ args, Below 3 x) (Z : Heap) : ACall Try.prog G0 f args (SH p a t Z) v (h1 ++ Z) :=
  h.beside (by rw [hl]; rfl) gbelow0 ha (sH_all p a t) Z
theorem below_SR : Below 3 SR := .ref _ _ _ (by omega)
theorem cost_app (p : Pb) (a : List Int) (x : Int) : costA p (a ++ [x]) = costA p a + (p.C.getD a.length []).getD x.toNat 0 := by
  unfold costA
  rw [List.length_append, List.length_singleton]
  show sumK (costT p (a ++ [x])) a.length + costT p (a ++ [x]) a.length = _
  have h1 : sumK (costT p (a ++ [x])) a.length = sumK (costT p a) a.length := sumK_congr fun i hi => by
    unfold costT
    rw [getD_app_lt hi]
  have h2 : costT p (a ++ [x]) a.length = (p.C.getD a.length []).getD x.toNat 0 := by
    unfold costT
    rw [getD_app_eq]
  rw [h1, h2]
theorem beg_app {p : Pb} {a : List Int} (ha : Beg p a) (hl : a.length < p.V.length) {x : Int} (h0 : 0 ≤ x) (hx : x < p.V.getD a.length 0) : Beg p (a ++ [x]) := by
  refine ⟨by simp; omega, fun k hk => ?_⟩
  have hk' : k < a.length + 1 := by simpa using hk
  by_cases he : k < a.length
  · rw [getD_app_lt he]
    exact ha.at' k he
  · obtain rfl : k = a.length := by omega
    rw [getD_app_eq]
    exact ⟨h0, hx⟩
/-- Room for what lies behind. -/
def Small (p : Pb) (a t : List Int) : Prop := (a ++ t).length ≤ p.V.length
section
variable {p : Pb} {a t : List Int}
/-- put. -/
theorem s65 (hp : Ok p) (ha : Beg p a) (hl : a.length < p.V.length) {x : Int} (h0 : 0 ≤ x) (hx : x < p.V.getD a.length 0) (hs : Small p a t) (Z : Heap) :
    ACall Try.prog G0 65 [SR, I x] (SH p a t Z) (.bool (putOk (nextU p a) x (leftA p a) (nextU p a).length)) (SH p (a ++ [x]) t.tail Z) := by
  have hb := beg_app ha hl h0 hx
  have hn := hp.n
  have hc := hp.c
  have hcl := hp.cl a.length hl
  have hk := costK_bound' hp hb
  rw [cost_app] at hk
  have key := c65 (p := p) (a := a) (t := t) (c := costA p a) (l := leftA p a) (us := uA p p.R.length) (rs := rsK p p.V.length) (x := x) (fit_use hp ha h0 hx) (by unfold Small at hs; omega) (by rw [uA_len]; exact hl) (by omega) (by omega) (by simp only [List.length_append, List.length_singleton] at hk; omega)
  have hput := left_put hp hl (x := x) (a := a) (by omega)
  have h1 := besideS key rfl (fun y hy => by
    simp only [List.mem_cons, List.not_mem_nil, or_false] at hy
    rcases hy with rfl | rfl
    · exact below_SR
    · exact .int _ _) Z
  rw [hput, ← cost_app] at h1
  have e : lV (leftA p a) = lV (leftA p (a ++ [x])) := lV_len (by rw [leftA_len, leftA_len])
  unfold SH at h1 ⊢
  rw [← e]
  exact h1
/-- back. -/
theorem s70 (hp : Ok p) (ha : Beg p a) (hl : a.length < p.V.length) {x : Int} (h0 : 0 ≤ x) (hx : x < p.V.getD a.length 0) (hs : Small p (a ++ [x]) t) (Z : Heap) :
    ACall Try.prog G0 70 [SR] (SH p (a ++ [x]) t Z) (.tup []) (SH p a (x :: t) Z) := by
  have hb := beg_app ha hl h0 hx
  have hn := hp.n
  have hc := hp.c
  have hcl := hp.cl a.length hl
  have hk := costK_bound' hp ha
  have happ := cost_app p a x
  have key := c70 (p := p) (a := a) (t := t) (c := costA p (a ++ [x])) (l := leftA p (a ++ [x])) (us := uA p p.R.length) (rs := rsK p p.V.length) (x := x) (fit_use hp hb h0 hx) (by unfold Small at hs; omega) (by rw [uA_len]; exact hl) (by omega) (by omega) (by omega)
  have hback := left_back hp hl (x := x) (a := a) (by omega)
  have h1 := besideS key rfl (fun y hy => by
    rw [List.mem_singleton.1 hy]; exact below_SR) Z
  have hcost : costA p (a ++ [x]) - (p.C.getD a.length []).getD x.toNat 0 = costA p a := by omega
  rw [hback, hcost] at h1
  have e : lV (leftA p (a ++ [x])) = lV (leftA p a) := lV_len (by rw [leftA_len, leftA_len])
  unfold SH at h1 ⊢
  rw [e] at h1 ⊢
  exact h1
/-- bound. -/
theorem s72 (hp : Ok p) (ha : Beg p a) (Z : Heap) : ACall Try.prog G0 72 [SR] (SH p a t Z) (I (boundA p a)) (SH p a t Z) := by
  have hn := hp.n
  have hl := ha.len
  have hr := rsK_get p p.V.length (Nat.le_refl _) a.length (by omega) hl
  have hk := costK_bound' hp ha
  have hr2 := restK_bound hp (i := a.length) (k := p.V.length - a.length) (by omega)
  have e : restA p a.length = sumK (restT p a.length) (p.V.length - a.length) := rfl
  have key := c72 (p := p) (a := a) (t := t) (c := costA p a) (l := lV (leftA p a)) (lo := lO (leftA p a)) (us := uA p p.R.length) (rs := rsK p p.V.length) (by rw [rsK_len]; omega) (by omega)
  have h1 := besideS key rfl (fun y hy => by
    rw [List.mem_singleton.1 hy]; exact below_SR) Z
  rw [hr] at h1
  exact h1
/-- open. -/
theorem s73 (hp : Ok p) (Z : Heap) : ACall Try.prog G0 73 [SR] (SH p a t Z) (.bool (!(leftA p a).any fun n => decide (n < 0))) (SH p a t Z) := by
  have hr := hp.r
  have key := c73 (p := p) (v := aV a t) (o := aO a t) (c := costA p a) (l := leftA p a) (us := uA p p.R.length) (rs := rsK p p.V.length) (by show (leftA p a).length < _; rw [leftA_len]; omega)
  exact besideS key rfl (fun y hy => by
    rw [List.mem_singleton.1 hy]; exact below_SR) Z
end
/-! ### The copy of the values -/
theorem run14c (v : AV) (r g len cap : Nat) (h h1 : Heap) : xCall Try.prog G0 { hint := orH (hNil 22) (hApp 22 .zs (.ms 1 r g 0 len cap) v h h1) } 200 14 [.ms 1 r g 0 len cap] [true] h =
    .need ((objAt h r g).isSome = true) (.ite false (.leaf (.zs, false, h)) (.need (some ([.zs, .ms 1 r g 0 len cap] : List AV) = some [.zs, .ms 1 r g 0 len cap] ∧ #[22, 22] = #[22, 22] ∧ h = h ∧ aAppend Try.prog h 22 22 .zs (.ms 1 r g 0 len cap) = some (v, h1)) (.leaf (v, true, h1)))) := by kernel_rfl
theorem c14p {L c : List Int} {len cap : Nat} (hlen : len = L.length) (hc : L = c.take len) (hl : c.length ≤ 16777216) {h : Heap} {r g : Nat} (ho : objAt h r g = some (c.map I)) (hle : len ≤ c.length) : ACall Try.prog G0 14 [.ms 1 r g 0 len cap] h (flL L) h := by
  have hconts : conts h 1 (.ms 1 r g 0 len cap) = some (len, L.map I) := by
    unfold conts
    simp only [ho]
    rw [if_pos ⟨trivial, by rw [List.length_map]; omega⟩]
    rw [hc]
    simp [List.map_take]
  have hcl : ∀ v h1, ClOk Try.prog G0 { hint := orH (hNil 22) (hApp 22 .zs (.ms 1 r g 0 len cap) v h h1) } := fun v h1 => .ofH rfl rfl ((hNil_ok Try.underlying22).or (hApp_ok _ _ _ _ _ _).ok) fun f xs t v h => by cases h
  by_cases h0 : L = []
  · have ha : aAppend Try.prog h 22 22 .zs (.ms 1 r g 0 len cap) = some (.zs, h) := by
      obtain ⟨ie, zx, h1, h2, h3, h4, h5, h6⟩ := el22.i
      have hn : notInt Try.prog 22 = true := by unfold notInt; rw [el22.u]
      unfold aAppend
      rw [el22.u]
      simp only [h1, h2, h3, hconts]
      subst h0
      simp only [List.length_nil] at hlen
      subst hlen
      have hall : (([] : List Int).map I).all AV.one = true := rfl
      simp only [hn, hall, h4, h5, h6, and_self, if_true]
    refine (xCall_ok (n := 200) (tags := [true]) (s := true) (v := .zs) names mixed (hcl .zs h) ?_).conv fun w M u hu => by rw [h0]; exact hu.flL_zs
    refine (congrArg Tree.sel (run14c _ r g len cap h _)).trans ?_
    rw [Tree.sel_need (by rw [ho]; rfl), selI, cond_false, Tree.sel_need ⟨rfl, rfl, rfl, ha⟩]
    rfl
  · have ha := append_zs el22 h (.ms 1 r g 0 len cap) (L := L.map I) (by rw [hconts, List.length_map, hlen]) (one_map L) (by rw [List.length_map]; omega) (by simpa using h0)
    rw [List.length_map] at ha
    refine ACall.newL (L := L) ?_
    refine xCall_ok (n := 200) (tags := [true]) (s := true) names mixed (hcl (.ms 1 h.length 0 0 L.length L.length) (h ++ [.cells 0 (L.map I)])) ?_
    refine (congrArg Tree.sel (run14c _ r g len cap h _)).trans ?_
    rw [Tree.sel_need (by rw [ho]; rfl), selI, cond_false, Tree.sel_need ⟨rfl, rfl, rfl, ha⟩]
    rfl
/-- The copy of the values. -/
theorem s14v {p : Pb} {a t : List Int} (hp : Ok p) (hs : Small p a t) (Z : Heap) : ACall Try.prog G0 14 [aV a t] (SH p a t Z) (flL a) (SH p a t Z) := by
  have hn := hp.n
  unfold Small at hs
  by_cases h0 : a ++ t = []
  · have ha : a = [] := (List.append_eq_nil_iff.1 h0).1
    have e : aV a t = .zs := by unfold aV; rw [h0]
    rw [e, ha]
    exact ((c14e _).arg1 sub_zs0).conv fun _ _ _ h => h.flL_zs
  · rw [aV_ms h0]
    refine c14p (c := a ++ t) rfl (by simp) (by omega) ?_ (by simp)
    unfold objAt
    have : (SH p a t Z)[2]? = some (aO a t) := rfl
    rw [this]
    unfold aO
    rw [sO_rowI h0]
    simp
end Go.Proofs.Ytngaihdpmoajeaa.Am

namespace Go.Proofs.Ytngaihdpmoajeaa.Am
open Go
set_option maxRecDepth 100000

/-- A call that leaves the heap alone, told at a heap (i: the temporary that holds the function; none: a named one). -/
def hCalT (i : Option Nat) (g : FuncId) (first caps xs : List AV) (v : AV) (h0 : Heap) : Heap → Oper → (Operand → Option AV) → Option (AV × Bool × Heap × Prop) := fun h o ρ => match o.op with
  | .call c => match c.callee with
    | .value (.tmp j) => match i with
      | some i => bif Nat.beq i j then some (v, true, h, ρ (.tmp j) = some (.fn g first caps) ∧ evAllR ρ c.args.toList = some xs ∧ h = h0) else none
      | none => none
    | .value (.func f) => match i with
      | some _ => none
      | none => bif Nat.beq f g then some (v, true, h, ρ (.func f) = some (.fn g first caps) ∧ evAllR ρ c.args.toList = some xs ∧ h = h0) else none
    | _ => none
  | _ => none
theorem hCalT_ok {i : Option Nat} {g : FuncId} {first caps xs : List AV} {v : AV} {h0 : Heap} (hc : ACall Try.prog G0 g (first ++ xs ++ caps) h0 v h0) : HintOk Try.prog G0 (hCalT i g first caps xs v h0) := by
  refine ⟨fun h o a m y tg h' p hh hp => ?_, fun h o ρ y tg h' p hh hp hq => ?_⟩
  · unfold hCalT at hh
    split at hh <;> first | (cases hh; done) | skip
    rename_i c ho
    split at hh <;> first | (cases hh; done) | skip
    · rename_i j hcal
      split at hh <;> first | (cases hh; done) | skip
      rename_i i
      cases hij : Nat.beq i j with
      | false => rw [hij] at hh; cases hh
      | true =>
        rw [hij, cond_true] at hh
        cases hh
        obtain ⟨p1, p2, rfl⟩ := hp
        exact AStep.call ho hcal p1 (by rw [evAllR_eq]; exact p2) hc
    · rename_i f hcal
      split at hh <;> first | (cases hh; done) | skip
      cases hij : Nat.beq f g with
      | false => rw [hij] at hh; cases hh
      | true =>
        rw [hij, cond_true] at hh
        cases hh
        obtain ⟨p1, p2, rfl⟩ := hp
        exact AStep.call ho hcal p1 (by rw [evAllR_eq]; exact p2) hc
  · unfold hCalT at hh
    split at hh <;> first | (cases hh; done) | skip
    split at hh <;> first | (cases hh; done) | skip
    · split at hh <;> first | (cases hh; done) | skip
      revert hh
      cases Nat.beq _ _ <;> intro hh <;> cases hh <;> rfl
    · split at hh <;> first | (cases hh; done) | skip
      revert hh
      cases Nat.beq _ _ <;> intro hh <;> cases hh <;> rfl
def caps71 (l nt nw nu : Nat) (mf : AV) : List AV := [.row [SR] 0, .row [.yf l] 0, .ref nt 0 0, .row [mf] 0, .ref nw 0 0, .ref nu 0 0]
def tags6 : List Bool := [true, true, true, true, true, true]
def cyK (l0 : Nat) (xs : List AV) (v : AV) (h0 h1 : Heap) : Nat → List AV → Heap → Option (Tree (AV × Heap)) := fun l ys h => some (.need (l = l0 ∧ ys = xs ∧ h = h0) (.leaf (v, h1)))
theorem cyK_ok {l0 : Nat} {xs0 : List AV} {v0 : AV} {h0 h1 : Heap} (hy : AYield Try.prog G0 l0 xs0 h0 v0 h1) : ∀ l xs σ t v σ', cyK l0 xs0 v0 h0 h1 l xs σ = some t → t.sel = some (v, σ') → AYield Try.prog G0 l xs σ v σ' := by
  intro l xs σ t v σ' hq hsel
  unfold cyK at hq
  cases hq
  obtain ⟨⟨rfl, rfl, rfl⟩, h2⟩ := Tree.of_need hsel
  cases h2
  exact hy
/-! ### The end of an assignment -/
def keep71 : List Nat := [0, 1, 2, 3, 4, 5, 6, 43, 44]
def st71 (l nt nw nu : Nat) (mf : AV) (h : Heap) (n k : Int) : St := .of 64 h [(0, .row [SR] 0, true), (1, .row [.yf l] 0, true), (2, .ref nt 0 0, true), (3, .row [mf] 0, true), (4, .ref nw 0 0, true), (5, .ref nu 0 0, true), (6, .bool false, false), (43, I n, true), (44, I k, true)]
def E71l (m l : Nat) (p : Pb) (v av : AV) (o : AObj) (c : Int) (lv : AV) (lo : AObj) (us : List (List (Int × List Int))) (rs : List Int) (Z : Heap) (b : Bool) (h1 : Heap) : Env := { boxRow := false, clh := failH, cy := cyK l [av, I c] (.bool b) (sH p v o c lv lo us rs ++ Z) h1, hint := orH (hLenT 22 [12, 40] v m) (hCalT none 14 [] [] [v] av (sH p v o c lv lo us rs ++ Z)) }
def E71n (m : Nat) (v : AV) : Env := { boxRow := false, clh := failH, hint := hLenT 22 [12, 40] v m }
theorem run71f (m : Nat) (l nt nw nu : Nat) (mf : AV) (p : Pb) (v av : AV) (o : AObj) (c : Int) (lv : AV) (lo : AObj) (us : List (List (Int × List Int))) (rs : List Int) (Z : Heap) (b : Bool) (h1 : Heap) : xenter Try.prog (E71l m l p v av o c lv lo us rs Z b h1) (xCode Try.prog G0 (E71l m l p v av o c lv lo us rs Z b h1) 200 (lpF 4 keep71 (st71 l nt nw nu mf (sH p v o c lv lo us rs ++ Z) (p.V.getD m 0) 0))) 71 (caps71 l nt nw nu mf) tags6 (sH p v o c lv lo us rs ++ Z) = .need (((Option.some v) = (Option.some v)) ∧ (((#[(22 : Nat)]) = (#[(22 : TypeId)])) ∧ ((aLen Try.prog (22 : TypeId) v) = (Option.some (I ((↑m : Int))))))) (.ite ((↑m : Int) == (↑p.V.length : Int)) (.need (((Option.some (AV.fn (14 : Nat) [] [])) = (Option.some (AV.fn (14 : Nat) [] []))) ∧ (((Option.some [v]) = (Option.some [v])) ∧ (((AObj.cells (0 : Nat) [(flL (p.V)), (flLL (p.C)), (flR (p.R)), v, (I c), lv, (usesAV (us)), (flL (rs))]) :: (lo :: (o :: Z))) = ((AObj.cells (0 : Nat) [(flL (p.V)), (flLL (p.C)), (flR (p.R)), v, (I c), lv, (usesAV (us)), (flL (rs))]) :: (lo :: (o :: Z)))))) (.need ((l = l) ∧ (([av, (I c)] = [av, (I c)]) ∧ (((AObj.cells (0 : Nat) [(flL (p.V)), (flLL (p.C)), (flR (p.R)), v, (I c), lv, (usesAV (us)), (flL (rs))]) :: (lo :: (o :: Z))) = ((AObj.cells (0 : Nat) [(flL (p.V)), (flLL (p.C)), (flR (p.R)), v, (I c), lv, (usesAV (us)), (flL (rs))]) :: (lo :: (o :: Z)))))) (.leaf ((AV.bool b), true, h1)))) (.need (((Option.some v) = (Option.some v)) ∧ (((#[(22 : Nat)]) = (#[(22 : TypeId)])) ∧ ((aLen Try.prog (22 : TypeId) v) = (Option.some (I ((↑m : Int))))))) (.need (((0 : Int) ≤ (↑m : Int)) ∧ ((↑m : Int) < (↑p.V.length : Int))) (.need ((st71 l nt nw nu mf (sH p v o c lv lo us rs ++ Z) (p.V.getD m 0) 0).vals = (st71 l nt nw nu mf (sH p v o c lv lo us rs ++ Z) (p.V.getD m 0) 0).vals) .fail)))) := by kernel_rfl
theorem run71x (m : Nat) (l nt nw nu : Nat) (mf : AV) (p : Pb) (v : AV) (o : AObj) (c : Int) (lv : AV) (lo : AObj) (us : List (List (Int × List Int))) (rs : List Int) (Z hx : Heap) (k : Int) : xenter Try.prog (E71n m v) (xCode Try.prog G0 (E71n m v) 200 (lpB 4 keep71 (st71 l nt nw nu mf (sH p v o c lv lo us rs ++ Z) (p.V.getD m 0) 0) (.exit 0) (st71 l nt nw nu mf hx (p.V.getD m 0) k))) 71 (caps71 l nt nw nu mf) tags6 (sH p v o c lv lo us rs ++ Z) = .need (((Option.some v) = (Option.some v)) ∧ (((#[(22 : Nat)]) = (#[(22 : TypeId)])) ∧ ((aLen Try.prog (22 : TypeId) v) = (Option.some (I ((↑m : Int))))))) (.ite ((↑m : Int) == (↑p.V.length : Int)) .fail (.need (((Option.some v) = (Option.some v)) ∧ (((#[(22 : Nat)]) = (#[(22 : TypeId)])) ∧ ((aLen Try.prog (22 : TypeId) v) = (Option.some (I ((↑m : Int))))))) (.need (((0 : Int) ≤ (↑m : Int)) ∧ ((↑m : Int) < (↑p.V.length : Int))) (.need ((st71 l nt nw nu mf (sH p v o c lv lo us rs ++ Z) (p.V.getD m 0) 0).vals = (st71 l nt nw nu mf (sH p v o c lv lo us rs ++ Z) (p.V.getD m 0) 0).vals) (.leaf ((AV.bool true), false, hx)))))) := by kernel_rfl
theorem run71s (m : Nat) (l nt nw nu : Nat) (mf : AV) (p : Pb) (v : AV) (o : AObj) (c : Int) (lv : AV) (lo : AObj) (us : List (List (Int × List Int))) (rs : List Int) (Z hx : Heap) (k : Int) : xenter Try.prog (E71n m v) (xCode Try.prog G0 (E71n m v) 200 (lpB 4 keep71 (st71 l nt nw nu mf (sH p v o c lv lo us rs ++ Z) (p.V.getD m 0) 0) .ret (st71 l nt nw nu mf hx (p.V.getD m 0) k))) 71 (caps71 l nt nw nu mf) tags6 (sH p v o c lv lo us rs ++ Z) = .need (((Option.some v) = (Option.some v)) ∧ (((#[(22 : Nat)]) = (#[(22 : TypeId)])) ∧ ((aLen Try.prog (22 : TypeId) v) = (Option.some (I ((↑m : Int))))))) (.ite ((↑m : Int) == (↑p.V.length : Int)) .fail (.need (((Option.some v) = (Option.some v)) ∧ (((#[(22 : Nat)]) = (#[(22 : TypeId)])) ∧ ((aLen Try.prog (22 : TypeId) v) = (Option.some (I ((↑m : Int))))))) (.need (((0 : Int) ≤ (↑m : Int)) ∧ ((↑m : Int) < (↑p.V.length : Int))) (.need ((st71 l nt nw nu mf (sH p v o c lv lo us rs ++ Z) (p.V.getD m 0) 0).vals = (st71 l nt nw nu mf (sH p v o c lv lo us rs ++ Z) (p.V.getD m 0) 0).vals) (.leaf ((AV.bool false), false, hx)))))) := by kernel_rfl

end Go.Proofs.Ytngaihdpmoajeaa.Am

namespace Go.Proofs.Ytngaihdpmoajeaa.Am
open Go
set_option maxRecDepth 100000

/-- A variable of the heap, and what it holds. -/
def Holds (h0 : Heap) (rf v : AV) : Prop := ∃ r g off c, rf = .ref r g off ∧ h0[r]? = some (.cells g c) ∧ c[off]? = some v
/-- A load told at a heap. -/
def hLdR (t : TypeId) (rf : AV) (v : AV) (h0 : Heap) : Heap → Oper → (Operand → Option AV) → Option (AV × Bool × Heap × Prop) := fun h o ρ => match o.op with
  | .load t' x => bif Nat.beq t' t then some (v, true, h, ρ x = some rf ∧ h = h0) else none
  | _ => none
theorem hLdR_ok {t : TypeId} {d : TypeDesc} (hu : Try.prog.underlying t = some d) (hd : aggD d = false) {rf v : AV} {h0 : Heap} (hh0 : Holds h0 rf v) : HintA Try.prog (hLdR t rf v h0) := by
  intro h o ρ y s h' p hh hp
  unfold hLdR at hh
  split at hh <;> first | (cases hh; done) | skip
  rename_i t' x ho
  cases ht : Nat.beq t' t with
  | false => rw [ht] at hh; cases hh
  | true =>
    rw [ht, cond_true] at hh
    cases hh
    obtain ⟨p1, rfl⟩ := hp
    obtain ⟨r, g, off, c, rfl, p2, p3⟩ := hh0
    exact (hLdO_ok r hu hd v) h o ρ v true h (g = g ∧ c[off]? = some v) (by unfold hLdO; rw [ho]; dsimp only; rw [ht, cond_true, p1]; dsimp only; rw [Nat.beq_refl, cond_true, p2]) ⟨rfl, p3⟩
/-- Calls told beforehand. -/
def clhs (L : List (FuncId × List AV × Heap × AV × Heap)) : FuncId → List AV → Heap → Option (Tree (AV × Heap)) := fun f ys h => match L.find? (fun x => Nat.beq x.1 f) with
  | some (_, xs, h0, v, h1) => some (.need (ys = xs ∧ h = h0) (.leaf (v, h1)))
  | none => some .fail
theorem clhs_ok {L : List (FuncId × List AV × Heap × AV × Heap)} (hc : ∀ x ∈ L, ACall Try.prog G0 x.1 x.2.1 x.2.2.1 x.2.2.2.1 x.2.2.2.2) : ∀ f ys σ t u σ', clhs L f ys σ = some t → t.sel = some (u, σ') → ACall Try.prog G0 f ys σ u σ' := by
  intro f ys σ t u σ' hq hsel
  unfold clhs at hq
  split at hq
  · rename_i f0 xs h0 v h1 hf
    cases hq
    obtain ⟨⟨rfl, rfl⟩, h2⟩ := Tree.of_need hsel
    cases h2
    have h3 := hc _ (List.mem_of_find?_eq_some hf)
    have h4 := List.find?_some hf
    rw [Nat.beq_eq] at h4
    obtain rfl : f0 = f := h4
    exact h3
  · cases hq; cases hsel
def E71r (nt nw nu : Nat) (caps fst fcs : List AV) (g : FuncId) (h0 h1 h2 h3 : Heap) (k bd mo : Int) (ok m : Bool) : Env := { boxRow := false, clh := clhs [(65, [SR, I k], h0, .bool ok, h1), (71, caps, h1, .bool m, h2), (70, [SR], h2, .tup [], h3)], hint := orH (hLdR 85 (.ref nt 0 0) (.fn 65 [SR] []) h0) (orH (hLdR 29 (.ref nw 0 0) (.fn 71 [] caps) h1) (orH (hLdR 1 (.ref nu 0 0) (.fn 70 [SR] []) h2) (orH (hCalT none 72 [] [] [SR] (I bd) h1) (hCalT (some 53) g fst fcs [] (I mo) h1)))) }
noncomputable def body71 : Code := (loopsOf (bodyOf Try.prog 71)).headD .skip
def E71q (nt nw nu : Nat) (caps : List AV) (fst fcs : List AV) (g : FuncId) (h0 h1 h3 : Heap) (k bd mo : Int) (ok : Bool) : Env := { boxRow := false, clh := clhs [(65, [SR, I k], h0, .bool ok, h1), (70, [SR], h1, .tup [], h3)], hint := orH (hLdR 85 (.ref nt 0 0) (.fn 65 [SR] []) h0) (orH (hLdR 29 (.ref nw 0 0) (.fn 71 [] caps) h1) (orH (hLdR 1 (.ref nu 0 0) (.fn 70 [SR] []) h1) (orH (hCalT none 72 [] [] [SR] (I bd) h1) (hCalT (some 53) g fst fcs [] (I mo) h1)))) }
theorem run71r (l nt nw nu : Nat) (mf : AV) (caps fst fcs : List AV) (g : FuncId) (h0 h1 h2 h3 : Heap) (n k bd mo : Int) (ok m : Bool) : xBody Try.prog G0 (E71r nt nw nu caps fst fcs g h0 h1 h2 h3 k bd mo ok m) 200 noLoops keep71 body71 (st71 l nt nw nu mf h0 n k) = .ite (decide (k < n)) (.need (((Option.some (AV.ref nt (0 : Nat) (0 : Nat))) = (Option.some (AV.ref nt (0 : Nat) (0 : Nat)))) ∧ (h0 = h0)) (.need (([(AV.ref (0 : Nat) (0 : Nat) (0 : Nat)), (I k)] = [(AV.ref (0 : Nat) (0 : Nat) (0 : Nat)), (I k)]) ∧ (h0 = h0)) (.ite (ok) (.need (((Option.some (AV.fn (72 : Nat) [] [])) = (Option.some (AV.fn (72 : Nat) [] []))) ∧ (((Option.some [(AV.ref (0 : Nat) (0 : Nat) (0 : Nat))]) = (Option.some [(AV.ref (0 : Nat) (0 : Nat) (0 : Nat))])) ∧ (h1 = h1))) (.need (((Option.some mf) = (Option.some (AV.fn g fst fcs))) ∧ (((Option.some ([] : List AV)) = (Option.some ([] : List AV))) ∧ (h1 = h1))) (.ite (decide (bd < mo)) (.need (((Option.some (AV.ref nw (0 : Nat) (0 : Nat))) = (Option.some (AV.ref nw (0 : Nat) (0 : Nat)))) ∧ (h1 = h1)) (.need ((caps = caps) ∧ (h1 = h1)) (.need (((Option.some (AV.ref nu (0 : Nat) (0 : Nat))) = (Option.some (AV.ref nu (0 : Nat) (0 : Nat)))) ∧ (h2 = h2)) (.need (([(AV.ref (0 : Nat) (0 : Nat) (0 : Nat))] = [(AV.ref (0 : Nat) (0 : Nat) (0 : Nat))]) ∧ (h2 = h2)) (.ite (!m) (.leaf (Exit.ret, St.of 64 h3 [(0, (AV.row [(AV.ref (0 : Nat) (0 : Nat) (0 : Nat))] (0 : Nat)), true), (1, (AV.row [(AV.yf l)] (0 : Nat)), true), (2, (AV.ref nt (0 : Nat) (0 : Nat)), true), (3, (AV.row [mf] (0 : Nat)), true), (4, (AV.ref nw (0 : Nat) (0 : Nat)), true), (5, (AV.ref nu (0 : Nat) (0 : Nat)), true), (6, (AV.bool false), false), (43, (I n), true), (44, (I k), true)])) (.leaf (Exit.normal, St.of 64 h3 [(0, (AV.row [(AV.ref (0 : Nat) (0 : Nat) (0 : Nat))] (0 : Nat)), true), (1, (AV.row [(AV.yf l)] (0 : Nat)), true), (2, (AV.ref nt (0 : Nat) (0 : Nat)), true), (3, (AV.row [mf] (0 : Nat)), true), (4, (AV.ref nw (0 : Nat) (0 : Nat)), true), (5, (AV.ref nu (0 : Nat) (0 : Nat)), true), (6, (AV.bool false), false), (43, (I n), true), (44, (I (IntKind.i64.wrap (k + (1 : Int)))), true)]))))))) (.need (((Option.some (AV.ref nu (0 : Nat) (0 : Nat))) = (Option.some (AV.ref nu (0 : Nat) (0 : Nat)))) ∧ (h1 = h2)) (.need (([(AV.ref (0 : Nat) (0 : Nat) (0 : Nat))] = [(AV.ref (0 : Nat) (0 : Nat) (0 : Nat))]) ∧ (h1 = h2)) (.leaf (Exit.normal, St.of 64 h3 [(0, (AV.row [(AV.ref (0 : Nat) (0 : Nat) (0 : Nat))] (0 : Nat)), true), (1, (AV.row [(AV.yf l)] (0 : Nat)), true), (2, (AV.ref nt (0 : Nat) (0 : Nat)), true), (3, (AV.row [mf] (0 : Nat)), true), (4, (AV.ref nw (0 : Nat) (0 : Nat)), true), (5, (AV.ref nu (0 : Nat) (0 : Nat)), true), (6, (AV.bool false), false), (43, (I n), true), (44, (I (IntKind.i64.wrap (k + (1 : Int)))), true)]))))))) (.need (((Option.some (AV.ref nu (0 : Nat) (0 : Nat))) = (Option.some (AV.ref nu (0 : Nat) (0 : Nat)))) ∧ (h1 = h2)) (.need (([(AV.ref (0 : Nat) (0 : Nat) (0 : Nat))] = [(AV.ref (0 : Nat) (0 : Nat) (0 : Nat))]) ∧ (h1 = h2)) (.leaf (Exit.normal, St.of 64 h3 [(0, (AV.row [(AV.ref (0 : Nat) (0 : Nat) (0 : Nat))] (0 : Nat)), true), (1, (AV.row [(AV.yf l)] (0 : Nat)), true), (2, (AV.ref nt (0 : Nat) (0 : Nat)), true), (3, (AV.row [mf] (0 : Nat)), true), (4, (AV.ref nw (0 : Nat) (0 : Nat)), true), (5, (AV.ref nu (0 : Nat) (0 : Nat)), true), (6, (AV.bool false), false), (43, (I n), true), (44, (I (IntKind.i64.wrap (k + (1 : Int)))), true)]))))))) (.leaf ((Exit.exit (0 : Nat)), St.of 64 h0 [(0, (AV.row [(AV.ref (0 : Nat) (0 : Nat) (0 : Nat))] (0 : Nat)), true), (1, (AV.row [(AV.yf l)] (0 : Nat)), true), (2, (AV.ref nt (0 : Nat) (0 : Nat)), true), (3, (AV.row [mf] (0 : Nat)), true), (4, (AV.ref nw (0 : Nat) (0 : Nat)), true), (5, (AV.ref nu (0 : Nat) (0 : Nat)), true), (6, (AV.bool false), false), (43, (I n), true), (44, (I k), true)])) := by kernel_rfl
theorem run71q (l nt nw nu : Nat) (mf : AV) (caps fst fcs : List AV) (g : FuncId) (h0 h1 h3 : Heap) (n k bd mo : Int) (ok : Bool) : xBody Try.prog G0 (E71q nt nw nu caps fst fcs g h0 h1 h3 k bd mo ok) 200 noLoops keep71 body71 (st71 l nt nw nu mf h0 n k) = .ite (decide (k < n)) (.need (((Option.some (AV.ref nt (0 : Nat) (0 : Nat))) = (Option.some (AV.ref nt (0 : Nat) (0 : Nat)))) ∧ (h0 = h0)) (.need (([(AV.ref (0 : Nat) (0 : Nat) (0 : Nat)), (I k)] = [(AV.ref (0 : Nat) (0 : Nat) (0 : Nat)), (I k)]) ∧ (h0 = h0)) (.ite (ok) (.need (((Option.some (AV.fn (72 : Nat) [] [])) = (Option.some (AV.fn (72 : Nat) [] []))) ∧ (((Option.some [(AV.ref (0 : Nat) (0 : Nat) (0 : Nat))]) = (Option.some [(AV.ref (0 : Nat) (0 : Nat) (0 : Nat))])) ∧ (h1 = h1))) (.need (((Option.some mf) = (Option.some (AV.fn g fst fcs))) ∧ (((Option.some ([] : List AV)) = (Option.some ([] : List AV))) ∧ (h1 = h1))) (.ite (decide (bd < mo)) (.need (((Option.some (AV.ref nw (0 : Nat) (0 : Nat))) = (Option.some (AV.ref nw (0 : Nat) (0 : Nat)))) ∧ (h1 = h1)) .fail) (.need (((Option.some (AV.ref nu (0 : Nat) (0 : Nat))) = (Option.some (AV.ref nu (0 : Nat) (0 : Nat)))) ∧ (h1 = h1)) (.need (([(AV.ref (0 : Nat) (0 : Nat) (0 : Nat))] = [(AV.ref (0 : Nat) (0 : Nat) (0 : Nat))]) ∧ (h1 = h1)) (.leaf (Exit.normal, St.of 64 h3 [(0, (AV.row [(AV.ref (0 : Nat) (0 : Nat) (0 : Nat))] (0 : Nat)), true), (1, (AV.row [(AV.yf l)] (0 : Nat)), true), (2, (AV.ref nt (0 : Nat) (0 : Nat)), true), (3, (AV.row [mf] (0 : Nat)), true), (4, (AV.ref nw (0 : Nat) (0 : Nat)), true), (5, (AV.ref nu (0 : Nat) (0 : Nat)), true), (6, (AV.bool false), false), (43, (I n), true), (44, (I (IntKind.i64.wrap (k + (1 : Int)))), true)]))))))) (.need (((Option.some (AV.ref nu (0 : Nat) (0 : Nat))) = (Option.some (AV.ref nu (0 : Nat) (0 : Nat)))) ∧ (h1 = h1)) (.need (([(AV.ref (0 : Nat) (0 : Nat) (0 : Nat))] = [(AV.ref (0 : Nat) (0 : Nat) (0 : Nat))]) ∧ (h1 = h1)) (.leaf (Exit.normal, St.of 64 h3 [(0, (AV.row [(AV.ref (0 : Nat) (0 : Nat) (0 : Nat))] (0 : Nat)), true), (1, (AV.row [(AV.yf l)] (0 : Nat)), true), (2, (AV.ref nt (0 : Nat) (0 : Nat)), true), (3, (AV.row [mf] (0 : Nat)), true), (4, (AV.ref nw (0 : Nat) (0 : Nat)), true), (5, (AV.ref nu (0 : Nat) (0 : Nat)), true), (6, (AV.bool false), false), (43, (I n), true), (44, (I (IntKind.i64.wrap (k + (1 : Int)))), true)]))))))) (.leaf ((Exit.exit (0 : Nat)), St.of 64 h0 [(0, (AV.row [(AV.ref (0 : Nat) (0 : Nat) (0 : Nat))] (0 : Nat)), true), (1, (AV.row [(AV.yf l)] (0 : Nat)), true), (2, (AV.ref nt (0 : Nat) (0 : Nat)), true), (3, (AV.row [mf] (0 : Nat)), true), (4, (AV.ref nw (0 : Nat) (0 : Nat)), true), (5, (AV.ref nu (0 : Nat) (0 : Nat)), true), (6, (AV.bool false), false), (43, (I n), true), (44, (I k), true)])) := by kernel_rfl
theorem run71e (l nt nw nu : Nat) (mf : AV) (h0 : Heap) (n k : Int) : xBody Try.prog G0 { boxRow := false, clh := failH, hint := hLdR 85 (.ref nt 0 0) (.fn 65 [SR] []) h0 } 200 noLoops keep71 body71 (st71 l nt nw nu mf h0 n k) = .ite (decide (k < n)) (.need (((Option.some (AV.ref nt (0 : Nat) (0 : Nat))) = (Option.some (AV.ref nt (0 : Nat) (0 : Nat)))) ∧ (h0 = h0)) .fail) (.leaf ((Exit.exit (0 : Nat)), St.of 64 h0 [(0, (AV.row [(AV.ref (0 : Nat) (0 : Nat) (0 : Nat))] (0 : Nat)), true), (1, (AV.row [(AV.yf l)] (0 : Nat)), true), (2, (AV.ref nt (0 : Nat) (0 : Nat)), true), (3, (AV.row [mf] (0 : Nat)), true), (4, (AV.ref nw (0 : Nat) (0 : Nat)), true), (5, (AV.ref nu (0 : Nat) (0 : Nat)), true), (6, (AV.bool false), false), (43, (I n), true), (44, (I k), true)])) := by kernel_rfl

end Go.Proofs.Ytngaihdpmoajeaa.Am

namespace Go.Proofs.Ytngaihdpmoajeaa.Am
open Go
set_option maxRecDepth 100000

/-- Who uses the walk: the bound that it looks at, what it does with a solution, whether it wants more, its objects. -/
structure Cns (τ : Type) where
  most : τ → Int
  yst : τ → List Int → τ
  more : τ → List Int → Bool
  Z : τ → Heap
  inv : τ → Prop
def putW (p : Pb) (a : List Int) (x : Int) : Bool := putOk (nextU p a) x (leftA p a) (nextU p a).length
section
variable {τ : Type}
def loopW (step : Int → τ → Bool × τ) : Nat → Int → τ → Bool × τ
  | 0, _, s => (true, s)
  | d + 1, k, s => bif (step k s).1 then loopW step d (k + 1) (step k s).2 else (false, (step k s).2)
def goesW (p : Pb) (K : Cns τ) (a : List Int) (x : Int) (s : τ) : Bool := bif putW p a x then decide (boundA p (a ++ [x]) < K.most s) else false
/-- The walk below the values a, d levels deep. -/
def walkW (p : Pb) (K : Cns τ) : Nat → List Int → τ → Bool × τ
  | 0, a, s => (K.more s a, K.yst s a)
  | d + 1, a, s => loopW (fun x s => bif goesW p K a x s then walkW p K d (a ++ [x]) s else (true, s)) (p.V.getD a.length 0).toNat 0 s
/-- What is known of the user. -/
structure Usr (p : Pb) (K : Cns τ) (l nt nw nu : Nat) (mf : AV) (g : FuncId) (fst fcs : List AV) : Prop where
  fn : mf = .fn g fst fcs
  yld : ∀ a t s, K.inv s → Beg p a → a.length = p.V.length → Small p a t → AYield Try.prog G0 l [flL a, I (costA p a)] (SH p a t (K.Z s)) (.bool (K.more s a)) (SH p a t (K.Z (K.yst s a)))
  inv : ∀ a s, K.inv s → Beg p a → a.length = p.V.length → K.more s a = true → K.inv (K.yst s a)
  most : ∀ a t s, K.inv s → Beg p a → ACall Try.prog G0 g (fst ++ [] ++ fcs) (SH p a t (K.Z s)) (I (K.most s)) (SH p a t (K.Z s))
  ht : ∀ a t s, Holds (SH p a t (K.Z s)) (.ref nt 0 0) (.fn 65 [SR] [])
  hw : ∀ a t s, Holds (SH p a t (K.Z s)) (.ref nw 0 0) (.fn 71 [] (caps71 l nt nw nu mf))
  hu : ∀ a t s, Holds (SH p a t (K.Z s)) (.ref nu 0 0) (.fn 70 [SR] [])
end
def A71 (l nt nw nu : Nat) (mf : AV) (n k : Int) : List AV := (st71 l nt nw nu mf [] n k).a
section
variable {τ : Type} {p : Pb} {K : Cns τ} {l nt nw nu : Nat} {mf : AV} {g : FuncId} {fst fcs : List AV}
theorem small_put {a t : List Int} (hs : Small p a t) (hl : a.length < p.V.length) (x : Int) : Small p (a ++ [x]) t.tail := by
  unfold Small at *
  simp only [List.length_append, List.length_singleton, List.length_tail] at *
  omega
theorem small_back {a t : List Int} {x : Int} (hs : Small p (a ++ [x]) t) : Small p a (x :: t) := by
  unfold Small at *
  simp only [List.length_append, List.length_cons] at *
  omega
/-- A round that passes a value by. -/
theorem round_q (hp : Ok p) (U : Usr p K l nt nw nu mf g fst fcs) {a t : List Int} {s : τ} (hi : K.inv s) (ha : Beg p a) (hl : a.length < p.V.length) (hs : Small p a t) {k : Int} (h0 : 0 ≤ k) (hk : k < p.V.getD a.length 0) (hg : goesW p K a k s = false) :
    AExec Try.prog G0 (fun r => r = none) body71 { tmps := A71 l nt nw nu mf (p.V.getD a.length 0) k } (SH p a t (K.Z s)) .normal { tmps := A71 l nt nw nu mf (p.V.getD a.length 0) (k + 1) } (SH p a (k :: t.tail) (K.Z s)) := by
  have hb := beg_app ha hl h0 hk
  have hs1 := small_put hs hl k
  have hv := (hp.v a.length hl).2
  have hcl : ClOk Try.prog G0 (E71q nt nw nu (caps71 l nt nw nu mf) fst fcs g (SH p a t (K.Z s)) (SH p (a ++ [k]) t.tail (K.Z s)) (SH p a (k :: t.tail) (K.Z s)) k (boundA p (a ++ [k])) (K.most s) (putW p a k)) := by
    refine .all (((hLdR_ok Try.underlying85 rfl (U.ht a t s)).ok).or (((hLdR_ok Try.underlying29 rfl (U.hw (a ++ [k]) t.tail s)).ok).or (((hLdR_ok Try.underlying1 rfl (U.hu (a ++ [k]) t.tail s)).ok).or ((hCalT_ok (s72 hp hb (K.Z s))).or (hCalT_ok (U.most (a ++ [k]) t.tail s hi hb)))))) (clhs_ok fun x hx => ?_) (fun l xs σ t v σ' h => (by cases h)) (fun f xs t v h => (by cases h))
    rcases List.mem_cons.1 hx with rfl | hx
    · exact s65 hp ha hl h0 hk hs (K.Z s)
    · obtain rfl := List.mem_singleton.1 hx
      exact s70 hp ha hl h0 hk hs1 (K.Z s)
  have hw : IntKind.i64.wrap (k + 1) = k + 1 := wrapI ⟨by omega, by omega⟩
  refine rnd (n := 200) (keep := keep71) (s := st71 l nt nw nu mf (SH p a t (K.Z s)) (p.V.getD a.length 0) k) (t := st71 l nt nw nu mf (SH p a (k :: t.tail) (K.Z s)) (p.V.getD a.length 0) (k + 1)) (st' := st71 l nt nw nu mf (SH p a (k :: t.tail) (K.Z s)) (p.V.getD a.length 0) (IntKind.i64.wrap (k + 1))) hcl (lpNo _) ((congrArg Tree.sel (run71q l nt nw nu mf _ fst fcs g _ _ _ _ k _ _ _)).trans ?_) (by rw [hw])
  unfold goesW at hg
  refine t_ite (fun _ => t_need ⟨rfl, rfl⟩ (t_need ⟨rfl, rfl⟩ (t_ite (fun h1 => ?_) fun _ => t_need ⟨rfl, rfl⟩ (t_need ⟨rfl, rfl⟩ rfl)))) fun h => absurd (dT hk) (by rw [h]; nofun)
  rw [h1, cond_true] at hg
  refine t_need ⟨rfl, rfl, rfl⟩ (t_need ⟨by rw [U.fn], rfl, rfl⟩ (t_ite (fun h2 => ?_) fun _ => t_need ⟨rfl, rfl⟩ (t_need ⟨rfl, rfl⟩ rfl)))
  rw [h2] at hg; cases hg
/-- A round that goes on with a value. -/
theorem round_r (hp : Ok p) (U : Usr p K l nt nw nu mf g fst fcs) {a t t2 : List Int} {s s2 : τ} {m : Bool} (hi : K.inv s) (ha : Beg p a) (hl : a.length < p.V.length) (hs : Small p a t) {k : Int} (h0 : 0 ≤ k) (hk : k < p.V.getD a.length 0) (hg : goesW p K a k s = true)
    (hw : ACall Try.prog G0 71 (caps71 l nt nw nu mf) (SH p (a ++ [k]) t.tail (K.Z s)) (.bool m) (SH p (a ++ [k]) t2 (K.Z s2))) (hs2 : Small p (a ++ [k]) t2) :
    AExec Try.prog G0 (fun r => r = none) body71 { tmps := A71 l nt nw nu mf (p.V.getD a.length 0) k } (SH p a t (K.Z s)) (bif m then .normal else .ret) { tmps := A71 l nt nw nu mf (p.V.getD a.length 0) (bif m then k + 1 else k) } (SH p a (k :: t2) (K.Z s2)) := by
  have hb := beg_app ha hl h0 hk
  have hv := (hp.v a.length hl).2
  have hcl : ClOk Try.prog G0 (E71r nt nw nu (caps71 l nt nw nu mf) fst fcs g (SH p a t (K.Z s)) (SH p (a ++ [k]) t.tail (K.Z s)) (SH p (a ++ [k]) t2 (K.Z s2)) (SH p a (k :: t2) (K.Z s2)) k (boundA p (a ++ [k])) (K.most s) (putW p a k) m) := by
    refine .all (((hLdR_ok Try.underlying85 rfl (U.ht a t s)).ok).or (((hLdR_ok Try.underlying29 rfl (U.hw (a ++ [k]) t.tail s)).ok).or (((hLdR_ok Try.underlying1 rfl (U.hu (a ++ [k]) t2 s2)).ok).or ((hCalT_ok (s72 hp hb (K.Z s))).or (hCalT_ok (U.most (a ++ [k]) t.tail s hi hb)))))) (clhs_ok fun x hx => ?_) (fun l xs σ t v σ' h => (by cases h)) (fun f xs t v h => (by cases h))
    rcases List.mem_cons.1 hx with rfl | hx
    · exact s65 hp ha hl h0 hk hs (K.Z s)
    · rcases List.mem_cons.1 hx with rfl | hx
      · exact hw
      · obtain rfl := List.mem_singleton.1 hx
        exact s70 hp ha hl h0 hk hs2 (K.Z s2)
  have hwr : IntKind.i64.wrap (k + 1) = k + 1 := wrapI ⟨by omega, by omega⟩
  refine rnd (n := 200) (keep := keep71) (s := st71 l nt nw nu mf (SH p a t (K.Z s)) (p.V.getD a.length 0) k) (t := st71 l nt nw nu mf (SH p a (k :: t2) (K.Z s2)) (p.V.getD a.length 0) (bif m then k + 1 else k)) (st' := st71 l nt nw nu mf (SH p a (k :: t2) (K.Z s2)) (p.V.getD a.length 0) (bif m then IntKind.i64.wrap (k + 1) else k)) hcl (lpNo _) ((congrArg Tree.sel (run71r l nt nw nu mf _ fst fcs g _ _ _ _ _ k _ _ _ m)).trans ?_) (by rw [hwr])
  unfold goesW at hg
  cases h1 : putW p a k with
  | false => rw [h1] at hg; cases hg
  | true =>
    rw [h1, cond_true] at hg
    refine t_ite (fun _ => t_need ⟨rfl, rfl⟩ (t_need ⟨rfl, rfl⟩ (t_ite (fun _ => t_need ⟨rfl, rfl, rfl⟩ (t_need ⟨by rw [U.fn], rfl, rfl⟩ (t_ite (fun _ => t_need ⟨rfl, rfl⟩ (t_need ⟨rfl, rfl⟩ (t_need ⟨rfl, rfl⟩ (t_need ⟨rfl, rfl⟩ ?_)))) fun h => absurd hg (by rw [h]; nofun)))) fun h => absurd h (by nofun)))) fun h => absurd (dT hk) (by rw [h]; nofun)
    cases m with
    | true => rfl
    | false => rfl
/-- The values from k on. -/
theorem loop_w (hp : Ok p) (U : Usr p K l nt nw nu mf g fst fcs) {d : Nat} {a : List Int} (ha : Beg p a) (hl : a.length < p.V.length)
    (ih : ∀ b t s, K.inv s → Beg p b → b.length = a.length + 1 → Small p b t → ∃ t', Small p b t' ∧ ((walkW p K d b s).1 = true → K.inv (walkW p K d b s).2) ∧ ACall Try.prog G0 71 (caps71 l nt nw nu mf) (SH p b t (K.Z s)) (.bool (walkW p K d b s).1) (SH p b t' (K.Z (walkW p K d b s).2))) :
    ∀ (c : Nat) (k : Int) (t : List Int) (s : τ), 0 ≤ k → k + c = p.V.getD a.length 0 → K.inv s → Small p a t →
      ∃ t' k', Small p a t' ∧ ((loopW (fun x s => bif goesW p K a x s then walkW p K d (a ++ [x]) s else (true, s)) c k s).1 = true → K.inv (loopW (fun x s => bif goesW p K a x s then walkW p K d (a ++ [x]) s else (true, s)) c k s).2) ∧
        ALoopRun Try.prog G0 (fun r => r = none) body71 { tmps := A71 l nt nw nu mf (p.V.getD a.length 0) k } (SH p a t (K.Z s)) (bif (loopW (fun x s => bif goesW p K a x s then walkW p K d (a ++ [x]) s else (true, s)) c k s).1 then .exit 0 else .ret)
          { tmps := A71 l nt nw nu mf (p.V.getD a.length 0) k' } (SH p a t' (K.Z (loopW (fun x s => bif goesW p K a x s then walkW p K d (a ++ [x]) s else (true, s)) c k s).2))
  | 0, k, t, s, h0, hk, hi, hs => by
    refine ⟨t, k, hs, fun _ => hi, .stop ?_ (by nofun)⟩
    have hcl : ClOk Try.prog G0 { boxRow := false, clh := failH, hint := hLdR 85 (.ref nt 0 0) (.fn 65 [SR] []) (SH p a t (K.Z s)) } := .all (hLdR_ok Try.underlying85 rfl (U.ht a t s)).ok failH_ok (fun l xs σ t v σ' h => (by cases h)) (fun f xs t v h => (by cases h))
    exact rnd (n := 200) (keep := keep71) (s := st71 l nt nw nu mf (SH p a t (K.Z s)) (p.V.getD a.length 0) k) (t := st71 l nt nw nu mf (SH p a t (K.Z s)) (p.V.getD a.length 0) k) hcl (lpNo _) ((congrArg Tree.sel (run71e l nt nw nu mf _ _ k)).trans ((selIf (dF (by omega))).trans rfl)) rfl
  | c + 1, k, t, s, h0, hk, hi, hs => by
    cases hg : goesW p K a k s with
    | false =>
      obtain ⟨t', k', h1, h2, h3⟩ := loop_w hp U ha hl ih c (k + 1) (k :: t.tail) s (by omega) (by omega) hi (small_back (small_put hs hl k))
      refine ⟨t', k', h1, ?_⟩
      unfold loopW
      simp only [hg, cond_false, cond_true]
      exact ⟨h2, .next (round_q hp U hi ha hl hs h0 (by omega) hg) h3⟩
    | true =>
      obtain ⟨t2, g1, g2, g3⟩ := ih (a ++ [k]) t.tail s hi (beg_app ha hl h0 (by omega)) (by simp) (small_put hs hl k)
      have hr := round_r hp U hi ha hl hs h0 (by omega) hg g3 g1
      cases hm : (walkW p K d (a ++ [k]) s).1 with
      | true =>
        obtain ⟨t', k', h1, h2, h3⟩ := loop_w hp U ha hl ih c (k + 1) (k :: t2) _ (by omega) (by omega) (g2 hm) (small_back g1)
        refine ⟨t', k', h1, ?_⟩
        unfold loopW
        simp only [hg, cond_true, hm]
        rw [hm] at hr
        exact ⟨h2, .next hr h3⟩
      | false =>
        refine ⟨k :: t2, k, small_back g1, ?_⟩
        unfold loopW
        simp only [hg, cond_true, hm, cond_false]
        rw [hm] at hr
        exact ⟨by nofun, .stop hr (by nofun)⟩
end
end Go.Proofs.Ytngaihdpmoajeaa.Am

namespace Go.Proofs.Ytngaihdpmoajeaa.Am
open Go
set_option maxRecDepth 100000

section
variable {τ : Type} {p : Pb} {K : Cns τ} {l nt nw nu : Nat} {mf : AV} {g : FuncId} {fst fcs : List AV}
theorem lpB_run {i : Nat} {keep : List Nat} {S X : St} {e : Exit} {body c : Code} (hr : ALoopRun Try.prog G0 (fun r => r = none) body { tmps := S.a } S.h e { tmps := X.a } X.h) (hn : X.n = S.n) (hu : ∀ x ∈ loopsOf c, idOf x = i → x = body) :
    LoopsOk Try.prog G0 (fun r => r = none) [] (lpB i keep S e X) c := by
  refine .of_list _ fun x hm => ?_
  intro kp s0 t e' st' h' hsel
  unfold lpB at h'
  cases hb : Nat.beq (idOf x) i with
  | false => rw [hb, cond_false] at h'; cases h'
  | true =>
    rw [hb, cond_true] at h'
    obtain rfl := hu x hm (Nat.eq_of_beq_eq_true hb)
    cases h'
    cases hsel
    exact ⟨.loop hr, hn⟩
theorem only71 : ∀ x ∈ loopsOf (bodyOf Try.prog 71), idOf x = 4 → x = body71 := one_loop (by kernel_rfl)
theorem walk_ok (hp : Ok p) (U : Usr p K l nt nw nu mf g fst fcs) : ∀ (d : Nat) (a t : List Int) (s : τ), K.inv s → Beg p a → a.length + d = p.V.length → Small p a t →
    ∃ t', Small p a t' ∧ ((walkW p K d a s).1 = true → K.inv (walkW p K d a s).2) ∧ ACall Try.prog G0 71 (caps71 l nt nw nu mf) (SH p a t (K.Z s)) (.bool (walkW p K d a s).1) (SH p a t' (K.Z (walkW p K d a s).2))
  | 0, a, t, s, hi, ha, hd, hs => by
    refine ⟨t, hs, U.inv a s hi ha (by omega), ?_⟩
    have hcl : ClOk Try.prog G0 (E71l a.length l p (aV a t) (flL a) (aO a t) (costA p a) (lV (leftA p a)) (lO (leftA p a)) (uA p p.R.length) (rsK p p.V.length) (K.Z s) (K.more s a) (SH p a t (K.Z (K.yst s a)))) :=
      .all ((hLenT_ok 22 [12, 40] _ _).ok.or (hCalT_ok (s14v hp hs (K.Z s)))) failH_ok (cyK_ok (U.yld a t s hi ha (by omega) hs)) (fun f xs t v h => (by cases h))
    exact ACall.says hcl (lpF_ok 4 keep71 _ _) (run71f a.length l nt nw nu mf p (aV a t) (flL a) (aO a t) (costA p a) (lV (leftA p a)) (lO (leftA p a)) (uA p p.R.length) (rsK p p.V.length) (K.Z s) (K.more s a) (SH p a t (K.Z (K.yst s a))))
      (says_need ⟨rfl, rfl, aLen_aV a t⟩ (says_ite (fun _ => says_need ⟨rfl, rfl, rfl⟩ (says_need ⟨rfl, rfl, rfl⟩ says_leaf)) fun h => absurd h (by simp; omega)))
  | d + 1, a, t, s, hi, ha, hd, hs => by
    have hl : a.length < p.V.length := by omega
    have hv := hp.v a.length hl
    obtain ⟨t', k', h1, h2, h3⟩ := loop_w hp U (d := d) ha hl (fun b t s hi hb hbl hs => walk_ok hp U d b t s hi hb (by omega) hs) (p.V.getD a.length 0).toNat 0 t s (by omega) (by omega) hi hs
    refine ⟨t', h1, h2, ?_⟩
    have hcl : ClOk Try.prog G0 (E71n a.length (aV a t)) := .all (hLenT_ok 22 [12, 40] _ _).ok failH_ok (fun l xs σ t v σ' h => (by cases h)) (fun f xs t v h => (by cases h))
    have hw : walkW p K (d + 1) a s = loopW (fun x s => bif goesW p K a x s then walkW p K d (a ++ [x]) s else (true, s)) (p.V.getD a.length 0).toNat 0 s := rfl
    rw [hw]
    cases hm : (loopW (fun x s => bif goesW p K a x s then walkW p K d (a ++ [x]) s else (true, s)) (p.V.getD a.length 0).toNat 0 s).1 with
    | true =>
      rw [hm] at h3
      exact ACall.says hcl (lpB_run (S := st71 l nt nw nu mf (SH p a t (K.Z s)) (p.V.getD a.length 0) 0) (X := st71 l nt nw nu mf (SH p a t' (K.Z _)) (p.V.getD a.length 0) k') h3 rfl only71) (run71x a.length l nt nw nu mf p (aV a t) (aO a t) (costA p a) (lV (leftA p a)) (lO (leftA p a)) (uA p p.R.length) (rsK p p.V.length) (K.Z s) _ k')
        (says_need ⟨rfl, rfl, aLen_aV a t⟩ (says_ite (fun h => absurd h (by simp; omega)) fun _ => says_need ⟨rfl, rfl, aLen_aV a t⟩ (says_need ⟨by omega, by omega⟩ (says_need rfl says_leaf))))
    | false =>
      rw [hm] at h3
      exact ACall.says hcl (lpB_run (S := st71 l nt nw nu mf (SH p a t (K.Z s)) (p.V.getD a.length 0) 0) (X := st71 l nt nw nu mf (SH p a t' (K.Z _)) (p.V.getD a.length 0) k') h3 rfl only71) (run71s a.length l nt nw nu mf p (aV a t) (aO a t) (costA p a) (lV (leftA p a)) (lO (leftA p a)) (uA p p.R.length) (rsK p p.V.length) (K.Z s) _ k')
        (says_need ⟨rfl, rfl, aLen_aV a t⟩ (says_ite (fun h => absurd h (by simp; omega)) fun _ => says_need ⟨rfl, rfl, aLen_aV a t⟩ (says_need ⟨by omega, by omega⟩ (says_need rfl says_leaf))))
end
end Go.Proofs.Ytngaihdpmoajeaa.Am

namespace Go.Proofs.Ytngaihdpmoajeaa.Am
open Go
set_option maxRecDepth 100000

noncomputable def ops69 : List Oper := opsOf (bodyOf Try.prog 69) 1
noncomputable def op69 (i : Nat) : Oper := ops69.getD i default
theorem len69 : ops69.length = 8 := by kernel_rfl
theorem ok69 : (okDraw ops69 && okStill ops69 0 ops69.length) = true := by kernel_rfl
/-- Values, operation by operation. -/
def y69 (n : Nat) : Nat → AV
  | 0 => SR
  | 1 => .fn 65 [SR] []
  | 2 => SR
  | 3 => .fn 70 [SR] []
  | 4 => .ref n 0 0
  | 5 => .ref (n + 1) 0 0
  | _ => .tup []
def d69 : Nat → Option Nat
  | 0 => some 7
  | 1 => some 8
  | 2 => some 9
  | 3 => some 10
  | 4 => some 4
  | 5 => some 5
  | _ => none
def l69 (n l : Nat) (mf : AV) : Nat → List (Nat × AV × Bool)
  | 0 => [(0, .yf l, true), (1, .row [SR] 0, true), (2, .row [mf] 0, true), (3, .row [.yf l] 0, true)]
  | i + 1 => match d69 i with
    | some d => l69 n l mf i ++ [(d, y69 n i, true)]
    | none => l69 n l mf i
def st69 (n l : Nat) (mf : AV) (i : Nat) (h : Heap) : St := .of 23 h (l69 n l mf i)
theorem dst69 : ∀ i, i < 8 → (op69 i).dst = d69 i := by
  have h : ((List.range 8).all fun i => decide ((op69 i).dst = d69 i)) = true := by kernel_rfl
  intro i hi
  exact of_decide_eq_true (List.all_eq_true.1 h i (List.mem_range.2 hi))
theorem guard69 : ∀ i, i < 8 → (op69 i).guard = none := by
  have h : ((List.range 8).all fun i => (op69 i).guard.isNone) = true := by kernel_rfl
  intro i hi
  simpa using List.all_eq_true.1 h i (List.mem_range.2 hi)
noncomputable def ρ69 (n l : Nat) (mf : AV) (i : Nat) : Operand → Option AV := (st69 n l mf i []).evM G0 ((op69 i).looksAt ops69.toArray)
section
variable (n l : Nat) (mf : AV)
theorem p69_0 (σ : Heap) : aopR Try.prog (ρ69 n l mf 0) σ (op69 0) = some (y69 n 0, σ) := by kernel_rfl
theorem p69_1 (σ : Heap) : aopR Try.prog (ρ69 n l mf 1) σ (op69 1) = some (y69 n 1, σ) := by kernel_rfl
theorem p69_2 (σ : Heap) : aopR Try.prog (ρ69 n l mf 2) σ (op69 2) = some (y69 n 2, σ) := by kernel_rfl
theorem p69_3 (σ : Heap) : aopR Try.prog (ρ69 n l mf 3) σ (op69 3) = some (y69 n 3, σ) := by kernel_rfl
theorem p69_4 (σ : Heap) : aopR Try.prog (ρ69 n l mf 4) σ (op69 4) = aAlloc Try.prog σ 85 := by kernel_rfl
theorem p69_5 (σ : Heap) : aopR Try.prog (ρ69 n l mf 5) σ (op69 5) = aAlloc Try.prog σ 1 := by kernel_rfl
theorem p69_6 (σ : Heap) : aopR Try.prog (ρ69 n l mf 6) σ (op69 6) = (aStore Try.prog σ 85 (.ref n 0 0) (.fn 65 [SR] [])).map (AV.tup [], ·) := by kernel_rfl
theorem p69_7 (σ : Heap) : aopR Try.prog (ρ69 n l mf 7) σ (op69 7) = (aStore Try.prog σ 1 (.ref (n + 1) 0 0) (.fn 70 [SR] [])).map (AV.tup [], ·) := by kernel_rfl
end
/-- The heap, by what has been carried out. -/
def H69 (B W : Heap) (f : Nat → Bool) : Heap := B ++ (if f 6 then .cells 0 [.fn 65 [SR] []] else if f 4 then .cells 0 [.nilf] else .resv) :: (if f 7 then .cells 0 [.fn 70 [SR] []] else if f 5 then .cells 0 [.nilf] else .resv) :: .resv :: W
theorem app_at {B : Heap} {L : Heap} (i : Nat) : (B ++ L)[B.length + i]? = L[i]? := by
  rw [List.getElem?_append_right (by omega), Nat.add_sub_cancel_left]
theorem app_set {B : Heap} {L : Heap} (i : Nat) (o : AObj) : (B ++ L).set (B.length + i) o = B ++ L.set i o := by
  rw [List.set_append_right _ _ (by omega), Nat.add_sub_cancel_left]
theorem need69 : ∀ i, i < 8 → (i = 6 → ∃ e ∈ (op69 i).after, Region.binds .any e = true ∧ e.on = 4) ∧ (i = 7 → ∃ e ∈ (op69 i).after, Region.binds .any e = true ∧ e.on = 5) := by
  have h6 : ((op69 6).after.toList.any fun e => Region.binds .any e && Nat.beq e.on 4) = true := by kernel_rfl
  have h7 : ((op69 7).after.toList.any fun e => Region.binds .any e && Nat.beq e.on 5) = true := by kernel_rfl
  refine fun i hi => ⟨fun e => ?_, fun e => ?_⟩
  · subst e
    obtain ⟨e, he, h⟩ := List.any_eq_true.1 h6
    exact ⟨e, by simpa using he, (Bool.and_eq_true_iff.1 h).1, Nat.eq_of_beq_eq_true (Bool.and_eq_true_iff.1 h).2⟩
  · subst e
    obtain ⟨e, he, h⟩ := List.any_eq_true.1 h7
    exact ⟨e, by simpa using he, (Bool.and_eq_true_iff.1 h).1, Nat.eq_of_beq_eq_true (Bool.and_eq_true_iff.1 h).2⟩
theorem worth69 {B W : Heap} {l : Nat} {mf : AV} {m : List Nat} {i : Nat} (hi : i < 4) (hv : ∀ σ, aopR Try.prog (ρ69 B.length l mf i) σ (op69 i) = some (y69 B.length i, σ)) : WorthM Try.prog G0 (H69 B W) ops69 m i (op69 i) (masked ((op69 i).looksAt ops69.toArray) (st69 B.length l mf i []).a) (y69 B.length i) := by
  intro f hc hlen hu hp
  refine .inl ⟨wanted_none (guard69 i (by omega)), ?_⟩
  have e : H69 B W (fun j => decide (j = i) || f j) = H69 B W f := by
    unfold H69
    have h4 : (4 : Nat) ≠ i := by omega
    have h5 : (5 : Nat) ≠ i := by omega
    have h6 : (6 : Nat) ≠ i := by omega
    have h7 : (7 : Nat) ≠ i := by omega
    simp [h4, h5, h6, h7]
  rw [e]
  refine AStep.op ?_
  rw [aopR_eq, St.evM_eq]
  exact hv _
theorem get69 (i : Nat) (hi : i < 8) : ops69[i]? = some (op69 i) := by
  have hl : i < ops69.length := by rw [len69]; exact hi
  unfold op69
  rw [List.getD_eq_getElem?_getD, List.getElem?_eq_getElem hl]
  rfl
/-- Nothing is stored before its variable is made. -/
theorem closed6 {f : Nat → Bool} (hc : Closed ops69 f) (h : f 4 = false) : f 6 = false := by
  cases h6 : f 6 with
  | false => rfl
  | true =>
    obtain ⟨e, h1, h2, h3⟩ := (need69 6 (by omega)).1 rfl
    have := hc 6 _ (get69 6 (by omega)) h6 e h1 h2
    rw [h3, h] at this
    cases this
theorem closed7 {f : Nat → Bool} (hc : Closed ops69 f) (h : f 5 = false) : f 7 = false := by
  cases h6 : f 7 with
  | false => rfl
  | true =>
    obtain ⟨e, h1, h2, h3⟩ := (need69 7 (by omega)).2 rfl
    have := hc 7 _ (get69 7 (by omega)) h6 e h1 h2
    rw [h3, h] at this
    cases this
theorem all69 {σ : Heap} : aAlloc Try.prog σ 85 = some (.ref σ.length 0 0, σ ++ [.cells 0 [.nilf]]) ∧ aAlloc Try.prog σ 1 = some (.ref σ.length 0 0, σ ++ [.cells 0 [.nilf]]) := ⟨by kernel_rfl, by kernel_rfl⟩
theorem worth69a {B W : Heap} {l : Nat} {mf : AV} {m : List Nat} : WorthM Try.prog G0 (H69 B W) ops69 m 4 (op69 4) (masked ((op69 4).looksAt ops69.toArray) (st69 B.length l mf 4 []).a) (y69 B.length 4) := by
  intro f hc hlen hu hp
  refine .inl ⟨wanted_none (guard69 4 (by omega)), ?_⟩
  have h6 := closed6 hc hu
  have hs : (H69 B W f).set B.length (.cells 0 [.nilf]) = H69 B W (fun j => decide (j = 4) || f j) := by
    unfold H69
    rw [show B.length = B.length + 0 from rfl, app_set]
    simp [h6]
  rw [← hs]
  refine AStep.slotR (AStep.op ?_) ?_ fun _ _ _ _ _ x hx => by obtain rfl := List.mem_singleton.1 hx; exact .nilf
  · rw [aopR_eq, St.evM_eq]
    exact (p69_4 B.length l mf _).trans all69.1
  · unfold H69
    rw [show B.length = B.length + 0 from rfl, app_at]
    simp [hu, h6]
theorem worth69b {B W : Heap} {l : Nat} {mf : AV} {m : List Nat} : WorthM Try.prog G0 (H69 B W) ops69 m 5 (op69 5) (masked ((op69 5).looksAt ops69.toArray) (st69 B.length l mf 5 []).a) (y69 B.length 5) := by
  intro f hc hlen hu hp
  refine .inl ⟨wanted_none (guard69 5 (by omega)), ?_⟩
  have h6 := closed7 hc hu
  have hs : (H69 B W f).set (B.length + 1) (.cells 0 [.nilf]) = H69 B W (fun j => decide (j = 5) || f j) := by
    unfold H69
    rw [app_set]
    simp [h6]
  rw [← hs]
  refine AStep.slotR (AStep.op ?_) ?_ fun _ _ _ _ _ x hx => by obtain rfl := List.mem_singleton.1 hx; exact .nilf
  · rw [aopR_eq, St.evM_eq]
    exact (p69_5 B.length l mf _).trans all69.2
  · unfold H69
    rw [app_at]
    simp [hu, h6]
theorem sto69 {σ : Heap} {t : TypeId} {r : Nat} {x : AV} (ht : ((Try.prog.info? t).map (·.size)) = some 1) (ho : σ[r]? = some (.cells 0 [.nilf])) (hx : x.cells = [x]) (h1 : AV.one x = true) : aStore Try.prog σ t (.ref r 0 0) x = some (σ.set r (.cells 0 [x])) := by
  cases hi : Try.prog.info? t with
  | none => rw [hi] at ht; cases ht
  | some i =>
    rw [hi] at ht
    have hs : i.size = 1 := Option.some.inj ht
    unfold aStore
    have : objAt σ r 0 = some [.nilf] := by unfold objAt; rw [ho]; rfl
    simp only [hi, this, hx, hs]
    rw [if_pos ⟨rfl, by simp, by simp [h1]⟩]
    simp [setL]
theorem worth69s {B W : Heap} {l : Nat} {mf : AV} {m : List Nat} : WorthM Try.prog G0 (H69 B W) ops69 m 6 (op69 6) (masked ((op69 6).looksAt ops69.toArray) (st69 B.length l mf 6 []).a) (y69 B.length 6) := by
  intro f hc hlen hu hp
  refine .inl ⟨wanted_none (guard69 6 (by omega)), ?_⟩
  obtain ⟨e, h1, h2, h3⟩ := (need69 6 (by omega)).1 rfl
  have h4 : f 4 = true := by have := hp e h1 h2; rwa [h3] at this
  have hs : (H69 B W f).set B.length (.cells 0 [.fn 65 [SR] []]) = H69 B W (fun j => decide (j = 6) || f j) := by
    unfold H69
    rw [show B.length = B.length + 0 from rfl, app_set]
    simp
  rw [← hs]
  refine AStep.op ?_
  rw [aopR_eq, St.evM_eq]
  refine (p69_6 B.length l mf _).trans ?_
  rw [sto69 (by kernel_rfl) (by unfold H69; rw [show B.length = B.length + 0 from rfl, app_at]; simp [hu, h4]) rfl rfl]
  rfl
theorem worth69t {B W : Heap} {l : Nat} {mf : AV} {m : List Nat} : WorthM Try.prog G0 (H69 B W) ops69 m 7 (op69 7) (masked ((op69 7).looksAt ops69.toArray) (st69 B.length l mf 7 []).a) (y69 B.length 7) := by
  intro f hc hlen hu hp
  refine .inl ⟨wanted_none (guard69 7 (by omega)), ?_⟩
  obtain ⟨e, h1, h2, h3⟩ := (need69 7 (by omega)).2 rfl
  have h4 : f 5 = true := by have := hp e h1 h2; rwa [h3] at this
  have hs : (H69 B W f).set (B.length + 1) (.cells 0 [.fn 70 [SR] []]) = H69 B W (fun j => decide (j = 7) || f j) := by
    unfold H69
    rw [app_set]
    simp
  rw [← hs]
  refine AStep.op ?_
  rw [aopR_eq, St.evM_eq]
  refine (p69_7 B.length l mf _).trans ?_
  rw [sto69 (by kernel_rfl) (by unfold H69; rw [app_at]; simp [hu, h4]) rfl rfl]
  rfl
theorem put69 (n l : Nat) (mf : AV) (i : Nat) (hi : i < 8) : (AAct.put { tmps := (st69 n l mf i []).a } (op69 i).dst (y69 n i)).tmps = (st69 n l mf (i + 1) []).a := by
  rw [dst69 i hi]
  have h2 := congrArg AAct.tmps (St.put_a (st69 n l mf i []) (d69 i) (y69 n i) true [] [])
  refine h2.trans ?_
  cases hd : d69 i with
  | none => unfold St.put st69; simp only [l69, hd]; rfl
  | some d =>
    unfold St.put st69 St.of
    simp only [l69, hd, List.foldl_append, List.foldl_cons, List.foldl_nil]
theorem drop69 (i : Nat) (hi : i < 8) : ops69.drop i = op69 i :: ops69.drop (i + 1) := by
  have hl : i < ops69.length := by rw [len69]; exact hi
  have e : op69 i = ops69[i]'hl := by unfold op69; rw [List.getD_eq_getElem?_getD, List.getElem?_eq_getElem hl]; rfl
  rw [e]
  exact List.drop_eq_getElem_cons hl
theorem worthAll69 {B W : Heap} {l : Nat} {mf : AV} {m : List Nat} (i : Nat) (hi : i < 8) : WorthM Try.prog G0 (H69 B W) ops69 m i (op69 i) (masked ((op69 i).looksAt ops69.toArray) (st69 B.length l mf i []).a) (y69 B.length i) := by
  match i, hi with
  | 0, _ => exact worth69 (by omega) (p69_0 _ _ _)
  | 1, _ => exact worth69 (by omega) (p69_1 _ _ _)
  | 2, _ => exact worth69 (by omega) (p69_2 _ _ _)
  | 3, _ => exact worth69 (by omega) (p69_3 _ _ _)
  | 4, _ => exact worth69a
  | 5, _ => exact worth69b
  | 6, _ => exact worth69s
  | 7, _ => exact worth69t
theorem opsM69 {B W : Heap} {l : Nat} {mf : AV} {m : List Nat} : ∀ (d i : Nat), i + d = 8 → AOpsM Try.prog G0 (H69 B W) ops69 m i (ops69.drop i) (st69 B.length l mf i []).a (st69 B.length l mf 8 []).a
  | 0, i, hi => by
    obtain rfl : i = 8 := by omega
    rw [List.drop_eq_nil_of_le (by rw [len69]; omega)]
    exact .nil _ _
  | d + 1, i, hi => by
    rw [drop69 i (by omega)]
    refine .step (worthAll69 i (by omega)) ?_
    rw [put69 _ _ _ i (by omega)]
    exact opsM69 d (i + 1) (by omega)
/-- THE FIRST STATEMENT. -/
theorem first69 {B W : Heap} {l : Nat} {mf : AV} {R : Option Nat → Prop} : AExec Try.prog G0 R (.region 1 ops69.toArray true) { tmps := (st69 B.length l mf 0 []).a } (B ++ .resv :: .resv :: .resv :: W) .normal { tmps := (st69 B.length l mf 8 []).a } (B ++ .cells 0 [.fn 65 [SR] []] :: .cells 0 [.fn 70 [SR] []] :: .resv :: W) := by
  obtain ⟨h1, h2⟩ := Bool.and_eq_true_iff.1 ok69
  have key := (opsM69 (B := B) (W := W) (l := l) (mf := mf) (m := []) 8 0 rfl).draw (R := R) (id := 1) mixed h1 h2
  have e0 : H69 B W (fun _ => false) = B ++ .resv :: .resv :: .resv :: W := rfl
  have e1 : H69 B W (fun j => decide (j < ops69.length)) = B ++ .cells 0 [.fn 65 [SR] []] :: .cells 0 [.fn 70 [SR] []] :: .resv :: W := by
    unfold H69
    rw [len69]
    simp
  rw [e0, e1] at key
  exact key
end Go.Proofs.Ytngaihdpmoajeaa.Am

namespace Go.Proofs.Ytngaihdpmoajeaa.Am
open Go
set_option maxRecDepth 100000

/-- A variable made at a kept place, told at a heap. -/
def hAlT (t : TypeId) (r : Nat) (h0 h1 : Heap) : Heap → Oper → (Operand → Option AV) → Option (AV × Bool × Heap × Prop) := fun h o _ => match o.op with
  | .alloc t' => bif Nat.beq t' t then some (.ref r 0 0, true, h1, h = h0) else none
  | _ => none
theorem hAlT_ok {t : TypeId} (r : Nat) {z : List AV} (hz : (aZero Try.prog t).map AV.cells = some z) (h1 : z.all AV.one = true) (hb : ∀ n, ∀ x ∈ z, Below n x) {h0 h1' : Heap} (e1 : h0[r]? = some .resv) (e2 : h1' = h0.set r (.cells 0 z)) : HintOk Try.prog G0 (hAlT t r h0 h1') := by
  subst e2
  refine ⟨fun h o a m y tg h' p hh hp => ?_, fun h o ρ y tg h' p hh hp hq => ?_⟩
  · unfold hAlT at hh
    split at hh <;> first | (cases hh; done) | skip
    rename_i t' ho
    cases ht : Nat.beq t' t with
    | false => rw [ht] at hh; cases hh
    | true =>
      rw [ht, cond_true] at hh
      cases hh
      subst hp
      exact (hAlO_ok r hz h1 hb).step h o a m _ true _ _ (by unfold hAlO; rw [ho]; dsimp only; rw [ht, cond_true]) e1
  · unfold hAlT at hh
    split at hh <;> first | (cases hh; done) | skip
    rename_i t' ho
    cases ht : Nat.beq t' t with
    | false => rw [ht] at hh; cases hh
    | true =>
      rw [ht, cond_true] at hh
      cases hh
      subst hp
      exact (hAlO_ok r hz h1 hb).quiet h o ρ _ true _ _ (by unfold hAlO; rw [ho]; dsimp only; rw [ht, cond_true]) e1 hq
noncomputable def b69 : Code := bodyOf Try.prog 69
noncomputable def c69a : Code := fstS b69
noncomputable def c69c : Code := sndS (sndS b69)
theorem code69 : bodyOf Try.prog 69 = .seq c69a (.seq (.region 1 ops69.toArray true) c69c) := by kernel_rfl
def st69i (l : Nat) (mf : AV) (h : Heap) : St := .of 23 h [(0, .yf l, true), (1, .row [SR] 0, true), (2, .row [mf] 0, true)]
theorem run69a (l : Nat) (mf : AV) (h : Heap) : xBody Try.prog G0 {} 200 noLoops [0, 1, 2, 3] c69a (st69i l mf h) = .leaf (Exit.normal, St.of 23 h [(0, (AV.yf l), true), (1, (AV.row [(AV.ref (0 : Nat) (0 : Nat) (0 : Nat))] (0 : Nat)), true), (2, (AV.row [mf] (0 : Nat)), true), (3, (AV.row [(AV.yf l)] (0 : Nat)), true)]) := by kernel_rfl
def E69 (nw : Nat) (caps fst fcs : List AV) (g : FuncId) (h0 h1 h2 h3 : Heap) (bd mo : Int) (op m : Bool) : Env := { boxRow := false, clh := clhs [(71, caps, h2, .bool m, h3)], hint := orH (hAlT 29 nw h0 h1) (orH (hSt 29 (.ref nw 0 0) (.fn 71 [] caps) h1 h2) (orH (hLdR 29 (.ref nw 0 0) (.fn 71 [] caps) h2) (orH (hCalT none 73 [] [] [SR] (.bool op) h2) (orH (hCalT none 72 [] [] [SR] (I bd) h2) (hCalT (some 17) g fst fcs [] (I mo) h2))))) }
theorem run69c (n l nw : Nat) (mf : AV) (caps fst fcs : List AV) (g : FuncId) (h0 h1 h2 h3 : Heap) (bd mo : Int) (op m : Bool) : xBody Try.prog G0 (E69 nw caps fst fcs g h0 h1 h2 h3 bd mo op m) 200 noLoops [0] c69c (st69 n l mf 8 h0) = .need (h0 = h0) (.need (((Option.some (AV.ref nw (0 : Nat) (0 : Nat))) = (Option.some (AV.ref nw (0 : Nat) (0 : Nat)))) ∧ (((Option.some (AV.fn (71 : Nat) [] [(AV.row [(AV.ref (0 : Nat) (0 : Nat) (0 : Nat))] (0 : Nat)), (AV.row [(AV.yf l)] (0 : Nat)), (AV.ref n (0 : Nat) (0 : Nat)), (AV.row [mf] (0 : Nat)), (AV.ref nw (0 : Nat) (0 : Nat)), (AV.ref (n + (1 : Nat)) (0 : Nat) (0 : Nat))])) = (Option.some (AV.fn (71 : Nat) [] caps))) ∧ ((h1 = h1) ∧ ((aStore Try.prog h1 (29 : TypeId) (AV.ref nw (0 : Nat) (0 : Nat)) (AV.fn (71 : FuncId) [] caps)) = (Option.some h2))))) (.need (((Option.some (AV.fn (73 : Nat) [] [])) = (Option.some (AV.fn (73 : Nat) [] []))) ∧ (((Option.some [(AV.ref (0 : Nat) (0 : Nat) (0 : Nat))]) = (Option.some [(AV.ref (0 : Nat) (0 : Nat) (0 : Nat))])) ∧ (h2 = h2))) (.ite (op) (.need (((Option.some (AV.fn (72 : Nat) [] [])) = (Option.some (AV.fn (72 : Nat) [] []))) ∧ (((Option.some [(AV.ref (0 : Nat) (0 : Nat) (0 : Nat))]) = (Option.some [(AV.ref (0 : Nat) (0 : Nat) (0 : Nat))])) ∧ (h2 = h2))) (.need (((Option.some mf) = (Option.some (AV.fn g fst fcs))) ∧ (((Option.some ([] : List AV)) = (Option.some ([] : List AV))) ∧ (h2 = h2))) (.ite (decide (bd < mo)) (.need (((Option.some (AV.ref nw (0 : Nat) (0 : Nat))) = (Option.some (AV.ref nw (0 : Nat) (0 : Nat)))) ∧ (h2 = h2)) (.need ((caps = caps) ∧ (h2 = h2)) (.leaf (Exit.normal, St.of 23 h3 [(0, (AV.yf l), true)])))) (.leaf (Exit.normal, St.of 23 h2 [(0, (AV.yf l), true)]))))) (.leaf (Exit.normal, St.of 23 h2 [(0, (AV.yf l), true)]))))) := by kernel_rfl
end Go.Proofs.Ytngaihdpmoajeaa.Am

namespace Go.Proofs.Ytngaihdpmoajeaa.Am
open Go
set_option maxRecDepth 100000

section
variable {τ : Type} {p : Pb}
def vars69 (l n : Nat) (mf : AV) (W : Heap) : Heap := .cells 0 [.fn 65 [SR] []] :: .cells 0 [.fn 70 [SR] []] :: .cells 0 [.fn 71 [] (caps71 l n (n + 2) (n + 1) mf)] :: W
/-- The whole search, in plain terms. -/
def runW (p : Pb) (K : Cns τ) (a : List Int) (s : τ) : Bool × τ := bif (bif !(leftA p a).any fun n => decide (n < 0) then decide (boundA p a < K.most s) else false) then walkW p K (p.V.length - a.length) a s else (true, s)
theorem SH_app (p : Pb) (a t : List Int) (Z W : Heap) : SH p a t (Z ++ W) = SH p a t Z ++ W := (List.append_assoc _ _ _).symm
theorem beg_nil (p : Pb) : Beg p [] := ⟨Nat.zero_le _, fun k hk => absurd hk (by simp)⟩
theorem exec69 (hp : Ok p) {a t : List Int} (ha : Beg p a) (hs : Small p a t) {K : Cns τ} {Zc W : τ → Heap} {l n : Nat} {mf : AV} {g : FuncId} {fst fcs : List AV} (U : Usr p K l n (n + 2) (n + 1) mf g fst fcs) (hZ : ∀ s, K.Z s = Zc s ++ vars69 l n mf (W s)) {s : τ} (hi : K.inv s) (hn : (SH p a t (Zc s)).length = n) :
    ∃ t', Small p a t' ∧ ((runW p K a s).1 = true → K.inv (runW p K a s).2) ∧ AExec Try.prog G0 (fun r => r = none) (bodyOf Try.prog 69) { tmps := (st69i l mf []).a } (SH p a t (Zc s ++ .resv :: .resv :: .resv :: W s)) .normal { tmps := (St.of 23 [] [(0, .yf l, true)]).a } (SH p a t' (K.Z (runW p K a s).2)) := by
  subst hn
  have x1 := first69 (B := SH p a t (Zc s)) (W := W s) (l := l) (mf := mf) (R := fun r => r = none)
  have x0 : AExec Try.prog G0 (fun r => r = none) c69a { tmps := (st69i l mf []).a } (SH p a t (Zc s) ++ .resv :: .resv :: .resv :: W s) .normal { tmps := (st69 (SH p a t (Zc s)).length l mf 0 []).a } (SH p a t (Zc s) ++ .resv :: .resv :: .resv :: W s) :=
    rnd (s := st69i l mf (SH p a t (Zc s) ++ .resv :: .resv :: .resv :: W s)) (t := st69 (SH p a t (Zc s)).length l mf 0 (SH p a t (Zc s) ++ .resv :: .resv :: .resv :: W s)) clok0 (lpNo _) (congrArg Tree.sel (run69a l mf _)) rfl
  obtain ⟨t', k1, k2, k3⟩ := walk_ok hp U (p.V.length - a.length) a t s hi ha (by have := ha.len; omega) hs
  have hlen : (SH p a t (Zc s) ++ AObj.cells 0 [.fn 65 [SR] []] :: .cells 0 [.fn 70 [SR] []] :: .resv :: W s)[(SH p a t (Zc s)).length + 2]? = some .resv := app_at 2
  have hh1 : (SH p a t (Zc s) ++ AObj.cells 0 [.fn 65 [SR] []] :: .cells 0 [.fn 70 [SR] []] :: .cells 0 [.nilf] :: W s) = (SH p a t (Zc s) ++ AObj.cells 0 [.fn 65 [SR] []] :: .cells 0 [.fn 70 [SR] []] :: .resv :: W s).set ((SH p a t (Zc s)).length + 2) (.cells 0 [.nilf]) := by rw [app_set]; rfl
  have hh2 : SH p a t (K.Z s) = SH p a t (Zc s) ++ vars69 l (SH p a t (Zc s)).length mf (W s) := by rw [hZ, SH_app]
  have hst : aStore Try.prog (SH p a t (Zc s) ++ AObj.cells 0 [.fn 65 [SR] []] :: .cells 0 [.fn 70 [SR] []] :: .cells 0 [.nilf] :: W s) 29 (.ref ((SH p a t (Zc s)).length + 2) 0 0) (.fn 71 [] (caps71 l (SH p a t (Zc s)).length ((SH p a t (Zc s)).length + 2) ((SH p a t (Zc s)).length + 1) mf)) = some (SH p a t (K.Z s)) := by
    rw [sto69 (by kernel_rfl) (app_at 2) rfl rfl, app_set, hh2]
    rfl
  have hcl : ClOk Try.prog G0 (E69 ((SH p a t (Zc s)).length + 2) (caps71 l (SH p a t (Zc s)).length ((SH p a t (Zc s)).length + 2) ((SH p a t (Zc s)).length + 1) mf) fst fcs g (SH p a t (Zc s) ++ AObj.cells 0 [.fn 65 [SR] []] :: .cells 0 [.fn 70 [SR] []] :: .resv :: W s) (SH p a t (Zc s) ++ AObj.cells 0 [.fn 65 [SR] []] :: .cells 0 [.fn 70 [SR] []] :: .cells 0 [.nilf] :: W s) (SH p a t (K.Z s)) (SH p a t' (K.Z (walkW p K (p.V.length - a.length) a s).2)) (boundA p a) (K.most s) (!(leftA p a).any fun n => decide (n < 0)) (walkW p K (p.V.length - a.length) a s).1) := by
    refine .all ((hAlT_ok _ (z := [.nilf]) (by kernel_rfl) rfl (fun n x hx => by obtain rfl := List.mem_singleton.1 hx; exact .nilf) hlen hh1).or ((hSt_ok 29 _ _ _ _).ok.or ((hLdR_ok Try.underlying29 rfl (U.hw a t s)).ok.or ((hCalT_ok (s73 hp (K.Z s))).or ((hCalT_ok (s72 hp ha (K.Z s))).or (hCalT_ok (U.most a t s hi ha))))))) (clhs_ok fun x hx => ?_) (fun l xs σ t v σ' h => (by cases h)) (fun f xs t v h => (by cases h))
    obtain rfl := List.mem_singleton.1 hx
    exact k3
  rw [code69, SH_app]
  have key := run69c (SH p a t (Zc s)).length l ((SH p a t (Zc s)).length + 2) mf (caps71 l (SH p a t (Zc s)).length ((SH p a t (Zc s)).length + 2) ((SH p a t (Zc s)).length + 1) mf) fst fcs g (SH p a t (Zc s) ++ AObj.cells 0 [.fn 65 [SR] []] :: .cells 0 [.fn 70 [SR] []] :: .resv :: W s) (SH p a t (Zc s) ++ AObj.cells 0 [.fn 65 [SR] []] :: .cells 0 [.fn 70 [SR] []] :: .cells 0 [.nilf] :: W s) (SH p a t (K.Z s)) (SH p a t' (K.Z (walkW p K (p.V.length - a.length) a s).2)) (boundA p a) (K.most s) (!(leftA p a).any fun n => decide (n < 0)) (walkW p K (p.V.length - a.length) a s).1
  unfold runW
  cases ho : (!(leftA p a).any fun n => decide (n < 0)) with
  | false =>
    refine ⟨t, hs, fun _ => hi, .seq x0 (.seq x1 (rnd (s := st69 (SH p a t (Zc s)).length l mf 8 (SH p a t (Zc s) ++ AObj.cells 0 [.fn 65 [SR] []] :: .cells 0 [.fn 70 [SR] []] :: .resv :: W s)) (t := St.of 23 (SH p a t (K.Z s)) [(0, .yf l, true)]) hcl (lpNo _) ((congrArg Tree.sel key).trans ?_) rfl))⟩
    rw [ho]
    exact t_need rfl (t_need ⟨rfl, rfl, rfl, hst⟩ (t_need ⟨rfl, rfl, rfl⟩ rfl))
  | true =>
    cases hb : decide (boundA p a < K.most s) with
    | false =>
      refine ⟨t, hs, fun _ => hi, .seq x0 (.seq x1 (rnd (s := st69 (SH p a t (Zc s)).length l mf 8 (SH p a t (Zc s) ++ AObj.cells 0 [.fn 65 [SR] []] :: .cells 0 [.fn 70 [SR] []] :: .resv :: W s)) (t := St.of 23 (SH p a t (K.Z s)) [(0, .yf l, true)]) hcl (lpNo _) ((congrArg Tree.sel key).trans ?_) rfl))⟩
      rw [ho]
      exact t_need rfl (t_need ⟨rfl, rfl, rfl, hst⟩ (t_need ⟨rfl, rfl, rfl⟩ ((selIt rfl).trans (t_need ⟨rfl, rfl, rfl⟩ (t_need ⟨by rw [U.fn], rfl, rfl⟩ ((selIf hb).trans rfl))))))
    | true =>
      refine ⟨t', k1, k2, .seq x0 (.seq x1 (rnd (s := st69 (SH p a t (Zc s)).length l mf 8 (SH p a t (Zc s) ++ AObj.cells 0 [.fn 65 [SR] []] :: .cells 0 [.fn 70 [SR] []] :: .resv :: W s)) (t := St.of 23 (SH p a t' (K.Z (walkW p K (p.V.length - a.length) a s).2)) [(0, .yf l, true)]) hcl (lpNo _) ((congrArg Tree.sel key).trans ?_) rfl))⟩
      rw [ho]
      exact t_need rfl (t_need ⟨rfl, rfl, rfl, hst⟩ (t_need ⟨rfl, rfl, rfl⟩ ((selIt rfl).trans (t_need ⟨rfl, rfl, rfl⟩ (t_need ⟨by rw [U.fn], rfl, rfl⟩ ((selIt hb).trans (t_need ⟨rfl, rfl⟩ (t_need ⟨rfl, rfl⟩ rfl))))))))
end
end Go.Proofs.Ytngaihdpmoajeaa.Am

namespace Go.Proofs.Ytngaihdpmoajeaa.Am
open Go
set_option maxRecDepth 100000

/-- A call of the iterator. -/
theorem c69 {τ : Type} {p : Pb} (hp : Ok p) {a t : List Int} (ha : Beg p a) (hs : Small p a t) {K : Cns τ} {Zc : τ → Heap} {l n : Nat} {mf : AV} {g : FuncId} {fst fcs : List AV} (U : Usr p K l n (n + 2) (n + 1) mf g fst fcs) (hZ : ∀ s, K.Z s = Zc s ++ vars69 l n mf []) {s : τ} (hi : K.inv s) (hn : (SH p a t (Zc s)).length = n) :
    ∃ t', Small p a t' ∧ ((runW p K a s).1 = true → K.inv (runW p K a s).2) ∧ ACall Try.prog G0 69 [.yf l, .row [SR] 0, .row [mf] 0] (SH p a t (Zc s)) (.tup []) (SH p a t' (K.Z (runW p K a s).2)) := by
  obtain ⟨t', h1, h2, h3⟩ := exec69 hp ha hs U (W := fun _ => []) hZ hi hn
  refine ⟨t', h1, h2, ?_⟩
  obtain ⟨fn, c, k1, k2, k3⟩ := fnOf (f := 69) (by kernel_rfl)
  rw [k3] at h3
  have hres : fn.results.toList = [] := by
    have : (Try.prog.funcs[69]?).map (·.results.toList) = some [] := by kernel_rfl
    rw [k1] at this
    exact Option.some.inj this
  have hnt : fn.ntmps = 23 := by
    have : (Try.prog.funcs[69]?).map (·.ntmps) = some 23 := by kernel_rfl
    rw [k1] at this
    exact Option.some.inj this
  have e3 : SH p a t (Zc s ++ .resv :: .resv :: .resv :: []) = SH p a t (Zc s) ++ List.replicate 3 .resv := SH_app _ _ _ _ _
  rw [e3] at h3
  refine ACall.rooms 3 (ACall.of_body (args := [.yf l, .row [SR] 0, .row [mf] 0]) (xs := []) k1 k2 (names 69 fn k1) (.weak ?_ h3) (.inl rfl) ?_)
  · have e : (st69i l mf []).a = .yf l :: .row [SR] 0 :: .row [mf] 0 :: List.replicate 20 .junk := by kernel_rfl
    rw [hnt, e]
    refine ⟨by simp, fun j y hj => ?_⟩
    match j, hj with
    | 0, hj => exact .inr hj
    | 1, hj => exact .inr hj
    | 2, hj => exact .inr hj
    | j + 3, hj => exact .inl (List.eq_of_mem_replicate (n := 20) (List.mem_of_getElem? (i := j) (by simpa using hj)))
  · rw [hres]
    rfl
theorem run47 (r g : Nat) (f : FuncId) (cs : List AV) (h : Heap) : xCall Try.prog G0 {} 200 47 [.ref r g 0, .fn f [] cs] [true, true] h = .leaf ((AV.fn (69 : Nat) [] [(AV.row [(AV.ref r g (0 : Nat))] (0 : Nat)), (AV.row [(AV.fn f [] cs)] (0 : Nat))]), true, h) := by kernel_rfl
theorem run48 (h : Heap) : xCall Try.prog G0 {} 200 48 [] [] h = .leaf ((I ((24000001 : Int))), false, h) := by kernel_rfl
theorem c47 (r g : Nat) (f : FuncId) (cs : List AV) (h : Heap) : ACall Try.prog G0 47 [.ref r g 0, .fn f [] cs] h (.fn 69 [] [.row [.ref r g 0] 0, .row [.fn f [] cs] 0]) h := by
  refine ACall.saysC clok0 (run47 r g f cs h) ?_
  exact says_leaf
theorem c48 (h : Heap) : ACall Try.prog G0 48 [] h (I 24000001) h := ACall.saysC clok0 (run48 h) says_leaf
noncomputable def b42 : Code := bodyOf Try.prog 42
noncomputable def t42 : Code := sndS (sndS (sndS b42))
noncomputable def c42 (i : Nat) : Code := match i with
  | 0 => fstS b42
  | 1 => fstS (sndS b42)
  | 2 => fstS (sndS (sndS b42))
  | 3 => fstS t42
  | 4 => fstS (sndS t42)
  | 5 => fstS (fstS (sndS (sndS t42)))
  | _ => sndS (sndS (sndS t42))
noncomputable def rfA : Code → Code | .rangeFunc _ _ a _ => a | .block _ c => rfA c | .seq _ c => rfA c | _ => .skip
noncomputable def rfB : Code → Code | .rangeFunc _ _ _ b => b | .block _ c => rfB c | .seq _ c => rfB c | _ => .skip
noncomputable def as42 : Code := rfA (sndS (fstS (sndS (sndS t42))))
noncomputable def bd42 : Code := rfB (sndS (fstS (sndS (sndS t42))))
theorem code42 : bodyOf Try.prog 42 = .seq (c42 0) (.seq (c42 1) (.seq (c42 2) (.seq (c42 3) (.seq (c42 4) (.seq (.seq (c42 5) (.block 2 (.rangeFunc (.tmp 30) #[31, 32] as42 bd42))) (c42 6)))))) := by kernel_rfl
def F66 : AV := .fn 66 [] [.ref 4 0 0]
def S69 (mf : AV) : AV := .fn 69 [] [.row [SR] 0, .row [mf] 0]
def st42a (p : Pb) (a : AV) (h : Heap) : St := .of 40 h [(0, pAV p, true), (1, a, true)]
def st42b (p : Pb) (a : AV) (h : Heap) : St := .of 40 h [(1, a, true), (2, .row (pbC p) 0, true)]
def st42c (a : AV) (h : Heap) : St := .of 40 h [(1, a, true), (7, SR, true)]
def st42l (a : List Int) (k : Int) (h : Heap) : St := .of 40 h [(7, SR, true), (17, flL a, true), (18, I a.length, true), (19, I k, true)]
def st42d (h : Heap) : St := .of 40 h [(7, SR, true)]
def st42e (h : Heap) : St := .of 40 h [(7, SR, true), (10, .ref 3 0 0, true)]
def st42f (h : Heap) : St := .of 40 h [(7, SR, true), (10, .ref 3 0 0, true), (11, .ref 4 0 0, true), (12, .ref 5 0 0, true)]
def st42g (h : Heap) : St := .of 40 h [(10, .ref 3 0 0, true), (11, .ref 4 0 0, true), (12, .ref 5 0 0, true), (30, S69 F66, true)]
def st42x (b e c : AV) (h : Heap) : St := .of 40 h [(4, b, true), (5, c, true), (6, e, true)]
theorem run42a (p : Pb) (a : AV) (h : Heap) : xBody Try.prog G0 {} 200 noLoops [1, 2] (c42 0) (st42a p a h) = .leaf (Exit.normal, St.of 40 h [(1, a, true), (2, (AV.row [(flL (p.V)), (flLL (p.C)), (flR (p.R))] (0 : Nat)), true)]) := by kernel_rfl
def E42b (p : Pb) (h h1 : Heap) : Env := { clh := clhs [(46, [pAV p], h, SR, h1)] }
theorem run42b (p : Pb) (a : AV) (h h1 : Heap) : xBody Try.prog G0 (E42b p h h1) 200 noLoops [1, 7] (c42 1) (st42b p a h) = .need (([(AV.agg [(flL (p.V)), (flLL (p.C)), (flR (p.R))])] = [(AV.agg [(flL (p.V)), (flLL (p.C)), (flR (p.R))])]) ∧ (h = h)) (.leaf (Exit.normal, St.of 40 h1 [(1, a, true), (7, (AV.ref (0 : Nat) (0 : Nat) (0 : Nat)), true)])) := by kernel_rfl
noncomputable def body42 : Code := (loopsOf (bodyOf Try.prog 42)).headD .skip
theorem loops42 : loopsOf (c42 2) = [body42] := by kernel_rfl
/-- Calls told beforehand, on a condition. -/
def clhq (q : Prop) (L : List (FuncId × List AV × Heap × AV × Heap)) : FuncId → List AV → Heap → Option (Tree (AV × Heap)) := fun f ys h => (clhs L f ys h).map fun t => .need q t
theorem clhq_ok {q : Prop} {L : List (FuncId × List AV × Heap × AV × Heap)} (hc : q → ∀ x ∈ L, ACall Try.prog G0 x.1 x.2.1 x.2.2.1 x.2.2.2.1 x.2.2.2.2) : ∀ f ys σ t u σ', clhq q L f ys σ = some t → t.sel = some (u, σ') → ACall Try.prog G0 f ys σ u σ' := by
  intro f ys σ t u σ' hq hsel
  obtain ⟨t', h1, rfl⟩ := Option.map_eq_some_iff.1 hq
  obtain ⟨h2, h3⟩ := Tree.of_need hsel
  exact clhs_ok (hc h2) f ys σ t' u σ' h1 h3
def E42l (q : Prop) (k : Int) (h0 h1 : Heap) (ok : Bool) : Env := { clh := clhq q [(65, [SR, I k], h0, .bool ok, h1)] }
theorem run42l (q : Prop) (a : List Int) (k : Int) (h0 h1 : Heap) (ok : Bool) : xBody Try.prog G0 (E42l q (a.getD k.toNat 0) h0 h1 ok) 200 noLoops [7, 17, 18, 19] body42 (st42l a k h0) = .ite (decide (k < (↑a.length : Int))) (.need (((0 : Int) ≤ k) ∧ (k < (↑a.length : Int))) (.need (q) (.need (([(AV.ref (0 : Nat) (0 : Nat) (0 : Nat)), (I (a.getD k.toNat (0 : Int)))] = [(AV.ref (0 : Nat) (0 : Nat) (0 : Nat)), (I (a.getD k.toNat (0 : Int)))]) ∧ (h0 = h0)) (.leaf (Exit.normal, St.of 40 h1 [(7, (AV.ref (0 : Nat) (0 : Nat) (0 : Nat)), true), (17, (flL (a)), true), (18, (I ((↑a.length : Int))), true), (19, (I (IntKind.i64.wrap (k + (1 : Int)))), true)]))))) (.leaf ((Exit.exit (0 : Nat)), St.of 40 h0 [(7, (AV.ref (0 : Nat) (0 : Nat) (0 : Nat)), true), (17, (flL (a)), true), (18, (I ((↑a.length : Int))), true), (19, (I k), true)])) := by kernel_rfl
theorem run42c (a : List Int) (k : Int) (h0 h1 : Heap) : xBody Try.prog G0 {} 200 (lpB 3 [7, 17, 18, 19] (st42l a 0 h0) (.exit 0) (st42l a k h1)) [7] (c42 2) (st42c (flL a) h0) = .need ((st42l a 0 h0).vals = (st42l a 0 h0).vals) (.leaf (Exit.normal, St.of 40 h1 [(7, (AV.ref (0 : Nat) (0 : Nat) (0 : Nat)), true)])) := by kernel_rfl
theorem run42d (x0 x1 x2 : AObj) : xBody Try.prog G0 {} 200 noLoops [7, 10] (c42 3) (st42d (x0 :: x1 :: x2 :: [])) = .leaf (Exit.normal, St.of 40 [x0, x1, x2, (AObj.cells (0 : Nat) [AV.zs])] [(7, (AV.ref (0 : Nat) (0 : Nat) (0 : Nat)), true), (10, (AV.ref (3 : Nat) (0 : Nat) (0 : Nat)), false)]) := by kernel_rfl
def E42e : Env := { cl := fun f xs => match f, xs with
  | 48, [] => some (.leaf (I 24000001))
  | 47, [.ref r g 0, .fn f [] cs] => some (.leaf (.fn 69 [] [.row [.ref r g 0] 0, .row [.fn f [] cs] 0]))
  | _, _ => none }
theorem run42e (x0 x1 x2 x3 : AObj) : xBody Try.prog G0 E42e 200 noLoops [7, 10, 11, 12] (c42 4) (st42e (x0 :: x1 :: x2 :: x3 :: [])) = .leaf (Exit.normal, St.of 40 [x0, x1, x2, x3, (AObj.cells (0 : Nat) (setL [(I ((0 : Int)))] (0 : Nat) [(I ((24000001 : Int)))])), (AObj.cells (0 : Nat) (setL [(I ((0 : Int)))] (0 : Nat) [(I ((7 : Int)))]))] [(7, (AV.ref (0 : Nat) (0 : Nat) (0 : Nat)), true), (10, (AV.ref (3 : Nat) (0 : Nat) (0 : Nat)), true), (11, (AV.ref (4 : Nat) (0 : Nat) (0 : Nat)), false), (12, (AV.ref (5 : Nat) (0 : Nat) (0 : Nat)), false)]) := by kernel_rfl
theorem run42f (h : Heap) : xBody Try.prog G0 E42e 200 noLoops [10, 11, 12, 30] (c42 5) (st42f h) = .leaf (Exit.normal, St.of 40 h [(10, (AV.ref (3 : Nat) (0 : Nat) (0 : Nat)), true), (11, (AV.ref (4 : Nat) (0 : Nat) (0 : Nat)), true), (12, (AV.ref (5 : Nat) (0 : Nat) (0 : Nat)), true), (30, (AV.fn (69 : Nat) [] [(AV.row [(AV.ref (0 : Nat) (0 : Nat) (0 : Nat))] (0 : Nat)), (AV.row [(AV.fn (66 : Nat) [] [(AV.ref (4 : Nat) (0 : Nat) (0 : Nat))])] (0 : Nat))]), true)]) := by kernel_rfl
theorem run42x (x0 x1 x2 : AObj) (b : AV) (c : Int) (e : Int) (W : Heap) : xBody Try.prog G0 {} 200 noLoops [4, 5, 6] (c42 6) (st42g (x0 :: x1 :: x2 :: .cells 0 [b] :: .cells 0 [I c] :: .cells 0 [I e] :: W)) = .ite (e != (0 : Int)) (.leaf (Exit.ret, St.of 40 (x0 :: (x1 :: (x2 :: ((AObj.cells (0 : Nat) [b]) :: ((AObj.cells (0 : Nat) [(I c)]) :: ((AObj.cells (0 : Nat) [(I e)]) :: W)))))) [(4, AV.zs, false), (5, (I ((0 : Int))), false), (6, (I e), true)])) (.leaf (Exit.ret, St.of 40 (x0 :: (x1 :: (x2 :: ((AObj.cells (0 : Nat) [b]) :: ((AObj.cells (0 : Nat) [(I c)]) :: ((AObj.cells (0 : Nat) [(I e)]) :: W)))))) [(4, b, true), (5, (I c), true), (6, (I ((0 : Int))), false)])) := by kernel_rfl
def st42s (v : AV) (c : Int) (h : Heap) : St := .of 40 h [(10, .ref 3 0 0, true), (11, .ref 4 0 0, true), (12, .ref 5 0 0, true), (30, S69 F66, true), (31, v, true), (32, I c, true)]
def st42t (v : AV) (c : Int) (h : Heap) : St := .of 40 h [(10, .ref 3 0 0, true), (11, .ref 4 0 0, true), (12, .ref 5 0 0, true), (13, v, true), (14, I c, true)]
theorem run42s (v : AV) (c : Int) (h : Heap) : xBody Try.prog G0 {} 200 noLoops [10, 11, 12, 13, 14] as42 (st42s v c h) = .leaf (Exit.normal, St.of 40 h [(10, (AV.ref (3 : Nat) (0 : Nat) (0 : Nat)), true), (11, (AV.ref (4 : Nat) (0 : Nat) (0 : Nat)), true), (12, (AV.ref (5 : Nat) (0 : Nat) (0 : Nat)), true), (13, v, true), (14, (I c), true)]) := by kernel_rfl
theorem run42t (x0 x1 x2 : AObj) (n : Nat) (f : Nat → List AV) (b : AV) (c d e : Int) (W : Heap) : xBody Try.prog G0 {} 200 noLoops [] bd42 (st42t (.fl 1 n f) c (x0 :: x1 :: x2 :: .cells 0 [b] :: .cells 0 [I d] :: .cells 0 [I e] :: W)) = .leaf (Exit.normal, St.of 40 (x0 :: (x1 :: (x2 :: ((AObj.cells (0 : Nat) (setL [b] (0 : Nat) [(AV.fl (1 : Nat) n f)])) :: ((AObj.cells (0 : Nat) (setL [(I d)] (0 : Nat) [(I c)])) :: ((AObj.cells (0 : Nat) (setL [(I e)] (0 : Nat) [(I ((0 : Int)))])) :: W)))))) []) := by kernel_rfl
end Go.Proofs.Ytngaihdpmoajeaa.Am

