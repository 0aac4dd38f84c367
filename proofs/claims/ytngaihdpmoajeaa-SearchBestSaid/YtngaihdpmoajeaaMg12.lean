/-
  This file proves nothing of a law. It holds lemmas, of 8 texts in their order. No condition of its own.
-/
import Derived.Test.YtngaihdpmoajeaaMg11
import Derived.Test.YtngaihdpmoajeaaMg4
import Derived.SizedLaws
namespace Go.Proofs.Ytngaihdpmoajeaa.Am
open Go
set_option maxRecDepth 100000

def rowR (R : List Rl) : List (List AV) := R.map rlC
theorem rowR_app (R : List Rl) (x : Rl) : rowR R ++ [rlC x] = rowR (R ++ [x]) := by simp [rowR]
theorem rowR_len (R : List Rl) : ∀ x ∈ rowR R, x.length = 4 := fun x hx => by
  obtain ⟨n, _, rfl⟩ := List.mem_map.1 hx; rfl
theorem below_rlC (x : Rl) : ∀ y ∈ rlC x, Below 0 y := fun y hy => by
  simp only [rlC, List.mem_cons, List.not_mem_nil, or_false] at hy
  rcases hy with rfl | rfl | rfl | rfl
  · exact .int _ _
  · exact below_flL _
  · exact below_flLL _
  · exact .int _ _
theorem rowR_flat {R : List Rl} : ∀ x ∈ rowR R, ∀ y ∈ x, Below 0 y := fun x hx y hy => by
  obtain ⟨n, _, rfl⟩ := List.mem_map.1 hx
  exact below_rlC n y hy
theorem rowR_getD (R : List Rl) {i : Nat} (hi : i < R.length) : (rowR R).getD i [] = rlC (R.getD i r0) := by
  unfold rowR
  simp [List.getD_eq_getElem?_getD, hi]
theorem re_rules {π : Nat → Option Nat} {σ : Heap} {r : Nat} {R : List Rl} (ho : σ[r]? = some (sO (rowR R))) (hπ : ∀ q, π q ≠ some r) : Re G0 π σ (sV 4 r (rowR R)) (flR R) := by
  have h := re_sV ho hπ (rowR_len R) (fun x hx y hy => Re.flat (rowR_flat x hx y hy))
  have e : (rowR R).length = R.length := by simp [rowR]
  rw [e] at h
  exact h.conv fun w M v hv => fl_congr (fun i hi => rowR_getD R hi) hv
theorem one_rlC (x : Rl) : ∀ y ∈ rlC x, y.one = true := fun y hy => by
  simp only [rlC, List.mem_cons, List.not_mem_nil, or_false] at hy
  rcases hy with rfl | rfl | rfl | rfl <;> rfl
theorem grow_R {R : List Rl} (hl : R.length < 16777216) (x : Rl) (r : Nat) : Grow 4 r (rlC x) (sV 4 r (rowR R)) (sV 4 r (rowR (R ++ [x]))) (sO (rowR R)) (sO (rowR (R ++ [x]))) :=
  ⟨rowR R, rfl, rfl, by rw [rowR_app], by rw [rowR_app], rowR_len R, rfl, one_rlC x, by simpa [rowR] using hl⟩
theorem alone_3 {V : List Int} {C : List (List Int)} (R : List Rl) : ∀ o ∈ ([sO (rowR R), .cells 0 zPb, .cells 0 [flL V, flLL C, sV 4 0 (rowR R)]] : Heap), Alone 3 o := fun o ho => by
  simp only [List.mem_cons, List.not_mem_nil, or_false] at ho
  rcases ho with rfl | rfl | rfl
  · exact alone_sO fun x hx y hy => (rowR_flat x hx y hy).up
  · intro y hy
    simp only [zPb, List.mem_cons, List.not_mem_nil, or_false] at hy
    rcases hy with rfl | rfl | rfl <;> exact .zs
  · intro y hy
    simp only [List.mem_cons, List.not_mem_nil, or_false] at hy
    rcases hy with rfl | rfl | rfl
    · exact (below_flL _).up
    · exact (below_flLL _).up
    · exact below_sV (by omega)
theorem tk26 (a b c : AV) : List.take Try.prog.types[(26 : Nat)].size (List.drop 0 [a, b, c]) = [a, b, c] := by kernel_rfl
theorem need26 (V : List Int) (C : List (List Int)) (L : List (List AV)) : ((some (3 : Nat) : Option Nat) = some 3) ∧ ((List.take Try.prog.types[(26 : Nat)].size (List.drop 0 [flL V, flLL C, sV 4 0 L])).all AV.one = true) ∧ (0 + (List.take Try.prog.types[(26 : Nat)].size (List.drop 0 [flL V, flLL C, sV 4 0 L])).length ≤ zPb.length) := by
  rw [tk26]
  refine ⟨rfl, ?_, by show 3 ≤ 3; omega⟩
  simp only [List.all_cons, one_sV]
  rfl
theorem re_pb {π : Nat → Option Nat} {σ : Heap} {r : Nat} {p : Pb} (ho : σ[r]? = some (sO (rowR p.R))) (hπ : ∀ q, π q ≠ some r) : Re G0 π σ (.agg [flL p.V, flLL p.C, sV 4 r (rowR p.R)]) (pAV p) := Re.agg rfl fun j y hj => by
  match j, hj with
  | 0, hj => cases hj; exact ⟨_, rfl, Re.flat (below_flL _)⟩
  | 1, hj => cases hj; exact ⟨_, rfl, Re.flat (below_flLL _)⟩
  | 2, hj => cases hj; exact ⟨_, rfl, re_rules ho hπ⟩
  | j + 3, hj => simp [pbC] at hj
theorem take_succR {R : List Rl} {k : Nat} (hk : k < R.length) : R.take (k + 1) = R.take k ++ [R.getD k r0] := by
  rw [List.take_succ_eq_append_getElem hk, List.getD_eq_getElem?_getD, List.getElem?_eq_getElem hk]
  rfl
/-! ### own -/
def ownN (p : Pb) : Nat := if p.R.length > 2048 then 2049 else 12
def ownP (p : Pb) : Pb := ⟨p.V.take 26, cutL p.C 26, (p.R.take (ownN p)).map cutR⟩
theorem clean10 (p : Pb) (V : List Int) (C : List (List Int)) (most : Int) (R : List Rl) (k : Int) : CleanT 3 (st10 p V C most (sV 4 0 (rowR R)) (sO (rowR R)) k) :=
  cleanT_of rfl (alone_3 R) ⟨(below_row (below_pb p)).up, .ref _ _ _ (by omega), .ref _ _ _ (by omega), .int _ _, .int _ _, trivial⟩
theorem min26 (L : List Int) : (if (26 : Int) < (L.length : Int) then (26 : Int) else (L.length : Int)) = ((min L.length 26 : Nat) : Int) := by
  split <;> omega
theorem take_min (L : List Int) (n : Nat) : L.take (min L.length n) = L.take n := by
  rw [Nat.min_comm, ← List.take_take, List.take_length]
theorem loop10 {p : Pb} (hs : p.sh) (V : List Int) (C : List (List Int)) {most : Nat} (hm : most ≤ 2049) : LoopA body10 (min p.R.length most) (fun k => st10 p V C most (sV 4 0 (rowR ((p.R.take k).map cutR))) (sO (rowR ((p.R.take k).map cutR))) k) (fun k => st10 p V C most (sV 4 0 (rowR ((p.R.take k).map cutR))) (sO (rowR ((p.R.take k).map cutR))) k) (st10 p V C most (sV 4 0 (rowR ((p.R.take most).map cutR))) (sO (rowR ((p.R.take most).map cutR))) (min p.R.length most : Nat)) .ret (.exit 0) fun _ => false := by
  refine .linT (m := 3) (fun _ => rfl) rfl nofun (fun k => clean10 p V C most _ k) (clean10 p V C most _ _) fun k hk => ?_
  have key := congrArg Tree.sel (run10 True True p V C most ((p.R.getD k r0).v.take 26) (cutL (p.R.getD k r0).w 26) (min (p.R.getD k r0).v.length 26) (sV 4 0 (rowR ((p.R.take k).map cutR))) (sV 4 0 (rowR ((p.R.take k).map cutR ++ [cutR (p.R.getD k r0)]))) (sO (rowR ((p.R.take k).map cutR))) (sO (rowR ((p.R.take k).map cutR ++ [cutR (p.R.getD k r0)]))) k)
  rw [Int.toNat_natCast, min26, take_min] at key
  have hx := sh_getR hs.2.2.2.2 k
  have hlen : ((p.R.take k).map cutR).length ≤ k := by rw [List.length_map, List.length_take]; omega
  refine ⟨E10 True True (p.R.getD k r0) ((p.R.getD k r0).v.take 26) (cutL (p.R.getD k r0).w 26) (min (p.R.getD k r0).v.length 26) _ _ _ _, _, _, clokH (fun _ z hz σ => ?_) ((hSlc_ok _ _).or ((hApO_ok els24 fun _ => grow_R (by omega) (cutR (p.R.getD k r0)) 0).or (hSto_ok 2 (one_of (by kernel_rfl))).ok)), lpNo _, fun hlt => key.trans ?_, fun he => key.trans ?_⟩
  · simp only [List.mem_cons, List.not_mem_nil, or_false] at hz
    rcases hz with rfl | rfl
    · exact c14d (by rw [List.length_take]; omega) σ
    · exact c40 hx.2.1 (n := 26) (by omega) σ
  · have hlt' : k < p.R.length := by omega
    rw [wrapS hlt' hs.2.2.2.1, take_succR hlt', List.map_append, List.map_singleton]
    exact (selIt (dT (by omega))).trans ((selIt (dT (by omega))).trans (t_need ⟨by omega, by omega⟩ (t_need ⟨rfl, rfl, by omega⟩ (t_need trivial (t_need rfl (t_need trivial (t_need rfl (t_need ⟨rfl, rfl, trivial⟩ (t_need ⟨one_sV, by omega⟩ rfl)))))))))
  · have e : p.R.take k = p.R.take most := by
      by_cases h : p.R.length ≤ most
      · rw [List.take_of_length_le h, he, Nat.min_eq_left h, List.take_length]
      · rw [he, Nat.min_eq_right (by omega)]
    rw [e, ← he]
    exact t_ite (fun h1 => (selIf (dF (by have := of_decide_eq_true h1; omega))).trans rfl) fun _ => rfl
theorem ACall.saysM {E : Env} (hcl : ClOk Try.prog G0 E) {mv : Nat → Option (List Nat × (Nat → Heap))} {lp : Loops} {n : Nat} {f : FuncId} (hi : ((Try.prog.funcs[f]?).bind (·.body)).isSome = true) (hlp : LoopsOk Try.prog G0 (fun r => r = none) [] lp (bodyOf Try.prog f)) {xs : List AV} {tags : List Bool} {h h' : Heap} {v : AV} {t : Tree (AV × Bool × Heap)}
    (he : xenter Try.prog E (xCodeM Try.prog G0 E mv n lp) f xs tags h = t) (hs : Says t v h') : ACall Try.prog G0 f xs h v h' := by
  obtain ⟨s, hs⟩ := hs
  obtain ⟨fn, c, k1, k2, k3⟩ := fnOf hi
  rw [k3] at hlp
  exact xFnM_ok names mixed hcl k1 k2 hlp ((congrArg Tree.sel he).trans hs)
/-- THE LAW'S OWN PROBLEM. -/
theorem c10 {p : Pb} (hs : p.sh) (h : Heap) : ACall Try.prog G0 10 [pAV p] h (pAV (ownP p)) h := by
  have hcl : ClOk Try.prog G0 (EH True [(14, [flL (p.V.take 26)], flL (p.V.take 26)), (40, [flLL p.C, I 26], flLL (cutL p.C 26))] (orH (hSlc p.V (min p.V.length 26)) (hStA 26 1))) := clokH (fun _ z hz σ => by
    simp only [List.mem_cons, List.not_mem_nil, or_false] at hz
    rcases hz with rfl | rfl
    · exact c14d (by rw [List.length_take]; omega) σ
    · exact c40 hs.2.1 (n := 26) (by omega) σ) ((hSlc_ok _ _).or (hStA_ok 26 1).ok)
  have hlp := (loop10 hs (p.V.take 26) (cutL p.C 26) (most := ownN p) (by unfold ownN; split <;> omega)).okB (fun _ _ => rfl) (c := bodyOf Try.prog 10) (i := 6) (keep := [1, 2, 3, 4, 5]) (one_loop loops10)
  have hR : (ownP p).R = (p.R.take (ownN p)).map cutR := rfl
  have hc : ACall Try.prog G0 10 [pAV p] [.resv] (.agg [flL (ownP p).V, flLL (ownP p).C, sV 4 0 (rowR (ownP p).R)]) [sO (rowR (ownP p).R), .cells 0 [flL (ownP p).V, flLL (ownP p).C, sV 4 0 (rowR (ownP p).R)], .cells 0 [flL (ownP p).V, flLL (ownP p).C, sV 4 0 (rowR (ownP p).R)]] := by
    refine ACall.saysM hcl (by kernel_rfl) hlp (runF10 p (p.V.take 26) (cutL p.C 26) (min p.V.length 26) (ownN p) (sV 4 0 (rowR ((p.R.take (ownN p)).map cutR))) (sO (rowR ((p.R.take (ownN p)).map cutR))) (min p.R.length (ownN p) : Nat)) ?_
    rw [min26, take_min]
    repeat refine says_need (by first | exact rfl | exact ⟨rfl, rfl⟩ | exact trivial | exact ⟨rfl, rfl, Nat.min_le_left _ _⟩) ?_
    refine says_ite (fun h1 => says_need ?_ (says_need (need26 _ _ _) says_leaf)) (fun h1 => says_need ?_ (says_need (need26 _ _ _) says_leaf))
    · have : ownN p = 2049 := if_pos (by have := of_decide_eq_true h1; omega)
      rw [this]
      rfl
    · have : ownN p = 12 := if_neg (by have := of_decide_eq_false h1; omega)
      rw [this]
      rfl
  exact hc.out (k := 1) (re_pb rfl nofun) (below_pAV _) (below_arg1 p) h
/-! ### Only -/
def pb0 : Pb := ⟨[], [], []⟩
def onlyP (p : Pb) (D : List Int) : Pb := bif validP p then ⟨p.V, p.C, p.R.filter fun x => D.contains x.d⟩ else pb0
theorem re_pb0 {π : Nat → Option Nat} {σ : Heap} : Re G0 π σ (.agg zPb) (pAV pb0) := Re.agg rfl fun j y hj => by
  match j, hj with
  | 0, hj => cases hj; exact ⟨_, rfl, re_zs⟩
  | 1, hj => cases hj; exact ⟨_, rfl, fun _ _ _ _ hv => by cases hv; exact .fl _ _ _ _ (.sl0 _ _ _)⟩
  | 2, hj => cases hj; exact ⟨_, rfl, fun _ _ _ _ hv => by cases hv; exact .fl _ _ _ _ (.sl0 _ _ _)⟩
  | j + 3, hj => simp [pbC] at hj
theorem filter_succ {R : List Rl} {k : Nat} (hk : k < R.length) (q : Rl → Bool) : (R.take (k + 1)).filter q = bif q (R.getD k r0) then (R.take k).filter q ++ [R.getD k r0] else (R.take k).filter q := by
  rw [take_succR hk, List.filter_append]
  generalize R.getD k r0 = x
  cases h : q x <;> simp [h]
theorem clean31 (p : Pb) (D : List Int) (R : List Rl) (k : Int) : CleanT 3 (st31 p D (sV 4 0 (rowR R)) (sO (rowR R)) k) :=
  cleanT_of rfl (alone_3 R) ⟨(below_flL _).up, (below_row (below_pb p)).up, .ref _ _ _ (by omega), .fn _ _ _ (fun _ _ h => by simp at h) (fun _ _ h => by simp at h), .ref _ _ _ (by omega), (below_flR _).up, .int _ _, .int _ _, trivial⟩
theorem clean32 (p : Pb) (D : List Int) (R : List Rl) (k : Int) : CleanT 3 (st32 p D (sV 4 0 (rowR R)) (sO (rowR R)) k) :=
  cleanT_of rfl (alone_3 R) ⟨(below_flL _).up, (below_row (below_pb p)).up, .ref _ _ _ (by omega), .ref _ _ _ (by omega), (below_flR _).up, .int _ _, .int _ _, trivial⟩
theorem rule_small {p : Pb} (hp : Ok p) {x : Rl} (hx : OkRule p.V x) : x.v.length ≤ 24 ∧ x.w.length ≤ 24 ∧ ∀ l ∈ x.w, l.length ≤ 16 := by
  have h1 := rule_len hx
  have h2 := hp.n
  have h3 := hx.len
  refine ⟨by omega, by omega, fun l hl => ?_⟩
  obtain ⟨k, hk, rfl⟩ := List.mem_iff_getElem.1 hl
  have h4 := hx.wl k (by omega)
  have h5 := hx.v k (by omega)
  have h6 := hp.v (x.v.getD k 0).toNat (by omega)
  rw [List.getD_eq_getElem?_getD, List.getElem?_eq_getElem hk] at h4
  simp only [Option.getD_some] at h4
  omega
theorem cost_small {p : Pb} (hp : Ok p) : ∀ l ∈ p.C, l.length ≤ 16 := fun l hl => by
  obtain ⟨k, hk, rfl⟩ := List.mem_iff_getElem.1 hl
  have h1 := hp.c
  have h4 := hp.cl k (by omega)
  have h6 := hp.v k (by omega)
  rw [List.getD_eq_getElem?_getD, List.getElem?_eq_getElem hk] at h4
  simp only [Option.getD_some] at h4
  omega
theorem loop31 {p : Pb} (hp : Ok p) {D : List Int} (hD : sh D) : LoopA body31 p.R.length (fun k => st31 p D (sV 4 0 (rowR ((p.R.take k).filter fun x => D.contains x.d))) (sO (rowR ((p.R.take k).filter fun x => D.contains x.d))) k) (fun k => st31 p D (sV 4 0 (rowR ((p.R.take k).filter fun x => D.contains x.d))) (sO (rowR ((p.R.take k).filter fun x => D.contains x.d))) k) (st31 p D (sV 4 0 (rowR (p.R.filter fun x => D.contains x.d))) (sO (rowR (p.R.filter fun x => D.contains x.d))) p.R.length) .ret (.exit 0) fun _ => false := by
  refine .linT (m := 3) (fun _ => rfl) rfl nofun (fun k => clean31 p D _ k) (clean31 p D _ _) fun k hk => ?_
  have key := congrArg Tree.sel (run31 True True p D (D.contains (p.R.getD k r0).d) (sV 4 0 (rowR ((p.R.take k).filter fun x => D.contains x.d))) (sV 4 0 (rowR ((p.R.take k).filter (fun x => D.contains x.d) ++ [p.R.getD k r0]))) (sO (rowR ((p.R.take k).filter fun x => D.contains x.d))) (sO (rowR ((p.R.take k).filter (fun x => D.contains x.d) ++ [p.R.getD k r0]))) k)
  rw [Int.toNat_natCast] at key
  have hx := rule_small hp (rule_getD hp k)
  have hr := hp.r
  have hlen : ((p.R.take k).filter fun x => D.contains x.d).length ≤ k := by
    have := List.length_filter_le (fun x : Rl => D.contains x.d) (p.R.take k)
    rw [List.length_take] at this
    omega
  refine ⟨E31 True True D (p.R.getD k r0) (D.contains (p.R.getD k r0).d) _ _ _ _, _, _, clokH (fun _ z hz σ => ?_) ((hApO_ok els24 fun _ => grow_R (by omega) (p.R.getD k r0) 0).or (hSto_ok 2 (one_of (by kernel_rfl))).ok), lpNo _, fun hlt => key.trans ?_, fun he => key.trans ?_⟩
  · simp only [List.mem_cons, List.not_mem_nil, or_false] at hz
    rcases hz with rfl | rfl | rfl
    · exact c35 hD _ σ
    · exact c14d (by omega) σ
    · exact c63 (by omega) (fun l hl => by have := hx.2.2 l hl; omega) σ
  · rw [wrapS hlt (by show p.R.length < _; omega), filter_succ hlt]
    refine (selIt (dT (by omega))).trans (t_need ⟨by omega, by omega⟩ (t_need trivial (t_need rfl (t_ite (fun h1 => ?_) fun h1 => ?_))))
    · rw [h1]
      exact t_need trivial (t_need rfl (t_need trivial (t_need rfl (t_need ⟨rfl, rfl, trivial⟩ (t_need ⟨one_sV, by omega⟩ rfl)))))
    · rw [h1]
      rfl
  · rw [selIf (dF (by omega)), he, List.take_length]
    rfl
theorem below_args_pD (p : Pb) (D : List Int) : ∀ x ∈ [pAV p, flL D], Below 0 x := below_args2
/-- WHAT Only RETURNS. -/
theorem c31 {p : Pb} (hs : p.sh) {D : List Int} (hD : sh D) (h : Heap) : ACall Try.prog G0 31 [pAV p, flL D] h (pAV (onlyP p D)) h := by
  unfold onlyP
  cases hv : validP p with
  | false =>
    have hc : ACall Try.prog G0 31 [pAV p, flL D] [] (.agg zPb) _ := ACall.says (clokG1 fun _ => hv ▸ c28 hs) (lpF_ok 6 _ _ _) (runG31 p D) (says_need trivial (says_need rfl (says_ite (fun _ => says_leaf) fun h => by cases h)))
    exact ACall.out (k := 0) hc re_pb0 (below_pAV _) below_args2 h
  | true =>
    have hp := valid_iff.1 hv
    have hn := hp.n
    have hcc := hp.c
    have hcl : ClOk Try.prog G0 (EH True [(28, [pAV p], .bool true), (14, [flL p.V], flL p.V), (63, [flLL p.C], flLL p.C)] (hStA 26 1)) := clokH (fun _ z hz σ => by
      simp only [List.mem_cons, List.not_mem_nil, or_false] at hz
      rcases hz with rfl | rfl | rfl
      · exact hv ▸ c28 hs σ
      · exact c14d (by omega) σ
      · exact c63 (by omega) (fun l hl => by have := cost_small hp l hl; omega) σ) (hStA_ok 26 1).ok
    have hlp := (loop31 hp hD).okB (fun _ _ => rfl) (c := bodyOf Try.prog 31) (i := 6) (keep := keep31) (one_loop loops31)
    have hc : ACall Try.prog G0 31 [pAV p, flL D] [.resv] (.agg [flL p.V, flLL p.C, sV 4 0 (rowR (p.R.filter fun x => D.contains x.d))]) [sO (rowR (p.R.filter fun x => D.contains x.d)), .cells 0 [flL p.V, flLL p.C, sV 4 0 (rowR (p.R.filter fun x => D.contains x.d))], .cells 0 [flL p.V, flLL p.C, sV 4 0 (rowR (p.R.filter fun x => D.contains x.d))]] := by
      refine ACall.saysM hcl (by kernel_rfl) hlp (runF31 p D _ _ _) ?_
      refine says_need trivial (says_need rfl (says_ite (fun h => by cases h) fun _ => ?_))
      repeat refine says_need (by first | exact rfl | exact ⟨rfl, rfl⟩ | exact trivial | exact need26 _ _ _) ?_
      exact says_leaf
    exact hc.out (k := 1) (re_pb (p := ⟨p.V, p.C, p.R.filter fun x => D.contains x.d⟩) rfl nofun) (below_pAV _) below_args2 h
theorem loop32 {p : Pb} (hp : Ok p) {D : List Int} (hD : sh D) : LoopA body32 p.R.length (fun k => st32 p D (sV 4 0 (rowR ((p.R.take k).filter fun x => D.contains x.d))) (sO (rowR ((p.R.take k).filter fun x => D.contains x.d))) k) (fun k => st32 p D (sV 4 0 (rowR ((p.R.take k).filter fun x => D.contains x.d))) (sO (rowR ((p.R.take k).filter fun x => D.contains x.d))) k) (st32 p D (sV 4 0 (rowR (p.R.filter fun x => D.contains x.d))) (sO (rowR (p.R.filter fun x => D.contains x.d))) p.R.length) .ret (.exit 0) fun _ => false := by
  refine .linT (m := 3) (fun _ => rfl) rfl nofun (fun k => clean32 p D _ k) (clean32 p D _ _) fun k hk => ?_
  have key := congrArg Tree.sel (run32 True True p D (D.contains (p.R.getD k r0).d) (sV 4 0 (rowR ((p.R.take k).filter fun x => D.contains x.d))) (sV 4 0 (rowR ((p.R.take k).filter (fun x => D.contains x.d) ++ [p.R.getD k r0]))) (sO (rowR ((p.R.take k).filter fun x => D.contains x.d))) (sO (rowR ((p.R.take k).filter (fun x => D.contains x.d) ++ [p.R.getD k r0]))) k)
  rw [Int.toNat_natCast] at key
  have hr := hp.r
  have hlen : ((p.R.take k).filter fun x => D.contains x.d).length ≤ k := by
    have := List.length_filter_le (fun x : Rl => D.contains x.d) (p.R.take k)
    rw [List.length_take] at this
    omega
  refine ⟨E32 True True D (p.R.getD k r0) (D.contains (p.R.getD k r0).d) _ _ _ _, _, _, clokH (fun _ z hz σ => ?_) ((hApO_ok els24 fun _ => grow_R (by omega) (p.R.getD k r0) 0).or (hSto_ok 2 (one_of (by kernel_rfl))).ok), lpNo _, fun hlt => key.trans ?_, fun he => key.trans ?_⟩
  · obtain rfl := List.mem_singleton.1 hz
    exact c35 hD _ σ
  · rw [wrapS hlt (by show p.R.length < _; omega), filter_succ hlt]
    refine (selIt (dT (by omega))).trans (t_need ⟨by omega, by omega⟩ (t_need trivial (t_need rfl (t_ite (fun h1 => ?_) fun h1 => ?_))))
    · rw [h1]
      exact t_need ⟨rfl, rfl, trivial⟩ (t_need ⟨one_sV, by omega⟩ rfl)
    · rw [h1]
      rfl
  · rw [selIf (dF (by omega)), he, List.take_length]
    rfl
theorem c32 {p : Pb} (hs : p.sh) {D : List Int} (hD : sh D) (h : Heap) : ACall Try.prog G0 32 [pAV p, flL D] h (pAV (onlyP p D)) h := by
  unfold onlyP
  cases hv : validP p with
  | false =>
    have hc : ACall Try.prog G0 32 [pAV p, flL D] [.resv] (.agg zPb) _ := ACall.says (clokG1 fun _ => hv ▸ c29 hs) (lpF_ok 5 _ _ _) (runG32 p D) (says_need trivial (says_need rfl (says_ite (fun _ => says_leaf) fun h => by cases h)))
    exact hc.out (k := 1) re_pb0 (below_pAV _) below_args2 h
  | true =>
    have hp := valid_iff.1 hv
    have hcl : ClOk Try.prog G0 (EH True [(29, [pAV p], .bool true)] (hStA 26 1)) := clokH (fun _ z hz σ => by
      obtain rfl := List.mem_singleton.1 hz
      exact hv ▸ c29 hs σ) (hStA_ok 26 1).ok
    have hlp := (loop32 hp hD).okB (fun _ _ => rfl) (c := bodyOf Try.prog 32) (i := 5) (keep := keep32) (one_loop loops32)
    have hc : ACall Try.prog G0 32 [pAV p, flL D] [.resv] (.agg [flL p.V, flLL p.C, sV 4 0 (rowR (p.R.filter fun x => D.contains x.d))]) [sO (rowR (p.R.filter fun x => D.contains x.d)), .cells 0 [flL p.V, flLL p.C, sV 4 0 (rowR (p.R.filter fun x => D.contains x.d))], .cells 0 [flL p.V, flLL p.C, sV 4 0 (rowR (p.R.filter fun x => D.contains x.d))]] := by
      refine ACall.says hcl hlp (runF32 p D _ _ _) ?_
      exact says_need trivial (says_need rfl (says_ite (fun h => (by cases h)) fun _ => says_need rfl (says_need (need26 _ _ _) says_leaf)))
    exact hc.out (k := 1) (re_pb (p := ⟨p.V, p.C, p.R.filter fun x => D.contains x.d⟩) rfl nofun) (below_pAV _) below_args2 h
end Go.Proofs.Ytngaihdpmoajeaa.Am

namespace Go.Proofs.Ytngaihdpmoajeaa.Am
open Go
set_option maxRecDepth 100000

theorem run62 (q : Prop) (x y : Rl) (b c : Bool) (h : Heap) : xCall Try.prog G0 (EG q [(23, [flL x.v, flL y.v], .bool b), (60, [flLL x.w, flLL y.w, .fn 23 [] []], .bool c)]) 200 62 [.agg (rlC x), .agg (rlC y)] [true, true] h = .ite (x.d == y.d) (.ite (x.m == y.m) (.need (q) (.need ([(flL (x.v)), (flL (y.v))] = [(flL (x.v)), (flL (y.v))]) (.ite (b) (.need (q) (.need ([(flLL (x.w)), (flLL (y.w)), (AV.fn (23 : Nat) [] [])] = [(flLL (x.w)), (flLL (y.w)), (AV.fn (23 : Nat) [] [])]) (.leaf ((AV.bool c), true, h)))) (.leaf ((AV.bool false), false, h))))) (.leaf ((AV.bool false), false, h))) (.leaf ((AV.bool false), false, h)) := by kernel_rfl
noncomputable def body61 : Code := (loopsOf (bodyOf Try.prog 61)).headD .skip
theorem loops61 : loopsOf (bodyOf Try.prog 61) = [body61] := by kernel_rfl
def st61 (a b : List Rl) (k : Int) (h : Heap) : St := .of 32 h [(1, flR b, true), (2, .fn 62 [] [], true), (6, .bool false, false), (15, flR a, true), (16, I a.length, true), (17, I k, true)]
theorem run61 (q : Prop) (a b : List Rl) (k : Int) (t : Bool) : xBody0 Try.prog G0 (EG q [(62, [.agg (rlC (a.getD k.toNat r0)), .agg (rlC (b.getD k.toNat r0))], .bool t)]) 200 noLoops [1, 2, 6, 15, 16, 17] body61 (st61 a b k []) = .ite (decide (k < (↑a.length : Int))) (.need (((0 : Int) ≤ k) ∧ (k < (↑a.length : Int))) (.need (((0 : Int) ≤ k) ∧ (k < (↑b.length : Int))) (.need (q) (.need ([(AV.agg [(I ((a.getD k.toNat r0).d)), (flL ((a.getD k.toNat r0).v)), (flLL ((a.getD k.toNat r0).w)), (I ((a.getD k.toNat r0).m))]), (AV.agg [(I ((b.getD k.toNat r0).d)), (flL ((b.getD k.toNat r0).v)), (flLL ((b.getD k.toNat r0).w)), (I ((b.getD k.toNat r0).m))])] = [(AV.agg [(I ((a.getD k.toNat r0).d)), (flL ((a.getD k.toNat r0).v)), (flLL ((a.getD k.toNat r0).w)), (I ((a.getD k.toNat r0).m))]), (AV.agg [(I ((b.getD k.toNat r0).d)), (flL ((b.getD k.toNat r0).v)), (flLL ((b.getD k.toNat r0).w)), (I ((b.getD k.toNat r0).m))])]) (.ite (!t) (.leaf (Exit.ret, St.of 32 [] [(1, (flR (b)), true), (2, (AV.fn (62 : Nat) [] []), true), (6, (AV.bool false), false), (15, (flR (a)), true), (16, (I ((↑a.length : Int))), true), (17, (I k), true)])) (.leaf (Exit.normal, St.of 32 [] [(1, (flR (b)), true), (2, (AV.fn (62 : Nat) [] []), true), (6, (AV.bool false), false), (15, (flR (a)), true), (16, (I ((↑a.length : Int))), true), (17, (I (IntKind.i64.wrap (k + (1 : Int)))), true)]))))))) (.leaf ((Exit.exit (0 : Nat)), St.of 32 [] [(1, (flR (b)), true), (2, (AV.fn (62 : Nat) [] []), true), (6, (AV.bool false), false), (15, (flR (a)), true), (16, (I ((↑a.length : Int))), true), (17, (I k), true)])) := by kernel_rfl
theorem runF61 (a b : List Rl) (t : Bool) (k1 k2 : Int) (h : Heap) : xenter Try.prog {} (xCode Try.prog G0 {} 200 (lpA 4 [1, 2, 6, 15, 16, 17] (st61 a b 0 h) t .ret (st61 a b k1 h) (.exit 0) (st61 a b k2 h))) 61 [flR a, flR b, .fn 62 [] []] [true, true, true] h = .ite ((↑a.length : Int) != (↑b.length : Int)) (.leaf ((AV.bool false), false, h)) (.need ((st61 a b 0 h).vals = (st61 a b 0 h).vals) (.ite (t) (.leaf ((AV.bool false), false, h)) (.leaf ((AV.bool true), false, h)))) := by kernel_rfl
theorem runG61 (a b : List Rl) (h : Heap) : xenter Try.prog {} (xCode Try.prog G0 {} 200 (lpF 4 [1, 2, 6, 15, 16, 17] (st61 a b 0 h))) 61 [flR a, flR b, .fn 62 [] []] [true, true, true] h = .ite ((↑a.length : Int) != (↑b.length : Int)) (.leaf ((AV.bool false), false, h)) (.need ((st61 a b 0 h).vals = (st61 a b 0 h).vals) .fail) := by kernel_rfl
theorem run30 (q : Prop) (x y : Pb) (a b c : Bool) (h : Heap) : xCall Try.prog G0 (EG q [(23, [flL x.V, flL y.V], .bool a), (60, [flLL x.C, flLL y.C, .fn 23 [] []], .bool b), (61, [flR x.R, flR y.R, .fn 62 [] []], .bool c)]) 200 30 [pAV x, pAV y] [true, true] h = .need (q) (.need ([(flL (x.V)), (flL (y.V))] = [(flL (x.V)), (flL (y.V))]) (.ite (!a) (.leaf ((AV.bool false), false, h)) (.need (q) (.need ([(flLL (x.C)), (flLL (y.C)), (AV.fn (23 : Nat) [] [])] = [(flLL (x.C)), (flLL (y.C)), (AV.fn (23 : Nat) [] [])]) (.ite (!b) (.leaf ((AV.bool false), false, h)) (.need (q) (.need ([(flR (x.R)), (flR (y.R)), (AV.fn (62 : Nat) [] [])] = [(flR (x.R)), (flR (y.R)), (AV.fn (62 : Nat) [] [])]) (.leaf ((AV.bool c), true, h))))))))) := by kernel_rfl
noncomputable def body11 : Code := (loopsOf (bodyOf Try.prog 11)).headD .skip
theorem loops11 : loopsOf (bodyOf Try.prog 11) = [body11] := by kernel_rfl
def st11 (p : Pb) (n k : Int) (b : Bool) (h : Heap) : St := .of 22 h [(2, .bool b, false), (3, I n, true), (10, flL p.V, true), (11, I p.V.length, true), (12, I k, true)]
theorem run11 (p : Pb) (n k : Int) (h : Heap) : xBody Try.prog G0 {} 200 noLoops [2, 3, 10, 11, 12] body11 (st11 p n k false h) = .ite (decide (k < (↑p.V.length : Int))) (.need (((0 : Int) ≤ k) ∧ (k < (↑p.V.length : Int))) (.ite (decide (IntKind.i64.wrap (n * p.V.getD k.toNat (0 : Int)) > (3000 : Int))) (.leaf (Exit.ret, St.of 22 h [(2, (AV.bool false), false), (3, (I (IntKind.i64.wrap (n * p.V.getD k.toNat (0 : Int)))), true), (10, (flL (p.V)), true), (11, (I ((↑p.V.length : Int))), true), (12, (I k), true)])) (.leaf (Exit.normal, St.of 22 h [(2, (AV.bool false), false), (3, (I (IntKind.i64.wrap (n * p.V.getD k.toNat (0 : Int)))), true), (10, (flL (p.V)), true), (11, (I ((↑p.V.length : Int))), true), (12, (I (IntKind.i64.wrap (k + (1 : Int)))), true)])))) (.leaf ((Exit.exit (0 : Nat)), St.of 22 h [(2, (AV.bool false), false), (3, (I n), true), (10, (flL (p.V)), true), (11, (I ((↑p.V.length : Int))), true), (12, (I k), true)])) := by kernel_rfl
theorem runF11 (p : Pb) (b t : Bool) (n1 k1 n2 k2 : Int) (h : Heap) : xenter Try.prog (EG True [(29, [pAV p], .bool b)]) (xCode Try.prog G0 (EG True [(29, [pAV p], .bool b)]) 200 (lpA 5 [2, 3, 10, 11, 12] (st11 p 1 0 false h) t .ret (st11 p n1 k1 false h) (.exit 0) (st11 p n2 k2 false h))) 11 [pAV p] [true] h = .need (True) (.need ([(AV.agg [(flL (p.V)), (flLL (p.C)), (flR (p.R))])] = [(AV.agg [(flL (p.V)), (flLL (p.C)), (flR (p.R))])]) (.ite (!b) (.leaf ((AV.bool true), false, h)) (.need ((st11 p 1 0 false h).vals = (st11 p 1 0 false h).vals) (.ite (t) (.leaf ((AV.bool false), false, h)) (.leaf ((AV.bool true), false, h)))))) := by kernel_rfl
theorem runG11 (p : Pb) (b : Bool) (h : Heap) : xenter Try.prog (EG True [(29, [pAV p], .bool b)]) (xCode Try.prog G0 (EG True [(29, [pAV p], .bool b)]) 200 (lpF 5 [2, 3, 10, 11, 12] (st11 p 1 0 false h))) 11 [pAV p] [true] h = .need (True) (.need ([(AV.agg [(flL (p.V)), (flLL (p.C)), (flR (p.R))])] = [(AV.agg [(flL (p.V)), (flLL (p.C)), (flR (p.R))])]) (.ite (!b) (.leaf ((AV.bool true), false, h)) (.need ((st11 p 1 0 false h).vals = (st11 p 1 0 false h).vals) .fail))) := by kernel_rfl
theorem c62 {x y : Rl} (hx : x.sh) (h : Heap) : ACall Try.prog G0 62 [.agg (rlC x), .agg (rlC y)] h (.bool (decide (x = y))) h := by
  have hcl : ClOk Try.prog G0 (EG True [(23, [flL x.v, flL y.v], .bool (x.v == y.v)), (60, [flLL x.w, flLL y.w, .fn 23 [] []], .bool (x.w == y.w))]) := clokG2 (c23 hx.1) (c60 hx.2.1 hx.2.2)
  refine ACall.saysC hcl (run62 True x y _ _ h) ?_
  obtain ⟨d, v, w, m⟩ := x
  obtain ⟨d', v', w', m'⟩ := y
  simp only
  refine says_ite (fun h1 => says_ite (fun h2 => says_need trivial (says_need trivial (says_ite (fun h3 => says_need trivial (says_need trivial ?_)) fun h3 => ?_))) fun h2 => ?_) fun h1 => ?_
  · have e1 := eq_of_beq h1
    have e2 := eq_of_beq h2
    have e3 := eq_of_beq h3
    subst e1; subst e2; subst e3
    have e : (w == w') = decide ((⟨d, v, w, m⟩ : Rl) = ⟨d, v, w', m⟩) := by
      rw [Bool.eq_iff_iff, beq_iff_eq, decide_eq_true_iff]
      exact ⟨fun h => by rw [h], fun h => (Rl.mk.injEq _ _ _ _ _ _ _ _ ▸ h).2.2.1⟩
    rw [← e]
    exact says_leaf
  · have e : decide ((⟨d, v, w, m⟩ : Rl) = ⟨d', v', w', m'⟩) = false := by
      refine decide_eq_false fun h => ?_
      cases h
      simp at h3
    rw [e]
    exact says_leaf
  · have e : decide ((⟨d, v, w, m⟩ : Rl) = ⟨d', v', w', m'⟩) = false := by
      refine decide_eq_false fun h => ?_
      cases h
      simp at h2
    rw [e]
    exact says_leaf
  · have e : decide ((⟨d, v, w, m⟩ : Rl) = ⟨d', v', w', m'⟩) = false := by
      refine decide_eq_false fun h => ?_
      cases h
      simp at h1
    rw [e]
    exact says_leaf
theorem clean61 (a b : List Rl) (k : Int) : (st61 a b k []).clean ∧ (st61 a b k []).h = [] := ⟨clean_of ⟨below_flR _, .fn _ _ _ (fun _ _ h => by simp at h) (fun _ _ h => by simp at h), .bool _, below_flR _, .int _ _, .int _ _, trivial⟩, rfl⟩
theorem loop61 {a b : List Rl} (ha : sh a) (hx : ∀ x ∈ a, x.sh) (he : a.length = b.length) : LoopA body61 a.length (fun k => st61 a b k []) (fun k => st61 a b k []) (st61 a b a.length []) .ret (.exit 0) (fun k => !decide (a.getD k r0 = b.getD k r0)) := by
  refine .of0 (fun _ => rfl) (fun _ => rfl) rfl nofun nofun (fun k => clean61 a b k) (fun k => clean61 a b k) (clean61 a b _) fun k hk hj => ⟨EG True [(62, [.agg (rlC (a.getD (k : Int).toNat r0)), .agg (rlC (b.getD (k : Int).toNat r0))], .bool (decide (a.getD (k : Int).toNat r0 = b.getD (k : Int).toNat r0)))], _, _, clokG1 (fun _ => c62 (sh_getR hx _)), lpNo _, fun hlt => (congrArg Tree.sel (run61 True a b k _)).trans ?_, fun he' => (congrArg Tree.sel (run61 True a b k _)).trans ?_⟩
  · rw [wrapS hlt ha, Int.toNat_natCast]
    rw [selIt (dT (by omega)), selN ⟨by omega, by omega⟩]
    refine t_need ⟨by omega, by omega⟩ (t_need trivial (t_need rfl ?_))
    exact t_ite (fun h2 => by rw [h2]; rfl) fun h2 => by rw [h2]; rfl
  · rw [selIf (dF (by omega)), he']
    rfl
theorem listR_eq_iff (a b : List Rl) : a = b ↔ a.length = b.length ∧ ∀ k, k < a.length → a.getD k r0 = b.getD k r0 := by
  constructor
  · rintro rfl; exact ⟨rfl, fun _ _ => rfl⟩
  · intro ⟨h1, h2⟩
    apply List.ext_getElem h1
    intro k h3 h4
    have := h2 k h3
    simpa [List.getD_eq_getElem?_getD, h3, h4] using this
theorem c61 {a b : List Rl} (ha : sh a) (hx : ∀ x ∈ a, x.sh) (h : Heap) : ACall Try.prog G0 61 [flR a, flR b, .fn 62 [] []] h (.bool (decide (a = b))) h := by
  have hargs : ∀ x ∈ [flR a, flR b, .fn 62 [] []], Below 0 x := fun x hx => by
    simp only [List.mem_cons, List.not_mem_nil, or_false] at hx
    rcases hx with rfl | rfl | rfl
    · exact below_flR _
    · exact below_flR _
    · exact .fn _ _ _ (fun _ _ h => by simp at h) (fun _ _ h => by simp at h)
  refine ACall.lift0 (h' := []) ?_ (.bool _) gbelow0 hargs h
  by_cases he : a.length = b.length
  · refine ACall.says clok0 ((loop61 ha hx he).ok (one_loop loops61)) (runF61 a b _ _ _ []) ?_
    refine says_ite (fun h => absurd h (by rw [bne_iff_ne]; omega)) fun _ => says_need rfl (says_ite (fun h1 => ?_) fun h1 => ?_)
    · obtain ⟨k, h2, h3⟩ := (fstStop_iff _ _).1 (of_decide_eq_true h1)
      have e : decide (a = b) = false := decide_eq_false fun e => by subst e; simp at h3
      rw [e]
      exact says_leaf
    · have e : decide (a = b) = true := decide_eq_true ((listR_eq_iff a b).2 ⟨he, fun k hk => by
        have := fun h => of_decide_eq_false h1 ((fstStop_iff _ _).2 ⟨k, hk, h⟩)
        simpa using this⟩)
      rw [e]
      exact says_leaf
  · have e : decide (a = b) = false := decide_eq_false fun e => he (by rw [e])
    rw [e]
    exact ACall.says clok0 (lpF_ok 4 _ _ _) (runG61 a b []) (says_ite (fun _ => says_leaf) fun h => by rw [bne_eq_false_iff_eq] at h; omega)
/-- WHAT same RETURNS. -/
theorem c30 {x y : Pb} (hx : x.sh) (h : Heap) : ACall Try.prog G0 30 [pAV x, pAV y] h (.bool (decide (x = y))) h := by
  have hcl := clokG3 (q := True) (c23 (b := y.V) hx.1) (c60 (b := y.C) hx.2.1 hx.2.2.1) (c61 (b := y.R) hx.2.2.2.1 hx.2.2.2.2)
  refine ACall.saysC hcl (run30 True x y _ _ _ h) ?_
  obtain ⟨V, C, R⟩ := x
  obtain ⟨V', C', R'⟩ := y
  simp only
  refine says_need trivial (says_need trivial (says_ite (fun h1 => ?_) fun h1 => says_need trivial (says_need trivial (says_ite (fun h2 => ?_) fun h2 => says_need trivial (says_need trivial ?_)))))
  · have e : decide ((⟨V, C, R⟩ : Pb) = ⟨V', C', R'⟩) = false := decide_eq_false fun h => by cases h; simp at h1
    rw [e]
    exact says_leaf
  · have e : decide ((⟨V, C, R⟩ : Pb) = ⟨V', C', R'⟩) = false := decide_eq_false fun h => by cases h; simp at h2
    rw [e]
    exact says_leaf
  · have e1 : V = V' := by simpa using h1
    have e2 : C = C' := by simpa using h2
    subst e1; subst e2
    have e : decide (R = R') = decide ((⟨V, C, R⟩ : Pb) = ⟨V, C, R'⟩) := by
      rw [Bool.eq_iff_iff, decide_eq_true_iff, decide_eq_true_iff]
      exact ⟨fun h => by rw [h], fun h => (Pb.mk.injEq _ _ _ _ _ _ ▸ h).2.2⟩
    rw [← e]
    exact says_leaf
/-! ### small -/
def prodK (V : List Int) : Nat → Int
  | 0 => 1
  | k + 1 => prodK V k * V.getD k 0
def smallB (p : Pb) : Bool := !validP p || !anyK (fun k => decide (prodK p.V (k + 1) > 3000)) p.V.length
theorem prodK_pos {p : Pb} (hp : Ok p) : ∀ {k : Nat}, k ≤ p.V.length → 1 ≤ prodK p.V k
  | 0, _ => Int.le_refl _
  | k + 1, h => by
    have h1 := prodK_pos hp (k := k) (by omega)
    have h2 := hp.v k (by omega)
    have := Int.mul_le_mul h1 h2.1 (by omega) (by omega)
    simpa [prodK] using this
theorem loop11 {p : Pb} (hp : Ok p) (h : Heap) : LoopA body11 p.V.length (fun k => st11 p (prodK p.V k) k false h) (fun k => st11 p (prodK p.V (k + 1)) k false h) (st11 p (prodK p.V p.V.length) p.V.length false h) .ret (.exit 0) (fun k => decide (prodK p.V (k + 1) > 3000)) := by
  refine .of (fun _ => rfl) (fun _ => rfl) rfl nofun nofun fun k hk hj => ⟨_, _, _, clok0, lpNo _, fun hlt => (congrArg Tree.sel (run11 p _ k h)).trans ?_, fun he => (congrArg Tree.sel (run11 p _ k h)).trans ?_⟩
  · have hn := hp.n
    have h1 := prodK_pos hp (k := k) (by omega)
    have h2 := hp.v k hlt
    have h3 : prodK p.V k ≤ 3000 := by
      match k, hj with
      | 0, _ => show (1 : Int) ≤ 3000; omega
      | k + 1, hj => have := of_decide_eq_false (hj k (by omega)); omega
    have h4 : prodK p.V k * p.V.getD k 0 ≤ 3000 * 16 := Int.mul_le_mul h3 h2.2 (by omega) (by omega)
    have h5 : 0 ≤ prodK p.V k * p.V.getD k 0 := Int.mul_nonneg (by omega) (by omega)
    have e : prodK p.V (k + 1) = prodK p.V k * p.V.getD k 0 := rfl
    rw [Int.toNat_natCast, wrap_i64 (n := prodK p.V k * p.V.getD k 0) (by omega) (by omega), wrap_i64 (n := (k : Int) + 1) (by omega) (by omega), e]
    rw [selIt (dT (by omega)), selN ⟨by omega, by omega⟩]
    exact t_ite (fun h2 => by rw [h2]; rfl) fun h2 => by rw [h2]; rfl
  · rw [selIf (dF (by omega)), he]
    rfl
theorem c11 {p : Pb} (hs : p.sh) (h : Heap) : ACall Try.prog G0 11 [pAV p] h (.bool (smallB p)) h := by
  unfold smallB
  cases hv : validP p with
  | false => exact ACall.says (clokG1 fun _ => hv ▸ c29 hs) (lpF_ok 5 _ _ _) (runG11 p false h) (says_need trivial (says_need rfl (says_ite (fun _ => says_leaf) fun h => by cases h)))
  | true =>
    refine ACall.says (clokG1 fun _ => hv ▸ c29 hs) ((loop11 (valid_iff.1 hv) h).ok (one_loop loops11)) (runF11 p true _ _ _ _ _ h) ?_
    rw [anyK_stop, Bool.not_true, Bool.false_or]
    exact says_need trivial (says_need rfl (says_ite (fun h => (by cases h)) fun _ => says_need rfl (says_ite (fun h1 => by rw [h1]; exact says_leaf) fun h1 => by rw [h1]; exact says_leaf)))
end Go.Proofs.Ytngaihdpmoajeaa.Am

namespace Go.Proofs.Ytngaihdpmoajeaa.Am
open Go
set_option maxRecDepth 100000

/-! ### Open beginnings -/
theorem pos_opn (p : Pb) (a : List Int) : posB p a false = true ↔ Opn p a := by
  unfold posB Opn
  rw [Bool.not_eq_true', anyK_iff]
  refine forall_congr' fun j => forall_congr' fun hj => ?_
  unfold bad50
  rw [Bool.false_and, cond_false, decide_eq_false_iff_not]
  omega
theorem leastT_ne {x : Rl} {a : List Int} {y : Int} {i : Nat} (hn : x.v.getD i 0 ≠ (a.length : Int)) (h0 : 0 ≤ x.v.getD i 0) : leastT x (a ++ [y]) i = leastT x a i := by
  unfold leastT
  by_cases h : x.v.getD i 0 < a.length
  · rw [dT h, dT (by rw [List.length_append, List.length_singleton]; omega), getD_app_lt (by omega)]
  · rw [dF h, dF (by rw [List.length_append, List.length_singleton]; omega)]
    rfl
theorem least_app_ne {V : List Int} {x : Rl} (hx : OkRule V x) {a : List Int} {y : Int} (hn : (a.length : Int) ∉ x.v) : leastA x (a ++ [y]) = leastA x a := sumK_congr fun i hi => leastT_ne (fun e => hn (by rw [← e]; exact getD_mem hi)) (hx.v i hi).1
theorem pos_app {p : Pb} (hp : Ok p) {a : List Int} {y : Int} (ho : Opn p a) : posB p (a ++ [y]) true = true ↔ Opn p (a ++ [y]) := by
  unfold posB
  rw [Bool.not_eq_true', anyK_iff]
  unfold Opn
  refine forall_congr' fun j => forall_congr' fun hj => ?_
  unfold bad50
  have e : ((a ++ [y]).length : Int) - 1 = a.length := by rw [List.length_append, List.length_singleton]; omega
  rw [e]
  cases hc : (p.R.getD j r0).v.contains (a.length : Int) with
  | true =>
    simp only [Bool.not_true, Bool.and_false, cond_false, decide_eq_false_iff_not]
    omega
  | false =>
    have hn : (a.length : Int) ∉ (p.R.getD j r0).v := by
      rw [← List.contains_iff_mem, hc]
      simp
    rw [least_app_ne (rule_getD hp j) hn]
    simp only [Bool.not_false, Bool.and_true, cond_true, true_iff]
    exact ho j hj
theorem putW_pos {p : Pb} (hp : Ok p) {a : List Int} (hl : a.length < p.V.length) (ho : Opn p a) {x : Int} (h0 : 0 ≤ x) (hx : x < p.V.getD a.length 0) : putW p a x = posB p (a ++ [x]) true := by
  rw [Bool.eq_iff_iff, pos_app hp ho]
  exact put_opn hp hl h0 hx ho
theorem any_pos (p : Pb) (a : List Int) : (!(leftA p a).any fun n => decide (n < 0)) = posB p a false := by
  rw [Bool.eq_iff_iff, open_opn, pos_opn]
theorem bound_lt {p : Pb} (hp : Ok p) {a : List Int} (ha : Beg p a) : boundA p a < 24000001 := by
  have h1 := costK_bound' hp ha
  have h2 := restK_bound hp (i := a.length) (k := p.V.length - a.length) (by have := ha.len; omega)
  have h3 := hp.n
  have h4 := ha.len
  unfold boundA restA
  omega
theorem btr_eq {p : Pb} {c : Int} (hc : c < 24000001) (s : Option (List Int)) : btr p c s = decide (c < lsV p s) := by
  cases s with
  | none => show true = decide (c < 24000001); rw [dT hc]
  | some b => rfl
theorem bound_full {p : Pb} {a : List Int} (h : a.length = p.V.length) : boundA p a = costA p a := by
  unfold boundA restA
  rw [h, Nat.sub_self]
  exact Int.add_zero _
/-! ### Loops -/
theorem runK_shift {α : Type} (g : Int → α → α) (b : α) : ∀ c : Nat, runK (fun k => g (k + 1)) (g 0 b) c = runK g b (c + 1)
  | 0 => rfl
  | c + 1 => by
    show g ((c : Int) + 1) (runK (fun k => g (k + 1)) (g 0 b) c) = g ((c + 1 : Nat) : Int) (runK g b (c + 1))
    rw [runK_shift g b c, Int.natCast_succ]
theorem loopW_runK {τ : Type} {step : Int → τ → Bool × τ} {g : Int → τ → τ} {N : Int} : ∀ (c : Nat) (k : Int) (s : τ), 0 ≤ k → k + c = N → (∀ x s, 0 ≤ x → x < N → step x s = (true, g x s)) → loopW step c k s = (true, runK (fun j => g (k + j)) s c)
  | 0, _, _, _, _, _ => rfl
  | c + 1, k, s, h0, hk, h => by
    have e := h k s h0 (by omega)
    unfold loopW
    rw [e]
    simp only [cond_true]
    rw [loopW_runK c (k + 1) (g k s) (by omega) (by omega) h]
    have e2 : (fun j : Int => g (k + 1 + j)) = fun j => (fun i => g (k + i)) (j + 1) := by
      funext j
      rw [show k + 1 + j = k + (j + 1) by omega]
    have e3 : g k s = (fun i => g (k + i)) 0 s := by show g k s = g (k + 0) s; rw [Int.add_zero]
    rw [e2, e3]
    exact congrArg (Prod.mk true) (runK_shift (fun i => g (k + i)) s c)
/-! ### The best -/
theorem walk_best {p : Pb} (hp : Ok p) : ∀ (d : Nat) (a : List Int) (s : Option (List Int)), Beg p a → a.length + d = p.V.length → Opn p a → boundA p a < lsV p s → walkW p (K42 p) d a s = (true, betW p d a s)
  | 0, a, s, ha, hd, ho, hb => by
    have h1 := bound_lt hp ha
    rw [bound_full (by omega)] at h1 hb
    show (true, some a) = (true, bif btr p (costA p a) s then some a else s)
    rw [btr_eq h1, dT hb]
    rfl
  | d + 1, a, s, ha, hd, ho, hb => by
    have hv := hp.v a.length (by omega)
    have key := loopW_runK (step := fun x s => bif goesW p (K42 p) a x s then walkW p (K42 p) d (a ++ [x]) s else (true, s)) (g := fun k b => bif posB p (a ++ [k]) true then (bif btr p (boundA p (a ++ [k])) b then betW p d (a ++ [k]) b else b) else b) (N := p.V.getD a.length 0) (p.V.getD a.length 0).toNat 0 s (Int.le_refl _) (by omega) (fun x s h0 hx => ?_)
    · have e : (fun j : Int => (fun (k : Int) b => bif posB p (a ++ [k]) true then (bif btr p (boundA p (a ++ [k])) b then betW p d (a ++ [k]) b else b) else b) (0 + j)) = fun k b => bif posB p (a ++ [k]) true then (bif btr p (boundA p (a ++ [k])) b then betW p d (a ++ [k]) b else b) else b := by
        funext j
        rw [Int.zero_add]
      rw [e] at key
      exact key
    · have hb' := beg_app ha (by omega) h0 hx
      have hpw := putW_pos hp (by omega) ho h0 hx
      have hbt := btr_eq (p := p) (bound_lt hp hb') s
      unfold goesW
      rw [hpw, hbt]
      cases hq : posB p (a ++ [x]) true with
      | false => rfl
      | true =>
        rw [cond_true, cond_true]
        show (bif decide (boundA p (a ++ [x]) < lsV p s) then _ else _) = _
        cases hd2 : decide (boundA p (a ++ [x]) < lsV p s) with
        | false => rfl
        | true => exact walk_best hp d (a ++ [x]) s hb' (by simp; omega) ((pos_app hp ho).1 hq) (of_decide_eq_true hd2)
/-- THE PROGRAM AND THE REFERENCE FIND THE SAME BEST. -/
theorem best_ref {p : Pb} (hp : Ok p) {a : List Int} (ha : Beg p a) : bestW p a = refW p a := by
  unfold bestW refW runW
  rw [any_pos]
  have hl := ha.len
  cases hq : posB p a false with
  | false => rfl
  | true =>
    have hb : boundA p a < lsV p none := bound_lt hp ha
    have e : decide (boundA p a < (K42 p).most none) = true := dT hb
    rw [cond_true, e, cond_true, cond_true, walk_best hp _ a none ha (by omega) ((pos_opn p a).1 hq) hb]
/-! ### The first -/
theorem loopW_fstL {α : Type} {step : Int → Option α → Bool × Option α} {g : Int → Option α} {N : Int} : ∀ (c : Nat) (k : Int), 0 ≤ k → k + c = N → (∀ x, 0 ≤ x → x < N → step x none = ((g x).isNone, g x)) → loopW step c k none = ((fstL g c k).isNone, fstL g c k)
  | 0, _, _, _, _ => rfl
  | c + 1, k, h0, hk, h => by
    have e := h k h0 (by omega)
    unfold loopW fstL
    rw [e]
    cases hg : g k with
    | none =>
      simp only [Option.isNone_none, cond_true]
      exact loopW_fstL c (k + 1) (by omega) (by omega) h
    | some b => rfl
theorem walk_first {p : Pb} (hp : Ok p) : ∀ (d : Nat) (a : List Int), Beg p a → a.length + d = p.V.length → Opn p a → walkW p K22 d a none = ((frW p d a).isNone, frW p d a)
  | 0, a, _, _, _ => rfl
  | d + 1, a, ha, hd, ho => by
    have hv := hp.v a.length (by omega)
    refine loopW_fstL (step := fun x s => bif goesW p K22 a x s then walkW p K22 d (a ++ [x]) s else (true, s)) (g := fun k => bif posB p (a ++ [k]) true then frW p d (a ++ [k]) else none) (N := p.V.getD a.length 0) _ 0 (Int.le_refl _) (by omega) fun x h0 hx => ?_
    have hb' := beg_app ha (by omega) h0 hx
    have hpw := putW_pos hp (by omega) ho h0 hx
    have hbd : decide (boundA p (a ++ [x]) < K22.most none) = true := dT (bound_lt hp hb')
    unfold goesW
    rw [hpw, hbd]
    cases hq : posB p (a ++ [x]) true with
    | false => rfl
    | true => exact walk_first hp d (a ++ [x]) hb' (by simp; omega) ((pos_app hp ho).1 hq)
/-- THE SAME FIRST. -/
theorem first_ref {p : Pb} (hp : Ok p) : firstW p = refF p := by
  unfold firstW refF runW
  rw [any_pos]
  cases hq : posB p [] false with
  | false => rfl
  | true =>
    have e : decide (boundA p [] < K22.most none) = true := dT (bound_lt hp (beg_nil p))
    rw [cond_true, e, cond_true, cond_true]
    have := walk_first hp p.V.length [] (beg_nil p) (by simp) ((pos_opn p []).1 hq)
    show (walkW p K22 p.V.length [] none).2 = _
    rw [this]
/-! ### The count -/
def cntN (p : Pb) : Nat → List Int → Int
  | 0, _ => 1
  | d + 1, a => sumK (fun k => bif posB p (a ++ [(k : Int)]) true then cntN p d (a ++ [(k : Int)]) else 0) (p.V.getD a.length 0).toNat
theorem cntN_nonneg (p : Pb) : ∀ (d : Nat) (a : List Int), 0 ≤ cntN p d a
  | 0, _ => by unfold cntN; omega
  | d + 1, a => by
    unfold cntN
    refine sumK_nonneg fun i _ => ?_
    cases posB p (a ++ [(i : Int)]) true with
    | true => exact cntN_nonneg p d _
    | false => exact Int.le_refl _
def minI (a b : Int) : Int := if a ≤ b then a else b
theorem cntK_min {g : Int → Int → Int} {f : Nat → Int} {m : Int} (hm : 1 ≤ m) (hf : ∀ i, 0 ≤ f i) (hg : ∀ (i : Nat) m', 1 ≤ m' → g i m' = minI (f i) m') : ∀ k, cntK g m k = minI (sumK f k) m
  | 0 => by
    show (0 : Int) = minI 0 m
    unfold minI
    rw [if_pos (by omega)]
  | k + 1 => by
    have ih := cntK_min hm hf hg k
    have h0 := hf k
    have e : sumK f (k + 1) = sumK f k + f k := rfl
    have hs : 0 ≤ sumK f k := sumK_nonneg fun i _ => hf i
    unfold cntK
    rw [ih, e]
    by_cases h : sumK f k < m
    · have e2 : minI (sumK f k) m = sumK f k := if_pos (by omega)
      rw [e2, if_pos h, hg k _ (by omega)]
      unfold minI
      split <;> split <;> omega
    · have e2 : minI (sumK f k) m = m := by unfold minI; split <;> omega
      rw [e2, if_neg (by omega)]
      unfold minI
      split <;> omega
theorem cntW_min (p : Pb) : ∀ (d : Nat) (a : List Int) (m : Int), 1 ≤ m → cntW p d a m = minI (cntN p d a) m
  | 0, a, m, hm => by
    show (1 : Int) = minI 1 m
    unfold minI
    rw [if_pos hm]
  | d + 1, a, m, hm => cntK_min (f := fun k => bif posB p (a ++ [(k : Int)]) true then cntN p d (a ++ [(k : Int)]) else 0) hm (fun i => by
      show 0 ≤ (bif posB p (a ++ [(i : Int)]) true then cntN p d (a ++ [(i : Int)]) else 0)
      cases posB p (a ++ [(i : Int)]) true with
      | true => exact cntN_nonneg p d _
      | false => exact Int.le_refl _) (fun i m' hm' => by
      show (bif posB p (a ++ [(i : Int)]) true then cntW p d (a ++ [(i : Int)]) m' else 0) = minI (bif posB p (a ++ [(i : Int)]) true then cntN p d (a ++ [(i : Int)]) else 0) m'
      cases posB p (a ++ [(i : Int)]) true with
      | true => exact cntW_min p d _ m' hm'
      | false => unfold minI; rw [cond_false, cond_false, if_pos (by omega)]) _
/-- What a run of counting does. -/
def cntS (n c m : Int) : Bool × (Int × Bool) := bif decide (n + c ≤ m) then (true, (n + c, false)) else (false, (m, true))
theorem loopW_cnt {step : Int → (Int × Bool) → Bool × (Int × Bool)} {f : Nat → Int} {m : Int} (hf : ∀ i, 0 ≤ f i) {N : Nat} (hst : ∀ (i : Nat) n, i < N → 0 ≤ n → n ≤ m → step i (n, false) = cntS n (f i) m) : ∀ (c k : Nat) (n : Int), k + c = N → 0 ≤ n → n ≤ m → loopW step c k (n, false) = cntS n (sumK f N - sumK f k) m
  | 0, k, n, hk, h0, h1 => by
    obtain rfl : k = N := by omega
    unfold loopW cntS
    rw [Int.sub_self, Int.add_zero, dT h1]
    rfl
  | c + 1, k, n, hk, h0, h1 => by
    have e := hst k n (by omega) h0 h1
    have hge : sumK f (k + 1) ≤ sumK f N := by
      obtain ⟨j, hj⟩ : ∃ j, N = k + 1 + j := ⟨N - (k + 1), by omega⟩
      rw [hj]
      clear hj hst e hk
      induction j with
      | zero => exact Int.le_refl _
      | succ j ih =>
        have : sumK f (k + 1 + (j + 1)) = sumK f (k + 1 + j) + f (k + 1 + j) := rfl
        have := hf (k + 1 + j)
        omega
    have e1 : sumK f (k + 1) = sumK f k + f k := rfl
    have h3 := hf k
    unfold loopW
    rw [e]
    unfold cntS
    by_cases hle : n + f k ≤ m
    · rw [dT hle]
      simp only [cond_true]
      have ih := loopW_cnt hf hst c (k + 1) (n + f k) (by omega) (by omega) hle
      rw [Int.natCast_succ] at ih
      rw [ih]
      unfold cntS
      rw [show n + f k + (sumK f N - sumK f (k + 1)) = n + (sumK f N - sumK f k) by omega]
    · rw [dF hle, dF (by omega)]
      rfl
theorem walk_count {p : Pb} (hp : Ok p) {m : Int} : ∀ (d : Nat) (a : List Int) (n : Int), Beg p a → a.length + d = p.V.length → Opn p a → 0 ≤ n → n ≤ m → walkW p (K16 m) d a (n, false) = cntS n (cntN p d a) m
  | 0, a, n, _, _, _, h0, h1 => by
    show (!(n == m), bif n == m then (n, true) else (n + 1, false)) = cntS n 1 m
    unfold cntS
    by_cases he : n = m
    · subst he
      rw [beq_self_eq_true, dF (by omega)]
      rfl
    · have : (n == m) = false := beq_eq_false_iff_ne.2 he
      rw [this, dT (by omega)]
      rfl
  | d + 1, a, n, ha, hd, ho, h0, h1 => by
    have hv := hp.v a.length (by omega)
    have key := loopW_cnt (step := fun x s => bif goesW p (K16 m) a x s then walkW p (K16 m) d (a ++ [x]) s else (true, s)) (f := fun k => bif posB p (a ++ [(k : Int)]) true then cntN p d (a ++ [(k : Int)]) else 0) (m := m) (N := (p.V.getD a.length 0).toNat) (fun i => by
      show 0 ≤ (bif posB p (a ++ [(i : Int)]) true then cntN p d (a ++ [(i : Int)]) else 0)
      cases posB p (a ++ [(i : Int)]) true with
      | true => exact cntN_nonneg p d _
      | false => exact Int.le_refl _) (fun i n hi h0 h1 => ?_) (p.V.getD a.length 0).toNat 0 n (by omega) h0 h1
    · have e : sumK (fun k => bif posB p (a ++ [(k : Int)]) true then cntN p d (a ++ [(k : Int)]) else 0) (p.V.getD a.length 0).toNat - sumK (fun k => bif posB p (a ++ [(k : Int)]) true then cntN p d (a ++ [(k : Int)]) else 0) 0 = cntN p (d + 1) a := Int.sub_zero _
      rw [e] at key
      exact key
    · have hb' := beg_app ha (x := (i : Int)) (by omega) (by omega) (by omega)
      have hpw := putW_pos hp (by omega) ho (x := (i : Int)) (by omega) (by omega)
      have hbd : decide (boundA p (a ++ [(i : Int)]) < (K16 m).most (n, false)) = true := dT (bound_lt hp hb')
      show (bif goesW p (K16 m) a i (n, false) then walkW p (K16 m) d (a ++ [(i : Int)]) (n, false) else (true, (n, false))) = cntS n (bif posB p (a ++ [(i : Int)]) true then cntN p d (a ++ [(i : Int)]) else 0) m
      unfold goesW
      rw [hpw, hbd]
      cases hq : posB p (a ++ [(i : Int)]) true with
      | false =>
        unfold cntS
        simp only [cond_false, Int.add_zero, dT h1, cond_true]
      | true => exact walk_count hp d (a ++ [(i : Int)]) n hb' (by simp; omega) ((pos_app hp ho).1 hq) h0 h1
/-- THE SAME COUNT. -/
theorem count_eq {p : Pb} (hp : Ok p) {m : Int} (hm : 0 ≤ m) : countW p m = bif posB p [] false then minI (cntN p p.V.length []) m else 0 := by
  unfold countW runW
  rw [any_pos]
  cases hq : posB p [] false with
  | false => rfl
  | true =>
    have e : decide (boundA p [] < (K16 m).most (0, false)) = true := dT (bound_lt hp (beg_nil p))
    rw [cond_true, e, cond_true, cond_true]
    have := walk_count hp (m := m) p.V.length [] 0 (beg_nil p) (by simp) ((pos_opn p []).1 hq) (Int.le_refl _) hm
    show (walkW p (K16 m) p.V.length [] (0, false)).2.1 = _
    rw [this]
    unfold cntS minI
    by_cases h : cntN p p.V.length [] ≤ m
    · rw [dT (by omega), if_pos h, cond_true]
      exact Int.zero_add _
    · rw [dF (by omega), if_neg h]
      rfl
theorem count_ref {p : Pb} (hp : Ok p) {m : Int} (hm : 0 ≤ m) : countW p m = refN p m := by
  rw [count_eq hp hm]
  unfold refN
  by_cases h0 : m = 0
  · subst h0
    have h1 := cntN_nonneg p p.V.length []
    have e : minI (cntN p p.V.length []) 0 = 0 := by unfold minI; split <;> omega
    rw [e]
    cases posB p [] false <;> rfl
  · have e : (m == 0) = false := beq_eq_false_iff_ne.2 h0
    rw [e, Bool.false_or]
    cases posB p [] false with
    | false => rfl
    | true => exact (cntW_min p _ [] m (by omega)).symm
end Go.Proofs.Ytngaihdpmoajeaa.Am

namespace Go.Proofs.Ytngaihdpmoajeaa.Am
open Go
set_option maxRecDepth 100000

/-! ### Lists, read off plain values -/
def mapO {α β : Type} (f : α → Option β) : List α → Option (List β)
  | [] => some []
  | x :: r => match f x, mapO f r with
    | some y, some ys => some (y :: ys)
    | _, _ => none
theorem mapO_ok {α β : Type} {f : α → Option β} : ∀ {l : List α} {ys : List β}, mapO f l = some ys → ys.length = l.length ∧ ∀ (i : Nat) (y : β), ys[i]? = some y → ∃ x, l[i]? = some x ∧ f x = some y
  | [], ys, h => by cases h; exact ⟨rfl, fun i y hi => by simp at hi⟩
  | x :: r, ys, h => by
    unfold mapO at h
    split at h
    · rename_i y zs hy hz
      cases h
      obtain ⟨h1, h2⟩ := mapO_ok hz
      refine ⟨by simp [h1], fun i z hi => ?_⟩
      cases i with
      | zero => simp at hi; subst hi; exact ⟨x, rfl, hy⟩
      | succ i => simpa using h2 i z (by simpa using hi)
    · cases h
/-- Rows of a slice. -/
def decRows {α : Type} (s : Nat) (f : List AV → Option α) : AV → Option (List α)
  | .zs => some []
  | .sl s' rows => bif Nat.beq s' s then mapO f rows else none
  | .fl s' n r => bif Nat.beq s' s then mapO (fun i => f (r i)) (List.range n) else none
  | _ => none
/-- What a row is told as. -/
def RowOk {α : Type} (f : List AV → Option α) (q : α → List AV) : Prop := ∀ r x, f r = some x → ∀ (j : Nat) (y' : AV), (q x)[j]? = some y' → ∃ y, r[j]? = some y ∧ Sub y y'
theorem RV.rowsS {w : World} {M : Map} {u : Value} {α : Type} {s : Nat} {q : α → List AV} {d : α} {rows : List (List AV)} {L : List α} (hq : ∀ x, (q x).length = s) (hl : L.length = rows.length) (hx : ∀ (i : Nat) (x : α), L[i]? = some x → ∃ r, rows[i]? = some r ∧ ∀ (j : Nat) (y' : AV), (q x)[j]? = some y' → ∃ y, r[j]? = some y ∧ Sub y y') (h : RV w M u (.sl s rows)) : RV w M u (.fl s L.length fun i => q (L.getD i d)) := by
  refine .fl _ _ _ _ ?_
  have hlen : ((List.range L.length).map fun i => q (L.getD i d)).length = L.length := by simp
  have ge : ∀ (i : Nat) (r : List AV), ((List.range L.length).map fun i => q (L.getD i d))[i]? = some r → ∃ x, L[i]? = some x ∧ r = q x := by
    intro i r hi
    have hil : i < L.length := by have := (List.getElem?_eq_some_iff.1 hi).1; rwa [hlen] at this
    rw [List.getElem?_map, List.getElem?_range hil] at hi
    cases hi
    exact ⟨L[i], List.getElem?_eq_getElem hil, by show q (L.getD i d) = q L[i]; rw [List.getD_eq_getElem?_getD, List.getElem?_eq_getElem hil]; rfl⟩
  cases h with
  | sl0 base cap _ =>
    have : L = [] := by simpa using hl
    subst this
    exact .sl0 _ _ _
  | sl b o cap size f rows hb hc hl2 h hcap =>
    have e : rows.length = ((List.range L.length).map fun i => q (L.getD i d)).length := by rw [hlen, hl]
    rw [e]
    refine .sl b o cap s f _ hb (fun i r j hi hj => ?_) (fun i r hi => ?_) (fun i r j x hi hj => ?_) (by rw [← e]; exact hcap)
    · obtain ⟨x, h1, _⟩ := ge i r hi
      obtain ⟨r', h2, _⟩ := hx i x h1
      exact hc i _ j h2 hj
    · obtain ⟨x, _, rfl⟩ := ge i r hi; exact hq x
    · obtain ⟨z, h1, rfl⟩ := ge i r hi
      obtain ⟨r', h2, h3⟩ := hx i z h1
      obtain ⟨y, h4, h5⟩ := h3 j x hj
      exact h5 _ _ _ (h i _ j _ h2 h4)
theorem decRows_ok {α : Type} {s : Nat} {f : List AV → Option α} {q : α → List AV} (hf : RowOk f q) (hq : ∀ x, (q x).length = s) (d : α) {x : AV} {L : List α} (h : decRows s f x = some L) : Sub x (.fl s L.length fun i => q (L.getD i d)) := by
  intro w M u hv
  unfold decRows at h
  split at h
  · cases h
    cases hv
    exact .fl _ _ _ _ (.sl0 _ _ _)
  · rename_i s' rows
    cases hs : Nat.beq s' s with
    | false => rw [hs] at h; cases h
    | true =>
      rw [hs, cond_true] at h
      obtain rfl := Nat.eq_of_beq_eq_true hs
      obtain ⟨h1, h2⟩ := mapO_ok h
      exact RV.rowsS hq h1 (fun i x hi => by
        obtain ⟨r, hr, hd⟩ := h2 i x hi
        exact ⟨r, hr, hf r x hd⟩) hv
  · rename_i s' n r
    cases hs : Nat.beq s' s with
    | false => rw [hs] at h; cases h
    | true =>
      rw [hs, cond_true] at h
      obtain rfl := Nat.eq_of_beq_eq_true hs
      obtain ⟨h1, h2⟩ := mapO_ok h
      cases hv with
      | fl _ _ _ _ hv =>
        refine RV.rowsS hq (by simpa using h1) (fun i x hi => ?_) hv
        obtain ⟨k, hk, hd⟩ := h2 i x hi
        obtain ⟨hlt, hk2⟩ := List.getElem?_eq_some_iff.1 hk
        have : k = i := by simpa using hk2.symm
        subst this
        exact ⟨r k, by rw [List.getElem?_map, hk]; rfl, hf _ _ hd⟩
  · cases h
def decI : AV → Option Int
  | .int .i64 n => some n
  | _ => none
theorem decI_ok {x : AV} {n : Int} (h : decI x = some n) : x = I n := by
  unfold decI at h
  split at h
  · cases h; rfl
  · cases h
def row1 {α : Type} (f : AV → Option α) : List AV → Option α
  | [x] => f x
  | _ => none
theorem row1_ok {α : Type} {f : AV → Option α} {q : α → AV} (hf : ∀ x y, f x = some y → Sub x (q y)) : RowOk (row1 f) fun x => [q x] := by
  intro r x h j y' hj
  unfold row1 at h
  split at h
  · match j, hj with
    | 0, hj => cases hj; exact ⟨_, rfl, hf _ _ h⟩
    | j + 1, hj => simp at hj
  · cases h
def decL : AV → Option (List Int) := decRows 1 (row1 decI)
theorem decL_ok {x : AV} {L : List Int} (h : decL x = some L) : Sub x (flL L) := decRows_ok (row1_ok (q := I) fun _ _ h => by rw [decI_ok h]; exact sub_refl _) (fun _ => rfl) 0 h
def decLL : AV → Option (List (List Int)) := decRows 1 (row1 decL)
theorem decLL_ok {x : AV} {L : List (List Int)} (h : decLL x = some L) : Sub x (flLL L) := decRows_ok (row1_ok (q := flL) fun _ _ h => decL_ok h) (fun _ => rfl) [] h
def decRl : List AV → Option Rl
  | [a, b, c, d] => match decI a, decL b, decLL c, decI d with
    | some d, some v, some w, some m => some ⟨d, v, w, m⟩
    | _, _, _, _ => none
  | _ => none
theorem decRl_ok : RowOk decRl rlC := by
  intro r x h j y' hj
  unfold decRl at h
  split at h
  · split at h
    · rename_i h1 h2 h3 h4
      cases h
      match j, hj with
      | 0, hj => cases hj; exact ⟨_, rfl, by rw [decI_ok h1]; exact sub_refl _⟩
      | 1, hj => cases hj; exact ⟨_, rfl, decL_ok h2⟩
      | 2, hj => cases hj; exact ⟨_, rfl, decLL_ok h3⟩
      | 3, hj => cases hj; exact ⟨_, rfl, by rw [decI_ok h4]; exact sub_refl _⟩
      | j + 4, hj => simp [rlC] at hj
    · cases h
  · cases h
def decRs : AV → Option (List Rl) := decRows 4 decRl
theorem decRs_ok {x : AV} {L : List Rl} (h : decRs x = some L) : Sub x (flR L) := decRows_ok decRl_ok (fun _ => rfl) r0 h
def decP : AV → Option Pb
  | .agg [a, b, c] => match decL a, decLL b, decRs c with
    | some V, some C, some R => some ⟨V, C, R⟩
    | _, _, _ => none
  | _ => none
theorem decP_ok {x : AV} {p : Pb} (h : decP x = some p) : Sub x (pAV p) := by
  unfold decP at h
  split at h
  · split at h
    · rename_i a b c _ _ _ V C R h1 h2 h3
      cases h
      intro w M u hu
      cases hu with
      | agg vs _ h4 h5 => exact .agg vs _ (by simpa [pbC] using h4) fun j y hj => (by
          match j, hj with
          | 0, hj => cases hj; exact decL_ok h1 _ _ _ (h5 0 a rfl)
          | 1, hj => cases hj; exact decLL_ok h2 _ _ _ (h5 1 b rfl)
          | 2, hj => cases hj; exact decRs_ok h3 _ _ _ (h5 2 c rfl)
          | j + 3, hj => simp [pbC] at hj)
    · cases h
  · cases h
def shB {α : Type} (L : List α) : Bool := Nat.blt L.length 4611686018427387904
theorem shB_ok {α : Type} {L : List α} (h : shB L = true) : sh L := by
  unfold shB Nat.blt at h
  exact Nat.le_of_ble_eq_true h
def shRl (x : Rl) : Bool := shB x.v && (shB x.w && x.w.all shB)
def shPb (p : Pb) : Bool := shB p.V && (shB p.C && (p.C.all shB && (shB p.R && p.R.all shRl)))
theorem shRl_ok {x : Rl} (h : shRl x = true) : x.sh := by
  unfold shRl at h
  rw [Bool.and_eq_true, Bool.and_eq_true, List.all_eq_true] at h
  exact ⟨shB_ok h.1, shB_ok h.2.1, fun l hl => shB_ok (h.2.2 l hl)⟩
theorem shPb_ok {p : Pb} (h : shPb p = true) : p.sh := by
  unfold shPb at h
  rw [Bool.and_eq_true, Bool.and_eq_true, Bool.and_eq_true, Bool.and_eq_true, List.all_eq_true, List.all_eq_true] at h
  exact ⟨shB_ok h.1, shB_ok h.2.1, fun l hl => shB_ok (h.2.2.1 l hl), shB_ok h.2.2.2.1, fun x hx => shRl_ok (h.2.2.2.2 x hx)⟩
def getP (x : AV) (k : Pb → AV) : Option (Tree AV) := match decP x with
  | some p => bif shPb p then some (.leaf (k p)) else none
  | none => none
theorem getP_ok {x : AV} {k : Pb → AV} {t : Tree AV} (h : getP x k = some t) : ∃ p, Sub x (pAV p) ∧ p.sh ∧ t = .leaf (k p) := by
  unfold getP at h
  split at h
  · rename_i p hp
    cases hs : shPb p with
    | false => rw [hs] at h; cases h
    | true =>
      rw [hs, cond_true] at h
      cases h
      exact ⟨p, decP_ok hp, shPb_ok hs, rfl⟩
  · cases h
def getPL (x y : AV) (k : Pb → List Int → AV) : Option (Tree AV) := match decL y with
  | some a => bif shB a then getP x fun p => k p a else none
  | none => none
theorem getPL_ok {x y : AV} {k : Pb → List Int → AV} {t : Tree AV} (h : getPL x y k = some t) : ∃ p a, Sub x (pAV p) ∧ Sub y (flL a) ∧ p.sh ∧ sh a ∧ t = .leaf (k p a) := by
  unfold getPL at h
  split at h
  · rename_i a ha
    cases hs : shB a with
    | false => rw [hs] at h; cases h
    | true =>
      rw [hs, cond_true] at h
      obtain ⟨p, h1, h2, h3⟩ := getP_ok h
      exact ⟨p, a, h1, decL_ok ha, h2, shB_ok hs, h3⟩
  · cases h
def firstR (p : Pb) : AV := bif validP p then resF (refF p) else .tup [flL [], I 1]
/-- The contracts. -/
def clC : FuncId → List AV → Option (Tree AV) := fun f xs => match f with
  | 24 => match xs with
    | [x, y] => getPL x y brkR
    | _ => none
  | 25 => match xs with
    | [x, y] => getPL x y costR
    | _ => none
  | 21 => match xs with
    | [x] => getP x fun p => solveR p (bif validP p then refW p [] else none)
    | _ => none
  | 22 => match xs with
    | [x] => getP x firstR
    | _ => none
  | 28 => match xs with
    | [x] => getP x fun p => .bool (validP p)
    | _ => none
  | 23 => match xs with
    | [x, y] => match decL x, decL y with
      | some a, some b => bif shB a then some (.leaf (.bool (a == b))) else none
      | _, _ => none
    | _ => none
  | 13 => match xs with
    | [x, y] => getPL x y fun p a => leastR p a (bif validP p && begB p a then refW p a else none)
    | _ => none
  | 16 => match xs with
    | [x, .int .i64 m] => getP x fun p => countR p m (bif validP p && inB m 0 1000000 then refN p m else 0)
    | _ => none
  | 31 => match xs with
    | [x, y] => getPL x y fun p a => pAV (onlyP p a)
    | _ => none
  | 30 => match xs with
    | [x, y] => match decP y with
      | some q => getP x fun p => .bool (decide (p = q))
      | none => none
    | _ => none
  | _ => none
theorem solveR_ref (p : Pb) : solveR p (bif validP p then refW p [] else none) = solveR p (bestW p []) := by
  unfold solveR
  cases hv : validP p with
  | false => rfl
  | true => rw [cond_true, best_ref (valid_iff.1 hv) (beg_nil p)]; rfl
theorem leastR_ref (p : Pb) (a : List Int) : leastR p a (bif validP p && begB p a then refW p a else none) = leastR p a (bestW p a) := by
  unfold leastR
  cases hv : validP p with
  | false => rfl
  | true =>
    cases hb : begB p a with
    | false => rfl
    | true => rw [Bool.and_true, cond_true, best_ref (valid_iff.1 hv) (beg_iff.1 hb)]; rfl
theorem countR_ref (p : Pb) (m : Int) : countR p m (bif validP p && inB m 0 1000000 then refN p m else 0) = countR p m (countW p m) := by
  unfold countR
  cases hv : validP p with
  | false => rfl
  | true =>
    cases hm : inB m 0 1000000 with
    | false => rfl
    | true => rw [Bool.and_true, cond_true, count_ref (valid_iff.1 hv) (inB_iff.1 hm).1]; rfl
theorem firstR_ref (p : Pb) : firstR p = bif validP p then resF (firstW p) else .tup [flL [], I 1] := by
  unfold firstR
  cases hv : validP p with
  | false => rfl
  | true => rw [cond_true, first_ref (valid_iff.1 hv)]; rfl
theorem clC_ok {f : FuncId} {xs : List AV} {t : Tree AV} {v : AV} (hq : clC f xs = some t) (hs : t.sel = some v) (σ : Heap) : ACall Try.prog G0 f xs σ v σ := by
  unfold clC at hq
  split at hq
  · split at hq <;> first | (cases hq; done) | skip
    obtain ⟨p, a, h1, h2, h3, h4, rfl⟩ := getPL_ok hq
    cases hs
    exact (c24 h3 h4 σ).arg2 h1 h2
  · split at hq <;> first | (cases hq; done) | skip
    obtain ⟨p, a, h1, h2, h3, h4, rfl⟩ := getPL_ok hq
    cases hs
    exact (c25 h3 h4 σ).arg2 h1 h2
  · split at hq <;> first | (cases hq; done) | skip
    obtain ⟨p, h1, h3, rfl⟩ := getP_ok hq
    cases hs
    rw [solveR_ref]
    exact (c21 h3 σ).arg1 h1
  · split at hq <;> first | (cases hq; done) | skip
    obtain ⟨p, h1, h3, rfl⟩ := getP_ok hq
    cases hs
    rw [firstR_ref]
    exact (c22 h3 σ).arg1 h1
  · split at hq <;> first | (cases hq; done) | skip
    obtain ⟨p, h1, h3, rfl⟩ := getP_ok hq
    cases hs
    exact (c28 h3 σ).arg1 h1
  · split at hq <;> first | (cases hq; done) | skip
    split at hq <;> first | (cases hq; done) | skip
    rename_i a b ha hb
    cases hsh : shB a with
    | false => rw [hsh] at hq; cases hq
    | true =>
      rw [hsh] at hq
      cases hq
      cases hs
      exact (c23 (shB_ok hsh) σ).arg2 (decL_ok ha) (decL_ok hb)
  · split at hq <;> first | (cases hq; done) | skip
    obtain ⟨p, a, h1, h2, h3, h4, rfl⟩ := getPL_ok hq
    cases hs
    rw [leastR_ref]
    exact (c13 h3 h4 σ).arg2 h1 h2
  · split at hq <;> first | (cases hq; done) | skip
    obtain ⟨p, h1, h3, rfl⟩ := getP_ok hq
    cases hs
    rw [countR_ref]
    exact (c16 h3 _ σ).arg2 h1 (sub_refl _)
  · split at hq <;> first | (cases hq; done) | skip
    obtain ⟨p, a, h1, h2, h3, h4, rfl⟩ := getPL_ok hq
    cases hs
    exact (c31 h3 h4 σ).arg2 h1 h2
  · split at hq <;> first | (cases hq; done) | skip
    split at hq <;> first | (cases hq; done) | skip
    rename_i q hp
    obtain ⟨p, h1, h3, rfl⟩ := getP_ok hq
    cases hs
    exact (c30 h3 σ).arg2 h1 (decP_ok hp)
  · cases hq
def EC : Env := { closed := true, clh := failH, cl := clC }
theorem clokC : ClOk Try.prog G0 EC := .all .none failH_ok (fun l xs σ t v σ' h => (by cases h)) fun f xs t v h hs σ => clC_ok h hs σ
end Go.Proofs.Ytngaihdpmoajeaa.Am

namespace Go.Proofs.Ytngaihdpmoajeaa.Am
open Go
set_option maxRecDepth 100000

def EC2 : Env := { cl := clC }
theorem clokC2 : ClOk Try.prog G0 EC2 := .of rfl rfl fun f xs t v h hs σ => clC_ok h hs σ
theorem run12 : (xCall Try.prog G0 EC2 200 12 [] [] []).sel.map (fun r => r.1) = some (.bool true) := by kernel_rfl
/-- THE EXAMPLES COME OUT. -/
theorem c12 (h : Heap) : ACall Try.prog G0 12 [] h (.bool true) h := by
  obtain ⟨⟨v, s, h'⟩, h1, h2⟩ := Option.map_eq_some_iff.1 run12
  obtain rfl : v = .bool true := h2
  exact (xCall_ok names mixed clokC2 h1).lift0 (.bool _) gbelow0 nofun h
end Go.Proofs.Ytngaihdpmoajeaa.Am

namespace Go.Proofs.Ytngaihdpmoajeaa.Am
open Go
set_option maxRecDepth 100000

/-! ### Numbers in a row -/
def rng : Nat → Int → List Int
  | 0, _ => []
  | n + 1, k => k :: rng n (k + 1)
theorem rng_mem {x : Int} : ∀ {n : Nat} {k : Int}, x ∈ rng n k ↔ k ≤ x ∧ x < k + n
  | 0, k => by simp only [rng, List.not_mem_nil, false_iff]; omega
  | n + 1, k => by
    simp only [rng, List.mem_cons, rng_mem (n := n) (k := k + 1)]
    omega
theorem rng_snoc : ∀ (n : Nat) (k : Int), rng (n + 1) k = rng n k ++ [k + n]
  | 0, k => by simp [rng]
  | n + 1, k => by
    show k :: rng (n + 1) (k + 1) = k :: rng n (k + 1) ++ [k + ((n + 1 : Nat) : Int)]
    rw [rng_snoc n (k + 1), List.cons_append]
    congr 3
    omega
theorem rng_len : ∀ (n : Nat) (k : Int), (rng n k).length = n
  | 0, _ => rfl
  | n + 1, k => congrArg (· + 1) (rng_len n (k + 1))
/-! ### All assignments that begin so -/
def allL (p : Pb) : Nat → List Int → List (List Int)
  | 0, a => [a]
  | d + 1, a => (rng (p.V.getD a.length 0).toNat 0).flatMap fun k => allL p d (a ++ [k])
theorem allL_len (p : Pb) : ∀ (d : Nat) {a x : List Int}, x ∈ allL p d a → x.length = a.length + d
  | 0, a, x, h => by rw [List.mem_singleton.1 h]; rfl
  | d + 1, a, x, h => by
    obtain ⟨k, _, h⟩ := List.mem_flatMap.1 h
    rw [allL_len p d h, List.length_append, List.length_singleton]
    omega
theorem allL_pre (p : Pb) : ∀ (d : Nat) {a x : List Int}, x ∈ allL p d a → ∃ s, x = a ++ s
  | 0, a, x, h => ⟨[], by rw [List.mem_singleton.1 h, List.append_nil]⟩
  | d + 1, a, x, h => by
    obtain ⟨k, _, h⟩ := List.mem_flatMap.1 h
    obtain ⟨s, rfl⟩ := allL_pre p d h
    exact ⟨[k] ++ s, by rw [List.append_assoc]⟩
theorem allL_beg {p : Pb} : ∀ (d : Nat) {a x : List Int}, Beg p a → a.length + d ≤ p.V.length → x ∈ allL p d a → Beg p x
  | 0, a, x, ha, _, h => by rw [List.mem_singleton.1 h]; exact ha
  | d + 1, a, x, ha, hl, h => by
    obtain ⟨k, hk, h⟩ := List.mem_flatMap.1 h
    have := rng_mem.1 hk
    exact allL_beg d (beg_app ha (by omega) (by omega) (by omega)) (by rw [List.length_append, List.length_singleton]; omega) h
theorem allL_mem {p : Pb} : ∀ (d : Nat) {a s : List Int}, s.length = d → Beg p (a ++ s) → a ++ s ∈ allL p d a
  | 0, a, s, hs, _ => by rw [List.length_eq_zero_iff.1 hs, List.append_nil]; exact List.mem_singleton.2 rfl
  | d + 1, a, s, hs, hb => by
    match s, hs with
    | k :: s, hs =>
      have e : a ++ k :: s = (a ++ [k]) ++ s := by simp
      have h := hb.at' a.length (by simp)
      have hk : (a ++ k :: s).getD a.length 0 = k := by simp
      rw [hk] at h
      rw [e] at hb ⊢
      exact List.mem_flatMap.2 ⟨k, rng_mem.2 (by omega), allL_mem d (by simpa using hs) hb⟩
/-! ### Solutions -/
def solL (p : Pb) (d : Nat) (a : List Int) : List (List Int) := (allL p d a).filter fun x => posB p x false
theorem getD_pre {α : Type} {u s : List α} {i : Nat} {d : α} (h : i < u.length) : (u ++ s).getD i d = u.getD i d := by
  rw [List.getD_eq_getElem?_getD, List.getElem?_append_left h, ← List.getD_eq_getElem?_getD]
theorem least_mono {p : Pb} {x : Rl} (hx : OkRule p.V x) {a s : List Int} (hb : Beg p (a ++ s)) : leastA x a ≤ leastA x (a ++ s) := sumK_le fun i hi => by
  have hv := hx.v i hi
  unfold leastT
  by_cases h1 : x.v.getD i 0 < a.length
  · rw [dT h1, dT (by rw [List.length_append]; omega), cond_true, cond_true, getD_pre (by omega)]
    exact Int.le_refl _
  · rw [dF h1, cond_false]
    by_cases h2 : x.v.getD i 0 < (a ++ s).length
    · rw [dT h2, cond_true]
      refine minL_le ?_
      have := hb.at' (x.v.getD i 0).toNat (by omega)
      have := hx.wl i hi
      omega
    · rw [dF h2, cond_false]
      exact Int.le_refl _
theorem opn_pre {p : Pb} (hp : Ok p) {a s : List Int} (hb : Beg p (a ++ s)) (ho : Opn p (a ++ s)) : Opn p a := fun j hj => by
  have := least_mono (rule_getD hp j) hb
  have := ho j hj
  omega
theorem sol_none {p : Pb} (hp : Ok p) {d : Nat} {a : List Int} (ha : Beg p a) (hl : a.length + d ≤ p.V.length) (hn : ¬ Opn p a) : solL p d a = [] := by
  unfold solL
  rw [List.filter_eq_nil_iff]
  intro x hx hpos
  obtain ⟨s, rfl⟩ := allL_pre p d hx
  exact hn (opn_pre hp (allL_beg d ha hl hx) ((pos_opn p _).1 hpos))
theorem flatMap_congr' {α β : Type} {f g : α → List β} : ∀ {l : List α}, (∀ x ∈ l, f x = g x) → l.flatMap f = l.flatMap g
  | [], _ => rfl
  | x :: r, h => by
    rw [List.flatMap_cons, List.flatMap_cons, h x (by simp), flatMap_congr' fun y hy => h y (by simp [hy])]
/-- The solutions, value by value. -/
theorem sol_succ {p : Pb} (hp : Ok p) {d : Nat} {a : List Int} (ha : Beg p a) (hl : a.length + (d + 1) ≤ p.V.length) (ho : Opn p a) :
    solL p (d + 1) a = (rng (p.V.getD a.length 0).toNat 0).flatMap fun k => bif posB p (a ++ [k]) true then solL p d (a ++ [k]) else [] := by
  unfold solL
  show ((rng (p.V.getD a.length 0).toNat 0).flatMap fun k => allL p d (a ++ [k])).filter _ = _
  rw [List.filter_flatMap]
  refine flatMap_congr' fun k hk => ?_
  have := rng_mem.1 hk
  cases hq : posB p (a ++ [k]) true with
  | true => rfl
  | false =>
    refine sol_none hp (beg_app ha (by omega) (by omega) (by omega)) (by rw [List.length_append, List.length_singleton]; omega) fun h => ?_
    rw [(pos_app hp ho).2 h] at hq
    cases hq
theorem sol_zero {p : Pb} {a : List Int} (ho : Opn p a) : solL p 0 a = [a] := by
  unfold solL allL
  rw [List.filter_cons, if_pos ((pos_opn p a).2 ho)]
  rfl
/-! ### First -/
theorem fst_flat {α : Type} {g : Int → Option α} {F : Int → List α} : ∀ (n : Nat) (k : Int), (∀ j, k ≤ j → j < k + n → g j = (F j).head?) → fstL g n k = ((rng n k).flatMap F).head?
  | 0, k, _ => rfl
  | n + 1, k, h => by
    unfold fstL rng
    rw [h k (by omega) (by omega), List.flatMap_cons]
    have ih := fst_flat n (k + 1) fun j h1 h2 => h j (by omega) (by omega)
    cases hf : F k with
    | nil => rw [List.nil_append]; exact ih
    | cons y r => rfl
theorem frW_sol {p : Pb} (hp : Ok p) : ∀ (d : Nat) {a : List Int}, Beg p a → a.length + d = p.V.length → Opn p a → frW p d a = (solL p d a).head?
  | 0, a, _, _, ho => by rw [sol_zero ho]; rfl
  | d + 1, a, ha, hl, ho => by
    rw [sol_succ hp ha (by omega) ho]
    unfold frW
    refine fst_flat _ _ fun j h1 h2 => ?_
    cases hq : posB p (a ++ [j]) true with
    | true =>
      exact frW_sol hp d (beg_app ha (by omega) (by omega) (by omega)) (by rw [List.length_append, List.length_singleton]; omega) ((pos_app hp ho).1 hq)
    | false => rfl
/-! ### How many -/
theorem sum_flat {α : Type} {f : Nat → Int} {F : Int → List α} : ∀ n : Nat, (∀ j : Nat, j < n → f j = ((F j).length : Int)) → sumK f n = (((rng n 0).flatMap F).length : Int)
  | 0, _ => rfl
  | n + 1, h => by
    rw [rng_snoc, List.flatMap_append, List.length_append, List.flatMap_singleton]
    unfold sumK
    rw [sum_flat n fun j hj => h j (by omega), h n (by omega), Int.zero_add]
    omega
theorem cntN_sol {p : Pb} (hp : Ok p) : ∀ (d : Nat) {a : List Int}, Beg p a → a.length + d = p.V.length → Opn p a → cntN p d a = ((solL p d a).length : Int)
  | 0, a, _, _, ho => by rw [sol_zero ho]; rfl
  | d + 1, a, ha, hl, ho => by
    rw [sol_succ hp ha (by omega) ho]
    unfold cntN
    refine sum_flat _ fun j hj => ?_
    cases hq : posB p (a ++ [(j : Int)]) true with
    | true =>
      exact cntN_sol hp d (beg_app ha (by omega) (by omega) (by omega)) (by rw [List.length_append, List.length_singleton]; omega) ((pos_app hp ho).1 hq)
    | false => rfl
/-! ### The best -/
def bstep (p : Pb) (b : Option (List Int)) (x : List Int) : Option (List Int) := bif btr p (costA p x) b then some x else b
theorem run_flat {α β : Type} {g : Int → β → β} {F : Int → List α} {st : β → α → β} (b : β) : ∀ n : Nat, (∀ (j : Nat) (c : β), j < n → g j c = (F j).foldl st c) → runK g b n = ((rng n 0).flatMap F).foldl st b
  | 0, _ => rfl
  | n + 1, h => by
    rw [rng_snoc, List.flatMap_append, List.foldl_append, List.flatMap_singleton]
    unfold runK
    rw [run_flat b n fun j c hj => h j c (by omega), h n _ (by omega), Int.zero_add]
theorem bound_app {p : Pb} (hp : Ok p) {a : List Int} (hl : a.length < p.V.length) {x : Int} (h0 : 0 ≤ x) (hx : x < p.V.getD a.length 0) : boundA p a ≤ boundA p (a ++ [x]) := by
  unfold boundA restA
  rw [cost_app, List.length_append, List.length_singleton]
  obtain ⟨n, hn⟩ : ∃ n, p.V.length - a.length = n + 1 := ⟨p.V.length - a.length - 1, by omega⟩
  have hn' : p.V.length - (a.length + 1) = n := by omega
  rw [hn, hn', sumK_front]
  have e : sumK (fun i => restT p a.length (i + 1)) n = sumK (restT p (a.length + 1)) n := sumK_congr fun i _ => by
    unfold restT
    rw [show a.length + (i + 1) = a.length + 1 + i by omega]
  rw [e]
  have : restT p a.length 0 ≤ (p.C.getD a.length []).getD x.toNat 0 := by
    unfold restT
    rw [Nat.add_zero]
    exact minL_le (by have := hp.cl a.length hl; omega)
  omega
theorem bound_sol {p : Pb} (hp : Ok p) : ∀ (d : Nat) {a x : List Int}, Beg p a → a.length + d = p.V.length → x ∈ allL p d a → boundA p a ≤ costA p x
  | 0, a, x, ha, hl, h => by rw [List.mem_singleton.1 h, ← bound_full hl]; exact Int.le_refl _
  | d + 1, a, x, ha, hl, h => by
    obtain ⟨k, hk, h⟩ := List.mem_flatMap.1 h
    have := rng_mem.1 hk
    have h1 := bound_app hp (a := a) (by omega) (x := k) (by omega) (by omega)
    have h2 := bound_sol hp d (beg_app ha (by omega) (by omega) (by omega)) (by rw [List.length_append, List.length_singleton]; omega) h
    omega
theorem fold_keep {p : Pb} : ∀ {l : List (List Int)} {b : Option (List Int)}, (∀ x ∈ l, btr p (costA p x) b = false) → l.foldl (bstep p) b = b
  | [], b, _ => rfl
  | x :: r, b, h => by
    rw [List.foldl_cons]
    have : bstep p b x = b := by unfold bstep; rw [h x (by simp)]; rfl
    rw [this]
    exact fold_keep fun y hy => h y (by simp [hy])
theorem btr_mono {p : Pb} {c e : Int} (h : c ≤ e) {b : Option (List Int)} (hb : btr p c b = false) : btr p e b = false := by
  unfold btr at hb ⊢
  rw [Bool.or_eq_false_iff, decide_eq_false_iff_not] at hb ⊢
  exact ⟨hb.1, by omega⟩
theorem betW_sol {p : Pb} (hp : Ok p) : ∀ (d : Nat) {a : List Int} (b : Option (List Int)), Beg p a → a.length + d = p.V.length → Opn p a → betW p d a b = (solL p d a).foldl (bstep p) b
  | 0, a, b, _, _, ho => by rw [sol_zero ho]; rfl
  | d + 1, a, b, ha, hl, ho => by
    rw [sol_succ hp ha (by omega) ho]
    unfold betW
    refine run_flat b _ fun j c hj => ?_
    have hb := beg_app ha (by omega) (x := (j : Int)) (by omega) (by omega)
    have hl' : (a ++ [(j : Int)]).length + d = p.V.length := by rw [List.length_append, List.length_singleton]; omega
    cases hq : posB p (a ++ [(j : Int)]) true with
    | true =>
      have ih := betW_sol hp d c hb hl' ((pos_app hp ho).1 hq)
      rw [cond_true, cond_true]
      cases ht : btr p (boundA p (a ++ [(j : Int)])) c with
      | true => exact ih
      | false =>
        refine (fold_keep fun x hx => ?_).symm
        exact btr_mono (bound_sol hp d hb hl' (List.mem_filter.1 hx).1) ht
    | false => rfl
/-! ### What the functions find -/
theorem refW_sol {p : Pb} (hp : Ok p) {a : List Int} (ha : Beg p a) : refW p a = (solL p (p.V.length - a.length) a).foldl (bstep p) none := by
  have hl := ha.len
  unfold refW
  cases hq : posB p a false with
  | true => exact betW_sol hp _ none ha (by omega) ((pos_opn p a).1 hq)
  | false =>
    rw [sol_none hp ha (by omega) fun h => by rw [(pos_opn p a).2 h] at hq; cases hq]
    rfl
theorem refF_sol {p : Pb} (hp : Ok p) : refF p = (solL p p.V.length []).head? := by
  unfold refF
  cases hq : posB p [] false with
  | true => exact frW_sol hp _ (beg_nil p) (by simp) ((pos_opn p []).1 hq)
  | false =>
    rw [sol_none hp (beg_nil p) (by simp) fun h => by rw [(pos_opn p []).2 h] at hq; cases hq]
    rfl
theorem refN_sol {p : Pb} (hp : Ok p) {m : Int} (hm : 0 ≤ m) : refN p m = minI ((solL p p.V.length []).length : Int) m := by
  rw [← count_ref hp hm, count_eq hp hm]
  cases hq : posB p [] false with
  | true => rw [cntN_sol hp _ (beg_nil p) (by simp) ((pos_opn p []).1 hq)]; rfl
  | false =>
    rw [sol_none hp (beg_nil p) (by simp) fun h => by rw [(pos_opn p []).2 h] at hq; cases hq]
    show (0 : Int) = minI 0 m
    unfold minI
    rw [if_pos hm]
theorem fold_mem {p : Pb} : ∀ {l : List (List Int)} {b : Option (List Int)} {x : List Int}, l.foldl (bstep p) b = some x → x ∈ l ∨ b = some x
  | [], b, x, h => .inr h
  | y :: r, b, x, h => by
    rcases fold_mem (l := r) h with h | h
    · exact .inl (by simp [h])
    · unfold bstep at h
      cases hc : btr p (costA p y) b with
      | true => rw [hc] at h; cases h; exact .inl (by simp)
      | false => rw [hc] at h; exact .inr h
theorem refW_beg {p : Pb} (hp : Ok p) {a x : List Int} (ha : Beg p a) (h : refW p a = some x) : Beg p x ∧ x.length = p.V.length := by
  have hl := ha.len
  rw [refW_sol hp ha] at h
  rcases fold_mem h with h | h
  · have h := (List.mem_filter.1 h).1
    exact ⟨allL_beg _ ha (by omega) h, by rw [allL_len p _ h]; omega⟩
  · cases h
theorem refF_beg {p : Pb} (hp : Ok p) {x : List Int} (h : refF p = some x) : Beg p x ∧ x.length = p.V.length := by
  rw [refF_sol hp] at h
  have h := List.mem_of_mem_head? h
  have h := (List.mem_filter.1 h).1
  exact ⟨allL_beg _ (beg_nil p) (by simp) h, by rw [allL_len p _ h]; simp⟩
end Go.Proofs.Ytngaihdpmoajeaa.Am

namespace Go.Proofs.Ytngaihdpmoajeaa.Am
open Go
set_option maxRecDepth 100000

/-! ### Calls that are known where a condition on their arguments holds -/
def clK : List (FuncId × (List AV → Prop) × (List AV → AV)) → FuncId → List AV → Option (Tree AV)
  | [], _, _ => none
  | (g, P, v) :: r, f, xs => if f = g then some (.need (P xs) (.leaf (v xs))) else clK r f xs
theorem clK_ok {l : List (FuncId × (List AV → Prop) × (List AV → AV))} (hl : ∀ p ∈ l, ∀ xs, p.2.1 xs → ∀ σ, ACall Try.prog G0 p.1 xs σ (p.2.2 xs) σ) : ∀ f xs t v, clK l f xs = some t → t.sel = some v → ∀ σ, ACall Try.prog G0 f xs σ v σ := by
  induction l with
  | nil => intro f xs t v hq; cases hq
  | cons p r ih =>
    intro f xs t v hq hs σ
    obtain ⟨g, P, u⟩ := p
    unfold clK at hq
    by_cases h : f = g
    · rw [if_pos h] at hq
      cases hq
      obtain ⟨h1, h2⟩ := Tree.of_need hs
      cases h2
      subst h
      exact hl (f, P, u) (List.mem_cons_self ..) xs h1 σ
    · rw [if_neg h] at hq
      exact ih (fun p hp => hl p (by simp [hp])) f xs t v hq hs σ
def EN (l : List (FuncId × (List AV → Prop) × (List AV → AV))) (H : Heap → Oper → (Operand → Option AV) → Option (AV × Bool × Heap × Prop)) : Env := { boxRow := false, clh := failH, cl := clK l, hint := H }
theorem clokN {l : List (FuncId × (List AV → Prop) × (List AV → AV))} {H : Heap → Oper → (Operand → Option AV) → Option (AV × Bool × Heap × Prop)} (hl : ∀ p ∈ l, ∀ xs, p.2.1 xs → ∀ σ, ACall Try.prog G0 p.1 xs σ (p.2.2 xs) σ) (hH : HintOk Try.prog G0 H) : ClOk Try.prog G0 (EN l H) :=
  .all hH failH_ok (fun l xs σ t v σ' h => (by cases h)) fun f xs t v h hs σ => clK_ok hl f xs t v h hs σ
def is1 (a : List AV) (v : AV) : (List AV → Prop) × (List AV → AV) := (fun xs => xs = a, fun _ => v)
def is2 (a b : List AV) (v : AV) : (List AV → Prop) × (List AV → AV) := (fun xs => xs = a ∨ xs = b, fun _ => v)
/-- The calls of SearchSolves. -/
def k7 (p o : Pb) (a b : AV) (s : Bool) (c e g : Int) : List (FuncId × (List AV → Prop) × (List AV → AV)) :=
  [(10, is2 [pAV p] [pAV o] (pAV o)), (11, is1 [pAV o] (.bool s)), (12, is1 [] (.bool true)), (21, is1 [pAV o] (.tup [a, I c, I e])), (33, is1 [pAV o] (.tup [a, I c, I e])),
   (22, is1 [pAV o] (.tup [b, I g])), (34, is1 [pAV o] (.tup [b, I g])), (23, is2 [a, a] [b, b] (.bool true)), (30, is1 [pAV o, pAV o] (.bool true))]
def H7 : Heap → Oper → (Operand → Option AV) → Option (AV × Bool × Heap × Prop) := orH (hStA 26 0) (hStA 26 1)
/-- The first m of a list, told at one statement. -/
def hSlAt (t : Nat) (L : List Int) (m : Nat) : Heap → Oper → (Operand → Option AV) → Option (AV × Bool × Heap × Prop) := fun h o ρ => match o.op with
  | .slice 22 x none (some (.tmp t')) none => bif Nat.beq t' t then some (flL (L.take m), true, h, ρ x = some (flL L) ∧ ρ (.tmp t') = some (I m) ∧ m ≤ L.length) else none
  | _ => none
theorem hSlAt_ok (t : Nat) (L : List Int) (m : Nat) : HintOk Try.prog G0 (hSlAt t L m) := by
  have key : ∀ (h : Heap) (o : Oper) (ρ : Operand → Option AV) (y : AV) (s : Bool) (h' : Heap) (p : Prop), hSlAt t L m h o ρ = some (y, s, h', p) → hSlc L m h o ρ = some (y, s, h', p) := by
    intro h o ρ y s h' p hh
    unfold hSlAt at hh
    split at hh
    · rename_i x t' ho
      cases hb : Nat.beq t' t with
      | true => rw [hb, cond_true] at hh; unfold hSlc; rw [ho]; exact hh
      | false => rw [hb] at hh; cases hh
    · cases hh
  exact ⟨fun h o a mk y s h' p hh => (hSlc_ok L m).step _ _ _ mk _ _ _ _ (key _ _ _ _ _ _ _ hh), fun h o ρ y s h' p hh => (hSlc_ok L m).quiet _ _ _ _ _ _ _ (key _ _ _ _ _ _ _ hh)⟩
theorem run7 (p o : Pb) (a b : AV) (s : Bool) (c e g : Int) : xCall Try.prog G0 (EN (k7 p o a b s c e g) H7) 200 7 [pAV p] [true] [] = .need (([(AV.agg [(flL (p.V)), (flLL (p.C)), (flR (p.R))])] = [(AV.agg [(flL (p.V)), (flLL (p.C)), (flR (p.R))])]) ∨ ([(AV.agg [(flL (p.V)), (flLL (p.C)), (flR (p.R))])] = [(AV.agg [(flL (o.V)), (flLL (o.C)), (flR (o.R))])])) (.need (((Option.some (3 : Nat)) = (Option.some (3 : Nat))) ∧ ((true = true) ∧ ((3 : Nat) ≤ (3 : Nat)))) (.need ([(AV.agg [(flL (o.V)), (flLL (o.C)), (flR (o.R))])] = [(AV.agg [(flL (o.V)), (flLL (o.C)), (flR (o.R))])]) (.ite (!s) (.need (([] : List AV) = []) (.leaf ((AV.bool true), true, [(AObj.cells (0 : Nat) (setL [(flL (p.V)), (flLL (p.C)), (flR (p.R))] (0 : Nat) [(flL (o.V)), (flLL (o.C)), (flR (o.R))]))]))) (.need (([(AV.agg [(flL (o.V)), (flLL (o.C)), (flR (o.R))])] = [(AV.agg [(flL (p.V)), (flLL (p.C)), (flR (p.R))])]) ∨ ([(AV.agg [(flL (o.V)), (flLL (o.C)), (flR (o.R))])] = [(AV.agg [(flL (o.V)), (flLL (o.C)), (flR (o.R))])])) (.need (((Option.some (3 : Nat)) = (Option.some (3 : Nat))) ∧ ((true = true) ∧ ((3 : Nat) ≤ (3 : Nat)))) (.need ([(AV.agg [(flL (o.V)), (flLL (o.C)), (flR (o.R))])] = [(AV.agg [(flL (o.V)), (flLL (o.C)), (flR (o.R))])]) (.need ([(AV.agg [(flL (o.V)), (flLL (o.C)), (flR (o.R))])] = [(AV.agg [(flL (o.V)), (flLL (o.C)), (flR (o.R))])]) (.need ([(AV.agg [(flL (o.V)), (flLL (o.C)), (flR (o.R))])] = [(AV.agg [(flL (o.V)), (flLL (o.C)), (flR (o.R))])]) (.need ([(AV.agg [(flL (o.V)), (flLL (o.C)), (flR (o.R))])] = [(AV.agg [(flL (o.V)), (flLL (o.C)), (flR (o.R))])]) (.ite (e == e) (.ite (c == c) (.need (([a, a] = [a, a]) ∨ ([a, a] = [b, b])) (.ite (true) (.ite (g == g) (.need (([b, b] = [a, a]) ∨ ([b, b] = [b, b])) (.ite (true) (.need ([(AV.agg [(flL (o.V)), (flLL (o.C)), (flR (o.R))]), (AV.agg [(flL (o.V)), (flLL (o.C)), (flR (o.R))])] = [(AV.agg [(flL (o.V)), (flLL (o.C)), (flR (o.R))]), (AV.agg [(flL (o.V)), (flLL (o.C)), (flR (o.R))])]) (.ite (true) (.need (([] : List AV) = []) (.leaf ((AV.bool true), true, [(AObj.cells (0 : Nat) (setL [(flL (p.V)), (flLL (p.C)), (flR (p.R))] (0 : Nat) [(flL (o.V)), (flLL (o.C)), (flR (o.R))])), (AObj.cells (0 : Nat) (setL [AV.zs, AV.zs, AV.zs] (0 : Nat) [(flL (o.V)), (flLL (o.C)), (flR (o.R))]))]))) (.leaf ((AV.bool false), false, [(AObj.cells (0 : Nat) (setL [(flL (p.V)), (flLL (p.C)), (flR (p.R))] (0 : Nat) [(flL (o.V)), (flLL (o.C)), (flR (o.R))])), (AObj.cells (0 : Nat) (setL [AV.zs, AV.zs, AV.zs] (0 : Nat) [(flL (o.V)), (flLL (o.C)), (flR (o.R))]))])))) (.leaf ((AV.bool false), false, [(AObj.cells (0 : Nat) (setL [(flL (p.V)), (flLL (p.C)), (flR (p.R))] (0 : Nat) [(flL (o.V)), (flLL (o.C)), (flR (o.R))])), (AObj.cells (0 : Nat) (setL [AV.zs, AV.zs, AV.zs] (0 : Nat) [(flL (o.V)), (flLL (o.C)), (flR (o.R))]))])))) (.leaf ((AV.bool false), false, [(AObj.cells (0 : Nat) (setL [(flL (p.V)), (flLL (p.C)), (flR (p.R))] (0 : Nat) [(flL (o.V)), (flLL (o.C)), (flR (o.R))])), (AObj.cells (0 : Nat) (setL [AV.zs, AV.zs, AV.zs] (0 : Nat) [(flL (o.V)), (flLL (o.C)), (flR (o.R))]))]))) (.leaf ((AV.bool false), false, [(AObj.cells (0 : Nat) (setL [(flL (p.V)), (flLL (p.C)), (flR (p.R))] (0 : Nat) [(flL (o.V)), (flLL (o.C)), (flR (o.R))])), (AObj.cells (0 : Nat) (setL [AV.zs, AV.zs, AV.zs] (0 : Nat) [(flL (o.V)), (flLL (o.C)), (flR (o.R))]))])))) (.leaf ((AV.bool false), false, [(AObj.cells (0 : Nat) (setL [(flL (p.V)), (flLL (p.C)), (flR (p.R))] (0 : Nat) [(flL (o.V)), (flLL (o.C)), (flR (o.R))])), (AObj.cells (0 : Nat) (setL [AV.zs, AV.zs, AV.zs] (0 : Nat) [(flL (o.V)), (flLL (o.C)), (flR (o.R))]))]))) (.leaf ((AV.bool false), false, [(AObj.cells (0 : Nat) (setL [(flL (p.V)), (flLL (p.C)), (flR (p.R))] (0 : Nat) [(flL (o.V)), (flLL (o.C)), (flR (o.R))])), (AObj.cells (0 : Nat) (setL [AV.zs, AV.zs, AV.zs] (0 : Nat) [(flL (o.V)), (flLL (o.C)), (flR (o.R))]))])))))))))))) := by kernel_rfl
/-- The calls of SearchCounts. -/
def k3 (p o : Pb) (a : List Int) (m : Int) (s : Bool) (c e n g : Int) : List (FuncId × (List AV → Prop) × (List AV → AV)) :=
  [(10, is1 [pAV p] (pAV o)), (11, is1 [pAV o] (.bool s)), (12, is1 [] (.bool true)), (14, is1 [flL a] (flL a)), (13, is1 [pAV o, flL a] (.tup [I c, I e])), (15, is1 [pAV o, flL a] (.tup [I c, I e])),
   (16, is1 [pAV o, I m] (.tup [I n, I g])), (17, is1 [pAV o, I m] (.tup [I n, I g]))]
def H3 (a : List Int) : Heap → Oper → (Operand → Option AV) → Option (AV × Bool × Heap × Prop) := orH (hStA 26 0) (hSlAt 24 a (min a.length 30))
theorem run3 (p o : Pb) (a : List Int) (m : Int) (s : Bool) (c e n g : Int) : xCall Try.prog G0 (EN (k3 p o (a.take (min a.length 30)) m s c e n g) (H3 a)) 200 3 [pAV p, flL a, I m] [true, true, true] [] = .need ([(AV.agg [(flL (p.V)), (flLL (p.C)), (flR (p.R))])] = [(AV.agg [(flL (p.V)), (flLL (p.C)), (flR (p.R))])]) (.need (((Option.some (3 : Nat)) = (Option.some (3 : Nat))) ∧ ((true = true) ∧ ((3 : Nat) ≤ (3 : Nat)))) (.need ([(AV.agg [(flL (o.V)), (flLL (o.C)), (flR (o.R))])] = [(AV.agg [(flL (o.V)), (flLL (o.C)), (flR (o.R))])]) (.ite (!s) (.need (([] : List AV) = []) (.leaf ((AV.bool true), true, [(AObj.cells (0 : Nat) (setL [(flL (p.V)), (flLL (p.C)), (flR (p.R))] (0 : Nat) [(flL (o.V)), (flLL (o.C)), (flR (o.R))]))]))) (.need (((Option.some (flL (a))) = (Option.some (flL (a)))) ∧ (((Option.some (I (if (30 : Int) < (↑a.length : Int) then (30 : Int) else (↑a.length : Int)))) = (Option.some (I ((↑(min a.length (30 : Nat)) : Int))))) ∧ (min a.length (30 : Nat) ≤ a.length))) (.need ([(flL (List.take (min a.length (30 : Nat)) a))] = [(flL (List.take (min a.length (30 : Nat)) a))]) (.need ([(AV.agg [(flL (o.V)), (flLL (o.C)), (flR (o.R))]), (flL (List.take (min a.length (30 : Nat)) a))] = [(AV.agg [(flL (o.V)), (flLL (o.C)), (flR (o.R))]), (flL (List.take (min a.length (30 : Nat)) a))]) (.need ([(AV.agg [(flL (o.V)), (flLL (o.C)), (flR (o.R))]), (flL (List.take (min a.length (30 : Nat)) a))] = [(AV.agg [(flL (o.V)), (flLL (o.C)), (flR (o.R))]), (flL (List.take (min a.length (30 : Nat)) a))]) (.need ([(AV.agg [(flL (o.V)), (flLL (o.C)), (flR (o.R))]), (I m)] = [(AV.agg [(flL (o.V)), (flLL (o.C)), (flR (o.R))]), (I m)]) (.need ([(AV.agg [(flL (o.V)), (flLL (o.C)), (flR (o.R))]), (I m)] = [(AV.agg [(flL (o.V)), (flLL (o.C)), (flR (o.R))]), (I m)]) (.ite (c == c) (.ite (e == e) (.ite (n == n) (.ite (g == g) (.need (([] : List AV) = []) (.leaf ((AV.bool true), true, [(AObj.cells (0 : Nat) (setL [(flL (p.V)), (flLL (p.C)), (flR (p.R))] (0 : Nat) [(flL (o.V)), (flLL (o.C)), (flR (o.R))]))]))) (.leaf ((AV.bool false), false, [(AObj.cells (0 : Nat) (setL [(flL (p.V)), (flLL (p.C)), (flR (p.R))] (0 : Nat) [(flL (o.V)), (flLL (o.C)), (flR (o.R))]))]))) (.leaf ((AV.bool false), false, [(AObj.cells (0 : Nat) (setL [(flL (p.V)), (flLL (p.C)), (flR (p.R))] (0 : Nat) [(flL (o.V)), (flLL (o.C)), (flR (o.R))]))]))) (.leaf ((AV.bool false), false, [(AObj.cells (0 : Nat) (setL [(flL (p.V)), (flLL (p.C)), (flR (p.R))] (0 : Nat) [(flL (o.V)), (flLL (o.C)), (flR (o.R))]))]))) (.leaf ((AV.bool false), false, [(AObj.cells (0 : Nat) (setL [(flL (p.V)), (flLL (p.C)), (flR (p.R))] (0 : Nat) [(flL (o.V)), (flLL (o.C)), (flR (o.R))]))])))))))))))) := by kernel_rfl
/-- The calls of SearchChecks. -/
def k6 (p o u : Pb) (a d l : List Int) (s : Bool) (c e g : Int) : List (FuncId × (List AV → Prop) × (List AV → AV)) :=
  [(10, is2 [pAV p] [pAV o] (pAV o)), (14, fun xs => xs = [flL a] ∨ xs = [flL d], fun xs => xs.headD .zs), (24, is1 [pAV o, flL a] (.tup [flL l, I e])), (26, is1 [pAV o, flL a] (.tup [flL l, I e])), (25, is1 [pAV o, flL a] (.tup [I c, I g])), (27, is1 [pAV o, flL a] (.tup [I c, I g])),
   (23, is1 [flL l, flL l] (.bool true)), (28, is1 [pAV o] (.bool s)), (29, is1 [pAV o] (.bool s)), (31, is1 [pAV o, flL d] (pAV u)), (32, is1 [pAV o, flL d] (pAV u)), (30, is2 [pAV u, pAV u] [pAV o, pAV o] (.bool true)), (12, is1 [] (.bool true))]
def H6 (a d : List Int) : Heap → Oper → (Operand → Option AV) → Option (AV × Bool × Heap × Prop) := orH (hStA 26 0) (orH (hStA 26 1) (orH (hSlAt 23 a (min a.length 30)) (hSlAt 28 d (min d.length 20))))
theorem run6 (p o u : Pb) (a d l : List Int) (s : Bool) (c e g : Int) : xCall Try.prog G0 (EN (k6 p o u (a.take (min a.length 30)) (d.take (min d.length 20)) l s c e g) (H6 a d)) 200 6 [pAV p, flL a, flL d] [true, true, true] [] = .need (([(AV.agg [(flL (p.V)), (flLL (p.C)), (flR (p.R))])] = [(AV.agg [(flL (p.V)), (flLL (p.C)), (flR (p.R))])]) ∨ ([(AV.agg [(flL (p.V)), (flLL (p.C)), (flR (p.R))])] = [(AV.agg [(flL (o.V)), (flLL (o.C)), (flR (o.R))])])) (.need (((Option.some (3 : Nat)) = (Option.some (3 : Nat))) ∧ ((true = true) ∧ ((3 : Nat) ≤ (3 : Nat)))) (.need (([(AV.agg [(flL (o.V)), (flLL (o.C)), (flR (o.R))])] = [(AV.agg [(flL (p.V)), (flLL (p.C)), (flR (p.R))])]) ∨ ([(AV.agg [(flL (o.V)), (flLL (o.C)), (flR (o.R))])] = [(AV.agg [(flL (o.V)), (flLL (o.C)), (flR (o.R))])])) (.need (((Option.some (3 : Nat)) = (Option.some (3 : Nat))) ∧ ((true = true) ∧ ((3 : Nat) ≤ (3 : Nat)))) (.need (((Option.some (flL (a))) = (Option.some (flL (a)))) ∧ (((Option.some (I (if (30 : Int) < (↑a.length : Int) then (30 : Int) else (↑a.length : Int)))) = (Option.some (I ((↑(min a.length (30 : Nat)) : Int))))) ∧ (min a.length (30 : Nat) ≤ a.length))) (.need (((Option.some (flL (d))) = (Option.some (flL (d)))) ∧ (((Option.some (I (if (20 : Int) < (↑d.length : Int) then (20 : Int) else (↑d.length : Int)))) = (Option.some (I ((↑(min d.length (20 : Nat)) : Int))))) ∧ (min d.length (20 : Nat) ≤ d.length))) (.need (([(flL (List.take (min a.length (30 : Nat)) a))] = [(flL (List.take (min a.length (30 : Nat)) a))]) ∨ ([(flL (List.take (min a.length (30 : Nat)) a))] = [(flL (List.take (min d.length (20 : Nat)) d))])) (.need ([(AV.agg [(flL (o.V)), (flLL (o.C)), (flR (o.R))]), (flL (List.take (min a.length (30 : Nat)) a))] = [(AV.agg [(flL (o.V)), (flLL (o.C)), (flR (o.R))]), (flL (List.take (min a.length (30 : Nat)) a))]) (.need ([(AV.agg [(flL (o.V)), (flLL (o.C)), (flR (o.R))]), (flL (List.take (min a.length (30 : Nat)) a))] = [(AV.agg [(flL (o.V)), (flLL (o.C)), (flR (o.R))]), (flL (List.take (min a.length (30 : Nat)) a))]) (.need (([(flL (List.take (min a.length (30 : Nat)) a))] = [(flL (List.take (min a.length (30 : Nat)) a))]) ∨ ([(flL (List.take (min a.length (30 : Nat)) a))] = [(flL (List.take (min d.length (20 : Nat)) d))])) (.need ([(AV.agg [(flL (o.V)), (flLL (o.C)), (flR (o.R))]), (flL (List.take (min a.length (30 : Nat)) a))] = [(AV.agg [(flL (o.V)), (flLL (o.C)), (flR (o.R))]), (flL (List.take (min a.length (30 : Nat)) a))]) (.need ([(AV.agg [(flL (o.V)), (flLL (o.C)), (flR (o.R))]), (flL (List.take (min a.length (30 : Nat)) a))] = [(AV.agg [(flL (o.V)), (flLL (o.C)), (flR (o.R))]), (flL (List.take (min a.length (30 : Nat)) a))]) (.ite (e != e) (.leaf ((AV.bool false), false, [(AObj.cells (0 : Nat) (setL [(flL (p.V)), (flLL (p.C)), (flR (p.R))] (0 : Nat) [(flL (o.V)), (flLL (o.C)), (flR (o.R))])), (AObj.cells (0 : Nat) (setL [AV.zs, AV.zs, AV.zs] (0 : Nat) [(flL (o.V)), (flLL (o.C)), (flR (o.R))]))])) (.need ([(flL (l)), (flL (l))] = [(flL (l)), (flL (l))]) (.ite (!true) (.leaf ((AV.bool false), false, [(AObj.cells (0 : Nat) (setL [(flL (p.V)), (flLL (p.C)), (flR (p.R))] (0 : Nat) [(flL (o.V)), (flLL (o.C)), (flR (o.R))])), (AObj.cells (0 : Nat) (setL [AV.zs, AV.zs, AV.zs] (0 : Nat) [(flL (o.V)), (flLL (o.C)), (flR (o.R))]))])) (.ite (g != g) (.leaf ((AV.bool false), false, [(AObj.cells (0 : Nat) (setL [(flL (p.V)), (flLL (p.C)), (flR (p.R))] (0 : Nat) [(flL (o.V)), (flLL (o.C)), (flR (o.R))])), (AObj.cells (0 : Nat) (setL [AV.zs, AV.zs, AV.zs] (0 : Nat) [(flL (o.V)), (flLL (o.C)), (flR (o.R))]))])) (.ite (c != c) (.leaf ((AV.bool false), false, [(AObj.cells (0 : Nat) (setL [(flL (p.V)), (flLL (p.C)), (flR (p.R))] (0 : Nat) [(flL (o.V)), (flLL (o.C)), (flR (o.R))])), (AObj.cells (0 : Nat) (setL [AV.zs, AV.zs, AV.zs] (0 : Nat) [(flL (o.V)), (flLL (o.C)), (flR (o.R))]))])) (.need ([(AV.agg [(flL (o.V)), (flLL (o.C)), (flR (o.R))])] = [(AV.agg [(flL (o.V)), (flLL (o.C)), (flR (o.R))])]) (.need ([(AV.agg [(flL (o.V)), (flLL (o.C)), (flR (o.R))])] = [(AV.agg [(flL (o.V)), (flLL (o.C)), (flR (o.R))])]) (.ite (!s == s) (.leaf ((AV.bool false), false, [(AObj.cells (0 : Nat) (setL [(flL (p.V)), (flLL (p.C)), (flR (p.R))] (0 : Nat) [(flL (o.V)), (flLL (o.C)), (flR (o.R))])), (AObj.cells (0 : Nat) (setL [AV.zs, AV.zs, AV.zs] (0 : Nat) [(flL (o.V)), (flLL (o.C)), (flR (o.R))]))])) (.need (([(flL (List.take (min d.length (20 : Nat)) d))] = [(flL (List.take (min a.length (30 : Nat)) a))]) ∨ ([(flL (List.take (min d.length (20 : Nat)) d))] = [(flL (List.take (min d.length (20 : Nat)) d))])) (.need ([(AV.agg [(flL (o.V)), (flLL (o.C)), (flR (o.R))]), (flL (List.take (min d.length (20 : Nat)) d))] = [(AV.agg [(flL (o.V)), (flLL (o.C)), (flR (o.R))]), (flL (List.take (min d.length (20 : Nat)) d))]) (.need ([(AV.agg [(flL (o.V)), (flLL (o.C)), (flR (o.R))]), (flL (List.take (min d.length (20 : Nat)) d))] = [(AV.agg [(flL (o.V)), (flLL (o.C)), (flR (o.R))]), (flL (List.take (min d.length (20 : Nat)) d))]) (.need (([(AV.agg [(flL (u.V)), (flLL (u.C)), (flR (u.R))]), (AV.agg [(flL (u.V)), (flLL (u.C)), (flR (u.R))])] = [(AV.agg [(flL (u.V)), (flLL (u.C)), (flR (u.R))]), (AV.agg [(flL (u.V)), (flLL (u.C)), (flR (u.R))])]) ∨ ([(AV.agg [(flL (u.V)), (flLL (u.C)), (flR (u.R))]), (AV.agg [(flL (u.V)), (flLL (u.C)), (flR (u.R))])] = [(AV.agg [(flL (o.V)), (flLL (o.C)), (flR (o.R))]), (AV.agg [(flL (o.V)), (flLL (o.C)), (flR (o.R))])])) (.ite (true) (.need (([(AV.agg [(flL (o.V)), (flLL (o.C)), (flR (o.R))]), (AV.agg [(flL (o.V)), (flLL (o.C)), (flR (o.R))])] = [(AV.agg [(flL (u.V)), (flLL (u.C)), (flR (u.R))]), (AV.agg [(flL (u.V)), (flLL (u.C)), (flR (u.R))])]) ∨ ([(AV.agg [(flL (o.V)), (flLL (o.C)), (flR (o.R))]), (AV.agg [(flL (o.V)), (flLL (o.C)), (flR (o.R))])] = [(AV.agg [(flL (o.V)), (flLL (o.C)), (flR (o.R))]), (AV.agg [(flL (o.V)), (flLL (o.C)), (flR (o.R))])])) (.ite (true) (.need (([] : List AV) = []) (.leaf ((AV.bool true), true, [(AObj.cells (0 : Nat) (setL [(flL (p.V)), (flLL (p.C)), (flR (p.R))] (0 : Nat) [(flL (o.V)), (flLL (o.C)), (flR (o.R))])), (AObj.cells (0 : Nat) (setL [AV.zs, AV.zs, AV.zs] (0 : Nat) [(flL (o.V)), (flLL (o.C)), (flR (o.R))]))]))) (.leaf ((AV.bool false), false, [(AObj.cells (0 : Nat) (setL [(flL (p.V)), (flLL (p.C)), (flR (p.R))] (0 : Nat) [(flL (o.V)), (flLL (o.C)), (flR (o.R))])), (AObj.cells (0 : Nat) (setL [AV.zs, AV.zs, AV.zs] (0 : Nat) [(flL (o.V)), (flLL (o.C)), (flR (o.R))]))])))) (.leaf ((AV.bool false), false, [(AObj.cells (0 : Nat) (setL [(flL (p.V)), (flLL (p.C)), (flR (p.R))] (0 : Nat) [(flL (o.V)), (flLL (o.C)), (flR (o.R))])), (AObj.cells (0 : Nat) (setL [AV.zs, AV.zs, AV.zs] (0 : Nat) [(flL (o.V)), (flLL (o.C)), (flR (o.R))]))])))))))))))))))))))))))))) := by kernel_rfl
end Go.Proofs.Ytngaihdpmoajeaa.Am

namespace Go.Proofs.Ytngaihdpmoajeaa.Am
open Go Go.ChangeShapes Go.WideShapes
set_option maxRecDepth 100000
theorem own : ownKnob Try.prog.godebug = none := by kernel_rfl
theorem laidOut : laidOutB Try.prog = true := by kernel_rfl
section
variable {H : Type} {enc : TypeId × Value → H} {w : World} {sp : Nat → Bool} {held : Bool}

/-- A reading is no longer than a machine can hold. -/
def Fits (t : TypeId) (d : DataW H) : Prop := ∀ n ∈ d.weights Try.prog t, n ≤ reachBytes
theorem weightsAll_mem {P : Program} {e : TypeId} {d : DataW H} {n : Nat} : ∀ {l : List (DataW H)}, d ∈ l → n ∈ d.weights P e → n ∈ DataW.weightsAll P e l
  | x :: r, hd, hn => by
    unfold DataW.weightsAll
    rcases List.mem_cons.1 hd with rfl | hd
    · exact List.mem_append_left _ hn
    · exact List.mem_append_right _ (weightsAll_mem hd hn)
/-- How an element reads: as the cells of x; T holds of x, and S if the reading is small. -/
def RowsAs (H : Type) (enc : TypeId × Value → H) (w : World) (sp : Nat → Bool) (held : Bool) {α : Type} (e : TypeId) (q : α → List AV) (T S : α → Prop) : Prop :=
  ∀ (fuel : Nat) (cs : List Value) (y : DataW H × List MemPlace), DataW.trod enc Try.prog w 0 sp held fuel e cs = some y →
    ∃ x : α, (∀ (j : Nat) (z : AV), (q x)[j]? = some z → ∃ u, cs[j]? = some u ∧ RV w M0 u z) ∧ T x ∧ (Fits e y.1 → S x)
/-- A SLICE, OPENED. -/
theorem open_sl {α : Type} {t e : TypeId} {k : Nat} {q : α → List AV} {T S : α → Prop} {d0 : α} (ht : Try.prog.underlying t = some (.slice e)) (hk : 0 < k) (hC : Try.prog.cellsOf e = k) (hB : 0 < Try.prog.bytesOf e) (hq : ∀ x, (q x).length = k)
    (hrow : RowsAs H enc w sp held e q T S) {fuel : Nat} {v : Value} {x : DataW H × List MemPlace} (h : DataW.trod enc Try.prog w 0 sp held fuel t [v] = some x) :
    ∃ B : List α, RV w M0 v (.fl k B.length fun i => q (B.getD i d0)) ∧ (∀ b ∈ B, T b) ∧ (Fits t x.1 → B.length ≤ reachBytes ∧ ∀ b ∈ B, S b) := by
  rcases Go.Deep.open_slice ht h with ⟨hv, _⟩ | ⟨a, len, cap, m, n0, D, Pl, hcs, _, hl, _, hm, hx, hi⟩
  · obtain rfl : v = .slice none 0 0 := by simpa using hv
    exact ⟨[], .fl _ _ _ _ (.sl0 _ _ _), fun _ hb => (by cases hb), fun _ => ⟨Nat.zero_le _, fun _ hb => (by cases hb)⟩⟩
  · obtain rfl : v = .slice (some a) len cap := by simpa using hcs
    have hlm : len ≤ m := by rw [hm]; split <;> omega
    have key : ∀ i, ∃ (b : α) (us : Nat → Value), i < len → (∀ j, j < k → w.cell? (a.add (i * k + j)) = some (us j)) ∧ (∀ (j : Nat) (z : AV), (q b)[j]? = some z → RV w M0 (us j) z) ∧ T b ∧ (Fits e (D i) → S b) := fun i => by
      by_cases hb : i < len
      · obtain ⟨cs', hc, ht'⟩ := hi i (by omega)
        rw [hC] at hc
        obtain ⟨_, hcl, hat⟩ := World.cells?_some hc
        obtain ⟨b, h1, h2, h3⟩ := hrow _ _ _ ht'
        refine ⟨b, fun j => cs'.getD j undef, fun _ => ⟨fun j hj => ?_, fun j z hz => ?_, h2, h3⟩⟩
        · rw [← Go.Deep.add_add, hat j hj]
          show cs'[j]? = some (cs'.getD j undef)
          rw [List.getD_eq_getElem?_getD, List.getElem?_eq_getElem (by omega)]
          rfl
        · obtain ⟨u, hu, hr⟩ := h1 j z hz
          show RV w M0 (cs'.getD j undef) z
          rw [List.getD_eq_getElem?_getD, hu]
          exact hr
      · exact ⟨d0, fun _ => undef, fun h1 => absurd h1 hb⟩
    have pick : ∃ (f : Nat → α) (us : Nat → Nat → Value), ∀ i, i < len → (∀ j, j < k → w.cell? (a.add (i * k + j)) = some (us i j)) ∧ (∀ (j : Nat) (z : AV), (q (f i))[j]? = some z → RV w M0 (us i j) z) ∧ T (f i) ∧ (Fits e (D i) → S (f i)) :=
      ⟨fun i => Classical.choose (key i), fun i => Classical.choose (Classical.choose_spec (key i)), fun i => Classical.choose_spec (Classical.choose_spec (key i))⟩
    obtain ⟨f, us, hf⟩ := pick
    have hB1 : ((List.range len).map f).length = len := by simp
    have hget : ∀ i, i < len → ((List.range len).map f).getD i d0 = f i := fun i hil => by
      rw [List.getD_eq_getElem?_getD, List.getElem?_map, List.getElem?_range hil]
      rfl
    refine ⟨(List.range len).map f, .fl _ _ _ _ ?_, fun b hb => ?_, fun hs => ?_⟩
    · rw [hB1]
      by_cases h0 : len = 0
      · subst h0; exact .sl0 _ _ _
      · have h00 := (hf 0 (by omega)).1 0 hk
        simp only [Nat.zero_mul, Nat.add_zero] at h00
        have ha0 : a.add 0 = a := by unfold Addr.add; rfl
        rw [ha0] at h00
        obtain ⟨hsp, hbl⟩ := cell_spot h00
        have hlen : ((List.range len).map fun i => q (((List.range len).map f).getD i d0)).length = len := by simp
        have := RV.sl (w := w) (M := M0) a.block a.off cap k us ((List.range len).map fun i => q (((List.range len).map f).getD i d0)) (imm_top hbl)
          (fun i r j hr hj => by
            have hil : i < len := by have := (List.getElem?_eq_some_iff.1 hr).1; rwa [hlen] at this
            have := (hf i hil).1 j hj
            rw [add_spot hsp] at this
            rw [Nat.add_assoc]
            exact this)
          (fun i r hr => by
            obtain ⟨i', _, rfl⟩ := List.mem_map.1 (List.mem_of_getElem? hr)
            exact hq _)
          (fun i r j y hr hy => by
            have hil : i < len := by have := (List.getElem?_eq_some_iff.1 hr).1; rwa [hlen] at this
            rw [List.getElem?_map, List.getElem?_range hil] at hr
            cases hr
            have hy : (q (((List.range len).map f).getD i d0))[j]? = some y := hy
            rw [hget i hil] at hy
            exact (hf i hil).2.1 j y hy)
          (by rw [hlen]; exact hl)
        rw [hlen] at this
        have ha : a = ⟨a.block, a.off, none⟩ := by cases a; simp only at hsp; subst hsp; rfl
        rw [ha]
        exact this
    · obtain ⟨i, hir, rfl⟩ := List.mem_map.1 hb
      exact (hf i (List.mem_range.1 hir)).2.2.1
    · have hw : ∀ n, n ∈ (x.1).weights Try.prog t → n ≤ reachBytes := hs
      rw [hx] at hw
      simp only [DataW.weights, ht, List.mem_cons, List.mem_append] at hw
      refine ⟨?_, fun b hb => ?_⟩
      · have := hw _ (.inl rfl)
        rw [hB1]
        simp only [List.length_map, List.length_range] at this
        refine Nat.le_trans ?_ this
        refine Nat.le_trans ?_ (Nat.le_mul_of_pos_right _ hB)
        omega
      · obtain ⟨i, hir, rfl⟩ := List.mem_map.1 hb
        refine (hf i (List.mem_range.1 hir)).2.2.2 fun n hn => hw n (.inr (.inl ?_))
        exact weightsAll_mem (List.mem_map.2 ⟨i, hir, rfl⟩) hn
theorem reach_sh {n : Nat} (h : n ≤ reachBytes) : n < 4611686018427387904 := by
  have h3 := reachBytes_lt
  omega
theorem rows_int {k : IntKind} {e : TypeId} (he : Try.prog.underlying e = some (.int k)) : RowsAs H enc w sp held e (fun n : Int => [AV.int k n]) (fun n => (Lit.int k n).wf = true) fun _ => True := by
  intro fuel cs y h
  obtain ⟨n, rfl, _, hw⟩ := DataW.trod_int he h
  refine ⟨n, fun j z hz => ?_, hw, fun _ => trivial⟩
  match j, hz with
  | 0, hz => cases hz; exact ⟨_, rfl, .int _ _⟩
  | j + 1, hz => simp at hz
/-- A slice as an element. -/
theorem rows_of {α : Type} {t : TypeId} {q : α → AV} {T S : α → Prop} (hC : Try.prog.cellsOf t = 1) (ht : ∃ e, Try.prog.underlying t = some (.slice e))
    (h1 : ∀ {fuel : Nat} {v : Value} {x : DataW H × List MemPlace}, DataW.trod enc Try.prog w 0 sp held fuel t [v] = some x → ∃ B : α, RV w M0 v (q B) ∧ T B ∧ (Fits t x.1 → S B)) : RowsAs H enc w sp held t (fun x => [q x]) T S := by
  intro fuel cs y h
  obtain ⟨e, he⟩ := ht
  obtain ⟨v, rfl⟩ : ∃ v, cs = [v] := by
    rcases Go.Deep.open_slice he h with ⟨hv, _⟩ | ⟨a, len, cap, m, n0, D, Pl, hcs, _⟩
    · exact ⟨_, hv⟩
    · exact ⟨_, hcs⟩
  obtain ⟨B, h2, h3, h4⟩ := h1 h
  refine ⟨B, fun j z hz => ?_, h3, h4⟩
  match j, hz with
  | 0, hz => cases hz; exact ⟨_, rfl, h2⟩
  | j + 1, hz => simp at hz
theorem open_i64s {fuel : Nat} {v : Value} {x : DataW H × List MemPlace} (h : DataW.trod enc Try.prog w 0 sp held fuel 22 [v] = some x) : ∃ B : List Int, RV w M0 v (flL B) ∧ True ∧ (Fits 22 x.1 → sh B) := by
  obtain ⟨B, h1, _, h3⟩ := open_sl (k := 1) (q := fun n : Int => [I n]) (d0 := 0) Try.underlying22 (by decide) (by kernel_rfl) (Nat.le_of_ble_eq_true (by kernel_rfl)) (fun _ => rfl) (rows_int Try.underlying3) h
  exact ⟨B, h1, trivial, fun hs => reach_sh (h3 hs).1⟩
theorem open_lists {fuel : Nat} {v : Value} {x : DataW H × List MemPlace} (h : DataW.trod enc Try.prog w 0 sp held fuel 23 [v] = some x) : ∃ B : List (List Int), RV w M0 v (flLL B) ∧ True ∧ (Fits 23 x.1 → sh B ∧ ∀ l ∈ B, sh l) := by
  obtain ⟨B, h1, _, h3⟩ := open_sl (k := 1) (q := fun l : List Int => [flL l]) (d0 := []) Try.underlying23 (by decide) (by kernel_rfl) (Nat.le_of_ble_eq_true (by kernel_rfl)) (fun _ => rfl) (rows_of (T := fun _ => True) (S := sh) (by kernel_rfl) ⟨_, Try.underlying22⟩ open_i64s) h
  exact ⟨B, h1, trivial, fun hs => ⟨reach_sh (h3 hs).1, (h3 hs).2⟩⟩
theorem each_small {ts : List TypeId} {ds : List (DataW H)} (h : ∀ n ∈ DataW.weightsEach Try.prog ts ds, n ≤ reachBytes) {j : Nat} {t : TypeId} {d : DataW H} (ht : ts[j]? = some t) (hd : ds[j]? = some d) : Fits t d := fun n hn => h n (DataW.weights_mem_each ht hd n hn)
/-- A struct of one-cell fields, as an element: each field's reading. -/
theorem trod_one {e : TypeId} {fs : Array Field} (he : Try.prog.underlying e = some (.struct fs)) (hone : Go.Deep.oneCellFields Try.prog fs = true) (hC : Try.prog.cellsOf e = fs.size) {fuel : Nat} {cs : List Value} {y : DataW H × List MemPlace}
    (h : DataW.trod enc Try.prog w 0 sp held fuel e cs = some y) :
    ∀ (j : Nat) (f : Field), fs[j]? = some f → ∃ (n : Nat) (u : Value) (z : DataW H × List MemPlace), cs[j]? = some u ∧ DataW.trod enc Try.prog w 0 sp held n f.type [u] = some z ∧ (Fits e y.1 → Fits f.type z.1) := by
  obtain ⟨xs, n, _, hx, hlen, hyl, hf⟩ := DataW.trod_struct he h
  intro j f hfj
  have hj : j < fs.size := (Array.getElem?_eq_some_iff.1 hfj).1
  obtain ⟨ho, hk⟩ := Go.Deep.hone_of hone j f hfj
  have h1 := hf j f hfj
  have hjc : j < cs.length := by rw [hlen, hC]; exact hj
  rw [ho, hk, drop_take_one hjc, List.getElem?_eq_getElem (by omega)] at h1
  refine ⟨n, cs[j], xs[j]'(by omega), List.getElem?_eq_getElem hjc, h1, fun hs => ?_⟩
  have hw : ∀ n, n ∈ (y.1).weights Try.prog e → n ≤ reachBytes := hs
  rw [hx] at hw
  simp only [DataW.weights, he] at hw
  refine each_small (j := j) hw ?_ ?_
  · rw [List.getElem?_map, Array.getElem?_toList, hfj]; rfl
  · rw [List.getElem?_map, List.getElem?_eq_getElem (by omega)]; rfl
theorem rows_rule : RowsAs H enc w sp held 56 rlC (fun _ => True) Rl.sh := by
  intro fuel cs y h
  have hf := trod_one Try.underlying56 (by kernel_rfl) (by kernel_rfl) h
  obtain ⟨_, u0, z0, c0, t0, s0⟩ := hf 0 _ rfl
  obtain ⟨_, u1, z1, c1, t1, s1⟩ := hf 1 _ rfl
  obtain ⟨_, u2, z2, c2, t2, s2⟩ := hf 2 _ rfl
  obtain ⟨_, u3, z3, c3, t3, s3⟩ := hf 3 _ rfl
  obtain ⟨d, hd, _, _⟩ := DataW.trod_int Try.underlying3 t0
  obtain ⟨V, hV, _, hVs⟩ := open_i64s t1
  obtain ⟨W, hW, _, hWs⟩ := open_lists t2
  obtain ⟨m, hm, _, _⟩ := DataW.trod_int Try.underlying3 t3
  obtain rfl : u0 = .int .i64 d := by simpa using hd
  obtain rfl : u3 = .int .i64 m := by simpa using hm
  refine ⟨⟨d, V, W, m⟩, fun j z hz => ?_, trivial, fun hs => ⟨hVs (s1 hs), (hWs (s2 hs)).1, (hWs (s2 hs)).2⟩⟩
  match j, hz with
  | 0, hz => cases hz; exact ⟨_, c0, .int _ _⟩
  | 1, hz => cases hz; exact ⟨_, c1, hV⟩
  | 2, hz => cases hz; exact ⟨_, c2, hW⟩
  | 3, hz => cases hz; exact ⟨_, c3, .int _ _⟩
  | j + 4, hz => simp [rlC] at hz
theorem open_rules {fuel : Nat} {v : Value} {x : DataW H × List MemPlace} (h : DataW.trod enc Try.prog w 0 sp held fuel 24 [v] = some x) : ∃ B : List Rl, RV w M0 v (flR B) ∧ True ∧ (Fits 24 x.1 → sh B ∧ ∀ l ∈ B, l.sh) := by
  obtain ⟨B, h1, _, h3⟩ := open_sl (k := 4) (q := rlC) (d0 := r0) Try.underlying24 (by decide) (by kernel_rfl) (Nat.le_of_ble_eq_true (by kernel_rfl)) (fun _ => rfl) rows_rule h
  exact ⟨B, h1, trivial, fun hs => ⟨reach_sh (h3 hs).1, (h3 hs).2⟩⟩
/-- A PROBLEM, OPENED. -/
theorem open_pb {r : Reach} {b0 : Nat} {v : Value} {d : DataW H} {ps : List MemPlace} (hv : Value.okWide Try.prog w r b0 26 v) (h : DataW.Trod enc Try.prog w 0 sp held 26 v d ps) : ∃ p : Pb, RV w M0 v (pAV p) ∧ (Fits 26 d → p.sh) := by
  obtain ⟨cs, rfl, hsz⟩ := okWide_struct Try.underlying26 hv
  obtain ⟨fuel, hf⟩ := h
  have hf := trod_one Try.underlying26 (by kernel_rfl) (by kernel_rfl) hf
  obtain ⟨_, u0, z0, c0, t0, s0⟩ := hf 0 _ rfl
  obtain ⟨_, u1, z1, c1, t1, s1⟩ := hf 1 _ rfl
  obtain ⟨_, u2, z2, c2, t2, s2⟩ := hf 2 _ rfl
  obtain ⟨V, hV, _, hVs⟩ := open_i64s t0
  obtain ⟨C, hC, _, hCs⟩ := open_lists t1
  obtain ⟨R, hR, _, hRs⟩ := open_rules t2
  have hcell : ∀ (j : Nat) (u : Value), (Value.agg cs).cells.toList[j]? = some u → cs.getD j undef = u := fun j u hu => by
    have hu : cs.toList[j]? = some u := hu
    rw [Array.getElem?_toList] at hu
    rw [Array.getD_eq_getD_getElem?, hu]
    rfl
  refine ⟨⟨V, C, R⟩, .agg _ _ (hsz.trans (by kernel_rfl)) fun j x hj => ?_, fun hs => ⟨hVs (s0 hs), (hCs (s1 hs)).1, (hCs (s1 hs)).2, (hRs (s2 hs)).1, (hRs (s2 hs)).2⟩⟩
  match j, hj with
  | 0, hj => cases hj; rw [hcell 0 _ c0]; exact hV
  | 1, hj => cases hj; rw [hcell 1 _ c1]; exact hC
  | 2, hj => cases hj; rw [hcell 2 _ c2]; exact hR
  | j + 3, hj => simp [pbC] at hj
theorem open_ints {r : Reach} {b0 : Nat} {v : Value} {d : DataW H} {ps : List MemPlace} (hv : Value.okWide Try.prog w r b0 22 v) (h : DataW.Trod enc Try.prog w 0 sp held 22 v d ps) : ∃ B : List Int, RV w M0 v (flL B) ∧ (Fits 22 d → sh B) := by
  obtain ⟨base, len, cap, rfl⟩ := okWide_slice Try.underlying22 hv
  obtain ⟨fuel, hf⟩ := h
  obtain ⟨B, h1, _, h2⟩ := open_i64s hf
  exact ⟨B, h1, h2⟩
/-- An argument reads behind the call as it did. -/
theorem stays {t : TypeId} (hr : Try.prog.readableRec t = true) (hrow : decide (t < Try.prog.types.size) = true) {W W' : World} {v : Value} {d : DataW H} {ps : List MemPlace}
    (h : DataW.Trod enc Try.prog W 0 (fun _ => true) true t v d ps) (hb : Go.RowKit.Below W.heap.size W W') (hlt : ∀ x ∈ ps, x.block < W.heap.size) {sp : Nat → Bool} (hsp : ∀ x ∈ ps, sp x.block = true) :
    DataW.Trod enc Try.prog W' 0 sp true t v d ps :=
  WideElems.Trod_stays laidOut hr (of_decide_eq_true hrow) h (fun x hx => hb.same (hlt x hx)) hsp
end
end Go.Proofs.Ytngaihdpmoajeaa.Am

