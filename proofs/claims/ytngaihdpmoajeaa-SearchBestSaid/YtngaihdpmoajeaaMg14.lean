/-
  This file proves nothing of a law. It holds lemmas, of 5 texts in their order. No condition of its own.
-/
import Derived.Test.YtngaihdpmoajeaaMg13
import Derived.Test.YtngaihdpmoajeaaMg12
namespace Go.Proofs.Ytngaihdpmoajeaa.Am
open Go
set_option maxRecDepth 100000

theorem exec18D {x : Pz} (hx : x.ok) {V : List Int} (hV : ∀ j, V.getD j 0 ≤ 4) (hV0 : ∀ j, 0 ≤ V.getD j 0) (hVl : V.length ≤ 5) (C : List (List Int)) (R : List Rl) {k : Nat} (hk : k < x.R.length) (d m : Int) :
    AExec Try.prog G0 (fun r => r = none) (.loop body18D) { tmps := (stD x V C (sV 4 2 (rowR R)) (sO (rowR R)) k d m .zs .zs .resv .resv 0 0).a } (hD V C (sV 4 2 (rowR R)) (sO (rowR R)) .resv .resv .resv d .zs .zs m) (.exit 6)
      { tmps := (stD x V C (sV 4 2 (rowR R)) (sO (rowR R)) k d m (flL (varK (x.R.getD k c0) V.length)) (flLL (wtK V (x.R.getD k c0) V.length)) .resv .resv (offK V (x.R.getD k c0) V.length : Nat) V.length).a } (hD V C (sV 4 2 (rowR R)) (sO (rowR R)) .resv .resv .resv d (flL (varK (x.R.getD k c0) V.length)) (flLL (wtK V (x.R.getD k c0) V.length)) m) := by
  refine (loop18D hx hV hV0 hVl C R hk d m).drop (n := 9) (D := D45) (fun _ _ => rfl) rfl rfl (fun r q hr hD => ?_) ?_ ?_
  · match r, hr, hD with
    | 4, hr, _ => cases hr; rfl
    | 5, hr, _ => cases hr; rfl
    | 0, _, hD => cases hD
    | 1, _, hD => cases hD
    | 2, _, hD => cases hD
    | 3, _, hD => cases hD
    | r + 6, _, hD =>
      have : r + 6 = 4 ∨ r + 6 = 5 := by
        have := Bool.or_eq_true_iff.1 (show (Nat.beq (r + 6) 4 || Nat.beq (r + 6) 5) = true from hD)
        rcases this with h | h
        · exact .inl (Nat.eq_of_beq_eq_true h)
        · exact .inr (Nat.eq_of_beq_eq_true h)
      omega
  · refine ⟨.inr (.inl ⟨rfl, rfl, trivial⟩), .inr (.inl ⟨rfl, rfl, trivial⟩), .inr (.inl ⟨rfl, rfl, onlyO_sO rowR_flat⟩), .inr (.inl ⟨rfl, rfl, trivial⟩), .inl ⟨rfl, rfl⟩, .inl ⟨rfl, rfl⟩, .inr (.inl ⟨rfl, rfl, only_zPb⟩), .inr (.inl ⟨rfl, rfl, fun y hy => ?_⟩), .inr (.inr ⟨rfl, _, _, _, rfl, rfl, ?_⟩), trivial⟩
    · simp only [List.mem_cons, List.not_mem_nil, or_false] at hy
      rcases hy with rfl | rfl | rfl
      · exact .of0 (below_flL _)
      · exact .of0 (below_flLL _)
      · exact onlySV ⟨rfl, by omega⟩
    · exact ⟨re_int, re_ints rfl (dropP_none rfl), re_lists rfl (dropP_none rfl), re_int, trivial⟩
  · have rf : ∀ (r : Nat) (σ : Heap), D45 r = false ∧ r < 9 → Re G0 (dropP D45 9) σ (.ref r 0 0) (.ref r 0 0) := fun r σ h => Re.good (.ref _ _ _ h)
    exact ⟨rfl, Re.flat (below_pzr x), rfl, rf 6 _ ⟨rfl, by omega⟩, rfl, rf 7 _ ⟨rfl, by omega⟩, rfl, re_int, rfl, rf 8 _ ⟨rfl, by omega⟩, rfl, re_int, rfl, Re.flat (below_flL _), rfl, re_int, rfl, re_int, trivial⟩
/-! ### All rules -/
def M18 (x : Pz) : Nat := min x.R.length 6
def ruleM (V : List Int) (x : Pz) (i : Nat) : Rl := ⟨(x.R.getD i c0).d, varK (x.R.getD i c0) V.length, wtK V (x.R.getD i c0) V.length, (x.R.getD i c0).m⟩
def stC' (x : Pz) (V : List Int) (C : List (List Int)) (R : List Rl) (k : Int) : St := stC x V C (sV 4 2 (rowR R)) (sO (rowR R)) k
theorem clean18C (x : Pz) (V : List Int) (C : List (List Int)) (R : List Rl) (k : Int) : CleanT 8 (stC' x V C R k) :=
  cleanT_of rfl (fun o ho => by
    simp only [hC, List.mem_cons, List.not_mem_nil, or_false] at ho
    rcases ho with rfl | rfl | rfl | rfl | rfl | rfl | rfl | rfl
    · trivial
    · trivial
    · exact alone_sO fun x hx y hy => (rowR_flat x hx y hy).up
    · trivial
    · trivial
    · trivial
    · intro y hy
      simp only [zPb, List.mem_cons, List.not_mem_nil, or_false] at hy
      rcases hy with rfl | rfl | rfl <;> exact .zs
    · intro y hy
      simp only [List.mem_cons, List.not_mem_nil, or_false] at hy
      rcases hy with rfl | rfl | rfl
      · exact (below_flL _).up
      · exact (below_flLL _).up
      · exact below_sV (by omega)) ⟨below_pzr x, .ref _ _ _ (by omega), .ref _ _ _ (by omega), .int _ _, trivial⟩
theorem loops18C : loopsOf body18C = [body18D, body18E] := by kernel_rfl
theorem loops18C' : ∀ x ∈ loopsOf body18C, idOf x = 24 → x = body18D := nth_loop (k := 0) (ids := [24, 29]) (by kernel_rfl) (by decide) (by kernel_rfl) rfl
theorem roundC {x : Pz} (hx : x.ok) {V : List Int} (hV : ∀ j, V.getD j 0 ≤ 4) (hV0 : ∀ j, 0 ≤ V.getD j 0) (hVl : V.length ≤ 5) (C : List (List Int)) (k : Nat) (hk : k < M18 x) :
    AExec Try.prog G0 (fun r => r = none) body18C { tmps := (stC' x V C (preL (ruleM V x) k) k).a } (stC' x V C (preL (ruleM V x) k) k).h .normal { tmps := (stC' x V C (preL (ruleM V x) (k + 1)) (k + 1 : Nat)).a } (stC' x V C (preL (ruleM V x) (k + 1)) (k + 1 : Nat)).h := by
  have hkl : k < x.R.length := by unfold M18 at hk; omega
  have hk6 : k < 6 := by unfold M18 at hk; omega
  have hdd := hx.d k
  have hmm := hx.m k
  have hd : dm18 x k = (x.R.getD k c0).d := by unfold dm18; rw [Int.toNat_natCast]; exact wrapI (by omega)
  have hm : mm18 x k = (x.R.getD k c0).m := by unfold mm18; rw [Int.toNat_natCast]; exact wrapI (by omega)
  have key := congrArg Tree.sel (run18C True x V C (sV 4 2 (rowR (preL (ruleM V x) k))) (sV 4 2 (rowR (preL (ruleM V x) (k + 1)))) (sO (rowR (preL (ruleM V x) k))) (sO (rowR (preL (ruleM V x) (k + 1)))) k (varK (x.R.getD k c0) V.length) (wtK V (x.R.getD k c0) V.length) (offK V (x.R.getD k c0) V.length : Nat))
  have g1 : Grow 4 2 [I (dm18 x k), flL (varK (x.R.getD k c0) V.length), flLL (wtK V (x.R.getD k c0) V.length), I (mm18 x k)] (sV 4 2 (rowR (preL (ruleM V x) k))) (sV 4 2 (rowR (preL (ruleM V x) (k + 1)))) (sO (rowR (preL (ruleM V x) k))) (sO (rowR (preL (ruleM V x) (k + 1)))) := by
    rw [preL_succ, hd, hm]
    exact grow_R (by rw [preL_len]; omega) (ruleM V x k) 2
  have hi := lpB_exec (i := 24) (keep := keepD) (S := stD x V C (sV 4 2 (rowR (preL (ruleM V x) k))) (sO (rowR (preL (ruleM V x) k))) k (dm18 x k) (mm18 x k) .zs .zs .resv .resv 0 0) (X := stD x V C (sV 4 2 (rowR (preL (ruleM V x) k))) (sO (rowR (preL (ruleM V x) k))) k (dm18 x k) (mm18 x k) (flL (varK (x.R.getD k c0) V.length)) (flLL (wtK V (x.R.getD k c0) V.length)) .resv .resv (offK V (x.R.getD k c0) V.length : Nat) V.length)
    (exec18D hx hV hV0 hVl C (preL (ruleM V x) k) hkl (dm18 x k) (mm18 x k)) rfl (c := body18C) loops18C'
  refine xBodyMT_ok (m := 8) (st := stC' x V C (preL (ruleM V x) k) k) (clokHint ((hApO_ok els24 fun _ => g1).or ((hSto_ok 7 (one_of (by kernel_rfl))).ok.or (hStA_ok 56 8).ok))) hi rfl (clean18C x V C _ _) (key.trans ?_)
  have w2 : IntKind.i64.wrap (k + 1 : Int) = ((k + 1 : Nat) : Int) := (wrapI (by omega)).trans (by omega)
  rw [w2]
  refine (selIt (dT (by omega))).trans ((selIt (dT (by omega))).trans ?_)
  repeat first
    | exact rfl
    | refine t_need rfl ?_
    | refine t_need ⟨rfl, rfl⟩ ?_
    | refine t_need ⟨by omega, by omega⟩ ?_
    | refine t_need ⟨rfl, rfl, trivial⟩ ?_
    | refine t_need ⟨rfl, rfl, Nat.le_refl _⟩ ?_
    | refine t_need ⟨one_sV, by omega⟩ ?_
theorem loop18C {x : Pz} (hx : x.ok) {V : List Int} (hV : ∀ j, V.getD j 0 ≤ 4) (hV0 : ∀ j, 0 ≤ V.getD j 0) (hVl : V.length ≤ 5) (C : List (List Int)) :
    LoopA body18C (M18 x) (fun k => stC' x V C (preL (ruleM V x) k) k) (fun k => stC' x V C (preL (ruleM V x) k) k) (stC' x V C (preL (ruleM V x) (M18 x)) (M18 x)) .ret (.exit 4) fun _ => false where
  n0 _ := rfl
  nR _ := rfl
  nX := rfl
  neR := nofun
  neX := nofun
  go k hk _ _ := roundC hx hV hV0 hVl C k hk
  st k hk _ hs := by cases hs
  en _ := by
    refine xBodyT_ok (m := 8) (E := { boxRow := false }) (st := stC' x V C (preL (ruleM V x) (M18 x)) (M18 x)) (.of rfl rfl fun f xs t v h => by cases h) (lpF_ok 24 keepD _ _) rfl (clean18C x V C _ _) ((congrArg Tree.sel (run18Ce x V C (sV 4 2 (rowR (preL (ruleM V x) (M18 x)))) (sO (rowR (preL (ruleM V x) (M18 x)))) (M18 x))).trans ?_)
    exact t_ite (fun h1 => (selIf (dF (by have := of_decide_eq_true h1; unfold M18 at this ⊢; omega))).trans rfl) fun _ => rfl
/-! ### The problem -/
def madeP (x : Pz) : Pb := ⟨valsM x (N18 x), costsM x (N18 x), preL (ruleM (valsM x (N18 x)) x) (M18 x)⟩
theorem vals_at (x : Pz) {k : Nat} (hk : k < N18 x) : (valsM x (N18 x)).getD k 0 = valM x k := preL_getD _ hk _
theorem vals_le (x : Pz) (j : Nat) : 0 ≤ (valsM x (N18 x)).getD j 0 ∧ (valsM x (N18 x)).getD j 0 ≤ 4 := by
  by_cases hj : j < N18 x
  · rw [vals_at x hj]
    have := valM_bound x j
    omega
  · rw [List.getD_eq_getElem?_getD, List.getElem?_eq_none (by unfold valsM; rw [preL_len]; omega)]
    exact ⟨Int.le_refl _, by decide⟩
theorem N18_le (x : Pz) : N18 x ≤ 5 := by unfold N18; omega
theorem vals_len (x : Pz) : (valsM x (N18 x)).length = N18 x := preL_len _ _
theorem getD_snoc {α : Type} (l : List α) (a : α) (k : Nat) (d : α) : (l ++ [a]).getD k d = if k < l.length then l.getD k d else if k = l.length then a else d := by
  rw [List.getD_eq_getElem?_getD, List.getElem?_append]
  split
  · rw [← List.getD_eq_getElem?_getD]
  · split
    · subst k; simp
    · rw [List.getElem?_eq_none (by simp; omega)]; rfl
theorem varK_ok {V : List Int} (hV0 : ∀ j, 0 ≤ V.getD j 0) {c : Cs} (hw : ∀ j, -128 ≤ c.w.getD j 0 ∧ c.w.getD j 0 ≤ 127) : ∀ j : Nat,
    (∀ k, k < (varK c j).length → (0 ≤ (varK c j).getD k 0 ∧ (varK c j).getD k 0 < j) ∧ (((wtK V c j).getD k []).length : Int) = V.getD ((varK c j).getD k 0).toNat 0 ∧ ∀ y ∈ (wtK V c j).getD k [], -128 ≤ y ∧ y ≤ 127) ∧
      ∀ k, k + 1 < (varK c j).length → (varK c j).getD k 0 < (varK c j).getD (k + 1) 0
  | 0 => ⟨fun k hk => by simp [varK] at hk, fun k hk => by simp [varK] at hk⟩
  | j + 1 => by
    obtain ⟨h1, h2⟩ := varK_ok hV0 hw j
    have hl := wtK_len V c j
    have h0 := hV0 j
    unfold varK wtK
    cases bitC c j with
    | false =>
      rw [cond_false, cond_false]
      exact ⟨fun k hk => ⟨⟨(h1 k hk).1.1, by have := (h1 k hk).1.2; omega⟩, (h1 k hk).2⟩, h2⟩
    | true =>
      rw [cond_true, cond_true]
      refine ⟨fun k hk => ?_, fun k hk => ?_⟩
      · rw [List.length_append, List.length_singleton] at hk
        rw [getD_snoc, getD_snoc, hl]
        by_cases hlt : k < (varK c j).length
        · rw [if_pos hlt, if_pos hlt]
          exact ⟨⟨(h1 k hlt).1.1, by have := (h1 k hlt).1.2; omega⟩, (h1 k hlt).2⟩
        · have he : k = (varK c j).length := by omega
          rw [if_neg hlt, if_pos he, if_neg hlt, if_pos he]
          refine ⟨⟨by omega, by omega⟩, ?_, fun y hy => ?_⟩
          · rw [preL_len, Int.toNat_natCast]
            omega
          · unfold preL at hy
            obtain ⟨i, _, rfl⟩ := List.mem_map.1 hy
            exact hw _
      · rw [List.length_append, List.length_singleton] at hk
        rw [getD_snoc, getD_snoc, if_pos (by omega)]
        by_cases hlt : k + 1 < (varK c j).length
        · rw [if_pos hlt]
          exact h2 k hlt
        · rw [if_neg hlt, if_pos (by omega)]
          exact (h1 k (by omega)).1.2
theorem made_rule {x : Pz} (hx : x.ok) (i : Nat) : OkRule (valsM x (N18 x)) (ruleM (valsM x (N18 x)) x i) := by
  have hd := hx.d i
  have hm := hx.m i
  obtain ⟨h1, h2⟩ := varK_ok (fun j => (vals_le x j).1) (hx.w i) (valsM x (N18 x)).length
  exact ⟨⟨hd.1, by show (x.R.getD i c0).d ≤ _; omega⟩, ⟨by show _ ≤ (x.R.getD i c0).m; omega, by show (x.R.getD i c0).m ≤ _; omega⟩, wtK_len _ _ _, fun k hk => (h1 k hk).1, h2, fun k hk => (h1 k hk).2.1, fun k hk y hy => by
    have := (h1 k hk).2.2 y hy
    omega⟩
theorem made_ok {x : Pz} (hx : x.ok) : Ok (madeP x) := by
  have hN := N18_le x
  have hl := vals_len x
  refine ⟨by show (valsM x (N18 x)).length ≤ 24; omega, ?_, ?_, fun k hk => ?_, fun k hk => ?_, fun k hk y hy => ?_, fun r hr => ?_⟩
  · show (costsM x (N18 x)).length = _
    exact (preL_len _ _).trans hl.symm
  · show (preL _ _).length ≤ 2048
    rw [preL_len]
    unfold M18
    omega
  · replace hk : k < N18 x := by rw [← hl]; exact hk
    have := valM_bound x k
    rw [show (madeP x).V.getD k 0 = valM x k from vals_at x hk]
    omega
  · replace hk : k < N18 x := by rw [← hl]; exact hk
    rw [show (madeP x).V.getD k 0 = valM x k from vals_at x hk, show (madeP x).C.getD k [] = cosR x k from preL_getD _ hk _]
    unfold cosR
    rw [preL_len]
  · replace hk : k < N18 x := by rw [← hl]; exact hk
    rw [show (madeP x).C.getD k [] = cosR x k from preL_getD _ hk _] at hy
    unfold cosR preL at hy
    obtain ⟨j, _, rfl⟩ := List.mem_map.1 hy
    have := hx.c (ofs x k + j)
    unfold costF
    omega
  · have hr' : r ∈ preL (ruleM (valsM x (N18 x)) x) (M18 x) := hr
    unfold preL at hr'
    obtain ⟨i, _, rfl⟩ := List.mem_map.1 hr'
    exact made_rule hx i
/-- THE PROBLEM OF A PUZZLE. -/
theorem c18 {x : Pz} (hx : x.ok) (h : Heap) : ACall Try.prog G0 18 [pzAV x] h (pAV (madeP x)) h := by
  have hlA := lpB_exec (i := 4) (keep := keepA) (S := stA x .zs .resv .zs .resv 0 0) (X := St.of 162 (hC (valsM x (N18 x)) (costsM x (N18 x)) .zs .resv .resv .resv .resv) [(1, .row (pzC x) 0, true), (2, .ref 6 0 0, true), (3, .ref 7 0 0, true), (4, I (ofs x (N18 x) : Nat), true), (5, I (N18 x), true)]) (exec18A hx) rfl (c := bodyOf Try.prog 18)
    (nth_loop (k := 0) (i := 4) (ids := [4, 10, 19, 24, 29]) ids18 (by decide) (by kernel_rfl) rfl)
  have hlC := (loop18C hx (fun j => (vals_le x j).2) (fun j => (vals_le x j).1) (by rw [vals_len]; exact N18_le x) (costsM x (N18 x))).okB (fun _ _ => rfl) (c := bodyOf Try.prog 18) (i := 19) (keep := keepC)
    (nth_loop (k := 2) (i := 19) (ids := [4, 10, 19, 24, 29]) ids18 (by decide) (by kernel_rfl) rfl)
  have hc : ACall Try.prog G0 18 [pzAV x] (List.replicate 6 .resv) (.agg [flL (madeP x).V, flLL (madeP x).C, sV 4 2 (rowR (madeP x).R)]) [AObj.resv, AObj.resv, sO (rowR (madeP x).R), AObj.resv, AObj.resv, AObj.resv, AObj.cells 0 [flL (madeP x).V, flLL (madeP x).C, sV 4 2 (rowR (madeP x).R)], AObj.cells 0 [flL (madeP x).V, flLL (madeP x).C, sV 4 2 (rowR (madeP x).R)]] := by
    refine ACall.says (.ofH rfl rfl ((hStA_ok 26 6).ok.or (hStA_ok 26 7).ok) fun f xs t v h => by cases h) (lpAnd_ok hlA hlC) (runF18 x (valsM x (N18 x)) (costsM x (N18 x)) (sV 4 2 (rowR (preL (ruleM (valsM x (N18 x)) x) (M18 x)))) (sO (rowR (preL (ruleM (valsM x (N18 x)) x) (M18 x)))) (ofs x (N18 x) : Nat) (N18 x) (M18 x)) ?_
    refine says_need ⟨rfl, rfl, Nat.le_refl _⟩ (says_need rfl (says_need rfl (says_need ⟨rfl, ?_, Nat.le_refl _⟩ says_leaf)))
    rw [tk26]
    simp only [List.all_cons, one_sV]
    rfl
  exact hc.out (k := 6) (re_pb rfl nofun) (below_pAV _) (fun y hy => by rw [List.mem_singleton.1 hy]; exact below_agg (below_pz x)) h
end Go.Proofs.Ytngaihdpmoajeaa.Am

namespace Go.Proofs.Ytngaihdpmoajeaa.Am
open Go
set_option maxRecDepth 100000

noncomputable def body19 : Code := (loopsOf (bodyOf Try.prog 19)).headD .skip
theorem loops19 : loopsOf (bodyOf Try.prog 19) = [body19] := by kernel_rfl
/-- An assignment in an object of its own. -/
def hX (o : AObj) (b : List Int) : Heap := [o, .cells 0 (b.map I)]
def mX (n : Nat) : AV := .ms 1 1 0 0 n n
def st19 (p : Pb) (n : Nat) (o : AObj) (b : List Int) (i : Int) (r : Bool) : St := .of 32 (hX o b) [(1, mX n, true), (2, .row (pbC p) 0, true), (4, .bool r, false), (5, I i, true)]
def st19c (p : Pb) (n : Nat) (o : AObj) (c : List AV) (i : Int) (r : Bool) : St := .of 32 [o, .cells 0 c] [(1, mX n, true), (2, .row (pbC p) 0, true), (4, .bool r, false), (5, I i, true)]
def E19 : Env := { hint := hArrG 22 3 .i64 1 }
theorem run19 (p : Pb) (n : Nat) (o : AObj) (c : List AV) (i : Int) : xBody Try.prog G0 E19 200 noLoops [1, 2, 4, 5] body19 (st19c p n o c i false) = .ite (decide (i ≥ (0 : Int))) (.need (((0 : Int) ≤ i) ∧ ((i < (↑n : Int)) ∧ ((0 : Nat) = (0 : Nat)))) (.need (((0 : Nat) = (0 : Nat)) ∧ (∃ n, c[i.toNat]? = some (AV.int IntKind.i64 n))) (.need (((0 : Int) ≤ i) ∧ ((i < (↑n : Int)) ∧ ((0 : Nat) = (0 : Nat)))) (.need (((0 : Nat) = (0 : Nat)) ∧ ((i.toNat) < (List.length c))) (.need (((0 : Int) ≤ i) ∧ ((i < (↑n : Int)) ∧ ((0 : Nat) = (0 : Nat)))) (.need (((0 : Nat) = (0 : Nat)) ∧ (∃ n, (setL c i.toNat [AV.int IntKind.i64 (IntKind.i64.wrap (intOf (c.getD i.toNat AV.junk) + (1 : Int)))])[i.toNat]? = some (AV.int IntKind.i64 n))) (.need (((0 : Int) ≤ i) ∧ (i < (↑p.V.length : Int))) (.ite (decide (intOf ((setL c i.toNat [AV.int IntKind.i64 (IntKind.i64.wrap (intOf (c.getD i.toNat AV.junk) + (1 : Int)))]).getD i.toNat AV.junk) < p.V.getD i.toNat (0 : Int))) (.leaf (Exit.ret, St.of 32 [o, (AObj.cells (0 : Nat) (setL c (i.toNat) [(I (IntKind.i64.wrap (intOf (c.getD i.toNat AV.junk) + (1 : Int))))]))] [(1, (AV.ms (1 : Nat) (1 : Nat) (0 : Nat) (0 : Nat) n n), true), (2, (AV.row [(flL (p.V)), (flLL (p.C)), (flR (p.R))] (0 : Nat)), true), (4, (AV.bool true), false), (5, (I i), true)])) (.need (((0 : Int) ≤ i) ∧ ((i < (↑n : Int)) ∧ ((0 : Nat) = (0 : Nat)))) (.need (((0 : Nat) = (0 : Nat)) ∧ ((i.toNat) < (List.length (setL c (i.toNat) [(I (IntKind.i64.wrap (intOf (c.getD i.toNat AV.junk) + (1 : Int))))])))) (.leaf (Exit.normal, St.of 32 [o, (AObj.cells (0 : Nat) (setL (setL c (i.toNat) [(I (IntKind.i64.wrap (intOf (c.getD i.toNat AV.junk) + (1 : Int))))]) (i.toNat) [(I ((0 : Int)))]))] [(1, (AV.ms (1 : Nat) (1 : Nat) (0 : Nat) (0 : Nat) n n), true), (2, (AV.row [(flL (p.V)), (flLL (p.C)), (flR (p.R))] (0 : Nat)), true), (4, (AV.bool false), false), (5, (I (IntKind.i64.wrap (i - (1 : Int)))), true)])))))))))))) (.leaf ((Exit.exit (0 : Nat)), St.of 32 [o, (AObj.cells (0 : Nat) c)] [(1, (AV.ms (1 : Nat) (1 : Nat) (0 : Nat) (0 : Nat) n n), true), (2, (AV.row [(flL (p.V)), (flLL (p.C)), (flR (p.R))] (0 : Nat)), true), (4, (AV.bool false), false), (5, (I i), true)])) := by kernel_rfl
theorem runF19a (p : Pb) (n : Nat) (o : AObj) (b b' : List Int) (i : Int) : xenter Try.prog {} (xCode Try.prog G0 {} 200 (lpB 2 [1, 2, 4, 5] (st19 p n o b (IntKind.i64.wrap ((n : Int) - 1)) false) .ret (st19 p n o b' i true))) 19 [pAV p, mX n] [true, true] (hX o b) = .need ((st19 p n o b (IntKind.i64.wrap ((n : Int) - 1)) false).vals = (st19 p n o b (IntKind.i64.wrap ((n : Int) - 1)) false).vals) (.leaf ((AV.bool true), false, [o, (AObj.cells (0 : Nat) (List.map I b'))])) := by kernel_rfl
theorem runF19b (p : Pb) (n : Nat) (o : AObj) (b b' : List Int) (i : Int) : xenter Try.prog {} (xCode Try.prog G0 {} 200 (lpB 2 [1, 2, 4, 5] (st19 p n o b (IntKind.i64.wrap ((n : Int) - 1)) false) (.exit 0) (st19 p n o b' i false))) 19 [pAV p, mX n] [true, true] (hX o b) = .need ((st19 p n o b (IntKind.i64.wrap ((n : Int) - 1)) false).vals = (st19 p n o b (IntKind.i64.wrap ((n : Int) - 1)) false).vals) (.leaf ((AV.bool false), false, [o, (AObj.cells (0 : Nat) (List.map I b'))])) := by kernel_rfl
/-- The next assignment: the last of the first i variables that has a greater value takes it, those behind it their first ones. -/
def nxt (V : List Int) : Nat → List Int → Bool × List Int
  | 0, b => (false, b)
  | i + 1, b => if b.getD i 0 + 1 < V.getD i 0 then (true, b.set i (b.getD i 0 + 1)) else nxt V i (b.set i 0)
theorem clok19 : ClOk Try.prog G0 E19 := .ofH rfl rfl arr_ok.ok fun f xs t v h => by cases h
section
variable {p : Pb} {n : Nat} {b : List Int} {i : Nat} (hb : b.length = n) (hV : p.V.length = n) (hk : n ≤ 1000) (hi : i < n) (h0 : -1000000 ≤ b.getD i 0 ∧ b.getD i 0 ≤ 1000000) (o : AObj)
include hb hi in
theorem set_get : (b.set i (b.getD i 0 + 1)).getD i 0 = b.getD i 0 + 1 := by
  rw [getD_setL, if_pos ⟨rfl, by omega⟩]
include hb hV hk hi h0
theorem round19g (hn : ¬ b.getD i 0 + 1 < p.V.getD i 0) : AExec Try.prog G0 (fun q => q = none) body19 { tmps := (st19 p n o b i false).a } (hX o b) .normal { tmps := (st19 p n o (b.set i 0) ((i : Int) - 1) false).a } (hX o (b.set i 0)) := by
  have hi' : i < b.length := by omega
  have hs := set_get hb hi
  have hi2 : i < (b.set i (b.getD i 0 + 1)).length := by rw [List.length_set]; exact hi'
  refine rnd (s := st19 p n o b i false) (t := st19 p n o (b.set i 0) ((i : Int) - 1) false) clok19 (lpNo _) ((congrArg Tree.sel (run19 p n o (b.map I) i)).trans ?_) rfl
  rw [Int.toNat_natCast, map_getD _ hi', wrapI (n := b.getD i 0 + 1) (by omega), map_setL _ hi', map_setL _ hi2, map_getD _ hi2, hs, List.set_set, wrapI (n := (i : Int) - 1) (by omega)]
  refine (selIt (dT (by omega))).trans (t_need ⟨by omega, by omega, rfl⟩ (t_need ⟨rfl, _, map_get _ hi'⟩ (t_need ⟨by omega, by omega, rfl⟩ (t_need ⟨rfl, by rw [List.length_map]; exact hi'⟩ (t_need ⟨by omega, by omega, rfl⟩ (t_need ⟨rfl, _, map_get _ hi2⟩ (t_need ⟨by omega, by omega⟩ ?_)))))))
  exact (selIf (dF hn)).trans (t_need ⟨by omega, by omega, rfl⟩ (t_need ⟨rfl, by rw [List.length_map]; exact hi2⟩ rfl))
omit hk in
theorem round19s (hn : b.getD i 0 + 1 < p.V.getD i 0) : AExec Try.prog G0 (fun q => q = none) body19 { tmps := (st19 p n o b i false).a } (hX o b) .ret { tmps := (st19 p n o (b.set i (b.getD i 0 + 1)) i true).a } (hX o (b.set i (b.getD i 0 + 1))) := by
  have hi' : i < b.length := by omega
  have hs := set_get hb hi
  have hi2 : i < (b.set i (b.getD i 0 + 1)).length := by rw [List.length_set]; exact hi'
  refine rnd (s := st19 p n o b i false) (t := st19 p n o (b.set i (b.getD i 0 + 1)) i true) clok19 (lpNo _) ((congrArg Tree.sel (run19 p n o (b.map I) i)).trans ?_) rfl
  rw [Int.toNat_natCast, map_getD _ hi', wrapI (n := b.getD i 0 + 1) (by omega), map_setL _ hi', map_getD _ hi2, hs]
  refine (selIt (dT (by omega))).trans (t_need ⟨by omega, by omega, rfl⟩ (t_need ⟨rfl, _, map_get _ hi'⟩ (t_need ⟨by omega, by omega, rfl⟩ (t_need ⟨rfl, by rw [List.length_map]; exact hi'⟩ (t_need ⟨by omega, by omega, rfl⟩ (t_need ⟨rfl, _, map_get _ hi2⟩ (t_need ⟨by omega, by omega⟩ ?_)))))))
  exact (selIt (dT hn)).trans rfl
end
theorem run19L {p : Pb} {n : Nat} (hV : p.V.length = n) (hk : n ≤ 1000) (o : AObj) : ∀ (i : Nat) {b : List Int}, b.length = n → i ≤ n → (∀ k, -1000000 ≤ b.getD k 0 ∧ b.getD k 0 ≤ 1000000) →
    ∃ j : Int, ALoopRun Try.prog G0 (fun q => q = none) body19 { tmps := (st19 p n o b ((i : Int) - 1) false).a } (hX o b) (bif (nxt p.V i b).1 then .ret else .exit 0) { tmps := (st19 p n o (nxt p.V i b).2 j (nxt p.V i b).1).a } (hX o (nxt p.V i b).2)
  | 0, b, hb, _, _ => by
    refine ⟨-1, .stop ?_ nofun⟩
    refine rnd (s := st19 p n o b (-1) false) (t := st19 p n o b (-1) false) clok19 (lpNo _) ((congrArg Tree.sel (run19 p n o (b.map I) (-1))).trans ?_) rfl
    exact (selIf (dF (by omega))).trans rfl
  | i + 1, b, hb, hi, h0 => by
    have e : ((i + 1 : Nat) : Int) - 1 = i := by omega
    rw [e]
    unfold nxt
    by_cases hn : b.getD i 0 + 1 < p.V.getD i 0
    · rw [if_pos hn]
      exact ⟨i, .stop (round19s hb hV (by omega) (h0 i) o hn) nofun⟩
    · rw [if_neg hn]
      obtain ⟨j, hj⟩ := run19L hV hk o i (b := b.set i 0) (by rw [List.length_set]; exact hb) (by omega) fun k => by
        rw [getD_setL]
        split
        · omega
        · exact h0 k
      exact ⟨j, .next (round19g hb hV hk (by omega) (h0 i) o hn) hj⟩
/-- WHAT next DOES. -/
theorem c19 {p : Pb} {n : Nat} (hV : p.V.length = n) (hn : n ≤ 1000) (o : AObj) {b : List Int} (hb : b.length = n) (h0 : ∀ k, -1000000 ≤ b.getD k 0 ∧ b.getD k 0 ≤ 1000000) : ACall Try.prog G0 19 [pAV p, mX n] (hX o b) (.bool (nxt p.V n b).1) (hX o (nxt p.V n b).2) := by
  obtain ⟨j, hj⟩ := run19L hV hn o n hb (Nat.le_refl n) h0
  have e : (n : Int) - 1 = IntKind.i64.wrap ((n : Int) - 1) := (wrapI (by omega)).symm
  rw [e] at hj
  cases hq : (nxt p.V n b).1 with
  | true =>
    rw [hq] at hj
    exact ACall.says clok0 (lpB_run (S := st19 p n o b (IntKind.i64.wrap ((n : Int) - 1)) false) (X := st19 p n o (nxt p.V n b).2 j true) hj rfl (one_loop loops19)) (runF19a p n o b (nxt p.V n b).2 j) (says_need rfl says_leaf)
  | false =>
    rw [hq] at hj
    exact ACall.says clok0 (lpB_run (S := st19 p n o b (IntKind.i64.wrap ((n : Int) - 1)) false) (X := st19 p n o (nxt p.V n b).2 j false) hj rfl (one_loop loops19)) (runF19b p n o b (nxt p.V n b).2 j) (says_need rfl says_leaf)
end Go.Proofs.Ytngaihdpmoajeaa.Am

namespace Go.Proofs.Ytngaihdpmoajeaa.Am
open Go
set_option maxRecDepth 100000

/-- Each of a list is followed by the next one; z: what follows the last one. -/
def Ch (f : List Int → Bool × List Int) : List (List Int) → Bool × List Int → Prop
  | [], _ => True
  | [x], z => f x = z
  | x :: y :: l, z => f x = (true, y) ∧ Ch f (y :: l) z
theorem Ch.app {f : List Int → Bool × List Int} {y : List Int} {l2 : List (List Int)} {z : Bool × List Int} (h2 : Ch f (y :: l2) z) : ∀ {l1 : List (List Int)}, Ch f l1 (true, y) → Ch f (l1 ++ y :: l2) z
  | [], _ => h2
  | [_], h1 => ⟨h1, h2⟩
  | _ :: x' :: l, h1 => ⟨h1.1, Ch.app h2 (l1 := x' :: l) h1.2⟩
theorem Ch.at' {f : List Int → Bool × List Int} {z : Bool × List Int} : ∀ {A : List (List Int)}, Ch f A z → ∀ k, k < A.length → f (A.getD k []) = if k + 1 < A.length then (true, A.getD (k + 1) []) else z
  | [], _, k, hk => by simp at hk
  | [x], h, k, hk => by
    obtain rfl : k = 0 := by simpa using hk
    rw [if_neg (by simp)]
    exact h
  | x :: y :: l, h, 0, _ => by
    rw [if_pos (by simp)]
    exact h.1
  | x :: y :: l, h, k + 1, hk => by
    have := Ch.at' (A := y :: l) h.2 k (by simpa using hk)
    simp only [List.getD_cons_succ, List.length_cons, Nat.add_lt_add_iff_right] at this ⊢
    exact this
def zer (d : Nat) : List Int := List.replicate d 0
theorem zer_succ (d : Nat) : zer (d + 1) = 0 :: zer d := rfl
theorem getD_mid (a z : List Int) (k : Int) : (a ++ k :: z).getD a.length 0 = k := by simp [List.getD_eq_getElem?_getD]
theorem set_mid (a z : List Int) (k y : Int) : (a ++ k :: z).set a.length y = a ++ y :: z := by simp
theorem ch_block {p : Pb} {n d : Nat} {a : List Int} (hd : ∀ k : Int, ∃ l, allL p d (a ++ [k]) = (a ++ k :: zer d) :: l ∧ Ch (nxt p.V n) (allL p d (a ++ [k])) (nxt p.V (a.length + 1) (a ++ k :: zer d))) :
    ∀ (m : Nat) (k : Int), p.V.getD a.length 0 = k + (m + 1) → ∃ l, ((rng (m + 1) k).flatMap fun k => allL p d (a ++ [k])) = (a ++ k :: zer d) :: l ∧ Ch (nxt p.V n) ((rng (m + 1) k).flatMap fun k => allL p d (a ++ [k])) (nxt p.V a.length (a ++ zer (d + 1)))
  | 0, k, hk => by
    obtain ⟨l, h1, h2⟩ := hd k
    have e : ((rng 1 k).flatMap fun k => allL p d (a ++ [k])) = allL p d (a ++ [k]) := by simp [rng]
    rw [e]
    refine ⟨l, h1, ?_⟩
    have e2 : nxt p.V (a.length + 1) (a ++ k :: zer d) = nxt p.V a.length (a ++ zer (d + 1)) := by
      show (if (a ++ k :: zer d).getD a.length 0 + 1 < p.V.getD a.length 0 then _ else _) = _
      rw [getD_mid, if_neg (by omega), set_mid]
      rfl
    rwa [e2] at h2
  | m + 1, k, hk => by
    obtain ⟨l, h1, h2⟩ := hd k
    obtain ⟨l', h3, h4⟩ := ch_block hd m (k + 1) (by omega)
    have e : ((rng (m + 1 + 1) k).flatMap fun k => allL p d (a ++ [k])) = allL p d (a ++ [k]) ++ ((rng (m + 1) (k + 1)).flatMap fun k => allL p d (a ++ [k])) := by
      show (k :: rng (m + 1) (k + 1)).flatMap _ = _
      rw [List.flatMap_cons]
    rw [e]
    refine ⟨l ++ ((rng (m + 1) (k + 1)).flatMap fun k => allL p d (a ++ [k])), by rw [h1, List.cons_append], ?_⟩
    have e2 : nxt p.V (a.length + 1) (a ++ k :: zer d) = (true, a ++ (k + 1) :: zer d) := by
      show (if (a ++ k :: zer d).getD a.length 0 + 1 < p.V.getD a.length 0 then _ else _) = _
      rw [getD_mid, if_pos (by omega), set_mid]
    rw [e2] at h2
    rw [h3] at h4 ⊢
    exact Ch.app h4 h2
theorem ch_all {p : Pb} (hV : ∀ i, i < p.V.length → 1 ≤ p.V.getD i 0) {n : Nat} (hn : n = p.V.length) : ∀ (d : Nat) (a : List Int), a.length + d = n → ∃ l, allL p d a = (a ++ zer d) :: l ∧ Ch (nxt p.V n) (allL p d a) (nxt p.V a.length (a ++ zer d))
  | 0, a, h => by
    have e : a ++ zer 0 = a := List.append_nil a
    rw [e]
    have e2 : a.length = n := by omega
    rw [e2]
    exact ⟨[], rfl, rfl⟩
  | d + 1, a, h => by
    have hv := hV a.length (by omega)
    obtain ⟨m, hm⟩ : ∃ m : Nat, p.V.getD a.length 0 = 0 + ((m : Int) + 1) := ⟨(p.V.getD a.length 0).toNat - 1, by omega⟩
    have e : (p.V.getD a.length 0).toNat = m + 1 := by omega
    have := ch_block (p := p) (n := n) (d := d) (a := a) (fun k => by
      have ih := ch_all hV hn d (a ++ [k]) (by rw [List.length_append, List.length_singleton]; omega)
      rw [List.length_append, List.length_singleton, List.append_assoc] at ih
      exact ih) m 0 hm
    unfold allL
    rw [e]
    exact this
theorem allL_bound {p : Pb} (hV : ∀ i, p.V.getD i 0 ≤ 4) : ∀ (d : Nat) (a : List Int), (allL p d a).length ≤ 4 ^ d
  | 0, _ => Nat.le_refl _
  | d + 1, a => by
    have hv := hV a.length
    have key : ∀ (m : Nat) (k : Int), ((rng m k).flatMap fun k => allL p d (a ++ [k])).length ≤ m * 4 ^ d := by
      intro m
      induction m with
      | zero => intro k; simp [rng]
      | succ m ih =>
        intro k
        show ((k :: rng m (k + 1)).flatMap _).length ≤ _
        rw [List.flatMap_cons, List.length_append, Nat.succ_mul]
        have := ih (k + 1)
        have := allL_bound hV d (a ++ [k])
        omega
    unfold allL
    refine Nat.le_trans (key _ 0) ?_
    rw [Nat.pow_succ, Nat.mul_comm]
    exact Nat.mul_le_mul_left _ (by omega)
/-- ALL ASSIGNMENTS, one after the other. -/
theorem all_next {p : Pb} (hp : Ok p) : ∃ z, (allL p p.V.length []).head? = some (zer p.V.length) ∧ (∀ k, k < (allL p p.V.length []).length → nxt p.V p.V.length ((allL p p.V.length []).getD k []) = if k + 1 < (allL p p.V.length []).length then (true, (allL p p.V.length []).getD (k + 1) []) else (false, z)) := by
  obtain ⟨l, h1, h2⟩ := ch_all (fun i hi => (hp.v i hi).1) (n := p.V.length) rfl p.V.length [] (by simp)
  refine ⟨zer p.V.length, by rw [h1]; rfl, fun k hk => ?_⟩
  exact h2.at' k hk
end Go.Proofs.Ytngaihdpmoajeaa.Am

namespace Go.Proofs.Ytngaihdpmoajeaa.Am
open Go
set_option maxRecDepth 100000

/-- A new slice of zeros. -/
def hMkZ (r n : Nat) : Heap → Oper → (Operand → Option AV) → Option (AV × Bool × Heap × Prop) := fun h o ρ => match o.op with
  | .makeSlice 22 l c => some (.ms 1 r 0 0 n n, true, h ++ [.cells 0 ((zer n).map I)], ρ l = some (I n) ∧ ρ c = some (I n) ∧ h.length = r ∧ n ≤ 16777216)
  | _ => none
theorem hMkZ_ok (r n : Nat) : HintA Try.prog (hMkZ r n) := by
  intro h o ρ y s h' p hh hp
  unfold hMkZ at hh
  split at hh <;> first | (cases hh; done) | skip
  rename_i l c ho
  cases hh
  obtain ⟨p1, p2, rfl, p4⟩ := hp
  have hz : aZero Try.prog 3 = some (I 0) := by kernel_rfl
  unfold aopR
  simp only [ho, p1, p2]
  rw [make46 h el22 hz rfl p4, repl_map]
  rfl
def optV : Option (List Int) → AV
  | none => .zs
  | some x => flL x
noncomputable def body4 : Code := (loopsOf (bodyOf Try.prog 4)).headD .skip
theorem loops4 : loopsOf (bodyOf Try.prog 4) = [body4] := by kernel_rfl
def st4 (p : Pb) (n : Nat) (bv fv : AV) (bc c : Int) (more : Bool) (b : List Int) : St := .of 125 (hX (.cells 0 (pbC p)) b) [(2, .bool false, false), (3, .ref 0 0 0, true), (4, mX n, true), (5, bv, true), (6, fv, true), (7, I bc, true), (8, I c, true), (9, .bool more, true)]
def kp4 : List Nat := [2, 3, 4, 5, 6, 7, 8, 9]
def E4 (q : Prop) (p : Pb) (n : Nat) (b b' : List Int) (ok : Bool) (cost : Int) (m : Bool) : Env := { boxRow := false, clh := clhq q [(20, [pAV p, mX n], hX (.cells 0 (pbC p)) b, .tup [.bool ok, I cost], hX (.cells 0 (pbC p)) b), (14, [mX n], hX (.cells 0 (pbC p)) b, flL b, hX (.cells 0 (pbC p)) b), (19, [pAV p, mX n], hX (.cells 0 (pbC p)) b, .bool m, hX (.cells 0 (pbC p)) b')] }
theorem run4 (q : Prop) (p : Pb) (n : Nat) (bv fv : AV) (bc c : Int) (more : Bool) (b b' : List Int) (ok : Bool) (cost : Int) (m : Bool) : xBody Try.prog G0 (E4 q p n b b' ok cost m) 200 noLoops kp4 body4 (st4 p n bv fv bc c more b) = .ite (more) (.need (q) (.need (([(AV.agg [(flL (p.V)), (flLL (p.C)), (flR (p.R))]), (AV.ms (1 : Nat) (1 : Nat) (0 : Nat) (0 : Nat) n n)] = [(AV.agg [(flL (p.V)), (flLL (p.C)), (flR (p.R))]), (AV.ms (1 : Nat) (1 : Nat) (0 : Nat) (0 : Nat) n n)]) ∧ ([(AObj.cells (0 : Nat) [(flL (p.V)), (flLL (p.C)), (flR (p.R))]), (AObj.cells (0 : Nat) (List.map I b))] = [(AObj.cells (0 : Nat) [(flL (p.V)), (flLL (p.C)), (flR (p.R))]), (AObj.cells (0 : Nat) (List.map I b))])) (.ite (!ok) (.need (q) (.need (([(AV.agg [(flL (p.V)), (flLL (p.C)), (flR (p.R))]), (AV.ms (1 : Nat) (1 : Nat) (0 : Nat) (0 : Nat) n n)] = [(AV.agg [(flL (p.V)), (flLL (p.C)), (flR (p.R))]), (AV.ms (1 : Nat) (1 : Nat) (0 : Nat) (0 : Nat) n n)]) ∧ ([(AObj.cells (0 : Nat) [(flL (p.V)), (flLL (p.C)), (flR (p.R))]), (AObj.cells (0 : Nat) (List.map I b))] = [(AObj.cells (0 : Nat) [(flL (p.V)), (flLL (p.C)), (flR (p.R))]), (AObj.cells (0 : Nat) (List.map I b))])) (.leaf (Exit.normal, St.of 125 [(AObj.cells (0 : Nat) [(flL (p.V)), (flLL (p.C)), (flR (p.R))]), (AObj.cells (0 : Nat) (List.map I b'))] [(2, (AV.bool false), false), (3, (AV.ref (0 : Nat) (0 : Nat) (0 : Nat)), true), (4, (AV.ms (1 : Nat) (1 : Nat) (0 : Nat) (0 : Nat) n n), true), (5, bv, true), (6, fv, true), (7, (I bc), true), (8, (I c), true), (9, (AV.bool m), true)])))) (.ite (IntKind.i64.wrap (c + (1 : Int)) == (1 : Int)) (.need (q) (.need (([(AV.ms (1 : Nat) (1 : Nat) (0 : Nat) (0 : Nat) n n)] = [(AV.ms (1 : Nat) (1 : Nat) (0 : Nat) (0 : Nat) n n)]) ∧ ([(AObj.cells (0 : Nat) [(flL (p.V)), (flLL (p.C)), (flR (p.R))]), (AObj.cells (0 : Nat) (List.map I b))] = [(AObj.cells (0 : Nat) [(flL (p.V)), (flLL (p.C)), (flR (p.R))]), (AObj.cells (0 : Nat) (List.map I b))])) (.ite (IntKind.i64.wrap (c + (1 : Int)) == (1 : Int)) (.need (q) (.need (([(AV.ms (1 : Nat) (1 : Nat) (0 : Nat) (0 : Nat) n n)] = [(AV.ms (1 : Nat) (1 : Nat) (0 : Nat) (0 : Nat) n n)]) ∧ ([(AObj.cells (0 : Nat) [(flL (p.V)), (flLL (p.C)), (flR (p.R))]), (AObj.cells (0 : Nat) (List.map I b))] = [(AObj.cells (0 : Nat) [(flL (p.V)), (flLL (p.C)), (flR (p.R))]), (AObj.cells (0 : Nat) (List.map I b))])) (.need (q) (.need (([(AV.agg [(flL (p.V)), (flLL (p.C)), (flR (p.R))]), (AV.ms (1 : Nat) (1 : Nat) (0 : Nat) (0 : Nat) n n)] = [(AV.agg [(flL (p.V)), (flLL (p.C)), (flR (p.R))]), (AV.ms (1 : Nat) (1 : Nat) (0 : Nat) (0 : Nat) n n)]) ∧ ([(AObj.cells (0 : Nat) [(flL (p.V)), (flLL (p.C)), (flR (p.R))]), (AObj.cells (0 : Nat) (List.map I b))] = [(AObj.cells (0 : Nat) [(flL (p.V)), (flLL (p.C)), (flR (p.R))]), (AObj.cells (0 : Nat) (List.map I b))])) (.leaf (Exit.normal, St.of 125 [(AObj.cells (0 : Nat) [(flL (p.V)), (flLL (p.C)), (flR (p.R))]), (AObj.cells (0 : Nat) (List.map I b'))] [(2, (AV.bool false), false), (3, (AV.ref (0 : Nat) (0 : Nat) (0 : Nat)), true), (4, (AV.ms (1 : Nat) (1 : Nat) (0 : Nat) (0 : Nat) n n), true), (5, (flL (b)), true), (6, (flL (b)), true), (7, (I cost), true), (8, (I (IntKind.i64.wrap (c + (1 : Int)))), true), (9, (AV.bool m), true)])))))) (.ite (decide (cost < bc)) (.need (q) (.need (([(AV.ms (1 : Nat) (1 : Nat) (0 : Nat) (0 : Nat) n n)] = [(AV.ms (1 : Nat) (1 : Nat) (0 : Nat) (0 : Nat) n n)]) ∧ ([(AObj.cells (0 : Nat) [(flL (p.V)), (flLL (p.C)), (flR (p.R))]), (AObj.cells (0 : Nat) (List.map I b))] = [(AObj.cells (0 : Nat) [(flL (p.V)), (flLL (p.C)), (flR (p.R))]), (AObj.cells (0 : Nat) (List.map I b))])) (.need (q) (.need (([(AV.agg [(flL (p.V)), (flLL (p.C)), (flR (p.R))]), (AV.ms (1 : Nat) (1 : Nat) (0 : Nat) (0 : Nat) n n)] = [(AV.agg [(flL (p.V)), (flLL (p.C)), (flR (p.R))]), (AV.ms (1 : Nat) (1 : Nat) (0 : Nat) (0 : Nat) n n)]) ∧ ([(AObj.cells (0 : Nat) [(flL (p.V)), (flLL (p.C)), (flR (p.R))]), (AObj.cells (0 : Nat) (List.map I b))] = [(AObj.cells (0 : Nat) [(flL (p.V)), (flLL (p.C)), (flR (p.R))]), (AObj.cells (0 : Nat) (List.map I b))])) (.leaf (Exit.normal, St.of 125 [(AObj.cells (0 : Nat) [(flL (p.V)), (flLL (p.C)), (flR (p.R))]), (AObj.cells (0 : Nat) (List.map I b'))] [(2, (AV.bool false), false), (3, (AV.ref (0 : Nat) (0 : Nat) (0 : Nat)), true), (4, (AV.ms (1 : Nat) (1 : Nat) (0 : Nat) (0 : Nat) n n), true), (5, (flL (b)), true), (6, (flL (b)), true), (7, (I cost), true), (8, (I (IntKind.i64.wrap (c + (1 : Int)))), true), (9, (AV.bool m), true)])))))) (.need (q) (.need (([(AV.agg [(flL (p.V)), (flLL (p.C)), (flR (p.R))]), (AV.ms (1 : Nat) (1 : Nat) (0 : Nat) (0 : Nat) n n)] = [(AV.agg [(flL (p.V)), (flLL (p.C)), (flR (p.R))]), (AV.ms (1 : Nat) (1 : Nat) (0 : Nat) (0 : Nat) n n)]) ∧ ([(AObj.cells (0 : Nat) [(flL (p.V)), (flLL (p.C)), (flR (p.R))]), (AObj.cells (0 : Nat) (List.map I b))] = [(AObj.cells (0 : Nat) [(flL (p.V)), (flLL (p.C)), (flR (p.R))]), (AObj.cells (0 : Nat) (List.map I b))])) (.leaf (Exit.normal, St.of 125 [(AObj.cells (0 : Nat) [(flL (p.V)), (flLL (p.C)), (flR (p.R))]), (AObj.cells (0 : Nat) (List.map I b'))] [(2, (AV.bool false), false), (3, (AV.ref (0 : Nat) (0 : Nat) (0 : Nat)), true), (4, (AV.ms (1 : Nat) (1 : Nat) (0 : Nat) (0 : Nat) n n), true), (5, bv, true), (6, (flL (b)), true), (7, (I bc), true), (8, (I (IntKind.i64.wrap (c + (1 : Int)))), true), (9, (AV.bool m), true)])))))))) (.ite (IntKind.i64.wrap (c + (1 : Int)) == (1 : Int)) (.need (q) (.need (([(AV.ms (1 : Nat) (1 : Nat) (0 : Nat) (0 : Nat) n n)] = [(AV.ms (1 : Nat) (1 : Nat) (0 : Nat) (0 : Nat) n n)]) ∧ ([(AObj.cells (0 : Nat) [(flL (p.V)), (flLL (p.C)), (flR (p.R))]), (AObj.cells (0 : Nat) (List.map I b))] = [(AObj.cells (0 : Nat) [(flL (p.V)), (flLL (p.C)), (flR (p.R))]), (AObj.cells (0 : Nat) (List.map I b))])) (.need (q) (.need (([(AV.agg [(flL (p.V)), (flLL (p.C)), (flR (p.R))]), (AV.ms (1 : Nat) (1 : Nat) (0 : Nat) (0 : Nat) n n)] = [(AV.agg [(flL (p.V)), (flLL (p.C)), (flR (p.R))]), (AV.ms (1 : Nat) (1 : Nat) (0 : Nat) (0 : Nat) n n)]) ∧ ([(AObj.cells (0 : Nat) [(flL (p.V)), (flLL (p.C)), (flR (p.R))]), (AObj.cells (0 : Nat) (List.map I b))] = [(AObj.cells (0 : Nat) [(flL (p.V)), (flLL (p.C)), (flR (p.R))]), (AObj.cells (0 : Nat) (List.map I b))])) (.leaf (Exit.normal, St.of 125 [(AObj.cells (0 : Nat) [(flL (p.V)), (flLL (p.C)), (flR (p.R))]), (AObj.cells (0 : Nat) (List.map I b'))] [(2, (AV.bool false), false), (3, (AV.ref (0 : Nat) (0 : Nat) (0 : Nat)), true), (4, (AV.ms (1 : Nat) (1 : Nat) (0 : Nat) (0 : Nat) n n), true), (5, (flL (b)), true), (6, fv, true), (7, (I cost), true), (8, (I (IntKind.i64.wrap (c + (1 : Int)))), true), (9, (AV.bool m), true)])))))) (.ite (decide (cost < bc)) (.need (q) (.need (([(AV.ms (1 : Nat) (1 : Nat) (0 : Nat) (0 : Nat) n n)] = [(AV.ms (1 : Nat) (1 : Nat) (0 : Nat) (0 : Nat) n n)]) ∧ ([(AObj.cells (0 : Nat) [(flL (p.V)), (flLL (p.C)), (flR (p.R))]), (AObj.cells (0 : Nat) (List.map I b))] = [(AObj.cells (0 : Nat) [(flL (p.V)), (flLL (p.C)), (flR (p.R))]), (AObj.cells (0 : Nat) (List.map I b))])) (.need (q) (.need (([(AV.agg [(flL (p.V)), (flLL (p.C)), (flR (p.R))]), (AV.ms (1 : Nat) (1 : Nat) (0 : Nat) (0 : Nat) n n)] = [(AV.agg [(flL (p.V)), (flLL (p.C)), (flR (p.R))]), (AV.ms (1 : Nat) (1 : Nat) (0 : Nat) (0 : Nat) n n)]) ∧ ([(AObj.cells (0 : Nat) [(flL (p.V)), (flLL (p.C)), (flR (p.R))]), (AObj.cells (0 : Nat) (List.map I b))] = [(AObj.cells (0 : Nat) [(flL (p.V)), (flLL (p.C)), (flR (p.R))]), (AObj.cells (0 : Nat) (List.map I b))])) (.leaf (Exit.normal, St.of 125 [(AObj.cells (0 : Nat) [(flL (p.V)), (flLL (p.C)), (flR (p.R))]), (AObj.cells (0 : Nat) (List.map I b'))] [(2, (AV.bool false), false), (3, (AV.ref (0 : Nat) (0 : Nat) (0 : Nat)), true), (4, (AV.ms (1 : Nat) (1 : Nat) (0 : Nat) (0 : Nat) n n), true), (5, (flL (b)), true), (6, fv, true), (7, (I cost), true), (8, (I (IntKind.i64.wrap (c + (1 : Int)))), true), (9, (AV.bool m), true)])))))) (.need (q) (.need (([(AV.agg [(flL (p.V)), (flLL (p.C)), (flR (p.R))]), (AV.ms (1 : Nat) (1 : Nat) (0 : Nat) (0 : Nat) n n)] = [(AV.agg [(flL (p.V)), (flLL (p.C)), (flR (p.R))]), (AV.ms (1 : Nat) (1 : Nat) (0 : Nat) (0 : Nat) n n)]) ∧ ([(AObj.cells (0 : Nat) [(flL (p.V)), (flLL (p.C)), (flR (p.R))]), (AObj.cells (0 : Nat) (List.map I b))] = [(AObj.cells (0 : Nat) [(flL (p.V)), (flLL (p.C)), (flR (p.R))]), (AObj.cells (0 : Nat) (List.map I b))])) (.leaf (Exit.normal, St.of 125 [(AObj.cells (0 : Nat) [(flL (p.V)), (flLL (p.C)), (flR (p.R))]), (AObj.cells (0 : Nat) (List.map I b'))] [(2, (AV.bool false), false), (3, (AV.ref (0 : Nat) (0 : Nat) (0 : Nat)), true), (4, (AV.ms (1 : Nat) (1 : Nat) (0 : Nat) (0 : Nat) n n), true), (5, bv, true), (6, fv, true), (7, (I bc), true), (8, (I (IntKind.i64.wrap (c + (1 : Int)))), true), (9, (AV.bool m), true)])))))))))) (.leaf ((Exit.exit (0 : Nat)), St.of 125 [(AObj.cells (0 : Nat) [(flL (p.V)), (flLL (p.C)), (flR (p.R))]), (AObj.cells (0 : Nat) (List.map I b))] [(2, (AV.bool false), false), (3, (AV.ref (0 : Nat) (0 : Nat) (0 : Nat)), true), (4, (AV.ms (1 : Nat) (1 : Nat) (0 : Nat) (0 : Nat) n n), true), (5, bv, true), (6, fv, true), (7, (I bc), true), (8, (I c), true), (9, (AV.bool more), true)])) := by kernel_rfl
def k4 (x : Pz) (p : Pb) (bv fv a f : AV) (c e g n h : Int) : List (FuncId × (List AV → Prop) × (List AV → AV)) :=
  [(18, is1 [pzAV x] (pAV p)), (21, is1 [pAV p] (.tup [a, I c, I e])), (22, is1 [pAV p] (.tup [f, I g])), (16, is1 [pAV p, I 1000000] (.tup [I n, I h])), (23, is2 [a, bv] [f, fv] (.bool true)), (12, is1 [] (.bool true))]
def E4F (x : Pz) (p : Pb) (n : Nat) (bv fv a f : AV) (c e g m h : Int) : Env := { EN (k4 x p bv fv a f c e g m h) (orH (hStA 26 0) (hMkZ 1 n)) with boxRow := true }
theorem runF4 (x : Pz) (p : Pb) (bv fv : AV) (a f : List Int) (c e g m h bc cn : Int) (b' : List Int) : xenter Try.prog (E4F x p p.V.length bv fv (flL a) (flL f) c e g m h) (xCode Try.prog G0 (E4F x p p.V.length bv fv (flL a) (flL f) c e g m h) 200 (lpB 6 kp4 (st4 p p.V.length .zs .zs 0 0 true (zer p.V.length)) (.exit 0) (st4 p p.V.length bv fv bc cn false b'))) 4 [pzAV x] [true] [] = .need ([(AV.agg [(flB (x.V)), (flB (x.C)), (flC (x.R))])] = [(AV.agg [(flB (x.V)), (flB (x.C)), (flC (x.R))])]) (.need (((Option.some (3 : Nat)) = (Option.some (3 : Nat))) ∧ ((true = true) ∧ ((3 : Nat) ≤ (3 : Nat)))) (.need (((Option.some (I ((↑p.V.length : Int)))) = (Option.some (I ((↑p.V.length : Int))))) ∧ (((Option.some (I ((↑p.V.length : Int)))) = (Option.some (I ((↑p.V.length : Int))))) ∧ (((1 : Nat) = (1 : Nat)) ∧ (p.V.length ≤ (16777216 : Nat))))) (.need ((st4 p p.V.length .zs .zs 0 0 true (zer p.V.length)).vals = (st4 p p.V.length .zs .zs 0 0 true (zer p.V.length)).vals) (.need ([(AV.agg [(flL (p.V)), (flLL (p.C)), (flR (p.R))])] = [(AV.agg [(flL (p.V)), (flLL (p.C)), (flR (p.R))])]) (.need ([(AV.agg [(flL (p.V)), (flLL (p.C)), (flR (p.R))])] = [(AV.agg [(flL (p.V)), (flLL (p.C)), (flR (p.R))])]) (.need ([(AV.agg [(flL (p.V)), (flLL (p.C)), (flR (p.R))]), (I ((1000000 : Int)))] = [(AV.agg [(flL (p.V)), (flLL (p.C)), (flR (p.R))]), (I ((1000000 : Int)))]) (.ite (h != (0 : Int)) (.leaf ((AV.bool false), false, [(AObj.cells (0 : Nat) [(flL (p.V)), (flLL (p.C)), (flR (p.R))]), (AObj.cells (0 : Nat) (List.map I b'))])) (.ite (m != cn) (.leaf ((AV.bool false), false, [(AObj.cells (0 : Nat) [(flL (p.V)), (flLL (p.C)), (flR (p.R))]), (AObj.cells (0 : Nat) (List.map I b'))])) (.ite (cn == (0 : Int)) (.ite (e == (7 : Int)) (.ite (g == (7 : Int)) (.ite ((↑a.length : Int) == (0 : Int)) (.ite (c == (0 : Int)) (.ite ((↑f.length : Int) == (0 : Int)) (.need (([] : List AV) = []) (.leaf ((AV.bool true), true, [(AObj.cells (0 : Nat) [(flL (p.V)), (flLL (p.C)), (flR (p.R))]), (AObj.cells (0 : Nat) (List.map I b'))]))) (.leaf ((AV.bool false), false, [(AObj.cells (0 : Nat) [(flL (p.V)), (flLL (p.C)), (flR (p.R))]), (AObj.cells (0 : Nat) (List.map I b'))]))) (.leaf ((AV.bool false), false, [(AObj.cells (0 : Nat) [(flL (p.V)), (flLL (p.C)), (flR (p.R))]), (AObj.cells (0 : Nat) (List.map I b'))]))) (.leaf ((AV.bool false), false, [(AObj.cells (0 : Nat) [(flL (p.V)), (flLL (p.C)), (flR (p.R))]), (AObj.cells (0 : Nat) (List.map I b'))]))) (.leaf ((AV.bool false), false, [(AObj.cells (0 : Nat) [(flL (p.V)), (flLL (p.C)), (flR (p.R))]), (AObj.cells (0 : Nat) (List.map I b'))]))) (.leaf ((AV.bool false), false, [(AObj.cells (0 : Nat) [(flL (p.V)), (flLL (p.C)), (flR (p.R))]), (AObj.cells (0 : Nat) (List.map I b'))]))) (.ite (e == (0 : Int)) (.ite (g == (0 : Int)) (.need (([(flL (a)), bv] = [(flL (a)), bv]) ∨ ([(flL (a)), bv] = [(flL (f)), fv])) (.ite (true) (.ite (c == bc) (.need (([(flL (f)), fv] = [(flL (a)), bv]) ∨ ([(flL (f)), fv] = [(flL (f)), fv])) (.ite (true) (.need (([] : List AV) = []) (.leaf ((AV.bool true), true, [(AObj.cells (0 : Nat) [(flL (p.V)), (flLL (p.C)), (flR (p.R))]), (AObj.cells (0 : Nat) (List.map I b'))]))) (.leaf ((AV.bool false), false, [(AObj.cells (0 : Nat) [(flL (p.V)), (flLL (p.C)), (flR (p.R))]), (AObj.cells (0 : Nat) (List.map I b'))])))) (.leaf ((AV.bool false), false, [(AObj.cells (0 : Nat) [(flL (p.V)), (flLL (p.C)), (flR (p.R))]), (AObj.cells (0 : Nat) (List.map I b'))]))) (.leaf ((AV.bool false), false, [(AObj.cells (0 : Nat) [(flL (p.V)), (flLL (p.C)), (flR (p.R))]), (AObj.cells (0 : Nat) (List.map I b'))])))) (.leaf ((AV.bool false), false, [(AObj.cells (0 : Nat) [(flL (p.V)), (flLL (p.C)), (flR (p.R))]), (AObj.cells (0 : Nat) (List.map I b'))]))) (.leaf ((AV.bool false), false, [(AObj.cells (0 : Nat) [(flL (p.V)), (flLL (p.C)), (flR (p.R))]), (AObj.cells (0 : Nat) (List.map I b'))])))))))))))) := by kernel_rfl
end Go.Proofs.Ytngaihdpmoajeaa.Am

namespace Go.Proofs.Ytngaihdpmoajeaa.Am
open Go
set_option maxRecDepth 100000

theorem ok_sh {p : Pb} (hp : Ok p) : p.sh := by
  have h1 := hp.n
  have h2 := hp.c
  have h3 := hp.r
  have e : ∀ {α : Type} {L : List α}, L.length ≤ 4000 → sh L := fun {α L} h => by
    show L.length < _
    omega
  exact ⟨e (by omega), e (by omega), fun l hl => e (by have := cost_small hp l hl; omega), e (by omega), fun x hx => by
    have := rule_small hp (hp.rl x hx)
    exact ⟨e (by omega), e (by omega), fun l hl => e (by have := this.2.2 l hl; omega)⟩⟩
/-! ### Calls on an assignment of one's own -/
theorem frz_mX {o : AObj} {b : List Int} {n : Nat} (hb : b.length = n) : Frz (hX o b) (mX n) (slL b) := by
  refine .inr (.inr ⟨1, 0, b.map I, ?_, rfl, fun y hy => ?_, rfl⟩)
  · rw [List.length_map, hb]; rfl
  · obtain ⟨k, _, rfl⟩ := List.mem_map.1 hy
    exact .int _ _
theorem c20m {p : Pb} (hp : Ok p) {b : List Int} (hb : Full p b) {n : Nat} (hn : b.length = n) (o : AObj) : ACall Try.prog G0 20 [pAV p, mX n] (hX o b) (.tup [.bool (posB p b false), I (costA p b)]) (hX o b) := by
  have h1 : ACall Try.prog G0 20 [pAV p, slL b] [] (.tup [.bool (posB p b false), I (costA p b)]) [] := (c20 (ok_sh hp) hp hb []).arg2 (Sub.rfl' _) (sub_slL b)
  refine h1.frz gbelow0 (flat_tup2 (.bool _) (.int _ _)) rfl fun j x' hj => ?_
  match j, hj with
  | 0, hj => cases hj; exact ⟨_, rfl, .inr (.inl ⟨below_pAV p, rfl⟩)⟩
  | 1, hj => cases hj; exact ⟨_, rfl, frz_mX hn⟩
  | j + 2, hj => simp at hj
theorem sub_ms0 : Sub (mX 0) z0 := fun _ _ _ h => by
  unfold mX at h
  cases h <;> exact .sl0 _ _ _
theorem c14x {b : List Int} {n : Nat} (hn : b.length = n) (hl : n ≤ 1000) (o : AObj) : ACall Try.prog G0 14 [mX n] (hX o b) (flL b) (hX o b) := by
  subst hn
  cases b with
  | nil => exact ((c14e _).arg1 sub_ms0).conv fun _ _ _ h => h.flL_zs
  | cons x l => exact (c14m (L := x :: l) (by simp) (by omega) (h := hX o (x :: l)) (r := 1) (g := 0) rfl).newL
/-! ### What has been seen of all assignments -/
def solT (p : Pb) (A : List (List Int)) (k : Nat) : List (List Int) := (A.take k).filter fun x => posB p x false
def bstT (p : Pb) (A : List (List Int)) (k : Nat) : Option (List Int) := (solT p A k).foldl (bstep p) none
def cstO (p : Pb) : Option (List Int) → Int
  | none => 0
  | some x => costA p x
theorem solT_succ (p : Pb) {A : List (List Int)} {k : Nat} (hk : k < A.length) : solT p A (k + 1) = bif posB p (A.getD k []) false then solT p A k ++ [A.getD k []] else solT p A k := by
  unfold solT
  rw [take_succL hk, List.filter_append]
  generalize A.getD k [] = x
  cases h : posB p x false <;> simp [h]
theorem bstep_some (p : Pb) (b : Option (List Int)) (x : List Int) : b.isSome = true → (bstep p b x).isSome = true := fun h => by
  unfold bstep
  cases btr p (costA p x) b with
  | true => rfl
  | false => exact h
theorem fold_some (p : Pb) : ∀ (l : List (List Int)) (b : Option (List Int)), b.isSome = true → (l.foldl (bstep p) b).isSome = true
  | [], _, h => h
  | x :: l, b, h => fold_some p l (bstep p b x) (bstep_some p b x h)
theorem best_none (p : Pb) {l : List (List Int)} (h : l.foldl (bstep p) none = none) : l = [] := by
  cases l with
  | nil => rfl
  | cons x r =>
    have := fold_some p r (bstep p none x) rfl
    rw [List.foldl_cons] at h
    rw [h] at this
    cases this
theorem bstep_none (p : Pb) (x : List Int) : bstep p none x = some x := rfl
/-! ### The loop -/
def S4 (p : Pb) (A : List (List Int)) (z : List Int) (k : Nat) : St := st4 p p.V.length (optV (bstT p A k)) (optV (solT p A k).head?) (cstO p (bstT p A k)) (solT p A k).length (decide (k < A.length)) (if k < A.length then A.getD k [] else z)
theorem all_full {p : Pb} {x : List Int} (hx : x ∈ allL p p.V.length []) : Full p x :=
  ⟨allL_beg _ (beg_nil p) (by simp) hx, by rw [allL_len p _ hx]; simp⟩
theorem full_small {p : Pb} (hp : Ok p) {x : List Int} (hx : Full p x) (k : Nat) : -1000000 ≤ x.getD k 0 ∧ x.getD k 0 ≤ 1000000 := by
  by_cases hk : k < x.length
  · have h1 := hx.1.at' k hk
    have h2 := hp.v k (by have := hx.2; omega)
    omega
  · rw [List.getD_eq_getElem?_getD, List.getElem?_eq_none (by omega)]
    exact ⟨by decide, by decide⟩
theorem optV_flL (x : List Int) : optV (some x) = flL x := rfl
theorem loop4 {p : Pb} (hp : Ok p) (hlen : (allL p p.V.length []).length ≤ 1000000) : ∃ z, LoopA body4 (allL p p.V.length []).length (S4 p (allL p p.V.length []) z) (S4 p (allL p p.V.length []) z) (S4 p (allL p p.V.length []) z (allL p p.V.length []).length) .ret (.exit 0) fun _ => false := by
  obtain ⟨z, _, hnx⟩ := all_next hp
  refine ⟨z, ?_⟩
  generalize hA : allL p p.V.length [] = A at hnx hlen
  have hn := hp.n
  refine .lin (fun _ => rfl) rfl nofun fun k hk => ?_
  have hfull : k < A.length → Full p (A.getD k []) := fun h => all_full (by rw [hA]; exact getD_mem h)
  have key := congrArg Tree.sel (run4 (k < A.length) p p.V.length (optV (bstT p A k)) (optV (solT p A k).head?) (cstO p (bstT p A k)) (solT p A k).length (decide (k < A.length)) (if k < A.length then A.getD k [] else z) (if k + 1 < A.length then A.getD (k + 1) [] else z) (posB p (A.getD k []) false) (costA p (A.getD k [])) (decide (k + 1 < A.length)))
  have hcl : ClOk Try.prog G0 (E4 (k < A.length) p p.V.length (if k < A.length then A.getD k [] else z) (if k + 1 < A.length then A.getD (k + 1) [] else z) (posB p (A.getD k []) false) (costA p (A.getD k [])) (decide (k + 1 < A.length))) := by
    refine .all .none (clhq_ok fun hlt y hy => ?_) (fun l xs σ t v σ' h => (by cases h)) fun f xs t v h => by cases h
    have hf := hfull hlt
    simp only [List.mem_cons, List.not_mem_nil, or_false] at hy
    rcases hy with rfl | rfl | rfl
    · rw [if_pos hlt]; exact c20m hp hf hf.2 _
    · rw [if_pos hlt]; exact c14x hf.2 (by omega) _
    · rw [if_pos hlt]
      have := c19 (p := p) rfl (by omega) (.cells 0 (pbC p)) hf.2 (full_small hp hf)
      rw [hnx k hlt] at this
      by_cases h1 : k + 1 < A.length
      · rw [if_pos h1] at this
        rw [if_pos h1, dT h1]
        exact this
      · rw [if_neg h1] at this
        rw [if_neg h1, dF h1]
        exact this
  refine ⟨_, _, _, hcl, lpNo _, fun hlt => key.trans ?_, fun he => key.trans ?_⟩
  · have hsl : (solT p A k).length ≤ k := by
      unfold solT
      have := List.length_filter_le (fun x => posB p x false) (A.take k)
      rw [List.length_take] at this
      omega
    have hw : IntKind.i64.wrap (((solT p A k).length : Int) + 1) = ((solT p A k).length : Int) + 1 := wrapI (by omega)
    have hsucc := solT_succ p hlt
    rw [hw]
    refine (selIt (dT hlt)).trans (t_need hlt (t_need ⟨rfl, rfl⟩ (t_ite (fun h1 => ?_) fun h1 => ?_)))
    · have h1' : posB p (A.getD k []) false = false := by simpa using h1
      rw [h1', cond_false] at hsucc
      refine t_need hlt (t_need ⟨rfl, rfl⟩ ?_)
      have e : bstT p A (k + 1) = bstT p A k := by unfold bstT; rw [hsucc]
      unfold S4
      rw [e, hsucc]
      rfl
    · have h1' : posB p (A.getD k []) false = true := by simpa using h1
      rw [h1', cond_true] at hsucc
      have e : bstT p A (k + 1) = bstep p (bstT p A k) (A.getD k []) := by unfold bstT; rw [hsucc, List.foldl_append]; rfl
      have el : (((solT p A k ++ [A.getD k []]).length : Nat) : Int) = ((solT p A k).length : Int) + 1 := by rw [List.length_append, List.length_singleton]; rfl
      unfold S4
      rw [e, hsucc, el]
      cases hb : bstT p A k with
      | none =>
        have h0 : solT p A k = [] := best_none p hb
        rw [h0, bstep_none]
        refine (selIt rfl).trans (t_need hlt (t_need ⟨rfl, rfl⟩ ((selIt rfl).trans (t_need hlt (t_need ⟨rfl, rfl⟩ (t_need hlt (t_need ⟨rfl, rfl⟩ ?_)))))))
        rw [if_pos hlt]
        rfl
      | some y =>
        have hne : solT p A k ≠ [] := fun h => by
          unfold bstT at hb
          rw [h] at hb
          cases hb
        obtain ⟨q, l, hql⟩ := List.exists_cons_of_ne_nil hne
        have hc1 : (((solT p A k).length : Int) + 1 == 1) = false := by
          rw [beq_eq_false_iff_ne, hql]
          simp only [List.length_cons]
          omega
        have hh : (solT p A k ++ [A.getD k []]).head? = (solT p A k).head? := by rw [hql]; rfl
        rw [hh]
        have hbs : bstep p (some y) (A.getD k []) = bif decide (costA p (A.getD k []) < costA p y) then some (A.getD k []) else some y := rfl
        rw [hbs]
        refine (selIf hc1).trans ((selIf hc1).trans (t_ite (fun h2 => ?_) fun h2 => ?_))
        · have h2' : decide (costA p (A.getD k []) < costA p y) = true := h2
          rw [h2', cond_true]
          refine t_need hlt (t_need ⟨rfl, rfl⟩ (t_need hlt (t_need ⟨rfl, rfl⟩ ?_)))
          rw [if_pos hlt]
          rfl
        · have h2' : decide (costA p (A.getD k []) < costA p y) = false := h2
          rw [h2', cond_false]
          exact t_need hlt (t_need ⟨rfl, rfl⟩ rfl)
  · rw [selIf (dF (by omega)), he]
    unfold S4
    rw [dF (by omega)]
    rfl
/-! ### SearchBest -/
theorem solT_all (p : Pb) : solT p (allL p p.V.length []) (allL p p.V.length []).length = solL p p.V.length [] := by
  unfold solT solL
  rw [List.take_length]
theorem bstT_all {p : Pb} (hp : Ok p) : bstT p (allL p p.V.length []) (allL p p.V.length []).length = refW p [] := by
  unfold bstT
  rw [solT_all, refW_sol hp (beg_nil p)]
  rfl
theorem sols_le {p : Pb} (d : Nat) (a : List Int) : (solL p d a).length ≤ (allL p d a).length := List.length_filter_le _ _
theorem made_few (x : Pz) : (allL (madeP x) (madeP x).V.length []).length ≤ 1024 := by
  have h1 := allL_bound (p := madeP x) (fun i => (vals_le x i).2) (madeP x).V.length []
  have h2 : (madeP x).V.length ≤ 5 := by
    have := vals_len x
    have := N18_le x
    show (valsM x (N18 x)).length ≤ 5
    omega
  exact Nat.le_trans h1 (Nat.pow_le_pow_right (by omega) h2 : 4 ^ (madeP x).V.length ≤ 4 ^ 5)
theorem countR_all {p : Pb} (hp : Ok p) (hl : (allL p p.V.length []).length ≤ 1000000) : countR p 1000000 (countW p 1000000) = .tup [I (solL p p.V.length []).length, I 0] := by
  unfold countR
  rw [valid_iff.2 hp, cond_true]
  have hin : inB 1000000 0 1000000 = true := rfl
  rw [hin, cond_true, count_ref hp (by omega), refN_sol hp (by omega)]
  have := sols_le (p := p) p.V.length []
  unfold minI
  rw [if_pos (by omega)]
theorem call4 {x : Pz} (hx : x.ok) : ∃ σ', ACall Try.prog G0 4 [pzAV x] [] (.bool true) σ' := by
  have hp := made_ok hx
  have hs := ok_sh hp
  have hv := valid_iff.2 hp
  have hfew := made_few x
  have hn := hp.n
  obtain ⟨z, hl⟩ := loop4 hp (by omega)
  have h16 : ∀ σ, ACall Try.prog G0 16 [pAV (madeP x), I 1000000] σ (.tup [I (solL (madeP x) (madeP x).V.length []).length, I 0]) σ := fun σ => countR_all hp (by omega) ▸ c16 hs 1000000 σ
  have h21 : ∀ σ, ACall Try.prog G0 21 [pAV (madeP x)] σ (resC (madeP x) (refW (madeP x) [])) σ := fun σ => by
    have := c21 hs σ
    unfold solveR at this
    rwa [hv, cond_true, best_ref hp (beg_nil _)] at this
  have h22 : ∀ σ, ACall Try.prog G0 22 [pAV (madeP x)] σ (resF (solL (madeP x) (madeP x).V.length []).head?) σ := fun σ => by
    have := c22 hs σ
    rwa [hv, cond_true, first_ref hp, refF_sol hp] at this
  have hh0 : (allL (madeP x) (madeP x).V.length []).head? = some (zer (madeP x).V.length) := (all_next hp).choose_spec.1
  have hpos : 0 < (allL (madeP x) (madeP x).V.length []).length := by
    cases h : allL (madeP x) (madeP x).V.length [] with
    | nil => rw [h] at hh0; cases hh0
    | cons y l => simp
  have hS0 : S4 (madeP x) (allL (madeP x) (madeP x).V.length []) z 0 = st4 (madeP x) (madeP x).V.length .zs .zs 0 0 true (zer (madeP x).V.length) := by
    unfold S4
    rw [if_pos hpos, dT hpos]
    have : (allL (madeP x) (madeP x).V.length []).getD 0 [] = zer (madeP x).V.length := by
      rw [List.getD_eq_getElem?_getD, ← List.head?_eq_getElem?, hh0]
      rfl
    rw [this]
    rfl
  have hSN : S4 (madeP x) (allL (madeP x) (madeP x).V.length []) z (allL (madeP x) (madeP x).V.length []).length = st4 (madeP x) (madeP x).V.length (optV (refW (madeP x) [])) (optV (solL (madeP x) (madeP x).V.length []).head?) (cstO (madeP x) (refW (madeP x) [])) (solL (madeP x) (madeP x).V.length []).length false z := by
    unfold S4
    rw [if_neg (by omega), dF (by omega), bstT_all hp, solT_all]
  have hlp := hl.okB (fun _ _ => rfl) (c := bodyOf Try.prog 4) (i := 6) (keep := kp4) (one_loop loops4)
  rw [hS0, hSN] at hlp
  have hcl : ∀ {bv fv a f : AV} {c e g m h : Int}, (∀ σ, ACall Try.prog G0 21 [pAV (madeP x)] σ (.tup [a, I c, I e]) σ) → (∀ σ, ACall Try.prog G0 22 [pAV (madeP x)] σ (.tup [f, I g]) σ) → (∀ σ, ACall Try.prog G0 16 [pAV (madeP x), I 1000000] σ (.tup [I m, I h]) σ) →
      (∀ σ, ACall Try.prog G0 23 [a, bv] σ (.bool true) σ) → (∀ σ, ACall Try.prog G0 23 [f, fv] σ (.bool true) σ) → ClOk Try.prog G0 (E4F x (madeP x) (madeP x).V.length bv fv a f c e g m h) := fun {bv fv a f c e g m h} k1 k2 k3 k4' k5 =>
    .all ((hStA_ok 26 0).ok.or (hMkZ_ok _ _).ok) failH_ok (fun l xs σ t v σ' h => (by cases h)) fun f' xs t v hq hs' σ => clK_ok (l := k4 x (madeP x) bv fv a f c e g m h) (fun y hy xs hx' σ => by
      simp only [k4, List.mem_cons, List.not_mem_nil, or_false] at hy
      rcases hy with rfl | rfl | rfl | rfl | rfl | rfl
      · obtain rfl : xs = _ := hx'; exact c18 hx σ
      · obtain rfl : xs = _ := hx'; exact k1 σ
      · obtain rfl : xs = _ := hx'; exact k2 σ
      · obtain rfl : xs = _ := hx'; exact k3 σ
      · rcases hx' with rfl | rfl
        · exact k4' σ
        · exact k5 σ
      · obtain rfl : xs = _ := hx'; exact c12 σ) f' xs t v hq hs' σ
  have h23 : ∀ (y : List Int), sh y → ∀ σ, ACall Try.prog G0 23 [flL y, flL y] σ (.bool true) σ := fun y hy σ => refl_eq hy σ
  have h23z : ∀ σ, ACall Try.prog G0 23 [flL [], .zs] σ (.bool true) σ := fun σ => (h23 [] sh_nil σ).arg2 (Sub.rfl' _) fun _ _ _ h => h.flL_zs
  have hb := bstT_all hp
  unfold bstT at hb
  rw [solT_all] at hb
  cases hq : solL (madeP x) (madeP x).V.length [] with
  | nil =>
    rw [hq] at hb h16 h22 hlp
    rw [← hb] at h21 hlp
    exact ⟨_, ACall.says (hcl h21 h22 h16 h23z h23z) hlp (runF4 x (madeP x) .zs .zs [] [] 0 7 7 0 0 0 0 z) (says_need rfl (says_need ⟨rfl, rfl, Nat.le_refl _⟩ (says_need ⟨rfl, rfl, rfl, by omega⟩ (says_need rfl (says_need rfl (says_need rfl (says_need rfl (says_need rfl says_leaf))))))))⟩
  | cons f l =>
    rw [hq] at hb h16 h22 hlp
    have hsome := fold_some (madeP x) l (bstep (madeP x) none f) rfl
    rw [List.foldl_cons] at hb
    rw [hb] at hsome
    obtain ⟨y, hy⟩ := Option.isSome_iff_exists.1 hsome
    rw [hy] at h21 hlp
    have hby := refW_beg hp (beg_nil _) hy
    have hbf := refF_beg hp (show refF (madeP x) = some f by rw [refF_sol hp, hq]; rfl)
    refine ⟨hX (.cells 0 (pbC (madeP x))) z, ACall.says (hcl h21 h22 h16 (h23 y (beg_sh hp hby.1)) (h23 f (beg_sh hp hbf.1))) hlp (runF4 x (madeP x) (flL y) (flL f) y f (costA (madeP x) y) 0 0 (f :: l).length 0 (costA (madeP x) y) (f :: l).length z) (says_need rfl (says_need ⟨rfl, rfl, Nat.le_refl _⟩ (says_need ⟨rfl, rfl, rfl, by omega⟩ (says_need rfl (says_need rfl (says_need rfl (says_need rfl ?_)))))))⟩
    refine says_ite (fun h => by cases h) fun _ => says_ite (fun h => by rw [bne_self_eq_false] at h; cases h) fun _ => says_ite (fun h => absurd (eq_of_beq h) (by simp only [List.length_cons]; omega)) fun _ => says_ite (fun _ => says_ite (fun _ => says_need (.inl rfl) (says_ite (fun _ => says_ite (fun _ => says_need (.inr rfl) (says_ite (fun _ => says_need rfl says_leaf) fun h => by cases h)) fun h => by rw [beq_self_eq_true] at h; cases h) fun h => by cases h)) fun h => by cases h) fun h => by cases h
end Go.Proofs.Ytngaihdpmoajeaa.Am

