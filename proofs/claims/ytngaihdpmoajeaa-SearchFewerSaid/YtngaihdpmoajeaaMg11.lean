/-
  This file proves nothing of a law. It holds lemmas, of 12 texts in their order. No condition of its own.
-/
import Derived.Test.YtngaihdpmoajeaaMg10
namespace Go.Proofs.Ytngaihdpmoajeaa.Am
open Go
set_option maxRecDepth 100000

def D01 : Nat → Bool := fun q => Nat.blt q 2
def D45 : Nat → Bool := fun q => Nat.beq q 4 || Nat.beq q 5
theorem only_zPb {P : Nat → Prop} : ∀ y ∈ zPb, Only P y := fun y hy => by
  simp only [zPb, List.mem_cons, List.not_mem_nil, or_false] at hy
  rcases hy with rfl | rfl | rfl <;> exact .zs
theorem exec18A {x : Pz} (hx : x.ok) : AExec Try.prog G0 (fun r => r = none) (.loop body18A) { tmps := (stA x .zs .resv .zs .resv 0 0).a } (hA .zs .resv .zs .resv .resv) (.exit 0)
    { tmps := (St.of 162 (hC (valsM x (N18 x)) (costsM x (N18 x)) .zs .resv .resv .resv .resv) [(1, .row (pzC x) 0, true), (2, .ref 6 0 0, true), (3, .ref 7 0 0, true), (4, I (ofs x (N18 x) : Nat), true), (5, I (N18 x), true)]).a } (hC (valsM x (N18 x)) (costsM x (N18 x)) .zs .resv .resv .resv .resv) := by
  refine (loop18A hx).drop (n := 8) (D := D01) (fun _ _ => rfl) rfl rfl (fun r q hr hD => ?_) ?_ ?_
  · have : r < 2 := by rw [← Nat.blt_eq]; exact hD
    match r, hr with
    | 0, hr => cases hr; rfl
    | 1, hr => cases hr; rfl
    | r + 2, _ => omega
  · refine ⟨.inl ⟨rfl, rfl⟩, .inl ⟨rfl, rfl⟩, .inr (.inl ⟨rfl, rfl, trivial⟩), .inr (.inl ⟨rfl, rfl, trivial⟩), .inr (.inl ⟨rfl, rfl, trivial⟩), .inr (.inl ⟨rfl, rfl, trivial⟩), .inr (.inl ⟨rfl, rfl, only_zPb⟩), .inr (.inr ⟨rfl, _, _, _, rfl, rfl, ?_⟩), trivial⟩
    exact ⟨re_ints rfl (dropP_none rfl), re_lists rfl (dropP_none rfl), Re.flat .zs, trivial⟩
  · have rf : ∀ (r : Nat) (σ : Heap), D01 r = false ∧ r < 8 → Re G0 (dropP D01 8) σ (.ref r 0 0) (.ref r 0 0) := fun r σ h => Re.good (.ref _ _ _ h)
    exact ⟨rfl, Re.flat (below_pzr x), rfl, rf 6 _ ⟨rfl, by omega⟩, rfl, rf 7 _ ⟨rfl, by omega⟩, rfl, re_int, rfl, re_int, trivial⟩
/-! ### The weights of one variable -/
def wF (c : Cs) (o j : Nat) : Int := c.w.getD (o + j) 0
section
variable (V : List Int) (C : List (List Int)) (R : List Rl) (k d m : Int) (U : List Int) (W : List (List Int))
theorem alone_D (T : List Int) : ∀ o ∈ hD V C (sV 4 2 (rowR R)) (sO (rowR R)) (sO (rowI T)) (sO (rowI U)) (sO (rowLL W)) d (sV 1 4 (rowI U)) (sV 1 5 (rowLL W)) m, Alone 9 o := fun o ho => by
  simp only [hD, List.mem_cons, List.not_mem_nil, or_false] at ho
  rcases ho with rfl | rfl | rfl | rfl | rfl | rfl | rfl | rfl | rfl
  · trivial
  · trivial
  · exact alone_sO fun x hx y hy => (rowR_flat x hx y hy).up
  · exact alone_rowI _
  · exact alone_rowI _
  · exact alone_rowLL _
  · intro y hy
    simp only [zPb, List.mem_cons, List.not_mem_nil, or_false] at hy
    rcases hy with rfl | rfl | rfl <;> exact .zs
  · intro y hy
    simp only [List.mem_cons, List.not_mem_nil, or_false] at hy
    rcases hy with rfl | rfl | rfl
    · exact (below_flL _).up
    · exact (below_flLL _).up
    · exact below_sV (by omega)
  · intro y hy
    simp only [List.mem_cons, List.not_mem_nil, or_false] at hy
    rcases hy with rfl | rfl | rfl | rfl
    · exact .int _ _
    · exact below_sV (by omega)
    · exact below_sV (by omega)
    · exact .int _ _
/-- The state over a variable's weights, by lists. -/
def stE' (x : Pz) (a j u n : Int) (T : List Int) (i : Int) : St := stE x V C (sV 4 2 (rowR R)) (sO (rowR R)) k d m (sV 1 4 (rowI U)) (sV 1 5 (rowLL W)) (sO (rowI U)) (sO (rowLL W)) a j u n (sV 1 3 (rowI T)) (sO (rowI T)) i
theorem clean18E (x : Pz) (a j u n : Int) (T : List Int) (i : Int) : CleanT 9 (stE' V C R k d m U W x a j u n T i) :=
  cleanT_of rfl (alone_D V C R d m U W T) ⟨below_pzr x, .ref _ _ _ (by omega), .ref _ _ _ (by omega), .int _ _, .ref _ _ _ (by omega), .int _ _, .int _ _, below_sV (by omega), (below_flL _).up, .int _ _, .int _ _, .int _ _, .int _ _, trivial⟩
end
theorem loop18E {x : Pz} (hx : x.ok) (V : List Int) (C : List (List Int)) (R : List Rl) {k : Nat} (hk : k < x.R.length) (d m : Int) (U : List Int) (W : List (List Int)) (j u : Int) (n o : Nat) (hb : o + n < 1000000) :
    LoopA body18E n (fun i => stE' V C R k d m U W x (o + i : Nat) j u n (preL (wF (x.R.getD k c0) o) i) i) (fun i => stE' V C R k d m U W x (o + i : Nat) j u n (preL (wF (x.R.getD k c0) o) i) i) (stE' V C R k d m U W x (o + n : Nat) j u n (preL (wF (x.R.getD k c0) o) n) n) .ret (.exit 8) fun _ => false := by
  refine .linT (m := 9) (fun _ => rfl) rfl nofun (fun i => clean18E V C R k d m U W x _ j u n _ i) (clean18E V C R k d m U W x _ j u n _ _) fun i hi => ?_
  have key := congrArg Tree.sel (run18E True x V C (sV 4 2 (rowR R)) (sO (rowR R)) k d m (sV 1 4 (rowI U)) (sV 1 5 (rowLL W)) (sO (rowI U)) (sO (rowLL W)) (o + i : Nat) j u n (sV 1 3 (rowI (preL (wF (x.R.getD k c0) o) i))) (sV 1 3 (rowI (preL (wF (x.R.getD k c0) o) i ++ [wF (x.R.getD k c0) o i]))) (sO (rowI (preL (wF (x.R.getD k c0) o) i))) (sO (rowI (preL (wF (x.R.getD k c0) o) i ++ [wF (x.R.getD k c0) o i]))) i (wF (x.R.getD k c0) o i))
  have hw := hx.w k (o + i)
  rw [Int.toNat_natCast, Int.toNat_natCast] at key
  refine ⟨_, _, _, clokHint (hApO_ok els22 fun _ => grow_I (by rw [preL_len]; omega) _ 3), lpNo _, fun hlt => key.trans ?_, fun he => key.trans ?_⟩
  · have w1 : IntKind.i64.wrap (((o + i : Nat) : Int) + 1) = ((o + (i + 1) : Nat) : Int) := (wrapI (by omega)).trans (by omega)
    have w2 : IntKind.i64.wrap (i + 1 : Int) = ((i + 1 : Nat) : Int) := (wrapI (by omega)).trans (by omega)
    rw [w1, w2, preL_succ]
    refine (selIt (dT (by omega))).trans (t_need ⟨by omega, by omega⟩ (t_ite (fun h1 => ?_) fun h1 => ?_))
    · have h1' := of_decide_eq_true h1
      have e : wF (x.R.getD k c0) o i = (x.R.getD k c0).w.getD (o + i) 0 := rfl
      rw [wrapI (by omega), e]
      exact t_need ⟨by omega, by omega⟩ (t_need ⟨by omega, h1'⟩ (t_need ⟨rfl, rfl, trivial⟩ rfl))
    · have h1' := of_decide_eq_false h1
      have e : wF (x.R.getD k c0) o i = 0 := by
        unfold wF
        rw [List.getD_eq_getElem?_getD, List.getElem?_eq_none (by omega)]
        rfl
      rw [e]
      exact t_need ⟨rfl, rfl, trivial⟩ rfl
  · rw [selIf (dF (by omega)), he]
    rfl
/-- The state behind a variable's weights. -/
def stEx (x : Pz) (V : List Int) (C : List (List Int)) (R : List Rl) (k d m : Int) (U : List Int) (W : List (List Int)) (a j u n : Int) (s : AV) (i : Int) : St := stE x V C (sV 4 2 (rowR R)) (sO (rowR R)) k d m (sV 1 4 (rowI U)) (sV 1 5 (rowLL W)) (sO (rowI U)) (sO (rowLL W)) a j u n s .resv i
def hDx (V : List Int) (C : List (List Int)) (R : List Rl) (d m : Int) (U : List Int) (W : List (List Int)) : Heap := hD V C (sV 4 2 (rowR R)) (sO (rowR R)) .resv (sO (rowI U)) (sO (rowLL W)) d (sV 1 4 (rowI U)) (sV 1 5 (rowLL W)) m
theorem exec18E {x : Pz} (hx : x.ok) (V : List Int) (C : List (List Int)) (R : List Rl) {k : Nat} (hk : k < x.R.length) (d m : Int) (U : List Int) (W : List (List Int)) (j u : Int) (n o : Nat) (hb : o + n < 1000000) :
    AExec Try.prog G0 (fun r => r = none) (.loop body18E) { tmps := (stEx x V C R k d m U W o j u n .zs 0).a } (hDx V C R d m U W) (.exit 8)
      { tmps := (stEx x V C R k d m U W (o + n : Nat) j u n (flL (preL (wF (x.R.getD k c0) o) n)) n).a } (hDx V C R d m U W) := by
  refine (loop18E hx V C R hk d m U W j u n o hb).drop (n := 9) (D := D3) (fun _ _ => rfl) rfl rfl (fun r q hr hD => ?_) ?_ ?_
  · obtain rfl := Nat.eq_of_beq_eq_true hD
    cases hr; rfl
  · refine ⟨.inr (.inl ⟨rfl, rfl, trivial⟩), .inr (.inl ⟨rfl, rfl, trivial⟩), .inr (.inl ⟨rfl, rfl, onlyO_sO rowR_flat⟩), .inl ⟨rfl, rfl⟩, .inr (.inl ⟨rfl, rfl, onlyO_sO rowI_flat⟩), .inr (.inl ⟨rfl, rfl, onlyO_sO rowLL_flat⟩), .inr (.inl ⟨rfl, rfl, only_zPb⟩), .inr (.inl ⟨rfl, rfl, fun y hy => ?_⟩), .inr (.inl ⟨rfl, rfl, fun y hy => ?_⟩), trivial⟩
    · simp only [List.mem_cons, List.not_mem_nil, or_false] at hy
      rcases hy with rfl | rfl | rfl
      · exact .of0 (below_flL _)
      · exact .of0 (below_flLL _)
      · exact onlySV ⟨rfl, by omega⟩
    · simp only [List.mem_cons, List.not_mem_nil, or_false] at hy
      rcases hy with rfl | rfl | rfl | rfl
      · exact .int _ _
      · exact onlySV ⟨rfl, by omega⟩
      · exact onlySV ⟨rfl, by omega⟩
      · exact .int _ _
  · have rf : ∀ (r : Nat) (σ : Heap), D3 r = false ∧ r < 9 → Re G0 (dropP D3 9) σ (.ref r 0 0) (.ref r 0 0) := fun r σ h => Re.good (.ref _ _ _ h)
    exact ⟨rfl, Re.flat (below_pzr x), rfl, rf 6 _ ⟨rfl, by omega⟩, rfl, rf 7 _ ⟨rfl, by omega⟩, rfl, re_int, rfl, rf 8 _ ⟨rfl, by omega⟩, rfl, re_int, rfl, re_int, rfl, re_ints rfl (dropP_none rfl), rfl, Re.flat (below_flL _), rfl, re_int, rfl, re_int, rfl, re_int, rfl, re_int, trivial⟩
/-! ### One rule -/
def bitC (c : Cs) (j : Nat) : Bool := !(uand8 (ushr8 c.u j) 1 == 0)
def varK (c : Cs) : Nat → List Int
  | 0 => []
  | j + 1 => bif bitC c j then varK c j ++ [(j : Int)] else varK c j
def offK (V : List Int) (c : Cs) : Nat → Nat
  | 0 => 0
  | j + 1 => bif bitC c j then offK V c j + (V.getD j 0).toNat else offK V c j
def wtK (V : List Int) (c : Cs) : Nat → List (List Int)
  | 0 => []
  | j + 1 => bif bitC c j then wtK V c j ++ [preL (wF c (offK V c j)) (V.getD j 0).toNat] else wtK V c j
theorem varK_len (c : Cs) : ∀ j, (varK c j).length ≤ j
  | 0 => Nat.le_refl _
  | j + 1 => by
    have := varK_len c j
    unfold varK
    cases bitC c j with
    | true => rw [cond_true, List.length_append, List.length_singleton]; omega
    | false => rw [cond_false]; omega
theorem wtK_len (V : List Int) (c : Cs) : ∀ j, (wtK V c j).length = (varK c j).length
  | 0 => rfl
  | j + 1 => by
    have := wtK_len V c j
    unfold wtK varK
    cases bitC c j with
    | true => rw [cond_true, cond_true, List.length_append, List.length_append, List.length_singleton, List.length_singleton, this]
    | false => rw [cond_false, cond_false, this]
theorem offK_le {V : List Int} (hV : ∀ j, V.getD j 0 ≤ 4) (c : Cs) : ∀ j, offK V c j ≤ 4 * j
  | 0 => Nat.le_refl _
  | j + 1 => by
    have := offK_le hV c j
    have := hV j
    unfold offK
    cases bitC c j with
    | true => rw [cond_true]; omega
    | false => rw [cond_false]; omega
def stD' (x : Pz) (V : List Int) (C : List (List Int)) (R : List Rl) (k d m : Int) (U : List Int) (W : List (List Int)) (a j : Int) : St := stD x V C (sV 4 2 (rowR R)) (sO (rowR R)) k d m (sV 1 4 (rowI U)) (sV 1 5 (rowLL W)) (sO (rowI U)) (sO (rowLL W)) a j
theorem clean18D (x : Pz) (V : List Int) (C : List (List Int)) (R : List Rl) (k d m : Int) (U : List Int) (W : List (List Int)) (a j : Int) : CleanT 9 (stD' x V C R k d m U W a j) :=
  cleanT_of rfl (alone_D V C R d m U W []) ⟨below_pzr x, .ref _ _ _ (by omega), .ref _ _ _ (by omega), .int _ _, .ref _ _ _ (by omega), .int _ _, (below_flL _).up, .int _ _, .int _ _, trivial⟩
theorem loops18D : loopsOf body18D = [body18E] := by kernel_rfl
theorem loop18D {x : Pz} (hx : x.ok) {V : List Int} (hV : ∀ j, V.getD j 0 ≤ 4) (hV0 : ∀ j, 0 ≤ V.getD j 0) (hVl : V.length ≤ 5) (C : List (List Int)) (R : List Rl) {k : Nat} (hk : k < x.R.length) (d m : Int) :
    LoopA body18D V.length (fun j => stD' x V C R k d m (varK (x.R.getD k c0) j) (wtK V (x.R.getD k c0) j) (offK V (x.R.getD k c0) j : Nat) j) (fun j => stD' x V C R k d m (varK (x.R.getD k c0) j) (wtK V (x.R.getD k c0) j) (offK V (x.R.getD k c0) j : Nat) j)
      (stD' x V C R k d m (varK (x.R.getD k c0) V.length) (wtK V (x.R.getD k c0) V.length) (offK V (x.R.getD k c0) V.length : Nat) V.length) .ret (.exit 6) fun _ => false := by
  refine .linT (m := 9) (fun _ => rfl) rfl nofun (fun j => clean18D x V C R k d m _ _ _ j) (clean18D x V C R k d m _ _ _ _) fun j hj => ?_
  have ho := offK_le hV (x.R.getD k c0) j
  have h4 := hV j
  have h0 := hV0 j
  have hn : V.getD j 0 = ((V.getD j 0).toNat : Int) := by omega
  have hvl := varK_len (x.R.getD k c0) j
  have hwl := wtK_len V (x.R.getD k c0) j
  have he := lpB_exec (i := 29) (keep := keepE) (S := stEx x V C R k d m (varK (x.R.getD k c0) j) (wtK V (x.R.getD k c0) j) (offK V (x.R.getD k c0) j : Nat) j j (V.getD j 0).toNat .zs 0) (X := stEx x V C R k d m (varK (x.R.getD k c0) j) (wtK V (x.R.getD k c0) j) (offK V (x.R.getD k c0) j + (V.getD j 0).toNat : Nat) j j (V.getD j 0).toNat (flL (preL (wF (x.R.getD k c0) (offK V (x.R.getD k c0) j)) (V.getD j 0).toNat)) (V.getD j 0).toNat)
    (exec18E hx V C R hk d m (varK (x.R.getD k c0) j) (wtK V (x.R.getD k c0) j) j j (V.getD j 0).toNat (offK V (x.R.getD k c0) j) (by omega)) rfl (c := body18D) (one_loop loops18D)
  have key := congrArg Tree.sel (run18D True x V C (sV 4 2 (rowR R)) (sO (rowR R)) k d m (sV 1 4 (rowI (varK (x.R.getD k c0) j))) (sV 1 5 (rowLL (wtK V (x.R.getD k c0) j))) (sV 1 4 (rowI (varK (x.R.getD k c0) j ++ [(j : Int)]))) (sV 1 5 (rowLL (wtK V (x.R.getD k c0) j ++ [preL (wF (x.R.getD k c0) (offK V (x.R.getD k c0) j)) (V.getD j 0).toNat])))
    (sO (rowI (varK (x.R.getD k c0) j))) (sO (rowLL (wtK V (x.R.getD k c0) j))) (sO (rowI (varK (x.R.getD k c0) j ++ [(j : Int)]))) (sO (rowLL (wtK V (x.R.getD k c0) j ++ [preL (wF (x.R.getD k c0) (offK V (x.R.getD k c0) j)) (V.getD j 0).toNat]))) (offK V (x.R.getD k c0) j : Nat) (offK V (x.R.getD k c0) j + (V.getD j 0).toNat : Nat) j (preL (wF (x.R.getD k c0) (offK V (x.R.getD k c0) j)) (V.getD j 0).toNat))
  rw [Int.toNat_natCast, Int.toNat_natCast, hn, Int.toNat_natCast] at key
  refine ⟨_, _, _, clokHint ((hApO_ok els22 fun _ => grow_I (by omega) _ 4).or ((hApO_ok els23 fun _ => grow_LL (by omega) _ 5).or ((hSto_ok 8 (one_of (by kernel_rfl))).ok.or ((hSto_ok 8 (one_of (by kernel_rfl))).ok.or hBit_ok.ok)))), he, fun hlt => key.trans ?_, fun he => key.trans ?_⟩
  · have w2 : IntKind.i64.wrap (j + 1 : Int) = ((j + 1 : Nat) : Int) := (wrapI (by omega)).trans (by omega)
    rw [w2]
    refine (selIt (dT (by omega))).trans (t_need ⟨by omega, by omega⟩ (t_need ⟨by omega, by omega⟩ (t_need (by omega) (t_need trivial (t_ite (fun h1 => ?_) fun h1 => ?_)))))
    · have hb : bitC (x.R.getD k c0) j = false := by unfold bitC; rw [h1]; rfl
      have e1 : varK (x.R.getD k c0) (j + 1) = varK (x.R.getD k c0) j := by show (bif _ then _ else _) = _; rw [hb]; rfl
      have e2 : wtK V (x.R.getD k c0) (j + 1) = wtK V (x.R.getD k c0) j := by show (bif _ then _ else _) = _; rw [hb]; rfl
      have e3 : offK V (x.R.getD k c0) (j + 1) = offK V (x.R.getD k c0) j := by show (bif _ then _ else _) = _; rw [hb]; rfl
      rw [e1, e2, e3]
      rfl
    · have hb : bitC (x.R.getD k c0) j = true := by unfold bitC; rw [h1]; rfl
      have e1 : varK (x.R.getD k c0) (j + 1) = varK (x.R.getD k c0) j ++ [(j : Int)] := by show (bif _ then _ else _) = _; rw [hb]; rfl
      have e2 : wtK V (x.R.getD k c0) (j + 1) = wtK V (x.R.getD k c0) j ++ [preL (wF (x.R.getD k c0) (offK V (x.R.getD k c0) j)) (V.getD j 0).toNat] := by show (bif _ then _ else _) = _; rw [hb]; rfl
      have e3 : offK V (x.R.getD k c0) (j + 1) = offK V (x.R.getD k c0) j + (V.getD j 0).toNat := by show (bif _ then _ else _) = _; rw [hb]; rfl
      rw [e1, e2, e3]
      exact t_need rfl (t_need ⟨rfl, rfl, trivial⟩ (t_need ⟨one_sV, by omega⟩ (t_need ⟨rfl, rfl, trivial⟩ (t_need ⟨one_sV, by omega⟩ rfl))))
  · rw [selIf (dF (by omega)), he]
    rfl
end Go.Proofs.Ytngaihdpmoajeaa.Am

namespace Go.Proofs.Ytngaihdpmoajeaa.Am
open Go
set_option maxRecDepth 100000

theorem exec18D {x : Pz} (hx : x.ok) {V : List Int} (hV : ∀ j, V.getD j 0 ≤ 4) (hV0 : ∀ j, 0 ≤ V.getD j 0) (hVl : V.length ≤ 5) (C : List (List Int)) (R : List Rl) {k : Nat} (hk : k < x.R.length) (d m : Int) :
    AExec Try.prog G0 (fun r => r = none) (.loop body18D) { tmps := (stD x V C (sV 4 2 (rowR R)) (sO (rowR R)) k d m .zs .zs .resv .resv 0 0).a } (hD V C (sV 4 2 (rowR R)) (sO (rowR R)) .resv .resv .resv d .zs .zs m) (.exit 6)
      { tmps := (stD x V C (sV 4 2 (rowR R)) (sO (rowR R)) k d m (flL (varK (x.R.getD k c0) V.length)) (flLL (wtK V (x.R.getD k c0) V.length)) .resv .resv (offK V (x.R.getD k c0) V.length : Nat) V.length).a } (hD V C (sV 4 2 (rowR R)) (sO (rowR R)) .resv .resv .resv d (flL (varK (x.R.getD k c0) V.length)) (flLL (wtK V (x.R.getD k c0) V.length)) m) := by
  refine (loop18D hx hV hV0 hVl C R hk d m).drop (n := 9) (D := D45) (fun _ _ => rfl) rfl rfl (fun r q hr hD => ?_) ?_ ?_
  · match r, hr, hD with
    | 4, hr, _ => cases hr; rfl
    | 5, hr, _ => cases hr; rfl
    | 0, _, hD => cases hD
    | 1, _, hD => cases hD
    | 2, _, hD => cases hD
    | 3, _, hD => cases hD
    | r + 6, _, hD =>
      have : r + 6 = 4 ∨ r + 6 = 5 := by
        have := Bool.or_eq_true_iff.1 (show (Nat.beq (r + 6) 4 || Nat.beq (r + 6) 5) = true from hD)
        rcases this with h | h
        · exact .inl (Nat.eq_of_beq_eq_true h)
        · exact .inr (Nat.eq_of_beq_eq_true h)
      omega
  · refine ⟨.inr (.inl ⟨rfl, rfl, trivial⟩), .inr (.inl ⟨rfl, rfl, trivial⟩), .inr (.inl ⟨rfl, rfl, onlyO_sO rowR_flat⟩), .inr (.inl ⟨rfl, rfl, trivial⟩), .inl ⟨rfl, rfl⟩, .inl ⟨rfl, rfl⟩, .inr (.inl ⟨rfl, rfl, only_zPb⟩), .inr (.inl ⟨rfl, rfl, fun y hy => ?_⟩), .inr (.inr ⟨rfl, _, _, _, rfl, rfl, ?_⟩), trivial⟩
    · simp only [List.mem_cons, List.not_mem_nil, or_false] at hy
      rcases hy with rfl | rfl | rfl
      · exact .of0 (below_flL _)
      · exact .of0 (below_flLL _)
      · exact onlySV ⟨rfl, by omega⟩
    · exact ⟨re_int, re_ints rfl (dropP_none rfl), re_lists rfl (dropP_none rfl), re_int, trivial⟩
  · have rf : ∀ (r : Nat) (σ : Heap), D45 r = false ∧ r < 9 → Re G0 (dropP D45 9) σ (.ref r 0 0) (.ref r 0 0) := fun r σ h => Re.good (.ref _ _ _ h)
    exact ⟨rfl, Re.flat (below_pzr x), rfl, rf 6 _ ⟨rfl, by omega⟩, rfl, rf 7 _ ⟨rfl, by omega⟩, rfl, re_int, rfl, rf 8 _ ⟨rfl, by omega⟩, rfl, re_int, rfl, Re.flat (below_flL _), rfl, re_int, rfl, re_int, trivial⟩
/-! ### All rules -/
def M18 (x : Pz) : Nat := min x.R.length 6
def ruleM (V : List Int) (x : Pz) (i : Nat) : Rl := ⟨(x.R.getD i c0).d, varK (x.R.getD i c0) V.length, wtK V (x.R.getD i c0) V.length, (x.R.getD i c0).m⟩
def stC' (x : Pz) (V : List Int) (C : List (List Int)) (R : List Rl) (k : Int) : St := stC x V C (sV 4 2 (rowR R)) (sO (rowR R)) k
theorem clean18C (x : Pz) (V : List Int) (C : List (List Int)) (R : List Rl) (k : Int) : CleanT 8 (stC' x V C R k) :=
  cleanT_of rfl (fun o ho => by
    simp only [hC, List.mem_cons, List.not_mem_nil, or_false] at ho
    rcases ho with rfl | rfl | rfl | rfl | rfl | rfl | rfl | rfl
    · trivial
    · trivial
    · exact alone_sO fun x hx y hy => (rowR_flat x hx y hy).up
    · trivial
    · trivial
    · trivial
    · intro y hy
      simp only [zPb, List.mem_cons, List.not_mem_nil, or_false] at hy
      rcases hy with rfl | rfl | rfl <;> exact .zs
    · intro y hy
      simp only [List.mem_cons, List.not_mem_nil, or_false] at hy
      rcases hy with rfl | rfl | rfl
      · exact (below_flL _).up
      · exact (below_flLL _).up
      · exact below_sV (by omega)) ⟨below_pzr x, .ref _ _ _ (by omega), .ref _ _ _ (by omega), .int _ _, trivial⟩
theorem loops18C' : ∀ x ∈ loopsOf body18C, idOf x = 24 → x = body18D := nth_loop (k := 0) (ids := [24, 29]) (by kernel_rfl) (by decide) (by kernel_rfl) rfl
theorem roundC {x : Pz} (hx : x.ok) {V : List Int} (hV : ∀ j, V.getD j 0 ≤ 4) (hV0 : ∀ j, 0 ≤ V.getD j 0) (hVl : V.length ≤ 5) (C : List (List Int)) (k : Nat) (hk : k < M18 x) :
    AExec Try.prog G0 (fun r => r = none) body18C { tmps := (stC' x V C (preL (ruleM V x) k) k).a } (stC' x V C (preL (ruleM V x) k) k).h .normal { tmps := (stC' x V C (preL (ruleM V x) (k + 1)) (k + 1 : Nat)).a } (stC' x V C (preL (ruleM V x) (k + 1)) (k + 1 : Nat)).h := by
  have hkl : k < x.R.length := by unfold M18 at hk; omega
  have hk6 : k < 6 := by unfold M18 at hk; omega
  have hdd := hx.d k
  have hmm := hx.m k
  have hd : dm18 x k = (x.R.getD k c0).d := by unfold dm18; rw [Int.toNat_natCast]; exact wrapI (by omega)
  have hm : mm18 x k = (x.R.getD k c0).m := by unfold mm18; rw [Int.toNat_natCast]; exact wrapI (by omega)
  have key := congrArg Tree.sel (run18C True x V C (sV 4 2 (rowR (preL (ruleM V x) k))) (sV 4 2 (rowR (preL (ruleM V x) (k + 1)))) (sO (rowR (preL (ruleM V x) k))) (sO (rowR (preL (ruleM V x) (k + 1)))) k (varK (x.R.getD k c0) V.length) (wtK V (x.R.getD k c0) V.length) (offK V (x.R.getD k c0) V.length : Nat))
  have g1 : Grow 4 2 [I (dm18 x k), flL (varK (x.R.getD k c0) V.length), flLL (wtK V (x.R.getD k c0) V.length), I (mm18 x k)] (sV 4 2 (rowR (preL (ruleM V x) k))) (sV 4 2 (rowR (preL (ruleM V x) (k + 1)))) (sO (rowR (preL (ruleM V x) k))) (sO (rowR (preL (ruleM V x) (k + 1)))) := by
    rw [preL_succ, hd, hm]
    exact grow_R (by rw [preL_len]; omega) (ruleM V x k) 2
  have hi := lpB_exec (i := 24) (keep := keepD) (S := stD x V C (sV 4 2 (rowR (preL (ruleM V x) k))) (sO (rowR (preL (ruleM V x) k))) k (dm18 x k) (mm18 x k) .zs .zs .resv .resv 0 0) (X := stD x V C (sV 4 2 (rowR (preL (ruleM V x) k))) (sO (rowR (preL (ruleM V x) k))) k (dm18 x k) (mm18 x k) (flL (varK (x.R.getD k c0) V.length)) (flLL (wtK V (x.R.getD k c0) V.length)) .resv .resv (offK V (x.R.getD k c0) V.length : Nat) V.length)
    (exec18D hx hV hV0 hVl C (preL (ruleM V x) k) hkl (dm18 x k) (mm18 x k)) rfl (c := body18C) loops18C'
  refine xBodyMT_ok (m := 8) (st := stC' x V C (preL (ruleM V x) k) k) (clokHint ((hApO_ok els24 fun _ => g1).or ((hSto_ok 7 (one_of (by kernel_rfl))).ok.or (hStA_ok 56 8).ok))) hi rfl (clean18C x V C _ _) (key.trans ?_)
  have w2 : IntKind.i64.wrap (k + 1 : Int) = ((k + 1 : Nat) : Int) := (wrapI (by omega)).trans (by omega)
  rw [w2]
  refine (selIt (dT (by omega))).trans ((selIt (dT (by omega))).trans ?_)
  repeat first
    | exact rfl
    | refine t_need rfl ?_
    | refine t_need ⟨rfl, rfl⟩ ?_
    | refine t_need ⟨by omega, by omega⟩ ?_
    | refine t_need ⟨rfl, rfl, trivial⟩ ?_
    | refine t_need ⟨rfl, rfl, Nat.le_refl _⟩ ?_
    | refine t_need ⟨one_sV, by omega⟩ ?_
theorem loop18C {x : Pz} (hx : x.ok) {V : List Int} (hV : ∀ j, V.getD j 0 ≤ 4) (hV0 : ∀ j, 0 ≤ V.getD j 0) (hVl : V.length ≤ 5) (C : List (List Int)) :
    LoopA body18C (M18 x) (fun k => stC' x V C (preL (ruleM V x) k) k) (fun k => stC' x V C (preL (ruleM V x) k) k) (stC' x V C (preL (ruleM V x) (M18 x)) (M18 x)) .ret (.exit 4) fun _ => false where
  n0 _ := rfl
  nR _ := rfl
  nX := rfl
  neR := nofun
  neX := nofun
  go k hk _ _ := roundC hx hV hV0 hVl C k hk
  st k hk _ hs := by cases hs
  en _ := by
    refine xBodyT_ok (m := 8) (E := { boxRow := false }) (st := stC' x V C (preL (ruleM V x) (M18 x)) (M18 x)) (.of rfl rfl fun f xs t v h => by cases h) (lpF_ok 24 keepD _ _) rfl (clean18C x V C _ _) ((congrArg Tree.sel (run18Ce x V C (sV 4 2 (rowR (preL (ruleM V x) (M18 x)))) (sO (rowR (preL (ruleM V x) (M18 x)))) (M18 x))).trans ?_)
    exact t_ite (fun h1 => (selIf (dF (by have := of_decide_eq_true h1; unfold M18 at this ⊢; omega))).trans rfl) fun _ => rfl
/-! ### The problem -/
def madeP (x : Pz) : Pb := ⟨valsM x (N18 x), costsM x (N18 x), preL (ruleM (valsM x (N18 x)) x) (M18 x)⟩
theorem vals_at (x : Pz) {k : Nat} (hk : k < N18 x) : (valsM x (N18 x)).getD k 0 = valM x k := preL_getD _ hk _
theorem vals_le (x : Pz) (j : Nat) : 0 ≤ (valsM x (N18 x)).getD j 0 ∧ (valsM x (N18 x)).getD j 0 ≤ 4 := by
  by_cases hj : j < N18 x
  · rw [vals_at x hj]
    have := valM_bound x j
    omega
  · rw [List.getD_eq_getElem?_getD, List.getElem?_eq_none (by unfold valsM; rw [preL_len]; omega)]
    exact ⟨Int.le_refl _, by decide⟩
theorem N18_le (x : Pz) : N18 x ≤ 5 := by unfold N18; omega
theorem vals_len (x : Pz) : (valsM x (N18 x)).length = N18 x := preL_len _ _
theorem getD_snoc {α : Type} (l : List α) (a : α) (k : Nat) (d : α) : (l ++ [a]).getD k d = if k < l.length then l.getD k d else if k = l.length then a else d := by
  rw [List.getD_eq_getElem?_getD, List.getElem?_append]
  split
  · rw [← List.getD_eq_getElem?_getD]
  · split
    · subst k; simp
    · rw [List.getElem?_eq_none (by simp; omega)]; rfl
theorem varK_ok {V : List Int} (hV0 : ∀ j, 0 ≤ V.getD j 0) {c : Cs} (hw : ∀ j, -128 ≤ c.w.getD j 0 ∧ c.w.getD j 0 ≤ 127) : ∀ j : Nat,
    (∀ k, k < (varK c j).length → (0 ≤ (varK c j).getD k 0 ∧ (varK c j).getD k 0 < j) ∧ (((wtK V c j).getD k []).length : Int) = V.getD ((varK c j).getD k 0).toNat 0 ∧ ∀ y ∈ (wtK V c j).getD k [], -128 ≤ y ∧ y ≤ 127) ∧
      ∀ k, k + 1 < (varK c j).length → (varK c j).getD k 0 < (varK c j).getD (k + 1) 0
  | 0 => ⟨fun k hk => by simp [varK] at hk, fun k hk => by simp [varK] at hk⟩
  | j + 1 => by
    obtain ⟨h1, h2⟩ := varK_ok hV0 hw j
    have hl := wtK_len V c j
    have h0 := hV0 j
    unfold varK wtK
    cases bitC c j with
    | false =>
      rw [cond_false, cond_false]
      exact ⟨fun k hk => ⟨⟨(h1 k hk).1.1, by have := (h1 k hk).1.2; omega⟩, (h1 k hk).2⟩, h2⟩
    | true =>
      rw [cond_true, cond_true]
      refine ⟨fun k hk => ?_, fun k hk => ?_⟩
      · rw [List.length_append, List.length_singleton] at hk
        rw [getD_snoc, getD_snoc, hl]
        by_cases hlt : k < (varK c j).length
        · rw [if_pos hlt, if_pos hlt]
          exact ⟨⟨(h1 k hlt).1.1, by have := (h1 k hlt).1.2; omega⟩, (h1 k hlt).2⟩
        · have he : k = (varK c j).length := by omega
          rw [if_neg hlt, if_pos he, if_neg hlt, if_pos he]
          refine ⟨⟨by omega, by omega⟩, ?_, fun y hy => ?_⟩
          · rw [preL_len, Int.toNat_natCast]
            omega
          · unfold preL at hy
            obtain ⟨i, _, rfl⟩ := List.mem_map.1 hy
            exact hw _
      · rw [List.length_append, List.length_singleton] at hk
        rw [getD_snoc, getD_snoc, if_pos (by omega)]
        by_cases hlt : k + 1 < (varK c j).length
        · rw [if_pos hlt]
          exact h2 k hlt
        · rw [if_neg hlt, if_pos (by omega)]
          exact (h1 k (by omega)).1.2
theorem made_rule {x : Pz} (hx : x.ok) (i : Nat) : OkRule (valsM x (N18 x)) (ruleM (valsM x (N18 x)) x i) := by
  have hd := hx.d i
  have hm := hx.m i
  obtain ⟨h1, h2⟩ := varK_ok (fun j => (vals_le x j).1) (hx.w i) (valsM x (N18 x)).length
  exact ⟨⟨hd.1, by show (x.R.getD i c0).d ≤ _; omega⟩, ⟨by show _ ≤ (x.R.getD i c0).m; omega, by show (x.R.getD i c0).m ≤ _; omega⟩, wtK_len _ _ _, fun k hk => (h1 k hk).1, h2, fun k hk => (h1 k hk).2.1, fun k hk y hy => by
    have := (h1 k hk).2.2 y hy
    omega⟩
theorem made_ok {x : Pz} (hx : x.ok) : Ok (madeP x) := by
  have hN := N18_le x
  have hl := vals_len x
  refine ⟨by show (valsM x (N18 x)).length ≤ 24; omega, ?_, ?_, fun k hk => ?_, fun k hk => ?_, fun k hk y hy => ?_, fun r hr => ?_⟩
  · show (costsM x (N18 x)).length = _
    exact (preL_len _ _).trans hl.symm
  · show (preL _ _).length ≤ 2048
    rw [preL_len]
    unfold M18
    omega
  · replace hk : k < N18 x := by rw [← hl]; exact hk
    have := valM_bound x k
    rw [show (madeP x).V.getD k 0 = valM x k from vals_at x hk]
    omega
  · replace hk : k < N18 x := by rw [← hl]; exact hk
    rw [show (madeP x).V.getD k 0 = valM x k from vals_at x hk, show (madeP x).C.getD k [] = cosR x k from preL_getD _ hk _]
    unfold cosR
    rw [preL_len]
  · replace hk : k < N18 x := by rw [← hl]; exact hk
    rw [show (madeP x).C.getD k [] = cosR x k from preL_getD _ hk _] at hy
    unfold cosR preL at hy
    obtain ⟨j, _, rfl⟩ := List.mem_map.1 hy
    have := hx.c (ofs x k + j)
    unfold costF
    omega
  · have hr' : r ∈ preL (ruleM (valsM x (N18 x)) x) (M18 x) := hr
    unfold preL at hr'
    obtain ⟨i, _, rfl⟩ := List.mem_map.1 hr'
    exact made_rule hx i
/-- THE PROBLEM OF A PUZZLE. -/
theorem c18 {x : Pz} (hx : x.ok) (h : Heap) : ACall Try.prog G0 18 [pzAV x] h (pAV (madeP x)) h := by
  have hlA := lpB_exec (i := 4) (keep := keepA) (S := stA x .zs .resv .zs .resv 0 0) (X := St.of 162 (hC (valsM x (N18 x)) (costsM x (N18 x)) .zs .resv .resv .resv .resv) [(1, .row (pzC x) 0, true), (2, .ref 6 0 0, true), (3, .ref 7 0 0, true), (4, I (ofs x (N18 x) : Nat), true), (5, I (N18 x), true)]) (exec18A hx) rfl (c := bodyOf Try.prog 18)
    (nth_loop (k := 0) (i := 4) (ids := [4, 10, 19, 24, 29]) ids18 (by decide) (by kernel_rfl) rfl)
  have hlC := (loop18C hx (fun j => (vals_le x j).2) (fun j => (vals_le x j).1) (by rw [vals_len]; exact N18_le x) (costsM x (N18 x))).okB (fun _ _ => rfl) (c := bodyOf Try.prog 18) (i := 19) (keep := keepC)
    (nth_loop (k := 2) (i := 19) (ids := [4, 10, 19, 24, 29]) ids18 (by decide) (by kernel_rfl) rfl)
  have hc : ACall Try.prog G0 18 [pzAV x] (List.replicate 6 .resv) (.agg [flL (madeP x).V, flLL (madeP x).C, sV 4 2 (rowR (madeP x).R)]) [AObj.resv, AObj.resv, sO (rowR (madeP x).R), AObj.resv, AObj.resv, AObj.resv, AObj.cells 0 [flL (madeP x).V, flLL (madeP x).C, sV 4 2 (rowR (madeP x).R)], AObj.cells 0 [flL (madeP x).V, flLL (madeP x).C, sV 4 2 (rowR (madeP x).R)]] := by
    refine ACall.says (.ofH rfl rfl ((hStA_ok 26 6).ok.or (hStA_ok 26 7).ok) fun f xs t v h => by cases h) (lpAnd_ok hlA hlC) (runF18 x (valsM x (N18 x)) (costsM x (N18 x)) (sV 4 2 (rowR (preL (ruleM (valsM x (N18 x)) x) (M18 x)))) (sO (rowR (preL (ruleM (valsM x (N18 x)) x) (M18 x)))) (ofs x (N18 x) : Nat) (N18 x) (M18 x)) ?_
    refine says_need ⟨rfl, rfl, Nat.le_refl _⟩ (says_need rfl (says_need rfl (says_need ⟨rfl, ?_, Nat.le_refl _⟩ says_leaf)))
    rw [tk26]
    simp only [List.all_cons, one_sV]
    rfl
  exact hc.out (k := 6) (re_pb rfl nofun) (below_pAV _) (fun y hy => by rw [List.mem_singleton.1 hy]; exact below_agg (below_pz x)) h
end Go.Proofs.Ytngaihdpmoajeaa.Am

namespace Go.Proofs.Ytngaihdpmoajeaa.Am
open Go
set_option maxRecDepth 100000

/-- An assignment in an object of its own. -/
def hX (o : AObj) (b : List Int) : Heap := [o, .cells 0 (b.map I)]
section
variable {p : Pb} {n : Nat} {b : List Int} {i : Nat} (hb : b.length = n) (hV : p.V.length = n) (hk : n ≤ 1000) (hi : i < n) (h0 : -1000000 ≤ b.getD i 0 ∧ b.getD i 0 ≤ 1000000) (o : AObj)
include hb hV hk hi h0
end
end Go.Proofs.Ytngaihdpmoajeaa.Am

namespace Go.Proofs.Ytngaihdpmoajeaa.Am
open Go
set_option maxRecDepth 100000

/-- Each of a list is followed by the next one; z: what follows the last one. -/
def Ch (f : List Int → Bool × List Int) : List (List Int) → Bool × List Int → Prop
  | [], _ => True
  | [x], z => f x = z
  | x :: y :: l, z => f x = (true, y) ∧ Ch f (y :: l) z
theorem Ch.at' {f : List Int → Bool × List Int} {z : Bool × List Int} : ∀ {A : List (List Int)}, Ch f A z → ∀ k, k < A.length → f (A.getD k []) = if k + 1 < A.length then (true, A.getD (k + 1) []) else z
  | [], _, k, hk => by simp at hk
  | [x], h, k, hk => by
    obtain rfl : k = 0 := by simpa using hk
    rw [if_neg (by simp)]
    exact h
  | x :: y :: l, h, 0, _ => by
    rw [if_pos (by simp)]
    exact h.1
  | x :: y :: l, h, k + 1, hk => by
    have := Ch.at' (A := y :: l) h.2 k (by simpa using hk)
    simp only [List.getD_cons_succ, List.length_cons, Nat.add_lt_add_iff_right] at this ⊢
    exact this
theorem allL_bound {p : Pb} (hV : ∀ i, p.V.getD i 0 ≤ 4) : ∀ (d : Nat) (a : List Int), (allL p d a).length ≤ 4 ^ d
  | 0, _ => Nat.le_refl _
  | d + 1, a => by
    have hv := hV a.length
    have key : ∀ (m : Nat) (k : Int), ((rng m k).flatMap fun k => allL p d (a ++ [k])).length ≤ m * 4 ^ d := by
      intro m
      induction m with
      | zero => intro k; simp [rng]
      | succ m ih =>
        intro k
        show ((k :: rng m (k + 1)).flatMap _).length ≤ _
        rw [List.flatMap_cons, List.length_append, Nat.succ_mul]
        have := ih (k + 1)
        have := allL_bound hV d (a ++ [k])
        omega
    unfold allL
    refine Nat.le_trans (key _ 0) ?_
    rw [Nat.pow_succ, Nat.mul_comm]
    exact Nat.mul_le_mul_left _ (by omega)
end Go.Proofs.Ytngaihdpmoajeaa.Am

namespace Go.Proofs.Ytngaihdpmoajeaa.Am
open Go
set_option maxRecDepth 100000

def k4 (x : Pz) (p : Pb) (bv fv a f : AV) (c e g n h : Int) : List (FuncId × (List AV → Prop) × (List AV → AV)) :=
  [(18, is1 [pzAV x] (pAV p)), (21, is1 [pAV p] (.tup [a, I c, I e])), (22, is1 [pAV p] (.tup [f, I g])), (16, is1 [pAV p, I 1000000] (.tup [I n, I h])), (23, is2 [a, bv] [f, fv] (.bool true)), (12, is1 [] (.bool true))]
end Go.Proofs.Ytngaihdpmoajeaa.Am

namespace Go.Proofs.Ytngaihdpmoajeaa.Am
open Go
set_option maxRecDepth 100000

theorem ok_sh {p : Pb} (hp : Ok p) : p.sh := by
  have h1 := hp.n
  have h2 := hp.c
  have h3 := hp.r
  have e : ∀ {α : Type} {L : List α}, L.length ≤ 4000 → sh L := fun {α L} h => by
    show L.length < _
    omega
  exact ⟨e (by omega), e (by omega), fun l hl => e (by have := cost_small hp l hl; omega), e (by omega), fun x hx => by
    have := rule_small hp (hp.rl x hx)
    exact ⟨e (by omega), e (by omega), fun l hl => e (by have := this.2.2 l hl; omega)⟩⟩
/-! ### Calls on an assignment of one's own -/
/-! ### What has been seen of all assignments -/
theorem bstep_some (p : Pb) (b : Option (List Int)) (x : List Int) : b.isSome = true → (bstep p b x).isSome = true := fun h => by
  unfold bstep
  cases btr p (costA p x) b with
  | true => rfl
  | false => exact h
theorem fold_some (p : Pb) : ∀ (l : List (List Int)) (b : Option (List Int)), b.isSome = true → (l.foldl (bstep p) b).isSome = true
  | [], _, h => h
  | x :: l, b, h => fold_some p l (bstep p b x) (bstep_some p b x h)
theorem best_none (p : Pb) {l : List (List Int)} (h : l.foldl (bstep p) none = none) : l = [] := by
  cases l with
  | nil => rfl
  | cons x r =>
    have := fold_some p r (bstep p none x) rfl
    rw [List.foldl_cons] at h
    rw [h] at this
    cases this
/-! ### The loop -/
/-! ### SearchBest -/
theorem sols_le {p : Pb} (d : Nat) (a : List Int) : (solL p d a).length ≤ (allL p d a).length := List.length_filter_le _ _
theorem made_few (x : Pz) : (allL (madeP x) (madeP x).V.length []).length ≤ 1024 := by
  have h1 := allL_bound (p := madeP x) (fun i => (vals_le x i).2) (madeP x).V.length []
  have h2 : (madeP x).V.length ≤ 5 := by
    have := vals_len x
    have := N18_le x
    show (valsM x (N18 x)).length ≤ 5
    omega
  exact Nat.le_trans h1 (Nat.pow_le_pow_right (by omega) h2 : 4 ^ (madeP x).V.length ≤ 4 ^ 5)
theorem countR_all {p : Pb} (hp : Ok p) (hl : (allL p p.V.length []).length ≤ 1000000) : countR p 1000000 (countW p 1000000) = .tup [I (solL p p.V.length []).length, I 0] := by
  unfold countR
  rw [valid_iff.2 hp, cond_true]
  have hin : inB 1000000 0 1000000 = true := rfl
  rw [hin, cond_true, count_ref hp (by omega), refN_sol hp (by omega)]
  have := sols_le (p := p) p.V.length []
  unfold minI
  rw [if_pos (by omega)]
end Go.Proofs.Ytngaihdpmoajeaa.Am

namespace Go.Proofs.Ytngaihdpmoajeaa.Am
open Go
set_option maxRecDepth 100000

/-! ### The beginning -/
def hP (p : Pb) (o : AObj) : Heap := [o, .cells 0 (pbC p)]
/-! ### The values of the next variable -/
def k5 (x : Pz) (p : Pb) (a bk : List Int) (c e w : Int) (ok : Bool) : List (FuncId × (List AV → Prop) × (List AV → AV)) :=
  [(18, is1 [pzAV x] (pAV p)), (14, is1 [flL a] (flL a)), (13, is1 [pAV p, flL a] (.tup [I c, I e])), (24, is1 [pAV p, flL a] (.tup [flL bk, I 0])), (25, is1 [pAV p, flL a] (.tup [I w, I 0])), (20, is1 [pAV p, flL a] (.tup [.bool ok, I w])), (12, is1 [] (.bool true))]
end Go.Proofs.Ytngaihdpmoajeaa.Am

namespace Go.Proofs.Ytngaihdpmoajeaa.Am
open Go
set_option maxRecDepth 100000

/-! ### The beginning -/
theorem below_flB (L : List Int) : Below 0 (flB L) := below_fl fun i y hy => by rw [List.mem_singleton.1 hy]; exact .int _ _
def D0 : Nat → Bool := fun q => Nat.beq q 0
/-! ### The least cost -/
/-! ### The values of the next variable -/
end Go.Proofs.Ytngaihdpmoajeaa.Am

namespace Go.Proofs.Ytngaihdpmoajeaa.Am
open Go
set_option maxRecDepth 100000

end Go.Proofs.Ytngaihdpmoajeaa.Am

namespace Go.Proofs.Ytngaihdpmoajeaa.Am
open Go
set_option maxRecDepth 100000

/-! ### SearchFewer -/
noncomputable def b8 : Code := bodyOf Try.prog 8
theorem ids8 : (loopsOf b8).map idOf = [4, 8, 14, 28] := by kernel_rfl
noncomputable def body8a : Code := (loopsOf b8).headD .skip
noncomputable def body8b : Code := ((loopsOf b8).drop 1).headD .skip
noncomputable def body8c : Code := ((loopsOf b8).drop 2).headD .skip
noncomputable def body8d : Code := ((loopsOf b8).drop 3).headD .skip
def hF (p : Pb) (o w : AObj) : Heap := [o, w, .cells 0 (pbC p)]
def st8a (p : Pb) (l : List Int) (v : AV) (o : AObj) (k : Int) : St := .of 179 (hF p o .resv) [(1, flB l, true), (4, .bool false, false), (5, .ref 2 0 0, true), (6, v, true), (7, .zs, true), (8, I k, true)]
def keep8a : List Nat := [1, 4, 5, 6, 7, 8]
theorem run8a (g : Prop) (p : Pb) (l : List Int) (v v' : AV) (o o' : AObj) (k c : Int) : xBodyT { boxRow := false, hint := hApO 22 1 0 [I c] v v' o o' g } 200 noLoops keep8a 3 body8a (st8a p l v o k) = .ite (decide (k < (↑l.length : Int))) (.ite (decide (k < (8 : Int))) (.need (((0 : Int) ≤ k) ∧ (k < (↑l.length : Int))) (.need (((Option.some [v, (AV.sl (1 : Nat) [[(I (IntKind.i64.wrap (l.getD k.toNat (0 : Int))))]])]) = (Option.some [v, (AV.sl (1 : Nat) [[(I c)]])])) ∧ (((Option.some o) = (Option.some o)) ∧ (g))) (.leaf (Exit.normal, St.of 179 [o', AObj.resv, (AObj.cells (0 : Nat) [(flL (p.V)), (flLL (p.C)), (flR (p.R))])] [(1, (flB (l)), true), (4, (AV.bool false), false), (5, (AV.ref (2 : Nat) (0 : Nat) (0 : Nat)), true), (6, v', true), (7, AV.zs, true), (8, (I (IntKind.i64.wrap (k + (1 : Int)))), true)])))) (.leaf ((Exit.exit (0 : Nat)), St.of 179 [o, AObj.resv, (AObj.cells (0 : Nat) [(flL (p.V)), (flLL (p.C)), (flR (p.R))])] [(1, (flB (l)), true), (4, (AV.bool false), false), (5, (AV.ref (2 : Nat) (0 : Nat) (0 : Nat)), true), (6, v, true), (7, AV.zs, true), (8, (I k), true)]))) (.leaf ((Exit.exit (0 : Nat)), St.of 179 [o, AObj.resv, (AObj.cells (0 : Nat) [(flL (p.V)), (flLL (p.C)), (flR (p.R))])] [(1, (flB (l)), true), (4, (AV.bool false), false), (5, (AV.ref (2 : Nat) (0 : Nat) (0 : Nat)), true), (6, v, true), (7, AV.zs, true), (8, (I k), true)])) := by kernel_rfl
def st8b (p : Pb) (s : List Int) (v : AV) (o : AObj) (k : Int) : St := .of 179 (hF p .resv o) [(4, .bool false, false), (5, .ref 2 0 0, true), (6, flL s, true), (7, v, true), (50, flR p.R, true), (51, I p.R.length, true), (52, I k, true)]
def keep8b : List Nat := [4, 5, 6, 7, 50, 51, 52]
theorem run8b (g : Prop) (p : Pb) (s : List Int) (v v' : AV) (o o' : AObj) (k : Int) : xBodyT { boxRow := false, hint := hApO 22 1 1 [I (p.R.getD k.toNat r0).d] v v' o o' g } 200 noLoops keep8b 3 body8b (st8b p s v o k) = .ite (decide (k < (↑p.R.length : Int))) (.need (((0 : Int) ≤ k) ∧ (k < (↑p.R.length : Int))) (.need (((Option.some [v, (AV.sl (1 : Nat) [[(I ((p.R.getD k.toNat r0).d))]])]) = (Option.some [v, (AV.sl (1 : Nat) [[(I ((p.R.getD k.toNat r0).d))]])])) ∧ (((Option.some o) = (Option.some o)) ∧ (g))) (.leaf (Exit.normal, St.of 179 [AObj.resv, o', (AObj.cells (0 : Nat) [(flL (p.V)), (flLL (p.C)), (flR (p.R))])] [(4, (AV.bool false), false), (5, (AV.ref (2 : Nat) (0 : Nat) (0 : Nat)), true), (6, (flL (s)), true), (7, v', true), (50, (flR (p.R)), true), (51, (I ((↑p.R.length : Int))), true), (52, (I (IntKind.i64.wrap (k + (1 : Int)))), true)])))) (.leaf ((Exit.exit (2 : Nat)), St.of 179 [AObj.resv, o, (AObj.cells (0 : Nat) [(flL (p.V)), (flLL (p.C)), (flR (p.R))])] [(4, (AV.bool false), false), (5, (AV.ref (2 : Nat) (0 : Nat) (0 : Nat)), true), (6, (flL (s)), true), (7, v, true), (50, (flR (p.R)), true), (51, (I ((↑p.R.length : Int))), true), (52, (I k), true)])) := by kernel_rfl
def hQ (p q : Pb) : Heap := [.resv, .resv, .cells 0 (pbC p), .cells 0 (pbC q)]
def st8c (p q : Pb) (s e : List Int) (k : Int) : St := .of 179 (hQ p q) [(4, .bool false, false), (5, .ref 2 0 0, true), (6, flL s, true), (7, flL e, true), (11, .ref 3 0 0, true), (67, flR q.R, true), (68, I q.R.length, true), (69, I k, true)]
def keep8c : List Nat := [4, 5, 6, 7, 11, 67, 68, 69]
theorem run8c (g : Prop) (p q : Pb) (s e : List Int) (k : Int) (b : Bool) : xBodyT { EG g [(35, [flL s, I (q.R.getD k.toNat r0).d], .bool b)] with boxRow := false } 200 noLoops keep8c 4 body8c (st8c p q s e k) = .ite (decide (k < (↑q.R.length : Int))) (.need (((0 : Int) ≤ k) ∧ (k < (↑q.R.length : Int))) (.need (g) (.need ([(flL (s)), (I ((q.R.getD k.toNat r0).d))] = [(flL (s)), (I ((q.R.getD k.toNat r0).d))]) (.ite (!b) (.leaf (Exit.ret, St.of 179 [AObj.resv, AObj.resv, (AObj.cells (0 : Nat) [(flL (p.V)), (flLL (p.C)), (flR (p.R))]), (AObj.cells (0 : Nat) [(flL (q.V)), (flLL (q.C)), (flR (q.R))])] [(4, (AV.bool false), false), (5, (AV.ref (2 : Nat) (0 : Nat) (0 : Nat)), true), (6, (flL (s)), true), (7, (flL (e)), true), (11, (AV.ref (3 : Nat) (0 : Nat) (0 : Nat)), true), (67, (flR (q.R)), true), (68, (I ((↑q.R.length : Int))), true), (69, (I k), true)])) (.leaf (Exit.normal, St.of 179 [AObj.resv, AObj.resv, (AObj.cells (0 : Nat) [(flL (p.V)), (flLL (p.C)), (flR (p.R))]), (AObj.cells (0 : Nat) [(flL (q.V)), (flLL (q.C)), (flR (q.R))])] [(4, (AV.bool false), false), (5, (AV.ref (2 : Nat) (0 : Nat) (0 : Nat)), true), (6, (flL (s)), true), (7, (flL (e)), true), (11, (AV.ref (3 : Nat) (0 : Nat) (0 : Nat)), true), (67, (flR (q.R)), true), (68, (I ((↑q.R.length : Int))), true), (69, (I (IntKind.i64.wrap (k + (1 : Int)))), true)])))))) (.leaf ((Exit.exit (4 : Nat)), St.of 179 [AObj.resv, AObj.resv, (AObj.cells (0 : Nat) [(flL (p.V)), (flLL (p.C)), (flR (p.R))]), (AObj.cells (0 : Nat) [(flL (q.V)), (flLL (q.C)), (flR (q.R))])] [(4, (AV.bool false), false), (5, (AV.ref (2 : Nat) (0 : Nat) (0 : Nat)), true), (6, (flL (s)), true), (7, (flL (e)), true), (11, (AV.ref (3 : Nat) (0 : Nat) (0 : Nat)), true), (67, (flR (q.R)), true), (68, (I ((↑q.R.length : Int))), true), (69, (I k), true)])) := by kernel_rfl
def st8d (p q : Pb) (e fr : List Int) (c x s k : Int) : St := .of 179 (hQ p q) [(4, .bool false, false), (5, .ref 2 0 0, true), (7, flL e, true), (15, I x, true), (24, flL fr, true), (25, I c, true), (26, I s, true), (133, flLL p.C, true), (134, I p.C.length, true), (135, I k, true)]
def keep8d : List Nat := [4, 5, 7, 15, 24, 25, 26, 133, 134, 135]
theorem run8d (g : Prop) (p q : Pb) (e fr : List Int) (c x s k i : Int) : xBody Try.prog G0 { EG g [(36, [flL (p.C.getD k.toNat [])], I (minL (p.C.getD k.toNat []))), (37, [flL (p.C.getD k.toNat []), I (minL (p.C.getD k.toNat []))], I i)] with boxRow := false } 200 noLoops keep8d body8d (st8d p q e fr c x s k) = .ite (decide (k < (↑p.C.length : Int))) (.need (((0 : Int) ≤ k) ∧ (k < (↑p.C.length : Int))) (.need (g) (.need ([(flL (p.C.getD k.toNat []))] = [(flL (p.C.getD k.toNat []))]) (.ite ((↑fr.length : Int) != (↑p.C.length : Int)) (.leaf (Exit.ret, St.of 179 [AObj.resv, AObj.resv, (AObj.cells (0 : Nat) [(flL (p.V)), (flLL (p.C)), (flR (p.R))]), (AObj.cells (0 : Nat) [(flL (q.V)), (flLL (q.C)), (flR (q.R))])] [(4, (AV.bool false), false), (5, (AV.ref (2 : Nat) (0 : Nat) (0 : Nat)), true), (7, (flL (e)), true), (15, (I x), true), (24, (flL (fr)), true), (25, (I c), true), (26, (I (IntKind.i64.wrap (s + minL (p.C.getD k.toNat [])))), true), (133, (flLL (p.C)), true), (134, (I ((↑p.C.length : Int))), true), (135, (I k), true)])) (.need (((0 : Int) ≤ k) ∧ (k < (↑fr.length : Int))) (.need (g) (.need ([(flL (p.C.getD k.toNat []))] = [(flL (p.C.getD k.toNat []))]) (.need (g) (.need ([(flL (p.C.getD k.toNat [])), (I (minL (p.C.getD k.toNat [])))] = [(flL (p.C.getD k.toNat [])), (I (minL (p.C.getD k.toNat [])))]) (.ite (fr.getD k.toNat (0 : Int) != i) (.leaf (Exit.ret, St.of 179 [AObj.resv, AObj.resv, (AObj.cells (0 : Nat) [(flL (p.V)), (flLL (p.C)), (flR (p.R))]), (AObj.cells (0 : Nat) [(flL (q.V)), (flLL (q.C)), (flR (q.R))])] [(4, (AV.bool false), false), (5, (AV.ref (2 : Nat) (0 : Nat) (0 : Nat)), true), (7, (flL (e)), true), (15, (I x), true), (24, (flL (fr)), true), (25, (I c), true), (26, (I (IntKind.i64.wrap (s + minL (p.C.getD k.toNat [])))), true), (133, (flLL (p.C)), true), (134, (I ((↑p.C.length : Int))), true), (135, (I k), true)])) (.leaf (Exit.normal, St.of 179 [AObj.resv, AObj.resv, (AObj.cells (0 : Nat) [(flL (p.V)), (flLL (p.C)), (flR (p.R))]), (AObj.cells (0 : Nat) [(flL (q.V)), (flLL (q.C)), (flR (q.R))])] [(4, (AV.bool false), false), (5, (AV.ref (2 : Nat) (0 : Nat) (0 : Nat)), true), (7, (flL (e)), true), (15, (I x), true), (24, (flL (fr)), true), (25, (I c), true), (26, (I (IntKind.i64.wrap (s + minL (p.C.getD k.toNat [])))), true), (133, (flLL (p.C)), true), (134, (I ((↑p.C.length : Int))), true), (135, (I (IntKind.i64.wrap (k + (1 : Int)))), true)])))))))))))) (.leaf ((Exit.exit (6 : Nat)), St.of 179 [AObj.resv, AObj.resv, (AObj.cells (0 : Nat) [(flL (p.V)), (flLL (p.C)), (flR (p.R))]), (AObj.cells (0 : Nat) [(flL (q.V)), (flLL (q.C)), (flR (q.R))])] [(4, (AV.bool false), false), (5, (AV.ref (2 : Nat) (0 : Nat) (0 : Nat)), true), (7, (flL (e)), true), (15, (I x), true), (24, (flL (fr)), true), (25, (I c), true), (26, (I s), true), (133, (flLL (p.C)), true), (134, (I ((↑p.C.length : Int))), true), (135, (I k), true)])) := by kernel_rfl
/-- A call that leaves the heap alone, known by the temporary that is its first argument. -/
def hCal (f : FuncId) (j : Nat) (xs : List AV) (v : AV) : Heap → Oper → (Operand → Option AV) → Option (AV × Bool × Heap × Prop) := fun h o ρ => match o.op with
  | .call c => match c.callee with
    | .value (.func g) => match c.args.toList with
      | .tmp i :: _ => bif Nat.beq g f && Nat.beq i j then some (v, true, h, evAllR ρ c.args.toList = some xs) else none
      | _ => none
    | _ => none
  | _ => none
theorem hCal_ok {f : FuncId} {j : Nat} {xs : List AV} {v : AV} (hc : ∀ σ, ACall Try.prog G0 f xs σ v σ) : HintOk Try.prog G0 (hCal f j xs v) := by
  refine ⟨fun h o a m y tg h' p hh hp => ?_, fun h o ρ y tg h' p hh hp hq => ?_⟩
  · unfold hCal at hh
    split at hh <;> first | (cases hh; done) | skip
    rename_i c ho
    split at hh <;> first | (cases hh; done) | skip
    rename_i g hcal
    split at hh <;> first | (cases hh; done) | skip
    cases hb : Nat.beq g f && Nat.beq _ j with
    | false => rw [hb] at hh; cases hh
    | true =>
      rw [hb, cond_true] at hh
      cases hh
      obtain rfl := Nat.eq_of_beq_eq_true (Bool.and_eq_true_iff.1 hb).1
      refine AStep.call (first := []) (caps := []) ho hcal rfl (by rw [evAllR_eq]; exact hp) ?_
      have := hc h
      simpa using this
  · unfold hCal at hh
    split at hh <;> first | (cases hh; done) | skip
    split at hh <;> first | (cases hh; done) | skip
    split at hh <;> first | (cases hh; done) | skip
    revert hh
    cases Nat.beq _ _ && Nat.beq _ _ <;> intro hh <;> cases hh <;> rfl
def H8 (p q r : Pb) (s e a1 a2 fr : List Int) (n m c1 g c2 h c3 : Int) : Heap → Oper → (Operand → Option AV) → Option (AV × Bool × Heap × Prop) :=
  orH (hStA 26 2) (orH (hStA 26 3) (orH (hCal 16 80 [pAV p, I 1000000] (.tup [I n, I 0])) (orH (hCal 16 85 [pAV q, I 1000000] (.tup [I m, I 0])) (orH (hCal 21 90 [pAV p] (.tup [flL a1, I c1, I g])) (orH (hCal 21 96 [pAV q] (.tup [flL a2, I c2, I h]))
    (orH (hCal 21 127 [pAV r] (.tup [flL fr, I c3, I 0])) (orH (hCal 31 62 [pAV p, flL s] (pAV q)) (orH (hCal 31 126 [pAV p, .zs] (pAV r)) (hCal 31 170 [pAV p, flL e] (pAV p))))))))))
def k8 (x : Pz) (p : Pb) (s : List Int) : List (FuncId × (List AV → Prop) × (List AV → AV)) := [(18, is1 [pzAV x] (pAV p)), (14, is1 [flL s] (flL s)), (30, is1 [pAV p, pAV p] (.bool true)), (12, is1 [] (.bool true))]
def E8 (x : Pz) (p q r : Pb) (s e a1 a2 fr : List Int) (n m c1 g c2 h c3 : Int) : Env := { EN (k8 x p s) (H8 p q r s e a1 a2 fr n m c1 g c2 h c3) with boxRow := true }
noncomputable def mv8 (p q : Pb) : Nat → Option (List Nat × (Nat → Heap)) := fun id => bif Nat.beq id 12 then some ([4, 5], fun n => match n with
  | 0 => hF p .resv .resv
  | 1 => hF p .resv .resv ++ [.cells 0 zPb]
  | _ => hQ p q) else none
def lp8 (p q : Pb) (l s e fr : List Int) (i c3 w : Int) : Loops := lpAnd (lpB 4 keep8a (st8a p l .zs .resv 0) (.exit 0) (st8a p l (flL s) .resv i)) (lpAnd (lpB 8 keep8b (st8b p s .zs .resv 0) (.exit 2) (st8b p s (flL e) .resv p.R.length)) (lpAnd (lpB 14 keep8c (st8c p q s e 0) (.exit 4) (st8c p q s e q.R.length)) (lpB 28 keep8d (st8d p q e fr c3 0 0 0) (.exit 6) (st8d p q e fr c3 0 w p.C.length))))
theorem runF8 (x : Pz) (p q r : Pb) (l s e a1 a2 fr : List Int) (n m c1 g c2 h c3 w i : Int) : xenter Try.prog (E8 x p q r s e a1 a2 fr n m c1 g c2 h c3) (xCodeM Try.prog G0 (E8 x p q r s e a1 a2 fr n m c1 g c2 h c3) (mv8 p q) 200 (lp8 p q l s e fr i c3 w)) 8 [pzAV x, flB l] [true, true] [.resv, .resv] = .need ([(AV.agg [(flB (x.V)), (flB (x.C)), (flC (x.R))])] = [(AV.agg [(flB (x.V)), (flB (x.C)), (flC (x.R))])]) (.need (((Option.some (3 : Nat)) = (Option.some (3 : Nat))) ∧ ((true = true) ∧ ((3 : Nat) ≤ (3 : Nat)))) (.need ((st8a p l .zs .resv 0).vals = (st8a p l .zs .resv 0).vals) (.need ((st8b p s .zs .resv 0).vals = (st8b p s .zs .resv 0).vals) (.need ([AObj.resv, AObj.resv, (AObj.cells (0 : Nat) [(flL (p.V)), (flLL (p.C)), (flR (p.R))])] = [AObj.resv, AObj.resv, (AObj.cells (0 : Nat) [(flL (p.V)), (flLL (p.C)), (flR (p.R))])]) (.need ([AObj.resv, AObj.resv, (AObj.cells (0 : Nat) [(flL (p.V)), (flLL (p.C)), (flR (p.R))])] = [AObj.resv, AObj.resv, (AObj.cells (0 : Nat) [(flL (p.V)), (flLL (p.C)), (flR (p.R))])]) (.need (((AV.agg [(flL (p.V)), (flLL (p.C)), (flR (p.R))]) = (AV.agg [(flL (p.V)), (flLL (p.C)), (flR (p.R))])) ∧ ([AObj.resv, AObj.resv, (AObj.cells (0 : Nat) [(flL (p.V)), (flLL (p.C)), (flR (p.R))]), (AObj.cells (0 : Nat) [AV.zs, AV.zs, AV.zs])] = [AObj.resv, AObj.resv, (AObj.cells (0 : Nat) [(flL (p.V)), (flLL (p.C)), (flR (p.R))]), (AObj.cells (0 : Nat) [AV.zs, AV.zs, AV.zs])])) (.need ([AObj.resv, AObj.resv, (AObj.cells (0 : Nat) [(flL (p.V)), (flLL (p.C)), (flR (p.R))])] = [AObj.resv, AObj.resv, (AObj.cells (0 : Nat) [(flL (p.V)), (flLL (p.C)), (flR (p.R))])]) (.need (((flL (s)) = (flL (s))) ∧ ([AObj.resv, AObj.resv, (AObj.cells (0 : Nat) [(flL (p.V)), (flLL (p.C)), (flR (p.R))]), (AObj.cells (0 : Nat) [AV.zs, AV.zs, AV.zs])] = [AObj.resv, AObj.resv, (AObj.cells (0 : Nat) [(flL (p.V)), (flLL (p.C)), (flR (p.R))]), (AObj.cells (0 : Nat) [AV.zs, AV.zs, AV.zs])])) (.need ([(flL (s))] = [(flL (s))]) (.need ([AObj.resv, AObj.resv, (AObj.cells (0 : Nat) [(flL (p.V)), (flLL (p.C)), (flR (p.R))])] = [AObj.resv, AObj.resv, (AObj.cells (0 : Nat) [(flL (p.V)), (flLL (p.C)), (flR (p.R))])]) (.need ([(flL (s))] = [(flL (s))]) (.need (((flL (s)) = (flL (s))) ∧ ([AObj.resv, AObj.resv, (AObj.cells (0 : Nat) [(flL (p.V)), (flLL (p.C)), (flR (p.R))]), (AObj.cells (0 : Nat) [AV.zs, AV.zs, AV.zs])] = [AObj.resv, AObj.resv, (AObj.cells (0 : Nat) [(flL (p.V)), (flLL (p.C)), (flR (p.R))]), (AObj.cells (0 : Nat) [AV.zs, AV.zs, AV.zs])])) (.need ((Option.some [(AV.agg [(flL (p.V)), (flLL (p.C)), (flR (p.R))]), (flL (s))]) = (Option.some [(AV.agg [(flL (p.V)), (flLL (p.C)), (flR (p.R))]), (flL (s))])) (.need ([AObj.resv, AObj.resv, (AObj.cells (0 : Nat) [(flL (p.V)), (flLL (p.C)), (flR (p.R))])] = [AObj.resv, AObj.resv, (AObj.cells (0 : Nat) [(flL (p.V)), (flLL (p.C)), (flR (p.R))])]) (.need ((Option.some [(AV.agg [(flL (p.V)), (flLL (p.C)), (flR (p.R))]), (flL (s))]) = (Option.some [(AV.agg [(flL (p.V)), (flLL (p.C)), (flR (p.R))]), (flL (s))])) (.need (((AV.agg [(flL (q.V)), (flLL (q.C)), (flR (q.R))]) = (AV.agg [(flL (q.V)), (flLL (q.C)), (flR (q.R))])) ∧ ([AObj.resv, AObj.resv, (AObj.cells (0 : Nat) [(flL (p.V)), (flLL (p.C)), (flR (p.R))]), (AObj.cells (0 : Nat) [AV.zs, AV.zs, AV.zs])] = [AObj.resv, AObj.resv, (AObj.cells (0 : Nat) [(flL (p.V)), (flLL (p.C)), (flR (p.R))]), (AObj.cells (0 : Nat) [AV.zs, AV.zs, AV.zs])])) (.need ([AObj.resv, AObj.resv, (AObj.cells (0 : Nat) [(flL (p.V)), (flLL (p.C)), (flR (p.R))]), (AObj.cells (0 : Nat) [AV.zs, AV.zs, AV.zs])] = [AObj.resv, AObj.resv, (AObj.cells (0 : Nat) [(flL (p.V)), (flLL (p.C)), (flR (p.R))]), (AObj.cells (0 : Nat) [AV.zs, AV.zs, AV.zs])]) (.need (((Option.some (3 : Nat)) = (Option.some (3 : Nat))) ∧ ((true = true) ∧ ((3 : Nat) ≤ (3 : Nat)))) (.need ([AObj.resv, AObj.resv, (AObj.cells (0 : Nat) [(flL (p.V)), (flLL (p.C)), (flR (p.R))]), (AObj.cells (0 : Nat) (setL [AV.zs, AV.zs, AV.zs] (0 : Nat) [(flL (q.V)), (flLL (q.C)), (flR (q.R))]))] = [AObj.resv, AObj.resv, (AObj.cells (0 : Nat) [(flL (p.V)), (flLL (p.C)), (flR (p.R))]), (AObj.cells (0 : Nat) [(flL (q.V)), (flLL (q.C)), (flR (q.R))])]) (.need ((st8c p q s e 0).vals = (st8c p q s e 0).vals) (.need ((Option.some [(AV.agg [(flL (p.V)), (flLL (p.C)), (flR (p.R))]), (I ((1000000 : Int)))]) = (Option.some [(AV.agg [(flL (p.V)), (flLL (p.C)), (flR (p.R))]), (I ((1000000 : Int)))])) (.need ((Option.some [(AV.agg [(flL (q.V)), (flLL (q.C)), (flR (q.R))]), (I ((1000000 : Int)))]) = (Option.some [(AV.agg [(flL (q.V)), (flLL (q.C)), (flR (q.R))]), (I ((1000000 : Int)))])) (.need ((Option.some [(AV.agg [(flL (p.V)), (flLL (p.C)), (flR (p.R))])]) = (Option.some [(AV.agg [(flL (p.V)), (flLL (p.C)), (flR (p.R))])])) (.need ((Option.some [(AV.agg [(flL (q.V)), (flLL (q.C)), (flR (q.R))])]) = (Option.some [(AV.agg [(flL (q.V)), (flLL (q.C)), (flR (q.R))])])) (.ite ((0 : Int) != (0 : Int)) (.leaf ((AV.bool false), false, [AObj.resv, AObj.resv, (AObj.cells (0 : Nat) [(flL (p.V)), (flLL (p.C)), (flR (p.R))]), (AObj.cells (0 : Nat) [(flL (q.V)), (flLL (q.C)), (flR (q.R))])])) (.ite ((0 : Int) != (0 : Int)) (.leaf ((AV.bool false), false, [AObj.resv, AObj.resv, (AObj.cells (0 : Nat) [(flL (p.V)), (flLL (p.C)), (flR (p.R))]), (AObj.cells (0 : Nat) [(flL (q.V)), (flLL (q.C)), (flR (q.R))])])) (.ite (decide (m < n)) (.leaf ((AV.bool false), false, [AObj.resv, AObj.resv, (AObj.cells (0 : Nat) [(flL (p.V)), (flLL (p.C)), (flR (p.R))]), (AObj.cells (0 : Nat) [(flL (q.V)), (flLL (q.C)), (flR (q.R))])])) (.ite (g == (0 : Int)) (.ite (h != (0 : Int)) (.leaf ((AV.bool false), false, [AObj.resv, AObj.resv, (AObj.cells (0 : Nat) [(flL (p.V)), (flLL (p.C)), (flR (p.R))]), (AObj.cells (0 : Nat) [(flL (q.V)), (flLL (q.C)), (flR (q.R))])])) (.ite (decide (c2 > c1)) (.leaf ((AV.bool false), false, [AObj.resv, AObj.resv, (AObj.cells (0 : Nat) [(flL (p.V)), (flLL (p.C)), (flR (p.R))]), (AObj.cells (0 : Nat) [(flL (q.V)), (flLL (q.C)), (flR (q.R))])])) (.need ((Option.some [(AV.agg [(flL (p.V)), (flLL (p.C)), (flR (p.R))]), AV.zs]) = (Option.some [(AV.agg [(flL (p.V)), (flLL (p.C)), (flR (p.R))]), AV.zs])) (.need ((Option.some [(AV.agg [(flL (r.V)), (flLL (r.C)), (flR (r.R))])]) = (Option.some [(AV.agg [(flL (r.V)), (flLL (r.C)), (flR (r.R))])])) (.need ((st8d p q e fr c3 0 0 0).vals = (st8d p q e fr c3 0 0 0).vals) (.ite ((0 : Int) == (0 : Int)) (.ite (c3 == w) (.need ((Option.some [(AV.agg [(flL (p.V)), (flLL (p.C)), (flR (p.R))]), (flL (e))]) = (Option.some [(AV.agg [(flL (p.V)), (flLL (p.C)), (flR (p.R))]), (flL (e))])) (.need ([(AV.agg [(flL (p.V)), (flLL (p.C)), (flR (p.R))]), (AV.agg [(flL (p.V)), (flLL (p.C)), (flR (p.R))])] = [(AV.agg [(flL (p.V)), (flLL (p.C)), (flR (p.R))]), (AV.agg [(flL (p.V)), (flLL (p.C)), (flR (p.R))])]) (.ite (true) (.need (([] : List AV) = []) (.leaf ((AV.bool true), true, [AObj.resv, AObj.resv, (AObj.cells (0 : Nat) [(flL (p.V)), (flLL (p.C)), (flR (p.R))]), (AObj.cells (0 : Nat) [(flL (q.V)), (flLL (q.C)), (flR (q.R))])]))) (.leaf ((AV.bool false), false, [AObj.resv, AObj.resv, (AObj.cells (0 : Nat) [(flL (p.V)), (flLL (p.C)), (flR (p.R))]), (AObj.cells (0 : Nat) [(flL (q.V)), (flLL (q.C)), (flR (q.R))])]))))) (.leaf ((AV.bool false), false, [AObj.resv, AObj.resv, (AObj.cells (0 : Nat) [(flL (p.V)), (flLL (p.C)), (flR (p.R))]), (AObj.cells (0 : Nat) [(flL (q.V)), (flLL (q.C)), (flR (q.R))])]))) (.leaf ((AV.bool false), false, [AObj.resv, AObj.resv, (AObj.cells (0 : Nat) [(flL (p.V)), (flLL (p.C)), (flR (p.R))]), (AObj.cells (0 : Nat) [(flL (q.V)), (flLL (q.C)), (flR (q.R))])])))))))) (.need ((Option.some [(AV.agg [(flL (p.V)), (flLL (p.C)), (flR (p.R))]), AV.zs]) = (Option.some [(AV.agg [(flL (p.V)), (flLL (p.C)), (flR (p.R))]), AV.zs])) (.need ((Option.some [(AV.agg [(flL (r.V)), (flLL (r.C)), (flR (r.R))])]) = (Option.some [(AV.agg [(flL (r.V)), (flLL (r.C)), (flR (r.R))])])) (.need ((st8d p q e fr c3 0 0 0).vals = (st8d p q e fr c3 0 0 0).vals) (.ite ((0 : Int) == (0 : Int)) (.ite (c3 == w) (.need ((Option.some [(AV.agg [(flL (p.V)), (flLL (p.C)), (flR (p.R))]), (flL (e))]) = (Option.some [(AV.agg [(flL (p.V)), (flLL (p.C)), (flR (p.R))]), (flL (e))])) (.need ([(AV.agg [(flL (p.V)), (flLL (p.C)), (flR (p.R))]), (AV.agg [(flL (p.V)), (flLL (p.C)), (flR (p.R))])] = [(AV.agg [(flL (p.V)), (flLL (p.C)), (flR (p.R))]), (AV.agg [(flL (p.V)), (flLL (p.C)), (flR (p.R))])]) (.ite (true) (.need (([] : List AV) = []) (.leaf ((AV.bool true), true, [AObj.resv, AObj.resv, (AObj.cells (0 : Nat) [(flL (p.V)), (flLL (p.C)), (flR (p.R))]), (AObj.cells (0 : Nat) [(flL (q.V)), (flLL (q.C)), (flR (q.R))])]))) (.leaf ((AV.bool false), false, [AObj.resv, AObj.resv, (AObj.cells (0 : Nat) [(flL (p.V)), (flLL (p.C)), (flR (p.R))]), (AObj.cells (0 : Nat) [(flL (q.V)), (flLL (q.C)), (flR (q.R))])]))))) (.leaf ((AV.bool false), false, [AObj.resv, AObj.resv, (AObj.cells (0 : Nat) [(flL (p.V)), (flLL (p.C)), (flR (p.R))]), (AObj.cells (0 : Nat) [(flL (q.V)), (flLL (q.C)), (flR (q.R))])]))) (.leaf ((AV.bool false), false, [AObj.resv, AObj.resv, (AObj.cells (0 : Nat) [(flL (p.V)), (flLL (p.C)), (flR (p.R))]), (AObj.cells (0 : Nat) [(flL (q.V)), (flLL (q.C)), (flR (q.R))])])))))))))))))))))))))))))))))))))) := by kernel_rfl
end Go.Proofs.Ytngaihdpmoajeaa.Am

namespace Go.Proofs.Ytngaihdpmoajeaa.Am
open Go
set_option maxRecDepth 100000

/-! ### The first place of the least number -/
def am (L : List Int) : Nat → Nat
  | 0 => 0
  | k + 1 => if L.getD (k + 1) 0 < runM mn L k then k + 1 else am L k
theorem am_ok (L : List Int) : ∀ k, am L k ≤ k ∧ L.getD (am L k) 0 = runM mn L k ∧ ∀ j, j < am L k → runM mn L k < L.getD j 0
  | 0 => ⟨Nat.le_refl _, rfl, fun j hj => absurd hj (by unfold am; omega)⟩
  | k + 1 => by
    obtain ⟨h1, h2, h3⟩ := am_ok L k
    have hm := (runM_mn L k).1
    have e : runM mn L (k + 1) = if L.getD (k + 1) 0 < runM mn L k then L.getD (k + 1) 0 else runM mn L k := rfl
    unfold am
    rw [e]
    by_cases h : L.getD (k + 1) 0 < runM mn L k
    · rw [if_pos h, if_pos h]
      exact ⟨Nat.le_refl _, rfl, fun j hj => by have := hm j (by omega); omega⟩
    · rw [if_neg h, if_neg h]
      exact ⟨by omega, h2, h3⟩
def amL (L : List Int) : Nat := am L (L.length - 1)
theorem index_min {L : List Int} (h : 0 < L.length) : index L (minL L) = amL L := by
  obtain ⟨h1, h2, h3⟩ := am_ok L (L.length - 1)
  have hlt : amL L < L.length := by unfold amL; omega
  have hs := fstStop_before (stop := fun k => minL L == L.getD k 0) L.length 0
  have hp : fstStop (fun k => minL L == L.getD k 0) L.length 0 < L.length := (fstStop_iff _ _).2 ⟨amL L, hlt, by
    have : minL L = L.getD (amL L) 0 := h2.symm
    rw [beq_iff_eq]; exact this⟩
  have hat : minL L = L.getD (fstStop (fun k => minL L == L.getD k 0) L.length 0) 0 := by
    have := fstStop_at' (stop := fun k => minL L == L.getD k 0) L.length 0 (by omega)
    rwa [beq_iff_eq] at this
  unfold index
  rw [dT hp, cond_true]
  congr 1
  rcases Nat.lt_trichotomy (fstStop (fun k => minL L == L.getD k 0) L.length 0) (amL L) with h4 | h4 | h4
  · have h5 : minL L < L.getD (fstStop (fun k => minL L == L.getD k 0) L.length 0) 0 := h3 _ h4
    omega
  · exact h4
  · have h5 := hs (amL L) (by omega) h4
    have h6 : minL L = L.getD (amL L) 0 := h2.symm
    rw [beq_eq_false_iff_ne] at h5
    exact absurd h6 h5
/-! ### The best of all assignments -/
def idF (p : Pb) (i : Nat) : Int := (amL (p.C.getD i []) : Nat)
def tl (p : Pb) : Nat → Nat → List Int
  | 0, _ => []
  | d + 1, i => idF p i :: tl p d (i + 1)
theorem tl_len (p : Pb) : ∀ d i, (tl p d i).length = d
  | 0, _ => rfl
  | d + 1, i => congrArg (· + 1) (tl_len p d (i + 1))
theorem tl_at (p : Pb) : ∀ {d i j : Nat}, j < d → (tl p d i).getD j 0 = idF p (i + j)
  | 0, _, _, h => by omega
  | d + 1, i, 0, _ => rfl
  | d + 1, i, j + 1, h => by
    show (tl p d (i + 1)).getD j 0 = _
    rw [tl_at p (by omega), show i + 1 + j = i + (j + 1) by omega]
theorem cost_min (p : Pb) (a : List Int) : (p.C.getD a.length []).getD (idF p a.length).toNat 0 = minL (p.C.getD a.length []) := by
  unfold idF
  rw [Int.toNat_natCast]
  exact (am_ok (p.C.getD a.length []) ((p.C.getD a.length []).length - 1)).2.1
theorem cost_tl (p : Pb) : ∀ (d : Nat) (a : List Int), a.length + d = p.V.length → costA p (a ++ tl p d a.length) = costA p a + restA p a.length
  | 0, a, h => by
    have e : a ++ tl p 0 a.length = a := List.append_nil a
    rw [e, show a.length = p.V.length by omega, restA_end]
    omega
  | d + 1, a, h => by
    have e : a ++ tl p (d + 1) a.length = (a ++ [idF p a.length]) ++ tl p d (a ++ [idF p a.length]).length := by
      rw [List.length_append, List.length_singleton, List.append_assoc]
      rfl
    rw [e, cost_tl p d _ (by rw [List.length_append, List.length_singleton]; omega), cost_app, cost_min, List.length_append, List.length_singleton, restA_step p (i := a.length) (by omega)]
    omega
theorem run_min {p : Pb} {K : Int} {L : List Int} {X : Nat → List Int} (hX : ∀ k, costA p (X k) = K + L.getD k 0) (b : Option (List Int)) : ∀ m, runK (fun (k : Int) c => bif btr p (K + L.getD k.toNat 0) c then some (X k.toNat) else c) b (m + 1) = bif btr p (K + runM mn L m) b then some (X (am L m)) else b
  | 0 => rfl
  | m + 1 => by
    show (bif btr p (K + L.getD ((m + 1 : Nat) : Int).toNat 0) (runK _ b (m + 1)) then some (X ((m + 1 : Nat) : Int).toNat) else runK _ b (m + 1)) = _
    rw [run_min hX b m, Int.toNat_natCast]
    have e1 : runM mn L (m + 1) = if L.getD (m + 1) 0 < runM mn L m then L.getD (m + 1) 0 else runM mn L m := rfl
    have e2 : am L (m + 1) = if L.getD (m + 1) 0 < runM mn L m then m + 1 else am L m := rfl
    have e3 : ∀ c x, btr p c (some x) = decide (c < costA p x) := fun _ _ => rfl
    have hc := hX (am L m)
    rw [(am_ok L m).2.1] at hc
    cases hb : btr p (K + runM mn L m) b with
    | true =>
      rw [cond_true, e3, hc]
      by_cases h : L.getD (m + 1) 0 < runM mn L m
      · have hb2 : btr p (K + L.getD (m + 1) 0) b = true := by
          cases h2 : btr p (K + L.getD (m + 1) 0) b with
          | true => rfl
          | false => rw [btr_mono (by omega) h2] at hb; cases hb
        rw [e1, e2, if_pos h, if_pos h, hb2, dT (by omega)]
        rfl
      · rw [e1, e2, if_neg h, if_neg h, hb, dF (by omega)]
        rfl
    | false =>
      rw [cond_false]
      by_cases h : L.getD (m + 1) 0 < runM mn L m
      · rw [e1, e2, if_pos h, if_pos h]
      · rw [e1, e2, if_neg h, if_neg h, hb, btr_mono (by omega) hb]
        rfl
theorem best_free {p : Pb} (hp : Ok p) : ∀ (d : Nat) (a : List Int) (b : Option (List Int)), a.length + d = p.V.length → (allL p d a).foldl (bstep p) b = bif btr p (costA p a + restA p a.length) b then some (a ++ tl p d a.length) else b
  | 0, a, b, h => by
    have e : a ++ tl p 0 a.length = a := List.append_nil a
    rw [e, show a.length = p.V.length by omega, restA_end, Int.add_zero]
    rfl
  | d + 1, a, b, h => by
    have hl : a.length < p.V.length := by omega
    have hv := hp.v a.length hl
    have hcl := hp.cl a.length hl
    have key := run_flat (g := fun (k : Int) c => bif btr p (costA p a + restA p (a.length + 1) + (p.C.getD a.length []).getD k.toNat 0) c then some ((a ++ [k]) ++ tl p d (a.length + 1)) else c) (F := fun k => allL p d (a ++ [k])) (st := bstep p) b (p.V.getD a.length 0).toNat fun j c _ => by
      have := best_free hp d (a ++ [(j : Int)]) c (by rw [List.length_append, List.length_singleton]; omega)
      rw [this, cost_app, List.length_append, List.length_singleton, show costA p a + (p.C.getD a.length []).getD (j : Int).toNat 0 + restA p (a.length + 1) = costA p a + restA p (a.length + 1) + (p.C.getD a.length []).getD (j : Int).toNat 0 by omega]
    have e0 : allL p (d + 1) a = (rng (p.V.getD a.length 0).toNat 0).flatMap fun k => allL p d (a ++ [k]) := rfl
    rw [e0, ← key]
    obtain ⟨m, hm⟩ : ∃ m, (p.V.getD a.length 0).toNat = m + 1 := ⟨(p.V.getD a.length 0).toNat - 1, by omega⟩
    have hm' : m = (p.C.getD a.length []).length - 1 := by omega
    have hX : ∀ k : Nat, costA p ((a ++ [(k : Int)]) ++ tl p d (a.length + 1)) = costA p a + restA p (a.length + 1) + (p.C.getD a.length []).getD k 0 := fun k => by
      have := cost_tl p d (a ++ [(k : Int)]) (by rw [List.length_append, List.length_singleton]; omega)
      rw [List.length_append, List.length_singleton] at this
      rw [this, cost_app, Int.toNat_natCast]
      omega
    have hrun := run_min (p := p) (K := costA p a + restA p (a.length + 1)) (L := p.C.getD a.length []) (X := fun k => (a ++ [(k : Int)]) ++ tl p d (a.length + 1)) hX b m
    have hcongr : runK (fun (k : Int) c => bif btr p (costA p a + restA p (a.length + 1) + (p.C.getD a.length []).getD k.toNat 0) c then some ((a ++ [k]) ++ tl p d (a.length + 1)) else c) b (m + 1) = runK (fun (k : Int) c => bif btr p (costA p a + restA p (a.length + 1) + (p.C.getD a.length []).getD k.toNat 0) c then some ((a ++ [((k.toNat : Nat) : Int)]) ++ tl p d (a.length + 1)) else c) b (m + 1) := by
      have : ∀ n : Nat, runK (fun (k : Int) c => bif btr p (costA p a + restA p (a.length + 1) + (p.C.getD a.length []).getD k.toNat 0) c then some ((a ++ [k]) ++ tl p d (a.length + 1)) else c) b n = runK (fun (k : Int) c => bif btr p (costA p a + restA p (a.length + 1) + (p.C.getD a.length []).getD k.toNat 0) c then some ((a ++ [((k.toNat : Nat) : Int)]) ++ tl p d (a.length + 1)) else c) b n := by
        intro n
        induction n with
        | zero => rfl
        | succ n ih =>
          unfold runK
          rw [ih, Int.toNat_natCast]
      exact this _
    rw [hm, hcongr, hrun]
    have e4 : costA p a + restA p (a.length + 1) + runM mn (p.C.getD a.length []) m = costA p a + restA p a.length := by
      rw [restA_step p hl, hm']
      unfold minL
      omega
    have e5 : (a ++ [((am (p.C.getD a.length []) m : Nat) : Int)]) ++ tl p d (a.length + 1) = a ++ tl p (d + 1) a.length := by
      rw [hm', List.append_assoc]
      rfl
    rw [e4, e5]
theorem pos_free {p : Pb} (hR : p.R = []) (x : List Int) : posB p x false = true := by
  unfold posB
  rw [hR]
  rfl
theorem free_best {p : Pb} (hp : Ok p) (hR : p.R = []) : refW p [] = some (tl p p.V.length 0) := by
  rw [refW_sol hp (beg_nil p)]
  have e : solL p (p.V.length - ([] : List Int).length) [] = allL p p.V.length [] := by
    unfold solL
    rw [List.filter_eq_self.2 fun x _ => pos_free hR x]
    rfl
  rw [e, best_free hp p.V.length [] none (by simp)]
  rfl
theorem free_cost {p : Pb} : costA p (tl p p.V.length 0) = restA p 0 := by
  have := cost_tl p p.V.length [] (by simp)
  have e : costA p [] = 0 := rfl
  rw [e] at this
  simpa using this
/-! ### Fewer rules -/
/-- The same problem with some of its rules. -/
structure Fewer (q p : Pb) : Prop where
  V : q.V = p.V
  C : q.C = p.C
  R : ∀ x ∈ q.R, x ∈ p.R
  n : q.R.length ≤ p.R.length
theorem Fewer.ok {q p : Pb} (h : Fewer q p) (hp : Ok p) : Ok q :=
  ⟨h.V ▸ hp.n, by rw [h.V, h.C]; exact hp.c, Nat.le_trans h.n hp.r, h.V ▸ hp.v, by rw [h.V, h.C]; exact hp.cl, by rw [h.V, h.C]; exact hp.cv, fun x hx => h.V ▸ hp.rl x (h.R x hx)⟩
theorem Fewer.all {q p : Pb} (h : Fewer q p) : ∀ (d : Nat) (a : List Int), allL q d a = allL p d a
  | 0, _ => rfl
  | d + 1, a => by
    unfold allL
    rw [h.V]
    exact flatMap_congr' fun k _ => h.all d _
theorem Fewer.cost {q p : Pb} (h : Fewer q p) (a : List Int) : costA q a = costA p a := by
  unfold costA costT
  rw [h.C]
theorem Fewer.pos {q p : Pb} (h : Fewer q p) {a : List Int} (ha : posB p a false = true) : posB q a false = true := by
  rw [pos_opn] at ha ⊢
  intro j hj
  obtain ⟨k, hk, e⟩ := List.mem_iff_getElem.1 (h.R _ (getD_mem (L := q.R) (d := r0) hj))
  have := ha k hk
  rw [List.getD_eq_getElem?_getD, List.getElem?_eq_getElem hk, Option.getD_some, e] at this
  exact this
theorem filter_le {α : Type} {P Q : α → Bool} (h : ∀ x, P x = true → Q x = true) : ∀ l : List α, (l.filter P).length ≤ (l.filter Q).length
  | [] => Nat.le_refl _
  | x :: r => by
    have ih := filter_le h r
    rw [List.filter_cons, List.filter_cons]
    cases hP : P x with
    | true => rw [if_pos rfl, if_pos (h x hP)]; simpa using ih
    | false =>
      rw [if_neg (by simp)]
      split
      · simp only [List.length_cons]; omega
      · exact ih
theorem Fewer.sols {q p : Pb} (h : Fewer q p) (d : Nat) (a : List Int) : (solL p d a).length ≤ (solL q d a).length := by
  unfold solL
  rw [h.all]
  exact filter_le (fun x hx => h.pos hx) _
theorem fold_le {p : Pb} : ∀ {l : List (List Int)} {b : Option (List Int)} {z : List Int}, l.foldl (bstep p) b = some z → (∀ y, b = some y → costA p z ≤ costA p y) ∧ ∀ y ∈ l, costA p z ≤ costA p y
  | [], b, z, h => ⟨fun y hy => by
    have h' : b = some z := h
    rw [h'] at hy
    cases hy
    exact Int.le_refl _, fun _ hy => by cases hy⟩
  | x :: r, b, z, h => by
    rw [List.foldl_cons] at h
    obtain ⟨h1, h2⟩ := fold_le h
    have key : (bstep p b x = some x ∧ ∀ y, b = some y → costA p x < costA p y) ∨ (∃ w, b = some w ∧ bstep p b x = some w ∧ costA p w ≤ costA p x) := by
      cases b with
      | none => exact .inl ⟨rfl, fun _ h => by cases h⟩
      | some w =>
        have e : bstep p (some w) x = bif decide (costA p x < costA p w) then some x else some w := rfl
        by_cases hlt : costA p x < costA p w
        · rw [dT hlt, cond_true] at e
          exact .inl ⟨e, fun y hy => by cases hy; exact hlt⟩
        · rw [dF hlt, cond_false] at e
          exact .inr ⟨w, rfl, e, by omega⟩
    rcases key with ⟨k1, k2⟩ | ⟨w, k1, k2, k3⟩
    · have h3 := h1 x k1
      refine ⟨fun y hy => by have := k2 y hy; omega, fun y hy => ?_⟩
      rcases List.mem_cons.1 hy with rfl | hy
      · exact h3
      · exact h2 y hy
    · have h3 := h1 w k2
      refine ⟨fun y hy => by rw [k1] at hy; cases hy; exact h3, fun y hy => ?_⟩
      rcases List.mem_cons.1 hy with rfl | hy
      · omega
      · exact h2 y hy
/-- With fewer rules the cheapest solution costs no more. -/
theorem Fewer.best {q p : Pb} (h : Fewer q p) (hp : Ok p) {y : List Int} (hy : refW p [] = some y) : ∃ z, refW q [] = some z ∧ costA q z ≤ costA p y := by
  have hq := h.ok hp
  rw [refW_sol hp (beg_nil p)] at hy
  have hm : y ∈ solL p (p.V.length - ([] : List Int).length) [] := by
    rcases fold_mem hy with h1 | h1
    · exact h1
    · cases h1
  have hm2 : y ∈ solL q (q.V.length - ([] : List Int).length) [] := by
    unfold solL at hm ⊢
    rw [h.all, h.V]
    have := List.mem_filter.1 hm
    exact List.mem_filter.2 ⟨this.1, h.pos this.2⟩
  rw [refW_sol hq (beg_nil q)]
  cases hr : (solL q (q.V.length - ([] : List Int).length) []).foldl (bstep q) none with
  | none => rw [best_none q hr] at hm2; cases hm2
  | some z => exact ⟨z, rfl, by rw [← h.cost y]; exact (fold_le hr).2 y hm2⟩
end Go.Proofs.Ytngaihdpmoajeaa.Am

namespace Go.Proofs.Ytngaihdpmoajeaa.Am
open Go
set_option maxRecDepth 100000

theorem alone_F (p : Pb) (L M : List Int) : ∀ o ∈ hF p (sO (rowI L)) (sO (rowI M)), Alone 3 o := fun o ho => by
  simp only [hF, List.mem_cons, List.not_mem_nil, or_false] at ho
  rcases ho with rfl | rfl | rfl
  · exact alone_rowI _
  · exact alone_rowI _
  · exact fun y hy => (below_pb p y hy).up
/-! ### The demands -/
def demF (l : List Int) (i : Nat) : Int := l.getD i 0
def N8 (l : List Int) : Nat := min l.length 8
def st8a' (p : Pb) (l L : List Int) (k : Int) : St := st8a p l (sV 1 0 (rowI L)) (sO (rowI L)) k
theorem clean8a (p : Pb) (l L : List Int) (k : Int) : CleanT 3 (st8a' p l L k) :=
  cleanT_of rfl (alone_F p L []) ⟨(below_flB _).up, .bool _, .ref _ _ _ (by omega), below_sV (by omega), .zs, .int _ _, trivial⟩
theorem loop8a (p : Pb) {l : List Int} (hl : ∀ k, 0 ≤ l.getD k 0 ∧ l.getD k 0 ≤ 255) : LoopA body8a (N8 l) (fun k => st8a' p l (preL (demF l) k) k) (fun k => st8a' p l (preL (demF l) k) k) (st8a' p l (preL (demF l) (N8 l)) (N8 l)) .ret (.exit 0) fun _ => false := by
  have hN : N8 l ≤ 8 := by unfold N8; omega
  refine .linT (m := 3) (fun _ => rfl) rfl nofun (fun k => clean8a p l _ k) (clean8a p l _ _) fun k hk => ?_
  have key := congrArg Tree.sel (run8a True p l (sV 1 0 (rowI (preL (demF l) k))) (sV 1 0 (rowI (preL (demF l) k ++ [demF l k]))) (sO (rowI (preL (demF l) k))) (sO (rowI (preL (demF l) k ++ [demF l k]))) k (demF l k))
  have hlk := hl k
  have w1 : IntKind.i64.wrap (l.getD k 0) = l.getD k 0 := wrapI (by omega)
  have w2 : IntKind.i64.wrap (k + 1 : Int) = ((k + 1 : Nat) : Int) := (wrapI (by omega)).trans (by omega)
  rw [Int.toNat_natCast, w1, w2, ← preL_succ] at key
  refine ⟨_, _, _, clokHint (hApO_ok els22 fun _ => by rw [preL_succ]; exact grow_I (by rw [preL_len]; omega) _ 0), lpNo _, fun hlt => key.trans ?_, fun he => key.trans ?_⟩
  · have hkl : k < l.length := by unfold N8 at hlt; omega
    exact (selIt (dT (by omega))).trans ((selIt (dT (by omega))).trans (t_need ⟨by omega, by omega⟩ (t_need ⟨rfl, rfl, trivial⟩ rfl)))
  · rw [← he]
    exact t_ite (fun h1 => (selIf (dF (by have := of_decide_eq_true h1; unfold N8 at he; omega))).trans rfl) fun _ => rfl
theorem exec8a (p : Pb) {l : List Int} (hl : ∀ k, 0 ≤ l.getD k 0 ∧ l.getD k 0 ≤ 255) : AExec Try.prog G0 (fun q => q = none) (.loop body8a) { tmps := (st8a p l .zs .resv 0).a } (hF p .resv .resv) (.exit 0) { tmps := (st8a p l (flL (preL (demF l) (N8 l))) .resv (N8 l)).a } (hF p .resv .resv) := by
  refine (loop8a p hl).drop (n := 3) (D := D0) (fun _ _ => rfl) rfl rfl (fun r q hr hD => ?_) ?_ ?_
  · obtain rfl := Nat.eq_of_beq_eq_true hD
    cases hr; rfl
  · exact ⟨.inl ⟨rfl, rfl⟩, .inr (.inl ⟨rfl, rfl, trivial⟩), .inr (.inl ⟨rfl, rfl, fun y hy => .of0 (below_pb p y hy)⟩), trivial⟩
  · exact ⟨rfl, Re.flat (below_flB _), rfl, Re.flat (.bool _), rfl, Re.good (.ref _ _ _ ⟨rfl, by omega⟩), rfl, re_ints rfl (dropP_none rfl), rfl, Re.flat .zs, rfl, re_int, trivial⟩
/-! ### The demands of all rules -/
def evyF (p : Pb) (i : Nat) : Int := (p.R.getD i r0).d
def st8b' (p : Pb) (s L : List Int) (k : Int) : St := st8b p s (sV 1 1 (rowI L)) (sO (rowI L)) k
theorem clean8b (p : Pb) (s L : List Int) (k : Int) : CleanT 3 (st8b' p s L k) :=
  cleanT_of rfl (alone_F p [] L) ⟨.bool _, .ref _ _ _ (by omega), (below_flL _).up, below_sV (by omega), (below_flR _).up, .int _ _, .int _ _, trivial⟩
theorem loop8b {p : Pb} (hp : Ok p) (s : List Int) : LoopA body8b p.R.length (fun k => st8b' p s (preL (evyF p) k) k) (fun k => st8b' p s (preL (evyF p) k) k) (st8b' p s (preL (evyF p) p.R.length) p.R.length) .ret (.exit 2) fun _ => false := by
  have hr := hp.r
  refine .linT (m := 3) (fun _ => rfl) rfl nofun (fun k => clean8b p s _ k) (clean8b p s _ _) fun k hk => ?_
  have key := congrArg Tree.sel (run8b True p s (sV 1 1 (rowI (preL (evyF p) k))) (sV 1 1 (rowI (preL (evyF p) k ++ [evyF p k]))) (sO (rowI (preL (evyF p) k))) (sO (rowI (preL (evyF p) k ++ [evyF p k]))) k)
  have w2 : IntKind.i64.wrap (k + 1 : Int) = ((k + 1 : Nat) : Int) := (wrapI (by omega)).trans (by omega)
  rw [Int.toNat_natCast, w2, ← preL_succ] at key
  refine ⟨_, _, _, clokHint (hApO_ok els22 fun _ => by rw [preL_succ]; exact grow_I (by rw [preL_len]; omega) _ 1), lpNo _, fun hlt => key.trans ?_, fun he => key.trans ?_⟩
  · exact (selIt (dT (by omega))).trans (t_need ⟨by omega, by omega⟩ (t_need ⟨rfl, rfl, trivial⟩ rfl))
  · rw [selIf (dF (by omega)), he]
    rfl
def D1 : Nat → Bool := fun q => Nat.beq q 1
theorem exec8b {p : Pb} (hp : Ok p) (s : List Int) : AExec Try.prog G0 (fun q => q = none) (.loop body8b) { tmps := (st8b p s .zs .resv 0).a } (hF p .resv .resv) (.exit 2) { tmps := (st8b p s (flL (preL (evyF p) p.R.length)) .resv p.R.length).a } (hF p .resv .resv) := by
  refine (loop8b hp s).drop (n := 3) (D := D1) (fun _ _ => rfl) rfl rfl (fun r q hr hD => ?_) ?_ ?_
  · obtain rfl := Nat.eq_of_beq_eq_true hD
    cases hr; rfl
  · exact ⟨.inr (.inl ⟨rfl, rfl, trivial⟩), .inl ⟨rfl, rfl⟩, .inr (.inl ⟨rfl, rfl, fun y hy => .of0 (below_pb p y hy)⟩), trivial⟩
  · exact ⟨rfl, Re.flat (.bool _), rfl, Re.good (.ref _ _ _ ⟨rfl, by omega⟩), rfl, Re.flat (below_flL _), rfl, re_ints rfl (dropP_none rfl), rfl, Re.flat (below_flR _), rfl, re_int, rfl, re_int, trivial⟩
/-! ### The rules that are left -/
theorem clean8c (p q : Pb) (s e : List Int) (k : Int) : CleanT 4 (st8c p q s e k) :=
  cleanT_of rfl (fun o ho => by
    simp only [hQ, List.mem_cons, List.not_mem_nil, or_false] at ho
    rcases ho with rfl | rfl | rfl | rfl
    · trivial
    · trivial
    · exact fun y hy => (below_pb p y hy).up
    · exact fun y hy => (below_pb q y hy).up) ⟨.bool _, .ref _ _ _ (by omega), (below_flL _).up, (below_flL _).up, .ref _ _ _ (by omega), (below_flR _).up, .int _ _, .int _ _, trivial⟩
theorem loop8c (p : Pb) {q : Pb} (hq : Ok q) {s : List Int} (hs : sh s) (e : List Int) (hin : ∀ x ∈ q.R, s.contains x.d = true) : LoopA body8c q.R.length (fun k => st8c p q s e k) (fun k => st8c p q s e k) (st8c p q s e q.R.length) .ret (.exit 4) fun _ => false := by
  have hr := hq.r
  refine .linT (m := 4) (fun _ => rfl) rfl nofun (fun k => clean8c p q s e k) (clean8c p q s e _) fun k hk => ?_
  have key := congrArg Tree.sel (run8c (k < q.R.length) p q s e k true)
  have w2 : IntKind.i64.wrap (k + 1 : Int) = ((k + 1 : Nat) : Int) := (wrapI (by omega)).trans (by omega)
  rw [Int.toNat_natCast, w2] at key
  have hcl : ClOk Try.prog G0 { EG (k < q.R.length) [(35, [flL s, I (q.R.getD k r0).d], .bool true)] with boxRow := false } := by
    have := clokG1 (q := k < q.R.length) (f := 35) (xs := [flL s, I (q.R.getD k r0).d]) (v := .bool true) fun hlt σ => by
      have := c35 (a := s) hs (q.R.getD k r0).d σ
      rwa [hin _ (getD_mem hlt)] at this
    exact .all .none this.clh (fun l xs σ t v σ' h => (by cases h)) this.cl
  refine ⟨_, _, _, hcl, lpNo _, fun hlt => key.trans ?_, fun he => key.trans ?_⟩
  · exact (selIt (dT (by omega))).trans (t_need ⟨by omega, by omega⟩ (t_need hlt (t_need rfl ((selIf rfl).trans rfl))))
  · rw [selIf (dF (by omega)), he]
    rfl
/-! ### The cheapest values -/
theorem loop8d {p : Pb} (hp : Ok p) (q : Pb) (e : List Int) (c x : Int) : LoopA body8d p.C.length (fun k => st8d p q e (tl p p.V.length 0) c x (sumK (restT p 0) k) k) (fun k => st8d p q e (tl p p.V.length 0) c x (sumK (restT p 0) k) k) (st8d p q e (tl p p.V.length 0) c x (sumK (restT p 0) p.C.length) p.C.length) .ret (.exit 6) fun _ => false := by
  have hn := hp.n
  have hc := hp.c
  have hs := ok_sh hp
  refine .lin (fun _ => rfl) rfl nofun fun k hk => ?_
  have key := congrArg Tree.sel (run8d (k < p.C.length) p q e (tl p p.V.length 0) c x (sumK (restT p 0) k) k (index (p.C.getD k []) (minL (p.C.getD k []))))
  have w2 : IntKind.i64.wrap (k + 1 : Int) = ((k + 1 : Nat) : Int) := (wrapI (by omega)).trans (by omega)
  rw [Int.toNat_natCast, w2] at key
  have hcl : ClOk Try.prog G0 { EG (k < p.C.length) [(36, [flL (p.C.getD k [])], I (minL (p.C.getD k []))), (37, [flL (p.C.getD k []), I (minL (p.C.getD k []))], I (index (p.C.getD k []) (minL (p.C.getD k []))))] with boxRow := false } := by
    have := clokG (q := k < p.C.length) (l := [(36, [flL (p.C.getD k [])], I (minL (p.C.getD k []))), (37, [flL (p.C.getD k []), I (minL (p.C.getD k []))], I (index (p.C.getD k []) (minL (p.C.getD k []))))]) fun hlt z hz σ => by
      have h1 := sh_getD hs.2.2.1 k
      simp only [List.mem_cons, List.not_mem_nil, or_false] at hz
      rcases hz with rfl | rfl
      · exact c36 h1 (cost_pos hp (by omega)) σ
      · exact c37 h1 _ σ
    exact .all .none this.clh (fun l xs σ t v σ' h => (by cases h)) this.cl
  refine ⟨_, _, _, hcl, lpNo _, fun hlt => key.trans ?_, fun he => key.trans ?_⟩
  · have hkl : k < p.V.length := by omega
    have hb := restK_bound hp (i := 0) (k := k + 1) (by omega)
    have e1 : sumK (restT p 0) (k + 1) = sumK (restT p 0) k + minL (p.C.getD k []) := by
      show sumK (restT p 0) k + restT p 0 k = _
      unfold restT
      rw [Nat.zero_add]
    have hlen := tl_len p p.V.length 0
    have hat := tl_at p (d := p.V.length) (i := 0) hkl
    rw [Nat.zero_add] at hat
    have hidx := index_min (cost_pos hp hkl)
    rw [← e1, wrapI (n := sumK (restT p 0) (k + 1)) (by omega), hat]
    refine (selIt (dT (by omega))).trans (t_need ⟨by omega, by omega⟩ (t_need hlt (t_need rfl (t_ite (fun h => ?_) fun _ => t_need ⟨by omega, by omega⟩ (t_need hlt (t_need rfl (t_need hlt (t_need rfl (t_ite (fun h => ?_) fun _ => rfl)))))))))
    · rw [hlen, hc, bne_self_eq_false] at h; cases h
    · rw [hidx] at h
      unfold idF at h
      rw [bne_self_eq_false] at h; cases h
  · rw [selIf (dF (by omega)), he]
    rfl
/-! ### SearchFewer -/
theorem only_eq {p : Pb} (hp : Ok p) (D : List Int) : onlyP p D = ⟨p.V, p.C, p.R.filter fun x => D.contains x.d⟩ := by
  unfold onlyP
  rw [valid_iff.2 hp]
  rfl
theorem only_fewer {p : Pb} (hp : Ok p) (D : List Int) : Fewer (onlyP p D) p := by
  rw [only_eq hp]
  exact ⟨rfl, rfl, fun x hx => (List.mem_filter.1 hx).1, List.length_filter_le _ _⟩
theorem only_every {p : Pb} (hp : Ok p) : onlyP p (preL (evyF p) p.R.length) = p := by
  rw [only_eq hp]
  have : (p.R.filter fun x => (preL (evyF p) p.R.length).contains x.d) = p.R := List.filter_eq_self.2 fun x hx => by
    rw [List.contains_iff_mem]
    obtain ⟨i, hi, rfl⟩ := List.mem_iff_getElem.1 hx
    unfold preL
    refine List.mem_map.2 ⟨i, List.mem_range.2 hi, ?_⟩
    unfold evyF
    rw [List.getD_eq_getElem?_getD, List.getElem?_eq_getElem hi]
    rfl
  rw [this]
theorem only_none {p : Pb} (hp : Ok p) : onlyP p [] = ⟨p.V, p.C, []⟩ := by
  rw [only_eq hp]
  congr 1
  exact List.filter_eq_nil_iff.2 fun x _ => by simp
theorem call8 {x : Pz} (hx : x.ok) {l : List Int} (hl : ∀ y ∈ l, 0 ≤ y ∧ y ≤ 255) : ∃ σ', ACall Try.prog G0 8 [pzAV x, flB l] [] (.bool true) σ' := by
  have hp := made_ok hx
  have hfew := made_few x
  have hlk : ∀ k, 0 ≤ l.getD k 0 ∧ l.getD k 0 ≤ 255 := fun k => by
    by_cases hk : k < l.length
    · exact hl _ (getD_mem hk)
    · rw [List.getD_eq_getElem?_getD, List.getElem?_eq_none (by omega)]
      exact ⟨Int.le_refl _, by decide⟩
  have h18 : ∀ σ, ACall Try.prog G0 18 [pzAV x] σ (pAV (madeP x)) σ := c18 hx
  generalize madeP x = p at hp hfew h18
  have hs := ok_sh hp
  have hv := valid_iff.2 hp
  have hR := hp.r
  have hn := hp.n
  have hc := hp.c
  have hsS : sh (preL (demF l) (N8 l)) := by show (preL _ _).length < _; rw [preL_len]; unfold N8; omega
  have hsE : sh (preL (evyF p) p.R.length) := by show (preL _ _).length < _; rw [preL_len]; omega
  have hev := only_every hp
  have hQ := only_fewer hp (preL (demF l) (N8 l))
  have hin : ∀ y ∈ (onlyP p (preL (demF l) (N8 l))).R, (preL (demF l) (N8 l)).contains y.d = true := fun y hy => by
    rw [only_eq hp] at hy
    exact (List.mem_filter.1 hy).2
  have hq := hQ.ok hp
  have h31s := c31 hs hsS
  have h31e := c31 hs hsE
  rw [hev] at h31e
  have h31z : ∀ σ, ACall Try.prog G0 31 [pAV p, .zs] σ (pAV (⟨p.V, p.C, []⟩ : Pb)) σ := fun σ => by
    have := c31 hs (D := []) sh_nil σ
    rw [only_none hp] at this
    exact this.arg2 (Sub.rfl' _) fun _ _ _ h => h.flL_zs
  generalize onlyP p (preL (demF l) (N8 l)) = q at hQ hin hq h31s
  have hr : Ok (⟨p.V, p.C, []⟩ : Pb) := Fewer.ok (q := ⟨p.V, p.C, []⟩) (p := p) ⟨rfl, rfl, fun _ h => (by cases h), Nat.zero_le _⟩ hp
  have hqs := ok_sh hq
  have hlq : (allL q q.V.length []).length ≤ 1000000 := by rw [hQ.all, hQ.V]; omega
  have h16p : ∀ σ, ACall Try.prog G0 16 [pAV p, I 1000000] σ (.tup [I (solL p p.V.length []).length, I 0]) σ := fun σ => countR_all hp (by omega) ▸ c16 hs 1000000 σ
  have h16q : ∀ σ, ACall Try.prog G0 16 [pAV q, I 1000000] σ (.tup [I (solL q q.V.length []).length, I 0]) σ := fun σ => countR_all hq hlq ▸ c16 hqs 1000000 σ
  have h21 : ∀ {t : Pb}, Ok t → ∀ σ, ACall Try.prog G0 21 [pAV t] σ (resC t (refW t [])) σ := fun {t} ht σ => by
    have := c21 (ok_sh ht) σ
    unfold solveR at this
    rwa [valid_iff.2 ht, cond_true, best_ref ht (beg_nil _)] at this
  have h21p := h21 hp
  have h21q := h21 hq
  have h21r := h21 hr
  rw [free_best hr rfl] at h21r
  have hle : (solL p p.V.length []).length ≤ (solL q q.V.length []).length := by rw [hQ.V]; exact hQ.sols _ _
  have hfrc : costA (⟨p.V, p.C, []⟩ : Pb) (tl ⟨p.V, p.C, []⟩ p.V.length 0) = sumK (restT p 0) p.C.length := by
    have := free_cost (p := (⟨p.V, p.C, []⟩ : Pb))
    rw [hc]
    exact this
  have hfr : tl (⟨p.V, p.C, []⟩ : Pb) p.V.length 0 = tl p p.V.length 0 := by
    have : ∀ d i, tl (⟨p.V, p.C, []⟩ : Pb) d i = tl p d i := by
      intro d
      induction d with
      | zero => intro i; rfl
      | succ d ih =>
        intro i
        unfold tl
        rw [ih]
        rfl
    exact this _ _
  have h21r' : ∀ σ, ACall Try.prog G0 21 [pAV (⟨p.V, p.C, []⟩ : Pb)] σ (.tup [flL (tl p p.V.length 0), I (sumK (restT p 0) p.C.length), I 0]) σ := fun σ => by
    have := h21r σ
    unfold resC at this
    rw [← hfr, ← hfrc]
    exact this
  have hlp : ∀ c3, LoopsOk Try.prog G0 (fun r => r = none) [] (lp8 p q l (preL (demF l) (N8 l)) (preL (evyF p) p.R.length) (tl p p.V.length 0) (N8 l) c3 (sumK (restT p 0) p.C.length)) (bodyOf Try.prog 8) := fun c3 =>
    lpAnd_ok (lpB_exec (exec8a p hlk) rfl (nth_loop (k := 0) (i := 4) (ids := [4, 8, 14, 28]) ids8 (by decide) (by kernel_rfl) rfl))
      (lpAnd_ok (lpB_exec (exec8b hp _) rfl (nth_loop (k := 1) (i := 8) (ids := [4, 8, 14, 28]) ids8 (by decide) (by kernel_rfl) rfl))
        (lpAnd_ok ((loop8c p hq hsS (preL (evyF p) p.R.length) hin).okB (fun _ _ => rfl) (nth_loop (k := 2) (i := 14) (ids := [4, 8, 14, 28]) ids8 (by decide) (by kernel_rfl) rfl))
          ((loop8d hp q (preL (evyF p) p.R.length) c3 0).okB (fun _ _ => rfl) (nth_loop (k := 3) (i := 28) (ids := [4, 8, 14, 28]) ids8 (by decide) (by kernel_rfl) rfl))))
  have hcl : ∀ {a1 a2 : List Int} {c1 g c2 h : Int}, (∀ σ, ACall Try.prog G0 21 [pAV p] σ (.tup [flL a1, I c1, I g]) σ) → (∀ σ, ACall Try.prog G0 21 [pAV q] σ (.tup [flL a2, I c2, I h]) σ) →
      ClOk Try.prog G0 (E8 x p q ⟨p.V, p.C, []⟩ (preL (demF l) (N8 l)) (preL (evyF p) p.R.length) a1 a2 (tl p p.V.length 0) (solL p p.V.length []).length (solL q q.V.length []).length c1 g c2 h (sumK (restT p 0) p.C.length)) := fun {a1 a2 c1 g c2 h} k1 k2 =>
    .all ((hStA_ok 26 2).ok.or ((hStA_ok 26 3).ok.or ((hCal_ok h16p).or ((hCal_ok h16q).or ((hCal_ok k1).or ((hCal_ok k2).or ((hCal_ok h21r').or ((hCal_ok h31s).or ((hCal_ok h31z).or (hCal_ok h31e))))))))))
      failH_ok (fun l xs σ t v σ' h => (by cases h)) fun f' xs t v hq' hs' σ => clK_ok (l := k8 x p (preL (demF l) (N8 l))) (fun y hy xs hx' σ => by
        simp only [k8, List.mem_cons, List.not_mem_nil, or_false] at hy
        rcases hy with rfl | rfl | rfl | rfl
        · obtain rfl : xs = _ := hx'; exact h18 σ
        · obtain rfl : xs = _ := hx'; exact c14d (by rw [preL_len]; unfold N8; omega) σ
        · obtain rfl : xs = _ := hx'; exact same_self hs σ
        · obtain rfl : xs = _ := hx'; exact c12 σ) f' xs t v hq' hs' σ
  have first : ∀ {a1 a2 : List Int} {c1 g c2 h : Int}, (∀ σ, ACall Try.prog G0 21 [pAV p] σ (.tup [flL a1, I c1, I g]) σ) → (∀ σ, ACall Try.prog G0 21 [pAV q] σ (.tup [flL a2, I c2, I h]) σ) → (g = 0 → h = 0 ∧ ¬ c2 > c1) → ∃ σ', ACall Try.prog G0 8 [pzAV x, flB l] [] (.bool true) σ' := fun {a1 a2 c1 g c2 h} k1 k2 k3 => by
    refine ⟨Am.hQ p q, ACall.rooms (σ := []) (σ1 := Am.hQ p q) 2 (ACall.saysM (hcl k1 k2) (by kernel_rfl) (hlp (sumK (restT p 0) p.C.length)) (runF8 x p q ⟨p.V, p.C, []⟩ l (preL (demF l) (N8 l)) (preL (evyF p) p.R.length) a1 a2 (tl p p.V.length 0) (solL p p.V.length []).length (solL q q.V.length []).length c1 g c2 h (sumK (restT p 0) p.C.length) (sumK (restT p 0) p.C.length) (N8 l)) ?_)⟩
    repeat first
      | refine says_need rfl ?_
      | refine says_need ⟨rfl, rfl⟩ ?_
      | refine says_need ⟨rfl, rfl, Nat.le_refl _⟩ ?_
    refine says_ite (fun h => by cases h) fun _ => says_ite (fun h => by cases h) fun _ => says_ite (fun h => absurd (of_decide_eq_true h) (by omega)) fun _ => says_ite (fun hg => ?_) fun _ => ?_
    · obtain ⟨k4, k5⟩ := k3 (eq_of_beq hg)
      refine says_ite (fun h => ?_) fun _ => says_ite (fun h => absurd (of_decide_eq_true h) k5) fun _ => ?_
      · rw [k4] at h; cases h
      · repeat first
          | exact says_leaf
          | refine says_need rfl ?_
          | refine says_ite (fun _ => ?_) (fun h => by first | cases h | (rw [beq_self_eq_true] at h; cases h))
    · repeat first
        | exact says_leaf
        | refine says_need rfl ?_
        | refine says_ite (fun _ => ?_) (fun h => by first | cases h | (rw [beq_self_eq_true] at h; cases h))
  cases hy : refW p [] with
  | none =>
    rw [hy] at h21p
    cases hz : refW q [] with
    | none => rw [hz] at h21q; exact first h21p h21q fun h => by cases h
    | some z => rw [hz] at h21q; exact first h21p h21q fun h => by cases h
  | some y =>
    rw [hy] at h21p
    obtain ⟨z, hz, hzc⟩ := hQ.best hp hy
    rw [hz] at h21q
    exact first h21p h21q fun _ => ⟨rfl, by omega⟩
end Go.Proofs.Ytngaihdpmoajeaa.Am

