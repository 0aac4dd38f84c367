/-
  This file proves nothing of a law. It says what core.Hitting returns. Condition: lists shorter than 2 to the 63.
-/
import Derived.Test.YtjljigccgaadaaaDoorCore13
namespace Go.Proofs.YtjljigccgaadaaaDoor.Am
open Go
set_option maxRecDepth 100000

/-- The different sets of lists, in the order in which they come; none, if a list is no set. -/
def hitLoop (n : Int) : List (List Int) → List Int → Option (List Int)
  | [], L => some L
  | x :: r, L => match ofL n x with
    | none => none
    | some s => hitLoop n r (if L.any ((s : Int) == ·) then L else L ++ [(s : Int)])
/-- A set hits all of them. -/
def hits (L : List Int) (s : Nat) : Bool := !(L.any fun x => uand x s == 0)

/-- The heap with the variable l. -/
def hH (σ : Heap) (L : List Int) : Heap := σ ++ ([.cells 0 [vU (σ.length + 1) L]] ++ oA (L.map (AV.int .u64)))
theorem hH_box (σ : Heap) (L : List Int) (X : Heap) : objAt (hH σ L ++ X) σ.length 0 = some [vU (σ.length + 1) L] := by
  unfold hH
  rw [List.append_assoc]
  exact objAt_app (i := 0) rfl
theorem hH_at (σ : Heap) (L : List Int) (X : Heap) : AtU (hH σ L ++ X) (σ.length + 1) L := by
  intro h
  unfold hH
  rw [List.append_assoc]
  cases L with
  | nil => exact absurd rfl h
  | cons x l =>
    refine objAt_app (i := 1) ?_
    simp [oA]
def cl17 (n : Int) (x v : AV) (s : Int) (ok b : Bool) (h : Heap) : FuncId → List AV → Heap → Option (Tree (AV × Heap)) := fun f xs h0 => match f with
  | 45 => some (.need (xs = [I n, x] ∧ h0 = h) (.leaf (.tup [U s, .bool ok], h)))
  | 49 => some (.need (xs = [v, U s] ∧ h0 = h) (.leaf (.bool b, h)))
  | _ => none
def E17 (n : Int) (x v v' : AV) (s : Int) (ok b : Bool) (N : Nat) (h h1 h2 : Heap) : Env := { clh := cl17 n x v s ok b h, hint := orH (hLd 70 v) (orH (hApp 70 v (.sl 1 [[U s]]) v' h h1) (hSt 70 (.ref N 0 0) v' h1 h2)) }
theorem clok17 {n : Int} {x v v' : AV} {s : Int} {ok b : Bool} {N : Nat} {h h1 h2 : Heap} (h45 : ACall Tryd.prog G0 45 [I n, x] h (.tup [U s, .bool ok]) h) (h49 : ACall Tryd.prog G0 49 [v, U s] h (.bool b) h) : ClOk Tryd.prog G0 (E17 n x v v' s ok b N h h1 h2) := by
  refine .all ((hLd_ok Tryd.underlying70 rfl _).ok.or ((hApp_ok _ _ _ _ _ _).ok.or (hSt_ok _ _ _ _ _).ok)) ?_ (fun l xs σ t v σ' h => (by cases h)) (fun f xs t v h => (by cases h))
  intro f xs σ t u σ' hq hs
  replace hq : cl17 n x v s ok b h f xs σ = some t := hq
  unfold cl17 at hq
  split at hq <;> first | (cases hq; done) | skip
  all_goals
    cases hq
    obtain ⟨⟨rfl, rfl⟩, hs2⟩ := Tree.of_need hs
    cases hs2
  · exact h45
  · exact h49
def st17 (n : Int) (SL : List (List Int)) (k : Int) (N : Nat) (h : Heap) : St := .of 48 h [(0, I n, true), (6, .ref N 0 0, true), (22, flLL SL, true), (23, I SL.length, true), (24, I k, true)]
def stX17 (n : Int) (N : Nat) (h : Heap) : St := .of 48 h [(0, I n, true), (6, .ref N 0 0, true)]
def stR17 (h : Heap) : St := .of 48 h [(4, .zs, false), (5, I 2, false)]
def stJ17 (h : Heap) : St := .of 48 h [(4, .junk, false), (5, .junk, false)]
noncomputable def body17 : Code := (loopsOf (bodyOf Tryd.prog 17)).headD .skip
def tree17 (n : Int) (SL : List (List Int)) (v v' : AV) (s : Int) (ok b : Bool) (k N : Nat) (h h1 h2 : Heap) (r a1 a2 x : Tree (Exit × St)) : Tree (Exit × St) :=
  .ite (decide ((k : Int) < SL.length)) (.need (0 ≤ (k : Int) ∧ (k : Int) < SL.length) (.need ([I n, flL (SL.getD (k : Int).toNat [])] = [I n, flL (SL.getD k [])] ∧ h = h) (.ite (!ok) r (.need (objAt h N 0 = some [v]) (.need ([v, U s] = [v, U s] ∧ h = h) (.ite (!b)
    (.need (objAt h N 0 = some [v]) (.need (some [v, .sl 1 [[U s]]] = some [v, .sl 1 [[U s]]] ∧ #[70, 70] = #[70, 70] ∧ h = h ∧ aAppend Tryd.prog h 70 70 v (.sl 1 [[U s]]) = some (v', h1))
      (.need (some (AV.ref N 0 0) = some (AV.ref N 0 0) ∧ some v' = some v' ∧ h1 = h1 ∧ aStore Tryd.prog h1 70 (.ref N 0 0) v' = some h2) a2))) a1)))))) x
theorem run17n (n : Int) (SL : List (List Int)) (v v' : AV) (s : Int) (ok b : Bool) (k N : Nat) (h h1 h2 : Heap) : xBody Tryd.prog G0 (E17 n (flL (SL.getD k [])) v v' s ok b N h h1 h2) 200 noLoops [0, 6, 22, 23, 24] body17 (st17 n SL k N h) =
    tree17 n SL v v' s ok b k N h h1 h2 (.leaf (.ret, st17 n SL k N h)) (.leaf (.normal, st17 n SL (IntKind.i64.wrap (k + 1)) N h)) (.leaf (.normal, st17 n SL (IntKind.i64.wrap (k + 1)) N h2)) (.leaf (.exit 0, st17 n SL k N h)) := by kernel_rfl
theorem run17r (n : Int) (SL : List (List Int)) (v v' : AV) (s : Int) (ok b : Bool) (k N : Nat) (h h1 h2 : Heap) : xBody Tryd.prog G0 (E17 n (flL (SL.getD k [])) v v' s ok b N h h1 h2) 200 noLoops [4, 5] body17 (st17 n SL k N h) =
    tree17 n SL v v' s ok b k N h h1 h2 (.leaf (.ret, stR17 h)) (.leaf (.normal, stJ17 h)) (.leaf (.normal, stJ17 h2)) (.leaf (.exit 0, stJ17 h)) := by kernel_rfl
theorem run17x (n : Int) (SL : List (List Int)) (k N : Nat) (h : Heap) : xBody Tryd.prog G0 { clh := failH } 200 noLoops [0, 6] body17 (st17 n SL k N h) =
    .ite (decide ((k : Int) < SL.length)) (.need (0 ≤ (k : Int) ∧ (k : Int) < SL.length) .fail) (.leaf (.exit 0, stX17 n N h)) := by kernel_rfl
theorem clokFail : ClOk Tryd.prog G0 { clh := failH } := .all .none failH_ok (fun l xs σ t v σ' h => (by cases h)) (fun f xs t v h => (by cases h))
def end17 (n : Int) (N : Nat) (o : Option (List Int)) (h : Heap) : Exit × St := match o with
  | some _ => (.exit 0, stX17 n N h)
  | none => (.ret, stR17 h)
section
variable {σ : Heap}
theorem loop17 {R : Option Nat → Prop} {n : Int} (hn : n ≤ 64) {SL : List (List Int)} (hSL : ∀ x ∈ SL, x.length < 9223372036854775807) (hlen : SL.length ≤ 4096) : ∀ (d k : Nat) (L : List Int), k + d = SL.length → L.length ≤ k →
    ∃ σ', ALoopRun Tryd.prog G0 R body17 { tmps := (st17 n SL k σ.length (hH σ L)).a } (hH σ L) (end17 n σ.length (hitLoop n (SL.drop k) L) σ').1 { tmps := (end17 n σ.length (hitLoop n (SL.drop k) L) σ').2.a } σ' ∧ (∀ L', hitLoop n (SL.drop k) L = some L' → σ' = hH σ L' ∧ L'.length ≤ 4096) ∧ ∃ X, σ' = σ ++ X
  | 0, k, L, hk, hLk => by
    rw [List.drop_eq_nil_of_le (by omega)]
    refine ⟨hH σ L, .stop (xBody_ok (m := []) names mixed clokFail (lpNo body17) (n := 200) (keep := [0, 6]) (st := st17 n SL k σ.length (hH σ L)) (st' := stX17 n σ.length (hH σ L)) ?_).1 nofun, fun L' h => ?_, _, rfl⟩
    · rw [run17x, selI, decide_eq_false (by omega)]; rfl
    · cases h; exact ⟨rfl, by omega⟩
  | d + 1, k, L, hk, hLk => by
    have hlt : k < SL.length := by omega
    have hg : SL.getD k [] = SL[k] := by simp [List.getD_eq_getElem?_getD, hlt]
    have h45 := c45 hn (hSL SL[k] (List.getElem_mem hlt)) (hH σ L)
    rw [List.drop_eq_getElem_cons hlt, hitLoop]
    have hat : AtU (hH σ L) (σ.length + 1) L := by have := hH_at σ L []; rwa [List.append_nil] at this
    have hbox : objAt (hH σ L) σ.length 0 = some [vU (σ.length + 1) L] := by have := hH_box σ L []; rwa [List.append_nil] at this
    cases ho : ofL n SL[k] with
    | none =>
      rw [ho] at h45
      refine ⟨hH σ L, .stop (xBody_ok (m := []) names mixed (clok17 (x := flL (SL.getD k [])) (v := vU (σ.length + 1) L) (v' := .junk) (s := (0 : Nat)) (ok := false) (b := L.any (((0 : Nat) : Int) == ·)) (N := σ.length) (h1 := []) (h2 := []) (by rw [hg]; exact h45) (c49 hat (by omega) _)) (lpNo body17) (n := 200) (keep := [4, 5]) (st := st17 n SL k σ.length (hH σ L)) (st' := stR17 (hH σ L)) ?_).1 nofun, fun L' h => (by cases h), _, rfl⟩
      rw [run17r, tree17, selI, decide_eq_true (by omega), cond_true, Tree.sel_need ⟨by omega, by omega⟩, Int.toNat_natCast, Tree.sel_need ⟨rfl, rfl⟩]
      rfl
    | some s =>
      rw [ho] at h45
      have hw : IntKind.i64.wrap ((k : Int) + 1) = ((k + 1 : Nat) : Int) := wrap_i64 (by omega) (by omega)
      have hc49 := c49 hat (by omega) (s : Int)
      cases hb : L.any ((s : Int) == ·) with
      | true =>
        simp only [hb, if_true]
        rw [hb] at hc49
        obtain ⟨σ', h1, h2, h3⟩ := loop17 (R := R) hn hSL hlen d (k + 1) L (by omega) (by omega)
        refine ⟨σ', .next (xBody_ok (m := []) names mixed (clok17 (x := flL (SL.getD k [])) (v' := .junk) (ok := true) (b := true) (N := σ.length) (h1 := []) (h2 := []) (by rw [hg]; exact h45) hc49) (lpNo body17) (n := 200) (keep := [0, 6, 22, 23, 24]) (st := st17 n SL k σ.length (hH σ L)) (st' := st17 n SL (k + 1 : Nat) σ.length (hH σ L)) ?_).1 h1, h2, h3⟩
        rw [run17n, tree17, selI, decide_eq_true (by omega), cond_true, Tree.sel_need ⟨by omega, by omega⟩, Int.toNat_natCast, Tree.sel_need ⟨rfl, rfl⟩, selI, Bool.not_true, cond_false, Tree.sel_need hbox, Tree.sel_need ⟨rfl, rfl⟩, selI, hw]
        rfl
      | false =>
        simp only [hb, Bool.false_eq_true, if_false]
        rw [hb] at hc49
        obtain ⟨σ', h1, h2, h3⟩ := loop17 (R := R) hn hSL hlen d (k + 1) (L ++ [(s : Int)]) (by omega) (by simp; omega)
        have happ := append_vA el70 (σ ++ [.cells 0 [vU (σ.length + 1) L]]) (L.map (AV.int .u64)) (U s) rfl (by simp; omega)
        have hl1 : (σ ++ [AObj.cells 0 [vU (σ.length + 1) L]]).length = σ.length + 1 := by simp
        have hm : L.map (AV.int .u64) ++ [U s] = (L ++ [(s : Int)]).map (AV.int .u64) := by simp
        rw [hl1, hm, List.append_assoc, List.append_assoc] at happ
        have hone : (vU (σ.length + 1) (L ++ [(s : Int)])).one = true := by unfold vU; cases (L ++ [(s : Int)]).map (AV.int .u64) <;> rfl
        have hsto := store_app (t := 70) (one_of (by kernel_rfl)) (σ := σ) (rest := [.cells 0 [vU (σ.length + 1) L]] ++ oA ((L ++ [(s : Int)]).map (AV.int .u64))) (i := 0) (y := vU (σ.length + 1) L) rfl hone
        refine ⟨σ', .next (xBody_ok (m := []) names mixed (clok17 (x := flL (SL.getD k [])) (v' := vU (σ.length + 1) (L ++ [(s : Int)])) (ok := true) (b := false) (N := σ.length) (h1 := σ ++ ([.cells 0 [vU (σ.length + 1) L]] ++ oA ((L ++ [(s : Int)]).map (AV.int .u64)))) (h2 := hH σ (L ++ [(s : Int)])) (by rw [hg]; exact h45) hc49) (lpNo body17) (n := 200) (keep := [0, 6, 22, 23, 24]) (st := st17 n SL k σ.length (hH σ L)) (st' := st17 n SL (k + 1 : Nat) σ.length (hH σ (L ++ [(s : Int)]))) ?_).1 h1, h2, h3⟩
        rw [run17n, tree17, selI, decide_eq_true (by omega), cond_true, Tree.sel_need ⟨by omega, by omega⟩, Int.toNat_natCast, Tree.sel_need ⟨rfl, rfl⟩, selI, Bool.not_true, cond_false, Tree.sel_need hbox, Tree.sel_need ⟨rfl, rfl⟩, selI, Bool.not_false, cond_true, Tree.sel_need hbox, Tree.sel_need ⟨rfl, rfl, rfl, happ⟩, Tree.sel_need ⟨rfl, rfl, rfl, hsto⟩, hw]
        rfl

/-! ### The function that every asks -/
def E50 (v : AV) (s : Int) (b : Bool) (h : Heap) : Env := { hint := hLd 70 v, clh := fun f xs h0 => match f with
  | 51 => some (.need (xs = [v, fn52 s] ∧ h0 = h) (.leaf (.bool b, h)))
  | _ => none }
theorem run50 (s : Int) (v : AV) (b : Bool) (N : Nat) (h : Heap) : xCall Tryd.prog G0 (E50 v s b h) 200 50 [U s, .ref N 0 0] [true, true] h = .need (objAt h N 0 = some [v]) (.need ([v, fn52 s] = [v, fn52 s] ∧ h = h) (.leaf (.bool (!b), true, h))) := by kernel_rfl
theorem has50 {L : List Int} (hl : L.length ≤ 4096) (m : Nat) : HasAt (hH σ L) 50 [.ref σ.length 0 0] (hits L) m := by
  intro X s _ _
  have hc := c51 (hH_at σ L X) (by omega) s
  refine xCall_ok (n := 200) (tags := [true, true]) (s := true) (E := E50 (vU (σ.length + 1) L) s (L.any fun x => uand x s == 0) (hH σ L ++ X)) names mixed (.all (hLd_ok Tryd.underlying70 rfl _).ok ?_ (fun l xs σ t v σ' h => (by cases h)) (fun f xs t v h => (by cases h))) ?_
  · intro f xs σ' t u σ'' hq hs
    simp only [E50] at hq
    split at hq <;> first | (cases hq; done) | skip
    cases hq
    obtain ⟨⟨rfl, rfl⟩, hs2⟩ := Tree.of_need hs
    cases hs2
    exact hc
  · rw [run50, Tree.sel_need (hH_box σ L X), Tree.sel_need ⟨rfl, rfl⟩]
    rfl

/-! ### Hitting -/
def lp17 (n : Int) (SL : List (List Int)) (N : Nat) (h : Heap) (b : Bool) (h' : Heap) : Loops := fun id => match id with
  | 5 => some ([0, 6, 22, 23, 24], st17 n SL 0 N h, .ite b (.leaf (.exit 0, stX17 n N h')) (.leaf (.ret, stR17 h')))
  | _ => none
def EH (n : Int) (N : Nat) (v : AV) (h h1 h' : Heap) : Env := { clh := clh15 n (.fn 50 [] [.ref N 0 0]) v h', hint := hAl 70 N h h1 }
theorem runF17 (n : Int) (SL : List (List Int)) (v : AV) (N : Nat) (h h1 h' : Heap) (b : Bool) : xenter Tryd.prog (EH n N v h h1 h') (xCode Tryd.prog G0 (EH n N v h h1 h') 200 (lp17 n SL N h1 b h')) 17 [I n, flLL SL] [true, true] h =
    .ite (decide (n < 0)) (.leaf (.tup [.zs, I 2], false, h)) (.ite (decide (n > 12)) (.leaf (.tup [.zs, I 2], false, h)) (.ite (decide ((SL.length : Int) > 4096)) (.leaf (.tup [.zs, I 2], false, h))
      (.need (h = h ∧ aAlloc Tryd.prog h 70 = some (.ref N 0 0, h1)) (.need ((st17 n SL 0 N h1).vals = (st17 n SL 0 N h1).vals) (.ite b (.need ([I n, .fn 50 [] [.ref N 0 0]] = [I n, .fn 50 [] [.ref N 0 0]] ∧ h' = h') (.leaf (.tup [v, I 0], true, h'))) (.leaf (.tup [.zs, I 2], false, h'))))))) := by kernel_rfl
theorem loops17 : loopsOf (bodyOf Tryd.prog 17) = [body17] := by kernel_rfl
theorem id17 : idOf body17 = 5 := by kernel_rfl
theorem alloc70 (h : Heap) : aAlloc Tryd.prog h 70 = some (.ref h.length 0 0, h ++ [.cells 0 [.zs]]) := by kernel_rfl
/-- What Hitting returns: lists, and an error. -/
def hitR (n : Nat) (SL : List (List Int)) : AV := match hitLoop n SL [] with
  | some L => resLL (everyL (hits L) n) 0
  | none => resLL [] 2
theorem c17 {n : Nat} (hn : n ≤ 12) {SL : List (List Int)} (hSL : ∀ x ∈ SL, x.length < 9223372036854775807) (hlen : SL.length ≤ 4096) : ACall Tryd.prog G0 17 [I n, flLL SL] σ (hitR n SL) σ := by
  obtain ⟨σ', h1, h2, X, hX⟩ := loop17 (σ := σ) (R := fun r => r = none) (n := n) (by omega) hSL hlen SL.length 0 [] (by omega) (by simp)
  rw [List.drop_zero] at h1 h2
  have hal : aAlloc Tryd.prog σ 70 = some (.ref σ.length 0 0, hH σ []) := alloc70 σ
  have hlp : ∀ o, hitLoop n SL [] = o → LoopsOk Tryd.prog G0 (fun r => r = none) [] (lp17 n SL σ.length (hH σ []) o.isSome σ') (bodyOf Tryd.prog 17) := fun o ho => by
    refine .of_list _ fun x hm => ?_
    rw [loops17] at hm
    obtain rfl := List.mem_singleton.1 hm
    intro keep s0 t e st' h' hs
    rw [id17] at h'
    cases h'
    rw [ho] at h1
    cases o with
    | none => cases hs; exact ⟨.loop h1, rfl⟩
    | some L => cases hs; exact ⟨.loop h1, rfl⟩
  unfold hitR
  cases ho : hitLoop n SL [] with
  | none =>
    have key : ACall Tryd.prog G0 17 [I n, flLL SL] σ (.tup [.zs, I 2]) σ' := by
      refine .find (s := false) (n := 200) (tags := [true, true]) (E := { clh := failH, hint := hAl 70 σ.length σ (hH σ []) }) (.all (hAl_ok _ _ _ _).ok failH_ok (fun l xs σ t v σ' h => (by cases h)) (fun f xs t v h => (by cases h))) (hlp none ho) ?_
      have run : xenter Tryd.prog { clh := failH, hint := hAl 70 σ.length σ (hH σ []) } (xCode Tryd.prog G0 { clh := failH, hint := hAl 70 σ.length σ (hH σ []) } 200 (lp17 n SL σ.length (hH σ []) false σ')) 17 [I n, flLL SL] [true, true] σ =
          .ite (decide ((n : Int) < 0)) (.leaf (.tup [.zs, I 2], false, σ)) (.ite (decide ((n : Int) > 12)) (.leaf (.tup [.zs, I 2], false, σ)) (.ite (decide ((SL.length : Int) > 4096)) (.leaf (.tup [.zs, I 2], false, σ))
            (.need (σ = σ ∧ aAlloc Tryd.prog σ 70 = some (.ref σ.length 0 0, hH σ [])) (.need ((st17 n SL 0 σ.length (hH σ [])).vals = (st17 n SL 0 σ.length (hH σ [])).vals) (.ite false .fail (.leaf (.tup [.zs, I 2], false, σ'))))))) := by kernel_rfl
      refine (congrArg Tree.sel run).trans ?_
      rw [selI, decide_eq_false (by omega), cond_false, selI, decide_eq_false (by omega), cond_false, selI, decide_eq_false (by omega), cond_false, Tree.sel_need ⟨rfl, hal⟩, selR]
      rfl
    rw [hX] at key
    exact (key.forget (below_tup2 .zs (.int _ _))).resZsL
  | some L =>
    obtain ⟨e1, e2⟩ := h2 L ho
    have h47 := c47r hn (has50 (σ := σ) e2 (2 ^ n))
    have key : ACall Tryd.prog G0 17 [I n, flLL SL] σ (resLL (everyL (hits L) n) 0) σ' := by
      have hlp' := hlp (some L) ho
      rw [e1] at hlp' ⊢
      refine .find (s := true) (n := 200) (tags := [true, true]) (E := EH n σ.length (flLL (everyL (hits L) n)) σ (hH σ []) (hH σ L)) (.all (hAl_ok _ _ _ _).ok (clh15_ok h47) (fun l xs σ t v σ' h => (by cases h)) (fun f xs t v h => (by cases h))) hlp' ?_
      refine (congrArg Tree.sel (runF17 n SL _ _ _ _ _ true)).trans ?_
      rw [selI, decide_eq_false (by omega), cond_false, selI, decide_eq_false (by omega), cond_false, selI, decide_eq_false (by omega), cond_false, Tree.sel_need ⟨rfl, hal⟩, selR, selI, cond_true, Tree.sel_need ⟨rfl, rfl⟩]
      rfl
    rw [hX] at key
    exact key.forget (below_tup2 (below_flLL _) (.int _ _))
theorem c17e {n : Int} {SL : List (List Int)} (h : n < 0 ∨ n > 12 ∨ (SL.length : Int) > 4096) : ACall Tryd.prog G0 17 [I n, flLL SL] σ (resLL [] 2) σ := by
  have run : xenter Tryd.prog { clh := failH, hint := hAl 70 σ.length σ (hH σ []) } (xCode Tryd.prog G0 { clh := failH, hint := hAl 70 σ.length σ (hH σ []) } 200 (fun id => match id with | 5 => some ([0, 6, 22, 23, 24], st17 n SL 0 σ.length (hH σ []), .fail) | _ => none)) 17 [I n, flLL SL] [true, true] σ =
      .ite (decide (n < 0)) (.leaf (.tup [.zs, I 2], false, σ)) (.ite (decide (n > 12)) (.leaf (.tup [.zs, I 2], false, σ)) (.ite (decide ((SL.length : Int) > 4096)) (.leaf (.tup [.zs, I 2], false, σ))
        (.need (σ = σ ∧ aAlloc Tryd.prog σ 70 = some (.ref σ.length 0 0, hH σ [])) (.need ((st17 n SL 0 σ.length (hH σ [])).vals = (st17 n SL 0 σ.length (hH σ [])).vals) .fail)))) := by kernel_rfl
  have key : ACall Tryd.prog G0 17 [I n, flLL SL] σ (.tup [.zs, I 2]) σ := by
    refine .find (s := false) (n := 200) (tags := [true, true]) (lp := fun id => match id with | 5 => some ([0, 6, 22, 23, 24], st17 n SL 0 σ.length (hH σ []), .fail) | _ => none) (E := { clh := failH, hint := hAl 70 σ.length σ (hH σ []) }) (.all (hAl_ok _ _ _ _).ok failH_ok (fun l xs σ t v σ' h => (by cases h)) (fun f xs t v h => (by cases h))) (.of_list _ fun x hm => ?_) ?_
    · rw [loops17] at hm
      obtain rfl := List.mem_singleton.1 hm
      intro keep s0 t e st' h' hs
      rw [id17] at h'
      cases h'
      cases hs
    · rw [run, selI]
      by_cases h1 : n < 0
      · rw [decide_eq_true h1]; rfl
      · rw [decide_eq_false h1, cond_false, selI]
        by_cases h2 : n > 12
        · rw [decide_eq_true h2]; rfl
        · rw [decide_eq_false h2, cond_false, selI, decide_eq_true (by omega)]; rfl
  exact key.resZsL
end
end Go.Proofs.YtjljigccgaadaaaDoor.Am
