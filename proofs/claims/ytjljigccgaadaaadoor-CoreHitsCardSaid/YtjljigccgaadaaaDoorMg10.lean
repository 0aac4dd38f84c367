/-
  This file proves nothing of a law. It holds lemmas, of 8 texts in their order. No condition of its own.
-/
import Derived.Test.YtjljigccgaadaaaDoorMg9
import Derived.Test.YtjljigccgaadaaaDoorMg7
namespace Go.Proofs.YtjljigccgaadaaaDoor.Am
open Go
set_option maxRecDepth 100000

theorem bitI_nat {s i : Nat} (hs : s < 2 ^ 62) (hi : i < 62) : bitI s i = s.testBit i := by
  have e1 : (s : Int).fdiv (2 ^ min (i : Int).toNat IntKind.i64.bits) = ((s / 2 ^ i : Nat) : Int) := by
    have e2 : min (i : Int).toNat IntKind.i64.bits = i := by
      rw [Int.toNat_natCast]
      exact Nat.min_eq_left (by show i ≤ 64; omega)
    rw [e2]
    have e3 : (2 : Int) ^ i = ((2 ^ i : Nat) : Int) := by simp
    rw [e3, Int.fdiv_eq_ediv_of_nonneg _ (Int.natCast_nonneg _)]
    exact (Int.natCast_ediv _ _).symm
  unfold bitI
  rw [e1]
  have hlt : s / 2 ^ i < 2 ^ 64 := Nat.lt_of_le_of_lt (Nat.div_le_self _ _) (by omega)
  have e4 : (BitVec.ofInt 64 ((s / 2 ^ i : Nat) : Int) &&& BitVec.ofInt 64 1).toNat = s / 2 ^ i % 2 := by
    rw [BitVec.ofInt_natCast, show BitVec.ofInt 64 1 = BitVec.ofNat 64 1 from rfl, BitVec.toNat_and, BitVec.toNat_ofNat, BitVec.toNat_ofNat, Nat.mod_eq_of_lt hlt]
    exact Nat.and_one_is_mod _
  have e5 : (BitVec.ofInt IntKind.i64.bits ((s / 2 ^ i : Nat) : Int) &&& BitVec.ofInt IntKind.i64.bits 1).toNat = s / 2 ^ i % 2 := e4
  rw [e5, wrap_i64 (by omega) (by omega), Nat.testBit_eq_decide_div_mod_eq]
  rw [Bool.eq_iff_iff, beq_iff_eq, decide_eq_true_eq]
  omega
section
variable {n k : Nat} {sets : AV} {pr : Int} {tc : List AV} {out : AV}
theorem loop62x (hn : n ≤ 12) (hk : k < 2 ^ n) (base : Heap) : ∀ (d i : Nat), i + d = n →
    ALoopRun Tryd.prog G0 (fun r => r = none) body62x { tmps := (st62x n sets pr tc out k (vA base.length ((lowL k i).map I)) i (base ++ oA ((lowL k i).map I))).a } (base ++ oA ((lowL k i).map I)) (.exit 2) { tmps := (st62x n sets pr tc out k (vA base.length ((lowL k n).map I)) n (base ++ oA ((lowL k n).map I))).a } (base ++ oA ((lowL k n).map I))
  | 0, i, hi => by
    obtain rfl : i = n := by omega
    refine .stop (xBody_ok (m := []) names mixed (clok62 (vA base.length ((lowL k i).map I)) i .zs (base ++ oA ((lowL k i).map I)) []) (lpNo body62x) (n := 200) (keep := [0, 2, 3, 5, 9, 10, 11, 12]) (st := st62x i sets pr tc out k (vA base.length ((lowL k i).map I)) i (base ++ oA ((lowL k i).map I))) (st' := st62x i sets pr tc out k (vA base.length ((lowL k i).map I)) i (base ++ oA ((lowL k i).map I))) ?_).1 nofun
    refine (congrArg Tree.sel (run62x i sets pr tc out k _ _ i _ _ _)).trans ?_
    rw [selI, decide_eq_false (by omega)]
    rfl
  | d + 1, i, hi => by
    have hw : IntKind.i64.wrap ((i : Int) + 1) = ((i + 1 : Nat) : Int) := wrap_i64 (by omega) (by omega)
    have h12 : 2 ^ n ≤ 2 ^ 12 := Nat.pow_le_pow_right (by omega) hn
    have hb := bitI_nat (s := k) (i := i) (by omega) (by omega)
    have ih := loop62x hn hk base d (i + 1) (by omega)
    have hl := lowL_succ k i
    have hll := lowL_len k i
    have happ := append_vA el22 base ((lowL k i).map I) (I i) rfl (by simp; omega)
    have hm : (lowL k i).map I ++ [I i] = (lowL k i ++ [(i : Int)]).map I := by simp
    rw [hm] at happ
    refine .next (xBody_ok (m := []) names mixed (clok62 (vA base.length ((lowL k i).map I)) i (vA base.length ((lowL k i ++ [(i : Int)]).map I)) (base ++ oA ((lowL k i).map I)) (base ++ oA ((lowL k i ++ [(i : Int)]).map I))) (lpNo body62x) (n := 200) (keep := [0, 2, 3, 5, 9, 10, 11, 12]) (st := st62x n sets pr tc out k (vA base.length ((lowL k i).map I)) i (base ++ oA ((lowL k i).map I))) (st' := st62x n sets pr tc out k (vA base.length ((lowL k (i + 1)).map I)) (i + 1 : Nat) (base ++ oA ((lowL k (i + 1)).map I))) ?_).1 ih
    refine (congrArg Tree.sel (run62x n sets pr tc out k _ _ i i _ _)).trans ?_
    rw [selI, decide_eq_true (by omega), cond_true, Tree.sel_need (by omega), selI, hb, hw, hl]
    cases k.testBit i with
    | true => rw [cond_true, Tree.sel_need ⟨rfl, rfl, rfl, happ⟩]; rfl
    | false => rfl
/-- The set is built, and becomes data. -/
theorem set62 (hn : n ≤ 12) (hk : k < 2 ^ n) {σ : Heap} (h1 : Below σ.length sets) (h2 : Below σ.length (.row tc 0)) (h3 : Below σ.length out) :
    AExec Tryd.prog G0 (fun r => r = none) (.loop body62x) { tmps := (st62x n sets pr tc out k .zs 0 σ).a } σ (.exit 2) { tmps := (st62x n sets pr tc out k (flL (ints k)) n σ).a } σ := by
  have hrun := AExec.loop (loop62x (sets := sets) (pr := pr) (tc := tc) (out := out) hn hk σ n 0 (by omega))
  have e0 : oA ((lowL k 0).map I) = [] := rfl
  have e1 : vA σ.length ((lowL k 0).map I) = .zs := rfl
  rw [e0, e1, List.append_nil, lowL_all (by omega) hk] at hrun
  refine AExecR.data (AExecR.of (T := fun e a s => e = .exit 2 ∧ a = (st62x n sets pr tc out k (vA σ.length ((ints k).map I)) n (σ ++ oA ((ints k).map I))).a ∧ s = σ ++ oA ((ints k).map I)) hrun ⟨rfl, rfl, rfl⟩) ?_
  rintro e a s ⟨rfl, rfl, rfl⟩
  refine ⟨rfl, ⟨_, rfl⟩, by unfold st62x; rw [len_of, len_of], fun j y hj => ?_⟩
  refine rel_at (Rl := ToData σ.length (σ ++ oA ((ints k).map I))) ?_ (.same .junk) j y hj
  refine ⟨rfl, .same (.int _ _), rfl, .same h1, rfl, .same (.int _ _), rfl, .same h2, rfl, .same h3, rfl, .same (.int _ _), rfl, ?_, rfl, .same (.int _ _), trivial⟩
  cases hq : ints k with
  | nil => exact .inl ⟨.zs, fun _ _ _ h => h.flL_zs⟩
  | cons x l =>
    refine .inr ⟨σ.length, (l.map I).length, (x :: l).map I, ?_, Nat.le_refl _, ?_, fun z hz => ?_, fun _ _ _ h => h.flL_of⟩
    · simp [vA]
    · exact objAt_app (i := 0) (by simp [oA])
    · obtain ⟨y, _, rfl⟩ := List.mem_map.1 hz
      exact .int _ _
theorem loops62b : loopsOf p62b = [body62x] := by kernel_rfl
theorem id62x : idOf body62x = 7 := by kernel_rfl
/-- Up to the set. -/
theorem part62 (hn : n ≤ 12) (hk : k < 2 ^ n) {σ : Heap} (h1 : Below σ.length sets) (h2 : Below σ.length (.row tc 0)) (h3 : Below σ.length out) {z : Code} {T : Exit → List AV → Heap → Prop}
    (hz : AExecR Tryd.prog G0 (fun r => r = none) z (st62v n sets pr tc out k (flL (ints k)) σ).a σ T) : AExecR Tryd.prog G0 (fun r => r = none) (.seq p62a (.seq p62b z)) (st62 n sets pr tc out k σ).a σ T := by
  have ha := (xBody_ok (m := []) (R := fun r => r = none) names mixed clok0 (lpNo p62a) (n := 200) (keep := [0, 2, 3, 5, 9, 10, 11]) (st := st62 n sets pr tc out k σ) (st' := st62w n sets pr tc out k σ) (congrArg Tree.sel (run62a n sets pr tc out k σ))).1
  rw [vals62a] at ha
  have hlp : LoopsOk Tryd.prog G0 (fun r => r = none) [] (lpY 7 [0, 2, 3, 5, 9, 10, 11, 12] (st62x n sets pr tc out k .zs 0 σ) 2 (st62x n sets pr tc out k (flL (ints k)) n σ)) p62b := by
    refine .of_list _ fun x hm => ?_
    rw [loops62b] at hm
    obtain rfl := List.mem_singleton.1 hm
    intro kp s0 t e st' h' hsel
    rw [id62x] at h'
    cases h'
    cases hsel
    exact ⟨set62 hn hk h1 h2 h3, rfl⟩
  have hb := (xBody_ok (m := []) (R := fun r => r = none) names mixed clok0 hlp (n := 200) (keep := [0, 2, 3, 5, 9, 10, 11]) (st := st62v n sets pr tc out k .zs σ) (st' := st62v n sets pr tc out k (flL (ints k)) σ) ((congrArg Tree.sel (run62b n sets pr tc out k (flL (ints k)) n σ)).trans selR)).1
  refine AExecR.seq (T1 := fun e a s => e = .normal ∧ a = (st62v n sets pr tc out k .zs σ).a ∧ s = σ) (.of ha ⟨rfl, rfl, rfl⟩) ?_
  rintro e a s ⟨rfl, rfl, rfl⟩
  refine ⟨rfl, AExecR.seq (T1 := fun e a s' => e = .normal ∧ a = (st62v n sets pr tc out k (flL (ints k)) s).a ∧ s' = s) (.of hb ⟨rfl, rfl, rfl⟩) ?_⟩
  rintro e a s ⟨rfl, rfl, rfl⟩
  exact ⟨rfl, hz⟩
/-- Where a set is inserted. -/
def posL (acc : List (List Int)) (s : List Int) : Nat := fstStop (fun i => !befB (acc.getD i []) s) acc.length 0
theorem load22 {h : Heap} {r g i : Nat} {L : List (List Int)} (ho : objAt h r g = some (L.map flL)) (hi : i < L.length) : aLoad Tryd.prog h 22 (.ref r g (oi i)) = some (flL (L.getD i [])) := by
  have e : oi (i : Int) = i := by unfold oi; rw [Int.toNat_natCast]; omega
  have hg : (L.map flL)[i]? = some (flL (L.getD i [])) := by
    rw [List.getElem?_map, List.getElem?_eq_getElem hi]
    simp [List.getD_eq_getElem?_getD, hi]
  rw [e]
  unfold aLoad
  simp only [ho]
  unfold Am.cut
  rw [Tryd.underlying22]
  simp only [aggD, Bool.false_eq_true, if_false]
  exact hg
/-- The place in an empty list. -/
theorem at62z (set : List Int) (σ : Heap) : AExec Tryd.prog G0 (fun r => r = none) (.block 4 (.loop body62a)) { tmps := (st62a n sets pr tc .zs k set 0 σ).a } σ .normal { tmps := (st62a n sets pr tc .zs k set 0 σ).a } σ := by
  refine AExec.block_to (e := .exit 4) (AExec.loop (.stop (xBody_ok (m := []) names mixed clok0 (lpNo body62a) (n := 200) (keep := [0, 2, 3, 5, 9, 10, 11, 13]) (st := st62a n sets pr tc .zs k set 0 σ) (st' := st62a n sets pr tc .zs k set 0 σ) ?_).1 nofun)) rfl
  exact (congrArg Tree.sel (run62z n sets pr tc k set 0 σ)).trans (by rw [selI]; rfl)
theorem clok62a {a s : List Int} (hl : a.length < 4611686018427387904) : ClOk Tryd.prog G0 (E62a a s (befB a s)) :=
  .ofH rfl rfl (hLd2_ok _ _).ok fun f xs t v h hs σ => clL_ok (fun p hp σ => by obtain rfl := List.mem_singleton.1 hp; exact c74 hl σ) f xs t v h hs σ
theorem short_getD {acc : List (List Int)} (h : ∀ x ∈ acc, x.length < 4611686018427387904) (i : Nat) : (acc.getD i []).length < 4611686018427387904 := by
  rw [List.getD_eq_getElem?_getD]
  cases hk : acc[i]? with
  | none => simp
  | some y => exact h y (List.mem_of_getElem? hk)
theorem loop62a {acc : List (List Int)} {set : List Int} {σ : Heap} {r g : Nat} (hs : acc.length < 4611686018427387904) (hx : ∀ x ∈ acc, x.length < 4611686018427387904) (ho : objAt σ r g = some (acc.map flL)) : ∀ (d i : Nat), i + d = acc.length →
    ALoopRun Tryd.prog G0 (fun r => r = none) body62a { tmps := (st62a n sets pr tc (.ms 1 r g 0 acc.length acc.length) k set i σ).a } σ (.exit 4) { tmps := (st62a n sets pr tc (.ms 1 r g 0 acc.length acc.length) k set (fstStop (fun i => !befB (acc.getD i []) set) d i) σ).a } σ
  | 0, i, hi => by
    obtain rfl : i = acc.length := by omega
    refine .stop (xBody_ok (m := []) names mixed (clok62a (s := set) (short_getD hx 0)) (lpNo body62a) (n := 200) (keep := [0, 2, 3, 5, 9, 10, 11, 13]) (st := st62a n sets pr tc (.ms 1 r g 0 acc.length acc.length) k set acc.length σ) (st' := st62a n sets pr tc (.ms 1 r g 0 acc.length acc.length) k set acc.length σ) ?_).1 nofun
    refine (congrArg Tree.sel (run62m n sets pr tc r g acc.length k set _ _ _ σ)).trans ?_
    rw [selI, decide_eq_false (by omega)]
    rfl
  | d + 1, i, hi => by
    have hw : IntKind.i64.wrap ((i : Int) + 1) = ((i + 1 : Nat) : Int) := wrap_i64 (by omega) (by omega)
    have key := congrArg Tree.sel (run62m n sets pr tc r g acc.length k set (acc.getD i []) (befB (acc.getD i []) set) i σ)
    rw [selI, decide_eq_true (by omega), cond_true, Tree.sel_need ⟨by omega, by omega, by rw [ho]; rfl⟩, Tree.sel_need (load22 ho (by omega)), selR, selI, hw] at key
    unfold fstStop
    cases hb : befB (acc.getD i []) set with
    | true =>
      rw [hb] at key
      have ih := loop62a (set := set) hs hx ho d (i + 1) (by omega)
      simp only [Bool.not_true, Bool.false_eq_true, if_false]
      have hcl := clok62a (s := set) (short_getD hx i)
      rw [hb] at hcl
      exact .next (xBody_ok (m := []) names mixed hcl (lpNo body62a) (n := 200) (keep := [0, 2, 3, 5, 9, 10, 11, 13]) key).1 ih
    | false =>
      rw [hb] at key
      simp only [Bool.not_false, if_true]
      have hcl := clok62a (s := set) (short_getD hx i)
      rw [hb] at hcl
      exact .stop (xBody_ok (m := []) names mixed hcl (lpNo body62a) (n := 200) (keep := [0, 2, 3, 5, 9, 10, 11, 13]) key).1 nofun
/-- The place in a list. -/
theorem at62m {acc : List (List Int)} {set : List Int} {σ : Heap} {r g : Nat} (hs : acc.length < 4611686018427387904) (hx : ∀ x ∈ acc, x.length < 4611686018427387904) (ho : objAt σ r g = some (acc.map flL)) :
    AExec Tryd.prog G0 (fun r => r = none) (.block 4 (.loop body62a)) { tmps := (st62a n sets pr tc (.ms 1 r g 0 acc.length acc.length) k set 0 σ).a } σ .normal { tmps := (st62a n sets pr tc (.ms 1 r g 0 acc.length acc.length) k set (posL acc set) σ).a } σ :=
  AExec.block_to (AExec.loop (loop62a hs hx ho acc.length 0 (by omega))) rfl
end
end Go.Proofs.YtjljigccgaadaaaDoor.Am

namespace Go.Proofs.YtjljigccgaadaaaDoor.Am
open Go
set_option maxRecDepth 100000
def o0 : Oper := { dst := none, op := .move (.tmp 0), type := 0, pos := "", after := #[], guard := none }
def regOps : Code → Array Oper
  | .region _ ops _ => ops
  | _ => #[]
noncomputable def o15 (i : Nat) : Oper := (regOps p62f).toList.getD i o0
theorem reg15 : p62f = .region 15 (regOps p62f) false := by kernel_rfl
theorem ops15 : (regOps p62f).toList = [o15 0, o15 1, o15 2, o15 3, o15 4, o15 5] := by kernel_rfl
theorem op0 : (o15 0).op = .move (.tmp 9) ∧ (o15 0).dst = some 55 ∧ (o15 0).guard = none := by refine ⟨?_, ?_, ?_⟩ <;> kernel_rfl
theorem op1 : (o15 1).op = .move (.tmp 13) ∧ (o15 1).dst = some 56 ∧ (o15 1).guard = none := by refine ⟨?_, ?_, ?_⟩ <;> kernel_rfl
theorem op2 : (o15 2).op = .move (.tmp 11) ∧ (o15 2).dst = some 57 ∧ (o15 2).guard = none := by refine ⟨?_, ?_, ?_⟩ <;> kernel_rfl
theorem op3 : (o15 3).op = .buildSlice 29 1 #[(0, .tmp 57)] ∧ (o15 3).dst = some 58 ∧ (o15 3).guard = none := by refine ⟨?_, ?_, ?_⟩ <;> kernel_rfl
theorem op4 : (o15 4).op = .call { callee := .value (.func 75), args := #[.tmp 55, .tmp 56, .tmp 58], argTypes := #[29, 3, 29] } ∧ (o15 4).dst = some 59 ∧ (o15 4).guard = none := by refine ⟨?_, ?_, ?_⟩ <;> kernel_rfl
theorem op5 : (o15 5).op = .assign (.tmp 59) ∧ (o15 5).dst = some 9 ∧ (o15 5).guard = none := by refine ⟨?_, ?_, ?_⟩ <;> kernel_rfl
theorem set_of (n : Nat) (h : Heap) (l : List (Nat × AV × Bool)) (i : Nat) (v : AV) : (St.of n h l).a.set i v = (St.of n h (l ++ [(i, v, true)])).a := by
  apply List.ext_getElem?
  intro j
  rw [at_of, List.getElem?_set, at_of, len_of]
  unfold look
  rw [List.foldl_append, List.foldl_cons, List.foldl_nil]
  by_cases hij : i = j
  · subst hij
    simp
  · rw [if_neg hij]
    by_cases hj : j < n
    · rw [if_pos hj, if_pos hj, if_neg (fun h => hij h.symm)]
    · rw [if_neg hj, if_neg hj]
theorem step_move {a : AAct} {σ : Heap} {o : Oper} {i : Nat} {v : AV} (ho : o.op = .move (.tmp i) ∨ o.op = .assign (.tmp i)) (hv : a.tmps[i]? = some v) : AStep Tryd.prog G0 a σ o v σ := by
  refine .op ?_
  rw [aopR_eq]
  unfold aopR
  rcases ho with ho | ho <;> simp only [ho, ev, hv, Option.map_some]
theorem wanted_none {ops : Array Oper} {t : List AV} {o : Oper} (h : o.guard = none) : awanted ops t o = some true := by
  unfold awanted
  rw [h]
section
variable {n k : Nat} {sets : AV} {pr : Int} {tc : List AV} {out out' : AV}
def lst62 (n : Int) (sets : AV) (pr : Int) (tc : List AV) (out : AV) (code : Int) (set : List Int) (j : Int) : List (Nat × AV × Bool) := [(0, I n, true), (2, sets, true), (3, I pr, true), (5, .row tc 0, true), (9, out, true), (10, I code, true), (11, flL set, true), (13, I j, true)]
def u0 (out : AV) : List (Nat × AV × Bool) := [(55, out, true)]
def u1 (out : AV) (j : Int) : List (Nat × AV × Bool) := [(55, out, true), (56, I j, true)]
def u2 (out : AV) (j : Int) (set : List Int) : List (Nat × AV × Bool) := [(55, out, true), (56, I j, true), (57, flL set, true)]
def u3 (out : AV) (j : Int) (set : List Int) (N : Nat) : List (Nat × AV × Bool) := [(55, out, true), (56, I j, true), (57, flL set, true), (58, .ms 1 N 0 0 1 1, true)]
def u4 (out : AV) (j : Int) (set : List Int) (N : Nat) (out' : AV) : List (Nat × AV × Bool) := [(55, out, true), (56, I j, true), (57, flL set, true), (58, .ms 1 N 0 0 1 1, true), (59, out', true)]
def u5 (out : AV) (j : Int) (set : List Int) (N : Nat) (out' : AV) : List (Nat × AV × Bool) := [(55, out, true), (56, I j, true), (57, flL set, true), (58, .ms 1 N 0 0 1 1, true), (59, out', true), (9, out', true)]
def fr (h : Heap) (l m : List (Nat × AV × Bool)) : List AV := (St.of 61 h (l ++ m)).a
theorem fr_set (h : Heap) (l m : List (Nat × AV × Bool)) (i : Nat) (v : AV) : (fr h l m).set i v = fr h l (m ++ [(i, v, true)]) := by
  unfold fr
  rw [set_of, List.append_assoc]
theorem fr_heap (h h' : Heap) (l m : List (Nat × AV × Bool)) : fr h l m = fr h' l m := rfl
theorem at0 (h : Heap) (n : Int) (code j : Int) (set : List Int) : (fr h (lst62 n sets pr tc out code set j) [])[9]? = some out := by kernel_rfl
theorem at1 (h : Heap) (n : Int) (code j : Int) (set : List Int) : (fr h (lst62 n sets pr tc out code set j) (u0 out))[13]? = some (I j) := by kernel_rfl
theorem at2 (h : Heap) (n : Int) (code j : Int) (set : List Int) : (fr h (lst62 n sets pr tc out code set j) (u1 out j))[11]? = some (flL set) := by kernel_rfl
theorem at3 (h : Heap) (n : Int) (code j : Int) (set : List Int) : (fr h (lst62 n sets pr tc out code set j) (u2 out j set))[57]? = some (flL set) := by kernel_rfl
theorem at4 (h : Heap) (n : Int) (code j : Int) (set : List Int) (N : Nat) : evAll G0 (fr h (lst62 n sets pr tc out code set j) (u3 out j set N)) [.tmp 55, .tmp 56, .tmp 58] = some [out, I j, .ms 1 N 0 0 1 1] := by kernel_rfl
theorem at5 (h : Heap) (n : Int) (code j : Int) (set : List Int) (N : Nat) : (fr h (lst62 n sets pr tc out code set j) (u4 out j set N out'))[59]? = some out' := by kernel_rfl
theorem end5 (h : Heap) (n : Int) (code j : Int) (set : List Int) (N : Nat) : ((St.of 61 h (lst62 n sets pr tc out code set j ++ u5 out j set N out')).only [0, 2, 3, 5, 9, 10]).a = (st62 n sets pr tc out' code h).a := by kernel_rfl
/-- The insertion. -/
theorem reg62 {set : List Int} {j : Nat} {σ σ' : Heap} (hcall : ACall Tryd.prog G0 75 [out, I j, .ms 1 σ.length 0 0 1 1] (σ ++ [.cells 0 [flL set]]) out' σ') :
    AExec Tryd.prog G0 (fun r => r = none) p62f { tmps := (st62a n sets pr tc out k set j σ).a } σ .normal { tmps := (st62 n sets pr tc out' k σ').a } σ' := by
  have hle := St.only_le [0, 2, 3, 5, 9, 10] (St.of 61 σ' (lst62 n sets pr tc out k set j ++ u5 out j set σ.length out'))
  rw [end5] at hle
  refine AExec.weak_post (a' := { tmps := fr σ' (lst62 n sets pr tc out k set j) (u5 out j set σ.length out') }) ?_ hle
  have hst : (st62a n sets pr tc out k set j σ).a = fr σ (lst62 n sets pr tc out k set j) [] := rfl
  rw [hst, reg15]
  refine .region ?_
  rw [ops15]
  refine .step (wanted_none op0.2.2) (step_move (.inl op0.1) (at0 σ n k j set)) ?_
  rw [op0.2.1]
  show AOps _ _ _ _ { tmps := (fr σ (lst62 n sets pr tc out k set j) []).set 55 out } _ _ _
  rw [fr_set]
  refine .step (wanted_none op1.2.2) (step_move (.inl op1.1) (at1 σ n k j set)) ?_
  rw [op1.2.1]
  show AOps _ _ _ _ { tmps := (fr σ (lst62 n sets pr tc out k set j) (u0 out)).set 56 (I j) } _ _ _
  rw [fr_set]
  refine .step (wanted_none op2.2.2) (step_move (.inl op2.1) (at2 σ n k j set)) ?_
  rw [op2.2.1]
  show AOps _ _ _ _ { tmps := (fr σ (lst62 n sets pr tc out k set j) (u1 out j)).set 57 (flL set) } _ _ _
  rw [fr_set]
  refine .step (wanted_none op3.2.2) (step_lit op3.1 (at3 σ n k j set) rfl) ?_
  rw [op3.2.1]
  show AOps _ _ _ _ { tmps := (fr σ (lst62 n sets pr tc out k set j) (u2 out j set)).set 58 (.ms 1 σ.length 0 0 1 1) } _ _ _
  rw [fr_set]
  refine .step (wanted_none op4.2.2) (AStep.call (first := []) (caps := []) (xs := [out, I j, .ms 1 σ.length 0 0 1 1]) op4.1 rfl rfl (at4 σ n k j set σ.length) (by simpa using hcall)) ?_
  rw [op4.2.1]
  show AOps _ _ _ _ { tmps := (fr σ (lst62 n sets pr tc out k set j) (u3 out j set σ.length)).set 59 out' } _ _ _
  rw [fr_set]
  refine .step (wanted_none op5.2.2) (step_move (.inr op5.1) (at5 σ n k j set σ.length)) ?_
  rw [op5.2.1]
  show AOps _ _ _ _ { tmps := (fr σ (lst62 n sets pr tc out k set j) (u4 out j set σ.length out')).set 9 out' } _ _ _
  rw [fr_set]
  exact .nil _ _
end
end Go.Proofs.YtjljigccgaadaaaDoor.Am

namespace Go.Proofs.YtjljigccgaadaaaDoor.Am
open Go
set_option maxRecDepth 100000

/-! ### The sets found so far -/
def accL (p : Nat → Bool) (n k : Nat) : List (List Int) := ((allSeq n).filter fun s => irr p s && decide (s < k)).map ints
theorem accL_zero (p : Nat → Bool) (n : Nat) : accL p n 0 = [] := by
  unfold accL
  rw [List.filter_eq_nil_iff.2 (fun s _ => by simp)]
  rfl
theorem accL_all (p : Nat → Bool) {n : Nat} (hn : n ≤ 12) : accL p n (2 ^ n) = everyL p n := by
  unfold accL everyL
  congr 1
  refine List.filter_congr fun s hs => ?_
  rw [decide_eq_true ((mem_allSeq hn s).1 hs), Bool.and_true]
theorem accL_len (p : Nat → Bool) {n : Nat} (hn : n ≤ 12) (k : Nat) : (accL p n k).length ≤ 8192 := by
  unfold accL
  rw [List.length_map]
  exact Nat.le_trans (List.length_filter_le _ _) (allSeq_len hn)
theorem accL_short (p : Nat → Bool) (n k : Nat) : ∀ x ∈ accL p n k, x.length < 4611686018427387904 := by
  intro x hx
  obtain ⟨s, _, rfl⟩ := List.mem_map.1 hx
  have := ints_len s
  omega
theorem accL_skip {p : Nat → Bool} {n k : Nat} (h : irr p k = false) : accL p n (k + 1) = accL p n k := by
  unfold accL
  congr 1
  refine List.filter_congr fun s _ => ?_
  by_cases hs : s = k
  · subst hs; rw [h]; rfl
  · congr 1
    exact decide_eq_decide.2 (by omega)
theorem cmpL_self : ∀ a : List Int, cmpL a a = 0
  | [] => rfl
  | x :: a => by
    have : cmp2 x x = 0 := cmp2_zero.2 rfl
    unfold cmpL
    rw [this, beq_self_eq_true, cond_true, cmpL_self a]
theorem befB_irr (a : List Int) : befB a a = false := by
  cases h : befB a a with
  | false => rfl
  | true =>
    rcases befB_iff.1 h with h1 | ⟨_, h1⟩
    · omega
    · rw [cmpL_self] at h1; omega
theorem befB_asymm {a b : List Int} (h : befB a b = true) : befB b a = false := by
  cases h2 : befB b a with
  | false => rfl
  | true => have := befB_trans h h2; rw [befB_irr] at this; cases this
theorem fst_eq {stop : Nat → Bool} {N q : Nat} (h1 : ∀ i, i < q → stop i = false) (h2 : q = N ∨ (q < N ∧ stop q = true)) : fstStop stop N 0 = q := by
  have hle := fstStop_le (stop := stop) N 0
  have hb := fstStop_before (stop := stop) N 0
  rcases Nat.lt_trichotomy (fstStop stop N 0) q with h | h | h
  · have := fstStop_at' (stop := stop) N 0 (by rcases h2 with h2 | h2 <;> omega)
    rw [h1 _ h] at this
    cases this
  · exact h
  · have := hb q (by omega) h
    rcases h2 with h2 | ⟨_, h3⟩
    · omega
    · rw [this] at h3; cases h3
theorem posL_app {A B : List (List Int)} {s : List Int} (hA : ∀ x ∈ A, befB x s = true) (hB : ∀ x ∈ B, befB x s = false) : posL (A ++ B) s = A.length := by
  unfold posL
  refine fst_eq (fun i hi => ?_) ?_
  · have : (A ++ B).getD i [] = A[i] := by simp [List.getD_eq_getElem?_getD, List.getElem?_append_left hi, hi]
    rw [this, hA _ (List.getElem_mem hi)]
    rfl
  · cases B with
    | nil => left; simp
    | cons b B =>
      right
      refine ⟨by simp, ?_⟩
      have : (A ++ b :: B).getD A.length [] = b := by simp [List.getD_eq_getElem?_getD]
      rw [this, hB b (.head _)]
      rfl
theorem accL_ins {p : Nat → Bool} {n k : Nat} (hn : n ≤ 12) (hk : k < 2 ^ n) (h : irr p k = true) : accL p n (k + 1) = insL (accL p n k) (posL (accL p n k) (ints k)) (ints k) := by
  obtain ⟨A, B, hAB⟩ := List.append_of_mem ((mem_allSeq hn k).2 hk)
  have hsort := sorted_all hn
  rw [hAB, List.map_append, List.map_cons, List.pairwise_append] at hsort
  obtain ⟨q1, q2, q3⟩ := hsort
  have hAk : ∀ s ∈ A, befB (ints s) (ints k) = true := fun s hs => q3 _ (List.mem_map_of_mem hs) _ (.head _)
  have hkB : ∀ s ∈ B, befB (ints k) (ints s) = true := fun s hs => (List.pairwise_cons.1 q2).1 _ (List.mem_map_of_mem hs)
  have hA : ∀ s ∈ A, s ≠ k := fun s hs he => by
    have := hAk s hs
    rw [he, befB_irr] at this
    cases this
  have hB : ∀ s ∈ B, s ≠ k := fun s hs he => by
    have := hkB s hs
    rw [he, befB_irr] at this
    cases this
  have e0 : accL p n k = (A.filter fun s => irr p s && decide (s < k)).map ints ++ (B.filter fun s => irr p s && decide (s < k)).map ints := by
    unfold accL
    rw [hAB, List.filter_append, List.filter_cons]
    rw [if_neg (by simp), List.map_append]
  have e1 : accL p n (k + 1) = (A.filter fun s => irr p s && decide (s < k)).map ints ++ ints k :: (B.filter fun s => irr p s && decide (s < k)).map ints := by
    unfold accL
    rw [hAB, List.filter_append, List.filter_cons]
    rw [if_pos (by simp [h]), List.map_append, List.map_cons]
    have f1 : A.filter (fun s => irr p s && decide (s < k + 1)) = A.filter fun s => irr p s && decide (s < k) := List.filter_congr fun s hs => by
      congr 1
      have := hA s hs
      exact decide_eq_decide.2 (by omega)
    have f2 : B.filter (fun s => irr p s && decide (s < k + 1)) = B.filter fun s => irr p s && decide (s < k) := List.filter_congr fun s hs => by
      congr 1
      have := hB s hs
      exact decide_eq_decide.2 (by omega)
    rw [f1, f2]
  rw [e1, e0, posL_app (fun x hx => ?_) (fun x hx => ?_)]
  · unfold insL
    rw [List.take_left, List.drop_left]
  · obtain ⟨s, hs, rfl⟩ := List.mem_map.1 hx
    exact hAk s (List.mem_filter.1 hs).1
  · obtain ⟨s, hs, rfl⟩ := List.mem_map.1 hx
    exact befB_asymm (hkB s (List.mem_filter.1 hs).1)
theorem posL_le (acc : List (List Int)) (s : List Int) : posL acc s ≤ acc.length := by
  have := fstStop_le (stop := fun i => !befB (acc.getD i []) s) acc.length 0
  unfold posL
  omega

/-! ### The list that grows -/
/-- A list of sets, as the variable holds it. -/
def Rep (σ0 : Heap) (acc : List (List Int)) (out : AV) (σ : Heap) : Prop :=
  (∃ τ, σ = σ0 ++ τ) ∧ ((acc = [] ∧ out = .zs) ∨ (acc ≠ [] ∧ ∃ r g, σ0.length ≤ r ∧ objAt σ r g = some (acc.map flL) ∧ out = .ms 1 r g 0 acc.length acc.length))
theorem pre_push {σ0 σ : Heap} (h : ∃ τ, σ = σ0 ++ τ) (x : Heap) : ∃ τ, σ ++ x = σ0 ++ τ := by
  obtain ⟨τ, rfl⟩ := h
  exact ⟨τ ++ x, by rw [List.append_assoc]⟩
theorem pre_set {σ0 σ : Heap} (h : ∃ τ, σ = σ0 ++ τ) {r : Nat} (hr : σ0.length ≤ r) (o : AObj) : ∃ τ, σ.set r o = σ0 ++ τ := by
  obtain ⟨τ, rfl⟩ := h
  exact ⟨τ.set (r - σ0.length) o, by rw [List.set_append_right _ _ hr]⟩
theorem pre_len {σ0 σ : Heap} (h : ∃ τ, σ = σ0 ++ τ) : σ0.length ≤ σ.length := by
  obtain ⟨τ, rfl⟩ := h
  simp
theorem one_flL (acc : List (List Int)) : ∀ y ∈ acc.map flL, y.one = true := fun y hy => by
  obtain ⟨l, _, rfl⟩ := List.mem_map.1 hy
  rfl
theorem map_insL {α β : Type} (f : α → β) (L : List α) (i : Nat) (x : α) : (insL L i x).map f = insL (L.map f) i (f x) := by
  unfold insL
  simp
theorem insL_ne {α : Type} (L : List α) (i : Nat) (x : α) : insL L i x ≠ [] := by simp [insL]
section
variable {n k : Nat} {sets : AV} {pr : Int} {tc : List AV}
theorem set9 (n : Int) (out v : AV) (code : Int) (set : List Int) (j : Int) (h : Heap) : (st62a n sets pr tc out code set j h).a.set 9 v = (st62a n sets pr tc v code set j h).a := by kernel_rfl
theorem get9 (n : Int) (out : AV) (code : Int) (set : List Int) (j : Int) (h : Heap) : (st62a n sets pr tc out code set j h).a[9]? = some out := by kernel_rfl
/-- A set is inserted. -/
theorem ins62 {σ0 σ : Heap} {acc : List (List Int)} {out : AV} (hr : Rep σ0 acc out σ) (hl : acc.length + 1 ≤ 16777216) {set : List Int} {j : Nat} (hj : j ≤ acc.length) :
    AExecR Tryd.prog G0 (fun r => r = none) p62f (st62a n sets pr tc out k set j σ).a σ fun e a s => e = .normal ∧ ∃ out', a = (st62 n sets pr tc out' k s).a ∧ Rep σ0 (insL acc j set) out' s := by
  obtain ⟨hpre, hr⟩ := hr
  have hlen := pre_len hpre
  have hN : objAt (σ ++ [.cells 0 [flL set]]) σ.length 0 = some [flL set] := objAt_app (i := 0) rfl
  have hil := insL_length (L := acc) (i := j) (x := set) hj
  rcases hr with ⟨rfl, rfl⟩ | ⟨hne, r, g, hr0, ho, rfl⟩
  · obtain rfl : j = 0 := by simpa using hj
    refine .of (reg62 (c75A hN rfl)) ⟨rfl, _, rfl, pre_push (pre_push hpre _) _, .inr ⟨insL_ne _ _ _, (σ ++ [AObj.cells 0 [flL set]]).length, 0, ?_, objAt_app (i := 0) rfl, rfl⟩⟩
    simp; omega
  · obtain ⟨hrl, _⟩ := objAt_lt ho
    have ho1 : objAt (σ ++ [.cells 0 [flL set]]) r g = some (acc.map flL) := objAt_push ho
    have hm : (acc.map flL).length = acc.length := by simp
    by_cases hje : j = acc.length
    · subst hje
      have hc := c75B hN (x := flL set) rfl ho1 (by rw [hm]; exact hl)
      rw [hm] at hc
      refine .of (reg62 hc) ⟨rfl, _, rfl, pre_set (pre_push hpre _) hr0 _, .inr ⟨insL_ne _ _ _, r, g + 1, hr0, ?_, ?_⟩⟩
      · rw [objAt_set (by simp; omega), insL_end, List.map_append]
        rfl
      · rw [hil]
    · refine .known_cap (get9 _ _ _ _ _ _) (by rw [ho]; rfl) fun cap hcap => ?_
      rw [set9]
      by_cases hroom : acc.length + 1 ≤ cap
      · have hc := c75C hN (x := flL set) rfl (show σ.length ≠ r by omega) ho1 (one_flL acc) (i := j) (by rw [hm]; omega) (by rw [hm]; exact hl) (cap := cap) (by rw [hm]; exact hroom)
        rw [hm] at hc
        refine AExecR.sub (.of (T := fun e a s => e = .normal ∧ a = (st62 n sets pr tc (.mx 1 r g 0 (acc.length + 1) cap) k s).a ∧ s = (σ ++ [AObj.cells 0 [flL set]]).set r (.cells g (insL (acc.map flL) j (flL set)))) (reg62 hc) ⟨rfl, rfl, rfl⟩) ?_
        rintro e a s ⟨rfl, rfl, rfl⟩
        refine ⟨_, ⟨rfl, .ms 1 r g 0 (acc.length + 1) (acc.length + 1), rfl, pre_set (pre_push hpre _) hr0 _, .inr ⟨insL_ne _ _ _, r, g, hr0, ?_, ?_⟩⟩, by unfold st62; rw [len_of, len_of], fun i y hy => ?_⟩
        · rw [objAt_set (by simp; omega), map_insL]
        · rw [hil]
        · refine rel_at (Rl := fun x y => ∀ w M u, RV w M u x → RV w M u y) ?_ (fun _ _ _ h => h) i y hy
          exact ⟨rfl, fun _ _ _ h => h, rfl, fun _ _ _ h => h, rfl, fun _ _ _ h => h, rfl, fun _ _ _ h => h, rfl, fun _ _ _ h => h.mx_ms (Nat.le_refl _) hroom, rfl, fun _ _ _ h => h, trivial⟩
      · obtain rfl : cap = acc.length := by omega
        have hc := c75D hN (x := flL set) rfl ho1 (one_flL acc) (i := j) (by rw [hm]; omega) (by rw [hm]; exact hl)
        rw [hm] at hc
        refine .of (reg62 hc) ⟨rfl, _, rfl, pre_push (pre_push hpre _) _, .inr ⟨insL_ne _ _ _, (σ ++ [AObj.cells 0 [flL set]]).length, 0, by simp; omega, ?_, ?_⟩⟩
        · rw [map_insL]
          exact objAt_app (i := 0) rfl
        · rw [hil]
end
end Go.Proofs.YtjljigccgaadaaaDoor.Am

namespace Go.Proofs.YtjljigccgaadaaaDoor.Am
open Go
set_option maxRecDepth 100000

section
variable {n k : Nat} {sets : AV} {pr : Int} {fa : Bool} {fb : Int} {fx : AV}
theorem only62v (n : Int) (tc : List AV) (out : AV) (code : Int) (v : AV) (h : Heap) : ((st62v n sets pr tc out code v h).only [0, 2, 3, 5, 9, 10]).a = (st62 n sets pr tc out code h).a := by kernel_rfl
theorem clok62c {p : Nat → Bool} (hx : fx = .zs ∨ ∃ B, fx = flU B) (hp : HasR n (tabA fa fb fx) sets pr p (2 ^ n)) (hn : n ≤ 12) (hk : k < 2 ^ n) : ClOk Tryd.prog G0 (EK [(64, [I n, flL (ints k), .agg (tabA fa fb fx), sets, I pr], .bool (irr p k))]) := clokK fun q hq σ => by
  have h12 : 2 ^ n ≤ 2 ^ 12 := Nat.pow_le_pow_right (by omega) hn
  obtain rfl := List.mem_singleton.1 hq
  exact c64 hx hp hk (by omega) σ
theorem below_rep {σ0 σ : Heap} {acc : List (List Int)} {out : AV} (hr : Rep σ0 acc out σ) : Below σ.length out := by
  rcases hr.2 with ⟨_, rfl⟩ | ⟨_, r, g, _, ho, rfl⟩
  · exact .zs
  · exact .ms _ _ _ _ _ _ (objAt_lt ho).1
/-- A ROUND. -/
theorem round62 {p : Nat → Bool} (hx : fx = .zs ∨ ∃ B, fx = flU B) (hp : HasR n (tabA fa fb fx) sets pr p (2 ^ n)) (hn : n ≤ 12) (hk : k < 2 ^ n) {σ0 σ : Heap} (h1 : Below 0 sets) (h2 : Below 0 (.row (tabA fa fb fx) 0)) {out : AV} (hr : Rep σ0 (accL p n k) out σ) :
    AExecR Tryd.prog G0 (fun r => r = none) body62 (st62 n sets pr (tabA fa fb fx) out k σ).a σ fun e a s => e = .normal ∧ ∃ out', a = (st62 n sets pr (tabA fa fb fx) out' (k + 1 : Nat) s).a ∧ Rep σ0 (accL p n (k + 1)) out' s := by
  have h12 : 2 ^ n ≤ 2 ^ 12 := Nat.pow_le_pow_right (by omega) hn
  have hw : IntKind.i64.wrap ((k : Int) + 1) = ((k + 1 : Nat) : Int) := wrap_i64 (by omega) (by omega)
  rw [code62]
  have hh := (xBody_ok (m := []) (R := fun r => r = none) names mixed (clok62 .zs 0 .zs [] []) (lpNo h62) (n := 200) (keep := [0, 2, 3, 5, 9, 10]) (st := st62 n sets pr (tabA fa fb fx) out k σ) (st' := st62 n sets pr (tabA fa fb fx) out k σ) (e := .normal) (by
    refine (congrArg Tree.sel (run62h n sets pr _ out k σ)).trans ?_
    have e1 : shl62 n = (2 ^ n : Nat) := by
      have := shl1_nat (k := n) (by omega)
      exact this
    rw [Tree.sel_need (by omega), selI, e1, decide_eq_true (by omega)]
    rfl)).1
  refine AExecR.seq (T1 := fun e a s => e = .normal ∧ a = (st62 n sets pr (tabA fa fb fx) out k σ).a ∧ s = σ) (.of hh ⟨rfl, rfl, rfl⟩) ?_
  rintro e a s ⟨rfl, rfl, rfl⟩
  refine ⟨rfl, ?_⟩
  refine AExecR.seq (T1 := fun e a s => e = .normal ∧ ∃ out', a = (st62 n sets pr (tabA fa fb fx) out' k s).a ∧ Rep σ0 (accL p n (k + 1)) out' s) ?_ ?_
  · refine .block (part62 hn hk h1.up h2.up (below_rep hr) ?_)
    have key := congrArg Tree.sel (run62c n sets pr fa fb fx out k (ints k) (irr p k) s)
    rw [selR, selI] at key
    have hcl := clok62c hx hp hn hk
    cases hi : irr p k with
    | false =>
      rw [hi] at key hcl
      have hc := (xBody_ok (m := []) (R := fun r => r = none) names mixed hcl (lpNo p62c) (n := 200) (keep := [0, 2, 3, 5, 9, 10, 11]) key).1
      have hle := St.only_le [0, 2, 3, 5, 9, 10] (st62v n sets pr (tabA fa fb fx) out k (flL (ints k)) s)
      rw [only62v] at hle
      refine .of ((AExec.weak_post hc hle).seq_out nofun) ⟨rfl, out, rfl, ?_⟩
      rw [accL_skip hi]
      exact hr
    | true =>
      rw [hi] at key hcl
      have hc := (xBody_ok (m := []) (R := fun r => r = none) names mixed hcl (lpNo p62c) (n := 200) (keep := [0, 2, 3, 5, 9, 10, 11]) key).1
      have hd := (xBody_ok (m := []) (R := fun r => r = none) names mixed clok0 (lpNo p62d) (n := 200) (keep := [0, 2, 3, 5, 9, 10, 11, 13]) (st := st62v n sets pr (tabA fa fb fx) out k (flL (ints k)) s) (st' := st62d n sets pr (tabA fa fb fx) out k (ints k) s) (congrArg Tree.sel (run62d n sets pr _ out k (ints k) s))).1
      rw [vals62d] at hd
      have hat : AExec Tryd.prog G0 (fun r => r = none) (.block 4 (.loop body62a)) { tmps := (st62a n sets pr (tabA fa fb fx) out k (ints k) 0 s).a } s .normal { tmps := (st62a n sets pr (tabA fa fb fx) out k (ints k) (posL (accL p n k) (ints k)) s).a } s := by
        rcases hr.2 with ⟨he, rfl⟩ | ⟨_, r, g, _, ho, rfl⟩
        · rw [he]
          exact at62z _ _
        · have hal := accL_len p hn k
          exact at62m (by omega) (accL_short p n k) ho
      refine AExecR.seq (T1 := fun e a s' => e = .normal ∧ a = (st62v n sets pr (tabA fa fb fx) out k (flL (ints k)) s).a ∧ s' = s) (.of hc ⟨rfl, rfl, rfl⟩) ?_
      rintro e a s ⟨rfl, rfl, rfl⟩
      refine ⟨rfl, AExecR.seq (T1 := fun e a s' => e = .normal ∧ a = (st62a n sets pr (tabA fa fb fx) out k (ints k) 0 s).a ∧ s' = s) (.of hd ⟨rfl, rfl, rfl⟩) ?_⟩
      rintro e a s ⟨rfl, rfl, rfl⟩
      refine ⟨rfl, AExecR.seq (T1 := fun e a s' => e = .normal ∧ a = (st62a n sets pr (tabA fa fb fx) out k (ints k) (posL (accL p n k) (ints k)) s).a ∧ s' = s) (.of hat ⟨rfl, rfl, rfl⟩) ?_⟩
      rintro e a s ⟨rfl, rfl, rfl⟩
      refine ⟨rfl, (ins62 hr (by have := accL_len p hn k; omega) (posL_le _ _)).conseq ?_⟩
      rintro e a s ⟨rfl, out', h3, h4⟩
      refine ⟨rfl, out', h3, ?_⟩
      rw [accL_ins hn hk hi]
      exact h4
  · rintro e a s ⟨rfl, out', rfl, h4⟩
    have hb := (xBody_ok (m := []) (R := fun r => r = none) names mixed clok0 (lpNo r62) (n := 200) (keep := [0, 2, 3, 5, 9, 10]) (st := st62 n sets pr (tabA fa fb fx) out' k s) (st' := st62 n sets pr (tabA fa fb fx) out' (k + 1 : Nat) s) (e := .normal) (by
      refine (congrArg Tree.sel (run62r n sets pr _ out' k s)).trans ?_
      rw [hw]
      rfl)).1
    exact ⟨rfl, .of hb ⟨rfl, out', rfl, h4⟩⟩
/-- THE LOOP. -/
theorem loop62 {p : Nat → Bool} (hx : fx = .zs ∨ ∃ B, fx = flU B) (hp : HasR n (tabA fa fb fx) sets pr p (2 ^ n)) (hn : n ≤ 12) {σ : Heap} (h1 : Below 0 sets) (h2 : Below 0 (.row (tabA fa fb fx) 0)) :
    AExec Tryd.prog G0 (fun r => r = none) (.loop body62) { tmps := (st62 n sets pr (tabA fa fb fx) .zs 0 σ).a } σ (.exit 0) { tmps := (st62 n sets pr (tabA fa fb fx) (flLL (everyL p n)) (2 ^ n : Nat) σ).a } σ := by
  have h12 : 2 ^ n ≤ 2 ^ 12 := Nat.pow_le_pow_right (by omega) hn
  refine AExecR.data (AExecR.loop (N := 2 ^ n) (S := fun k a s => ∃ out, a = (st62 n sets pr (tabA fa fb fx) out (k : Nat) s).a ∧ Rep σ (accL p n k) out s) (T := fun e a s => e = .exit 0 ∧ ∃ out, a = (st62 n sets pr (tabA fa fb fx) out (2 ^ n : Nat) s).a ∧ Rep σ (everyL p n) out s) ?_ ?_ ?_) ?_
  · rintro k hk a s ⟨out, rfl, hr⟩
    exact round62 hx hp hn hk h1 h2 hr
  · rintro a s ⟨out, rfl, hr⟩
    have hh := (xBody_ok (m := []) (R := fun r => r = none) names mixed (clok62 .zs 0 .zs [] []) (lpNo h62) (n := 200) (keep := [0, 2, 3, 5, 9, 10]) (st := st62 n sets pr (tabA fa fb fx) out (2 ^ n : Nat) s) (st' := st62 n sets pr (tabA fa fb fx) out (2 ^ n : Nat) s) (e := .exit 0) (by
      refine (congrArg Tree.sel (run62h n sets pr _ out _ s)).trans ?_
      have e1 : shl62 n = (2 ^ n : Nat) := by
        have := shl1_nat (k := n) (by omega)
        exact this
      rw [Tree.sel_need (by omega), selI, e1, decide_eq_false (by omega)]
      rfl)).1
    rw [code62]
    rw [accL_all p hn] at hr
    exact .of (hh.seq_out nofun) ⟨nofun, rfl, out, rfl, hr⟩
  · exact ⟨.zs, rfl, ⟨[], by simp⟩, .inl ⟨accL_zero p n, rfl⟩⟩
  · rintro e a s ⟨rfl, out, rfl, hpre, hr⟩
    refine ⟨rfl, hpre, by unfold st62; rw [len_of, len_of], fun j y hj => ?_⟩
    refine rel_at (Rl := ToData σ.length s) ?_ (.same .junk) j y hj
    refine ⟨rfl, .same (.int _ _), rfl, .same h1.up, rfl, .same (.int _ _), rfl, .same h2.up, rfl, ?_, rfl, .same (.int _ _), trivial⟩
    rcases hr with ⟨he, rfl⟩ | ⟨hne, r, g, hr0, ho, rfl⟩
    · rw [he]
      exact .inl ⟨.zs, fun _ _ _ h => h.flLL_zs⟩
    · refine .inr ⟨r, g, (everyL p n).map flL, by rw [List.length_map], hr0, ho, fun z hz => ?_, fun _ _ _ h => h.flLL_of⟩
      obtain ⟨l, _, rfl⟩ := List.mem_map.1 hz
      exact below_flL _
theorem loops62 : loopsOf (bodyOf Tryd.prog 62) = [body62, body62x, body62a] := by kernel_rfl
theorem id62 : idOf body62 = 3 := by kernel_rfl
theorem id62a : idOf body62a = 13 := by kernel_rfl
noncomputable def t62 (n : Int) (sets : AV) (pr : Int) (tc : List AV) (L : List (List Int)) (m : Int) (h : Heap) : Tree (AV × Bool × Heap) := xenter Tryd.prog {} (xCode Tryd.prog G0 {} 200 (lpY 3 [0, 2, 3, 5, 9, 10] (st62 n sets pr tc .zs 0 h) 0 (st62 n sets pr tc (flLL L) m h))) 62 [I n, .agg tc, sets, I pr] [true, true, true, true] h
def t62r (n : Int) (sets : AV) (pr : Int) (tc : List AV) (L : List (List Int)) (h : Heap) : Tree (AV × Bool × Heap) := .need ((st62 n sets pr tc .zs 0 h).vals = (st62 n sets pr tc .zs 0 h).vals) (.leaf (flLL L, true, h))
theorem runF62z (n : Int) (sets : AV) (pr : Int) (fa : Bool) (fb : Int) (L : List (List Int)) (m : Int) (h : Heap) : t62 n sets pr (tabA fa fb .zs) L m h = t62r n sets pr (tabA fa fb .zs) L h := by kernel_rfl
theorem runF62u (n : Int) (sets : AV) (pr : Int) (fa : Bool) (fb : Int) (B : List Int) (L : List (List Int)) (m : Int) (h : Heap) : t62 n sets pr (tabA fa fb (flU B)) L m h = t62r n sets pr (tabA fa fb (flU B)) L h := by kernel_rfl
/-- WHAT 'every' RETURNS. -/
theorem c62 {p : Nat → Bool} (hx : fx = .zs ∨ ∃ B, fx = flU B) (hp : HasR n (tabA fa fb fx) sets pr p (2 ^ n)) (hn : n ≤ 12) {σ : Heap} (h1 : Below 0 sets) : ACall Tryd.prog G0 62 [I n, .agg (tabA fa fb fx), sets, I pr] σ (flLL (everyL p n)) σ := by
  have h2 : Below 0 (.row (tabA fa fb fx) 0) := .row _ _ fun j x hj => by
    unfold tabA at hj
    match j, hj with
    | 0, hj => cases hj; exact .bool _
    | 1, hj => cases hj; exact .int _ _
    | 2, hj =>
      cases hj
      rcases hx with rfl | ⟨B, rfl⟩
      · exact .zs
      · exact below_flU B
    | j + 3, hj => simp at hj
  have hlp : LoopsOk Tryd.prog G0 (fun r => r = none) [] (lpY 3 [0, 2, 3, 5, 9, 10] (st62 n sets pr (tabA fa fb fx) .zs 0 σ) 0 (st62 n sets pr (tabA fa fb fx) (flLL (everyL p n)) (2 ^ n : Nat) σ)) (bodyOf Tryd.prog 62) := by
    refine .of_list _ fun x hm => ?_
    rw [loops62] at hm
    simp only [List.mem_cons, List.not_mem_nil, or_false] at hm
    intro kp s0 t e st' h' hsel
    rcases hm with rfl | rfl | rfl
    · rw [id62] at h'
      cases h'
      cases hsel
      exact ⟨loop62 hx hp hn h1 h2, rfl⟩
    · rw [id62x] at h'
      cases h'
    · rw [id62a] at h'
      cases h'
  have hrun : t62 n sets pr (tabA fa fb fx) (everyL p n) (2 ^ n : Nat) σ = t62r n sets pr (tabA fa fb fx) (everyL p n) σ := by
    rcases hx with rfl | ⟨B, rfl⟩
    · exact runF62z _ _ _ _ _ _ _ _
    · exact runF62u _ _ _ _ _ _ _ _ _
  exact .find (s := true) (n := 200) (tags := [true, true, true, true]) clok0 hlp ((congrArg Tree.sel hrun).trans selR)
end
end Go.Proofs.YtjljigccgaadaaaDoor.Am

namespace Go.Proofs.YtjljigccgaadaaaDoor.Am
open Go
set_option maxRecDepth 100000

theorem run37 (n : Int) (T : Tab) (L : List (List Int)) (h : Heap) : xCall Tryd.prog G0 (EK [(62, [I n, T.av, .zs, I 0], flLL L)]) 200 37 [I n, T.av] [true, true] h =
    .ite (decide (n < 0)) (.leaf (.tup [.zs, I 2], false, h)) (.ite (decide (n > 12)) (.leaf (.tup [.zs, I 2], false, h)) (.need ([I n, T.av, .zs, I 0] = [I n, T.av, .zs, I 0]) (.leaf (.tup [flLL L, I 0], true, h)))) := by kernel_rfl
theorem run37e (n : Int) (T : Tab) (h : Heap) : xCall Tryd.prog G0 EF 200 37 [I n, T.av] [true, true] h = .ite (decide (n < 0)) (.leaf (.tup [.zs, I 2], false, h)) (.ite (decide (n > 12)) (.leaf (.tup [.zs, I 2], false, h)) .fail) := by kernel_rfl
theorem run38 (n : Int) (T : Tab) (L : List (List Int)) (h : Heap) : xCall Tryd.prog G0 (EK [(62, [I n, T.av, .zs, I 1], flLL L)]) 200 38 [I n, T.av] [true, true] h =
    .ite (decide (n < 0)) (.leaf (.tup [.zs, I 2], false, h)) (.ite (decide (n > 12)) (.leaf (.tup [.zs, I 2], false, h)) (.need ([I n, T.av, .zs, I 1] = [I n, T.av, .zs, I 1]) (.leaf (.tup [flLL L, I 0], true, h)))) := by kernel_rfl
theorem run38e (n : Int) (T : Tab) (h : Heap) : xCall Tryd.prog G0 EF 200 38 [I n, T.av] [true, true] h = .ite (decide (n < 0)) (.leaf (.tup [.zs, I 2], false, h)) (.ite (decide (n > 12)) (.leaf (.tup [.zs, I 2], false, h)) .fail) := by kernel_rfl
theorem clokKn : ClOk Tryd.prog G0 (EK []) := clokK fun p hp => by cases hp
theorem sel_range {α : Type} {n m : Int} (h : n < 0 ∨ n > m) {x z : Tree α} : (Tree.ite (decide (n < 0)) x (.ite (decide (n > m)) x z)).sel = x.sel := by
  rw [selI]
  rcases h with h | h
  · rw [decide_eq_true h, cond_true]
  · cases decide (n < 0) with
    | true => rfl
    | false => rw [cond_false, selI, decide_eq_true h, cond_true]
theorem sel_in {α : Type} {n m : Int} (h0 : 0 ≤ n) (h1 : n ≤ m) {x z : Tree α} : (Tree.ite (decide (n < 0)) x (.ite (decide (n > m)) x z)).sel = z.sel := by
  rw [selI, decide_eq_false (by omega), cond_false, selI, decide_eq_false (by omega), cond_false]
theorem c37e {n : Int} (hn : n < 0 ∨ n > 12) (T : Tab) (h : Heap) : ACall Tryd.prog G0 37 [I n, T.av] h (resLL [] 2) h :=
  ACall.resZsL (xCall_ok (n := 200) (tags := [true, true]) (s := false) names mixed clokF ((congrArg Tree.sel (run37e n T h)).trans (sel_range hn)))
theorem c38e {n : Int} (hn : n < 0 ∨ n > 12) (T : Tab) (h : Heap) : ACall Tryd.prog G0 38 [I n, T.av] h (resLL [] 2) h :=
  ACall.resZsL (xCall_ok (n := 200) (tags := [true, true]) (s := false) names mixed clokF ((congrArg Tree.sel (run38e n T h)).trans (sel_range hn)))
theorem c37 {T : Tab} (hb : T.bad.length < 4611686018427387904) {n : Nat} (hn : n ≤ 12) (h : Heap) : ACall Tryd.prog G0 37 [I n, T.av] h (resLL (everyL (badT T) n) 0) h :=
  xCall_ok (n := 200) (tags := [true, true]) (s := true) names mixed (clokK (l := [(62, [I n, T.av, .zs, I 0], flLL (everyL (badT T) n))]) fun p hp σ => by
    obtain rfl := List.mem_singleton.1 hp
    exact c62 (.inr ⟨_, rfl⟩) (hasF hb n .zs _) hn .zs) ((congrArg Tree.sel (run37 n T _ h)).trans ((sel_in (by omega) (by omega)).trans (selR.trans rfl)))
theorem c38 {T : Tab} (hb : T.bad.length < 4611686018427387904) {n : Nat} (hn : n ≤ 12) (h : Heap) : ACall Tryd.prog G0 38 [I n, T.av] h (resLL (everyL (fun s => T.ful (comp n s : Nat)) n) 0) h :=
  xCall_ok (n := 200) (tags := [true, true]) (s := true) names mixed (clokK (l := [(62, [I n, T.av, .zs, I 1], flLL (everyL (fun s => T.ful (comp n s : Nat)) n))]) fun p hp σ => by
    obtain rfl := List.mem_singleton.1 hp
    exact c62 (.inr ⟨_, rfl⟩) (hasP hb (by omega) .zs _) hn .zs) ((congrArg Tree.sel (run38 n T _ h)).trans ((sel_in (by omega) (by omega)).trans (selR.trans rfl)))

/-! ### Hitting -/
noncomputable def body40 : Code := (loopsOf (bodyOf Tryd.prog 40)).headD .skip
def st40 (n : Int) (SL : List (List Int)) (e : Int) (tg : Bool) (k : Int) (h : Heap) : St := .of 34 h [(0, I n, true), (1, flLL SL, true), (4, .zs, tg), (5, I e, tg), (19, flLL SL, true), (20, I SL.length, true), (21, I k, true)]
theorem vals40 (n : Int) (SL : List (List Int)) (e : Int) (tg : Bool) (k : Int) (h : Heap) : (st40 n SL e tg k h).vals = (st40 n SL e true k h).vals := by kernel_rfl
theorem run40 (n : Int) (SL : List (List Int)) (b : Bool) (k : Int) (h : Heap) : xBody Tryd.prog G0 (EK [(63, [I n, flL (SL.getD k.toNat [])], .bool b)]) 200 noLoops [0, 1, 4, 5, 19, 20, 21] body40 (st40 n SL 0 true k h) =
    .ite (decide (k < SL.length)) (.need (0 ≤ k ∧ k < SL.length) (.need ([I n, flL (SL.getD k.toNat [])] = [I n, flL (SL.getD k.toNat [])]) (.ite (!b) (.leaf (.ret, st40 n SL 2 false k h)) (.leaf (.normal, st40 n SL 0 true (IntKind.i64.wrap (k + 1)) h))))) (.leaf (.exit 0, st40 n SL 0 true k h)) := by kernel_rfl
theorem scan40 (n : Int) {SL : List (List Int)} (hl : shortLL SL) (h : Heap) : ScanG body40 [0, 1, 4, 5, 19, 20, 21] SL.length 0 (fun k => st40 n SL 0 true k h) (fun k => st40 n SL 2 true k h) (st40 n SL 0 true SL.length h) fun k => !isSetL n (SL.getD k []) := by
  refine ⟨fun _ => rfl, fun _ => rfl, rfl, fun k hk => ?_⟩
  have hcl : ClOk Tryd.prog G0 (EK [(63, [I n, flL (SL.getD (k : Int).toNat [])], .bool (isSetL n (SL.getD k [])))]) := clokK fun p hp σ => by
    obtain rfl := List.mem_singleton.1 hp
    rw [Int.toNat_natCast]
    exact c63 n (short_getD hl.2 k) σ
  have key := congrArg Tree.sel (run40 n SL (isSetL n (SL.getD k [])) k h)
  rw [selI] at key
  by_cases hlt : k < SL.length
  · have hw : IntKind.i64.wrap ((k : Int) + 1) = ((k + 1 : Nat) : Int) := wrap_i64 (by have := hl.1; omega) (by have := hl.1; omega)
    rw [decide_eq_true (by omega), cond_true, Tree.sel_need ⟨by omega, by omega⟩, selR, selI, hw] at key
    rw [decide_eq_true hlt, cond_true, cond_true]
    cases hb : isSetL n (SL.getD k []) with
    | true =>
      rw [hb] at key hcl
      exact ⟨_, noLoops, _, hcl, lpNo _, key, rfl⟩
    | false =>
      rw [hb] at key hcl
      exact ⟨_, noLoops, _, hcl, lpNo _, key, vals40 _ _ _ _ _ _⟩
  · obtain rfl : k = SL.length := by omega
    rw [decide_eq_false (by omega)] at key
    rw [decide_eq_false hlt]
    exact ⟨_, noLoops, _, hcl, lpNo _, key, rfl⟩
theorem loops40 : loopsOf (bodyOf Tryd.prog 40) = [body40] := by kernel_rfl
noncomputable def t40 (n : Int) (SL R : List (List Int)) (t : Bool) (p q : Int) (h : Heap) : Tree (AV × Bool × Heap) := xenter Tryd.prog (EK [(62, [I n, tab0, flLL SL, I 2], flLL R)]) (xCode Tryd.prog G0 (EK [(62, [I n, tab0, flLL SL, I 2], flLL R)]) 200 (lpG 4 [0, 1, 4, 5, 19, 20, 21] (st40 n SL 0 true 0 h) t (st40 n SL 2 true p h) 0 (st40 n SL 0 true q h))) 40 [I n, flLL SL] [true, true] h
theorem runF40 (n : Int) (SL R : List (List Int)) (t : Bool) (p q : Int) (h : Heap) : t40 n SL R t p q h =
    .ite (decide (n < 0)) (.leaf (.tup [.zs, I 2], false, h)) (.ite (decide (n > 12)) (.leaf (.tup [.zs, I 2], false, h)) (.ite (decide ((SL.length : Int) > 4096)) (.leaf (.tup [.zs, I 2], false, h)) (.need ((st40 n SL 0 true 0 h).vals = (st40 n SL 0 true 0 h).vals) (.ite t (.leaf (.tup [.zs, I 2], true, h))
      (.need ([I n, tab0, flLL SL, I 2] = [I n, tab0, flLL SL, I 2]) (.leaf (.tup [flLL R, I 0], true, h))))))) := by kernel_rfl
theorem run40e (n : Int) (SL : List (List Int)) (h : Heap) (p q : Int) (t : Bool) : xenter Tryd.prog EF (xCode Tryd.prog G0 EF 200 (lpG 4 [0, 1, 4, 5, 19, 20, 21] (st40 n SL 0 true 0 h) t (st40 n SL 2 true p h) 0 (st40 n SL 0 true q h))) 40 [I n, flLL SL] [true, true] h =
    .ite (decide (n < 0)) (.leaf (.tup [.zs, I 2], false, h)) (.ite (decide (n > 12)) (.leaf (.tup [.zs, I 2], false, h)) (.ite (decide ((SL.length : Int) > 4096)) (.leaf (.tup [.zs, I 2], false, h)) (.need ((st40 n SL 0 true 0 h).vals = (st40 n SL 0 true 0 h).vals) (.ite t (.leaf (.tup [.zs, I 2], true, h)) .fail)))) := by kernel_rfl
theorem lp40 (n : Int) {SL : List (List Int)} (hl : shortLL SL) (h : Heap) : LoopsOk Tryd.prog G0 (fun r => r = none) [] (lpG 4 [0, 1, 4, 5, 19, 20, 21] (st40 n SL 0 true 0 h) (decide (fstStop (fun k => !isSetL n (SL.getD k [])) SL.length 0 < SL.length)) (st40 n SL 2 true (fstStop (fun k => !isSetL n (SL.getD k [])) SL.length 0 : Nat) h) 0 (st40 n SL 0 true SL.length h)) (bodyOf Tryd.prog 40) := (scan40 n hl h).ok (c := bodyOf Tryd.prog 40) (i := 4) (fun x hx _ => by rw [loops40] at hx; exact List.mem_singleton.1 hx)
theorem c40e {n : Int} {SL : List (List Int)} (hl : shortLL SL) (hn : n < 0 ∨ n > 12 ∨ (SL.length : Int) > 4096) (h : Heap) : ACall Tryd.prog G0 40 [I n, flLL SL] h (resLL [] 2) h := by
  refine ACall.resZsL (ACall.find (s := false) (n := 200) (tags := [true, true]) clokF (lp40 n hl h) ((congrArg Tree.sel (run40e n SL h _ _ _)).trans ?_))
  rw [selI]
  rcases hn with hn | hn | hn
  · rw [decide_eq_true hn]; rfl
  · cases decide (n < 0) with
    | true => rfl
    | false => rw [cond_false, selI, decide_eq_true hn]; rfl
  · cases decide (n < 0) with
    | true => rfl
    | false =>
      rw [cond_false, selI]
      cases decide (n > 12) with
      | true => rfl
      | false => rw [cond_false, selI, decide_eq_true hn]; rfl
theorem hitLoop_none {n : Int} : ∀ (SL : List (List Int)) (M : List Int), (∃ x ∈ SL, ofL n x = none) → hitLoop n SL M = none
  | [], _, h => by obtain ⟨x, hx, _⟩ := h; cases hx
  | y :: r, M, h => by
    obtain ⟨x, hx, hn⟩ := h
    unfold hitLoop
    rcases List.mem_cons.1 hx with rfl | hx
    · rw [hn]
    · cases ofL n y with
      | none => rfl
      | some s => exact hitLoop_none r _ ⟨x, hx, hn⟩
theorem hitB_iff {a s : Nat} (ha : a < 2 ^ 64) : hitB (ints s) (ints a) = true ↔ a &&& s ≠ 0 := by
  unfold hitB
  rw [List.any_eq_true]
  constructor
  · rintro ⟨x, hx, hc⟩ hz
    obtain ⟨j, rfl, hj, hb⟩ := mem_ints.1 hx
    obtain ⟨i, hi, _, hb2⟩ := mem_ints.1 (List.contains_iff_mem.1 hc)
    obtain rfl : j = i := by omega
    have : (a &&& s).testBit j = true := by rw [Nat.testBit_and, hb, hb2]; rfl
    rw [hz, Nat.zero_testBit] at this
    cases this
  · intro hz
    obtain ⟨j, hj⟩ := Nat.exists_testBit_of_ne_zero hz
    rw [Nat.testBit_and, Bool.and_eq_true] at hj
    have h64 : j < 64 := by
      apply Classical.byContradiction
      intro hni
      rw [Nat.testBit_lt_two_pow (Nat.lt_of_lt_of_le ha (Nat.pow_le_pow_right (by omega) (by omega)))] at hj
      cases hj.1
    exact ⟨(j : Int), mem_ints.2 ⟨j, rfl, h64, hj.1⟩, List.contains_iff_mem.2 (mem_ints.2 ⟨j, rfl, h64, hj.2⟩)⟩
/-- WHAT THE REFERENCE'S Hitting RETURNS: what the program's returns. -/
theorem c40 {n : Nat} (hn : n ≤ 12) {SL : List (List Int)} (hl : shortLL SL) (hlen : SL.length ≤ 4096) (h : Heap) : ACall Tryd.prog G0 40 [I n, flLL SL] h (hitR n SL) h := by
  have h12 : 2 ^ n ≤ 2 ^ 12 := Nat.pow_le_pow_right (by omega) hn
  have hcl : ClOk Tryd.prog G0 (EK [(62, [I n, tab0, flLL SL, I 2], flLL (everyL (fun s => SL.all (hitB (ints s))) n))]) := clokK fun p hp σ => by
    obtain rfl := List.mem_singleton.1 hp
    exact c62 (fa := false) (fb := 0) (.inl rfl) (hasH n hl _) hn (below_flLL SL)
  have hlp := lp40 n hl h
  obtain ⟨t, ht⟩ : ∃ t, t = decide (fstStop (fun k => !isSetL n (SL.getD k [])) SL.length 0 < SL.length) := ⟨_, rfl⟩
  rw [← ht] at hlp
  have key := congrArg Tree.sel (runF40 n SL (everyL (fun s => SL.all (hitB (ints s))) n) t (fstStop (fun k => !isSetL n (SL.getD k [])) SL.length 0 : Nat) SL.length h)
  rw [selI, decide_eq_false (show ¬ ((n : Int) < 0) by omega), cond_false, selI, decide_eq_false (show ¬ ((n : Int) > 12) by omega), cond_false, selI, decide_eq_false (show ¬ ((SL.length : Int) > 4096) by omega), cond_false, selR, selI, selR] at key
  have hfind : ∀ {v}, (t40 n SL (everyL (fun s => SL.all (hitB (ints s))) n) t (fstStop (fun k => !isSetL n (SL.getD k [])) SL.length 0 : Nat) SL.length h).sel = some (v, true, h) → ACall Tryd.prog G0 40 [I n, flLL SL] h v h := fun hq => .find (s := true) (n := 200) (tags := [true, true]) hcl hlp hq
  by_cases hall : ∀ x ∈ SL, isSetL n x = true
  · have hno : ¬ fstStop (fun k => !isSetL n (SL.getD k [])) SL.length 0 < SL.length := by
      rw [fstStop_iff]
      rintro ⟨k, hk, hb⟩
      have e : SL.getD k [] = SL[k] := by simp [List.getD_eq_getElem?_getD, hk]
      rw [e, hall _ (List.getElem_mem hk)] at hb
      cases hb
    rw [decide_eq_false hno] at ht
    subst ht
    rw [cond_false] at key
    obtain ⟨A, hA, hA2⟩ : ∃ A : List Nat, SL = A.map ints ∧ ∀ a ∈ A, a < 2 ^ n := by
      refine ⟨SL.map setOf, ?_, fun a ha => ?_⟩
      · rw [List.map_map]
        exact (List.map_id' SL).symm.trans (List.map_congr_left fun x hx => by
          obtain ⟨p1, p2⟩ := isSetL_iff.1 (hall x hx)
          exact (setOf_ok (by omega) p1 p2).1)
      · obtain ⟨x, hx, rfl⟩ := List.mem_map.1 ha
        obtain ⟨p1, p2⟩ := isSetL_iff.1 (hall x hx)
        exact (setOf_ok (by omega) p1 p2).2
    obtain ⟨M, hM⟩ := Option.isSome_iff_exists.1 (hitLoop_ok hn A [] hA2)
    have hmem := hitLoop_mem hn A [] M hA2 hM
    have e1 : hitR n SL = resLL (everyL (hits M) n) 0 := by
      unfold hitR
      rw [hA, hM]
    have e2 : everyL (hits M) n = everyL (fun s => SL.all (hitB (ints s))) n := every_congr fun s hs => by
      rw [Bool.eq_iff_iff, hits_iff (A := A) (fun a ha => by have := hA2 a ha; omega) (fun x => by rw [hmem]; simp) (by omega), List.all_eq_true, hA]
      constructor
      · intro h1 x hx
        obtain ⟨a, ha, rfl⟩ := List.mem_map.1 hx
        exact (hitB_iff (by have := hA2 a ha; omega)).2 (h1 a ha)
      · intro h1 a ha
        exact (hitB_iff (by have := hA2 a ha; omega)).1 (h1 _ (List.mem_map_of_mem ha))
    rw [e1, e2]
    exact hfind key
  · have hyes : fstStop (fun k => !isSetL n (SL.getD k [])) SL.length 0 < SL.length := by
      rw [fstStop_iff]
      apply Classical.byContradiction
      intro hni
      refine hall fun x hx => ?_
      obtain ⟨k, hk, rfl⟩ := List.mem_iff_getElem.1 hx
      apply Classical.byContradiction
      intro hb
      refine hni ⟨k, hk, ?_⟩
      have e : SL.getD k [] = SL[k] := by simp [List.getD_eq_getElem?_getD, hk]
      rw [e]
      simpa using hb
    rw [decide_eq_true hyes] at ht
    subst ht
    rw [cond_true] at key
    have e1 : hitR n SL = resLL [] 2 := by
      unfold hitR
      rw [hitLoop_none SL [] ?_]
      apply Classical.byContradiction
      intro hni
      refine hall fun x hx => ?_
      rcases isSet_cases (n := n) (by omega) x with ⟨h1, _⟩ | ⟨_, h2⟩
      · exact h1
      · exact absurd ⟨x, hx, h2⟩ hni
    rw [e1]
    exact ACall.resZsL (hfind key)
end Go.Proofs.YtjljigccgaadaaaDoor.Am

namespace Go.Proofs.YtjljigccgaadaaaDoor.Am
open Go
set_option maxRecDepth 100000

/-! ### What Core, All and Repairs return: the program's and the reference's -/
def a13 (T : Tab) (m : Int) : List Int := if 0 ≤ m ∧ m ≤ 64 ∧ badT T (2 ^ m.toNat - 1) = true then ints (coreP (badT T) m.toNat (2 ^ m.toNat - 1)) else []
def e13 (T : Tab) (m : Int) : Int := if 0 ≤ m ∧ m ≤ 64 then (if badT T (2 ^ m.toNat - 1) = true then 0 else 7) else 2
def l15 (T : Tab) (m : Int) : List (List Int) := if 0 ≤ m ∧ m ≤ 12 then everyL (badT T) m.toNat else []
def l16 (T : Tab) (m : Int) : List (List Int) := if 0 ≤ m ∧ m ≤ 12 then everyL (fun s => T.ful (comp m.toNat s : Nat)) m.toNat else []
def e15 (m : Int) : Int := if 0 ≤ m ∧ m ≤ 12 then 0 else 2
theorem coreR_eq (T : Tab) (n : Nat) (hn : n ≤ 64) : coreR (if badT T (2 ^ n - 1) then some (coreP (badT T) n (2 ^ n - 1)) else none) = .tup [flL (a13 T n), I (e13 T n)] := by
  unfold a13 e13
  have h1 : (0 : Int) ≤ n ∧ (n : Int) ≤ 64 := ⟨by omega, by omega⟩
  rw [if_pos h1, Int.toNat_natCast]
  cases hb : badT T (2 ^ n - 1) with
  | true => rw [if_pos rfl, if_pos rfl, if_pos ⟨h1.1, h1.2, rfl⟩]; rfl
  | false => rw [if_neg (by simp), if_neg (by simp), if_neg (by simp)]; rfl
section
variable {T : Tab} (hb : T.bad.length < 4611686018427387904)
include hb
theorem p13 (m : Int) (σ : Heap) : ACall Tryd.prog G0 13 [I m, askV T] σ (.tup [flL (a13 T m), I (e13 T m)]) σ := by
  have hf := (fulAsk hb σ).ful []
  have e0 : (fun _ : Unit => σ ++ ([] : Heap)) = fun _ => σ := by funext; rw [List.append_nil]
  rw [e0] at hf
  by_cases hm : 0 ≤ m ∧ m ≤ 64
  · obtain ⟨n, rfl⟩ := Int.eq_ofNat_of_zero_le hm.1
    have hn : n ≤ 64 := by omega
    have h := c13 hf (n := n) hn ()
    have h2 := (coreS_ok (g := badT T) (stp := badS fun (_ : Unit) s => (T.ful (s : Nat), ())) (Good := fun _ => True) (fun st s _ => ⟨rfl, trivial⟩) n (st := ()) trivial).1
    rw [h2, coreR_eq T n hn] at h
    exact h
  · have h := c13e hf (n := m) (by omega) ()
    unfold a13 e13
    rw [if_neg (fun h => hm ⟨h.1, h.2.1⟩), if_neg hm]
    exact h
theorem p36 (m : Int) (σ : Heap) : ACall Tryd.prog G0 36 [I m, T.av] σ (.tup [flL (a13 T m), I (e13 T m)]) σ := by
  by_cases hm : 0 ≤ m ∧ m ≤ 64
  · obtain ⟨n, rfl⟩ := Int.eq_ofNat_of_zero_le hm.1
    have hn : n ≤ 64 := by omega
    have h := c36 hb hn σ
    rw [coreR_eq T n hn] at h
    exact h
  · have h := c36e (n := m) (by omega) T σ
    unfold a13 e13
    rw [if_neg (fun h => hm ⟨h.1, h.2.1⟩), if_neg hm]
    exact h
theorem p15 (m : Int) (σ : Heap) : ACall Tryd.prog G0 15 [I m, askV T] σ (.tup [flLL (l15 T m), I (e15 m)]) σ := by
  unfold l15 e15
  by_cases hm : 0 ≤ m ∧ m ≤ 12
  · obtain ⟨n, rfl⟩ := Int.eq_ofNat_of_zero_le hm.1
    rw [if_pos hm, if_pos hm]
    exact c15 (by omega) (fulAsk hb σ)
  · rw [if_neg hm, if_neg hm]
    exact c15e (by omega) _ _ _ σ
theorem p16 (m : Int) (σ : Heap) : ACall Tryd.prog G0 16 [I m, askV T] σ (.tup [flLL (l16 T m), I (e15 m)]) σ := by
  unfold l16 e15
  by_cases hm : 0 ≤ m ∧ m ≤ 12
  · obtain ⟨n, rfl⟩ := Int.eq_ofNat_of_zero_le hm.1
    rw [if_pos hm, if_pos hm]
    exact c16 (by omega) (fulAsk hb σ)
  · rw [if_neg hm, if_neg hm]
    exact c16e (by omega) _ _ σ
theorem p37 (m : Int) (σ : Heap) : ACall Tryd.prog G0 37 [I m, T.av] σ (.tup [flLL (l15 T m), I (e15 m)]) σ := by
  unfold l15 e15
  by_cases hm : 0 ≤ m ∧ m ≤ 12
  · obtain ⟨n, rfl⟩ := Int.eq_ofNat_of_zero_le hm.1
    rw [if_pos hm, if_pos hm]
    exact c37 hb (by omega) σ
  · rw [if_neg hm, if_neg hm]
    exact c37e (by omega) T σ
theorem p38 (m : Int) (σ : Heap) : ACall Tryd.prog G0 38 [I m, T.av] σ (.tup [flLL (l16 T m), I (e15 m)]) σ := by
  unfold l16 e15
  by_cases hm : 0 ≤ m ∧ m ≤ 12
  · obtain ⟨n, rfl⟩ := Int.eq_ofNat_of_zero_le hm.1
    rw [if_pos hm, if_pos hm]
    exact c38 hb (by omega) σ
  · rw [if_neg hm, if_neg hm]
    exact c38e (by omega) T σ
end
theorem short_a13 (T : Tab) (m : Int) : (a13 T m).length < 4611686018427387904 := by
  unfold a13
  split
  · have := ints_len (coreP (badT T) m.toNat (2 ^ m.toNat - 1)); omega
  · simp
theorem shorts_every (f : Nat → Bool) {n : Nat} (hn : n ≤ 12) : shortLL (everyL f n) := by
  refine ⟨?_, fun x hx => ?_⟩
  · have := allSeq_len hn
    unfold everyL
    rw [List.length_map]
    have := List.length_filter_le (irr f) (allSeq n)
    omega
  · obtain ⟨s, _, rfl⟩ := List.mem_map.1 hx
    have := ints_len s
    omega
theorem short_l15 (T : Tab) (m : Int) : shortLL (l15 T m) := by
  unfold l15
  split
  · exact shorts_every _ (by omega)
  · exact ⟨by simp, by simp⟩
theorem short_l16 (T : Tab) (m : Int) : shortLL (l16 T m) := by
  unfold l16
  split
  · exact shorts_every _ (by omega)
  · exact ⟨by simp, by simp⟩

/-! ### CoreOrdinary -/
def tabN (m : Int) (B : List Int) : Tab := ⟨false, 0, ordL m B⟩
def cl8 (B : List Int) : FuncId → List AV → Option (Tree AV) := fun f xs => match f, xs with
  | 22, [.int .i64 m, x] => some (.need (x = flU B) (.leaf (tabN m B).av))
  | 21, [.agg [a, b, c]] => some (.need (∃ T : Tab, [a, b, c] = T.cells) (.leaf (.fn 56 [] [.row [a, b, c] 0])))
  | 13, [.int .i64 m, fv] => some (.need (fv = askV (tabN m B)) (.leaf (.tup [flL (a13 (tabN m B) m), I (e13 (tabN m B) m)])))
  | 36, [.int .i64 m, tv] => some (.need (tv = (tabN m B).av) (.leaf (.tup [flL (a13 (tabN m B) m), I (e13 (tabN m B) m)])))
  | 15, [.int .i64 m, fv] => some (.need (fv = askV (tabN m B)) (.leaf (.tup [flLL (l15 (tabN m B) m), I (e15 m)])))
  | 37, [.int .i64 m, tv] => some (.need (tv = (tabN m B).av) (.leaf (.tup [flLL (l15 (tabN m B) m), I (e15 m)])))
  | 16, [.int .i64 m, fv] => some (.need (fv = askV (tabN m B)) (.leaf (.tup [flLL (l16 (tabN m B) m), I (e15 m)])))
  | 38, [.int .i64 m, tv] => some (.need (tv = (tabN m B).av) (.leaf (.tup [flLL (l16 (tabN m B) m), I (e15 m)])))
  | 26, [x, y] => some (.need (∃ L : List Int, x = flL L ∧ y = flL L ∧ L.length < 4611686018427387904) (.leaf (.bool true)))
  | 18, [x, y] => some (.need (∃ L : List (List Int), x = flLL L ∧ y = flLL L ∧ shortLL L) (.leaf (.bool true)))
  | 20, [] => some (.leaf (.bool true))
  | _, _ => none
def E8 (B : List Int) : Env := { cl := cl8 B }
theorem bad_tabN (m : Int) (B : List Int) : (tabN m B).bad.length < 4611686018427387904 := by
  have : (ordL m B).length ≤ 12 := ordL_len _ _
  show (ordL m B).length < _
  omega
theorem cl8_ok {B : List Int} (hB : B.length < 4611686018427387904) : ∀ f xs t v, cl8 B f xs = some t → t.sel = some v → ∀ σ, ACall Tryd.prog G0 f xs σ v σ := by
  intro f xs t v hq hs σ
  unfold cl8 at hq
  split at hq
  · cases hq; obtain ⟨rfl, h2⟩ := Tree.of_need hs; cases h2; exact c22 _ hB σ
  · cases hq; obtain ⟨⟨T, h⟩, h2⟩ := Tree.of_need hs; cases h2; rw [h]; exact c21 T σ
  · cases hq; obtain ⟨rfl, h2⟩ := Tree.of_need hs; cases h2; exact p13 (bad_tabN _ _) _ σ
  · cases hq; obtain ⟨rfl, h2⟩ := Tree.of_need hs; cases h2; exact p36 (bad_tabN _ _) _ σ
  · cases hq; obtain ⟨rfl, h2⟩ := Tree.of_need hs; cases h2; exact p15 (bad_tabN _ _) _ σ
  · cases hq; obtain ⟨rfl, h2⟩ := Tree.of_need hs; cases h2; exact p37 (bad_tabN _ _) _ σ
  · cases hq; obtain ⟨rfl, h2⟩ := Tree.of_need hs; cases h2; exact p16 (bad_tabN _ _) _ σ
  · cases hq; obtain ⟨rfl, h2⟩ := Tree.of_need hs; cases h2; exact p38 (bad_tabN _ _) _ σ
  · cases hq; obtain ⟨⟨L, rfl, rfl, hl⟩, h2⟩ := Tree.of_need hs; cases h2
    have := c26 (b := L) hl σ
    rw [beq_self_eq_true] at this
    exact this
  · cases hq; obtain ⟨⟨L, rfl, rfl, hl⟩, h2⟩ := Tree.of_need hs; cases h2
    have := c18 (b := L) hl σ
    rw [beq_self_eq_true] at this
    exact this
  · cases hq; cases hs; exact c20 σ
  · cases hq
theorem clok8 {B : List Int} (hB : B.length < 4611686018427387904) : ClOk Tryd.prog G0 (E8 B) := .of rfl rfl fun f xs t v h hs σ => cl8_ok hB f xs t v h hs σ
def F8 (T : Tab) : Tree (AV × Bool × Heap) := .leaf (.bool false, false, [.cells 0 T.cells])
def same8 (L : List (List Int)) : Prop := ∃ M : List (List Int), flLL L = flLL M ∧ flLL L = flLL M ∧ shortLL M
def tail8 (T : Tab) (m : Int) : Tree (AV × Bool × Heap) := .need (askV T = askV T) (.need (T.av = T.av) (.ite (e15 m != e15 m) (F8 T) (.need (same8 (l15 T m)) (.ite (!true) (F8 T)
  (.need (askV T = askV T) (.need (T.av = T.av) (.ite (e15 m == e15 m) (.need (same8 (l16 T m)) (.ite true (.leaf (.bool true, true, [.cells 0 T.cells])) (F8 T))) (F8 T))))))))
theorem run8 (n : Int) (B : List Int) : xCall Tryd.prog G0 (E8 B) 200 8 [I n, flU B] [true, true] [] =
    .need (flU B = flU B) (.need (∃ T : Tab, (tabN n B).cells = T.cells) (.need (askV (tabN n B) = askV (tabN n B)) (.need ((tabN n B).av = (tabN n B).av) (.ite (e13 (tabN n B) n != e13 (tabN n B) n) (F8 (tabN n B))
      (.need (∃ L : List Int, flL (a13 (tabN n B) n) = flL L ∧ flL (a13 (tabN n B) n) = flL L ∧ L.length < 4611686018427387904) (.ite (!true) (F8 (tabN n B))
        (.ite (decide (n > 10)) (.ite (decide (n ≤ 12)) (.need (flU B = flU B) (.need (∃ T : Tab, (tabN 10 B).cells = T.cells) (tail8 (tabN 10 B) 10))) (tail8 (tabN n B) n)) (tail8 (tabN n B) n)))))))) := by kernel_rfl
theorem tail8_sel (T : Tab) (m : Int) : (tail8 T m).sel = some (.bool true, true, [.cells 0 T.cells]) := by
  unfold tail8
  rw [selR, selR, selI, bne_self_eq_false, cond_false, Tree.sel_need ⟨_, rfl, rfl, short_l15 T m⟩, selI, show (!true) = false from rfl, cond_false, selR, selR, selI, beq_self_eq_true, cond_true, Tree.sel_need ⟨_, rfl, rfl, short_l16 T m⟩, selI, cond_true, selL]
/-- CoreOrdinary RETURNS TRUE. -/
theorem c8 (n : Int) {B : List Int} (hB : B.length < 4611686018427387904) : ∃ σ', ACall Tryd.prog G0 8 [I n, flU B] [] (.bool true) σ' := by
  have key : ∃ σ', (xCall Tryd.prog G0 (E8 B) 200 8 [I n, flU B] [true, true] []).sel = some (.bool true, true, σ') := by
    have h := congrArg Tree.sel (run8 n B)
    rw [selR, Tree.sel_need ⟨_, rfl⟩, selR, selR, selI, bne_self_eq_false, cond_false, Tree.sel_need ⟨_, rfl, rfl, short_a13 _ _⟩, selI, show (!true) = false from rfl, cond_false, selI, selI, selR, Tree.sel_need ⟨_, rfl⟩, tail8_sel, tail8_sel] at h
    rw [h]
    cases decide (n > 10) with
    | false => exact ⟨_, rfl⟩
    | true => cases decide (n ≤ 12) <;> exact ⟨_, rfl⟩
  obtain ⟨σ', h⟩ := key
  exact ⟨σ', xCall_ok (n := 200) (tags := [true, true]) (s := true) names mixed (clok8 hB) h⟩
end Go.Proofs.YtjljigccgaadaaaDoor.Am

namespace Go.Proofs.YtjljigccgaadaaaDoor.Am
open Go
set_option maxRecDepth 100000

theorem p14 {T : Tab} (hb : T.bad.length < 4611686018427387904) {n : Nat} (hn : n ≤ 64) {L : List Int} (hL : L.length < 9223372036854775807) (σ : Heap) : ACall Tryd.prog G0 14 [I n, flL L, askV T] σ (resIrr (badT T) (ofL n L)) σ := by
  have hf := (fulAsk hb σ).ful []
  have e0 : (fun _ : Unit => σ ++ ([] : Heap)) = fun _ => σ := by funext; rw [List.append_nil]
  rw [e0] at hf
  have h := c14 hf hn hL ()
  cases ho : ofL n L with
  | none =>
    rw [ho] at h
    exact h
  | some s =>
    rw [ho] at h
    have hs := ofL_lt (n := n) (by omega) ho
    have h2 : (irrS (badS fun (_ : Unit) s => (T.ful (s : Nat), ())) () s).1 = irr (badT T) s := (irrS_ok (f := badT T) (Good := fun _ => True) (fun st s _ => ⟨rfl, trivial⟩) hs trivial).1
    simp only [h2] at h
    exact h
def irrB (T : Tab) (n : Nat) (L : List Int) : Bool := match ofL n L with
  | some s => irr (badT T) s
  | none => false
def irrE (n : Nat) (L : List Int) : Int := match ofL n L with
  | some _ => 0
  | none => 2
theorem resIrr_eq (T : Tab) (n : Nat) (L : List Int) : resIrr (badT T) (ofL n L) = .tup [.bool (irrB T n L), I (irrE n L)] := by
  unfold resIrr irrB irrE
  cases ofL n L <;> rfl
def l9 (b K : Int) (T : Tab) (L a : List Int) (e : Int) (ib : Bool) (ie : Int) (A R : List (List Int)) (g : Int) : List (FuncId × List AV × AV) :=
  [(29, [U b], T.av), (21, [T.av], askV T), (13, [I K, askV T], .tup [flL a, I e]), (36, [I K, T.av], .tup [flL a, I e]), (31, [flL L], flL L), (14, [I K, flL L, askV T], .tup [.bool ib, I ie]), (39, [I K, flL L, T.av], .tup [.bool ib, I ie]),
   (26, [flL a, flL a], .bool true), (15, [I K, askV T], .tup [flLL A, I g]), (37, [I K, T.av], .tup [flLL A, I g]), (16, [I K, askV T], .tup [flLL R, I g]), (38, [I K, T.av], .tup [flLL R, I g]), (20, [], .bool true)]
def cl9 (l : List (FuncId × List AV × AV)) : FuncId → List AV → Option (Tree AV) := fun f xs => match f, xs with
  | 18, [x, y] => some (.need (∃ L : List (List Int), x = flLL L ∧ y = flLL L ∧ shortLL L) (.leaf (.bool true)))
  | _, _ => clL l f xs
def E9 (l : List (FuncId × List AV × AV)) (L : List Int) (m : Nat) : Env := { cl := cl9 l, hint := orH (hSlc L m) hShift }
theorem clok9 {l : List (FuncId × List AV × AV)} (hl : ∀ p ∈ l, ∀ σ, ACall Tryd.prog G0 p.1 p.2.1 σ p.2.2 σ) (L : List Int) (m : Nat) : ClOk Tryd.prog G0 (E9 l L m) := by
  refine .ofH rfl rfl ((hSlc_ok _ _).or hShift_ok.ok) fun f xs t v hq hs σ => ?_
  replace hq : cl9 l f xs = some t := hq
  unfold cl9 at hq
  split at hq
  · cases hq; obtain ⟨⟨L, rfl, rfl, hl⟩, h2⟩ := Tree.of_need hs; cases h2
    have := c18 (b := L) hl σ
    rw [beq_self_eq_true] at this
    exact this
  · exact clL_ok hl f xs t v hq hs σ
def mn10 (a : Int) : Int := if 10 < a then 10 else a
def tail9 (K : Int) (T : Tab) (A R : List (List Int)) (g : Int) : Tree (AV × Bool × Heap) :=
  .need ([I K, askV T] = [I K, askV T]) (.need ([I K, T.av] = [I K, T.av]) (.need ([I K, askV T] = [I K, askV T]) (.need ([I K, T.av] = [I K, T.av]) (.ite (g == g) (.need (same8 A) (.ite true (.ite (g == g) (.need (same8 R) (.ite true (.need (([] : List AV) = []) (.leaf (.bool true, true, [.cells 0 T.cells]))) (F8 T))) (F8 T)) (F8 T))) (F8 T)))))
theorem run9 (n b : Int) (T : Tab) (L a : List Int) (m : Nat) (e : Int) (ib : Bool) (ie : Int) (A R : List (List Int)) (g : Int) : xCall Tryd.prog G0 (E9 (l9 b (rem7 n) T (L.take m) a e ib ie A R g) L m) 200 9 [.int .u8 n, U b, flL L] [true, true, true] [] =
    .need ([U b] = [U b]) (.need ([T.av] = [T.av]) (.need (some (flL L) = some (flL L) ∧ some (I (mn10 L.length)) = some (I m) ∧ m ≤ L.length) (.need ([I (rem7 n), askV T] = [I (rem7 n), askV T]) (.need ([I (rem7 n), T.av] = [I (rem7 n), T.av])
    (.need ([flL (L.take m)] = [flL (L.take m)]) (.need ([I (rem7 n), flL (L.take m), askV T] = [I (rem7 n), flL (L.take m), askV T]) (.need ([I (rem7 n), flL (L.take m), T.av] = [I (rem7 n), flL (L.take m), T.av])
    (.ite (e != e) (F8 T) (.need ([flL a, flL a] = [flL a, flL a]) (.ite (!true) (F8 T) (.ite (ib != ib) (F8 T) (.ite (ie != ie) (F8 T) (tail9 (rem7 n) T A R g))))))))))))) := by kernel_rfl
/-- CoreTables RETURNS TRUE. -/
theorem c9 {n b : Int} (h0 : 0 ≤ n) (h1 : n < 256) {L : List Int} (hL : L.length < 4611686018427387904) : ∃ σ', ACall Tryd.prog G0 9 [.int .u8 n, U b, flL L] [] (.bool true) σ' := by
  have hk := rem7_nat h0 h1
  have hk6 : n.toNat % 7 ≤ 6 := by omega
  generalize n.toNat % 7 = k at hk hk6
  have hb : (Tab.bad ⟨true, b, []⟩).length < 4611686018427387904 := by show (0 : Nat) < _; omega
  have h29 := c29 b
  generalize (⟨true, b, []⟩ : Tab) = T at hb h29
  have hm : min L.length 10 ≤ L.length := Nat.min_le_left _ _
  have hmn : mn10 L.length = (min L.length 10 : Nat) := by
    unfold mn10
    split <;> omega
  have htl : (L.take (min L.length 10)).length ≤ 10 := by rw [List.length_take]; omega
  have hcl : ∀ p ∈ l9 b k T (L.take (min L.length 10)) (a13 T k) (e13 T k) (irrB T k (L.take (min L.length 10))) (irrE k (L.take (min L.length 10))) (l15 T k) (l16 T k) (e15 k), ∀ σ, ACall Tryd.prog G0 p.1 p.2.1 σ p.2.2 σ := by
    intro p hp σ
    unfold l9 at hp
    simp only [List.mem_cons, List.not_mem_nil, or_false] at hp
    rcases hp with rfl | rfl | rfl | rfl | rfl | rfl | rfl | rfl | rfl | rfl | rfl | rfl | rfl
    · exact h29 σ
    · exact c21 T σ
    · exact p13 hb k σ
    · exact p36 hb k σ
    · exact c31d (by omega) σ
    · have := p14 hb (n := k) (by omega) (L := L.take (min L.length 10)) (by omega) σ
      rw [resIrr_eq] at this
      exact this
    · have := c39 hb (n := k) (by omega) (L := L.take (min L.length 10)) (by omega) σ
      rw [resIrr_eq] at this
      exact this
    · have := c26 (b := a13 T k) (short_a13 T k) σ
      rw [beq_self_eq_true] at this
      exact this
    · exact p15 hb k σ
    · exact p37 hb k σ
    · exact p16 hb k σ
    · exact p38 hb k σ
    · exact c20 σ
  have key := congrArg Tree.sel (run9 n b T L (a13 T k) (min L.length 10) (e13 T k) (irrB T k (L.take (min L.length 10))) (irrE k (L.take (min L.length 10))) (l15 T k) (l16 T k) (e15 k))
  rw [hk] at key
  rw [selR, selR, Tree.sel_need ⟨rfl, by rw [hmn], hm⟩, selR, selR, selR, selR, selR, selI, bne_self_eq_false, cond_false, selR, selI, show (!true) = false from rfl, cond_false, selI, bne_self_eq_false, cond_false, selI, bne_self_eq_false, cond_false] at key
  unfold tail9 at key
  rw [selR, selR, selR, selR, selI, beq_self_eq_true, cond_true, Tree.sel_need ⟨_, rfl, rfl, short_l15 T k⟩, selI, cond_true, selI, cond_true, Tree.sel_need ⟨_, rfl, rfl, short_l16 T k⟩, selI, cond_true, selR, selL] at key
  exact ⟨_, xCall_ok (n := 200) (tags := [true, true, true]) (s := true) names mixed (clok9 hcl L _) key⟩
end Go.Proofs.YtjljigccgaadaaaDoor.Am

namespace Go.Proofs.YtjljigccgaadaaaDoor.Am
open Go
set_option maxRecDepth 100000

def h17 (m : Int) (O : List (List Int)) : List (List Int) := if 0 ≤ m ∧ m ≤ 12 ∧ (O.length : Int) ≤ 4096 then (match hitLoop m.toNat O [] with | some M => everyL (hits M) m.toNat | none => []) else []
def g17 (m : Int) (O : List (List Int)) : Int := if 0 ≤ m ∧ m ≤ 12 ∧ (O.length : Int) ≤ 4096 then (match hitLoop m.toNat O [] with | some _ => 0 | none => 2) else 2
theorem hitR_eq (n : Nat) (hn : n ≤ 12) {O : List (List Int)} (hl : O.length ≤ 4096) : hitR n O = .tup [flLL (h17 n O), I (g17 n O)] := by
  unfold hitR h17 g17
  have hc : (0 : Int) ≤ n ∧ (n : Int) ≤ 12 ∧ (O.length : Int) ≤ 4096 := ⟨by omega, by omega, by omega⟩
  rw [if_pos hc, if_pos hc, Int.toNat_natCast]
  cases hitLoop n O [] <;> rfl
theorem short_h17 (m : Int) (O : List (List Int)) : shortLL (h17 m O) := by
  unfold h17
  split
  · rename_i h
    cases hitLoop m.toNat O [] with
    | none => exact ⟨by simp, by simp⟩
    | some M => exact shorts_every _ (by omega)
  · exact ⟨by simp, by simp⟩
theorem p17 (m : Int) {O : List (List Int)} (hO : shortLL O) (σ : Heap) : ACall Tryd.prog G0 17 [I m, flLL O] σ (.tup [flLL (h17 m O), I (g17 m O)]) σ := by
  by_cases hc : 0 ≤ m ∧ m ≤ 12 ∧ (O.length : Int) ≤ 4096
  · obtain ⟨n, rfl⟩ := Int.eq_ofNat_of_zero_le hc.1
    have h := c17 (σ := σ) (n := n) (by omega) (SL := O) (fun x hx => by have := hO.2 x hx; omega) (by omega)
    rw [hitR_eq n (by omega) (by omega)] at h
    exact h
  · unfold h17 g17
    rw [if_neg hc, if_neg hc]
    exact c17e (by omega)
theorem p40 (m : Int) {O : List (List Int)} (hO : shortLL O) (σ : Heap) : ACall Tryd.prog G0 40 [I m, flLL O] σ (.tup [flLL (h17 m O), I (g17 m O)]) σ := by
  by_cases hc : 0 ≤ m ∧ m ≤ 12 ∧ (O.length : Int) ≤ 4096
  · obtain ⟨n, rfl⟩ := Int.eq_ofNat_of_zero_le hc.1
    have h := c40 (n := n) (by omega) hO (by omega) σ
    rw [hitR_eq n (by omega) (by omega)] at h
    exact h
  · unfold h17 g17
    rw [if_neg hc, if_neg hc]
    exact c40e hO (by omega) σ
def cl10 (SL : List (List Int)) : FuncId → List AV → Option (Tree AV) := fun f xs => match f, xs with
  | 23, [x] => some (.need (x = flLL SL ∨ x = flLL (ownL SL)) (.leaf (flLL (ownL SL))))
  | 17, [.int .i64 m, x] => some (.need (x = flLL (ownL SL)) (.leaf (.tup [flLL (h17 m (ownL SL)), I (g17 m (ownL SL))])))
  | 40, [.int .i64 m, x] => some (.need (x = flLL (ownL SL)) (.leaf (.tup [flLL (h17 m (ownL SL)), I (g17 m (ownL SL))])))
  | 18, [x, y] => some (.need (∃ L : List (List Int), x = flLL L ∧ y = flLL L ∧ shortLL L) (.leaf (.bool true)))
  | 20, [] => some (.leaf (.bool true))
  | _, _ => none
def E10 (SL : List (List Int)) : Env := { cl := cl10 SL, hint := hShift }
theorem own_len (SL : List (List Int)) : (ownL SL).length = min (mostL SL) SL.length := by
  unfold ownL
  rw [List.length_map, List.length_take]
theorem short_own {SL : List (List Int)} (hl : SL.length < 4611686018427387904) : shortLL (ownL SL) := by
  refine ⟨by rw [own_len]; omega, fun x hx => ?_⟩
  unfold ownL at hx
  obtain ⟨y, _, rfl⟩ := List.mem_map.1 hx
  unfold cut14
  rw [List.length_take]
  omega
theorem own_own (SL : List (List Int)) : ownL (ownL SL) = ownL SL := by
  have h1 := own_len SL
  have hle : (ownL SL).length ≤ mostL (ownL SL) := by
    rw [h1]
    unfold mostL
    rw [h1]
    unfold mostL
    split <;> split <;> omega
  show ((ownL SL).take (mostL (ownL SL))).map cut14 = ownL SL
  rw [List.take_of_length_le hle]
  show ((SL.take (mostL SL)).map cut14).map cut14 = (SL.take (mostL SL)).map cut14
  rw [List.map_map]
  refine List.map_congr_left fun x _ => ?_
  show (x.take 14).take 14 = x.take 14
  rw [List.take_take]
  rfl
theorem clok10 {SL : List (List Int)} (hl : SL.length < 4611686018427387904) : ClOk Tryd.prog G0 (E10 SL) := by
  refine .ofH rfl rfl hShift_ok.ok fun f xs t v hq hs σ => ?_
  replace hq : cl10 SL f xs = some t := hq
  unfold cl10 at hq
  split at hq
  · cases hq; obtain ⟨h1, h2⟩ := Tree.of_need hs; cases h2
    rcases h1 with rfl | rfl
    · exact c23 hl σ
    · have := c23 (short_own hl).1 σ
      rw [own_own] at this
      exact this
  · cases hq; obtain ⟨rfl, h2⟩ := Tree.of_need hs; cases h2; exact p17 _ (short_own hl) σ
  · cases hq; obtain ⟨rfl, h2⟩ := Tree.of_need hs; cases h2; exact p40 _ (short_own hl) σ
  · cases hq; obtain ⟨⟨L, rfl, rfl, hl⟩, h2⟩ := Tree.of_need hs; cases h2
    have := c18 (b := L) hl σ
    rw [beq_self_eq_true] at this
    exact this
  · cases hq; cases hs; exact c20 σ
  · cases hq
def F10 : Tree (AV × Bool × Heap) := .leaf (.bool false, false, [])
def n10 (n : Int) : Int := IntKind.i64.wrap (9 + n.tmod 2)
def tail10 (m : Int) (O : List (List Int)) : Tree (AV × Bool × Heap) := .need (flLL O = flLL O) (.need (flLL O = flLL O) (.ite (g17 m O == g17 m O) (.need (same8 (h17 m O)) (.ite true (.need (same8 O) (.ite true (.leaf (.bool true, true, [])) F10)) F10)) F10))
theorem run10 (n : Int) (SL : List (List Int)) : xCall Tryd.prog G0 (E10 SL) 200 10 [I n, flLL SL] [true, true] [] =
    .need (flLL SL = flLL SL ∨ flLL SL = flLL (ownL SL)) (.need (flLL (ownL SL) = flLL SL ∨ flLL (ownL SL) = flLL (ownL SL)) (.ite (decide (n > 9)) (.ite (decide (n ≤ 12)) (tail10 (n10 n) (ownL SL)) (tail10 n (ownL SL))) (tail10 n (ownL SL)))) := by kernel_rfl
theorem tail10_sel (m : Int) {O : List (List Int)} (hO : shortLL O) : (tail10 m O).sel = some (.bool true, true, []) := by
  unfold tail10
  rw [selR, selR, selI, beq_self_eq_true, cond_true, Tree.sel_need ⟨_, rfl, rfl, short_h17 m O⟩, selI, cond_true, Tree.sel_need ⟨_, rfl, rfl, hO⟩, selI, cond_true, selL]
/-- CoreHits RETURNS TRUE. -/
theorem c10 (n : Int) {SL : List (List Int)} (hl : SL.length < 4611686018427387904) : ACall Tryd.prog G0 10 [I n, flLL SL] [] (.bool true) [] := by
  refine xCall_ok (n := 200) (tags := [true, true]) (s := true) names mixed (clok10 hl) ?_
  refine (congrArg Tree.sel (run10 n SL)).trans ?_
  rw [Tree.sel_need (.inl rfl), Tree.sel_need (.inr rfl), selI, selI, tail10_sel _ (short_own hl), tail10_sel _ (short_own hl)]
  cases decide (n > 9) <;> cases decide (n ≤ 12) <;> rfl
end Go.Proofs.YtjljigccgaadaaaDoor.Am

