/-
  This file proves nothing of a law. It holds lemmas, of 1 texts in their order. No condition of its own.
-/
import Derived.Test.YtjljigccgaadaaaDoorMg8
namespace Go.Proofs.YtjljigccgaadaaaDoor.Am
open Go
set_option maxRecDepth 100000

theorem loop5b {R : Option Nat → Prop} {k s : Nat} (rep : List (List Int)) (hk : k ≤ 6) (hs : s < 256) (base : Heap) : ∀ (d i : Nat), i + d = k →
    ALoopRun Tryd.prog G0 R body5b { tmps := (st5b k s rep (vA base.length ((lowL s i).map I)) i (hG base (lowL s i))).a } (hG base (lowL s i)) (.exit 0) { tmps := (st5b k s rep (vA base.length ((lowL s k).map I)) k (hG base (lowL s k))).a } (hG base (lowL s k))
  | 0, i, hi => by
    obtain rfl : i = k := by omega
    refine .stop (xBody_ok (m := []) names mixed (clok4b i (vA base.length ((lowL s i).map I)) .zs (hG base (lowL s i)) []) (lpNo body5b) (n := 200) (keep := keep5) (st := st5b i s rep (vA base.length ((lowL s i).map I)) i (hG base (lowL s i))) (st' := st5b i s rep (vA base.length ((lowL s i).map I)) i (hG base (lowL s i))) ?_).1 nofun
    refine (congrArg Tree.sel (run5b i s i rep _ _ _ _)).trans ?_
    rw [selI, decide_eq_false (by omega)]
    rfl
  | d + 1, i, hi => by
    have hw : IntKind.i64.wrap ((i : Int) + 1) = ((i + 1 : Nat) : Int) := wrap_i64 (by omega) (by omega)
    have hb := bitU_eq hs (i := i) (by omega)
    have ih := loop5b (R := R) rep hk hs base d (i + 1) (by omega)
    have hl := lowL_succ s i
    have hll := lowL_len s i
    have happ := append_vA el22 base ((lowL s i).map I) (I i) rfl (by simp; omega)
    have hm : (lowL s i).map I ++ [I i] = (lowL s i ++ [(i : Int)]).map I := by simp
    rw [hm] at happ
    refine .next (xBody_ok (m := []) names mixed (clok4b i (vA base.length ((lowL s i).map I)) (vA base.length ((lowL s i ++ [(i : Int)]).map I)) (hG base (lowL s i)) (hG base (lowL s i ++ [(i : Int)]))) (lpNo body5b) (n := 200) (keep := keep5) (st := st5b k s rep (vA base.length ((lowL s i).map I)) i (hG base (lowL s i))) (st' := st5b k s rep (vA base.length ((lowL s (i + 1)).map I)) (i + 1 : Nat) (hG base (lowL s (i + 1)))) ?_).1 ih
    refine (congrArg Tree.sel (run5b k s i rep _ _ _ _)).trans ?_
    rw [selI, decide_eq_true (by omega), cond_true, Tree.sel_need (by omega), selI, hb, hw, hl]
    cases s.testBit i with
    | true => rw [cond_true, Tree.sel_need ⟨rfl, rfl, rfl, happ⟩]; rfl
    | false => rfl
theorem loops5 : loopsOf (bodyOf Tryd.prog 5) = [body5b] := by kernel_rfl
theorem id5b : idOf body5b = 15 := by kernel_rfl
theorem HasAt.more {σ : Heap} {g : FuncId} {caps : List AV} {f : Nat → Bool} {m : Nat} (h : HasAt σ g caps f m) (Y : Heap) : HasAt (σ ++ Y) g caps f m := fun X s hm hs => by rw [List.append_assoc]; exact h (Y ++ X) s hm hs
/-- 'of' with a list that grew. -/
theorem c45v {n s : Nat} (hn : n ≤ 64) (hs : s < 2 ^ n) {h : Heap} {r : Nat} (ho : AtL h r (ints s)) : ACall Tryd.prog G0 45 [I n, vA r ((ints s).map I)] h (.tup [U s, .bool true]) h := by
  have hlen := ints_len s
  have h0 : ∀ h, ACall Tryd.prog G0 45 [I n, flL (ints s)] h (.tup [U s, .bool true]) h := fun h => by
    have := c45 (n := n) (by omega) (L := ints s) (by omega) h
    rw [ofL_ints64 hn hs] at this
    exact this
  generalize ints s = L at h0 ho
  cases L with
  | nil => exact (h0 h).arg2 (Sub.rfl' _) (fun _ _ _ h => h.flL_zs)
  | cons x l =>
    refine ACall.frz ((h0 []).arg2 (Sub.rfl' _) (sub_slL (x :: l))) gbelow0 (flat_tup2 (.int _ _) (.bool _)) rfl fun j x' hj => ?_
    match j, hj with
    | 0, hj => cases hj; exact ⟨_, rfl, .inr (.inl ⟨.int _ _, rfl⟩)⟩
    | 1, hj => cases hj; exact ⟨_, rfl, frz_vA ho⟩
    | j + 2, hj => simp at hj
theorem clok5 (l : List (FuncId × AV)) (k : Int) (fv : AV) : ClOk Tryd.prog G0 (E5 l k fv) :=
  .all (hShift_ok.ok.or ((hLd_ok Tryd.underlying3 rfl _).ok.or ((hLd_ok Tryd.underlying23 rfl _).ok.or (hLd_ok Tryd.underlying4 rfl _).ok))) (clV_ok l) (fun l xs σ t v σ' h => (by cases h)) (fun f xs t v h => (by cases h))
theorem selA {f : FuncId} {xs : List AV} {v : AV} {h : Heap} {x : Tree (AV × Bool × Heap)} (hc : ACall Tryd.prog G0 f xs h v h) : (cA5 f xs v h x).sel = x.sel := Tree.sel_need hc
theorem iteNT {α : Type} {x y : Tree α} : (Tree.ite (!true) x y).sel = y.sel := rfl
theorem iteTT {α : Type} {x y : Tree α} : (Tree.ite true x y).sel = x.sel := rfl
theorem iteNe {α : Type} {x y : Tree α} {a : Int} : (Tree.ite (a != a) x y).sel = y.sel := by rw [selI, bne_self_eq_false]; rfl
theorem iteEq {α : Type} {x y : Tree α} {a : Int} : (Tree.ite (a == a) x y).sel = x.sel := by rw [selI, beq_self_eq_true]; rfl
theorem iteEqB {α : Type} {x y : Tree α} {a : Bool} : (Tree.ite (a == a) x y).sel = x.sel := by rw [selI, beq_self_eq_true]; rfl
theorem callLists {n b s : Int} (h0 : 0 ≤ n) (h1 : n < 256) (hs0 : 0 ≤ s) (hs1 : s < 256) : ∃ σ', ACall Tryd.prog G0 5 [.int .u8 n, U b, .int .u8 s] [] (.bool true) σ' := by
  have hk := rem7_nat h0 h1
  have hk6 : n.toNat % 7 ≤ 6 := by omega
  generalize n.toNat % 7 = k at hk hk6
  obtain ⟨t, rfl⟩ := Int.eq_ofNat_of_zero_le hs0
  have hbl : (Tab.bad ⟨true, b, []⟩).length < 4611686018427387904 := by show (0 : Nat) < _; omega
  have hT : ∀ σ, FulAt σ 56 [.row (Tab.cells ⟨true, b, []⟩) 0] fun s => Tab.ful ⟨true, b, []⟩ (s : Nat) := fun σ => fulAsk hbl σ
  have h29 := fun h => c29 b h
  have h21 := fun σ => c21 ⟨true, b, []⟩ σ
  generalize hTab : (⟨true, b, []⟩ : Tab) = T at *
  generalize hf : (fun s : Nat => T.ful (s : Nat)) = f at *
  have hff : ∀ s : Nat, T.ful (s : Nat) = f s := fun s => by rw [← hf]
  have hwi := hasW hbl hff k
  have hlow := lowL_lowS t (k := k) (by omega)
  have hlt := lowS_lt t k
  generalize lowS t k = r at hlow hlt
  have hlr := ints_len r
  have hat : AtL (hG (hW k (.fn 56 [] [.row T.cells 0])) (ints r)) 3 (ints r) := by
    intro hne
    unfold hG hW
    generalize ints r = L at hne
    cases L with
    | nil => exact absurd rfl hne
    | cons x l => simp [oA]
  have hcl := fun (e : Int) => clok5 (e5 T.av (.fn 56 [] [.row T.cells 0]) (everyL (fun s => !f s) k) (everyL (fun s => f (comp k s)) k) (coreC f k) (ints r) e (irr (fun s => !f s) r)) (rem7 n) (.fn 56 [] [.row T.cells 0])
  have hlp : LoopsOk Tryd.prog G0 (fun r => r = none) [] (lp5 (rem7 n) t (everyL (fun s => f (comp k s)) k) (vA 3 ((ints r).map I)) (hW (rem7 n) (.fn 56 [] [.row T.cells 0])) (hG (hW k (.fn 56 [] [.row T.cells 0])) (ints r))) (bodyOf Tryd.prog 5) := by
    refine .of_list _ fun x hx => ?_
    rw [loops5] at hx
    obtain rfl := List.mem_singleton.1 hx
    intro kp s0 tr e st' h' hsel
    rw [id5b] at h'
    cases h'
    cases hsel
    rw [hk, ← hlow]
    exact ⟨.loop (loop5b _ hk6 (by omega) (hW k (.fn 56 [] [.row T.cells 0])) k 0 (by omega)), rfl⟩
  have run := run5 n b t T.av T.cells (everyL (fun s => !f s) k) (everyL (fun s => f (comp k s)) k) (coreC f k) (ints r) (coreE f k) (irr (fun s => !f s) r) (vA 3 ((ints r).map I)) (hG (hW k (.fn 56 [] [.row T.cells 0])) (ints r))
  have hlcore : (coreC f k).length < 4611686018427387904 := by
    unfold coreC
    split
    · simp
    · have := ints_len (coreP (fun s => !f s) k (2 ^ k - 1)); omega
  have hw2 : HasAt (hG (hW k (.fn 56 [] [.row T.cells 0])) (ints r)) 65 [.row [.fn 30 [] capsW] 0] (fun s => !f s) (2 ^ k) := hwi.more _
  obtain ⟨fn, c, k1, k2, k3⟩ := fnOf (f := 5) (by kernel_rfl)
  rw [k3] at hlp
  have e18 : ∀ (g : Nat → Bool) h, ACall Tryd.prog G0 18 [flLL (everyL g k), flLL (everyL g k)] h (.bool true) h := fun g h => by
    have := c18 (a := everyL g k) (b := everyL g k) (short_every g (by omega)) h
    rwa [beq_self_eq_true] at this
  have e26 : ∀ h, ACall Tryd.prog G0 26 [flL (coreC f k), flL (coreC f k)] h (.bool true) h := fun h => by
    have := c26 (a := coreC f k) (b := coreC f k) hlcore h
    rwa [beq_self_eq_true] at this
  have e26v := c26v (L := ints r) (m := ints r) (by omega) hat
  rw [beq_self_eq_true] at e26v
  have e31v : ACall Tryd.prog G0 31 [vA 3 ((ints r).map I)] (hG (hW k (.fn 56 [] [.row T.cells 0])) (ints r)) (flL (ints r)) (hG (hW k (.fn 56 [] [.row T.cells 0])) (ints r)) := c31v (by omega) fun hne => by
    have := hat hne
    unfold objAt
    rw [this]
    simp
  refine ⟨hG (hW k (.fn 56 [] [.row T.cells 0])) (ints r), xFnM_ok (n := 200) (s := true) (tags := [true, true, true]) names mixed (hcl (coreE f k)) k1 k2 hlp ((congrArg Tree.sel run).trans ?_)⟩
  rw [hk]
  refine (selA (h29 _)).trans ?_
  refine (selA (h21 _)).trans ?_
  refine (Tree.sel_need rfl).trans ?_
  refine (selA (core13D hwi (by omega))).trans ?_
  refine (Tree.sel_need rfl).trans ?_
  refine (Tree.sel_need rfl).trans ?_
  refine (selA (core13 (hT _) (by omega))).trans ?_
  refine (Tree.sel_need rfl).trans ?_
  refine (selA (c15D (by omega) hwi)).trans ?_
  refine (Tree.sel_need rfl).trans ?_
  refine (Tree.sel_need rfl).trans ?_
  refine (selA (c15 (by omega) (hT _))).trans ?_
  refine (Tree.sel_need rfl).trans ?_
  refine (iteNT).trans ?_
  refine (iteNe).trans ?_
  refine (selA (e26 _)).trans ?_
  refine (iteNT).trans ?_
  refine (iteNe).trans ?_
  refine (selA (e18 _ _)).trans ?_
  refine (iteNT).trans ?_
  refine (Tree.sel_need rfl).trans ?_
  refine (selA (c16D (by omega) hwi)).trans ?_
  refine (Tree.sel_need rfl).trans ?_
  refine (Tree.sel_need rfl).trans ?_
  refine (selA (c16 (by omega) (hT _))).trans ?_
  refine (Tree.sel_need rfl).trans ?_
  refine (Tree.sel_need rfl).trans ?_
  refine (selA (e31v)).trans ?_
  refine (Tree.sel_need rfl).trans ?_
  refine (selA (c14D hw2 (by omega) hlt (c45v (by omega) hlt hat))).trans ?_
  refine (Tree.sel_need rfl).trans ?_
  refine (Tree.sel_need rfl).trans ?_
  refine (Tree.sel_need rfl).trans ?_
  refine (Tree.sel_need rfl).trans ?_
  refine (selA (c31d (by omega) _)).trans ?_
  refine (Tree.sel_need rfl).trans ?_
  refine (Tree.sel_need rfl).trans ?_
  refine (Tree.sel_need rfl).trans ?_
  refine (selA (irr14' (hT _) (by omega) hlt)).trans ?_
  refine (Tree.sel_need rfl).trans ?_
  refine (Tree.sel_need rfl).trans ?_
  refine (Tree.sel_need rfl).trans ?_
  refine (Tree.sel_need rfl).trans ?_
  refine (Tree.sel_need rfl).trans ?_
  refine (Tree.sel_need rfl).trans ?_
  refine (Tree.sel_need rfl).trans ?_
  refine (iteTT).trans ?_
  refine (iteEq).trans ?_
  refine (selA (e18 _ _)).trans ?_
  refine (iteTT).trans ?_
  refine (iteEqB).trans ?_
  refine (iteEq).trans ?_
  refine (selA (e26v)).trans ?_
  refine (iteTT).trans ?_
  refine (selA (c20 _)).trans ?_
  rfl
end Go.Proofs.YtjljigccgaadaaaDoor.Am

