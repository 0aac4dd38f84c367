/-
  This file proves nothing of a law. It says what the small functions on sets return, and when a set is irreducible, whatever function is asked. Condition: sets of numbers below 64.
-/
import Derived.Test.YtjljigccgaadaaaDoorCore3
namespace Go.Proofs.YtjljigccgaadaaaDoor.Am
open Go
set_option maxRecDepth 100000

def Esh : Env := { hint := hShift }
theorem clokSh : ClOk Tryd.prog G0 Esh := .ofH rfl rfl hShift_ok.ok fun f xs t v h => by cases h

/-! ### asked, fails, below -/
def askE (n m : Int) : Int := bif decide (n < 0) then 2 else bif decide (n > m) then 2 else 0
theorem c41 (n m : Int) (g : FuncId) (xs ys : List AV) (h : Heap) : ACall Tryd.prog G0 41 [I n, I m, .fn g xs ys] h (I (askE n m)) h := by
  have run : xCall Tryd.prog G0 {} 200 41 [I n, I m, .fn g xs ys] [true, true, true] h = .ite false (.leaf (I 1, false, h)) (.ite (decide (n < 0)) (.leaf (I 2, false, h)) (.ite (decide (n > m)) (.leaf (I 2, false, h)) (.leaf (I 0, false, h)))) := by kernel_rfl
  refine xCall_ok (n := 200) (tags := [true, true, true]) (s := false) names mixed clok0 ?_
  rw [run, selI, cond_false, selI, selI]
  unfold askE
  cases decide (n < 0) <;> cases decide (n > m) <;> rfl
theorem c41n (n m : Int) (h : Heap) : ACall Tryd.prog G0 41 [I n, I m, .nilf] h (I 1) h := by
  have run : xCall Tryd.prog G0 {} 200 41 [I n, I m, .nilf] [true, true, true] h = .ite true (.leaf (I 1, false, h)) (.ite (decide (n < 0)) (.leaf (I 2, false, h)) (.ite (decide (n > m)) (.leaf (I 2, false, h)) (.leaf (I 0, false, h)))) := by kernel_rfl
  refine xCall_ok (n := 200) (tags := [true, true, true]) (s := false) names mixed clok0 ?_
  rw [run]; rfl
theorem c42 (g : FuncId) (xs ys : List AV) (h : Heap) : ACall Tryd.prog G0 42 [.fn g xs ys] h (.fn 65 [] [.row [.fn g xs ys] 0]) h := by
  have run : xCall Tryd.prog G0 {} 200 42 [.fn g xs ys] [true] h = .leaf (.fn 65 [] [.row [.fn g xs ys] 0], true, h) := by kernel_rfl
  exact xCall_ok (n := 200) (tags := [true]) (s := true) names mixed clok0 (by rw [run]; rfl)
theorem c43 {n : Nat} (hn : n ≤ 64) (h : Heap) : ACall Tryd.prog G0 43 [I n] h (U (2 ^ n - 1 : Nat)) h := by
  have run : xCall Tryd.prog G0 Esh 200 43 [I n] [true] h = .need (0 ≤ IntKind.i64.wrap (64 - (n : Int))) (.leaf (U (ushr 18446744073709551615 (IntKind.i64.wrap (64 - (n : Int)))), true, h)) := by kernel_rfl
  have hw : IntKind.i64.wrap (64 - (n : Int)) = ((64 - n : Nat) : Int) := by rw [wrap_i64 (by omega) (by omega)]; omega
  refine xCall_ok (n := 200) (tags := [true]) (s := true) names mixed clokSh ?_
  rw [run, hw, Tree.sel_need (by omega)]
  have e : ushr 18446744073709551615 ((64 - n : Nat) : Int) = ((2 ^ n - 1 : Nat) : Int) := by
    have hall : ((List.range 65).all fun n => ushr 18446744073709551615 ((64 - n : Nat) : Int) == ((2 ^ n - 1 : Nat) : Int)) = true := by kernel_rfl
    have := List.all_eq_true.1 hall n (List.mem_range.2 (by omega))
    simpa using this
  rw [e]; rfl

/-! ### of -/
def ofLoop (n : Int) : List Int → Int → Nat → Option Nat
  | [], _, s => some s
  | x :: r, last, s => if x ≤ last ∨ x ≥ n then none else ofLoop n r x (s ||| 2 ^ x.toNat)
/-- The set of a list, if it is one of numbers below n. -/
def ofL (n : Int) (L : List Int) : Option Nat := ofLoop n L (-1) 0
def ofV (o : Option Nat) : AV := .tup [U (o.getD 0 : Nat), .bool o.isSome]
def st45 (n : Int) (L : List Int) (s : Int) (last k : Int) (h : Heap) : St := .of 31 h [(0, I n, true), (6, U s, true), (7, I last, true), (10, flL L, true), (11, I L.length, true), (12, I k, true)]
def stX45 (s : Int) (h : Heap) : St := .of 31 h [(6, U s, true)]
def stR45 (h : Heap) : St := .of 31 h [(4, U 0, false), (5, .bool false, false)]
noncomputable def body45 : Code := (loopsOf (bodyOf Tryd.prog 45)).headD .skip
def inLen (L : List Int) (k : Nat) : Prop := 0 ≤ (k : Int) ∧ (k : Int) < L.length
theorem run45n (n : Int) (L : List Int) (s last : Int) (k : Nat) (h : Heap) : xBody Tryd.prog G0 Esh 100 noLoops [0, 6, 7, 10, 11, 12] body45 (st45 n L s last k h) =
    .ite (decide ((k : Int) < L.length)) (.need (inLen L k) (.ite (decide (L.getD (k : Int).toNat 0 ≤ last)) (.leaf (.ret, st45 n L s last k h)) (.ite (decide (L.getD (k : Int).toNat 0 ≥ n)) (.leaf (.ret, st45 n L s last k h))
      (.need (0 ≤ L.getD (k : Int).toNat 0) (.leaf (.normal, st45 n L (uor s (ushl 1 (L.getD (k : Int).toNat 0))) (L.getD (k : Int).toNat 0) (IntKind.i64.wrap (k + 1)) h)))))) (.leaf (.exit 0, st45 n L s last k h)) := by kernel_rfl
theorem run45x (n : Int) (L : List Int) (s last : Int) (k : Nat) (h : Heap) : xBody Tryd.prog G0 Esh 100 noLoops [6] body45 (st45 n L s last k h) =
    .ite (decide ((k : Int) < L.length)) (.need (inLen L k) (.ite (decide (L.getD (k : Int).toNat 0 ≤ last)) (.leaf (.ret, stX45 s h)) (.ite (decide (L.getD (k : Int).toNat 0 ≥ n)) (.leaf (.ret, stX45 s h))
      (.need (0 ≤ L.getD (k : Int).toNat 0) (.leaf (.normal, stX45 (uor s (ushl 1 (L.getD (k : Int).toNat 0))) h)))))) (.leaf (.exit 0, stX45 s h)) := by kernel_rfl
def stJ45 (h : Heap) : St := .of 31 h [(4, .junk, false), (5, .junk, false)]
theorem run45r (n : Int) (L : List Int) (s last : Int) (k : Nat) (h : Heap) : xBody Tryd.prog G0 Esh 100 noLoops [4, 5] body45 (st45 n L s last k h) =
    .ite (decide ((k : Int) < L.length)) (.need (inLen L k) (.ite (decide (L.getD (k : Int).toNat 0 ≤ last)) (.leaf (.ret, stR45 h)) (.ite (decide (L.getD (k : Int).toNat 0 ≥ n)) (.leaf (.ret, stR45 h))
      (.need (0 ≤ L.getD (k : Int).toNat 0) (.leaf (.normal, stJ45 h)))))) (.leaf (.exit 0, stJ45 h)) := by kernel_rfl
def end45 (o : Option Nat) (h : Heap) : Exit × St := match o with
  | some s => (.exit 0, stX45 s h)
  | none => (.ret, stR45 h)
theorem getD_nat {L : List Int} {k : Nat} (hk : k < L.length) : L.getD (k : Int).toNat 0 = L[k] := by rw [Int.toNat_natCast]; simp [List.getD_eq_getElem?_getD, hk]
theorem ushl_one {n : Nat} (h : n < 64) : ushl 1 (n : Int) = (2 ^ n : Nat) := by
  unfold ushl
  have hb : IntKind.u64.bits = 64 := rfl
  rw [Int.toNat_natCast, hb, Nat.min_eq_left (by omega), Int.one_mul]
  have h1 : 2 ^ n < 2 ^ 64 := Nat.pow_lt_pow_right (by omega) h
  have e : ((2 : Int) ^ n) = ((2 ^ n : Nat) : Int) := by simp
  rw [e]
  generalize 2 ^ n = q at h1
  exact wrap_u64 (by omega) (by omega)
theorem loop45 {R : Option Nat → Prop} {n : Int} (hn : n ≤ 64) {L : List Int} (hL : L.length < 9223372036854775807) (h : Heap) : ∀ (d k : Nat) (last : Int) (s : Nat), k + d = L.length → -1 ≤ last → s < 2 ^ 64 →
    ALoopRun Tryd.prog G0 R body45 { tmps := (st45 n L s last k h).a } h (end45 (ofLoop n (L.drop k) last s) h).1 { tmps := (end45 (ofLoop n (L.drop k) last s) h).2.a } h
  | 0, k, last, s, hk, _, _ => by
    rw [List.drop_eq_nil_of_le (by omega)]
    refine .stop (xBody_ok (m := []) names mixed clokSh (lpNo body45) (n := 100) (keep := [6]) (st := st45 n L s last k h) (st' := stX45 s h) ?_).1 nofun
    rw [run45x, selI, decide_eq_false (by omega)]
    rfl
  | d + 1, k, last, s, hk, h0, hs => by
    have hlt : k < L.length := by omega
    have hin : inLen L k := ⟨by omega, by omega⟩
    rw [List.drop_eq_getElem_cons hlt, ofLoop]
    by_cases h1 : L[k] ≤ last
    · rw [if_pos (.inl h1)]
      refine .stop (xBody_ok (m := []) names mixed clokSh (lpNo body45) (n := 100) (keep := [4, 5]) (st := st45 n L s last k h) (st' := stR45 h) ?_).1 nofun
      rw [run45r, selI, decide_eq_true hin.2, cond_true, Tree.sel_need hin, selI, getD_nat hlt, decide_eq_true h1]
      rfl
    · by_cases h2 : L[k] ≥ n
      · rw [if_pos (.inr h2)]
        refine .stop (xBody_ok (m := []) names mixed clokSh (lpNo body45) (n := 100) (keep := [4, 5]) (st := st45 n L s last k h) (st' := stR45 h) ?_).1 nofun
        rw [run45r, selI, decide_eq_true hin.2, cond_true, Tree.sel_need hin, selI, getD_nat hlt, decide_eq_false h1, cond_false, selI, decide_eq_true h2]
        rfl
      · rw [if_neg (by omega)]
        have hx : L[k] = ((L[k]).toNat : Int) := by omega
        have hx64 : (L[k]).toNat < 64 := by omega
        have hp : 2 ^ (L[k]).toNat < 2 ^ 64 := Nat.pow_lt_pow_right (by omega) hx64
        have ih := loop45 (R := R) hn hL h d (k + 1) L[k] (s ||| 2 ^ (L[k]).toNat) (by omega) (by omega) (Nat.or_lt_two_pow hs hp)
        refine .next (xBody_ok (m := []) names mixed clokSh (lpNo body45) (n := 100) (keep := [0, 6, 7, 10, 11, 12]) (st := st45 n L s last k h) (st' := st45 n L (s ||| 2 ^ (L[k]).toNat : Nat) L[k] (k + 1 : Nat) h) ?_).1 ih
        have hw : IntKind.i64.wrap ((k : Int) + 1) = ((k + 1 : Nat) : Int) := wrap_i64 (by omega) (by omega)
        have hsh : ushl 1 L[k] = ((2 ^ (L[k]).toNat : Nat) : Int) := by rw [hx]; exact ushl_one hx64
        rw [run45n, selI, decide_eq_true hin.2, cond_true, Tree.sel_need hin, selI, getD_nat hlt, decide_eq_false h1, cond_false, selI, decide_eq_false h2, cond_false, Tree.sel_need (by omega), hsh, uor_nat hs hp, hw]
        rfl
def lp45 (n : Int) (L : List Int) (h : Heap) (o : Option Nat) : Loops := fun id => match id with
  | 3 => some ([0, 6, 7, 10, 11, 12], st45 n L 0 (-1) 0 h, .ite o.isSome (.leaf (.exit 0, stX45 (o.getD 0 : Nat) h)) (.leaf (.ret, stR45 h)))
  | _ => none
theorem loops45 : loopsOf (bodyOf Tryd.prog 45) = [body45] := by kernel_rfl
theorem id45 : idOf body45 = 3 := by kernel_rfl
theorem runF45 (n : Int) (L : List Int) (h : Heap) (o : Option Nat) : xenter Tryd.prog Esh (xCode Tryd.prog G0 Esh 200 (lp45 n L h o)) 45 [I n, flL L] [true, true] h =
    .need ((st45 n L 0 (-1) 0 h).vals = (st45 n L 0 (-1) 0 h).vals) (.ite o.isSome (.leaf (.tup [U (o.getD 0 : Nat), .bool true], true, h)) (.leaf (.tup [U 0, .bool false], false, h))) := by kernel_rfl
theorem c45 {n : Int} (hn : n ≤ 64) {L : List Int} (hL : L.length < 9223372036854775807) (h : Heap) : ACall Tryd.prog G0 45 [I n, flL L] h (ofV (ofL n L)) h := by
  have hlp : LoopsOk Tryd.prog G0 (fun r => r = none) [] (lp45 n L h (ofL n L)) (bodyOf Tryd.prog 45) := by
    refine .of_list _ fun x hm => ?_
    rw [loops45] at hm
    obtain rfl := List.mem_singleton.1 hm
    intro keep s0 t e st' h' hs
    rw [id45] at h'
    cases h'
    have := loop45 (R := fun r => r = none) hn hL h L.length 0 (-1) 0 (by omega) (by omega) (by omega)
    rw [List.drop_zero] at this
    change ALoopRun _ _ _ _ _ _ (end45 (ofL n L) h).1 { tmps := (end45 (ofL n L) h).2.a } h at this
    rw [selI] at hs
    revert hs this
    cases ofL n L with
    | none => intro hs this; cases hs; exact ⟨.loop this, rfl⟩
    | some s => intro hs this; cases hs; exact ⟨.loop this, rfl⟩
  have key := runF45 n L h (ofL n L)
  have sel : (xenter Tryd.prog Esh (xCode Tryd.prog G0 Esh 200 (lp45 n L h (ofL n L))) 45 [I n, flL L] [true, true] h).sel = some (ofV (ofL n L), (ofL n L).isSome, h) := by
    rw [key, selR, selI]
    cases ofL n L <;> rfl
  exact .find clokSh hlp sel
end Go.Proofs.YtjljigccgaadaaaDoor.Am
