/-
  This file proves nothing of a law. It says what the laws' and the reference's bits, Fulfils, asks and table return. Condition: sets of numbers below 64, lists shorter than 2 to the 62.
-/
import Derived.Test.YtjljigccgaadaaaDoorCore16
namespace Go.Proofs.YtjljigccgaadaaaDoor.Am
open Go
set_option maxRecDepth 100000

/-! ### bits -/
/-- The set of a list of numbers, as bits. -/
def orL : List Nat → Nat
  | [] => 0
  | x :: r => 2 ^ x ||| orL r
theorem orL_bit (j : Nat) : ∀ L : List Nat, (orL L).testBit j = decide (j ∈ L)
  | [] => by simp [orL]
  | x :: r => by
    unfold orL
    rw [Nat.testBit_or, orL_bit j r, Nat.testBit_two_pow]
    by_cases h : x = j
    · subst h; simp
    · have : ¬ j = x := fun e => h e.symm
      simp [h, this]
theorem orL_lt : ∀ {L : List Nat}, (∀ x ∈ L, x < 64) → orL L < 2 ^ 64
  | [], _ => by simp [orL]
  | x :: r, h => Nat.or_lt_two_pow (Nat.pow_lt_pow_right (by omega) (h x (by simp))) (orL_lt fun y hy => h y (by simp [hy]))
theorem orL_bitsL {s : Nat} (h : s < 2 ^ 64) : orL (bitsL s) = s := by
  apply Nat.eq_of_testBit_eq
  intro j
  rw [orL_bit]
  by_cases hj : j < 64
  · cases hs : s.testBit j with
    | true => exact decide_eq_true (mem_bitsL.2 ⟨hj, hs⟩)
    | false => exact decide_eq_false fun hm => by rw [(mem_bitsL.1 hm).2] at hs; cases hs
  · rw [Nat.testBit_lt_two_pow (Nat.lt_of_lt_of_le h (Nat.pow_le_pow_right (by omega) (by omega)))]
    exact decide_eq_false fun hm => hj (mem_bitsL.1 hm).1
theorem orL_append (a b : List Nat) : orL (a ++ b) = orL a ||| orL b := by
  apply Nat.eq_of_testBit_eq
  intro j
  rw [Nat.testBit_or, orL_bit, orL_bit, orL_bit]
  simp

noncomputable def body72 : Code := (loopsOf (bodyOf Tryd.prog 72)).headD .skip
noncomputable def body28 : Code := (loopsOf (bodyOf Tryd.prog 28)).headD .skip
def st72 (a : List Int) (x k : Int) (h : Heap) : St := .of 18 h [(2, U 0, false), (3, U x, true), (6, flL a, true), (7, I a.length, true), (8, I k, true)]
theorem run72 (a : List Int) (x : Int) (k : Nat) (h : Heap) : xBody Tryd.prog G0 Esh 200 noLoops [2, 3, 6, 7, 8] body72 (st72 a x k h) =
    .ite (decide ((k : Int) < a.length)) (.need (0 ≤ (k : Int) ∧ (k : Int) < a.length) (.need (0 ≤ a.getD (k : Int).toNat 0) (.leaf (.normal, st72 a (uor x (ushl 1 (a.getD (k : Int).toNat 0))) (IntKind.i64.wrap (k + 1)) h)))) (.leaf (.exit 0, st72 a x k h)) := by kernel_rfl
theorem run28 (a : List Int) (x : Int) (k : Nat) (h : Heap) : xBody Tryd.prog G0 Esh 200 noLoops [2, 3, 6, 7, 8] body28 (st72 a x k h) =
    .ite (decide ((k : Int) < a.length)) (.need (0 ≤ (k : Int) ∧ (k : Int) < a.length) (.need (0 ≤ a.getD (k : Int).toNat 0) (.leaf (.normal, st72 a (uor x (ushl 1 (a.getD (k : Int).toNat 0))) (IntKind.i64.wrap (k + 1)) h)))) (.leaf (.exit 0, st72 a x k h)) := by kernel_rfl
/-- The numbers of a list, as integers. -/
def zL (L : List Nat) : List Int := L.map Int.ofNat
theorem zL_getD {L : List Nat} {k : Nat} (h : k < L.length) : (zL L).getD k 0 = ((L[k] : Nat) : Int) := by simp [zL, List.getD_eq_getElem?_getD, h]
theorem scanBits {body : Code} (hr : ∀ (a : List Int) (x : Int) (k : Nat) (h : Heap), xBody Tryd.prog G0 Esh 200 noLoops [2, 3, 6, 7, 8] body (st72 a x k h) =
    .ite (decide ((k : Int) < a.length)) (.need (0 ≤ (k : Int) ∧ (k : Int) < a.length) (.need (0 ≤ a.getD (k : Int).toNat 0) (.leaf (.normal, st72 a (uor x (ushl 1 (a.getD (k : Int).toNat 0))) (IntKind.i64.wrap (k + 1)) h)))) (.leaf (.exit 0, st72 a x k h)))
    {L : List Nat} (hL : ∀ x ∈ L, x < 64) (hl : L.length < 4611686018427387904) (h : Heap) : Scan body [2, 3, 6, 7, 8] L.length (fun k => st72 (zL L) (orL (L.take k) : Nat) k h) (fun k => st72 (zL L) 0 k h) (st72 (zL L) (orL L : Nat) L.length h) fun _ => false := by
  refine ⟨fun _ => rfl, fun _ => rfl, rfl, fun k hk => ⟨_, clokSh, ?_⟩⟩
  have hlen : (zL L).length = L.length := by simp [zL]
  rw [hr, selI, hlen]
  by_cases hlt : k < L.length
  · have hw : IntKind.i64.wrap ((k : Int) + 1) = ((k + 1 : Nat) : Int) := wrap_i64 (by omega) (by omega)
    have hx := hL L[k] (List.getElem_mem hlt)
    have ht : orL (L.take (k + 1)) = orL (L.take k) ||| 2 ^ L[k] := by
      rw [List.take_succ_eq_append_getElem hlt, orL_append]
      simp [orL]
    have hlo : orL (L.take k) < 2 ^ 64 := orL_lt fun x hx => hL x (List.mem_of_mem_take hx)
    rw [decide_eq_true (by omega), decide_eq_true hlt, cond_true, cond_true, Tree.sel_need ⟨by omega, by omega⟩, Int.toNat_natCast, zL_getD hlt, Tree.sel_need (by omega), ushl_one hx, uor_nat hlo (Nat.pow_lt_pow_right (by omega) hx), hw, ht]
    rfl
  · have : k = L.length := by omega
    subst this
    rw [decide_eq_false (by omega), decide_eq_false hlt, List.take_length]
    rfl
theorem loops72 : loopsOf (bodyOf Tryd.prog 72) = [body72] := by kernel_rfl
theorem id72 : idOf body72 = 3 := by kernel_rfl
theorem loops28 : loopsOf (bodyOf Tryd.prog 28) = [body28] := by kernel_rfl
theorem id28 : idOf body28 = 3 := by kernel_rfl
/-- A loop that goes to its end. -/
def lpX (i : Nat) (keep : List Nat) (S x : St) : Loops := fun id => bif Nat.beq id i then some (keep, S, .leaf (.exit 0, x)) else none
theorem fstStop_none (N : Nat) : fstStop (fun _ => false) N 0 = N := by
  have h := fstStop_le (stop := fun _ => false) N 0
  by_cases hlt : fstStop (fun _ => false) N 0 < N
  · obtain ⟨k, _, h⟩ := (fstStop_iff _ _).1 hlt; cases h
  · omega
theorem Scan.okX {body : Code} {keep : List Nat} {N : Nat} {S R : Nat → St} {X : St} (hs : Scan body keep N S R X fun _ => false) {f : FuncId} {i : Nat} (hl : loopsOf (bodyOf Tryd.prog f) = [body]) (hi : idOf body = i) :
    LoopsOk Tryd.prog G0 (fun r => r = none) [] (lpX i keep (S 0) X) (bodyOf Tryd.prog f) := by
  refine .of_list _ fun x hm => ?_
  rw [hl] at hm
  obtain rfl := List.mem_singleton.1 hm
  intro kp s0 t e st' h' hsel
  rw [hi] at h'
  unfold lpX at h'
  rw [Nat.beq_refl, cond_true] at h'
  cases h'
  have key := hs.loop (Rr := fun r => r = none) N 0 (by omega)
  rw [fstStop_none] at key
  unfold scanEnd at key
  rw [decide_eq_false (Nat.lt_irrefl N)] at key
  cases hsel
  exact ⟨.loop key, hs.nX⟩
theorem runF72 (a : List Int) (h : Heap) (p q : Int) : xenter Tryd.prog {} (xCode Tryd.prog G0 {} 200 (lpX 3 [2, 3, 6, 7, 8] (st72 a 0 0 h) (st72 a p q h))) 72 [flL a] [true] h =
    .need ((st72 a 0 0 h).vals = (st72 a 0 0 h).vals) (.leaf (U p, true, h)) := by kernel_rfl
theorem runF28 (a : List Int) (h : Heap) (p q : Int) : xenter Tryd.prog {} (xCode Tryd.prog G0 {} 200 (lpX 3 [2, 3, 6, 7, 8] (st72 a 0 0 h) (st72 a p q h))) 28 [flL a] [true] h =
    .need ((st72 a 0 0 h).vals = (st72 a 0 0 h).vals) (.leaf (U p, true, h)) := by kernel_rfl
theorem c72 {L : List Nat} (hL : ∀ x ∈ L, x < 64) (hl : L.length < 4611686018427387904) (h : Heap) : ACall Tryd.prog G0 72 [flN L] h (U (orL L : Nat)) h := by
  have hs := (scanBits run72 hL hl h).okX loops72 id72
  have e : (zL L).length = L.length := by simp [zL]
  refine .find (s := true) (n := 200) (tags := [true]) clok0 hs ?_
  exact (congrArg Tree.sel (runF72 (zL L) h (orL L : Nat) L.length)).trans (selR.trans rfl)
theorem c28 {L : List Nat} (hL : ∀ x ∈ L, x < 64) (hl : L.length < 4611686018427387904) (h : Heap) : ACall Tryd.prog G0 28 [flN L] h (U (orL L : Nat)) h := by
  have hs := (scanBits run28 hL hl h).okX loops28 id28
  refine .find (s := true) (n := 200) (tags := [true]) clok0 hs ?_
  exact (congrArg Tree.sel (runF28 (zL L) h (orL L : Nat) L.length)).trans (selR.trans rfl)

/-! ### Fulfils -/
/-- A list of numbers of 64 bits, as data. -/
def flU (L : List Int) : AV := .fl 1 L.length fun i => [U (L.getD i 0)]
theorem flU_rows (L : List Int) : (List.range L.length).map (fun i => ([U (L.getD i 0)] : List AV)) = (L.map U).map fun y => [y] := by
  apply List.ext_getElem?
  intro i
  simp only [List.getElem?_map]
  by_cases h : i < L.length
  · simp [h, List.getD_eq_getElem?_getD]
  · simp [h]
theorem RV.flU_of {w : World} {M : Map} {u : Value} {L : List Int} (h : RV w M u (.sl 1 ((L.map U).map fun y => [y]))) : RV w M u (flU L) := by
  refine .fl _ _ _ _ ?_
  rw [flU_rows]; exact h
theorem RV.flU_zs {w : World} {M : Map} {u : Value} (h : RV w M u .zs) : RV w M u (flU []) := by cases h; exact .fl _ _ _ _ (.sl0 _ _ _)
theorem RV.fA_flU {w : World} {M : Map} {u : Value} {L : List Int} (h : RV w M u (fA (L.map U))) : RV w M u (flU L) := by
  cases L with
  | nil => exact h.flU_zs
  | cons x r => exact h.flU_of
theorem below_flU {n : Nat} (L : List Int) : Below n (flU L) := below_fl fun i x hx => by rw [List.mem_singleton.1 hx]; exact .int _ _
/-- A table. -/
structure Tab where
  few : Bool
  bits : Int
  bad : List Int
def Tab.cells (t : Tab) : List AV := [.bool t.few, U t.bits, flU t.bad]
def Tab.av (t : Tab) : AV := .agg t.cells
/-- What a table says of a set. -/
def Tab.ful (t : Tab) (s : Int) : Bool := bif t.few then uand (ushr t.bits s) 1 == 1 else !(t.bad.any fun m => uand s m == m)
def cl57 : FuncId → List AV → Option (Tree AV) := fun f xs => match f, xs with
  | 72, [x] => some (.need (∃ L : List Nat, x = flN L ∧ (∀ y ∈ L, y < 64) ∧ L.length < 4611686018427387904) (.leaf (U (orL ((unL x).map Int.toNat) : Nat))))
  | _, _ => none
theorem unN (L : List Nat) : (unL (flN L)).map Int.toNat = L := by
  unfold flN
  rw [unL_flL, List.map_map]
  induction L with
  | nil => rfl
  | cons x r ih => simp only [List.map_cons, ih, Function.comp]; rfl
def E57 : Env := { boxRow := true, cl := cl57 }
theorem clok57 : ClOk Tryd.prog G0 E57 := .of rfl rfl fun f xs t v hq hs σ => by
  replace hq : cl57 f xs = some t := hq
  unfold cl57 at hq
  split at hq <;> first | (cases hq; done) | skip
  rename_i x
  cases hq
  obtain ⟨⟨L, rfl, h1, h2⟩, hs2⟩ := Tree.of_need hs
  cases hs2
  rw [unN]
  exact c72 h1 h2 σ
noncomputable def body57 : Code := (loopsOf (bodyOf Tryd.prog 57)).headD .skip
def st57 (bad : List Int) (s k : Int) (h : Heap) : St := .of 31 h [(4, .bool false, false), (5, U s, true), (19, flU bad, true), (20, I bad.length, true), (21, I k, true)]
theorem run57 (a : List Int) (s : Int) (k : Nat) (h : Heap) : xBody Tryd.prog G0 {} 200 noLoops [4, 5, 19, 20, 21] body57 (st57 a s k h) =
    .ite (decide ((k : Int) < a.length)) (.need (0 ≤ (k : Int) ∧ (k : Int) < a.length) (.ite (uand s (a.getD (k : Int).toNat 0) == a.getD (k : Int).toNat 0) (.leaf (.ret, st57 a s k h)) (.leaf (.normal, st57 a s (IntKind.i64.wrap (k + 1)) h)))) (.leaf (.exit 0, st57 a s k h)) := by kernel_rfl
theorem scan57 {a : List Int} (hl : a.length < 4611686018427387904) (s : Int) (h : Heap) : Scan body57 [4, 5, 19, 20, 21] a.length (fun k => st57 a s k h) (fun k => st57 a s k h) (st57 a s a.length h) fun k => uand s (a.getD k 0) == a.getD k 0 := by
  refine ⟨fun _ => rfl, fun _ => rfl, rfl, fun k hk => ⟨_, clok0, ?_⟩⟩
  rw [run57, selI]
  by_cases hlt : k < a.length
  · have hw : IntKind.i64.wrap ((k : Int) + 1) = ((k + 1 : Nat) : Int) := wrap_i64 (by omega) (by omega)
    rw [decide_eq_true (by omega), decide_eq_true hlt, cond_true, cond_true, Tree.sel_need ⟨by omega, by omega⟩, selI, Int.toNat_natCast, hw]
    cases uand s (a.getD k 0) == a.getD k 0 <;> rfl
  · have : k = a.length := by omega
    subst this
    rw [decide_eq_false (by omega), decide_eq_false hlt]
    rfl
theorem loops57 : loopsOf (bodyOf Tryd.prog 57) = [body57] := by kernel_rfl
theorem id57 : idOf body57 = 5 := by kernel_rfl
def need57 (L : List Nat) (x : Tree (AV × Bool × Heap)) : Tree (AV × Bool × Heap) := .need (∃ K : List Nat, flN L = flN K ∧ (∀ y ∈ K, y < 64) ∧ K.length < 4611686018427387904) x
def s57 (L : List Nat) : Int := (orL ((unL (flN L)).map Int.toNat) : Nat)
theorem runF57 (few : Bool) (b : Int) (bad : List Int) (L : List Nat) (h : Heap) (t : Bool) (p q : Int) : xenter Tryd.prog E57 (xCode Tryd.prog G0 E57 200 (lpS 5 [4, 5, 19, 20, 21] (st57 bad (s57 L) 0 h) t (st57 bad (s57 L) p h) (st57 bad (s57 L) q h))) 57 [.agg [.bool few, U b, flU bad], flN L] [true, true] h =
    need57 L (.ite few (.leaf (.bool (uand (ushr b (s57 L)) 1 == 1), true, h)) (.need ((st57 bad (s57 L) 0 h).vals = (st57 bad (s57 L) 0 h).vals) (.ite t (.leaf (.bool false, false, h)) (.leaf (.bool true, false, h))))) := by kernel_rfl
theorem any_fst (a : List Int) (p : Int → Bool) : a.any p = decide (fstStop (fun k => p (a.getD k 0)) a.length 0 < a.length) := by
  by_cases hp : fstStop (fun k => p (a.getD k 0)) a.length 0 < a.length
  · rw [decide_eq_true hp]
    obtain ⟨k, h1, h2⟩ := (fstStop_iff _ _).1 hp
    rw [List.any_eq_true]
    exact ⟨a[k], List.getElem_mem h1, by simpa [List.getD_eq_getElem?_getD, h1] using h2⟩
  · rw [decide_eq_false hp, ← Bool.not_eq_true, List.any_eq_true]
    rintro ⟨x, hm, hx⟩
    obtain ⟨k, h1, rfl⟩ := List.getElem_of_mem hm
    exact hp ((fstStop_iff _ _).2 ⟨k, h1, by simpa [List.getD_eq_getElem?_getD, h1] using hx⟩)
theorem c57 {T : Tab} (hb : T.bad.length < 4611686018427387904) {L : List Nat} (hL : ∀ x ∈ L, x < 64) (hl : L.length < 4611686018427387904) (h : Heap) : ACall Tryd.prog G0 57 [T.av, flN L] h (.bool (T.ful (orL L : Nat))) h := by
  have e : s57 L = (orL L : Nat) := by unfold s57; rw [unN]
  refine .find (s := T.few) (n := 200) (tags := [true, true]) clok57 ((scan57 hb (s57 L) h).ok loops57 id57) ?_
  refine (congrArg Tree.sel (runF57 T.few T.bits T.bad L h _ _ _)).trans ?_
  rw [need57, Tree.sel_need ⟨L, rfl, hL, hl⟩, selI, selR, selI, e]
  unfold Tab.ful
  rw [any_fst]
  cases T.few with
  | true => rfl
  | false => cases decide (fstStop (fun k => uand (orL L : Nat) (T.bad.getD k 0) == T.bad.getD k 0) T.bad.length 0 < T.bad.length) <;> rfl
/-! ### asks -/
def cl56 (T : Tab) (L : List Nat) : FuncId → List AV → Option (Tree AV) := fun f xs => match f, xs with
  | 57, [x, y] => some (.need (x = T.av ∧ y = flN L) (.leaf (.bool (T.ful (orL L : Nat)))))
  | _, _ => none
theorem run56 (T : Tab) (L : List Nat) (h : Heap) : xCall Tryd.prog G0 { cl := cl56 T L } 200 56 [flN L, .row [.bool T.few, U T.bits, flU T.bad] 0] [true, true] h = .need (Tab.av T = T.av ∧ flN L = flN L) (.leaf (.bool (T.ful (orL L : Nat)), true, h)) := by kernel_rfl
theorem c56 {T : Tab} (hb : T.bad.length < 4611686018427387904) {L : List Nat} (hL : ∀ x ∈ L, x < 64) (hl : L.length < 4611686018427387904) (h : Heap) : ACall Tryd.prog G0 56 [flN L, .row T.cells 0] h (.bool (T.ful (orL L : Nat))) h := by
  refine xCall_ok (n := 200) (tags := [true, true]) (s := true) (E := { cl := cl56 T L }) names mixed (.of rfl rfl fun f xs t v hq hs σ => ?_) ((congrArg Tree.sel (run56 T L h)).trans (Tree.sel_need ⟨rfl, rfl⟩))
  replace hq : cl56 T L f xs = some t := hq
  unfold cl56 at hq
  split at hq <;> first | (cases hq; done) | skip
  cases hq
  obtain ⟨⟨rfl, rfl⟩, hs2⟩ := Tree.of_need hs
  cases hs2
  exact c57 hb hL hl σ
/-- What asks returns. -/
def askV (T : Tab) : AV := .fn 56 [] [.row T.cells 0]
theorem bitsL_lt64 (s : Nat) : ∀ x ∈ bitsL s, x < 64 := fun _ hx => (mem_bitsL.1 hx).1
theorem fulAsk {T : Tab} (hb : T.bad.length < 4611686018427387904) (σ : Heap) : FulAt σ 56 [.row T.cells 0] fun s => T.ful (s : Nat) := fun X s hs => by
  have := c56 (T := T) hb (bitsL_lt64 s) (by have := bitsL_len s; omega) (σ ++ X)
  rwa [orL_bitsL hs] at this
def Ebox : Env := { boxRow := true }
theorem clokBox : ClOk Tryd.prog G0 Ebox := .of rfl rfl fun f xs t v h => by cases h
theorem run21 (few : Bool) (b : Int) (a : List Int) (h : Heap) : xCall Tryd.prog G0 Ebox 200 21 [.agg [.bool few, U b, flU a]] [true] h = .leaf (.fn 56 [] [.row [.bool few, U b, flU a] 0], true, h) := by kernel_rfl
theorem c21 (T : Tab) (h : Heap) : ACall Tryd.prog G0 21 [T.av] h (askV T) h := xCall_ok (n := 200) (tags := [true]) (s := true) names mixed clokBox (congrArg Tree.sel (run21 T.few T.bits T.bad h))
theorem run29 (b : Int) : xCall Tryd.prog G0 {} 200 29 [U b] [true] [] = .leaf (.agg [.bool true, U b, .zs], true, [.cells 0 [.bool true, U b, .zs]]) := by kernel_rfl
theorem RV.agg3 {w : World} {M : Map} {u : Value} {a b c c' : AV} (h : RV w M u (.agg [a, b, c])) (hc : ∀ v, RV w M v c → RV w M v c') : RV w M u (.agg [a, b, c']) := by
  cases h with
  | agg vs _ hl h =>
    refine .agg vs _ hl fun j x hx => ?_
    match j, hx with
    | 0, hx => cases hx; exact h 0 a rfl
    | 1, hx => cases hx; exact h 1 b rfl
    | 2, hx => cases hx; exact hc _ (h 2 c rfl)
    | j + 3, hx => simp at hx
theorem c29 (b : Int) (h : Heap) : ACall Tryd.prog G0 29 [U b] h (Tab.av ⟨true, b, []⟩) h := by
  have h0 := xCall_ok (n := 200) (tags := [true]) (s := true) names mixed clok0 (congrArg Tree.sel (run29 b))
  refine (h0.lift0 ?_ gbelow0 (fun x hx => ?_) h).conv fun _ _ _ h => h.agg3 fun _ h => h.flU_zs
  · refine .agg _ (below_list fun x hx => ?_)
    simp only [List.mem_cons, List.not_mem_nil, or_false] at hx
    rcases hx with rfl | rfl | rfl
    · exact .bool _
    · exact .int _ _
    · exact .zs
  · rw [List.mem_singleton.1 hx]; exact .int _ _
end Go.Proofs.YtjljigccgaadaaaDoor.Am
