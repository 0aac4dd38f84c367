/-
  This file proves nothing of a law. It says what core.Core and core.Irreducible return, whatever function is asked. Condition: at most 64 demands, else the error.
-/
import Derived.Test.YtjljigccgaadaaaDoorCore5
namespace Go.Proofs.YtjljigccgaadaaaDoor.Am
open Go
set_option maxRecDepth 100000

/-- A list and an error. -/
def resL (L : List Int) (e : Int) : AV := .tup [flL L, I e]
theorem RV.tup2 {w : World} {M : Map} {u : Value} {a b a' b' : AV} (h : RV w M u (.tup [a, b])) (ha : ∀ v, RV w M v a → RV w M v a') (hb : ∀ v, RV w M v b → RV w M v b') : RV w M u (.tup [a', b']) := by
  cases h with
  | tup vs _ hl h =>
    refine .tup vs _ hl fun j x hx => ?_
    match j, hx with
    | 0, hx => cases hx; exact ha _ (h 0 a rfl)
    | 1, hx => cases hx; exact hb _ (h 1 b rfl)
    | j + 2, hx => simp at hx
theorem ACall.resZs {f : FuncId} {xs : List AV} {σ σ' : Heap} {e : Int} (h : ACall Tryd.prog G0 f xs σ (.tup [.zs, I e]) σ') : ACall Tryd.prog G0 f xs σ (resL [] e) σ' :=
  h.conv fun _ _ _ h => h.tup2 (fun _ h => h.flL_zs) fun _ h => h

def cl13 : FuncId → List AV → Option (Tree AV) := fun f xs => match f, xs with
  | 41, [.int .i64 n, .int .i64 m, .fn _ _ _] => some (.leaf (I (askE n m)))
  | 42, [.fn g xs ys] => some (.leaf (.fn 65 [] [.row [.fn g xs ys] 0]))
  | 43, [.int .i64 n] => some (.need (0 ≤ n ∧ n ≤ 64) (.leaf (U (2 ^ n.toNat - 1 : Nat))))
  | 44, [.int .u64 s] => some (.need (0 ≤ s ∧ s < 18446744073709551616) (.leaf (flN (bitsL s.toNat))))
  | _, _ => none
theorem cl13_ok {f : FuncId} {xs : List AV} {t : Tree AV} {v : AV} (hq : cl13 f xs = some t) (hs : t.sel = some v) (σ : Heap) : ACall Tryd.prog G0 f xs σ v σ := by
  unfold cl13 at hq
  split at hq <;> first | (cases hq; done) | skip
  · cases hq; cases hs; exact c41 _ _ _ _ _ σ
  · cases hq; cases hs; exact c42 _ _ _ σ
  · rename_i n
    cases hq
    obtain ⟨h1, hs2⟩ := Tree.of_need hs
    cases hs2
    have := c43 (n := n.toNat) (by omega) σ
    rwa [show ((n.toNat : Nat) : Int) = n by omega] at this
  · rename_i s
    cases hq
    obtain ⟨h1, hs2⟩ := Tree.of_need hs
    cases hs2
    have := c44 (s := s.toNat) (by omega) σ
    rwa [show ((s.toNat : Nat) : Int) = s by omega] at this
def cl65h (g : FuncId) (caps : List AV) (s : Int) (b : Bool) (h h' : Heap) : FuncId → List AV → Heap → Option (Tree (AV × Heap)) := fun f xs h0 => match f with
  | 65 => some (.need (xs = [U s, .row [.fn g [] caps] 0] ∧ h0 = h) (.leaf (.bool b, h')))
  | _ => none
def E13 (g : FuncId) (caps : List AV) (s : Int) (b : Bool) (h h' : Heap) : Env := { cl := cl13, clh := cl65h g caps s b h h', hint := hShift }
theorem clok13 {g : FuncId} {caps : List AV} {s : Int} {b : Bool} {h h' : Heap} (hc : ACall Tryd.prog G0 65 [U s, .row [.fn g [] caps] 0] h (.bool b) h') : ClOk Tryd.prog G0 (E13 g caps s b h h') := by
  refine .all hShift_ok.ok ?_ (fun l xs σ t v σ' h => (by cases h)) (fun f xs t v h hs σ => cl13_ok h hs σ)
  intro f xs σ t v σ' hq hs
  replace hq : cl65h g caps s b h h' f xs σ = some t := hq
  unfold cl65h at hq
  split at hq <;> first | (cases hq; done) | skip
  cases hq
  obtain ⟨⟨rfl, rfl⟩, hs2⟩ := Tree.of_need hs
  cases hs2
  exact hc

/-! ### Core -/
def coreLoop {S : Type} (stp : S → Nat → Bool × S) : Nat → Nat → S → Nat × S
  | 0, s, st => (s, st)
  | x + 1, s, st => coreLoop stp x (if (stp st (del s x)).1 then del s x else s) (stp st (del s x)).2
/-- What Core finds, by a function that says what cannot be fulfilled. -/
def coreS {S : Type} (stp : S → Nat → Bool × S) (n : Nat) (st : S) : Option Nat × S :=
  if (stp st (2 ^ n - 1)).1 then (some (coreLoop stp n (2 ^ n - 1) (stp st (2 ^ n - 1)).2).1, (coreLoop stp n (2 ^ n - 1) (stp st (2 ^ n - 1)).2).2) else (none, (stp st (2 ^ n - 1)).2)
theorem coreLoop_lt {S : Type} {stp : S → Nat → Bool × S} : ∀ (x s : Nat) (st : S), s < 2 ^ 64 → (coreLoop stp x s st).1 < 2 ^ 64
  | 0, s, st, h => h
  | x + 1, s, st, h => by
    unfold coreLoop
    split
    · exact coreLoop_lt x _ _ (del_lt h)
    · exact coreLoop_lt x _ _ h

def st13 (g : FuncId) (caps : List AV) (s x : Int) (h : Heap) : St := .of 41 h [(7, .fn 65 [] [.row [.fn g [] caps] 0], true), (8, U s, true), (9, I x, true)]
def stE13 (s : Int) (h : Heap) : St := .of 41 h [(8, U s, true)]
noncomputable def body13 : Code := (loopsOf (bodyOf Tryd.prog 13)).headD .skip
def arg13 (s x : Int) : Int := uandNot s (ushl 1 x)
theorem run13 (g : FuncId) (caps : List AV) (s x s1 : Int) (b : Bool) (h h' : Heap) : xBody Tryd.prog G0 (E13 g caps s1 b h h') 200 noLoops [7, 8, 9] body13 (st13 g caps s x h) =
    .ite (decide (x ≥ 0)) (.need (0 ≤ x) (.need ([U (arg13 s x), .row [.fn g [] caps] 0] = [U s1, .row [.fn g [] caps] 0] ∧ h = h) (.ite b (.leaf (.normal, st13 g caps (arg13 s x) (IntKind.i64.wrap (x - 1)) h'))
      (.leaf (.normal, st13 g caps s (IntKind.i64.wrap (x - 1)) h'))))) (.leaf (.exit 0, st13 g caps s x h)) := by kernel_rfl
theorem run13x (g : FuncId) (caps : List AV) (s x s1 : Int) (b : Bool) (h h' : Heap) : xBody Tryd.prog G0 (E13 g caps s1 b h h') 200 noLoops [8] body13 (st13 g caps s x h) =
    .ite (decide (x ≥ 0)) (.need (0 ≤ x) (.need ([U (arg13 s x), .row [.fn g [] caps] 0] = [U s1, .row [.fn g [] caps] 0] ∧ h = h) (.ite b (.leaf (.normal, stE13 (arg13 s x) h'))
      (.leaf (.normal, stE13 s h'))))) (.leaf (.exit 0, stE13 s h)) := by kernel_rfl
theorem arg13_nat {s x : Nat} (hs : s < 2 ^ 64) (hx : x < 64) : arg13 s x = (del s x : Nat) := by
  unfold arg13
  rw [ushl_one hx, uandNot_nat hs (Nat.pow_lt_pow_right (by omega) hx)]
  rfl
section
variable {S : Type} {g : FuncId} {caps : List AV} {hp : S → Heap} {stp : S → Nat → Bool × S}
/-- Asked for a set that cannot be fulfilled. -/
def badS (stp : S → Nat → Bool × S) : S → Nat → Bool × S := fun st s => (!(stp st s).1, (stp st s).2)
theorem loop13 (hf : FulOk g caps hp stp) {R : Option Nat → Prop} : ∀ (x s : Nat) (st : S), x ≤ 64 → s < 2 ^ 64 →
    ALoopRun Tryd.prog G0 R body13 { tmps := (st13 g caps s ((x : Int) - 1) (hp st)).a } (hp st) (.exit 0) { tmps := (stE13 (coreLoop (badS stp) x s st).1 (hp (coreLoop (badS stp) x s st).2)).a } (hp (coreLoop (badS stp) x s st).2)
  | 0, s, st, hx, hs => by
    refine .stop (xBody_ok (m := []) names mixed (clok13 (c65 hf st s trivial hs)) (lpNo body13) (n := 200) (keep := [8]) (st := st13 g caps s ((0 : Nat) - 1 : Int) (hp st)) (st' := stE13 s (hp st)) ?_).1 nofun
    rw [run13x]; rfl
  | x + 1, s, st, hx, hs => by
    have hc := c65 hf st (del s x) trivial (del_lt hs)
    have ih := loop13 (R := R) hf x (if (badS stp st (del s x)).1 then del s x else s) (badS stp st (del s x)).2 (by omega) (by split; exact del_lt hs; exact hs)
    unfold coreLoop
    change ACall _ _ _ _ _ (.bool (badS stp st (del s x)).1) (hp (badS stp st (del s x)).2) at hc
    generalize badS stp st (del s x) = q at hc ih
    obtain ⟨b, st'⟩ := q
    simp only at hc ih ⊢
    refine .next (xBody_ok (m := []) names mixed (clok13 hc) (lpNo body13) (n := 200) (keep := [7, 8, 9]) (st := st13 g caps s (((x + 1 : Nat) : Int) - 1) (hp st)) (st' := st13 g caps ((if b = true then del s x else s : Nat) : Int) ((x : Int) - 1) (hp st')) ?_).1 ih
    have e : ((x + 1 : Nat) : Int) - 1 = (x : Int) := by omega
    have hw : IntKind.i64.wrap ((x : Int) - 1) = (x : Int) - 1 := wrap_i64 (by omega) (by omega)
    rw [e, run13, selI, decide_eq_true (by omega), cond_true, Tree.sel_need (by omega), arg13_nat hs (by omega), Tree.sel_need ⟨rfl, rfl⟩, selI, hw]
    cases b <;> rfl
def lp13 (n : Int) (g : FuncId) (caps : List AV) (s : Int) (h : Heap) (t : Tree (Exit × St)) : Loops := fun id => match id with
  | 9 => some ([7, 8, 9], st13 g caps s (IntKind.i64.wrap (n - 1)) h, t)
  | _ => none
theorem loops13 : loopsOf (bodyOf Tryd.prog 13) = [body13] := by kernel_rfl
theorem id13 : idOf body13 = 9 := by kernel_rfl
theorem runF13 (n : Int) (g : FuncId) (caps : List AV) (s s' : Int) (b : Bool) (h h' h'' : Heap) : xenter Tryd.prog (E13 g caps s b h h') (xCode Tryd.prog G0 (E13 g caps s b h h') 200 (lp13 n g caps s h' (.leaf (.exit 0, stE13 s' h'')))) 13 [I n, .fn g [] caps] [true, true] h =
    .ite (askE n 64 != 0) (.leaf (.tup [.zs, I (askE n 64)], true, h)) (.need (0 ≤ n ∧ n ≤ 64) (.need ([U (2 ^ n.toNat - 1 : Nat), .row [.fn g [] caps] 0] = [U s, .row [.fn g [] caps] 0] ∧ h = h)
      (.ite (!b) (.leaf (.tup [.zs, I 7], false, h')) (.need ((st13 g caps (2 ^ n.toNat - 1 : Nat) (IntKind.i64.wrap (n - 1)) h').vals = (st13 g caps s (IntKind.i64.wrap (n - 1)) h').vals) (.need (0 ≤ s' ∧ s' < 18446744073709551616)
        (.leaf (.tup [flN (bitsL s'.toNat), I 0], true, h''))))))) := by kernel_rfl
theorem runF13e (n : Int) (g : FuncId) (caps : List AV) (s : Int) (b : Bool) (h h' : Heap) : xenter Tryd.prog (E13 g caps s b h h') (xCode Tryd.prog G0 (E13 g caps s b h h') 200 (lp13 n g caps s h' .fail)) 13 [I n, .fn g [] caps] [true, true] h =
    .ite (askE n 64 != 0) (.leaf (.tup [.zs, I (askE n 64)], true, h)) (.need (0 ≤ n ∧ n ≤ 64) (.need ([U (2 ^ n.toNat - 1 : Nat), .row [.fn g [] caps] 0] = [U s, .row [.fn g [] caps] 0] ∧ h = h)
      (.ite (!b) (.leaf (.tup [.zs, I 7], false, h')) (.need ((st13 g caps (2 ^ n.toNat - 1 : Nat) (IntKind.i64.wrap (n - 1)) h').vals = (st13 g caps s (IntKind.i64.wrap (n - 1)) h').vals) .fail)))) := by kernel_rfl
theorem lpok13 {n : Int} {s : Int} {h : Heap} {t : Tree (Exit × St)} (hx : ∀ e st', t.sel = some (e, st') → AExec Tryd.prog G0 (fun r => r = none) (.loop body13) { tmps := (st13 g caps s (IntKind.i64.wrap (n - 1)) h).a } h e { tmps := st'.a } st'.h ∧ st'.n = 41) :
    LoopsOk Tryd.prog G0 (fun r => r = none) [] (lp13 n g caps s h t) (bodyOf Tryd.prog 13) := by
  refine .of_list _ fun x hm => ?_
  rw [loops13] at hm
  obtain rfl := List.mem_singleton.1 hm
  intro keep s0 t' e st' h' hsel
  rw [id13] at h'
  cases h'
  exact hx e st' hsel
/-- The set that Core returns, as a list, and its error. -/
def coreR (o : Option Nat) : AV := match o with
  | some s => .tup [flN (bitsL s), I 0]
  | none => resL [] 7
theorem c13e (hf : FulOk g caps hp stp) {n : Int} (hn : n < 0 ∨ n > 64) (st : S) : ACall Tryd.prog G0 13 [I n, .fn g [] caps] (hp st) (resL [] 2) (hp st) := by
  have hc := c65 hf st 0 trivial (by omega)
  have sel : (xenter Tryd.prog (E13 g caps (0 : Nat) (!(stp st 0).1) (hp st) (hp (stp st 0).2)) (xCode Tryd.prog G0 (E13 g caps (0 : Nat) (!(stp st 0).1) (hp st) (hp (stp st 0).2)) 200 (lp13 n g caps (0 : Nat) (hp (stp st 0).2) .fail)) 13 [I n, .fn g [] caps] [true, true] (hp st)).sel = some (.tup [.zs, I 2], true, hp st) := by
    rw [runF13e n g caps (0 : Nat) (!(stp st 0).1) (hp st) (hp (stp st 0).2), selI]
    have : askE n 64 = 2 := by
      unfold askE
      by_cases h : n < 0
      · rw [decide_eq_true h]; rfl
      · rw [decide_eq_false h, decide_eq_true (by omega)]; rfl
    rw [this]; rfl
  exact (ACall.find (clok13 hc) (lpok13 fun e st' h => by cases h) sel).resZs
theorem c13 (hf : FulOk g caps hp stp) {n : Nat} (hn : n ≤ 64) (st : S) : ACall Tryd.prog G0 13 [I n, .fn g [] caps] (hp st) (coreR (coreS (badS stp) n st).1) (hp (coreS (badS stp) n st).2) := by
  have h64 : 2 ^ n - 1 < 2 ^ 64 := by
    have := Nat.pow_le_pow_right (n := 2) (by omega) hn
    have := Nat.two_pow_pos n
    omega
  have hc := c65 hf st (2 ^ n - 1) trivial h64
  have ha : askE n 64 = 0 := by unfold askE; rw [decide_eq_false (by omega), decide_eq_false (by omega)]; rfl
  have hw : IntKind.i64.wrap ((n : Int) - 1) = (n : Int) - 1 := wrap_i64 (by omega) (by omega)
  change ACall _ _ _ _ _ (.bool (badS stp st (2 ^ n - 1)).1) (hp (badS stp st (2 ^ n - 1)).2) at hc
  have hl := loop13 (R := fun r => r = none) hf n (2 ^ n - 1) (badS stp st (2 ^ n - 1)).2 hn h64
  have hlt := coreLoop_lt (stp := badS stp) n (2 ^ n - 1) (badS stp st (2 ^ n - 1)).2 h64
  unfold coreS
  generalize badS stp st (2 ^ n - 1) = q at hc hl hlt
  obtain ⟨b, st1⟩ := q
  simp only at hc hl hlt ⊢
  cases b with
  | false =>
    have sel : (xenter Tryd.prog (E13 g caps (2 ^ n - 1 : Nat) false (hp st) (hp st1)) (xCode Tryd.prog G0 (E13 g caps (2 ^ n - 1 : Nat) false (hp st) (hp st1)) 200 (lp13 n g caps (2 ^ n - 1 : Nat) (hp st1) .fail)) 13 [I n, .fn g [] caps] [true, true] (hp st)).sel = some (.tup [.zs, I 7], false, hp st1) := by
      rw [runF13e, selI, ha, bne_self_eq_false, cond_false, Tree.sel_need ⟨by omega, by omega⟩, Int.toNat_natCast, Tree.sel_need ⟨rfl, rfl⟩]
      rfl
    exact (ACall.find (clok13 hc) (lpok13 fun e st' h => by cases h) sel).resZs
  | true =>
    generalize coreLoop (badS stp) n (2 ^ n - 1) st1 = q2 at hl hlt
    obtain ⟨s', st2⟩ := q2
    simp only at hl hlt ⊢
    have sel : (xenter Tryd.prog (E13 g caps (2 ^ n - 1 : Nat) true (hp st) (hp st1)) (xCode Tryd.prog G0 (E13 g caps (2 ^ n - 1 : Nat) true (hp st) (hp st1)) 200 (lp13 n g caps (2 ^ n - 1 : Nat) (hp st1) (.leaf (.exit 0, stE13 s' (hp st2))))) 13 [I n, .fn g [] caps] [true, true] (hp st)).sel = some (.tup [flN (bitsL s'), I 0], true, hp st2) := by
      rw [runF13, selI, ha, bne_self_eq_false, cond_false, Tree.sel_need ⟨by omega, by omega⟩, Int.toNat_natCast, Tree.sel_need ⟨rfl, rfl⟩, selI, Bool.not_true, cond_false, selR, Tree.sel_need ⟨by omega, by omega⟩, Int.toNat_natCast]
      rfl
    refine ACall.find (clok13 hc) (lpok13 fun e st' h => ?_) sel
    cases h
    rw [hw]
    exact ⟨.loop hl, rfl⟩
end

/-! ### Irreducible -/
def cl14 : FuncId → List AV → Option (Tree AV) := fun f xs => match f, xs with
  | 41, [.int .i64 n, .int .i64 m, .fn _ _ _] => some (.leaf (I (askE n m)))
  | 42, [.fn g xs ys] => some (.leaf (.fn 65 [] [.row [.fn g xs ys] 0]))
  | _, _ => none
def clh14 (n : Int) (L : AV) (g : FuncId) (caps : List AV) (s : Int) (ok : Bool) (b : Bool) (h h' : Heap) : FuncId → List AV → Heap → Option (Tree (AV × Heap)) := fun f xs h0 => match f with
  | 45 => some (.need (xs = [I n, L] ∧ h0 = h) (.leaf (.tup [U s, .bool ok], h)))
  | 46 => some (.need (xs = [U s, .fn 65 [] [.row [.fn g [] caps] 0]] ∧ h0 = h) (.leaf (.bool b, h')))
  | _ => none
def E14 (n : Int) (L : AV) (g : FuncId) (caps : List AV) (s : Int) (ok b : Bool) (h h' : Heap) : Env := { cl := cl14, clh := clh14 n L g caps s ok b h h' }
theorem clok14 {n : Int} {L : AV} {g : FuncId} {caps : List AV} {s : Int} {ok b : Bool} {h h' : Heap} (h45 : ACall Tryd.prog G0 45 [I n, L] h (.tup [U s, .bool ok]) h) (h46 : ACall Tryd.prog G0 46 [U s, .fn 65 [] [.row [.fn g [] caps] 0]] h (.bool b) h') : ClOk Tryd.prog G0 (E14 n L g caps s ok b h h') := by
  refine .all .none ?_ (fun l xs σ t v σ' h => (by cases h)) ?_
  · intro f xs σ t v σ' hq hs
    replace hq : clh14 n L g caps s ok b h h' f xs σ = some t := hq
    unfold clh14 at hq
    split at hq <;> first | (cases hq; done) | skip
    all_goals
      cases hq
      obtain ⟨⟨rfl, rfl⟩, hs2⟩ := Tree.of_need hs
      cases hs2
    · exact h45
    · exact h46
  · intro f xs t v hq hs σ
    replace hq : cl14 f xs = some t := hq
    unfold cl14 at hq
    split at hq <;> first | (cases hq; done) | skip
    · cases hq; cases hs; exact c41 _ _ _ _ _ σ
    · cases hq; cases hs; exact c42 _ _ _ σ
theorem run14 (n : Int) (L : AV) (g : FuncId) (caps : List AV) (s : Int) (ok b : Bool) (h h' : Heap) : xCall Tryd.prog G0 (E14 n L g caps s ok b h h') 200 14 [I n, L, .fn g [] caps] [true, true, true] h =
    .ite (askE n 64 != 0) (.leaf (.tup [.bool false, I (askE n 64)], true, h)) (.need ([I n, L] = [I n, L] ∧ h = h) (.ite (!ok) (.leaf (.tup [.bool false, I 2], false, h))
      (.need ([U s, .fn 65 [] [.row [.fn g [] caps] 0]] = [U s, .fn 65 [] [.row [.fn g [] caps] 0]] ∧ h = h) (.leaf (.tup [.bool b, I 0], true, h'))))) := by kernel_rfl
section
variable {S : Type} {g : FuncId} {caps : List AV} {hp : S → Heap} {stp : S → Nat → Bool × S}
theorem ofLoop_lt {n : Int} (hn : n ≤ 64) : ∀ (L : List Int) (last : Int) (s s' : Nat), -1 ≤ last → s < 2 ^ 64 → ofLoop n L last s = some s' → s' < 2 ^ 64
  | [], last, s, s', _, hs, h => by cases h; exact hs
  | x :: r, last, s, s', h0, hs, h => by
    unfold ofLoop at h
    split at h
    · cases h
    · exact ofLoop_lt hn r x _ s' (by omega) (Nat.or_lt_two_pow hs (Nat.pow_lt_pow_right (by omega) (by omega))) h
theorem ofL_lt {n : Int} (hn : n ≤ 64) {L : List Int} {s : Nat} (h : ofL n L = some s) : s < 2 ^ 64 := ofLoop_lt hn L (-1) 0 s (by omega) (by omega) h
/-- WHAT Irreducible RETURNS. -/
theorem c14 (hf : FulOk g caps hp stp) {n : Nat} (hn : n ≤ 64) {L : List Int} (hL : L.length < 9223372036854775807) (st : S) : ACall Tryd.prog G0 14 [I n, flL L, .fn g [] caps] (hp st)
    (match ofL n L with | some s => .tup [.bool (irrS (badS stp) st s).1, I 0] | none => .tup [.bool false, I 2]) (match ofL n L with | some s => hp (irrS (badS stp) st s).2 | none => hp st) := by
  have h45 := c45 (n := n) (by omega) hL (hp st)
  have ha : askE n 64 = 0 := by unfold askE; rw [decide_eq_false (by omega), decide_eq_false (by omega)]; rfl
  cases ho : ofL n L with
  | none =>
    rw [ho] at h45
    refine xCall_ok (n := 200) (tags := [true, true, true]) (s := false) names mixed (clok14 (g := g) (caps := caps) h45 (c46 (c65 hf) (s := 0) (by omega) trivial (fun _ _ => trivial) st)) ?_
    rw [run14, selI, ha, bne_self_eq_false, cond_false, Tree.sel_need ⟨rfl, rfl⟩]
    rfl
  | some s =>
    rw [ho] at h45
    refine xCall_ok (n := 200) (tags := [true, true, true]) (s := true) names mixed (clok14 (g := g) (caps := caps) h45 (c46 (c65 hf) (ofL_lt (by omega) ho) trivial (fun _ _ => trivial) st)) ?_
    rw [run14, selI, ha, bne_self_eq_false, cond_false, Tree.sel_need ⟨rfl, rfl⟩, selI]
    exact Tree.sel_need ⟨rfl, rfl⟩
theorem cl14_ok {f : FuncId} {xs : List AV} {t : Tree AV} {v : AV} (hq : cl14 f xs = some t) (hs : t.sel = some v) (σ : Heap) : ACall Tryd.prog G0 f xs σ v σ := by
  unfold cl14 at hq
  split at hq <;> first | (cases hq; done) | skip
  · cases hq; cases hs; exact c41 _ _ _ _ _ σ
  · cases hq; cases hs; exact c42 _ _ _ σ
/-- All other calls: nothing is said. -/
def failH : FuncId → List AV → Heap → Option (Tree (AV × Heap)) := fun _ _ _ => some .fail
theorem failH_ok : ∀ f xs σ t v σ', failH f xs σ = some t → t.sel = some (v, σ') → ACall Tryd.prog G0 f xs σ v σ' := fun f xs σ t v σ' h hs => by cases h; cases hs
def E14e : Env := { cl := cl14, clh := failH }
theorem c14e {n : Int} (hn : n < 0 ∨ n > 64) (L : AV) (g : FuncId) (xs ys : List AV) (h : Heap) : ACall Tryd.prog G0 14 [I n, L, .fn g xs ys] h (.tup [.bool false, I 2]) h := by
  have ha : askE n 64 = 2 := by
    unfold askE
    by_cases h : n < 0
    · rw [decide_eq_true h]; rfl
    · rw [decide_eq_false h, decide_eq_true (by omega)]; rfl
  have run : xCall Tryd.prog G0 E14e 200 14 [I n, L, .fn g xs ys] [true, true, true] h = .ite (askE n 64 != 0) (.leaf (.tup [.bool false, I (askE n 64)], true, h)) .fail := by kernel_rfl
  refine xCall_ok (n := 200) (tags := [true, true, true]) (s := true) names mixed (ClOk.all (E := E14e) .none failH_ok (fun l xs σ t v σ' h => (by cases h)) fun f xs t v h hs σ => cl14_ok h hs σ) ?_
  rw [run, ha]; rfl
end
end Go.Proofs.YtjljigccgaadaaaDoor.Am
