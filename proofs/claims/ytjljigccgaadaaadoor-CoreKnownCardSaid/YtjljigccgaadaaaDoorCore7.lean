/-
  This file proves nothing of a law. It says which sets core.ordered yields, and in which order. Condition: at most 63 numbers, and rounds that always ask for more.
-/
import Derived.Test.YtjljigccgaadaaaDoorCore6
namespace Go.Proofs.YtjljigccgaadaaaDoor.Am
open Go
set_option maxRecDepth 100000

/-- A load of a one-cell variable of an own object. -/
def hLd (t : TypeId) (v : AV) : Heap → Oper → (Operand → Option AV) → Option (AV × Bool × Heap × Prop) := fun h o ρ => match o.op with
  | .load t' x => if t' = t then (match ρ x with
    | some (.ref r g 0) => some (v, true, h, objAt h r g = some [v])
    | _ => none) else none
  | _ => none
theorem hLd_ok {t : TypeId} {d : TypeDesc} (hu : Tryd.prog.underlying t = some d) (hd : aggD d = false) (v : AV) : HintA Tryd.prog (hLd t v) := by
  intro h o ρ y s h' p hh hp
  unfold hLd at hh
  split at hh
  · rename_i t' x ho
    split at hh
    · rename_i ht
      subst ht
      split at hh
      · rename_i r g hx
        cases hh
        unfold aopR
        simp only [ho, hx, Option.bind_some, aLoad, hp]
        unfold Am.cut
        rw [hu]
        simp only [hd, Bool.false_eq_true, if_false]
        rfl
      · cases hh
    · cases hh
  · cases hh

/-- The sets of k of the numbers from x on, d of them, and those of s: in their order. -/
def seqD : Nat → Nat → Nat → Nat → List Nat
  | _, 0, _, s => [s]
  | 0, _ + 1, _, _ => []
  | d + 1, k + 1, x, s => seqD d k (x + 1) (s ||| 2 ^ x) ++ seqD d (k + 1) (x + 1) s
theorem seqD_many : ∀ (d k x s : Nat), d < k → seqD d k x s = []
  | 0, k + 1, x, s, _ => rfl
  | d + 1, k + 1, x, s, h => by
    unfold seqD
    rw [seqD_many d k _ _ (by omega), seqD_many d (k + 1) _ _ (by omega)]
    rfl
theorem seqD_lt : ∀ (d k x s n : Nat), x + d ≤ n → s < 2 ^ n → ∀ t ∈ seqD d k x s, t < 2 ^ n
  | d, 0, x, s, n, _, hs, t, ht => by
    have : t = s := by cases d <;> simpa [seqD] using ht
    rw [this]; exact hs
  | 0, k + 1, x, s, n, _, _, t, ht => by cases ht
  | d + 1, k + 1, x, s, n, h, hs, t, ht => by
    unfold seqD at ht
    rcases List.mem_append.1 ht with ht | ht
    · exact seqD_lt d k (x + 1) _ n (by omega) (Nat.or_lt_two_pow hs (Nat.pow_lt_pow_right (by omega) (by omega))) t ht
    · exact seqD_lt d (k + 1) (x + 1) s n (by omega) hs t ht

/-- The closure in the variable 'more'. -/
def clos (l q : Nat) (n : Int) : AV := .fn 78 [] [.row [.yf l] 0, .row [I n] 0, .ref q 0 0]
def cyO (l : Nat) (s : Int) (h h' : Heap) : Nat → List AV → Heap → Option (Tree (AV × Heap)) := fun l' xs h0 => some (.need (l' = l ∧ xs = [U s] ∧ h0 = h) (.leaf (.bool true, h')))
def clhO (l q : Nat) (n s x k : Int) (h h' : Heap) : FuncId → List AV → Heap → Option (Tree (AV × Heap)) := fun f xs h0 => match f with
  | 78 => some (.need (xs = [U s, I x, I k, .row [.yf l] 0, .row [I n] 0, .ref q 0 0] ∧ h0 = h) (.leaf (.bool true, h')))
  | _ => none
def EOb (l q : Nat) (n s x k : Int) (h h' : Heap) : Env := { hint := orH hShift (hLd 96 (clos l q n)), clh := clhO l q n s x k h h' }
def EOf (l : Nat) (ys : Int) (h h' : Heap) : Env := { cy := cyO l ys h h' }
theorem clokOb {l q : Nat} {n s x k : Int} {h h' : Heap} (hc : ACall Tryd.prog G0 78 [U s, I x, I k, .row [.yf l] 0, .row [I n] 0, .ref q 0 0] h (.bool true) h') : ClOk Tryd.prog G0 (EOb l q n s x k h h') := by
  refine .all (hShift_ok.ok.or (hLd_ok Tryd.underlying96 rfl _).ok) ?_ (fun l xs σ t v σ' h => (by cases h)) (fun f xs t v h => (by cases h))
  intro f xs σ t v σ' hq hs
  replace hq : clhO l q n s x k h h' f xs σ = some t := hq
  unfold clhO at hq
  split at hq <;> first | (cases hq; done) | skip
  cases hq
  obtain ⟨⟨rfl, rfl⟩, hs2⟩ := Tree.of_need hs
  cases hs2
  exact hc
theorem clokOf {l : Nat} {ys : Int} {h h' : Heap} (hy : AYield Tryd.prog G0 l [U ys] h (.bool true) h') : ClOk Tryd.prog G0 (EOf l ys h h') := by
  refine .all .none (fun f xs σ t v σ' h => (by cases h)) ?_ (fun f xs t v h => (by cases h))
  intro l' xs σ t v σ' hq hs
  replace hq : cyO l ys h h' l' xs σ = some t := hq
  unfold cyO at hq
  cases hq
  obtain ⟨⟨rfl, rfl, rfl⟩, hs2⟩ := Tree.of_need hs
  cases hs2
  exact hy

def st78 (l q : Nat) (n s x k : Int) (h : Heap) : St := .of 33 h [(0, U s, true), (1, I x, true), (2, I k, true), (3, .row [.yf l] 0, true), (4, .row [I n] 0, true), (5, .ref q 0 0, true)]
def stE78 (h : Heap) : St := .of 33 h []
noncomputable def body78 : Code := (loopsOf (bodyOf Tryd.prog 78)).headD .skip
def need78 (l q : Nat) (n : Int) (h : Heap) : Prop := objAt h q 0 = some [clos l q n]
theorem run78 (l q : Nat) (n s x k s' x' k' : Int) (h h' : Heap) : xBody Tryd.prog G0 (EOb l q n s' x' k' h h') 200 noLoops [0, 1, 2, 3, 4, 5] body78 (st78 l q n s x k h) =
    .ite (decide (IntKind.i64.wrap (x + k) ≤ n)) (.need (need78 l q n h) (.need (0 ≤ x) (.need ([U (uor s (ushl 1 x)), I (IntKind.i64.wrap (x + 1)), I (IntKind.i64.wrap (k - 1)), .row [.yf l] 0, .row [I n] 0, .ref q 0 0] = [U s', I x', I k', .row [.yf l] 0, .row [I n] 0, .ref q 0 0] ∧ h = h)
      (.ite (!true) (.leaf (.ret, st78 l q n s x k h')) (.leaf (.normal, st78 l q n s (IntKind.i64.wrap (x + 1)) k h')))))) (.leaf (.exit 0, st78 l q n s x k h)) := by kernel_rfl
theorem run78x (l q : Nat) (n s x k s' x' k' : Int) (h h' : Heap) : xBody Tryd.prog G0 (EOb l q n s' x' k' h h') 200 noLoops [] body78 (st78 l q n s x k h) =
    .ite (decide (IntKind.i64.wrap (x + k) ≤ n)) (.need (need78 l q n h) (.need (0 ≤ x) (.need ([U (uor s (ushl 1 x)), I (IntKind.i64.wrap (x + 1)), I (IntKind.i64.wrap (k - 1)), .row [.yf l] 0, .row [I n] 0, .ref q 0 0] = [U s', I x', I k', .row [.yf l] 0, .row [I n] 0, .ref q 0 0] ∧ h = h)
      (.ite (!true) (.leaf (.ret, stE78 h')) (.leaf (.normal, stE78 h')))))) (.leaf (.exit 0, stE78 h)) := by kernel_rfl
def EOx (l q : Nat) (n : Int) : Env := { hint := orH hShift (hLd 96 (clos l q n)), clh := failH }
theorem clokOx (l q : Nat) (n : Int) : ClOk Tryd.prog G0 (EOx l q n) := .all (hShift_ok.ok.or (hLd_ok Tryd.underlying96 rfl _).ok) failH_ok (fun l xs σ t v σ' h => (by cases h)) (fun f xs t v h => (by cases h))
theorem run78e (l q : Nat) (n s x k : Int) (h : Heap) : xBody Tryd.prog G0 (EOx l q n) 200 noLoops [] body78 (st78 l q n s x k h) =
    .ite (decide (IntKind.i64.wrap (x + k) ≤ n)) (.need (need78 l q n h) (.need (0 ≤ x) .fail)) (.leaf (.exit 0, stE78 h)) := by kernel_rfl
def lp78 (l q : Nat) (n s x k : Int) (h : Heap) (t : Tree (Exit × St)) : Loops := fun id => match id with
  | 3 => some ([0, 1, 2, 3, 4, 5], st78 l q n s x k h, t)
  | _ => none
theorem loops78 : loopsOf (bodyOf Tryd.prog 78) = [body78] := by kernel_rfl
theorem id78 : idOf body78 = 3 := by kernel_rfl
theorem lpok78 {l q : Nat} {n s x k : Int} {h : Heap} {t : Tree (Exit × St)} (hx : ∀ e st', t.sel = some (e, st') → AExec Tryd.prog G0 (fun r => r = none) (.loop body78) { tmps := (st78 l q n s x k h).a } h e { tmps := st'.a } st'.h ∧ st'.n = 33) :
    LoopsOk Tryd.prog G0 (fun r => r = none) [] (lp78 l q n s x k h t) (bodyOf Tryd.prog 78) := by
  refine .of_list _ fun x hm => ?_
  rw [loops78] at hm
  obtain rfl := List.mem_singleton.1 hm
  intro keep s0 t' e st' h' hsel
  rw [id78] at h'
  cases h'
  exact hx e st' hsel
theorem runF78 (l q : Nat) (n s x k ys : Int) (h h' h'' : Heap) : xenter Tryd.prog (EOf l ys h h') (xCode Tryd.prog G0 (EOf l ys h h') 200 (lp78 l q n s x k h (.leaf (.exit 0, stE78 h'')))) 78 [U s, I x, I k, .row [.yf l] 0, .row [I n] 0, .ref q 0 0] [true, true, true, true, true, true] h =
    .ite (k == 0) (.need (l = l ∧ [U s] = [U ys] ∧ h = h) (.leaf (.bool true, true, h'))) (.need ((st78 l q n s x k h).vals = (st78 l q n s x k h).vals) (.leaf (.bool true, false, h''))) := by kernel_rfl
theorem runF78e (l q : Nat) (n s x k ys : Int) (h h' : Heap) : xenter Tryd.prog (EOf l ys h h') (xCode Tryd.prog G0 (EOf l ys h h') 200 (lp78 l q n s x k h .fail)) 78 [U s, I x, I k, .row [.yf l] 0, .row [I n] 0, .ref q 0 0] [true, true, true, true, true, true] h =
    .ite (k == 0) (.need (l = l ∧ [U s] = [U ys] ∧ h = h) (.leaf (.bool true, true, h'))) (.need ((st78 l q n s x k h).vals = (st78 l q n s x k h).vals) .fail) := by kernel_rfl
theorem runF78k (l q : Nat) (n s x : Int) (k : Nat) (h h'' : Heap) : xenter Tryd.prog {} (xCode Tryd.prog G0 {} 200 (lp78 l q n s x ((k + 1 : Nat) : Int) h (.leaf (.exit 0, stE78 h'')))) 78 [U s, I x, I ((k + 1 : Nat) : Int), .row [.yf l] 0, .row [I n] 0, .ref q 0 0] [true, true, false, true, true, true] h =
    .need ((st78 l q n s x ((k + 1 : Nat) : Int) h).vals = (st78 l q n s x ((k + 1 : Nat) : Int) h).vals) (.leaf (.bool true, false, h'')) := by kernel_rfl

section
variable {S : Type} {Hs : S → Heap} {yst : S → Nat → S} {l q n : Nat} {Good : Nat → S → Prop}
/-- The rounds always ask for more, so many rounds as Good says. -/
structure YOk (l n : Nat) (Hs : S → Heap) (yst : S → Nat → S) (Good : Nat → S → Prop) : Prop where
  y : ∀ (c : Nat) (st : S) (s : Nat), Good (c + 1) st → s < 2 ^ n → AYield Tryd.prog G0 l [U s] (Hs st) (.bool true) (Hs (yst st s))
  g : ∀ (c : Nat) (st : S) (s : Nat), Good (c + 1) st → s < 2 ^ n → Good c (yst st s)
theorem YOk.fold (h : YOk l n Hs yst Good) : ∀ (L : List Nat) (c : Nat) (st : S), (∀ s ∈ L, s < 2 ^ n) → Good (c + L.length) st → Good c (L.foldl yst st)
  | [], c, st, _, hg => hg
  | s :: L, c, st, hs, hg => h.fold L c _ (fun s hs' => hs s (by simp [hs'])) (h.g _ st s (by rw [List.length_cons, ← Nat.add_assoc] at hg; exact hg) (hs s (by simp)))
theorem c78 (hn : n ≤ 63) (hy : YOk l n Hs yst Good) (hq : ∀ st, need78 l q n (Hs st)) : ∀ (d k x s : Nat) (st : S) (c : Nat), x + d = n → k ≤ 1000 → s < 2 ^ n → Good (c + (seqD d k x s).length) st →
    ACall Tryd.prog G0 78 [U s, I x, I k, .row [.yf l] 0, .row [I n] 0, .ref q 0 0] (Hs st) (.bool true) (Hs ((seqD d k x s).foldl yst st)) := by
  intro d
  induction d using Nat.strongRecOn with
  | _ d ih =>
    intro k x s st c hx hk hs hgood
    cases k with
    | zero =>
      have e : seqD d 0 x s = [s] := by cases d <;> rfl
      rw [e] at hgood ⊢
      refine ACall.find (E := EOf l s (Hs st) (Hs (yst st s))) (lp := lp78 l q n s x (0 : Nat) (Hs st) .fail) (n := 200) (tags := [true, true, true, true, true, true]) (s := true) (clokOf (hy.y c st s hgood hs)) (lpok78 fun e st' h => by cases h) ?_
      rw [runF78e, selI]
      exact Tree.sel_need ⟨rfl, rfl, rfl⟩
    | succ k =>
      -- the loop
      have loop : ∀ (e x : Nat) (st : S), e ≤ d → x + e = n → Good (c + (seqD e (k + 1) x s).length) st → ALoopRun Tryd.prog G0 (fun r => r = none) body78 { tmps := (st78 l q n s x (k + 1 : Nat) (Hs st)).a } (Hs st) (.exit 0) { tmps := (stE78 (Hs ((seqD e (k + 1) x s).foldl yst st))).a } (Hs ((seqD e (k + 1) x s).foldl yst st)) := by
        intro e
        induction e with
        | zero =>
          intro x st _ hxe _
          refine .stop (xBody_ok (m := []) names mixed (clokOx l q n) (lpNo body78) (n := 200) (keep := []) (st := st78 l q n s x (k + 1 : Nat) (Hs st)) (st' := stE78 (Hs st)) ?_).1 nofun
          have hw : IntKind.i64.wrap ((x : Int) + ((k + 1 : Nat) : Int)) = (x + (k + 1) : Nat) := by rw [wrap_i64 (by omega) (by omega)]; omega
          rw [run78e, selI, hw, decide_eq_false (by omega)]
          rfl
        | succ e ihe =>
          intro x st hed hxe hgd
          have hw : IntKind.i64.wrap ((x : Int) + ((k + 1 : Nat) : Int)) = (x + (k + 1) : Nat) := by rw [wrap_i64 (by omega) (by omega)]; omega
          by_cases hke : k + 1 ≤ e + 1
          · have h2 : 2 ^ x < 2 ^ n := Nat.pow_lt_pow_right (by omega) (by omega)
            have hs2 : s ||| 2 ^ x < 2 ^ n := Nat.or_lt_two_pow hs h2
            have h64 : (2 : Nat) ^ n ≤ 2 ^ 63 := Nat.pow_le_pow_right (by omega) hn
            have es : seqD (e + 1) (k + 1) x s = seqD e k (x + 1) (s ||| 2 ^ x) ++ seqD e (k + 1) (x + 1) s := rfl
            rw [es, List.length_append, Nat.add_comm (seqD e k (x + 1) (s ||| 2 ^ x)).length, ← Nat.add_assoc] at hgd
            have hc := ih e (by omega) k (x + 1) (s ||| 2 ^ x) st (c + (seqD e (k + 1) (x + 1) s).length) (by omega) (by omega) hs2 hgd
            have hrest := ihe (x + 1) ((seqD e k (x + 1) (s ||| 2 ^ x)).foldl yst st) (by omega) (by omega) (hy.fold _ _ _ (seqD_lt e k (x + 1) _ n (by omega) hs2) hgd)
            rw [es, List.foldl_append]
            refine .next (xBody_ok (m := []) names mixed (clokOb hc) (lpNo body78) (n := 200) (keep := [0, 1, 2, 3, 4, 5]) (st := st78 l q n s x (k + 1 : Nat) (Hs st)) (st' := st78 l q n s (x + 1 : Nat) (k + 1 : Nat) (Hs ((seqD e k (x + 1) (s ||| 2 ^ x)).foldl yst st))) ?_).1 hrest
            have hw1 : IntKind.i64.wrap ((x : Int) + 1) = ((x + 1 : Nat) : Int) := wrap_i64 (by omega) (by omega)
            have hw2 : IntKind.i64.wrap (((k + 1 : Nat) : Int) - 1) = (k : Int) := by rw [wrap_i64 (by omega) (by omega)]; omega
            rw [run78, selI, hw, decide_eq_true (by omega), cond_true, Tree.sel_need (hq st), Tree.sel_need (by omega), ushl_one (by omega), uor_nat (by omega) (by omega), hw1, hw2, Tree.sel_need ⟨rfl, rfl⟩, selI]
            rfl
          · have es : seqD (e + 1) (k + 1) x s = [] := seqD_many _ _ _ _ (by omega)
            rw [es]
            refine .stop (xBody_ok (m := []) names mixed (clokOx l q n) (lpNo body78) (n := 200) (keep := []) (st := st78 l q n s x (k + 1 : Nat) (Hs st)) (st' := stE78 (Hs st)) ?_).1 nofun
            rw [run78e, selI, hw, decide_eq_false (by omega)]
            rfl
      have hl := loop d x st (Nat.le_refl _) hx hgood
      refine ACall.find (E := {}) (lp := lp78 l q n s x (k + 1 : Nat) (Hs st) (.leaf (.exit 0, stE78 (Hs ((seqD d (k + 1) x s).foldl yst st))))) (n := 200) (tags := [true, true, false, true, true, true]) (s := false) clok0 (lpok78 fun e st' h => ?_) ?_
      · cases h; exact ⟨.loop hl, rfl⟩
      · rw [runF78k]; exact selR.trans rfl
end
end Go.Proofs.YtjljigccgaadaaaDoor.Am
