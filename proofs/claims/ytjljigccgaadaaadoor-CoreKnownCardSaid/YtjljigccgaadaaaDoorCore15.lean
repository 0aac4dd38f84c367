/-
  This file proves nothing of a law. It says what the library's Equal, EqualFunc, Index and Contains return for lists that nobody changes. Condition: lists shorter than 2 to the 62.
-/
import Derived.Test.YtjljigccgaadaaaDoorCore14
namespace Go.Proofs.YtjljigccgaadaaaDoor.Am
open Go
set_option maxRecDepth 100000

/-! ### Loops that look for something -/
def lpS (i : Nat) (keep : List Nat) (S : St) (b : Bool) (r x : St) : Loops := fun id => bif Nat.beq id i then some (keep, S, .ite b (.leaf (.ret, r)) (.leaf (.exit 0, x))) else none
/-- A loop that goes over 0 to N - 1, and returns where it stops. -/
structure Scan (body : Code) (keep : List Nat) (N : Nat) (S R : Nat → St) (X : St) (stop : Nat → Bool) : Prop where
  n0 : ∀ k, (S k).n = (S 0).n
  nR : ∀ k, (R k).n = (S 0).n
  nX : X.n = (S 0).n
  run : ∀ k, k ≤ N → ∃ E, ClOk Tryd.prog G0 E ∧ (xBody Tryd.prog G0 E 200 noLoops keep body (S k)).sel = some (bif decide (k < N) then bif stop k then (.ret, R k) else (.normal, S (k + 1)) else (.exit 0, X))
section
variable {body : Code} {keep : List Nat} {N : Nat} {S R : Nat → St} {X : St} {stop : Nat → Bool}
def scanEnd (N p : Nat) (R : Nat → St) (X : St) : Exit × St := bif decide (p < N) then (.ret, R p) else (.exit 0, X)
theorem Scan.loop (hs : Scan body keep N S R X stop) {Rr : Option Nat → Prop} : ∀ (d k : Nat), k + d = N →
    ALoopRun Tryd.prog G0 Rr body { tmps := (S k).a } (S k).h (scanEnd N (fstStop stop d k) R X).1 { tmps := (scanEnd N (fstStop stop d k) R X).2.a } (scanEnd N (fstStop stop d k) R X).2.h
  | 0, k, hk => by
    obtain ⟨E, h1, h2⟩ := hs.run k (by omega)
    rw [decide_eq_false (by omega), cond_false] at h2
    simp only [fstStop]
    unfold scanEnd
    rw [decide_eq_false (by omega), cond_false]
    exact .stop (xBody_ok (m := []) names mixed h1 (lpNo body) h2).1 nofun
  | d + 1, k, hk => by
    obtain ⟨E, h1, h2⟩ := hs.run k (by omega)
    rw [decide_eq_true (by omega), cond_true] at h2
    unfold fstStop
    cases hp : stop k with
    | true =>
      rw [hp, cond_true] at h2
      simp only [if_true]
      unfold scanEnd
      rw [decide_eq_true (by omega), cond_true]
      exact .stop (xBody_ok (m := []) names mixed h1 (lpNo body) h2).1 nofun
    | false =>
      rw [hp, cond_false] at h2
      simp only [Bool.false_eq_true, if_false]
      exact .next (xBody_ok (m := []) names mixed h1 (lpNo body) h2).1 (hs.loop d (k + 1) (by omega))
theorem Scan.ok (hs : Scan body keep N S R X stop) {f : FuncId} {i : Nat} (hl : loopsOf (bodyOf Tryd.prog f) = [body]) (hi : idOf body = i) :
    LoopsOk Tryd.prog G0 (fun r => r = none) [] (lpS i keep (S 0) (decide (fstStop stop N 0 < N)) (R (fstStop stop N 0)) X) (bodyOf Tryd.prog f) := by
  refine .of_list _ fun x hm => ?_
  rw [hl] at hm
  obtain rfl := List.mem_singleton.1 hm
  intro kp s0 t e st' h' hsel
  rw [hi] at h'
  unfold lpS at h'
  rw [Nat.beq_refl, cond_true] at h'
  cases h'
  have key := hs.loop (Rr := fun r => r = none) N 0 (by omega)
  rw [selI] at hsel
  unfold scanEnd at key
  revert key hsel
  cases decide (fstStop stop N 0 < N) with
  | true => intro hsel key; cases hsel; exact ⟨.loop key, hs.nR _⟩
  | false => intro hsel key; cases hsel; exact ⟨.loop key, hs.nX⟩
end
/-- A loop that is not reached. -/
def lpF (i : Nat) (keep : List Nat) (S : St) : Loops := fun id => bif Nat.beq id i then some (keep, S, .fail) else none
theorem lpF_ok (i : Nat) (keep : List Nat) (S : St) (c : Code) : LoopsOk Tryd.prog G0 (fun r => r = none) [] (lpF i keep S) c := by
  refine .of_list _ fun x hm => ?_
  intro kp s0 t e st' h' hsel
  unfold lpF at h'
  cases hb : Nat.beq (idOf x) i with
  | true => rw [hb, cond_true] at h'; cases h'; cases hsel
  | false => rw [hb, cond_false] at h'; cases h'
theorem fstStop_at' {stop : Nat → Bool} : ∀ (d k : Nat), fstStop stop d k < k + d → stop (fstStop stop d k) = true
  | 0, k, h => by unfold fstStop at h; omega
  | d + 1, k, h => by
    unfold fstStop at h ⊢
    split
    · assumption
    · rename_i hk; rw [if_neg hk] at h; exact fstStop_at' d (k + 1) (by omega)
theorem fstStop_iff (stop : Nat → Bool) (N : Nat) : fstStop stop N 0 < N ↔ ∃ k, k < N ∧ stop k = true := by
  constructor
  · intro h; exact ⟨_, h, fstStop_at' N 0 (by omega)⟩
  · intro ⟨k, h1, h2⟩
    by_cases h : fstStop stop N 0 < N
    · exact h
    · have := fstStop_before (stop := stop) N 0 k (by omega) (by omega)
      rw [h2] at this; cases this

/-! ### Lists, read back -/
def unL : AV → List Int
  | .fl _ n r => (List.range n).map fun i => intOf ((r i).headD .junk)
  | _ => []
theorem unL_flL (L : List Int) : unL (flL L) = L := by
  apply List.ext_getElem?
  intro i
  simp only [unL, flL, List.getElem?_map]
  by_cases h : i < L.length
  · simp [h, List.getD_eq_getElem?_getD, intOf]
  · simp [h]

/-! ### Equal -/
noncomputable def body26 : Code := (loopsOf (bodyOf Tryd.prog 26)).headD .skip
def st26 (a b : List Int) (k : Int) (h : Heap) : St := .of 26 h [(0, flL a, true), (1, flL b, true), (4, .bool false, false), (12, I a.length, true), (13, I k, true)]
theorem run26 (a b : List Int) (k : Nat) (h : Heap) : xBody Tryd.prog G0 {} 200 noLoops [0, 1, 4, 12, 13] body26 (st26 a b k h) =
    .ite (decide ((k : Int) < a.length)) (.need (0 ≤ (k : Int) ∧ (k : Int) < a.length) (.need (0 ≤ (k : Int) ∧ (k : Int) < b.length) (.ite (a.getD (k : Int).toNat 0 != b.getD (k : Int).toNat 0) (.leaf (.ret, st26 a b k h)) (.leaf (.normal, st26 a b (IntKind.i64.wrap (k + 1)) h))))) (.leaf (.exit 0, st26 a b k h)) := by kernel_rfl
theorem scan26 {a b : List Int} (hl : a.length < 4611686018427387904) (he : a.length = b.length) (h : Heap) : Scan body26 [0, 1, 4, 12, 13] a.length (fun k => st26 a b k h) (fun k => st26 a b k h) (st26 a b a.length h) fun k => a.getD k 0 != b.getD k 0 := by
  refine ⟨fun _ => rfl, fun _ => rfl, rfl, fun k hk => ⟨{}, clok0, ?_⟩⟩
  rw [run26, selI]
  by_cases hlt : k < a.length
  · have hw : IntKind.i64.wrap ((k : Int) + 1) = ((k + 1 : Nat) : Int) := wrap_i64 (by omega) (by omega)
    rw [decide_eq_true (by omega), decide_eq_true hlt, cond_true, cond_true, Tree.sel_need ⟨by omega, by omega⟩, Tree.sel_need ⟨by omega, by omega⟩, Int.toNat_natCast, selI, hw]
    cases a.getD k 0 != b.getD k 0 <;> rfl
  · have : k = a.length := by omega
    subst this
    rw [decide_eq_false (by omega), decide_eq_false hlt]
    rfl
theorem loops26 : loopsOf (bodyOf Tryd.prog 26) = [body26] := by kernel_rfl
theorem id26 : idOf body26 = 4 := by kernel_rfl
theorem runF26 (a b : List Int) (h : Heap) (t : Bool) (p q : Int) : xenter Tryd.prog {} (xCode Tryd.prog G0 {} 200 (lpS 4 [0, 1, 4, 12, 13] (st26 a b 0 h) t (st26 a b p h) (st26 a b q h))) 26 [flL a, flL b] [true, true] h =
    .ite ((a.length : Int) != b.length) (.leaf (.bool false, false, h)) (.need ((st26 a b 0 h).vals = (st26 a b 0 h).vals) (.ite t (.leaf (.bool false, false, h)) (.leaf (.bool true, false, h)))) := by kernel_rfl
theorem list_eq_iff (a b : List Int) : a = b ↔ a.length = b.length ∧ ∀ k, k < a.length → a.getD k 0 = b.getD k 0 := by
  constructor
  · rintro rfl; exact ⟨rfl, fun _ _ => rfl⟩
  · intro ⟨h1, h2⟩
    apply List.ext_getElem h1
    intro k h3 h4
    have := h2 k h3
    simpa [List.getD_eq_getElem?_getD, h3, h4] using this
theorem c26 {a b : List Int} (hl : a.length < 4611686018427387904) (h : Heap) : ACall Tryd.prog G0 26 [flL a, flL b] h (.bool (a == b)) h := by
  by_cases he : a.length = b.length
  · have hs := scan26 hl he h
    refine .find (s := false) (n := 200) (tags := [true, true]) clok0 (hs.ok loops26 id26) ?_
    refine (congrArg Tree.sel (runF26 a b h _ _ _)).trans ?_
    rw [selI, bne_eq_false_iff_eq.2 (by omega : (a.length : Int) = b.length), cond_false, selR, selI]
    by_cases hp : fstStop (fun k => a.getD k 0 != b.getD k 0) a.length 0 < a.length
    · rw [decide_eq_true hp]
      obtain ⟨k, h1, h2⟩ := (fstStop_iff _ _).1 hp
      have : (a == b) = false := beq_eq_false_iff_ne.2 fun e => by subst e; simp at h2
      rw [this]; rfl
    · rw [decide_eq_false hp]
      have : a = b := (list_eq_iff a b).2 ⟨he, fun k hk => by
        have := fun h => hp ((fstStop_iff _ _).2 ⟨k, hk, h⟩)
        simpa using this⟩
      rw [this, beq_self_eq_true]; rfl
  · have run2 : xenter Tryd.prog {} (xCode Tryd.prog G0 {} 200 (lpF 4 [0, 1, 4, 12, 13] (st26 a b 0 h))) 26 [flL a, flL b] [true, true] h =
      .ite ((a.length : Int) != b.length) (.leaf (.bool false, false, h)) (.need ((st26 a b 0 h).vals = (st26 a b 0 h).vals) .fail) := by kernel_rfl
    refine .find (s := false) (n := 200) (tags := [true, true]) clok0 (lpF_ok 4 [0, 1, 4, 12, 13] (st26 a b 0 h) _) ?_
    rw [run2, selI, bne_iff_ne.2 (by omega : (a.length : Int) ≠ b.length)]
    have : (a == b) = false := beq_eq_false_iff_ne.2 fun e => he (by rw [e])
    rw [this]; rfl
end Go.Proofs.YtjljigccgaadaaaDoor.Am
