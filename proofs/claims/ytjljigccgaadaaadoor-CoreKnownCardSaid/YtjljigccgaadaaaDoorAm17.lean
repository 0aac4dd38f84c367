/-
  This file proves nothing of a law. It holds the forms in which the running machine is used: a function that leaves no object behind, a loop's body, a loop of which each round is known. No condition.
-/
import Derived.Test.YtjljigccgaadaaaDoorAm16
import Derived.KernelRfl
namespace Go.Proofs.YtjljigccgaadaaaDoor.Am
open Go
/-- A tree of truth values. -/
def Tree.toB : Tree AV → Bool
  | .leaf (.bool b) => b
  | .ite b x y => bif b then x.toB else y.toB
  | .need _ x => x.toB
  | _ => false
def Tree.allB : Tree AV → Bool
  | .leaf (.bool _) => true
  | .ite _ x y => x.allB && y.allB
  | _ => false
theorem Tree.sel_toB : ∀ {t : Tree AV}, t.allB = true → t.sel = some (.bool t.toB)
  | .leaf x, h => by cases x <;> first | rfl | cases h
  | .ite b x y, h => by
    simp only [Tree.allB, Bool.and_eq_true] at h
    cases b
    · exact Tree.sel_toB (t := y) h.2
    · exact Tree.sel_toB (t := x) h.1
  | .need _ _, h => by cases h
  | .fail, h => by cases h

section
variable (P : Program) (G : Nat → Option (List AV)) (E : Env)

/-- What a function gives, its objects made data. -/
def xPure (n : Nat) (lp : Loops) (f : FuncId) (xs : List AV) (tags : List Bool) : Tree AV :=
  (xenter P E (xCode P G E n lp) f xs tags []).bind fun r =>
    match freeze r.2.2 4 r.1 with
    | some v => .leaf v
    | none => .fail

/-- A piece of code, some temporaries of it. -/
def xBody (n : Nat) (lp : Loops) (keep : List Nat) (c : Code) (st : St) : Tree (Exit × St) :=
  (xCode P G E n lp c st).bind fun r => .leaf (r.1, r.2.only keep)
end

/-- The body of a function, and a loop in it. -/
def bodyOf (P : Program) (f : FuncId) : Code :=
  match P.funcs[f]? with
  | some fn => fn.body.getD .skip
  | none => .skip
/-- The loops of a code, from the outside to the inside, in the order of the text: their bodies. -/
def loopsOf : Code → List Code
  | .seq x y => loopsOf x ++ loopsOf y
  | .cond _ x y => loopsOf x ++ loopsOf y
  | .block _ x => loopsOf x
  | .loop x => x :: loopsOf x
  | _ => []

section
variable {P : Program} {G : Nat → Option (List AV)} {E : Env}

/-- One loop's fact. -/
def LoopOk (P : Program) (G : Nat → Option (List AV)) (R : Option Nat → Prop) (m : List Nat) (lp : Loops) (x : Code) : Prop :=
  ∀ keep s0 t e st', lp (idOf x) = some (keep, s0, t) → t.sel = some (e, st') → AExec P G R (.loop x) { tmps := s0.a, marks := m } s0.h e { tmps := st'.a, marks := m } st'.h ∧ st'.n = s0.n
theorem LoopsOk.of_list {R : Option Nat → Prop} {m : List Nat} {lp : Loops} : ∀ (c : Code), (∀ x ∈ loopsOf c, LoopOk P G R m lp x) → LoopsOk P G R m lp c
  | .seq x y, h => ⟨LoopsOk.of_list x fun z hz => h z (by simp [loopsOf, hz]), LoopsOk.of_list y fun z hz => h z (by simp [loopsOf, hz])⟩
  | .cond _ x y, h => ⟨LoopsOk.of_list x fun z hz => h z (by simp [loopsOf, hz]), LoopsOk.of_list y fun z hz => h z (by simp [loopsOf, hz])⟩
  | .block _ x, h => LoopsOk.of_list x fun z hz => h z (by simpa [loopsOf] using hz)
  | .loop x, h => ⟨h x (by simp [loopsOf]), LoopsOk.of_list x fun z hz => h z (by simp [loopsOf, hz])⟩
  | .skip, _ => trivial
  | .ret, _ => trivial
  | .exit _, _ => trivial
  | .region _ _ _, _ => trivial
  | .scope _, _ => trivial
  | .rangeFunc _ _ _ _, _ => trivial
  | .label _, _ => trivial
  | .goto _, _ => trivial
  | .refuse _, _ => trivial

theorem xPure_ok (hn : NamesOk P) (hm : P.follows .mixedOrders = true) (hcl : ClOk P G E) (hG : GBelow G) {lp : Loops} {n : Nat} {f : FuncId} (hlp : LoopsOk P G (fun r => r = none) [] lp (bodyOf P f))
    {xs : List AV} {tags : List Bool} {v : AV} (hx : (xPure P G E n lp f xs tags).sel = some v) (ha : ∀ x ∈ xs, Below 0 x) (σ : Heap) : ACall P G f xs σ v σ := by
  obtain ⟨⟨v0, s0, h0⟩, h1, h2⟩ := Tree.of_bind hx
  split at h2
  · rename_i v' hf
    cases h2
    have hfn : ∃ fn c, P.funcs[f]? = some fn ∧ fn.body = some c := by
      unfold xenter at h1
      split at h1
      · rename_i fn hfn
        split at h1
        · rename_i c hb; exact ⟨fn, c, hfn, hb⟩
        · cases h1
      · cases h1
    obtain ⟨fn, c, hfn, hb⟩ := hfn
    have hc : bodyOf P f = c := by unfold bodyOf; rw [hfn]; simp [hb]
    rw [hc] at hlp
    exact (xFn_ok hn hm hcl hfn hb hlp h1).lift hf hG ha σ
  · cases h2

/-- A function whose outcome is a truth value. -/
theorem xPure_bool (hn : NamesOk P) (hm : P.follows .mixedOrders = true) (hcl : ClOk P G E) (hG : GBelow G) {n : Nat} {f : FuncId} {xs : List AV} {tags : List Bool} {b : Bool} (hb : (xPure P G E n (fun _ => none) f xs tags).allB = true)
    (ht : (xPure P G E n (fun _ => none) f xs tags).toB = b) (ha : ∀ x ∈ xs, Below 0 x) (σ : Heap) : ACall P G f xs σ (.bool b) σ :=
  xPure_ok (lp := fun _ => none) (n := n) (tags := tags) hn hm hcl hG (LoopsOk.none _) (by rw [Tree.sel_toB hb, ht]) ha σ

theorem xBody_ok (hn : NamesOk P) (hm : P.follows .mixedOrders = true) (hcl : ClOk P G E) {R : Option Nat → Prop} {m : List Nat} {lp : Loops} {n : Nat} {keep : List Nat} {c : Code} {st : St} {e : Exit} {st' : St} (hlp : LoopsOk P G R m lp c)
    (hx : (xBody P G E n lp keep c st).sel = some (e, st')) : AExec P G R c { tmps := st.a, marks := m } st.h e { tmps := st'.a, marks := m } st'.h ∧ st'.n = st.n := by
  obtain ⟨⟨e0, st0⟩, h1, h2⟩ := Tree.of_bind hx
  cases h2
  obtain ⟨h3, h4⟩ := xCode_ok hn hm hcl n R m lp c st _ _ hlp h1
  exact ⟨h3.weak_post (a' := { tmps := st0.a, marks := m }) (St.only_le keep st0), h4⟩

/-- The first round, from k on, at which a loop stops. -/
def fstStop (stop : Nat → Bool) : Nat → Nat → Nat
  | 0, k => k
  | d + 1, k => if stop k then k else fstStop stop d (k + 1)

/-- A LOOP OF WHICH EACH ROUND IS KNOWN. -/
theorem loopN {R : Option Nat → Prop} {m : List Nat} {c : Code} {S : Nat → St} {X : Nat → Exit × St} {stop : Nat → Bool} {N : Nat}
    (hs : ∀ k, k ≤ N → stop k = true → AExec P G R c { tmps := (S k).a, marks := m } (S k).h (X k).1 { tmps := (X k).2.a, marks := m } (X k).2.h ∧ (X k).1 ≠ .normal)
    (hx : ∀ k, k < N → stop k = false → AExec P G R c { tmps := (S k).a, marks := m } (S k).h .normal { tmps := (S (k + 1)).a, marks := m } (S (k + 1)).h) (hN : stop N = true) :
    ∀ (d k : Nat), k + d = N → ALoopRun P G R c { tmps := (S k).a, marks := m } (S k).h (X (fstStop stop d k)).1 { tmps := (X (fstStop stop d k)).2.a, marks := m } (X (fstStop stop d k)).2.h
  | 0, k, h => by
    have : k = N := by omega
    subst this
    obtain ⟨h1, h2⟩ := hs k (Nat.le_refl k) hN
    exact .stop h1 h2
  | d + 1, k, h => by
    unfold fstStop
    cases hk : stop k with
    | true =>
      obtain ⟨h1, h2⟩ := hs k (by omega) hk
      simp only [if_true]
      exact .stop h1 h2
    | false =>
      simp only [Bool.false_eq_true, if_false]
      exact .next (hx k (by omega) hk) (loopN hs hx hN d (k + 1) (by omega))

/-- The same, from what the machine finds of one round. -/
theorem xloopN (hn : NamesOk P) (hm : P.follows .mixedOrders = true) (hcl : ClOk P G E) {R : Option Nat → Prop} {m : List Nat} {lp : Loops} {n : Nat} {keep : List Nat} {c : Code} {S : Nat → St} {X : Nat → Exit × St} {stop : Nat → Bool} {N : Nat} (hlp : LoopsOk P G R m lp c)
    (hs : ∀ k, k ≤ N → stop k = true → (xBody P G E n lp keep c (S k)).sel = some (X k) ∧ (X k).1 ≠ .normal)
    (hx : ∀ k, k < N → stop k = false → (xBody P G E n lp keep c (S k)).sel = some (.normal, S (k + 1))) (hN : stop N = true) :
    AExec P G R (.loop c) { tmps := (S 0).a, marks := m } (S 0).h (X (fstStop stop N 0)).1 { tmps := (X (fstStop stop N 0)).2.a, marks := m } (X (fstStop stop N 0)).2.h :=
  .loop (loopN (X := X) (fun k hk hks => ⟨(xBody_ok hn hm hcl hlp (hs k hk hks).1).1, (hs k hk hks).2⟩) (fun k hk hks => (xBody_ok hn hm hcl hlp (hx k hk hks)).1) hN N 0 (by omega))

theorem fstStop_le {stop : Nat → Bool} : ∀ (d k : Nat), k ≤ fstStop stop d k ∧ fstStop stop d k ≤ k + d
  | 0, k => by unfold fstStop; omega
  | d + 1, k => by
    unfold fstStop
    split
    · omega
    · have := fstStop_le (stop := stop) d (k + 1); omega
theorem fstStop_before {stop : Nat → Bool} : ∀ (d k j : Nat), k ≤ j → j < fstStop stop d k → stop j = false
  | 0, k, j, h1, h2 => by unfold fstStop at h2; omega
  | d + 1, k, j, h1, h2 => by
    unfold fstStop at h2
    split at h2
    · omega
    · rename_i hk
      by_cases hj : j = k
      · subst hj; simpa using hk
      · exact fstStop_before d (k + 1) j (by omega) h2
theorem fstStop_at {stop : Nat → Bool} : ∀ (d k : Nat), stop (k + d) = true → stop (fstStop stop d k) = true
  | 0, k, h => by simpa [fstStop] using h
  | d + 1, k, h => by
    unfold fstStop
    split
    · assumption
    · exact fstStop_at d (k + 1) (by rw [show k + 1 + d = k + (d + 1) by omega]; exact h)
end

/-- A state, laid out. -/
def St.of (n : Nat) (h : Heap) (l : List (Nat × AV × Bool)) : St := { t := l.foldl (fun t p => t.set p.1 p.2.1 p.2.2) .nil, n := n, h := h }

theorem wrap_i64 {n : Int} (h0 : -9223372036854775808 ≤ n) (h1 : n < 9223372036854775808) : IntKind.i64.wrap n = n := by
  simp [IntKind.wrap, IntKind.signed, IntKind.bits]
  omega
end Go.Proofs.YtjljigccgaadaaaDoor.Am
