/-
  This file proves nothing of a law. It proves that what the machine of Am13 finds of a function's code is so. No condition.
-/
import Derived.Test.YtjljigccgaadaaaDoorAm14
namespace Go.Proofs.YtjljigccgaadaaaDoor.Am
open Go
section
variable {P : Program} {G : Nat → Option (List AV)} {E : Env}

def NamesOk (P : Program) : Prop := ∀ (f : Nat) (fn : Func), P.funcs[f]? = some fn → (fn.name == "runtime.NumGoroutine") = false

/-- What is said to be known of the loops is so. -/
def LoopsOk (P : Program) (G : Nat → Option (List AV)) (R : Option Nat → Prop) (m : List Nat) (lp : Loops) : Code → Prop
  | .seq x y => LoopsOk P G R m lp x ∧ LoopsOk P G R m lp y
  | .cond _ x y => LoopsOk P G R m lp x ∧ LoopsOk P G R m lp y
  | .block _ x => LoopsOk P G R m lp x
  | .loop x => (∀ keep s0 t e st', lp (idOf x) = some (keep, s0, t) → t.sel = some (e, st') → AExec P G R (.loop x) { tmps := s0.a, marks := m } s0.h e { tmps := st'.a, marks := m } st'.h ∧ st'.n = s0.n) ∧ LoopsOk P G R m lp x
  | _ => True

theorem LoopsOk.none {R : Option Nat → Prop} {m : List Nat} : ∀ c : Code, LoopsOk P G R m (fun _ => Option.none) c
  | .seq x y => ⟨LoopsOk.none x, LoopsOk.none y⟩
  | .cond _ x y => ⟨LoopsOk.none x, LoopsOk.none y⟩
  | .block _ x => LoopsOk.none x
  | .loop x => ⟨fun _ _ _ _ _ h => (by cases h), LoopsOk.none x⟩
  | .skip => trivial
  | .ret => trivial
  | .exit _ => trivial
  | .region _ _ _ => trivial
  | .scope _ => trivial
  | .rangeFunc _ _ _ _ => trivial
  | .label _ => trivial
  | .goto _ => trivial
  | .refuse _ => trivial

theorem PT.ofArgs_get : ∀ (xs : List AV) (i : Nat) (s : List Bool) (t : PT) (j : Nat), ((PT.ofArgs i xs s t).get j).1 = if i ≤ j ∧ j < i + xs.length then xs.getD (j - i) .junk else (t.get j).1
  | [], i, s, t, j => by
    rw [if_neg (by simp)]
    rfl
  | x :: r, i, s, t, j => by
    rw [PT.ofArgs, PT.ofArgs_get r, PT.get_set]
    by_cases h1 : j = i
    · subst h1
      have h2 : ¬ (j + 1 ≤ j ∧ j < j + 1 + r.length) := by omega
      have h3 : j ≤ j ∧ j < j + (x :: r).length := by simp
      rw [if_neg h2, if_pos h3, if_pos rfl]
      simp
    · by_cases h2 : i + 1 ≤ j ∧ j < i + 1 + r.length
      · have h3 : i ≤ j ∧ j < i + (x :: r).length := by simp; omega
        rw [if_pos h2, if_pos h3]
        have h4 : j - i = (j - (i + 1)) + 1 := by omega
        rw [h4]
        simp
      · have h3 : ¬ (i ≤ j ∧ j < i + (x :: r).length) := by simp; omega
        rw [if_neg h2, if_neg h3, if_neg h1]

theorem ofArgs_le {xs : List AV} {s : List Bool} {h : Heap} {n : Nat} : Le (xs ++ List.replicate (n - xs.length) (.tup [])) ({ t := PT.ofArgs 0 xs s .nil, n := xs.length + (n - xs.length), h := h } : St).a := by
  refine ⟨by simp [St.a], fun j y hj => ?_⟩
  rw [St.at_eq] at hj
  unfold St.at at hj
  simp only [PT.ofArgs_get] at hj
  cases hb : Nat.blt j (xs.length + (n - xs.length)) with
  | false => rw [hb] at hj; cases hj
  | true =>
    rw [hb] at hj
    simp only [cond_true, Option.some.injEq] at hj
    by_cases h : j < xs.length
    · rw [if_pos (by omega)] at hj
      refine .inr ?_
      rw [List.getElem?_append_left h, ← hj]
      simp [List.getD_eq_getElem?_getD, h]
    · rw [if_neg (by omega), PT.get_nil] at hj
      exact .inl hj.symm

theorem only_get (st : St) : ∀ (keep : List Nat) (t : PT) (j : Nat), ((keep.foldl (fun t k => t.set k (st.t.get k).1 (st.t.get k).2) t).get j) = if j ∈ keep then st.t.get j else t.get j
  | [], t, j => by simp
  | k :: r, t, j => by
    rw [List.foldl_cons, only_get st r, PT.get_set]
    by_cases h1 : j ∈ r
    · simp [h1]
    · by_cases h2 : j = k
      · subst h2; simp [h1]
      · simp [h1, h2]
theorem St.only_le (keep : List Nat) (st : St) : Le st.a (st.only keep).a := by
  refine ⟨by simp [St.a, St.only], fun j y hj => ?_⟩
  rw [St.at_eq] at hj ⊢
  unfold St.at at hj ⊢
  simp only [St.only, only_get, PT.get_nil] at hj
  cases hb : Nat.blt j st.n with
  | false => rw [hb] at hj; cases hj
  | true =>
    rw [hb] at hj
    simp only [cond_true, Option.some.injEq] at hj ⊢
    split at hj
    · exact .inr hj
    · exact .inl hj.symm

def RunOk (P : Program) (G : Nat → Option (List AV)) (run : Code → St → Tree (Exit × St)) : Prop := ∀ c st e st', (run c st).sel = some (e, st') → AExec P G (fun r => r = none) c { tmps := st.a } st.h e { tmps := st'.a } st'.h

theorem xenter_ok (hn : NamesOk P) {run : Code → St → Tree (Exit × St)} (hr : RunOk P G run) : CallOk P G (xenter P E run) := by
  intro f xs tags h v s h' hs
  unfold xenter at hs
  split at hs
  · rename_i fn hf
    split at hs
    · rename_i c hb
      obtain ⟨⟨e, st⟩, h1, h2⟩ := Tree.of_bind hs
      have hx := hr _ _ _ _ h1
      have main : ∀ {T : Tree (AV × Bool × Heap)} {tag : Bool}, (e = .normal ∨ e = .ret) → (match aResults P st.h st.a fn.results.toList with
          | some ys => .leaf (asOne ys, tag, st.h)
          | none => .fail : Tree (AV × Bool × Heap)).sel = some (v, s, h') → ACall P G f xs h v h' := fun {T tag} he hh => by
        cases hres : aResults P st.h st.a fn.results.toList with
        | none => rw [hres] at hh; cases hh
        | some ys =>
          rw [hres] at hh
          cases hh
          exact ACall.of_body hf hb (hn f fn hf) (.weak ofArgs_le hx) he hres
      split at h2
      · rename_i he
        exact main (T := .fail) (.inl he) h2
      · rename_i he
        exact main (T := .fail) (.inr he) h2
      · cases h2
    · cases hs
  · cases hs

theorem xLoop_ok {R : Option Nat → Prop} {m : List Nat} {run : St → Tree (Exit × St)} {c : Code} (hr : ∀ st e st', (run st).sel = some (e, st') → AExec P G R c { tmps := st.a, marks := m } st.h e { tmps := st'.a, marks := m } st'.h ∧ st'.n = st.n) :
    ∀ (k : Nat) (st : St) (e : Exit) (st' : St), (xLoop run k st).sel = some (e, st') → ALoopRun P G R c { tmps := st.a, marks := m } st.h e { tmps := st'.a, marks := m } st'.h ∧ st'.n = st.n
  | 0, st, e, st', h => by cases h
  | k + 1, st, e, st', h => by
    unfold xLoop at h
    obtain ⟨⟨e1, st1⟩, h1, h2⟩ := Tree.of_bind h
    obtain ⟨h3, h4⟩ := hr _ _ _ h1
    split at h2
    · rename_i he
      simp only at he
      subst he
      obtain ⟨h5, h6⟩ := xLoop_ok hr k _ e st' h2
      exact ⟨.next h3 h5, h6.trans h4⟩
    · rename_i he
      cases h2
      exact ⟨.stop h3 he, h4⟩

theorem xCode_ok (hn : NamesOk P) (hm : P.follows .mixedOrders = true) (hcl : ClOk P G E) : ∀ (n : Nat) (R : Option Nat → Prop) (m : List Nat) (lp : Loops) (c : Code) (st : St) (e : Exit) (st' : St), LoopsOk P G R m lp c →
    (xCode P G E n lp c st).sel = some (e, st') → AExec P G R c { tmps := st.a, marks := m } st.h e { tmps := st'.a, marks := m } st'.h ∧ st'.n = st.n
  | 0, R, m, lp, c, st, e, st', _, h => by cases h
  | n + 1, R, m, lp, c, st, e, st', hlp, h => by
    have hrun : RunOk P G (xCode P G E n fun _ => none) := fun c st e st' h => (xCode_ok hn hm hcl n _ [] _ c st e st' (.none c) h).1
    unfold xCode at h
    cases c with
    | skip => cases h; exact ⟨.skip, rfl⟩
    | ret => cases h; exact ⟨.ret, rfl⟩
    | exit id => cases h; exact ⟨.exit, rfl⟩
    | region id ops draws =>
      simp only at h
      obtain ⟨st1, h1, h2⟩ := Tree.of_bind h
      cases h2
      cases draws with
      | true => exact xDraw_ok hm hcl (xenter_ok hn hrun) h1
      | false =>
        obtain ⟨h3, h4⟩ := xOps_ok (m := m) hcl (xenter_ok hn hrun) _ _ _ h1
        exact ⟨.region h3, h4⟩
    | seq x y =>
      simp only at h
      obtain ⟨⟨e1, st1⟩, h1, h2⟩ := Tree.of_bind h
      obtain ⟨h3, h4⟩ := xCode_ok hn hm hcl n R m lp x _ _ _ hlp.1 h1
      split at h2
      · rename_i he
        simp only at he
        subst he
        obtain ⟨h5, h6⟩ := xCode_ok hn hm hcl n R m lp y _ _ _ hlp.2 h2
        exact ⟨.seq h3 h5, h6.trans h4⟩
      · rename_i he
        cases h2
        exact ⟨.seq_out h3 he, h4⟩
    | cond q x y =>
      simp only at h
      split at h
      · rename_i b hq
        rw [← St.ev_eq] at hq
        split at h
        · simp only [Tree.sel] at h
          cases b with
          | true =>
            obtain ⟨h3, h4⟩ := xCode_ok hn hm hcl n R m lp x _ _ _ hlp.1 h
            exact ⟨.cond_true hq h3, h4⟩
          | false =>
            obtain ⟨h3, h4⟩ := xCode_ok hn hm hcl n R m lp y _ _ _ hlp.2 h
            exact ⟨.cond_false hq h3, h4⟩
        · split at h
          · obtain ⟨h3, h4⟩ := xCode_ok hn hm hcl n R m lp x _ _ _ hlp.1 h
            exact ⟨.cond_true hq h3, h4⟩
          · obtain ⟨h3, h4⟩ := xCode_ok hn hm hcl n R m lp y _ _ _ hlp.2 h
            exact ⟨.cond_false hq h3, h4⟩
      · cases h
    | block id x =>
      simp only at h
      obtain ⟨⟨e1, st1⟩, h1, h2⟩ := Tree.of_bind h
      cases h2
      obtain ⟨h3, h4⟩ := xCode_ok hn hm hcl n R m lp x _ _ _ hlp h1
      exact ⟨.block h3, h4⟩
    | loop x =>
      simp only at h
      split at h
      · rename_i keep s0 t ht
        obtain ⟨h1, h2⟩ := Tree.of_need h
        obtain ⟨h3, h4⟩ := hlp.1 _ _ _ _ _ ht h2
        simp only [St.vals, Prod.mk.injEq] at h1
        obtain ⟨e1, e2, e3⟩ := h1
        have h5 := St.only_le keep st
        rw [e1] at h5
        refine ⟨.weak h5 ?_, h4.trans e2.symm⟩
        have e4 : st.h = s0.h := e3
        rw [e4]
        exact h3
      · obtain ⟨h3, h4⟩ := xLoop_ok (fun st e st' h => xCode_ok hn hm hcl n R m lp x st e st' hlp.2 h) n st e st' h
        exact ⟨.loop h3, h4⟩
    | scope _ => cases h
    | rangeFunc _ _ _ _ => cases h
    | label _ => cases h
    | goto _ => cases h
    | refuse _ => cases h

/-- THE FACT ON A CALL, found by running. -/
theorem xCall_ok (hn : NamesOk P) (hm : P.follows .mixedOrders = true) (hcl : ClOk P G E) {n : Nat} {f : FuncId} {xs : List AV} {tags : List Bool} {h h' : Heap} {v : AV} {s : Bool}
    (hx : (xCall P G E n f xs tags h).sel = some (v, s, h')) : ACall P G f xs h v h' :=
  xenter_ok hn (fun c st e st' h => (xCode_ok hn hm hcl n _ [] _ c st e st' (.none c) h).1) f xs tags h v s h' hx

/-- The same, where loops of its own body are known. -/
theorem xFn_ok (hn : NamesOk P) (hm : P.follows .mixedOrders = true) (hcl : ClOk P G E) {lp : Loops} {n : Nat} {f : FuncId} {fn : Func} {c : Code} (hf : P.funcs[f]? = some fn) (hb : fn.body = some c)
    (hlp : LoopsOk P G (fun r => r = none) [] lp c) {xs : List AV} {tags : List Bool} {h h' : Heap} {v : AV} {s : Bool}
    (hx : (xenter P E (xCode P G E n lp) f xs tags h).sel = some (v, s, h')) : ACall P G f xs h v h' := by
  have : ∀ (run : Code → St → Tree (Exit × St)), run = xCode P G E n lp → (xenter P E run f xs tags h).sel = some (v, s, h') → ACall P G f xs h v h' := by
    intro run hrun hx
    unfold xenter at hx
    rw [hf] at hx
    simp only [hb] at hx
    obtain ⟨⟨e, st⟩, h1, h2⟩ := Tree.of_bind hx
    subst hrun
    have hx' := (xCode_ok hn hm hcl n _ [] lp c _ _ _ hlp h1).1
    have main : ∀ {tag : Bool}, (e = .normal ∨ e = .ret) → (match aResults P st.h st.a fn.results.toList with
        | some ys => .leaf (asOne ys, tag, st.h)
        | none => .fail : Tree (AV × Bool × Heap)).sel = some (v, s, h') → ACall P G f xs h v h' := fun {tag} he hh => by
      cases hres : aResults P st.h st.a fn.results.toList with
      | none => rw [hres] at hh; cases hh
      | some ys =>
        rw [hres] at hh
        cases hh
        exact ACall.of_body hf hb (hn f fn hf) (.weak ofArgs_le hx') he hres
    split at h2
    · rename_i he
      exact main (.inl he) h2
    · rename_i he
      exact main (.inr he) h2
    · cases h2
  exact this _ rfl hx
end
end Go.Proofs.YtjljigccgaadaaaDoor.Am
