/-
  This file proves nothing of a law. It holds the rules by which what a loop's round has made, and nobody holds any more, is forgotten. No condition.
-/
import Derived.Test.YtjljigccgaadaaaDoorAm18
namespace Go.Proofs.YtjljigccgaadaaaDoor.Am
open Go
section
variable {P : Program} {G : Nat → Option (List AV)} {E : Env}

/-- What the code has made and the frame does not hold is forgotten. -/
theorem AExec.drop {R : Option Nat → Prop} {c : Code} {a a' : List AV} {σ g : Heap} {e : Exit} (h : AExec P G R c { tmps := a } σ e { tmps := a' } (σ ++ g)) (hv : ∀ x ∈ a', Below σ.length x) : AExec P G R c { tmps := a } σ e { tmps := a' } σ := by
  intro r0 hr w M ac Q hi ha hQ
  refine h r0 hr w M ac Q hi ha fun w' M' ac' he hi' ha' => ?_
  have hn : ∀ r p, M r = some p → r < σ.length := hi.dom
  refine hQ w' (M'.cut σ.length) ac' (he.cut hn) ?_ ⟨⟨ha'.tmps.1, fun j x hj => (ha'.tmps.2 j x hj).cut (hv x (List.mem_of_getElem? hj))⟩, ?_⟩
  · have he' := he.cut hn
    refine .of (fun q cs hq => (hi.glob q cs hq).mono he') (fun r r' b q q' h1 h2 => hi'.inj r r' b q q' (Map.cut_some h1).2 (Map.cut_some h2).2) (fun r p hr => (Map.cut_some hr).1)
      (fun r b q hr => hi'.lt r b q (Map.cut_some hr).2) (fun b hb => ⟨(hi'.far b hb).1, fun r q hr => (hi'.far b hb).2 r q (Map.cut_some hr).2⟩) (fun r o ho => ?_)
    have hr : r < σ.length := (List.getElem?_eq_some_iff.1 ho).1
    have ho' : (σ ++ g)[r]? = some o := by rw [List.getElem?_append_left hr]; exact ho
    have hold := hi.objOk ho
    have hnew := hi'.objOk ho'
    cases o with
    | cells gn c =>
      obtain ⟨b, cs, e, h1, h2, h3, h4⟩ := hnew
      obtain ⟨_, _, _, _, _, _, k4⟩ := hold
      exact ⟨b, cs, e, by rw [Map.cut_lt hr]; exact h1, h2, h3, fun j x hj => (h4 j x hj).cut ((k4 j x hj).isBelow hn)⟩
    | resv => show M'.cut _ r = none; rw [Map.cut_lt hr]; exact hnew
    | dfr => obtain ⟨b, h1, h2⟩ := hnew; exact ⟨b, by rw [Map.cut_lt hr]; exact h1, h2⟩
    | loop A =>
      obtain ⟨b, L, h1, h2, h3⟩ := hnew
      obtain ⟨_, _, _, _, k3⟩ := hold
      exact ⟨b, L, by rw [Map.cut_lt hr]; exact h1, h2, h3.state, h3.pending, h3.size, fun j x hj => (h3.tmps j x hj).cut ((k3.tmps j x hj).isBelow hn), h3.params, h3.assign, h3.body,
        by rw [Map.cut_lt (hn _ _ k3.defers.1)]; exact h3.defers.1, h3.defers.2⟩
    | gone => trivial
  · obtain ⟨bs, h1, h2, _⟩ := ha'.marks
    exact ⟨bs, h1, h2, fun i r b h => by simp at h⟩

/-- A frame that points to nothing. -/
def St.clean (st : St) : Prop := ∀ x ∈ st.a, Below 0 x
theorem Below.up {n : Nat} {x : AV} (h : Below 0 x) : Below n x := by
  induction h with
  | int k i => exact .int k i
  | bool b => exact .bool b
  | nilp => exact .nilp
  | nilf => exact .nilf
  | ref r g off h => omega
  | row cells off _ ih => exact .row cells off ih
  | sl size rows _ ih => exact .sl size rows ih
  | fl size k rows _ ih => exact .fl size k rows ih
  | zs => exact .zs
  | ms size r g off len cap h => omega
  | agg xs _ ih => exact .agg xs ih
  | tup xs _ ih => exact .tup xs ih
  | fn f xs ys _ _ ih1 ih2 => exact .fn f xs ys ih1 ih2
  | yf l h => omega
  | anyb => exact .anyb
  | mx size r g off len cap h => omega
  | junk => exact .junk

theorem of_get : ∀ (l : List (Nat × AV × Bool)) (t : PT) (j : Nat), (((l.foldl (fun t p => t.set p.1 p.2.1 p.2.2) t).get j).1 = (t.get j).1) ∨ ∃ p ∈ l, ((l.foldl (fun t p => t.set p.1 p.2.1 p.2.2) t).get j).1 = p.2.1
  | [], t, j => .inl rfl
  | p :: r, t, j => by
    rw [List.foldl_cons]
    rcases of_get r (t.set p.1 p.2.1 p.2.2) j with h | ⟨q, hq, h⟩
    · rw [PT.get_set] at h
      by_cases hj : j = p.1
      · rw [if_pos hj] at h; exact .inr ⟨p, by simp, h⟩
      · rw [if_neg hj] at h; exact .inl h
    · exact .inr ⟨q, by simp [hq], h⟩
theorem St.of_clean {n : Nat} {h : Heap} {l : List (Nat × AV × Bool)} (hl : ∀ p ∈ l, Below 0 p.2.1) : (St.of n h l).clean := by
  intro x hx
  simp only [St.a, St.of, List.mem_map] at hx
  obtain ⟨j, _, rfl⟩ := hx
  rcases of_get l .nil j with h1 | ⟨p, hp, h1⟩
  · rw [h1, PT.get_nil]; exact .junk
  · rw [h1]; exact hl p hp

/-- A piece of code from the empty heap; some temporaries of it, no object. -/
def xBody0 (P : Program) (G : Nat → Option (List AV)) (E : Env) (n : Nat) (lp : Loops) (keep : List Nat) (c : Code) (st : St) : Tree (Exit × St) :=
  (xCode P G E n lp c st).bind fun r => .leaf (r.1, { t := (r.2.only keep).t, n := r.2.n, h := [] })

theorem xBody0_ok (hn : NamesOk P) (hm : P.follows .mixedOrders = true) (hcl : ClOk P G E) {R : Option Nat → Prop} {lp : Loops} {n : Nat} {keep : List Nat} {c : Code} {st : St} {e : Exit} {st' : St} (hlp : LoopsOk P G R [] lp c)
    (h0 : st.h = []) (hc : st'.clean) (hx : (xBody0 P G E n lp keep c st).sel = some (e, st')) : AExec P G R c { tmps := st.a } [] e { tmps := st'.a } [] ∧ st'.n = st.n ∧ st'.h = [] := by
  obtain ⟨⟨e0, st0⟩, h1, h2⟩ := Tree.of_bind hx
  cases h2
  obtain ⟨h3, h4⟩ := xCode_ok hn hm hcl n R [] lp c st _ _ hlp h1
  rw [h0] at h3
  have h5 := h3.weak_post (a' := { tmps := st0.a, marks := [] }) (St.only_le keep st0)
  exact ⟨AExec.drop (σ := []) (g := st0.h) h5 hc, h4, rfl⟩

/-- A LOOP OF WHICH EACH ROUND IS KNOWN, no object left behind. -/
theorem xloop0 (hn : NamesOk P) (hm : P.follows .mixedOrders = true) (hcl : ClOk P G E) {R : Option Nat → Prop} {lp : Loops} {n : Nat} {keep : List Nat} {c : Code} {S : Nat → St} {X : Nat → Exit × St} {stop : Nat → Bool} {N : Nat} (hlp : LoopsOk P G R [] lp c)
    (hS : ∀ k, (S k).clean ∧ (S k).h = []) (hX : ∀ k, (X k).2.clean ∧ (X k).2.h = [])
    (hs : ∀ k, k ≤ N → stop k = true → (xBody0 P G E n lp keep c (S k)).sel = some (X k) ∧ (X k).1 ≠ .normal)
    (hx : ∀ k, k < N → stop k = false → (xBody0 P G E n lp keep c (S k)).sel = some (.normal, S (k + 1))) (hN : stop N = true) :
    AExec P G R (.loop c) { tmps := (S 0).a } [] (X (fstStop stop N 0)).1 { tmps := (X (fstStop stop N 0)).2.a } [] := by
  have key := loopN (P := P) (G := G) (R := R) (m := []) (c := c) (S := S) (X := X) (stop := stop) (N := N) (fun k hk hks => by
      refine ⟨?_, (hs k hk hks).2⟩
      rw [(hS k).2, (hX k).2]
      exact (xBody0_ok hn hm hcl hlp (hS k).2 (hX k).1 (hs k hk hks).1).1) (fun k hk hks => by
      rw [(hS k).2, (hS (k + 1)).2]
      exact (xBody0_ok hn hm hcl hlp (hS k).2 (hS (k + 1)).1 (hx k hk hks)).1) hN N 0 (by omega)
  rw [(hS 0).2, (hX _).2] at key
  exact .loop key
end
end Go.Proofs.YtjljigccgaadaaaDoor.Am
