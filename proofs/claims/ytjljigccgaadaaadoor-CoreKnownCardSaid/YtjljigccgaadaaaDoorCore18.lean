/-
  This file proves nothing of a law. It says that the chapter's examples come out as works asks. No condition.
-/
import Derived.Test.YtjljigccgaadaaaDoorCore17
namespace Go.Proofs.YtjljigccgaadaaaDoor.Am
open Go
set_option maxRecDepth 100000

/-! ### Lists that are written out -/
/-- What is x is also x'. -/
def Sub (x x' : AV) : Prop := ∀ w M u, RV w M u x → RV w M u x'
theorem Sub.rfl' (x : AV) : Sub x x := fun _ _ _ h => h
theorem ACall.args {f : FuncId} {xs xs' : List AV} {σ σ' : Heap} {v : AV} (h : ACall Tryd.prog G0 f xs' σ v σ') (hl : xs.length = xs'.length) (hx : ∀ (j : Nat) (x' : AV), xs'[j]? = some x' → ∃ x, xs[j]? = some x ∧ Sub x x') : ACall Tryd.prog G0 f xs σ v σ' :=
  ⟨h.1, fun w M vs hi hvs => h.2 w M vs hi ⟨by rw [hvs.1, hl], fun j x' hj => by
    obtain ⟨x, h1, h2⟩ := hx j x' hj
    exact h2 _ _ _ (hvs.2 j x h1)⟩⟩
theorem ACall.arg2 {f : FuncId} {a b a' b' : AV} {σ σ' : Heap} {v : AV} (h : ACall Tryd.prog G0 f [a', b'] σ v σ') (ha : Sub a a') (hb : Sub b b') : ACall Tryd.prog G0 f [a, b] σ v σ' :=
  h.args rfl fun j x hx => by
    match j, hx with
    | 0, hx => cases hx; exact ⟨a, rfl, ha⟩
    | 1, hx => cases hx; exact ⟨b, rfl, hb⟩
    | j + 2, hx => simp at hx
theorem ACall.arg3 {f : FuncId} {a b c a' b' c' : AV} {σ σ' : Heap} {v : AV} (h : ACall Tryd.prog G0 f [a', b', c'] σ v σ') (ha : Sub a a') (hb : Sub b b') (hc : Sub c c') : ACall Tryd.prog G0 f [a, b, c] σ v σ' :=
  h.args rfl fun j x hx => by
    match j, hx with
    | 0, hx => cases hx; exact ⟨a, rfl, ha⟩
    | 1, hx => cases hx; exact ⟨b, rfl, hb⟩
    | 2, hx => cases hx; exact ⟨c, rfl, hc⟩
    | j + 3, hx => simp at hx
/-- A list that is written out. -/
def slL (L : List Int) : AV := .sl 1 ((L.map I).map fun y => [y])
def slLL (L : List (List Int)) : AV := .sl 1 ((L.map slL).map fun y => [y])
theorem sub_slL (L : List Int) : Sub (slL L) (flL L) := fun _ _ _ h => h.flL_of
theorem RV.sl_map {w : World} {M : Map} {u : Value} {α : Type} {p q : α → AV} (hpq : ∀ x, Sub (p x) (q x)) {L : List α} (h : RV w M u (.sl 1 ((L.map p).map fun y => [y]))) : RV w M u (.sl 1 ((L.map q).map fun y => [y])) := by
  generalize hr : ((L.map p).map fun y => [y]) = rows at h
  cases h with
  | sl0 base cap _ =>
    have : L = [] := by simpa using hr
    subst this
    exact .sl0 _ _ _
  | sl b o cap size f rows hb hc hl h hcap =>
    subst hr
    have e : ((L.map p).map fun y => [y]).length = ((L.map q).map fun y => [y]).length := by simp
    have ge : ∀ (i : Nat) (r : List AV), ((L.map q).map fun y => [y])[i]? = some r → ∃ x, L[i]? = some x ∧ r = [q x] := by
      intro i r hi
      simp only [List.getElem?_map, Option.map_eq_some_iff] at hi
      obtain ⟨_, ⟨x, hx, rfl⟩, rfl⟩ := hi
      exact ⟨x, hx, rfl⟩
    have gp : ∀ (i : Nat) (x : α), L[i]? = some x → ((L.map p).map fun y => [y])[i]? = some [p x] := fun i x hx => by simp [List.getElem?_map, hx]
    rw [e]
    refine .sl b o cap 1 f _ hb (fun i r j hi hj => ?_) (fun i r hi => ?_) (fun i r j x hi hj => ?_) (by rw [← e]; exact hcap)
    · obtain ⟨x, hx, _⟩ := ge i r hi
      exact hc i _ j (gp i x hx) hj
    · obtain ⟨x, _, rfl⟩ := ge i r hi; rfl
    · obtain ⟨y, hy, rfl⟩ := ge i r hi
      have : j = 0 := by
        match j, hj with
        | 0, _ => rfl
        | j + 1, hj => simp at hj
      subst this
      cases hj
      exact hpq _ _ _ _ (h i _ 0 _ (gp i y hy) rfl)
theorem sub_slLL (L : List (List Int)) : Sub (slLL L) (flLL L) := fun _ _ _ h => (RV.sl_map (p := slL) (q := flL) sub_slL h).flLL_of

/-! ### works -/
def ex : AV := .fn 19 [] []
theorem fulEx (σ : Heap) : FulAt σ 19 [] fun s => exF (ints s) := fun X s _ => c19 (by have := bitsL_len s; simp; omega) (σ ++ X)
def LA : List (List Int) := [[3], [0, 2], [1, 2]]
def LR : List (List Int) := [[2, 3], [0, 1, 3]]
def cl20 : FuncId → List AV → Option (Tree AV) := fun f xs => match f with
  | 13 => some (.need (xs = [I 4, ex]) (.leaf (resL [0, 2] 0)))
  | 15 => some (.need (xs = [I 4, ex]) (.leaf (resLL LA 0)))
  | 16 => some (.need (xs = [I 4, ex]) (.leaf (resLL LR 0)))
  | 17 => some (.need (xs = [I 4, flLL LA]) (.leaf (resLL LR 0)))
  | 14 => some (.need (xs = [I 4, slL [0, 2], ex]) (.leaf (.tup [.bool true, I 0])))
  | 26 => some (.need (xs = [flL [0, 2], slL [0, 2]]) (.leaf (.bool true)))
  | 18 => match xs with
    | [x, .fl 1 n r] => some (.need (x = flLL LR ∧ AV.fl 1 n r = flLL LR) (.leaf (.bool true)))
    | [x, y] => some (.need (∃ L, x = flLL L ∧ y = slLL L ∧ shortLL L) (.leaf (.bool true)))
    | _ => none
  | _ => none
theorem core4 : (coreS (badS fun (_ : Unit) s => (exF (ints s), ())) 4 ()).1 = some 5 := by kernel_rfl
theorem ofL4 : ofL 4 [0, 2] = some 5 := by kernel_rfl
theorem every4 : everyL (fun s => !exF (ints s)) 4 = LA := by kernel_rfl
theorem rep4 : everyL (fun s => exF (ints (comp 4 s))) 4 = LR := by kernel_rfl
theorem hit4 : hitR 4 LA = resLL LR 0 := by
  have h1 : hitLoop 4 LA [] = some [8, 5, 6] := by kernel_rfl
  have h2 : everyL (hits [8, 5, 6]) 4 = LR := by kernel_rfl
  unfold hitR
  simp only [show ((4 : Nat) : Int) = 4 from rfl, h1, h2]
def F20 (h : Heap) : Tree (AV × Bool × Heap) := .leaf (.bool false, false, h)
theorem run20 (h : Heap) : xCall Tryd.prog G0 { cl := cl20 } 200 20 [] [] h =
    .need ([I 4, ex] = [I 4, ex]) (.need ([I 4, ex] = [I 4, ex]) (.need ([I 4, ex] = [I 4, ex]) (.need ([flL [0, 2], slL [0, 2]] = [flL [0, 2], slL [0, 2]]) (.ite (!true) (F20 h) (.ite ((0 : Int) != 0) (F20 h)
      (.need (∃ L, flLL LA = flLL L ∧ slLL LA = slLL L ∧ shortLL L) (.ite (!true) (F20 h) (.ite ((0 : Int) != 0) (F20 h) (.need (∃ L, flLL LR = flLL L ∧ slLL LR = slLL L ∧ shortLL L) (.ite (!true) (F20 h) (.ite ((0 : Int) != 0) (F20 h)
        (.need ([I 4, slL [0, 2], ex] = [I 4, slL [0, 2], ex]) (.need ([I 4, flLL LA] = [I 4, flLL LA]) (.ite true (.ite ((0 : Int) == 0) (.need (flLL LR = flLL LR ∧ flLL LR = flLL LR) (.ite true (.leaf (.bool ((0 : Int) == 0), true, h)) (F20 h))) (F20 h)) (F20 h))))))))))))))) := by kernel_rfl
theorem shortLA : shortLL LA := ⟨by decide, by decide⟩
theorem shortLR : shortLL LR := ⟨by decide, by decide⟩
theorem clok20 : ClOk Tryd.prog G0 { cl := cl20 } := .of rfl rfl fun f xs t v hq hs σ => by
  replace hq : cl20 f xs = some t := hq
  have hf := fulEx σ
  have e0 : ∀ (b : Bool), (match ofL (4 : Nat) [0, 2] with | some s => (.tup [.bool b, I 0] : AV) | none => .tup [.bool false, I 2]) = .tup [.bool b, I 0] := by
    intro b; rw [show ofL ((4 : Nat) : Int) [0, 2] = some 5 from ofL4]
  unfold cl20 at hq
  split at hq
  · cases hq
    obtain ⟨rfl, hs2⟩ := Tree.of_need hs
    cases hs2
    have h := c13 (n := 4) (hf.ful []) (by omega) ()
    rw [core4, List.append_nil] at h
    exact h
  · cases hq
    obtain ⟨rfl, hs2⟩ := Tree.of_need hs
    cases hs2
    have h := c15 (n := 4) (by omega) hf
    rw [every4] at h
    exact h
  · cases hq
    obtain ⟨rfl, hs2⟩ := Tree.of_need hs
    cases hs2
    have h := c16 (n := 4) (by omega) hf
    rw [rep4] at h
    exact h
  · cases hq
    obtain ⟨rfl, hs2⟩ := Tree.of_need hs
    cases hs2
    have h := c17 (σ := σ) (n := 4) (by omega) (SL := LA) (fun x hx => by have := shortLA.2 x hx; omega) (by decide)
    rw [hit4] at h
    exact h
  · cases hq
    obtain ⟨rfl, hs2⟩ := Tree.of_need hs
    cases hs2
    have h := c14 (n := 4) (hf.ful []) (by omega) (L := [0, 2]) (by decide) ()
    have e1 : ofL ((4 : Nat) : Int) [0, 2] = some 5 := ofL4
    have e2 : (irrS (badS fun (_ : Unit) s => (exF (ints s), ())) () 5).1 = true := by kernel_rfl
    rw [e1] at h
    simp only [e2, List.append_nil] at h
    exact h.arg3 (Sub.rfl' _) (sub_slL _) (Sub.rfl' _)
  · cases hq
    obtain ⟨rfl, hs2⟩ := Tree.of_need hs
    cases hs2
    exact (c26 (a := [0, 2]) (b := [0, 2]) (by decide) σ).arg2 (Sub.rfl' _) (sub_slL _)
  · split at hq
    · cases hq
      obtain ⟨⟨rfl, h2⟩, hs2⟩ := Tree.of_need hs
      cases hs2
      rw [h2]
      exact c18 (a := LR) (b := LR) shortLR σ
    · cases hq
      obtain ⟨⟨L, rfl, rfl, h3⟩, hs2⟩ := Tree.of_need hs
      cases hs2
      have h := c18 (a := L) (b := L) h3 σ
      rw [beq_self_eq_true] at h
      exact h.arg2 (Sub.rfl' _) (sub_slLL _)
    · cases hq
  · cases hq
/-- THE CHAPTER'S EXAMPLES COME OUT. -/
theorem c20 (h : Heap) : ACall Tryd.prog G0 20 [] h (.bool true) h := by
  refine xCall_ok (n := 200) (tags := []) (s := true) names mixed clok20 ?_
  rw [run20, selR, selR, selR, selR, selI, Bool.not_true, cond_false, selI, bne_self_eq_false, cond_false, Tree.sel_need ⟨LA, rfl, rfl, shortLA⟩, selI, cond_false, selI, cond_false,
    Tree.sel_need ⟨LR, rfl, rfl, shortLR⟩, selI, cond_false, selI, cond_false, selR, selR, selI, cond_true, selI, beq_self_eq_true, cond_true, Tree.sel_need ⟨rfl, rfl⟩, selI, cond_true]
  rfl
end Go.Proofs.YtjljigccgaadaaaDoor.Am
