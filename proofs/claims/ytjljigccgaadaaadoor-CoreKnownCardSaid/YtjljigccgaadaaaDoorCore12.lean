/-
  This file proves nothing of a law. It says what core.All and core.Repairs return. Condition: the function that is asked says the same each time, and leaves all else alone.
-/
import Derived.Test.YtjljigccgaadaaaDoorCore11
namespace Go.Proofs.YtjljigccgaadaaaDoor.Am
open Go
set_option maxRecDepth 100000

/-- Lists and an error. -/
def resLL (L : List (List Int)) (e : Int) : AV := .tup [flLL L, I e]
theorem ACall.resZsL {f : FuncId} {xs : List AV} {σ σ' : Heap} {e : Int} (h : ACall Tryd.prog G0 f xs σ (.tup [.zs, I e]) σ') : ACall Tryd.prog G0 f xs σ (resLL [] e) σ' :=
  h.conv fun _ _ _ h => h.tup2 (fun _ h => h.flLL_zs) fun _ h => h
theorem below_tup2 {n : Nat} {a b : AV} (ha : Below n a) (hb : Below n b) : Below n (.tup [a, b]) := .tup _ fun j x hx => by
  match j, hx with
  | 0, hx => cases hx; exact ha
  | 1, hx => cases hx; exact hb
  | j + 2, hx => simp at hx

/-- Asked whether a list can be fulfilled: the answer is always the same, and nothing turns. -/
def FulAt (σ : Heap) (g : FuncId) (caps : List AV) (f : Nat → Bool) : Prop := ∀ (X : Heap) (s : Nat), s < 2 ^ 64 → ACall Tryd.prog G0 g (flN (bitsL s) :: caps) (σ ++ X) (.bool (f s)) (σ ++ X)
section
variable {σ : Heap} {g : FuncId} {caps : List AV} {f : Nat → Bool}
theorem FulAt.more (h : FulAt σ g caps f) (Y : Heap) : FulAt (σ ++ Y) g caps f := fun X s hs => by rw [List.append_assoc]; exact h (Y ++ X) s hs
theorem FulAt.ful (h : FulAt σ g caps f) (X : Heap) : FulOk g caps (fun _ : Unit => σ ++ X) fun _ s => (f s, ()) := fun _ s hs => h X s hs
theorem FulAt.has (h : FulAt σ g caps f) (m : Nat) : HasAt σ 65 [.row [.fn g [] caps] 0] (fun s => !f s) m := fun X s _ hs => c65 (h.ful X) () s trivial hs

def cl15 : FuncId → List AV → Option (Tree AV) := fun f xs => match f, xs with
  | 41, [.int .i64 n, .int .i64 m, .fn _ _ _] => some (.leaf (I (askE n m)))
  | 42, [.fn g xs ys] => some (.leaf (.fn 65 [] [.row [.fn g xs ys] 0]))
  | 43, [.int .i64 n] => some (.need (0 ≤ n ∧ n ≤ 64) (.leaf (U (2 ^ n.toNat - 1 : Nat))))
  | _, _ => none
theorem cl15_ok {f : FuncId} {xs : List AV} {t : Tree AV} {v : AV} (hq : cl15 f xs = some t) (hs : t.sel = some v) (σ : Heap) : ACall Tryd.prog G0 f xs σ v σ := by
  unfold cl15 at hq
  split at hq <;> first | (cases hq; done) | skip
  · cases hq; cases hs; exact c41 _ _ _ _ _ σ
  · cases hq; cases hs; exact c42 _ _ _ σ
  · rename_i n
    cases hq
    obtain ⟨h1, hs2⟩ := Tree.of_need hs
    cases hs2
    have := c43 (n := n.toNat) (by omega) σ
    rwa [show ((n.toNat : Nat) : Int) = n by omega] at this
def clh15 (n : Int) (fv v : AV) (h : Heap) : FuncId → List AV → Heap → Option (Tree (AV × Heap)) := fun f xs h0 => match f with
  | 47 => some (.need (xs = [I n, fv] ∧ h0 = h) (.leaf (v, h)))
  | _ => none
theorem clh15_ok {n : Int} {fv v : AV} {h : Heap} (hc : ACall Tryd.prog G0 47 [I n, fv] h v h) : ∀ f xs σ t u σ', clh15 n fv v h f xs σ = some t → t.sel = some (u, σ') → ACall Tryd.prog G0 f xs σ u σ' := by
  intro f xs σ t u σ' hq hs
  unfold clh15 at hq
  split at hq <;> first | (cases hq; done) | skip
  cases hq
  obtain ⟨⟨rfl, rfl⟩, hs2⟩ := Tree.of_need hs
  cases hs2
  exact hc
def E15 (n : Int) (fv v : AV) (h : Heap) : Env := { cl := cl15, clh := clh15 n fv v h }
theorem run15 (n : Int) (g : FuncId) (caps : List AV) (v : AV) (h : Heap) : xCall Tryd.prog G0 (E15 n (.fn 65 [] [.row [.fn g [] caps] 0]) v h) 200 15 [I n, .fn g [] caps] [true, true] h =
    .ite (askE n 12 != 0) (.leaf (.tup [.zs, I (askE n 12)], true, h)) (.need ([I n, .fn 65 [] [.row [.fn g [] caps] 0]] = [I n, .fn 65 [] [.row [.fn g [] caps] 0]] ∧ h = h) (.leaf (.tup [v, I 0], true, h))) := by kernel_rfl
def Efail15 : Env := { cl := cl15, clh := failH }
theorem clokf15 : ClOk Tryd.prog G0 Efail15 := .all .none failH_ok (fun l xs σ t v σ' h => (by cases h)) fun f xs t v h hs σ => cl15_ok h hs σ
theorem askE_bad {n m : Int} (hn : n < 0 ∨ n > m) : askE n m = 2 := by
  unfold askE
  by_cases h : n < 0
  · rw [decide_eq_true h]; rfl
  · rw [decide_eq_false h, decide_eq_true (by omega)]; rfl
theorem askE_good {n m : Int} (h0 : 0 ≤ n) (h1 : n ≤ m) : askE n m = 0 := by
  unfold askE; rw [decide_eq_false (by omega), decide_eq_false (by omega)]; rfl
/-- WHAT All RETURNS. -/
theorem c15 {n : Nat} (hn : n ≤ 12) (hf : FulAt σ g caps f) : ACall Tryd.prog G0 15 [I n, .fn g [] caps] σ (resLL (everyL (fun s => !f s) n) 0) σ := by
  have h47 := c47r hn (hf.has (2 ^ n))
  have hcl : ClOk Tryd.prog G0 (E15 n (.fn 65 [] [.row [.fn g [] caps] 0]) (flLL (everyL (fun s => !f s) n)) σ) := .all .none (clh15_ok h47) (fun l xs σ t v σ' h => (by cases h)) fun f xs t v h hs σ => cl15_ok h hs σ
  refine xCall_ok (n := 200) (tags := [true, true]) (s := true) names mixed hcl ?_
  rw [run15, selI, askE_good (by omega) (by omega), bne_self_eq_false, cond_false]
  exact Tree.sel_need ⟨rfl, rfl⟩
theorem c15e {n : Int} (hn : n < 0 ∨ n > 12) (g : FuncId) (xs ys : List AV) (h : Heap) : ACall Tryd.prog G0 15 [I n, .fn g xs ys] h (resLL [] 2) h := by
  have run : xCall Tryd.prog G0 Efail15 200 15 [I n, .fn g xs ys] [true, true] h = .ite (askE n 12 != 0) (.leaf (.tup [.zs, I (askE n 12)], true, h)) .fail := by kernel_rfl
  refine (xCall_ok (n := 200) (tags := [true, true]) (s := true) (v := .tup [.zs, I 2]) names mixed clokf15 ?_).resZsL
  rw [run, askE_bad hn]; rfl

/-! ### Repairs -/
def h16 (N : Nat) (h h1 h2 h3 h4 : Heap) (x y : AV) := orH (hAl 63 N h h1) (orH (hAl 61 (N + 1) h1 h2) (orH (hSt 63 (.ref N 0 0) x h2 h3) (hSt 61 (.ref (N + 1) 0 0) y h3 h4)))
theorem h16_ok (N : Nat) (h h1 h2 h3 h4 : Heap) (x y : AV) : HintOk Tryd.prog G0 (h16 N h h1 h2 h3 h4 x y) := (hAl_ok _ _ _ _).ok.or ((hAl_ok _ _ _ _).ok.or ((hSt_ok _ _ _ _ _).ok.or (hSt_ok _ _ _ _ _).ok))
def E16 (n : Int) (N : Nat) (fv v : AV) (h h1 h2 h3 h4 : Heap) (y : AV) : Env := { cl := cl15, clh := clh15 n fv v h4, hint := h16 N h h1 h2 h3 h4 (U (2 ^ n.toNat - 1 : Nat)) y }
def bad65 (g : FuncId) (caps : List AV) : AV := .fn 65 [] [.row [.fn g [] caps] 0]
def caps48 (N : Nat) : List AV := [.ref (N + 1) 0 0, .ref N 0 0]
theorem run16 (n : Int) (g : FuncId) (caps : List AV) (v : AV) (N : Nat) (h h1 h2 h3 h4 : Heap) : xCall Tryd.prog G0 (E16 n N (.fn 48 [] (caps48 N)) v h h1 h2 h3 h4 (bad65 g caps)) 200 16 [I n, .fn g [] caps] [true, true] h =
    .ite (askE n 12 != 0) (.leaf (.tup [.zs, I (askE n 12)], true, h)) (.need (0 ≤ n ∧ n ≤ 64) (.need (h = h ∧ aAlloc Tryd.prog h 63 = some (.ref N 0 0, h1)) (.need (h1 = h1 ∧ aAlloc Tryd.prog h1 61 = some (.ref (N + 1) 0 0, h2))
      (.need (some (AV.ref N 0 0) = some (AV.ref N 0 0) ∧ some (U (2 ^ n.toNat - 1 : Nat)) = some (U (2 ^ n.toNat - 1 : Nat)) ∧ h2 = h2 ∧ aStore Tryd.prog h2 63 (.ref N 0 0) (U (2 ^ n.toNat - 1 : Nat)) = some h3)
        (.need (some (AV.ref (N + 1) 0 0) = some (AV.ref (N + 1) 0 0) ∧ some (bad65 g caps) = some (bad65 g caps) ∧ h3 = h3 ∧ aStore Tryd.prog h3 61 (.ref (N + 1) 0 0) (bad65 g caps) = some h4)
          (.need ([I n, .fn 48 [] (caps48 N)] = [I n, .fn 48 [] (caps48 N)] ∧ h4 = h4) (.leaf (.tup [v, I 0], true, h4)))))))) := by kernel_rfl
def clh48 (fv : AV) (s : Int) (b : Bool) (h : Heap) : FuncId → List AV → Heap → Option (Tree (AV × Heap)) := fun f xs h0 => match f with
  | 65 => some (.need (xs = [U s, fv] ∧ h0 = h) (.leaf (.bool b, h)))
  | _ => none
def E48 (a : Int) (fv : AV) (s : Int) (b : Bool) (h : Heap) : Env := { clh := clh48 fv s b h, hint := orH (hLd 61 (.fn 65 [] [fv])) (hLd 63 (U a)) }
theorem run48 (a s : Int) (fv : AV) (s' : Int) (b : Bool) (N : Nat) (h : Heap) : xCall Tryd.prog G0 (E48 a fv s' b h) 200 48 [U s, .ref (N + 1) 0 0, .ref N 0 0] [true, true, true] h =
    .need (objAt h (N + 1) 0 = some [.fn 65 [] [fv]]) (.need (objAt h N 0 = some [U a]) (.need ([U (uandNot a s), fv] = [U s', fv] ∧ h = h) (.leaf (.bool (!b), true, h)))) := by kernel_rfl
/-- The numbers below n that are not in a set. -/
def comp (n s : Nat) : Nat := (2 ^ n - 1) &&& (2 ^ 64 - 1 - s)
/-- The two variables of Repairs. -/
def two16 (n : Nat) (g : FuncId) (caps : List AV) : Heap := [.cells 0 [U (2 ^ n - 1 : Nat)], .cells 0 [bad65 g caps]]
theorem has48 (hf : FulAt σ g caps f) {n : Nat} (hn : n ≤ 12) (m : Nat) : HasAt (σ ++ two16 n g caps) 48 (caps48 σ.length) (fun s => f (comp n s)) m := by
  intro X s _ hs
  have h64 : 2 ^ n ≤ 2 ^ 12 := Nat.pow_le_pow_right (by omega) hn
  have hp := Nat.two_pow_pos n
  have hlt : comp n s < 2 ^ 64 := Nat.lt_of_le_of_lt Nat.and_le_left (by omega)
  have hc := c65 ((hf.more (two16 n g caps)).ful X) () (comp n s) trivial hlt
  have hcl : ClOk Tryd.prog G0 (E48 (2 ^ n - 1 : Nat) (.row [.fn g [] caps] 0) (comp n s) (!f (comp n s)) (σ ++ two16 n g caps ++ X)) := by
    refine .all ((hLd_ok (by kernel_rfl : Tryd.prog.underlying 61 = some (.func #[63] #[4] false)) rfl _).ok.or (hLd_ok (by kernel_rfl : Tryd.prog.underlying 63 = some (.int .u64)) rfl _).ok) ?_ (fun l xs σ t v σ' h => (by cases h)) (fun f xs t v h => by cases h)
    intro f' xs σ' t u σ'' hq hsel
    replace hq : clh48 _ _ _ _ f' xs σ' = some t := hq
    unfold clh48 at hq
    split at hq <;> first | (cases hq; done) | skip
    cases hq
    obtain ⟨⟨rfl, rfl⟩, hs2⟩ := Tree.of_need hsel
    cases hs2
    exact hc
  refine xCall_ok (n := 200) (tags := [true, true, true]) (s := true) names mixed hcl ?_
  have g1 : objAt (σ ++ two16 n g caps ++ X) (σ.length + 1) 0 = some [.fn 65 [] [.row [.fn g [] caps] 0]] := by rw [List.append_assoc]; exact objAt_app rfl
  have g0 : objAt (σ ++ two16 n g caps ++ X) σ.length 0 = some [U (2 ^ n - 1 : Nat)] := by rw [List.append_assoc]; exact objAt_app (i := 0) rfl
  have harg : uandNot (2 ^ n - 1 : Nat) s = (comp n s : Nat) := uandNot_nat (by omega) hs
  have := run48 (2 ^ n - 1 : Nat) s (.row [.fn g [] caps] 0) (comp n s) (!f (comp n s)) σ.length (σ ++ two16 n g caps ++ X)
  refine (congrArg Tree.sel this).trans ?_
  rw [harg, Tree.sel_need g1, Tree.sel_need g0, Tree.sel_need ⟨rfl, rfl⟩, Bool.not_not]
  rfl
theorem alloc63 (h : Heap) : aAlloc Tryd.prog h 63 = some (.ref h.length 0 0, h ++ [.cells 0 [U 0]]) := by kernel_rfl
/-- A store into a variable behind a heap. -/
theorem store_app {t : TypeId} (ht : One t) {σ rest : Heap} {i : Nat} {x y : AV} (hi : rest[i]? = some (.cells 0 [y])) (hx : x.one = true) : aStore Tryd.prog (σ ++ rest) t (.ref (σ.length + i) 0 0) x = some (σ ++ rest.set i (.cells 0 [x])) := by
  obtain ⟨j, h1, h2⟩ := ht
  have ho : objAt (σ ++ rest) (σ.length + i) 0 = some [y] := objAt_app hi
  have hc : x.cells = [x] := by cases x <;> first | rfl | cases hx
  simp only [aStore, h1, ho, h2, hc]
  rw [if_pos ⟨rfl, by simp, by simp [hx]⟩, set_app]
  simp [setL]
/-- WHAT Repairs RETURNS. -/
theorem c16 {n : Nat} (hn : n ≤ 12) (hf : FulAt σ g caps f) : ACall Tryd.prog G0 16 [I n, .fn g [] caps] σ (resLL (everyL (fun s => f (comp n s)) n) 0) σ := by
  have h47 := c47r hn (has48 hf hn (2 ^ n))
  have hcl : ClOk Tryd.prog G0 (E16 n σ.length (.fn 48 [] (caps48 σ.length)) (flLL (everyL (fun s => f (comp n s)) n)) σ (σ ++ [.cells 0 [U 0]]) (σ ++ [.cells 0 [U 0], .cells 0 [.nilf]]) (σ ++ [.cells 0 [U (2 ^ n - 1 : Nat)], .cells 0 [.nilf]]) (σ ++ two16 n g caps) (bad65 g caps)) :=
    .all (h16_ok _ _ _ _ _ _ _ _) (clh15_ok h47) (fun l xs σ t v σ' h => (by cases h)) fun f xs t v h hs σ => cl15_ok h hs σ
  refine ACall.forget (X := two16 n g caps) (xCall_ok (n := 200) (tags := [true, true]) (s := true) names mixed hcl ?_) (below_tup2 (below_flLL _) (.int _ _))
  have a1 : aAlloc Tryd.prog (σ ++ [.cells 0 [U 0]]) 61 = some (.ref (σ.length + 1) 0 0, σ ++ [.cells 0 [U 0], .cells 0 [.nilf]]) := by rw [alloc61]; simp
  rw [run16, selI, askE_good (by omega) (by omega), bne_self_eq_false, cond_false, Tree.sel_need ⟨by omega, by omega⟩, Tree.sel_need ⟨rfl, alloc63 σ⟩, Tree.sel_need ⟨rfl, a1⟩, Int.toNat_natCast,
    Tree.sel_need ⟨rfl, rfl, rfl, store_app (one_of (by kernel_rfl)) (i := 0) rfl rfl⟩, Tree.sel_need ⟨rfl, rfl, rfl, store_app (one_of (by kernel_rfl)) (i := 1) rfl rfl⟩]
  exact Tree.sel_need ⟨rfl, rfl⟩
def E16e (n : Int) (N : Nat) (h h1 h2 h3 h4 : Heap) (y : AV) : Env := { cl := cl15, clh := failH, hint := h16 N h h1 h2 h3 h4 (U (2 ^ n.toNat - 1 : Nat)) y }
theorem run16e (n : Int) (g : FuncId) (caps : List AV) (N : Nat) (h h1 h2 h3 h4 : Heap) : xCall Tryd.prog G0 (E16e n N h h1 h2 h3 h4 (bad65 g caps)) 200 16 [I n, .fn g [] caps] [true, true] h =
    .ite (askE n 12 != 0) (.leaf (.tup [.zs, I (askE n 12)], true, h)) (.need (0 ≤ n ∧ n ≤ 64) (.need (h = h ∧ aAlloc Tryd.prog h 63 = some (.ref N 0 0, h1)) (.need (h1 = h1 ∧ aAlloc Tryd.prog h1 61 = some (.ref (N + 1) 0 0, h2))
      (.need (some (AV.ref N 0 0) = some (AV.ref N 0 0) ∧ some (U (2 ^ n.toNat - 1 : Nat)) = some (U (2 ^ n.toNat - 1 : Nat)) ∧ h2 = h2 ∧ aStore Tryd.prog h2 63 (.ref N 0 0) (U (2 ^ n.toNat - 1 : Nat)) = some h3)
        (.need (some (AV.ref (N + 1) 0 0) = some (AV.ref (N + 1) 0 0) ∧ some (bad65 g caps) = some (bad65 g caps) ∧ h3 = h3 ∧ aStore Tryd.prog h3 61 (.ref (N + 1) 0 0) (bad65 g caps) = some h4) .fail))))) := by kernel_rfl
theorem c16e {n : Int} (hn : n < 0 ∨ n > 12) (g : FuncId) (caps : List AV) (h : Heap) : ACall Tryd.prog G0 16 [I n, .fn g [] caps] h (resLL [] 2) h := by
  refine (xCall_ok (n := 200) (tags := [true, true]) (s := true) (v := .tup [.zs, I 2]) (E := E16e n 0 h h h h h (bad65 g caps)) names mixed (.all (h16_ok _ _ _ _ _ _ _ _) failH_ok (fun l xs σ t v σ' h => (by cases h)) fun f xs t v h hs σ => cl15_ok h hs σ) ?_).resZsL
  rw [run16e, askE_bad hn]; rfl
end
end Go.Proofs.YtjljigccgaadaaaDoor.Am
