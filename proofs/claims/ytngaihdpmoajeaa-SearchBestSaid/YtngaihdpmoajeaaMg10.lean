/-
  This file proves nothing of a law. It holds lemmas, of 11 texts in their order. No condition of its own.
-/
import Derived.Test.YtngaihdpmoajeaaMg9
namespace Go.Proofs.Ytngaihdpmoajeaa.Am
open Go
set_option maxRecDepth 100000

/-- A variable of the heap, and what it holds. -/
def Holds (h0 : Heap) (rf v : AV) : Prop := ∃ r g off c, rf = .ref r g off ∧ h0[r]? = some (.cells g c) ∧ c[off]? = some v
/-- A load told at a heap. -/
def hLdR (t : TypeId) (rf : AV) (v : AV) (h0 : Heap) : Heap → Oper → (Operand → Option AV) → Option (AV × Bool × Heap × Prop) := fun h o ρ => match o.op with
  | .load t' x => bif Nat.beq t' t then some (v, true, h, ρ x = some rf ∧ h = h0) else none
  | _ => none
theorem hLdR_ok {t : TypeId} {d : TypeDesc} (hu : Try.prog.underlying t = some d) (hd : aggD d = false) {rf v : AV} {h0 : Heap} (hh0 : Holds h0 rf v) : HintA Try.prog (hLdR t rf v h0) := by
  intro h o ρ y s h' p hh hp
  unfold hLdR at hh
  split at hh <;> first | (cases hh; done) | skip
  rename_i t' x ho
  cases ht : Nat.beq t' t with
  | false => rw [ht] at hh; cases hh
  | true =>
    rw [ht, cond_true] at hh
    cases hh
    obtain ⟨p1, rfl⟩ := hp
    obtain ⟨r, g, off, c, rfl, p2, p3⟩ := hh0
    exact (hLdO_ok r hu hd v) h o ρ v true h (g = g ∧ c[off]? = some v) (by unfold hLdO; rw [ho]; dsimp only; rw [ht, cond_true, p1]; dsimp only; rw [Nat.beq_refl, cond_true, p2]) ⟨rfl, p3⟩
/-- Calls told beforehand. -/
def clhs (L : List (FuncId × List AV × Heap × AV × Heap)) : FuncId → List AV → Heap → Option (Tree (AV × Heap)) := fun f ys h => match L.find? (fun x => Nat.beq x.1 f) with
  | some (_, xs, h0, v, h1) => some (.need (ys = xs ∧ h = h0) (.leaf (v, h1)))
  | none => some .fail
theorem clhs_ok {L : List (FuncId × List AV × Heap × AV × Heap)} (hc : ∀ x ∈ L, ACall Try.prog G0 x.1 x.2.1 x.2.2.1 x.2.2.2.1 x.2.2.2.2) : ∀ f ys σ t u σ', clhs L f ys σ = some t → t.sel = some (u, σ') → ACall Try.prog G0 f ys σ u σ' := by
  intro f ys σ t u σ' hq hsel
  unfold clhs at hq
  split at hq
  · rename_i f0 xs h0 v h1 hf
    cases hq
    obtain ⟨⟨rfl, rfl⟩, h2⟩ := Tree.of_need hsel
    cases h2
    have h3 := hc _ (List.mem_of_find?_eq_some hf)
    have h4 := List.find?_some hf
    rw [Nat.beq_eq] at h4
    obtain rfl : f0 = f := h4
    exact h3
  · cases hq; cases hsel
def E71r (nt nw nu : Nat) (caps fst fcs : List AV) (g : FuncId) (h0 h1 h2 h3 : Heap) (k bd mo : Int) (ok m : Bool) : Env := { boxRow := false, clh := clhs [(65, [SR, I k], h0, .bool ok, h1), (71, caps, h1, .bool m, h2), (70, [SR], h2, .tup [], h3)], hint := orH (hLdR 85 (.ref nt 0 0) (.fn 65 [SR] []) h0) (orH (hLdR 29 (.ref nw 0 0) (.fn 71 [] caps) h1) (orH (hLdR 1 (.ref nu 0 0) (.fn 70 [SR] []) h2) (orH (hCalT none 72 [] [] [SR] (I bd) h1) (hCalT (some 53) g fst fcs [] (I mo) h1)))) }
noncomputable def body71 : Code := (loopsOf (bodyOf Try.prog 71)).headD .skip
def E71q (nt nw nu : Nat) (caps : List AV) (fst fcs : List AV) (g : FuncId) (h0 h1 h3 : Heap) (k bd mo : Int) (ok : Bool) : Env := { boxRow := false, clh := clhs [(65, [SR, I k], h0, .bool ok, h1), (70, [SR], h1, .tup [], h3)], hint := orH (hLdR 85 (.ref nt 0 0) (.fn 65 [SR] []) h0) (orH (hLdR 29 (.ref nw 0 0) (.fn 71 [] caps) h1) (orH (hLdR 1 (.ref nu 0 0) (.fn 70 [SR] []) h1) (orH (hCalT none 72 [] [] [SR] (I bd) h1) (hCalT (some 53) g fst fcs [] (I mo) h1)))) }
theorem run71r (l nt nw nu : Nat) (mf : AV) (caps fst fcs : List AV) (g : FuncId) (h0 h1 h2 h3 : Heap) (n k bd mo : Int) (ok m : Bool) : xBody Try.prog G0 (E71r nt nw nu caps fst fcs g h0 h1 h2 h3 k bd mo ok m) 200 noLoops keep71 body71 (st71 l nt nw nu mf h0 n k) = .ite (decide (k < n)) (.need (((Option.some (AV.ref nt (0 : Nat) (0 : Nat))) = (Option.some (AV.ref nt (0 : Nat) (0 : Nat)))) ∧ (h0 = h0)) (.need (([(AV.ref (0 : Nat) (0 : Nat) (0 : Nat)), (I k)] = [(AV.ref (0 : Nat) (0 : Nat) (0 : Nat)), (I k)]) ∧ (h0 = h0)) (.ite (ok) (.need (((Option.some (AV.fn (72 : Nat) [] [])) = (Option.some (AV.fn (72 : Nat) [] []))) ∧ (((Option.some [(AV.ref (0 : Nat) (0 : Nat) (0 : Nat))]) = (Option.some [(AV.ref (0 : Nat) (0 : Nat) (0 : Nat))])) ∧ (h1 = h1))) (.need (((Option.some mf) = (Option.some (AV.fn g fst fcs))) ∧ (((Option.some ([] : List AV)) = (Option.some ([] : List AV))) ∧ (h1 = h1))) (.ite (decide (bd < mo)) (.need (((Option.some (AV.ref nw (0 : Nat) (0 : Nat))) = (Option.some (AV.ref nw (0 : Nat) (0 : Nat)))) ∧ (h1 = h1)) (.need ((caps = caps) ∧ (h1 = h1)) (.need (((Option.some (AV.ref nu (0 : Nat) (0 : Nat))) = (Option.some (AV.ref nu (0 : Nat) (0 : Nat)))) ∧ (h2 = h2)) (.need (([(AV.ref (0 : Nat) (0 : Nat) (0 : Nat))] = [(AV.ref (0 : Nat) (0 : Nat) (0 : Nat))]) ∧ (h2 = h2)) (.ite (!m) (.leaf (Exit.ret, St.of 64 h3 [(0, (AV.row [(AV.ref (0 : Nat) (0 : Nat) (0 : Nat))] (0 : Nat)), true), (1, (AV.row [(AV.yf l)] (0 : Nat)), true), (2, (AV.ref nt (0 : Nat) (0 : Nat)), true), (3, (AV.row [mf] (0 : Nat)), true), (4, (AV.ref nw (0 : Nat) (0 : Nat)), true), (5, (AV.ref nu (0 : Nat) (0 : Nat)), true), (6, (AV.bool false), false), (43, (I n), true), (44, (I k), true)])) (.leaf (Exit.normal, St.of 64 h3 [(0, (AV.row [(AV.ref (0 : Nat) (0 : Nat) (0 : Nat))] (0 : Nat)), true), (1, (AV.row [(AV.yf l)] (0 : Nat)), true), (2, (AV.ref nt (0 : Nat) (0 : Nat)), true), (3, (AV.row [mf] (0 : Nat)), true), (4, (AV.ref nw (0 : Nat) (0 : Nat)), true), (5, (AV.ref nu (0 : Nat) (0 : Nat)), true), (6, (AV.bool false), false), (43, (I n), true), (44, (I (IntKind.i64.wrap (k + (1 : Int)))), true)]))))))) (.need (((Option.some (AV.ref nu (0 : Nat) (0 : Nat))) = (Option.some (AV.ref nu (0 : Nat) (0 : Nat)))) ∧ (h1 = h2)) (.need (([(AV.ref (0 : Nat) (0 : Nat) (0 : Nat))] = [(AV.ref (0 : Nat) (0 : Nat) (0 : Nat))]) ∧ (h1 = h2)) (.leaf (Exit.normal, St.of 64 h3 [(0, (AV.row [(AV.ref (0 : Nat) (0 : Nat) (0 : Nat))] (0 : Nat)), true), (1, (AV.row [(AV.yf l)] (0 : Nat)), true), (2, (AV.ref nt (0 : Nat) (0 : Nat)), true), (3, (AV.row [mf] (0 : Nat)), true), (4, (AV.ref nw (0 : Nat) (0 : Nat)), true), (5, (AV.ref nu (0 : Nat) (0 : Nat)), true), (6, (AV.bool false), false), (43, (I n), true), (44, (I (IntKind.i64.wrap (k + (1 : Int)))), true)]))))))) (.need (((Option.some (AV.ref nu (0 : Nat) (0 : Nat))) = (Option.some (AV.ref nu (0 : Nat) (0 : Nat)))) ∧ (h1 = h2)) (.need (([(AV.ref (0 : Nat) (0 : Nat) (0 : Nat))] = [(AV.ref (0 : Nat) (0 : Nat) (0 : Nat))]) ∧ (h1 = h2)) (.leaf (Exit.normal, St.of 64 h3 [(0, (AV.row [(AV.ref (0 : Nat) (0 : Nat) (0 : Nat))] (0 : Nat)), true), (1, (AV.row [(AV.yf l)] (0 : Nat)), true), (2, (AV.ref nt (0 : Nat) (0 : Nat)), true), (3, (AV.row [mf] (0 : Nat)), true), (4, (AV.ref nw (0 : Nat) (0 : Nat)), true), (5, (AV.ref nu (0 : Nat) (0 : Nat)), true), (6, (AV.bool false), false), (43, (I n), true), (44, (I (IntKind.i64.wrap (k + (1 : Int)))), true)]))))))) (.leaf ((Exit.exit (0 : Nat)), St.of 64 h0 [(0, (AV.row [(AV.ref (0 : Nat) (0 : Nat) (0 : Nat))] (0 : Nat)), true), (1, (AV.row [(AV.yf l)] (0 : Nat)), true), (2, (AV.ref nt (0 : Nat) (0 : Nat)), true), (3, (AV.row [mf] (0 : Nat)), true), (4, (AV.ref nw (0 : Nat) (0 : Nat)), true), (5, (AV.ref nu (0 : Nat) (0 : Nat)), true), (6, (AV.bool false), false), (43, (I n), true), (44, (I k), true)])) := by kernel_rfl
theorem run71q (l nt nw nu : Nat) (mf : AV) (caps fst fcs : List AV) (g : FuncId) (h0 h1 h3 : Heap) (n k bd mo : Int) (ok : Bool) : xBody Try.prog G0 (E71q nt nw nu caps fst fcs g h0 h1 h3 k bd mo ok) 200 noLoops keep71 body71 (st71 l nt nw nu mf h0 n k) = .ite (decide (k < n)) (.need (((Option.some (AV.ref nt (0 : Nat) (0 : Nat))) = (Option.some (AV.ref nt (0 : Nat) (0 : Nat)))) ∧ (h0 = h0)) (.need (([(AV.ref (0 : Nat) (0 : Nat) (0 : Nat)), (I k)] = [(AV.ref (0 : Nat) (0 : Nat) (0 : Nat)), (I k)]) ∧ (h0 = h0)) (.ite (ok) (.need (((Option.some (AV.fn (72 : Nat) [] [])) = (Option.some (AV.fn (72 : Nat) [] []))) ∧ (((Option.some [(AV.ref (0 : Nat) (0 : Nat) (0 : Nat))]) = (Option.some [(AV.ref (0 : Nat) (0 : Nat) (0 : Nat))])) ∧ (h1 = h1))) (.need (((Option.some mf) = (Option.some (AV.fn g fst fcs))) ∧ (((Option.some ([] : List AV)) = (Option.some ([] : List AV))) ∧ (h1 = h1))) (.ite (decide (bd < mo)) (.need (((Option.some (AV.ref nw (0 : Nat) (0 : Nat))) = (Option.some (AV.ref nw (0 : Nat) (0 : Nat)))) ∧ (h1 = h1)) .fail) (.need (((Option.some (AV.ref nu (0 : Nat) (0 : Nat))) = (Option.some (AV.ref nu (0 : Nat) (0 : Nat)))) ∧ (h1 = h1)) (.need (([(AV.ref (0 : Nat) (0 : Nat) (0 : Nat))] = [(AV.ref (0 : Nat) (0 : Nat) (0 : Nat))]) ∧ (h1 = h1)) (.leaf (Exit.normal, St.of 64 h3 [(0, (AV.row [(AV.ref (0 : Nat) (0 : Nat) (0 : Nat))] (0 : Nat)), true), (1, (AV.row [(AV.yf l)] (0 : Nat)), true), (2, (AV.ref nt (0 : Nat) (0 : Nat)), true), (3, (AV.row [mf] (0 : Nat)), true), (4, (AV.ref nw (0 : Nat) (0 : Nat)), true), (5, (AV.ref nu (0 : Nat) (0 : Nat)), true), (6, (AV.bool false), false), (43, (I n), true), (44, (I (IntKind.i64.wrap (k + (1 : Int)))), true)]))))))) (.need (((Option.some (AV.ref nu (0 : Nat) (0 : Nat))) = (Option.some (AV.ref nu (0 : Nat) (0 : Nat)))) ∧ (h1 = h1)) (.need (([(AV.ref (0 : Nat) (0 : Nat) (0 : Nat))] = [(AV.ref (0 : Nat) (0 : Nat) (0 : Nat))]) ∧ (h1 = h1)) (.leaf (Exit.normal, St.of 64 h3 [(0, (AV.row [(AV.ref (0 : Nat) (0 : Nat) (0 : Nat))] (0 : Nat)), true), (1, (AV.row [(AV.yf l)] (0 : Nat)), true), (2, (AV.ref nt (0 : Nat) (0 : Nat)), true), (3, (AV.row [mf] (0 : Nat)), true), (4, (AV.ref nw (0 : Nat) (0 : Nat)), true), (5, (AV.ref nu (0 : Nat) (0 : Nat)), true), (6, (AV.bool false), false), (43, (I n), true), (44, (I (IntKind.i64.wrap (k + (1 : Int)))), true)]))))))) (.leaf ((Exit.exit (0 : Nat)), St.of 64 h0 [(0, (AV.row [(AV.ref (0 : Nat) (0 : Nat) (0 : Nat))] (0 : Nat)), true), (1, (AV.row [(AV.yf l)] (0 : Nat)), true), (2, (AV.ref nt (0 : Nat) (0 : Nat)), true), (3, (AV.row [mf] (0 : Nat)), true), (4, (AV.ref nw (0 : Nat) (0 : Nat)), true), (5, (AV.ref nu (0 : Nat) (0 : Nat)), true), (6, (AV.bool false), false), (43, (I n), true), (44, (I k), true)])) := by kernel_rfl
theorem run71e (l nt nw nu : Nat) (mf : AV) (h0 : Heap) (n k : Int) : xBody Try.prog G0 { boxRow := false, clh := failH, hint := hLdR 85 (.ref nt 0 0) (.fn 65 [SR] []) h0 } 200 noLoops keep71 body71 (st71 l nt nw nu mf h0 n k) = .ite (decide (k < n)) (.need (((Option.some (AV.ref nt (0 : Nat) (0 : Nat))) = (Option.some (AV.ref nt (0 : Nat) (0 : Nat)))) ∧ (h0 = h0)) .fail) (.leaf ((Exit.exit (0 : Nat)), St.of 64 h0 [(0, (AV.row [(AV.ref (0 : Nat) (0 : Nat) (0 : Nat))] (0 : Nat)), true), (1, (AV.row [(AV.yf l)] (0 : Nat)), true), (2, (AV.ref nt (0 : Nat) (0 : Nat)), true), (3, (AV.row [mf] (0 : Nat)), true), (4, (AV.ref nw (0 : Nat) (0 : Nat)), true), (5, (AV.ref nu (0 : Nat) (0 : Nat)), true), (6, (AV.bool false), false), (43, (I n), true), (44, (I k), true)])) := by kernel_rfl

end Go.Proofs.Ytngaihdpmoajeaa.Am

namespace Go.Proofs.Ytngaihdpmoajeaa.Am
open Go
set_option maxRecDepth 100000

/-- Who uses the walk: the bound that it looks at, what it does with a solution, whether it wants more, its objects. -/
structure Cns (τ : Type) where
  most : τ → Int
  yst : τ → List Int → τ
  more : τ → List Int → Bool
  Z : τ → Heap
  inv : τ → Prop
def putW (p : Pb) (a : List Int) (x : Int) : Bool := putOk (nextU p a) x (leftA p a) (nextU p a).length
section
variable {τ : Type}
def loopW (step : Int → τ → Bool × τ) : Nat → Int → τ → Bool × τ
  | 0, _, s => (true, s)
  | d + 1, k, s => bif (step k s).1 then loopW step d (k + 1) (step k s).2 else (false, (step k s).2)
def goesW (p : Pb) (K : Cns τ) (a : List Int) (x : Int) (s : τ) : Bool := bif putW p a x then decide (boundA p (a ++ [x]) < K.most s) else false
/-- The walk below the values a, d levels deep. -/
def walkW (p : Pb) (K : Cns τ) : Nat → List Int → τ → Bool × τ
  | 0, a, s => (K.more s a, K.yst s a)
  | d + 1, a, s => loopW (fun x s => bif goesW p K a x s then walkW p K d (a ++ [x]) s else (true, s)) (p.V.getD a.length 0).toNat 0 s
/-- What is known of the user. -/
structure Usr (p : Pb) (K : Cns τ) (l nt nw nu : Nat) (mf : AV) (g : FuncId) (fst fcs : List AV) : Prop where
  fn : mf = .fn g fst fcs
  yld : ∀ a t s, K.inv s → Beg p a → a.length = p.V.length → Small p a t → AYield Try.prog G0 l [flL a, I (costA p a)] (SH p a t (K.Z s)) (.bool (K.more s a)) (SH p a t (K.Z (K.yst s a)))
  inv : ∀ a s, K.inv s → Beg p a → a.length = p.V.length → K.more s a = true → K.inv (K.yst s a)
  most : ∀ a t s, K.inv s → Beg p a → ACall Try.prog G0 g (fst ++ [] ++ fcs) (SH p a t (K.Z s)) (I (K.most s)) (SH p a t (K.Z s))
  ht : ∀ a t s, Holds (SH p a t (K.Z s)) (.ref nt 0 0) (.fn 65 [SR] [])
  hw : ∀ a t s, Holds (SH p a t (K.Z s)) (.ref nw 0 0) (.fn 71 [] (caps71 l nt nw nu mf))
  hu : ∀ a t s, Holds (SH p a t (K.Z s)) (.ref nu 0 0) (.fn 70 [SR] [])
end
def A71 (l nt nw nu : Nat) (mf : AV) (n k : Int) : List AV := (st71 l nt nw nu mf [] n k).a
section
variable {τ : Type} {p : Pb} {K : Cns τ} {l nt nw nu : Nat} {mf : AV} {g : FuncId} {fst fcs : List AV}
theorem small_put {a t : List Int} (hs : Small p a t) (hl : a.length < p.V.length) (x : Int) : Small p (a ++ [x]) t.tail := by
  unfold Small at *
  simp only [List.length_append, List.length_singleton, List.length_tail] at *
  omega
theorem small_back {a t : List Int} {x : Int} (hs : Small p (a ++ [x]) t) : Small p a (x :: t) := by
  unfold Small at *
  simp only [List.length_append, List.length_cons] at *
  omega
/-- A round that passes a value by. -/
theorem round_q (hp : Ok p) (U : Usr p K l nt nw nu mf g fst fcs) {a t : List Int} {s : τ} (hi : K.inv s) (ha : Beg p a) (hl : a.length < p.V.length) (hs : Small p a t) {k : Int} (h0 : 0 ≤ k) (hk : k < p.V.getD a.length 0) (hg : goesW p K a k s = false) :
    AExec Try.prog G0 (fun r => r = none) body71 { tmps := A71 l nt nw nu mf (p.V.getD a.length 0) k } (SH p a t (K.Z s)) .normal { tmps := A71 l nt nw nu mf (p.V.getD a.length 0) (k + 1) } (SH p a (k :: t.tail) (K.Z s)) := by
  have hb := beg_app ha hl h0 hk
  have hs1 := small_put hs hl k
  have hv := (hp.v a.length hl).2
  have hcl : ClOk Try.prog G0 (E71q nt nw nu (caps71 l nt nw nu mf) fst fcs g (SH p a t (K.Z s)) (SH p (a ++ [k]) t.tail (K.Z s)) (SH p a (k :: t.tail) (K.Z s)) k (boundA p (a ++ [k])) (K.most s) (putW p a k)) := by
    refine .all (((hLdR_ok Try.underlying85 rfl (U.ht a t s)).ok).or (((hLdR_ok Try.underlying29 rfl (U.hw (a ++ [k]) t.tail s)).ok).or (((hLdR_ok Try.underlying1 rfl (U.hu (a ++ [k]) t.tail s)).ok).or ((hCalT_ok (s72 hp hb (K.Z s))).or (hCalT_ok (U.most (a ++ [k]) t.tail s hi hb)))))) (clhs_ok fun x hx => ?_) (fun l xs σ t v σ' h => (by cases h)) (fun f xs t v h => (by cases h))
    rcases List.mem_cons.1 hx with rfl | hx
    · exact s65 hp ha hl h0 hk hs (K.Z s)
    · obtain rfl := List.mem_singleton.1 hx
      exact s70 hp ha hl h0 hk hs1 (K.Z s)
  have hw : IntKind.i64.wrap (k + 1) = k + 1 := wrapI ⟨by omega, by omega⟩
  refine rnd (n := 200) (keep := keep71) (s := st71 l nt nw nu mf (SH p a t (K.Z s)) (p.V.getD a.length 0) k) (t := st71 l nt nw nu mf (SH p a (k :: t.tail) (K.Z s)) (p.V.getD a.length 0) (k + 1)) (st' := st71 l nt nw nu mf (SH p a (k :: t.tail) (K.Z s)) (p.V.getD a.length 0) (IntKind.i64.wrap (k + 1))) hcl (lpNo _) ((congrArg Tree.sel (run71q l nt nw nu mf _ fst fcs g _ _ _ _ k _ _ _)).trans ?_) (by rw [hw])
  unfold goesW at hg
  refine t_ite (fun _ => t_need ⟨rfl, rfl⟩ (t_need ⟨rfl, rfl⟩ (t_ite (fun h1 => ?_) fun _ => t_need ⟨rfl, rfl⟩ (t_need ⟨rfl, rfl⟩ rfl)))) fun h => absurd (dT hk) (by rw [h]; nofun)
  rw [h1, cond_true] at hg
  refine t_need ⟨rfl, rfl, rfl⟩ (t_need ⟨by rw [U.fn], rfl, rfl⟩ (t_ite (fun h2 => ?_) fun _ => t_need ⟨rfl, rfl⟩ (t_need ⟨rfl, rfl⟩ rfl)))
  rw [h2] at hg; cases hg
/-- A round that goes on with a value. -/
theorem round_r (hp : Ok p) (U : Usr p K l nt nw nu mf g fst fcs) {a t t2 : List Int} {s s2 : τ} {m : Bool} (hi : K.inv s) (ha : Beg p a) (hl : a.length < p.V.length) (hs : Small p a t) {k : Int} (h0 : 0 ≤ k) (hk : k < p.V.getD a.length 0) (hg : goesW p K a k s = true)
    (hw : ACall Try.prog G0 71 (caps71 l nt nw nu mf) (SH p (a ++ [k]) t.tail (K.Z s)) (.bool m) (SH p (a ++ [k]) t2 (K.Z s2))) (hs2 : Small p (a ++ [k]) t2) :
    AExec Try.prog G0 (fun r => r = none) body71 { tmps := A71 l nt nw nu mf (p.V.getD a.length 0) k } (SH p a t (K.Z s)) (bif m then .normal else .ret) { tmps := A71 l nt nw nu mf (p.V.getD a.length 0) (bif m then k + 1 else k) } (SH p a (k :: t2) (K.Z s2)) := by
  have hb := beg_app ha hl h0 hk
  have hv := (hp.v a.length hl).2
  have hcl : ClOk Try.prog G0 (E71r nt nw nu (caps71 l nt nw nu mf) fst fcs g (SH p a t (K.Z s)) (SH p (a ++ [k]) t.tail (K.Z s)) (SH p (a ++ [k]) t2 (K.Z s2)) (SH p a (k :: t2) (K.Z s2)) k (boundA p (a ++ [k])) (K.most s) (putW p a k) m) := by
    refine .all (((hLdR_ok Try.underlying85 rfl (U.ht a t s)).ok).or (((hLdR_ok Try.underlying29 rfl (U.hw (a ++ [k]) t.tail s)).ok).or (((hLdR_ok Try.underlying1 rfl (U.hu (a ++ [k]) t2 s2)).ok).or ((hCalT_ok (s72 hp hb (K.Z s))).or (hCalT_ok (U.most (a ++ [k]) t.tail s hi hb)))))) (clhs_ok fun x hx => ?_) (fun l xs σ t v σ' h => (by cases h)) (fun f xs t v h => (by cases h))
    rcases List.mem_cons.1 hx with rfl | hx
    · exact s65 hp ha hl h0 hk hs (K.Z s)
    · rcases List.mem_cons.1 hx with rfl | hx
      · exact hw
      · obtain rfl := List.mem_singleton.1 hx
        exact s70 hp ha hl h0 hk hs2 (K.Z s2)
  have hwr : IntKind.i64.wrap (k + 1) = k + 1 := wrapI ⟨by omega, by omega⟩
  refine rnd (n := 200) (keep := keep71) (s := st71 l nt nw nu mf (SH p a t (K.Z s)) (p.V.getD a.length 0) k) (t := st71 l nt nw nu mf (SH p a (k :: t2) (K.Z s2)) (p.V.getD a.length 0) (bif m then k + 1 else k)) (st' := st71 l nt nw nu mf (SH p a (k :: t2) (K.Z s2)) (p.V.getD a.length 0) (bif m then IntKind.i64.wrap (k + 1) else k)) hcl (lpNo _) ((congrArg Tree.sel (run71r l nt nw nu mf _ fst fcs g _ _ _ _ _ k _ _ _ m)).trans ?_) (by rw [hwr])
  unfold goesW at hg
  cases h1 : putW p a k with
  | false => rw [h1] at hg; cases hg
  | true =>
    rw [h1, cond_true] at hg
    refine t_ite (fun _ => t_need ⟨rfl, rfl⟩ (t_need ⟨rfl, rfl⟩ (t_ite (fun _ => t_need ⟨rfl, rfl, rfl⟩ (t_need ⟨by rw [U.fn], rfl, rfl⟩ (t_ite (fun _ => t_need ⟨rfl, rfl⟩ (t_need ⟨rfl, rfl⟩ (t_need ⟨rfl, rfl⟩ (t_need ⟨rfl, rfl⟩ ?_)))) fun h => absurd hg (by rw [h]; nofun)))) fun h => absurd h (by nofun)))) fun h => absurd (dT hk) (by rw [h]; nofun)
    cases m with
    | true => rfl
    | false => rfl
/-- The values from k on. -/
theorem loop_w (hp : Ok p) (U : Usr p K l nt nw nu mf g fst fcs) {d : Nat} {a : List Int} (ha : Beg p a) (hl : a.length < p.V.length)
    (ih : ∀ b t s, K.inv s → Beg p b → b.length = a.length + 1 → Small p b t → ∃ t', Small p b t' ∧ ((walkW p K d b s).1 = true → K.inv (walkW p K d b s).2) ∧ ACall Try.prog G0 71 (caps71 l nt nw nu mf) (SH p b t (K.Z s)) (.bool (walkW p K d b s).1) (SH p b t' (K.Z (walkW p K d b s).2))) :
    ∀ (c : Nat) (k : Int) (t : List Int) (s : τ), 0 ≤ k → k + c = p.V.getD a.length 0 → K.inv s → Small p a t →
      ∃ t' k', Small p a t' ∧ ((loopW (fun x s => bif goesW p K a x s then walkW p K d (a ++ [x]) s else (true, s)) c k s).1 = true → K.inv (loopW (fun x s => bif goesW p K a x s then walkW p K d (a ++ [x]) s else (true, s)) c k s).2) ∧
        ALoopRun Try.prog G0 (fun r => r = none) body71 { tmps := A71 l nt nw nu mf (p.V.getD a.length 0) k } (SH p a t (K.Z s)) (bif (loopW (fun x s => bif goesW p K a x s then walkW p K d (a ++ [x]) s else (true, s)) c k s).1 then .exit 0 else .ret)
          { tmps := A71 l nt nw nu mf (p.V.getD a.length 0) k' } (SH p a t' (K.Z (loopW (fun x s => bif goesW p K a x s then walkW p K d (a ++ [x]) s else (true, s)) c k s).2))
  | 0, k, t, s, h0, hk, hi, hs => by
    refine ⟨t, k, hs, fun _ => hi, .stop ?_ (by nofun)⟩
    have hcl : ClOk Try.prog G0 { boxRow := false, clh := failH, hint := hLdR 85 (.ref nt 0 0) (.fn 65 [SR] []) (SH p a t (K.Z s)) } := .all (hLdR_ok Try.underlying85 rfl (U.ht a t s)).ok failH_ok (fun l xs σ t v σ' h => (by cases h)) (fun f xs t v h => (by cases h))
    exact rnd (n := 200) (keep := keep71) (s := st71 l nt nw nu mf (SH p a t (K.Z s)) (p.V.getD a.length 0) k) (t := st71 l nt nw nu mf (SH p a t (K.Z s)) (p.V.getD a.length 0) k) hcl (lpNo _) ((congrArg Tree.sel (run71e l nt nw nu mf _ _ k)).trans ((selIf (dF (by omega))).trans rfl)) rfl
  | c + 1, k, t, s, h0, hk, hi, hs => by
    cases hg : goesW p K a k s with
    | false =>
      obtain ⟨t', k', h1, h2, h3⟩ := loop_w hp U ha hl ih c (k + 1) (k :: t.tail) s (by omega) (by omega) hi (small_back (small_put hs hl k))
      refine ⟨t', k', h1, ?_⟩
      unfold loopW
      simp only [hg, cond_false, cond_true]
      exact ⟨h2, .next (round_q hp U hi ha hl hs h0 (by omega) hg) h3⟩
    | true =>
      obtain ⟨t2, g1, g2, g3⟩ := ih (a ++ [k]) t.tail s hi (beg_app ha hl h0 (by omega)) (by simp) (small_put hs hl k)
      have hr := round_r hp U hi ha hl hs h0 (by omega) hg g3 g1
      cases hm : (walkW p K d (a ++ [k]) s).1 with
      | true =>
        obtain ⟨t', k', h1, h2, h3⟩ := loop_w hp U ha hl ih c (k + 1) (k :: t2) _ (by omega) (by omega) (g2 hm) (small_back g1)
        refine ⟨t', k', h1, ?_⟩
        unfold loopW
        simp only [hg, cond_true, hm]
        rw [hm] at hr
        exact ⟨h2, .next hr h3⟩
      | false =>
        refine ⟨k :: t2, k, small_back g1, ?_⟩
        unfold loopW
        simp only [hg, cond_true, hm, cond_false]
        rw [hm] at hr
        exact ⟨by nofun, .stop hr (by nofun)⟩
end
end Go.Proofs.Ytngaihdpmoajeaa.Am

namespace Go.Proofs.Ytngaihdpmoajeaa.Am
open Go
set_option maxRecDepth 100000

section
variable {τ : Type} {p : Pb} {K : Cns τ} {l nt nw nu : Nat} {mf : AV} {g : FuncId} {fst fcs : List AV}
theorem lpB_run {i : Nat} {keep : List Nat} {S X : St} {e : Exit} {body c : Code} (hr : ALoopRun Try.prog G0 (fun r => r = none) body { tmps := S.a } S.h e { tmps := X.a } X.h) (hn : X.n = S.n) (hu : ∀ x ∈ loopsOf c, idOf x = i → x = body) :
    LoopsOk Try.prog G0 (fun r => r = none) [] (lpB i keep S e X) c := by
  refine .of_list _ fun x hm => ?_
  intro kp s0 t e' st' h' hsel
  unfold lpB at h'
  cases hb : Nat.beq (idOf x) i with
  | false => rw [hb, cond_false] at h'; cases h'
  | true =>
    rw [hb, cond_true] at h'
    obtain rfl := hu x hm (Nat.eq_of_beq_eq_true hb)
    cases h'
    cases hsel
    exact ⟨.loop hr, hn⟩
theorem only71 : ∀ x ∈ loopsOf (bodyOf Try.prog 71), idOf x = 4 → x = body71 := one_loop (by kernel_rfl)
theorem walk_ok (hp : Ok p) (U : Usr p K l nt nw nu mf g fst fcs) : ∀ (d : Nat) (a t : List Int) (s : τ), K.inv s → Beg p a → a.length + d = p.V.length → Small p a t →
    ∃ t', Small p a t' ∧ ((walkW p K d a s).1 = true → K.inv (walkW p K d a s).2) ∧ ACall Try.prog G0 71 (caps71 l nt nw nu mf) (SH p a t (K.Z s)) (.bool (walkW p K d a s).1) (SH p a t' (K.Z (walkW p K d a s).2))
  | 0, a, t, s, hi, ha, hd, hs => by
    refine ⟨t, hs, U.inv a s hi ha (by omega), ?_⟩
    have hcl : ClOk Try.prog G0 (E71l a.length l p (aV a t) (flL a) (aO a t) (costA p a) (lV (leftA p a)) (lO (leftA p a)) (uA p p.R.length) (rsK p p.V.length) (K.Z s) (K.more s a) (SH p a t (K.Z (K.yst s a)))) :=
      .all ((hLenT_ok 22 [12, 40] _ _).ok.or (hCalT_ok (s14v hp hs (K.Z s)))) failH_ok (cyK_ok (U.yld a t s hi ha (by omega) hs)) (fun f xs t v h => (by cases h))
    exact ACall.says hcl (lpF_ok 4 keep71 _ _) (run71f a.length l nt nw nu mf p (aV a t) (flL a) (aO a t) (costA p a) (lV (leftA p a)) (lO (leftA p a)) (uA p p.R.length) (rsK p p.V.length) (K.Z s) (K.more s a) (SH p a t (K.Z (K.yst s a))))
      (says_need ⟨rfl, rfl, aLen_aV a t⟩ (says_ite (fun _ => says_need ⟨rfl, rfl, rfl⟩ (says_need ⟨rfl, rfl, rfl⟩ says_leaf)) fun h => absurd h (by simp; omega)))
  | d + 1, a, t, s, hi, ha, hd, hs => by
    have hl : a.length < p.V.length := by omega
    have hv := hp.v a.length hl
    obtain ⟨t', k', h1, h2, h3⟩ := loop_w hp U (d := d) ha hl (fun b t s hi hb hbl hs => walk_ok hp U d b t s hi hb (by omega) hs) (p.V.getD a.length 0).toNat 0 t s (by omega) (by omega) hi hs
    refine ⟨t', h1, h2, ?_⟩
    have hcl : ClOk Try.prog G0 (E71n a.length (aV a t)) := .all (hLenT_ok 22 [12, 40] _ _).ok failH_ok (fun l xs σ t v σ' h => (by cases h)) (fun f xs t v h => (by cases h))
    have hw : walkW p K (d + 1) a s = loopW (fun x s => bif goesW p K a x s then walkW p K d (a ++ [x]) s else (true, s)) (p.V.getD a.length 0).toNat 0 s := rfl
    rw [hw]
    cases hm : (loopW (fun x s => bif goesW p K a x s then walkW p K d (a ++ [x]) s else (true, s)) (p.V.getD a.length 0).toNat 0 s).1 with
    | true =>
      rw [hm] at h3
      exact ACall.says hcl (lpB_run (S := st71 l nt nw nu mf (SH p a t (K.Z s)) (p.V.getD a.length 0) 0) (X := st71 l nt nw nu mf (SH p a t' (K.Z _)) (p.V.getD a.length 0) k') h3 rfl only71) (run71x a.length l nt nw nu mf p (aV a t) (aO a t) (costA p a) (lV (leftA p a)) (lO (leftA p a)) (uA p p.R.length) (rsK p p.V.length) (K.Z s) _ k')
        (says_need ⟨rfl, rfl, aLen_aV a t⟩ (says_ite (fun h => absurd h (by simp; omega)) fun _ => says_need ⟨rfl, rfl, aLen_aV a t⟩ (says_need ⟨by omega, by omega⟩ (says_need rfl says_leaf))))
    | false =>
      rw [hm] at h3
      exact ACall.says hcl (lpB_run (S := st71 l nt nw nu mf (SH p a t (K.Z s)) (p.V.getD a.length 0) 0) (X := st71 l nt nw nu mf (SH p a t' (K.Z _)) (p.V.getD a.length 0) k') h3 rfl only71) (run71s a.length l nt nw nu mf p (aV a t) (aO a t) (costA p a) (lV (leftA p a)) (lO (leftA p a)) (uA p p.R.length) (rsK p p.V.length) (K.Z s) _ k')
        (says_need ⟨rfl, rfl, aLen_aV a t⟩ (says_ite (fun h => absurd h (by simp; omega)) fun _ => says_need ⟨rfl, rfl, aLen_aV a t⟩ (says_need ⟨by omega, by omega⟩ (says_need rfl says_leaf))))
end
end Go.Proofs.Ytngaihdpmoajeaa.Am

namespace Go.Proofs.Ytngaihdpmoajeaa.Am
open Go
set_option maxRecDepth 100000

noncomputable def ops69 : List Oper := opsOf (bodyOf Try.prog 69) 1
noncomputable def op69 (i : Nat) : Oper := ops69.getD i default
theorem len69 : ops69.length = 8 := by kernel_rfl
theorem ok69 : (okDraw ops69 && okStill ops69 0 ops69.length) = true := by kernel_rfl
/-- Values, operation by operation. -/
def y69 (n : Nat) : Nat → AV
  | 0 => SR
  | 1 => .fn 65 [SR] []
  | 2 => SR
  | 3 => .fn 70 [SR] []
  | 4 => .ref n 0 0
  | 5 => .ref (n + 1) 0 0
  | _ => .tup []
def d69 : Nat → Option Nat
  | 0 => some 7
  | 1 => some 8
  | 2 => some 9
  | 3 => some 10
  | 4 => some 4
  | 5 => some 5
  | _ => none
def l69 (n l : Nat) (mf : AV) : Nat → List (Nat × AV × Bool)
  | 0 => [(0, .yf l, true), (1, .row [SR] 0, true), (2, .row [mf] 0, true), (3, .row [.yf l] 0, true)]
  | i + 1 => match d69 i with
    | some d => l69 n l mf i ++ [(d, y69 n i, true)]
    | none => l69 n l mf i
def st69 (n l : Nat) (mf : AV) (i : Nat) (h : Heap) : St := .of 23 h (l69 n l mf i)
theorem dst69 : ∀ i, i < 8 → (op69 i).dst = d69 i := by
  have h : ((List.range 8).all fun i => decide ((op69 i).dst = d69 i)) = true := by kernel_rfl
  intro i hi
  exact of_decide_eq_true (List.all_eq_true.1 h i (List.mem_range.2 hi))
theorem guard69 : ∀ i, i < 8 → (op69 i).guard = none := by
  have h : ((List.range 8).all fun i => (op69 i).guard.isNone) = true := by kernel_rfl
  intro i hi
  simpa using List.all_eq_true.1 h i (List.mem_range.2 hi)
noncomputable def ρ69 (n l : Nat) (mf : AV) (i : Nat) : Operand → Option AV := (st69 n l mf i []).evM G0 ((op69 i).looksAt ops69.toArray)
section
variable (n l : Nat) (mf : AV)
theorem p69_0 (σ : Heap) : aopR Try.prog (ρ69 n l mf 0) σ (op69 0) = some (y69 n 0, σ) := by kernel_rfl
theorem p69_1 (σ : Heap) : aopR Try.prog (ρ69 n l mf 1) σ (op69 1) = some (y69 n 1, σ) := by kernel_rfl
theorem p69_2 (σ : Heap) : aopR Try.prog (ρ69 n l mf 2) σ (op69 2) = some (y69 n 2, σ) := by kernel_rfl
theorem p69_3 (σ : Heap) : aopR Try.prog (ρ69 n l mf 3) σ (op69 3) = some (y69 n 3, σ) := by kernel_rfl
theorem p69_4 (σ : Heap) : aopR Try.prog (ρ69 n l mf 4) σ (op69 4) = aAlloc Try.prog σ 85 := by kernel_rfl
theorem p69_5 (σ : Heap) : aopR Try.prog (ρ69 n l mf 5) σ (op69 5) = aAlloc Try.prog σ 1 := by kernel_rfl
theorem p69_6 (σ : Heap) : aopR Try.prog (ρ69 n l mf 6) σ (op69 6) = (aStore Try.prog σ 85 (.ref n 0 0) (.fn 65 [SR] [])).map (AV.tup [], ·) := by kernel_rfl
theorem p69_7 (σ : Heap) : aopR Try.prog (ρ69 n l mf 7) σ (op69 7) = (aStore Try.prog σ 1 (.ref (n + 1) 0 0) (.fn 70 [SR] [])).map (AV.tup [], ·) := by kernel_rfl
end
/-- The heap, by what has been carried out. -/
def H69 (B W : Heap) (f : Nat → Bool) : Heap := B ++ (if f 6 then .cells 0 [.fn 65 [SR] []] else if f 4 then .cells 0 [.nilf] else .resv) :: (if f 7 then .cells 0 [.fn 70 [SR] []] else if f 5 then .cells 0 [.nilf] else .resv) :: .resv :: W
theorem app_at {B : Heap} {L : Heap} (i : Nat) : (B ++ L)[B.length + i]? = L[i]? := by
  rw [List.getElem?_append_right (by omega), Nat.add_sub_cancel_left]
theorem app_set {B : Heap} {L : Heap} (i : Nat) (o : AObj) : (B ++ L).set (B.length + i) o = B ++ L.set i o := by
  rw [List.set_append_right _ _ (by omega), Nat.add_sub_cancel_left]
theorem need69 : ∀ i, i < 8 → (i = 6 → ∃ e ∈ (op69 i).after, Region.binds .any e = true ∧ e.on = 4) ∧ (i = 7 → ∃ e ∈ (op69 i).after, Region.binds .any e = true ∧ e.on = 5) := by
  have h6 : ((op69 6).after.toList.any fun e => Region.binds .any e && Nat.beq e.on 4) = true := by kernel_rfl
  have h7 : ((op69 7).after.toList.any fun e => Region.binds .any e && Nat.beq e.on 5) = true := by kernel_rfl
  refine fun i hi => ⟨fun e => ?_, fun e => ?_⟩
  · subst e
    obtain ⟨e, he, h⟩ := List.any_eq_true.1 h6
    exact ⟨e, by simpa using he, (Bool.and_eq_true_iff.1 h).1, Nat.eq_of_beq_eq_true (Bool.and_eq_true_iff.1 h).2⟩
  · subst e
    obtain ⟨e, he, h⟩ := List.any_eq_true.1 h7
    exact ⟨e, by simpa using he, (Bool.and_eq_true_iff.1 h).1, Nat.eq_of_beq_eq_true (Bool.and_eq_true_iff.1 h).2⟩
theorem worth69 {B W : Heap} {l : Nat} {mf : AV} {m : List Nat} {i : Nat} (hi : i < 4) (hv : ∀ σ, aopR Try.prog (ρ69 B.length l mf i) σ (op69 i) = some (y69 B.length i, σ)) : WorthM Try.prog G0 (H69 B W) ops69 m i (op69 i) (masked ((op69 i).looksAt ops69.toArray) (st69 B.length l mf i []).a) (y69 B.length i) := by
  intro f hc hlen hu hp
  refine .inl ⟨wanted_none (guard69 i (by omega)), ?_⟩
  have e : H69 B W (fun j => decide (j = i) || f j) = H69 B W f := by
    unfold H69
    have h4 : (4 : Nat) ≠ i := by omega
    have h5 : (5 : Nat) ≠ i := by omega
    have h6 : (6 : Nat) ≠ i := by omega
    have h7 : (7 : Nat) ≠ i := by omega
    simp [h4, h5, h6, h7]
  rw [e]
  refine AStep.op ?_
  rw [aopR_eq, St.evM_eq]
  exact hv _
theorem get69 (i : Nat) (hi : i < 8) : ops69[i]? = some (op69 i) := by
  have hl : i < ops69.length := by rw [len69]; exact hi
  unfold op69
  rw [List.getD_eq_getElem?_getD, List.getElem?_eq_getElem hl]
  rfl
/-- Nothing is stored before its variable is made. -/
theorem closed6 {f : Nat → Bool} (hc : Closed ops69 f) (h : f 4 = false) : f 6 = false := by
  cases h6 : f 6 with
  | false => rfl
  | true =>
    obtain ⟨e, h1, h2, h3⟩ := (need69 6 (by omega)).1 rfl
    have := hc 6 _ (get69 6 (by omega)) h6 e h1 h2
    rw [h3, h] at this
    cases this
theorem closed7 {f : Nat → Bool} (hc : Closed ops69 f) (h : f 5 = false) : f 7 = false := by
  cases h6 : f 7 with
  | false => rfl
  | true =>
    obtain ⟨e, h1, h2, h3⟩ := (need69 7 (by omega)).2 rfl
    have := hc 7 _ (get69 7 (by omega)) h6 e h1 h2
    rw [h3, h] at this
    cases this
theorem all69 {σ : Heap} : aAlloc Try.prog σ 85 = some (.ref σ.length 0 0, σ ++ [.cells 0 [.nilf]]) ∧ aAlloc Try.prog σ 1 = some (.ref σ.length 0 0, σ ++ [.cells 0 [.nilf]]) := ⟨by kernel_rfl, by kernel_rfl⟩
theorem worth69a {B W : Heap} {l : Nat} {mf : AV} {m : List Nat} : WorthM Try.prog G0 (H69 B W) ops69 m 4 (op69 4) (masked ((op69 4).looksAt ops69.toArray) (st69 B.length l mf 4 []).a) (y69 B.length 4) := by
  intro f hc hlen hu hp
  refine .inl ⟨wanted_none (guard69 4 (by omega)), ?_⟩
  have h6 := closed6 hc hu
  have hs : (H69 B W f).set B.length (.cells 0 [.nilf]) = H69 B W (fun j => decide (j = 4) || f j) := by
    unfold H69
    rw [show B.length = B.length + 0 from rfl, app_set]
    simp [h6]
  rw [← hs]
  refine AStep.slotR (AStep.op ?_) ?_ fun _ _ _ _ _ x hx => by obtain rfl := List.mem_singleton.1 hx; exact .nilf
  · rw [aopR_eq, St.evM_eq]
    exact (p69_4 B.length l mf _).trans all69.1
  · unfold H69
    rw [show B.length = B.length + 0 from rfl, app_at]
    simp [hu, h6]
theorem worth69b {B W : Heap} {l : Nat} {mf : AV} {m : List Nat} : WorthM Try.prog G0 (H69 B W) ops69 m 5 (op69 5) (masked ((op69 5).looksAt ops69.toArray) (st69 B.length l mf 5 []).a) (y69 B.length 5) := by
  intro f hc hlen hu hp
  refine .inl ⟨wanted_none (guard69 5 (by omega)), ?_⟩
  have h6 := closed7 hc hu
  have hs : (H69 B W f).set (B.length + 1) (.cells 0 [.nilf]) = H69 B W (fun j => decide (j = 5) || f j) := by
    unfold H69
    rw [app_set]
    simp [h6]
  rw [← hs]
  refine AStep.slotR (AStep.op ?_) ?_ fun _ _ _ _ _ x hx => by obtain rfl := List.mem_singleton.1 hx; exact .nilf
  · rw [aopR_eq, St.evM_eq]
    exact (p69_5 B.length l mf _).trans all69.2
  · unfold H69
    rw [app_at]
    simp [hu, h6]
theorem sto69 {σ : Heap} {t : TypeId} {r : Nat} {x : AV} (ht : ((Try.prog.info? t).map (·.size)) = some 1) (ho : σ[r]? = some (.cells 0 [.nilf])) (hx : x.cells = [x]) (h1 : AV.one x = true) : aStore Try.prog σ t (.ref r 0 0) x = some (σ.set r (.cells 0 [x])) := by
  cases hi : Try.prog.info? t with
  | none => rw [hi] at ht; cases ht
  | some i =>
    rw [hi] at ht
    have hs : i.size = 1 := Option.some.inj ht
    unfold aStore
    have : objAt σ r 0 = some [.nilf] := by unfold objAt; rw [ho]; rfl
    simp only [hi, this, hx, hs]
    rw [if_pos ⟨rfl, by simp, by simp [h1]⟩]
    simp [setL]
theorem worth69s {B W : Heap} {l : Nat} {mf : AV} {m : List Nat} : WorthM Try.prog G0 (H69 B W) ops69 m 6 (op69 6) (masked ((op69 6).looksAt ops69.toArray) (st69 B.length l mf 6 []).a) (y69 B.length 6) := by
  intro f hc hlen hu hp
  refine .inl ⟨wanted_none (guard69 6 (by omega)), ?_⟩
  obtain ⟨e, h1, h2, h3⟩ := (need69 6 (by omega)).1 rfl
  have h4 : f 4 = true := by have := hp e h1 h2; rwa [h3] at this
  have hs : (H69 B W f).set B.length (.cells 0 [.fn 65 [SR] []]) = H69 B W (fun j => decide (j = 6) || f j) := by
    unfold H69
    rw [show B.length = B.length + 0 from rfl, app_set]
    simp
  rw [← hs]
  refine AStep.op ?_
  rw [aopR_eq, St.evM_eq]
  refine (p69_6 B.length l mf _).trans ?_
  rw [sto69 (by kernel_rfl) (by unfold H69; rw [show B.length = B.length + 0 from rfl, app_at]; simp [hu, h4]) rfl rfl]
  rfl
theorem worth69t {B W : Heap} {l : Nat} {mf : AV} {m : List Nat} : WorthM Try.prog G0 (H69 B W) ops69 m 7 (op69 7) (masked ((op69 7).looksAt ops69.toArray) (st69 B.length l mf 7 []).a) (y69 B.length 7) := by
  intro f hc hlen hu hp
  refine .inl ⟨wanted_none (guard69 7 (by omega)), ?_⟩
  obtain ⟨e, h1, h2, h3⟩ := (need69 7 (by omega)).2 rfl
  have h4 : f 5 = true := by have := hp e h1 h2; rwa [h3] at this
  have hs : (H69 B W f).set (B.length + 1) (.cells 0 [.fn 70 [SR] []]) = H69 B W (fun j => decide (j = 7) || f j) := by
    unfold H69
    rw [app_set]
    simp
  rw [← hs]
  refine AStep.op ?_
  rw [aopR_eq, St.evM_eq]
  refine (p69_7 B.length l mf _).trans ?_
  rw [sto69 (by kernel_rfl) (by unfold H69; rw [app_at]; simp [hu, h4]) rfl rfl]
  rfl
theorem put69 (n l : Nat) (mf : AV) (i : Nat) (hi : i < 8) : (AAct.put { tmps := (st69 n l mf i []).a } (op69 i).dst (y69 n i)).tmps = (st69 n l mf (i + 1) []).a := by
  rw [dst69 i hi]
  have h2 := congrArg AAct.tmps (St.put_a (st69 n l mf i []) (d69 i) (y69 n i) true [] [])
  refine h2.trans ?_
  cases hd : d69 i with
  | none => unfold St.put st69; simp only [l69, hd]; rfl
  | some d =>
    unfold St.put st69 St.of
    simp only [l69, hd, List.foldl_append, List.foldl_cons, List.foldl_nil]
theorem drop69 (i : Nat) (hi : i < 8) : ops69.drop i = op69 i :: ops69.drop (i + 1) := by
  have hl : i < ops69.length := by rw [len69]; exact hi
  have e : op69 i = ops69[i]'hl := by unfold op69; rw [List.getD_eq_getElem?_getD, List.getElem?_eq_getElem hl]; rfl
  rw [e]
  exact List.drop_eq_getElem_cons hl
theorem worthAll69 {B W : Heap} {l : Nat} {mf : AV} {m : List Nat} (i : Nat) (hi : i < 8) : WorthM Try.prog G0 (H69 B W) ops69 m i (op69 i) (masked ((op69 i).looksAt ops69.toArray) (st69 B.length l mf i []).a) (y69 B.length i) := by
  match i, hi with
  | 0, _ => exact worth69 (by omega) (p69_0 _ _ _)
  | 1, _ => exact worth69 (by omega) (p69_1 _ _ _)
  | 2, _ => exact worth69 (by omega) (p69_2 _ _ _)
  | 3, _ => exact worth69 (by omega) (p69_3 _ _ _)
  | 4, _ => exact worth69a
  | 5, _ => exact worth69b
  | 6, _ => exact worth69s
  | 7, _ => exact worth69t
theorem opsM69 {B W : Heap} {l : Nat} {mf : AV} {m : List Nat} : ∀ (d i : Nat), i + d = 8 → AOpsM Try.prog G0 (H69 B W) ops69 m i (ops69.drop i) (st69 B.length l mf i []).a (st69 B.length l mf 8 []).a
  | 0, i, hi => by
    obtain rfl : i = 8 := by omega
    rw [List.drop_eq_nil_of_le (by rw [len69]; omega)]
    exact .nil _ _
  | d + 1, i, hi => by
    rw [drop69 i (by omega)]
    refine .step (worthAll69 i (by omega)) ?_
    rw [put69 _ _ _ i (by omega)]
    exact opsM69 d (i + 1) (by omega)
/-- THE FIRST STATEMENT. -/
theorem first69 {B W : Heap} {l : Nat} {mf : AV} {R : Option Nat → Prop} : AExec Try.prog G0 R (.region 1 ops69.toArray true) { tmps := (st69 B.length l mf 0 []).a } (B ++ .resv :: .resv :: .resv :: W) .normal { tmps := (st69 B.length l mf 8 []).a } (B ++ .cells 0 [.fn 65 [SR] []] :: .cells 0 [.fn 70 [SR] []] :: .resv :: W) := by
  obtain ⟨h1, h2⟩ := Bool.and_eq_true_iff.1 ok69
  have key := (opsM69 (B := B) (W := W) (l := l) (mf := mf) (m := []) 8 0 rfl).draw (R := R) (id := 1) mixed h1 h2
  have e0 : H69 B W (fun _ => false) = B ++ .resv :: .resv :: .resv :: W := rfl
  have e1 : H69 B W (fun j => decide (j < ops69.length)) = B ++ .cells 0 [.fn 65 [SR] []] :: .cells 0 [.fn 70 [SR] []] :: .resv :: W := by
    unfold H69
    rw [len69]
    simp
  rw [e0, e1] at key
  exact key
end Go.Proofs.Ytngaihdpmoajeaa.Am

namespace Go.Proofs.Ytngaihdpmoajeaa.Am
open Go
set_option maxRecDepth 100000

/-- A variable made at a kept place, told at a heap. -/
def hAlT (t : TypeId) (r : Nat) (h0 h1 : Heap) : Heap → Oper → (Operand → Option AV) → Option (AV × Bool × Heap × Prop) := fun h o _ => match o.op with
  | .alloc t' => bif Nat.beq t' t then some (.ref r 0 0, true, h1, h = h0) else none
  | _ => none
theorem hAlT_ok {t : TypeId} (r : Nat) {z : List AV} (hz : (aZero Try.prog t).map AV.cells = some z) (h1 : z.all AV.one = true) (hb : ∀ n, ∀ x ∈ z, Below n x) {h0 h1' : Heap} (e1 : h0[r]? = some .resv) (e2 : h1' = h0.set r (.cells 0 z)) : HintOk Try.prog G0 (hAlT t r h0 h1') := by
  subst e2
  refine ⟨fun h o a m y tg h' p hh hp => ?_, fun h o ρ y tg h' p hh hp hq => ?_⟩
  · unfold hAlT at hh
    split at hh <;> first | (cases hh; done) | skip
    rename_i t' ho
    cases ht : Nat.beq t' t with
    | false => rw [ht] at hh; cases hh
    | true =>
      rw [ht, cond_true] at hh
      cases hh
      subst hp
      exact (hAlO_ok r hz h1 hb).step h o a m _ true _ _ (by unfold hAlO; rw [ho]; dsimp only; rw [ht, cond_true]) e1
  · unfold hAlT at hh
    split at hh <;> first | (cases hh; done) | skip
    rename_i t' ho
    cases ht : Nat.beq t' t with
    | false => rw [ht] at hh; cases hh
    | true =>
      rw [ht, cond_true] at hh
      cases hh
      subst hp
      exact (hAlO_ok r hz h1 hb).quiet h o ρ _ true _ _ (by unfold hAlO; rw [ho]; dsimp only; rw [ht, cond_true]) e1 hq
noncomputable def b69 : Code := bodyOf Try.prog 69
noncomputable def c69a : Code := fstS b69
noncomputable def c69c : Code := sndS (sndS b69)
theorem code69 : bodyOf Try.prog 69 = .seq c69a (.seq (.region 1 ops69.toArray true) c69c) := by kernel_rfl
def st69i (l : Nat) (mf : AV) (h : Heap) : St := .of 23 h [(0, .yf l, true), (1, .row [SR] 0, true), (2, .row [mf] 0, true)]
theorem run69a (l : Nat) (mf : AV) (h : Heap) : xBody Try.prog G0 {} 200 noLoops [0, 1, 2, 3] c69a (st69i l mf h) = .leaf (Exit.normal, St.of 23 h [(0, (AV.yf l), true), (1, (AV.row [(AV.ref (0 : Nat) (0 : Nat) (0 : Nat))] (0 : Nat)), true), (2, (AV.row [mf] (0 : Nat)), true), (3, (AV.row [(AV.yf l)] (0 : Nat)), true)]) := by kernel_rfl
def E69 (nw : Nat) (caps fst fcs : List AV) (g : FuncId) (h0 h1 h2 h3 : Heap) (bd mo : Int) (op m : Bool) : Env := { boxRow := false, clh := clhs [(71, caps, h2, .bool m, h3)], hint := orH (hAlT 29 nw h0 h1) (orH (hSt 29 (.ref nw 0 0) (.fn 71 [] caps) h1 h2) (orH (hLdR 29 (.ref nw 0 0) (.fn 71 [] caps) h2) (orH (hCalT none 73 [] [] [SR] (.bool op) h2) (orH (hCalT none 72 [] [] [SR] (I bd) h2) (hCalT (some 17) g fst fcs [] (I mo) h2))))) }
theorem run69c (n l nw : Nat) (mf : AV) (caps fst fcs : List AV) (g : FuncId) (h0 h1 h2 h3 : Heap) (bd mo : Int) (op m : Bool) : xBody Try.prog G0 (E69 nw caps fst fcs g h0 h1 h2 h3 bd mo op m) 200 noLoops [0] c69c (st69 n l mf 8 h0) = .need (h0 = h0) (.need (((Option.some (AV.ref nw (0 : Nat) (0 : Nat))) = (Option.some (AV.ref nw (0 : Nat) (0 : Nat)))) ∧ (((Option.some (AV.fn (71 : Nat) [] [(AV.row [(AV.ref (0 : Nat) (0 : Nat) (0 : Nat))] (0 : Nat)), (AV.row [(AV.yf l)] (0 : Nat)), (AV.ref n (0 : Nat) (0 : Nat)), (AV.row [mf] (0 : Nat)), (AV.ref nw (0 : Nat) (0 : Nat)), (AV.ref (n + (1 : Nat)) (0 : Nat) (0 : Nat))])) = (Option.some (AV.fn (71 : Nat) [] caps))) ∧ ((h1 = h1) ∧ ((aStore Try.prog h1 (29 : TypeId) (AV.ref nw (0 : Nat) (0 : Nat)) (AV.fn (71 : FuncId) [] caps)) = (Option.some h2))))) (.need (((Option.some (AV.fn (73 : Nat) [] [])) = (Option.some (AV.fn (73 : Nat) [] []))) ∧ (((Option.some [(AV.ref (0 : Nat) (0 : Nat) (0 : Nat))]) = (Option.some [(AV.ref (0 : Nat) (0 : Nat) (0 : Nat))])) ∧ (h2 = h2))) (.ite (op) (.need (((Option.some (AV.fn (72 : Nat) [] [])) = (Option.some (AV.fn (72 : Nat) [] []))) ∧ (((Option.some [(AV.ref (0 : Nat) (0 : Nat) (0 : Nat))]) = (Option.some [(AV.ref (0 : Nat) (0 : Nat) (0 : Nat))])) ∧ (h2 = h2))) (.need (((Option.some mf) = (Option.some (AV.fn g fst fcs))) ∧ (((Option.some ([] : List AV)) = (Option.some ([] : List AV))) ∧ (h2 = h2))) (.ite (decide (bd < mo)) (.need (((Option.some (AV.ref nw (0 : Nat) (0 : Nat))) = (Option.some (AV.ref nw (0 : Nat) (0 : Nat)))) ∧ (h2 = h2)) (.need ((caps = caps) ∧ (h2 = h2)) (.leaf (Exit.normal, St.of 23 h3 [(0, (AV.yf l), true)])))) (.leaf (Exit.normal, St.of 23 h2 [(0, (AV.yf l), true)]))))) (.leaf (Exit.normal, St.of 23 h2 [(0, (AV.yf l), true)]))))) := by kernel_rfl
end Go.Proofs.Ytngaihdpmoajeaa.Am

namespace Go.Proofs.Ytngaihdpmoajeaa.Am
open Go
set_option maxRecDepth 100000

section
variable {τ : Type} {p : Pb}
def vars69 (l n : Nat) (mf : AV) (W : Heap) : Heap := .cells 0 [.fn 65 [SR] []] :: .cells 0 [.fn 70 [SR] []] :: .cells 0 [.fn 71 [] (caps71 l n (n + 2) (n + 1) mf)] :: W
/-- The whole search, in plain terms. -/
def runW (p : Pb) (K : Cns τ) (a : List Int) (s : τ) : Bool × τ := bif (bif !(leftA p a).any fun n => decide (n < 0) then decide (boundA p a < K.most s) else false) then walkW p K (p.V.length - a.length) a s else (true, s)
theorem SH_app (p : Pb) (a t : List Int) (Z W : Heap) : SH p a t (Z ++ W) = SH p a t Z ++ W := (List.append_assoc _ _ _).symm
theorem beg_nil (p : Pb) : Beg p [] := ⟨Nat.zero_le _, fun k hk => absurd hk (by simp)⟩
theorem exec69 (hp : Ok p) {a t : List Int} (ha : Beg p a) (hs : Small p a t) {K : Cns τ} {Zc W : τ → Heap} {l n : Nat} {mf : AV} {g : FuncId} {fst fcs : List AV} (U : Usr p K l n (n + 2) (n + 1) mf g fst fcs) (hZ : ∀ s, K.Z s = Zc s ++ vars69 l n mf (W s)) {s : τ} (hi : K.inv s) (hn : (SH p a t (Zc s)).length = n) :
    ∃ t', Small p a t' ∧ ((runW p K a s).1 = true → K.inv (runW p K a s).2) ∧ AExec Try.prog G0 (fun r => r = none) (bodyOf Try.prog 69) { tmps := (st69i l mf []).a } (SH p a t (Zc s ++ .resv :: .resv :: .resv :: W s)) .normal { tmps := (St.of 23 [] [(0, .yf l, true)]).a } (SH p a t' (K.Z (runW p K a s).2)) := by
  subst hn
  have x1 := first69 (B := SH p a t (Zc s)) (W := W s) (l := l) (mf := mf) (R := fun r => r = none)
  have x0 : AExec Try.prog G0 (fun r => r = none) c69a { tmps := (st69i l mf []).a } (SH p a t (Zc s) ++ .resv :: .resv :: .resv :: W s) .normal { tmps := (st69 (SH p a t (Zc s)).length l mf 0 []).a } (SH p a t (Zc s) ++ .resv :: .resv :: .resv :: W s) :=
    rnd (s := st69i l mf (SH p a t (Zc s) ++ .resv :: .resv :: .resv :: W s)) (t := st69 (SH p a t (Zc s)).length l mf 0 (SH p a t (Zc s) ++ .resv :: .resv :: .resv :: W s)) clok0 (lpNo _) (congrArg Tree.sel (run69a l mf _)) rfl
  obtain ⟨t', k1, k2, k3⟩ := walk_ok hp U (p.V.length - a.length) a t s hi ha (by have := ha.len; omega) hs
  have hlen : (SH p a t (Zc s) ++ AObj.cells 0 [.fn 65 [SR] []] :: .cells 0 [.fn 70 [SR] []] :: .resv :: W s)[(SH p a t (Zc s)).length + 2]? = some .resv := app_at 2
  have hh1 : (SH p a t (Zc s) ++ AObj.cells 0 [.fn 65 [SR] []] :: .cells 0 [.fn 70 [SR] []] :: .cells 0 [.nilf] :: W s) = (SH p a t (Zc s) ++ AObj.cells 0 [.fn 65 [SR] []] :: .cells 0 [.fn 70 [SR] []] :: .resv :: W s).set ((SH p a t (Zc s)).length + 2) (.cells 0 [.nilf]) := by rw [app_set]; rfl
  have hh2 : SH p a t (K.Z s) = SH p a t (Zc s) ++ vars69 l (SH p a t (Zc s)).length mf (W s) := by rw [hZ, SH_app]
  have hst : aStore Try.prog (SH p a t (Zc s) ++ AObj.cells 0 [.fn 65 [SR] []] :: .cells 0 [.fn 70 [SR] []] :: .cells 0 [.nilf] :: W s) 29 (.ref ((SH p a t (Zc s)).length + 2) 0 0) (.fn 71 [] (caps71 l (SH p a t (Zc s)).length ((SH p a t (Zc s)).length + 2) ((SH p a t (Zc s)).length + 1) mf)) = some (SH p a t (K.Z s)) := by
    rw [sto69 (by kernel_rfl) (app_at 2) rfl rfl, app_set, hh2]
    rfl
  have hcl : ClOk Try.prog G0 (E69 ((SH p a t (Zc s)).length + 2) (caps71 l (SH p a t (Zc s)).length ((SH p a t (Zc s)).length + 2) ((SH p a t (Zc s)).length + 1) mf) fst fcs g (SH p a t (Zc s) ++ AObj.cells 0 [.fn 65 [SR] []] :: .cells 0 [.fn 70 [SR] []] :: .resv :: W s) (SH p a t (Zc s) ++ AObj.cells 0 [.fn 65 [SR] []] :: .cells 0 [.fn 70 [SR] []] :: .cells 0 [.nilf] :: W s) (SH p a t (K.Z s)) (SH p a t' (K.Z (walkW p K (p.V.length - a.length) a s).2)) (boundA p a) (K.most s) (!(leftA p a).any fun n => decide (n < 0)) (walkW p K (p.V.length - a.length) a s).1) := by
    refine .all ((hAlT_ok _ (z := [.nilf]) (by kernel_rfl) rfl (fun n x hx => by obtain rfl := List.mem_singleton.1 hx; exact .nilf) hlen hh1).or ((hSt_ok 29 _ _ _ _).ok.or ((hLdR_ok Try.underlying29 rfl (U.hw a t s)).ok.or ((hCalT_ok (s73 hp (K.Z s))).or ((hCalT_ok (s72 hp ha (K.Z s))).or (hCalT_ok (U.most a t s hi ha))))))) (clhs_ok fun x hx => ?_) (fun l xs σ t v σ' h => (by cases h)) (fun f xs t v h => (by cases h))
    obtain rfl := List.mem_singleton.1 hx
    exact k3
  rw [code69, SH_app]
  have key := run69c (SH p a t (Zc s)).length l ((SH p a t (Zc s)).length + 2) mf (caps71 l (SH p a t (Zc s)).length ((SH p a t (Zc s)).length + 2) ((SH p a t (Zc s)).length + 1) mf) fst fcs g (SH p a t (Zc s) ++ AObj.cells 0 [.fn 65 [SR] []] :: .cells 0 [.fn 70 [SR] []] :: .resv :: W s) (SH p a t (Zc s) ++ AObj.cells 0 [.fn 65 [SR] []] :: .cells 0 [.fn 70 [SR] []] :: .cells 0 [.nilf] :: W s) (SH p a t (K.Z s)) (SH p a t' (K.Z (walkW p K (p.V.length - a.length) a s).2)) (boundA p a) (K.most s) (!(leftA p a).any fun n => decide (n < 0)) (walkW p K (p.V.length - a.length) a s).1
  unfold runW
  cases ho : (!(leftA p a).any fun n => decide (n < 0)) with
  | false =>
    refine ⟨t, hs, fun _ => hi, .seq x0 (.seq x1 (rnd (s := st69 (SH p a t (Zc s)).length l mf 8 (SH p a t (Zc s) ++ AObj.cells 0 [.fn 65 [SR] []] :: .cells 0 [.fn 70 [SR] []] :: .resv :: W s)) (t := St.of 23 (SH p a t (K.Z s)) [(0, .yf l, true)]) hcl (lpNo _) ((congrArg Tree.sel key).trans ?_) rfl))⟩
    rw [ho]
    exact t_need rfl (t_need ⟨rfl, rfl, rfl, hst⟩ (t_need ⟨rfl, rfl, rfl⟩ rfl))
  | true =>
    cases hb : decide (boundA p a < K.most s) with
    | false =>
      refine ⟨t, hs, fun _ => hi, .seq x0 (.seq x1 (rnd (s := st69 (SH p a t (Zc s)).length l mf 8 (SH p a t (Zc s) ++ AObj.cells 0 [.fn 65 [SR] []] :: .cells 0 [.fn 70 [SR] []] :: .resv :: W s)) (t := St.of 23 (SH p a t (K.Z s)) [(0, .yf l, true)]) hcl (lpNo _) ((congrArg Tree.sel key).trans ?_) rfl))⟩
      rw [ho]
      exact t_need rfl (t_need ⟨rfl, rfl, rfl, hst⟩ (t_need ⟨rfl, rfl, rfl⟩ ((selIt rfl).trans (t_need ⟨rfl, rfl, rfl⟩ (t_need ⟨by rw [U.fn], rfl, rfl⟩ ((selIf hb).trans rfl))))))
    | true =>
      refine ⟨t', k1, k2, .seq x0 (.seq x1 (rnd (s := st69 (SH p a t (Zc s)).length l mf 8 (SH p a t (Zc s) ++ AObj.cells 0 [.fn 65 [SR] []] :: .cells 0 [.fn 70 [SR] []] :: .resv :: W s)) (t := St.of 23 (SH p a t' (K.Z (walkW p K (p.V.length - a.length) a s).2)) [(0, .yf l, true)]) hcl (lpNo _) ((congrArg Tree.sel key).trans ?_) rfl))⟩
      rw [ho]
      exact t_need rfl (t_need ⟨rfl, rfl, rfl, hst⟩ (t_need ⟨rfl, rfl, rfl⟩ ((selIt rfl).trans (t_need ⟨rfl, rfl, rfl⟩ (t_need ⟨by rw [U.fn], rfl, rfl⟩ ((selIt hb).trans (t_need ⟨rfl, rfl⟩ (t_need ⟨rfl, rfl⟩ rfl))))))))
end
end Go.Proofs.Ytngaihdpmoajeaa.Am

namespace Go.Proofs.Ytngaihdpmoajeaa.Am
open Go
set_option maxRecDepth 100000

/-- A call of the iterator. -/
theorem c69 {τ : Type} {p : Pb} (hp : Ok p) {a t : List Int} (ha : Beg p a) (hs : Small p a t) {K : Cns τ} {Zc : τ → Heap} {l n : Nat} {mf : AV} {g : FuncId} {fst fcs : List AV} (U : Usr p K l n (n + 2) (n + 1) mf g fst fcs) (hZ : ∀ s, K.Z s = Zc s ++ vars69 l n mf []) {s : τ} (hi : K.inv s) (hn : (SH p a t (Zc s)).length = n) :
    ∃ t', Small p a t' ∧ ((runW p K a s).1 = true → K.inv (runW p K a s).2) ∧ ACall Try.prog G0 69 [.yf l, .row [SR] 0, .row [mf] 0] (SH p a t (Zc s)) (.tup []) (SH p a t' (K.Z (runW p K a s).2)) := by
  obtain ⟨t', h1, h2, h3⟩ := exec69 hp ha hs U (W := fun _ => []) hZ hi hn
  refine ⟨t', h1, h2, ?_⟩
  obtain ⟨fn, c, k1, k2, k3⟩ := fnOf (f := 69) (by kernel_rfl)
  rw [k3] at h3
  have hres : fn.results.toList = [] := by
    have : (Try.prog.funcs[69]?).map (·.results.toList) = some [] := by kernel_rfl
    rw [k1] at this
    exact Option.some.inj this
  have hnt : fn.ntmps = 23 := by
    have : (Try.prog.funcs[69]?).map (·.ntmps) = some 23 := by kernel_rfl
    rw [k1] at this
    exact Option.some.inj this
  have e3 : SH p a t (Zc s ++ .resv :: .resv :: .resv :: []) = SH p a t (Zc s) ++ List.replicate 3 .resv := SH_app _ _ _ _ _
  rw [e3] at h3
  refine ACall.rooms 3 (ACall.of_body (args := [.yf l, .row [SR] 0, .row [mf] 0]) (xs := []) k1 k2 (names 69 fn k1) (.weak ?_ h3) (.inl rfl) ?_)
  · have e : (st69i l mf []).a = .yf l :: .row [SR] 0 :: .row [mf] 0 :: List.replicate 20 .junk := by kernel_rfl
    rw [hnt, e]
    refine ⟨by simp, fun j y hj => ?_⟩
    match j, hj with
    | 0, hj => exact .inr hj
    | 1, hj => exact .inr hj
    | 2, hj => exact .inr hj
    | j + 3, hj => exact .inl (List.eq_of_mem_replicate (n := 20) (List.mem_of_getElem? (i := j) (by simpa using hj)))
  · rw [hres]
    rfl
theorem run47 (r g : Nat) (f : FuncId) (cs : List AV) (h : Heap) : xCall Try.prog G0 {} 200 47 [.ref r g 0, .fn f [] cs] [true, true] h = .leaf ((AV.fn (69 : Nat) [] [(AV.row [(AV.ref r g (0 : Nat))] (0 : Nat)), (AV.row [(AV.fn f [] cs)] (0 : Nat))]), true, h) := by kernel_rfl
theorem run48 (h : Heap) : xCall Try.prog G0 {} 200 48 [] [] h = .leaf ((I ((24000001 : Int))), false, h) := by kernel_rfl
theorem c47 (r g : Nat) (f : FuncId) (cs : List AV) (h : Heap) : ACall Try.prog G0 47 [.ref r g 0, .fn f [] cs] h (.fn 69 [] [.row [.ref r g 0] 0, .row [.fn f [] cs] 0]) h := by
  refine ACall.saysC clok0 (run47 r g f cs h) ?_
  exact says_leaf
theorem c48 (h : Heap) : ACall Try.prog G0 48 [] h (I 24000001) h := ACall.saysC clok0 (run48 h) says_leaf
noncomputable def b42 : Code := bodyOf Try.prog 42
noncomputable def t42 : Code := sndS (sndS (sndS b42))
noncomputable def c42 (i : Nat) : Code := match i with
  | 0 => fstS b42
  | 1 => fstS (sndS b42)
  | 2 => fstS (sndS (sndS b42))
  | 3 => fstS t42
  | 4 => fstS (sndS t42)
  | 5 => fstS (fstS (sndS (sndS t42)))
  | _ => sndS (sndS (sndS t42))
noncomputable def rfA : Code → Code | .rangeFunc _ _ a _ => a | .block _ c => rfA c | .seq _ c => rfA c | _ => .skip
noncomputable def rfB : Code → Code | .rangeFunc _ _ _ b => b | .block _ c => rfB c | .seq _ c => rfB c | _ => .skip
noncomputable def as42 : Code := rfA (sndS (fstS (sndS (sndS t42))))
noncomputable def bd42 : Code := rfB (sndS (fstS (sndS (sndS t42))))
theorem code42 : bodyOf Try.prog 42 = .seq (c42 0) (.seq (c42 1) (.seq (c42 2) (.seq (c42 3) (.seq (c42 4) (.seq (.seq (c42 5) (.block 2 (.rangeFunc (.tmp 30) #[31, 32] as42 bd42))) (c42 6)))))) := by kernel_rfl
def F66 : AV := .fn 66 [] [.ref 4 0 0]
def S69 (mf : AV) : AV := .fn 69 [] [.row [SR] 0, .row [mf] 0]
def st42a (p : Pb) (a : AV) (h : Heap) : St := .of 40 h [(0, pAV p, true), (1, a, true)]
def st42b (p : Pb) (a : AV) (h : Heap) : St := .of 40 h [(1, a, true), (2, .row (pbC p) 0, true)]
def st42c (a : AV) (h : Heap) : St := .of 40 h [(1, a, true), (7, SR, true)]
def st42l (a : List Int) (k : Int) (h : Heap) : St := .of 40 h [(7, SR, true), (17, flL a, true), (18, I a.length, true), (19, I k, true)]
def st42d (h : Heap) : St := .of 40 h [(7, SR, true)]
def st42e (h : Heap) : St := .of 40 h [(7, SR, true), (10, .ref 3 0 0, true)]
def st42f (h : Heap) : St := .of 40 h [(7, SR, true), (10, .ref 3 0 0, true), (11, .ref 4 0 0, true), (12, .ref 5 0 0, true)]
def st42g (h : Heap) : St := .of 40 h [(10, .ref 3 0 0, true), (11, .ref 4 0 0, true), (12, .ref 5 0 0, true), (30, S69 F66, true)]
def st42x (b e c : AV) (h : Heap) : St := .of 40 h [(4, b, true), (5, c, true), (6, e, true)]
theorem run42a (p : Pb) (a : AV) (h : Heap) : xBody Try.prog G0 {} 200 noLoops [1, 2] (c42 0) (st42a p a h) = .leaf (Exit.normal, St.of 40 h [(1, a, true), (2, (AV.row [(flL (p.V)), (flLL (p.C)), (flR (p.R))] (0 : Nat)), true)]) := by kernel_rfl
def E42b (p : Pb) (h h1 : Heap) : Env := { clh := clhs [(46, [pAV p], h, SR, h1)] }
theorem run42b (p : Pb) (a : AV) (h h1 : Heap) : xBody Try.prog G0 (E42b p h h1) 200 noLoops [1, 7] (c42 1) (st42b p a h) = .need (([(AV.agg [(flL (p.V)), (flLL (p.C)), (flR (p.R))])] = [(AV.agg [(flL (p.V)), (flLL (p.C)), (flR (p.R))])]) ∧ (h = h)) (.leaf (Exit.normal, St.of 40 h1 [(1, a, true), (7, (AV.ref (0 : Nat) (0 : Nat) (0 : Nat)), true)])) := by kernel_rfl
noncomputable def body42 : Code := (loopsOf (bodyOf Try.prog 42)).headD .skip
theorem loops42 : loopsOf (c42 2) = [body42] := by kernel_rfl
/-- Calls told beforehand, on a condition. -/
def clhq (q : Prop) (L : List (FuncId × List AV × Heap × AV × Heap)) : FuncId → List AV → Heap → Option (Tree (AV × Heap)) := fun f ys h => (clhs L f ys h).map fun t => .need q t
theorem clhq_ok {q : Prop} {L : List (FuncId × List AV × Heap × AV × Heap)} (hc : q → ∀ x ∈ L, ACall Try.prog G0 x.1 x.2.1 x.2.2.1 x.2.2.2.1 x.2.2.2.2) : ∀ f ys σ t u σ', clhq q L f ys σ = some t → t.sel = some (u, σ') → ACall Try.prog G0 f ys σ u σ' := by
  intro f ys σ t u σ' hq hsel
  obtain ⟨t', h1, rfl⟩ := Option.map_eq_some_iff.1 hq
  obtain ⟨h2, h3⟩ := Tree.of_need hsel
  exact clhs_ok (hc h2) f ys σ t' u σ' h1 h3
def E42l (q : Prop) (k : Int) (h0 h1 : Heap) (ok : Bool) : Env := { clh := clhq q [(65, [SR, I k], h0, .bool ok, h1)] }
theorem run42l (q : Prop) (a : List Int) (k : Int) (h0 h1 : Heap) (ok : Bool) : xBody Try.prog G0 (E42l q (a.getD k.toNat 0) h0 h1 ok) 200 noLoops [7, 17, 18, 19] body42 (st42l a k h0) = .ite (decide (k < (↑a.length : Int))) (.need (((0 : Int) ≤ k) ∧ (k < (↑a.length : Int))) (.need (q) (.need (([(AV.ref (0 : Nat) (0 : Nat) (0 : Nat)), (I (a.getD k.toNat (0 : Int)))] = [(AV.ref (0 : Nat) (0 : Nat) (0 : Nat)), (I (a.getD k.toNat (0 : Int)))]) ∧ (h0 = h0)) (.leaf (Exit.normal, St.of 40 h1 [(7, (AV.ref (0 : Nat) (0 : Nat) (0 : Nat)), true), (17, (flL (a)), true), (18, (I ((↑a.length : Int))), true), (19, (I (IntKind.i64.wrap (k + (1 : Int)))), true)]))))) (.leaf ((Exit.exit (0 : Nat)), St.of 40 h0 [(7, (AV.ref (0 : Nat) (0 : Nat) (0 : Nat)), true), (17, (flL (a)), true), (18, (I ((↑a.length : Int))), true), (19, (I k), true)])) := by kernel_rfl
theorem run42c (a : List Int) (k : Int) (h0 h1 : Heap) : xBody Try.prog G0 {} 200 (lpB 3 [7, 17, 18, 19] (st42l a 0 h0) (.exit 0) (st42l a k h1)) [7] (c42 2) (st42c (flL a) h0) = .need ((st42l a 0 h0).vals = (st42l a 0 h0).vals) (.leaf (Exit.normal, St.of 40 h1 [(7, (AV.ref (0 : Nat) (0 : Nat) (0 : Nat)), true)])) := by kernel_rfl
theorem run42d (x0 x1 x2 : AObj) : xBody Try.prog G0 {} 200 noLoops [7, 10] (c42 3) (st42d (x0 :: x1 :: x2 :: [])) = .leaf (Exit.normal, St.of 40 [x0, x1, x2, (AObj.cells (0 : Nat) [AV.zs])] [(7, (AV.ref (0 : Nat) (0 : Nat) (0 : Nat)), true), (10, (AV.ref (3 : Nat) (0 : Nat) (0 : Nat)), false)]) := by kernel_rfl
def E42e : Env := { cl := fun f xs => match f, xs with
  | 48, [] => some (.leaf (I 24000001))
  | 47, [.ref r g 0, .fn f [] cs] => some (.leaf (.fn 69 [] [.row [.ref r g 0] 0, .row [.fn f [] cs] 0]))
  | _, _ => none }
theorem run42e (x0 x1 x2 x3 : AObj) : xBody Try.prog G0 E42e 200 noLoops [7, 10, 11, 12] (c42 4) (st42e (x0 :: x1 :: x2 :: x3 :: [])) = .leaf (Exit.normal, St.of 40 [x0, x1, x2, x3, (AObj.cells (0 : Nat) (setL [(I ((0 : Int)))] (0 : Nat) [(I ((24000001 : Int)))])), (AObj.cells (0 : Nat) (setL [(I ((0 : Int)))] (0 : Nat) [(I ((7 : Int)))]))] [(7, (AV.ref (0 : Nat) (0 : Nat) (0 : Nat)), true), (10, (AV.ref (3 : Nat) (0 : Nat) (0 : Nat)), true), (11, (AV.ref (4 : Nat) (0 : Nat) (0 : Nat)), false), (12, (AV.ref (5 : Nat) (0 : Nat) (0 : Nat)), false)]) := by kernel_rfl
theorem run42f (h : Heap) : xBody Try.prog G0 E42e 200 noLoops [10, 11, 12, 30] (c42 5) (st42f h) = .leaf (Exit.normal, St.of 40 h [(10, (AV.ref (3 : Nat) (0 : Nat) (0 : Nat)), true), (11, (AV.ref (4 : Nat) (0 : Nat) (0 : Nat)), true), (12, (AV.ref (5 : Nat) (0 : Nat) (0 : Nat)), true), (30, (AV.fn (69 : Nat) [] [(AV.row [(AV.ref (0 : Nat) (0 : Nat) (0 : Nat))] (0 : Nat)), (AV.row [(AV.fn (66 : Nat) [] [(AV.ref (4 : Nat) (0 : Nat) (0 : Nat))])] (0 : Nat))]), true)]) := by kernel_rfl
theorem run42x (x0 x1 x2 : AObj) (b : AV) (c : Int) (e : Int) (W : Heap) : xBody Try.prog G0 {} 200 noLoops [4, 5, 6] (c42 6) (st42g (x0 :: x1 :: x2 :: .cells 0 [b] :: .cells 0 [I c] :: .cells 0 [I e] :: W)) = .ite (e != (0 : Int)) (.leaf (Exit.ret, St.of 40 (x0 :: (x1 :: (x2 :: ((AObj.cells (0 : Nat) [b]) :: ((AObj.cells (0 : Nat) [(I c)]) :: ((AObj.cells (0 : Nat) [(I e)]) :: W)))))) [(4, AV.zs, false), (5, (I ((0 : Int))), false), (6, (I e), true)])) (.leaf (Exit.ret, St.of 40 (x0 :: (x1 :: (x2 :: ((AObj.cells (0 : Nat) [b]) :: ((AObj.cells (0 : Nat) [(I c)]) :: ((AObj.cells (0 : Nat) [(I e)]) :: W)))))) [(4, b, true), (5, (I c), true), (6, (I ((0 : Int))), false)])) := by kernel_rfl
def st42s (v : AV) (c : Int) (h : Heap) : St := .of 40 h [(10, .ref 3 0 0, true), (11, .ref 4 0 0, true), (12, .ref 5 0 0, true), (30, S69 F66, true), (31, v, true), (32, I c, true)]
def st42t (v : AV) (c : Int) (h : Heap) : St := .of 40 h [(10, .ref 3 0 0, true), (11, .ref 4 0 0, true), (12, .ref 5 0 0, true), (13, v, true), (14, I c, true)]
theorem run42s (v : AV) (c : Int) (h : Heap) : xBody Try.prog G0 {} 200 noLoops [10, 11, 12, 13, 14] as42 (st42s v c h) = .leaf (Exit.normal, St.of 40 h [(10, (AV.ref (3 : Nat) (0 : Nat) (0 : Nat)), true), (11, (AV.ref (4 : Nat) (0 : Nat) (0 : Nat)), true), (12, (AV.ref (5 : Nat) (0 : Nat) (0 : Nat)), true), (13, v, true), (14, (I c), true)]) := by kernel_rfl
theorem run42t (x0 x1 x2 : AObj) (n : Nat) (f : Nat → List AV) (b : AV) (c d e : Int) (W : Heap) : xBody Try.prog G0 {} 200 noLoops [] bd42 (st42t (.fl 1 n f) c (x0 :: x1 :: x2 :: .cells 0 [b] :: .cells 0 [I d] :: .cells 0 [I e] :: W)) = .leaf (Exit.normal, St.of 40 (x0 :: (x1 :: (x2 :: ((AObj.cells (0 : Nat) (setL [b] (0 : Nat) [(AV.fl (1 : Nat) n f)])) :: ((AObj.cells (0 : Nat) (setL [(I d)] (0 : Nat) [(I c)])) :: ((AObj.cells (0 : Nat) (setL [(I e)] (0 : Nat) [(I ((0 : Int)))])) :: W)))))) []) := by kernel_rfl
end Go.Proofs.Ytngaihdpmoajeaa.Am

namespace Go.Proofs.Ytngaihdpmoajeaa.Am
open Go
set_option maxRecDepth 100000

/-! ### The user that keeps the best -/
def bV : Option (List Int) → AV
  | none => .zs
  | some a => flL a
def lsV (p : Pb) : Option (List Int) → Int
  | none => 24000001
  | some a => costA p a
def eV : Option (List Int) → Int
  | none => 7
  | some _ => 0
noncomputable def lp42 (s : LoopState) : ALoop := { loop0 (st42g []).a #[31, 32] as42 bd42 6 with state := s }
noncomputable def Z42 (p : Pb) (ls : LoopState) (s : Option (List Int)) : Heap := [.cells 0 [bV s], .cells 0 [I (lsV p s)], .cells 0 [I (eV s)], .dfr, .loop (lp42 ls)]
noncomputable def K42 (p : Pb) : Cns (Option (List Int)) where
  most := lsV p
  yst _ a := some a
  more _ _ := true
  Z s := Z42 p .ready s ++ vars69 7 8 F66 []
  inv _ := True
theorem run66 (x0 x1 x2 x3 : AObj) (c : Int) (W : Heap) : xCall Try.prog G0 {} 200 66 [.ref 4 0 0] [true] (x0 :: x1 :: x2 :: x3 :: .cells 0 [I c] :: W) = .leaf ((I c), true, (x0 :: (x1 :: (x2 :: (x3 :: ((AObj.cells (0 : Nat) [(I c)]) :: W)))))) := by kernel_rfl
theorem putA42 (v : AV) (c : Int) : putPs [31, 32] [v, I c] (st42g []).a = (st42s v c []).a := by kernel_rfl
theorem yield42 (p : Pb) (a t : List Int) (s : Option (List Int)) : AYield Try.prog G0 7 [flL a, I (costA p a)] (SH p a t ((K42 p).Z s)) (.bool true) (SH p a t ((K42 p).Z (some a))) := by
  refine AYield.of_round (P := Try.prog) (G := G0) (l := 7) (A := lp42 .ready) (args := [flL a, I (costA p a)]) (σ := SH p a t ((K42 p).Z s)) (σ1 := SH p a t ((K42 p).Z s)) (σ3 := SH p a t (Z42 p .busy (some a) ++ vars69 7 8 F66 []))
    (a1 := (st42t (flL a) (costA p a) []).a) (a3 := (St.of 40 [] []).a) (e := .normal) (j := none) rfl rfl rfl ?_ rfl ?_ rfl rfl
  · show AExec Try.prog G0 _ as42 { tmps := putPs [31, 32] [flL a, I (costA p a)] (st42g []).a } _ .normal _ _
    rw [putA42]
    exact rnd (n := 200) (keep := [10, 11, 12, 13, 14]) (s := st42s (flL a) (costA p a) (SH p a t ((K42 p).Z s))) (t := st42t (flL a) (costA p a) (SH p a t ((K42 p).Z s))) clok0 (lpNo _) (congrArg Tree.sel (run42s (flL a) (costA p a) _)) rfl
  · exact rnd (n := 200) (keep := []) (s := st42t (flL a) (costA p a) (SH p a t (Z42 p .busy s ++ vars69 7 8 F66 []))) (t := St.of 40 (SH p a t (Z42 p .busy (some a) ++ vars69 7 8 F66 [])) []) clok0 (lpNo _) (congrArg Tree.sel (run42t _ _ _ _ _ _ _ _ _ _)) rfl
theorem usr42 (p : Pb) : Usr p (K42 p) 7 8 10 9 F66 66 [] [.ref 4 0 0] where
  fn := rfl
  yld a t s _ _ _ _ := yield42 p a t s
  inv _ _ _ _ _ _ := trivial
  most _ _ _ _ _ := ACall.saysC (tags := [true]) clok0 (run66 _ _ _ _ _ _) says_leaf
  ht _ _ _ := ⟨8, 0, 0, _, rfl, rfl, rfl⟩
  hw _ _ _ := ⟨10, 0, 0, _, rfl, rfl, rfl⟩
  hu _ _ _ := ⟨9, 0, 0, _, rfl, rfl, rfl⟩
/-- What cheapest finds. -/
noncomputable def bestW (p : Pb) (a : List Int) : Option (List Int) := (runW p (K42 p) a none).2
def resC (p : Pb) : Option (List Int) → AV
  | none => .tup [flL [], I 0, I 7]
  | some a => .tup [flL a, I (costA p a), I 0]
theorem beg_take {p : Pb} {a : List Int} (ha : Beg p a) (k : Nat) : Beg p (a.take k) := by
  have := ha.len
  refine ⟨by rw [List.length_take]; omega, fun i hi => ?_⟩
  rw [List.length_take] at hi
  have h := ha.at' i (by omega)
  rw [List.getD_eq_getElem?_getD, List.getElem?_take, if_pos (by omega), ← List.getD_eq_getElem?_getD]
  exact h
theorem take_succD {a : List Int} {k : Nat} (hk : k < a.length) : a.take (k + 1) = a.take k ++ [a.getD k 0] := by
  rw [List.take_succ_eq_append_getElem hk, List.getD_eq_getElem?_getD, List.getElem?_eq_getElem hk]
  rfl
theorem loop42 {p : Pb} (hp : Ok p) {a : List Int} (ha : Beg p a) : LoopA body42 a.length (fun k => st42l a k (SH p (a.take k) [] [])) (fun k => st42l a k (SH p (a.take k) [] [])) (st42l a a.length (SH p a [] [])) .ret (.exit 0) fun _ => false where
  n0 _ := rfl
  nR _ := rfl
  nX := rfl
  neR := nofun
  neX := nofun
  st _ _ _ h := by cases h
  en _ := by
    rw [List.take_length]
    refine rnd (n := 200) (keep := [7, 17, 18, 19]) (E := E42l False (a.getD (a.length : Int).toNat 0) (SH p a [] []) (SH p a [] []) true) (.all .none (clhq_ok nofun) (fun l xs σ t v σ' h => (by cases h)) (fun f xs t v h => (by cases h))) (lpNo _) ((congrArg Tree.sel (run42l False a a.length _ _ true)).trans ?_) rfl
    rw [selIf (dF (by omega))]
    rfl
  go k hlt _ _ := by
    have hl := ha.len
    have hb := beg_take ha k
    have hlk : (a.take k).length = k := by rw [List.length_take]; omega
    have hat := ha.at' k hlt
    have h65 := s65 (t := []) hp hb (by omega) (x := a.getD k 0) hat.1 (by rw [hlk]; exact hat.2) (by unfold Small; simp; omega) []
    rw [← take_succD hlt] at h65
    generalize putOk (nextU p (a.take k)) (a.getD k 0) (leftA p (a.take k)) (nextU p (a.take k)).length = ok at h65
    refine rnd (n := 200) (keep := [7, 17, 18, 19]) (E := E42l True (a.getD (k : Int).toNat 0) (SH p (a.take k) [] []) (SH p (a.take (k + 1)) [] []) ok) (.all .none (clhq_ok fun _ x hx => ?_) (fun l xs σ t v σ' h => (by cases h)) (fun f xs t v h => (by cases h))) (lpNo _) ((congrArg Tree.sel (run42l True a k _ _ ok)).trans ?_) rfl
    · obtain rfl := List.mem_singleton.1 hx
      exact h65
    · rw [wrapS hlt (beg_sh hp ha)]
      exact (selIt (dT (by omega))).trans (t_need ⟨by omega, by omega⟩ (t_need trivial (t_need ⟨rfl, rfl⟩ rfl)))
theorem cl42e_ok {f : FuncId} {xs : List AV} {t : Tree AV} {v : AV} (h : E42e.cl f xs = some t) (hs : t.sel = some v) (σ : Heap) : ACall Try.prog G0 f xs σ v σ := by
  unfold E42e at h
  simp only at h
  split at h <;> first | (cases h; done) | skip
  · cases h; cases hs; exact c48 σ
  · cases h; cases hs; exact c47 _ _ _ _ σ
theorem clok42e : ClOk Try.prog G0 E42e := .of rfl rfl fun f xs t v h hs σ => cl42e_ok h hs σ
theorem start_SH {p : Pb} (hp : Ok p) : sH p .zs .resv 0 (lV (lfK p p.R.length)) (lO (lfK p p.R.length)) (uA p p.R.length) (rsK p p.V.length) = SH p [] [] [] := by
  rw [left_start hp]
  rfl
theorem evF42 : ev G0 (st42g []).a (.tmp 30) = some (S69 F66) := by kernel_rfl
theorem rndM {R : Option Nat → Prop} {m : List Nat} {E : Env} {lp : Loops} {body : Code} {n : Nat} {keep : List Nat} {s t st' : St} {e : Exit} (hcl : ClOk Try.prog G0 E) (hlp : LoopsOk Try.prog G0 R m lp body)
    (h : (xBody Try.prog G0 E n lp keep body s).sel = some (e, st')) (hv : st'.vals = t.vals) : AExec Try.prog G0 R body { tmps := s.a, marks := m } s.h e { tmps := t.a, marks := m } t.h := by
  have key := (xBody_ok (m := m) names mixed hcl hlp h).1
  rw [(vals_eq hv).1, (vals_eq hv).2] at key
  exact key
/-- The end's frame. -/
def st42y (p : Pb) (s : Option (List Int)) : St := match s with
  | none => st42x .zs (I 7) (I 0) []
  | some b => st42x (flL b) (I 0) (I (costA p b)) []
theorem res42 (b e c : AV) (σ : Heap) : aResults Try.prog σ (st42x b e c []).a [.tmp 4, .tmp 5, .tmp 6] = some [b, c, e] := by kernel_rfl
theorem vals42x (b e c : AV) (h : Heap) : (St.of 40 h [(4, b, true), (5, c, true), (6, e, false)]).vals = (st42x b e c h).vals := by kernel_rfl
theorem vals42z (b e c : AV) (h : Heap) : (St.of 40 h [(4, b, false), (5, c, false), (6, e, true)]).vals = (st42x b e c h).vals := by kernel_rfl
/-- The whole of cheapest's code. -/
theorem exec42 {p : Pb} (hs : p.sh) (hp : Ok p) {a : List Int} (ha : Beg p a) : ∃ t', AExec Try.prog G0 (fun r => r = none) (bodyOf Try.prog 42) { tmps := (st42a p (flL a) []).a } [] .ret
    { tmps := (st42y p (bestW p a)).a, marks := [6] } (SH p a t' (Z42 p .exhausted (bestW p a) ++ vars69 7 8 F66 [])) := by
  have x0 := rnd (R := fun r => r = none) (n := 200) (keep := [1, 2]) (s := st42a p (flL a) []) (t := st42b p (flL a) []) clok0 (lpNo _) (congrArg Tree.sel (run42a p (flL a) [])) rfl
  have x1 := rnd (R := fun r => r = none) (n := 200) (keep := [1, 7]) (s := st42b p (flL a) []) (t := st42c (flL a) (SH p [] [] [])) (E := E42b p [] (SH p [] [] [])) (.all .none (clhs_ok fun x hx => (by
    obtain rfl := List.mem_singleton.1 hx
    exact start_SH hp ▸ c46 hs hp)) (fun l xs σ t v σ' h => (by cases h)) (fun f xs t v h => (by cases h))) (lpNo _) ((congrArg Tree.sel (run42b p (flL a) _ _)).trans (t_need ⟨rfl, rfl⟩ rfl)) rfl
  have x2 := rnd (n := 200) (keep := [7]) (s := st42c (flL a) (SH p [] [] [])) (t := st42d (SH p a [] [])) clok0 ((loop42 hp ha).okB (fun _ _ => rfl) (c := c42 2) (i := 3) (keep := [7, 17, 18, 19]) (one_loop loops42)) ((congrArg Tree.sel (run42c a a.length _ _)).trans (t_need rfl rfl)) rfl
  have x3 := rnd (R := fun r => r = none) (n := 200) (keep := [7, 10]) (s := st42d (SH p a [] [])) (t := st42e (SH p a [] [.cells 0 [.zs]])) clok0 (lpNo _) (congrArg Tree.sel (run42d _ _ _)) rfl
  have x4 := rnd (R := fun r => r = none) (n := 200) (keep := [7, 10, 11, 12]) (s := st42e (SH p a [] [.cells 0 [.zs]])) (t := st42f (SH p a [] [.cells 0 [.zs], .cells 0 [I 24000001], .cells 0 [I 7]])) clok42e (lpNo _) (congrArg Tree.sel (run42e _ _ _ _)) rfl
  have x5 := rnd (R := fun r => r = none) (n := 200) (keep := [10, 11, 12, 30]) (s := st42f (SH p a [] [.cells 0 [.zs], .cells 0 [I 24000001], .cells 0 [I 7]])) (t := st42g (SH p a [] [.cells 0 [.zs], .cells 0 [I 24000001], .cells 0 [I 7]])) clok42e (lpNo _) (congrArg Tree.sel (run42f _)) rfl
  have hsm : Small p a [] := by have := ha.len; unfold Small; simpa using this
  obtain ⟨t', h1, _, h3⟩ := c69 hp ha hsm (K := K42 p) (Zc := fun s => Z42 p .ready s) (l := 7) (n := 8) (usr42 p) (fun _ => rfl) (s := none) trivial rfl
  have hrf : AExec Try.prog G0 (fun r => r = none) (.rangeFunc (.tmp 30) #[31, 32] as42 bd42) { tmps := (st42g []).a } (SH p a [] [.cells 0 [.zs], .cells 0 [I 24000001], .cells 0 [I 7]]) .normal { tmps := (st42g []).a, marks := [6] } (SH p a t' (Z42 p .exhausted (bestW p a) ++ vars69 7 8 F66 [])) := by
    exact AExec.rangeFunc (m := []) (v := .tup []) (A' := lp42 .ready) evF42 (first := []) (σ2 := SH p a t' ((K42 p).Z (bestW p a))) h3 rfl nofun (fun _ => ⟨rfl, rfl, rfl⟩) (fun c h => by cases h)
  refine ⟨t', ?_⟩
  rw [code42]
  refine .seq x0 (.seq x1 (.seq x2 (.seq x3 (.seq x4 (.seq (.seq x5 (AExec.block_to (id := 2) hrf rfl)) ?_)))))
  have key := run42x (.cells 0 (sC p (aV a t') (costA p a) (lV (leftA p a)) (uA p p.R.length) (rsK p p.V.length))) (lO (leftA p a)) (aO a t')
  cases hb : bestW p a with
  | none => exact rndM (m := [6]) (s := st42g (SH p a t' (Z42 p .exhausted none ++ vars69 7 8 F66 []))) (t := st42x .zs (I 7) (I 0) (SH p a t' (Z42 p .exhausted none ++ vars69 7 8 F66 []))) clok0 (lpNo (c42 6)) (congrArg Tree.sel (key .zs 24000001 7 _)) (vals42z _ _ _ _)
  | some b => exact rndM (m := [6]) (s := st42g (SH p a t' (Z42 p .exhausted (some b) ++ vars69 7 8 F66 []))) (t := st42x (flL b) (I 0) (I (costA p b)) (SH p a t' (Z42 p .exhausted (some b) ++ vars69 7 8 F66 []))) clok0 (lpNo (c42 6)) (congrArg Tree.sel (key (flL b) (costA p b) 0 _)) (vals42x _ _ _ _)
theorem re_tup3 {π : Nat → Option Nat} {σ : Heap} {a b c a' b' c' : AV} (ha : Re G0 π σ a a') (hb : Re G0 π σ b b') (hc : Re G0 π σ c c') : Re G0 π σ (.tup [a, b, c]) (.tup [a', b', c']) := Re.tup rfl fun j y hj => by
  match j, hj with
  | 0, hj => cases hj; exact ⟨_, rfl, ha⟩
  | 1, hj => cases hj; exact ⟨_, rfl, hb⟩
  | 2, hj => cases hj; exact ⟨_, rfl, hc⟩
  | j + 3, hj => simp at hj
theorem below_tup3 {n : Nat} {a b c : AV} (ha : Below n a) (hb : Below n b) (hc : Below n c) : Below n (.tup [a, b, c]) := .tup _ fun j x hx => by
  match j, hx with
  | 0, hx => cases hx; exact ha
  | 1, hx => cases hx; exact hb
  | 2, hx => cases hx; exact hc
  | j + 3, hx => simp at hx
theorem below_resC (p : Pb) (s : Option (List Int)) : Below 0 (resC p s) := by
  cases s with
  | none => exact below_tup3 (below_flL _) (.int _ _) (.int _ _)
  | some a => exact below_tup3 (below_flL _) (.int _ _) (.int _ _)
/-- A function's facts. -/
theorem fnFact {f : FuncId} {rs : List ResultVar} {n : Nat} (h : (Try.prog.funcs[f]?).map (fun fn => (fn.results.toList, fn.ntmps)) = some (rs, n)) {fn : Func} (hf : Try.prog.funcs[f]? = some fn) : fn.results.toList = rs ∧ fn.ntmps = n := by
  rw [hf] at h
  have := Option.some.inj h
  exact Prod.mk.inj this
/-- Parameters, and nothing else. -/
theorem le_args {xs a : List AV} {n k : Nat} (hn : n - xs.length = k) (e : a = xs ++ List.replicate k .junk) : Le (xs ++ List.replicate (n - xs.length) (.tup [])) a := by
  rw [hn, e]
  refine ⟨by simp, fun j y hj => ?_⟩
  by_cases h : j < xs.length
  · rw [List.getElem?_append_left h] at hj ⊢
    exact .inr hj
  · rw [List.getElem?_append_right (by omega)] at hj
    exact .inl (List.eq_of_mem_replicate (List.mem_of_getElem? hj))
/-- WHAT cheapest RETURNS. -/
theorem c42r {p : Pb} (hs : p.sh) (hp : Ok p) {a : List Int} (ha : Beg p a) (h : Heap) : ACall Try.prog G0 42 [pAV p, flL a] h (resC p (bestW p a)) h := by
  obtain ⟨fn, c, k1, k2, k3⟩ := fnOf (f := 42) (by kernel_rfl)
  obtain ⟨t', hall⟩ := exec42 hs hp ha
  rw [k3] at hall
  obtain ⟨hres, hnt⟩ := fnFact (f := 42) (rs := [.tmp 4, .tmp 5, .tmp 6]) (n := 40) (by kernel_rfl) k1
  have hle : Le ([pAV p, flL a] ++ List.replicate (fn.ntmps - [pAV p, flL a].length) (.tup [])) (st42a p (flL a) []).a := le_args (k := 38) (by rw [hnt]; rfl) (by kernel_rfl)
  cases hb : bestW p a with
  | none =>
    rw [hb] at hall
    have key := ACall.of_body_marks (args := [pAV p, flL a]) (xs := [.zs, I 0, I 7]) k1 k2 (names 42 fn k1) (.weak hle hall) (.inr rfl) (by simp) (fun r hr => by rw [List.mem_singleton.1 hr]; rfl) (by rw [hres]; exact res42 _ _ _ _)
    exact ACall.out (k := 0) key (re_tup3 re_zs re_int re_int) (below_resC p none) below_args2 h
  | some b =>
    rw [hb] at hall
    have key := ACall.of_body_marks (args := [pAV p, flL a]) (xs := [flL b, I (costA p b), I 0]) k1 k2 (names 42 fn k1) (.weak hle hall) (.inr rfl) (by simp) (fun r hr => by rw [List.mem_singleton.1 hr]; rfl) (by rw [hres]; exact res42 _ _ _ _)
    exact ACall.out (k := 0) key (re_tup3 (Re.flat (below_flL _)) re_int re_int) (below_resC p (some b)) below_args2 h
end Go.Proofs.Ytngaihdpmoajeaa.Am

namespace Go.Proofs.Ytngaihdpmoajeaa.Am
open Go
set_option maxRecDepth 100000

theorem run21 (q : Prop) (p : Pb) (b : Bool) (v : AV) (c e : Int) (h : Heap) : xCall Try.prog G0 (EG q [(28, [pAV p], .bool b), (42, [pAV p, .zs], .tup [v, I c, I e])]) 200 21 [pAV p] [true] h = .need (q) (.need ([(AV.agg [(flL (p.V)), (flLL (p.C)), (flR (p.R))])] = [(AV.agg [(flL (p.V)), (flLL (p.C)), (flR (p.R))])]) (.ite (!b) (.leaf ((AV.tup [AV.zs, (I ((0 : Int))), (I ((1 : Int)))]), false, h)) (.need (q) (.need ([(AV.agg [(flL (p.V)), (flLL (p.C)), (flR (p.R))]), AV.zs] = [(AV.agg [(flL (p.V)), (flLL (p.C)), (flR (p.R))]), AV.zs]) (.leaf ((AV.tup [v, (I c), (I e)]), true, h)))))) := by kernel_rfl
theorem run13 (q : Prop) (p : Pb) (a : List Int) (b d : Bool) (v : AV) (c e : Int) (h : Heap) : xCall Try.prog G0 (EG q [(28, [pAV p], .bool b), (41, [pAV p, flL a], .bool d), (42, [pAV p, flL a], .tup [v, I c, I e])]) 200 13 [pAV p, flL a] [true, true] h = .need (q) (.need ([(AV.agg [(flL (p.V)), (flLL (p.C)), (flR (p.R))])] = [(AV.agg [(flL (p.V)), (flLL (p.C)), (flR (p.R))])]) (.ite (!b) (.leaf ((AV.tup [(I ((0 : Int))), (I ((1 : Int)))]), false, h)) (.need (q) (.need ([(AV.agg [(flL (p.V)), (flLL (p.C)), (flR (p.R))]), (flL (a))] = [(AV.agg [(flL (p.V)), (flLL (p.C)), (flR (p.R))]), (flL (a))]) (.ite (!d) (.leaf ((AV.tup [(I ((0 : Int))), (I ((2 : Int)))]), false, h)) (.need (q) (.need ([(AV.agg [(flL (p.V)), (flLL (p.C)), (flR (p.R))]), (flL (a))] = [(AV.agg [(flL (p.V)), (flLL (p.C)), (flR (p.R))]), (flL (a))]) (.leaf ((AV.tup [(I c), (I e)]), true, h))))))))) := by kernel_rfl
theorem run21n (p : Pb) (h : Heap) : xCall Try.prog G0 (EG True [(28, [pAV p], .bool false)]) 200 21 [pAV p] [true] h = .need (True) (.need ([(AV.agg [(flL (p.V)), (flLL (p.C)), (flR (p.R))])] = [(AV.agg [(flL (p.V)), (flLL (p.C)), (flR (p.R))])]) (.ite (!false) (.leaf ((AV.tup [AV.zs, (I ((0 : Int))), (I ((1 : Int)))]), false, h)) .fail)) := by kernel_rfl
theorem run13n (p : Pb) (a : List Int) (h : Heap) : xCall Try.prog G0 (EG True [(28, [pAV p], .bool false)]) 200 13 [pAV p, flL a] [true, true] h = .need (True) (.need ([(AV.agg [(flL (p.V)), (flLL (p.C)), (flR (p.R))])] = [(AV.agg [(flL (p.V)), (flLL (p.C)), (flR (p.R))])]) (.ite (!false) (.leaf ((AV.tup [(I ((0 : Int))), (I ((1 : Int)))]), false, h)) .fail)) := by kernel_rfl
theorem run13m (p : Pb) (a : List Int) (h : Heap) : xCall Try.prog G0 (EG True [(28, [pAV p], .bool true), (41, [pAV p, flL a], .bool false)]) 200 13 [pAV p, flL a] [true, true] h = .need (True) (.need ([(AV.agg [(flL (p.V)), (flLL (p.C)), (flR (p.R))])] = [(AV.agg [(flL (p.V)), (flLL (p.C)), (flR (p.R))])]) (.ite (!true) (.leaf ((AV.tup [(I ((0 : Int))), (I ((1 : Int)))]), false, h)) (.need (True) (.need ([(AV.agg [(flL (p.V)), (flLL (p.C)), (flR (p.R))]), (flL (a))] = [(AV.agg [(flL (p.V)), (flLL (p.C)), (flR (p.R))]), (flL (a))]) (.ite (!false) (.leaf ((AV.tup [(I ((0 : Int))), (I ((2 : Int)))]), false, h)) .fail))))) := by kernel_rfl
theorem sub_refl (x : AV) : Sub x x := fun _ _ _ h => h
theorem sub_tup {xs ys : List AV} (hl : ys.length = xs.length) (h : ∀ (j : Nat) (y : AV), ys[j]? = some y → ∃ x, xs[j]? = some x ∧ Sub x y) : Sub (.tup xs) (.tup ys) := fun w M u hu => by
  cases hu with
  | tup vs _ h1 h2 => exact .tup vs ys (by omega) fun j y hj => (by
      obtain ⟨x, e1, e2⟩ := h j y hj
      exact e2 _ _ _ (h2 j x e1))
theorem sub_zsL : Sub .zs (flL []) := fun _ _ _ hv => by cases hv; exact .fl _ _ _ _ (.sl0 _ _ _)
theorem sub_tup3 {a a' : AV} (h : Sub a a') (b c : AV) : Sub (.tup [a, b, c]) (.tup [a', b, c]) := sub_tup rfl fun j y hj => by
  match j, hj with
  | 0, hj => cases hj; exact ⟨_, rfl, h⟩
  | 1, hj => exact ⟨_, hj, sub_refl _⟩
  | 2, hj => exact ⟨_, hj, sub_refl _⟩
  | j + 3, hj => simp at hj
theorem sub_tup2 {a a' : AV} (h : Sub a a') (b : AV) : Sub (.tup [a, b]) (.tup [a', b]) := sub_tup rfl fun j y hj => by
  match j, hj with
  | 0, hj => cases hj; exact ⟨_, rfl, h⟩
  | 1, hj => exact ⟨_, hj, sub_refl _⟩
  | j + 2, hj => simp at hj
theorem clokG2 {q : Prop} {f g : FuncId} {xs ys : List AV} {v u : AV} (h1 : ∀ σ, ACall Try.prog G0 f xs σ v σ) (h2 : ∀ σ, ACall Try.prog G0 g ys σ u σ) : ClOk Try.prog G0 (EG q [(f, xs, v), (g, ys, u)]) := clokG fun _ p hp σ => by
  simp only [List.mem_cons, List.not_mem_nil, or_false] at hp
  rcases hp with rfl | rfl
  · exact h1 σ
  · exact h2 σ
theorem clokG3 {q : Prop} {f g k : FuncId} {xs ys zs : List AV} {v u t : AV} (h1 : ∀ σ, ACall Try.prog G0 f xs σ v σ) (h2 : ∀ σ, ACall Try.prog G0 g ys σ u σ) (h3 : ∀ σ, ACall Try.prog G0 k zs σ t σ) : ClOk Try.prog G0 (EG q [(f, xs, v), (g, ys, u), (k, zs, t)]) := clokG fun _ p hp σ => by
  simp only [List.mem_cons, List.not_mem_nil, or_false] at hp
  rcases hp with rfl | rfl | rfl
  · exact h1 σ
  · exact h2 σ
  · exact h3 σ
def solveR (p : Pb) (s : Option (List Int)) : AV := bif validP p then resC p s else .tup [flL [], I 0, I 1]
def resL (p : Pb) : Option (List Int) → AV
  | none => .tup [I 0, I 7]
  | some a => .tup [I (costA p a), I 0]
def leastR (p : Pb) (a : List Int) (s : Option (List Int)) : AV := bif validP p then (bif begB p a then resL p s else .tup [I 0, I 2]) else .tup [I 0, I 1]
/-- WHAT Solve RETURNS. -/
theorem c21 {p : Pb} (hs : p.sh) (h : Heap) : ACall Try.prog G0 21 [pAV p] h (solveR p (bestW p [])) h := by
  unfold solveR
  cases hv : validP p with
  | false => exact (ACall.saysC (clokG1 fun _ => hv ▸ c28 hs) (run21n p h) (says_need trivial (says_need rfl (says_ite (fun _ => says_leaf) fun h => (by cases h))))).conv (sub_tup3 sub_zsL _ _)
  | true =>
    have hp := valid_iff.1 hv
    have h42 : ∀ σ, ACall Try.prog G0 42 [pAV p, .zs] σ (resC p (bestW p [])) σ := fun σ => (c42r hs hp (beg_nil p) σ).arg2 (sub_refl _) sub_zsL
    rw [cond_true]
    cases hb : bestW p [] with
    | none => exact ACall.saysC (clokG2 (hv ▸ c28 hs) (by rw [hb] at h42; exact h42)) (run21 True p true _ _ _ h) (says_need trivial (says_need rfl (says_ite (fun h => (by cases h)) fun _ => says_need trivial (says_need rfl says_leaf))))
    | some b => exact ACall.saysC (clokG2 (hv ▸ c28 hs) (by rw [hb] at h42; exact h42)) (run21 True p true _ _ _ h) (says_need trivial (says_need rfl (says_ite (fun h => (by cases h)) fun _ => says_need trivial (says_need rfl says_leaf))))
/-- WHAT Least RETURNS. -/
theorem c13 {p : Pb} (hs : p.sh) {a : List Int} (ha : sh a) (h : Heap) : ACall Try.prog G0 13 [pAV p, flL a] h (leastR p a (bestW p a)) h := by
  unfold leastR
  cases hv : validP p with
  | false => exact ACall.saysC (clokG1 fun _ => hv ▸ c28 hs) (run13n p a h) (says_need trivial (says_need rfl (says_ite (fun _ => says_leaf) fun h => (by cases h))))
  | true =>
    have hp := valid_iff.1 hv
    cases hb : begB p a with
    | false => exact ACall.saysC (clokG2 (hv ▸ c28 hs) (hb ▸ c41 hp ha)) (run13m p a h) (says_need trivial (says_need rfl (says_ite (fun h => (by cases h)) fun _ => says_need trivial (says_need rfl (says_ite (fun _ => says_leaf) fun h => by cases h)))))
    | true =>
      have h42 := c42r hs hp (beg_iff.1 hb)
      rw [cond_true, cond_true]
      cases hc : bestW p a with
      | none => exact ACall.saysC (clokG3 (hv ▸ c28 hs) (hb ▸ c41 hp ha) (by rw [hc] at h42; exact h42)) (run13 True p a true true _ _ _ h) (says_need trivial (says_need rfl (says_ite (fun h => (by cases h)) fun _ => says_need trivial (says_need rfl (says_ite (fun h => (by cases h)) fun _ => says_need trivial (says_need rfl says_leaf))))))
      | some b => exact ACall.saysC (clokG3 (hv ▸ c28 hs) (hb ▸ c41 hp ha) (by rw [hc] at h42; exact h42)) (run13 True p a true true _ _ _ h) (says_need trivial (says_need rfl (says_ite (fun h => (by cases h)) fun _ => says_need trivial (says_need rfl (says_ite (fun h => (by cases h)) fun _ => says_need trivial (says_need rfl says_leaf))))))
end Go.Proofs.Ytngaihdpmoajeaa.Am

namespace Go.Proofs.Ytngaihdpmoajeaa.Am
open Go
set_option maxRecDepth 100000

/-! ### A new state beside others -/
theorem Inv.unroom {w : World} {M : Map} : ∀ {k : Nat}, Inv G0 w M (List.replicate k .resv) → Inv G0 w M []
  | k, hi => by
    have hn : ∀ r, M r = none := fun r => by
      cases hm : M r with
      | none => rfl
      | some p =>
        have h := hi.dom r p hm
        rw [List.length_replicate] at h
        have := hi.resv r (by rw [List.getElem?_replicate, if_pos h])
        rw [hm] at this
        exact this
    exact .of hi.glob hi.inj (fun r p h => by rw [hn r] at h; cases h) hi.lt hi.far fun r o h => by simp at h
theorem ACall.unroom {f : FuncId} {args : List AV} {v : AV} {σ1 : Heap} (k : Nat) (h : ACall Try.prog G0 f args [] v σ1) : ACall Try.prog G0 f args (List.replicate k .resv) v σ1 :=
  ⟨h.1, fun w M vs hi hvs => h.2 w M vs hi.unroom hvs⟩
theorem n46 {p : Pb} (hs : p.sh) (hp : Ok p) (Z : Heap) : ACall Try.prog G0 46 [pAV p] (.resv :: .resv :: .resv :: Z) SR (SH p [] [] Z) := by
  have h := (start_SH hp ▸ c46 hs hp).unroom 3
  exact h.beside rfl gbelow0 (fun x hx => by rw [List.mem_singleton.1 hx]; exact (below_pAV p).up) (fun o ho => by rw [List.eq_of_mem_replicate ho]; trivial) Z
noncomputable def b22 : Code := bodyOf Try.prog 22
noncomputable def t22 : Code := sndS (sndS b22)
noncomputable def c22c (i : Nat) : Code := match i with
  | 0 => fstS b22
  | 1 => fstS (sndS b22)
  | 2 => fstS (fstS t22)
  | _ => sndS t22
noncomputable def as22 : Code := rfA (sndS (fstS t22))
noncomputable def bd22 : Code := rfB (sndS (fstS t22))
theorem code22 : bodyOf Try.prog 22 = .seq (c22c 0) (.seq (c22c 1) (.seq (.seq (c22c 2) (.block 0 (.rangeFunc (.tmp 10) #[11, 12] as22 bd22))) (c22c 3))) := by kernel_rfl
def F48 : AV := .fn 48 [] []
def st22a (p : Pb) (h : Heap) : St := .of 14 h [(0, pAV p, true)]
def st22b (p : Pb) (h : Heap) : St := .of 14 h [(1, .row (pbC p) 0, true), (2, .ref 3 0 0, true), (3, .ref 4 0 0, true)]
def st22c (h : Heap) : St := .of 14 h [(2, .ref 3 0 0, true), (3, .ref 4 0 0, true), (10, S69 F48, true)]
def E22a : Env := { boxRow := true, hint := orH (hAlO 22 3 [.zs]) (hAlO 30 4 [I 0]) }
theorem clok22a : ClOk Try.prog G0 E22a := .all ((hAlO_ok 3 (by kernel_rfl) rfl fun n x hx => by obtain rfl := List.mem_singleton.1 hx; exact .zs).or (hAlO_ok 4 (by kernel_rfl) rfl fun n x hx => by obtain rfl := List.mem_singleton.1 hx; exact .int _ _)) (fun f xs σ t v σ' h => (by cases h)) (fun l xs σ t v σ' h => (by cases h)) (fun f xs t v h => (by cases h))
theorem run22a (p : Pb) : xBody Try.prog G0 E22a 200 noLoops [1, 2, 3] (c22c 0) (st22a p [.resv, .resv, .resv, .resv, .resv]) = .need ((Option.some AObj.resv) = (Option.some AObj.resv)) (.need ((Option.some AObj.resv) = (Option.some AObj.resv)) (.leaf (Exit.normal, St.of 14 [AObj.resv, AObj.resv, AObj.resv, (AObj.cells (0 : Nat) [AV.zs]), (AObj.cells (0 : Nat) [(I ((0 : Int)))])] [(1, (AV.row [(flL (p.V)), (flLL (p.C)), (flR (p.R))] (0 : Nat)), true), (2, (AV.ref (3 : Nat) (0 : Nat) (0 : Nat)), true), (3, (AV.ref (4 : Nat) (0 : Nat) (0 : Nat)), true)]))) := by kernel_rfl
def clV (p : Pb) : FuncId → List AV → Option (Tree AV) := fun f xs => bif Nat.beq f 28 then some (.need (xs = [pAV p]) (.leaf (.bool true))) else E42e.cl f xs
def E22b (p : Pb) (h h1 : Heap) : Env := { cl := clV p, clh := clhs [(46, [pAV p], h, SR, h1)] }
theorem run22b (p : Pb) (x0 x1 x2 : AObj) : xBody Try.prog G0 (EG True [(28, [pAV p], .bool true)]) 200 noLoops [1, 2, 3] (c22c 1) (st22b p [x0, x1, x2, .cells 0 [.zs], .cells 0 [I 0]]) = .need (True) (.need ([(AV.agg [(flL (p.V)), (flLL (p.C)), (flR (p.R))])] = [(AV.agg [(flL (p.V)), (flLL (p.C)), (flR (p.R))])]) (.ite (!true) (.leaf (Exit.ret, St.of 14 [x0, x1, x2, (AObj.cells (0 : Nat) (setL [AV.zs] (0 : Nat) [AV.zs])), (AObj.cells (0 : Nat) (setL [(I ((0 : Int)))] (0 : Nat) [(I ((1 : Int)))]))] [(1, (AV.row [(flL (p.V)), (flLL (p.C)), (flR (p.R))] (0 : Nat)), true), (2, (AV.ref (3 : Nat) (0 : Nat) (0 : Nat)), true), (3, (AV.ref (4 : Nat) (0 : Nat) (0 : Nat)), true)])) (.leaf (Exit.normal, St.of 14 [x0, x1, x2, (AObj.cells (0 : Nat) [AV.zs]), (AObj.cells (0 : Nat) [(I ((0 : Int)))])] [(1, (AV.row [(flL (p.V)), (flLL (p.C)), (flR (p.R))] (0 : Nat)), true), (2, (AV.ref (3 : Nat) (0 : Nat) (0 : Nat)), true), (3, (AV.ref (4 : Nat) (0 : Nat) (0 : Nat)), true)])))) := by kernel_rfl
theorem run22c (p : Pb) (h h1 : Heap) : xBody Try.prog G0 (E22b p h h1) 200 noLoops [2, 3, 10] (c22c 2) (st22b p h) = .need (([(AV.agg [(flL (p.V)), (flLL (p.C)), (flR (p.R))])] = [(AV.agg [(flL (p.V)), (flLL (p.C)), (flR (p.R))])]) ∧ (h = h)) (.leaf (Exit.normal, St.of 14 h1 [(2, (AV.ref (3 : Nat) (0 : Nat) (0 : Nat)), true), (3, (AV.ref (4 : Nat) (0 : Nat) (0 : Nat)), true), (10, (AV.fn (69 : Nat) [] [(AV.row [(AV.ref (0 : Nat) (0 : Nat) (0 : Nat))] (0 : Nat)), (AV.row [(AV.fn (48 : Nat) [] [])] (0 : Nat))]), true)])) := by kernel_rfl
theorem run22x (x0 x1 x2 : AObj) (b : AV) (e : Int) (W : Heap) : xBody Try.prog G0 {} 200 noLoops [2, 3, 10] (c22c 3) (st22c (x0 :: x1 :: x2 :: .cells 0 [b] :: .cells 0 [I e] :: W)) = .leaf (Exit.ret, St.of 14 (x0 :: (x1 :: (x2 :: ((AObj.cells (0 : Nat) (setL [b] (0 : Nat) [AV.zs])) :: ((AObj.cells (0 : Nat) (setL [(I e)] (0 : Nat) [(I ((7 : Int)))])) :: W))))) [(2, (AV.ref (3 : Nat) (0 : Nat) (0 : Nat)), true), (3, (AV.ref (4 : Nat) (0 : Nat) (0 : Nat)), true), (10, (AV.fn (69 : Nat) [] [(AV.row [(AV.ref (0 : Nat) (0 : Nat) (0 : Nat))] (0 : Nat)), (AV.row [(AV.fn (48 : Nat) [] [])] (0 : Nat))]), true)]) := by kernel_rfl
def st22s (v : AV) (c : Int) (h : Heap) : St := .of 14 h [(2, .ref 3 0 0, true), (3, .ref 4 0 0, true), (10, S69 F48, true), (11, v, true), (12, I c, true)]
def st22t (v : AV) (h : Heap) : St := .of 14 h [(2, .ref 3 0 0, true), (3, .ref 4 0 0, true), (4, v, true)]
theorem run22s (v : AV) (c : Int) (h : Heap) : xBody Try.prog G0 {} 200 noLoops [2, 3, 4] as22 (st22s v c h) = .leaf (Exit.normal, St.of 14 h [(2, (AV.ref (3 : Nat) (0 : Nat) (0 : Nat)), true), (3, (AV.ref (4 : Nat) (0 : Nat) (0 : Nat)), true), (4, v, true)]) := by kernel_rfl
theorem run22t (x0 x1 x2 : AObj) (n : Nat) (f : Nat → List AV) (b : AV) (e : Int) (W : Heap) : xBody Try.prog G0 {} 200 noLoops [] bd22 (st22t (.fl 1 n f) (x0 :: x1 :: x2 :: .cells 0 [b] :: .cells 0 [I e] :: W)) = .leaf (Exit.ret, St.of 14 (x0 :: (x1 :: (x2 :: ((AObj.cells (0 : Nat) (setL [b] (0 : Nat) [(AV.fl (1 : Nat) n f)])) :: ((AObj.cells (0 : Nat) (setL [(I e)] (0 : Nat) [(I ((0 : Int)))])) :: W))))) []) := by kernel_rfl
theorem run22n (p : Pb) : xCall Try.prog G0 (EG True [(28, [pAV p], .bool false)]) 200 22 [pAV p] [true] [] = .need (True) (.need ([(AV.agg [(flL (p.V)), (flLL (p.C)), (flR (p.R))])] = [(AV.agg [(flL (p.V)), (flLL (p.C)), (flR (p.R))])]) (.ite (!false) (.leaf ((AV.tup [AV.zs, (I ((1 : Int)))]), true, [(AObj.cells (0 : Nat) (setL [AV.zs] (0 : Nat) [AV.zs])), (AObj.cells (0 : Nat) (setL [(I ((0 : Int)))] (0 : Nat) [(I ((1 : Int)))]))])) .fail)) := by kernel_rfl
theorem clV_ok {p : Pb} (hs : p.sh) (hv : validP p = true) {f : FuncId} {xs : List AV} {t : Tree AV} {v : AV} (h : clV p f xs = some t) (hs' : t.sel = some v) (σ : Heap) : ACall Try.prog G0 f xs σ v σ := by
  unfold clV at h
  cases hf : Nat.beq f 28 with
  | false =>
    rw [hf, cond_false] at h
    exact cl42e_ok h hs' σ
  | true =>
    rw [hf, cond_true] at h
    cases h
    obtain ⟨rfl, h2⟩ := Tree.of_need hs'
    cases h2
    obtain rfl := Nat.eq_of_beq_eq_true hf
    exact hv ▸ c28 hs σ
theorem clok22b {p : Pb} (hs : p.sh) (hv : validP p = true) {h h1 : Heap} (h46 : ACall Try.prog G0 46 [pAV p] h SR h1) : ClOk Try.prog G0 (E22b p h h1) := .all .none (clhs_ok fun x hx => (by
    obtain rfl := List.mem_singleton.1 hx
    exact h46)) (fun l xs σ t v σ' h => (by cases h)) (fun f xs t v h hs' σ => clV_ok hs hv h hs' σ)
/-! ### The user that takes the first -/
noncomputable def lp22 : Option (List Int) → ALoop
  | none => loop0 (st22c []).a #[11, 12] as22 bd22 5
  | some _ => { loop0 (st22c []).a #[11, 12] as22 bd22 5 with state := .done, pending := some .ret }
noncomputable def Z22 (L : ALoop) (s : Option (List Int)) : Heap := [.cells 0 [bV s], .cells 0 [I (match s with | none => 0 | some _ => 0)], .dfr, .loop L]
noncomputable def K22 : Cns (Option (List Int)) where
  most _ := 24000001
  yst _ a := some a
  more _ _ := false
  Z s := Z22 (lp22 s) s ++ vars69 6 7 F48 []
  inv s := s = none
theorem putA22 (v : AV) (c : Int) : putPs [11, 12] [v, I c] (st22c []).a = (st22s v c []).a := by kernel_rfl
theorem yield22 (p : Pb) (a t : List Int) : AYield Try.prog G0 6 [flL a, I (costA p a)] (SH p a t (K22.Z none)) (.bool false) (SH p a t (K22.Z (some a))) := by
  refine AYield.of_round (P := Try.prog) (G := G0) (l := 6) (A := lp22 none) (args := [flL a, I (costA p a)]) (σ := SH p a t (K22.Z none)) (σ1 := SH p a t (K22.Z none)) (σ3 := SH p a t (Z22 { lp22 none with state := .busy } (some a) ++ vars69 6 7 F48 []))
    (a1 := (st22t (flL a) []).a) (a3 := (St.of 14 [] []).a) (e := .ret) (j := some .ret) rfl rfl rfl ?_ rfl ?_ rfl rfl
  · show AExec Try.prog G0 _ as22 { tmps := putPs [11, 12] [flL a, I (costA p a)] (st22c []).a } _ .normal _ _
    rw [putA22]
    exact rnd (n := 200) (keep := [2, 3, 4]) (s := st22s (flL a) (costA p a) (SH p a t (K22.Z none))) (t := st22t (flL a) (SH p a t (K22.Z none))) clok0 (lpNo _) (congrArg Tree.sel (run22s (flL a) (costA p a) _)) rfl
  · exact rnd (n := 200) (keep := []) (s := st22t (flL a) (SH p a t (Z22 { lp22 none with state := .busy } none ++ vars69 6 7 F48 []))) (t := St.of 14 (SH p a t (Z22 { lp22 none with state := .busy } (some a) ++ vars69 6 7 F48 [])) []) clok0 (lpNo _) (congrArg Tree.sel (run22t _ _ _ _ _ _ _ _)) rfl
theorem usr22 (p : Pb) : Usr p K22 6 7 9 8 F48 48 [] [] where
  fn := rfl
  yld a t s h _ _ _ := by cases h; exact yield22 p a t
  inv _ _ _ _ _ h := by cases h
  most _ _ _ _ _ := c48 _
  ht _ _ _ := ⟨7, 0, 0, _, rfl, rfl, rfl⟩
  hw _ _ _ := ⟨9, 0, 0, _, rfl, rfl, rfl⟩
  hu _ _ _ := ⟨8, 0, 0, _, rfl, rfl, rfl⟩
/-- What First finds. -/
noncomputable def firstW (p : Pb) : Option (List Int) := (runW p K22 [] none).2
theorem evF22 : ev G0 (st22c []).a (.tmp 10) = some (S69 F48) := by kernel_rfl
def resF : Option (List Int) → AV
  | none => .tup [flL [], I 7]
  | some a => .tup [flL a, I 0]
theorem res22 (x0 x1 x2 : AObj) (b : AV) (e : Int) (W : Heap) : aResults Try.prog (x0 :: x1 :: x2 :: .cells 0 [b] :: .cells 0 [I e] :: W) (st22c []).a [.cell 2 22, .cell 3 30] = some [b, I e] := by kernel_rfl
/-- WHAT First RETURNS. -/
theorem c22 {p : Pb} (hs : p.sh) (h : Heap) : ACall Try.prog G0 22 [pAV p] h (bif validP p then resF (firstW p) else .tup [flL [], I 1]) h := by
  have hargs : ∀ x ∈ [pAV p], Below 0 x := fun x hx => by rw [List.mem_singleton.1 hx]; exact below_pAV p
  cases hv : validP p with
  | false =>
    have h1 : ACall Try.prog G0 22 [pAV p] [] (.tup [.zs, I 1]) _ := ACall.saysC (clokG1 fun _ => hv ▸ c28 hs) (run22n p) (says_need trivial (says_need rfl (says_ite (fun _ => says_leaf) fun h => (by cases h))))
    exact ACall.out (k := 0) h1 (re_tup2 re_zs re_int) (below_tup2 (below_flL _) (.int _ _)) hargs h
  | true =>
    have hp := valid_iff.1 hv
    have n := n46 hs hp [.cells 0 [.zs], .cells 0 [I 0]]
    have x0 := rnd (R := fun r => r = none) (n := 200) (keep := [1, 2, 3]) (s := st22a p [.resv, .resv, .resv, .resv, .resv]) (t := st22b p [.resv, .resv, .resv, .cells 0 [.zs], .cells 0 [I 0]]) clok22a (lpNo _) ((congrArg Tree.sel (run22a p)).trans (t_need rfl (t_need rfl rfl))) rfl
    have x1 := rnd (R := fun r => r = none) (n := 200) (keep := [1, 2, 3]) (s := st22b p [.resv, .resv, .resv, .cells 0 [.zs], .cells 0 [I 0]]) (t := st22b p [.resv, .resv, .resv, .cells 0 [.zs], .cells 0 [I 0]]) (clokG1 fun _ => hv ▸ c28 hs) (lpNo _) ((congrArg Tree.sel (run22b p .resv .resv .resv)).trans (t_need trivial (t_need rfl ((selIf rfl).trans rfl)))) rfl
    have x2 := rnd (R := fun r => r = none) (n := 200) (keep := [2, 3, 10]) (s := st22b p [.resv, .resv, .resv, .cells 0 [.zs], .cells 0 [I 0]]) (t := st22c (SH p [] [] [.cells 0 [.zs], .cells 0 [I 0]])) (clok22b hs hv n) (lpNo _) ((congrArg Tree.sel (run22c p _ _)).trans (t_need ⟨rfl, rfl⟩ rfl)) rfl
    obtain ⟨t', h1, _, h3⟩ := c69 hp (beg_nil p) (t := []) (by show 0 ≤ _; omega) (K := K22) (Zc := fun s => Z22 (lp22 s) s) (l := 6) (n := 7) (usr22 p) (fun _ => rfl) (s := none) rfl rfl
    obtain ⟨fn, c, k1, k2, k3⟩ := fnOf (f := 22) (by kernel_rfl)
    obtain ⟨hres, hnt⟩ := fnFact (f := 22) (rs := [.cell 2 22, .cell 3 30]) (n := 14) (by kernel_rfl) k1
    have hle : Le ([pAV p] ++ List.replicate (fn.ntmps - [pAV p].length) (.tup [])) (st22a p []).a := le_args (k := 13) (by rw [hnt]; rfl) (by kernel_rfl)
    have fin : ∀ {s : Option (List Int)} {b : AV} {e : Int} {W : Heap}, AExec Try.prog G0 (fun r => r = none) (bodyOf Try.prog 22) { tmps := (st22a p []).a } [.resv, .resv, .resv, .resv, .resv] .ret { tmps := (st22c []).a, marks := [5] } (SH p [] t' (.cells 0 [b] :: .cells 0 [I e] :: .dfr :: W)) → Re G0 noneP (SH p [] t' (.cells 0 [b] :: .cells 0 [I e] :: .gone :: W)) (.tup [b, I e]) (resF s) → Below 0 (resF s) → ACall Try.prog G0 22 [pAV p] h (resF s) h := by
      intro s b e W hx hr hb
      rw [k3] at hx
      have key := ACall.of_body_marks (args := [pAV p]) (xs := [b, I e]) k1 k2 (names 22 fn k1) (.weak hle hx) (.inr rfl) (by simp) (fun r hr => by rw [List.mem_singleton.1 hr]; rfl) (by rw [hres]; exact res22 _ _ _ _ _ _)
      exact ACall.out (k := 5) key hr hb hargs h
    have hf : ∀ {e : Exit} {a' : AAct} {σ' : Heap}, ((lp22 (firstW p)).pending = none → e = .normal ∧ a' = { tmps := (st22c []).a, marks := [5] } ∧ σ' = (SH p [] t' (K22.Z (firstW p))).set 6 (.loop { lp22 (firstW p) with state := .exhausted })) → (∀ c, (lp22 (firstW p)).pending = some c → AExec Try.prog G0 (fun r => r = none) c { tmps := (st22c []).a, marks := [5] } ((SH p [] t' (K22.Z (firstW p))).set 6 (.loop { lp22 (firstW p) with state := .exhausted })) e a' σ') →
        AExec Try.prog G0 (fun r => r = none) (.rangeFunc (.tmp 10) #[11, 12] as22 bd22) { tmps := (st22c []).a } (SH p [] [] [.cells 0 [.zs], .cells 0 [I 0]]) e a' σ' := fun g1 g2 => by
      refine AExec.rangeFunc (m := []) (v := .tup []) (A' := lp22 (firstW p)) evF22 (first := []) (σ2 := SH p [] t' (K22.Z (firstW p))) h3 rfl ?_ g1 g2
      cases firstW p <;> nofun
    rw [cond_true]
    cases hb : firstW p with
    | none =>
      rw [hb] at hf
      have hrf := hf (e := .normal) (fun _ => ⟨rfl, rfl, rfl⟩) (fun c hc => by cases hc)
      have x3 := rndM (R := fun r => r = none) (m := [5]) (n := 200) (keep := [2, 3, 10]) (s := st22c (SH p [] t' (Z22 { lp22 none with state := .exhausted } none ++ vars69 6 7 F48 []))) (t := st22c (SH p [] t' (.cells 0 [.zs] :: .cells 0 [I 7] :: .dfr :: .loop { lp22 none with state := .exhausted } :: vars69 6 7 F48 []))) clok0 (lpNo (c22c 3)) (congrArg Tree.sel (run22x _ _ _ _ _ _)) rfl
      refine fin (s := none) (W := .loop { lp22 none with state := .exhausted } :: vars69 6 7 F48 []) (by rw [code22]; exact .seq x0 (.seq x1 (.seq (.seq x2 (AExec.block_to (id := 0) hrf rfl)) x3))) (re_tup2 re_zs re_int) (below_tup2 (below_flL _) (.int _ _))
    | some b =>
      rw [hb] at hf
      have hrf := hf (e := .ret) (fun hc => by cases hc) (fun c hc => by cases hc; exact .ret)
      refine fin (s := some b) (b := flL b) (e := 0) (W := .loop { lp22 (some b) with state := .exhausted } :: vars69 6 7 F48 []) (by rw [code22]; exact .seq x0 (.seq x1 (.seq_out (.seq x2 (AExec.block_to (id := 0) hrf rfl)) nofun))) (re_tup2 (Re.flat (below_flL _)) re_int) (below_tup2 (below_flL _) (.int _ _))
end Go.Proofs.Ytngaihdpmoajeaa.Am

namespace Go.Proofs.Ytngaihdpmoajeaa.Am
open Go
set_option maxRecDepth 100000

noncomputable def b16 : Code := bodyOf Try.prog 16
noncomputable def t16 : Code := sndS (sndS b16)
noncomputable def c16c (i : Nat) : Code := match i with
  | 0 => fstS b16
  | 1 => fstS (sndS b16)
  | 2 => fstS t16
  | 3 => fstS (fstS (sndS t16))
  | _ => sndS (sndS t16)
noncomputable def as16 : Code := rfA (sndS (fstS (sndS t16)))
noncomputable def bd16 : Code := rfB (sndS (fstS (sndS t16)))
theorem code16 : bodyOf Try.prog 16 = .seq (c16c 0) (.seq (c16c 1) (.seq (c16c 2) (.seq (.seq (c16c 3) (.block 1 (.rangeFunc (.tmp 17) #[18, 19] as16 bd16))) (c16c 4)))) := by kernel_rfl
def st16a (p : Pb) (m : Int) (h : Heap) : St := .of 26 h [(0, pAV p, true), (1, I m, true)]
def st16b (p : Pb) (m : Int) (h : Heap) : St := .of 26 h [(2, .row (pbC p) 0, true), (3, .row [I m] 0, true)]
def st16c (p : Pb) (m : Int) (h : Heap) : St := .of 26 h [(2, .row (pbC p) 0, true), (3, .row [I m] 0, true), (6, .ref 3 0 0, true)]
def st16d (m : Int) (h : Heap) : St := .of 26 h [(3, .row [I m] 0, true), (6, .ref 3 0 0, true), (17, S69 F48, true)]
def st16x (n : Int) (h : Heap) : St := .of 26 h [(4, I n, true), (5, I 0, true)]
theorem run16a (p : Pb) (m : Int) (h : Heap) : xBody Try.prog G0 {} 200 noLoops [2, 3] (c16c 0) (st16a p m h) = .leaf (Exit.normal, St.of 26 h [(2, (AV.row [(flL (p.V)), (flLL (p.C)), (flR (p.R))] (0 : Nat)), true), (3, (AV.row [(I m)] (0 : Nat)), true)]) := by kernel_rfl
theorem run16b (p : Pb) (m : Int) (h : Heap) : xBody Try.prog G0 (EG True [(28, [pAV p], .bool true)]) 200 noLoops [2, 3] (c16c 1) (st16b p m h) = .need (True) (.need ([(AV.agg [(flL (p.V)), (flLL (p.C)), (flR (p.R))])] = [(AV.agg [(flL (p.V)), (flLL (p.C)), (flR (p.R))])]) (.ite (!true) (.leaf (Exit.ret, St.of 26 h [(2, (AV.row [(flL (p.V)), (flLL (p.C)), (flR (p.R))] (0 : Nat)), true), (3, (AV.row [(I m)] (0 : Nat)), true)])) (.ite (!inB m (0 : Int) (1000000 : Int)) (.leaf (Exit.ret, St.of 26 h [(2, (AV.row [(flL (p.V)), (flLL (p.C)), (flR (p.R))] (0 : Nat)), true), (3, (AV.row [(I m)] (0 : Nat)), true)])) (.leaf (Exit.normal, St.of 26 h [(2, (AV.row [(flL (p.V)), (flLL (p.C)), (flR (p.R))] (0 : Nat)), true), (3, (AV.row [(I m)] (0 : Nat)), true)]))))) := by kernel_rfl
def E16c : Env := { hint := hAlO 3 3 [I 0] }
theorem clok16c : ClOk Try.prog G0 E16c := .all (hAlO_ok 3 (by kernel_rfl) rfl fun n x hx => by obtain rfl := List.mem_singleton.1 hx; exact .int _ _) (fun f xs σ t v σ' h => (by cases h)) (fun l xs σ t v σ' h => (by cases h)) (fun f xs t v h => (by cases h))
theorem run16c (p : Pb) (m : Int) : xBody Try.prog G0 E16c 200 noLoops [2, 3, 6] (c16c 2) (st16b p m [.resv, .resv, .resv, .resv]) = .need ((Option.some AObj.resv) = (Option.some AObj.resv)) (.leaf (Exit.normal, St.of 26 [AObj.resv, AObj.resv, AObj.resv, (AObj.cells (0 : Nat) (setL [(I ((0 : Int)))] (0 : Nat) [(I ((0 : Int)))]))] [(2, (AV.row [(flL (p.V)), (flLL (p.C)), (flR (p.R))] (0 : Nat)), true), (3, (AV.row [(I m)] (0 : Nat)), true), (6, (AV.ref (3 : Nat) (0 : Nat) (0 : Nat)), true)])) := by kernel_rfl
theorem run16d (p : Pb) (m : Int) (h h1 : Heap) : xBody Try.prog G0 (E22b p h h1) 200 noLoops [3, 6, 17] (c16c 3) (st16c p m h) = .need (([(AV.agg [(flL (p.V)), (flLL (p.C)), (flR (p.R))])] = [(AV.agg [(flL (p.V)), (flLL (p.C)), (flR (p.R))])]) ∧ (h = h)) (.leaf (Exit.normal, St.of 26 h1 [(3, (AV.row [(I m)] (0 : Nat)), true), (6, (AV.ref (3 : Nat) (0 : Nat) (0 : Nat)), true), (17, (AV.fn (69 : Nat) [] [(AV.row [(AV.ref (0 : Nat) (0 : Nat) (0 : Nat))] (0 : Nat)), (AV.row [(AV.fn (48 : Nat) [] [])] (0 : Nat))]), true)])) := by kernel_rfl
theorem run16x (x0 x1 x2 : AObj) (m n : Int) (W : Heap) : xBody Try.prog G0 {} 200 noLoops [4, 5] (c16c 4) (st16d m (x0 :: x1 :: x2 :: .cells 0 [I n] :: W)) = .leaf (Exit.ret, St.of 26 (x0 :: (x1 :: (x2 :: ((AObj.cells (0 : Nat) [(I n)]) :: W)))) [(4, (I n), true), (5, (I ((0 : Int))), false)]) := by kernel_rfl
def st16s (m : Int) (v : AV) (c : Int) (h : Heap) : St := .of 26 h [(3, .row [I m] 0, true), (6, .ref 3 0 0, true), (17, S69 F48, true), (18, v, true), (19, I c, true)]
def st16t (m : Int) (h : Heap) : St := .of 26 h [(3, .row [I m] 0, true), (6, .ref 3 0 0, true)]
theorem run16s (m : Int) (v : AV) (c : Int) (h : Heap) : xBody Try.prog G0 {} 200 noLoops [3, 6] as16 (st16s m v c h) = .leaf (Exit.normal, St.of 26 h [(3, (AV.row [(I m)] (0 : Nat)), true), (6, (AV.ref (3 : Nat) (0 : Nat) (0 : Nat)), true)]) := by kernel_rfl
theorem run16t (x0 x1 x2 : AObj) (m n : Int) (W : Heap) : xBody Try.prog G0 {} 200 noLoops [] bd16 (st16t m (x0 :: x1 :: x2 :: .cells 0 [I n] :: W)) = .ite (n == m) (.leaf ((Exit.exit (1 : Nat)), St.of 26 (x0 :: (x1 :: (x2 :: ((AObj.cells (0 : Nat) [(I n)]) :: W)))) [])) (.leaf (Exit.normal, St.of 26 (x0 :: (x1 :: (x2 :: ((AObj.cells (0 : Nat) (setL [(I n)] (0 : Nat) [(I (IntKind.i64.wrap (n + (1 : Int))))])) :: W)))) [])) := by kernel_rfl
theorem run16n (p : Pb) (m : Int) : xCall Try.prog G0 (EG True [(28, [pAV p], .bool false)]) 200 16 [pAV p, I m] [true, true] [] = .need (True) (.need ([(AV.agg [(flL (p.V)), (flLL (p.C)), (flR (p.R))])] = [(AV.agg [(flL (p.V)), (flLL (p.C)), (flR (p.R))])]) (.ite (!false) (.leaf ((AV.tup [(I ((0 : Int))), (I ((1 : Int)))]), false, [])) (.ite (!inB m (0 : Int) (1000000 : Int)) (.leaf ((AV.tup [(I ((0 : Int))), (I ((2 : Int)))]), false, [])) .fail))) := by kernel_rfl
theorem run16m (p : Pb) (m : Int) : xCall Try.prog G0 (EG True [(28, [pAV p], .bool true)]) 200 16 [pAV p, I m] [true, true] [] = .need (True) (.need ([(AV.agg [(flL (p.V)), (flLL (p.C)), (flR (p.R))])] = [(AV.agg [(flL (p.V)), (flLL (p.C)), (flR (p.R))])]) (.ite (!true) (.leaf ((AV.tup [(I ((0 : Int))), (I ((1 : Int)))]), false, [])) (.ite (!inB m (0 : Int) (1000000 : Int)) (.leaf ((AV.tup [(I ((0 : Int))), (I ((2 : Int)))]), false, [])) .fail))) := by kernel_rfl
/-! ### The user that counts -/
noncomputable def lp16 (m : Int) : Bool → ALoop
  | false => loop0 (st16d m []).a #[18, 19] as16 bd16 4
  | true => { loop0 (st16d m []).a #[18, 19] as16 bd16 4 with state := .done, pending := some (.exit 1) }
noncomputable def Z16 (L : ALoop) (n : Int) : Heap := [.cells 0 [I n], .dfr, .loop L]
noncomputable def K16 (m : Int) : Cns (Int × Bool) where
  most _ := 24000001
  yst s _ := bif s.1 == m then (s.1, true) else (s.1 + 1, false)
  more s _ := !(s.1 == m)
  Z s := Z16 (lp16 m s.2) s.1 ++ vars69 5 6 F48 []
  inv s := s.2 = false ∧ 0 ≤ s.1 ∧ s.1 ≤ m
theorem putA16 (m : Int) (v : AV) (c : Int) : putPs [18, 19] [v, I c] (st16d m []).a = (st16s m v c []).a := by kernel_rfl
theorem yield16 (p : Pb) {m : Int} (hm : m ≤ 1000000) (a t : List Int) {s : Int × Bool} (hi : (K16 m).inv s) : AYield Try.prog G0 5 [flL a, I (costA p a)] (SH p a t ((K16 m).Z s)) (.bool ((K16 m).more s a)) (SH p a t ((K16 m).Z ((K16 m).yst s a))) := by
  obtain ⟨n, b⟩ := s
  obtain ⟨h0, h1, h2⟩ := hi
  simp only at h0 h1 h2
  subst h0
  have has : AExec Try.prog G0 (fun r => r ≠ none) as16 { tmps := putPs [18, 19] [flL a, I (costA p a)] (st16d m []).a } (SH p a t ((K16 m).Z (n, false))) .normal { tmps := (st16t m []).a } (SH p a t ((K16 m).Z (n, false))) := by
    rw [putA16]
    exact rnd (n := 200) (keep := [3, 6]) (s := st16s m (flL a) (costA p a) (SH p a t ((K16 m).Z (n, false)))) (t := st16t m (SH p a t ((K16 m).Z (n, false)))) clok0 (lpNo _) (congrArg Tree.sel (run16s m (flL a) (costA p a) _)) rfl
  cases he : n == m with
  | true =>
    have e1 : (K16 m).more (n, false) a = false := by show (!(n == m)) = false; rw [he]; rfl
    have e2 : (K16 m).yst (n, false) a = (n, true) := by show (bif n == m then (n, true) else (n + 1, false)) = (n, true); rw [he]; rfl
    rw [e1, e2]
    refine AYield.of_round (P := Try.prog) (G := G0) (l := 5) (A := lp16 m false) (args := [flL a, I (costA p a)]) (σ := SH p a t ((K16 m).Z (n, false))) (σ1 := SH p a t ((K16 m).Z (n, false))) (σ3 := SH p a t (Z16 { lp16 m false with state := .busy } n ++ vars69 5 6 F48 []))
      (a1 := (st16t m []).a) (a3 := (St.of 26 [] []).a) (e := .exit 1) (j := some (.exit 1)) rfl rfl rfl has rfl ?_ rfl rfl
    exact rnd (n := 200) (keep := []) (s := st16t m (SH p a t (Z16 { lp16 m false with state := .busy } n ++ vars69 5 6 F48 []))) (t := St.of 26 (SH p a t (Z16 { lp16 m false with state := .busy } n ++ vars69 5 6 F48 [])) []) clok0 (lpNo _) ((congrArg Tree.sel (run16t _ _ _ _ _ _)).trans ((selIt he).trans rfl)) rfl
  | false =>
    have e1 : (K16 m).more (n, false) a = true := by show (!(n == m)) = true; rw [he]; rfl
    have e2 : (K16 m).yst (n, false) a = (n + 1, false) := by show (bif n == m then (n, true) else (n + 1, false)) = (n + 1, false); rw [he]; rfl
    rw [e1, e2]
    have hne : n ≠ m := fun h => by rw [h] at he; simp at he
    have hw : IntKind.i64.wrap (n + 1) = n + 1 := wrapI ⟨by omega, by omega⟩
    refine AYield.of_round (P := Try.prog) (G := G0) (l := 5) (A := lp16 m false) (args := [flL a, I (costA p a)]) (σ := SH p a t ((K16 m).Z (n, false))) (σ1 := SH p a t ((K16 m).Z (n, false))) (σ3 := SH p a t (Z16 { lp16 m false with state := .busy } (n + 1) ++ vars69 5 6 F48 []))
      (a1 := (st16t m []).a) (a3 := (St.of 26 [] []).a) (e := .normal) (j := none) rfl rfl rfl has rfl ?_ rfl rfl
    exact rnd (n := 200) (keep := []) (s := st16t m (SH p a t (Z16 { lp16 m false with state := .busy } n ++ vars69 5 6 F48 []))) (t := St.of 26 (SH p a t (Z16 { lp16 m false with state := .busy } (n + 1) ++ vars69 5 6 F48 [])) []) clok0 (lpNo _) ((congrArg Tree.sel (run16t _ _ _ _ _ _)).trans ((selIf he).trans (by rw [hw]; rfl))) rfl
theorem usr16 (p : Pb) {m : Int} (hm : m ≤ 1000000) : Usr p (K16 m) 5 6 8 7 F48 48 [] [] where
  fn := rfl
  yld a t s h _ _ _ := yield16 p hm a t h
  inv a s h _ _ hm' := by
    obtain ⟨n, b⟩ := s
    obtain ⟨h0, h1, h2⟩ := h
    simp only at h0 h1 h2
    have he : (n == m) = false := by
      have : (!(n == m)) = true := hm'
      simpa using this
    have hne : n ≠ m := fun h => by rw [h] at he; simp at he
    show (K16 m).inv (bif n == m then (n, true) else (n + 1, false))
    rw [he]
    exact ⟨rfl, by show 0 ≤ n + 1; omega, by show n + 1 ≤ m; omega⟩
  most _ _ _ _ _ := c48 _
  ht _ _ _ := ⟨6, 0, 0, _, rfl, rfl, rfl⟩
  hw _ _ _ := ⟨8, 0, 0, _, rfl, rfl, rfl⟩
  hu _ _ _ := ⟨7, 0, 0, _, rfl, rfl, rfl⟩
/-- What Count counts. -/
noncomputable def countW (p : Pb) (m : Int) : Int := (runW p (K16 m) [] (0, false)).2.1
theorem evF16 (m : Int) : ev G0 (st16d m []).a (.tmp 17) = some (S69 F48) := by kernel_rfl
def countR (p : Pb) (m n : Int) : AV := bif validP p then (bif inB m 0 1000000 then .tup [I n, I 0] else .tup [I 0, I 2]) else .tup [I 0, I 1]
theorem res16 (n : Int) (σ : Heap) : aResults Try.prog σ (st16x n []).a [.tmp 4, .tmp 5] = some [I n, I 0] := by kernel_rfl
theorem vals16x (n : Int) (h : Heap) : (St.of 26 h [(4, I n, true), (5, I 0, false)]).vals = (st16x n h).vals := by kernel_rfl
/-- WHAT Count RETURNS. -/
theorem c16 {p : Pb} (hs : p.sh) (m : Int) (h : Heap) : ACall Try.prog G0 16 [pAV p, I m] h (countR p m (countW p m)) h := by
  have hargs : ∀ x ∈ [pAV p, I m], Below 0 x := fun x hx => by
    simp only [List.mem_cons, List.not_mem_nil, or_false] at hx
    rcases hx with rfl | rfl
    · exact below_pAV p
    · exact .int _ _
  have hbt : ∀ a b : Int, Below 0 (.tup [I a, I b]) := fun a b => below_tup2 (.int _ _) (.int _ _)
  unfold countR
  cases hv : validP p with
  | false =>
    have h1 : ACall Try.prog G0 16 [pAV p, I m] [] (.tup [I 0, I 1]) _ := ACall.saysC (clokG1 fun _ => hv ▸ c28 hs) (run16n p m) (says_need trivial (says_need rfl (says_ite (fun _ => says_leaf) fun h => (by cases h))))
    exact h1.lift0 (hbt _ _) gbelow0 hargs h
  | true =>
  cases hm : inB m 0 1000000 with
  | false =>
    have h1 : ACall Try.prog G0 16 [pAV p, I m] [] (.tup [I 0, I 2]) _ := ACall.saysC (clokG1 fun _ => hv ▸ c28 hs) (run16m p m) (says_need trivial (says_need rfl (says_ite (fun h => (by cases h)) fun _ => says_ite (fun _ => says_leaf) fun h => by rw [hm] at h; cases h)))
    exact h1.lift0 (hbt _ _) gbelow0 hargs h
  | true =>
    have hp := valid_iff.1 hv
    have hmb := inB_iff.1 hm
    have n := n46 hs hp [.cells 0 [I 0]]
    have x0 := rnd (R := fun r => r = none) (n := 200) (keep := [2, 3]) (s := st16a p m [.resv, .resv, .resv, .resv]) (t := st16b p m [.resv, .resv, .resv, .resv]) clok0 (lpNo _) (congrArg Tree.sel (run16a p m _)) rfl
    have x1 := rnd (R := fun r => r = none) (n := 200) (keep := [2, 3]) (s := st16b p m [.resv, .resv, .resv, .resv]) (t := st16b p m [.resv, .resv, .resv, .resv]) (clokG1 fun _ => hv ▸ c28 hs) (lpNo _) ((congrArg Tree.sel (run16b p m _)).trans (t_need trivial (t_need rfl ((selIf rfl).trans ((selIf (by rw [hm]; rfl)).trans rfl))))) rfl
    have x2 := rnd (R := fun r => r = none) (n := 200) (keep := [2, 3, 6]) (s := st16b p m [.resv, .resv, .resv, .resv]) (t := st16c p m [.resv, .resv, .resv, .cells 0 [I 0]]) clok16c (lpNo _) ((congrArg Tree.sel (run16c p m)).trans (t_need rfl rfl)) rfl
    have x3 := rnd (R := fun r => r = none) (n := 200) (keep := [3, 6, 17]) (s := st16c p m [.resv, .resv, .resv, .cells 0 [I 0]]) (t := st16d m (SH p [] [] [.cells 0 [I 0]])) (clok22b hs hv n) (lpNo _) ((congrArg Tree.sel (run16d p m _ _)).trans (t_need ⟨rfl, rfl⟩ rfl)) rfl
    obtain ⟨t', h1, _, h3⟩ := c69 hp (beg_nil p) (t := []) (by show 0 ≤ _; omega) (K := K16 m) (Zc := fun s => Z16 (lp16 m s.2) s.1) (l := 5) (n := 6) (usr16 p hmb.2) (fun _ => rfl) (s := (0, false)) ⟨rfl, Int.le_refl _, hmb.1⟩ rfl
    have hcw : (runW p (K16 m) [] (0, false)).2.1 = countW p m := rfl
    generalize hst : (runW p (K16 m) [] (0, false)).2 = st at h3 hcw
    obtain ⟨q, b⟩ := st
    simp only at hcw
    have hrf : AExec Try.prog G0 (fun r => r = none) (.rangeFunc (.tmp 17) #[18, 19] as16 bd16) { tmps := (st16d m []).a } (SH p [] [] [.cells 0 [I 0]]) (bif b then .exit 1 else .normal) { tmps := (st16d m []).a, marks := [4] } (SH p [] t' (Z16 { lp16 m b with state := .exhausted } q ++ vars69 5 6 F48 [])) := by
      cases b with
      | false => exact AExec.rangeFunc (m := []) (v := .tup []) (A' := lp16 m false) (evF16 m) (first := []) (σ2 := SH p [] t' ((K16 m).Z (q, false))) h3 rfl nofun (fun _ => ⟨rfl, rfl, rfl⟩) (fun c h => by cases h)
      | true => exact AExec.rangeFunc (m := []) (v := .tup []) (A' := lp16 m true) (evF16 m) (first := []) (σ2 := SH p [] t' ((K16 m).Z (q, true))) h3 rfl nofun (fun h => by cases h) (fun c h => by cases h; exact .exit)
    have x4 := rndM (R := fun r => r = none) (m := [4]) (n := 200) (keep := [4, 5]) (s := st16d m (SH p [] t' (Z16 { lp16 m b with state := .exhausted } q ++ vars69 5 6 F48 []))) (t := st16x q (SH p [] t' (Z16 { lp16 m b with state := .exhausted } q ++ vars69 5 6 F48 []))) clok0 (lpNo (c16c 4)) (congrArg Tree.sel (run16x _ _ _ _ _ _)) (vals16x _ _)
    obtain ⟨fn, c, k1, k2, k3⟩ := fnOf (f := 16) (by kernel_rfl)
    obtain ⟨hres, hnt⟩ := fnFact (f := 16) (rs := [.tmp 4, .tmp 5]) (n := 26) (by kernel_rfl) k1
    have hle : Le ([pAV p, I m] ++ List.replicate (fn.ntmps - [pAV p, I m].length) (.tup [])) (st16a p m []).a := le_args (k := 24) (by rw [hnt]; rfl) (by kernel_rfl)
    have hall : AExec Try.prog G0 (fun r => r = none) (bodyOf Try.prog 16) { tmps := (st16a p m []).a } [.resv, .resv, .resv, .resv] .ret { tmps := (st16x q []).a, marks := [4] } (SH p [] t' (Z16 { lp16 m b with state := .exhausted } q ++ vars69 5 6 F48 [])) := by
      rw [code16]
      exact .seq x0 (.seq x1 (.seq x2 (.seq (.seq x3 (AExec.block_to (id := 1) hrf (by cases b <;> rfl))) x4)))
    rw [k3] at hall
    have key := ACall.of_body_marks (args := [pAV p, I m]) (xs := [I q, I 0]) k1 k2 (names 16 fn k1) (.weak hle hall) (.inr rfl) (by simp) (fun r hr => by rw [List.mem_singleton.1 hr]; rfl) (by rw [hres]; exact res16 _ _)
    rw [cond_true, cond_true, ← hcw]
    exact ACall.out (k := 4) key (re_tup2 re_int re_int) (hbt _ _) hargs h
end Go.Proofs.Ytngaihdpmoajeaa.Am

