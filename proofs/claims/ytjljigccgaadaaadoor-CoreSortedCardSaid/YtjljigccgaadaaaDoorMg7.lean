/-
  This file proves nothing of a law. It holds lemmas, of 3 texts in their order. No condition of its own.
-/
import Derived.Test.YtjljigccgaadaaaDoorMg6
namespace Go.Proofs.YtjljigccgaadaaaDoor.Am
open Go
set_option maxRecDepth 100000

theorem hB_nil (σ : Heap) : hB σ [] = σ ++ [.cells 0 [.zs]] := by unfold hB; simp [vA, oA]
theorem clokE7s {k : Int} {fv : AV} {all : List (List Int)} {l v : AV} {is isIn : Bool} {N : Nat} {h h1 h2 : Heap} (h31 : ACall Tryd.prog G0 31 [v] h2 l h2) (h14 : ACall Tryd.prog G0 14 [I k, l, fv] h2 (.tup [.bool is, I 0]) h2)
    (h24 : ACall Tryd.prog G0 24 [flLL all, .fn 35 [] [.ref N 0 0]] h2 (.bool isIn) h2) : ClOk Tryd.prog G0 (E7s k fv all l v is isIn N h h1 h2) :=
  .all ((hAl_ok _ _ _ _).ok.or (hLd_ok Tryd.underlying22 rfl _).ok) (ClH.or (clE2_ok h31) (ClH.or (clE2_ok h14) (clE2_ok h24))) (fun l xs σ t v σ' h => (by cases h)) (fun f xs t v h => (by cases h))
theorem ints_len (s : Nat) : (ints s).length ≤ 64 := by
  have := bitsL_len s
  simpa [ints] using this
theorem pow6 {k : Nat} (hk : k ≤ 6) : 2 ^ k ≤ 64 := Nat.le_trans (Nat.pow_le_pow_right (by omega) hk) (by decide)
theorem irr14 {σ : Heap} {g : FuncId} {caps : List AV} {f : Nat → Bool} (hf : FulAt σ g caps f) {k s : Nat} (hk : k ≤ 12) (hs : s < 2 ^ k) (X : Heap) : ACall Tryd.prog G0 14 [I k, flL (ints s), .fn g [] caps] (σ ++ X) (.tup [.bool (irr (fun s => !f s) s), I 0]) (σ ++ X) := by
  have h := c14 (hf.ful X) (n := k) (by omega) (L := ints s) (by have := ints_len s; omega) ()
  rw [ofL_ints hk hs] at h
  have h2 : (irrS (badS fun (_ : Unit) s => (f s, ())) () s).1 = irr (fun s => !f s) s := (irrS_ok (f := fun s => !f s) (Good := fun _ => True) (fun st s _ => ⟨rfl, trivial⟩) (by have := Nat.pow_le_pow_right (n := 2) (by omega) hk; omega) trivial).1
  simp only [h2] at h
  exact h
theorem all_len (f : Nat → Bool) {k : Nat} (hk : k ≤ 12) : (everyL f k).length ≤ 8192 := by
  have := allSeq_len hk
  have h2 := List.length_filter_le (irr f) (allSeq k)
  unfold everyL
  rw [List.length_map]
  omega
def cnt7 (f : Nat → Bool) (s : Nat) : Nat := ((List.range s).filter (irr f)).length
theorem cnt7_succ (f : Nat → Bool) (s : Nat) : cnt7 f (s + 1) = cnt7 f s + if irr f s then 1 else 0 := by
  unfold cnt7
  rw [List.range_succ, List.filter_append, List.length_append]
  cases h : irr f s <;> simp [h]
theorem cnt7_le (f : Nat → Bool) (s : Nat) : cnt7 f s ≤ s := by
  unfold cnt7
  have := List.length_filter_le (irr f) (List.range s)
  simpa using this
theorem round7 {R : Option Nat → Prop} {k s c : Nat} (hk : k ≤ 6) (hs : s < 2 ^ k) {g : FuncId} {caps : List AV} {f : Nat → Bool} {σ : Heap} (hf : FulAt σ g caps f) (hc : c < 1000) :
    AExec Tryd.prog G0 R body7s { tmps := (st7s k (.fn g [] caps) (everyL (fun s => !f s) k) c s (2 ^ k : Nat) σ).a } σ .normal { tmps := (st7s k (.fn g [] caps) (everyL (fun s => !f s) k) (c + if irr (fun s => !f s) s then 1 else 0 : Nat) (s + 1 : Nat) (2 ^ k : Nat) σ).a } (hB σ (ints s)) := by
  have h64 := pow6 hk
  have hll := lowL_all (k := k) (by omega) hs
  have hlen := ints_len s
  have h31 : ACall Tryd.prog G0 31 [vA (σ.length + 1) ((ints s).map I)] (hB σ (ints s)) (flL (ints s)) (hB σ (ints s)) := c31v (by omega) fun h0 => by
    have := hB_at σ (ints s) h0
    unfold objAt
    rw [this]
    simp
  have h14 := irr14 hf (by omega) hs ([.cells 0 [vA (σ.length + 1) ((ints s).map I)]] ++ oA ((ints s).map I))
  have h24 := c24 (ask35 (N := σ.length) (L := ints s) (by omega) (hB_at σ (ints s)) (hB_box σ (ints s)) (everyL (fun s => !f s) k)) (by have := all_len (fun s => !f s) (k := k) (by omega); omega)
  rw [mem_everyL _ (by omega) hs] at h24
  have hcl := clokE7s (k := k) (fv := .fn g [] caps) (N := σ.length) (h := σ) (h1 := hB σ (lowL s 0)) h31 h14 h24
  refine (xBody_ok (m := []) names mixed hcl (lpok7 (R := R) (s := s) (.fn g [] caps) (everyL (fun s => !f s) k) c (2 ^ k) hk (by omega) σ) (n := 200) (keep := [4, 5, 6, 7, 16, 114, 115]) (st := st7s k (.fn g [] caps) (everyL (fun s => !f s) k) c s (2 ^ k : Nat) σ) (st' := st7s k (.fn g [] caps) (everyL (fun s => !f s) k) (c + if irr (fun s => !f s) s then 1 else 0 : Nat) (s + 1 : Nat) (2 ^ k : Nat) (hB σ (ints s))) ?_).1
  rw [hll]
  refine (congrArg Tree.sel (run7s k s c (2 ^ k) (.fn g [] caps) (everyL (fun s => !f s) k) (flL (ints s)) _ _ σ.length _ σ _ _)).trans ?_
  have hw : IntKind.i64.wrap ((s : Int) + 1) = ((s + 1 : Nat) : Int) := wrap_i64 (by omega) (by omega)
  have hw2 : IntKind.i64.wrap ((c : Int) + 1) = ((c + 1 : Nat) : Int) := wrap_i64 (by omega) (by omega)
  have hal := alloc22 σ
  rw [← hB_nil] at hal
  rw [selI, decide_eq_true (by omega), cond_true, Tree.sel_need ⟨rfl, hal⟩, selR, Tree.sel_need (hB_box _ _), Tree.sel_need ⟨rfl, rfl⟩, Tree.sel_need ⟨rfl, rfl⟩, Tree.sel_need ⟨rfl, rfl⟩, selI, bne_self_eq_false, cond_false, selI, beq_self_eq_true, Bool.not_true, cond_false, selI, hw, hw2]
  cases irr (fun s => !f s) s <;> rfl
theorem below7s {n : Nat} {k c s m : Int} {fv : AV} {all : List (List Int)} (hv : Below 0 fv) (h : Heap) : ∀ x ∈ (st7s k fv all c s m h).a, Below n x := fun x hx => Below.up (St.of_clean (n := 161) (h := h) (l := [(4, .bool false, false), (5, I k, true), (6, fv, true), (7, flLL all, true), (16, I c, true), (114, I m, true), (115, I s, true)]) (fun p hp => by
  simp only [List.mem_cons, List.not_mem_nil, or_false] at hp
  rcases hp with rfl | rfl | rfl | rfl | rfl | rfl | rfl
  · exact .bool _
  · exact .int _ _
  · exact hv
  · exact below_flLL _
  · exact .int _ _
  · exact .int _ _
  · exact .int _ _) x hx)
def EF : Env := { clh := failH }
theorem clokF : ClOk Tryd.prog G0 EF := .all .none failH_ok (fun l xs σ t v σ' h => (by cases h)) fun f xs t v h => by cases h
def iteA : Tree (Exit × St) → Tree (Exit × St)
  | .ite _ x _ => x
  | _ => .fail
theorem run7se (k s c m : Nat) (fv : AV) (all : List (List Int)) (h : Heap) : xBody Tryd.prog G0 EF 200 noLoops [4, 5, 6, 7, 16, 114, 115] body7s (st7s k fv all c s m h) = .ite (decide ((s : Int) < m)) (iteA (xBody Tryd.prog G0 EF 200 noLoops [4, 5, 6, 7, 16, 114, 115] body7s (st7s k fv all c s m h))) (.leaf (.exit 4, st7s k fv all c s m h)) := by kernel_rfl
theorem loop7s {R : Option Nat → Prop} {k : Nat} (hk : k ≤ 6) {g : FuncId} {caps : List AV} {f : Nat → Bool} {σ : Heap} (hf : FulAt σ g caps f) (hv : Below 0 (.fn g [] caps)) : ∀ (d s : Nat), s + d = 2 ^ k →
    ALoopRun Tryd.prog G0 R body7s { tmps := (st7s k (.fn g [] caps) (everyL (fun s => !f s) k) (cnt7 (fun s => !f s) s) s (2 ^ k : Nat) σ).a } σ (.exit 4) { tmps := (st7s k (.fn g [] caps) (everyL (fun s => !f s) k) (cnt7 (fun s => !f s) (2 ^ k)) (2 ^ k : Nat) (2 ^ k : Nat) σ).a } σ
  | 0, s, hs => by
    obtain rfl : s = 2 ^ k := by omega
    refine .stop (xBody_ok (m := []) names mixed clokF (lpNo body7s) (n := 200) (keep := [4, 5, 6, 7, 16, 114, 115]) (st := st7s k (.fn g [] caps) (everyL (fun s => !f s) k) (cnt7 (fun s => !f s) (2 ^ k)) (2 ^ k : Nat) (2 ^ k : Nat) σ) (st' := st7s k (.fn g [] caps) (everyL (fun s => !f s) k) (cnt7 (fun s => !f s) (2 ^ k)) (2 ^ k : Nat) (2 ^ k : Nat) σ) ?_).1 nofun
    refine (congrArg Tree.sel (run7se k (2 ^ k) (cnt7 (fun s => !f s) (2 ^ k)) (2 ^ k) (.fn g [] caps) (everyL (fun s => !f s) k) σ)).trans ?_
    rw [selI, decide_eq_false (by omega)]
    rfl
  | d + 1, s, hs => by
    have h64 := pow6 hk
    have hlt : s < 2 ^ k := by omega
    have hc := cnt7_le (fun s => !f s) s
    have hr := round7 (R := R) (c := cnt7 (fun s => !f s) s) hk hlt hf (by omega)
    rw [← cnt7_succ] at hr
    exact .next (AExec.drop (g := [.cells 0 [vA (σ.length + 1) ((ints s).map I)]] ++ oA ((ints s).map I)) hr (below7s hv σ)) (loop7s hk hf hv d (s + 1) (by omega))
end Go.Proofs.YtjljigccgaadaaaDoor.Am

namespace Go.Proofs.YtjljigccgaadaaaDoor.Am
open Go
set_option maxRecDepth 100000

/-- Known functions with known arguments. -/
def clL : List (FuncId × List AV × AV) → FuncId → List AV → Option (Tree AV)
  | [], _, _ => none
  | (g, ys, v) :: r, f, xs => if f = g then some (.need (xs = ys) (.leaf v)) else clL r f xs
theorem clL_ok {l : List (FuncId × List AV × AV)} (hl : ∀ p ∈ l, ∀ σ, ACall Tryd.prog G0 p.1 p.2.1 σ p.2.2 σ) : ∀ f xs t v, clL l f xs = some t → t.sel = some v → ∀ σ, ACall Tryd.prog G0 f xs σ v σ := by
  induction l with
  | nil => intro f xs t v hq; cases hq
  | cons p r ih =>
    intro f xs t v hq hs σ
    obtain ⟨g, ys, u⟩ := p
    unfold clL at hq
    split at hq
    · rename_i hf
      subst hf
      cases hq
      obtain ⟨rfl, hs2⟩ := Tree.of_need hs
      cases hs2
      exact hl (f, _, _) (.head _) σ
    · exact ih (fun p hp => hl p (by simp [hp])) f xs t v hq hs σ
def EL (l : List (FuncId × List AV × AV)) : Env := { cl := clL l, hint := hShift, boxRow := true }
theorem clokL {l : List (FuncId × List AV × AV)} (hl : ∀ p ∈ l, ∀ σ, ACall Tryd.prog G0 p.1 p.2.1 σ p.2.2 σ) : ClOk Tryd.prog G0 (EL l) := .ofH rfl rfl hShift_ok.ok fun f xs t v h hs σ => clL_ok hl f xs t v h hs σ
/-! ### The loop over the three lists -/
noncomputable def body7o : Code := (loopsOf (bodyOf Tryd.prog 7)).getD 0 .skip
def st7o (k : Int) (fv : AV) (all rep hit : List (List Int)) (j : Int) (h : Heap) : St := .of 161 h [(4, .bool false, false), (5, I k, true), (6, fv, true), (7, flLL all, true), (61, .sl 1 [[flLL all], [flLL rep], [flLL hit]], true), (62, I 3, true), (63, I j, true)]
def st7j (k : Int) (fv : AV) (all rep hit L : List (List Int)) (j i : Int) (h : Heap) : St := .of 161 h [(4, .bool false, false), (5, I k, true), (6, fv, true), (7, flLL all, true), (14, flLL L, true), (15, I i, true), (61, .sl 1 [[flLL all], [flLL rep], [flLL hit]], true), (62, I 3, true), (63, I j, true)]
theorem run7j (k : Int) (fv : AV) (all rep hit L : List (List Int)) (j : Int) (i : Nat) (h : Heap) : xBody Tryd.prog G0 { cl := cl34b } 200 noLoops [4, 5, 6, 7, 14, 15, 61, 62, 63] body7i (st7j k fv all rep hit L j i h) =
    .ite (decide ((i : Int) < L.length)) (n7 L i (.ite (decide (((A7 L i).length : Int) > (B7 L i).length)) (.leaf (.ret, st7j k fv all rep hit L j i h)) (n7 L i (.ite (((A7 L i).length : Int) == (B7 L i).length)
      (n7 L i (.need (flL (A7 L i) = flL (unL (flL (A7 L i))) ∧ flL (B7 L i) = flL (unL (flL (B7 L i))) ∧ (unL (flL (A7 L i))).length < 4611686018427387904) (.ite (decide (cmpL (unL (flL (A7 L i))) (unL (flL (B7 L i))) ≥ 0)) (.leaf (.ret, st7j k fv all rep hit L j i h)) (.leaf (.normal, st7j k fv all rep hit L j (IntKind.i64.wrap (i + 1)) h)))))
      (.leaf (.normal, st7j k fv all rep hit L j (IntKind.i64.wrap (i + 1)) h)))))) (.leaf (.exit 2, st7j k fv all rep hit L j i h)) := by kernel_rfl
theorem loop7j {R : Option Nat → Prop} (k : Int) (fv : AV) (all rep hit : List (List Int)) (j : Int) {L : List (List Int)} (hp : L.Pairwise fun a b => befB a b = true) (hl : L.length < 4611686018427387904) (hx : ∀ x ∈ L, x.length < 4611686018427387904) (h : Heap) : ∀ (d i : Nat), 1 ≤ i → (i + d = L.length ∨ (d = 0 ∧ L.length ≤ i ∧ i = 1)) →
    ∃ m : Nat, ALoopRun Tryd.prog G0 R body7i { tmps := (st7j k fv all rep hit L j i h).a } h (.exit 2) { tmps := (st7j k fv all rep hit L j m h).a } h
  | 0, i, h1, hk => by
    refine ⟨i, .stop (xBody_ok (m := []) names mixed clok34b (lpNo body7i) (n := 200) (keep := [4, 5, 6, 7, 14, 15, 61, 62, 63]) (st := st7j k fv all rep hit L j i h) (st' := st7j k fv all rep hit L j i h) ?_).1 nofun⟩
    rw [run7j, selI, decide_eq_false (by omega)]
    rfl
  | d + 1, i, h1, hk => by
    have hlt : i < L.length := by omega
    obtain ⟨m, ih⟩ := loop7j (R := R) k fv all rep hit j hp hl hx h d (i + 1) (by omega) (.inl (by omega))
    have hw : IntKind.i64.wrap ((i : Int) + 1) = ((i + 1 : Nat) : Int) := wrap_i64 (by omega) (by omega)
    have hw1 : IntKind.i64.wrap ((i : Int) - 1) = ((i - 1 : Nat) : Int) := by rw [wrap_i64 (by omega) (by omega)]; omega
    have hA : A7 L i = L[i - 1] := by
      unfold A7
      rw [hw1, Int.toNat_natCast]
      simp [List.getD_eq_getElem?_getD, (by omega : i - 1 < L.length)]
    have hB : B7 L i = L[i] := by
      unfold B7
      rw [Int.toNat_natCast]
      simp [List.getD_eq_getElem?_getD, hlt]
    have hb := befB_iff.1 (List.pairwise_iff_getElem.1 hp (i - 1) i (by omega) hlt (by omega))
    have hn : ∀ x, (n7 L i x).sel = x.sel := fun x => by
      unfold n7
      rw [hw1, Tree.sel_need ⟨by omega, by omega⟩, Tree.sel_need ⟨by omega, by omega⟩]
    refine ⟨m, .next (xBody_ok (m := []) names mixed clok34b (lpNo body7i) (n := 200) (keep := [4, 5, 6, 7, 14, 15, 61, 62, 63]) (st := st7j k fv all rep hit L j i h) (st' := st7j k fv all rep hit L j (i + 1 : Nat) h) ?_).1 ih⟩
    rw [run7j, selI, decide_eq_true (by omega), cond_true, hn, selI, hA, hB, decide_eq_false (by omega), cond_false, hn, selI]
    by_cases he : L[i - 1].length = L[i].length
    · have hc : cmpL L[i - 1] L[i] < 0 := by
        rcases hb with hb | hb
        · omega
        · exact hb.2
      rw [he, beq_self_eq_true, cond_true, hn, unL_flL, unL_flL, Tree.sel_need ⟨rfl, rfl, hx _ (List.getElem_mem _)⟩, selI, decide_eq_false (by omega), cond_false, hw]
      rfl
    · rw [beq_false_of_ne (by omega), cond_false, hw]
      rfl
def lp7i (k : Int) (fv : AV) (all rep hit L : List (List Int)) (j i : Int) (h : Heap) : Loops := fun id => match id with
  | 12 => some ([4, 5, 6, 7, 14, 15, 61, 62, 63], st7j k fv all rep hit L j 1 h, .leaf (.exit 2, st7j k fv all rep hit L j i h))
  | _ => none
theorem loops7o : loopsOf body7o = [body7i] := by kernel_rfl
theorem id7i : idOf body7i = 12 := by kernel_rfl
/-- A list in order: no two elements out of order, of bounded lengths. -/
structure InOrd (L : List (List Int)) : Prop where
  pw : L.Pairwise fun a b => befB a b = true
  len : L.length < 4611686018427387904
  els : ∀ x ∈ L, x.length < 4611686018427387904
theorem lpok7i {R : Option Nat → Prop} (k : Int) (fv : AV) (all rep hit : List (List Int)) (j : Int) {L : List (List Int)} (hL : InOrd L) (h : Heap) : ∃ i : Nat, LoopsOk Tryd.prog G0 R [] (lp7i k fv all rep hit L j i h) body7o := by
  obtain ⟨i, hi⟩ := loop7j (R := R) k fv all rep hit j hL.pw hL.len hL.els h (L.length - 1) 1 (by omega) (by omega)
  refine ⟨i, .of_list _ fun x hm => ?_⟩
  rw [loops7o] at hm
  obtain rfl := List.mem_singleton.1 hm
  intro kp s0 t e st' h' hsel
  rw [id7i] at h'
  cases h'
  cases hsel
  exact ⟨.loop hi, rfl⟩
theorem run7o0 (k i : Int) (fv : AV) (all rep hit : List (List Int)) (h : Heap) : (xBody Tryd.prog G0 {} 200 (lp7i k fv all rep hit all 0 i h) [4, 5, 6, 7, 61, 62, 63] body7o (st7o k fv all rep hit 0 h)) =
    .ite (decide ((0 : Int) < 3)) (.need ((st7j k fv all rep hit all 0 1 h).vals = (st7j k fv all rep hit all 0 1 h).vals) (.leaf (.normal, st7o k fv all rep hit (IntKind.i64.wrap (0 + 1)) h))) (.leaf (.exit 0, st7o k fv all rep hit 0 h)) := by kernel_rfl
theorem run7o1 (k i : Int) (fv : AV) (all rep hit : List (List Int)) (h : Heap) : (xBody Tryd.prog G0 {} 200 (lp7i k fv all rep hit rep 1 i h) [4, 5, 6, 7, 61, 62, 63] body7o (st7o k fv all rep hit 1 h)) =
    .ite (decide ((1 : Int) < 3)) (.need ((st7j k fv all rep hit rep 1 1 h).vals = (st7j k fv all rep hit rep 1 1 h).vals) (.leaf (.normal, st7o k fv all rep hit (IntKind.i64.wrap (1 + 1)) h))) (.leaf (.exit 0, st7o k fv all rep hit 1 h)) := by kernel_rfl
theorem run7o2 (k i : Int) (fv : AV) (all rep hit : List (List Int)) (h : Heap) : (xBody Tryd.prog G0 {} 200 (lp7i k fv all rep hit hit 2 i h) [4, 5, 6, 7, 61, 62, 63] body7o (st7o k fv all rep hit 2 h)) =
    .ite (decide ((2 : Int) < 3)) (.need ((st7j k fv all rep hit hit 2 1 h).vals = (st7j k fv all rep hit hit 2 1 h).vals) (.leaf (.normal, st7o k fv all rep hit (IntKind.i64.wrap (2 + 1)) h))) (.leaf (.exit 0, st7o k fv all rep hit 2 h)) := by kernel_rfl
theorem run7o3 (k i : Int) (fv : AV) (all rep hit : List (List Int)) (h : Heap) : (xBody Tryd.prog G0 {} 200 (lp7i k fv all rep hit hit 3 i h) [4, 5, 6, 7, 61, 62, 63] body7o (st7o k fv all rep hit 3 h)) =
    .ite (decide ((3 : Int) < 3)) .fail (.leaf (.exit 0, st7o k fv all rep hit 3 h)) := by kernel_rfl
theorem wrap1 : IntKind.i64.wrap (0 + 1) = 1 ∧ IntKind.i64.wrap (1 + 1) = 2 ∧ IntKind.i64.wrap (2 + 1) = 3 := by decide
theorem loop7o {R : Option Nat → Prop} (k : Int) (fv : AV) {all rep hit : List (List Int)} (ha : InOrd all) (hr : InOrd rep) (hh : InOrd hit) (h : Heap) :
    ALoopRun Tryd.prog G0 R body7o { tmps := (st7o k fv all rep hit 0 h).a } h (.exit 0) { tmps := (st7o k fv all rep hit 3 h).a } h := by
  obtain ⟨w1, w2, w3⟩ := wrap1
  obtain ⟨i0, l0⟩ := lpok7i (R := R) k fv all rep hit 0 ha h
  obtain ⟨i1, l1⟩ := lpok7i (R := R) k fv all rep hit 1 hr h
  obtain ⟨i2, l2⟩ := lpok7i (R := R) k fv all rep hit 2 hh h
  obtain ⟨i3, l3⟩ := lpok7i (R := R) k fv all rep hit 3 hh h
  refine .next (a1 := { tmps := (st7o k fv all rep hit 1 h).a }) (σ1 := h) (xBody_ok (m := []) names mixed clok0 l0 (n := 200) (keep := [4, 5, 6, 7, 61, 62, 63]) (st := st7o k fv all rep hit 0 h) (st' := st7o k fv all rep hit 1 h) ?_).1 ?_
  · rw [run7o0, w1]; exact selR
  refine .next (a1 := { tmps := (st7o k fv all rep hit 2 h).a }) (σ1 := h) (xBody_ok (m := []) names mixed clok0 l1 (n := 200) (keep := [4, 5, 6, 7, 61, 62, 63]) (st := st7o k fv all rep hit 1 h) (st' := st7o k fv all rep hit 2 h) ?_).1 ?_
  · rw [run7o1, w2]; exact selR
  refine .next (a1 := { tmps := (st7o k fv all rep hit 3 h).a }) (σ1 := h) (xBody_ok (m := []) names mixed clok0 l2 (n := 200) (keep := [4, 5, 6, 7, 61, 62, 63]) (st := st7o k fv all rep hit 2 h) (st' := st7o k fv all rep hit 3 h) ?_).1 ?_
  · rw [run7o2, w3]; exact selR
  refine .stop (xBody_ok (m := []) names mixed clok0 l3 (n := 200) (keep := [4, 5, 6, 7, 61, 62, 63]) (st := st7o k fv all rep hit 3 h) (st' := st7o k fv all rep hit 3 h) ?_).1 nofun
  rw [run7o3]; rfl
/-! ### The whole function -/
def lp7t (k : Int) (fv : AV) (all rep hit : List (List Int)) (c m : Int) (h : Heap) : Loops := fun id => match id with
  | 9 => some ([4, 5, 6, 7, 61, 62, 63], st7o k fv all rep hit 0 h, .leaf (.exit 0, st7o k fv all rep hit 3 h))
  | 19 => some ([4, 5, 6, 7, 16, 114, 115], st7s k fv all 0 0 m h, .leaf (.exit 4, st7s k fv all c m m h))
  | _ => none
def e7 (k b : Int) (tv fv own : AV) (all rep hit : List (List Int)) : List (FuncId × List AV × AV) :=
  [(29, [U b], tv), (21, [tv], fv), (15, [I k, fv], .tup [flLL all, I 0]), (16, [I k, fv], .tup [flLL rep, I 0]), (23, [flLL all], own), (17, [I k, own], .tup [flLL hit, I 0]), (20, [], .bool true)]
def rem7 (n : Int) : Int := (IntKind.i64.wrap n).tmod 7
def shl1 (k : Int) : Int := IntKind.i64.wrap (1 * 2 ^ (min k.toNat IntKind.i64.bits))
theorem run7 (n b : Int) (tv fv own : AV) (all rep hit : List (List Int)) (c : Int) (h : Heap) : xenter Tryd.prog (EL (e7 (rem7 n) b tv fv own all rep hit)) (xCode Tryd.prog G0 (EL (e7 (rem7 n) b tv fv own all rep hit)) 200 (lp7t (rem7 n) fv all rep hit c (shl1 (rem7 n)) h)) 7 [.int .u8 n, U b] [true, true] h =
    .need ([U b] = [U b]) (.need ([tv] = [tv]) (.need ([I (rem7 n), fv] = [I (rem7 n), fv]) (.need ([I (rem7 n), fv] = [I (rem7 n), fv]) (.need ([flLL all] = [flLL all]) (.need ([I (rem7 n), own] = [I (rem7 n), own])
      (.ite ((0 : Int) != 0) (.leaf (.bool false, false, h)) (.ite ((0 : Int) != 0) (.leaf (.bool false, false, h)) (.ite ((0 : Int) != 0) (.leaf (.bool false, false, h))
        (.need ((st7o (rem7 n) fv all rep hit 0 h).vals = (st7o (rem7 n) fv all rep hit 0 h).vals) (.need (0 ≤ rem7 n) (.need ((st7s (rem7 n) fv all 0 0 (shl1 (rem7 n)) h).vals = (st7s (rem7 n) fv all 0 0 (shl1 (rem7 n)) h).vals)
          (.ite (c == (all.length : Int)) (.need (([] : List AV) = []) (.leaf (.bool true, true, h))) (.leaf (.bool false, false, h)))))))))))))) := by kernel_rfl
end Go.Proofs.YtjljigccgaadaaaDoor.Am

namespace Go.Proofs.YtjljigccgaadaaaDoor.Am
open Go
set_option maxRecDepth 100000

theorem rem7_nat {n : Int} (h0 : 0 ≤ n) (h1 : n < 256) : rem7 n = (n.toNat % 7 : Nat) := by
  unfold rem7
  rw [wrap_i64 (by omega) (by omega), Int.tmod_eq_emod_of_nonneg h0]
  omega
theorem shl1_nat {k : Nat} (hk : k ≤ 62) : shl1 k = (2 ^ k : Nat) := by
  unfold shl1
  have hm : min (k : Int).toNat IntKind.i64.bits = k := by rw [Int.toNat_natCast]; exact Nat.min_eq_left (by show k ≤ 64; omega)
  have h2 : 2 ^ k ≤ 2 ^ 62 := Nat.pow_le_pow_right (by omega) hk
  rw [hm, Int.one_mul, show (2 : Int) ^ k = ((2 ^ k : Nat) : Int) by norm_cast]
  generalize 2 ^ k = m at h2
  exact wrap_i64 (by omega) (by omega)
/-- Elements of a list of sets. -/
theorem els_every {f : Nat → Bool} {n : Nat} {x : List Int} (h : x ∈ everyL f n) : ∃ s, s < 2 ^ n ∧ x = ints s := by
  unfold everyL at h
  obtain ⟨s, hs, rfl⟩ := List.mem_map.1 h
  exact ⟨s, allSeq_lt (List.mem_filter.1 hs).1, rfl⟩
theorem inOrd_every (f : Nat → Bool) {n : Nat} (hn : n ≤ 12) : InOrd (everyL f n) :=
  ⟨sorted_every f hn, by have := all_len f hn; omega, fun x hx => by
    obtain ⟨s, _, rfl⟩ := els_every hx
    have := ints_len s
    omega⟩
theorem ints_lt {n s : Nat} (hs : s < 2 ^ n) (hn : n ≤ 64) : (ints s).length ≤ n := by
  rw [← lowL_all hn hs]
  exact lowL_len s n
theorem len_allSeq {n : Nat} (hn : n ≤ 12) : (allSeq n).length = 2 ^ n :=
  eq_of_beq (List.all_eq_true.1 lenAll n (List.mem_range.2 (by omega)))
theorem own_every (f : Nat → Bool) {n : Nat} (hn : n ≤ 11) : ∃ L : List Nat, (∀ s ∈ L, s < 2 ^ n) ∧ ownL (everyL f n) = L.map ints ∧ L.length ≤ 30 ∧ ((everyL f n).length ≤ 30 → ownL (everyL f n) = everyL f n) := by
  have hal : (everyL f n).length ≤ 2 ^ n := by
    have h2 := List.length_filter_le (irr f) (allSeq n)
    rw [len_allSeq (by omega)] at h2
    unfold everyL
    rw [List.length_map]
    exact h2
  have hp : 2 ^ n ≤ 2 ^ 11 := Nat.pow_le_pow_right (by omega) hn
  have hm : mostL (everyL f n) = 30 := by unfold mostL; rw [if_neg (by omega)]
  have hown : ownL (everyL f n) = (((allSeq n).filter (irr f)).take 30).map ints := by
    unfold ownL
    rw [hm]
    unfold everyL
    rw [← List.map_take, List.map_map]
    refine List.map_congr_left fun s hs => ?_
    have h1 := allSeq_lt (List.mem_filter.1 (List.mem_of_mem_take hs)).1
    exact List.take_of_length_le (Nat.le_trans (ints_lt h1 (by omega)) (by omega))
  refine ⟨((allSeq n).filter (irr f)).take 30, fun s hs => allSeq_lt (List.mem_filter.1 (List.mem_of_mem_take hs)).1, hown, by rw [List.length_take]; omega, fun h => ?_⟩
  rw [hown]
  unfold everyL at h ⊢
  rw [List.length_map] at h
  rw [List.take_of_length_le h]
theorem hit_every {L : List Nat} {n : Nat} (hn : n ≤ 12) (hL : ∀ s ∈ L, s < 2 ^ n) : ∃ M, hitR n (L.map ints) = resLL (everyL (hits M) n) 0 := by
  obtain ⟨M, hM⟩ := Option.isSome_iff_exists.1 (hitLoop_ok hn L [] hL)
  exact ⟨M, by unfold hitR; rw [hM]⟩
theorem below_row {cs : List AV} (h : ∀ x ∈ cs, Below 0 x) : Below 0 (.row cs 0) := .row _ _ fun j x hj => h x (List.mem_of_getElem? hj)
theorem below_ask (T : Tab) : Below 0 (AV.fn 56 [] [.row T.cells 0]) := .fn _ _ _ (fun _ _ hj => by simp at hj) fun _ x hj => by
  obtain rfl := List.mem_singleton.1 (List.mem_of_getElem? hj)
  refine below_row fun x hx => ?_
  simp only [Tab.cells, List.mem_cons, List.not_mem_nil, or_false] at hx
  rcases hx with rfl | rfl | rfl
  · exact .bool _
  · exact .int _ _
  · exact below_flU _
theorem loops7 : loopsOf (bodyOf Tryd.prog 7) = [body7o, body7i, body7s, body7b] := by kernel_rfl
theorem id7o : idOf body7o = 9 := by kernel_rfl
theorem id7s : idOf body7s = 19 := by kernel_rfl
theorem c7 {n b : Int} (h0 : 0 ≤ n) (h1 : n < 256) : ACall Tryd.prog G0 7 [.int .u8 n, U b] [] (.bool true) [] := by
  have hk := rem7_nat h0 h1
  have hk6 : n.toNat % 7 ≤ 6 := by omega
  generalize n.toNat % 7 = k at hk hk6
  have hT : ∀ σ, FulAt σ 56 [.row (Tab.cells ⟨true, b, []⟩) 0] fun s => Tab.ful ⟨true, b, []⟩ (s : Nat) := fulAsk (by show (0 : Nat) < _; omega)
  generalize (fun s : Nat => Tab.ful ⟨true, b, []⟩ (s : Nat)) = f at hT
  have hv := below_ask ⟨true, b, []⟩
  obtain ⟨L, hL1, hL2, hL3, _⟩ := own_every (fun s => !f s) (n := k) (by omega)
  obtain ⟨M, hM⟩ := hit_every (n := k) (by omega) hL1
  have hA := inOrd_every (fun s => !f s) (n := k) (by omega)
  have hR := inOrd_every (fun s => f (comp k s)) (n := k) (by omega)
  have hH := inOrd_every (hits M) (n := k) (by omega)
  have hcl : ∀ p ∈ e7 (rem7 n) b (Tab.av ⟨true, b, []⟩) (.fn 56 [] [.row (Tab.cells ⟨true, b, []⟩) 0]) (flLL (L.map ints)) (everyL (fun s => !f s) k) (everyL (fun s => f (comp k s)) k) (everyL (hits M) k), ∀ σ, ACall Tryd.prog G0 p.1 p.2.1 σ p.2.2 σ := by
    intro p hp σ
    simp only [e7, List.mem_cons, List.not_mem_nil, or_false] at hp
    rw [hk] at hp
    rcases hp with rfl | rfl | rfl | rfl | rfl | rfl | rfl
    · exact c29 b σ
    · exact c21 _ σ
    · exact c15 (by omega) (hT σ)
    · exact c16 (by omega) (hT σ)
    · have := c23 (L := everyL (fun s => !f s) k) hA.len σ
      rwa [hL2] at this
    · have := c17 (σ := σ) (n := k) (SL := L.map ints) (by omega) (fun x hx => by
        obtain ⟨s, _, rfl⟩ := List.mem_map.1 hx
        have := ints_len s
        omega) (by rw [List.length_map]; omega)
      rwa [hM] at this
    · exact c20 σ
  have hc : (cnt7 (fun s => !f s) (2 ^ k) : Int) = (everyL (fun s => !f s) k).length := by
    have := count_every (fun s => !f s) (n := k) hk6
    unfold cnt7
    rw [this]
  have hlp : LoopsOk Tryd.prog G0 (fun r => r = none) [] (lp7t (rem7 n) (.fn 56 [] [.row (Tab.cells ⟨true, b, []⟩) 0]) (everyL (fun s => !f s) k) (everyL (fun s => f (comp k s)) k) (everyL (hits M) k) (cnt7 (fun s => !f s) (2 ^ k)) (shl1 (rem7 n)) []) (bodyOf Tryd.prog 7) := by
    refine .of_list _ fun x hm => ?_
    rw [loops7] at hm
    simp only [List.mem_cons, List.not_mem_nil, or_false] at hm
    intro kp s0 t e st' h' hsel
    rcases hm with rfl | rfl | rfl | rfl
    · rw [id7o] at h'
      cases h'
      cases hsel
      exact ⟨.loop (loop7o _ _ hA hR hH []), rfl⟩
    · rw [id7i] at h'
      cases h'
    · rw [id7s] at h'
      cases h'
      cases hsel
      rw [hk, shl1_nat (by omega)]
      exact ⟨.loop (loop7s hk6 (hT []) hv (2 ^ k) 0 (by omega)), rfl⟩
    · rw [id7b] at h'
      cases h'
  refine .find (s := true) (n := 200) (tags := [true, true]) (clokL hcl) hlp ?_
  rw [run7, selR, selR, selR, selR, selR, selR, selI, bne_self_eq_false, cond_false, selI, cond_false, selI, cond_false, selR, Tree.sel_need (by omega), selR, selI, hc, beq_self_eq_true, cond_true, selR]
  rfl
end Go.Proofs.YtjljigccgaadaaaDoor.Am

