/-
  This file proves nothing of a law. It holds lemmas, of 10 texts in their order. No condition of its own.
-/
import Derived.Test.YtjljigccgaadaaaDoorMg8
import Derived.Test.YtjljigccgaadaaaDoorMg7
namespace Go.Proofs.YtjljigccgaadaaaDoor.Am
open Go
set_option maxRecDepth 100000

/-- A list with one element more. -/
def insL {α : Type} (L : List α) (i : Nat) (x : α) : List α := L.take i ++ x :: L.drop i
theorem insL_length {α : Type} {L : List α} {i : Nat} {x : α} (h : i ≤ L.length) : (insL L i x).length = L.length + 1 := by
  simp [insL]; omega
theorem insL_end {α : Type} (L : List α) (x : α) : insL L L.length x = L ++ [x] := by simp [insL]
theorem objAt_lt {σ : Heap} {r g : Nat} {c : List AV} (h : objAt σ r g = some c) : r < σ.length ∧ σ[r]? = some (.cells g c) := by
  unfold objAt at h
  split at h
  · rename_i g' c' he
    split at h
    · rename_i hg
      cases h
      subst hg
      exact ⟨(List.getElem?_eq_some_iff.1 he).1, he⟩
    · cases h
  · cases h
theorem objAt_push {σ τ : Heap} {r g : Nat} {c : List AV} (h : objAt σ r g = some c) : objAt (σ ++ τ) r g = some c := by
  obtain ⟨h1, h2⟩ := objAt_lt h
  unfold objAt
  rw [List.getElem?_append_left h1, h2]
  simp
theorem objAt_set {σ : Heap} {r g : Nat} {c : List AV} (h : r < σ.length) : objAt (σ.set r (.cells g c)) r g = some c := by
  unfold objAt
  rw [List.getElem?_set_self h]
  simp
theorem objAt_set_ne {σ : Heap} {r r' g : Nat} {o : AObj} (h : r' ≠ r) : objAt (σ.set r' o) r g = objAt σ r g := by
  unfold objAt
  rw [List.getElem?_set_ne h]
theorem conts_v {σ : Heap} {N : Nat} {x : AV} (hN : objAt σ N 0 = some [x]) : conts σ 1 (.ms 1 N 0 0 1 1) = some (1, [x]) := by
  unfold conts
  simp [hN]
theorem wI_eq {i : Nat} (h : i < 16777216) : wI i = I (i + 1 : Nat) := by
  unfold wI
  rw [wrap_i64 (by omega) (by omega)]
  rfl

theorem c75A {σ : Heap} {N : Nat} {x : AV} (hN : objAt σ N 0 = some [x]) (hx : x.one = true) : ACall Tryd.prog G0 75 [.zs, I 0, .ms 1 N 0 0 1 1] σ (.ms 1 σ.length 0 0 1 1) (σ ++ [.cells 0 [x]]) := by
  have hcl : ClOk Tryd.prog G0 (E75A (.ms 1 N 0 0 1 1) (.ms 1 σ.length 0 0 1 1) σ (σ ++ [.cells 0 [x]])) := .ofH rfl rfl ((hCap_ok Tryd.underlying29).or (hApp_ok _ _ _ _ _ _).ok) fun f xs t v h => by cases h
  refine xCall_ok (n := 200) (tags := [true, true, true]) (s := true) names mixed hcl ?_
  refine (congrArg Tree.sel (run75A N _ σ _)).trans ?_
  obtain ⟨ie, zx, h1, h2, h3, h4, h5, h6⟩ := el29.i
  have hn : notInt Tryd.prog 29 = true := by unfold notInt; rw [Tryd.underlying29]
  have happ : aAppend Tryd.prog σ 29 29 .zs (.ms 1 N 0 0 1 1) = some (.ms 1 σ.length 0 0 1 1, σ ++ [.cells 0 [x]]) := by
    unfold aAppend
    rw [Tryd.underlying29]
    simp only [h1, h2, h3, conts_v hN, hn, List.all_cons, hx, List.all_nil, Bool.and_self, h4, h5, h6, and_self, if_true]
    rfl
  rw [selI, show ((((1 : Nat) : Int) == 0) = false) from rfl, cond_false, selI, show (((0 : Int) == 0) = true) from rfl, cond_true, Tree.sel_need ⟨rfl, rfl, rfl, happ⟩, selL]
theorem c75B {σ : Heap} {N r g : Nat} {L : List AV} {x : AV} (hN : objAt σ N 0 = some [x]) (hx : x.one = true) (hr : objAt σ r g = some L) (hl : L.length + 1 ≤ 16777216) :
    ACall Tryd.prog G0 75 [.ms 1 r g 0 L.length L.length, I L.length, .ms 1 N 0 0 1 1] σ (.ms 1 r (g + 1) 0 (L.length + 1) (L.length + 1)) (σ.set r (.cells (g + 1) (L ++ [x]))) := by
  have hcl : ClOk Tryd.prog G0 (E75B (.ms 1 r g 0 L.length L.length) (.ms 1 N 0 0 1 1) (.ms 1 r (g + 1) 0 (L.length + 1) (L.length + 1)) L.length σ (σ.set r (.cells (g + 1) (L ++ [x])))) :=
    .ofH rfl rfl ((hSlT_ok _ _ _ _ _ _ _ _).ok.or ((hCap_ok Tryd.underlying29).or (hApp_ok _ _ _ _ _ _).ok)) fun f xs t v h => by cases h
  refine xCall_ok (n := 200) (tags := [true, true, true]) (s := true) names mixed hcl ?_
  refine (congrArg Tree.sel (run75B N L.length r g _ σ _)).trans ?_
  obtain ⟨ie, zx, h1, h2, h3, h4, h5, h6⟩ := el29.i
  have hn : notInt Tryd.prog 29 = true := by unfold notInt; rw [Tryd.underlying29]
  have happ : aAppend Tryd.prog σ 29 29 (.ms 1 r g 0 L.length L.length) (.ms 1 N 0 0 1 1) = some (.ms 1 r (g + 1) 0 (L.length + 1) (L.length + 1), σ.set r (.cells (g + 1) (L ++ [x]))) := by
    unfold aAppend
    rw [Tryd.underlying29]
    have c1 : ¬ (L.length + 1 ≤ L.length) := by omega
    have c2 : 0 + L.length ≤ L.length := by omega
    simp only [h1, h2, h3, conts_v hN, hn, List.all_cons, hx, List.all_nil, Bool.and_self, h4, h5, h6, and_self, if_true, hr, Nat.le_refl, c1, c2, if_false, hl, Nat.mul_one, List.take_length, Nat.one_ne_zero]
  rw [Tree.sel_need ⟨rfl, rfl, rfl, rfl, rfl, slice_end29 (by rw [hr]; rfl)⟩, selI, show ((((1 : Nat) : Int) == 0) = false) from rfl, cond_false, selI, beq_self_eq_true, cond_true, Tree.sel_need ⟨rfl, rfl, rfl, happ⟩, selL]
/-- Where there is room. -/
theorem c75C {σ : Heap} {N r g i cap : Nat} {L : List AV} {x : AV} (hN : objAt σ N 0 = some [x]) (hx : x.one = true) (hne : N ≠ r) (hr : objAt σ r g = some L) (hL : ∀ y ∈ L, y.one = true) (hi : i < L.length) (hl : L.length + 1 ≤ 16777216) (hc : L.length + 1 ≤ cap) :
    ACall Tryd.prog G0 75 [.mx 1 r g 0 L.length cap, I i, .ms 1 N 0 0 1 1] σ (.mx 1 r g 0 (L.length + 1) cap) (σ.set r (.cells g (insL L i x))) := by
  obtain ⟨hrl, hrg⟩ := objAt_lt hr
  refine ACall.extend (r := r) (g := g) (n := L.length) (cap := cap) (c := L) ?_ rfl hr (by omega)
  generalize hσ1 : σ.set r (.cells g (L ++ [.junk])) = σ1
  have hr1 : objAt σ1 r g = some (L ++ [.junk]) := by rw [← hσ1]; exact objAt_set hrl
  have hN1 : objAt σ1 N 0 = some [x] := by rw [← hσ1, objAt_set_ne (fun h => hne h.symm)]; exact hN
  have hs1 : σ1.set r (.cells g (insL L i x)) = σ.set r (.cells g (insL L i x)) := by rw [← hσ1, List.set_set]
  rw [← hs1]
  generalize hn : L.length = n at *
  have hrl1 : r < σ1.length := by rw [← hσ1]; simpa using hrl
  obtain ⟨c1, hc1⟩ : ∃ c1, c1 = L ++ [AV.junk] := ⟨_, rfl⟩
  have hxs1 : c1.drop i = L.drop i ++ [.junk] := by rw [hc1, List.drop_append_of_le_length (by omega)]
  obtain ⟨c2, hc2⟩ : ∃ c2, c2 = setL c1 (i + 1) (L.drop i) := ⟨_, rfl⟩
  have hlc1 : c1.length = n + 1 := by rw [hc1]; simp [hn]
  have hlc2 : c2.length = n + 1 := by rw [hc2, setL_length (by simp; omega), hlc1]
  have htk : ((c1.drop i).take (n + 1 - i)).take (n - i) = L.drop i := by
    rw [List.take_take, hxs1, Nat.min_eq_left (by omega), List.take_append_of_le_length (by simp; omega), List.take_of_length_le (by simp; omega)]
  have hc3 : setL c2 i [x] = insL L i x := by
    have e1 : c2 = c1.take (i + 1) ++ L.drop i := by
      rw [hc2]
      have e0 : c1.drop (i + 1 + (L.drop i).length) = [] := List.drop_eq_nil_of_le (by rw [hlc1]; simp; omega)
      unfold setL
      rw [e0, List.append_nil]
    have e2 : (c1.take (i + 1)).length = i + 1 := by simp; omega
    unfold setL insL
    rw [e1, List.take_append_of_le_length (by omega), List.take_take, Nat.min_eq_left (by omega), hc1, List.take_append_of_le_length (by omega)]
    rw [← hc1]
    have e3 : i + [x].length = (c1.take (i + 1)).length := by rw [e2]; rfl
    rw [e3, List.drop_left]
    rfl
  have hr2 : objAt (σ1.set r (.cells g (setL c1 (i + 1) (L.drop i)))) r g = some c2 := by rw [hc2]; exact objAt_set hrl1
  have hN2 : objAt (σ1.set r (.cells g (setL c1 (i + 1) (L.drop i)))) N 0 = some [x] := by rw [objAt_set_ne (fun h => hne h.symm)]; exact hN1
  have hcl : ClOk Tryd.prog G0 (E75C (.mx 1 r g (i + 1) (n - i) (cap - (i + 1))) (.mx 1 r g i (n + 1 - i) (cap - i)) (.mx 1 r g i (n + 1 - i) (cap - i)) (.ms 1 N 0 0 1 1) r g N n i c1 ((c1.drop i).take (n + 1 - i)) c2 x σ1 (σ1.set r (.cells g (setL c1 (i + 1) (L.drop i))))) := by
    obtain ⟨ie, zx, z1, z2, z3, z4, z5, z6⟩ := el29.i
    exact .ofH rfl rfl ((hCap_ok Tryd.underlying29).or (hSlG_ok.or ((HintOk.sel (hCopy_ok Tryd.underlying29 z1 z3 _ _ _ _ _ _ _ _ _ _)).or ((HintOk.sel (hCopy_ok Tryd.underlying29 z1 z3 _ _ _ _ _ _ _ _ _ _)).or (hOvl_ok _ _ _ _ _))))) fun f xs t v h => by cases h
  refine xCall_ok (n := 200) (tags := [true, true, true]) (s := true) names mixed hcl ?_
  refine (congrArg Tree.sel (run75C N n i r g cap _ _ _ _ x c1 ((c1.drop i).take (n + 1 - i)) c2 σ1 (σ1.set r (.cells g (setL c1 (i + 1) (L.drop i)))))).trans ?_
  have hwn : IntKind.i64.wrap ((n : Int) + (1 : Nat)) = (n + 1 : Nat) := wrap_i64 (by omega) (by omega)
  have b0 : bV (none : Option AV) 0 = 0 := rfl
  have bn : bV (some (wI n)) n = n + 1 := by rw [wI_eq (by omega)]; rfl
  have bi : bV (some (wI i)) 0 = i + 1 := by rw [wI_eq (by omega)]; rfl
  have bi0 : bV (some (I i)) 0 = i := rfl
  have bnn : ∀ k, bV (none : Option AV) k = k := fun _ => rfl
  have pn : bP (some (wI n)) := by rw [wI_eq (by omega)]; exact Int.natCast_nonneg _
  have pi : bP (some (wI i)) := by rw [wI_eq (by omega)]; exact Int.natCast_nonneg _
  have pi0 : bP (some (I i)) := Int.natCast_nonneg _
  have p0 : bP (none : Option AV) := trivial
  have q1 : prt none (some (wI n)) (.mx 1 r g 0 n cap) = .mx 1 r g 0 (n + 1) cap := by simp only [prt, b0, bn, Nat.sub_zero, Nat.add_zero]
  have q2 : prt (some (wI i)) none (.mx 1 r g 0 (n + 1) cap) = .mx 1 r g (i + 1) (n - i) (cap - (i + 1)) := by
    simp only [prt, bnn, bi, Nat.zero_add]
    rw [show n + 1 - (i + 1) = n - i by omega]
  have q3 : prt (some (I i)) none (.mx 1 r g 0 (n + 1) cap) = .mx 1 r g i (n + 1 - i) (cap - i) := by simp only [prt, bnn, bi0, Nat.zero_add]
  have cx1 : contsX σ1 (.mx 1 r g i (n + 1 - i) (cap - i)) = some (n + 1 - i, (c1.drop i).take (n + 1 - i)) := by
    unfold contsX conts
    simp only [hr1, ← hc1]
    rw [if_pos ⟨trivial, by rw [hlc1]; omega⟩, Nat.mul_one]
  have cx2 : contsX (σ1.set r (.cells g (setL c1 (i + 1) (L.drop i)))) (.ms 1 N 0 0 1 1) = some (1, [x]) := conts_v hN2
  have hall : (L.drop i).all AV.one = true := List.all_eq_true.2 fun y hy => hL y (List.mem_of_mem_drop hy)
  rw [Tree.sel_need ⟨pi0, p0, by rw [bi0]; exact Nat.le_of_lt hi, by rw [bnn]; omega, by omega, by rw [bi0]; omega⟩, selI, show ((((1 : Nat) : Int) == 0) = false) from rfl, cond_false, Tree.sel_need rfl, selI, beq_false_of_ne (by omega), cond_false, Tree.sel_need rfl, selI, hwn,
    decide_eq_false (show ¬ (((n + 1 : Nat) : Int) > cap) by omega), cond_false, Tree.sel_need ⟨p0, pn, by rw [b0]; omega, by rw [bn]; exact hc, by omega, by rw [b0]; omega⟩, bn, b0, Nat.sub_zero, Nat.sub_zero,
    Tree.sel_need ⟨pi, p0, by rw [bi, bnn]; omega, by rw [bnn]; omega, by omega, by rw [bi]; omega⟩, q1, q2, q3,
    Tree.sel_need ⟨rfl, rfl, hne, ⟨_, hN1⟩, ⟨g, _, hr1, by simp, _, _, _, rfl⟩, _, _, rfl⟩, selI, show ((!false) = true) from rfl, cond_true, Tree.sel_need ⟨pi, p0, by rw [bi, bnn]; omega, by rw [bnn]; omega, by omega, by rw [bi]; omega⟩,
    Tree.sel_need ⟨pi0, p0, by rw [bi0, bnn]; omega, by rw [bnn]; omega, by omega, by rw [bi0]; omega⟩, Tree.sel_need ⟨rfl, rfl, rfl, ⟨_, .inr rfl⟩, by rw [hc1]; exact hr1, ⟨_, cx1, by omega⟩, by omega, by rw [htk]; exact hall⟩,
    Tree.sel_need ⟨pi0, p0, by rw [bi0, bnn]; omega, by rw [bnn]; omega, by omega, by rw [bi0]; omega⟩, Tree.sel_need ⟨by rw [htk], rfl, rfl, ⟨_, .inr rfl⟩, hr2, ⟨_, cx2, by omega⟩, by omega, by simp [hx]⟩, selL, List.set_set, show ([x].take 1) = [x] from rfl, hc3]
theorem zero22 : aZero Tryd.prog 22 = some .zs := by kernel_rfl
theorem sel75D {σ : Heap} {N r g i n : Nat} {xs xs1 c1 c2 c3 : List AV} {x : AV} (hx : x.one = true) (hi : i < n) (hl : n + 1 ≤ 16777216) (hc1 : c1 = xs ++ List.replicate (n + 1 - i) .zs) (hc2 : c2 = setL c1 i [x]) (hc3 : setL c2 (i + 1) xs1 = c3) (hlc1 : c1.length = n + 1) (hlc2 : c2.length = n + 1)
    (cx0 : contsX σ (.mx 1 r g 0 i n) = some (i, xs)) (cx1 : contsX (σ ++ [.cells 0 c1]) (.ms 1 N 0 0 1 1) = some (1, [x])) (cx2 : contsX (σ ++ [.cells 0 c2]) (.mx 1 r g i (n - i) (n - i)) = some (n - i, xs1)) (hdl : xs1.take (n - i) = xs1) (hall : xs1.all AV.one = true) :
    (xCall Tryd.prog G0 (E75D (.ms 1 σ.length 0 i (n + 1 - i) (n + 1 - i)) (.mx 1 r g i (n - i) (n - i)) (.ms 1 σ.length 0 (i + 1) (n - i) (n - i)) (.ms 1 N 0 0 1 1) .zs r g n i n σ.length xs xs1 c1 c2 x σ (σ ++ [.cells 0 c1]) (σ ++ [.cells 0 c2])) 200 75 [.mx 1 r g 0 n n, I i, .ms 1 N 0 0 1 1] [true, true, true] σ).sel = some (.ms 1 σ.length 0 0 (n + 1) (n + 1), true, σ ++ [.cells 0 c3]) := by
  rw [run75D N n i r g n σ.length (.ms 1 σ.length 0 i (n + 1 - i) (n + 1 - i)) (.mx 1 r g i (n - i) (n - i)) (.ms 1 σ.length 0 (i + 1) (n - i) (n - i)) (.ms 1 N 0 0 1 1) x .zs xs xs1 c1 c2 σ (σ ++ [AObj.cells 0 c1]) (σ ++ [AObj.cells 0 c2])]
  have ho1 : objAt (σ ++ [.cells 0 c1]) σ.length 0 = some c1 := objAt_app (i := 0) rfl
  have hset1 : ∀ o, (σ ++ [AObj.cells 0 c1]).set σ.length o = σ ++ [o] := fun o => set_app σ [.cells 0 c1] 0 o
  have hset2 : ∀ o, (σ ++ [AObj.cells 0 c2]).set σ.length o = σ ++ [o] := fun o => set_app σ [.cells 0 c2] 0 o
  have ho2 : objAt (σ ++ [.cells 0 c2]) σ.length 0 = some c2 := objAt_app (i := 0) rfl
  have hwn : IntKind.i64.wrap ((n : Int) + (1 : Nat)) = (n + 1 : Nat) := wrap_i64 (by omega) (by omega)
  have hwd : IntKind.i64.wrap (((n + 1 : Nat) : Int) - i) = (n + 1 - i : Nat) := by rw [wrap_i64 (by omega) (by omega)]; omega
  have bi : bV (some (wI i)) 0 = i + 1 := by rw [wI_eq (by omega)]; rfl
  have bi0 : ∀ k, bV (some (I i)) k = i := fun _ => rfl
  have bnn : ∀ k, bV (none : Option AV) k = k := fun _ => rfl
  have pi : bP (some (wI i)) := by rw [wI_eq (by omega)]; exact Int.natCast_nonneg _
  have pi0 : bP (some (I i)) := Int.natCast_nonneg _
  have p0 : bP (none : Option AV) := trivial
  have hin : i + (n + 1 - i) = n + 1 := by omega
  have q1 : prt none (some (I i)) (.mx 1 r g 0 n n) = .mx 1 r g 0 i n := by simp only [prt, bnn, bi0, Nat.sub_zero, Nat.add_zero]
  have q2 : prt (some (I i)) none (.ms 1 σ.length 0 0 (n + 1) (n + 1)) = .ms 1 σ.length 0 i (n + 1 - i) (n + 1 - i) := by simp only [prt, bnn, bi0, Nat.zero_add]
  have q3 : prt (some (wI i)) none (.ms 1 σ.length 0 0 (n + 1) (n + 1)) = .ms 1 σ.length 0 (i + 1) (n - i) (n - i) := by
    simp only [prt, bnn, bi, Nat.zero_add]
    rw [show n + 1 - (i + 1) = n - i by omega]
  have q4 : prt (some (I i)) none (.mx 1 r g 0 n n) = .mx 1 r g i (n - i) (n - i) := by simp only [prt, bnn, bi0, Nat.zero_add]
  have hx1 : ([x].take 1) = [x] := rfl
  rw [Tree.sel_need ⟨pi0, p0, by rw [bi0]; exact Nat.le_of_lt hi, by rw [bnn]; omega, by omega, by rw [bi0]; omega⟩, selI, show ((((1 : Nat) : Int) == 0) = false) from rfl, cond_false, Tree.sel_need rfl, selI, beq_false_of_ne (by omega), cond_false, Tree.sel_need rfl, selI, hwn,
    decide_eq_true (show (((n + 1 : Nat) : Int) > n) by omega), cond_true, Tree.sel_need ⟨p0, pi0, by rw [bnn]; omega, by rw [bi0]; omega, by omega, by rw [bnn]; omega⟩, q1, hwd, hin, ← hc1, hx1, hset1, ← hc2, hset2, hdl, hc3, q2, q3, q4,
    Tree.sel_need ⟨rfl, rfl, rfl, cx0, by omega, by omega, by omega⟩, Tree.sel_need ⟨⟨pi0, p0, by rw [bi0, bnn]; omega, by rw [bnn]; omega, by omega, by rw [bi0]; omega⟩, by rw [ho1]; rfl⟩,
    Tree.sel_need ⟨rfl, rfl, rfl, ⟨_, .inl rfl⟩, ho1, ⟨_, cx1, by omega⟩, by omega, by simp [hx]⟩, Tree.sel_need ⟨⟨pi, p0, by rw [bi, bnn]; omega, by rw [bnn]; omega, by omega, by rw [bi]; omega⟩, by rw [ho2]; rfl⟩,
    Tree.sel_need ⟨pi0, p0, by rw [bi0]; exact Nat.le_of_lt hi, by rw [bnn]; omega, by omega, by rw [bi0]; omega⟩, Tree.sel_need ⟨rfl, rfl, rfl, ⟨_, .inl rfl⟩, ho2, ⟨_, cx2, by omega⟩, by omega, by rw [hdl]; exact hall⟩, selL]
/-- Where there is none. -/
theorem c75D {σ : Heap} {N r g i : Nat} {L : List AV} {x : AV} (hN : objAt σ N 0 = some [x]) (hx : x.one = true) (hr : objAt σ r g = some L) (hL : ∀ y ∈ L, y.one = true) (hi : i < L.length) (hl : L.length + 1 ≤ 16777216) :
    ACall Tryd.prog G0 75 [.mx 1 r g 0 L.length L.length, I i, .ms 1 N 0 0 1 1] σ (.ms 1 σ.length 0 0 (L.length + 1) (L.length + 1)) (σ ++ [.cells 0 (insL L i x)]) := by
  obtain ⟨hrl, hrg⟩ := objAt_lt hr
  generalize hn : L.length = n at *
  obtain ⟨c1, hc1⟩ : ∃ c1, c1 = L.take i ++ List.replicate (n + 1 - i) AV.zs := ⟨_, rfl⟩
  have hlc1 : c1.length = n + 1 := by rw [hc1]; simp; omega
  have htl : (L.take i).length = i := by simp; omega
  obtain ⟨c2, hc2⟩ : ∃ c2, c2 = setL c1 i [x] := ⟨_, rfl⟩
  have hlc2 : c2.length = n + 1 := by rw [hc2, setL_length (by simp; omega), hlc1]
  have hc3 : setL c2 (i + 1) (L.drop i) = insL L i x := by
    have e1 : c2 = (L.take i ++ [x]) ++ c1.drop (i + 1) := by
      rw [hc2]
      unfold setL
      rw [hc1, List.take_append_of_le_length (by omega), List.take_of_length_le (by omega)]
      simp
    have e0 : c2.drop (i + 1 + (L.drop i).length) = [] := List.drop_eq_nil_of_le (by rw [hlc2]; simp; omega)
    unfold setL insL
    rw [e0, e1, List.take_append_of_le_length (by simp; omega), List.take_of_length_le (by simp; omega)]
    simp
  have hN1 : objAt (σ ++ [.cells 0 c1]) N 0 = some [x] := objAt_push hN
  have hcl : ClOk Tryd.prog G0 (E75D (.ms 1 σ.length 0 i (n + 1 - i) (n + 1 - i)) (.mx 1 r g i (n - i) (n - i)) (.ms 1 σ.length 0 (i + 1) (n - i) (n - i)) (.ms 1 N 0 0 1 1) .zs r g n i n σ.length (L.take i) (L.drop i) c1 c2 x σ (σ ++ [.cells 0 c1]) (σ ++ [.cells 0 c2])) := by
    obtain ⟨ie, zx, z1, z2, z3, z4, z5, z6⟩ := el29.i
    exact .ofH rfl rfl ((hCap_ok Tryd.underlying29).or (hSlG_ok.or ((hZer_ok Tryd.underlying29 Tryd.underlying3 z1 z3 z4 zero22 rfl _ _ _ _ _ _ _).or ((HintOk.sel (hCopy_ok Tryd.underlying29 z1 z3 _ _ _ _ _ _ _ _ _ _)).or (HintOk.sel (hCopy_ok Tryd.underlying29 z1 z3 _ _ _ _ _ _ _ _ _ _)))))) fun f xs t v h => by cases h
  refine xCall_ok (n := 200) (tags := [true, true, true]) (s := true) names mixed hcl ?_
  have cx0 : contsX σ (.mx 1 r g 0 i n) = some (i, L.take i) := by
    unfold contsX conts
    simp only [hr]
    rw [if_pos ⟨trivial, by omega⟩, Nat.mul_one, List.drop_zero]
  have cx1 : contsX (σ ++ [.cells 0 c1]) (.ms 1 N 0 0 1 1) = some (1, [x]) := conts_v hN1
  have cx2 : contsX (σ ++ [.cells 0 c2]) (.mx 1 r g i (n - i) (n - i)) = some (n - i, L.drop i) := by
    unfold contsX conts
    simp only [objAt_push hr]
    rw [if_pos ⟨trivial, by omega⟩, Nat.mul_one, List.take_of_length_le (by simp; omega)]
  have hall : (L.drop i).all AV.one = true := List.all_eq_true.2 fun y hy => hL y (List.mem_of_mem_drop hy)
  have hdl : (L.drop i).take (n - i) = L.drop i := List.take_of_length_le (by simp; omega)
  exact sel75D hx hi hl hc1 hc2 hc3 hlc1 hlc2 cx0 cx1 cx2 hdl hall
end Go.Proofs.YtjljigccgaadaaaDoor.Am

namespace Go.Proofs.YtjljigccgaadaaaDoor.Am
open Go
set_option maxRecDepth 100000

def EAp (v x v' : AV) (h h1 : Heap) : Env := { hint := hApp 22 v (.sl 1 [[x]]) v' h h1 }
theorem clokAp (v x v' : AV) (h h1 : Heap) : ClOk Tryd.prog G0 (EAp v x v' h h1) := .ofH rfl rfl (hApp_ok _ _ _ _ _ _).ok fun f xs t v h => by cases h
/-- A list that grows, from the empty heap. -/
def gV (L : List Int) : AV := vA 0 (L.map I)
def gH (L : List Int) : Heap := oA (L.map I)
theorem append_g (L : List Int) (x : Int) (hl : L.length < 16777216) : aAppend Tryd.prog (gH L) 22 22 (gV L) (.sl 1 [[I x]]) = some (gV (L ++ [x]), gH (L ++ [x])) := by
  have h := append_vA el22 [] (L.map I) (I x) rfl (by simpa using hl)
  simp only [List.nil_append, List.length_nil] at h
  unfold gV gH
  rw [h, List.map_append]
  rfl
theorem lift_g {f : FuncId} {args : List AV} {L : List Int} (h : ACall Tryd.prog G0 f args [] (gV L) (gH L)) (ha : ∀ x ∈ args, Below 0 x) (σ : Heap) : ACall Tryd.prog G0 f args σ (flL L) σ := by
  refine ((h.lift (k := 2) (freeze_vA _ 1 fun x hx => ?_) gbelow0 ha σ)).conv fun _ _ _ h => h.fA_flL
  obtain ⟨n, _, rfl⟩ := List.mem_map.1 hx; rfl

/-! ### to -/
noncomputable def body60 : Code := (loopsOf (bodyOf Tryd.prog 60)).headD .skip
def st60 (n : Int) (v : AV) (k : Int) (h : Heap) : St := .of 15 h [(0, I n, true), (3, v, true), (4, I k, true)]
theorem run60 (n k x : Int) (v v' : AV) (h h1 : Heap) : xBody Tryd.prog G0 (EAp v (I x) v' h h1) 200 noLoops [0, 3, 4] body60 (st60 n v k h) =
    .ite (decide (k < n)) (.need (some [v, .sl 1 [[I k]]] = some [v, .sl 1 [[I x]]] ∧ #[22, 22] = #[22, 22] ∧ h = h ∧ aAppend Tryd.prog h 22 22 v (.sl 1 [[I x]]) = some (v', h1)) (.leaf (.normal, st60 n v' (IntKind.i64.wrap (k + 1)) h1))) (.leaf (.exit 0, st60 n v k h)) := by kernel_rfl
/-- The numbers below k. -/
def upTo (k : Nat) : List Int := (List.range k).map Int.ofNat
theorem upTo_succ (k : Nat) : upTo (k + 1) = upTo k ++ [(k : Int)] := by unfold upTo; rw [List.range_succ, List.map_append]; rfl
theorem upTo_len (k : Nat) : (upTo k).length = k := by simp [upTo]
theorem scan60 {n : Nat} (hn : n ≤ 16777216) : Scan body60 [0, 3, 4] n (fun k => st60 n (gV (upTo k)) k (gH (upTo k))) (fun k => st60 n (gV (upTo k)) k (gH (upTo k))) (st60 n (gV (upTo n)) n (gH (upTo n))) fun _ => false := by
  refine ⟨fun _ => rfl, fun _ => rfl, rfl, fun k hk => ?_⟩
  by_cases hlt : k < n
  · have hw : IntKind.i64.wrap ((k : Int) + 1) = ((k + 1 : Nat) : Int) := wrap_i64 (by omega) (by omega)
    have happ := append_g (upTo k) k (by rw [upTo_len]; omega)
    refine ⟨_, clokAp (gV (upTo k)) (I k) (gV (upTo (k + 1))) (gH (upTo k)) (gH (upTo (k + 1))), ?_⟩
    rw [← upTo_succ] at happ
    rw [run60, selI, decide_eq_true (by omega), decide_eq_true hlt, cond_true, cond_true, cond_false, Tree.sel_need ⟨rfl, rfl, rfl, happ⟩, hw]
    rfl
  · obtain rfl : k = n := by omega
    refine ⟨_, clokAp (gV (upTo k)) (I k) .zs (gH (upTo k)) [], ?_⟩
    rw [run60, selI, decide_eq_false (by omega), decide_eq_false hlt]
    rfl
theorem loops60 : loopsOf (bodyOf Tryd.prog 60) = [body60] := by kernel_rfl
theorem id60 : idOf body60 = 3 := by kernel_rfl
theorem runF60 (n m : Int) (v : AV) (h : Heap) : xenter Tryd.prog {} (xCode Tryd.prog G0 {} 200 (lpX 3 [0, 3, 4] (st60 n .zs 0 []) (st60 n v m h))) 60 [I n] [true] [] =
    .need ((st60 n .zs 0 []).vals = (st60 n .zs 0 []).vals) (.leaf (v, true, h)) := by kernel_rfl
theorem c60 {n : Nat} (hn : n ≤ 16777216) (σ : Heap) : ACall Tryd.prog G0 60 [I n] σ (flL (upTo n)) σ := by
  refine lift_g ?_ (fun x hx => by rw [List.mem_singleton.1 hx]; exact .int _ _) σ
  refine .find (s := true) (n := 200) (tags := [true]) clok0 ((scan60 hn).okX loops60 id60) ?_
  exact (congrArg Tree.sel (runF60 n n (gV (upTo n)) (gH (upTo n)))).trans (selR.trans rfl)

/-! ### without -/
noncomputable def body61 : Code := (loopsOf (bodyOf Tryd.prog 61)).headD .skip
def st61 (L : List Int) (y : Int) (v : AV) (k : Int) (h : Heap) : St := .of 23 h [(1, I y, true), (5, v, true), (8, flL L, true), (9, I L.length, true), (10, I k, true)]
theorem run61 (L : List Int) (y k x : Int) (v v' : AV) (h h1 : Heap) : xBody Tryd.prog G0 (EAp v (I x) v' h h1) 200 noLoops [1, 5, 8, 9, 10] body61 (st61 L y v k h) =
    .ite (decide (k < L.length)) (.need (0 ≤ k ∧ k < L.length) (.ite (L.getD k.toNat 0 != y) (.need (some [v, .sl 1 [[I (L.getD k.toNat 0)]]] = some [v, .sl 1 [[I x]]] ∧ #[22, 22] = #[22, 22] ∧ h = h ∧ aAppend Tryd.prog h 22 22 v (.sl 1 [[I x]]) = some (v', h1)) (.leaf (.normal, st61 L y v' (IntKind.i64.wrap (k + 1)) h1)))
      (.leaf (.normal, st61 L y v (IntKind.i64.wrap (k + 1)) h)))) (.leaf (.exit 0, st61 L y v k h)) := by kernel_rfl
/-- A list without a number. -/
def wo (L : List Int) (y : Int) : List Int := L.filter (· != y)
theorem scan61 {L : List Int} (hn : L.length ≤ 16777216) (y : Int) : Scan body61 [1, 5, 8, 9, 10] L.length (fun k => st61 L y (gV (wo (L.take k) y)) k (gH (wo (L.take k) y))) (fun k => st61 L y (gV (wo (L.take k) y)) k (gH (wo (L.take k) y))) (st61 L y (gV (wo L y)) L.length (gH (wo L y))) fun _ => false := by
  refine ⟨fun _ => rfl, fun _ => rfl, rfl, fun k hk => ?_⟩
  by_cases hlt : k < L.length
  · have hw : IntKind.i64.wrap ((k : Int) + 1) = ((k + 1 : Nat) : Int) := wrap_i64 (by omega) (by omega)
    have hg : L.getD (k : Int).toNat 0 = L[k] := getD_nat hlt
    have hlen : (wo (L.take k) y).length < 16777216 := by
      have : (wo (L.take k) y).length ≤ (L.take k).length := List.length_filter_le _ _
      rw [List.length_take] at this
      omega
    have happ := append_g (wo (L.take k) y) L[k] hlen
    have ht : wo (L.take (k + 1)) y = bif L[k] != y then wo (L.take k) y ++ [L[k]] else wo (L.take k) y := by
      unfold wo
      rw [List.take_succ_eq_append_getElem hlt, List.filter_append]
      cases h : (L[k] != y) <;> simp [h]
    refine ⟨_, clokAp (gV (wo (L.take k) y)) (I L[k]) (gV (wo (L.take k) y ++ [L[k]])) (gH (wo (L.take k) y)) (gH (wo (L.take k) y ++ [L[k]])), ?_⟩
    rw [run61, selI, decide_eq_true (by omega), decide_eq_true hlt, cond_true, cond_true, cond_false, Tree.sel_need ⟨by omega, by omega⟩, hg, selI, hw, ht]
    cases h : (L[k] != y) with
    | true => rw [cond_true, cond_true, Tree.sel_need ⟨rfl, rfl, rfl, happ⟩]; rfl
    | false => rfl
  · obtain rfl : k = L.length := by omega
    refine ⟨_, clokAp (gV (wo (L.take L.length) y)) (I 0) .zs (gH (wo (L.take L.length) y)) [], ?_⟩
    rw [run61, selI, decide_eq_false (by omega), decide_eq_false hlt, List.take_length]
    rfl
theorem loops61 : loopsOf (bodyOf Tryd.prog 61) = [body61] := by kernel_rfl
theorem id61 : idOf body61 = 3 := by kernel_rfl
theorem runF61 (L : List Int) (y m : Int) (v : AV) (h : Heap) : xenter Tryd.prog {} (xCode Tryd.prog G0 {} 200 (lpX 3 [1, 5, 8, 9, 10] (st61 L y .zs 0 []) (st61 L y v m h))) 61 [flL L, I y] [true, true] [] =
    .need ((st61 L y .zs 0 []).vals = (st61 L y .zs 0 []).vals) (.leaf (v, true, h)) := by kernel_rfl
theorem c61 {L : List Int} (hn : L.length ≤ 16777216) (y : Int) (σ : Heap) : ACall Tryd.prog G0 61 [flL L, I y] σ (flL (wo L y)) σ := by
  refine lift_g ?_ (fun x hx => ?_) σ
  · refine .find (s := true) (n := 200) (tags := [true, true]) clok0 ((scan61 hn y).okX loops61 id61) ?_
    exact (congrArg Tree.sel (runF61 L y L.length (gV (wo L y)) (gH (wo L y)))).trans (selR.trans rfl)
  · simp only [List.mem_cons, List.not_mem_nil, or_false] at hx
    rcases hx with rfl | rfl
    · exact below_flL _
    · exact .int _ _

/-! ### isSet -/
noncomputable def body63 : Code := (loopsOf (bodyOf Tryd.prog 63)).headD .skip
def st63 (n : Int) (L : List Int) (k : Int) (h : Heap) : St := .of 35 h [(0, I n, true), (1, flL L, true), (4, .bool false, false), (7, flL L, true), (8, I L.length, true), (9, I k, true)]
theorem run63 (n : Int) (L : List Int) (k : Int) (h : Heap) : xBody Tryd.prog G0 {} 200 noLoops [0, 1, 4, 7, 8, 9] body63 (st63 n L k h) =
    .ite (decide (k < L.length)) (.need (0 ≤ k ∧ k < L.length) (.ite (decide (L.getD k.toNat 0 < 0)) (.leaf (.ret, st63 n L k h)) (.ite (decide (L.getD k.toNat 0 ≥ n)) (.leaf (.ret, st63 n L k h)) (.ite (decide (k > 0))
      (.need (0 ≤ IntKind.i64.wrap (k - 1) ∧ IntKind.i64.wrap (k - 1) < L.length) (.ite (decide (L.getD k.toNat 0 ≤ L.getD (IntKind.i64.wrap (k - 1)).toNat 0)) (.leaf (.ret, st63 n L k h)) (.leaf (.normal, st63 n L (IntKind.i64.wrap (k + 1)) h))))
      (.leaf (.normal, st63 n L (IntKind.i64.wrap (k + 1)) h)))))) (.leaf (.exit 0, st63 n L k h)) := by kernel_rfl
/-- Where a list stops to be a set of numbers below n. -/
def bad63 (n : Int) (L : List Int) (k : Nat) : Bool := decide (L.getD k 0 < 0) || (decide (L.getD k 0 ≥ n) || (decide (0 < k) && decide (L.getD k 0 ≤ L.getD (k - 1) 0)))
theorem scan63 (n : Int) {L : List Int} (hl : L.length < 4611686018427387904) (h : Heap) : Scan body63 [0, 1, 4, 7, 8, 9] L.length (fun k => st63 n L k h) (fun k => st63 n L k h) (st63 n L L.length h) (bad63 n L) := by
  refine ⟨fun _ => rfl, fun _ => rfl, rfl, fun k hk => ⟨{}, clok0, ?_⟩⟩
  rw [run63, selI]
  by_cases hlt : k < L.length
  · have hw : IntKind.i64.wrap ((k : Int) + 1) = ((k + 1 : Nat) : Int) := wrap_i64 (by omega) (by omega)
    rw [decide_eq_true (by omega), decide_eq_true hlt, cond_true, cond_true, Tree.sel_need ⟨by omega, by omega⟩, Int.toNat_natCast, selI, selI, selI, hw]
    unfold bad63
    cases h1 : decide (L.getD k 0 < 0) with
    | true => rfl
    | false =>
      cases h2 : decide (L.getD k 0 ≥ n) with
      | true => rfl
      | false =>
        by_cases h0 : 0 < k
        · have hw2 : IntKind.i64.wrap ((k : Int) - 1) = ((k - 1 : Nat) : Int) := by rw [wrap_i64 (by omega) (by omega)]; omega
          rw [decide_eq_true (by omega), decide_eq_true h0, hw2, cond_false, cond_false, cond_true, Tree.sel_need ⟨by omega, by omega⟩, Int.toNat_natCast, selI]
          cases decide (L.getD k 0 ≤ L.getD (k - 1) 0) <;> rfl
        · rw [decide_eq_false (by omega), decide_eq_false h0]
          rfl
  · have : k = L.length := by omega
    subst this
    rw [decide_eq_false (by omega), decide_eq_false hlt]
    rfl
theorem loops63 : loopsOf (bodyOf Tryd.prog 63) = [body63] := by kernel_rfl
theorem id63 : idOf body63 = 2 := by kernel_rfl
theorem runF63 (n : Int) (L : List Int) (h : Heap) (t : Bool) (p q : Int) : xenter Tryd.prog {} (xCode Tryd.prog G0 {} 200 (lpS 2 [0, 1, 4, 7, 8, 9] (st63 n L 0 h) t (st63 n L p h) (st63 n L q h))) 63 [I n, flL L] [true, true] h =
    .need ((st63 n L 0 h).vals = (st63 n L 0 h).vals) (.ite t (.leaf (.bool false, false, h)) (.leaf (.bool true, false, h))) := by kernel_rfl
def isSetL (n : Int) (L : List Int) : Bool := !decide (fstStop (bad63 n L) L.length 0 < L.length)
theorem c63 (n : Int) {L : List Int} (hl : L.length < 4611686018427387904) (h : Heap) : ACall Tryd.prog G0 63 [I n, flL L] h (.bool (isSetL n L)) h := by
  have hs := (scan63 n hl h).ok loops63 id63
  refine .find (s := false) (n := 200) (tags := [true, true]) clok0 hs ?_
  refine (congrArg Tree.sel (runF63 n L h _ _ _)).trans (selR.trans ?_)
  rw [selI]
  unfold isSetL
  cases decide (fstStop (bad63 n L) L.length 0 < L.length) <;> rfl
/-! ### Before -/
def E34 (a b : List Int) : Env := { cl := clL [(34, [flL a, flL b], I (cmpL a b))] }
theorem run74 (a b : List Int) (h : Heap) : xCall Tryd.prog G0 (E34 a b) 200 74 [flL a, flL b] [true, true] h = .ite ((a.length : Int) != b.length) (.leaf (.bool (decide ((a.length : Int) < b.length)), true, h)) (.need ([flL a, flL b] = [flL a, flL b]) (.leaf (.bool (decide (cmpL a b < 0)), true, h))) := by kernel_rfl
theorem c74 {a b : List Int} (hl : a.length < 4611686018427387904) (h : Heap) : ACall Tryd.prog G0 74 [flL a, flL b] h (.bool (befB a b)) h := by
  have hcl : ClOk Tryd.prog G0 (E34 a b) := .ofH rfl rfl .none fun f xs t v h hs σ => clL_ok (fun p hp σ => by obtain rfl := List.mem_singleton.1 hp; exact c34 hl σ) f xs t v h hs σ
  refine xCall_ok (n := 200) (tags := [true, true]) (s := true) names mixed hcl ?_
  refine (congrArg Tree.sel (run74 a b h)).trans ?_
  rw [selI, selR]
  unfold befB
  by_cases h1 : a.length = b.length
  · rw [h1, bne_self_eq_false, cond_false, selL, decide_eq_false (Nat.lt_irrefl _), decide_eq_true (rfl : b.length = b.length), Bool.false_or, Bool.true_and]
  · have e : decide ((a.length : Int) < b.length) = decide (a.length < b.length) := decide_eq_decide.2 (by omega)
    rw [bne_iff_ne.2 (by omega), cond_true, selL, decide_eq_false h1, Bool.false_and, Bool.or_false, e]
end Go.Proofs.YtjljigccgaadaaaDoor.Am

namespace Go.Proofs.YtjljigccgaadaaaDoor.Am
open Go
set_option maxRecDepth 100000

/-! ### Loops that look for something, with loops within -/
structure ScanG (body : Code) (keep : List Nat) (N q : Nat) (S R : Nat → St) (X : St) (stop : Nat → Bool) : Prop where
  n0 : ∀ k, (S k).n = (S 0).n
  nR : ∀ k, (R k).n = (S 0).n
  nX : X.n = (S 0).n
  run : ∀ k, k ≤ N → ∃ E lp st', ClOk Tryd.prog G0 E ∧ LoopsOk Tryd.prog G0 (fun r => r = none) [] lp body ∧
    (xBody Tryd.prog G0 E 200 lp keep body (S k)).sel = some (bif decide (k < N) then bif stop k then .ret else .normal else .exit q, st') ∧ st'.vals = (bif decide (k < N) then bif stop k then R k else S (k + 1) else X).vals
section
variable {body : Code} {keep : List Nat} {N q : Nat} {S R : Nat → St} {X : St} {stop : Nat → Bool}
def scanE (N q p : Nat) (R : Nat → St) (X : St) : Exit × St := bif decide (p < N) then (.ret, R p) else (.exit q, X)
theorem vals_eq {s t : St} (h : s.vals = t.vals) : s.a = t.a ∧ s.h = t.h := by
  unfold St.vals at h
  exact ⟨(Prod.mk.inj h).1, (Prod.mk.inj (Prod.mk.inj h).2).2⟩
theorem ScanG.loop (hs : ScanG body keep N q S R X stop) : ∀ (d k : Nat), k + d = N →
    ALoopRun Tryd.prog G0 (fun r => r = none) body { tmps := (S k).a } (S k).h (scanE N q (fstStop stop d k) R X).1 { tmps := (scanE N q (fstStop stop d k) R X).2.a } (scanE N q (fstStop stop d k) R X).2.h
  | 0, k, hk => by
    obtain ⟨E, lp, st', h1, hl, h2, h3⟩ := hs.run k (by omega)
    have hc : decide (k < N) = false := decide_eq_false (by omega)
    rw [hc, cond_false] at h2 h3
    simp only [fstStop]
    unfold scanE
    rw [hc, cond_false]
    have key := (xBody_ok (m := []) names mixed h1 hl h2).1
    rw [(vals_eq h3).1, (vals_eq h3).2] at key
    exact .stop key nofun
  | d + 1, k, hk => by
    obtain ⟨E, lp, st', h1, hl, h2, h3⟩ := hs.run k (by omega)
    have hc : decide (k < N) = true := decide_eq_true (by omega)
    rw [hc, cond_true] at h2 h3
    have key := (xBody_ok (m := []) names mixed h1 hl h2).1
    rw [(vals_eq h3).1, (vals_eq h3).2] at key
    unfold fstStop
    cases hp : stop k with
    | true =>
      rw [hp] at key
      simp only [if_true]
      unfold scanE
      rw [hc, cond_true]
      exact .stop key nofun
    | false =>
      rw [hp] at key
      simp only [Bool.false_eq_true, if_false]
      exact .next key (hs.loop d (k + 1) (by omega))
/-- What is known of such a loop: it returns, or it goes to its end. -/
def lpG (i : Nat) (keep : List Nat) (S : St) (b : Bool) (r : St) (q : Nat) (x : St) : Loops := fun id => bif Nat.beq id i then some (keep, S, .ite b (.leaf (.ret, r)) (.leaf (.exit q, x))) else none
def lpY (i : Nat) (keep : List Nat) (S : St) (q : Nat) (x : St) : Loops := fun id => bif Nat.beq id i then some (keep, S, .leaf (.exit q, x)) else none
theorem ScanG.ok (hs : ScanG body keep N q S R X stop) {c : Code} {i : Nat} (hu : ∀ x ∈ loopsOf c, idOf x = i → x = body) :
    LoopsOk Tryd.prog G0 (fun r => r = none) [] (lpG i keep (S 0) (decide (fstStop stop N 0 < N)) (R (fstStop stop N 0)) q X) c := by
  refine .of_list _ fun x hm => ?_
  intro kp s0 t e st' h' hsel
  unfold lpG at h'
  cases hb : Nat.beq (idOf x) i with
  | false => rw [hb, cond_false] at h'; cases h'
  | true =>
    rw [hb, cond_true] at h'
    obtain rfl := hu x hm (Nat.eq_of_beq_eq_true hb)
    cases h'
    have key := hs.loop N 0 (by omega)
    rw [selI] at hsel
    unfold scanE at key
    revert key hsel
    cases decide (fstStop stop N 0 < N) with
    | true => intro hsel key; cases hsel; exact ⟨.loop key, hs.nR _⟩
    | false => intro hsel key; cases hsel; exact ⟨.loop key, hs.nX⟩
theorem ScanG.okX (hs : ScanG body keep N q S R X fun _ => false) {c : Code} {i : Nat} (hu : ∀ x ∈ loopsOf c, idOf x = i → x = body) :
    LoopsOk Tryd.prog G0 (fun r => r = none) [] (lpY i keep (S 0) q X) c := by
  refine .of_list _ fun x hm => ?_
  intro kp s0 t e st' h' hsel
  unfold lpY at h'
  cases hb : Nat.beq (idOf x) i with
  | false => rw [hb, cond_false] at h'; cases h'
  | true =>
    rw [hb, cond_true] at h'
    obtain rfl := hu x hm (Nat.eq_of_beq_eq_true hb)
    cases h'
    have key := hs.loop N 0 (by omega)
    rw [fstStop_none] at key
    unfold scanE at key
    rw [decide_eq_false (Nat.lt_irrefl N)] at key
    cases hsel
    exact ⟨.loop key, hs.nX⟩
end

/-! ### Lists in order -/
theorem pw_ext {α : Type} {R : α → α → Prop} (hi : ∀ a, ¬ R a a) (ha : ∀ a b, R a b → ¬ R b a) : ∀ {l m : List α}, l.Pairwise R → m.Pairwise R → (∀ x, x ∈ l ↔ x ∈ m) → l = m
  | [], [], _, _, _ => rfl
  | [], b :: m, _, _, h => absurd ((h b).2 (.head _)) (by simp)
  | a :: l, [], _, _, h => absurd ((h a).1 (.head _)) (by simp)
  | a :: l, b :: m, h1, h2, h => by
    obtain ⟨p1, p2⟩ := List.pairwise_cons.1 h1
    obtain ⟨q1, q2⟩ := List.pairwise_cons.1 h2
    have hab : a = b := by
      have h3 := (h a).1 (.head _)
      have h4 := (h b).2 (.head _)
      rcases List.mem_cons.1 h3 with h5 | h5
      · exact h5
      · rcases List.mem_cons.1 h4 with h6 | h6
        · exact h6.symm
        · exact absurd (p1 b h6) (ha b a (q1 a h5))
    subst hab
    congr 1
    refine pw_ext hi ha p2 q2 fun x => ⟨fun hx => ?_, fun hx => ?_⟩
    · rcases List.mem_cons.1 ((h x).1 (List.mem_cons_of_mem _ hx)) with rfl | h7
      · exact absurd (p1 x hx) (hi x)
      · exact h7
    · rcases List.mem_cons.1 ((h x).2 (List.mem_cons_of_mem _ hx)) with rfl | h7
      · exact absurd (q1 x hx) (hi x)
      · exact h7
theorem ints_pw (s : Nat) : (ints s).Pairwise (· < ·) := by
  unfold ints
  rw [List.pairwise_map]
  exact (bitsL_sorted s).imp fun h => Int.ofNat_lt.2 h
theorem mem_ints {s : Nat} {x : Int} : x ∈ ints s ↔ ∃ j : Nat, x = j ∧ j < 64 ∧ s.testBit j = true := by
  unfold ints
  rw [List.mem_map]
  constructor
  · rintro ⟨j, h1, rfl⟩
    exact ⟨j, rfl, mem_bitsL.1 h1⟩
  · rintro ⟨j, rfl, h⟩
    exact ⟨j, mem_bitsL.2 h, rfl⟩
theorem ints_ext {l : List Int} {s : Nat} (hp : l.Pairwise (· < ·)) (h : ∀ j : Int, j ∈ l ↔ ∃ i : Nat, j = i ∧ i < 64 ∧ s.testBit i = true) : l = ints s :=
  pw_ext (R := (· < ·)) (fun a => Int.lt_irrefl a) (fun a b h1 h2 => by omega) hp (ints_pw s) fun x => (h x).trans mem_ints.symm
theorem upTo_lt (n : Nat) : (upTo n).Pairwise (· < ·) := by
  unfold upTo
  rw [List.pairwise_map]
  exact List.pairwise_lt_range.imp fun h => Int.ofNat_lt.2 h
theorem mem_upTo {n : Nat} {x : Int} : x ∈ upTo n ↔ ∃ j : Nat, x = j ∧ j < n := by
  unfold upTo
  rw [List.mem_map]
  constructor
  · rintro ⟨j, h1, rfl⟩
    exact ⟨j, rfl, List.mem_range.1 h1⟩
  · rintro ⟨j, rfl, h⟩
    exact ⟨j, List.mem_range.2 h, rfl⟩
/-- All numbers below n. -/
theorem upTo_ints {n : Nat} (hn : n ≤ 64) : upTo n = ints (2 ^ n - 1) := ints_ext (upTo_lt n) fun x => by
  rw [mem_upTo]
  constructor
  · rintro ⟨j, rfl, h⟩
    exact ⟨j, rfl, by omega, by rw [Nat.testBit_two_pow_sub_one]; exact decide_eq_true h⟩
  · rintro ⟨j, rfl, _, h⟩
    rw [Nat.testBit_two_pow_sub_one] at h
    exact ⟨j, rfl, of_decide_eq_true h⟩
theorem mem_wo {L : List Int} {y x : Int} : x ∈ wo L y ↔ x ∈ L ∧ x ≠ y := by
  unfold wo
  rw [List.mem_filter]
  simp
theorem wo_ints {s : Nat} (hs : s < 2 ^ 64) {b : Nat} (hb : b < 64) : wo (ints s) b = ints (del s b) := ints_ext ((ints_pw s).filter _) fun x => by
  rw [mem_wo, mem_ints]
  constructor
  · rintro ⟨⟨j, rfl, h1, h2⟩, h3⟩
    refine ⟨j, rfl, h1, ?_⟩
    rw [del_bit hs hb, h2, Bool.true_and]
    exact decide_eq_true fun h => h3 (by rw [h])
  · rintro ⟨j, rfl, h1, h2⟩
    rw [del_bit hs hb, Bool.and_eq_true] at h2
    exact ⟨⟨j, rfl, h1, h2.1⟩, fun h => (of_decide_eq_true h2.2) (by omega)⟩
theorem mem_foldl_wo : ∀ {L R : List Int} {x : Int}, x ∈ L.foldl wo R ↔ x ∈ R ∧ x ∉ L
  | [], R, x => by simp
  | y :: L, R, x => by
    rw [List.foldl_cons, mem_foldl_wo, mem_wo, List.mem_cons]
    constructor
    · rintro ⟨⟨h1, h2⟩, h3⟩
      exact ⟨h1, fun h => h.elim h2 h3⟩
    · rintro ⟨h1, h2⟩
      exact ⟨⟨h1, fun h => h2 (.inl h)⟩, fun h => h2 (.inr h)⟩
theorem foldl_wo_pw : ∀ {L R : List Int}, R.Pairwise (· < ·) → (L.foldl wo R).Pairwise (· < ·)
  | [], R, h => h
  | y :: L, R, h => by rw [List.foldl_cons]; exact foldl_wo_pw (h.filter _)
theorem foldl_wo_len : ∀ {L R : List Int}, (L.foldl wo R).length ≤ R.length
  | [], R => Nat.le_refl _
  | y :: L, R => by rw [List.foldl_cons]; exact Nat.le_trans foldl_wo_len (List.length_filter_le _ _)
/-- The others. -/
theorem rest_ints {n s : Nat} (hn : n ≤ 64) (hs : s < 2 ^ 64) : (ints s).foldl wo (upTo n) = ints (comp n s) := ints_ext (foldl_wo_pw (upTo_lt n)) fun x => by
  rw [mem_foldl_wo, mem_upTo, mem_ints]
  constructor
  · rintro ⟨⟨j, rfl, h1⟩, h2⟩
    refine ⟨j, rfl, by omega, ?_⟩
    rw [comp_bit hs hn, decide_eq_true h1, Bool.true_and]
    cases h : s.testBit j with
    | false => rfl
    | true => exact absurd ⟨j, rfl, by omega, h⟩ h2
  · rintro ⟨j, rfl, h1, h2⟩
    rw [comp_bit hs hn, Bool.and_eq_true] at h2
    refine ⟨⟨j, rfl, of_decide_eq_true h2.1⟩, ?_⟩
    rintro ⟨i, hi, _, h3⟩
    obtain rfl : j = i := by omega
    rw [h3] at h2
    simp at h2

/-! ### What 'has' returns -/
/-- Known functions, no hints. -/
def EK (l : List (FuncId × List AV × AV)) : Env := { cl := clL l }
theorem clokK {l : List (FuncId × List AV × AV)} (hl : ∀ p ∈ l, ∀ σ, ACall Tryd.prog G0 p.1 p.2.1 σ p.2.2 σ) : ClOk Tryd.prog G0 (EK l) := .ofH rfl rfl .none fun f xs t v h hs σ => clL_ok hl f xs t v h hs σ
theorem c57s {T : Tab} (hb : T.bad.length < 4611686018427387904) {s : Nat} (hs : s < 2 ^ 64) (h : Heap) : ACall Tryd.prog G0 57 [T.av, flL (ints s)] h (.bool (T.ful s)) h := by
  have := c57 hb (L := bitsL s) (fun x hx => (mem_bitsL.1 hx).1) (by have := ints_len s; unfold ints at this; rw [List.length_map] at this; omega) h
  rw [orL_bitsL hs] at this
  exact this
noncomputable def body76r : Code := (loopsOf (bodyOf Tryd.prog 76)).headD .skip
noncomputable def body76h : Code := (loopsOf (bodyOf Tryd.prog 76)).getD 1 .skip
noncomputable def body76i : Code := (loopsOf (bodyOf Tryd.prog 76)).getD 2 .skip
theorem loops76 : loopsOf (bodyOf Tryd.prog 76) = [body76r, body76h, body76i] := by kernel_rfl
theorem loops76h : loopsOf body76h = [body76i] := by kernel_rfl
theorem id76r : idOf body76r = 7 := by kernel_rfl
theorem id76h : idOf body76h = 13 := by kernel_rfl
theorem id76i : idOf body76i = 17 := by kernel_rfl
def st76r (tc : List AV) (L R : List Int) (k : Int) (h : Heap) : St := .of 65 h [(7, .row tc 0, true), (11, flL R, true), (30, flL L, true), (31, I L.length, true), (32, I k, true)]
theorem run76r (tc : List AV) (L R W : List Int) (x k : Int) (h : Heap) : xBody Tryd.prog G0 (EK [(61, [flL R, I x], flL W)]) 200 noLoops [7, 11, 30, 31, 32] body76r (st76r tc L R k h) =
    .ite (decide (k < L.length)) (.need (0 ≤ k ∧ k < L.length) (.need ([flL R, I (L.getD k.toNat 0)] = [flL R, I x]) (.leaf (.normal, st76r tc L W (IntKind.i64.wrap (k + 1)) h)))) (.leaf (.exit 1, st76r tc L R k h)) := by kernel_rfl
theorem scan76r (tc : List AV) {L R : List Int} (hl : L.length < 4611686018427387904) (hR : R.length ≤ 16777216) (h : Heap) : ScanG body76r [7, 11, 30, 31, 32] L.length 1 (fun k => st76r tc L ((L.take k).foldl wo R) k h) (fun k => st76r tc L ((L.take k).foldl wo R) k h) (st76r tc L (L.foldl wo R) L.length h) fun _ => false := by
  refine ⟨fun _ => rfl, fun _ => rfl, rfl, fun k hk => ?_⟩
  by_cases hlt : k < L.length
  · have hw : IntKind.i64.wrap ((k : Int) + 1) = ((k + 1 : Nat) : Int) := wrap_i64 (by omega) (by omega)
    have hg : L.getD (k : Int).toNat 0 = L[k] := getD_nat hlt
    have hlen : ((L.take k).foldl wo R).length ≤ 16777216 := Nat.le_trans foldl_wo_len hR
    refine ⟨_, noLoops, _, clokK (l := [(61, [flL ((L.take k).foldl wo R), I L[k]], flL (wo ((L.take k).foldl wo R) L[k]))]) (fun p hp σ => by obtain rfl := List.mem_singleton.1 hp; exact c61 hlen _ σ), lpNo _, (congrArg Tree.sel (run76r _ _ _ _ _ _ _)).trans ?_, rfl⟩
    rw [selI, decide_eq_true (by omega), decide_eq_true hlt, cond_true, cond_true, cond_false, Tree.sel_need ⟨by omega, by omega⟩, hg, selR, selL, hw, List.take_succ_eq_append_getElem hlt, List.foldl_append]
    rfl
  · obtain rfl : k = L.length := by omega
    refine ⟨_, noLoops, _, clokK (l := [(61, [flL ((L.take L.length).foldl wo R), I 0], flL (wo ((L.take L.length).foldl wo R) 0))]) (fun p hp σ => by obtain rfl := List.mem_singleton.1 hp; exact c61 (Nat.le_trans foldl_wo_len hR) _ σ), lpNo _, (congrArg Tree.sel (run76r _ _ _ _ _ _ _)).trans ?_, rfl⟩
    rw [selI, decide_eq_false (by omega), decide_eq_false hlt, List.take_length]
    rfl
theorem run76F (n : Int) (L : List Int) (T : Tab) (sets : AV) (b : Bool) (h : Heap) : xCall Tryd.prog G0 (EK [(57, [T.av, flL L], .bool b)]) 200 76 [I n, flL L, T.av, sets, I 0] [true, true, true, true, false] h = .need ([T.av, flL L] = [T.av, flL L]) (.leaf (.bool (!b), true, h)) := by kernel_rfl
theorem c76F {T : Tab} (hb : T.bad.length < 4611686018427387904) {s : Nat} (hs : s < 2 ^ 64) (n : Int) (sets : AV) (h : Heap) : ACall Tryd.prog G0 76 [I n, flL (ints s), T.av, sets, I 0] h (.bool (!T.ful s)) h :=
  xCall_ok (n := 200) (tags := [true, true, true, true, false]) (s := true) names mixed (clokK (l := [(57, [T.av, flL (ints s)], .bool (T.ful s))]) fun p hp σ => by obtain rfl := List.mem_singleton.1 hp; exact c57s hb hs σ) ((congrArg Tree.sel (run76F n (ints s) T sets (T.ful s) h)).trans selR)
theorem run76R (n : Int) (L R W : List Int) (T : Tab) (sets : AV) (b : Bool) (h : Heap) (m : Int) : xenter Tryd.prog (EK [(60, [I n], flL R), (57, [T.av, flL W], .bool b)]) (xCode Tryd.prog G0 (EK [(60, [I n], flL R), (57, [T.av, flL W], .bool b)]) 200 (lpY 7 [7, 11, 30, 31, 32] (st76r T.cells L R 0 h) 1 (st76r T.cells L W m h))) 76 [I n, flL L, T.av, sets, I 1] [true, true, true, true, false] h =
    .need ([I n] = [I n]) (.need ((st76r T.cells L R 0 h).vals = (st76r T.cells L R 0 h).vals) (.need ([T.av, flL W] = [T.av, flL W]) (.leaf (.bool b, true, h)))) := by kernel_rfl
theorem c76R {T : Tab} (hb : T.bad.length < 4611686018427387904) {n s : Nat} (hn : n ≤ 64) (hs : s < 2 ^ 64) (sets : AV) (h : Heap) : ACall Tryd.prog G0 76 [I n, flL (ints s), T.av, sets, I 1] h (.bool (T.ful (comp n s : Nat))) h := by
  have hp := pow_le hn
  have hc : comp n s < 2 ^ 64 := Nat.lt_of_lt_of_le (comp_lt n s) hp
  have hl := ints_len s
  have hsc := (scan76r T.cells (L := ints s) (R := upTo n) (by omega) (by rw [upTo_len]; omega) h).okX (c := bodyOf Tryd.prog 76) (i := 7) (fun x hx hi => by
    rw [loops76] at hx
    simp only [List.mem_cons, List.not_mem_nil, or_false] at hx
    rcases hx with rfl | rfl | rfl
    · rfl
    · rw [id76h] at hi; cases hi
    · rw [id76i] at hi; cases hi)
  rw [rest_ints hn hs] at hsc
  refine .find (s := true) (n := 200) (tags := [true, true, true, true, false]) (clokK (l := [(60, [I n], flL (upTo n)), (57, [T.av, flL (ints (comp n s))], .bool (T.ful (comp n s : Nat)))]) fun p hp σ => ?_) hsc ?_
  · simp only [List.mem_cons, List.not_mem_nil, or_false] at hp
    rcases hp with rfl | rfl
    · exact c60 (by omega) σ
    · exact c57s hb hc σ
  · exact (congrArg Tree.sel (run76R n (ints s) (upTo n) (ints (comp n s)) T sets _ h (ints s).length)).trans (selR.trans (selR.trans (selR.trans rfl)))
end Go.Proofs.YtjljigccgaadaaaDoor.Am

namespace Go.Proofs.YtjljigccgaadaaaDoor.Am
open Go
set_option maxRecDepth 100000

def st76i (s : List Int) (SL : List (List Int)) (o : Int) (L : List Int) (b tg : Bool) (k : Int) (h : Heap) : St := .of 65 h [(1, flL s, true), (10, .bool false, false), (16, .bool b, tg), (43, flLL SL, true), (44, I SL.length, true), (45, I o, true), (49, flL L, true), (50, I L.length, true), (51, I k, true)]
theorem run76i (s : List Int) (SL : List (List Int)) (o : Int) (L : List Int) (b c : Bool) (x k : Int) (h : Heap) : xBody Tryd.prog G0 (EK [(55, [flL s, I x], .bool c)]) 200 noLoops [1, 10, 16, 43, 44, 45, 49, 50, 51] body76i (st76i s SL o L b true k h) =
    .ite (decide (k < L.length)) (.need (0 ≤ k ∧ k < L.length) (.ite b (.leaf (.normal, st76i s SL o L true false (IntKind.i64.wrap (k + 1)) h)) (.need ([flL s, I (L.getD k.toNat 0)] = [flL s, I x]) (.leaf (.normal, st76i s SL o L c true (IntKind.i64.wrap (k + 1)) h))))) (.leaf (.exit 5, st76i s SL o L b true k h)) := by kernel_rfl
theorem vals76i (s : List Int) (SL : List (List Int)) (o : Int) (L : List Int) (b t : Bool) (k : Int) (h : Heap) : (st76i s SL o L b t k h).vals = (st76i s SL o L b true k h).vals := by kernel_rfl
theorem scan76i {s : List Int} (hs : s.length < 4611686018427387904) (SL : List (List Int)) (o : Int) {L : List Int} (hl : L.length < 4611686018427387904) (h : Heap) : ScanG body76i [1, 10, 16, 43, 44, 45, 49, 50, 51] L.length 5 (fun k => st76i s SL o L ((L.take k).any s.contains) true k h) (fun k => st76i s SL o L false true k h) (st76i s SL o L (L.any s.contains) true L.length h) fun _ => false := by
  refine ⟨fun _ => rfl, fun _ => rfl, rfl, fun k hk => ?_⟩
  have hcl : ∀ x, ClOk Tryd.prog G0 (EK [(55, [flL s, I x], .bool (s.contains x))]) := fun x => clokK fun p hp σ => by obtain rfl := List.mem_singleton.1 hp; exact c55 hs x σ
  by_cases hlt : k < L.length
  · have hw : IntKind.i64.wrap ((k : Int) + 1) = ((k + 1 : Nat) : Int) := wrap_i64 (by omega) (by omega)
    have hg : L.getD (k : Int).toNat 0 = L[k] := getD_nat hlt
    have ht : (L.take (k + 1)).any s.contains = ((L.take k).any s.contains || s.contains L[k]) := by
      rw [List.take_succ_eq_append_getElem hlt, List.any_append]
      simp
    have key := (congrArg Tree.sel (run76i s SL o L ((L.take k).any s.contains) (s.contains L[k]) L[k] k h))
    rw [selI, decide_eq_true (by omega), cond_true, Tree.sel_need ⟨by omega, by omega⟩, hg, selI, hw] at key
    rw [decide_eq_true hlt, cond_true, cond_true, cond_false, cond_false, ht]
    cases hb : (L.take k).any s.contains with
    | true =>
      rw [hb, cond_true, selL] at key
      exact ⟨_, noLoops, _, hcl L[k], lpNo _, key, by rw [Bool.true_or]; exact vals76i _ _ _ _ _ _ _ _⟩
    | false =>
      rw [hb, cond_false, selR, selL] at key
      exact ⟨_, noLoops, _, hcl L[k], lpNo _, key, by rw [Bool.false_or]⟩
  · obtain rfl : k = L.length := by omega
    have key := (congrArg Tree.sel (run76i s SL o L ((L.take L.length).any s.contains) (s.contains 0) 0 L.length h))
    rw [selI, decide_eq_false (by omega), cond_false, selL, List.take_length] at key
    rw [decide_eq_false hlt, List.take_length]
    exact ⟨_, noLoops, _, hcl 0, lpNo _, key, rfl⟩
def st76h (s : List Int) (SL : List (List Int)) (k : Int) (h : Heap) : St := .of 65 h [(1, flL s, true), (10, .bool false, false), (43, flLL SL, true), (44, I SL.length, true), (45, I k, true)]
theorem run76h (s : List Int) (SL : List (List Int)) (b : Bool) (k : Int) (h : Heap) (m : Int) : xBody Tryd.prog G0 {} 200 (lpY 17 [1, 10, 16, 43, 44, 45, 49, 50, 51] (st76i s SL k (SL.getD k.toNat []) false true 0 h) 5 (st76i s SL k (SL.getD k.toNat []) b true m h)) [1, 10, 43, 44, 45] body76h (st76h s SL k h) =
    .ite (decide (k < SL.length)) (.need (0 ≤ k ∧ k < SL.length) (.need ((st76i s SL k (SL.getD k.toNat []) false true 0 h).vals = (st76i s SL k (SL.getD k.toNat []) false true 0 h).vals) (.ite (!b) (.leaf (.ret, st76h s SL k h)) (.leaf (.normal, st76h s SL (IntKind.i64.wrap (k + 1)) h))))) (.leaf (.exit 3, st76h s SL k h)) := by kernel_rfl
/-- The empty table. -/
def tab0 : AV := .agg [.bool false, U 0, .zs]
/-- Is a list hit? -/
def hitB (s l : List Int) : Bool := l.any s.contains
theorem scan76h {s : List Int} (hs : s.length < 4611686018427387904) {SL : List (List Int)} (hl : shortLL SL) (h : Heap) : ScanG body76h [1, 10, 43, 44, 45] SL.length 3 (fun k => st76h s SL k h) (fun k => st76h s SL k h) (st76h s SL SL.length h) fun k => !hitB s (SL.getD k []) := by
  refine ⟨fun _ => rfl, fun _ => rfl, rfl, fun k hk => ?_⟩
  have hsh : ∀ k, (SL.getD k []).length < 4611686018427387904 := fun k => by
    rw [List.getD_eq_getElem?_getD]
    cases hk : SL[k]? with
    | none => simp
    | some y => exact hl.2 y (List.mem_of_getElem? hk)
  have hlp := (scan76i hs SL k (hsh k) h).okX (c := body76h) (i := 17) (fun x hx _ => by rw [loops76h] at hx; exact List.mem_singleton.1 hx)
  have e0 : ((SL.getD k []).take 0).any s.contains = false := rfl
  rw [e0] at hlp
  have key := congrArg Tree.sel (run76h s SL (hitB s (SL.getD k [])) k h (SL.getD k []).length)
  rw [selI, Int.toNat_natCast] at key
  by_cases hlt : k < SL.length
  · have hw : IntKind.i64.wrap ((k : Int) + 1) = ((k + 1 : Nat) : Int) := wrap_i64 (by have := hl.1; omega) (by have := hl.1; omega)
    rw [decide_eq_true (by omega), cond_true, Tree.sel_need ⟨by omega, by omega⟩, selR, selI, hw] at key
    rw [decide_eq_true hlt, cond_true, cond_true]
    cases hb : hitB s (SL.getD k []) with
    | true =>
      rw [hb] at key
      refine ⟨_, _, _, clok0, hlp, ?_, rfl⟩
      have e : (SL.getD k []).any s.contains = true := hb
      rw [e]
      exact key
    | false =>
      rw [hb] at key
      refine ⟨_, _, _, clok0, hlp, ?_, rfl⟩
      have e : (SL.getD k []).any s.contains = false := hb
      rw [e]
      exact key
  · obtain rfl : k = SL.length := by omega
    rw [decide_eq_false (by omega)] at key
    rw [decide_eq_false hlt]
    exact ⟨_, _, _, clok0, hlp, key, rfl⟩
theorem run76H (n : Int) (s : List Int) (SL : List (List Int)) (h : Heap) (t : Bool) (p q : Int) : xenter Tryd.prog {} (xCode Tryd.prog G0 {} 200 (lpG 13 [1, 10, 43, 44, 45] (st76h s SL 0 h) t (st76h s SL p h) 3 (st76h s SL q h))) 76 [I n, flL s, tab0, flLL SL, I 2] [true, true, true, true, false] h =
    .need ((st76h s SL 0 h).vals = (st76h s SL 0 h).vals) (.ite t (.leaf (.bool false, false, h)) (.leaf (.bool true, false, h))) := by kernel_rfl
theorem c76H {s : List Int} (hs : s.length < 4611686018427387904) {SL : List (List Int)} (hl : shortLL SL) (n : Int) (h : Heap) : ACall Tryd.prog G0 76 [I n, flL s, tab0, flLL SL, I 2] h (.bool (SL.all (hitB s))) h := by
  have hsc := (scan76h hs hl h).ok (c := bodyOf Tryd.prog 76) (i := 13) (fun x hx hi => by
    rw [loops76] at hx
    simp only [List.mem_cons, List.not_mem_nil, or_false] at hx
    rcases hx with rfl | rfl | rfl
    · rw [id76r] at hi; cases hi
    · rfl
    · rw [id76i] at hi; cases hi)
  refine .find (s := false) (n := 200) (tags := [true, true, true, true, false]) clok0 hsc ?_
  refine (congrArg Tree.sel (run76H n s SL h _ _ _)).trans (selR.trans ?_)
  rw [selI]
  have e : SL.all (hitB s) = !decide (fstStop (fun k => !hitB s (SL.getD k [])) SL.length 0 < SL.length) := by
    rw [Bool.eq_iff_iff]
    simp only [List.all_eq_true, Bool.not_eq_true', decide_eq_false_iff_not]
    rw [fstStop_iff]
    constructor
    · rintro h1 ⟨k, h2, h3⟩
      have : SL.getD k [] = SL[k] := by simp [List.getD_eq_getElem?_getD, h2]
      rw [this, h1 _ (List.getElem_mem h2)] at h3
      cases h3
    · intro h1 x hx
      obtain ⟨k, hk, rfl⟩ := List.mem_iff_getElem.1 hx
      apply Classical.byContradiction
      intro h2
      refine h1 ⟨k, hk, ?_⟩
      have : SL.getD k [] = SL[k] := by simp [List.getD_eq_getElem?_getD, hk]
      rw [this]
      simpa using h2
  rw [e]
  cases decide (fstStop (fun k => !hitB s (SL.getD k [])) SL.length 0 < SL.length) <;> rfl
end Go.Proofs.YtjljigccgaadaaaDoor.Am

namespace Go.Proofs.YtjljigccgaadaaaDoor.Am
open Go
set_option maxRecDepth 100000

/-! ### irreducible -/
noncomputable def body64 : Code := (loopsOf (bodyOf Tryd.prog 64)).headD .skip
def tabA (a : Bool) (b : Int) (x : AV) : List AV := [.bool a, U b, x]
def st64 (n : Int) (tc : List AV) (sets : AV) (pr : Int) (L : List Int) (k : Int) (h : Heap) : St := .of 35 h [(0, I n, true), (1, flL L, true), (3, sets, true), (4, I pr, true), (7, .row tc 0, true), (10, .bool false, false), (20, flL L, true), (21, I L.length, true), (22, I k, true)]
def k64 (n : Int) (tc : List AV) (sets : AV) (pr : Int) (L W : List Int) (x : Int) (b : Bool) : List (FuncId × List AV × AV) := [(61, [flL L, I x], flL W), (76, [I n, flL W, .agg tc, sets, I pr], .bool b)]
theorem run64 (n : Int) (fa : Bool) (fb : Int) (fx : AV) (sets : AV) (pr : Int) (L W : List Int) (x : Int) (b : Bool) (k : Int) (h : Heap) : xBody Tryd.prog G0 (EK (k64 n (tabA fa fb fx) sets pr L W x b)) 200 noLoops [0, 1, 3, 4, 7, 10, 20, 21, 22] body64 (st64 n (tabA fa fb fx) sets pr L k h) =
    .ite (decide (k < L.length)) (.need (0 ≤ k ∧ k < L.length) (.need ([flL L, I (L.getD k.toNat 0)] = [flL L, I x]) (.need ([I n, flL W, .agg (tabA fa fb fx), sets, I pr] = [I n, flL W, .agg (tabA fa fb fx), sets, I pr]) (.ite b (.leaf (.ret, st64 n (tabA fa fb fx) sets pr L k h)) (.leaf (.normal, st64 n (tabA fa fb fx) sets pr L (IntKind.i64.wrap (k + 1)) h))))))
      (.leaf (.exit 0, st64 n (tabA fa fb fx) sets pr L k h)) := by kernel_rfl
/-- A property of sets that 'has' tells. -/
def HasR (n : Int) (tc : List AV) (sets : AV) (pr : Int) (p : Nat → Bool) (m : Nat) : Prop := ∀ s, s < m → s < 2 ^ 64 → ∀ h, ACall Tryd.prog G0 76 [I n, flL (ints s), .agg tc, sets, I pr] h (.bool (p s)) h
theorem scan64 {n : Int} {fa : Bool} {fb : Int} {fx sets : AV} {pr : Int} {p : Nat → Bool} {m s : Nat} (hp : HasR n (tabA fa fb fx) sets pr p m) (hs : s < m) (hs64 : s < 2 ^ 64) (h : Heap) :
    ScanG body64 [0, 1, 3, 4, 7, 10, 20, 21, 22] (ints s).length 0 (fun k => st64 n (tabA fa fb fx) sets pr (ints s) k h) (fun k => st64 n (tabA fa fb fx) sets pr (ints s) k h) (st64 n (tabA fa fb fx) sets pr (ints s) (ints s).length h) fun k => p (del s ((bitsL s).getD k 0)) := by
  refine ⟨fun _ => rfl, fun _ => rfl, rfl, fun k hk => ?_⟩
  have hlen := ints_len s
  have hb64 : (bitsL s).getD k 0 < 64 := by
    rw [List.getD_eq_getElem?_getD]
    cases hk : (bitsL s)[k]? with
    | none => simp
    | some y => exact (mem_bitsL.1 (List.mem_of_getElem? hk)).1
  have hcl : ClOk Tryd.prog G0 (EK (k64 n (tabA fa fb fx) sets pr (ints s) (ints (del s ((bitsL s).getD k 0))) ((bitsL s).getD k 0 : Nat) (p (del s ((bitsL s).getD k 0))))) := clokK fun q hq σ => by
    unfold k64 at hq
    simp only [List.mem_cons, List.not_mem_nil, or_false] at hq
    rcases hq with rfl | rfl
    · have := c61 (L := ints s) (by omega) ((bitsL s).getD k 0 : Nat) σ
      rw [wo_ints hs64 hb64] at this
      exact this
    · exact hp _ (Nat.lt_of_le_of_lt (del_le _ _) hs) (del_lt hs64) σ
  have key := congrArg Tree.sel (run64 n fa fb fx sets pr (ints s) (ints (del s ((bitsL s).getD k 0))) ((bitsL s).getD k 0 : Nat) (p (del s ((bitsL s).getD k 0))) k h)
  rw [selI, Int.toNat_natCast] at key
  by_cases hlt : k < (ints s).length
  · have hw : IntKind.i64.wrap ((k : Int) + 1) = ((k + 1 : Nat) : Int) := wrap_i64 (by omega) (by omega)
    have hg : (ints s).getD k 0 = ((bitsL s).getD k 0 : Nat) := by
      have h2 : k < (bitsL s).length := by unfold ints at hlt; rwa [List.length_map] at hlt
      simp [ints, List.getD_eq_getElem?_getD, h2]
    rw [decide_eq_true (by omega), cond_true, Tree.sel_need ⟨by omega, by omega⟩, hg, selR, selR, selI, hw] at key
    rw [decide_eq_true hlt, cond_true, cond_true]
    cases hb : p (del s ((bitsL s).getD k 0)) with
    | true =>
      rw [hb] at key hcl
      exact ⟨_, noLoops, _, hcl, lpNo _, key, rfl⟩
    | false =>
      rw [hb] at key hcl
      exact ⟨_, noLoops, _, hcl, lpNo _, key, rfl⟩
  · obtain rfl : k = (ints s).length := by omega
    rw [decide_eq_false (by omega)] at key
    rw [decide_eq_false hlt]
    exact ⟨_, noLoops, _, hcl, lpNo _, key, rfl⟩
theorem loops64 : loopsOf (bodyOf Tryd.prog 64) = [body64] := by kernel_rfl
noncomputable def t64 (n : Int) (tc : List AV) (sets : AV) (pr : Int) (L : List Int) (b t : Bool) (p q : Int) (h : Heap) : Tree (AV × Bool × Heap) := xenter Tryd.prog (EK [(76, [I n, flL L, .agg tc, sets, I pr], .bool b)]) (xCode Tryd.prog G0 (EK [(76, [I n, flL L, .agg tc, sets, I pr], .bool b)]) 200 (lpG 4 [0, 1, 3, 4, 7, 10, 20, 21, 22] (st64 n tc sets pr L 0 h) t (st64 n tc sets pr L p h) 0 (st64 n tc sets pr L q h))) 64 [I n, flL L, .agg tc, sets, I pr] [true, true, true, true, true] h
def t64r (n : Int) (tc : List AV) (sets : AV) (pr : Int) (L : List Int) (b t : Bool) (h : Heap) : Tree (AV × Bool × Heap) := .need ([I n, flL L, .agg tc, sets, I pr] = [I n, flL L, .agg tc, sets, I pr]) (.ite (!b) (.leaf (.bool false, false, h)) (.need ((st64 n tc sets pr L 0 h).vals = (st64 n tc sets pr L 0 h).vals) (.ite t (.leaf (.bool false, false, h)) (.leaf (.bool true, false, h)))))
theorem runF64z (n : Int) (fa : Bool) (fb : Int) (sets : AV) (pr : Int) (L : List Int) (b t : Bool) (p q : Int) (h : Heap) : t64 n (tabA fa fb .zs) sets pr L b t p q h = t64r n (tabA fa fb .zs) sets pr L b t h := by kernel_rfl
theorem runF64u (n : Int) (fa : Bool) (fb : Int) (B : List Int) (sets : AV) (pr : Int) (L : List Int) (b t : Bool) (p q : Int) (h : Heap) : t64 n (tabA fa fb (flU B)) sets pr L b t p q h = t64r n (tabA fa fb (flU B)) sets pr L b t h := by kernel_rfl
/-- WHAT 'irreducible' RETURNS. -/
theorem c64 {n : Int} {fa : Bool} {fb : Int} {fx sets : AV} {pr : Int} {p : Nat → Bool} {m s : Nat} (hx : fx = .zs ∨ ∃ B, fx = flU B) (hp : HasR n (tabA fa fb fx) sets pr p m) (hs : s < m) (hs64 : s < 2 ^ 64) (h : Heap) :
    ACall Tryd.prog G0 64 [I n, flL (ints s), .agg (tabA fa fb fx), sets, I pr] h (.bool (irr p s)) h := by
  have hsc := (scan64 hp hs hs64 h).ok (c := bodyOf Tryd.prog 64) (i := 4) (fun x hx _ => by rw [loops64] at hx; exact List.mem_singleton.1 hx)
  have hrun : ∀ b t q r, t64 n (tabA fa fb fx) sets pr (ints s) b t q r h = t64r n (tabA fa fb fx) sets pr (ints s) b t h := fun b t q r => by
    rcases hx with rfl | ⟨B, rfl⟩
    · exact runF64z _ _ _ _ _ _ _ _ _ _ _
    · exact runF64u _ _ _ _ _ _ _ _ _ _ _ _
  refine .find (s := false) (n := 200) (tags := [true, true, true, true, true]) (clokK (l := [(76, [I n, flL (ints s), .agg (tabA fa fb fx), sets, I pr], .bool (p s))]) fun q hq σ => by obtain rfl := List.mem_singleton.1 hq; exact hp s hs hs64 σ) hsc ?_
  refine (congrArg Tree.sel (hrun (p s) _ _ _)).trans ?_
  unfold t64r
  rw [selR, selI, selR, selI]
  have e : (bitsL s).all (fun k => !p (del s k)) = !decide (fstStop (fun k => p (del s ((bitsL s).getD k 0))) (ints s).length 0 < (ints s).length) := by
    have hlb : (ints s).length = (bitsL s).length := by simp [ints]
    rw [Bool.eq_iff_iff]
    simp only [List.all_eq_true, Bool.not_eq_true', decide_eq_false_iff_not]
    rw [fstStop_iff, hlb]
    constructor
    · rintro h1 ⟨k, h2, h3⟩
      have : (bitsL s).getD k 0 = (bitsL s)[k] := by simp [List.getD_eq_getElem?_getD, h2]
      rw [this] at h3
      have := h1 _ (List.getElem_mem h2)
      rw [h3] at this
      cases this
    · intro h1 x hx
      obtain ⟨k, hk, rfl⟩ := List.mem_iff_getElem.1 hx
      apply Classical.byContradiction
      intro h2
      refine h1 ⟨k, hk, ?_⟩
      have : (bitsL s).getD k 0 = (bitsL s)[k] := by simp [List.getD_eq_getElem?_getD, hk]
      rw [this]
      simpa using h2
  unfold irr
  rw [e]
  cases p s <;> cases decide (fstStop (fun k => p (del s ((bitsL s).getD k 0))) (ints s).length 0 < (ints s).length) <;> rfl
end Go.Proofs.YtjljigccgaadaaaDoor.Am

namespace Go.Proofs.YtjljigccgaadaaaDoor.Am
open Go
set_option maxRecDepth 100000

/-! ### Core -/
noncomputable def body36 : Code := (loopsOf (bodyOf Tryd.prog 36)).headD .skip
def st36 (T : Tab) (L : List Int) (k : Int) (h : Heap) : St := .of 35 h [(3, .row T.cells 0, true), (6, flL L, true), (7, I k, true)]
def k36 (T : Tab) (L W : List Int) (x : Int) (b : Bool) : List (FuncId × List AV × AV) := [(61, [flL L, I x], flL W), (57, [T.av, flL W], .bool b)]
theorem run36 (T : Tab) (L W : List Int) (x : Int) (b : Bool) (k : Int) (h : Heap) : xBody Tryd.prog G0 (EK (k36 T L W x b)) 200 noLoops [3, 6, 7] body36 (st36 T L k h) =
    .ite (decide (k ≥ 0)) (.need ([flL L, I k] = [flL L, I x]) (.need ([T.av, flL W] = [T.av, flL W]) (.ite (!b) (.leaf (.normal, st36 T W (IntKind.i64.wrap (k - 1)) h)) (.leaf (.normal, st36 T L (IntKind.i64.wrap (k - 1)) h))))) (.leaf (.exit 0, st36 T L k h)) := by kernel_rfl
theorem clok36 {T : Tab} (hb : T.bad.length < 4611686018427387904) {s x : Nat} (hs : s < 2 ^ 64) (hx : x < 64) : ClOk Tryd.prog G0 (EK (k36 T (ints s) (ints (del s x)) x (T.ful (del s x : Nat)))) := clokK fun p hp σ => by
  have hlen := ints_len s
  unfold k36 at hp
  simp only [List.mem_cons, List.not_mem_nil, or_false] at hp
  rcases hp with rfl | rfl
  · have := c61 (L := ints s) (by omega) x σ
    rw [wo_ints hs hx] at this
    exact this
  · exact c57s hb (del_lt hs) σ
/-- What a table does not fulfil. -/
def badT (T : Tab) (s : Nat) : Bool := !T.ful s
theorem loop36 {T : Tab} (hb : T.bad.length < 4611686018427387904) (h : Heap) : ∀ (x s : Nat), x ≤ 64 → s < 2 ^ 64 →
    ALoopRun Tryd.prog G0 (fun r => r = none) body36 { tmps := (st36 T (ints s) ((x : Int) - 1) h).a } h (.exit 0) { tmps := (st36 T (ints (coreP (badT T) x s)) (-1) h).a } h
  | 0, s, hx, hs => by
    refine .stop (xBody_ok (m := []) names mixed (clok36 hb hs (show 0 < 64 by omega)) (lpNo body36) (n := 200) (keep := [3, 6, 7]) (st := st36 T (ints s) (((0 : Nat) : Int) - 1) h) (st' := st36 T (ints s) (-1) h) ?_).1 nofun
    refine (congrArg Tree.sel (run36 T _ _ _ _ _ h)).trans ?_
    rw [selI, decide_eq_false (by omega)]
    rfl
  | x + 1, s, hx, hs => by
    have hd := del_lt (k := x) hs
    have ih := loop36 hb h x (if badT T (del s x) then del s x else s) (by omega) (by split; exact hd; exact hs)
    have hw : IntKind.i64.wrap ((x : Int) - 1) = (x : Int) - 1 := wrap_i64 (by omega) (by omega)
    have e1 : ((x + 1 : Nat) : Int) - 1 = x := by omega
    rw [e1]
    refine .next (xBody_ok (m := []) names mixed (clok36 hb hs (show x < 64 by omega)) (lpNo body36) (n := 200) (keep := [3, 6, 7]) (st := st36 T (ints s) x h) (st' := st36 T (ints (if badT T (del s x) then del s x else s)) ((x : Int) - 1) h) ?_).1 ih
    refine (congrArg Tree.sel (run36 T _ _ _ _ _ h)).trans ?_
    rw [selI, decide_eq_true (by omega), cond_true, selR, selR, selI, hw]
    have e2 : badT T (del s x) = !T.ful (del s x : Nat) := rfl
    rw [e2]
    cases T.ful (del s x : Nat) <;> rfl
theorem loops36 : loopsOf (bodyOf Tryd.prog 36) = [body36] := by kernel_rfl
theorem id36 : idOf body36 = 7 := by kernel_rfl
noncomputable def t36 (T : Tab) (n : Int) (L W : List Int) (b : Bool) (m : Int) (h : Heap) : Tree (AV × Bool × Heap) := xenter Tryd.prog (EK [(60, [I n], flL L), (57, [T.av, flL L], .bool b)]) (xCode Tryd.prog G0 (EK [(60, [I n], flL L), (57, [T.av, flL L], .bool b)]) 200 (lpY 7 [3, 6, 7] (st36 T L (IntKind.i64.wrap (n - 1)) h) 0 (st36 T W m h))) 36 [I n, T.av] [true, true] h
theorem runF36 (T : Tab) (n : Int) (L W : List Int) (b : Bool) (m : Int) (h : Heap) : t36 T n L W b m h =
    .ite (decide (n < 0)) (.leaf (.tup [.zs, I 2], false, h)) (.ite (decide (n > 64)) (.leaf (.tup [.zs, I 2], false, h)) (.need ([I n] = [I n]) (.need ([T.av, flL L] = [T.av, flL L]) (.ite b (.leaf (.tup [.zs, I 7], false, h))
      (.need ((st36 T L (IntKind.i64.wrap (n - 1)) h).vals = (st36 T L (IntKind.i64.wrap (n - 1)) h).vals) (.leaf (.tup [flL W, I 0], true, h))))))) := by kernel_rfl
theorem run36e (T : Tab) (n : Int) (h : Heap) : xCall Tryd.prog G0 {} 200 36 [I n, T.av] [true, true] h = .ite (decide (n < 0)) (.leaf (.tup [.zs, I 2], false, h)) (.ite (decide (n > 64)) (.leaf (.tup [.zs, I 2], false, h)) (br (xCall Tryd.prog G0 {} 200 36 [I n, T.av] [true, true] h) [false, false])) := by kernel_rfl
theorem c36e {n : Int} (hn : n < 0 ∨ n > 64) (T : Tab) (h : Heap) : ACall Tryd.prog G0 36 [I n, T.av] h (resL [] 2) h := by
  refine ACall.conv ?_ (v := .tup [.zs, I 2]) fun _ _ _ h => h.tup2 (fun _ h => h.flL_zs) fun _ h => h
  refine xCall_ok (n := 200) (tags := [true, true]) (s := false) names mixed clok0 ?_
  refine (congrArg Tree.sel (run36e T n h)).trans ?_
  rw [selI]
  rcases hn with h1 | h1
  · rw [decide_eq_true h1]; rfl
  · rw [decide_eq_false (by omega), cond_false, selI, decide_eq_true h1]; rfl
/-- WHAT THE REFERENCE'S Core RETURNS. -/
theorem c36 {T : Tab} (hb : T.bad.length < 4611686018427387904) {n : Nat} (hn : n ≤ 64) (h : Heap) : ACall Tryd.prog G0 36 [I n, T.av] h (coreR (if badT T (2 ^ n - 1) then some (coreP (badT T) n (2 ^ n - 1)) else none)) h := by
  have hp := pow_le hn
  have hp1 := pow_pos' n
  have hs : 2 ^ n - 1 < 2 ^ 64 := by omega
  have hlp : LoopsOk Tryd.prog G0 (fun r => r = none) [] (lpY 7 [3, 6, 7] (st36 T (ints (2 ^ n - 1)) (IntKind.i64.wrap ((n : Int) - 1)) h) 0 (st36 T (ints (coreP (badT T) n (2 ^ n - 1))) (-1) h)) (bodyOf Tryd.prog 36) := by
    have hw : IntKind.i64.wrap ((n : Int) - 1) = (n : Int) - 1 := wrap_i64 (by omega) (by omega)
    rw [hw]
    refine .of_list _ fun x hm => ?_
    rw [loops36] at hm
    obtain rfl := List.mem_singleton.1 hm
    intro kp s0 t e st' h' hsel
    rw [id36] at h'
    cases h'
    cases hsel
    exact ⟨.loop (loop36 hb h n (2 ^ n - 1) hn hs), rfl⟩
  have hcl : ClOk Tryd.prog G0 (EK [(60, [I n], flL (ints (2 ^ n - 1))), (57, [T.av, flL (ints (2 ^ n - 1))], .bool (T.ful (2 ^ n - 1 : Nat)))]) := clokK fun p hp σ => by
    simp only [List.mem_cons, List.not_mem_nil, or_false] at hp
    rcases hp with rfl | rfl
    · have := c60 (n := n) (by omega) σ
      rw [upTo_ints hn] at this
      exact this
    · exact c57s hb hs σ
  have key := congrArg Tree.sel (runF36 T n (ints (2 ^ n - 1)) (ints (coreP (badT T) n (2 ^ n - 1))) (T.ful (2 ^ n - 1 : Nat)) (-1) h)
  rw [selI, decide_eq_false (by omega), cond_false, selI, decide_eq_false (by omega), cond_false, selR, selR, selI, selR] at key
  unfold badT
  cases hf : T.ful (2 ^ n - 1 : Nat) with
  | true =>
    rw [hf] at key hcl
    exact (ACall.find (s := false) (n := 200) (tags := [true, true]) hcl hlp key).conv fun _ _ _ h => h.tup2 (fun _ h => h.flL_zs) fun _ h => h
  | false =>
    rw [hf] at key hcl
    exact ACall.find (s := true) (n := 200) (tags := [true, true]) hcl hlp key
/-! ### Sets -/
theorem bad63_tail {n x : Int} {r : List Int} {k : Nat} (h : bad63 n (x :: r) (k + 1) = false) : bad63 n r k = false := by
  unfold bad63 at h ⊢
  simp only [Bool.or_eq_false_iff] at h ⊢
  obtain ⟨h1, h2, h3⟩ := h
  refine ⟨by simpa using h1, by simpa using h2, ?_⟩
  cases k with
  | zero => simp
  | succ k => simpa using h3
theorem bad63_head {n x : Int} {r : List Int} {k : Nat} (h : bad63 n (x :: r) k = false) : k = 0 → 0 ≤ x ∧ x < n := by
  rintro rfl
  unfold bad63 at h
  simp only [Bool.or_eq_false_iff, decide_eq_false_iff_not] at h
  obtain ⟨h1, h2, _⟩ := h
  simp at h1 h2
  omega
theorem sets_of {n : Int} : ∀ {L : List Int}, (∀ k, k < L.length → bad63 n L k = false) → L.Pairwise (· < ·) ∧ ∀ x ∈ L, 0 ≤ x ∧ x < n
  | [], _ => ⟨.nil, by simp⟩
  | x :: r, h => by
    obtain ⟨p1, p2⟩ := sets_of (L := r) fun k hk => bad63_tail (h (k + 1) (by simpa using hk))
    have hx := bad63_head (h 0 (by simp)) rfl
    refine ⟨List.pairwise_cons.2 ⟨fun y hy => ?_, p1⟩, fun y hy => ?_⟩
    · cases r with
      | nil => cases hy
      | cons z r' =>
        have h1 := h 1 (by simp)
        unfold bad63 at h1
        simp only [Bool.or_eq_false_iff, Bool.and_eq_false_iff, decide_eq_false_iff_not] at h1
        have hz : x < z := by
          obtain ⟨_, _, h3⟩ := h1
          simp at h3
          exact h3
        rcases List.mem_cons.1 hy with rfl | hy
        · exact hz
        · have := (List.pairwise_cons.1 p1).1 y hy
          omega
    · rcases List.mem_cons.1 hy with rfl | hy
      · exact hx
      · exact p2 y hy
theorem of_sets {n : Int} {L : List Int} (hp : L.Pairwise (· < ·)) (hr : ∀ x ∈ L, 0 ≤ x ∧ x < n) (k : Nat) (hk : k < L.length) : bad63 n L k = false := by
  unfold bad63
  have e : L.getD k 0 = L[k] := by simp [List.getD_eq_getElem?_getD, hk]
  have h1 := hr _ (List.getElem_mem hk)
  rw [e]
  simp only [Bool.or_eq_false_iff, Bool.and_eq_false_iff, decide_eq_false_iff_not]
  refine ⟨by omega, by omega, ?_⟩
  by_cases h0 : 0 < k
  · right
    have e2 : L.getD (k - 1) 0 = L[k - 1] := by simp [List.getD_eq_getElem?_getD, show k - 1 < L.length by omega]
    have h2 := List.pairwise_iff_getElem.1 hp (k - 1) k (by omega) hk (by omega)
    rw [e2]
    omega
  · left; exact h0
theorem isSetL_iff {n : Int} {L : List Int} : isSetL n L = true ↔ L.Pairwise (· < ·) ∧ ∀ x ∈ L, 0 ≤ x ∧ x < n := by
  unfold isSetL
  rw [Bool.not_eq_true', decide_eq_false_iff_not, fstStop_iff]
  constructor
  · intro h
    exact sets_of fun k hk => by
      cases hb : bad63 n L k with
      | false => rfl
      | true => exact absurd ⟨k, hk, hb⟩ h
  · rintro ⟨h1, h2⟩ ⟨k, hk, hb⟩
    rw [of_sets h1 h2 k hk] at hb
    cases hb
/-- The set of a list. -/
def setOf (L : List Int) : Nat := orL (L.map Int.toNat)
theorem setOf_ok {n : Nat} (hn : n ≤ 64) {L : List Int} (hp : L.Pairwise (· < ·)) (hr : ∀ x ∈ L, 0 ≤ x ∧ x < (n : Int)) : L = ints (setOf L) ∧ setOf L < 2 ^ n := by
  have hbit : ∀ j, (setOf L).testBit j = decide ((j : Int) ∈ L) := fun j => by
    unfold setOf
    rw [orL_bit]
    refine decide_eq_decide.2 ?_
    rw [List.mem_map]
    constructor
    · rintro ⟨x, hx, rfl⟩
      have := hr x hx
      rw [Int.toNat_of_nonneg this.1]
      exact hx
    · intro h
      exact ⟨_, h, Int.toNat_natCast j⟩
  refine ⟨ints_ext hp fun x => ?_, ?_⟩
  · constructor
    · intro hx
      have := hr x hx
      refine ⟨x.toNat, by omega, by omega, ?_⟩
      rw [hbit, Int.toNat_of_nonneg this.1]
      exact decide_eq_true hx
    · rintro ⟨i, rfl, _, h⟩
      rw [hbit] at h
      exact of_decide_eq_true h
  · apply Nat.lt_pow_two_of_testBit
    intro i hi
    rw [hbit]
    refine decide_eq_false fun h => ?_
    have := hr _ h
    omega
theorem ofLoop_some {n : Int} : ∀ {L : List Int} {last : Int} {acc s : Nat}, ofLoop n L last acc = some s → L.Pairwise (· < ·) ∧ ∀ x ∈ L, last < x ∧ x < n
  | [], _, _, _, _ => ⟨.nil, by simp⟩
  | x :: r, last, acc, s, h => by
    unfold ofLoop at h
    split at h
    · cases h
    · rename_i hc
      obtain ⟨p1, p2⟩ := ofLoop_some h
      refine ⟨List.pairwise_cons.2 ⟨fun y hy => (p2 y hy).1, p1⟩, fun y hy => ?_⟩
      rcases List.mem_cons.1 hy with rfl | hy
      · omega
      · have := p2 y hy; omega
/-- A list is a set, or it is none. -/
theorem isSet_cases {n : Nat} (hn : n ≤ 64) (L : List Int) : (isSetL n L = true ∧ ∃ s, s < 2 ^ n ∧ L = ints s ∧ ofL n L = some s) ∨ (isSetL n L = false ∧ ofL n L = none) := by
  cases h : isSetL n L with
  | true =>
    obtain ⟨p1, p2⟩ := isSetL_iff.1 h
    obtain ⟨q1, q2⟩ := setOf_ok hn p1 p2
    refine .inl ⟨rfl, setOf L, q2, q1, ?_⟩
    have := ofL_ints64 hn q2
    rw [← q1] at this
    exact this
  | false =>
    refine .inr ⟨rfl, ?_⟩
    cases ho : ofL n L with
    | none => rfl
    | some s =>
      obtain ⟨p1, p2⟩ := ofLoop_some ho
      rw [isSetL_iff.2 ⟨p1, fun x hx => by have := p2 x hx; omega⟩] at h
      cases h
/-! ### Irreducible -/
theorem tcells (T : Tab) : T.cells = tabA T.few T.bits (flU T.bad) := rfl
theorem hasF {T : Tab} (hb : T.bad.length < 4611686018427387904) (n : Int) (sets : AV) (m : Nat) : HasR n (tabA T.few T.bits (flU T.bad)) sets 0 (badT T) m := fun _ _ hs h => c76F hb hs n sets h
theorem hasP {T : Tab} (hb : T.bad.length < 4611686018427387904) {n : Nat} (hn : n ≤ 64) (sets : AV) (m : Nat) : HasR n (tabA T.few T.bits (flU T.bad)) sets 1 (fun s => T.ful (comp n s : Nat)) m := fun _ _ hs h => c76R hb hn hs sets h
theorem hasH (n : Int) {SL : List (List Int)} (hl : shortLL SL) (m : Nat) : HasR n (tabA false 0 .zs) (flLL SL) 2 (fun s => SL.all (hitB (ints s))) m := fun s _ _ h => c76H (by have := ints_len s; omega) hl n h
theorem run39 (T : Tab) (n : Int) (L : List Int) (q b : Bool) (h : Heap) : xCall Tryd.prog G0 (EK [(63, [I n, flL L], .bool q), (64, [I n, flL L, T.av, .zs, I 0], .bool b)]) 200 39 [I n, flL L, T.av] [true, true, true] h =
    .ite (decide (n < 0)) (.leaf (.tup [.bool false, I 2], false, h)) (.ite (decide (n > 64)) (.leaf (.tup [.bool false, I 2], false, h)) (.need ([I n, flL L] = [I n, flL L]) (.ite (!q) (.leaf (.tup [.bool false, I 2], false, h)) (.need ([I n, flL L, T.av, .zs, I 0] = [I n, flL L, T.av, .zs, I 0]) (.leaf (.tup [.bool b, I 0], true, h)))))) := by kernel_rfl
theorem run39n (T : Tab) (n : Int) (L : List Int) (h : Heap) : xCall Tryd.prog G0 (EK [(63, [I n, flL L], .bool false)]) 200 39 [I n, flL L, T.av] [true, true, true] h =
    .ite (decide (n < 0)) (.leaf (.tup [.bool false, I 2], false, h)) (.ite (decide (n > 64)) (.leaf (.tup [.bool false, I 2], false, h)) (.need ([I n, flL L] = [I n, flL L]) (.ite (!false) (.leaf (.tup [.bool false, I 2], false, h)) (br (xCall Tryd.prog G0 (EK [(63, [I n, flL L], .bool false)]) 200 39 [I n, flL L, T.av] [true, true, true] h) [false, false, false])))) := by kernel_rfl
def resIrr (p : Nat → Bool) (o : Option Nat) : AV := match o with
  | some s => .tup [.bool (irr p s), I 0]
  | none => .tup [.bool false, I 2]
theorem c39 {T : Tab} (hb : T.bad.length < 4611686018427387904) {n : Nat} (hn : n ≤ 64) {L : List Int} (hl : L.length < 4611686018427387904) (h : Heap) : ACall Tryd.prog G0 39 [I n, flL L, T.av] h (resIrr (badT T) (ofL n L)) h := by
  have hp := pow_le hn
  rcases isSet_cases hn L with ⟨h1, s, hs, rfl, h2⟩ | ⟨h1, h2⟩
  · have hcl : ClOk Tryd.prog G0 (EK [(63, [I n, flL (ints s)], .bool true), (64, [I n, flL (ints s), T.av, .zs, I 0], .bool (irr (badT T) s))]) := clokK fun p hp σ => by
      simp only [List.mem_cons, List.not_mem_nil, or_false] at hp
      rcases hp with rfl | rfl
      · have := c63 n hl σ
        rw [h1] at this
        exact this
      · exact c64 (.inr ⟨_, rfl⟩) (hasF hb n .zs (2 ^ 64)) (by omega) (by omega) σ
    rw [h2]
    refine xCall_ok (n := 200) (tags := [true, true, true]) (s := true) names mixed hcl ?_
    refine (congrArg Tree.sel (run39 T n (ints s) true _ h)).trans ?_
    rw [selI, decide_eq_false (by omega), cond_false, selI, decide_eq_false (by omega), cond_false, selR, selI, show (!true) = false from rfl, cond_false, selR]
    rfl
  · have hcl : ClOk Tryd.prog G0 (EK [(63, [I n, flL L], .bool false)]) := clokK fun p hp σ => by
      obtain rfl := List.mem_singleton.1 hp
      have := c63 n hl σ
      rw [h1] at this
      exact this
    rw [h2]
    refine xCall_ok (n := 200) (tags := [true, true, true]) (s := false) names mixed hcl ?_
    refine (congrArg Tree.sel (run39n T n L h)).trans ?_
    rw [selI, decide_eq_false (by omega), cond_false, selI, decide_eq_false (by omega), cond_false, selR, selI, show (!false) = true from rfl, cond_true]
    rfl
end Go.Proofs.YtjljigccgaadaaaDoor.Am

namespace Go.Proofs.YtjljigccgaadaaaDoor.Am
open Go
section
variable {P : Program} {G : Nat → Option (List AV)} {R : Option Nat → Prop}

/-- A PIECE OF CODE THAT ENDS IN ONE OF SEVERAL STATES. -/
def AExecR (P : Program) (G : Nat → Option (List AV)) (R : Option Nat → Prop) (c : Code) (a : List AV) (σ : Heap) (T : Exit → List AV → Heap → Prop) : Prop :=
  ∀ r0, R r0 → ∀ (w : World) (M : Map) (ac : Act) (Q : Exit → Act → World → Prop), Inv G w M σ → RAct w M ac { tmps := a } →
    (∀ w' M' ac' e a' σ', T e a' σ' → Ext w M w' M' → Inv G w' M' σ' → RAct w' M' ac' { tmps := a' } → Q e ac' w') → c.wpIn (FW r0) 0 P Q ac w
theorem AExecR.of {c : Code} {a a' : List AV} {σ σ' : Heap} {e : Exit} {T : Exit → List AV → Heap → Prop} (h : AExec P G R c { tmps := a } σ e { tmps := a' } σ') (ht : T e a' σ') : AExecR P G R c a σ T :=
  fun r0 hr w M ac Q hi ha hQ => h r0 hr w M ac Q hi ha fun w' M' ac' he hi' ha' => hQ w' M' ac' e a' σ' ht he hi' ha'
theorem AExecR.conseq {c : Code} {a : List AV} {σ : Heap} {T T' : Exit → List AV → Heap → Prop} (h : AExecR P G R c a σ T) (ht : ∀ e a' σ', T e a' σ' → T' e a' σ') : AExecR P G R c a σ T' :=
  fun r0 hr w M ac Q hi ha hQ => h r0 hr w M ac Q hi ha fun w' M' ac' e a' σ' h1 => hQ w' M' ac' e a' σ' (ht e a' σ' h1)
/-- The frame at the end seen through weaker values. -/
theorem AExecR.sub {c : Code} {a : List AV} {σ : Heap} {T T' : Exit → List AV → Heap → Prop} (h : AExecR P G R c a σ T)
    (ht : ∀ e a' σ', T e a' σ' → ∃ b, T' e b σ' ∧ b.length = a'.length ∧ ∀ (j : Nat) (y' : AV), b[j]? = some y' → ∃ y, a'[j]? = some y ∧ ∀ w M u, RV w M u y → RV w M u y') : AExecR P G R c a σ T' :=
  fun r0 hr w M ac Q hi ha hQ => h r0 hr w M ac Q hi ha fun w' M' ac' e a' σ' h1 he hi' ha' => by
    obtain ⟨b, h2, h3, h4⟩ := ht e a' σ' h1
    exact hQ w' M' ac' e b σ' h2 he hi' (ha'.sub h3 h4)
theorem AExecR.seq {x y : Code} {a : List AV} {σ : Heap} {T1 T : Exit → List AV → Heap → Prop} (h : AExecR P G R x a σ T1) (k : ∀ e a1 σ1, T1 e a1 σ1 → e = .normal ∧ AExecR P G R y a1 σ1 T) : AExecR P G R (.seq x y) a σ T :=
  fun r0 hr w M ac Q hi ha hQ => wpIn_seq (h r0 hr w M ac _ hi ha fun w1 M1 ac1 e a1 σ1 h1 he hi1 ha1 => by
    obtain ⟨rfl, h2⟩ := k e a1 σ1 h1
    exact h2 r0 hr w1 M1 ac1 Q hi1 ha1 fun w2 M2 ac2 e2 a2 σ2 h3 he2 hi2 ha2 => hQ w2 M2 ac2 e2 a2 σ2 h3 (he.trans he2) hi2 ha2)
theorem AExecR.block {id : Nat} {c : Code} {a : List AV} {σ : Heap} {T : Exit → List AV → Heap → Prop} (h : AExecR P G R c a σ fun e => T (outOf id e)) : AExecR P G R (.block id c) a σ T :=
  fun r0 hr w M ac Q hi ha hQ => wpIn_block (h r0 hr w M ac _ hi ha fun w1 M1 ac1 e a1 σ1 h1 he1 hi1 ha1 => by
    have := hQ w1 M1 ac1 _ a1 σ1 h1 he1 hi1 ha1
    cases e <;> first | exact this | skip
    rename_i id'
    simp only [outOf] at this
    simp only [Exit.inBlock]
    split <;> rename_i hid
    · rw [if_pos hid] at this; exact this
    · rw [if_neg hid] at this; exact this)
/-- THE ROOM OF A SLICE: whatever it is. -/
theorem AExecR.known_cap {c : Code} {a : List AV} {σ : Heap} {T : Exit → List AV → Heap → Prop} {i size r g off len cap : Nat} (hi : a[i]? = some (.ms size r g off len cap)) (ho : (objAt σ r g).isSome = true)
    (h : ∀ capc, cap ≤ capc → AExecR P G R c (a.set i (.mx size r g off len capc)) σ T) : AExecR P G R c a σ T := by
  intro r0 hr w M ac Q hinv ha hQ
  have hv := ha.tmps.2 i _ hi
  obtain ⟨cc, hcc⟩ := Option.isSome_iff_exists.1 ho
  obtain ⟨b, cs, e', hm, hh, hl, hx⟩ := hinv.obj hcc
  generalize hu : ac.tmps.getD i undef = u at hv
  cases hv with
  | msS _ _ _ _ _ _ b' g' p capc hm' hg =>
    rw [hm] at hm'
    obtain ⟨_, rfl⟩ := Prod.mk.inj (Option.some.inj hm')
    omega
  | ms _ _ _ _ _ _ b' capc c' e'' hm' hlen hcc' hsz hfit =>
    refine h capc hcc' r0 hr w M ac Q hinv ⟨⟨by rw [ha.tmps.1]; simp, fun j x hj => ?_⟩, ha.marks⟩ hQ
    rw [List.getElem?_set] at hj
    split at hj
    · rename_i hij
      subst hij
      split at hj
      · cases hj
        rw [hu]
        exact .mx _ _ _ _ _ _ b' c' e'' hm' (by omega) hsz hfit
      · cases hj
    · exact ha.tmps.2 j x hj

/-- A LOOP of N rounds, each of which may end in several states. -/
theorem AExecR.loop {c : Code} {S : Nat → List AV → Heap → Prop} {N : Nat} {T : Exit → List AV → Heap → Prop} (hr : ∀ k, k < N → ∀ a σ, S k a σ → AExecR P G R c a σ fun e a' σ' => e = .normal ∧ S (k + 1) a' σ')
    (hs : ∀ a σ, S N a σ → AExecR P G R c a σ fun e a' σ' => e ≠ .normal ∧ T e a' σ') {a : List AV} {σ : Heap} (h0 : S 0 a σ) : AExecR P G R (.loop c) a σ T := by
  have key : ∀ (d k : Nat), k + d = N → ∀ a σ, S k a σ → ∀ r0, R r0 → ∀ (w : World) (M : Map) (ac : Act) (Q : Exit → Act → World → Prop), Inv G w M σ → RAct w M ac { tmps := a } →
      (∀ w' M' ac' e a' σ', T e a' σ' → Ext w M w' M' → Inv G w' M' σ' → RAct w' M' ac' { tmps := a' } → Q e ac' w') → Code.roundsIn (FW r0) 0 P c Q (d + 1) ac w := by
    intro d
    induction d with
    | zero =>
      intro k hk a σ hS r0 hr0 w M ac Q hi ha hQ
      obtain rfl : k = N := by omega
      exact hs a σ hS r0 hr0 w M ac _ hi ha fun w1 M1 ac1 e a1 σ1 ⟨hne, h1⟩ he hi1 ha1 => by
        have := hQ w1 M1 ac1 e a1 σ1 h1 he hi1 ha1
        cases e <;> first | exact this | exact absurd rfl hne
    | succ d ih =>
      intro k hk a σ hS r0 hr0 w M ac Q hi ha hQ
      exact hr k (by omega) a σ hS r0 hr0 w M ac _ hi ha fun w1 M1 ac1 e a1 σ1 ⟨hne, h1⟩ he hi1 ha1 => by
        subst hne
        exact ih (k + 1) (by omega) a1 σ1 h1 r0 hr0 w1 M1 ac1 Q hi1 ha1 fun w2 M2 ac2 e2 a2 σ2 h2 he2 hi2 ha2 => hQ w2 M2 ac2 e2 a2 σ2 h2 (he.trans he2) hi2 ha2
  exact fun r0 hr0 w M ac Q hi ha hQ => wpIn_loop_rounds (N + 1) (key N 0 (by omega) a σ h0 r0 hr0 w M ac Q hi ha hQ)
/-- What a value is, where all that is new has become data. -/
def ToData (n : Nat) (σ : Heap) (x y : AV) : Prop := (Below n x ∧ ∀ w M u, RV w M u x → RV w M u y) ∨
  ∃ r g cells, x = .ms 1 r g 0 cells.length cells.length ∧ n ≤ r ∧ objAt σ r g = some cells ∧ (∀ z ∈ cells, Below n z) ∧ ∀ w M u, RV w M u (.sl 1 (cells.map fun y => [y])) → RV w M u y
/-- WHAT IS NEW BECOMES DATA. -/
theorem AExecR.data {c : Code} {a b : List AV} {σ : Heap} {e : Exit} {T : Exit → List AV → Heap → Prop} (h : AExecR P G R c a σ T)
    (ht : ∀ e' a' σ', T e' a' σ' → e' = e ∧ (∃ τ, σ' = σ ++ τ) ∧ b.length = a'.length ∧ ∀ (j : Nat) (y : AV), b[j]? = some y → ∃ x, a'[j]? = some x ∧ ToData σ.length σ' x y) : AExec P G R c { tmps := a } σ e { tmps := b } σ := by
  intro r0 hr w M ac Q hi ha hQ
  refine h r0 hr w M ac Q hi ha fun w' M' ac' e' a' σ' h1 he hi' ha' => ?_
  obtain ⟨rfl, ⟨τ, rfl⟩, h2, h3⟩ := ht e' a' σ' h1
  obtain ⟨k1, k2⟩ := hi.forget he hi'
  refine hQ w' _ ac' k1 k2 ⟨⟨by rw [ha'.tmps.1, h2], fun j y hj => ?_⟩, ?_⟩
  · obtain ⟨x, q1, q2⟩ := h3 j y hj
    have hx := ha'.tmps.2 j x q1
    rcases q2 with ⟨q3, q4⟩ | ⟨r, g, cells, rfl, q3, q4, q5, q6⟩
    · exact q4 _ _ _ (hx.cut q3)
    · refine q6 _ _ _ (RV.msData hi' q3 hx ?_ q5)
      unfold objAt at q4
      split at q4
      · rename_i g' c' he2
        split at q4
        · rename_i hg
          cases q4
          subst hg
          exact he2
        · cases q4
      · cases q4
  · obtain ⟨bs, k1, k2, _⟩ := ha'.marks
    exact ⟨bs, k1, k2, fun i r b h => by simp at h⟩
end
end Go.Proofs.YtjljigccgaadaaaDoor.Am

namespace Go.Proofs.YtjljigccgaadaaaDoor.Am
open Go
set_option maxRecDepth 100000
section
variable {S : Type} {g : FuncId} {caps : List AV} {hp : S → Heap} {stp : S → Nat → Bool × S}
theorem loop13D {N : Nat} (hf : HasOk 65 [.row [.fn g [] caps] 0] hp (badS stp) (· < N)) {R : Option Nat → Prop} : ∀ (x s : Nat) (st : S), x ≤ 64 → s < 2 ^ 64 → s < N →
    ALoopRun Tryd.prog G0 R body13 { tmps := (st13 g caps s ((x : Int) - 1) (hp st)).a } (hp st) (.exit 0) { tmps := (stE13 (coreLoop (badS stp) x s st).1 (hp (coreLoop (badS stp) x s st).2)).a } (hp (coreLoop (badS stp) x s st).2)
  | 0, s, st, hx, hs, hN => by
    refine .stop (xBody_ok (m := []) names mixed (clok13 (hf st s hN hs)) (lpNo body13) (n := 200) (keep := [8]) (st := st13 g caps s ((0 : Nat) - 1 : Int) (hp st)) (st' := stE13 s (hp st)) ?_).1 nofun
    rw [run13x]; rfl
  | x + 1, s, st, hx, hs, hN => by
    have hc := hf st (del s x) (Nat.lt_of_le_of_lt (del_le s x) hN) (del_lt hs)
    have ih := loop13D (R := R) hf x (if (badS stp st (del s x)).1 then del s x else s) (badS stp st (del s x)).2 (by omega) (by split; exact del_lt hs; exact hs) (by have := del_le s x; split <;> omega)
    unfold coreLoop
    change ACall _ _ _ _ _ (.bool (badS stp st (del s x)).1) (hp (badS stp st (del s x)).2) at hc
    generalize badS stp st (del s x) = q at hc ih
    obtain ⟨b, st'⟩ := q
    simp only at hc ih ⊢
    refine .next (xBody_ok (m := []) names mixed (clok13 hc) (lpNo body13) (n := 200) (keep := [7, 8, 9]) (st := st13 g caps s (((x + 1 : Nat) : Int) - 1) (hp st)) (st' := st13 g caps ((if b = true then del s x else s : Nat) : Int) ((x : Int) - 1) (hp st')) ?_).1 ih
    have e : ((x + 1 : Nat) : Int) - 1 = (x : Int) := by omega
    have hw : IntKind.i64.wrap ((x : Int) - 1) = (x : Int) - 1 := wrap_i64 (by omega) (by omega)
    rw [e, run13, selI, decide_eq_true (by omega), cond_true, Tree.sel_need (by omega), arg13_nat hs (by omega), Tree.sel_need ⟨rfl, rfl⟩, selI, hw]
    cases b <;> rfl
theorem c13D {n : Nat} (hf : HasOk 65 [.row [.fn g [] caps] 0] hp (badS stp) (· < 2 ^ n)) (hn : n ≤ 64) (st : S) : ACall Tryd.prog G0 13 [I n, .fn g [] caps] (hp st) (coreR (coreS (badS stp) n st).1) (hp (coreS (badS stp) n st).2) := by
  have h64 : 2 ^ n - 1 < 2 ^ 64 := by
    have := Nat.pow_le_pow_right (n := 2) (by omega) hn
    have := Nat.two_pow_pos n
    omega
  have hN : 2 ^ n - 1 < 2 ^ n := by have := Nat.two_pow_pos n; omega
  have hc := hf st (2 ^ n - 1) hN h64
  have ha : askE n 64 = 0 := by unfold askE; rw [decide_eq_false (by omega), decide_eq_false (by omega)]; rfl
  have hw : IntKind.i64.wrap ((n : Int) - 1) = (n : Int) - 1 := wrap_i64 (by omega) (by omega)
  change ACall _ _ _ _ _ (.bool (badS stp st (2 ^ n - 1)).1) (hp (badS stp st (2 ^ n - 1)).2) at hc
  have hl := loop13D (R := fun r => r = none) hf n (2 ^ n - 1) (badS stp st (2 ^ n - 1)).2 hn h64 hN
  have hlt := coreLoop_lt (stp := badS stp) n (2 ^ n - 1) (badS stp st (2 ^ n - 1)).2 h64
  unfold coreS
  generalize badS stp st (2 ^ n - 1) = q at hc hl hlt
  obtain ⟨b, st1⟩ := q
  simp only at hc hl hlt ⊢
  cases b with
  | false =>
    have sel : (xenter Tryd.prog (E13 g caps (2 ^ n - 1 : Nat) false (hp st) (hp st1)) (xCode Tryd.prog G0 (E13 g caps (2 ^ n - 1 : Nat) false (hp st) (hp st1)) 200 (lp13 n g caps (2 ^ n - 1 : Nat) (hp st1) .fail)) 13 [I n, .fn g [] caps] [true, true] (hp st)).sel = some (.tup [.zs, I 7], false, hp st1) := by
      rw [runF13e, selI, ha, bne_self_eq_false, cond_false, Tree.sel_need ⟨by omega, by omega⟩, Int.toNat_natCast, Tree.sel_need ⟨rfl, rfl⟩]
      rfl
    exact (ACall.find (clok13 hc) (lpok13 fun e st' h => by cases h) sel).resZs
  | true =>
    generalize coreLoop (badS stp) n (2 ^ n - 1) st1 = q2 at hl hlt
    obtain ⟨s', st2⟩ := q2
    simp only at hl hlt ⊢
    have sel : (xenter Tryd.prog (E13 g caps (2 ^ n - 1 : Nat) true (hp st) (hp st1)) (xCode Tryd.prog G0 (E13 g caps (2 ^ n - 1 : Nat) true (hp st) (hp st1)) 200 (lp13 n g caps (2 ^ n - 1 : Nat) (hp st1) (.leaf (.exit 0, stE13 s' (hp st2))))) 13 [I n, .fn g [] caps] [true, true] (hp st)).sel = some (.tup [flN (bitsL s'), I 0], true, hp st2) := by
      rw [runF13, selI, ha, bne_self_eq_false, cond_false, Tree.sel_need ⟨by omega, by omega⟩, Int.toNat_natCast, Tree.sel_need ⟨rfl, rfl⟩, selI, Bool.not_true, cond_false, selR, Tree.sel_need ⟨by omega, by omega⟩, Int.toNat_natCast]
      rfl
    refine ACall.find (clok13 hc) (lpok13 fun e st' h => ?_) sel
    cases h
    rw [hw]
    exact ⟨.loop hl, rfl⟩
end
section
variable {σ : Heap} {g : FuncId} {caps : List AV} {f : Nat → Bool}
theorem HasAt.ok {n : Nat} (hf : HasAt σ 65 [.row [.fn g [] caps] 0] (fun s => !f s) (2 ^ n)) : HasOk 65 [.row [.fn g [] caps] 0] (fun _ : Unit => σ) (badS fun (_ : Unit) s => (f s, ())) (· < 2 ^ n) := fun _ s hD hs => by
  have := hf [] s hD hs
  simp only [List.append_nil] at this
  exact this
/-- What Core returns for it. -/
theorem core13D {n : Nat} (hf : HasAt σ 65 [.row [.fn g [] caps] 0] (fun s => !f s) (2 ^ n)) (hn : n ≤ 64) : ACall Tryd.prog G0 13 [I n, .fn g [] caps] σ (.tup [flL (coreC f n), I (coreE f n)]) σ := by
  have h := c13D hf.ok hn ()
  have hs := (coreS_ok (g := fun s => !f s) (stp := badS fun (_ : Unit) s => (f s, ())) (Good := fun _ => True) (fun st s _ => ⟨rfl, trivial⟩) n (st := ()) trivial).1
  rw [hs] at h
  unfold coreC coreE
  cases hq : f (2 ^ n - 1) with
  | true =>
    simp only [hq, Bool.not_true, Bool.false_eq_true, if_false] at h
    exact h
  | false =>
    simp only [hq, Bool.not_false, if_true] at h
    exact h
/-- What Irreducible returns for it; the list may be any value that 'of' reads as a set. -/
theorem c14D {n s : Nat} (hf : HasAt σ 65 [.row [.fn g [] caps] 0] (fun s => !f s) (2 ^ n)) (hn : n ≤ 64) (hs : s < 2 ^ n) {L : AV} (h45 : ACall Tryd.prog G0 45 [I n, L] σ (.tup [U s, .bool true]) σ) : ACall Tryd.prog G0 14 [I n, L, .fn g [] caps] σ (.tup [.bool (irr (fun s => !f s) s), I 0]) σ := by
  have hp := pow_le hn
  have ha : askE n 64 = 0 := by unfold askE; rw [decide_eq_false (by omega), decide_eq_false (by omega)]; rfl
  have h46 := c46 hf.ok (s := s) (by omega) hs (fun k _ => Nat.lt_of_le_of_lt (del_le s k) hs) ()
  have h2 : (irrS (badS fun (_ : Unit) s => (f s, ())) () s).1 = irr (fun s => !f s) s := (irrS_ok (f := fun s => !f s) (Good := fun _ => True) (fun st s _ => ⟨rfl, trivial⟩) (by omega) trivial).1
  rw [h2] at h46
  refine xCall_ok (n := 200) (tags := [true, true, true]) (s := true) names mixed (clok14 (g := g) (caps := caps) h45 h46) ?_
  rw [run14, selI, ha, bne_self_eq_false, cond_false, Tree.sel_need ⟨rfl, rfl⟩, selI]
  exact Tree.sel_need ⟨rfl, rfl⟩
theorem has48D {n : Nat} (hf : HasAt σ 65 [.row [.fn g [] caps] 0] (fun s => !f s) (2 ^ n)) (hn : n ≤ 12) (m : Nat) : HasAt (σ ++ two16 n g caps) 48 (caps48 σ.length) (fun s => f (comp n s)) m := by
  intro X s _ hs
  have h64 : 2 ^ n ≤ 2 ^ 12 := Nat.pow_le_pow_right (by omega) hn
  have hp := Nat.two_pow_pos n
  have hlt : comp n s < 2 ^ 64 := Nat.lt_of_le_of_lt Nat.and_le_left (by omega)
  have hc := hf (two16 n g caps ++ X) (comp n s) (comp_lt n s) hlt
  rw [← List.append_assoc] at hc
  have hcl : ClOk Tryd.prog G0 (E48 (2 ^ n - 1 : Nat) (.row [.fn g [] caps] 0) (comp n s) (!f (comp n s)) (σ ++ two16 n g caps ++ X)) := by
    refine .all ((hLd_ok (by kernel_rfl : Tryd.prog.underlying 61 = some (.func #[63] #[4] false)) rfl _).ok.or (hLd_ok (by kernel_rfl : Tryd.prog.underlying 63 = some (.int .u64)) rfl _).ok) ?_ (fun l xs σ t v σ' h => (by cases h)) (fun f xs t v h => by cases h)
    intro f' xs σ' t u σ'' hq hsel
    replace hq : clh48 _ _ _ _ f' xs σ' = some t := hq
    unfold clh48 at hq
    split at hq <;> first | (cases hq; done) | skip
    cases hq
    obtain ⟨⟨rfl, rfl⟩, hs2⟩ := Tree.of_need hsel
    cases hs2
    exact hc
  refine xCall_ok (n := 200) (tags := [true, true, true]) (s := true) names mixed hcl ?_
  have g1 : objAt (σ ++ two16 n g caps ++ X) (σ.length + 1) 0 = some [.fn 65 [] [.row [.fn g [] caps] 0]] := by rw [List.append_assoc]; exact objAt_app rfl
  have g0 : objAt (σ ++ two16 n g caps ++ X) σ.length 0 = some [U (2 ^ n - 1 : Nat)] := by rw [List.append_assoc]; exact objAt_app (i := 0) rfl
  have harg : uandNot (2 ^ n - 1 : Nat) s = (comp n s : Nat) := uandNot_nat (by omega) hs
  have := run48 (2 ^ n - 1 : Nat) s (.row [.fn g [] caps] 0) (comp n s) (!f (comp n s)) σ.length (σ ++ two16 n g caps ++ X)
  refine (congrArg Tree.sel this).trans ?_
  rw [harg, Tree.sel_need g1, Tree.sel_need g0, Tree.sel_need ⟨rfl, rfl⟩, Bool.not_not]
  rfl
theorem c15D {n : Nat} (hn : n ≤ 12) (hf : HasAt σ 65 [.row [.fn g [] caps] 0] (fun s => !f s) (2 ^ n)) : ACall Tryd.prog G0 15 [I n, .fn g [] caps] σ (resLL (everyL (fun s => !f s) n) 0) σ := by
  have h47 := c47r hn hf
  have hcl : ClOk Tryd.prog G0 (E15 n (.fn 65 [] [.row [.fn g [] caps] 0]) (flLL (everyL (fun s => !f s) n)) σ) := .all .none (clh15_ok h47) (fun l xs σ t v σ' h => (by cases h)) fun f xs t v h hs σ => cl15_ok h hs σ
  refine xCall_ok (n := 200) (tags := [true, true]) (s := true) names mixed hcl ?_
  rw [run15, selI, askE_good (by omega) (by omega), bne_self_eq_false, cond_false]
  exact Tree.sel_need ⟨rfl, rfl⟩
theorem c16D {n : Nat} (hn : n ≤ 12) (hf : HasAt σ 65 [.row [.fn g [] caps] 0] (fun s => !f s) (2 ^ n)) : ACall Tryd.prog G0 16 [I n, .fn g [] caps] σ (resLL (everyL (fun s => f (comp n s)) n) 0) σ := by
  have h47 := c47r hn (has48D hf hn (2 ^ n))
  have hcl : ClOk Tryd.prog G0 (E16 n σ.length (.fn 48 [] (caps48 σ.length)) (flLL (everyL (fun s => f (comp n s)) n)) σ (σ ++ [.cells 0 [U 0]]) (σ ++ [.cells 0 [U 0], .cells 0 [.nilf]]) (σ ++ [.cells 0 [U (2 ^ n - 1 : Nat)], .cells 0 [.nilf]]) (σ ++ two16 n g caps) (bad65 g caps)) :=
    .all (h16_ok _ _ _ _ _ _ _ _) (clh15_ok h47) (fun l xs σ t v σ' h => (by cases h)) fun f xs t v h hs σ => cl15_ok h hs σ
  refine ACall.forget (X := two16 n g caps) (xCall_ok (n := 200) (tags := [true, true]) (s := true) names mixed hcl ?_) (below_tup2 (below_flLL _) (.int _ _))
  have a1 : aAlloc Tryd.prog (σ ++ [.cells 0 [U 0]]) 61 = some (.ref (σ.length + 1) 0 0, σ ++ [.cells 0 [U 0], .cells 0 [.nilf]]) := by rw [alloc61]; simp
  rw [run16, selI, askE_good (by omega) (by omega), bne_self_eq_false, cond_false, Tree.sel_need ⟨by omega, by omega⟩, Tree.sel_need ⟨rfl, alloc63 σ⟩, Tree.sel_need ⟨rfl, a1⟩, Int.toNat_natCast,
    Tree.sel_need ⟨rfl, rfl, rfl, store_app (one_of (by kernel_rfl)) (i := 0) rfl rfl⟩, Tree.sel_need ⟨rfl, rfl, rfl, store_app (one_of (by kernel_rfl)) (i := 1) rfl rfl⟩]
  exact Tree.sel_need ⟨rfl, rfl⟩
end
end Go.Proofs.YtjljigccgaadaaaDoor.Am

namespace Go.Proofs.YtjljigccgaadaaaDoor.Am
open Go
set_option maxRecDepth 100000

/-- A load of an integer, told beforehand. -/
def hEl (F : Nat → Nat → Int) : Heap → Oper → (Operand → Option AV) → Option (AV × Bool × Heap × Prop) := fun h o ρ => match o.op with
  | .load 3 x => match ρ x with
    | some (.ref r g off) => some (I (F r off), true, h, aLoad Tryd.prog h 3 (.ref r g off) = some (I (F r off)))
    | _ => none
  | _ => none
theorem hEl_ok (F : Nat → Nat → Int) : HintA Tryd.prog (hEl F) := by
  intro h o ρ y s h' p hh hp
  unfold hEl at hh
  split at hh
  · rename_i x ho
    split at hh
    · rename_i r g off hx
      cases hh
      unfold aopR
      simp only [ho, hx, Option.bind_some, hp, Option.map_some]
    · cases hh
  · cases hh
noncomputable def body30a : Code := (loopsOf (bodyOf Tryd.prog 30)).getD 0 .skip
noncomputable def body30b : Code := (loopsOf (bodyOf Tryd.prog 30)).getD 1 .skip
def lv30 (N n : Nat) : AV := .ms 1 N (n - 1) 0 n n
def st30a (N n : Nat) (i : Int) (h : Heap) : St := .of 62 h [(0, lv30 N n, true), (1, .ref 2 0 0, true), (2, .ref 0 0 0, true), (3, .ref 1 0 0, true), (10, lv30 N n, true), (11, I n, true), (12, I i, true)]
def st30b (N n : Nat) (b : Bool) (i : Int) (h : Heap) : St := .of 62 h [(0, lv30 N n, true), (8, .bool b, true), (45, I n, true), (46, I i, true)]
def E30a (F : Nat → Nat → Int) (h : Heap) : Env := { hint := orH (hEl F) (orH (hLd 4 (.bool true)) (hSt 4 (.ref 2 0 0) (.bool true) h h)) }
def E30b (N n i : Nat) (h h1 : Heap) : Env := { hint := hSt 3 (.ref N (n - 1) i) (I (-7)) h h1 }
def oi (i : Int) : Nat := 0 + i.toNat * 1
def sb30 (N n : Nat) (i : Nat) (h : Heap) (v : AV) : Tree (Exit × St) := .need (some (AV.ref 2 0 0) = some (.ref 2 0 0) ∧ some v = some (.bool true) ∧ h = h ∧ aStore Tryd.prog h 4 (.ref 2 0 0) (.bool true) = some h) (.leaf (.normal, st30a N n (IntKind.i64.wrap (i + 1)) h))
def el30 (F : Nat → Nat → Int) (N n : Nat) (h : Heap) (j : Int) (x : Tree (Exit × St)) : Tree (Exit × St) := .need (0 ≤ j ∧ j < n ∧ (objAt h N (n - 1)).isSome = true) (.need (aLoad Tryd.prog h 3 (.ref N (n - 1) (oi j)) = some (I (F N (oi j)))) x)
theorem run30a (F : Nat → Nat → Int) (N n i : Nat) (h : Heap) : xBody Tryd.prog G0 (E30a F h) 200 noLoops [0, 1, 2, 3, 10, 11, 12] body30a (st30a N n i h) =
    .ite (decide ((i : Int) < n)) (el30 F N n h i (.need (objAt h 2 0 = some [.bool true]) (.ite true (.ite (decide (F N (oi i) ≥ 0)) (.need (aLoad Tryd.prog h 3 (.ref 0 0 0) = some (I (F 0 0))) (.ite (decide (F N (oi i) < F 0 0))
      (.ite ((i : Int) == 0) (sb30 N n i h (.bool true)) (el30 F N n h (IntKind.i64.wrap (i - 1)) (sb30 N n i h (.bool (decide (F N (oi i) > F N (oi (IntKind.i64.wrap (i - 1))))))))) (sb30 N n i h (.bool false)))) (sb30 N n i h (.bool false))) (sb30 N n i h (.bool false)))))
      (.leaf (.exit 0, st30a N n i h)) := by kernel_rfl
theorem run30b (b : Bool) (N n i : Nat) (h h1 : Heap) : xBody Tryd.prog G0 (E30b N n i h h1) 200 noLoops [0, 8, 45, 46] body30b (st30b N n b i h) =
    .ite (decide ((i : Int) < n)) (.need (0 ≤ (i : Int) ∧ (i : Int) < n ∧ (objAt h N (n - 1)).isSome = true) (.need (some (AV.ref N (n - 1) (oi i)) = some (.ref N (n - 1) i) ∧ some (I (-7)) = some (I (-7)) ∧ h = h ∧ aStore Tryd.prog h 3 (.ref N (n - 1) i) (I (-7)) = some h1)
      (.leaf (.normal, st30b N n b (IntKind.i64.wrap (i + 1)) h1)))) (.leaf (.exit 2, st30b N n b i h)) := by kernel_rfl
end Go.Proofs.YtjljigccgaadaaaDoor.Am

namespace Go.Proofs.YtjljigccgaadaaaDoor.Am
open Go
set_option maxRecDepth 100000

/-! ### Frames, entry by entry -/
def look (l : List (Nat × AV × Bool)) (j : Nat) (d : AV × Bool) : AV × Bool := l.foldl (fun acc p => if j = p.1 then p.2 else acc) d
theorem get_of (l : List (Nat × AV × Bool)) (j : Nat) : ∀ t : PT, (l.foldl (fun t p => t.set p.1 p.2.1 p.2.2) t).get j = look l j (t.get j) := by
  induction l with
  | nil => intro t; rfl
  | cons p l ih =>
    intro t
    rw [List.foldl_cons, ih]
    unfold look
    rw [List.foldl_cons]
    congr 1
    unfold PT.set
    rw [PT.get_setF _ _ _ _ _ _ (Nat.lt_succ_self _)]
theorem at_of (n : Nat) (h : Heap) (l : List (Nat × AV × Bool)) (j : Nat) : (St.of n h l).a[j]? = if j < n then some (look l j (.junk, false)).1 else none := by
  rw [St.at_eq]
  unfold St.at St.of
  simp only [get_of, PT.get_nil]
  by_cases h : j < n
  · rw [if_pos h, show Nat.blt j n = true from by rw [Nat.blt_eq]; exact h]; rfl
  · rw [if_neg h, show Nat.blt j n = false from by rw [← Bool.not_eq_true, Nat.blt_eq]; exact h]; rfl
/-- Two frames with the same places, entry by entry. -/
def Rel2 (Rl : AV → AV → Prop) : List (Nat × AV × Bool) → List (Nat × AV × Bool) → Prop
  | [], [] => True
  | p :: l, q :: m => p.1 = q.1 ∧ Rl p.2.1 q.2.1 ∧ Rel2 Rl l m
  | _, _ => False
theorem look_rel {Rl : AV → AV → Prop} (j : Nat) : ∀ (l m : List (Nat × AV × Bool)) (d e : AV × Bool), Rel2 Rl l m → Rl d.1 e.1 → Rl (look l j d).1 (look m j e).1
  | [], [], d, e, _, h => h
  | p :: l, q :: m, d, e, ⟨h1, h2, h3⟩, h => by
    unfold look
    rw [List.foldl_cons, List.foldl_cons]
    refine look_rel j l m _ _ h3 ?_
    rw [h1]
    split
    · exact h2
    · exact h
  | [], _ :: _, _, _, h, _ => h.elim
  | _ :: _, [], _, _, h, _ => h.elim
theorem rel_at {Rl : AV → AV → Prop} {n : Nat} {h h' : Heap} {l m : List (Nat × AV × Bool)} (hr : Rel2 Rl l m) (hj : Rl .junk .junk) (j : Nat) (y : AV) (hy : (St.of n h' m).a[j]? = some y) : ∃ x, (St.of n h l).a[j]? = some x ∧ Rl x y := by
  rw [at_of] at hy
  split at hy
  · rename_i hlt
    cases hy
    refine ⟨_, by rw [at_of, if_pos hlt], look_rel j l m _ _ hr hj⟩
  · cases hy
theorem len_of (n : Nat) (h : Heap) (l : List (Nat × AV × Bool)) : (St.of n h l).a.length = n := by
  unfold St.a St.of
  simp
/-- A value that stays what it is, where what is new becomes data. -/
theorem ToData.same {n : Nat} {σ : Heap} {x : AV} (h : Below n x) : ToData n σ x x := .inl ⟨h, fun _ _ _ h => h⟩

/-! ### The pieces of the code -/
def fS : Code → Code
  | .seq x _ => x
  | c => c
def sS : Code → Code
  | .seq _ y => y
  | c => c
def uB : Code → Code
  | .block _ x => x
  | c => c
noncomputable def body62 : Code := (loopsOf (bodyOf Tryd.prog 62)).headD .skip
noncomputable def body62x : Code := (loopsOf (bodyOf Tryd.prog 62)).getD 1 .skip
noncomputable def body62a : Code := (loopsOf (bodyOf Tryd.prog 62)).getD 2 .skip
noncomputable def h62 : Code := fS (body62)
noncomputable def b62 : Code := uB (fS (sS (body62)))
noncomputable def r62 : Code := sS (sS (body62))
noncomputable def p62a : Code := fS b62
noncomputable def p62b : Code := fS (sS b62)
noncomputable def p62c : Code := fS (sS (sS b62))
noncomputable def p62d : Code := fS (sS (sS (sS b62)))
noncomputable def p62f : Code := sS (sS (sS (sS (sS b62))))
theorem code62 : body62 = .seq h62 (.seq (.block 1 (.seq p62a (.seq p62b (.seq p62c (.seq p62d (.seq (.block 4 (.loop body62a)) p62f)))))) r62) := by kernel_rfl
section
variable (n : Int) (sets : AV) (pr : Int) (tc : List AV)
def l62 (out : AV) (code : Int) : List (Nat × AV × Bool) := [(0, I n, true), (2, sets, true), (3, I pr, true), (5, .row tc 0, true), (9, out, true), (10, I code, true)]
def st62d (out : AV) (code : Int) (set : List Int) (h : Heap) : St := .of 61 h [(0, I n, true), (2, sets, true), (3, I pr, true), (5, .row tc 0, true), (9, out, true), (10, I code, true), (11, flL set, true), (13, I 0, false)]
def st62 (out : AV) (code : Int) (h : Heap) : St := .of 61 h (l62 n sets pr tc out code)
def st62x (out : AV) (code : Int) (v : AV) (x : Int) (h : Heap) : St := .of 61 h [(0, I n, true), (2, sets, true), (3, I pr, true), (5, .row tc 0, true), (9, out, true), (10, I code, true), (11, v, true), (12, I x, true)]
def st62v (out : AV) (code : Int) (v : AV) (h : Heap) : St := .of 61 h [(0, I n, true), (2, sets, true), (3, I pr, true), (5, .row tc 0, true), (9, out, true), (10, I code, true), (11, v, true)]
def st62a (out : AV) (code : Int) (set : List Int) (j : Int) (h : Heap) : St := .of 61 h [(0, I n, true), (2, sets, true), (3, I pr, true), (5, .row tc 0, true), (9, out, true), (10, I code, true), (11, flL set, true), (13, I j, true)]
end
def E62 (v : AV) (y : Int) (v' : AV) (h h1 : Heap) : Env := { hint := orH hShift (hApp 22 v (.sl 1 [[I y]]) v' h h1) }
theorem clok62 (v : AV) (y : Int) (v' : AV) (h h1 : Heap) : ClOk Tryd.prog G0 (E62 v y v' h h1) := .ofH rfl rfl (hShift_ok.ok.or (hApp_ok _ _ _ _ _ _).ok) fun f xs t v h => by cases h
def shl62 (n : Int) : Int := IntKind.i64.wrap (1 * 2 ^ min n.toNat IntKind.i64.bits)
theorem run62h (n : Int) (sets : AV) (pr : Int) (tc : List AV) (out : AV) (code : Int) (h : Heap) : xBody Tryd.prog G0 (E62 .zs 0 .zs [] []) 200 noLoops [0, 2, 3, 5, 9, 10] h62 (st62 n sets pr tc out code h) =
    .need (0 ≤ n) (.ite (decide (code < shl62 n)) (.leaf (.normal, st62 n sets pr tc out code h)) (.leaf (.exit 0, st62 n sets pr tc out code h))) := by kernel_rfl
theorem run62r (n : Int) (sets : AV) (pr : Int) (tc : List AV) (out : AV) (code : Int) (h : Heap) : xBody Tryd.prog G0 {} 200 noLoops [0, 2, 3, 5, 9, 10] r62 (st62 n sets pr tc out code h) = .leaf (.normal, st62 n sets pr tc out (IntKind.i64.wrap (code + 1)) h) := by kernel_rfl
def st62w (n : Int) (sets : AV) (pr : Int) (tc : List AV) (out : AV) (code : Int) (h : Heap) : St := .of 61 h [(0, I n, true), (2, sets, true), (3, I pr, true), (5, .row tc 0, true), (9, out, true), (10, I code, true), (11, .zs, false)]
theorem run62a (n : Int) (sets : AV) (pr : Int) (tc : List AV) (out : AV) (code : Int) (h : Heap) : xBody Tryd.prog G0 {} 200 noLoops [0, 2, 3, 5, 9, 10, 11] p62a (st62 n sets pr tc out code h) = .leaf (.normal, st62w n sets pr tc out code h) := by kernel_rfl
theorem vals62a (n : Int) (sets : AV) (pr : Int) (tc : List AV) (out : AV) (code : Int) (h : Heap) : (st62w n sets pr tc out code h).a = (st62v n sets pr tc out code .zs h).a := by kernel_rfl
theorem run62x (n : Int) (sets : AV) (pr : Int) (tc : List AV) (out : AV) (code : Int) (v v' : AV) (x y : Int) (h h1 : Heap) : xBody Tryd.prog G0 (E62 v y v' h h1) 200 noLoops [0, 2, 3, 5, 9, 10, 11, 12] body62x (st62x n sets pr tc out code v x h) =
    .ite (decide (x < n)) (.need (0 ≤ x) (.ite (bitI code x) (.need (some [v, .sl 1 [[I x]]] = some [v, .sl 1 [[I y]]] ∧ #[22, 22] = #[22, 22] ∧ h = h ∧ aAppend Tryd.prog h 22 22 v (.sl 1 [[I y]]) = some (v', h1)) (.leaf (.normal, st62x n sets pr tc out code v' (IntKind.i64.wrap (x + 1)) h1)))
      (.leaf (.normal, st62x n sets pr tc out code v (IntKind.i64.wrap (x + 1)) h)))) (.leaf (.exit 2, st62x n sets pr tc out code v x h)) := by kernel_rfl
theorem run62b (n : Int) (sets : AV) (pr : Int) (tc : List AV) (out : AV) (code : Int) (v : AV) (m : Int) (h : Heap) : xBody Tryd.prog G0 {} 200 (lpY 7 [0, 2, 3, 5, 9, 10, 11, 12] (st62x n sets pr tc out code .zs 0 h) 2 (st62x n sets pr tc out code v m h)) [0, 2, 3, 5, 9, 10, 11] p62b (st62v n sets pr tc out code .zs h) =
    .need ((st62x n sets pr tc out code .zs 0 h).vals = (st62x n sets pr tc out code .zs 0 h).vals) (.leaf (.normal, st62v n sets pr tc out code v h)) := by kernel_rfl
theorem run62c (n : Int) (sets : AV) (pr : Int) (fa : Bool) (fb : Int) (fx out : AV) (code : Int) (set : List Int) (b : Bool) (h : Heap) : xBody Tryd.prog G0 (EK [(64, [I n, flL set, .agg (tabA fa fb fx), sets, I pr], .bool b)]) 200 noLoops [0, 2, 3, 5, 9, 10, 11] p62c (st62v n sets pr (tabA fa fb fx) out code (flL set) h) =
    .need ([I n, flL set, .agg (tabA fa fb fx), sets, I pr] = [I n, flL set, .agg (tabA fa fb fx), sets, I pr]) (.ite (!b) (.leaf (.exit 1, st62v n sets pr (tabA fa fb fx) out code (flL set) h)) (.leaf (.normal, st62v n sets pr (tabA fa fb fx) out code (flL set) h))) := by kernel_rfl
theorem run62d (n : Int) (sets : AV) (pr : Int) (tc : List AV) (out : AV) (code : Int) (set : List Int) (h : Heap) : xBody Tryd.prog G0 {} 200 noLoops [0, 2, 3, 5, 9, 10, 11, 13] p62d (st62v n sets pr tc out code (flL set) h) = .leaf (.normal, st62d n sets pr tc out code set h) := by kernel_rfl
theorem vals62d (n : Int) (sets : AV) (pr : Int) (tc : List AV) (out : AV) (code : Int) (set : List Int) (h : Heap) : (st62d n sets pr tc out code set h).a = (st62a n sets pr tc out code set 0 h).a := by kernel_rfl
/-- A load, told beforehand. -/
def hLd2 (t : TypeId) (x : AV) : Heap → Oper → (Operand → Option AV) → Option (AV × Bool × Heap × Prop) := fun h o ρ => match o.op with
  | .load t' q => match Nat.beq t' t with
    | true => match ρ q with
      | some (.ref r g off) => some (x, true, h, aLoad Tryd.prog h t (.ref r g off) = some x)
      | _ => none
    | false => none
  | _ => none
theorem hLd2_ok (t : TypeId) (x : AV) : HintA Tryd.prog (hLd2 t x) := by
  intro h o ρ y s h' p hh hp
  unfold hLd2 at hh
  split at hh
  · rename_i t' q ho
    split at hh
    · rename_i ht
      obtain rfl := Nat.eq_of_beq_eq_true ht
      split at hh
      · rename_i r g off hx
        cases hh
        unfold aopR
        simp only [ho, hx, Option.bind_some, hp, Option.map_some]
      · cases hh
    · cases hh
  · cases hh
def E62a (a s : List Int) (b : Bool) : Env := { hint := hLd2 22 (flL a), cl := clL [(74, [flL a, flL s], .bool b)] }
theorem run62z (n : Int) (sets : AV) (pr : Int) (tc : List AV) (code : Int) (set : List Int) (j : Int) (h : Heap) : xBody Tryd.prog G0 {} 200 noLoops [0, 2, 3, 5, 9, 10, 11, 13] body62a (st62a n sets pr tc .zs code set j h) =
    .ite (decide (j < 0)) .fail (.leaf (.exit 4, st62a n sets pr tc .zs code set j h)) := by kernel_rfl
theorem run62m (n : Int) (sets : AV) (pr : Int) (tc : List AV) (r g m : Nat) (code : Int) (set a : List Int) (b : Bool) (j : Int) (h : Heap) : xBody Tryd.prog G0 (E62a a set b) 200 noLoops [0, 2, 3, 5, 9, 10, 11, 13] body62a (st62a n sets pr tc (.ms 1 r g 0 m m) code set j h) =
    .ite (decide (j < m)) (.need (0 ≤ j ∧ j < m ∧ (objAt h r g).isSome = true) (.need (aLoad Tryd.prog h 22 (.ref r g (oi j)) = some (flL a)) (.need ([flL a, flL set] = [flL a, flL set]) (.ite b (.leaf (.normal, st62a n sets pr tc (.ms 1 r g 0 m m) code set (IntKind.i64.wrap (j + 1)) h)) (.leaf (.exit 4, st62a n sets pr tc (.ms 1 r g 0 m m) code set j h))))))
      (.leaf (.exit 4, st62a n sets pr tc (.ms 1 r g 0 m m) code set j h)) := by kernel_rfl
end Go.Proofs.YtjljigccgaadaaaDoor.Am

