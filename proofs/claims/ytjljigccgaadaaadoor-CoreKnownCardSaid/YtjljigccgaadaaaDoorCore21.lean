/-
  This file proves nothing of a law. It walks CoreKnown. No condition.
-/
import Derived.Test.YtjljigccgaadaaaDoorCore20
namespace Go.Proofs.YtjljigccgaadaaaDoor.Am
open Go
set_option maxRecDepth 100000

noncomputable def dropS : Nat → Code → Code
  | 0, c => c
  | n + 1, c => dropS n (sndS c)
noncomputable def k3 (n : Nat) : Code := fstS (dropS n (bodyOf Tryd.prog 3))
noncomputable def rest3 : Code := dropS 8 (bodyOf Tryd.prog 3)
theorem code3 : bodyOf Tryd.prog 3 = .seq (k3 0) (.seq (k3 1) (.seq (k3 2) (.seq (k3 3) (.seq (k3 4) (.seq (k3 5) (.seq (k3 6) (.seq (k3 7) rest3))))))) := by kernel_rfl
noncomputable def body3m : Code := (loopsOf (bodyOf Tryd.prog 3)).getD 3 .skip
def st3 (h : Heap) : St := .of 355 h [(0, .bool false, false), (1, .fn 11 [] [], true), (2, .fn 12 [] [], true)]
def st3z (h : Heap) : St := .of 355 h []
def v3 : AV := .ms 1 0 0 0 4097 4097
def st3v (h : Heap) : St := .of 355 h [(0, .bool false, false), (1, .fn 11 [] [], true), (2, .fn 12 [] [], true), (31, v3, true)]
def st3m (k : Int) (h : Heap) : St := .of 355 h [(0, .bool false, false), (1, .fn 11 [] [], true), (2, .fn 12 [] [], true), (31, v3, true), (175, I 4097, true), (176, I k, true)]
/-- The list's cells when k of them are set. -/
def mc (k : Nat) : List AV := (List.range 4097).map fun i => bif decide (i < k) then .sl 1 [[I ((i : Int).tmod 12)]] else .zs
def hm (k : Nat) : Heap := [.cells 0 (mc k)]
def e3m (k : Int) : AV := .sl 1 [[I (k.tmod 12)]]
def E3m (k : Nat) : Env := { hint := hSt 22 (.ref 0 0 k) (e3m k) (hm k) (hm (k + 1)) }
theorem run3m (k : Nat) (h h2 : Heap) : xBody Tryd.prog G0 { hint := hSt 22 (.ref 0 0 k) (e3m k) h h2 } 200 noLoops [0, 1, 2, 31, 175, 176] body3m (st3m k h) =
    .ite (decide ((k : Int) < 4097)) (.need (0 ≤ (k : Int) ∧ (k : Int) < (4097 : Nat) ∧ (objAt h 0 0).isSome = true) (.need (some (AV.ref 0 0 (0 + (k : Int).toNat * 1)) = some (.ref 0 0 k) ∧ some (e3m k) = some (e3m k) ∧ h = h ∧ aStore Tryd.prog h 22 (.ref 0 0 k) (e3m k) = some h2)
      (.leaf (.normal, st3m (IntKind.i64.wrap (k + 1)) h2)))) (.leaf (.exit 6, st3m k h)) := by kernel_rfl
theorem mc_len (k : Nat) : (mc k).length = 4097 := by simp [mc]
theorem mc_set {k : Nat} : (mc k).set k (e3m k) = mc (k + 1) := by
  apply List.ext_getElem
  · simp [mc]
  · intro i h1 h2
    have hi : i < 4097 := by simpa [mc] using h2
    rw [List.getElem_set]
    by_cases h : k = i
    · subst h; simp [mc, e3m]
    · rw [if_neg h]
      have h3 : decide (i < k) = decide (i < k + 1) := by by_cases h4 : i < k <;> simp <;> omega
      simp only [mc, List.getElem_map, List.getElem_range, h3]
theorem store3 {k : Nat} (hk : k < 4097) : aStore Tryd.prog (hm k) 22 (.ref 0 0 k) (e3m k) = some (hm (k + 1)) := by
  obtain ⟨i, h1, h2⟩ := one_of (t := 22) (by kernel_rfl)
  have ho : objAt (hm k) 0 0 = some (mc k) := rfl
  have hc : (e3m k).cells = [e3m k] := rfl
  simp only [aStore, h1, ho, h2, hc]
  have e : setL (mc k) k [e3m k] = mc (k + 1) := by
    rw [← mc_set, List.set_eq_take_append_cons_drop, if_pos (by rw [mc_len]; exact hk)]
    rfl
  rw [if_pos ⟨rfl, by rw [mc_len]; exact hk, rfl⟩, e]
  rfl
theorem round3 {R : Option Nat → Prop} {k : Nat} (hk : k < 4097) : AExec Tryd.prog G0 R body3m { tmps := (st3m k (hm k)).a } (hm k) .normal { tmps := (st3m (k + 1 : Nat) (hm (k + 1))).a } (hm (k + 1)) := by
  refine (xBody_ok (m := []) names mixed (E := E3m k) (.ofH rfl rfl (hSt_ok _ _ _ _ _).ok fun f xs t v h => by cases h) (lpNo body3m) (n := 200) (keep := [0, 1, 2, 31, 175, 176]) (st := st3m k (hm k)) (st' := st3m (k + 1 : Nat) (hm (k + 1))) ?_).1
  have hw : IntKind.i64.wrap ((k : Int) + 1) = ((k + 1 : Nat) : Int) := wrap_i64 (by omega) (by omega)
  refine (congrArg Tree.sel (run3m k (hm k) (hm (k + 1)))).trans ?_
  rw [selI, decide_eq_true (by omega), cond_true, Tree.sel_need ⟨by omega, by omega, rfl⟩, Tree.sel_need ⟨by rw [Int.toNat_natCast, Nat.zero_add, Nat.mul_one], rfl, rfl, store3 hk⟩, hw]
  rfl
theorem loop3 {R : Option Nat → Prop} : ∀ (d k : Nat), k + d = 4097 → ALoopRun Tryd.prog G0 R body3m { tmps := (st3m k (hm k)).a } (hm k) (.exit 6) { tmps := (st3m (4097 : Nat) (hm 4097)).a } (hm 4097)
  | 0, k, hk => by
    obtain rfl : k = 4097 := by omega
    refine .stop (xBody_ok (m := []) names mixed clok0 (lpNo body3m) (n := 200) (keep := [0, 1, 2, 31, 175, 176]) (st := st3m (4097 : Nat) (hm 4097)) (st' := st3m (4097 : Nat) (hm 4097)) ?_).1 nofun
    kernel_rfl
  | d + 1, k, hk => .next (round3 (by omega)) (loop3 d (k + 1) (by omega))
def lp3 : Loops := fun id => match id with
  | 34 => some ([0, 1, 2, 31, 175, 176], st3m (0 : Nat) (hm 0), .leaf (.exit 6, st3m (4097 : Nat) (hm 4097)))
  | _ => none
def s3 : St := .of 355 (hm 4097) [(0, .bool false, false), (1, .fn 11 [] [], true), (2, .fn 12 [] [], true), (31, v3, true)]
def many : List (List AV) := (mc 4097).map fun y => [y]
def s3f : St := .of 355 [] [(0, .bool false, false), (1, .fn 11 [] [], true), (2, .fn 12 [] [], true), (31, .sl 1 many, true)]
def s3e : St := .of 355 [] [(0, .bool true, true)]
theorem p3_0 : (xBody Tryd.prog G0 {} 200 noLoops [0] (k3 0) (st3z [])).sel = some (.normal, .of 355 [] [(0, .bool false, false)]) := by kernel_rfl
theorem p3_1 : (xBody Tryd.prog G0 {} 200 noLoops [0, 1] (k3 1) (.of 355 [] [(0, .bool false, false)])).sel = some (.normal, .of 355 [] [(0, .bool false, false), (1, .fn 11 [] [], false)]) := by kernel_rfl
theorem p3_2 : (xBody Tryd.prog G0 {} 200 noLoops [0, 1, 2] (k3 2) (.of 355 [] [(0, .bool false, false), (1, .fn 11 [] [], true)])).sel = some (.normal, .of 355 [] [(0, .bool false, false), (1, .fn 11 [] [], true), (2, .fn 12 [] [], false)]) := by kernel_rfl
theorem p3_3 : (xBody Tryd.prog G0 EC 200 noLoops [0, 1, 2] (k3 3) (st3 [])).sel = some (.normal, st3 []) := by kernel_rfl
theorem p3_4 : (xBody Tryd.prog G0 EC 200 noLoops [0, 1, 2] (k3 4) (st3 [])).sel = some (.normal, st3 []) := by kernel_rfl
theorem p3_5 : (xBody Tryd.prog G0 EC 200 noLoops [0, 1, 2] (k3 5) (st3 [])).sel = some (.normal, st3 []) := by kernel_rfl
theorem p3_6 : (xBody Tryd.prog G0 {} 200 noLoops [0, 1, 2, 31] (k3 6) (st3 [])).sel = some (.normal, .of 355 (hm 0) [(0, .bool false, false), (1, .fn 11 [] [], true), (2, .fn 12 [] [], true), (31, v3, false)]) := by kernel_rfl
theorem p3_7 : (xBody Tryd.prog G0 {} 200 lp3 [0, 1, 2, 31] (k3 7) (st3v (hm 0))) = .need ((st3m (0 : Nat) (hm 0)).vals = (st3m (0 : Nat) (hm 0)).vals) (.leaf (.normal, s3)) := by kernel_rfl
noncomputable def kk (n : Nat) : Code := fstS (dropS n rest3)
theorem codeR : rest3 = .seq (kk 0) (.seq (kk 1) (.seq (kk 2) (dropS 3 rest3))) := by kernel_rfl
def L12 : List (List Int) := [[0, 1, 2, 3, 4, 5, 6, 7, 8, 9, 10, 11]]
def s3p : St := .of 355 [] [(0, .bool false, false), (1, .fn 11 [] [], true), (2, .fn 12 [] [], true), (31, .sl 1 many, true), (34, I 2, true)]
def s3g (L : List (List Int)) : St := .of 355 [] [(0, .bool false, false), (1, .fn 11 [] [], true), (2, .fn 12 [] [], true), (34, I 2, true), (35, flLL L, true), (36, I 0, true)]
def s3h : St := .of 355 [] [(0, .bool false, false), (1, .fn 11 [] [], true), (2, .fn 12 [] [], true)]
theorem q3_0 : (xBody Tryd.prog G0 EC 200 noLoops [0, 1, 2, 31, 34] (kk 0) s3f).sel = some (.normal, s3p) := by kernel_rfl
theorem q3_1 : (xBody Tryd.prog G0 EC 200 noLoops [0, 1, 2, 34, 35, 36] (kk 1) s3p).sel = some (.normal, s3g L12) := by kernel_rfl
theorem q3_2 : xBody Tryd.prog G0 EC 200 noLoops [0, 1, 2] (kk 2) (s3g L12) = .ite ((2 : Int) != 2) (.leaf (.ret, s3h)) (.ite ((0 : Int) != 0) (.leaf (.ret, s3h)) (.ite (((L12.length : Nat) : Int) != 1) (.leaf (.ret, s3h))
    (.need (0 ≤ (0 : Int) ∧ (0 : Int) < L12.length) (.ite ((((L12.getD (Int.toNat 0) []).length : Nat) : Int) != 12) (.leaf (.ret, s3h)) (.leaf (.normal, s3h)))))) := by kernel_rfl
theorem q3_2s : (xBody Tryd.prog G0 EC 200 noLoops [0, 1, 2] (kk 2) (s3g L12)).sel = some (.normal, s3h) := by
  rw [q3_2]
  exact Tree.sel_need ⟨by omega, by decide⟩
theorem q3_3 : (xBody Tryd.prog G0 EC 200 noLoops [0] (dropS 3 rest3) s3h).sel = some (.ret, s3e) := by kernel_rfl
theorem flat_of {n : Nat} {h : Heap} {l : List (Nat × AV × Bool)} (hl : ∀ p ∈ l, Flat p.2.1) : ∀ x ∈ (St.of n h l).a, Flat x := by
  intro x hx
  simp only [St.a, St.of, List.mem_map] at hx
  obtain ⟨j, _, rfl⟩ := hx
  rcases of_get l .nil j with h1 | ⟨p, hp, h1⟩
  · rw [h1, PT.get_nil]; exact .junk
  · rw [h1]; exact hl p hp
theorem below_of {n : Nat} {h : Heap} {l : List (Nat × AV × Bool)} (hl : ∀ p ∈ l, Below 0 p.2.1) : ∀ x ∈ (St.of n h l).a, Below 0 x := St.of_clean hl
def s3n : List (Nat × AV × Bool) := [(0, .bool false, false), (1, .fn 11 [] [], true), (2, .fn 12 [] [], true)]
theorem s3n_below : ∀ p ∈ s3n, Below 0 p.2.1 := by
  intro p hp
  simp only [s3n, List.mem_cons, List.not_mem_nil, or_false] at hp
  rcases hp with rfl | rfl | rfl
  · exact .bool _
  · exact .fn _ _ _ (fun j x hj => by simp at hj) (fun j x hj => by simp at hj)
  · exact .fn _ _ _ (fun j x hj => by simp at hj) (fun j x hj => by simp at hj)
theorem below_one (n : Int) : Below 0 (.sl 1 [[I n]]) := .sl _ _ fun i r j x hi hj => by
  rw [List.mem_singleton.1 (List.mem_of_getElem? hi)] at hj
  rw [List.mem_singleton.1 (List.mem_of_getElem? hj)]
  exact .int _ _
theorem mc_below (k : Nat) : ∀ y ∈ mc k, Below 0 y := by
  intro y hy
  obtain ⟨i, _, rfl⟩ := List.mem_map.1 hy
  cases decide (i < k) with
  | false => exact .zs
  | true => exact below_one _
theorem of_getS (n : Nat) (h : Heap) (l : List (Nat × AV × Bool)) (r : Nat) (x : AV) (t : Bool) (j : Nat) : (St.of n h (l ++ [(r, x, t)])).a[j]? = if j < n then some (if j = r then x else ((l.foldl (fun t p => t.set p.1 p.2.1 p.2.2) PT.nil).get j).1) else none := by
  simp only [St.a, St.of, List.foldl_append, List.foldl_cons, List.foldl_nil, List.getElem?_map]
  by_cases hj : j < n
  · rw [List.getElem?_range hj, if_pos hj, Option.map_some, PT.get_set]
    split <;> rfl
  · rw [List.getElem?_eq_none (by simp; omega), if_neg hj]; rfl
/-- A frame of which one temporary is taken as data. -/
theorem frz_frame {n : Nat} {σ h h' : Heap} {l : List (Nat × AV × Bool)} {r : Nat} {x x' : AV} {t : Bool} (hl : ∀ p ∈ l, Below 0 p.2.1) (hx : Frz σ x x') : ∀ (j : Nat) (y' : AV), (St.of n h' (l ++ [(r, x', t)])).a[j]? = some y' → ∃ y, (St.of n h (l ++ [(r, x, t)])).a[j]? = some y ∧ Frz σ y y' := by
  intro j y' hj
  rw [of_getS] at hj
  split at hj
  · rename_i hlt
    rw [of_getS, if_pos hlt]
    refine ⟨_, rfl, ?_⟩
    cases hj
    split
    · exact hx
    · refine .inr (.inl ⟨?_, rfl⟩)
      rcases of_get l .nil j with h1 | ⟨p, hp, h1⟩
      · rw [h1, PT.get_nil]; exact .junk
      · rw [h1]; exact hl p hp
  · cases hj
theorem frz3 : Frz (hm 4097) v3 (.sl 1 many) := .inr (.inr ⟨0, 0, mc 4097, by rw [mc_len]; rfl, rfl, mc_below _, rfl⟩)
theorem lpok3 {R : Option Nat → Prop} : LoopsOk Tryd.prog G0 R [] lp3 (k3 7) := by
  refine .of_list _ fun x hx => ?_
  have hl : loopsOf (k3 7) = [body3m] := by kernel_rfl
  have hid : idOf body3m = 34 := by kernel_rfl
  rw [hl] at hx
  obtain rfl := List.mem_singleton.1 hx
  intro kp s0 t e st' h' hs
  rw [hid] at h'
  cases h'
  cases hs
  exact ⟨.loop (loop3 4097 0 (by omega)), rfl⟩
/-- CoreKnown, from nothing. -/
theorem exec3 : AExec Tryd.prog G0 (fun r => r = none) (bodyOf Tryd.prog 3) { tmps := (st3z []).a } [] .ret { tmps := s3e.a } (hm 4097) := by
  rw [code3]
  refine .seq (xBody_ok (m := []) names mixed clok0 (lpNo _) p3_0).1 (.seq (xBody_ok (m := []) names mixed clok0 (lpNo _) p3_1).1 (.seq (xBody_ok (m := []) names mixed clok0 (lpNo _) p3_2).1
    (.seq (xBody_ok (m := []) (st := st3 []) names mixed clokC (lpNo _) p3_3).1 (.seq (xBody_ok (m := []) names mixed clokC (lpNo _) p3_4).1 (.seq (xBody_ok (m := []) names mixed clokC (lpNo _) p3_5).1 (.seq (xBody_ok (m := []) names mixed clok0 (lpNo _) p3_6).1
      (.seq (xBody_ok (m := []) (st := st3v (hm 0)) (st' := s3) names mixed clok0 lpok3 (by rw [p3_7, selR]; rfl)).1 ?_)))))))
  refine AExec.frz (a' := s3f.a) (σ0 := []) ?_ gbelow0 (flat_of (fun p hp => ?_)) (by simp [s3, s3f, St.a, St.of]) (frz_frame (l := s3n) s3n_below frz3)
  · rw [codeR]
    exact .seq (xBody_ok (m := []) names mixed clokC (lpNo _) q3_0).1 (.seq (xBody_ok (m := []) names mixed clokC (lpNo _) q3_1).1 (.seq (xBody_ok (m := []) names mixed clokC (lpNo _) q3_2s).1 (xBody_ok (m := []) names mixed clokC (lpNo _) q3_3).1))
  · rw [List.mem_singleton.1 hp]; exact .bool _
end Go.Proofs.YtjljigccgaadaaaDoor.Am
