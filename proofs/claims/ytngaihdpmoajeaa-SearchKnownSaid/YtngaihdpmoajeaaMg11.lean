/-
  This file proves nothing of a law. It holds lemmas, of 1 texts in their order. No condition of its own.
-/
import Derived.Test.YtngaihdpmoajeaaMg10
namespace Go.Proofs.Ytngaihdpmoajeaa.Am
open Go
set_option maxRecDepth 100000

/-! ### Values that name no object -/
def lowB : Nat → AV → Bool
  | n + 1, .sl _ rows => rows.all fun r => r.all (lowB n)
  | _ + 1, .int _ _ => true
  | _ + 1, .zs => true
  | _, _ => false
theorem lowB_ok : ∀ {n : Nat} {x : AV}, lowB n x = true → Below 0 x
  | n + 1, .sl s rows, h => by
    have h' : (rows.all fun r => r.all (lowB n)) = true := h
    rw [List.all_eq_true] at h'
    exact below_sl1 fun r hr y hy => lowB_ok (List.all_eq_true.1 (h' r hr) y hy)
  | _ + 1, .int _ _, _ => .int _ _
  | _ + 1, .zs, _ => .zs
theorem alone_oS : Alone 0 oS := fun x hx => lowB_ok (n := 8) (List.all_eq_true.1 (by kernel_rfl : smpC.all (lowB 8) = true) x hx)
/-! ### The odd problems -/
def one9 (e : List Int × Rl) : Pb := ⟨[1], [e.1], [e.2]⟩
def U39 : List (List Int × Rl) := [([-1], r0), ([1000001], r0), ([0, 0], r0), ([0], ⟨-1, [], [], 0⟩), ([0], ⟨1000001, [], [], 0⟩), ([0], ⟨0, [1], [[0]], 0⟩), ([0], ⟨0, [0], [], 0⟩), ([0], ⟨0, [0], [[0, 0]], 0⟩), ([0], ⟨0, [0, 0], [[0], [0]], 0⟩),
  ([0], ⟨0, [0], [[100000001]], 0⟩), ([0], ⟨0, [0], [[-100000001]], 0⟩), ([0], ⟨0, [], [], 10000000001⟩), ([0], ⟨0, [], [], -10000000001⟩)]
def Q9 : List Pb := [⟨zer 25, List.replicate 25 [], []⟩, ⟨[0], [[]], []⟩, ⟨[17], [zer 17], []⟩, ⟨[1], [], []⟩, ⟨[], [[0]], []⟩, ⟨[], [], List.replicate 2049 r0⟩] ++ U39.map one9
def RowsSub : List (List AV) → List Pb → Prop
  | [], [] => True
  | r :: rs, q :: qs => (∃ a b c, r = [a, b, c] ∧ Sub a (flL q.V) ∧ Sub b (flLL q.C) ∧ Sub c (flR q.R)) ∧ RowsSub rs qs
  | _, _ => False
theorem RowsSub.len : ∀ {rs : List (List AV)} {qs : List Pb}, RowsSub rs qs → qs.length = rs.length
  | [], [], _ => rfl
  | _ :: _, _ :: _, h => by rw [List.length_cons, List.length_cons, RowsSub.len h.2]
  | [], _ :: _, h => h.elim
  | _ :: _, [], h => h.elim
theorem RowsSub.at' : ∀ {rs : List (List AV)} {qs : List Pb}, RowsSub rs qs → ∀ (i : Nat) (q : Pb), qs[i]? = some q → ∃ r, rs[i]? = some r ∧ ∀ (j : Nat) (y' : AV), (pbC q)[j]? = some y' → ∃ y, r[j]? = some y ∧ Sub y y'
  | [], [], _, i, q, hi => by simp at hi
  | _ :: _, q :: _, h, 0, _, hi => by
    cases hi
    obtain ⟨a, b, c, rfl, ha, hb, hc⟩ := h.1
    refine ⟨_, rfl, fun j y' hj => ?_⟩
    match j, hj with
    | 0, hj => cases hj; exact ⟨a, rfl, ha⟩
    | 1, hj => cases hj; exact ⟨b, rfl, hb⟩
    | 2, hj => cases hj; exact ⟨c, rfl, hc⟩
    | j + 3, hj => simp [pbC] at hj
  | _ :: _, _ :: _, h, i + 1, q, hi => RowsSub.at' h.2 i q hi
  | [], _ :: _, h, _, _, _ => h.elim
  | _ :: _, [], h, _, _, _ => h.elim
theorem RowsSub.sub {rs : List (List AV)} {qs : List Pb} (h : RowsSub rs qs) : Sub (.sl 3 rs) (flP qs) := fun _ _ _ hv => RV.rowsS (q := pbC) (d := pb0) (fun _ => rfl) h.len h.at' hv
theorem row_ok {a b c : AV} {q : Pb} (ha : decL a = some q.V) (hb : decLL b = some q.C) (hc : decRs c = some q.R) : ∃ a' b' c', [a, b, c] = [a', b', c'] ∧ Sub a' (flL q.V) ∧ Sub b' (flLL q.C) ∧ Sub c' (flR q.R) := ⟨a, b, c, rfl, decL_ok ha, decLL_ok hb, decRs_ok hc⟩
theorem rows9_ok : RowsSub rows9 Q9 := by
  refine ⟨?_, ?_, ?_, ?_, ?_, ?_, ?_, ?_, ?_, ?_, ?_, ?_, ?_, ?_, ?_, ?_, ?_, ?_, ?_, trivial⟩
  all_goals exact row_ok (by kernel_rfl) (by kernel_rfl) (by kernel_rfl)
theorem odd9 : (Q9.all fun q => !validP q && shPb q) = true := by kernel_rfl
/-! ### The loop over the odd problems -/
theorem sub_neg1 : Sub (slL [-1]) (flL [-1]) := sub_slL [-1]
theorem clok9b {q : Pb} (hv : validP q = false) (hs : q.sh) : ClOk Try.prog G0 (EN (k9 q) (hStA 26 8)) := clokN (fun z hz xs hx σ => by
  simp only [k9, List.mem_cons, List.not_mem_nil, or_false] at hz
  have h1 : sh [(-1 : Int)] := by show (1 : Nat) < _; omega
  have hw : whole q [-1] = 1 := by unfold whole; rw [hv]; rfl
  rcases hz with rfl | rfl | rfl | rfl | rfl | rfl | rfl | rfl | rfl
  · obtain rfl : xs = _ := hx
    have := c21 hs σ
    unfold solveR at this
    rwa [hv, cond_false] at this
  · obtain rfl : xs = _ := hx
    have := c22 hs σ
    rwa [hv, cond_false] at this
  · obtain rfl : xs = _ := hx
    have := (c13 hs h1 σ).arg2 (Sub.rfl' _) sub_neg1
    unfold leastR at this
    rwa [hv, cond_false] at this
  · obtain rfl : xs = _ := hx
    have := c16 hs (-1) σ
    unfold countR at this
    rwa [hv, cond_false] at this
  · obtain rfl : xs = _ := hx
    have := (c25 hs h1 σ).arg2 (Sub.rfl' _) sub_neg1
    unfold costR at this
    rwa [hw, if_neg (by omega)] at this
  · obtain rfl : xs = _ := hx
    have := (c24 hs h1 σ).arg2 (Sub.rfl' _) sub_neg1
    unfold brkR at this
    rwa [hw, if_neg (by omega)] at this
  · obtain rfl : xs = _ := hx
    have := c28 hs σ
    rwa [hv] at this
  · obtain rfl : xs = _ := hx
    have := (c31 hs (D := []) sh_nil σ).arg2 (Sub.rfl' _) fun _ _ _ h => h.flL_zs
    unfold onlyP at this
    rwa [hv, cond_false] at this
  · obtain rfl : xs = _ := hx
    have h0 : pb0.sh := shPb_ok rfl
    have := (c30 (y := pb0) h0 σ).arg2 (Sub.rfl' (pAV pb0)) (decP_ok (x := .agg zPb) (p := pb0) rfl)
    rwa [dT rfl] at this) (hStA_ok 26 8).ok
theorem below_flP (Q : List Pb) : Below 0 (flP Q) := below_fl fun _ y hy => below_pb _ y hy
section
variable {o1 o2 : AObj} (h1 : Alone 0 o1) (h2 : Alone 0 o2)
include h1 h2
theorem clean9b (Q : List Pb) (n k : Int) : CleanT 8 (st9b o1 o2 (flP Q) n k) :=
  cleanT_of rfl (fun o ho => by
    simp only [hO, List.mem_cons, List.not_mem_nil, or_false] at ho
    rcases ho with rfl | rfl | rfl | rfl | rfl | rfl | rfl | rfl
    · trivial
    · trivial
    · trivial
    · trivial
    · trivial
    · trivial
    · exact alone_up h1 8
    · exact alone_up h2 8) ⟨.bool _, (below_flP Q).up, .int _ _, .int _ _, trivial⟩
theorem loop9b {Q : List Pb} (hl : Q.length < 1000) (hQ : ∀ q ∈ Q, validP q = false ∧ q.sh) : LoopA body9b Q.length (fun k => st9b o1 o2 (flP Q) Q.length k) (fun k => st9b o1 o2 (flP Q) Q.length k) (st9b o1 o2 (flP Q) Q.length Q.length) .ret (.exit 2) fun _ => false where
  n0 _ := rfl
  nR _ := rfl
  nX := rfl
  neR := nofun
  neX := nofun
  go k hk _ _ := by
    obtain ⟨hv, hs⟩ := hQ _ (getD_mem (d := pb0) hk)
    have key := congrArg Tree.sel (run9b o1 o2 Q k)
    have w2 : IntKind.i64.wrap (k + 1 : Int) = ((k + 1 : Nat) : Int) := (wrapI (by omega)).trans (by omega)
    rw [Int.toNat_natCast, w2] at key
    refine xBodyT_ok (m := 8) (st := st9b o1 o2 (flP Q) Q.length k) (clok9b hv hs) (lpNo _) rfl (clean9b h1 h2 Q _ _) (key.trans ?_)
    refine (selIt (dT (by omega))).trans (t_need ⟨by omega, by omega⟩ (t_need ⟨rfl, rfl, Nat.le_refl _⟩ ?_))
    repeat first
      | exact rfl
      | refine t_need rfl ?_
      | refine (selIf rfl).trans ?_
  st k _ _ hs := by cases hs
  en _ := by
    have key := congrArg Tree.sel (run9be o1 o2 Q Q.length)
    refine xBodyT_ok (m := 8) (st := st9b o1 o2 (flP Q) Q.length Q.length) (clokN (l := []) nofun (hStA_ok 26 8).ok) (lpNo _) rfl (clean9b h1 h2 Q _ _) (key.trans ?_)
    exact (selIf (dF (by omega))).trans rfl
end
/-! ### SearchKnown -/
theorem AExec.pre_sub {R : Option Nat → Prop} {c : Code} {a b a' : List AV} {m : List Nat} {σ σ' : Heap} {e : Exit} (h : AExec Try.prog G0 R c { tmps := b, marks := m } σ e { tmps := a', marks := m } σ') (hl : b.length = a.length) (hs : ∀ (j : Nat) (y' : AV), b[j]? = some y' → ∃ y, a[j]? = some y ∧ Sub y y') :
    AExec Try.prog G0 R c { tmps := a, marks := m } σ e { tmps := a', marks := m } σ' := fun r0 hr w M ac Q hi ha hQ => h r0 hr w M ac Q hi (ha.sub hl hs) hQ
theorem at9b (o1 o2 : AObj) (v : AV) (n k : Int) : (st9b o1 o2 v n k).a = .bool false :: (List.replicate 274 .junk ++ (v :: I n :: I k :: List.replicate 227 .junk)) := by kernel_rfl
theorem exec9b : AExec Try.prog G0 (fun r => r = none) (.loop body9b) { tmps := (st9b oS oS (.sl 3 rows9) 19 0).a } (hO oS oS) (.exit 2) { tmps := (St.of 505 (hO oS oS) [(0, .bool false, false)]).a } (hO oS oS) := by
  have hQ : ∀ q ∈ Q9, validP q = false ∧ q.sh := fun q hq => by
    have := List.all_eq_true.1 odd9 q hq
    rw [Bool.and_eq_true, Bool.not_eq_true'] at this
    exact ⟨this.1, shPb_ok this.2⟩
  have hlen : Q9.length = 19 := by kernel_rfl
  have h := (loop9b alone_oS alone_oS (Q := Q9) (by omega) hQ).exec fun _ _ => rfl
  have h3 := h.weak_post (a' := { tmps := (st9b oS oS (flP Q9) Q9.length Q9.length).a, marks := [] }) (St.only_le [0] _)
  have e1 : ((st9b oS oS (flP Q9) Q9.length Q9.length).only [0]).a = (St.of 505 (hO oS oS) [(0, .bool false, false)]).a := by kernel_rfl
  rw [e1] at h3
  have hsub := rows9_ok.sub
  refine h3.pre_sub (by rw [at9b, at9b]; simp) fun j y' hj => ?_
  rw [at9b] at hj ⊢
  rw [hlen] at hj
  match j, hj with
  | 0, hj => cases hj; exact ⟨_, rfl, Sub.rfl' _⟩
  | j + 1, hj =>
    simp only [List.getElem?_cons_succ] at hj ⊢
    by_cases hlt : j < 274
    · rw [List.getElem?_append_left (by simpa using hlt)] at hj ⊢
      exact ⟨y', hj, Sub.rfl' _⟩
    · rw [List.getElem?_append_right (by simp; omega)] at hj ⊢
      generalize j - (List.replicate 274 AV.junk).length = i at hj ⊢
      match i, hj with
      | 0, hj => cases hj; exact ⟨_, rfl, hsub⟩
      | i + 1, hj => exact ⟨y', hj, Sub.rfl' _⟩
theorem clok9 : ClOk Try.prog G0 E9 := by
  refine .all ((hCal_ok big22).or ((hCal_ok big13).or ((hCalC_ok fun e he => ?_).or ((hMkD_ok els22 (by kernel_rfl) fun y hy => ?_).or ((hMkD_ok els23 (by kernel_rfl) fun y hy => ?_).or ((hMkD_ok els24 (by kernel_rfl) fun y hy => ?_).or (hSlc_ok fstB 23))))))) (fun f xs σ t u σ' h => (by cases h)) (fun l xs σ t v σ' h => (by cases h)) fun f xs t v hq hs σ => ?_
  · obtain ⟨u, hu, rfl⟩ := List.mem_map.1 he
    have hlow := List.all_eq_true.1 (by kernel_rfl : (T39.all fun e => lowB 6 (.sl 1 e.2.1) && (lowB 6 e.2.2.2.1 && lowB 6 e.2.2.2.2.1)) = true) u hu
    rw [Bool.and_eq_true, Bool.and_eq_true] at hlow
    intro σ
    refine c39 1 u.2.2.1 u.2.2.2.2.2 ?_ (lowB_ok hlow.1) (lowB_ok hlow.2.1) (lowB_ok hlow.2.2) σ
    simp only [T39, List.mem_cons, List.not_mem_nil, or_false] at hu
    rcases hu with rfl | rfl | rfl | rfl | rfl | rfl | rfl | rfl | rfl | rfl | rfl | rfl | rfl
    · exact .inl ⟨rfl, rfl⟩
    · exact .inl ⟨rfl, rfl⟩
    · exact .inl ⟨rfl, rfl⟩
    · exact .inl ⟨rfl, rfl⟩
    · exact .inl ⟨rfl, rfl⟩
    · exact .inr (.inr ⟨_, _, rfl, rfl⟩)
    · exact .inr (.inl ⟨_, rfl, rfl⟩)
    · exact .inr (.inr ⟨_, _, rfl, rfl⟩)
    · exact .inr (.inr ⟨_, _, rfl, rfl⟩)
    · exact .inr (.inr ⟨_, _, rfl, rfl⟩)
    · exact .inr (.inr ⟨_, _, rfl, rfl⟩)
    · exact .inl ⟨rfl, rfl⟩
    · exact .inl ⟨rfl, rfl⟩
  · rw [List.mem_singleton.1 hy]; exact .int _ _
  · rw [List.mem_singleton.1 hy]; exact .zs
  · simp only [zR, List.mem_cons, List.not_mem_nil, or_false] at hy
    rcases hy with rfl | rfl | rfl | rfl
    · exact .int _ _
    · exact .zs
    · exact .zs
    · exact .int _ _
  · have hq' : cl9 f xs = some t := hq
    unfold cl9 at hq'
    split at hq'
    · split at hq' <;> first | (cases hq'; done) | skip
      cases hq'
      cases hs
      exact c12 σ
    · exact clC_ok hq' hs σ
theorem call9 : ∃ σ', ACall Try.prog G0 9 [] [] (.bool true) σ' := by
  have hlp : LoopsOk Try.prog G0 (fun r => r = none) [] lpK9 (bodyOf Try.prog 9) := lpAnd_ok (lpB_exec exec9b rfl (nth_loop (k := 1) (i := 26) (ids := [10, 26, 44, 49, 55, 59]) ids9 (by decide) (by kernel_rfl) rfl))
    (lpB_exec (exec9v alone_oS alone_oS) rfl (nth_loop (k := 2) (i := 44) (ids := [10, 26, 44, 49, 55, 59]) ids9 (by decide) (by kernel_rfl) rfl))
  refine ⟨hB9 oS oS, ACall.rooms (σ := []) (σ1 := hB9 oS oS) 6 (ACall.saysM clok9 (by kernel_rfl) hlp (runF9 ()) ?_)⟩
  repeat first
    | exact says_leaf
    | refine says_need rfl ?_
    | refine says_need ⟨rfl, rfl⟩ ?_
    | refine says_need ⟨rfl, by decide, by decide⟩ ?_
    | refine says_need ⟨rfl, rfl, by decide⟩ ?_
end Go.Proofs.Ytngaihdpmoajeaa.Am

