/-
  This file proves nothing of a law. It says what the loops of the statement 'SiteParts' do for one kind of domains. Condition: a valid site whose lists have at most 40 elements.
-/
import Derived.Test.YtbhbfndenpidoaaParts1
namespace Go.Proofs.Ytbhbfndenpidoaa.Am
open Go
set_option maxRecDepth 100000

theorem fstStop_lt (n : Nat) : fstStop (fun k => !decide ((k : Int) < n)) n 0 = n := by
  have h1 := fstStop_le (stop := fun k => !decide ((k : Int) < n)) n 0
  have h2 := fstStop_at (stop := fun k => !decide ((k : Int) < n)) n 0 (by simp)
  simp only [Bool.not_eq_true', decide_eq_false_iff_not] at h2
  omega

/-- How often each host was met: in the domains below i, and among the first k of the list L. -/
def fK (s : Site) (d i : Int) (L : List Int) (k : Nat) : Nat → Int := fun j => if s.domOf d j < i ∨ (j : Int) ∈ L.take k then 1 else 0
def fI (s : Site) (d i : Int) : Nat → Int := fun j => if s.domOf d j < i then 1 else 0
theorem fK_zero (s : Site) (d i : Int) (L : List Int) : fK s d i L 0 = fI s d i := by
  funext j; simp [fK, fI]

section
variable {s : Site} {d n i : Int} {L : List Int} {m : Nat}

theorem fK_succ {k : Nat} (hp : L.Pairwise (· < ·)) (hL : ∀ e ∈ L, 0 ≤ e ∧ e < m ∧ s.domOf d e = i) (hk : k < L.length) : updF (fK s d i L k) (L[k]).toNat (IntKind.i64.wrap (fK s d i L k (L[k]).toNat + 1)) = fK s d i L (k + 1) := by
  obtain ⟨h0, hm, hd⟩ := hL L[k] (List.getElem_mem hk)
  have he : ((L[k]).toNat : Int) = L[k] := by omega
  have hnot : L[k] ∉ L.take k := fun hmem => by
    obtain ⟨j, hj, hjk⟩ := List.getElem_of_mem hmem
    simp only [List.length_take] at hj
    rw [List.getElem_take] at hjk
    have := List.pairwise_iff_getElem.1 hp j k (by omega) hk (by omega)
    omega
  have hz : fK s d i L k (L[k]).toNat = 0 := by
    unfold fK
    rw [he, if_neg]
    rintro (h | h)
    · rw [hd] at h; omega
    · exact hnot h
  rw [hz, show IntKind.i64.wrap (0 + 1) = 1 from rfl]
  funext j
  unfold updF fK
  have hmem : ∀ x, x ∈ L.take (k + 1) ↔ x ∈ L.take k ∨ x = L[k] := fun x => by rw [← List.take_append_getElem hk, List.mem_append, List.mem_singleton]
  simp only [hmem]
  by_cases hj : j = (L[k]).toNat
  · rw [if_pos hj, if_pos (.inr (.inr (by rw [hj, he])))]
  · rw [if_neg hj]
    have hne : (j : Int) ≠ L[k] := fun h => hj (by omega)
    simp only [hne, or_false]

theorem tailPk_sel {k : Nat} (hf : s.Few) (hL : ∀ e ∈ L, 0 ≤ e ∧ e < m ∧ s.domOf d e = i) (hk : k < L.length) (f : Nat → Int) :
    (tailPk s d n i L m f k).sel = some (.normal, stPk s d n i L m (updF f (L[k]).toNat (IntKind.i64.wrap (f (L[k]).toNat + 1))) (IntKind.i64.wrap (k + 1))) := by
  obtain ⟨h0, hm, hd⟩ := hL L[k] (List.getElem_mem hk)
  have hg : L.getD (k : Int).toNat 0 = L[k] := by rw [Int.toNat_natCast]; simp [List.getD_eq_getElem?_getD, hk]
  have hin : 0 ≤ (k : Int) ∧ (k : Int) < L.length := ⟨by omega, by omega⟩
  have hc : 0 ≤ L.getD (k : Int).toNat 0 ∧ L.getD (k : Int).toNat 0 < m ∧ (objAt (hS m f) 0 0).isSome = true := by rw [hg]; exact ⟨h0, hm, rfl⟩
  have ho : offK L k = (L[k]).toNat := by unfold offK; rw [hg]; omega
  have hlt : (L[k]).toNat < m := by omega
  unfold tailPk inL inC
  rw [Tree.sel_need hin, Tree.sel_need ⟨rfl, hf⟩, selI, hg, hd, bne_self_eq_false, cond_false, Tree.sel_need hin]
  rw [hg] at hc
  rw [Tree.sel_need hc, ho, Tree.sel_need (by rw [load_cS hlt]; rfl), Tree.sel_need hc, Tree.sel_need (by rw [store_cS hlt]; rfl)]
  rfl

theorem loopPk (hf : s.Few) (hp : L.Pairwise (· < ·)) (hL : ∀ e ∈ L, 0 ≤ e ∧ e < m ∧ s.domOf d e = i) (hl : L.length ≤ 40) {R : Option Nat → Prop} :
    AExec Try.prog G0 R (.loop bodyPk) { tmps := (stPk s d n i L m (fK s d i L 0) 0).a } (hS m (fK s d i L 0)) (.exit 4) { tmps := (stPk s d n i L m (fK s d i L L.length) L.length).a } (hS m (fK s d i L L.length)) := by
  have key := loopN (P := Try.prog) (G := G0) (R := R) (m := []) (c := bodyPk) (S := fun k => stPk s d n i L m (fK s d i L k) k) (X := fun k => (.exit 4, stPk s d n i L m (fK s d i L k) k)) (stop := fun k => !decide ((k : Int) < L.length)) (N := L.length) (fun k hk hst => ?_) (fun k hk hst => ?_) (by simp) L.length 0 (by omega)
  · rw [fstStop_lt] at key
    exact .loop key
  · refine ⟨(xBody_ok names mixed (clokp s m (fK s d i L k)) (LoopsOk.none bodyPk) (n := 100) (keep := [1,2,3,4,5,6,7,8]) ?_).1, nofun⟩
    show (xBody Try.prog G0 (Ep s m (fK s d i L k)) 100 noLoops [1,2,3,4,5,6,7,8] bodyPk (stPk s d n i L m (fK s d i L k) k)).sel = _
    rw [runPk]
    have h : decide ((k : Int) < L.length) = false := by simpa using hst
    rw [selI, h]
    rfl
  · refine (xBody_ok names mixed (clokp s m (fK s d i L k)) (LoopsOk.none bodyPk) (n := 100) (keep := [1,2,3,4,5,6,7,8]) ?_).1
    show (xBody Try.prog G0 (Ep s m (fK s d i L k)) 100 noLoops [1,2,3,4,5,6,7,8] bodyPk (stPk s d n i L m (fK s d i L k) k)).sel = some (.normal, stPk s d n i L m (fK s d i L (k + 1)) ((k + 1 : Nat) : Int))
    obtain ⟨h0, hm, hd⟩ := hL L[k] (List.getElem_mem hk)
    have hg : L.getD (k : Int).toNat 0 = L[k] := by rw [Int.toNat_natCast]; simp [List.getD_eq_getElem?_getD, hk]
    have hin : 0 ≤ (k : Int) ∧ (k : Int) < L.length := ⟨by omega, by omega⟩
    have hw : IntKind.i64.wrap ((k : Int) + 1) = ((k + 1 : Nat) : Int) := wrap_i64 (by omega) (by omega)
    have ht := tailPk_sel (n := n) hf hL hk (fK s d i L k)
    rw [fK_succ hp hL hk, hw] at ht
    rw [runPk, selI, decide_eq_true hin.2, cond_true]
    unfold inL
    rw [Tree.sel_need hin, selI, hg, decide_eq_false (by omega : ¬ L[k] < 0), cond_false, Tree.sel_need hin, selI, decide_eq_false (by omega : ¬ L[k] ≥ (m : Int)), cond_false, selI]
    by_cases hk0 : (k : Int) > 0
    · have hw1 : IntKind.i64.wrap ((k : Int) - 1) = ((k - 1 : Nat) : Int) := by rw [wrap_i64 (by omega) (by omega)]; omega
      have hg1 : L.getD (IntKind.i64.wrap ((k : Int) - 1)).toNat 0 = L[k - 1] := by
        rw [hw1, Int.toNat_natCast]; simp [List.getD_eq_getElem?_getD, show k - 1 < L.length by omega]
      have hlt := List.pairwise_iff_getElem.1 hp (k - 1) k (by omega) hk (by omega)
      rw [decide_eq_true hk0, cond_true, Tree.sel_need hin, Tree.sel_need (by rw [hw1]; omega), selI, hg1, decide_eq_false (by omega), cond_false]
      exact ht
    · rw [decide_eq_false hk0, cond_false]
      exact ht
end

/-! ### The loop over the domains -/
def lpPk (s : Site) (d n i : Int) (m : Nat) (f f' : Nat → Int) : Loops := fun id => match id with
  | 15 => some ([1,2,3,4,5,6,7,8], stPk s d n i (s.members d i) m f 0, .leaf (.exit 4, stPk s d n i (s.members d i) m f' (s.members d i).length))
  | _ => none
def stPi (s : Site) (d n : Int) (m : Nat) (f : Nat → Int) (i : Int) : St :=
  .of 113 (hS m f) [(1, .row s.cells 0, true), (2, .bool false, false), (3, .int .u8 d, true), (4, .ms 1 0 0 0 m m, true), (5, I n, true), (6, I i, true)]
noncomputable def bodyPi : Code := (loopsOf (bodyOf Try.prog 5)).getD 1 .skip
theorem runPi (s : Site) (d n : Int) (i m : Nat) (f f' : Nat → Int) : xBody Try.prog G0 (Ep s m f) 100 (lpPk s d n i m f f') [1,2,3,4,5,6] bodyPi (stPi s d n m f i) =
    .ite (decide ((i : Int) < n)) (.need (s.av = s.av ∧ s.Few) (.need ((stPk s d n i (s.members d i) m f 0).vals = (stPk s d n i (s.members d i) m f 0).vals) (.leaf (.normal, stPi s d n m f' (IntKind.i64.wrap (i + 1)))))) (.leaf (.exit 2, stPi s d n m f i)) := by kernel_rfl
theorem lpokPk {s : Site} {d n i : Int} {m : Nat} {f f' : Nat → Int} {R : Option Nat → Prop} (h : AExec Try.prog G0 R (.loop bodyPk) { tmps := (stPk s d n i (s.members d i) m f 0).a } (hS m f) (.exit 4) { tmps := (stPk s d n i (s.members d i) m f' (s.members d i).length).a } (hS m f')) :
    LoopsOk Try.prog G0 R [] (lpPk s d n i m f f') bodyPi := by
  refine .of_list _ fun x hx => ?_
  rw [show loopsOf bodyPi = [bodyPk] by kernel_rfl] at hx
  obtain rfl := List.mem_singleton.1 hx
  intro keep s0 t e st' h' hs
  rw [show idOf bodyPk = 15 by kernel_rfl] at h'
  cases h'
  cases hs
  exact ⟨h, rfl⟩
def lpPk0 (s : Site) (d n i : Int) (m : Nat) (f : Nat → Int) : Loops := fun id => match id with
  | 15 => some ([1,2,3,4,5,6,7,8], stPk s d n i (s.members d i) m f 0, .fail)
  | _ => none
theorem runPi0 (s : Site) (d n : Int) (i m : Nat) (f : Nat → Int) : xBody Try.prog G0 (Ep s m f) 100 (lpPk0 s d n i m f) [1,2,3,4,5,6] bodyPi (stPi s d n m f i) =
    .ite (decide ((i : Int) < n)) (.need (s.av = s.av ∧ s.Few) (.need ((stPk s d n i (s.members d i) m f 0).vals = (stPk s d n i (s.members d i) m f 0).vals) .fail)) (.leaf (.exit 2, stPi s d n m f i)) := by kernel_rfl
theorem lpokPk0 (s : Site) (d n i : Int) (m : Nat) (f : Nat → Int) {R : Option Nat → Prop} : LoopsOk Try.prog G0 R [] (lpPk0 s d n i m f) bodyPi := by
  refine .of_list _ fun x hx => ?_
  rw [show loopsOf bodyPi = [bodyPk] by kernel_rfl] at hx
  obtain rfl := List.mem_singleton.1 hx
  intro keep s0 t e st' h' hs
  rw [show idOf bodyPk = 15 by kernel_rfl] at h'
  cases h'
  cases hs

/-! ### What members are -/
theorem mem_iff {p : Nat → Bool} {k : Nat} {e : Int} : e ∈ mem p k ↔ ∃ j : Nat, j < k ∧ p j = true ∧ e = j := by
  unfold mem
  simp only [List.mem_map, List.mem_filter, List.mem_range]
  constructor
  · rintro ⟨j, ⟨h1, h2⟩, rfl⟩; exact ⟨j, h1, h2, rfl⟩
  · rintro ⟨j, h1, h2, rfl⟩; exact ⟨j, ⟨h1, h2⟩, rfl⟩
theorem mem_pairwise (p : Nat → Bool) (k : Nat) : (mem p k).Pairwise (· < ·) := by
  unfold mem
  rw [List.pairwise_map]
  refine List.Pairwise.imp ?_ (List.Pairwise.filter _ List.pairwise_lt_range)
  intro a b h; omega
theorem dom_bounds {s : Site} (hok : s.ok = true) {d : Int} (hd : 1 ≤ d ∧ d ≤ 5) {h : Int} (hh : 0 ≤ h ∧ h < s.nH) : 0 ≤ s.dom d h ∧ s.dom d h < s.count d := by
  have h1 := valid_host hok (i := h.toNat) (by omega)
  have h2 := valid_rack hok (i := (s.H h.toNat 0).toNat) (by omega)
  have h3 := valid_breaker hok (i := (s.R (s.H h.toNat 0).toNat 1).toNat) (by omega)
  unfold Site.dom Site.count
  rw [hok]
  have : d = 1 ∨ d = 2 ∨ d = 3 ∨ d = 4 ∨ d = 5 := by omega
  rcases this with rfl | rfl | rfl | rfl | rfl
  · exact hh
  · exact h1
  · exact h2.1
  · exact h3
  · exact h2.2.2
theorem members_facts {s : Site} (hok : s.ok = true) {d : Int} {i : Int} (hi : 0 ≤ i ∧ i < s.count d) :
    (s.members d i).Pairwise (· < ·) ∧ (∀ e ∈ s.members d i, 0 ≤ e ∧ e < s.nH ∧ s.domOf d e = i) ∧ ∀ j : Nat, s.domOf d j = i → (j : Int) ∈ s.members d i := by
  have hm : s.members d i = mem (inM s d i) s.nH := by
    unfold Site.members; rw [idx_iff.2 hi]; rfl
  rw [hm]
  refine ⟨mem_pairwise _ _, fun e he => ?_, fun j hj => ?_⟩
  · obtain ⟨j, h1, h2, rfl⟩ := mem_iff.1 he
    refine ⟨by omega, by omega, ?_⟩
    rw [Site.domOf, idx_iff.2 ⟨by omega, by omega⟩, hok]
    unfold inM at h2
    simpa using h2
  · have h0 : 0 ≤ s.domOf d j := by omega
    unfold Site.domOf at hj h0
    cases hx : idx (j : Int) s.nH with
    | false => rw [hx] at h0; simp at h0
    | true =>
      rw [hx, hok] at hj
      have := idx_iff.1 hx
      refine mem_iff.2 ⟨j, by omega, ?_, rfl⟩
      unfold inM
      simpa using hj
theorem fK_len {s : Site} (hok : s.ok = true) {d : Int} {i : Int} (hi : 0 ≤ i ∧ i < s.count d) : fK s d i (s.members d i) (s.members d i).length = fI s d (i + 1) := by
  obtain ⟨_, h2, h3⟩ := members_facts hok hi
  funext j
  unfold fK fI
  rw [List.take_length]
  by_cases h : s.domOf d j < i
  · rw [if_pos (.inl h), if_pos (by omega)]
  · by_cases h' : s.domOf d j = i
    · rw [if_pos (.inr (h3 j h')), if_pos (by omega)]
    · rw [if_neg, if_neg (by omega)]
      rintro (k | k)
      · exact h k
      · exact h' (h2 _ k).2.2
theorem count_bounds {s : Site} (hok : s.ok = true) {d : Int} (hd : 1 ≤ d ∧ d ≤ 5) : 1 ≤ s.count d ∧ s.count d ≤ 16 := by
  have hs := (valid_any hok).2.2.2
  unfold Site.sizes at hs
  simp only [Bool.and_eq_true, btw_iff] at hs
  unfold Site.count
  rw [hok]
  have : d = 1 ∨ d = 2 ∨ d = 3 ∨ d = 4 ∨ d = 5 := by omega
  rcases this with rfl | rfl | rfl | rfl | rfl
  · show 1 ≤ (s.nH : Int) ∧ (s.nH : Int) ≤ 16; omega
  · show 1 ≤ (s.nR : Int) ∧ (s.nR : Int) ≤ 16; omega
  · show 1 ≤ (4 : Int) ∧ (4 : Int) ≤ 16; omega
  · show 1 ≤ (s.nF : Int) ∧ (s.nF : Int) ≤ 16; omega
  · show 1 ≤ (s.nL : Int) ∧ (s.nL : Int) ≤ 16; omega

theorem loopPi {s : Site} (hf : s.Few) (hok : s.ok = true) {d : Int} (hd : 1 ≤ d ∧ d ≤ 5) {R : Option Nat → Prop} :
    AExec Try.prog G0 R (.loop bodyPi) { tmps := (stPi s d (s.count d) s.nH (fI s d 0) 0).a } (hS s.nH (fI s d 0)) (.exit 2) { tmps := (stPi s d (s.count d) s.nH (fI s d (s.count d)) (s.count d)).a } (hS s.nH (fI s d (s.count d))) := by
  obtain ⟨c1, c2⟩ := count_bounds hok hd
  obtain ⟨N, hN⟩ : ∃ N : Nat, s.count d = N := ⟨(s.count d).toNat, by omega⟩
  rw [hN]
  have key := loopN (P := Try.prog) (G := G0) (R := R) (m := []) (c := bodyPi) (S := fun k => stPi s d N s.nH (fI s d k) k) (X := fun k => (.exit 2, stPi s d N s.nH (fI s d k) k)) (stop := fun k => !decide ((k : Int) < N)) (N := N) (fun k hk hst => ?_) (fun k hk hst => ?_) (by simp) N 0 (by omega)
  · rw [fstStop_lt] at key
    exact .loop key
  · have h : decide ((k : Int) < N) = false := by simpa using hst
    refine ⟨(xBody_ok names mixed (clokp s s.nH (fI s d k)) (lpokPk0 s d N k s.nH (fI s d k)) (n := 100) (keep := [1,2,3,4,5,6]) ?_).1, nofun⟩
    show (xBody Try.prog G0 (Ep s s.nH (fI s d k)) 100 (lpPk0 s d N k s.nH (fI s d k)) [1,2,3,4,5,6] bodyPi (stPi s d N s.nH (fI s d k) k)).sel = some (.exit 2, stPi s d N s.nH (fI s d k) k)
    rw [runPi0, selI, h]
    rfl
  · have hi : 0 ≤ (k : Int) ∧ (k : Int) < s.count d := ⟨by omega, by omega⟩
    obtain ⟨f1, f2, f3⟩ := members_facts hok hi
    have hl := members_len s hf d k
    have hk1 := loopPk (n := N) (R := R) hf f1 f2 hl
    rw [fK_zero, fK_len hok hi] at hk1
    refine (xBody_ok names mixed (clokp s s.nH (fI s d k)) (lpokPk hk1) (n := 100) (keep := [1,2,3,4,5,6]) ?_).1
    have hw : IntKind.i64.wrap ((k : Int) + 1) = ((k + 1 : Nat) : Int) := wrap_i64 (by omega) (by omega)
    show (xBody Try.prog G0 (Ep s s.nH (fI s d k)) 100 (lpPk s d N k s.nH (fI s d k) (fI s d (k + 1))) [1,2,3,4,5,6] bodyPi (stPi s d N s.nH (fI s d k) k)).sel = some (.normal, stPi s d N s.nH (fI s d ((k + 1 : Nat) : Int)) ((k + 1 : Nat) : Int))
    rw [runPi, selI, decide_eq_true (by omega : (k : Int) < N), cond_true, Tree.sel_need ⟨rfl, hf⟩, selR, hw]
    rfl

/-! ### The last loop: each host was met once -/
def stPe (s : Site) (d : Int) (m : Nat) (f : Nat → Int) (k : Int) : St :=
  .of 113 (hS m f) [(1, .row s.cells 0, true), (2, .bool false, false), (3, .int .u8 d, true), (4, .ms 1 0 0 0 m m, true), (9, I k, true)]
noncomputable def bodyPe : Code := (loopsOf (bodyOf Try.prog 5)).getD 3 .skip
theorem runPe (s : Site) (d : Int) (m : Nat) (f : Nat → Int) (k : Nat) : xBody Try.prog G0 (Ep s m f) 100 noLoops [1,2,3,4,9] bodyPe (stPe s d m f k) =
    .ite (decide ((k : Int) < m)) (.need (0 ≤ (k : Int) ∧ (k : Int) < m ∧ (objAt (hS m f) 0 0).isSome = true) (.need ((aLoad Try.prog (hS m f) 3 (.ref 0 0 (0 + (k : Int).toNat * 1))).map (·, hS m f) = some (I (f (0 + (k : Int).toNat * 1)), hS m f))
      (.ite (f (0 + (k : Int).toNat * 1) != 1) (.leaf (.ret, stPe s d m f k)) (.leaf (.normal, stPe s d m f (IntKind.i64.wrap (k + 1))))))) (.leaf (.exit 6, stPe s d m f k)) := by kernel_rfl
theorem loopPe {s : Site} {d : Int} {m : Nat} {f : Nat → Int} (hm : m ≤ 40) (h1 : ∀ j, j < m → f j = 1) {R : Option Nat → Prop} :
    AExec Try.prog G0 R (.loop bodyPe) { tmps := (stPe s d m f 0).a } (hS m f) (.exit 6) { tmps := (stPe s d m f m).a } (hS m f) := by
  have key := loopN (P := Try.prog) (G := G0) (R := R) (m := []) (c := bodyPe) (S := fun k => stPe s d m f k) (X := fun k => (.exit 6, stPe s d m f k)) (stop := fun k => !decide ((k : Int) < m)) (N := m) (fun k hk hst => ?_) (fun k hk hst => ?_) (by simp) m 0 (by omega)
  · rw [fstStop_lt] at key
    exact .loop key
  · refine ⟨(xBody_ok names mixed (clokp s m f) (LoopsOk.none bodyPe) (n := 100) (keep := [1,2,3,4,9]) ?_).1, nofun⟩
    show (xBody Try.prog G0 (Ep s m f) 100 noLoops [1,2,3,4,9] bodyPe (stPe s d m f k)).sel = _
    rw [runPe]
    have h : decide ((k : Int) < m) = false := by simpa using hst
    rw [selI, h]
    rfl
  · refine (xBody_ok names mixed (clokp s m f) (LoopsOk.none bodyPe) (n := 100) (keep := [1,2,3,4,9]) ?_).1
    have hw : IntKind.i64.wrap ((k : Int) + 1) = ((k + 1 : Nat) : Int) := wrap_i64 (by omega) (by omega)
    have ho : 0 + (k : Int).toNat * 1 = k := by omega
    show (xBody Try.prog G0 (Ep s m f) 100 noLoops [1,2,3,4,9] bodyPe (stPe s d m f k)).sel = some (.normal, stPe s d m f ((k + 1 : Nat) : Int))
    rw [runPe, selI, decide_eq_true (by omega : (k : Int) < m), cond_true, Tree.sel_need ⟨by omega, by omega, rfl⟩, ho, Tree.sel_need (by rw [load_cS hk]; rfl), selI, h1 k hk, bne_self_eq_false, hw]
    rfl
end Go.Proofs.Ytbhbfndenpidoaa.Am
