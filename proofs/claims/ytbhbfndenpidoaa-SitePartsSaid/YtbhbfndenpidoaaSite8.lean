/-
  This file proves nothing of a law. It says what both Counts and both DomainOfs return. Condition: the lists have at most 40 elements.
-/
import Derived.Test.YtbhbfndenpidoaaSite7
namespace Go.Proofs.Ytbhbfndenpidoaa.Am
open Go
set_option maxRecDepth 100000

def cl7 (s : Site) : FuncId → List AV → Option (Tree AV) := fun f xs => match f, xs with
  | 10, [x] => some (.need (x = s.av) (.leaf (.bool s.ok)))
  | 11, [x] => some (.need (x = s.av) (.leaf (.bool s.ok)))
  | 24, [.int .i64 n, .int .i64 l] => some (.leaf (.bool (idx n l)))
  | _, _ => none
def E7 (s : Site) : Env := { cl := cl7 s }
theorem clok7 (s : Site) (hf : s.Few) : ClOk Try.prog G0 (E7 s) := by
  refine .of rfl rfl ?_
  intro f xs t v h hs σ
  have h : cl7 s f xs = some t := h
  unfold cl7 at h
  split at h <;> first | (cases h; done) | skip
  · cases h
    obtain ⟨e1, hs2⟩ := Tree.of_need hs
    subst e1
    cases hs2
    exact c10 s hf σ
  · cases h
    obtain ⟨e1, hs2⟩ := Tree.of_need hs
    subst e1
    cases hs2
    rw [ok_eq s hf]
    exact c11 s hf σ
  · cases h
    cases hs
    exact c24 _ _ σ

/-! ### Count -/
def Site.count (s : Site) (d : Int) : Int := bif !s.ok then 0 else bif d == 1 then s.nH else bif d == 2 then s.nR else bif d == 3 then 4 else bif d == 4 then s.nF else bif d == 5 then s.nL else 0
def countT (s : Site) (d : Int) : Tree AV := .need (s.av = s.av) (.ite (!s.ok) (.leaf (I 0)) (.ite (d == 1) (.leaf (I s.nH)) (.ite (d == 2) (.leaf (I s.nR)) (.ite (d == 3) (.leaf (I 4)) (.ite (d == 4) (.leaf (I s.nF)) (.ite (d == 5) (.leaf (I s.nL)) (.leaf (I 0))))))))
theorem countT_sel (s : Site) (d : Int) : (countT s d).sel = some (I (s.count d)) := by
  unfold countT Site.count
  rw [selR]
  simp only [selI, selL]
  cases s.ok <;> cases d == 1 <;> cases d == 2 <;> cases d == 3 <;> cases d == 4 <;> cases d == 5 <;> rfl
theorem below_sd (s : Site) {k : IntKind} {d : Int} {x : AV} (h : x ∈ [s.av, .int k d]) : Below 0 x := by
  simp only [List.mem_cons, List.not_mem_nil, or_false] at h
  rcases h with rfl | rfl
  · exact s.below
  · exact .int _ _
theorem below_sdh (s : Site) {k : IntKind} {d h : Int} {x : AV} (hx : x ∈ [s.av, .int k d, I h]) : Below 0 x := by
  simp only [List.mem_cons, List.not_mem_nil, or_false] at hx
  rcases hx with rfl | rfl | rfl
  · exact s.below
  · exact .int _ _
  · exact .int _ _
theorem c12 (s : Site) (hf : s.Few) (d : Int) (σ : Heap) : ACall Try.prog G0 12 [s.av, .int .u8 d] σ (I (s.count d)) σ := by
  have run : xPure Try.prog G0 (E7 s) 200 noLoops 12 [s.av, .int .u8 d] [true, true] = countT s d := by kernel_rfl
  exact xPure_ok (lp := noLoops) (n := 200) (tags := [true, true]) names mixed (clok7 s hf) gbelow0 (LoopsOk.none _) (by rw [run]; exact countT_sel s d) (fun x hx => below_sd s hx) σ
theorem c13 (s : Site) (hf : s.Few) (d : Int) (σ : Heap) : ACall Try.prog G0 13 [s.av, .int .u8 d] σ (I (s.count d)) σ := by
  have run : xPure Try.prog G0 (E7 s) 200 noLoops 13 [s.av, .int .u8 d] [true, true] = countT s d := by kernel_rfl
  exact xPure_ok (lp := noLoops) (n := 200) (tags := [true, true]) names mixed (clok7 s hf) gbelow0 (LoopsOk.none _) (by rw [run]; exact countT_sel s d) (fun x hx => below_sd s hx) σ

/-! ### What a valid site's numbers are -/
theorem idx_iff {a n : Int} : idx a n = true ↔ 0 ≤ a ∧ a < n := by simp [idx]
theorem valid_any {s : Site} (h : s.ok = true) : s.anyB = false ∧ s.anyR = false ∧ s.anyH = false ∧ s.sizes = true := by
  unfold Site.ok at h
  revert h
  cases s.sizes <;> cases s.anyF <;> cases s.anyB <;> cases s.anyL <;> cases s.anyR <;> cases s.anyK <;> cases s.anyH <;> simp
theorem valid_host {s : Site} (h : s.ok = true) {i : Nat} (hi : i < s.nH) : 0 ≤ s.H i 0 ∧ s.H i 0 < s.nR := by
  have h1 := (any_iff s.badH s.nH).1 (valid_any h).2.2.1 i hi
  unfold Site.badH badH at h1
  have : idx (s.H i 0) s.nR = true := by
    revert h1; cases idx (s.H i 0) s.nR <;> simp
  exact idx_iff.1 this
theorem valid_rack {s : Site} (h : s.ok = true) {i : Nat} (hi : i < s.nR) : (0 ≤ s.R i 0 ∧ s.R i 0 < 4) ∧ (0 ≤ s.R i 1 ∧ s.R i 1 < s.nB) ∧ (0 ≤ s.R i 2 ∧ s.R i 2 < s.nL) := by
  have h1 := (any_iff s.badR s.nR).1 (valid_any h).2.1 i hi
  unfold Site.badR badR at h1
  refine ⟨idx_iff.1 ?_, idx_iff.1 ?_, idx_iff.1 ?_⟩
  · revert h1; cases idx (s.R i 0) 4 <;> simp
  · revert h1; cases idx (s.R i 0) 4 <;> cases idx (s.R i 1) s.nB <;> simp
  · revert h1; cases idx (s.R i 0) 4 <;> cases idx (s.R i 1) s.nB <;> cases idx (s.R i 2) s.nL <;> simp
theorem valid_breaker {s : Site} (h : s.ok = true) {i : Nat} (hi : i < s.nB) : 0 ≤ s.B i 0 ∧ s.B i 0 < s.nF := by
  have h1 := (any_iff s.badB s.nB).1 (valid_any h).1 i hi
  unfold Site.badB badB at h1
  refine idx_iff.1 ?_
  revert h1; cases idx (s.B i 0) s.nF <;> simp

/-! ### DomainOf -/
def Site.rackOf (s : Site) (h : Int) : Int := s.H h.toNat 0
/-- The domain of a host of a valid site. -/
def Site.dom (s : Site) (d h : Int) : Int := bif d == 1 then h else bif d == 2 then s.H h.toNat 0 else bif d == 3 then s.R (s.H h.toNat 0).toNat 0 else bif d == 4 then s.B (s.R (s.H h.toNat 0).toNat 1).toNat 0 else bif d == 5 then s.R (s.H h.toNat 0).toNat 2 else -1
def domT (s : Site) (d h : Int) : Tree AV :=
  .need (0 ≤ h ∧ h < s.nH) (.ite (d == 1) (.leaf (I h)) (.ite (d == 2) (.leaf (I (s.H h.toNat 0))) (.ite (d == 3) (.need (0 ≤ s.H h.toNat 0 ∧ s.H h.toNat 0 < s.nR) (.leaf (I (s.R (s.H h.toNat 0).toNat 0))))
    (.ite (d == 4) (.need (0 ≤ s.H h.toNat 0 ∧ s.H h.toNat 0 < s.nR) (.need (0 ≤ s.R (s.H h.toNat 0).toNat 1 ∧ s.R (s.H h.toNat 0).toNat 1 < s.nB) (.leaf (I (s.B (s.R (s.H h.toNat 0).toNat 1).toNat 0)))))
      (.ite (d == 5) (.need (0 ≤ s.H h.toNat 0 ∧ s.H h.toNat 0 < s.nR) (.leaf (I (s.R (s.H h.toNat 0).toNat 2)))) (.leaf (I (-1))))))))
theorem domT_sel {s : Site} (hok : s.ok = true) {d h : Int} (hh : 0 ≤ h ∧ h < s.nH) : (domT s d h).sel = some (I (s.dom d h)) := by
  have h1 := valid_host hok (i := h.toNat) (by omega)
  have h2 := (valid_rack hok (i := (s.H h.toNat 0).toNat) (by omega)).2.1
  unfold domT Site.dom
  rw [Tree.sel_need hh]
  simp only [selI, selL, Tree.sel_need h1, Tree.sel_need h2]
  cases d == 1 <;> cases d == 2 <;> cases d == 3 <;> cases d == 4 <;> cases d == 5 <;> rfl
theorem c39 (s : Site) (hok : s.ok = true) (d h : Int) (hh : 0 ≤ h ∧ h < s.nH) (σ : Heap) : ACall Try.prog G0 39 [s.av, .int .u8 d, I h] σ (I (s.dom d h)) σ := by
  have run : xPure Try.prog G0 E0 200 noLoops 39 [s.av, .int .u8 d, I h] [true, true, true] = domT s d h := by kernel_rfl
  exact xPure_ok (lp := noLoops) (n := 200) (tags := [true, true, true]) names mixed (clok0 (E := E0) rfl) gbelow0 (LoopsOk.none _) (by rw [run]; exact domT_sel hok hh) (fun x hx => below_sdh s hx) σ
def Site.domOf (s : Site) (d h : Int) : Int := bif !idx h s.nH then -1 else bif !s.ok then -1 else s.dom d h
theorem c14 (s : Site) (hf : s.Few) (d h : Int) (σ : Heap) : ACall Try.prog G0 14 [s.av, .int .u8 d, I h] σ (I (s.domOf d h)) σ := by
  have run : xPure Try.prog G0 (E7 s) 200 noLoops 14 [s.av, .int .u8 d, I h] [true, true, true] = .ite (!idx h s.nH) (.leaf (I (-1))) (.need (s.av = s.av) (.ite (!s.ok) (.leaf (I (-1))) (domT s d h))) := by kernel_rfl
  refine xPure_ok (lp := noLoops) (n := 200) (tags := [true, true, true]) names mixed (clok7 s hf) gbelow0 (LoopsOk.none _) ?_ (fun x hx => below_sdh s hx) σ
  rw [run, selI, selR, selI]
  unfold Site.domOf
  by_cases h1 : idx h s.nH = true
  · by_cases h2 : s.ok = true
    · rw [domT_sel h2 (idx_iff.1 h1), h1, h2]; rfl
    · have h2 : s.ok = false := by simpa using h2
      rw [h1, h2]; rfl
  · have h1 : idx h s.nH = false := by simpa using h1
    rw [h1]; rfl
theorem c15 (s : Site) (hf : s.Few) (d h : Int) (σ : Heap) : ACall Try.prog G0 15 [s.av, .int .u8 d, I h] σ (I (s.domOf d h)) σ := by
  have run : xPure Try.prog G0 (E7 s) 200 noLoops 15 [s.av, .int .u8 d, I h] [true, true, true] = .need (s.av = s.av) (.ite (!s.ok) (.leaf (I (-1))) (.ite (decide (h < 0)) (.leaf (I (-1))) (.ite (decide (h ≥ (s.nH : Int))) (.leaf (I (-1))) (domT s d h)))) := by kernel_rfl
  refine xPure_ok (lp := noLoops) (n := 200) (tags := [true, true, true]) names mixed (clok7 s hf) gbelow0 (LoopsOk.none _) ?_ (fun x hx => below_sdh s hx) σ
  rw [run, selR, selI, selI, selI]
  unfold Site.domOf
  by_cases h2 : s.ok = true
  · by_cases h1 : idx h s.nH = true
    · have h3 := idx_iff.1 h1
      rw [domT_sel h2 h3, h1, h2, decide_eq_false (by omega : ¬ h < 0), decide_eq_false (by omega : ¬ h ≥ (s.nH : Int))]; rfl
    · have h4 : ¬ (0 ≤ h ∧ h < (s.nH : Int)) := fun h5 => h1 (idx_iff.2 h5)
      have h1 : idx h s.nH = false := by simpa using h1
      rw [h1, h2]
      by_cases h5 : h < 0
      · rw [decide_eq_true h5]; rfl
      · rw [decide_eq_false h5, decide_eq_true (by omega : h ≥ (s.nH : Int))]; rfl
  · have h2 : s.ok = false := by simpa using h2
    rw [h2]
    cases idx h s.nH <;> rfl
end Go.Proofs.Ytbhbfndenpidoaa.Am
