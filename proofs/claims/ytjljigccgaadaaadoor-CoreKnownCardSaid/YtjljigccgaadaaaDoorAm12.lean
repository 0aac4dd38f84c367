/-
  This file proves nothing of a law. It holds the rule for a statement that leaves its order open, carried out in pieces: a piece that leaves the heap as it is, or one operation for which all others stand in line. No condition.
-/
import Derived.Test.YtjljigccgaadaaaDoorAm11
namespace Go.Proofs.YtjljigccgaadaaaDoor.Am
open Go
section
variable {P : Program} {G : Nat → Option (List AV)} {σ : Heap}

/-- The pieces of a statement, one after the other. -/
inductive AStages (P : Program) (G : Nat → Option (List AV)) (ops : List Oper) (marks : List Nat) : Nat → List AV → Heap → List AV → Heap → Prop where
  | done {b : Nat} {a : List AV} {σ : Heap} (hb : ops.length ≤ b) : AStages P G ops marks b a σ a σ
  | still {b n : Nat} {a a1 a' : List AV} {σ σ' : Heap} (hn : b + n ≤ ops.length) (h : AOpsD P G σ ops.toArray marks ((ops.drop b).take n) a a1) (hc : okStill ops b n = true) (hf : okFence ops (b + n) = true)
      (k : AStages P G ops marks (b + n) a1 σ a' σ') : AStages P G ops marks b a σ a' σ'
  | one {b : Nat} {o : Oper} {a a' : List AV} {σ σ1 σ' : Heap} {y : AV} (ho : ops[b]? = some o) (hw : awanted ops.toArray a o = some true) (h : AStep P G { tmps := a, marks := marks } σ o y σ1) (hf : okFence ops (b + 1) = true)
      (k : AStages P G ops marks (b + 1) (AAct.put { tmps := a } o.dst y).tmps σ1 a' σ') : AStages P G ops marks b a σ a' σ'
  | none {b : Nat} {o : Oper} {a a' : List AV} {σ σ' : Heap} (ho : ops[b]? = some o) (hw : awanted ops.toArray a o = some false) (hf : okFence ops (b + 1) = true)
      (k : AStages P G ops marks (b + 1) (AAct.put { tmps := a } o.dst (.tup [])).tmps σ a' σ') : AStages P G ops marks b a σ a' σ'

theorem okDraw_apart {ops : List Oper} (h : okDraw ops = true) : Apart ops := by
  intro i j t hi hj
  unfold okDraw at h
  rw [Bool.and_eq_true] at h
  have lt : ∀ (k : Nat) (t : Tmp), dstAt ops k = some t → k < ops.length := fun k t hk => by
    rcases Nat.lt_or_ge k ops.length with h | h
    · exact h
    · unfold dstAt at hk; rw [List.getElem?_eq_none h] at hk; cases hk
  have h1 := List.all_eq_true.1 (List.all_eq_true.1 h.1 i (List.mem_range.2 (lt i t hi))) j (List.mem_range.2 (lt j t hj))
  rw [hi, hj] at h1
  simpa using h1
theorem okDraw_back {ops : List Oper} (h : okDraw ops = true) {i : Nat} {o : Oper} (ho : ops[i]? = some o) : ∀ e ∈ o.after, Region.binds .any e = true → e.on < i := by
  intro e he hb
  unfold okDraw at h
  rw [Bool.and_eq_true] at h
  have h1 := List.all_eq_true.1 h.2 i (List.mem_range.2 (List.getElem?_eq_some_iff.1 ho).1)
  rw [ho] at h1
  have h2 := List.all_eq_true.1 h1 e (by simpa using he)
  rw [hb] at h2
  simpa using h2

/-- What the masks say of an operation of which nothing hinders that it be listed. -/
theorem befores_of {ops : List Oper} {i : Nat} {o : Oper} (ho : ops[i]? = some o) {listed : Nat → Bool} (hc : Closed ops listed) (hp : ∀ e ∈ o.after, Region.binds .any e = true → listed e.on = true) {j : Nat} (hj : ((befores ops []).getD i 0).testBit j = true) : listed j = true :=
  befores_ok ops [] (fun k hk => by simp) (by simp) (fun i hi => absurd hi (by simp)) i (List.getElem?_eq_some_iff.1 ho).1 o ho listed hc hp j hj

theorem okFence_spec {ops : List Oper} {b i j : Nat} {o : Oper} (h : okFence ops b = true) (ho : ops[i]? = some o) (hi : b ≤ i) (hj : j < b) : ((befores ops []).getD i 0).testBit j = true := by
  unfold okFence at h
  have h1 := List.all_eq_true.1 h i (List.mem_range.2 (List.getElem?_eq_some_iff.1 ho).1)
  simp only [Bool.or_eq_true, decide_eq_true_eq] at h1
  rcases h1 with h1 | h1
  · omega
  · exact List.all_eq_true.1 h1 j (List.mem_range.2 hj)

theorem okStill_spec {ops : List Oper} {b n i j : Nat} {o : Oper} {t : Tmp} (h : okStill ops b n = true) (hi : b ≤ i) (hi' : i < b + n) (hj : b ≤ j) (hj' : j < b + n) (hne : i ≠ j) (ho : ops[i]? = some o) (hd : dstAt ops j = some t)
    (hl : (o.looksAt ops.toArray).contains t = true) : (j < i → ((befores ops []).getD i 0).testBit j = true) ∧ (i < j → ((befores ops []).getD j 0).testBit i = true) := by
  obtain ⟨i', rfl⟩ := Nat.exists_eq_add_of_le hi
  obtain ⟨j', rfl⟩ := Nat.exists_eq_add_of_le hj
  unfold okStill at h
  have h1 := List.all_eq_true.1 (List.all_eq_true.1 h i' (List.mem_range.2 (by omega))) j' (List.mem_range.2 (by omega))
  rw [ho, hd] at h1
  simp only [hl, Bool.not_true, Bool.false_or, Bool.or_eq_true, beq_iff_eq] at h1
  rcases h1 with h1 | h1
  · omega
  · constructor
    · intro hlt
      rw [if_pos (by omega)] at h1
      exact h1
    · intro hlt
      rw [if_neg (by omega)] at h1
      exact h1

/-! ### The listing as the walk finds it -/
def lf (listed : Array Bool) (j : Nat) : Bool := listed.getD j false
theorem lf_set {listed : Array Bool} {i j : Nat} (hi : i < listed.size) : lf (listed.setIfInBounds i true) j = (decide (j = i) || lf listed j) := by
  unfold lf
  simp only [Array.getD_eq_getD_getElem?, Array.getElem?_setIfInBounds]
  by_cases h : i = j
  · subst h; simp [hi]
  · rw [if_neg h]
    simp [Ne.symm h]
theorem count_set {listed : Array Bool} {i : Nat} (hi : i < listed.size) (hu : lf listed i = false) : (listed.setIfInBounds i true).count true = listed.count true + 1 := by
  rw [Array.setIfInBounds_def, dif_pos hi, Array.count_set]
  unfold lf at hu
  simp only [Array.getD_eq_getD_getElem?, Array.getElem?_eq_getElem hi, Option.getD_some] at hu
  simp [hu]
theorem count_lt {listed : Array Bool} {i : Nat} (hi : i < listed.size) (hu : lf listed i = false) : listed.count true < listed.size := by
  have h1 := count_set hi hu
  have h2 : (listed.setIfInBounds i true).count true ≤ (listed.setIfInBounds i true).size := Array.count_le_size
  rw [Array.size_setIfInBounds] at h2
  omega

/-- The listing, ready for a next operation. -/
structure Ls (ops : List Oper) (listed : Array Bool) (fuel : Nat) : Prop where
  size : listed.size = ops.length
  closed : Closed ops (lf listed)
  fuel : ops.length ≤ fuel + listed.count true

theorem Ls.set {ops : List Oper} {listed : Array Bool} {fuel i : Nat} {o : Oper} (h : Ls ops listed (fuel + 1)) (ho : ops[i]? = some o) (hu : lf listed i = false) (hp : ∀ e ∈ o.after, Region.binds .any e = true → lf listed e.on = true) : Ls ops (listed.setIfInBounds i true) fuel := by
  have hi : i < listed.size := by rw [h.size]; exact (List.getElem?_eq_some_iff.1 ho).1
  refine ⟨by rw [Array.size_setIfInBounds, h.size], fun k ok hk hl e he hb => ?_, ?_⟩
  · rw [lf_set hi] at hl ⊢
    simp only [Bool.or_eq_true, decide_eq_true_eq] at hl ⊢
    rcases hl with rfl | hl
    · rw [ho] at hk; cases hk
      exact .inr (hp e he hb)
    · exact .inr (h.closed k ok hk hl e he hb)
  · have := h.fuel
    rw [count_set hi hu]
    omega

theorem lf_of_true {listed : Array Bool} {j : Nat} (h : listed.getD j true = false) : lf listed j = false := by
  unfold lf
  simp only [Array.getD_eq_getD_getElem?] at h ⊢
  cases hj : listed[j]? with
  | none => rw [hj] at h; simp at h
  | some x => rw [hj] at h; simpa using h
theorem true_of_lf {listed : Array Bool} {j : Nat} (hj : j < listed.size) (h : lf listed j = false) : listed.getD j true = false := by
  unfold lf at h
  simp only [Array.getD_eq_getD_getElem?, Array.getElem?_eq_getElem hj, Option.getD_some] at h ⊢
  exact h

theorem ready_spec {ops : List Oper} {listed : Array Bool} {i : Nat} (h : i ∈ Region.ready .any ops.toArray listed) : lf listed i = false ∧ ∃ o, ops[i]? = some o ∧ ∀ e ∈ o.after, Region.binds .any e = true → lf listed e.on = true := by
  obtain ⟨h1, o, h2, h3⟩ := mem_ready.1 h
  exact ⟨lf_of_true h1, o, by simpa using h2, h3⟩

/-- As long as something is not listed, something is ready. -/
theorem ready_ne {ops : List Oper} {listed : Array Bool} (hd : okDraw ops = true) (hs : listed.size = ops.length) : ∀ {i : Nat}, i < ops.length → lf listed i = false → Region.ready .any ops.toArray listed ≠ [] := by
  intro i
  induction i using Nat.strongRecOn with
  | _ i ih =>
    intro hi hu hnil
    obtain ⟨o, ho⟩ : ∃ o, ops[i]? = some o := ⟨_, List.getElem?_eq_getElem hi⟩
    by_cases hall : ∀ e ∈ o.after, Region.binds .any e = true → lf listed e.on = true
    · have : i ∈ Region.ready .any ops.toArray listed := mem_ready.2 ⟨true_of_lf (by omega) hu, o, by simpa using ho, hall⟩
      rw [hnil] at this
      cases this
    · simp only [Classical.not_forall] at hall
      obtain ⟨e, he, hb, hl⟩ := hall
      have hlt := okDraw_back hd ho e he hb
      exact ih e.on hlt (by omega) (by simpa using hl) hnil

theorem Worth.ok {ops : Array Oper} {marks : List Nat} {o : Oper} {v : List AV} {y : AV} (h : Worth P G σ ops marks o v y) {r0 : Option Nat} {w : World} {M : Map} {ac : Act} {K : Act → World → Prop} {Q : Exit → Act → World → Prop} {i : Nat} (ho : ops[i]? = some o)
    (hi : Inv G w M σ) (ha : RAct w M ac { tmps := v, marks := marks }) (hK : ∀ u w' M', RV w' M' u y → Ext w M w' M' → Inv G w' M' σ → K (ac.put o.dst u) w') : wpOpIn (FW r0) 0 P ops Q i K ac w := by
  unfold wpOpIn
  simp only [ho]
  rcases h with ⟨hw, hs⟩ | ⟨hw, rfl⟩
  · rw [if_pos (awanted_ok ha.tmps hw)]
    exact hs r0 w M ac K Q hi ha hK
  · rw [if_neg (by rw [awanted_ok ha.tmps hw]; simp)]
    exact ⟨fun f _ => FW_fn r0 f, hK undef w M (.undef w M) (.refl w M) hi⟩

/-- The frame as a function of the temporaries. -/
structure Fr (w : World) (M : Map) (ac : Act) (marks : List Nat) (len : Nat) (f : Nat → Option AV) : Prop where
  act : RAct w M ac { tmps := List.replicate len .junk, marks := marks }
  val : ∀ t x, f t = some x → RV w M (ac.tmps.getD t undef) x

theorem Fr.of {w : World} {M : Map} {ac : Act} {marks : List Nat} {a : List AV} (h : RAct w M ac { tmps := a, marks := marks }) : Fr w M ac marks a.length fun t => a[t]? :=
  ⟨⟨⟨by rw [h.tmps.1]; simp, fun j x hj => by rw [List.eq_of_mem_replicate (List.mem_of_getElem? hj)]; exact .junk _⟩, h.marks⟩, fun t x ht => h.tmps.2 t x ht⟩
theorem Fr.act_of {w : World} {M : Map} {ac : Act} {marks : List Nat} {len : Nat} {f : Nat → Option AV} (h : Fr w M ac marks len f) {a : List AV} (hl : a.length = len) (ha : ∀ t x, a[t]? = some x → x = .junk ∨ f t = some x) : RAct w M ac { tmps := a, marks := marks } :=
  ⟨⟨by rw [h.act.tmps.1]; simp [hl], fun t x ht => by
    rcases ha t x ht with rfl | hx
    · exact .junk _
    · exact h.val t x hx⟩, h.act.marks⟩

theorem Fr.put {w w' : World} {M M' : Map} {ac : Act} {marks : List Nat} {len : Nat} {f g : Nat → Option AV} {v : Value} {y : AV} {dst : Option Tmp} (h : Fr w M ac marks len f) (he : Ext w M w' M') (hv : RV w' M' v y)
    (hg : ∀ t x, g t = some x → (dst = some t ∧ x = y ∧ t < len) ∨ (dst ≠ some t ∧ f t = some x)) : Fr w' M' (ac.put dst v) marks len g := by
  have hsz : ac.tmps.size = len := by have := h.act.tmps.1; simpa using this
  constructor
  · have h1 := (h.act.mono he).put (hv) dst
    refine ⟨⟨?_, fun t x ht => ?_⟩, ?_⟩
    · have := h1.tmps.1
      rw [this]
      cases dst <;> simp [AAct.put]
    · rw [List.eq_of_mem_replicate (List.mem_of_getElem? ht)]; exact .junk _
    · have := h1.marks
      cases dst <;> exact this
  · intro t x ht
    rcases hg t x ht with ⟨rfl, rfl, hlt⟩ | ⟨hne, hft⟩
    · simp only [Act.put]
      rw [getD_set (by omega), if_pos rfl]
      exact hv
    · have := (h.val t x hft).mono he
      cases dst with
      | none => exact this
      | some d =>
        simp only [Act.put]
        simp only [Array.getD_eq_getD_getElem?, Array.getElem?_setIfInBounds] at this ⊢
        rw [if_neg (fun e => hne (by rw [e]))]
        exact this

/-- A still piece, from any listing of it. -/
theorem still_go {ops : List Oper} {marks : List Nat} (hd : okDraw ops = true) {b n : Nat} (hn : b + n ≤ ops.length) (hc : okStill ops b n = true) (hf : okFence ops (b + n) = true) {a0 vs : List AV}
    (hv : ∀ i o, b ≤ i → i < b + n → ops[i]? = some o → ∃ (v : List AV) (y : AV), vs[i]? = some y ∧ v.length = a0.length ∧ Worth P G σ ops.toArray marks o v y ∧
      ∀ t x, v[t]? = some x → x = .junk ∨ ((o.looksAt ops.toArray).contains t = true ∧ frameAt ops vs a0 (fun j => decide (b ≤ j ∧ j < i)) t = some x))
    {r0 : Option Nat} {Q : Exit → Act → World → Prop} {w0 : World} {M0 : Map}
    (hK : ∀ (fuel : Nat) (listed : Array Bool) (w : World) (M : Map) (ac : Act), Ls ops listed fuel → (∀ j, j < ops.length → lf listed j = decide (j < b + n)) → Ext w0 M0 w M → Inv G w M σ →
      Fr w M ac marks a0.length (frameAt ops vs a0 (fun j => decide (b ≤ j ∧ j < b + n))) → wpAnyIn (FW r0) 0 P .any ops.toArray Q fuel listed ac w) :
    ∀ (fuel : Nat) (listed : Array Bool) (w : World) (M : Map) (ac : Act), Ls ops listed fuel → (∀ j, j < b → lf listed j = true) → (∀ j, b + n ≤ j → lf listed j = false) → Ext w0 M0 w M → Inv G w M σ →
      Fr w M ac marks a0.length (frameAt ops vs a0 (fun j => decide (b ≤ j) && lf listed j)) → wpAnyIn (FW r0) 0 P .any ops.toArray Q fuel listed ac w := by
  have hap := okDraw_apart hd
  intro fuel
  induction fuel with
  | zero =>
    intro listed w M ac hl hb hn' he hi ha
    have hall : ∀ j, j < ops.length → lf listed j = true := fun j hj => by
      cases hu : lf listed j with
      | true => rfl
      | false => have := count_lt (by rw [hl.size]; exact hj) hu; have := hl.fuel; have := hl.size; omega
    refine hK 0 listed w M ac hl (fun j hj => ?_) he hi ⟨ha.act, fun t x ht => ha.val t x ?_⟩
    · by_cases hlt : j < b + n
      · rw [hall j hj]; simp [hlt]
      · rw [hn' j (by omega)]; simp [hlt]
    · rw [← ht]
      refine frameAt_congr fun j hj => ⟨?_, fun _ => rfl⟩
      by_cases hlt : j < b + n
      · rw [hall j (by omega)]; simp [hlt]
      · rw [hn' j (by omega)]; simp [hlt]
  | succ fuel ih =>
    intro listed w M ac hl hb hn' he hi ha
    by_cases hall : ∀ j, j < b + n → lf listed j = true
    · refine hK (fuel + 1) listed w M ac hl (fun j hj => ?_) he hi ⟨ha.act, fun t x ht => ha.val t x ?_⟩
      · by_cases hlt : j < b + n
        · rw [hall j hlt]; simp [hlt]
        · rw [hn' j (by omega)]; simp [hlt]
      · rw [← ht]
        refine frameAt_congr fun j hj => ⟨?_, fun _ => rfl⟩
        by_cases hlt : j < b + n
        · rw [hall j hlt]; simp [hlt]
        · rw [hn' j (by omega)]; simp [hlt]
    · simp only [Classical.not_forall] at hall
      obtain ⟨u, hu, hun⟩ := hall
      have hun : lf listed u = false := by simpa using hun
      refine ⟨fun hnil => absurd hnil (ready_ne hd hl.size (by omega : u < ops.length) hun), fun i hir => ?_⟩
      obtain ⟨hiu, o, ho, hp⟩ := ready_spec hir
      have hib : b ≤ i := by
        rcases Nat.lt_or_ge i b with h | h
        · rw [hb i h] at hiu; cases hiu
        · exact h
      have hin : i < b + n := by
        rcases Nat.lt_or_ge i (b + n) with h | h
        · exact h
        · have := befores_of ho hl.closed hp (okFence_spec hf ho h hu)
          rw [hun] at this; cases this
      have hilt : i < listed.size := by rw [hl.size]; omega
      obtain ⟨v, y, hy, hvl, hwo, hvt⟩ := hv i o hib hin ho
      have hoa : ops.toArray[i]? = some o := by simpa using ho
      refine hwo.ok hoa hi (ha.act_of hvl fun t x ht => ?_) fun u' w' M' hu' he' hi' => ?_
      · rcases hvt t x ht with rfl | ⟨hlook, hfr⟩
        · exact .inl rfl
        · refine .inr ?_
          rw [← hfr]
          refine frameAt_congr fun j hj => ⟨?_, fun _ => rfl⟩
          by_cases hjb : b ≤ j
          · by_cases hjn : j < b + n
            · by_cases hji : j = i
              · subst hji; simp [hiu]
              · have hsp := okStill_spec hc hib hin hjb hjn (Ne.symm hji) ho hj hlook
                by_cases hlt : j < i
                · have := befores_of ho hl.closed hp (hsp.1 hlt)
                  simp [this, hlt]
                · have hgt : i < j := by omega
                  have : lf listed j = false := by
                    cases hlj : lf listed j with
                    | false => rfl
                    | true =>
                      obtain ⟨oj, hoj⟩ : ∃ oj, ops[j]? = some oj := ⟨_, List.getElem?_eq_getElem (by omega)⟩
                      have := befores_of hoj hl.closed (fun e he hbd => hl.closed j oj hoj hlj e he hbd) (hsp.2 hgt)
                      rw [hiu] at this; cases this
                  simp [this, hlt]
            · rw [hn' j (by omega)]
              have : ¬ (j < i) := by omega
              simp [this]
          · simp [hjb]
      · refine ih (listed.setIfInBounds i true) w' M' _ (hl.set ho hiu hp) (fun j hj => ?_) (fun j hj => ?_) (he.trans he') hi' (ha.put he' hu' fun t x ht => ?_)
        · rw [lf_set hilt, hb j hj]; simp
        · rw [lf_set hilt, hn' j hj]
          have : j ≠ i := by omega
          simp [this]
        · by_cases hdt : o.dst = some t
          · have hdi : dstAt ops i = some t := by unfold dstAt; rw [ho]; exact hdt
            rw [frameAt_of hap hdi, lf_set hilt] at ht
            simp only [hib, decide_true, Bool.true_or, Bool.and_self, if_true] at ht
            split at ht
            · rename_i hlt
              rw [hy] at ht
              cases ht
              exact .inl ⟨hdt, rfl, hlt⟩
            · cases ht
          · refine .inr ⟨hdt, ?_⟩
            rw [← ht]
            refine frameAt_congr fun j hj => ⟨?_, fun _ => rfl⟩
            have hji : j ≠ i := fun e => by
              subst e
              unfold dstAt at hj
              rw [ho] at hj
              exact hdt hj
            rw [lf_set hilt]
            simp [hji]

/-- One operation, for which all others stand in line. -/
theorem one_go {ops : List Oper} {marks : List Nat} (hd : okDraw ops = true) {b : Nat} {o : Oper} (ho : ops[b]? = some o) (hf : okFence ops (b + 1) = true) {a : List AV} {y : AV} {σ1 : Heap}
    (hwo : (awanted ops.toArray a o = some true ∧ AStep P G { tmps := a, marks := marks } σ o y σ1) ∨ (awanted ops.toArray a o = some false ∧ y = .tup [] ∧ σ1 = σ)) {r0 : Option Nat} {Q : Exit → Act → World → Prop} {w : World} {M : Map} {ac : Act}
    {fuel : Nat} {listed : Array Bool} (hl : Ls ops listed fuel) (hb : ∀ j, j < ops.length → lf listed j = decide (j < b)) (hi : Inv G w M σ) (ha : RAct w M ac { tmps := a, marks := marks })
    (hK : ∀ (fuel : Nat) (listed : Array Bool) (w' : World) (M' : Map) (ac' : Act), Ls ops listed fuel → (∀ j, j < ops.length → lf listed j = decide (j < b + 1)) → Ext w M w' M' → Inv G w' M' σ1 →
      RAct w' M' ac' { tmps := (AAct.put { tmps := a } o.dst y).tmps, marks := marks } → wpAnyIn (FW r0) 0 P .any ops.toArray Q fuel listed ac' w') : wpAnyIn (FW r0) 0 P .any ops.toArray Q fuel listed ac w := by
  have hblt : b < ops.length := (List.getElem?_eq_some_iff.1 ho).1
  have hbu : lf listed b = false := by rw [hb b hblt]; simp
  have hbs : b < listed.size := by rw [hl.size]; exact hblt
  cases fuel with
  | zero => have := count_lt hbs hbu; have := hl.fuel; have := hl.size; omega
  | succ fuel =>
    refine ⟨fun hnil => absurd hnil (ready_ne hd hl.size hblt hbu), fun i hir => ?_⟩
    obtain ⟨hiu, oi, hoi, hp⟩ := ready_spec hir
    have hilt : i < ops.length := (List.getElem?_eq_some_iff.1 hoi).1
    have hib : b ≤ i := by
      rw [hb i hilt] at hiu
      simpa using hiu
    have hie : i = b := by
      rcases Nat.lt_or_ge b i with h | h
      · have := befores_of hoi hl.closed hp (okFence_spec hf hoi h (Nat.lt_succ_self b))
        rw [hbu] at this; cases this
      · omega
    subst hie
    rw [ho] at hoi
    cases hoi
    have hnext : ∀ j, j < ops.length → lf (listed.setIfInBounds i true) j = decide (j < i + 1) := fun j hj => by
      rw [lf_set hbs, hb j hj]
      by_cases h : j = i
      · subst h; simp
      · simp only [h, decide_false, Bool.false_or]
        apply decide_eq_decide.2; omega
    have hput : ∀ (u : Value) (w' : World) (M' : Map), RV w' M' u y → Ext w M w' M' → Inv G w' M' σ1 → wpAnyIn (FW r0) 0 P .any ops.toArray Q fuel (listed.setIfInBounds i true) (ac.put o.dst u) w' := fun u w' M' hu he hi' => by
      refine hK fuel _ w' M' _ (hl.set ho hbu hp) hnext he hi' ?_
      have := (ha.mono he).put hu o.dst
      cases hd : o.dst with
      | none => rw [hd] at this; exact this
      | some d => rw [hd] at this; exact this
    have hoa : ops.toArray[i]? = some o := by simpa using ho
    unfold wpOpIn
    simp only [hoa]
    rcases hwo with ⟨hw, hs⟩ | ⟨hw, rfl, rfl⟩
    · rw [if_pos (awanted_ok ha.tmps hw)]
      exact hs r0 w M ac _ Q hi ha hput
    · rw [if_neg (by rw [awanted_ok ha.tmps hw]; simp)]
      exact ⟨fun f _ => FW_fn r0 f, hput undef w M (.undef w M) (.refl w M) hi⟩

theorem AStages.go {ops : List Oper} {marks : List Nat} (hd : okDraw ops = true) {b : Nat} {a a' : List AV} {σ σ' : Heap} (h : AStages P G ops marks b a σ a' σ') : ∀ (r0 : Option Nat) (Q : Exit → Act → World → Prop) (fuel : Nat) (listed : Array Bool) (w : World) (M : Map) (ac : Act),
    Ls ops listed fuel → (∀ j, j < ops.length → lf listed j = decide (j < b)) → Inv G w M σ → RAct w M ac { tmps := a, marks := marks } →
    (∀ w' M' ac', Ext w M w' M' → Inv G w' M' σ' → RAct w' M' ac' { tmps := a', marks := marks } → Q .normal ac' w') → wpAnyIn (FW r0) 0 P .any ops.toArray Q fuel listed ac w := by
  induction h with
  | @done b a σ hb =>
    intro r0 Q fuel listed w M ac hl hlb hi ha hQ
    refine wpAnyIn_done ?_ (hQ w M ac (.refl w M) hi ha) fuel
    apply List.eq_nil_iff_forall_not_mem.2
    intro i hir
    obtain ⟨hiu, o, ho, _⟩ := ready_spec hir
    have hlt := (List.getElem?_eq_some_iff.1 ho).1
    rw [hlb i hlt] at hiu
    have : ¬ (i < b) := by simpa using hiu
    omega
  | @still b n a a1 a' σ σ' hn hw hc hf _ ih =>
    intro r0 Q fuel listed w M ac hl hlb hi ha hQ
    have hap := okDraw_apart hd
    have hbl : b ≤ ops.length := by omega
    have hlen : ((ops.drop b).take n).length = n := by simp; omega
    obtain ⟨vs, h1, _, h3, h4, h5⟩ := hw.vals hap (a0 := a) (b := b) (List.replicate b .junk) (by simp) (by simp [hlen]; omega)
      (fun k hk => by rw [hlen] at hk; rw [List.getElem?_take_of_lt hk, List.getElem?_drop]; simp) rfl
      (fun t => by
        have : (fun j => decide (b ≤ j ∧ j < (List.replicate b AV.junk).length)) = fun _ => false := by
          funext j; simp
        rw [this]
        unfold frameAt
        split <;> simp)
    simp only [List.length_replicate, hlen] at h1 h5
    refine still_go hd hn hc hf (a0 := a) (vs := vs) (fun i o hib hin ho => h5 i o hib (by omega) ho) (w0 := w) (M0 := M) ?_ fuel listed w M ac hl (fun j hj => by rw [hlb j (by omega)]; simp [hj]) (fun j hj => ?_) (.refl w M) hi ?_
    · intro fuel2 listed2 w2 M2 ac2 hl2 hlb2 he2 hi2 ha2
      refine ih r0 Q fuel2 listed2 w2 M2 ac2 hl2 hlb2 hi2 (ha2.act_of h3 fun t x ht => .inr ?_) fun w3 M3 ac3 he3 => hQ w3 M3 ac3 (he2.trans he3)
      rw [h4 t, h1] at ht
      exact ht
    · by_cases hjl : j < ops.length
      · rw [hlb j hjl]
        have : ¬ (j < b) := by omega
        simp [this]
      · unfold lf
        simp only [Array.getD_eq_getD_getElem?]
        rw [Array.getElem?_eq_none (by rw [hl.size]; omega)]
        rfl
    · have := Fr.of ha
      refine ⟨this.act, fun t x ht => this.val t x ?_⟩
      rw [← ht]
      unfold frameAt
      split
      · rename_i j hf'
        have h1' := List.find?_some hf'
        have hjl : j < ops.length := by have := List.mem_of_find?_eq_some hf'; simpa using this
        simp only [hlb j hjl]
        by_cases hjb : b ≤ j
        · have : ¬ (j < b) := by omega
          simp [this]
        · simp [hjb]
      · rfl
  | one ho hw hs hf _ ih =>
    intro r0 Q fuel listed w M ac hl hlb hi ha hQ
    exact one_go hd ho hf (.inl ⟨hw, hs⟩) hl hlb hi ha fun fuel2 listed2 w2 M2 ac2 hl2 hlb2 he2 hi2 ha2 => ih r0 Q fuel2 listed2 w2 M2 ac2 hl2 hlb2 hi2 ha2 fun w3 M3 ac3 he3 => hQ w3 M3 ac3 (he2.trans he3)
  | none ho hw hf _ ih =>
    intro r0 Q fuel listed w M ac hl hlb hi ha hQ
    exact one_go hd ho hf (.inr ⟨hw, rfl, rfl⟩) hl hlb hi ha fun fuel2 listed2 w2 M2 ac2 hl2 hlb2 he2 hi2 ha2 => ih r0 Q fuel2 listed2 w2 M2 ac2 hl2 hlb2 hi2 ha2 fun w3 M3 ac3 he3 => hQ w3 M3 ac3 (he2.trans he3)

theorem AExec.draw {R : Option Nat → Prop} {id : Nat} {ops : List Oper} {marks : List Nat} {a a' : List AV} {σ σ' : Heap} (hm : P.follows .mixedOrders = true) (hd : okDraw ops = true) (h : AStages P G ops marks 0 a σ a' σ') :
    AExec P G R (.region id ops.toArray true) { tmps := a, marks := marks } σ .normal { tmps := a', marks := marks } σ' := by
  intro r0 _ w M ac Q hi ha hQ
  refine wpIn_region_any hm ?_
  refine h.go hd r0 Q _ _ _ M ac ⟨by simp, fun i o _ hl => ?_, by simp⟩ (fun j hj => ?_) hi.drew (ha.mono (.drew w M)) fun w' M' ac' he => hQ w' M' ac' ((Ext.drew w M).trans he)
  · unfold lf at hl
    simp [Array.getD_eq_getD_getElem?, Array.getElem?_replicate] at hl
    split at hl <;> simp at hl
  · unfold lf
    simp [Array.getD_eq_getD_getElem?, Array.getElem?_replicate]
    split <;> simp
end
end Go.Proofs.YtjljigccgaadaaaDoor.Am
