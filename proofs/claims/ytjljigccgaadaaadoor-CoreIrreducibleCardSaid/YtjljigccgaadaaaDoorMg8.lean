/-
  This file proves nothing of a law. It holds lemmas, of 7 texts in their order. No condition of its own.
-/
import Derived.Test.YtjljigccgaadaaaDoorMg6
import Derived.Test.YtjljigccgaadaaaDoorMg7
namespace Go.Proofs.YtjljigccgaadaaaDoor.Am
open Go
section
variable {P : Program} {G : Nat → Option (List AV)}

/-- What one operation is worth, whatever has been carried out. H: the heap, by what has been carried out. -/
def WorthM (P : Program) (G : Nat → Option (List AV)) (H : (Nat → Bool) → Heap) (ops : List Oper) (marks : List Nat) (i : Nat) (o : Oper) (v : List AV) (y : AV) : Prop :=
  ∀ f : Nat → Bool, Closed ops f → (∀ j, ops.length ≤ j → f j = false) → f i = false → (∀ e ∈ o.after, Region.binds .any e = true → f e.on = true) →
    (awanted ops.toArray v o = some true ∧ AStep P G { tmps := v, marks := marks } (H f) o y (H fun j => decide (j = i) || f j)) ∨ (awanted ops.toArray v o = some false ∧ y = .tup [] ∧ H (fun j => decide (j = i) || f j) = H f)

theorem WorthM.ok {H : (Nat → Bool) → Heap} {ops : List Oper} {marks : List Nat} {o : Oper} {v : List AV} {y : AV} {i : Nat} (h : WorthM P G H ops marks i o v y) {f : Nat → Bool} (hc : Closed ops f) (hlen : ∀ j, ops.length ≤ j → f j = false) (hu : f i = false) (hp : ∀ e ∈ o.after, Region.binds .any e = true → f e.on = true)
    {r0 : Option Nat} {w : World} {M : Map} {ac : Act} {K : Act → World → Prop} {Q : Exit → Act → World → Prop} (ho : ops.toArray[i]? = some o)
    (hi : Inv G w M (H f)) (ha : RAct w M ac { tmps := v, marks := marks }) (hK : ∀ u w' M', RV w' M' u y → Ext w M w' M' → Inv G w' M' (H fun j => decide (j = i) || f j) → K (ac.put o.dst u) w') : wpOpIn (FW r0) 0 P ops.toArray Q i K ac w := by
  unfold wpOpIn
  simp only [ho]
  rcases h f hc hlen hu hp with ⟨hw, hs⟩ | ⟨hw, rfl, he⟩
  · rw [if_pos (awanted_ok ha.tmps hw)]
    exact hs r0 w M ac K Q hi ha hK
  · rw [if_neg (by rw [awanted_ok ha.tmps hw]; simp)]
    exact ⟨fun f _ => FW_fn r0 f, hK undef w M (.undef w M) (.refl w M) (by rw [he]; exact hi)⟩

theorem move_go {H : (Nat → Bool) → Heap} {ops : List Oper} {marks : List Nat} (hd : okDraw ops = true) (hc : okStill ops 0 ops.length = true) {a0 vs : List AV}
    (hv : ∀ i o, ops[i]? = some o → ∃ (v : List AV) (y : AV), vs[i]? = some y ∧ v.length = a0.length ∧ WorthM P G H ops marks i o v y ∧
      ∀ t x, v[t]? = some x → x = .junk ∨ ((o.looksAt ops.toArray).contains t = true ∧ frameAt ops vs a0 (fun j => decide (j < i)) t = some x))
    {r0 : Option Nat} {Q : Exit → Act → World → Prop} {w0 : World} {M0 : Map}
    (hK : ∀ (fuel : Nat) (listed : Array Bool) (w : World) (M : Map) (ac : Act), Ls ops listed fuel → (∀ j, j < ops.length → lf listed j = true) → Ext w0 M0 w M → Inv G w M (H fun j => decide (j < ops.length)) →
      Fr w M ac marks a0.length (frameAt ops vs a0 (fun j => decide (j < ops.length))) → wpAnyIn (FW r0) 0 P .any ops.toArray Q fuel listed ac w) :
    ∀ (fuel : Nat) (listed : Array Bool) (w : World) (M : Map) (ac : Act), Ls ops listed fuel → (∀ j, ops.length ≤ j → lf listed j = false) → Ext w0 M0 w M → Inv G w M (H (lf listed)) →
      Fr w M ac marks a0.length (frameAt ops vs a0 (lf listed)) → wpAnyIn (FW r0) 0 P .any ops.toArray Q fuel listed ac w := by
  have hap := okDraw_apart hd
  have last : ∀ (fuel : Nat) (listed : Array Bool) (w : World) (M : Map) (ac : Act), Ls ops listed fuel → (∀ j, ops.length ≤ j → lf listed j = false) → Ext w0 M0 w M → Inv G w M (H (lf listed)) →
      Fr w M ac marks a0.length (frameAt ops vs a0 (lf listed)) → (∀ j, j < ops.length → lf listed j = true) → wpAnyIn (FW r0) 0 P .any ops.toArray Q fuel listed ac w := by
    intro fuel listed w M ac hl hn he hi ha hall
    have hf : lf listed = fun j => decide (j < ops.length) := by
      funext j
      by_cases hj : j < ops.length
      · rw [hall j hj]; simp [hj]
      · rw [hn j (by omega)]; simp [hj]
    rw [hf] at hi ha
    exact hK fuel listed w M ac hl hall he hi ha
  intro fuel
  induction fuel with
  | zero =>
    intro listed w M ac hl hn he hi ha
    refine last 0 listed w M ac hl hn he hi ha fun j hj => ?_
    cases hu : lf listed j with
    | true => rfl
    | false => have := count_lt (by rw [hl.size]; exact hj) hu; have := hl.fuel; have := hl.size; omega
  | succ fuel ih =>
    intro listed w M ac hl hn he hi ha
    by_cases hall : ∀ j, j < ops.length → lf listed j = true
    · exact last (fuel + 1) listed w M ac hl hn he hi ha hall
    · simp only [Classical.not_forall] at hall
      obtain ⟨u, hu, hun⟩ := hall
      have hun : lf listed u = false := by simpa using hun
      refine ⟨fun hnil => absurd hnil (ready_ne hd hl.size hu hun), fun i hir => ?_⟩
      obtain ⟨hiu, o, ho, hp⟩ := ready_spec hir
      have hin : i < ops.length := (List.getElem?_eq_some_iff.1 ho).1
      have hilt : i < listed.size := by rw [hl.size]; omega
      obtain ⟨v, y, hy, hvl, hwo, hvt⟩ := hv i o ho
      have hoa : ops.toArray[i]? = some o := by simpa using ho
      have hset : lf (listed.setIfInBounds i true) = fun j => decide (j = i) || lf listed j := funext fun j => lf_set hilt
      refine hwo.ok hl.closed hn hiu hp hoa hi (ha.act_of hvl fun t x ht => ?_) fun u' w' M' hu' he' hi' => ?_
      · rcases hvt t x ht with rfl | ⟨hlook, hfr⟩
        · exact .inl rfl
        · refine .inr ?_
          rw [← hfr]
          refine frameAt_congr fun j hj => ⟨?_, fun _ => rfl⟩
          by_cases hjn : j < ops.length
          · by_cases hji : j = i
            · subst hji; simp [hiu]
            · have hsp := okStill_spec hc (Nat.zero_le i) (by omega) (Nat.zero_le j) (by omega) (Ne.symm hji) ho hj hlook
              by_cases hlt : j < i
              · have := befores_of ho hl.closed hp (hsp.1 hlt)
                simp [this, hlt]
              · have hgt : i < j := by omega
                have : lf listed j = false := by
                  cases hlj : lf listed j with
                  | false => rfl
                  | true =>
                    obtain ⟨oj, hoj⟩ : ∃ oj, ops[j]? = some oj := ⟨_, List.getElem?_eq_getElem hjn⟩
                    have := befores_of hoj hl.closed (fun e he hbd => hl.closed j oj hoj hlj e he hbd) (hsp.2 hgt)
                    rw [hiu] at this; cases this
                simp [this, hlt]
          · rw [hn j (by omega)]
            have : ¬ (j < i) := by omega
            simp [this]
      · refine ih (listed.setIfInBounds i true) w' M' _ (hl.set ho hiu hp) (fun j hj => ?_) (he.trans he') (by rw [hset]; exact hi') (ha.put he' hu' fun t x ht => ?_)
        · rw [lf_set hilt, hn j hj]
          have : j ≠ i := by omega
          simp [this]
        · by_cases hdt : o.dst = some t
          · have hdi : dstAt ops i = some t := by unfold dstAt; rw [ho]; exact hdt
            rw [frameAt_of hap hdi, lf_set hilt] at ht
            simp only [decide_true, Bool.true_or, if_true] at ht
            split at ht
            · rename_i hlt
              rw [hy] at ht
              cases ht
              exact .inl ⟨hdt, rfl, hlt⟩
            · cases ht
          · refine .inr ⟨hdt, ?_⟩
            rw [← ht]
            refine frameAt_congr fun j hj => ⟨?_, fun _ => rfl⟩
            have hji : j ≠ i := fun e => by
              subst e
              unfold dstAt at hj
              rw [ho] at hj
              exact hdt hj
            rw [lf_set hilt]
            simp [hji]
/-- A STATEMENT THAT LEAVES ITS ORDER OPEN, some of whose operations change the heap. -/
theorem AExec.drawM {R : Option Nat → Prop} {id : Nat} {H : (Nat → Bool) → Heap} {ops : List Oper} {marks : List Nat} {a a' vs : List AV} (hm : P.follows .mixedOrders = true) (hd : okDraw ops = true) (hc : okStill ops 0 ops.length = true)
    (hv : ∀ i o, ops[i]? = some o → ∃ (v : List AV) (y : AV), vs[i]? = some y ∧ v.length = a.length ∧ WorthM P G H ops marks i o v y ∧
      ∀ t x, v[t]? = some x → x = .junk ∨ ((o.looksAt ops.toArray).contains t = true ∧ frameAt ops vs a (fun j => decide (j < i)) t = some x))
    (hl : a'.length = a.length) (ha' : ∀ t x, a'[t]? = some x → x = .junk ∨ frameAt ops vs a (fun j => decide (j < ops.length)) t = some x) :
    AExec P G R (.region id ops.toArray true) { tmps := a, marks := marks } (H fun _ => false) .normal { tmps := a', marks := marks } (H fun j => decide (j < ops.length)) := by
  intro r0 _ w M ac Q hi ha hQ
  refine wpIn_region_any hm ?_
  have h0 : ∀ j, lf (Array.replicate ops.toArray.size false) j = false := fun j => by
    unfold lf
    simp [Array.getD_eq_getD_getElem?, Array.getElem?_replicate]
    split <;> simp
  have hf0 : lf (Array.replicate ops.toArray.size false) = fun _ => false := funext h0
  refine move_go (H := H) (marks := marks) hd hc hv (w0 := w) (M0 := M) (fun fuel listed w' M' ac' hls hall he hi' hfr => ?_) _ _ _ M ac ⟨by simp, fun i o _ hlt => ?_, by simp⟩ (fun j _ => h0 j) (.drew w M) (by rw [hf0]; exact hi.drew) ?_
  · refine wpAnyIn_done ?_ (hQ w' M' ac' he hi' (hfr.act_of hl ha')) fuel
    apply List.eq_nil_iff_forall_not_mem.2
    intro i hir
    obtain ⟨hiu, o, ho, _⟩ := ready_spec hir
    rw [hall i (List.getElem?_eq_some_iff.1 ho).1] at hiu
    cases hiu
  · rw [h0] at hlt; cases hlt
  · have := Fr.of (ha.mono (.drew w M))
    refine ⟨this.act, fun t x ht => this.val t x ?_⟩
    rw [hf0] at ht
    rw [← ht]
    unfold frameAt
    split <;> simp
end
end Go.Proofs.YtjljigccgaadaaaDoor.Am

namespace Go.Proofs.YtjljigccgaadaaaDoor.Am
open Go
section
variable {P : Program} {G : Nat → Option (List AV)}

/-- The walk in the order of the text. -/
inductive AOpsM (P : Program) (G : Nat → Option (List AV)) (H : (Nat → Bool) → Heap) (ops : List Oper) (marks : List Nat) : Nat → List Oper → List AV → List AV → Prop where
  | nil (n : Nat) (a : List AV) : AOpsM P G H ops marks n [] a a
  | step {n : Nat} {o : Oper} {rest : List Oper} {a a' : List AV} {y : AV} (h : WorthM P G H ops marks n o (masked (o.looksAt ops.toArray) a) y) (k : AOpsM P G H ops marks (n + 1) rest (AAct.put { tmps := a } o.dst y).tmps a') : AOpsM P G H ops marks n (o :: rest) a a'
/-- The walk gives a value to each operation. -/
theorem AOpsM.vals {H : (Nat → Bool) → Heap} {ops : List Oper} {marks : List Nat} (hap : Apart ops) {a0 : List AV} : ∀ {n : Nat} {l : List Oper} {a a' : List AV}, AOpsM P G H ops marks n l a a' → ∀ (pre : List AV), pre.length = n → pre.length + l.length ≤ ops.length →
    (∀ k, k < l.length → l[k]? = ops[pre.length + k]?) → a.length = a0.length → (∀ t, a[t]? = frameAt ops pre a0 (fun j => decide (j < pre.length)) t) →
    ∃ vs : List AV, vs.length = pre.length + l.length ∧ (∀ i, i < pre.length → vs[i]? = pre[i]?) ∧ a'.length = a0.length ∧ (∀ t, a'[t]? = frameAt ops vs a0 (fun j => decide (j < vs.length)) t) ∧
      ∀ i o, pre.length ≤ i → i < vs.length → ops[i]? = some o → ∃ (v : List AV) (y : AV), vs[i]? = some y ∧ v.length = a0.length ∧ WorthM P G H ops marks i o v y ∧
        ∀ t x, v[t]? = some x → x = .junk ∨ ((o.looksAt ops.toArray).contains t = true ∧ frameAt ops vs a0 (fun j => decide (j < i)) t = some x) := by
  intro n l a a' h
  have main : ∀ {n : Nat} {o : Oper} {rest : List Oper} {a a' : List AV} {y : AV}, WorthM P G H ops marks n o (masked (o.looksAt ops.toArray) a) y →
      (∀ (pre : List AV), pre.length = n + 1 → pre.length + rest.length ≤ ops.length →
        (∀ k, k < rest.length → rest[k]? = ops[pre.length + k]?) → (AAct.put { tmps := a } o.dst y).tmps.length = a0.length → (∀ t, (AAct.put { tmps := a } o.dst y).tmps[t]? = frameAt ops pre a0 (fun j => decide (j < pre.length)) t) →
        ∃ vs : List AV, vs.length = pre.length + rest.length ∧ (∀ i, i < pre.length → vs[i]? = pre[i]?) ∧ a'.length = a0.length ∧ (∀ t, a'[t]? = frameAt ops vs a0 (fun j => decide (j < vs.length)) t) ∧
          ∀ i o, pre.length ≤ i → i < vs.length → ops[i]? = some o → ∃ (v : List AV) (y : AV), vs[i]? = some y ∧ v.length = a0.length ∧ WorthM P G H ops marks i o v y ∧
            ∀ t x, v[t]? = some x → x = .junk ∨ ((o.looksAt ops.toArray).contains t = true ∧ frameAt ops vs a0 (fun j => decide (j < i)) t = some x)) →
      ∀ (pre : List AV), pre.length = n → pre.length + (o :: rest).length ≤ ops.length →
        (∀ k, k < (o :: rest).length → (o :: rest)[k]? = ops[pre.length + k]?) → a.length = a0.length → (∀ t, a[t]? = frameAt ops pre a0 (fun j => decide (j < pre.length)) t) →
        ∃ vs : List AV, vs.length = pre.length + (o :: rest).length ∧ (∀ i, i < pre.length → vs[i]? = pre[i]?) ∧ a'.length = a0.length ∧ (∀ t, a'[t]? = frameAt ops vs a0 (fun j => decide (j < vs.length)) t) ∧
          ∀ i o, pre.length ≤ i → i < vs.length → ops[i]? = some o → ∃ (v : List AV) (y : AV), vs[i]? = some y ∧ v.length = a0.length ∧ WorthM P G H ops marks i o v y ∧
            ∀ t x, v[t]? = some x → x = .junk ∨ ((o.looksAt ops.toArray).contains t = true ∧ frameAt ops vs a0 (fun j => decide (j < i)) t = some x) := by
    intro n o rest a a' y hwo ih pre hb hlen hl hal ha
    subst hb
    simp only [List.length_cons] at hlen hl
    have ho : ops[pre.length]? = some o := by have := hl 0 (by omega); simpa using this.symm
    have key := ih (pre ++ [y]) (by simp) (by simp; omega) (fun k hk => by have := hl (k + 1) (by omega); simp only [List.getElem?_cons_succ] at this; rw [this]; congr 1; simp; omega) (by rw [put_length]; exact hal) (fun t => ?_)
    · obtain ⟨vs, h1, h2, h3, h4, h5⟩ := key
      simp only [List.length_append, List.length_singleton] at h1 h2
      refine ⟨vs, by rw [h1]; simp; omega, fun i hi => ?_, h3, h4, fun i o' hi hi' ho' => ?_⟩
      · rw [h2 i (by omega), List.getElem?_append_left hi]
      · by_cases hie : i = pre.length
        · subst hie
          rw [ho] at ho'
          cases ho'
          refine ⟨masked (o.looksAt ops.toArray) a, y, ?_, by simp [masked, hal], hwo, fun t x hx => ?_⟩
          · rw [h2 _ (by omega)]; simp
          · simp only [masked, List.getElem?_mapIdx, Option.map_eq_some_iff] at hx
            obtain ⟨x0, hx0, rfl⟩ := hx
            split
            · rename_i hc
              refine .inr ⟨hc, ?_⟩
              rw [ha t] at hx0
              rw [← hx0]
              exact frameAt_congr fun j _ => ⟨rfl, fun hj => by
                have hj := of_decide_eq_true hj
                rw [h2 j (by omega), List.getElem?_append_left hj]⟩
            · exact .inl rfl
        · exact h5 i o' (by simp; omega) hi' ho'
    · rw [put_get]
      by_cases hd : o.dst = some t
      · rw [if_pos hd]
        have hdj : dstAt ops pre.length = some t := by unfold dstAt; rw [ho]; exact hd
        rw [frameAt_of hap hdj]
        simp [hal]
      · rw [if_neg hd, ha t]
        refine frameAt_congr fun j hj => ?_
        have hne : j ≠ pre.length := fun e => by
          subst e
          unfold dstAt at hj
          rw [ho] at hj
          exact hd hj
        refine ⟨?_, fun hl => ?_⟩
        · apply decide_eq_decide.2
          simp only [List.length_append, List.length_singleton]
          omega
        · have hl := of_decide_eq_true hl
          rw [List.getElem?_append_left hl]
  induction h with
  | nil n a =>
    intro pre hb hlen _ hal ha
    refine ⟨pre, rfl, fun _ _ => rfl, hal, fun t => by rw [ha t], fun i o hi hi' ho => ?_⟩
    omega
  | step hw _ ih => exact main hw ih

theorem AOpsM.draw {R : Option Nat → Prop} {id : Nat} {H : (Nat → Bool) → Heap} {ops : List Oper} {marks : List Nat} {a a' : List AV} (hm : P.follows .mixedOrders = true) (hd : okDraw ops = true) (hc : okStill ops 0 ops.length = true) (h : AOpsM P G H ops marks 0 ops a a') :
    AExec P G R (.region id ops.toArray true) { tmps := a, marks := marks } (H fun _ => false) .normal { tmps := a', marks := marks } (H fun j => decide (j < ops.length)) := by
  obtain ⟨vs, h1, _, h3, h4, h5⟩ := h.vals (okDraw_apart hd) (a0 := a) [] rfl (by simp) (fun k _ => by simp) rfl (fun t => by
    unfold frameAt
    split <;> simp)
  simp only [List.length_nil, Nat.zero_add] at h1
  refine AExec.drawM (vs := vs) hm hd hc (fun i o ho => h5 i o (Nat.zero_le i) (by rw [h1]; exact (List.getElem?_eq_some_iff.1 ho).1) ho) h3 fun t x ht => .inr ?_
  rw [h4 t, h1] at ht
  exact ht
end
/-! ### The machine -/
/-- How many of Q are carried out. -/
def nQ (Q : List Nat) (f : Nat → Bool) : Nat := (Q.filter f).length
/-- How many of Q may be carried out when the i-th operation's turn comes. -/
def rngM (ops : List Oper) (Q : List Nat) (i : Nat) : List Nat :=
  (List.range (Q.length + 1)).filter fun c => Nat.ble (nQ Q fun q => ((befores ops []).getD i 0).testBit q) c && Nat.ble c (nQ Q fun q => !Nat.beq q i && !((befores ops []).getD q 0).testBit i)
def upM (Q : List Nat) (i c : Nat) : Nat := match Q.contains i with
  | true => c + 1
  | false => c
theorem nQ_mono {f g : Nat → Bool} : ∀ (Q : List Nat), (∀ q ∈ Q, f q = true → g q = true) → nQ Q f ≤ nQ Q g
  | [], _ => Nat.le_refl _
  | q :: r, h => by
    have ih := nQ_mono (f := f) (g := g) r fun x hx => h x (by simp [hx])
    unfold nQ at ih ⊢
    rw [List.filter_cons, List.filter_cons]
    cases hf : f q with
    | false =>
      simp only [Bool.false_eq_true, if_false]
      split
      · simp only [List.length_cons]; omega
      · exact ih
    | true =>
      rw [h q (by simp) hf]
      simp only [if_true, List.length_cons]
      omega
theorem nQ_le (Q : List Nat) (f : Nat → Bool) : nQ Q f ≤ Q.length := List.length_filter_le _ _
theorem nQ_up {f : Nat → Bool} {i : Nat} (hi : f i = false) : ∀ (Q : List Nat), Q.Nodup → nQ Q (fun j => decide (j = i) || f j) = upM Q i (nQ Q f)
  | [], _ => rfl
  | q :: r, h => by
    have ih := nQ_up hi r (List.nodup_cons.1 h).2
    have hq := (List.nodup_cons.1 h).1
    unfold nQ upM at ih ⊢
    rw [List.filter_cons, List.filter_cons, List.contains_cons]
    by_cases he : q = i
    · subst he
      have hc : r.contains q = false := by
        rw [← Bool.not_eq_true, List.contains_iff_mem]
        exact hq
      rw [hc] at ih
      simp only [decide_true, Bool.true_or, if_true, hi, Bool.false_eq_true, if_false, List.length_cons, ih, beq_self_eq_true]
    · have hb : (i == q) = false := beq_false_of_ne fun h => he h.symm
      simp only [he, decide_false, Bool.false_or, hb]
      cases hf : f q with
      | true =>
        simp only [if_true, List.length_cons, ih]
        cases r.contains i <;> rfl
      | false =>
        simp only [Bool.false_eq_true, if_false, ih]
section
variable (P : Program) (G : Nat → Option (List AV)) (E : Env)
def xAgree (call : CallT) (hs : Nat → Heap) (Q : List Nat) (ρ : Operand → Option AV) (st : St) (o : Oper) (i : Nat) (y : AV) : List Nat → Tree St → Tree St
  | [], k => k
  | c :: cs, k => (xstep P E call ρ { st with h := hs c } o).bind fun q => .need (q.1 = y ∧ q.2.2 = hs (upM Q i c)) (xAgree call hs Q ρ st o i y cs k)
def xMoveL (call : CallT) (hs : Nat → Heap) (ops : List Oper) (Q : List Nat) : Nat → List Oper → St → Tree St
  | _, [], st => .leaf st
  | i, o :: r, st => xguard ops.toArray st o fun b st' =>
    match b with
    | true =>
      match rngM ops Q i with
      | [] => .fail
      | c :: cs => (xstep P E call (st'.evM G (o.looksAt ops.toArray)) { st' with h := hs c } o).bind fun q => .need (q.2.2 = hs (upM Q i c)) (xAgree P E call hs Q (st'.evM G (o.looksAt ops.toArray)) st' o i q.1 cs (xMoveL call hs ops Q (i + 1) r (st'.put o.dst q.1 q.2.1 st'.h)))
    | false =>
      match Q.contains i with
      | true => .fail
      | false => xMoveL call hs ops Q (i + 1) r (st'.put o.dst (.tup []) false st'.h)
/-- The statement, carried out; the heap at its head is hs 0. -/
def xMove (call : CallT) (hs : Nat → Heap) (ops : List Oper) (Q : List Nat) (st : St) : Tree St :=
  match okDraw ops && okStill ops 0 ops.length && decide Q.Nodup && Q.all fun q => Nat.blt q ops.length with
  | true => .need (st.h = hs 0) ((xMoveL P G E call hs ops Q 0 ops st).bind fun st' => .leaf { st' with h := hs Q.length })
  | false => .fail
end
section
variable {P : Program} {G : Nat → Option (List AV)} {E : Env}
theorem xAgree_ok {call : CallT} (hcl : ClOk P G E) (hcall : CallOk P G call) {hs : Nat → Heap} {Q : List Nat} {a : List AV} {m : List Nat} {st : St} {o : Oper} {i : Nat} {y : AV} {k : Tree St} {r : St} : ∀ (cs : List Nat), (xAgree P E call hs Q (ev G a) st o i y cs k).sel = some r →
    (∀ c ∈ cs, AStep P G { tmps := a, marks := m } (hs c) o y (hs (upM Q i c))) ∧ k.sel = some r
  | [], h => ⟨fun _ hc => (by cases hc), h⟩
  | c :: cs, h => by
    unfold xAgree at h
    obtain ⟨⟨y2, s2, h2⟩, h3, h4⟩ := Tree.of_bind h
    obtain ⟨⟨h5, h6⟩, h7⟩ := Tree.of_need h4
    simp only at h5 h6
    subst h5 h6
    have hs1 := xstep_ok (m := m) hcl hcall h3
    obtain ⟨h8, h9⟩ := xAgree_ok hcl hcall cs h7
    refine ⟨fun c' hc' => ?_, h9⟩
    rcases List.mem_cons.1 hc' with rfl | hc'
    · exact hs1
    · exact h8 c' hc'
theorem in_rng {ops : List Oper} {Q : List Nat} {i : Nat} {o : Oper} (ho : ops[i]? = some o) (hQ : ∀ q ∈ Q, q < ops.length) {f : Nat → Bool} (hc : Closed ops f) (hu : f i = false) (hp : ∀ e ∈ o.after, Region.binds .any e = true → f e.on = true) : nQ Q f ∈ rngM ops Q i := by
  unfold rngM
  refine List.mem_filter.2 ⟨List.mem_range.2 (by have := nQ_le Q f; omega), ?_⟩
  rw [Bool.and_eq_true, Nat.ble_eq, Nat.ble_eq]
  refine ⟨nQ_mono Q fun q _ hb => befores_of ho hc hp hb, nQ_mono Q fun q hq hb => ?_⟩
  have hqi : Nat.beq q i = false := by
    cases he : Nat.beq q i with
    | false => rfl
    | true =>
      rw [Nat.eq_of_beq_eq_true he, hu] at hb
      cases hb
  rw [hqi]
  cases hm : ((befores ops []).getD q 0).testBit i with
  | false => rfl
  | true =>
    obtain ⟨oq, hoq⟩ : ∃ oq, ops[q]? = some oq := ⟨_, List.getElem?_eq_getElem (hQ q hq)⟩
    have := befores_of hoq hc (fun e he hbd => hc q oq hoq hb e he hbd) hm
    rw [hu] at this; cases this
theorem xMoveL_ok {call : CallT} (hcl : ClOk P G E) (hcall : CallOk P G call) {hs : Nat → Heap} {ops : List Oper} {Q : List Nat} (hn : Q.Nodup) (hQ : ∀ q ∈ Q, q < ops.length) {m : List Nat} : ∀ (l : List Oper) (i : Nat) (st st' : St), (∀ k, k < l.length → l[k]? = ops[i + k]?) → (xMoveL P G E call hs ops Q i l st).sel = some st' →
    AOpsM P G (fun f => hs (nQ Q f)) ops m i l st.a st'.a ∧ st'.n = st.n
  | [], i, st, st', _, h => by cases h; exact ⟨.nil _ _, rfl⟩
  | o :: r, i, st, st', hl, h => by
    have ho : ops[i]? = some o := by have := hl 0 (by simp); simpa using this.symm
    have hlr : ∀ k, k < r.length → r[k]? = ops[i + 1 + k]? := fun k hk => by
      have := hl (k + 1) (by simp; omega)
      simp only [List.getElem?_cons_succ] at this
      rw [this]; congr 1; omega
    unfold xMoveL at h
    obtain ⟨b, st1, h1, h2, h3, hw, hk⟩ := xguard_ok h
    cases b with
    | true =>
      simp only at hk
      split at hk
      · cases hk
      · rename_i c cs hrng
        obtain ⟨⟨y, s, h'⟩, hq', hr⟩ := Tree.of_bind hk
        obtain ⟨he, hr⟩ := Tree.of_need hr
        simp only at he
        subst he
        rw [← St.evM_eq] at hq' hr
        have hs1 := xstep_ok (m := m) hcl hcall hq'
        obtain ⟨hs2, hr⟩ := xAgree_ok (m := m) hcl hcall cs hr
        obtain ⟨ih, ihn⟩ := xMoveL_ok hcl hcall hn hQ r (i + 1) _ st' hlr hr
        refine ⟨.step (y := y) (fun f hc hlen hu hp => .inl ⟨by rw [awanted_masked]; exact hw, ?_⟩) ?_, by rw [ihn, St.put_n, h3]⟩
        · have hin := in_rng ho hQ hc hu hp
          rw [hrng] at hin
          show AStep P G _ (hs (nQ Q f)) o y (hs (nQ Q fun j => decide (j = i) || f j))
          rw [nQ_up hu Q hn, ← h1]
          rcases List.mem_cons.1 hin with he | hin
          · rw [he]; exact hs1
          · exact hs2 _ hin
        · have hp := St.put_a st1 o.dst y s st1.h []
          rw [← h1, hp]
          exact ih
    | false =>
      simp only at hk
      split at hk
      · cases hk
      · rename_i hni
        obtain ⟨ih, ihn⟩ := xMoveL_ok hcl hcall hn hQ r (i + 1) _ st' hlr hk
        refine ⟨.step (y := .tup []) (fun f hc hlen hu hp => .inr ⟨by rw [awanted_masked]; exact hw, rfl, ?_⟩) ?_, by rw [ihn, St.put_n, h3]⟩
        · show hs (nQ Q fun j => decide (j = i) || f j) = hs (nQ Q f)
          rw [nQ_up hu Q hn]
          unfold upM
          rw [hni]
        · have hp := St.put_a st1 o.dst (.tup []) false st1.h []
          rw [← h1, hp]
          exact ih
theorem xMove_ok {R : Option Nat → Prop} (hm : P.follows .mixedOrders = true) (hcl : ClOk P G E) {call : CallT} (hcall : CallOk P G call) {hs : Nat → Heap} {id : Nat} {ops : List Oper} {Q : List Nat} {m : List Nat} {st st' : St} (h : (xMove P G E call hs ops Q st).sel = some st') :
    AExec P G R (.region id ops.toArray true) { tmps := st.a, marks := m } st.h .normal { tmps := st'.a, marks := m } st'.h ∧ st'.n = st.n := by
  unfold xMove at h
  split at h
  · rename_i hb
    simp only [Bool.and_eq_true, decide_eq_true_eq, List.all_eq_true, Nat.blt_eq] at hb
    obtain ⟨⟨⟨hd, hc⟩, hn⟩, hQ⟩ := hb
    obtain ⟨h0, h⟩ := Tree.of_need h
    obtain ⟨st1, h1, h2⟩ := Tree.of_bind h
    cases h2
    obtain ⟨h3, h4⟩ := xMoveL_ok (m := m) hcl hcall hn hQ ops 0 st st1 (fun k _ => by simp) h1
    have key := h3.draw (R := R) (id := id) hm hd hc
    have e0 : nQ Q (fun _ => false) = 0 := by simp [nQ]
    have e1 : nQ Q (fun j => decide (j < ops.length)) = Q.length := by
      unfold nQ
      rw [List.filter_eq_self.2 fun q hq => by simpa using hQ q hq]
    simp only [e0, e1, ← h0] at key
    exact ⟨key, h4⟩
  · cases h
end
end Go.Proofs.YtjljigccgaadaaaDoor.Am

namespace Go.Proofs.YtjljigccgaadaaaDoor.Am
open Go
section
variable (P : Program) (G : Nat → Option (List AV)) (E : Env)
/-- Code. n: how deep and how often. lp: what is known of the loops. -/
def xCodeM (mv : Nat → Option (List Nat × (Nat → Heap))) : Nat → Loops → Code → St → Tree (Exit × St)
  | 0 => fun _ _ _ => .fail
  | n + 1 => fun lp c st =>
    match c with
    | .skip => .leaf (.normal, st)
    | .ret => .leaf (.ret, st)
    | .exit id => .leaf (.exit id, st)
    | .region id ops draws =>
      (match draws with
      | true => (match mv id with
        | some (Q, hs) => xMove P G E (xenter P E (xCode P G E n fun _ => none)) hs ops.toList Q st
        | none => xDraw P G E (xenter P E (xCode P G E n fun _ => none)) ops st)
      | false => xOps P G E (xenter P E (xCode P G E n fun _ => none)) ops ops.toList st).bind fun st' => .leaf (.normal, st')
    | .seq x y => (xCodeM mv n lp x st).bind fun r =>
      match r.1 with
      | .normal => xCodeM mv n lp y r.2
      | e => .leaf (e, r.2)
    | .cond q x y =>
      match st.ev G q with
      | some (.bool b) =>
        match symOf st q with
        | true => .ite b (xCodeM mv n lp x st) (xCodeM mv n lp y st)
        | false => match b with
          | true => xCodeM mv n lp x st
          | false => xCodeM mv n lp y st
      | _ => .fail
    | .block id x => (xCodeM mv n lp x st).bind fun r => .leaf (outOf id r.1, r.2)
    | .loop x =>
      match lp (idOf x) with
      | some (keep, s0, t) => .need ((st.only keep).vals = s0.vals) t
      | none => xLoop (xCodeM mv n lp x) n st
    | _ => .fail
/-- A piece of code, some temporaries of it. -/
def xBodyM (mv : Nat → Option (List Nat × (Nat → Heap))) (n : Nat) (lp : Loops) (keep : List Nat) (c : Code) (st : St) : Tree (Exit × St) :=
  (xCodeM P G E mv n lp c st).bind fun r => .leaf (r.1, r.2.only keep)
end
section
variable {P : Program} {G : Nat → Option (List AV)} {E : Env}
theorem xCodeM_ok {mv : Nat → Option (List Nat × (Nat → Heap))} (hn : NamesOk P) (hm : P.follows .mixedOrders = true) (hcl : ClOk P G E) : ∀ (n : Nat) (R : Option Nat → Prop) (m : List Nat) (lp : Loops) (c : Code) (st : St) (e : Exit) (st' : St), LoopsOk P G R m lp c →
    (xCodeM P G E mv n lp c st).sel = some (e, st') → AExec P G R c { tmps := st.a, marks := m } st.h e { tmps := st'.a, marks := m } st'.h ∧ st'.n = st.n
  | 0, R, m, lp, c, st, e, st', _, h => by cases h
  | n + 1, R, m, lp, c, st, e, st', hlp, h => by
    have hrun : RunOk P G (xCode P G E n fun _ => none) := fun c st e st' h => (xCode_ok hn hm hcl n _ [] _ c st e st' (.none c) h).1
    unfold xCodeM at h
    cases c with
    | skip => cases h; exact ⟨.skip, rfl⟩
    | ret => cases h; exact ⟨.ret, rfl⟩
    | exit id => cases h; exact ⟨.exit, rfl⟩
    | region id ops draws =>
      simp only at h
      obtain ⟨st1, h1, h2⟩ := Tree.of_bind h
      cases h2
      cases draws with
      | true =>
        simp only at h1
        split at h1
        · have := xMove_ok (R := R) (id := id) (m := m) hm hcl (xenter_ok hn hrun) h1
          simpa using this
        · exact xDraw_ok hm hcl (xenter_ok hn hrun) h1
      | false =>
        obtain ⟨h3, h4⟩ := xOps_ok (m := m) hcl (xenter_ok hn hrun) _ _ _ h1
        exact ⟨.region h3, h4⟩
    | seq x y =>
      simp only at h
      obtain ⟨⟨e1, st1⟩, h1, h2⟩ := Tree.of_bind h
      obtain ⟨h3, h4⟩ := xCodeM_ok hn hm hcl n R m lp x _ _ _ hlp.1 h1
      split at h2
      · rename_i he
        simp only at he
        subst he
        obtain ⟨h5, h6⟩ := xCodeM_ok hn hm hcl n R m lp y _ _ _ hlp.2 h2
        exact ⟨.seq h3 h5, h6.trans h4⟩
      · rename_i he
        cases h2
        exact ⟨.seq_out h3 he, h4⟩
    | cond q x y =>
      simp only at h
      split at h
      · rename_i b hq
        rw [← St.ev_eq] at hq
        split at h
        · simp only [Tree.sel] at h
          cases b with
          | true =>
            obtain ⟨h3, h4⟩ := xCodeM_ok hn hm hcl n R m lp x _ _ _ hlp.1 h
            exact ⟨.cond_true hq h3, h4⟩
          | false =>
            obtain ⟨h3, h4⟩ := xCodeM_ok hn hm hcl n R m lp y _ _ _ hlp.2 h
            exact ⟨.cond_false hq h3, h4⟩
        · split at h
          · obtain ⟨h3, h4⟩ := xCodeM_ok hn hm hcl n R m lp x _ _ _ hlp.1 h
            exact ⟨.cond_true hq h3, h4⟩
          · obtain ⟨h3, h4⟩ := xCodeM_ok hn hm hcl n R m lp y _ _ _ hlp.2 h
            exact ⟨.cond_false hq h3, h4⟩
      · cases h
    | block id x =>
      simp only at h
      obtain ⟨⟨e1, st1⟩, h1, h2⟩ := Tree.of_bind h
      cases h2
      obtain ⟨h3, h4⟩ := xCodeM_ok hn hm hcl n R m lp x _ _ _ hlp h1
      exact ⟨.block h3, h4⟩
    | loop x =>
      simp only at h
      split at h
      · rename_i keep s0 t ht
        obtain ⟨h1, h2⟩ := Tree.of_need h
        obtain ⟨h3, h4⟩ := hlp.1 _ _ _ _ _ ht h2
        simp only [St.vals, Prod.mk.injEq] at h1
        obtain ⟨e1, e2, e3⟩ := h1
        have h5 := St.only_le keep st
        rw [e1] at h5
        refine ⟨.weak h5 ?_, h4.trans e2.symm⟩
        have e4 : st.h = s0.h := e3
        rw [e4]
        exact h3
      · obtain ⟨h3, h4⟩ := xLoop_ok (fun st e st' h => xCodeM_ok hn hm hcl n R m lp x st e st' hlp.2 h) n st e st' h
        exact ⟨.loop h3, h4⟩
    | scope _ => cases h
    | rangeFunc _ _ _ _ => cases h
    | label _ => cases h
    | goto _ => cases h
    | refuse _ => cases h

theorem xBodyM_ok {mv : Nat → Option (List Nat × (Nat → Heap))} (hn : NamesOk P) (hm : P.follows .mixedOrders = true) (hcl : ClOk P G E) {R : Option Nat → Prop} {m : List Nat} {lp : Loops} {n : Nat} {keep : List Nat} {c : Code} {st : St} {e : Exit} {st' : St} (hlp : LoopsOk P G R m lp c)
    (hx : (xBodyM P G E mv n lp keep c st).sel = some (e, st')) : AExec P G R c { tmps := st.a, marks := m } st.h e { tmps := st'.a, marks := m } st'.h ∧ st'.n = st.n := by
  obtain ⟨⟨e0, st0⟩, h1, h2⟩ := Tree.of_bind hx
  cases h2
  obtain ⟨h3, h4⟩ := xCodeM_ok hn hm hcl n R m lp c st _ _ hlp h1
  exact ⟨h3.weak_post (a' := { tmps := st0.a, marks := m }) (St.only_le keep st0), h4⟩
/-- A function of whose loops and statements the facts are known. -/
theorem xFnM_ok {mv : Nat → Option (List Nat × (Nat → Heap))} (hn : NamesOk P) (hm : P.follows .mixedOrders = true) (hcl : ClOk P G E) {lp : Loops} {n : Nat} {f : FuncId} {fn : Func} {c : Code} (hf : P.funcs[f]? = some fn) (hb : fn.body = some c)
    (hlp : LoopsOk P G (fun r => r = none) [] lp c) {xs : List AV} {tags : List Bool} {h h' : Heap} {v : AV} {s : Bool}
    (hx : (xenter P E (xCodeM P G E mv n lp) f xs tags h).sel = some (v, s, h')) : ACall P G f xs h v h' := by
  have : ∀ (run : Code → St → Tree (Exit × St)), run = xCodeM P G E mv n lp → (xenter P E run f xs tags h).sel = some (v, s, h') → ACall P G f xs h v h' := by
    intro run hrun hx
    unfold xenter at hx
    rw [hf] at hx
    simp only [hb] at hx
    obtain ⟨⟨e, st⟩, h1, h2⟩ := Tree.of_bind hx
    subst hrun
    have hx' := (xCodeM_ok hn hm hcl n _ [] lp c _ _ _ hlp h1).1
    have main : ∀ {tag : Bool}, (e = .normal ∨ e = .ret) → (match aResults P st.h st.a fn.results.toList with
        | some ys => .leaf (asOne ys, tag, st.h)
        | none => .fail : Tree (AV × Bool × Heap)).sel = some (v, s, h') → ACall P G f xs h v h' := fun {tag} he hh => by
      cases hres : aResults P st.h st.a fn.results.toList with
      | none => rw [hres] at hh; cases hh
      | some ys =>
        rw [hres] at hh
        cases hh
        exact ACall.of_body hf hb (hn f fn hf) (.weak ofArgs_le hx') he hres
    split at h2
    · rename_i he
      exact main (.inl he) h2
    · rename_i he
      exact main (.inr he) h2
    · cases h2
  exact this _ rfl hx
end
end Go.Proofs.YtjljigccgaadaaaDoor.Am

namespace Go.Proofs.YtjljigccgaadaaaDoor.Am
open Go
set_option maxRecDepth 100000

/-! ### The closure that counts -/
def hI (fv : AV) (c : Int) : Heap := [.cells 0 [fv], .cells 0 [I c]]
/-! ### The loop that makes the list of all numbers -/
noncomputable def body6a : Code := (loopsOf (bodyOf Tryd.prog 6)).getD 0 .skip
noncomputable def body6b : Code := (loopsOf (bodyOf Tryd.prog 6)).getD 1 .skip
def st6a (k e : Int) (c : List Int) (v : AV) (i : Int) (h : Heap) : St := .of 95 h [(4, .bool false, false), (5, I k, true), (6, .ref 0 0 0, true), (7, .ref 1 0 0, true), (8, flL c, true), (9, I e, true), (10, v, true), (28, I k, true), (29, I i, true)]
def st6b (k : Int) (c : List Int) (i : Int) (h : Heap) : St := .of 95 h [(4, .bool false, false), (5, I k, true), (6, .ref 0 0 0, true), (8, flL c, true), (65, I c.length, true), (66, I i, true)]
def E6a (i : Int) (v v' : AV) (h h1 : Heap) : Env := { hint := hApp 22 v (.sl 1 [[I i]]) v' h h1 }
def clh6 (k e : Int) (c : List Int) (fv : AV) (m : Int) (ask : AV → Bool) : FuncId → List AV → Heap → Option (Tree (AV × Heap)) := fun f xs h0 => match f, xs with
  | 13, [x, y] => some (.need ([x, y] = [I k, .fn 32 [] [.ref 1 0 0, .ref 0 0 0]] ∧ h0 = hI fv 0) (.leaf (.tup [flL c, I e], hI fv m)))
  | 56, [x, y] => some (.need (ACall Tryd.prog G0 56 [x, y] h0 (.bool (ask x)) h0) (.leaf (.bool (ask x), h0)))
  | _, _ => none
def E6 (l : List (FuncId × List AV × AV)) (k e : Int) (c : List Int) (fv : AV) (m : Int) (ask : AV → Bool) : Env := { cl := clL l, clh := clh6 k e c fv m ask, hint := orH (hLd 23 fv) (hLd 3 (I m)) }
def rem65 (n : Int) : Int := (IntKind.i64.wrap n).tmod 65
def e6 (k : Int) (bad tv : AV) (tc : List AV) (c : List Int) (is : Bool) : List (FuncId × List AV × AV) :=
  [(22, [I k, bad], tv), (21, [tv], .fn 56 [] [.row tc 0]), (31, [flL c], flL c), (14, [I k, flL c, .fn 56 [] [.row tc 0]], .tup [.bool is, I 0]), (20, [], .bool true)]
def lp6 (k e : Int) (c : List Int) (lv : AV) (h h2 : Heap) : Loops := fun id => match id with
  | 7 => some ([4, 5, 6, 7, 8, 9, 10, 28, 29], st6a k e c .zs 0 h, .leaf (.exit 0, st6a k e c lv k h2))
  | 18 => some ([4, 5, 6, 8, 65, 66], st6b k c 0 h2, .leaf (.exit 2, st6b k c c.length h2))
  | _ => none
theorem run6a (k e : Int) (i : Nat) (c : List Int) (v v' : AV) (h h1 : Heap) : xBody Tryd.prog G0 (E6a i v v' h h1) 200 noLoops [4, 5, 6, 7, 8, 9, 10, 28, 29] body6a (st6a k e c v i h) =
    .ite (decide ((i : Int) < k)) (.need (some [v, .sl 1 [[I i]]] = some [v, .sl 1 [[I i]]] ∧ #[22, 22] = #[22, 22] ∧ h = h ∧ aAppend Tryd.prog h 22 22 v (.sl 1 [[I i]]) = some (v', h1)) (.leaf (.normal, st6a k e c v' (IntKind.i64.wrap (i + 1)) h1))) (.leaf (.exit 0, st6a k e c v i h)) := by kernel_rfl
def box6 (v : AV) (r : Nat) (h : Heap) (x : Tree (AV × Bool × Heap)) : Tree (AV × Bool × Heap) := .need (objAt h r 0 = some [v]) x
def call6 (x : AV) (tc : List AV) (b : Bool) (h : Heap) (y : Tree (AV × Bool × Heap)) : Tree (AV × Bool × Heap) := .need (ACall Tryd.prog G0 56 [x, .row tc 0] h (.bool b) h) y
theorem run6 (n e : Int) (bad tv : AV) (tc : List AV) (c : List Int) (is : Bool) (m : Int) (ask : AV → Bool) (lv : AV) (h2 : Heap) : xenter Tryd.prog (E6 (e6 (rem65 n) bad tv tc c is) (rem65 n) e c (.fn 56 [] [.row tc 0]) m ask) (xCode Tryd.prog G0 (E6 (e6 (rem65 n) bad tv tc c is) (rem65 n) e c (.fn 56 [] [.row tc 0]) m ask) 200 (lp6 (rem65 n) e c lv (hI (.fn 56 [] [.row tc 0]) m) h2)) 6 [.int .u8 n, bad] [true, true] [] =
    .need ([I (rem65 n), bad] = [I (rem65 n), bad]) (.need ([tv] = [tv]) (.need ([I (rem65 n), .fn 32 [] [.ref 1 0 0, .ref 0 0 0]] = [I (rem65 n), .fn 32 [] [.ref 1 0 0, .ref 0 0 0]] ∧ hI (.fn 56 [] [.row tc 0]) 0 = hI (.fn 56 [] [.row tc 0]) 0)
    (.need ((st6a (rem65 n) e c .zs 0 (hI (.fn 56 [] [.row tc 0]) m)).vals = (st6a (rem65 n) e c .zs 0 (hI (.fn 56 [] [.row tc 0]) m)).vals) (box6 (I m) 1 h2 (.ite (decide (m > IntKind.i64.wrap (rem65 n + 1))) (tF h2)
    (box6 (.fn 56 [] [.row tc 0]) 0 h2 (call6 lv tc (ask lv) h2 (.ite (!((e == 7) == ask lv)) (tF h2) (.ite (e != 0) (.ite (e == 7) (.ite ((c.length : Int) == 0) (tT h2) (tF h2)) (tF h2))
    (box6 (.fn 56 [] [.row tc 0]) 0 h2 (call6 (flL c) tc (ask (flL c)) h2 (.ite (ask (flL c)) (tF h2)
    (.need ((st6b (rem65 n) c 0 h2).vals = (st6b (rem65 n) c 0 h2).vals) (.need ([flL c] = [flL c]) (box6 (.fn 56 [] [.row tc 0]) 0 h2 (.need ([I (rem65 n), flL c, .fn 56 [] [.row tc 0]] = [I (rem65 n), flL c, .fn 56 [] [.row tc 0]])
    (.ite is (.ite ((0 : Int) == 0) (tT h2) (tF h2)) (tF h2)))))))))))))))))) := by kernel_rfl
def clh6b (n i : Nat) (c : List Int) (tc : List AV) (N : Nat) (b : Bool) (h h1 h2 : Heap) : FuncId → List AV → Heap → Option (Tree (AV × Heap)) := fun f xs h0 => match f, xs with
  | 31, [x] => some (.need (x = flL c ∧ h0 = h) (.leaf (.ms 1 N 0 0 n n, h1)))
  | 33, [x, y, z] => some (.need ([x, y, z] = [.ms 1 N 0 0 n n, I i, I (i + 1 : Nat)] ∧ h0 = h1) (.leaf (.ms 1 N 0 0 (n - 1) n, h2)))
  | 56, [x, y] => some (.need ([x, y] = [.ms 1 N 0 0 (n - 1) n, .row tc 0] ∧ h0 = h2) (.leaf (.bool b, h2)))
  | _, _ => none
def E6b (n i : Nat) (c : List Int) (tc : List AV) (N : Nat) (b : Bool) (h h1 h2 : Heap) : Env := { clh := clh6b n i c tc N b h h1 h2, hint := hLd 23 (.fn 56 [] [.row tc 0]) }
def hs3 (h h1 h2 : Heap) : Nat → Heap := fun c => match c with
  | 0 => h
  | 1 => h1
  | _ => h2
def mv6 (h h1 h2 : Heap) : Nat → Option (List Nat × (Nat → Heap)) := fun id => match id with
  | 20 => some ([2, 6], hs3 h h1 h2)
  | _ => none
def bx6 (tc : List AV) (h : Heap) (x : Tree (Exit × St)) : Tree (Exit × St) := .need (objAt h 0 0 = some [.fn 56 [] [.row tc 0]]) x
theorem run6b (k : Int) (n i : Nat) (c : List Int) (tc : List AV) (N : Nat) (b : Bool) (h h1 h2 : Heap) : xBodyM Tryd.prog G0 (E6b n i c tc N b h h1 h2) (mv6 h h1 h2) 200 noLoops [4, 5, 6, 8, 65, 66] body6b (st6b k c i h) =
    .ite (decide ((i : Int) < c.length)) (.need (h = h) (bx6 tc h (.need (h = h) (bx6 tc h1 (.need (AV.fn 56 [] [.row tc 0] = .fn 56 [] [.row tc 0] ∧ h1 = h1) (bx6 tc h2 (.need (AV.fn 56 [] [.row tc 0] = .fn 56 [] [.row tc 0] ∧ h2 = h2)
    (.need (h = h) (.need (flL c = flL c ∧ h = h) (.need (h1 = h1) (.need (h = h) (.need (I i = I i ∧ h1 = h1) (.need (h = h) (.need (I i = I i ∧ h1 = h1) (.need (h = h) (.need (I (IntKind.i64.wrap (i + 1)) = I (IntKind.i64.wrap (i + 1)) ∧ h1 = h1)
    (.need ([AV.ms 1 N 0 0 n n, I i, I (IntKind.i64.wrap (i + 1))] = [.ms 1 N 0 0 n n, I i, I (i + 1 : Nat)] ∧ h1 = h1) (.need (h2 = h2) (.need ([AV.ms 1 N 0 0 (n - 1) n, .row tc 0] = [.ms 1 N 0 0 (n - 1) n, .row tc 0] ∧ h2 = h2) (.need (h2 = h2) (.need (h2 = h2)
    (.ite (!b) (.leaf (.ret, st6b k c i h2)) (.leaf (.normal, st6b k c (IntKind.i64.wrap (i + 1)) h2)))))))))))))))))))))))) (.leaf (.exit 2, st6b k c i h)) := by kernel_rfl
end Go.Proofs.YtjljigccgaadaaaDoor.Am

namespace Go.Proofs.YtjljigccgaadaaaDoor.Am
open Go
set_option maxRecDepth 100000

/-! ### Lists of sets of up to 64 numbers -/
theorem ofLoop_ints {n : Nat} : ∀ (L : List Nat) (last : Int) (acc : Nat), L.Pairwise (· < ·) → (∀ x ∈ L, x < n) → (∀ x ∈ L, last < (x : Int)) → ofLoop n (L.map Int.ofNat) last acc = some (acc ||| orL L)
  | [], last, acc, _, _, _ => by simp [ofLoop, orL]
  | x :: r, last, acc, hp, hn, hl => by
    have hx := hn x (by simp)
    have hx2 := hl x (by simp)
    have ih := ofLoop_ints (n := n) r (x : Int) (acc ||| 2 ^ x) (List.pairwise_cons.1 hp).2 (fun y hy => hn y (by simp [hy])) (fun y hy => by have := (List.pairwise_cons.1 hp).1 y hy; omega)
    rw [List.map_cons]
    unfold ofLoop
    have hc : ¬ ((Int.ofNat x ≤ last) ∨ Int.ofNat x ≥ n) := by
      show ¬ ((x : Int) ≤ last ∨ (x : Int) ≥ n)
      omega
    rw [if_neg hc]
    show ofLoop n (r.map Int.ofNat) (x : Int) (acc ||| 2 ^ (x : Int).toNat) = _
    rw [Int.toNat_natCast, ih, orL, Nat.or_assoc]
theorem bitsL_sorted (s : Nat) : (bitsL s).Pairwise (· < ·) := List.Pairwise.filter _ List.pairwise_lt_range
theorem ofL_ints64 {n : Nat} (hn : n ≤ 64) {s : Nat} (hs : s < 2 ^ n) : ofL n (ints s) = some s := by
  have hp := pow_le hn
  unfold ofL ints
  rw [ofLoop_ints (bitsL s) (-1) 0 (bitsL_sorted s) (fun x hx => ?_) (fun x _ => by omega), Nat.zero_or, orL_bitsL (by omega)]
  obtain ⟨_, hb⟩ := mem_bitsL.1 hx
  apply Classical.byContradiction
  intro hni
  rw [Nat.testBit_lt_two_pow (Nat.lt_of_lt_of_le hs (Nat.pow_le_pow_right (by omega) (by omega)))] at hb
  cases hb
theorem irr14' {σ : Heap} {g : FuncId} {caps : List AV} {f : Nat → Bool} (hf : FulAt σ g caps f) {k s : Nat} (hk : k ≤ 64) (hs : s < 2 ^ k) : ACall Tryd.prog G0 14 [I k, flL (ints s), .fn g [] caps] σ (.tup [.bool (irr (fun s => !f s) s), I 0]) σ := by
  have hp := pow_le hk
  have h := c14 (hf.ful []) (n := k) hk (L := ints s) (by have := ints_len s; omega) ()
  simp only [List.append_nil] at h
  rw [ofL_ints64 hk hs] at h
  have h2 : (irrS (badS fun (_ : Unit) s => (f s, ())) () s).1 = irr (fun s => !f s) s := (irrS_ok (f := fun s => !f s) (Good := fun _ => True) (fun st s _ => ⟨rfl, trivial⟩) (by omega) trivial).1
  simp only [h2] at h
  exact h
theorem erase_filter : ∀ (L : List Nat), L.Pairwise (· < ·) → ∀ (i : Nat) (hi : i < L.length), L.eraseIdx i = L.filter fun x => x != L[i]
  | x :: r, hp, 0, hi => by
    have h1 := (List.pairwise_cons.1 hp).1
    rw [List.eraseIdx_cons_zero, List.getElem_cons_zero, List.filter_cons, bne_self_eq_false, if_neg (by simp)]
    exact (List.filter_eq_self.2 fun y hy => by
      have := h1 y hy
      simp
      omega).symm
  | x :: r, hp, i + 1, hi => by
    have h1 := (List.pairwise_cons.1 hp).1
    have hi' : i < r.length := by simpa using hi
    have ih := erase_filter r (List.pairwise_cons.1 hp).2 i hi'
    have hne : (x != r[i]) = true := by
      have := h1 _ (List.getElem_mem hi')
      simp
      omega
    rw [List.eraseIdx_cons_succ, ih, List.filter_cons]
    simp only [List.getElem_cons_succ, hne, if_true]
/-- A set's list without one element. -/
theorem ints_erase {s : Nat} (hs : s < 2 ^ 64) {i : Nat} (hi : i < (bitsL s).length) : (ints s).eraseIdx i = ints (del s (bitsL s)[i]) := by
  have hm : (bitsL s)[i] ∈ bitsL s := List.getElem_mem hi
  have h64 := (mem_bitsL.1 hm).1
  have e : (ints s).eraseIdx i = ((bitsL s).eraseIdx i).map Int.ofNat := by
    unfold ints
    rw [List.eraseIdx_eq_take_drop_succ, List.eraseIdx_eq_take_drop_succ, List.map_append, List.map_take, List.map_drop]
  have e2 : (bitsL s).eraseIdx i = (bitsL s).filter fun x => x != (bitsL s)[i] := erase_filter (bitsL s) (bitsL_sorted s) i hi
  rw [e, e2]
  generalize hb : (bitsL s)[i] = b at h64
  unfold ints
  congr 1
  unfold bitsL
  rw [List.filter_filter]
  refine List.filter_congr fun x _ => ?_
  rw [del_bit hs h64, Bool.and_comm]
  congr 1
  by_cases h : x = b
  · simp [h]
  · simp [h]
/-! ### The closure that counts -/
section
variable {T : Tab}
def fvT (T : Tab) : AV := .fn 56 [] [.row T.cells 0]
theorem run32 (s : Nat) (tc : List AV) (b : Bool) (c : Int) : xCall Tryd.prog G0 { cl := clL [(56, [flL (ints s), .row tc 0], .bool b)] } 200 32 [flL (ints s), .ref 1 0 0, .ref 0 0 0] [true, true, true] (hI (.fn 56 [] [.row tc 0]) c) =
    .need ([flL (ints s), AV.row tc 0] = [flL (ints s), .row tc 0]) (.leaf (.bool b, true, hI (.fn 56 [] [.row tc 0]) (IntKind.i64.wrap (c + 1)))) := by kernel_rfl
def stp6 (f : Nat → Bool) : Int → Nat → Bool × Int := fun c s => (f s, IntKind.i64.wrap (c + 1))
theorem ful32 {f : Nat → Bool} (hf : ∀ σ, FulAt σ 56 [.row T.cells 0] f) : FulOk 32 [.ref 1 0 0, .ref 0 0 0] (hI (fvT T)) (stp6 f) := fun c s hs =>
  xCall_ok (n := 200) (tags := [true, true, true]) (s := true) names mixed (clokL0 (l := [(56, [flL (ints s), .row T.cells 0], .bool (f s))]) fun p hp σ => by
    rw [List.mem_singleton.1 hp]
    have := hf σ [] s hs
    simp only [List.append_nil] at this
    exact this) ((congrArg Tree.sel (run32 s T.cells (f s) c)).trans (selR.trans rfl))
theorem count6 (f : Nat → Bool) : ∀ (x s c : Nat), c + x < 4611686018427387904 → (coreLoop (badS (stp6 f)) x s (c : Int)).2 = ((c + x : Nat) : Int)
  | 0, s, c, _ => rfl
  | x + 1, s, c, h => by
    have hw : IntKind.i64.wrap ((c : Int) + 1) = ((c + 1 : Nat) : Int) := wrap_i64 (by omega) (by omega)
    unfold coreLoop
    show (coreLoop (badS (stp6 f)) x _ (IntKind.i64.wrap ((c : Int) + 1))).2 = _
    rw [hw, count6 f x _ (c + 1) (by omega)]
    congr 1
    omega
theorem core6 (f : Nat → Bool) {n : Nat} (hn : n ≤ 64) : ∃ m : Nat, (coreS (badS (stp6 f)) n 0).2 = (m : Int) ∧ m ≤ n + 1 := by
  have h1 : (badS (stp6 f) 0 (2 ^ n - 1)).2 = ((1 : Nat) : Int) := by
    show IntKind.i64.wrap (0 + 1) = _
    rw [wrap_i64 (by omega) (by omega)]
    rfl
  unfold coreS
  rw [h1]
  split
  · exact ⟨1 + n, count6 f n _ 1 (by omega), by omega⟩
  · exact ⟨1, rfl, by omega⟩
theorem core13c {f : Nat → Bool} (hf : ∀ σ, FulAt σ 56 [.row T.cells 0] f) {n : Nat} (hn : n ≤ 64) : ∃ m : Nat, m ≤ n + 1 ∧ ACall Tryd.prog G0 13 [I n, .fn 32 [] [.ref 1 0 0, .ref 0 0 0]] (hI (fvT T) 0) (.tup [flL (coreC f n), I (coreE f n)]) (hI (fvT T) m) := by
  obtain ⟨m, hm, hle⟩ := core6 f hn
  have h := c13 (ful32 hf) hn 0
  have hs := (coreS_ok (g := fun s => !f s) (stp := badS (stp6 f)) (Good := fun _ => True) (fun st s _ => ⟨rfl, trivial⟩) n (st := 0) trivial).1
  rw [hs, hm] at h
  refine ⟨m, hle, ?_⟩
  unfold coreC coreE
  cases hq : f (2 ^ n - 1) with
  | true =>
    simp only [hq, Bool.not_true, Bool.false_eq_true, if_false] at h
    exact h
  | false =>
    simp only [hq, Bool.not_false, if_true] at h
    exact h
end
/-! ### The loops -/
def upL (i : Nat) : List Int := (List.range i).map Int.ofNat
theorem upL_succ (i : Nat) : upL (i + 1) = upL i ++ [(i : Int)] := by
  unfold upL
  rw [List.range_succ, List.map_append]
  rfl
theorem upL_len (i : Nat) : (upL i).length = i := by simp [upL]
theorem clok6a (i : Int) (v v' : AV) (h h1 : Heap) : ClOk Tryd.prog G0 (E6a i v v' h h1) := .ofH rfl rfl (hApp_ok _ _ _ _ _ _).ok fun f xs t v h => by cases h
theorem loop6a {R : Option Nat → Prop} {k : Nat} (e : Int) (c : List Int) (hk : k ≤ 64) (base : Heap) : ∀ (d i : Nat), i + d = k →
    ALoopRun Tryd.prog G0 R body6a { tmps := (st6a k e c (vA base.length ((upL i).map I)) i (hG base (upL i))).a } (hG base (upL i)) (.exit 0) { tmps := (st6a k e c (vA base.length ((upL k).map I)) k (hG base (upL k))).a } (hG base (upL k))
  | 0, i, hi => by
    obtain rfl : i = k := by omega
    refine .stop (xBody_ok (m := []) names mixed (clok6a i (vA base.length ((upL i).map I)) .zs (hG base (upL i)) []) (lpNo body6a) (n := 200) (keep := [4, 5, 6, 7, 8, 9, 10, 28, 29]) (st := st6a i e c (vA base.length ((upL i).map I)) i (hG base (upL i))) (st' := st6a i e c (vA base.length ((upL i).map I)) i (hG base (upL i))) ?_).1 nofun
    refine (congrArg Tree.sel (run6a i e i c _ _ _ _)).trans ?_
    rw [selI, decide_eq_false (by omega)]
    rfl
  | d + 1, i, hi => by
    have hw : IntKind.i64.wrap ((i : Int) + 1) = ((i + 1 : Nat) : Int) := wrap_i64 (by omega) (by omega)
    have ih := loop6a (R := R) e c hk base d (i + 1) (by omega)
    have hl := upL_succ i
    have happ := append_vA el22 base ((upL i).map I) (I i) rfl (by simp [upL]; omega)
    have hm : (upL i).map I ++ [I i] = (upL i ++ [(i : Int)]).map I := by simp
    rw [hm] at happ
    refine .next (xBody_ok (m := []) names mixed (clok6a i (vA base.length ((upL i).map I)) (vA base.length ((upL i ++ [(i : Int)]).map I)) (hG base (upL i)) (hG base (upL i ++ [(i : Int)]))) (lpNo body6a) (n := 200) (keep := [4, 5, 6, 7, 8, 9, 10, 28, 29]) (st := st6a k e c (vA base.length ((upL i).map I)) i (hG base (upL i))) (st' := st6a k e c (vA base.length ((upL (i + 1)).map I)) (i + 1 : Nat) (hG base (upL (i + 1)))) ?_).1 ih
    refine (congrArg Tree.sel (run6a k e i c _ _ _ _)).trans ?_
    rw [selI, decide_eq_true (by omega), cond_true, Tree.sel_need ⟨rfl, rfl, rfl, happ⟩, hw, hl]
    rfl
end Go.Proofs.YtjljigccgaadaaaDoor.Am

namespace Go.Proofs.YtjljigccgaadaaaDoor.Am
open Go
set_option maxRecDepth 100000

theorem rowsOf_mid {h : Heap} {k : Nat} : ∀ (l pre post : List AV), (∀ x ∈ l, freeze h k x = some x) → rowsOf (freeze h k) 1 (pre ++ (l ++ post)) pre.length l.length = some (l.map fun y => [y])
  | [], pre, post, _ => rfl
  | x :: r, pre, post, hx => by
    have ih := rowsOf_mid r (pre ++ [x]) post fun y hy => hx y (by simp [hy])
    simp only [List.length_append, List.length_singleton, List.append_assoc, List.singleton_append] at ih
    simp only [List.length_cons, rowsOf]
    rw [if_pos (by simp), List.cons_append, ih]
    have : ((pre ++ x :: (r ++ post)).drop pre.length).take 1 = [x] := by simp
    rw [this, freezeL_id fun y hy => hx y (by rw [List.mem_singleton.1 hy]; simp)]
    rfl
/-- A table asked with the front of an own list. -/
theorem c56z {T : Tab} (hb : T.bad.length < 4611686018427387904) {s : Nat} (hs : s < 2 ^ 64) {h : Heap} {r cap : Nat} {post : List AV} (ho : objAt h r 0 = some ((ints s).map I ++ post)) : ACall Tryd.prog G0 56 [.ms 1 r 0 0 (ints s).length cap, .row T.cells 0] h (.bool (T.ful (s : Nat))) h := by
  have hlen := bitsL_len s
  have h0 := c56 hb (bitsL_lt64 s) (by omega) []
  rw [orL_bitsL hs] at h0
  replace h0 : ACall Tryd.prog G0 56 [flL (ints s), .row T.cells 0] [] (.bool (T.ful (s : Nat))) [] := h0
  have hbt : Below 0 (AV.row T.cells 0) := below_row fun x hx => by
    simp only [Tab.cells, List.mem_cons, List.not_mem_nil, or_false] at hx
    rcases hx with rfl | rfl | rfl
    · exact .bool _
    · exact .int _ _
    · exact below_flU _
  refine ACall.frz (h0.arg2 (sub_slL (ints s)) (Sub.rfl' _)) gbelow0 (.bool _) rfl fun j x' hj => ?_
  match j, hj with
  | 0, hj =>
    cases hj
    refine ⟨_, rfl, .inl ⟨2, ?_⟩⟩
    have := rowsOf_mid (h := h) (k := 1) ((ints s).map I) [] post fun x hx => by
      obtain ⟨n, _, rfl⟩ := List.mem_map.1 hx
      rfl
    simp only [List.nil_append, List.length_nil, List.length_map] at this
    unfold freeze
    simp only [ho, this]
    rfl
  | 1, hj => cases hj; exact ⟨_, rfl, .inr (.inl ⟨hbt, rfl⟩)⟩
  | j + 2, hj => simp at hj
theorem clok6b {n i : Nat} {c : List Int} {tc : List AV} {N : Nat} {b : Bool} {h h1 h2 : Heap} (h31 : ACall Tryd.prog G0 31 [flL c] h (.ms 1 N 0 0 n n) h1) (h33 : ACall Tryd.prog G0 33 [.ms 1 N 0 0 n n, I i, I (i + 1 : Nat)] h1 (.ms 1 N 0 0 (n - 1) n) h2)
    (h56 : ACall Tryd.prog G0 56 [.ms 1 N 0 0 (n - 1) n, .row tc 0] h2 (.bool b) h2) : ClOk Tryd.prog G0 (E6b n i c tc N b h h1 h2) := by
  refine .all (hLd_ok Tryd.underlying23 rfl _).ok ?_ (fun l xs σ t v σ' h => (by cases h)) fun f xs t v h => by cases h
  intro f xs σ t u σ' hq hs
  replace hq : clh6b n i c tc N b h h1 h2 f xs σ = some t := hq
  unfold clh6b at hq
  split at hq <;> first | (cases hq; done) | skip
  all_goals cases hq
  · obtain ⟨⟨rfl, rfl⟩, hs2⟩ := Tree.of_need hs
    cases hs2
    exact h31
  · obtain ⟨⟨he, rfl⟩, hs2⟩ := Tree.of_need hs
    cases hs2
    rw [he]
    exact h33
  · obtain ⟨⟨he, rfl⟩, hs2⟩ := Tree.of_need hs
    cases hs2
    rw [he]
    exact h56
theorem run6be (k : Int) (i : Nat) (c : List Int) (h : Heap) : xBody Tryd.prog G0 EF 200 noLoops [4, 5, 6, 8, 65, 66] body6b (st6b k c i h) = .ite (decide ((i : Int) < c.length)) (iteA (xBody Tryd.prog G0 EF 200 noLoops [4, 5, 6, 8, 65, 66] body6b (st6b k c i h))) (.leaf (.exit 2, st6b k c i h)) := by kernel_rfl
section
variable {T : Tab}
theorem round6 {R : Option Nat → Prop} (hb : T.bad.length < 4611686018427387904) {k : Int} {r : Nat} (hr : r < 2 ^ 64) {i : Nat} (hi : i < (bitsL r).length) (hf : T.ful (del r (bitsL r)[i] : Nat) = true) {σ : Heap} (hσ : ∀ X, objAt (σ ++ X) 0 0 = some [.fn 56 [] [.row T.cells 0]]) :
    AExec Tryd.prog G0 R body6b { tmps := (st6b k (ints r) i σ).a } σ .normal { tmps := (st6b k (ints r) (i + 1 : Nat) σ).a } (σ ++ [.cells 0 (((ints r).eraseIdx i ++ [0]).map I)]) := by
  have hil : i < (ints r).length := by simpa [ints] using hi
  have hlen := ints_len r
  have he := ints_erase hr hi
  have h31 := c31s (L := ints r) (by intro h; rw [h] at hil; simp at hil) (by omega) σ
  have h33 := c33 hil σ
  have ho : objAt (σ ++ [.cells 0 (((ints r).eraseIdx i ++ [0]).map I)]) σ.length 0 = some ((ints (del r (bitsL r)[i])).map I ++ [I 0]) := by
    rw [he, List.map_append]
    exact objAt_app (i := 0) rfl
  have h56 := c56z hb (s := del r (bitsL r)[i]) (del_lt hr) (cap := (ints r).length) ho
  have hl1 : (ints (del r (bitsL r)[i])).length = (ints r).length - 1 := by rw [← he, List.length_eraseIdx, if_pos hil]
  rw [hl1, hf] at h56
  have hw : IntKind.i64.wrap ((i : Int) + 1) = ((i + 1 : Nat) : Int) := wrap_i64 (by omega) (by omega)
  have h0 := hσ []
  rw [List.append_nil] at h0
  refine (xBodyM_ok (m := []) (mv := mv6 σ (σ ++ [.cells 0 ((ints r).map I)]) (σ ++ [.cells 0 (((ints r).eraseIdx i ++ [0]).map I)])) names mixed (clok6b h31 h33 h56) (lpNo body6b) (n := 200) (keep := [4, 5, 6, 8, 65, 66]) (st := st6b k (ints r) i σ) (st' := st6b k (ints r) (i + 1 : Nat) (σ ++ [.cells 0 (((ints r).eraseIdx i ++ [0]).map I)])) ?_).1
  refine (congrArg Tree.sel (run6b k (ints r).length i (ints r) T.cells σ.length true σ _ _)).trans ?_
  unfold bx6
  rw [selI, decide_eq_true (by omega), cond_true, selR, Tree.sel_need h0, selR, Tree.sel_need (hσ _), Tree.sel_need ⟨rfl, rfl⟩, Tree.sel_need (hσ _), Tree.sel_need ⟨rfl, rfl⟩, selR, Tree.sel_need ⟨rfl, rfl⟩, selR, selR, Tree.sel_need ⟨rfl, rfl⟩, selR, Tree.sel_need ⟨rfl, rfl⟩, selR, Tree.sel_need ⟨rfl, rfl⟩, hw,
    Tree.sel_need ⟨rfl, rfl⟩, selR, Tree.sel_need ⟨rfl, rfl⟩, selR, selR, selI]
  rfl
theorem below_frame {n N : Nat} {h : Heap} {l : List (Nat × AV × Bool)} (hl : ∀ p ∈ l, Below N p.2.1) : ∀ x ∈ (St.of n h l).a, Below N x := by
  intro x hx
  simp only [St.a, St.of, List.mem_map] at hx
  obtain ⟨j, _, rfl⟩ := hx
  rcases of_get l .nil j with h1 | ⟨p, hp, h1⟩
  · rw [h1, PT.get_nil]; exact .junk
  · rw [h1]; exact hl p hp
theorem below6b {n : Nat} (hn : 0 < n) {k i : Int} {c : List Int} (h : Heap) : ∀ x ∈ (st6b k c i h).a, Below n x := fun x hx => by
  have := below_frame (n := 95) (h := h) (N := n) (l := [(4, .bool false, false), (5, I k, true), (6, .ref 0 0 0, true), (8, flL c, true), (65, I c.length, true), (66, I i, true)]) (fun p hp => by
    simp only [List.mem_cons, List.not_mem_nil, or_false] at hp
    rcases hp with rfl | rfl | rfl | rfl | rfl | rfl
    · exact .bool _
    · exact .int _ _
    · exact .ref _ _ _ hn
    · exact below_flL _
    · exact .int _ _
    · exact .int _ _) x hx
  exact this
theorem loop6b {R : Option Nat → Prop} (hb : T.bad.length < 4611686018427387904) {k : Int} {r : Nat} (hr : r < 2 ^ 64) (hf : ∀ b ∈ bitsL r, T.ful (del r b : Nat) = true) {σ : Heap} (h0 : 0 < σ.length) (hσ : ∀ X, objAt (σ ++ X) 0 0 = some [.fn 56 [] [.row T.cells 0]]) : ∀ (d i : Nat), i + d = (ints r).length →
    ALoopRun Tryd.prog G0 R body6b { tmps := (st6b k (ints r) i σ).a } σ (.exit 2) { tmps := (st6b k (ints r) (ints r).length σ).a } σ
  | 0, i, hi => by
    obtain rfl : i = (ints r).length := by omega
    refine .stop (xBody_ok (m := []) names mixed clokF (lpNo body6b) (n := 200) (keep := [4, 5, 6, 8, 65, 66]) (st := st6b k (ints r) (ints r).length σ) (st' := st6b k (ints r) (ints r).length σ) ?_).1 nofun
    refine (congrArg Tree.sel (run6be k (ints r).length (ints r) σ)).trans ?_
    rw [selI, decide_eq_false (by omega)]
    rfl
  | d + 1, i, hi => by
    have hil : i < (bitsL r).length := by have : (ints r).length = (bitsL r).length := by simp [ints]
                                          omega
    exact .next (AExec.drop (round6 hb hr hil (hf _ (List.getElem_mem hil)) hσ) (below6b h0 σ)) (loop6b hb hr hf h0 hσ d (i + 1) (by omega))
end
end Go.Proofs.YtjljigccgaadaaaDoor.Am

namespace Go.Proofs.YtjljigccgaadaaaDoor.Am
open Go
set_option maxRecDepth 100000

theorem rem65_nat {n : Int} (h0 : 0 ≤ n) (h1 : n < 256) : rem65 n = (n.toNat % 65 : Nat) := by
  unfold rem65
  rw [wrap_i64 (by omega) (by omega), Int.tmod_eq_emod_of_nonneg h0]
  omega
theorem upL_ints {k : Nat} (hk : k ≤ 64) : upL k = ints (2 ^ k - 1) := by
  have h0 := pow_pos' k
  rw [← lowL_all hk (by omega : 2 ^ k - 1 < 2 ^ k)]
  unfold upL lowL
  congr 1
  exact (List.filter_eq_self.2 fun i hi => by rw [Nat.testBit_two_pow_sub_one, decide_eq_true (List.mem_range.1 hi)]).symm
theorem loops6 : loopsOf (bodyOf Tryd.prog 6) = [body6a, body6b] := by kernel_rfl
theorem id6a : idOf body6a = 7 := by kernel_rfl
theorem id6b : idOf body6b = 18 := by kernel_rfl
theorem clok6 {l : List (FuncId × List AV × AV)} (hl : ∀ p ∈ l, ∀ σ, ACall Tryd.prog G0 p.1 p.2.1 σ p.2.2 σ) {k e : Int} {c : List Int} {fv : AV} {m : Int} {ask : AV → Bool} (h13 : ACall Tryd.prog G0 13 [I k, .fn 32 [] [.ref 1 0 0, .ref 0 0 0]] (hI fv 0) (.tup [flL c, I e]) (hI fv m)) :
    ClOk Tryd.prog G0 (E6 l k e c fv m ask) := by
  refine .all ((hLd_ok Tryd.underlying23 rfl _).ok.or (hLd_ok Tryd.underlying3 rfl _).ok) ?_ (fun l xs σ t v σ' h => (by cases h)) fun f xs t v h hs σ => clL_ok hl f xs t v h hs σ
  intro f xs σ t u σ' hq hs
  replace hq : clh6 k e c fv m ask f xs σ = some t := hq
  unfold clh6 at hq
  split at hq <;> first | (cases hq; done) | skip
  all_goals cases hq
  · obtain ⟨⟨he, rfl⟩, hs2⟩ := Tree.of_need hs
    cases hs2
    rw [he]
    exact h13
  · obtain ⟨hc, hs2⟩ := Tree.of_need hs
    cases hs2
    exact hc
theorem vA_ne (r : Nat) (L : List AV) (c : List Int) : flL c ≠ vA r L := by cases L <;> exact nofun
theorem hI_box (fv : AV) (m : Int) (L : List Int) (X : Heap) : objAt (hG (hI fv m) L ++ X) 0 0 = some [fv] := by simp [hG, hI, objAt]
theorem hI_cnt (fv : AV) (m : Int) (L : List Int) : objAt (hG (hI fv m) L) 1 0 = some [I m] := by simp [hG, hI, objAt]
theorem hI_at (fv : AV) (m : Int) (L : List Int) : AtL (hG (hI fv m) L) 2 L := by
  intro hne
  unfold hG hI
  cases L with
  | nil => exact absurd rfl hne
  | cons x l => simp [oA]
theorem c6 {n : Int} {B : List Int} (h0 : 0 ≤ n) (h1 : n < 256) (hB : ∀ m ∈ B, inU64 m) (hl : B.length < 4611686018427387904) : ∃ σ', ACall Tryd.prog G0 6 [.int .u8 n, flU B] [] (.bool true) σ' := by
  have hk := rem65_nat h0 h1
  have hk64 : n.toNat % 65 ≤ 64 := by omega
  generalize n.toNat % 65 = k at hk hk64
  have hp := pow_le hk64
  have hp0 := pow_pos' k
  have hbl : (Tab.bad ⟨false, 0, ordL k B⟩).length < 4611686018427387904 := by
    show (ordL k B).length < _
    have : (ordL (k : Int) B).length ≤ 12 := ordL_len _ _
    omega
  have hm := mono_ful (ordL_in (n := (k : Int)) hB)
  have hT : ∀ σ, FulAt σ 56 [.row (Tab.cells ⟨false, 0, ordL k B⟩) 0] fun s => Tab.ful ⟨false, 0, ordL k B⟩ (s : Nat) := fun σ => fulAsk hbl σ
  have h22 := fun σ => c22 (k : Int) hl σ
  have h21 := fun σ => c21 ⟨false, 0, ordL k B⟩ σ
  generalize hTab : (⟨false, 0, ordL k B⟩ : Tab) = T at *
  generalize hf : (fun s : Nat => T.ful (s : Nat)) = f at *
  have hff : ∀ s : Nat, T.ful (s : Nat) = f s := fun s => by rw [← hf]
  obtain ⟨r, hc, hr, hirr⟩ : ∃ r, coreC f k = ints r ∧ r < 2 ^ k ∧ (∀ b ∈ bitsL r, f (del r b) = true) ∧ (f (2 ^ k - 1) = false → f r = false ∧ irr (fun s => !f s) r = true) := by
    cases hq : f (2 ^ k - 1) with
    | true =>
      refine ⟨0, ?_, hp0, fun b hb => ?_, nofun⟩
      · unfold coreC ints
        rw [hq, bitsL_zero]
        rfl
      · rw [bitsL_zero] at hb; cases hb
    | false =>
      obtain ⟨c1, c2⟩ := core_irr hm hk64 hq
      obtain ⟨i1, i2⟩ := irr_iff.1 c1
      refine ⟨_, ?_, c2, fun b hb => ?_, fun _ => ⟨?_, c1⟩⟩
      · unfold coreC
        rw [hq]
        rfl
      · have := i2 b hb
        simpa using this
      · simpa using i1
  obtain ⟨m, hmle, h13⟩ := core13c (T := T) hT hk64
  rw [hc] at h13
  have hlr := ints_len r
  have hcl : ∀ p ∈ e6 (rem65 n) (flU B) T.av T.cells (ints r) (irr (fun s => !f s) r), ∀ σ, ACall Tryd.prog G0 p.1 p.2.1 σ p.2.2 σ := by
    intro p hp σ
    simp only [e6, List.mem_cons, List.not_mem_nil, or_false] at hp
    rw [hk] at hp
    rcases hp with rfl | rfl | rfl | rfl | rfl
    · exact h22 σ
    · exact h21 σ
    · exact c31d (by omega) σ
    · exact irr14' (hT σ) hk64 hr
    · exact c20 σ
  have hup := upL_ints hk64
  have hlv : ∀ x, x = vA 2 ((upL k).map I) → ACall Tryd.prog G0 56 [x, .row T.cells 0] (hG (hI (fvT T) m) (upL k)) (.bool (f (2 ^ k - 1))) (hG (hI (fvT T) m) (upL k)) := fun x hx => by
    have := c56v (T := T) hbl (s := 2 ^ k - 1) (by omega) (h := hG (hI (fvT T) m) (upL k)) (r := 2) (by rw [← hup]; exact hI_at _ _ _)
    rw [hff, ← hup] at this
    rw [hx]
    exact this
  have hset : ACall Tryd.prog G0 56 [flL (ints r), .row T.cells 0] (hG (hI (fvT T) m) (upL k)) (.bool (f r)) (hG (hI (fvT T) m) (upL k)) := by
    have := hT (hG (hI (fvT T) m) (upL k)) [] r (by omega)
    simp only [List.append_nil] at this
    exact this
  have hlp : LoopsOk Tryd.prog G0 (fun r => r = none) [] (lp6 (rem65 n) (coreE f k) (ints r) (vA 2 ((upL k).map I)) (hI (fvT T) m) (hG (hI (fvT T) m) (upL k))) (bodyOf Tryd.prog 6) := by
    refine .of_list _ fun x hx => ?_
    rw [loops6] at hx
    simp only [List.mem_cons, List.not_mem_nil, or_false] at hx
    intro kp s0 tr e st' h' hsel
    rcases hx with rfl | rfl
    · rw [id6a] at h'
      cases h'
      cases hsel
      rw [hk]
      exact ⟨.loop (loop6a (coreE f k) (ints r) hk64 (hI (fvT T) m) k 0 (by omega)), rfl⟩
    · rw [id6b] at h'
      cases h'
      cases hsel
      exact ⟨.loop (loop6b (T := T) hbl (by omega) (fun b hb => by rw [hff]; exact hirr.1 b hb) (by simp [hG, hI]) (fun X => hI_box _ _ _ X) (ints r).length 0 (by omega)), rfl⟩
  have hex : ∃ ask : AV → Bool, ask (vA 2 ((upL k).map I)) = f (2 ^ k - 1) ∧ ask (flL (ints r)) = f r := by
    classical
    exact ⟨fun x => if x = vA 2 ((upL k).map I) then f (2 ^ k - 1) else f r, if_pos rfl, if_neg (vA_ne _ _ _)⟩
  obtain ⟨ask, ha1, ha2⟩ := hex
  rw [← hk] at h13
  have hck := clok6 (ask := ask) hcl h13
  have run := run6 n (coreE f k) (flU B) T.av T.cells (ints r) (irr (fun s => !f s) r) m ask (vA 2 ((upL k).map I)) (hG (hI (fvT T) m) (upL k))
  refine ⟨hG (hI (fvT T) m) (upL k), .find (s := true) (n := 200) (tags := [true, true]) hck hlp ((congrArg Tree.sel run).trans ?_)⟩
  have hbx : objAt (hG (hI (fvT T) m) (upL k)) 0 0 = some [.fn 56 [] [.row T.cells 0]] := by
    have := hI_box (fvT T) m (upL k) []
    rwa [List.append_nil] at this
  have hw : IntKind.i64.wrap ((k : Int) + 1) = ((k + 1 : Nat) : Int) := wrap_i64 (by omega) (by omega)
  unfold box6 call6
  rw [selR, selR, Tree.sel_need ⟨rfl, rfl⟩, selR, Tree.sel_need (hI_cnt _ _ _), selI, hk, hw, decide_eq_false (by omega), cond_false, Tree.sel_need hbx, ha1, Tree.sel_need (hlv _ rfl), selI]
  cases hq : f (2 ^ k - 1) with
  | true =>
    have he : coreE f k = 7 := by unfold coreE; rw [hq]; rfl
    have hcz : ints r = [] := by rw [← hc]; unfold coreC; rw [hq]; rfl
    rw [he, hcz]
    exact sel_tT _
  | false =>
    have he : coreE f k = 0 := by unfold coreE; rw [hq]; rfl
    obtain ⟨hfr, hi⟩ := hirr.2 hq
    rw [ha2, he, hi]
    rw [show (!(((0 : Int) == 7) == false)) = false from rfl, cond_false, selI, bne_self_eq_false, cond_false, Tree.sel_need hbx, Tree.sel_need hset, selI, hfr, cond_false, selR, selR, Tree.sel_need hbx, selR]
    exact sel_tT _
end Go.Proofs.YtjljigccgaadaaaDoor.Am

