/-
  This file proves nothing of a law. It holds lemmas, of 12 texts in their order. No condition of its own.
-/
import Derived.Test.YtjljigccgaadaaaDoorMg6
import Derived.Test.YtjljigccgaadaaaDoorMg7
import Derived.Lib.Overlaps
import Derived.Laws.Externs
namespace Go.Proofs.YtjljigccgaadaaaDoor.Am
open Go
section
variable {P : Program} {G : Nat → Option (List AV)}

/-- What one operation is worth, whatever has been carried out. H: the heap, by what has been carried out. -/
def WorthM (P : Program) (G : Nat → Option (List AV)) (H : (Nat → Bool) → Heap) (ops : List Oper) (marks : List Nat) (i : Nat) (o : Oper) (v : List AV) (y : AV) : Prop :=
  ∀ f : Nat → Bool, Closed ops f → (∀ j, ops.length ≤ j → f j = false) → f i = false → (∀ e ∈ o.after, Region.binds .any e = true → f e.on = true) →
    (awanted ops.toArray v o = some true ∧ AStep P G { tmps := v, marks := marks } (H f) o y (H fun j => decide (j = i) || f j)) ∨ (awanted ops.toArray v o = some false ∧ y = .tup [] ∧ H (fun j => decide (j = i) || f j) = H f)

theorem WorthM.ok {H : (Nat → Bool) → Heap} {ops : List Oper} {marks : List Nat} {o : Oper} {v : List AV} {y : AV} {i : Nat} (h : WorthM P G H ops marks i o v y) {f : Nat → Bool} (hc : Closed ops f) (hlen : ∀ j, ops.length ≤ j → f j = false) (hu : f i = false) (hp : ∀ e ∈ o.after, Region.binds .any e = true → f e.on = true)
    {r0 : Option Nat} {w : World} {M : Map} {ac : Act} {K : Act → World → Prop} {Q : Exit → Act → World → Prop} (ho : ops.toArray[i]? = some o)
    (hi : Inv G w M (H f)) (ha : RAct w M ac { tmps := v, marks := marks }) (hK : ∀ u w' M', RV w' M' u y → Ext w M w' M' → Inv G w' M' (H fun j => decide (j = i) || f j) → K (ac.put o.dst u) w') : wpOpIn (FW r0) 0 P ops.toArray Q i K ac w := by
  unfold wpOpIn
  simp only [ho]
  rcases h f hc hlen hu hp with ⟨hw, hs⟩ | ⟨hw, rfl, he⟩
  · rw [if_pos (awanted_ok ha.tmps hw)]
    exact hs r0 w M ac K Q hi ha hK
  · rw [if_neg (by rw [awanted_ok ha.tmps hw]; simp)]
    exact ⟨fun f _ => FW_fn r0 f, hK undef w M (.undef w M) (.refl w M) (by rw [he]; exact hi)⟩

theorem move_go {H : (Nat → Bool) → Heap} {ops : List Oper} {marks : List Nat} (hd : okDraw ops = true) (hc : okStill ops 0 ops.length = true) {a0 vs : List AV}
    (hv : ∀ i o, ops[i]? = some o → ∃ (v : List AV) (y : AV), vs[i]? = some y ∧ v.length = a0.length ∧ WorthM P G H ops marks i o v y ∧
      ∀ t x, v[t]? = some x → x = .junk ∨ ((o.looksAt ops.toArray).contains t = true ∧ frameAt ops vs a0 (fun j => decide (j < i)) t = some x))
    {r0 : Option Nat} {Q : Exit → Act → World → Prop} {w0 : World} {M0 : Map}
    (hK : ∀ (fuel : Nat) (listed : Array Bool) (w : World) (M : Map) (ac : Act), Ls ops listed fuel → (∀ j, j < ops.length → lf listed j = true) → Ext w0 M0 w M → Inv G w M (H fun j => decide (j < ops.length)) →
      Fr w M ac marks a0.length (frameAt ops vs a0 (fun j => decide (j < ops.length))) → wpAnyIn (FW r0) 0 P .any ops.toArray Q fuel listed ac w) :
    ∀ (fuel : Nat) (listed : Array Bool) (w : World) (M : Map) (ac : Act), Ls ops listed fuel → (∀ j, ops.length ≤ j → lf listed j = false) → Ext w0 M0 w M → Inv G w M (H (lf listed)) →
      Fr w M ac marks a0.length (frameAt ops vs a0 (lf listed)) → wpAnyIn (FW r0) 0 P .any ops.toArray Q fuel listed ac w := by
  have hap := okDraw_apart hd
  have last : ∀ (fuel : Nat) (listed : Array Bool) (w : World) (M : Map) (ac : Act), Ls ops listed fuel → (∀ j, ops.length ≤ j → lf listed j = false) → Ext w0 M0 w M → Inv G w M (H (lf listed)) →
      Fr w M ac marks a0.length (frameAt ops vs a0 (lf listed)) → (∀ j, j < ops.length → lf listed j = true) → wpAnyIn (FW r0) 0 P .any ops.toArray Q fuel listed ac w := by
    intro fuel listed w M ac hl hn he hi ha hall
    have hf : lf listed = fun j => decide (j < ops.length) := by
      funext j
      by_cases hj : j < ops.length
      · rw [hall j hj]; simp [hj]
      · rw [hn j (by omega)]; simp [hj]
    rw [hf] at hi ha
    exact hK fuel listed w M ac hl hall he hi ha
  intro fuel
  induction fuel with
  | zero =>
    intro listed w M ac hl hn he hi ha
    refine last 0 listed w M ac hl hn he hi ha fun j hj => ?_
    cases hu : lf listed j with
    | true => rfl
    | false => have := count_lt (by rw [hl.size]; exact hj) hu; have := hl.fuel; have := hl.size; omega
  | succ fuel ih =>
    intro listed w M ac hl hn he hi ha
    by_cases hall : ∀ j, j < ops.length → lf listed j = true
    · exact last (fuel + 1) listed w M ac hl hn he hi ha hall
    · simp only [Classical.not_forall] at hall
      obtain ⟨u, hu, hun⟩ := hall
      have hun : lf listed u = false := by simpa using hun
      refine ⟨fun hnil => absurd hnil (ready_ne hd hl.size hu hun), fun i hir => ?_⟩
      obtain ⟨hiu, o, ho, hp⟩ := ready_spec hir
      have hin : i < ops.length := (List.getElem?_eq_some_iff.1 ho).1
      have hilt : i < listed.size := by rw [hl.size]; omega
      obtain ⟨v, y, hy, hvl, hwo, hvt⟩ := hv i o ho
      have hoa : ops.toArray[i]? = some o := by simpa using ho
      have hset : lf (listed.setIfInBounds i true) = fun j => decide (j = i) || lf listed j := funext fun j => lf_set hilt
      refine hwo.ok hl.closed hn hiu hp hoa hi (ha.act_of hvl fun t x ht => ?_) fun u' w' M' hu' he' hi' => ?_
      · rcases hvt t x ht with rfl | ⟨hlook, hfr⟩
        · exact .inl rfl
        · refine .inr ?_
          rw [← hfr]
          refine frameAt_congr fun j hj => ⟨?_, fun _ => rfl⟩
          by_cases hjn : j < ops.length
          · by_cases hji : j = i
            · subst hji; simp [hiu]
            · have hsp := okStill_spec hc (Nat.zero_le i) (by omega) (Nat.zero_le j) (by omega) (Ne.symm hji) ho hj hlook
              by_cases hlt : j < i
              · have := befores_of ho hl.closed hp (hsp.1 hlt)
                simp [this, hlt]
              · have hgt : i < j := by omega
                have : lf listed j = false := by
                  cases hlj : lf listed j with
                  | false => rfl
                  | true =>
                    obtain ⟨oj, hoj⟩ : ∃ oj, ops[j]? = some oj := ⟨_, List.getElem?_eq_getElem hjn⟩
                    have := befores_of hoj hl.closed (fun e he hbd => hl.closed j oj hoj hlj e he hbd) (hsp.2 hgt)
                    rw [hiu] at this; cases this
                simp [this, hlt]
          · rw [hn j (by omega)]
            have : ¬ (j < i) := by omega
            simp [this]
      · refine ih (listed.setIfInBounds i true) w' M' _ (hl.set ho hiu hp) (fun j hj => ?_) (he.trans he') (by rw [hset]; exact hi') (ha.put he' hu' fun t x ht => ?_)
        · rw [lf_set hilt, hn j hj]
          have : j ≠ i := by omega
          simp [this]
        · by_cases hdt : o.dst = some t
          · have hdi : dstAt ops i = some t := by unfold dstAt; rw [ho]; exact hdt
            rw [frameAt_of hap hdi, lf_set hilt] at ht
            simp only [decide_true, Bool.true_or, if_true] at ht
            split at ht
            · rename_i hlt
              rw [hy] at ht
              cases ht
              exact .inl ⟨hdt, rfl, hlt⟩
            · cases ht
          · refine .inr ⟨hdt, ?_⟩
            rw [← ht]
            refine frameAt_congr fun j hj => ⟨?_, fun _ => rfl⟩
            have hji : j ≠ i := fun e => by
              subst e
              unfold dstAt at hj
              rw [ho] at hj
              exact hdt hj
            rw [lf_set hilt]
            simp [hji]
/-- A STATEMENT THAT LEAVES ITS ORDER OPEN, some of whose operations change the heap. -/
theorem AExec.drawM {R : Option Nat → Prop} {id : Nat} {H : (Nat → Bool) → Heap} {ops : List Oper} {marks : List Nat} {a a' vs : List AV} (hm : P.follows .mixedOrders = true) (hd : okDraw ops = true) (hc : okStill ops 0 ops.length = true)
    (hv : ∀ i o, ops[i]? = some o → ∃ (v : List AV) (y : AV), vs[i]? = some y ∧ v.length = a.length ∧ WorthM P G H ops marks i o v y ∧
      ∀ t x, v[t]? = some x → x = .junk ∨ ((o.looksAt ops.toArray).contains t = true ∧ frameAt ops vs a (fun j => decide (j < i)) t = some x))
    (hl : a'.length = a.length) (ha' : ∀ t x, a'[t]? = some x → x = .junk ∨ frameAt ops vs a (fun j => decide (j < ops.length)) t = some x) :
    AExec P G R (.region id ops.toArray true) { tmps := a, marks := marks } (H fun _ => false) .normal { tmps := a', marks := marks } (H fun j => decide (j < ops.length)) := by
  intro r0 _ w M ac Q hi ha hQ
  refine wpIn_region_any hm ?_
  have h0 : ∀ j, lf (Array.replicate ops.toArray.size false) j = false := fun j => by
    unfold lf
    simp [Array.getD_eq_getD_getElem?, Array.getElem?_replicate]
    split <;> simp
  have hf0 : lf (Array.replicate ops.toArray.size false) = fun _ => false := funext h0
  refine move_go (H := H) (marks := marks) hd hc hv (w0 := w) (M0 := M) (fun fuel listed w' M' ac' hls hall he hi' hfr => ?_) _ _ _ M ac ⟨by simp, fun i o _ hlt => ?_, by simp⟩ (fun j _ => h0 j) (.drew w M) (by rw [hf0]; exact hi.drew) ?_
  · refine wpAnyIn_done ?_ (hQ w' M' ac' he hi' (hfr.act_of hl ha')) fuel
    apply List.eq_nil_iff_forall_not_mem.2
    intro i hir
    obtain ⟨hiu, o, ho, _⟩ := ready_spec hir
    rw [hall i (List.getElem?_eq_some_iff.1 ho).1] at hiu
    cases hiu
  · rw [h0] at hlt; cases hlt
  · have := Fr.of (ha.mono (.drew w M))
    refine ⟨this.act, fun t x ht => this.val t x ?_⟩
    rw [hf0] at ht
    rw [← ht]
    unfold frameAt
    split <;> simp
end
end Go.Proofs.YtjljigccgaadaaaDoor.Am

namespace Go.Proofs.YtjljigccgaadaaaDoor.Am
open Go
section
variable {P : Program} {G : Nat → Option (List AV)}

/-- The walk in the order of the text. -/
inductive AOpsM (P : Program) (G : Nat → Option (List AV)) (H : (Nat → Bool) → Heap) (ops : List Oper) (marks : List Nat) : Nat → List Oper → List AV → List AV → Prop where
  | nil (n : Nat) (a : List AV) : AOpsM P G H ops marks n [] a a
  | step {n : Nat} {o : Oper} {rest : List Oper} {a a' : List AV} {y : AV} (h : WorthM P G H ops marks n o (masked (o.looksAt ops.toArray) a) y) (k : AOpsM P G H ops marks (n + 1) rest (AAct.put { tmps := a } o.dst y).tmps a') : AOpsM P G H ops marks n (o :: rest) a a'
/-- The walk gives a value to each operation. -/
theorem AOpsM.vals {H : (Nat → Bool) → Heap} {ops : List Oper} {marks : List Nat} (hap : Apart ops) {a0 : List AV} : ∀ {n : Nat} {l : List Oper} {a a' : List AV}, AOpsM P G H ops marks n l a a' → ∀ (pre : List AV), pre.length = n → pre.length + l.length ≤ ops.length →
    (∀ k, k < l.length → l[k]? = ops[pre.length + k]?) → a.length = a0.length → (∀ t, a[t]? = frameAt ops pre a0 (fun j => decide (j < pre.length)) t) →
    ∃ vs : List AV, vs.length = pre.length + l.length ∧ (∀ i, i < pre.length → vs[i]? = pre[i]?) ∧ a'.length = a0.length ∧ (∀ t, a'[t]? = frameAt ops vs a0 (fun j => decide (j < vs.length)) t) ∧
      ∀ i o, pre.length ≤ i → i < vs.length → ops[i]? = some o → ∃ (v : List AV) (y : AV), vs[i]? = some y ∧ v.length = a0.length ∧ WorthM P G H ops marks i o v y ∧
        ∀ t x, v[t]? = some x → x = .junk ∨ ((o.looksAt ops.toArray).contains t = true ∧ frameAt ops vs a0 (fun j => decide (j < i)) t = some x) := by
  intro n l a a' h
  have main : ∀ {n : Nat} {o : Oper} {rest : List Oper} {a a' : List AV} {y : AV}, WorthM P G H ops marks n o (masked (o.looksAt ops.toArray) a) y →
      (∀ (pre : List AV), pre.length = n + 1 → pre.length + rest.length ≤ ops.length →
        (∀ k, k < rest.length → rest[k]? = ops[pre.length + k]?) → (AAct.put { tmps := a } o.dst y).tmps.length = a0.length → (∀ t, (AAct.put { tmps := a } o.dst y).tmps[t]? = frameAt ops pre a0 (fun j => decide (j < pre.length)) t) →
        ∃ vs : List AV, vs.length = pre.length + rest.length ∧ (∀ i, i < pre.length → vs[i]? = pre[i]?) ∧ a'.length = a0.length ∧ (∀ t, a'[t]? = frameAt ops vs a0 (fun j => decide (j < vs.length)) t) ∧
          ∀ i o, pre.length ≤ i → i < vs.length → ops[i]? = some o → ∃ (v : List AV) (y : AV), vs[i]? = some y ∧ v.length = a0.length ∧ WorthM P G H ops marks i o v y ∧
            ∀ t x, v[t]? = some x → x = .junk ∨ ((o.looksAt ops.toArray).contains t = true ∧ frameAt ops vs a0 (fun j => decide (j < i)) t = some x)) →
      ∀ (pre : List AV), pre.length = n → pre.length + (o :: rest).length ≤ ops.length →
        (∀ k, k < (o :: rest).length → (o :: rest)[k]? = ops[pre.length + k]?) → a.length = a0.length → (∀ t, a[t]? = frameAt ops pre a0 (fun j => decide (j < pre.length)) t) →
        ∃ vs : List AV, vs.length = pre.length + (o :: rest).length ∧ (∀ i, i < pre.length → vs[i]? = pre[i]?) ∧ a'.length = a0.length ∧ (∀ t, a'[t]? = frameAt ops vs a0 (fun j => decide (j < vs.length)) t) ∧
          ∀ i o, pre.length ≤ i → i < vs.length → ops[i]? = some o → ∃ (v : List AV) (y : AV), vs[i]? = some y ∧ v.length = a0.length ∧ WorthM P G H ops marks i o v y ∧
            ∀ t x, v[t]? = some x → x = .junk ∨ ((o.looksAt ops.toArray).contains t = true ∧ frameAt ops vs a0 (fun j => decide (j < i)) t = some x) := by
    intro n o rest a a' y hwo ih pre hb hlen hl hal ha
    subst hb
    simp only [List.length_cons] at hlen hl
    have ho : ops[pre.length]? = some o := by have := hl 0 (by omega); simpa using this.symm
    have key := ih (pre ++ [y]) (by simp) (by simp; omega) (fun k hk => by have := hl (k + 1) (by omega); simp only [List.getElem?_cons_succ] at this; rw [this]; congr 1; simp; omega) (by rw [put_length]; exact hal) (fun t => ?_)
    · obtain ⟨vs, h1, h2, h3, h4, h5⟩ := key
      simp only [List.length_append, List.length_singleton] at h1 h2
      refine ⟨vs, by rw [h1]; simp; omega, fun i hi => ?_, h3, h4, fun i o' hi hi' ho' => ?_⟩
      · rw [h2 i (by omega), List.getElem?_append_left hi]
      · by_cases hie : i = pre.length
        · subst hie
          rw [ho] at ho'
          cases ho'
          refine ⟨masked (o.looksAt ops.toArray) a, y, ?_, by simp [masked, hal], hwo, fun t x hx => ?_⟩
          · rw [h2 _ (by omega)]; simp
          · simp only [masked, List.getElem?_mapIdx, Option.map_eq_some_iff] at hx
            obtain ⟨x0, hx0, rfl⟩ := hx
            split
            · rename_i hc
              refine .inr ⟨hc, ?_⟩
              rw [ha t] at hx0
              rw [← hx0]
              exact frameAt_congr fun j _ => ⟨rfl, fun hj => by
                have hj := of_decide_eq_true hj
                rw [h2 j (by omega), List.getElem?_append_left hj]⟩
            · exact .inl rfl
        · exact h5 i o' (by simp; omega) hi' ho'
    · rw [put_get]
      by_cases hd : o.dst = some t
      · rw [if_pos hd]
        have hdj : dstAt ops pre.length = some t := by unfold dstAt; rw [ho]; exact hd
        rw [frameAt_of hap hdj]
        simp [hal]
      · rw [if_neg hd, ha t]
        refine frameAt_congr fun j hj => ?_
        have hne : j ≠ pre.length := fun e => by
          subst e
          unfold dstAt at hj
          rw [ho] at hj
          exact hd hj
        refine ⟨?_, fun hl => ?_⟩
        · apply decide_eq_decide.2
          simp only [List.length_append, List.length_singleton]
          omega
        · have hl := of_decide_eq_true hl
          rw [List.getElem?_append_left hl]
  induction h with
  | nil n a =>
    intro pre hb hlen _ hal ha
    refine ⟨pre, rfl, fun _ _ => rfl, hal, fun t => by rw [ha t], fun i o hi hi' ho => ?_⟩
    omega
  | step hw _ ih => exact main hw ih

theorem AOpsM.draw {R : Option Nat → Prop} {id : Nat} {H : (Nat → Bool) → Heap} {ops : List Oper} {marks : List Nat} {a a' : List AV} (hm : P.follows .mixedOrders = true) (hd : okDraw ops = true) (hc : okStill ops 0 ops.length = true) (h : AOpsM P G H ops marks 0 ops a a') :
    AExec P G R (.region id ops.toArray true) { tmps := a, marks := marks } (H fun _ => false) .normal { tmps := a', marks := marks } (H fun j => decide (j < ops.length)) := by
  obtain ⟨vs, h1, _, h3, h4, h5⟩ := h.vals (okDraw_apart hd) (a0 := a) [] rfl (by simp) (fun k _ => by simp) rfl (fun t => by
    unfold frameAt
    split <;> simp)
  simp only [List.length_nil, Nat.zero_add] at h1
  refine AExec.drawM (vs := vs) hm hd hc (fun i o ho => h5 i o (Nat.zero_le i) (by rw [h1]; exact (List.getElem?_eq_some_iff.1 ho).1) ho) h3 fun t x ht => .inr ?_
  rw [h4 t, h1] at ht
  exact ht
end
/-! ### The machine -/
/-- How many of Q are carried out. -/
def nQ (Q : List Nat) (f : Nat → Bool) : Nat := (Q.filter f).length
/-- How many of Q may be carried out when the i-th operation's turn comes. -/
def rngM (ops : List Oper) (Q : List Nat) (i : Nat) : List Nat :=
  (List.range (Q.length + 1)).filter fun c => Nat.ble (nQ Q fun q => ((befores ops []).getD i 0).testBit q) c && Nat.ble c (nQ Q fun q => !Nat.beq q i && !((befores ops []).getD q 0).testBit i)
def upM (Q : List Nat) (i c : Nat) : Nat := match Q.contains i with
  | true => c + 1
  | false => c
theorem nQ_mono {f g : Nat → Bool} : ∀ (Q : List Nat), (∀ q ∈ Q, f q = true → g q = true) → nQ Q f ≤ nQ Q g
  | [], _ => Nat.le_refl _
  | q :: r, h => by
    have ih := nQ_mono (f := f) (g := g) r fun x hx => h x (by simp [hx])
    unfold nQ at ih ⊢
    rw [List.filter_cons, List.filter_cons]
    cases hf : f q with
    | false =>
      simp only [Bool.false_eq_true, if_false]
      split
      · simp only [List.length_cons]; omega
      · exact ih
    | true =>
      rw [h q (by simp) hf]
      simp only [if_true, List.length_cons]
      omega
theorem nQ_le (Q : List Nat) (f : Nat → Bool) : nQ Q f ≤ Q.length := List.length_filter_le _ _
theorem nQ_up {f : Nat → Bool} {i : Nat} (hi : f i = false) : ∀ (Q : List Nat), Q.Nodup → nQ Q (fun j => decide (j = i) || f j) = upM Q i (nQ Q f)
  | [], _ => rfl
  | q :: r, h => by
    have ih := nQ_up hi r (List.nodup_cons.1 h).2
    have hq := (List.nodup_cons.1 h).1
    unfold nQ upM at ih ⊢
    rw [List.filter_cons, List.filter_cons, List.contains_cons]
    by_cases he : q = i
    · subst he
      have hc : r.contains q = false := by
        rw [← Bool.not_eq_true, List.contains_iff_mem]
        exact hq
      rw [hc] at ih
      simp only [decide_true, Bool.true_or, if_true, hi, Bool.false_eq_true, if_false, List.length_cons, ih, beq_self_eq_true]
    · have hb : (i == q) = false := beq_false_of_ne fun h => he h.symm
      simp only [he, decide_false, Bool.false_or, hb]
      cases hf : f q with
      | true =>
        simp only [if_true, List.length_cons, ih]
        cases r.contains i <;> rfl
      | false =>
        simp only [Bool.false_eq_true, if_false, ih]
section
variable (P : Program) (G : Nat → Option (List AV)) (E : Env)
def xAgree (call : CallT) (hs : Nat → Heap) (Q : List Nat) (ρ : Operand → Option AV) (st : St) (o : Oper) (i : Nat) (y : AV) : List Nat → Tree St → Tree St
  | [], k => k
  | c :: cs, k => (xstep P E call ρ { st with h := hs c } o).bind fun q => .need (q.1 = y ∧ q.2.2 = hs (upM Q i c)) (xAgree call hs Q ρ st o i y cs k)
def xMoveL (call : CallT) (hs : Nat → Heap) (ops : List Oper) (Q : List Nat) : Nat → List Oper → St → Tree St
  | _, [], st => .leaf st
  | i, o :: r, st => xguard ops.toArray st o fun b st' =>
    match b with
    | true =>
      match rngM ops Q i with
      | [] => .fail
      | c :: cs => (xstep P E call (st'.evM G (o.looksAt ops.toArray)) { st' with h := hs c } o).bind fun q => .need (q.2.2 = hs (upM Q i c)) (xAgree P E call hs Q (st'.evM G (o.looksAt ops.toArray)) st' o i q.1 cs (xMoveL call hs ops Q (i + 1) r (st'.put o.dst q.1 q.2.1 st'.h)))
    | false =>
      match Q.contains i with
      | true => .fail
      | false => xMoveL call hs ops Q (i + 1) r (st'.put o.dst (.tup []) false st'.h)
/-- The statement, carried out; the heap at its head is hs 0. -/
def xMove (call : CallT) (hs : Nat → Heap) (ops : List Oper) (Q : List Nat) (st : St) : Tree St :=
  match okDraw ops && okStill ops 0 ops.length && decide Q.Nodup && Q.all fun q => Nat.blt q ops.length with
  | true => .need (st.h = hs 0) ((xMoveL P G E call hs ops Q 0 ops st).bind fun st' => .leaf { st' with h := hs Q.length })
  | false => .fail
end
section
variable {P : Program} {G : Nat → Option (List AV)} {E : Env}
theorem xAgree_ok {call : CallT} (hcl : ClOk P G E) (hcall : CallOk P G call) {hs : Nat → Heap} {Q : List Nat} {a : List AV} {m : List Nat} {st : St} {o : Oper} {i : Nat} {y : AV} {k : Tree St} {r : St} : ∀ (cs : List Nat), (xAgree P E call hs Q (ev G a) st o i y cs k).sel = some r →
    (∀ c ∈ cs, AStep P G { tmps := a, marks := m } (hs c) o y (hs (upM Q i c))) ∧ k.sel = some r
  | [], h => ⟨fun _ hc => (by cases hc), h⟩
  | c :: cs, h => by
    unfold xAgree at h
    obtain ⟨⟨y2, s2, h2⟩, h3, h4⟩ := Tree.of_bind h
    obtain ⟨⟨h5, h6⟩, h7⟩ := Tree.of_need h4
    simp only at h5 h6
    subst h5 h6
    have hs1 := xstep_ok (m := m) hcl hcall h3
    obtain ⟨h8, h9⟩ := xAgree_ok hcl hcall cs h7
    refine ⟨fun c' hc' => ?_, h9⟩
    rcases List.mem_cons.1 hc' with rfl | hc'
    · exact hs1
    · exact h8 c' hc'
theorem in_rng {ops : List Oper} {Q : List Nat} {i : Nat} {o : Oper} (ho : ops[i]? = some o) (hQ : ∀ q ∈ Q, q < ops.length) {f : Nat → Bool} (hc : Closed ops f) (hu : f i = false) (hp : ∀ e ∈ o.after, Region.binds .any e = true → f e.on = true) : nQ Q f ∈ rngM ops Q i := by
  unfold rngM
  refine List.mem_filter.2 ⟨List.mem_range.2 (by have := nQ_le Q f; omega), ?_⟩
  rw [Bool.and_eq_true, Nat.ble_eq, Nat.ble_eq]
  refine ⟨nQ_mono Q fun q _ hb => befores_of ho hc hp hb, nQ_mono Q fun q hq hb => ?_⟩
  have hqi : Nat.beq q i = false := by
    cases he : Nat.beq q i with
    | false => rfl
    | true =>
      rw [Nat.eq_of_beq_eq_true he, hu] at hb
      cases hb
  rw [hqi]
  cases hm : ((befores ops []).getD q 0).testBit i with
  | false => rfl
  | true =>
    obtain ⟨oq, hoq⟩ : ∃ oq, ops[q]? = some oq := ⟨_, List.getElem?_eq_getElem (hQ q hq)⟩
    have := befores_of hoq hc (fun e he hbd => hc q oq hoq hb e he hbd) hm
    rw [hu] at this; cases this
theorem xMoveL_ok {call : CallT} (hcl : ClOk P G E) (hcall : CallOk P G call) {hs : Nat → Heap} {ops : List Oper} {Q : List Nat} (hn : Q.Nodup) (hQ : ∀ q ∈ Q, q < ops.length) {m : List Nat} : ∀ (l : List Oper) (i : Nat) (st st' : St), (∀ k, k < l.length → l[k]? = ops[i + k]?) → (xMoveL P G E call hs ops Q i l st).sel = some st' →
    AOpsM P G (fun f => hs (nQ Q f)) ops m i l st.a st'.a ∧ st'.n = st.n
  | [], i, st, st', _, h => by cases h; exact ⟨.nil _ _, rfl⟩
  | o :: r, i, st, st', hl, h => by
    have ho : ops[i]? = some o := by have := hl 0 (by simp); simpa using this.symm
    have hlr : ∀ k, k < r.length → r[k]? = ops[i + 1 + k]? := fun k hk => by
      have := hl (k + 1) (by simp; omega)
      simp only [List.getElem?_cons_succ] at this
      rw [this]; congr 1; omega
    unfold xMoveL at h
    obtain ⟨b, st1, h1, h2, h3, hw, hk⟩ := xguard_ok h
    cases b with
    | true =>
      simp only at hk
      split at hk
      · cases hk
      · rename_i c cs hrng
        obtain ⟨⟨y, s, h'⟩, hq', hr⟩ := Tree.of_bind hk
        obtain ⟨he, hr⟩ := Tree.of_need hr
        simp only at he
        subst he
        rw [← St.evM_eq] at hq' hr
        have hs1 := xstep_ok (m := m) hcl hcall hq'
        obtain ⟨hs2, hr⟩ := xAgree_ok (m := m) hcl hcall cs hr
        obtain ⟨ih, ihn⟩ := xMoveL_ok hcl hcall hn hQ r (i + 1) _ st' hlr hr
        refine ⟨.step (y := y) (fun f hc hlen hu hp => .inl ⟨by rw [awanted_masked]; exact hw, ?_⟩) ?_, by rw [ihn, St.put_n, h3]⟩
        · have hin := in_rng ho hQ hc hu hp
          rw [hrng] at hin
          show AStep P G _ (hs (nQ Q f)) o y (hs (nQ Q fun j => decide (j = i) || f j))
          rw [nQ_up hu Q hn, ← h1]
          rcases List.mem_cons.1 hin with he | hin
          · rw [he]; exact hs1
          · exact hs2 _ hin
        · have hp := St.put_a st1 o.dst y s st1.h []
          rw [← h1, hp]
          exact ih
    | false =>
      simp only at hk
      split at hk
      · cases hk
      · rename_i hni
        obtain ⟨ih, ihn⟩ := xMoveL_ok hcl hcall hn hQ r (i + 1) _ st' hlr hk
        refine ⟨.step (y := .tup []) (fun f hc hlen hu hp => .inr ⟨by rw [awanted_masked]; exact hw, rfl, ?_⟩) ?_, by rw [ihn, St.put_n, h3]⟩
        · show hs (nQ Q fun j => decide (j = i) || f j) = hs (nQ Q f)
          rw [nQ_up hu Q hn]
          unfold upM
          rw [hni]
        · have hp := St.put_a st1 o.dst (.tup []) false st1.h []
          rw [← h1, hp]
          exact ih
theorem xMove_ok {R : Option Nat → Prop} (hm : P.follows .mixedOrders = true) (hcl : ClOk P G E) {call : CallT} (hcall : CallOk P G call) {hs : Nat → Heap} {id : Nat} {ops : List Oper} {Q : List Nat} {m : List Nat} {st st' : St} (h : (xMove P G E call hs ops Q st).sel = some st') :
    AExec P G R (.region id ops.toArray true) { tmps := st.a, marks := m } st.h .normal { tmps := st'.a, marks := m } st'.h ∧ st'.n = st.n := by
  unfold xMove at h
  split at h
  · rename_i hb
    simp only [Bool.and_eq_true, decide_eq_true_eq, List.all_eq_true, Nat.blt_eq] at hb
    obtain ⟨⟨⟨hd, hc⟩, hn⟩, hQ⟩ := hb
    obtain ⟨h0, h⟩ := Tree.of_need h
    obtain ⟨st1, h1, h2⟩ := Tree.of_bind h
    cases h2
    obtain ⟨h3, h4⟩ := xMoveL_ok (m := m) hcl hcall hn hQ ops 0 st st1 (fun k _ => by simp) h1
    have key := h3.draw (R := R) (id := id) hm hd hc
    have e0 : nQ Q (fun _ => false) = 0 := by simp [nQ]
    have e1 : nQ Q (fun j => decide (j < ops.length)) = Q.length := by
      unfold nQ
      rw [List.filter_eq_self.2 fun q hq => by simpa using hQ q hq]
    simp only [e0, e1, ← h0] at key
    exact ⟨key, h4⟩
  · cases h
end
end Go.Proofs.YtjljigccgaadaaaDoor.Am

namespace Go.Proofs.YtjljigccgaadaaaDoor.Am
open Go
section
variable (P : Program) (G : Nat → Option (List AV)) (E : Env)
/-- Code. n: how deep and how often. lp: what is known of the loops. -/
def xCodeM (mv : Nat → Option (List Nat × (Nat → Heap))) : Nat → Loops → Code → St → Tree (Exit × St)
  | 0 => fun _ _ _ => .fail
  | n + 1 => fun lp c st =>
    match c with
    | .skip => .leaf (.normal, st)
    | .ret => .leaf (.ret, st)
    | .exit id => .leaf (.exit id, st)
    | .region id ops draws =>
      (match draws with
      | true => (match mv id with
        | some (Q, hs) => xMove P G E (xenter P E (xCode P G E n fun _ => none)) hs ops.toList Q st
        | none => xDraw P G E (xenter P E (xCode P G E n fun _ => none)) ops st)
      | false => xOps P G E (xenter P E (xCode P G E n fun _ => none)) ops ops.toList st).bind fun st' => .leaf (.normal, st')
    | .seq x y => (xCodeM mv n lp x st).bind fun r =>
      match r.1 with
      | .normal => xCodeM mv n lp y r.2
      | e => .leaf (e, r.2)
    | .cond q x y =>
      match st.ev G q with
      | some (.bool b) =>
        match symOf st q with
        | true => .ite b (xCodeM mv n lp x st) (xCodeM mv n lp y st)
        | false => match b with
          | true => xCodeM mv n lp x st
          | false => xCodeM mv n lp y st
      | _ => .fail
    | .block id x => (xCodeM mv n lp x st).bind fun r => .leaf (outOf id r.1, r.2)
    | .loop x =>
      match lp (idOf x) with
      | some (keep, s0, t) => .need ((st.only keep).vals = s0.vals) t
      | none => xLoop (xCodeM mv n lp x) n st
    | _ => .fail
/-- A piece of code, some temporaries of it. -/
def xBodyM (mv : Nat → Option (List Nat × (Nat → Heap))) (n : Nat) (lp : Loops) (keep : List Nat) (c : Code) (st : St) : Tree (Exit × St) :=
  (xCodeM P G E mv n lp c st).bind fun r => .leaf (r.1, r.2.only keep)
end
section
variable {P : Program} {G : Nat → Option (List AV)} {E : Env}
theorem xCodeM_ok {mv : Nat → Option (List Nat × (Nat → Heap))} (hn : NamesOk P) (hm : P.follows .mixedOrders = true) (hcl : ClOk P G E) : ∀ (n : Nat) (R : Option Nat → Prop) (m : List Nat) (lp : Loops) (c : Code) (st : St) (e : Exit) (st' : St), LoopsOk P G R m lp c →
    (xCodeM P G E mv n lp c st).sel = some (e, st') → AExec P G R c { tmps := st.a, marks := m } st.h e { tmps := st'.a, marks := m } st'.h ∧ st'.n = st.n
  | 0, R, m, lp, c, st, e, st', _, h => by cases h
  | n + 1, R, m, lp, c, st, e, st', hlp, h => by
    have hrun : RunOk P G (xCode P G E n fun _ => none) := fun c st e st' h => (xCode_ok hn hm hcl n _ [] _ c st e st' (.none c) h).1
    unfold xCodeM at h
    cases c with
    | skip => cases h; exact ⟨.skip, rfl⟩
    | ret => cases h; exact ⟨.ret, rfl⟩
    | exit id => cases h; exact ⟨.exit, rfl⟩
    | region id ops draws =>
      simp only at h
      obtain ⟨st1, h1, h2⟩ := Tree.of_bind h
      cases h2
      cases draws with
      | true =>
        simp only at h1
        split at h1
        · have := xMove_ok (R := R) (id := id) (m := m) hm hcl (xenter_ok hn hrun) h1
          simpa using this
        · exact xDraw_ok hm hcl (xenter_ok hn hrun) h1
      | false =>
        obtain ⟨h3, h4⟩ := xOps_ok (m := m) hcl (xenter_ok hn hrun) _ _ _ h1
        exact ⟨.region h3, h4⟩
    | seq x y =>
      simp only at h
      obtain ⟨⟨e1, st1⟩, h1, h2⟩ := Tree.of_bind h
      obtain ⟨h3, h4⟩ := xCodeM_ok hn hm hcl n R m lp x _ _ _ hlp.1 h1
      split at h2
      · rename_i he
        simp only at he
        subst he
        obtain ⟨h5, h6⟩ := xCodeM_ok hn hm hcl n R m lp y _ _ _ hlp.2 h2
        exact ⟨.seq h3 h5, h6.trans h4⟩
      · rename_i he
        cases h2
        exact ⟨.seq_out h3 he, h4⟩
    | cond q x y =>
      simp only at h
      split at h
      · rename_i b hq
        rw [← St.ev_eq] at hq
        split at h
        · simp only [Tree.sel] at h
          cases b with
          | true =>
            obtain ⟨h3, h4⟩ := xCodeM_ok hn hm hcl n R m lp x _ _ _ hlp.1 h
            exact ⟨.cond_true hq h3, h4⟩
          | false =>
            obtain ⟨h3, h4⟩ := xCodeM_ok hn hm hcl n R m lp y _ _ _ hlp.2 h
            exact ⟨.cond_false hq h3, h4⟩
        · split at h
          · obtain ⟨h3, h4⟩ := xCodeM_ok hn hm hcl n R m lp x _ _ _ hlp.1 h
            exact ⟨.cond_true hq h3, h4⟩
          · obtain ⟨h3, h4⟩ := xCodeM_ok hn hm hcl n R m lp y _ _ _ hlp.2 h
            exact ⟨.cond_false hq h3, h4⟩
      · cases h
    | block id x =>
      simp only at h
      obtain ⟨⟨e1, st1⟩, h1, h2⟩ := Tree.of_bind h
      cases h2
      obtain ⟨h3, h4⟩ := xCodeM_ok hn hm hcl n R m lp x _ _ _ hlp h1
      exact ⟨.block h3, h4⟩
    | loop x =>
      simp only at h
      split at h
      · rename_i keep s0 t ht
        obtain ⟨h1, h2⟩ := Tree.of_need h
        obtain ⟨h3, h4⟩ := hlp.1 _ _ _ _ _ ht h2
        simp only [St.vals, Prod.mk.injEq] at h1
        obtain ⟨e1, e2, e3⟩ := h1
        have h5 := St.only_le keep st
        rw [e1] at h5
        refine ⟨.weak h5 ?_, h4.trans e2.symm⟩
        have e4 : st.h = s0.h := e3
        rw [e4]
        exact h3
      · obtain ⟨h3, h4⟩ := xLoop_ok (fun st e st' h => xCodeM_ok hn hm hcl n R m lp x st e st' hlp.2 h) n st e st' h
        exact ⟨.loop h3, h4⟩
    | scope _ => cases h
    | rangeFunc _ _ _ _ => cases h
    | label _ => cases h
    | goto _ => cases h
    | refuse _ => cases h

theorem xBodyM_ok {mv : Nat → Option (List Nat × (Nat → Heap))} (hn : NamesOk P) (hm : P.follows .mixedOrders = true) (hcl : ClOk P G E) {R : Option Nat → Prop} {m : List Nat} {lp : Loops} {n : Nat} {keep : List Nat} {c : Code} {st : St} {e : Exit} {st' : St} (hlp : LoopsOk P G R m lp c)
    (hx : (xBodyM P G E mv n lp keep c st).sel = some (e, st')) : AExec P G R c { tmps := st.a, marks := m } st.h e { tmps := st'.a, marks := m } st'.h ∧ st'.n = st.n := by
  obtain ⟨⟨e0, st0⟩, h1, h2⟩ := Tree.of_bind hx
  cases h2
  obtain ⟨h3, h4⟩ := xCodeM_ok hn hm hcl n R m lp c st _ _ hlp h1
  exact ⟨h3.weak_post (a' := { tmps := st0.a, marks := m }) (St.only_le keep st0), h4⟩
/-- A function of whose loops and statements the facts are known. -/
theorem xFnM_ok {mv : Nat → Option (List Nat × (Nat → Heap))} (hn : NamesOk P) (hm : P.follows .mixedOrders = true) (hcl : ClOk P G E) {lp : Loops} {n : Nat} {f : FuncId} {fn : Func} {c : Code} (hf : P.funcs[f]? = some fn) (hb : fn.body = some c)
    (hlp : LoopsOk P G (fun r => r = none) [] lp c) {xs : List AV} {tags : List Bool} {h h' : Heap} {v : AV} {s : Bool}
    (hx : (xenter P E (xCodeM P G E mv n lp) f xs tags h).sel = some (v, s, h')) : ACall P G f xs h v h' := by
  have : ∀ (run : Code → St → Tree (Exit × St)), run = xCodeM P G E mv n lp → (xenter P E run f xs tags h).sel = some (v, s, h') → ACall P G f xs h v h' := by
    intro run hrun hx
    unfold xenter at hx
    rw [hf] at hx
    simp only [hb] at hx
    obtain ⟨⟨e, st⟩, h1, h2⟩ := Tree.of_bind hx
    subst hrun
    have hx' := (xCodeM_ok hn hm hcl n _ [] lp c _ _ _ hlp h1).1
    have main : ∀ {tag : Bool}, (e = .normal ∨ e = .ret) → (match aResults P st.h st.a fn.results.toList with
        | some ys => .leaf (asOne ys, tag, st.h)
        | none => .fail : Tree (AV × Bool × Heap)).sel = some (v, s, h') → ACall P G f xs h v h' := fun {tag} he hh => by
      cases hres : aResults P st.h st.a fn.results.toList with
      | none => rw [hres] at hh; cases hh
      | some ys =>
        rw [hres] at hh
        cases hh
        exact ACall.of_body hf hb (hn f fn hf) (.weak ofArgs_le hx') he hres
    split at h2
    · rename_i he
      exact main (.inl he) h2
    · rename_i he
      exact main (.inr he) h2
    · cases h2
  exact this _ rfl hx
end
end Go.Proofs.YtjljigccgaadaaaDoor.Am

namespace Go.Proofs.YtjljigccgaadaaaDoor.Am
open Go
set_option maxRecDepth 100000

/-! ### The closure that counts -/
def hI (fv : AV) (c : Int) : Heap := [.cells 0 [fv], .cells 0 [I c]]
/-! ### The loop that makes the list of all numbers -/
noncomputable def body6a : Code := (loopsOf (bodyOf Tryd.prog 6)).getD 0 .skip
noncomputable def body6b : Code := (loopsOf (bodyOf Tryd.prog 6)).getD 1 .skip
def st6a (k e : Int) (c : List Int) (v : AV) (i : Int) (h : Heap) : St := .of 95 h [(4, .bool false, false), (5, I k, true), (6, .ref 0 0 0, true), (7, .ref 1 0 0, true), (8, flL c, true), (9, I e, true), (10, v, true), (28, I k, true), (29, I i, true)]
def st6b (k : Int) (c : List Int) (i : Int) (h : Heap) : St := .of 95 h [(4, .bool false, false), (5, I k, true), (6, .ref 0 0 0, true), (8, flL c, true), (65, I c.length, true), (66, I i, true)]
def E6a (i : Int) (v v' : AV) (h h1 : Heap) : Env := { hint := hApp 22 v (.sl 1 [[I i]]) v' h h1 }
def clh6 (k e : Int) (c : List Int) (fv : AV) (m : Int) (ask : AV → Bool) : FuncId → List AV → Heap → Option (Tree (AV × Heap)) := fun f xs h0 => match f, xs with
  | 13, [x, y] => some (.need ([x, y] = [I k, .fn 32 [] [.ref 1 0 0, .ref 0 0 0]] ∧ h0 = hI fv 0) (.leaf (.tup [flL c, I e], hI fv m)))
  | 56, [x, y] => some (.need (ACall Tryd.prog G0 56 [x, y] h0 (.bool (ask x)) h0) (.leaf (.bool (ask x), h0)))
  | _, _ => none
def E6 (l : List (FuncId × List AV × AV)) (k e : Int) (c : List Int) (fv : AV) (m : Int) (ask : AV → Bool) : Env := { cl := clL l, clh := clh6 k e c fv m ask, hint := orH (hLd 23 fv) (hLd 3 (I m)) }
def rem65 (n : Int) : Int := (IntKind.i64.wrap n).tmod 65
def e6 (k : Int) (bad tv : AV) (tc : List AV) (c : List Int) (is : Bool) : List (FuncId × List AV × AV) :=
  [(22, [I k, bad], tv), (21, [tv], .fn 56 [] [.row tc 0]), (31, [flL c], flL c), (14, [I k, flL c, .fn 56 [] [.row tc 0]], .tup [.bool is, I 0]), (20, [], .bool true)]
def lp6 (k e : Int) (c : List Int) (lv : AV) (h h2 : Heap) : Loops := fun id => match id with
  | 7 => some ([4, 5, 6, 7, 8, 9, 10, 28, 29], st6a k e c .zs 0 h, .leaf (.exit 0, st6a k e c lv k h2))
  | 18 => some ([4, 5, 6, 8, 65, 66], st6b k c 0 h2, .leaf (.exit 2, st6b k c c.length h2))
  | _ => none
theorem run6a (k e : Int) (i : Nat) (c : List Int) (v v' : AV) (h h1 : Heap) : xBody Tryd.prog G0 (E6a i v v' h h1) 200 noLoops [4, 5, 6, 7, 8, 9, 10, 28, 29] body6a (st6a k e c v i h) =
    .ite (decide ((i : Int) < k)) (.need (some [v, .sl 1 [[I i]]] = some [v, .sl 1 [[I i]]] ∧ #[22, 22] = #[22, 22] ∧ h = h ∧ aAppend Tryd.prog h 22 22 v (.sl 1 [[I i]]) = some (v', h1)) (.leaf (.normal, st6a k e c v' (IntKind.i64.wrap (i + 1)) h1))) (.leaf (.exit 0, st6a k e c v i h)) := by kernel_rfl
def box6 (v : AV) (r : Nat) (h : Heap) (x : Tree (AV × Bool × Heap)) : Tree (AV × Bool × Heap) := .need (objAt h r 0 = some [v]) x
def call6 (x : AV) (tc : List AV) (b : Bool) (h : Heap) (y : Tree (AV × Bool × Heap)) : Tree (AV × Bool × Heap) := .need (ACall Tryd.prog G0 56 [x, .row tc 0] h (.bool b) h) y
theorem run6 (n e : Int) (bad tv : AV) (tc : List AV) (c : List Int) (is : Bool) (m : Int) (ask : AV → Bool) (lv : AV) (h2 : Heap) : xenter Tryd.prog (E6 (e6 (rem65 n) bad tv tc c is) (rem65 n) e c (.fn 56 [] [.row tc 0]) m ask) (xCode Tryd.prog G0 (E6 (e6 (rem65 n) bad tv tc c is) (rem65 n) e c (.fn 56 [] [.row tc 0]) m ask) 200 (lp6 (rem65 n) e c lv (hI (.fn 56 [] [.row tc 0]) m) h2)) 6 [.int .u8 n, bad] [true, true] [] =
    .need ([I (rem65 n), bad] = [I (rem65 n), bad]) (.need ([tv] = [tv]) (.need ([I (rem65 n), .fn 32 [] [.ref 1 0 0, .ref 0 0 0]] = [I (rem65 n), .fn 32 [] [.ref 1 0 0, .ref 0 0 0]] ∧ hI (.fn 56 [] [.row tc 0]) 0 = hI (.fn 56 [] [.row tc 0]) 0)
    (.need ((st6a (rem65 n) e c .zs 0 (hI (.fn 56 [] [.row tc 0]) m)).vals = (st6a (rem65 n) e c .zs 0 (hI (.fn 56 [] [.row tc 0]) m)).vals) (box6 (I m) 1 h2 (.ite (decide (m > IntKind.i64.wrap (rem65 n + 1))) (tF h2)
    (box6 (.fn 56 [] [.row tc 0]) 0 h2 (call6 lv tc (ask lv) h2 (.ite (!((e == 7) == ask lv)) (tF h2) (.ite (e != 0) (.ite (e == 7) (.ite ((c.length : Int) == 0) (tT h2) (tF h2)) (tF h2))
    (box6 (.fn 56 [] [.row tc 0]) 0 h2 (call6 (flL c) tc (ask (flL c)) h2 (.ite (ask (flL c)) (tF h2)
    (.need ((st6b (rem65 n) c 0 h2).vals = (st6b (rem65 n) c 0 h2).vals) (.need ([flL c] = [flL c]) (box6 (.fn 56 [] [.row tc 0]) 0 h2 (.need ([I (rem65 n), flL c, .fn 56 [] [.row tc 0]] = [I (rem65 n), flL c, .fn 56 [] [.row tc 0]])
    (.ite is (.ite ((0 : Int) == 0) (tT h2) (tF h2)) (tF h2)))))))))))))))))) := by kernel_rfl
def clh6b (n i : Nat) (c : List Int) (tc : List AV) (N : Nat) (b : Bool) (h h1 h2 : Heap) : FuncId → List AV → Heap → Option (Tree (AV × Heap)) := fun f xs h0 => match f, xs with
  | 31, [x] => some (.need (x = flL c ∧ h0 = h) (.leaf (.ms 1 N 0 0 n n, h1)))
  | 33, [x, y, z] => some (.need ([x, y, z] = [.ms 1 N 0 0 n n, I i, I (i + 1 : Nat)] ∧ h0 = h1) (.leaf (.ms 1 N 0 0 (n - 1) n, h2)))
  | 56, [x, y] => some (.need ([x, y] = [.ms 1 N 0 0 (n - 1) n, .row tc 0] ∧ h0 = h2) (.leaf (.bool b, h2)))
  | _, _ => none
def E6b (n i : Nat) (c : List Int) (tc : List AV) (N : Nat) (b : Bool) (h h1 h2 : Heap) : Env := { clh := clh6b n i c tc N b h h1 h2, hint := hLd 23 (.fn 56 [] [.row tc 0]) }
def hs3 (h h1 h2 : Heap) : Nat → Heap := fun c => match c with
  | 0 => h
  | 1 => h1
  | _ => h2
def mv6 (h h1 h2 : Heap) : Nat → Option (List Nat × (Nat → Heap)) := fun id => match id with
  | 20 => some ([2, 6], hs3 h h1 h2)
  | _ => none
def bx6 (tc : List AV) (h : Heap) (x : Tree (Exit × St)) : Tree (Exit × St) := .need (objAt h 0 0 = some [.fn 56 [] [.row tc 0]]) x
theorem run6b (k : Int) (n i : Nat) (c : List Int) (tc : List AV) (N : Nat) (b : Bool) (h h1 h2 : Heap) : xBodyM Tryd.prog G0 (E6b n i c tc N b h h1 h2) (mv6 h h1 h2) 200 noLoops [4, 5, 6, 8, 65, 66] body6b (st6b k c i h) =
    .ite (decide ((i : Int) < c.length)) (.need (h = h) (bx6 tc h (.need (h = h) (bx6 tc h1 (.need (AV.fn 56 [] [.row tc 0] = .fn 56 [] [.row tc 0] ∧ h1 = h1) (bx6 tc h2 (.need (AV.fn 56 [] [.row tc 0] = .fn 56 [] [.row tc 0] ∧ h2 = h2)
    (.need (h = h) (.need (flL c = flL c ∧ h = h) (.need (h1 = h1) (.need (h = h) (.need (I i = I i ∧ h1 = h1) (.need (h = h) (.need (I i = I i ∧ h1 = h1) (.need (h = h) (.need (I (IntKind.i64.wrap (i + 1)) = I (IntKind.i64.wrap (i + 1)) ∧ h1 = h1)
    (.need ([AV.ms 1 N 0 0 n n, I i, I (IntKind.i64.wrap (i + 1))] = [.ms 1 N 0 0 n n, I i, I (i + 1 : Nat)] ∧ h1 = h1) (.need (h2 = h2) (.need ([AV.ms 1 N 0 0 (n - 1) n, .row tc 0] = [.ms 1 N 0 0 (n - 1) n, .row tc 0] ∧ h2 = h2) (.need (h2 = h2) (.need (h2 = h2)
    (.ite (!b) (.leaf (.ret, st6b k c i h2)) (.leaf (.normal, st6b k c (IntKind.i64.wrap (i + 1)) h2)))))))))))))))))))))))) (.leaf (.exit 2, st6b k c i h)) := by kernel_rfl
end Go.Proofs.YtjljigccgaadaaaDoor.Am

namespace Go.Proofs.YtjljigccgaadaaaDoor.Am
open Go
set_option maxRecDepth 100000

/-! ### Lists of sets of up to 64 numbers -/
theorem ofLoop_ints {n : Nat} : ∀ (L : List Nat) (last : Int) (acc : Nat), L.Pairwise (· < ·) → (∀ x ∈ L, x < n) → (∀ x ∈ L, last < (x : Int)) → ofLoop n (L.map Int.ofNat) last acc = some (acc ||| orL L)
  | [], last, acc, _, _, _ => by simp [ofLoop, orL]
  | x :: r, last, acc, hp, hn, hl => by
    have hx := hn x (by simp)
    have hx2 := hl x (by simp)
    have ih := ofLoop_ints (n := n) r (x : Int) (acc ||| 2 ^ x) (List.pairwise_cons.1 hp).2 (fun y hy => hn y (by simp [hy])) (fun y hy => by have := (List.pairwise_cons.1 hp).1 y hy; omega)
    rw [List.map_cons]
    unfold ofLoop
    have hc : ¬ ((Int.ofNat x ≤ last) ∨ Int.ofNat x ≥ n) := by
      show ¬ ((x : Int) ≤ last ∨ (x : Int) ≥ n)
      omega
    rw [if_neg hc]
    show ofLoop n (r.map Int.ofNat) (x : Int) (acc ||| 2 ^ (x : Int).toNat) = _
    rw [Int.toNat_natCast, ih, orL, Nat.or_assoc]
theorem bitsL_sorted (s : Nat) : (bitsL s).Pairwise (· < ·) := List.Pairwise.filter _ List.pairwise_lt_range
theorem ofL_ints64 {n : Nat} (hn : n ≤ 64) {s : Nat} (hs : s < 2 ^ n) : ofL n (ints s) = some s := by
  have hp := pow_le hn
  unfold ofL ints
  rw [ofLoop_ints (bitsL s) (-1) 0 (bitsL_sorted s) (fun x hx => ?_) (fun x _ => by omega), Nat.zero_or, orL_bitsL (by omega)]
  obtain ⟨_, hb⟩ := mem_bitsL.1 hx
  apply Classical.byContradiction
  intro hni
  rw [Nat.testBit_lt_two_pow (Nat.lt_of_lt_of_le hs (Nat.pow_le_pow_right (by omega) (by omega)))] at hb
  cases hb
theorem irr14' {σ : Heap} {g : FuncId} {caps : List AV} {f : Nat → Bool} (hf : FulAt σ g caps f) {k s : Nat} (hk : k ≤ 64) (hs : s < 2 ^ k) : ACall Tryd.prog G0 14 [I k, flL (ints s), .fn g [] caps] σ (.tup [.bool (irr (fun s => !f s) s), I 0]) σ := by
  have hp := pow_le hk
  have h := c14 (hf.ful []) (n := k) hk (L := ints s) (by have := ints_len s; omega) ()
  simp only [List.append_nil] at h
  rw [ofL_ints64 hk hs] at h
  have h2 : (irrS (badS fun (_ : Unit) s => (f s, ())) () s).1 = irr (fun s => !f s) s := (irrS_ok (f := fun s => !f s) (Good := fun _ => True) (fun st s _ => ⟨rfl, trivial⟩) (by omega) trivial).1
  simp only [h2] at h
  exact h
theorem erase_filter : ∀ (L : List Nat), L.Pairwise (· < ·) → ∀ (i : Nat) (hi : i < L.length), L.eraseIdx i = L.filter fun x => x != L[i]
  | x :: r, hp, 0, hi => by
    have h1 := (List.pairwise_cons.1 hp).1
    rw [List.eraseIdx_cons_zero, List.getElem_cons_zero, List.filter_cons, bne_self_eq_false, if_neg (by simp)]
    exact (List.filter_eq_self.2 fun y hy => by
      have := h1 y hy
      simp
      omega).symm
  | x :: r, hp, i + 1, hi => by
    have h1 := (List.pairwise_cons.1 hp).1
    have hi' : i < r.length := by simpa using hi
    have ih := erase_filter r (List.pairwise_cons.1 hp).2 i hi'
    have hne : (x != r[i]) = true := by
      have := h1 _ (List.getElem_mem hi')
      simp
      omega
    rw [List.eraseIdx_cons_succ, ih, List.filter_cons]
    simp only [List.getElem_cons_succ, hne, if_true]
/-- A set's list without one element. -/
theorem ints_erase {s : Nat} (hs : s < 2 ^ 64) {i : Nat} (hi : i < (bitsL s).length) : (ints s).eraseIdx i = ints (del s (bitsL s)[i]) := by
  have hm : (bitsL s)[i] ∈ bitsL s := List.getElem_mem hi
  have h64 := (mem_bitsL.1 hm).1
  have e : (ints s).eraseIdx i = ((bitsL s).eraseIdx i).map Int.ofNat := by
    unfold ints
    rw [List.eraseIdx_eq_take_drop_succ, List.eraseIdx_eq_take_drop_succ, List.map_append, List.map_take, List.map_drop]
  have e2 : (bitsL s).eraseIdx i = (bitsL s).filter fun x => x != (bitsL s)[i] := erase_filter (bitsL s) (bitsL_sorted s) i hi
  rw [e, e2]
  generalize hb : (bitsL s)[i] = b at h64
  unfold ints
  congr 1
  unfold bitsL
  rw [List.filter_filter]
  refine List.filter_congr fun x _ => ?_
  rw [del_bit hs h64, Bool.and_comm]
  congr 1
  by_cases h : x = b
  · simp [h]
  · simp [h]
/-! ### The closure that counts -/
section
variable {T : Tab}
def fvT (T : Tab) : AV := .fn 56 [] [.row T.cells 0]
theorem run32 (s : Nat) (tc : List AV) (b : Bool) (c : Int) : xCall Tryd.prog G0 { cl := clL [(56, [flL (ints s), .row tc 0], .bool b)] } 200 32 [flL (ints s), .ref 1 0 0, .ref 0 0 0] [true, true, true] (hI (.fn 56 [] [.row tc 0]) c) =
    .need ([flL (ints s), AV.row tc 0] = [flL (ints s), .row tc 0]) (.leaf (.bool b, true, hI (.fn 56 [] [.row tc 0]) (IntKind.i64.wrap (c + 1)))) := by kernel_rfl
def stp6 (f : Nat → Bool) : Int → Nat → Bool × Int := fun c s => (f s, IntKind.i64.wrap (c + 1))
theorem ful32 {f : Nat → Bool} (hf : ∀ σ, FulAt σ 56 [.row T.cells 0] f) : FulOk 32 [.ref 1 0 0, .ref 0 0 0] (hI (fvT T)) (stp6 f) := fun c s hs =>
  xCall_ok (n := 200) (tags := [true, true, true]) (s := true) names mixed (clokL0 (l := [(56, [flL (ints s), .row T.cells 0], .bool (f s))]) fun p hp σ => by
    rw [List.mem_singleton.1 hp]
    have := hf σ [] s hs
    simp only [List.append_nil] at this
    exact this) ((congrArg Tree.sel (run32 s T.cells (f s) c)).trans (selR.trans rfl))
theorem count6 (f : Nat → Bool) : ∀ (x s c : Nat), c + x < 4611686018427387904 → (coreLoop (badS (stp6 f)) x s (c : Int)).2 = ((c + x : Nat) : Int)
  | 0, s, c, _ => rfl
  | x + 1, s, c, h => by
    have hw : IntKind.i64.wrap ((c : Int) + 1) = ((c + 1 : Nat) : Int) := wrap_i64 (by omega) (by omega)
    unfold coreLoop
    show (coreLoop (badS (stp6 f)) x _ (IntKind.i64.wrap ((c : Int) + 1))).2 = _
    rw [hw, count6 f x _ (c + 1) (by omega)]
    congr 1
    omega
theorem core6 (f : Nat → Bool) {n : Nat} (hn : n ≤ 64) : ∃ m : Nat, (coreS (badS (stp6 f)) n 0).2 = (m : Int) ∧ m ≤ n + 1 := by
  have h1 : (badS (stp6 f) 0 (2 ^ n - 1)).2 = ((1 : Nat) : Int) := by
    show IntKind.i64.wrap (0 + 1) = _
    rw [wrap_i64 (by omega) (by omega)]
    rfl
  unfold coreS
  rw [h1]
  split
  · exact ⟨1 + n, count6 f n _ 1 (by omega), by omega⟩
  · exact ⟨1, rfl, by omega⟩
theorem core13c {f : Nat → Bool} (hf : ∀ σ, FulAt σ 56 [.row T.cells 0] f) {n : Nat} (hn : n ≤ 64) : ∃ m : Nat, m ≤ n + 1 ∧ ACall Tryd.prog G0 13 [I n, .fn 32 [] [.ref 1 0 0, .ref 0 0 0]] (hI (fvT T) 0) (.tup [flL (coreC f n), I (coreE f n)]) (hI (fvT T) m) := by
  obtain ⟨m, hm, hle⟩ := core6 f hn
  have h := c13 (ful32 hf) hn 0
  have hs := (coreS_ok (g := fun s => !f s) (stp := badS (stp6 f)) (Good := fun _ => True) (fun st s _ => ⟨rfl, trivial⟩) n (st := 0) trivial).1
  rw [hs, hm] at h
  refine ⟨m, hle, ?_⟩
  unfold coreC coreE
  cases hq : f (2 ^ n - 1) with
  | true =>
    simp only [hq, Bool.not_true, Bool.false_eq_true, if_false] at h
    exact h
  | false =>
    simp only [hq, Bool.not_false, if_true] at h
    exact h
end
/-! ### The loops -/
def upL (i : Nat) : List Int := (List.range i).map Int.ofNat
theorem upL_succ (i : Nat) : upL (i + 1) = upL i ++ [(i : Int)] := by
  unfold upL
  rw [List.range_succ, List.map_append]
  rfl
theorem upL_len (i : Nat) : (upL i).length = i := by simp [upL]
theorem clok6a (i : Int) (v v' : AV) (h h1 : Heap) : ClOk Tryd.prog G0 (E6a i v v' h h1) := .ofH rfl rfl (hApp_ok _ _ _ _ _ _).ok fun f xs t v h => by cases h
theorem loop6a {R : Option Nat → Prop} {k : Nat} (e : Int) (c : List Int) (hk : k ≤ 64) (base : Heap) : ∀ (d i : Nat), i + d = k →
    ALoopRun Tryd.prog G0 R body6a { tmps := (st6a k e c (vA base.length ((upL i).map I)) i (hG base (upL i))).a } (hG base (upL i)) (.exit 0) { tmps := (st6a k e c (vA base.length ((upL k).map I)) k (hG base (upL k))).a } (hG base (upL k))
  | 0, i, hi => by
    obtain rfl : i = k := by omega
    refine .stop (xBody_ok (m := []) names mixed (clok6a i (vA base.length ((upL i).map I)) .zs (hG base (upL i)) []) (lpNo body6a) (n := 200) (keep := [4, 5, 6, 7, 8, 9, 10, 28, 29]) (st := st6a i e c (vA base.length ((upL i).map I)) i (hG base (upL i))) (st' := st6a i e c (vA base.length ((upL i).map I)) i (hG base (upL i))) ?_).1 nofun
    refine (congrArg Tree.sel (run6a i e i c _ _ _ _)).trans ?_
    rw [selI, decide_eq_false (by omega)]
    rfl
  | d + 1, i, hi => by
    have hw : IntKind.i64.wrap ((i : Int) + 1) = ((i + 1 : Nat) : Int) := wrap_i64 (by omega) (by omega)
    have ih := loop6a (R := R) e c hk base d (i + 1) (by omega)
    have hl := upL_succ i
    have happ := append_vA el22 base ((upL i).map I) (I i) rfl (by simp [upL]; omega)
    have hm : (upL i).map I ++ [I i] = (upL i ++ [(i : Int)]).map I := by simp
    rw [hm] at happ
    refine .next (xBody_ok (m := []) names mixed (clok6a i (vA base.length ((upL i).map I)) (vA base.length ((upL i ++ [(i : Int)]).map I)) (hG base (upL i)) (hG base (upL i ++ [(i : Int)]))) (lpNo body6a) (n := 200) (keep := [4, 5, 6, 7, 8, 9, 10, 28, 29]) (st := st6a k e c (vA base.length ((upL i).map I)) i (hG base (upL i))) (st' := st6a k e c (vA base.length ((upL (i + 1)).map I)) (i + 1 : Nat) (hG base (upL (i + 1)))) ?_).1 ih
    refine (congrArg Tree.sel (run6a k e i c _ _ _ _)).trans ?_
    rw [selI, decide_eq_true (by omega), cond_true, Tree.sel_need ⟨rfl, rfl, rfl, happ⟩, hw, hl]
    rfl
end Go.Proofs.YtjljigccgaadaaaDoor.Am

namespace Go.Proofs.YtjljigccgaadaaaDoor.Am
open Go
section
variable {P : Program} {G : Nat → Option (List AV)}

/-- What the last object holds is forgotten. -/
theorem Inv.goneLast {w : World} {M : Map} {σ : Heap} {g : Nat} {c : List AV} (hi : Inv G w M (σ ++ [.cells g c])) : Inv G w M (σ ++ [.gone]) :=
  .of hi.glob hi.inj (fun r p h => by have := hi.dom r p h; simpa using this) hi.lt hi.far fun r o ho => by
    by_cases hr : r < σ.length
    · rw [List.getElem?_append_left hr] at ho
      exact hi.objOk (by rw [List.getElem?_append_left hr]; exact ho)
    · rw [List.getElem?_append_right (by omega)] at ho
      obtain rfl := List.mem_singleton.1 (List.mem_of_getElem? ho)
      trivial
theorem AExec.goneLast {R : Option Nat → Prop} {c : Code} {a a' : AAct} {σ σ' : Heap} {e : Exit} {g : Nat} {cs : List AV} (h : AExec P G R c a σ e a' (σ' ++ [.cells g cs])) : AExec P G R c a σ e a' (σ' ++ [.gone]) :=
  fun r0 hr w M ac Q hi ha hQ => h r0 hr w M ac Q hi ha fun w' M' ac' he hi' ha' => hQ w' M' ac' he hi'.goneLast ha'

/-- A frame seen through weaker values. -/
theorem RAct.sub {w : World} {M : Map} {ac : Act} {a b : List AV} {m : List Nat} (h : RAct w M ac { tmps := a, marks := m }) (hl : b.length = a.length) (hs : ∀ (j : Nat) (y' : AV), b[j]? = some y' → ∃ y, a[j]? = some y ∧ ∀ w M u, RV w M u y → RV w M u y') : RAct w M ac { tmps := b, marks := m } :=
  ⟨⟨by rw [h.tmps.1, hl], fun j y' hj => by
    obtain ⟨y, h1, h2⟩ := hs j y' hj
    exact h2 _ _ _ (h.tmps.2 j y h1)⟩, h.marks⟩
theorem AExec.weak_sub {R : Option Nat → Prop} {c : Code} {a : AAct} {a1 b : List AV} {m : List Nat} {σ σ' : Heap} {e : Exit} (h : AExec P G R c a σ e { tmps := a1, marks := m } σ') (hl : b.length = a1.length) (hs : ∀ (j : Nat) (y' : AV), b[j]? = some y' → ∃ y, a1[j]? = some y ∧ ∀ w M u, RV w M u y → RV w M u y') :
    AExec P G R c a σ e { tmps := b, marks := m } σ' :=
  fun r0 hr w M ac Q hi ha hQ => h r0 hr w M ac Q hi ha fun w' M' ac' he hi' ha' => hQ w' M' ac' he hi' (ha'.sub hl hs)
theorem RV.mx_ms {w : World} {M : Map} {u : Value} {size r g off len cap cap0 : Nat} (h : RV w M u (.mx size r g off len cap)) (h0 : len ≤ cap0) (hc : cap0 ≤ cap) : RV w M u (.ms size r g off len cap0) := by
  cases h with
  | mx _ _ _ _ _ _ b c e hr hlen hsz hfit => exact .ms _ _ _ _ _ _ b cap c e hr h0 hc hsz hfit
  | mxS _ _ _ _ _ _ b g' p hr hg => exact .msS _ _ _ _ _ _ b g' p cap hr hg

/-- THE ROOM OF A SLICE: whatever it is. -/
theorem AExec.known_cap {R : Option Nat → Prop} {c : Code} {a : List AV} {m : List Nat} {a' : AAct} {σ σ' : Heap} {e : Exit} {i size r g off len cap : Nat} (hi : a[i]? = some (.ms size r g off len cap)) (ho : (objAt σ r g).isSome = true)
    (h : ∀ capc, cap ≤ capc → AExec P G R c { tmps := a.set i (.mx size r g off len capc), marks := m } σ e a' σ') : AExec P G R c { tmps := a, marks := m } σ e a' σ' := by
  intro r0 hr w M ac Q hinv ha hQ
  have hv := ha.tmps.2 i _ hi
  obtain ⟨cc, hcc⟩ := Option.isSome_iff_exists.1 ho
  obtain ⟨b, cs, e', hm, hh, hl, hx⟩ := hinv.obj hcc
  generalize hu : ac.tmps.getD i undef = u at hv
  cases hv with
  | msS _ _ _ _ _ _ b' g' p capc hm' hg =>
    rw [hm] at hm'
    obtain ⟨_, rfl⟩ := Prod.mk.inj (Option.some.inj hm')
    omega
  | ms _ _ _ _ _ _ b' capc c' e'' hm' hlen hcc' hsz hfit =>
    refine h capc hcc' r0 hr w M ac Q hinv ⟨⟨by rw [ha.tmps.1]; simp, fun j x hj => ?_⟩, ha.marks⟩ hQ
    rw [List.getElem?_set] at hj
    split at hj
    · rename_i hij
      subst hij
      split at hj
      · cases hj
        rw [hu]
        exact .mx _ _ _ _ _ _ b' c' e'' hm' (by omega) hsz hfit
      · cases hj
    · exact ha.tmps.2 j x hj

/-- Length and room of a slice whose room is known. -/
def hCap (t : TypeId) : Heap → Oper → (Operand → Option AV) → Option (AV × Bool × Heap × Prop) := fun h o ρ => match o.op with
  | .call { callee := .builtin .cap, args := args, argTypes := ts } => match evAllR ρ args.toList with
    | some [.mx _ _ _ _ _ cap] => some (.int .i64 cap, true, h, ts = #[t])
    | some [.zs] => some (.int .i64 (0 : Nat), true, h, ts = #[t])
    | _ => none
  | .call { callee := .builtin .len, args := args, argTypes := ts } => match evAllR ρ args.toList with
    | some [.mx _ _ _ _ len _] => some (.int .i64 len, true, h, ts = #[t])
    | _ => none
  | _ => none
theorem hCap_ok {t e : TypeId} (hu : P.underlying t = some (.slice e)) : HintOk P G (hCap t) := by
  refine ⟨fun h o a m y s h' p hh hp => ?_, fun h o ρ y s h' p hh hp _ => ?_⟩
  · have key : ∀ (bt : Builtin) (args : Array Operand) (ts : Array TypeId) (x : AV) (len cap : Nat) (n : Nat), (∀ w M u, RV w M u x → ∃ q, u = .slice q len cap) → o.op = .call { callee := .builtin bt, args := args, argTypes := ts } → ts = #[t] → evAllR (ev G a) args.toList = some [x] →
        (∀ (q : Option Addr) (w : World) ty cs, (builtin bt #[t] ty cs #[.slice q len cap]).run P w = .ok (.value (.int .i64 n)) w) → AStep P G { tmps := a, marks := m } h o (.int .i64 n) h := by
      intro bt args ts x len cap n hsl' ho hts hx hb r0 w M ac K Q hi ha hK
      subst hts
      refine ⟨fun f _ => FW_fn r0 f, ?_⟩
      have hnd : ∀ c, o.op ≠ .defer c := fun c' h => by rw [ho] at h; cases h
      rw [Oper.semAt_eq _ _ _ hnd]
      rw [← evAllR_eq] at hx
      obtain ⟨x1, x2⟩ := evAll_ok hi ha.tmps hx
      simp only [Array.toArray_toList] at x1 x2
      have hv := x2 0 _ rfl
      have harr := arr1 x1
      obtain ⟨q, hq⟩ := hsl' _ _ _ hv
      rw [hq] at harr
      have hrun : (execOp ac.eval o).run P w = .ok (.value (.int .i64 n)) w := by
        unfold execOp
        simp only [ho]
        simp only [resolve, Sem.run_bind, Sem.run_pure, Result.andThen_ok, invoke, harr]
        exact hb q w _ _
      rw [hrun]
      exact hK _ w M (.int _ _) (.refl w M) hi
    have hmx : ∀ {size r g off len cap : Nat}, ∀ w M u, RV w M u (.mx size r g off len cap) → ∃ q, u = .slice q len cap := fun w M u hv => by
      cases hv with
      | mx _ _ _ _ _ _ b c e hr hlen hsz hfit => exact ⟨_, rfl⟩
      | mxS _ _ _ _ _ _ b g' p hr hg => exact ⟨_, rfl⟩
    unfold hCap at hh
    split at hh
    · rename_i args ts ho
      split at hh
      · rename_i size r g off len cap hx
        cases hh
        refine key .cap args ts _ len cap cap hmx ho hp hx fun q w _ _ => ?_
        simp only [builtin, Sem.run_bind, Builtin.cap_, List.getElem?_toArray, List.getElem?_cons_zero, run_underlying', hu, Result.andThen_ok, goInt, Sem.run_pure]
      · rename_i hx
        cases hh
        refine key .cap args ts .zs 0 0 0 (fun w M u hv => by cases hv; exact ⟨_, rfl⟩) ho hp hx fun q w _ _ => ?_
        simp only [builtin, Sem.run_bind, Builtin.cap_, List.getElem?_toArray, List.getElem?_cons_zero, run_underlying', hu, Result.andThen_ok, goInt, Sem.run_pure]
      · cases hh
    · rename_i args ts ho
      split at hh
      · rename_i size r g off len cap hx
        cases hh
        refine key .len args ts _ len cap len hmx ho hp hx fun q w _ _ => ?_
        simp only [builtin, Sem.run_bind, Builtin.len_, List.getElem?_toArray, List.getElem?_cons_zero, run_underlying', hu, Result.andThen_ok, goInt, Sem.run_pure]
      · cases hh
    · cases hh
  · unfold hCap at hh
    split at hh
    · split at hh
      · cases hh; rfl
      · cases hh; rfl
      · cases hh
    · split at hh
      · cases hh; rfl
      · cases hh
    · cases hh
/-- A truth value that is not known decides between two ways; both go on. -/
theorem AExec.fork2 {R : Option Nat → Prop} {x y n z : Code} {a a1 a2 a3 : List AV} {a' : AAct} {σ σ1 σ2 σ3 σ' : Heap} {e : Exit} {i : Nat} (hx : AExec P G R x { tmps := a } σ .normal { tmps := a1 } σ1) (hi : a1[i]? = some .anyb)
    (ht : AExec P G R y { tmps := a1.set i (.bool true) } σ1 .normal { tmps := a3 } σ3) (hzt : AExec P G R z { tmps := a3 } σ3 e a' σ') (hf : AExec P G R n { tmps := a1.set i (.bool false) } σ1 .normal { tmps := a2 } σ2) (hz : AExec P G R z { tmps := a2 } σ2 e a' σ') :
    AExec P G R (.seq (.seq x (.cond (.tmp i) y n)) z) { tmps := a } σ e a' σ' :=
  fun r0 hr w M ac Q hinv ha hQ => wpIn_seq (wpIn_seq (hx r0 hr w M ac _ hinv ha fun w1 M1 ac1 h1 hi1 ha1 => by
    obtain ⟨b, hb, hab⟩ := ha1.known hi
    refine wpIn_cond (t := b) hb ?_
    cases b with
    | true =>
      exact ht r0 hr w1 M1 ac1 _ hi1 hab fun w2 M2 ac2 h2 hi2 ha2 => hzt r0 hr w2 M2 ac2 _ hi2 ha2 fun w3 M3 ac3 h3 hi3 ha3 => hQ w3 M3 ac3 ((h1.trans h2).trans h3) hi3 ha3
    | false =>
      exact hf r0 hr w1 M1 ac1 _ hi1 hab fun w2 M2 ac2 h2 hi2 ha2 => hz r0 hr w2 M2 ac2 _ hi2 ha2 fun w3 M3 ac3 h3 hi3 ha3 => hQ w3 M3 ac3 ((h1.trans h2).trans h3) hi3 ha3))
end
end Go.Proofs.YtjljigccgaadaaaDoor.Am

namespace Go.Proofs.YtjljigccgaadaaaDoor.Am
open Go
section
variable {P : Program} {G : Nat → Option (List AV)}

/-- A part of a slice whose room is known, told beforehand (which bounds are named tells which part). -/
def hSlM (t : TypeId) (fl fh : Bool) (r g off len cap : Nat) (lo hi : Option AV) (l u : Nat) : Heap → Oper → (Operand → Option AV) → Option (AV × Bool × Heap × Prop) := fun h o ρ => match o.op with
  | .slice t' x a b none => match Nat.beq t' t && ((a.isSome == fl) && (b.isSome == fh)) with
    | true => some (.mx 1 r g (off + l) (u - l) (cap - l), true, h, ρ x = some (.mx 1 r g off len cap) ∧ evOptR ρ a = some lo ∧ evOptR ρ b = some hi ∧ len ≤ cap ∧ aBounds len cap lo hi none = some (l, u, cap) ∧ cap ≠ l)
    | false => none
  | _ => none
theorem hSlM_ok {t e : TypeId} {ie : TypeInfo} (hu : P.underlying t = some (.slice e)) (hie : P.info? e = some ie) (h1 : ie.size = 1) (fl fh : Bool) (r g off len cap : Nat) (lo hi : Option AV) (l u : Nat) : HintOk P G (hSlM t fl fh r g off len cap lo hi l u) := by
  refine ⟨fun h o a mk y s h' p hh hp => ?_, fun h o ρ y s h' p hh hp _ => ?_⟩
  · unfold hSlM at hh
    split at hh
    · rename_i t' x a' b' ho
      split at hh
      · rename_i hq
        cases hh
        simp only [Bool.and_eq_true] at hq
        obtain rfl := Nat.eq_of_beq_eq_true hq.1
        obtain ⟨hx, ha1, hb1, hlc, hbd, hne⟩ := hp
        intro r0 w M ac K Q hi' ha hK
        refine ⟨fun f _ => FW_fn r0 f, ?_⟩
        have hnd : ∀ c, o.op ≠ .defer c := fun c' h => by rw [ho] at h; cases h
        rw [Oper.semAt_eq _ _ _ hnd]
        have hv := ev_ok hi' ha.tmps hx
        have hlo := evOpt_ok hi' ha.tmps (show evOpt G a a' = some lo by rw [evOptR_eq]; exact ha1)
        have hhi := evOpt_ok hi' ha.tmps (show evOpt G a b' = some hi by rw [evOptR_eq]; exact hb1)
        obtain ⟨hb2, hb3, hb4, _, _⟩ := aBounds_ok (P := P) hlo hhi .none hlc (Nat.le_refl cap) hbd
        simp only [Option.isSome_none, Bool.false_eq_true, if_false] at hb2
        have key : ∃ rv, (Instr.sliceAt t' (ac.eval x) (a'.map ac.eval) (b'.map ac.eval) none).run P w = .ok rv w ∧ RV w M rv (.mx 1 r g (off + l) (u - l) (cap - l)) := by
          generalize ac.eval x = uv at hv
          cases hv with
          | mx _ _ _ _ _ _ b c e' hr hlen hsz hfit =>
            refine ⟨_, run_slice' hu hie hb2, ?_⟩
            rw [if_neg hne, h1, Nat.mul_one]
            have : (some (⟨b, off, none⟩ : Addr)).map (·.add l) = some ⟨b, off + l, none⟩ := by rw [Option.map_some, add_plain]
            rw [this]
            exact .mx _ _ _ _ _ _ b c e' hr (by omega) hsz (by omega)
          | mxS _ _ _ _ _ _ b g' q hr hg => exact ⟨_, run_slice' hu hie hb2, .mxS _ _ _ _ _ _ b g' _ hr hg⟩
        obtain ⟨rv, hrun0, hrv⟩ := key
        have hrun : (execOp ac.eval o).run P w = .ok (.value rv) w := by
          unfold execOp
          simp only [ho, Option.map_none, Sem.run_bind, hrun0, Result.andThen_ok]
          rfl
        rw [hrun]
        exact hK _ w M hrv (.refl w M) hi'
      · cases hh
    · cases hh
  · unfold hSlM at hh
    split at hh
    · split at hh
      · cases hh; rfl
      · cases hh
    · cases hh
/-- Contents of a slice of which the room may be known. -/
def contsX (h : Heap) : AV → Option (Nat × List AV)
  | .mx s r g off len _ => conts h 1 (.ms s r g off len len)
  | x => conts h 1 x
theorem contsX_ok {w : World} {M : Map} {σ : Heap} {n : Nat} {v : Value} {x : AV} {xs : List AV} (hi : Inv G w M σ) (hv : RV w M v x) (h : contsX σ x = some (n, xs)) :
    (Builtin.lenOf v).run P w = .ok n w ∧ xs.length = n * 1 ∧
    ∀ k, k ≤ n → ∃ us : Array Value, (Builtin.firstCells 1 k v).run P w = .ok us w ∧ us.size = k * 1 ∧ ∀ (j : Nat) (y : AV), j < k * 1 → xs[j]? = some y → RV w M (us.getD j undef) y := by
  unfold contsX at h
  split at h
  · rename_i s r g off len cap
    cases hv with
    | mx _ _ _ _ _ _ b c e hr hlen hsz hfit => exact conts_ok hi (RV.ms s r g off len len b cap c e hr (Nat.le_refl _) hlen hsz hfit) h
    | mxS _ _ _ _ _ _ b g' q hr hg => exact conts_ok hi (RV.msS s r g off len len b g' q cap hr hg) h
  · exact conts_ok hi hv h
/-- A copy into an own slice, told beforehand: n elements. -/
def hCopy (t : TypeId) (d s : AV) (r g off len n : Nat) (c xs : List AV) (h0 : Heap) : Heap → Oper → (Operand → Option AV) → Option (AV × Bool × Heap × Prop) := fun h o ρ => match o.op with
  | .call { callee := .builtin .copy, args := args, argTypes := ts } => some (.int .i64 n, true, h0.set r (.cells g (setL c off (xs.take n))), h = h0 ∧ evAllR ρ args.toList = some [d, s] ∧ ts = #[t, t] ∧ (∃ cap, d = .ms 1 r g off len cap ∨ d = .mx 1 r g off len cap) ∧ objAt h0 r g = some c ∧ (∃ m, contsX h0 s = some (m, xs) ∧ n = min m len) ∧ off + n ≤ c.length ∧ (xs.take n).all AV.one = true)
  | _ => none
theorem hCopy_ok {t e : TypeId} {ie : TypeInfo} (hu : P.underlying t = some (.slice e)) (hie : P.info? e = some ie) (h1 : ie.size = 1) (d s : AV) (r g off len n : Nat) (c xs : List AV) (h0 : Heap) : HintOk P G (hCopy t d s r g off len n c xs h0) := by
  refine ⟨fun h o a mk y s' h' p hh hp => ?_, fun h o ρ y s' h' p hh hp hq => ?_⟩
  · unfold hCopy at hh
    split at hh
    · rename_i args ts ho
      cases hh
      obtain ⟨rfl, p1, rfl, ⟨cap, hd⟩, p3, ⟨m, p4, p5⟩, p6, p7⟩ := hp
      rw [← evAllR_eq] at p1
      intro r0 w M ac K Q hi ha hK
      refine ⟨fun f _ => FW_fn r0 f, ?_⟩
      have hnd : ∀ c, o.op ≠ .defer c := fun c' h => by rw [ho] at h; cases h
      rw [Oper.semAt_eq _ _ _ hnd]
      obtain ⟨x1, x2⟩ := evAll_ok hi ha.tmps p1
      simp only [Array.toArray_toList] at x1 x2
      have hx := x2 0 _ rfl
      have hs := x2 1 _ rfl
      have harr := arr2 x1
      generalize (args.map ac.eval).getD 1 undef = v2 at hs harr
      obtain ⟨k1, k2, k3⟩ := contsX_ok (P := P) hi hs p4
      obtain ⟨us, q1, q2, q3⟩ := k3 n (by omega)
      obtain ⟨b, cs, e0, hm, hb, hl, hcx⟩ := hi.obj p3
      have hsl : ∃ capv, (args.map ac.eval).getD 0 undef = .slice (some ⟨b, off, none⟩) len capv := by
        generalize (args.map ac.eval).getD 0 undef = u at hx
        rcases hd with rfl | rfl
        · cases hx with
          | msS _ _ _ _ _ _ b' g' q capc hm' hg =>
            rw [hm] at hm'
            obtain ⟨_, rfl⟩ := Prod.mk.inj (Option.some.inj hm')
            omega
          | ms _ _ _ _ _ _ b' capc c' e' hm' hlen hcc hsz hfit =>
            rw [hm] at hm'
            obtain ⟨rfl, _⟩ := Prod.mk.inj (Option.some.inj hm')
            exact ⟨_, rfl⟩
        · cases hx with
          | mxS _ _ _ _ _ _ b' g' q hm' hg =>
            rw [hm] at hm'
            obtain ⟨_, rfl⟩ := Prod.mk.inj (Option.some.inj hm')
            omega
          | mx _ _ _ _ _ _ b' c' e' hm' hlen hsz hfit =>
            rw [hm] at hm'
            obtain ⟨rfl, _⟩ := Prod.mk.inj (Option.some.inj hm')
            exact ⟨_, rfl⟩
      obtain ⟨capv, hsl⟩ := hsl
      rw [hsl] at harr
      have hxl : xs.length = m := by omega
      have htl : (xs.take n).length = n := by rw [List.length_take]; omega
      have hus : us.toList.length = (xs.take n).length := by rw [htl]; simp [q2]
      have hrv : ∀ (j : Nat) (y : AV), (xs.take n)[j]? = some y → RV w M (us.getD j undef) y := fun j y hj => by
        have hjl := (List.getElem?_eq_some_iff.1 hj).1
        rw [List.getElem?_take_of_lt (by omega)] at hj
        exact q3 j y (by omega) hj
      have hone : ∀ u ∈ us.toList, u.oneCell' = true := all_one (by rw [q2, htl]; omega) p7 hrv
      have he := Ext.upd (M := M) (cs' := wr cs off us.toList) (g' := g) hm hb (wr_size _ _ _) (Nat.le_refl _) (hi.others hm) (hi.notFar hm)
      have hs2 := run_storeCells (P := P) (b := b) (o := off) (e := e0) us.toList 0 cs w hb (by rw [hus, htl]; omega) hone
      have hinv := Inv.upd (cs' := wr cs off us.toList) (g' := g) (c' := setL c off (xs.take n)) hi hm hb (wr_size _ _ _) (Nat.le_refl _) (by rw [setL_length (by omega), wr_size]; exact hl)
        (written hl (by omega) hus (fun j y hj => (hcx j y hj).mono he) (fun j y hj => by simpa using (hrv j y hj).mono he))
      rw [put_self hm] at he hinv
      have hmin : Nat.min m len = n := p5.symm
      have hrun : (execOp ac.eval o).run P w = .ok (.value (.int .i64 n)) (upd w b (wr cs (off + 0) us.toList) e0) := by
        unfold execOp
        simp only [ho]
        simp only [resolve, Sem.run_bind, Sem.run_pure, Result.andThen_ok, invoke, builtin, harr]
        simp only [Builtin.copy_, List.getElem?_toArray, List.getElem?_cons_zero, List.getElem?_cons_succ, Sem.run_bind, run_underlying', hu, Result.andThen_ok, k1, hmin, run_sizeOf', hie, h1, q1, hs2, Sem.run_pure]
        rfl
      rw [hrun]
      exact hK _ _ M (.int _ _) he hinv
    · cases hh
  · unfold hCopy at hh
    split at hh
    · rename_i args ts ho
      unfold quiet at hq
      simp only [ho] at hq
      cases hq
    · cases hh
end
end Go.Proofs.YtjljigccgaadaaaDoor.Am

namespace Go.Proofs.YtjljigccgaadaaaDoor.Am
open Go
section
variable {P : Program} {G : Nat → Option (List AV)}

theorem run_append_zeros {w : World} {t t2 ty e : TypeId} {ie : TypeInfo} {base : Option Addr} {sLen sCap k : Nat} {os : Array Value} (hu : P.underlying t = some (.slice e)) (hie : P.info? e = some ie) (h1 : ie.size = 1) (h2 : P.underlying t2 = some (.int .i64))
    (ho : (Builtin.firstCells 1 sLen (.slice base sLen sCap)).run P { w with drawn := w.drawn + 1 } = .ok os { w with drawn := w.drawn + 1 })
    (hk : 0 < k) (hroom : ¬ sLen + k ≤ sCap) (hsm : sLen + k ≤ 16777216) (hb : ie.bytes ≤ 65536) {z : Value} (hz : (zeroValue e).run P { w with drawn := w.drawn + 1 } = .ok z { w with drawn := w.drawn + 1 }) :
    ∃ cap : Nat, sLen + k ≤ cap ∧ (Builtin.append_ #[t, t2] ty #[.slice base sLen sCap, .int .i64 k]).run P w =
      .ok (.slice (some ⟨w.heap.size, 0, none⟩) (sLen + k) cap) (({ w with drawn := w.drawn + 1 } : World).alloc (.cells (os ++ Builtin.zeroCells z.cells k ++ Builtin.zeroCells z.cells (cap - (sLen + k))) e)) := by
  refine ⟨sLen + k + w.tape w.drawn (.appendCap (sLen + k) sCap e) % (2 ^ 63 - (sLen + k)), by omega, ?_⟩
  have hcap := nextcap_le (need := sLen + k) (cap := sCap) (by omega) hsm
  have hmul : Builtin.nextslicecap (sLen + k) sCap * ie.bytes ≤ 33554432 * 65536 := Nat.mul_le_mul hcap hb
  have hw : IntKind.i64.wrap (k : Int) = k := wrap_i64 (by omega) (by omega)
  have hn1 : ¬ ((((sLen + k : Nat) : Int) > IntKind.i64.max) ∧ (True ∨ ie.bytes = 0)) := by
    have : IntKind.i64.max = 9223372036854775807 := by decide
    rw [this]
    omega
  have hn2 : ¬ (Builtin.nextslicecap (sLen + k) sCap * ie.bytes > 2 ^ 48) := by omega
  have hneg : ¬ ((k : Int) < 0) := by omega
  have hkb : ¬ ((k : Int) * ie.bytes > 2 ^ 48) := by
    have : k * ie.bytes ≤ 16777216 * 65536 := Nat.mul_le_mul (by omega) hb
    have h3 : ((k * ie.bytes : Nat) : Int) = (k : Int) * ie.bytes := by simp
    rw [← h3]
    omega
  have hks : ¬ (k * 1 = 0) := by omega
  have hq : (Question.appendCap (sLen + k) sCap e).forced = false := rfl
  simp only [Builtin.append_, List.getElem?_toArray, List.getElem?_cons_zero, List.getElem?_cons_succ, Sem.run_bind, run_underlying', hu, h2, Result.andThen_ok, run_sizeOf', hie, h1, Sem.run_pure, if_true, asInt, asIntOf, hw, if_neg hneg, run_typeInfo', Int.toNat_natCast]
  rw [if_neg hkb]
  simp only [Sem.run_bind, Sem.run_pure, Result.andThen_ok, if_neg hroom, Bool.not_true, Bool.false_eq_true, if_false]
  simp only [run_typeInfo', hie, Result.andThen_ok]
  rw [if_neg hn1]
  simp only [Sem.run_bind, run_typeInfo', hie, Result.andThen_ok]
  rw [if_neg hn2]
  simp only [Sem.run_bind, run_choose, hq, Bool.false_eq_true, if_false, Result.andThen_ok, run_typeInfo', hie, run_askRoom, ho, if_neg hks, hz, Sem.run_pure]
  rfl
/-- An append of zeros that has no room, told beforehand: a new own slice. -/
def hZer (t tn : TypeId) (r g len cap k : Nat) (xs : List AV) (zx : AV) (h0 : Heap) : Heap → Oper → (Operand → Option AV) → Option (AV × Bool × Heap × Prop) := fun h o ρ => match o.op with
  | .call { callee := .builtin .append, args := args, argTypes := ts } => some (.ms 1 h0.length 0 0 (len + k) (len + k), true, h0 ++ [.cells 0 (xs ++ List.replicate k zx)], h = h0 ∧ evAllR ρ args.toList = some [.mx 1 r g 0 len cap, .int .i64 k] ∧ ts = #[t, tn] ∧ contsX h0 (.mx 1 r g 0 len cap) = some (len, xs) ∧ 0 < k ∧ ¬ len + k ≤ cap ∧ len + k ≤ 16777216)
  | _ => none
theorem hZer_ok {t tn e : TypeId} {ie : TypeInfo} (hu : P.underlying t = some (.slice e)) (hun : P.underlying tn = some (.int .i64)) (hie : P.info? e = some ie) (h1 : ie.size = 1) (hby : ie.bytes ≤ 65536) {zx : AV} (hz : aZero P e = some zx) (hzo : zx.one = true) (r g len cap k : Nat) (xs : List AV) (h0 : Heap) : HintOk P G (hZer t tn r g len cap k xs zx h0) := by
  refine ⟨fun h o a mk y s' h' p hh hp => ?_, fun h o ρ y s' h' p hh hp hq => ?_⟩
  · unfold hZer at hh
    split at hh
    · rename_i args ts ho
      cases hh
      obtain ⟨rfl, p1, rfl, p3, p4, p5, p6⟩ := hp
      rw [← evAllR_eq] at p1
      intro r0 w M ac K Q hi ha hK
      refine ⟨fun f _ => FW_fn r0 f, ?_⟩
      have hnd : ∀ c, o.op ≠ .defer c := fun c' h => by rw [ho] at h; cases h
      rw [Oper.semAt_eq _ _ _ hnd]
      obtain ⟨x1, x2⟩ := evAll_ok hi ha.tmps p1
      simp only [Array.toArray_toList] at x1 x2
      have hx := x2 0 _ rfl
      have hs := x2 1 _ rfl
      have harr := arr2 x1
      generalize (args.map ac.eval).getD 1 undef = v2 at hs harr
      generalize (args.map ac.eval).getD 0 undef = v1 at hx harr
      cases hs
      obtain ⟨k1, k2, k3⟩ := contsX_ok (P := P) hi.drew (hx.mono (.drew w M)) p3
      obtain ⟨us, q1, q2, q3⟩ := k3 len (Nat.le_refl _)
      have hsl : ∃ q, v1 = .slice q len cap := by
        cases hx with
        | mx _ _ _ _ _ _ b c e hr hlen hsz hfit => exact ⟨_, rfl⟩
        | mxS _ _ _ _ _ _ b g' q hr hg => exact ⟨_, rfl⟩
      obtain ⟨q, rfl⟩ := hsl
      obtain ⟨z, hz1, hz2⟩ := aZero_ok hz { w with drawn := w.drawn + 1 } M
      obtain ⟨cap', c1, c2⟩ := run_append_zeros (ty := o.type) hu hie h1 hun q1 p4 p5 p6 hby hz1
      have hxc : zx.cells = [zx] := by cases zx <;> first | rfl | (simp [AV.one] at hzo)
      obtain ⟨⟨hz3, hz4⟩, _⟩ := hz2.cells (by rw [hxc]; simp [hzo])
      rw [hxc] at hz3 hz4
      have hzs : z.cells.size = 1 := hz3
      have hz5 := hz4 0 zx rfl
      have hzg : ∀ i, i < k → (Builtin.zeroCells z.cells k).getD i undef = z.cells.getD 0 undef := fun i hi => by
        unfold Builtin.zeroCells
        rw [hzs, Nat.mul_one, Array.getD_eq_getD_getElem?, Array.getElem?_map, Array.getElem?_range, if_pos hi]
        simp only [Option.map_some, Option.getD_some, Nat.mod_one]
        rw [Array.getD_eq_getD_getElem?, getElem!_pos z.cells 0 (by omega), Array.getElem?_eq_getElem (by omega), Option.getD_some]
      have he := Ext.push hi.drew (.cells (us ++ Builtin.zeroCells z.cells k ++ Builtin.zeroCells z.cells (cap' - (len + k))) e)
      have hrun : (execOp ac.eval o).run P w = .ok (.value (.slice (some ⟨w.heap.size, 0, none⟩) (len + k) cap')) (({ w with drawn := w.drawn + 1 } : World).alloc (.cells (us ++ Builtin.zeroCells z.cells k ++ Builtin.zeroCells z.cells (cap' - (len + k))) e)) := by
        unfold execOp
        simp only [ho]
        simp only [resolve, Sem.run_bind, Sem.run_pure, Result.andThen_ok, invoke, builtin, harr, c2]
      rw [hrun]
      have hxl : xs.length = len := by omega
      refine hK _ _ (M.put h.length (w.heap.size, 0)) ?_ ((Ext.drew w M).trans he) (Inv.push hi.drew ⟨w.heap.size, _, e, Map.put_same _ _ _, alloc_new _ _, ?_, fun j y hj => ?_⟩)
      · refine .ms 1 h.length 0 0 (len + k) (len + k) w.heap.size cap' _ e (Map.put_same _ _ _) (Nat.le_refl _) c1 (alloc_new _ _) ?_
        simp [q2, zeroCells_size, hzs]
        omega
      · simp [q2, zeroCells_size, hzs, hxl]
      · rw [getD_append]
        by_cases hj1 : j < len
        · rw [List.getElem?_append_left (by omega)] at hj
          rw [if_pos (by simp [q2, zeroCells_size, hzs]; omega), getD_append, if_pos (by simp [q2]; omega)]
          exact (q3 j y (by omega) hj).mono he
        · rw [List.getElem?_append_right (by omega)] at hj
          have hjl := (List.getElem?_eq_some_iff.1 hj).1
          have hy := List.eq_of_mem_replicate (List.mem_of_getElem? hj)
          rw [List.length_replicate] at hjl
          subst hy
          rw [if_pos (by simp [q2, zeroCells_size, hzs]; omega), getD_append, if_neg (by simp [q2]; omega), hzg _ (by rw [q2]; omega)]
          exact (hz5.mono (.refl _ _)).mono he
    · cases hh
  · unfold hZer at hh
    split at hh
    · rename_i args ts ho
      unfold quiet at hq
      simp only [ho] at hq
      cases hq
    · cases hh
end
end Go.Proofs.YtjljigccgaadaaaDoor.Am

namespace Go.Proofs.YtjljigccgaadaaaDoor.Am
open Go
section
variable {P : Program} {G : Nat → Option (List AV)}

theorem Inv.extend {w : World} {M : Map} {σ : Heap} {r g : Nat} {c : List AV} {b : Nat} {cs : Array Value} {e : TypeId} (hi : Inv G w M σ) (ho : objAt σ r g = some c) (hm : M r = some (b, g)) (hb : w.heap[b]? = some (.cells cs e (0, 0))) (hl : c.length < cs.size) : Inv G w M (σ.set r (.cells g (c ++ [.junk]))) := by
  refine .of hi.glob hi.inj (fun r p h => by have := hi.dom r p h; simpa using this) hi.lt hi.far fun q o hq => ?_
  rw [List.getElem?_set] at hq
  split at hq
  · rename_i he
    subst he
    split at hq
    · cases hq
      obtain ⟨b', cs', e', h1, h2, h3, h4⟩ := hi.obj ho
      rw [hm] at h1
      obtain ⟨rfl, _⟩ := Prod.mk.inj (Option.some.inj h1)
      rw [hb] at h2
      cases h2
      refine ⟨b, cs, e, hm, hb, by simp; omega, fun j x hj => ?_⟩
      by_cases hj2 : j < c.length
      · rw [List.getElem?_append_left hj2] at hj
        exact h4 j x hj
      · rw [List.getElem?_append_right (by omega)] at hj
        obtain rfl := List.mem_singleton.1 (List.mem_of_getElem? hj)
        exact .junk _
    · cases hq
  · exact hi.objOk hq
/-- A SLICE WITH ROOM HAS ONE CELL MORE. -/
theorem ACall.extend {f : FuncId} {args : List AV} {σ σ' : Heap} {v : AV} {r g n cap : Nat} {c : List AV} (h : ACall P G f args (σ.set r (.cells g (c ++ [.junk]))) v σ') (ha : args[0]? = some (.mx 1 r g 0 n cap)) (ho : objAt σ r g = some c) (hl : c.length < cap) : ACall P G f args σ v σ' := by
  refine ⟨h.1, fun w M vs hi hvs => ?_⟩
  obtain ⟨b, cs, e, hm, hb, h3, h4⟩ := hi.obj ho
  have hv := hvs.2 0 _ ha
  have hfit : cap ≤ cs.size := by
    generalize vs.getD 0 undef = u at hv
    cases hv with
    | mxS _ _ _ _ _ _ b' g' q hm' hg =>
      rw [hm] at hm'
      obtain ⟨_, rfl⟩ := Prod.mk.inj (Option.some.inj hm')
      omega
    | mx _ _ _ _ _ _ b' c' e' hm' hlen hsz hfit =>
      rw [hm] at hm'
      obtain ⟨rfl, _⟩ := Prod.mk.inj (Option.some.inj hm')
      rw [hb] at hsz
      cases hsz
      omega
  exact h.2 w M vs (hi.extend ho hm hb (by omega)) hvs
/-- An own slice becomes data: the frame holds it at one place, and nothing else of what is new. -/
theorem AExec.msData {R : Option Nat → Prop} {c : Code} {a a' b' : List AV} {σ : Heap} {e : Exit} {g : Nat} {cells : List AV} (h : AExec P G R c { tmps := a } σ e { tmps := a' } (σ ++ [.cells g cells])) (hb : ∀ x ∈ cells, Below σ.length x) (hl : b'.length = a'.length)
    (hv : ∀ (j : Nat) (y : AV), b'[j]? = some y → (a'[j]? = some y ∧ Below σ.length y) ∨ (a'[j]? = some (.ms 1 σ.length g 0 cells.length cells.length) ∧ y = .sl 1 (cells.map fun y => [y]))) : AExec P G R c { tmps := a } σ e { tmps := b' } σ := by
  intro r0 hr w M ac Q hi ha hQ
  refine h r0 hr w M ac Q hi ha fun w' M' ac' he hi' ha' => ?_
  obtain ⟨h1, h2⟩ := hi.forget he hi'
  refine hQ w' _ ac' h1 h2 ⟨⟨by rw [ha'.tmps.1, hl], fun j y hj => ?_⟩, ?_⟩
  · rcases hv j y hj with ⟨k1, k2⟩ | ⟨k1, rfl⟩
    · exact (ha'.tmps.2 j y k1).cut k2
    · exact RV.msData hi' (Nat.le_refl _) (ha'.tmps.2 j _ k1) (by simp) hb
  · obtain ⟨bs, k1, k2, _⟩ := ha'.marks
    exact ⟨bs, k1, k2, fun i r b h => by simp at h⟩
end
end Go.Proofs.YtjljigccgaadaaaDoor.Am

namespace Go.Proofs.YtjljigccgaadaaaDoor.Am
open Go
set_option maxRecDepth 100000

theorem f79_some : ∃ fn, Tryd.prog.funcs[79]? = some fn ∧ (fn.name == "runtime.NumGoroutine") = false ∧ fn.body.isNone = true ∧ Extern.findNext fn = none ∧ Extern.find fn = some (Extern.SlicesOverlaps.overlaps #[29, 29] #[4]) := by
  refine ⟨Tryd.f79, Tryd.func79, by kernel_rfl, by kernel_rfl, by kernel_rfl, by kernel_rfl⟩
/-- Two own slices of two objects do not overlap. -/
def hOvl (v s : AV) (h0 : Heap) (N r : Nat) : Heap → Oper → (Operand → Option AV) → Option (AV × Bool × Heap × Prop) := fun h o ρ => match o.op with
  | .call { callee := .value (.func 79), args := args, .. } => some (.bool false, true, h, h = h0 ∧ evAllR ρ args.toList = some [v, s] ∧ N ≠ r ∧ (∃ c, objAt h0 N 0 = some c) ∧ (∃ g c, objAt h0 r g = some c ∧ 0 < c.length ∧ ∃ off len cap, s = .mx 1 r g off len cap) ∧ ∃ len cap, v = .ms 1 N 0 0 len cap)
  | _ => none
theorem size22 (w : World) : (sizeOf 22).run Tryd.prog w = .ok 1 w := by
  obtain ⟨ie, zx, h1, h2, h3, h4, h5, h6⟩ := el29.i
  rw [run_sizeOf', h1]
  simp only [h3]
theorem hOvl_ok (v s : AV) (h0 : Heap) (N r : Nat) : HintOk Tryd.prog G0 (hOvl v s h0 N r) := by
  refine ⟨fun h o a mk y s' h' p hh hp => ?_, fun h o ρ y s' h' p hh hp _ => ?_⟩
  · unfold hOvl at hh
    split at hh
    · rename_i args ts ho
      cases hh
      obtain ⟨rfl, p1, hne, ⟨cN, p3⟩, ⟨g, c, p4, p5, off, len, cap, rfl⟩, lv, cv, rfl⟩ := hp
      rw [← evAllR_eq] at p1
      intro r0 w M ac K Q hi ha hK
      refine ⟨fun f _ => FW_fn r0 f, ?_⟩
      have hnd : ∀ c, o.op ≠ .defer c := fun c' h => by rw [ho] at h; cases h
      rw [Oper.semAt_eq _ _ _ hnd]
      obtain ⟨x1, x2⟩ := evAll_ok hi ha.tmps p1
      simp only [Array.toArray_toList] at x1 x2
      have hx := x2 0 _ rfl
      have hs := x2 1 _ rfl
      have harr := arr2 x1
      generalize (args.map ac.eval).getD 1 undef = v2 at hs harr
      generalize (args.map ac.eval).getD 0 undef = v1 at hx harr
      obtain ⟨bN, csN, eN, m1, m2, m3, m4⟩ := hi.obj p3
      obtain ⟨br, csr, er, k1, k2, k3, k4⟩ := hi.obj p4
      have hbb : bN ≠ br := fun h => hne (hi.inj N r bN 0 g m1 (by rw [h]; exact k1))
      have hv1 : ∃ cv', v1 = .slice (some ⟨bN, 0, none⟩) lv cv' := by
        cases hx with
        | msS _ _ _ _ _ _ b' g' q capc hm' hg =>
          rw [m1] at hm'
          obtain ⟨_, rfl⟩ := Prod.mk.inj (Option.some.inj hm')
          omega
        | ms _ _ _ _ _ _ b' capc c' e' hm' hlen hcc hsz hfit =>
          rw [m1] at hm'
          obtain ⟨rfl, _⟩ := Prod.mk.inj (Option.some.inj hm')
          exact ⟨_, rfl⟩
      have hv2 : v2 = .slice (some ⟨br, off, none⟩) len cap := by
        cases hs with
        | mxS _ _ _ _ _ _ b' g' q hm' hg =>
          rw [k1] at hm'
          obtain ⟨_, rfl⟩ := Prod.mk.inj (Option.some.inj hm')
          omega
        | mx _ _ _ _ _ _ b' c' e' hm' hlen hsz hfit =>
          rw [k1] at hm'
          obtain ⟨rfl, _⟩ := Prod.mk.inj (Option.some.inj hm')
          rfl
      obtain ⟨cv', hv1⟩ := hv1
      rw [hv1, hv2] at harr
      obtain ⟨fn, f1, f2, f3, f4, f5⟩ := f79_some
      have hcall : (callFunc 79 #[.slice (some ⟨bN, 0, none⟩) lv cv', .slice (some ⟨br, off, none⟩) len cap]).run Tryd.prog w = .ok (.value (.bool false)) w := by
        rw [run_callFunc_extern f1 f2 f3 f4 f5, Lib.run_overlaps_apart w 29 4 22 Tryd.underlying29 1 size22 ⟨bN, 0, none⟩ ⟨br, off, none⟩ lv cv' len cap hbb eN er csN.size csr.size (by unfold World.shape?; rw [m2]) (by unfold World.shape?; rw [k2]) (by omega)
          (by unfold World.frozen?; rw [m2]; simp) (by unfold World.frozen?; rw [m2]; simp)]
        rfl
      have hrun : (execOp ac.eval o).run Tryd.prog w = .ok (.value (.bool false)) w := by
        unfold execOp
        simp only [ho, Sem.run_bind, resolve, invoke, harr]
        have he : ac.eval (Operand.func 79) = .func (.func 79) #[] #[] := rfl
        rw [he]
        simp only [Deferred.ofValue, Sem.run_pure, Result.andThen_ok, Array.empty_append, Array.append_empty]
        exact hcall
      rw [hrun]
      exact hK _ w M (.bool _) (.refl w M) hi
    · cases hh
  · unfold hOvl at hh
    split at hh
    · cases hh; rfl
    · cases hh
/-- A literal with one element, as an own slice. -/
theorem step_lit {a : AAct} {σ : Heap} {o : Oper} {x : Operand} {v : AV} (ho : o.op = .buildSlice 29 1 #[(0, x)]) (hx : ev G0 a.tmps x = some v) (hv : v.one = true) : AStep Tryd.prog G0 a σ o (.ms 1 σ.length 0 0 1 1) (σ ++ [.cells 0 [v]]) := by
  intro r0 w M ac K Q hi ha hK
  refine ⟨fun f _ => FW_fn r0 f, ?_⟩
  have hnd : ∀ c, o.op ≠ .defer c := fun c' h => by rw [ho] at h; cases h
  rw [Oper.semAt_eq _ _ _ hnd]
  obtain ⟨ie, zx, h1, h2, h3, h4, h5, h6⟩ := el29.i
  obtain ⟨z, hz1, hz2⟩ := aZero_ok h2 w M
  have hu := ev_ok hi ha.tmps hx
  generalize hue : ac.eval x = u at hu
  have hxc : v.cells = [v] := by cases v <;> first | rfl | (simp [AV.one] at hv)
  have hfa : fillA (fun i => some (i * 1, 1)) (List.replicate (1 * 1) .junk) [(0, v)] = some [v] := by
    simp [fillA, hxc, setL, hv]
  have hcs0 := fillA_ok (w := w) (M := M) (place := fun i => some (i * 1, 1)) [(0, v)] [(0, u)] (List.replicate (1 * 1) .junk) ((Array.range (1 * 1)).map (z.cells[· % z.cells.size]!)) [v] rfl (fun j p hj => by
    match j, hj with
    | 0, hj => cases hj; exact ⟨u, rfl, hu⟩
    | j + 1, hj => simp at hj) ⟨by simp, fun j x hj => by
      have := (List.mem_replicate.1 (List.mem_of_getElem? hj)).2
      subst this; exact .junk _⟩ hfa
  obtain ⟨cs', e1, e2, e3⟩ := hcs0
  have hrun0 : (Instr.buildSlice 29 1 #[(0, u)]).run Tryd.prog w = .ok (.slice (some ⟨w.heap.size, 0, none⟩) 1 1) (w.alloc (.cells cs' 22)) := by
    simp only [Instr.buildSlice, Sem.run_bind, run_underlying', Tryd.underlying29, Result.andThen_ok, run_sizeOf', h1, h3]
    rw [if_neg (by omega)]
    rw [if_neg (by omega)]
    simp only [Sem.run_bind, hz1, Sem.run_pure, Result.andThen_ok, e1]
    rfl
  have hrun : (execOp ac.eval o).run Tryd.prog w = .ok (.value (.slice (some ⟨w.heap.size, 0, none⟩) 1 1)) (w.alloc (.cells cs' 22)) := by
    unfold execOp
    simp only [ho, List.map_toArray, List.map_cons, List.map_nil, hue, Sem.run_bind, hrun0, Result.andThen_ok]
    rfl
  rw [hrun]
  have he := Ext.push hi (.cells cs' 22)
  refine hK _ _ (M.put σ.length (w.heap.size, 0)) ?_ he (Inv.push hi ⟨w.heap.size, _, 22, Map.put_same _ _ _, alloc_new _ _, ?_, fun j y hj => ?_⟩)
  · refine .ms 1 σ.length 0 0 1 1 w.heap.size 1 _ 22 (Map.put_same _ _ _) (Nat.le_refl _) (Nat.le_refl _) (alloc_new _ _) ?_
    rw [e3]; simp
  · rw [e3]; simp
  · exact (e2.2 j y hj).mono he
end Go.Proofs.YtjljigccgaadaaaDoor.Am

namespace Go.Proofs.YtjljigccgaadaaaDoor.Am
open Go
set_option maxRecDepth 100000

/-- A hint for some operations only. -/
def hIf (sel : Oper → (Operand → Option AV) → Bool) (t : Heap → Oper → (Operand → Option AV) → Option (AV × Bool × Heap × Prop)) : Heap → Oper → (Operand → Option AV) → Option (AV × Bool × Heap × Prop) := fun h o ρ => match sel o ρ with
  | true => t h o ρ
  | false => none
theorem HintOk.sel {sel : Oper → (Operand → Option AV) → Bool} {t : Heap → Oper → (Operand → Option AV) → Option (AV × Bool × Heap × Prop)} (h : HintOk Tryd.prog G0 t) : HintOk Tryd.prog G0 (hIf sel t) := by
  refine ⟨fun h0 o a mk y s' h' p hh hp => ?_, fun h0 o ρ y s' h' p hh hp hq => ?_⟩
  · unfold hIf at hh
    split at hh
    · exact h.step _ _ _ _ _ _ _ _ hh hp
    · cases hh
  · unfold hIf at hh
    split at hh
    · exact h.quiet _ _ _ _ _ _ _ hh hp hq
    · cases hh
def isMx : AV → Bool
  | .mx _ _ _ _ _ _ => true
  | _ => false
/-- Copies, told apart by whether the room of the target and of the source is known. -/
def selC (pd ps : Bool) : Oper → (Operand → Option AV) → Bool := fun o ρ => match o.op with
  | .call { callee := .builtin .copy, args := args, .. } => match evAllR ρ args.toList with
    | some [d, s] => (isMx d == pd) && (isMx s == ps)
    | _ => false
  | _ => false
/-- A bound of a part. -/
def bV : Option AV → Nat → Nat
  | none, d => d
  | some (.int _ n), _ => n.toNat
  | _, _ => 0
def bP : Option AV → Prop
  | none => True
  | some (.int _ n) => 0 ≤ n
  | _ => False
def slP (lo hi : Option AV) (len cap : Nat) : Prop := bP lo ∧ bP hi ∧ bV lo 0 ≤ bV hi len ∧ bV hi len ≤ cap ∧ len ≤ cap ∧ cap ≠ bV lo 0
/-- Parts of own slices of lists. -/
def hSlG : Heap → Oper → (Operand → Option AV) → Option (AV × Bool × Heap × Prop) := fun h o ρ => match o.op with
  | .slice 29 x a b none => match evOptR ρ a, evOptR ρ b, ρ x with
    | some lo, some hi, some (.mx 1 r g off len cap) => some (.mx 1 r g (off + bV lo 0) (bV hi len - bV lo 0) (cap - bV lo 0), true, h, slP lo hi len cap)
    | some lo, some hi, some (.ms 1 r g off len cap) => some (.ms 1 r g (off + bV lo 0) (bV hi len - bV lo 0) (cap - bV lo 0), true, h, slP lo hi len cap ∧ (objAt h r g).isSome = true)
    | _, _, _ => none
  | _ => none
theorem bnd_lo {lo : Option AV} {d : Nat} : bP lo → ∀ m, bV lo d ≤ m → (match lo with | some v => aBound v m | none => some d) = some (bV lo d) := by
  intro h m hm
  cases lo with
  | none => rfl
  | some q =>
    cases q <;> first | exact False.elim h | skip
    rename_i k n
    have h2 : 0 ≤ n := h
    have e : bV (some (.int k n)) d = n.toNat := rfl
    rw [e] at hm ⊢
    have hc : 0 ≤ n ∧ n ≤ m := ⟨h2, by omega⟩
    simp only [aBound, hc, and_self, if_true]
theorem bounds_of {len cap l u : Nat} {lo hi : Option AV} (h1 : (match hi with | some v => aBound v cap | none => some len) = some u) (h2 : (match lo with | some v => aBound v u | none => some 0) = some l) : aBounds len cap lo hi none = some (l, u, cap) := by
  unfold aBounds
  cases hi with
  | none => cases h1; cases lo with
    | none => cases h2; rfl
    | some v => simp only at h2 ⊢; rw [h2]
  | some v =>
    simp only at h1 ⊢
    rw [h1]
    cases lo with
    | none => cases h2; rfl
    | some v' => simp only at h2 ⊢; rw [h2]
theorem slice_ms29 {h : Heap} {r g off len cap l u : Nat} {lo hi : Option AV} (ho : (objAt h r g).isSome = true) (hl : len ≤ cap) (hb : aBounds len cap lo hi none = some (l, u, cap)) (hne : cap ≠ l) :
    aSlice Tryd.prog h 29 (.ms 1 r g off len cap) lo hi none = some (.ms 1 r g (off + l) (u - l) (cap - l)) := by
  obtain ⟨ie, zx, h1, h2, h3, h4, h5, h6⟩ := el29.i
  unfold aSlice
  rw [Tryd.underlying29]
  simp only [h1, hb, h3, hl, ho, and_self, if_true, hne, if_false, Nat.mul_one]
theorem hSlG_ok : HintOk Tryd.prog G0 hSlG := by
  obtain ⟨ie, zx, h1, h2, h3, h4, h5, h6⟩ := el29.i
  refine ⟨fun h o a mk y s' h' p hh hp => ?_, fun h o ρ y s' h' p hh hp hq => ?_⟩
  · unfold hSlG at hh
    split at hh
    · rename_i x a' b' ho
      split at hh
      · rename_i lo hi r g off len cap l1 u1 hx
        cases hh
        obtain ⟨p1, p2, p3, p4, p5, p6⟩ := hp
        have l2 := bnd_lo (d := 0) p1
        have u2 := bnd_lo (d := len) p2
        exact (hSlM_ok (P := Tryd.prog) (G := G0) Tryd.underlying29 h1 h3 a'.isSome b'.isSome r g off len cap lo hi (bV lo 0) (bV hi len)).step h o a mk _ true h (ev G0 a x = some (.mx 1 r g off len cap) ∧ evOptR (ev G0 a) a' = some lo ∧ evOptR (ev G0 a) b' = some hi ∧ len ≤ cap ∧ aBounds len cap lo hi none = some (bV lo 0, bV hi len, cap) ∧ cap ≠ bV lo 0)
          (by unfold hSlM; rw [ho]; simp only [Nat.beq_refl, beq_self_eq_true, Bool.and_self]) ⟨hx, l1, u1, p5, bounds_of (u2 cap p4) (l2 _ p3), p6⟩
      · rename_i lo hi r g off len cap l1 u1 hx
        cases hh
        obtain ⟨⟨p1, p2, p3, p4, p5, p6⟩, p7⟩ := hp
        have l2 := bnd_lo (d := 0) p1
        have u2 := bnd_lo (d := len) p2
        refine .op ?_
        rw [aopR_eq]
        unfold aopR
        have hn : evOptR (ev G0 a) none = some none := rfl
        simp only [ho, hx, l1, u1, hn, slice_ms29 p7 p5 (bounds_of (u2 cap p4) (l2 _ p3)) p6, Option.map_some]
      · cases hh
    · cases hh
  · unfold hSlG at hh
    split at hh
    · split at hh
      · cases hh; rfl
      · cases hh; rfl
      · cases hh
    · cases hh
/-- A part of a list of lists, told beforehand. -/
def hSlT (fl fh fm : Bool) (v : AV) (lo hi mx : Option AV) (y : AV) : Heap → Oper → (Operand → Option AV) → Option (AV × Bool × Heap × Prop) := fun h o ρ => match o.op with
  | .slice t x l u m => match (l.isSome == fl) && (u.isSome == fh) && (m.isSome == fm) with
    | true => some (y, true, h, t = 29 ∧ ρ x = some v ∧ evOptR ρ l = some lo ∧ evOptR ρ u = some hi ∧ evOptR ρ m = some mx ∧ aSlice Tryd.prog h 29 v lo hi mx = some y)
    | false => none
  | _ => none
theorem hSlT_ok (fl fh fm : Bool) (v : AV) (lo hi mx : Option AV) (y : AV) : HintA Tryd.prog (hSlT fl fh fm v lo hi mx y) := by
  intro h o ρ y' s h' p hh hp
  unfold hSlT at hh
  split at hh
  · rename_i t x l u m ho
    split at hh
    · cases hh
      obtain ⟨rfl, p1, p2, p3, p4, p5⟩ := hp
      unfold aopR
      simp only [ho, p1, p2, p3, p4, p5, Option.map_some]
    · cases hh
  · cases hh
theorem slice_end29 {h : Heap} {r g n : Nat} (ho : (objAt h r g).isSome = true) : aSlice Tryd.prog h 29 (.ms 1 r g 0 n n) (some (I n)) none none = some (.sl 1 []) := by
  obtain ⟨ie, zx, h1, h2, h3, h4, h5, h6⟩ := el29.i
  have hb : aBounds n n (some (I n)) none none = some (n, n, n) := by
    unfold aBounds
    simp only [bound_nat (Nat.le_refl n)]
  unfold aSlice
  rw [Tryd.underlying29]
  simp only [h1, hb, h3, Nat.le_refl, ho, and_self, if_true]
  simp
/-- The part of a tree behind these branches. -/
def br {α : Type} : Tree α → List Bool → Tree α
  | t, [] => t
  | .need _ x, b :: l => br x (b :: l)
  | .ite _ x y, b :: l => match b with
    | true => br x l
    | false => br y l
  | t, _ => t
end Go.Proofs.YtjljigccgaadaaaDoor.Am

namespace Go.Proofs.YtjljigccgaadaaaDoor.Am
open Go
set_option maxRecDepth 100000

/-- A part of an own slice. -/
def prt (lo hi : Option AV) : AV → AV
  | .mx s r g off len cap => .mx s r g (off + bV lo 0) (bV hi len - bV lo 0) (cap - bV lo 0)
  | .ms s r g off len cap => .ms s r g (off + bV lo 0) (bV hi len - bV lo 0) (cap - bV lo 0)
  | x => x
def wI (i : Nat) : AV := .int .i64 (IntKind.i64.wrap ((i : Int) + (1 : Nat)))
def E75A (v s' : AV) (h h1 : Heap) : Env := { hint := orH (hCap 29) (hApp 29 .zs v s' h h1) }
def E75B (s v s' : AV) (n : Nat) (h h1 : Heap) : Env := { hint := orH (hSlT true false false s (some (I n)) none none (.sl 1 [])) (orH (hCap 29) (hApp 29 s v s' h h1)) }
def E75C (d1 s1 d2 v : AV) (r g N n i : Nat) (c1 xs1 c2 : List AV) (x : AV) (h h1 : Heap) : Env := { hint := orH (hCap 29) (orH hSlG (orH (hIf (selC true true) (hCopy 29 d1 s1 r g (i + 1) (n - i) (n - i) c1 xs1 h)) (orH (hIf (selC true false) (hCopy 29 d2 v r g i (n + 1 - i) 1 c2 [x] h1)) (hOvl v d1 h N r)))) }
def E75D (d1 s1 d2 v zx : AV) (r g n i cap R : Nat) (xs xs1 c1 c2 : List AV) (x : AV) (h h1 h2 : Heap) : Env := { hint := orH (hCap 29) (orH hSlG (orH (hZer 29 3 r g i cap (n + 1 - i) xs zx h) (orH (hIf (selC false false) (hCopy 29 d1 v R 0 i (n + 1 - i) 1 c1 [x] h1)) (hIf (selC false true) (hCopy 29 d2 s1 R 0 (i + 1) (n - i) (n - i) c2 xs1 h2))))) }
/-- The needs of a copy. -/
def cpP (d s : AV) (r g off len n : Nat) (c xs : List AV) (h0 h : Heap) (ds ss : AV) : Prop := h = h0 ∧ some [ds, ss] = some [d, s] ∧ #[29, 29] = #[29, 29] ∧ (∃ cap, d = .ms 1 r g off len cap ∨ d = .mx 1 r g off len cap) ∧ objAt h0 r g = some c ∧ (∃ m, contsX h0 s = some (m, xs) ∧ n = min m len) ∧ off + n ≤ c.length ∧ (xs.take n).all AV.one = true

theorem run75A (N : Nat) (v' : AV) (h h1 : Heap) : xCall Tryd.prog G0 (E75A (.ms 1 N 0 0 1 1) v' h h1) 200 75 [.zs, I 0, .ms 1 N 0 0 1 1] [true, true, true] h =
    .ite (((1 : Nat) : Int) == 0) (.leaf (.zs, true, h)) (.ite ((0 : Int) == 0) (.need (some [AV.zs, AV.ms 1 N 0 0 1 1] = some [AV.zs, AV.ms 1 N 0 0 1 1] ∧ #[29, 29] = #[29, 29] ∧ h = h ∧ aAppend Tryd.prog h 29 29 .zs (.ms 1 N 0 0 1 1) = some (v', h1)) (.leaf (v', true, h1)))
      (br (xCall Tryd.prog G0 (E75A (.ms 1 N 0 0 1 1) v' h h1) 200 75 [.zs, I 0, .ms 1 N 0 0 1 1] [true, true, true] h) [false, false])) := by kernel_rfl
theorem run75B (N n r g : Nat) (v' : AV) (h h1 : Heap) : xCall Tryd.prog G0 (E75B (.ms 1 r g 0 n n) (.ms 1 N 0 0 1 1) v' n h h1) 200 75 [.ms 1 r g 0 n n, I n, .ms 1 N 0 0 1 1] [true, true, true] h =
    .need (29 = 29 ∧ some (AV.ms 1 r g 0 n n) = some (.ms 1 r g 0 n n) ∧ some (some (I n)) = some (some (I n)) ∧ some none = some (none : Option AV) ∧ some none = some (none : Option AV) ∧ aSlice Tryd.prog h 29 (.ms 1 r g 0 n n) (some (I n)) none none = some (.sl 1 []))
    (.ite (((1 : Nat) : Int) == 0) (.leaf (.ms 1 r g 0 n n, true, h)) (.ite ((n : Int) == n) (.need (some [AV.ms 1 r g 0 n n, .ms 1 N 0 0 1 1] = some [AV.ms 1 r g 0 n n, .ms 1 N 0 0 1 1] ∧ #[29, 29] = #[29, 29] ∧ h = h ∧ aAppend Tryd.prog h 29 29 (.ms 1 r g 0 n n) (.ms 1 N 0 0 1 1) = some (v', h1)) (.leaf (v', true, h1)))
      (br (xCall Tryd.prog G0 (E75B (.ms 1 r g 0 n n) (.ms 1 N 0 0 1 1) v' n h h1) 200 75 [.ms 1 r g 0 n n, I n, .ms 1 N 0 0 1 1] [true, true, true] h) [false, false]))) := by kernel_rfl
theorem run75C (N n i r g cap : Nat) (d1 s1 d2 v x : AV) (c1 xs1 c2 : List AV) (h h1 : Heap) : xCall Tryd.prog G0 (E75C d1 s1 d2 v r g N n i c1 xs1 c2 x h h1) 200 75 [.mx 1 r g 0 n cap, I i, .ms 1 N 0 0 1 1] [true, true, true] h =
    .need (slP (some (I i)) none n cap) (.ite (((1 : Nat) : Int) == 0) (.leaf (.mx 1 r g 0 n cap, true, h)) (.need (#[29] = #[29]) (.ite ((i : Int) == n)
      (br (xCall Tryd.prog G0 (E75C d1 s1 d2 v r g N n i c1 xs1 c2 x h h1) 200 75 [.mx 1 r g 0 n cap, I i, .ms 1 N 0 0 1 1] [true, true, true] h) [false, true])
    (.need (#[29] = #[29]) (.ite (decide (IntKind.i64.wrap ((n : Int) + (1 : Nat)) > cap))
      (br (xCall Tryd.prog G0 (E75C d1 s1 d2 v r g N n i c1 xs1 c2 x h h1) 200 75 [.mx 1 r g 0 n cap, I i, .ms 1 N 0 0 1 1] [true, true, true] h) [false, false, true])
    (.need (slP none (some (wI n)) n cap) (.need (slP (some (wI i)) none (bV (some (wI n)) n - bV none 0) (cap - bV none 0))
    (.need (h = h ∧ some [AV.ms 1 N 0 0 1 1, prt (some (wI i)) none (prt none (some (wI n)) (.mx 1 r g 0 n cap))] = some [v, d1] ∧ N ≠ r ∧ (∃ c, objAt h N 0 = some c) ∧ (∃ g c, objAt h r g = some c ∧ 0 < c.length ∧ ∃ off len cap, d1 = .mx 1 r g off len cap) ∧ ∃ len cap, v = .ms 1 N 0 0 len cap)
    (.ite (!false) (.need (slP (some (wI i)) none (bV (some (wI n)) n - bV none 0) (cap - bV none 0)) (.need (slP (some (I i)) none (bV (some (wI n)) n - bV none 0) (cap - bV none 0))
    (.need (cpP d1 s1 r g (i + 1) (n - i) (n - i) c1 xs1 h h (prt (some (wI i)) none (prt none (some (wI n)) (.mx 1 r g 0 n cap))) (prt (some (I i)) none (prt none (some (wI n)) (.mx 1 r g 0 n cap))))
    (.need (slP (some (I i)) none (bV (some (wI n)) n - bV none 0) (cap - bV none 0)) (.need (cpP d2 v r g i (n + 1 - i) 1 c2 [x] h1 (h.set r (.cells g (setL c1 (i + 1) (xs1.take (n - i))))) (prt (some (I i)) none (prt none (some (wI n)) (.mx 1 r g 0 n cap))) (.ms 1 N 0 0 1 1))
    (.leaf (prt none (some (wI n)) (.mx 1 r g 0 n cap), true, h1.set r (.cells g (setL c2 i ([x].take 1))))))))))
      (br (xCall Tryd.prog G0 (E75C d1 s1 d2 v r g N n i c1 xs1 c2 x h h1) 200 75 [.mx 1 r g 0 n cap, I i, .ms 1 N 0 0 1 1] [true, true, true] h) [false, false, false, false])
    ))))))))) := by kernel_rfl
theorem run75D (N n i r g cap R : Nat) (d1 s1 d2 v x zx : AV) (xs xs1 c1 c2 : List AV) (h h1 h2 : Heap) : xCall Tryd.prog G0 (E75D d1 s1 d2 v zx r g n i cap R xs xs1 c1 c2 x h h1 h2) 200 75 [.mx 1 r g 0 n cap, I i, .ms 1 N 0 0 1 1] [true, true, true] h =
    .need (slP (some (I i)) none n cap) (.ite (((1 : Nat) : Int) == 0) (.leaf (.mx 1 r g 0 n cap, true, h)) (.need (#[29] = #[29]) (.ite ((i : Int) == n)
      (br (xCall Tryd.prog G0 (E75D d1 s1 d2 v zx r g n i cap R xs xs1 c1 c2 x h h1 h2) 200 75 [.mx 1 r g 0 n cap, I i, .ms 1 N 0 0 1 1] [true, true, true] h) [false, true])
    (.need (#[29] = #[29]) (.ite (decide (IntKind.i64.wrap ((n : Int) + (1 : Nat)) > cap))
    (.need (slP none (some (I i)) n cap) (.need (h = h ∧ some [prt none (some (I i)) (.mx 1 r g 0 n cap), .int .i64 (IntKind.i64.wrap (IntKind.i64.wrap ((n : Int) + (1 : Nat)) - i))] = some [.mx 1 r g 0 i cap, .int .i64 (n + 1 - i : Nat)] ∧ #[29, 3] = #[29, 3] ∧ contsX h (.mx 1 r g 0 i cap) = some (i, xs) ∧ 0 < n + 1 - i ∧ ¬ i + (n + 1 - i) ≤ cap ∧ i + (n + 1 - i) ≤ 16777216)
    (.need (slP (some (I i)) none (i + (n + 1 - i)) (i + (n + 1 - i)) ∧ (objAt (h ++ [.cells 0 (xs ++ List.replicate (n + 1 - i) zx)]) h.length 0).isSome = true)
    (.need (cpP d1 v R 0 i (n + 1 - i) 1 c1 [x] h1 (h ++ [.cells 0 (xs ++ List.replicate (n + 1 - i) zx)]) (prt (some (I i)) none (.ms 1 h.length 0 0 (i + (n + 1 - i)) (i + (n + 1 - i)))) (.ms 1 N 0 0 1 1))
    (.need (slP (some (wI i)) none (i + (n + 1 - i)) (i + (n + 1 - i)) ∧ (objAt (h1.set R (.cells 0 (setL c1 i ([x].take 1)))) h.length 0).isSome = true) (.need (slP (some (I i)) none n cap)
    (.need (cpP d2 s1 R 0 (i + 1) (n - i) (n - i) c2 xs1 h2 (h1.set R (.cells 0 (setL c1 i ([x].take 1)))) (prt (some (wI i)) none (.ms 1 h.length 0 0 (i + (n + 1 - i)) (i + (n + 1 - i)))) (prt (some (I i)) none (.mx 1 r g 0 n cap)))
    (.leaf (.ms 1 h.length 0 0 (i + (n + 1 - i)) (i + (n + 1 - i)), true, h2.set R (.cells 0 (setL c2 (i + 1) (xs1.take (n - i)))))))))))))
      (br (xCall Tryd.prog G0 (E75D d1 s1 d2 v zx r g n i cap R xs xs1 c1 c2 x h h1 h2) 200 75 [.mx 1 r g 0 n cap, I i, .ms 1 N 0 0 1 1] [true, true, true] h) [false, false, false])
    ))))) := by kernel_rfl
end Go.Proofs.YtjljigccgaadaaaDoor.Am

