/-
  This file proves nothing of a law. It holds lemmas, of 12 texts in their order. No condition of its own.
-/
import Derived.Test.YtjljigccgaadaaaDoorMg7
import Derived.Test.YtjljigccgaadaaaDoorMg6
namespace Go.Proofs.YtjljigccgaadaaaDoor.Am
open Go
section
variable {P : Program} {G : Nat → Option (List AV)}

/-- The walk in the order of the text. -/
inductive AOpsM (P : Program) (G : Nat → Option (List AV)) (H : (Nat → Bool) → Heap) (ops : List Oper) (marks : List Nat) : Nat → List Oper → List AV → List AV → Prop where
  | nil (n : Nat) (a : List AV) : AOpsM P G H ops marks n [] a a
  | step {n : Nat} {o : Oper} {rest : List Oper} {a a' : List AV} {y : AV} (h : WorthM P G H ops marks n o (masked (o.looksAt ops.toArray) a) y) (k : AOpsM P G H ops marks (n + 1) rest (AAct.put { tmps := a } o.dst y).tmps a') : AOpsM P G H ops marks n (o :: rest) a a'
/-- The walk gives a value to each operation. -/
theorem AOpsM.vals {H : (Nat → Bool) → Heap} {ops : List Oper} {marks : List Nat} (hap : Apart ops) {a0 : List AV} : ∀ {n : Nat} {l : List Oper} {a a' : List AV}, AOpsM P G H ops marks n l a a' → ∀ (pre : List AV), pre.length = n → pre.length + l.length ≤ ops.length →
    (∀ k, k < l.length → l[k]? = ops[pre.length + k]?) → a.length = a0.length → (∀ t, a[t]? = frameAt ops pre a0 (fun j => decide (j < pre.length)) t) →
    ∃ vs : List AV, vs.length = pre.length + l.length ∧ (∀ i, i < pre.length → vs[i]? = pre[i]?) ∧ a'.length = a0.length ∧ (∀ t, a'[t]? = frameAt ops vs a0 (fun j => decide (j < vs.length)) t) ∧
      ∀ i o, pre.length ≤ i → i < vs.length → ops[i]? = some o → ∃ (v : List AV) (y : AV), vs[i]? = some y ∧ v.length = a0.length ∧ WorthM P G H ops marks i o v y ∧
        ∀ t x, v[t]? = some x → x = .junk ∨ ((o.looksAt ops.toArray).contains t = true ∧ frameAt ops vs a0 (fun j => decide (j < i)) t = some x) := by
  intro n l a a' h
  have main : ∀ {n : Nat} {o : Oper} {rest : List Oper} {a a' : List AV} {y : AV}, WorthM P G H ops marks n o (masked (o.looksAt ops.toArray) a) y →
      (∀ (pre : List AV), pre.length = n + 1 → pre.length + rest.length ≤ ops.length →
        (∀ k, k < rest.length → rest[k]? = ops[pre.length + k]?) → (AAct.put { tmps := a } o.dst y).tmps.length = a0.length → (∀ t, (AAct.put { tmps := a } o.dst y).tmps[t]? = frameAt ops pre a0 (fun j => decide (j < pre.length)) t) →
        ∃ vs : List AV, vs.length = pre.length + rest.length ∧ (∀ i, i < pre.length → vs[i]? = pre[i]?) ∧ a'.length = a0.length ∧ (∀ t, a'[t]? = frameAt ops vs a0 (fun j => decide (j < vs.length)) t) ∧
          ∀ i o, pre.length ≤ i → i < vs.length → ops[i]? = some o → ∃ (v : List AV) (y : AV), vs[i]? = some y ∧ v.length = a0.length ∧ WorthM P G H ops marks i o v y ∧
            ∀ t x, v[t]? = some x → x = .junk ∨ ((o.looksAt ops.toArray).contains t = true ∧ frameAt ops vs a0 (fun j => decide (j < i)) t = some x)) →
      ∀ (pre : List AV), pre.length = n → pre.length + (o :: rest).length ≤ ops.length →
        (∀ k, k < (o :: rest).length → (o :: rest)[k]? = ops[pre.length + k]?) → a.length = a0.length → (∀ t, a[t]? = frameAt ops pre a0 (fun j => decide (j < pre.length)) t) →
        ∃ vs : List AV, vs.length = pre.length + (o :: rest).length ∧ (∀ i, i < pre.length → vs[i]? = pre[i]?) ∧ a'.length = a0.length ∧ (∀ t, a'[t]? = frameAt ops vs a0 (fun j => decide (j < vs.length)) t) ∧
          ∀ i o, pre.length ≤ i → i < vs.length → ops[i]? = some o → ∃ (v : List AV) (y : AV), vs[i]? = some y ∧ v.length = a0.length ∧ WorthM P G H ops marks i o v y ∧
            ∀ t x, v[t]? = some x → x = .junk ∨ ((o.looksAt ops.toArray).contains t = true ∧ frameAt ops vs a0 (fun j => decide (j < i)) t = some x) := by
    intro n o rest a a' y hwo ih pre hb hlen hl hal ha
    subst hb
    simp only [List.length_cons] at hlen hl
    have ho : ops[pre.length]? = some o := by have := hl 0 (by omega); simpa using this.symm
    have key := ih (pre ++ [y]) (by simp) (by simp; omega) (fun k hk => by have := hl (k + 1) (by omega); simp only [List.getElem?_cons_succ] at this; rw [this]; congr 1; simp; omega) (by rw [put_length]; exact hal) (fun t => ?_)
    · obtain ⟨vs, h1, h2, h3, h4, h5⟩ := key
      simp only [List.length_append, List.length_singleton] at h1 h2
      refine ⟨vs, by rw [h1]; simp; omega, fun i hi => ?_, h3, h4, fun i o' hi hi' ho' => ?_⟩
      · rw [h2 i (by omega), List.getElem?_append_left hi]
      · by_cases hie : i = pre.length
        · subst hie
          rw [ho] at ho'
          cases ho'
          refine ⟨masked (o.looksAt ops.toArray) a, y, ?_, by simp [masked, hal], hwo, fun t x hx => ?_⟩
          · rw [h2 _ (by omega)]; simp
          · simp only [masked, List.getElem?_mapIdx, Option.map_eq_some_iff] at hx
            obtain ⟨x0, hx0, rfl⟩ := hx
            split
            · rename_i hc
              refine .inr ⟨hc, ?_⟩
              rw [ha t] at hx0
              rw [← hx0]
              exact frameAt_congr fun j _ => ⟨rfl, fun hj => by
                have hj := of_decide_eq_true hj
                rw [h2 j (by omega), List.getElem?_append_left hj]⟩
            · exact .inl rfl
        · exact h5 i o' (by simp; omega) hi' ho'
    · rw [put_get]
      by_cases hd : o.dst = some t
      · rw [if_pos hd]
        have hdj : dstAt ops pre.length = some t := by unfold dstAt; rw [ho]; exact hd
        rw [frameAt_of hap hdj]
        simp [hal]
      · rw [if_neg hd, ha t]
        refine frameAt_congr fun j hj => ?_
        have hne : j ≠ pre.length := fun e => by
          subst e
          unfold dstAt at hj
          rw [ho] at hj
          exact hd hj
        refine ⟨?_, fun hl => ?_⟩
        · apply decide_eq_decide.2
          simp only [List.length_append, List.length_singleton]
          omega
        · have hl := of_decide_eq_true hl
          rw [List.getElem?_append_left hl]
  induction h with
  | nil n a =>
    intro pre hb hlen _ hal ha
    refine ⟨pre, rfl, fun _ _ => rfl, hal, fun t => by rw [ha t], fun i o hi hi' ho => ?_⟩
    omega
  | step hw _ ih => exact main hw ih

theorem AOpsM.draw {R : Option Nat → Prop} {id : Nat} {H : (Nat → Bool) → Heap} {ops : List Oper} {marks : List Nat} {a a' : List AV} (hm : P.follows .mixedOrders = true) (hd : okDraw ops = true) (hc : okStill ops 0 ops.length = true) (h : AOpsM P G H ops marks 0 ops a a') :
    AExec P G R (.region id ops.toArray true) { tmps := a, marks := marks } (H fun _ => false) .normal { tmps := a', marks := marks } (H fun j => decide (j < ops.length)) := by
  obtain ⟨vs, h1, _, h3, h4, h5⟩ := h.vals (okDraw_apart hd) (a0 := a) [] rfl (by simp) (fun k _ => by simp) rfl (fun t => by
    unfold frameAt
    split <;> simp)
  simp only [List.length_nil, Nat.zero_add] at h1
  refine AExec.drawM (vs := vs) hm hd hc (fun i o ho => h5 i o (Nat.zero_le i) (by rw [h1]; exact (List.getElem?_eq_some_iff.1 ho).1) ho) h3 fun t x ht => .inr ?_
  rw [h4 t, h1] at ht
  exact ht
end
/-! ### The machine -/
/-- How many of Q are carried out. -/
def nQ (Q : List Nat) (f : Nat → Bool) : Nat := (Q.filter f).length
/-- How many of Q may be carried out when the i-th operation's turn comes. -/
def rngM (ops : List Oper) (Q : List Nat) (i : Nat) : List Nat :=
  (List.range (Q.length + 1)).filter fun c => Nat.ble (nQ Q fun q => ((befores ops []).getD i 0).testBit q) c && Nat.ble c (nQ Q fun q => !Nat.beq q i && !((befores ops []).getD q 0).testBit i)
def upM (Q : List Nat) (i c : Nat) : Nat := match Q.contains i with
  | true => c + 1
  | false => c
theorem nQ_mono {f g : Nat → Bool} : ∀ (Q : List Nat), (∀ q ∈ Q, f q = true → g q = true) → nQ Q f ≤ nQ Q g
  | [], _ => Nat.le_refl _
  | q :: r, h => by
    have ih := nQ_mono (f := f) (g := g) r fun x hx => h x (by simp [hx])
    unfold nQ at ih ⊢
    rw [List.filter_cons, List.filter_cons]
    cases hf : f q with
    | false =>
      simp only [Bool.false_eq_true, if_false]
      split
      · simp only [List.length_cons]; omega
      · exact ih
    | true =>
      rw [h q (by simp) hf]
      simp only [if_true, List.length_cons]
      omega
theorem nQ_le (Q : List Nat) (f : Nat → Bool) : nQ Q f ≤ Q.length := List.length_filter_le _ _
theorem nQ_up {f : Nat → Bool} {i : Nat} (hi : f i = false) : ∀ (Q : List Nat), Q.Nodup → nQ Q (fun j => decide (j = i) || f j) = upM Q i (nQ Q f)
  | [], _ => rfl
  | q :: r, h => by
    have ih := nQ_up hi r (List.nodup_cons.1 h).2
    have hq := (List.nodup_cons.1 h).1
    unfold nQ upM at ih ⊢
    rw [List.filter_cons, List.filter_cons, List.contains_cons]
    by_cases he : q = i
    · subst he
      have hc : r.contains q = false := by
        rw [← Bool.not_eq_true, List.contains_iff_mem]
        exact hq
      rw [hc] at ih
      simp only [decide_true, Bool.true_or, if_true, hi, Bool.false_eq_true, if_false, List.length_cons, ih, beq_self_eq_true]
    · have hb : (i == q) = false := beq_false_of_ne fun h => he h.symm
      simp only [he, decide_false, Bool.false_or, hb]
      cases hf : f q with
      | true =>
        simp only [if_true, List.length_cons, ih]
        cases r.contains i <;> rfl
      | false =>
        simp only [Bool.false_eq_true, if_false, ih]
section
variable (P : Program) (G : Nat → Option (List AV)) (E : Env)
def xAgree (call : CallT) (hs : Nat → Heap) (Q : List Nat) (ρ : Operand → Option AV) (st : St) (o : Oper) (i : Nat) (y : AV) : List Nat → Tree St → Tree St
  | [], k => k
  | c :: cs, k => (xstep P E call ρ { st with h := hs c } o).bind fun q => .need (q.1 = y ∧ q.2.2 = hs (upM Q i c)) (xAgree call hs Q ρ st o i y cs k)
def xMoveL (call : CallT) (hs : Nat → Heap) (ops : List Oper) (Q : List Nat) : Nat → List Oper → St → Tree St
  | _, [], st => .leaf st
  | i, o :: r, st => xguard ops.toArray st o fun b st' =>
    match b with
    | true =>
      match rngM ops Q i with
      | [] => .fail
      | c :: cs => (xstep P E call (st'.evM G (o.looksAt ops.toArray)) { st' with h := hs c } o).bind fun q => .need (q.2.2 = hs (upM Q i c)) (xAgree P E call hs Q (st'.evM G (o.looksAt ops.toArray)) st' o i q.1 cs (xMoveL call hs ops Q (i + 1) r (st'.put o.dst q.1 q.2.1 st'.h)))
    | false =>
      match Q.contains i with
      | true => .fail
      | false => xMoveL call hs ops Q (i + 1) r (st'.put o.dst (.tup []) false st'.h)
/-- The statement, carried out; the heap at its head is hs 0. -/
def xMove (call : CallT) (hs : Nat → Heap) (ops : List Oper) (Q : List Nat) (st : St) : Tree St :=
  match okDraw ops && okStill ops 0 ops.length && decide Q.Nodup && Q.all fun q => Nat.blt q ops.length with
  | true => .need (st.h = hs 0) ((xMoveL P G E call hs ops Q 0 ops st).bind fun st' => .leaf { st' with h := hs Q.length })
  | false => .fail
end
section
variable {P : Program} {G : Nat → Option (List AV)} {E : Env}
theorem xAgree_ok {call : CallT} (hcl : ClOk P G E) (hcall : CallOk P G call) {hs : Nat → Heap} {Q : List Nat} {a : List AV} {m : List Nat} {st : St} {o : Oper} {i : Nat} {y : AV} {k : Tree St} {r : St} : ∀ (cs : List Nat), (xAgree P E call hs Q (ev G a) st o i y cs k).sel = some r →
    (∀ c ∈ cs, AStep P G { tmps := a, marks := m } (hs c) o y (hs (upM Q i c))) ∧ k.sel = some r
  | [], h => ⟨fun _ hc => (by cases hc), h⟩
  | c :: cs, h => by
    unfold xAgree at h
    obtain ⟨⟨y2, s2, h2⟩, h3, h4⟩ := Tree.of_bind h
    obtain ⟨⟨h5, h6⟩, h7⟩ := Tree.of_need h4
    simp only at h5 h6
    subst h5 h6
    have hs1 := xstep_ok (m := m) hcl hcall h3
    obtain ⟨h8, h9⟩ := xAgree_ok hcl hcall cs h7
    refine ⟨fun c' hc' => ?_, h9⟩
    rcases List.mem_cons.1 hc' with rfl | hc'
    · exact hs1
    · exact h8 c' hc'
theorem in_rng {ops : List Oper} {Q : List Nat} {i : Nat} {o : Oper} (ho : ops[i]? = some o) (hQ : ∀ q ∈ Q, q < ops.length) {f : Nat → Bool} (hc : Closed ops f) (hu : f i = false) (hp : ∀ e ∈ o.after, Region.binds .any e = true → f e.on = true) : nQ Q f ∈ rngM ops Q i := by
  unfold rngM
  refine List.mem_filter.2 ⟨List.mem_range.2 (by have := nQ_le Q f; omega), ?_⟩
  rw [Bool.and_eq_true, Nat.ble_eq, Nat.ble_eq]
  refine ⟨nQ_mono Q fun q _ hb => befores_of ho hc hp hb, nQ_mono Q fun q hq hb => ?_⟩
  have hqi : Nat.beq q i = false := by
    cases he : Nat.beq q i with
    | false => rfl
    | true =>
      rw [Nat.eq_of_beq_eq_true he, hu] at hb
      cases hb
  rw [hqi]
  cases hm : ((befores ops []).getD q 0).testBit i with
  | false => rfl
  | true =>
    obtain ⟨oq, hoq⟩ : ∃ oq, ops[q]? = some oq := ⟨_, List.getElem?_eq_getElem (hQ q hq)⟩
    have := befores_of hoq hc (fun e he hbd => hc q oq hoq hb e he hbd) hm
    rw [hu] at this; cases this
theorem xMoveL_ok {call : CallT} (hcl : ClOk P G E) (hcall : CallOk P G call) {hs : Nat → Heap} {ops : List Oper} {Q : List Nat} (hn : Q.Nodup) (hQ : ∀ q ∈ Q, q < ops.length) {m : List Nat} : ∀ (l : List Oper) (i : Nat) (st st' : St), (∀ k, k < l.length → l[k]? = ops[i + k]?) → (xMoveL P G E call hs ops Q i l st).sel = some st' →
    AOpsM P G (fun f => hs (nQ Q f)) ops m i l st.a st'.a ∧ st'.n = st.n
  | [], i, st, st', _, h => by cases h; exact ⟨.nil _ _, rfl⟩
  | o :: r, i, st, st', hl, h => by
    have ho : ops[i]? = some o := by have := hl 0 (by simp); simpa using this.symm
    have hlr : ∀ k, k < r.length → r[k]? = ops[i + 1 + k]? := fun k hk => by
      have := hl (k + 1) (by simp; omega)
      simp only [List.getElem?_cons_succ] at this
      rw [this]; congr 1; omega
    unfold xMoveL at h
    obtain ⟨b, st1, h1, h2, h3, hw, hk⟩ := xguard_ok h
    cases b with
    | true =>
      simp only at hk
      split at hk
      · cases hk
      · rename_i c cs hrng
        obtain ⟨⟨y, s, h'⟩, hq', hr⟩ := Tree.of_bind hk
        obtain ⟨he, hr⟩ := Tree.of_need hr
        simp only at he
        subst he
        rw [← St.evM_eq] at hq' hr
        have hs1 := xstep_ok (m := m) hcl hcall hq'
        obtain ⟨hs2, hr⟩ := xAgree_ok (m := m) hcl hcall cs hr
        obtain ⟨ih, ihn⟩ := xMoveL_ok hcl hcall hn hQ r (i + 1) _ st' hlr hr
        refine ⟨.step (y := y) (fun f hc hlen hu hp => .inl ⟨by rw [awanted_masked]; exact hw, ?_⟩) ?_, by rw [ihn, St.put_n, h3]⟩
        · have hin := in_rng ho hQ hc hu hp
          rw [hrng] at hin
          show AStep P G _ (hs (nQ Q f)) o y (hs (nQ Q fun j => decide (j = i) || f j))
          rw [nQ_up hu Q hn, ← h1]
          rcases List.mem_cons.1 hin with he | hin
          · rw [he]; exact hs1
          · exact hs2 _ hin
        · have hp := St.put_a st1 o.dst y s st1.h []
          rw [← h1, hp]
          exact ih
    | false =>
      simp only at hk
      split at hk
      · cases hk
      · rename_i hni
        obtain ⟨ih, ihn⟩ := xMoveL_ok hcl hcall hn hQ r (i + 1) _ st' hlr hk
        refine ⟨.step (y := .tup []) (fun f hc hlen hu hp => .inr ⟨by rw [awanted_masked]; exact hw, rfl, ?_⟩) ?_, by rw [ihn, St.put_n, h3]⟩
        · show hs (nQ Q fun j => decide (j = i) || f j) = hs (nQ Q f)
          rw [nQ_up hu Q hn]
          unfold upM
          rw [hni]
        · have hp := St.put_a st1 o.dst (.tup []) false st1.h []
          rw [← h1, hp]
          exact ih
theorem xMove_ok {R : Option Nat → Prop} (hm : P.follows .mixedOrders = true) (hcl : ClOk P G E) {call : CallT} (hcall : CallOk P G call) {hs : Nat → Heap} {id : Nat} {ops : List Oper} {Q : List Nat} {m : List Nat} {st st' : St} (h : (xMove P G E call hs ops Q st).sel = some st') :
    AExec P G R (.region id ops.toArray true) { tmps := st.a, marks := m } st.h .normal { tmps := st'.a, marks := m } st'.h ∧ st'.n = st.n := by
  unfold xMove at h
  split at h
  · rename_i hb
    simp only [Bool.and_eq_true, decide_eq_true_eq, List.all_eq_true, Nat.blt_eq] at hb
    obtain ⟨⟨⟨hd, hc⟩, hn⟩, hQ⟩ := hb
    obtain ⟨h0, h⟩ := Tree.of_need h
    obtain ⟨st1, h1, h2⟩ := Tree.of_bind h
    cases h2
    obtain ⟨h3, h4⟩ := xMoveL_ok (m := m) hcl hcall hn hQ ops 0 st st1 (fun k _ => by simp) h1
    have key := h3.draw (R := R) (id := id) hm hd hc
    have e0 : nQ Q (fun _ => false) = 0 := by simp [nQ]
    have e1 : nQ Q (fun j => decide (j < ops.length)) = Q.length := by
      unfold nQ
      rw [List.filter_eq_self.2 fun q hq => by simpa using hQ q hq]
    simp only [e0, e1, ← h0] at key
    exact ⟨key, h4⟩
  · cases h
end
end Go.Proofs.YtjljigccgaadaaaDoor.Am

namespace Go.Proofs.YtjljigccgaadaaaDoor.Am
open Go
section
variable (P : Program) (G : Nat → Option (List AV)) (E : Env)
/-- Code. n: how deep and how often. lp: what is known of the loops. -/
def xCodeM (mv : Nat → Option (List Nat × (Nat → Heap))) : Nat → Loops → Code → St → Tree (Exit × St)
  | 0 => fun _ _ _ => .fail
  | n + 1 => fun lp c st =>
    match c with
    | .skip => .leaf (.normal, st)
    | .ret => .leaf (.ret, st)
    | .exit id => .leaf (.exit id, st)
    | .region id ops draws =>
      (match draws with
      | true => (match mv id with
        | some (Q, hs) => xMove P G E (xenter P E (xCode P G E n fun _ => none)) hs ops.toList Q st
        | none => xDraw P G E (xenter P E (xCode P G E n fun _ => none)) ops st)
      | false => xOps P G E (xenter P E (xCode P G E n fun _ => none)) ops ops.toList st).bind fun st' => .leaf (.normal, st')
    | .seq x y => (xCodeM mv n lp x st).bind fun r =>
      match r.1 with
      | .normal => xCodeM mv n lp y r.2
      | e => .leaf (e, r.2)
    | .cond q x y =>
      match st.ev G q with
      | some (.bool b) =>
        match symOf st q with
        | true => .ite b (xCodeM mv n lp x st) (xCodeM mv n lp y st)
        | false => match b with
          | true => xCodeM mv n lp x st
          | false => xCodeM mv n lp y st
      | _ => .fail
    | .block id x => (xCodeM mv n lp x st).bind fun r => .leaf (outOf id r.1, r.2)
    | .loop x =>
      match lp (idOf x) with
      | some (keep, s0, t) => .need ((st.only keep).vals = s0.vals) t
      | none => xLoop (xCodeM mv n lp x) n st
    | _ => .fail
/-- A piece of code, some temporaries of it. -/
def xBodyM (mv : Nat → Option (List Nat × (Nat → Heap))) (n : Nat) (lp : Loops) (keep : List Nat) (c : Code) (st : St) : Tree (Exit × St) :=
  (xCodeM P G E mv n lp c st).bind fun r => .leaf (r.1, r.2.only keep)
end
section
variable {P : Program} {G : Nat → Option (List AV)} {E : Env}
theorem xCodeM_ok {mv : Nat → Option (List Nat × (Nat → Heap))} (hn : NamesOk P) (hm : P.follows .mixedOrders = true) (hcl : ClOk P G E) : ∀ (n : Nat) (R : Option Nat → Prop) (m : List Nat) (lp : Loops) (c : Code) (st : St) (e : Exit) (st' : St), LoopsOk P G R m lp c →
    (xCodeM P G E mv n lp c st).sel = some (e, st') → AExec P G R c { tmps := st.a, marks := m } st.h e { tmps := st'.a, marks := m } st'.h ∧ st'.n = st.n
  | 0, R, m, lp, c, st, e, st', _, h => by cases h
  | n + 1, R, m, lp, c, st, e, st', hlp, h => by
    have hrun : RunOk P G (xCode P G E n fun _ => none) := fun c st e st' h => (xCode_ok hn hm hcl n _ [] _ c st e st' (.none c) h).1
    unfold xCodeM at h
    cases c with
    | skip => cases h; exact ⟨.skip, rfl⟩
    | ret => cases h; exact ⟨.ret, rfl⟩
    | exit id => cases h; exact ⟨.exit, rfl⟩
    | region id ops draws =>
      simp only at h
      obtain ⟨st1, h1, h2⟩ := Tree.of_bind h
      cases h2
      cases draws with
      | true =>
        simp only at h1
        split at h1
        · have := xMove_ok (R := R) (id := id) (m := m) hm hcl (xenter_ok hn hrun) h1
          simpa using this
        · exact xDraw_ok hm hcl (xenter_ok hn hrun) h1
      | false =>
        obtain ⟨h3, h4⟩ := xOps_ok (m := m) hcl (xenter_ok hn hrun) _ _ _ h1
        exact ⟨.region h3, h4⟩
    | seq x y =>
      simp only at h
      obtain ⟨⟨e1, st1⟩, h1, h2⟩ := Tree.of_bind h
      obtain ⟨h3, h4⟩ := xCodeM_ok hn hm hcl n R m lp x _ _ _ hlp.1 h1
      split at h2
      · rename_i he
        simp only at he
        subst he
        obtain ⟨h5, h6⟩ := xCodeM_ok hn hm hcl n R m lp y _ _ _ hlp.2 h2
        exact ⟨.seq h3 h5, h6.trans h4⟩
      · rename_i he
        cases h2
        exact ⟨.seq_out h3 he, h4⟩
    | cond q x y =>
      simp only at h
      split at h
      · rename_i b hq
        rw [← St.ev_eq] at hq
        split at h
        · simp only [Tree.sel] at h
          cases b with
          | true =>
            obtain ⟨h3, h4⟩ := xCodeM_ok hn hm hcl n R m lp x _ _ _ hlp.1 h
            exact ⟨.cond_true hq h3, h4⟩
          | false =>
            obtain ⟨h3, h4⟩ := xCodeM_ok hn hm hcl n R m lp y _ _ _ hlp.2 h
            exact ⟨.cond_false hq h3, h4⟩
        · split at h
          · obtain ⟨h3, h4⟩ := xCodeM_ok hn hm hcl n R m lp x _ _ _ hlp.1 h
            exact ⟨.cond_true hq h3, h4⟩
          · obtain ⟨h3, h4⟩ := xCodeM_ok hn hm hcl n R m lp y _ _ _ hlp.2 h
            exact ⟨.cond_false hq h3, h4⟩
      · cases h
    | block id x =>
      simp only at h
      obtain ⟨⟨e1, st1⟩, h1, h2⟩ := Tree.of_bind h
      cases h2
      obtain ⟨h3, h4⟩ := xCodeM_ok hn hm hcl n R m lp x _ _ _ hlp h1
      exact ⟨.block h3, h4⟩
    | loop x =>
      simp only at h
      split at h
      · rename_i keep s0 t ht
        obtain ⟨h1, h2⟩ := Tree.of_need h
        obtain ⟨h3, h4⟩ := hlp.1 _ _ _ _ _ ht h2
        simp only [St.vals, Prod.mk.injEq] at h1
        obtain ⟨e1, e2, e3⟩ := h1
        have h5 := St.only_le keep st
        rw [e1] at h5
        refine ⟨.weak h5 ?_, h4.trans e2.symm⟩
        have e4 : st.h = s0.h := e3
        rw [e4]
        exact h3
      · obtain ⟨h3, h4⟩ := xLoop_ok (fun st e st' h => xCodeM_ok hn hm hcl n R m lp x st e st' hlp.2 h) n st e st' h
        exact ⟨.loop h3, h4⟩
    | scope _ => cases h
    | rangeFunc _ _ _ _ => cases h
    | label _ => cases h
    | goto _ => cases h
    | refuse _ => cases h

theorem xBodyM_ok {mv : Nat → Option (List Nat × (Nat → Heap))} (hn : NamesOk P) (hm : P.follows .mixedOrders = true) (hcl : ClOk P G E) {R : Option Nat → Prop} {m : List Nat} {lp : Loops} {n : Nat} {keep : List Nat} {c : Code} {st : St} {e : Exit} {st' : St} (hlp : LoopsOk P G R m lp c)
    (hx : (xBodyM P G E mv n lp keep c st).sel = some (e, st')) : AExec P G R c { tmps := st.a, marks := m } st.h e { tmps := st'.a, marks := m } st'.h ∧ st'.n = st.n := by
  obtain ⟨⟨e0, st0⟩, h1, h2⟩ := Tree.of_bind hx
  cases h2
  obtain ⟨h3, h4⟩ := xCodeM_ok hn hm hcl n R m lp c st _ _ hlp h1
  exact ⟨h3.weak_post (a' := { tmps := st0.a, marks := m }) (St.only_le keep st0), h4⟩
/-- A function of whose loops and statements the facts are known. -/
theorem xFnM_ok {mv : Nat → Option (List Nat × (Nat → Heap))} (hn : NamesOk P) (hm : P.follows .mixedOrders = true) (hcl : ClOk P G E) {lp : Loops} {n : Nat} {f : FuncId} {fn : Func} {c : Code} (hf : P.funcs[f]? = some fn) (hb : fn.body = some c)
    (hlp : LoopsOk P G (fun r => r = none) [] lp c) {xs : List AV} {tags : List Bool} {h h' : Heap} {v : AV} {s : Bool}
    (hx : (xenter P E (xCodeM P G E mv n lp) f xs tags h).sel = some (v, s, h')) : ACall P G f xs h v h' := by
  have : ∀ (run : Code → St → Tree (Exit × St)), run = xCodeM P G E mv n lp → (xenter P E run f xs tags h).sel = some (v, s, h') → ACall P G f xs h v h' := by
    intro run hrun hx
    unfold xenter at hx
    rw [hf] at hx
    simp only [hb] at hx
    obtain ⟨⟨e, st⟩, h1, h2⟩ := Tree.of_bind hx
    subst hrun
    have hx' := (xCodeM_ok hn hm hcl n _ [] lp c _ _ _ hlp h1).1
    have main : ∀ {tag : Bool}, (e = .normal ∨ e = .ret) → (match aResults P st.h st.a fn.results.toList with
        | some ys => .leaf (asOne ys, tag, st.h)
        | none => .fail : Tree (AV × Bool × Heap)).sel = some (v, s, h') → ACall P G f xs h v h' := fun {tag} he hh => by
      cases hres : aResults P st.h st.a fn.results.toList with
      | none => rw [hres] at hh; cases hh
      | some ys =>
        rw [hres] at hh
        cases hh
        exact ACall.of_body hf hb (hn f fn hf) (.weak ofArgs_le hx') he hres
    split at h2
    · rename_i he
      exact main (.inl he) h2
    · rename_i he
      exact main (.inr he) h2
    · cases h2
  exact this _ rfl hx
end
end Go.Proofs.YtjljigccgaadaaaDoor.Am

namespace Go.Proofs.YtjljigccgaadaaaDoor.Am
open Go
section
variable {P : Program} {G : Nat → Option (List AV)}

/-- What the last object holds is forgotten. -/
theorem Inv.goneLast {w : World} {M : Map} {σ : Heap} {g : Nat} {c : List AV} (hi : Inv G w M (σ ++ [.cells g c])) : Inv G w M (σ ++ [.gone]) :=
  .of hi.glob hi.inj (fun r p h => by have := hi.dom r p h; simpa using this) hi.lt hi.far fun r o ho => by
    by_cases hr : r < σ.length
    · rw [List.getElem?_append_left hr] at ho
      exact hi.objOk (by rw [List.getElem?_append_left hr]; exact ho)
    · rw [List.getElem?_append_right (by omega)] at ho
      obtain rfl := List.mem_singleton.1 (List.mem_of_getElem? ho)
      trivial
theorem AExec.goneLast {R : Option Nat → Prop} {c : Code} {a a' : AAct} {σ σ' : Heap} {e : Exit} {g : Nat} {cs : List AV} (h : AExec P G R c a σ e a' (σ' ++ [.cells g cs])) : AExec P G R c a σ e a' (σ' ++ [.gone]) :=
  fun r0 hr w M ac Q hi ha hQ => h r0 hr w M ac Q hi ha fun w' M' ac' he hi' ha' => hQ w' M' ac' he hi'.goneLast ha'

/-- A frame seen through weaker values. -/
theorem RAct.sub {w : World} {M : Map} {ac : Act} {a b : List AV} {m : List Nat} (h : RAct w M ac { tmps := a, marks := m }) (hl : b.length = a.length) (hs : ∀ (j : Nat) (y' : AV), b[j]? = some y' → ∃ y, a[j]? = some y ∧ ∀ w M u, RV w M u y → RV w M u y') : RAct w M ac { tmps := b, marks := m } :=
  ⟨⟨by rw [h.tmps.1, hl], fun j y' hj => by
    obtain ⟨y, h1, h2⟩ := hs j y' hj
    exact h2 _ _ _ (h.tmps.2 j y h1)⟩, h.marks⟩
theorem AExec.weak_sub {R : Option Nat → Prop} {c : Code} {a : AAct} {a1 b : List AV} {m : List Nat} {σ σ' : Heap} {e : Exit} (h : AExec P G R c a σ e { tmps := a1, marks := m } σ') (hl : b.length = a1.length) (hs : ∀ (j : Nat) (y' : AV), b[j]? = some y' → ∃ y, a1[j]? = some y ∧ ∀ w M u, RV w M u y → RV w M u y') :
    AExec P G R c a σ e { tmps := b, marks := m } σ' :=
  fun r0 hr w M ac Q hi ha hQ => h r0 hr w M ac Q hi ha fun w' M' ac' he hi' ha' => hQ w' M' ac' he hi' (ha'.sub hl hs)
theorem RV.mx_ms {w : World} {M : Map} {u : Value} {size r g off len cap cap0 : Nat} (h : RV w M u (.mx size r g off len cap)) (h0 : len ≤ cap0) (hc : cap0 ≤ cap) : RV w M u (.ms size r g off len cap0) := by
  cases h with
  | mx _ _ _ _ _ _ b c e hr hlen hsz hfit => exact .ms _ _ _ _ _ _ b cap c e hr h0 hc hsz hfit
  | mxS _ _ _ _ _ _ b g' p hr hg => exact .msS _ _ _ _ _ _ b g' p cap hr hg

/-- THE ROOM OF A SLICE: whatever it is. -/
theorem AExec.known_cap {R : Option Nat → Prop} {c : Code} {a : List AV} {m : List Nat} {a' : AAct} {σ σ' : Heap} {e : Exit} {i size r g off len cap : Nat} (hi : a[i]? = some (.ms size r g off len cap)) (ho : (objAt σ r g).isSome = true)
    (h : ∀ capc, cap ≤ capc → AExec P G R c { tmps := a.set i (.mx size r g off len capc), marks := m } σ e a' σ') : AExec P G R c { tmps := a, marks := m } σ e a' σ' := by
  intro r0 hr w M ac Q hinv ha hQ
  have hv := ha.tmps.2 i _ hi
  obtain ⟨cc, hcc⟩ := Option.isSome_iff_exists.1 ho
  obtain ⟨b, cs, e', hm, hh, hl, hx⟩ := hinv.obj hcc
  generalize hu : ac.tmps.getD i undef = u at hv
  cases hv with
  | msS _ _ _ _ _ _ b' g' p capc hm' hg =>
    rw [hm] at hm'
    obtain ⟨_, rfl⟩ := Prod.mk.inj (Option.some.inj hm')
    omega
  | ms _ _ _ _ _ _ b' capc c' e'' hm' hlen hcc' hsz hfit =>
    refine h capc hcc' r0 hr w M ac Q hinv ⟨⟨by rw [ha.tmps.1]; simp, fun j x hj => ?_⟩, ha.marks⟩ hQ
    rw [List.getElem?_set] at hj
    split at hj
    · rename_i hij
      subst hij
      split at hj
      · cases hj
        rw [hu]
        exact .mx _ _ _ _ _ _ b' c' e'' hm' (by omega) hsz hfit
      · cases hj
    · exact ha.tmps.2 j x hj

/-- Length and room of a slice whose room is known. -/
def hCap (t : TypeId) : Heap → Oper → (Operand → Option AV) → Option (AV × Bool × Heap × Prop) := fun h o ρ => match o.op with
  | .call { callee := .builtin .cap, args := args, argTypes := ts } => match evAllR ρ args.toList with
    | some [.mx _ _ _ _ _ cap] => some (.int .i64 cap, true, h, ts = #[t])
    | some [.zs] => some (.int .i64 (0 : Nat), true, h, ts = #[t])
    | _ => none
  | .call { callee := .builtin .len, args := args, argTypes := ts } => match evAllR ρ args.toList with
    | some [.mx _ _ _ _ len _] => some (.int .i64 len, true, h, ts = #[t])
    | _ => none
  | _ => none
theorem hCap_ok {t e : TypeId} (hu : P.underlying t = some (.slice e)) : HintOk P G (hCap t) := by
  refine ⟨fun h o a m y s h' p hh hp => ?_, fun h o ρ y s h' p hh hp _ => ?_⟩
  · have key : ∀ (bt : Builtin) (args : Array Operand) (ts : Array TypeId) (x : AV) (len cap : Nat) (n : Nat), (∀ w M u, RV w M u x → ∃ q, u = .slice q len cap) → o.op = .call { callee := .builtin bt, args := args, argTypes := ts } → ts = #[t] → evAllR (ev G a) args.toList = some [x] →
        (∀ (q : Option Addr) (w : World) ty cs, (builtin bt #[t] ty cs #[.slice q len cap]).run P w = .ok (.value (.int .i64 n)) w) → AStep P G { tmps := a, marks := m } h o (.int .i64 n) h := by
      intro bt args ts x len cap n hsl' ho hts hx hb r0 w M ac K Q hi ha hK
      subst hts
      refine ⟨fun f _ => FW_fn r0 f, ?_⟩
      have hnd : ∀ c, o.op ≠ .defer c := fun c' h => by rw [ho] at h; cases h
      rw [Oper.semAt_eq _ _ _ hnd]
      rw [← evAllR_eq] at hx
      obtain ⟨x1, x2⟩ := evAll_ok hi ha.tmps hx
      simp only [Array.toArray_toList] at x1 x2
      have hv := x2 0 _ rfl
      have harr := arr1 x1
      obtain ⟨q, hq⟩ := hsl' _ _ _ hv
      rw [hq] at harr
      have hrun : (execOp ac.eval o).run P w = .ok (.value (.int .i64 n)) w := by
        unfold execOp
        simp only [ho]
        simp only [resolve, Sem.run_bind, Sem.run_pure, Result.andThen_ok, invoke, harr]
        exact hb q w _ _
      rw [hrun]
      exact hK _ w M (.int _ _) (.refl w M) hi
    have hmx : ∀ {size r g off len cap : Nat}, ∀ w M u, RV w M u (.mx size r g off len cap) → ∃ q, u = .slice q len cap := fun w M u hv => by
      cases hv with
      | mx _ _ _ _ _ _ b c e hr hlen hsz hfit => exact ⟨_, rfl⟩
      | mxS _ _ _ _ _ _ b g' p hr hg => exact ⟨_, rfl⟩
    unfold hCap at hh
    split at hh
    · rename_i args ts ho
      split at hh
      · rename_i size r g off len cap hx
        cases hh
        refine key .cap args ts _ len cap cap hmx ho hp hx fun q w _ _ => ?_
        simp only [builtin, Sem.run_bind, Builtin.cap_, List.getElem?_toArray, List.getElem?_cons_zero, run_underlying', hu, Result.andThen_ok, goInt, Sem.run_pure]
      · rename_i hx
        cases hh
        refine key .cap args ts .zs 0 0 0 (fun w M u hv => by cases hv; exact ⟨_, rfl⟩) ho hp hx fun q w _ _ => ?_
        simp only [builtin, Sem.run_bind, Builtin.cap_, List.getElem?_toArray, List.getElem?_cons_zero, run_underlying', hu, Result.andThen_ok, goInt, Sem.run_pure]
      · cases hh
    · rename_i args ts ho
      split at hh
      · rename_i size r g off len cap hx
        cases hh
        refine key .len args ts _ len cap len hmx ho hp hx fun q w _ _ => ?_
        simp only [builtin, Sem.run_bind, Builtin.len_, List.getElem?_toArray, List.getElem?_cons_zero, run_underlying', hu, Result.andThen_ok, goInt, Sem.run_pure]
      · cases hh
    · cases hh
  · unfold hCap at hh
    split at hh
    · split at hh
      · cases hh; rfl
      · cases hh; rfl
      · cases hh
    · split at hh
      · cases hh; rfl
      · cases hh
    · cases hh
/-- A truth value that is not known decides between two ways; both go on. -/
theorem AExec.fork2 {R : Option Nat → Prop} {x y n z : Code} {a a1 a2 a3 : List AV} {a' : AAct} {σ σ1 σ2 σ3 σ' : Heap} {e : Exit} {i : Nat} (hx : AExec P G R x { tmps := a } σ .normal { tmps := a1 } σ1) (hi : a1[i]? = some .anyb)
    (ht : AExec P G R y { tmps := a1.set i (.bool true) } σ1 .normal { tmps := a3 } σ3) (hzt : AExec P G R z { tmps := a3 } σ3 e a' σ') (hf : AExec P G R n { tmps := a1.set i (.bool false) } σ1 .normal { tmps := a2 } σ2) (hz : AExec P G R z { tmps := a2 } σ2 e a' σ') :
    AExec P G R (.seq (.seq x (.cond (.tmp i) y n)) z) { tmps := a } σ e a' σ' :=
  fun r0 hr w M ac Q hinv ha hQ => wpIn_seq (wpIn_seq (hx r0 hr w M ac _ hinv ha fun w1 M1 ac1 h1 hi1 ha1 => by
    obtain ⟨b, hb, hab⟩ := ha1.known hi
    refine wpIn_cond (t := b) hb ?_
    cases b with
    | true =>
      exact ht r0 hr w1 M1 ac1 _ hi1 hab fun w2 M2 ac2 h2 hi2 ha2 => hzt r0 hr w2 M2 ac2 _ hi2 ha2 fun w3 M3 ac3 h3 hi3 ha3 => hQ w3 M3 ac3 ((h1.trans h2).trans h3) hi3 ha3
    | false =>
      exact hf r0 hr w1 M1 ac1 _ hi1 hab fun w2 M2 ac2 h2 hi2 ha2 => hz r0 hr w2 M2 ac2 _ hi2 ha2 fun w3 M3 ac3 h3 hi3 ha3 => hQ w3 M3 ac3 ((h1.trans h2).trans h3) hi3 ha3))
end
end Go.Proofs.YtjljigccgaadaaaDoor.Am

namespace Go.Proofs.YtjljigccgaadaaaDoor.Am
open Go
set_option maxRecDepth 100000

/-- A load of an integer, told beforehand. -/
def hEl (F : Nat → Nat → Int) : Heap → Oper → (Operand → Option AV) → Option (AV × Bool × Heap × Prop) := fun h o ρ => match o.op with
  | .load 3 x => match ρ x with
    | some (.ref r g off) => some (I (F r off), true, h, aLoad Tryd.prog h 3 (.ref r g off) = some (I (F r off)))
    | _ => none
  | _ => none
theorem hEl_ok (F : Nat → Nat → Int) : HintA Tryd.prog (hEl F) := by
  intro h o ρ y s h' p hh hp
  unfold hEl at hh
  split at hh
  · rename_i x ho
    split at hh
    · rename_i r g off hx
      cases hh
      unfold aopR
      simp only [ho, hx, Option.bind_some, hp, Option.map_some]
    · cases hh
  · cases hh
noncomputable def body30a : Code := (loopsOf (bodyOf Tryd.prog 30)).getD 0 .skip
noncomputable def body30b : Code := (loopsOf (bodyOf Tryd.prog 30)).getD 1 .skip
def lv30 (N n : Nat) : AV := .ms 1 N (n - 1) 0 n n
def st30a (N n : Nat) (i : Int) (h : Heap) : St := .of 62 h [(0, lv30 N n, true), (1, .ref 2 0 0, true), (2, .ref 0 0 0, true), (3, .ref 1 0 0, true), (10, lv30 N n, true), (11, I n, true), (12, I i, true)]
def st30b (N n : Nat) (b : Bool) (i : Int) (h : Heap) : St := .of 62 h [(0, lv30 N n, true), (8, .bool b, true), (45, I n, true), (46, I i, true)]
def E30a (F : Nat → Nat → Int) (h : Heap) : Env := { hint := orH (hEl F) (orH (hLd 4 (.bool true)) (hSt 4 (.ref 2 0 0) (.bool true) h h)) }
def E30b (N n i : Nat) (h h1 : Heap) : Env := { hint := hSt 3 (.ref N (n - 1) i) (I (-7)) h h1 }
def oi (i : Int) : Nat := 0 + i.toNat * 1
def sb30 (N n : Nat) (i : Nat) (h : Heap) (v : AV) : Tree (Exit × St) := .need (some (AV.ref 2 0 0) = some (.ref 2 0 0) ∧ some v = some (.bool true) ∧ h = h ∧ aStore Tryd.prog h 4 (.ref 2 0 0) (.bool true) = some h) (.leaf (.normal, st30a N n (IntKind.i64.wrap (i + 1)) h))
def el30 (F : Nat → Nat → Int) (N n : Nat) (h : Heap) (j : Int) (x : Tree (Exit × St)) : Tree (Exit × St) := .need (0 ≤ j ∧ j < n ∧ (objAt h N (n - 1)).isSome = true) (.need (aLoad Tryd.prog h 3 (.ref N (n - 1) (oi j)) = some (I (F N (oi j)))) x)
theorem run30a (F : Nat → Nat → Int) (N n i : Nat) (h : Heap) : xBody Tryd.prog G0 (E30a F h) 200 noLoops [0, 1, 2, 3, 10, 11, 12] body30a (st30a N n i h) =
    .ite (decide ((i : Int) < n)) (el30 F N n h i (.need (objAt h 2 0 = some [.bool true]) (.ite true (.ite (decide (F N (oi i) ≥ 0)) (.need (aLoad Tryd.prog h 3 (.ref 0 0 0) = some (I (F 0 0))) (.ite (decide (F N (oi i) < F 0 0))
      (.ite ((i : Int) == 0) (sb30 N n i h (.bool true)) (el30 F N n h (IntKind.i64.wrap (i - 1)) (sb30 N n i h (.bool (decide (F N (oi i) > F N (oi (IntKind.i64.wrap (i - 1))))))))) (sb30 N n i h (.bool false)))) (sb30 N n i h (.bool false))) (sb30 N n i h (.bool false)))))
      (.leaf (.exit 0, st30a N n i h)) := by kernel_rfl
theorem run30b (b : Bool) (N n i : Nat) (h h1 : Heap) : xBody Tryd.prog G0 (E30b N n i h h1) 200 noLoops [0, 8, 45, 46] body30b (st30b N n b i h) =
    .ite (decide ((i : Int) < n)) (.need (0 ≤ (i : Int) ∧ (i : Int) < n ∧ (objAt h N (n - 1)).isSome = true) (.need (some (AV.ref N (n - 1) (oi i)) = some (.ref N (n - 1) i) ∧ some (I (-7)) = some (I (-7)) ∧ h = h ∧ aStore Tryd.prog h 3 (.ref N (n - 1) i) (I (-7)) = some h1)
      (.leaf (.normal, st30b N n b (IntKind.i64.wrap (i + 1)) h1)))) (.leaf (.exit 2, st30b N n b i h)) := by kernel_rfl
end Go.Proofs.YtjljigccgaadaaaDoor.Am

namespace Go.Proofs.YtjljigccgaadaaaDoor.Am
open Go
set_option maxRecDepth 100000

theorem load_int {h : Heap} {r g off : Nat} {c : List AV} {v : Int} (hc : objAt h r g = some c) (hv : c[off]? = some (I v)) : aLoad Tryd.prog h 3 (.ref r g off) = some (I v) := by
  unfold aLoad
  simp only [hc]
  unfold Am.cut
  rw [Tryd.underlying3]
  simp only [aggD, Bool.false_eq_true, if_false]
  exact hv
theorem store_int {h : Heap} {r g off : Nat} {c : List AV} {v : Int} (hc : objAt h r g = some c) (hv : off < c.length) : aStore Tryd.prog h 3 (.ref r g off) (I v) = some (h.set r (.cells g (setL c off [I v]))) := by
  obtain ⟨i, e1, e2⟩ := one_of (t := 3) (by kernel_rfl)
  simp only [aStore, e1, hc]
  have ec : (I v).cells = [I v] := rfl
  rw [ec, if_pos ⟨by rw [e2]; rfl, by rw [e2]; omega, rfl⟩]
theorem store_true {h : Heap} (hh : h[2]? = some (.cells 0 [.bool true])) : aStore Tryd.prog h 4 (.ref 2 0 0) (.bool true) = some h := by
  obtain ⟨i, e1, e2⟩ := one_of (t := 4) (by kernel_rfl)
  have hc : objAt h 2 0 = some [.bool true] := by unfold objAt; rw [hh]; rfl
  simp only [aStore, e1, hc]
  have ec : (AV.bool true).cells = [.bool true] := rfl
  rw [ec, if_pos ⟨by rw [e2]; rfl, by rw [e2]; simp, rfl⟩]
  congr 1
  apply List.ext_getElem?
  intro j
  rw [List.getElem?_set]
  split
  · rename_i hj
    subst hj
    have hlt := (List.getElem?_eq_some_iff.1 hh).1
    rw [if_pos hlt, hh]
    rfl
  · rfl
theorem oi_nat (i : Nat) : oi i = i := by unfold oi; omega
theorem clok30a (F : Nat → Nat → Int) (h : Heap) : ClOk Tryd.prog G0 (E30a F h) := .ofH rfl rfl ((hEl_ok F).ok.or ((hLd_ok Tryd.underlying4 rfl _).ok.or (hSt_ok _ _ _ _ _).ok)) fun f xs t v h => by cases h
theorem clok30b (N n i : Nat) (h h1 : Heap) : ClOk Tryd.prog G0 (E30b N n i h h1) := .ofH rfl rfl (hSt_ok _ _ _ _ _).ok fun f xs t v h => by cases h
def F30 (N : Nat) (k : Int) (L : List Int) : Nat → Nat → Int := fun r off => if r = N then L.getD off 0 else k
/-- What the heap of such a call is: the three variables in front, the list behind. -/
structure Wild (h : Heap) (k : Int) (fv : AV) : Prop where
  kk : objAt h 0 0 = some [I k]
  fv : objAt h 1 0 = some [fv]
  good : h[2]? = some (.cells 0 [.bool true])
section
variable {k : Int} {fv : AV} {h : Heap} {N : Nat} {L : List Int}
theorem loop30a {R : Option Nat → Prop} (hw : Wild h k fv) (ho : objAt h N (L.length - 1) = some (L.map I)) (hN : N ≠ 0) (h0 : ∀ x ∈ L, 0 ≤ x ∧ x < k) (hp : L.Pairwise (· < ·)) (hl : L.length < 4611686018427387904) : ∀ (d i : Nat), i + d = L.length →
    ALoopRun Tryd.prog G0 R body30a { tmps := (st30a N L.length i h).a } h (.exit 0) { tmps := (st30a N L.length L.length h).a } h
  | 0, i, hi => by
    obtain rfl : i = L.length := by omega
    refine .stop (xBody_ok (m := []) names mixed (clok30a (fun _ _ => 0) h) (lpNo body30a) (n := 200) (keep := [0, 1, 2, 3, 10, 11, 12]) (st := st30a N L.length L.length h) (st' := st30a N L.length L.length h) ?_).1 nofun
    refine (congrArg Tree.sel (run30a _ N L.length L.length h)).trans ?_
    rw [selI, decide_eq_false (by omega)]
    rfl
  | d + 1, i, hi => by
    have hlt : i < L.length := by omega
    have ih := loop30a (R := R) hw ho hN h0 hp hl d (i + 1) (by omega)
    have hwr : IntKind.i64.wrap ((i : Int) + 1) = ((i + 1 : Nat) : Int) := wrap_i64 (by omega) (by omega)
    have hgood : objAt h 2 0 = some [.bool true] := by unfold objAt; rw [hw.good]; rfl
    have hsel : ∀ (v : AV), v = .bool true → (sb30 N L.length i h v).sel = some (.normal, st30a N L.length (i + 1 : Nat) h) := fun v hv => by
      unfold sb30
      rw [hv, Tree.sel_need ⟨rfl, rfl, rfl, store_true hw.good⟩, hwr]
      rfl
    have hld : ∀ j : Nat, j < L.length → aLoad Tryd.prog h 3 (.ref N (L.length - 1) (oi j)) = some (I ((F30 N k L) N (oi j))) := fun j hj => by
      rw [oi_nat]
      refine load_int ho ?_
      simp [F30, hj, List.getD_eq_getElem?_getD]
    have hx := h0 L[i] (List.getElem_mem hlt)
    have hF : ∀ j : Nat, (hj : j < L.length) → (F30 N k L) N (oi j) = L[j] := fun j hj => by
      rw [oi_nat]
      simp [F30, List.getD_eq_getElem?_getD, hj]
    refine .next (xBody_ok (m := []) names mixed (clok30a (F30 N k L) h) (lpNo body30a) (n := 200) (keep := [0, 1, 2, 3, 10, 11, 12]) (st := st30a N L.length i h) (st' := st30a N L.length (i + 1 : Nat) h) ?_).1 ih
    refine (congrArg Tree.sel (run30a _ N L.length i h)).trans ?_
    have hobj : (objAt h N (L.length - 1)).isSome = true := by rw [ho]; rfl
    have h00 : (F30 N k L) 0 0 = k := if_neg fun h => hN h.symm
    have hldk : aLoad Tryd.prog h 3 (.ref 0 0 0) = some (I ((F30 N k L) 0 0)) := by
      rw [h00]
      exact load_int hw.kk rfl
    have hel : ∀ (j : Nat) (x : Tree (Exit × St)), j < L.length → (el30 (F30 N k L) N L.length h j x).sel = x.sel := fun j x hj => by
      unfold el30
      rw [Tree.sel_need ⟨by omega, by omega, hobj⟩, Tree.sel_need (hld j hj)]
    rw [selI, decide_eq_true (by omega), cond_true, hel i _ hlt, Tree.sel_need hgood, selI, cond_true, selI, hF i hlt, decide_eq_true hx.1, cond_true, Tree.sel_need hldk, selI, h00, decide_eq_true hx.2, cond_true, selI]
    by_cases hi0 : i = 0
    · subst hi0
      rw [show (((0 : Nat) : Int) == 0) = true from rfl, cond_true]
      exact hsel _ rfl
    · have hw1 : IntKind.i64.wrap ((i : Int) - 1) = ((i - 1 : Nat) : Int) := by rw [wrap_i64 (by omega) (by omega)]; omega
      have hlt2 := List.pairwise_iff_getElem.1 hp (i - 1) i (by omega) hlt (by omega)
      rw [beq_false_of_ne (by omega), cond_false, hw1, hel (i - 1) _ (by omega), hF (i - 1) (by omega)]
      exact hsel _ (by rw [decide_eq_true hlt2])
/-- The list, its first numbers overwritten. -/
def wr30 (L : List Int) (j : Nat) : List Int := List.replicate j (-7) ++ L.drop j
theorem wr30_len {j : Nat} (hj : j ≤ L.length) : (wr30 L j).length = L.length := by
  unfold wr30
  rw [List.length_append, List.length_replicate, List.length_drop]
  omega
theorem wr30_set {j : Nat} : setL ((wr30 L j).map I) j [I (-7)] = (wr30 L (j + 1)).map I := by
  have e1 : ((wr30 L j).map I).take j = (List.replicate j (-7)).map I := by
    unfold wr30
    rw [List.map_append, List.take_append_of_le_length (by simp), List.take_of_length_le (by simp)]
  have e2 : ((wr30 L j).map I).drop (j + 1) = (L.drop (j + 1)).map I := by
    unfold wr30
    rw [List.map_append, List.drop_append]
    simp [List.drop_drop]
  unfold setL
  rw [e1]
  show _ ++ ([I (-7)] ++ ((wr30 L j).map I).drop (j + 1)) = _
  rw [e2]
  unfold wr30
  rw [List.replicate_succ', List.map_append, List.map_append]
  simp
theorem loop30b {R : Option Nat → Prop} (b : Bool) {σ : Heap} (hl : L.length < 4611686018427387904) : ∀ (d i : Nat), i + d = L.length →
    ALoopRun Tryd.prog G0 R body30b { tmps := (st30b σ.length L.length b i (σ ++ [.cells (L.length - 1) ((wr30 L i).map I)])).a } (σ ++ [.cells (L.length - 1) ((wr30 L i).map I)]) (.exit 2) { tmps := (st30b σ.length L.length b L.length (σ ++ [.cells (L.length - 1) ((wr30 L L.length).map I)])).a } (σ ++ [.cells (L.length - 1) ((wr30 L L.length).map I)])
  | 0, i, hi => by
    obtain rfl : i = L.length := by omega
    refine .stop (xBody_ok (m := []) names mixed (clok30b σ.length L.length L.length (σ ++ [.cells (L.length - 1) ((wr30 L L.length).map I)]) []) (lpNo body30b) (n := 200) (keep := [0, 8, 45, 46]) (st := st30b σ.length L.length b L.length (σ ++ [.cells (L.length - 1) ((wr30 L L.length).map I)])) (st' := st30b σ.length L.length b L.length (σ ++ [.cells (L.length - 1) ((wr30 L L.length).map I)])) ?_).1 nofun
    refine (congrArg Tree.sel (run30b b σ.length L.length L.length _ _)).trans ?_
    rw [selI, decide_eq_false (by omega)]
    rfl
  | d + 1, i, hi => by
    have hlt : i < L.length := by omega
    have ih := loop30b (R := R) b (σ := σ) hl d (i + 1) (by omega)
    have hwr : IntKind.i64.wrap ((i : Int) + 1) = ((i + 1 : Nat) : Int) := wrap_i64 (by omega) (by omega)
    have ho : objAt (σ ++ [.cells (L.length - 1) ((wr30 L i).map I)]) σ.length (L.length - 1) = some ((wr30 L i).map I) := objAt_app (i := 0) rfl
    have hs := store_int (v := -7) ho (off := i) (by rw [List.length_map, wr30_len (by omega)]; exact hlt)
    have hset := set_app σ [.cells (L.length - 1) ((wr30 L i).map I)] 0 (.cells (L.length - 1) (setL ((wr30 L i).map I) i [I (-7)]))
    rw [Nat.add_zero] at hset
    rw [hset, wr30_set] at hs
    refine .next (xBody_ok (m := []) names mixed (clok30b σ.length L.length i (σ ++ [.cells (L.length - 1) ((wr30 L i).map I)]) (σ ++ [.cells (L.length - 1) ((wr30 L (i + 1)).map I)])) (lpNo body30b) (n := 200) (keep := [0, 8, 45, 46]) (st := st30b σ.length L.length b i (σ ++ [.cells (L.length - 1) ((wr30 L i).map I)])) (st' := st30b σ.length L.length b (i + 1 : Nat) (σ ++ [.cells (L.length - 1) ((wr30 L (i + 1)).map I)])) ?_).1 ih
    refine (congrArg Tree.sel (run30b b σ.length L.length i _ _)).trans ?_
    rw [selI, decide_eq_true (by omega), cond_true, Tree.sel_need ⟨by omega, by omega, by rw [ho]; rfl⟩, oi_nat, Tree.sel_need ⟨rfl, rfl, rfl, hs⟩, hwr]
    rfl
end
end Go.Proofs.YtjljigccgaadaaaDoor.Am

namespace Go.Proofs.YtjljigccgaadaaaDoor.Am
open Go
set_option maxRecDepth 100000

noncomputable def b30 : Code := bodyOf Tryd.prog 30
noncomputable def p30 (i : Nat) : Code := match i with
  | 0 => fstS b30
  | 1 => fstS (sndS b30)
  | 2 => fstS (sndS (sndS b30))
  | 3 => fstS (sndS (sndS (sndS b30)))
  | 4 => fstS (fstS (sndS (sndS (sndS (sndS b30)))))
  | 5 => cdY (sndS (fstS (sndS (sndS (sndS (sndS b30))))))
  | 6 => cdN (sndS (fstS (sndS (sndS (sndS (sndS b30))))))
  | _ => sndS (sndS (sndS (sndS (sndS b30))))
theorem code30 : bodyOf Tryd.prog 30 = .seq (p30 0) (.seq (p30 1) (.seq (p30 2) (.seq (p30 3) (.seq (.seq (p30 4) (.cond (.tmp 57) (p30 5) (p30 6))) (p30 7))))) := by kernel_rfl
def s30 (x : AV) (h : Heap) : St := .of 62 h [(0, x, true), (1, .ref 2 0 0, true), (2, .ref 0 0 0, true), (3, .ref 1 0 0, true)]
def s30c (x : AV) (h : Heap) : St := .of 62 h [(0, x, true), (3, .ref 1 0 0, true)]
def s30d (x : AV) (b : Bool) (h : Heap) : St := .of 62 h [(0, x, true), (8, .bool b, true)]
def s30e (x : AV) (b : Bool) (y : AV) (h : Heap) : St := .of 62 h [(0, x, true), (8, .bool b, true), (57, y, true)]
def s30f (b : Bool) (h : Heap) : St := .of 62 h [(8, .bool b, true)]
def s30r (b : Bool) (h : Heap) : St := .of 62 h [(5, .bool b, true)]
def lp30a (N n : Nat) (h : Heap) : Loops := fun id => match id with
  | 2 => some ([0, 1, 2, 3, 10, 11, 12], st30a N n 0 h, .leaf (.exit 0, st30a N n n h))
  | _ => none
def lp30b (N n : Nat) (b : Bool) (h h1 : Heap) : Loops := fun id => match id with
  | 8 => some ([0, 8, 45, 46], st30b N n b 0 h, .leaf (.exit 2, st30b N n b n h1))
  | _ => none
def E30c (tc : List AV) (x : AV) (b : Bool) (h : Heap) : Env := { clh := clE2 56 [x, .row tc 0] (.bool b) h, hint := hLd 23 (.fn 56 [] [.row tc 0]) }
def E30e : Env := { hint := hCap 22 }
def E30g (v v' : AV) (h h1 : Heap) : Env := { hint := hApp 22 v (.sl 1 [[I 99]]) v' h h1 }
theorem q30_0 (N n : Nat) (h : Heap) : xBody Tryd.prog G0 {} 200 noLoops [0, 1, 2, 3] (p30 0) (s30 (lv30 N n) h) = .leaf (.normal, s30 (lv30 N n) h) := by kernel_rfl
theorem q30_1 (N n : Nat) (h : Heap) : xBody Tryd.prog G0 {} 200 (lp30a N n h) [0, 3] (p30 1) (s30 (lv30 N n) h) = .need ((st30a N n 0 h).vals = (st30a N n 0 h).vals) (.leaf (.normal, s30c (lv30 N n) h)) := by kernel_rfl
theorem q30_2 (tc : List AV) (N n : Nat) (b : Bool) (h : Heap) : xBody Tryd.prog G0 (E30c tc (lv30 N n) b h) 200 noLoops [0, 8] (p30 2) (s30c (lv30 N n) h) =
    .need (objAt h 1 0 = some [.fn 56 [] [.row tc 0]]) (.need ([lv30 N n, .row tc 0] = [lv30 N n, .row tc 0] ∧ h = h) (.leaf (.normal, s30d (lv30 N n) b h))) := by kernel_rfl
theorem q30_3 (N n : Nat) (b : Bool) (h h1 : Heap) : xBody Tryd.prog G0 {} 200 (lp30b N n b h h1) [0, 8] (p30 3) (s30d (lv30 N n) b h) = .need ((st30b N n b 0 h).vals = (st30b N n b 0 h).vals) (.leaf (.normal, s30d (lv30 N n) b h1)) := by kernel_rfl
theorem q30_4 (N n c : Nat) (b : Bool) (h : Heap) : xBody Tryd.prog G0 E30e 200 noLoops [0, 8, 57] (p30 4) (s30d (.mx 1 N (n - 1) 0 n c) b h) = .need (#[22] = #[22]) (.need (#[22] = #[22]) (.leaf (.normal, s30e (.mx 1 N (n - 1) 0 n c) b (.bool (decide ((c : Int) > n))) h))) := by kernel_rfl
theorem q30_5 (v v' : AV) (b y : Bool) (h h1 : Heap) : xBody Tryd.prog G0 (E30g v v' h h1) 200 noLoops [8] (p30 5) (s30e v b (.bool y) h) =
    .need (some [v, .sl 1 [[I 99]]] = some [v, .sl 1 [[I 99]]] ∧ #[22, 22] = #[22, 22] ∧ h = h ∧ aAppend Tryd.prog h 22 22 v (.sl 1 [[I 99]]) = some (v', h1)) (.leaf (.normal, s30f b h1)) := by kernel_rfl
theorem q30_6 (v : AV) (b y : Bool) (h : Heap) : xBody Tryd.prog G0 {} 200 noLoops [8] (p30 6) (s30e v b (.bool y) h) = .leaf (.normal, s30f b h) := by kernel_rfl
theorem q30_7 (b : Bool) (h : Heap) : xBody Tryd.prog G0 {} 200 noLoops [5] (p30 7) (s30f b h) = .leaf (.ret, s30r b h) := by kernel_rfl
/-- The first way of the third branching. -/
def iteB : Tree (AV × Bool × Heap) → Tree (AV × Bool × Heap)
  | .need _ (.need _ (.need _ (.ite _ x _))) => x
  | _ => .fail
theorem q30z (tc : List AV) (b : Bool) (h : Heap) : xCall Tryd.prog G0 { clh := clE2 56 [.zs, .row tc 0] (.bool b) h, hint := orH (hLd 23 (.fn 56 [] [.row tc 0])) (hCap 22) } 200 30 [.zs, .ref 2 0 0, .ref 0 0 0, .ref 1 0 0] [false, true, true, true] h =
    .need (objAt h 1 0 = some [.fn 56 [] [.row tc 0]]) (.need ([AV.zs, .row tc 0] = [.zs, .row tc 0] ∧ h = h) (.need (#[22] = #[22]) (.ite (decide (((0 : Nat) : Int) > 0)) (iteB (xCall Tryd.prog G0 { clh := clE2 56 [.zs, .row tc 0] (.bool b) h, hint := orH (hLd 23 (.fn 56 [] [.row tc 0])) (hCap 22) } 200 30 [.zs, .ref 2 0 0, .ref 0 0 0, .ref 1 0 0] [false, true, true, true] h)) (.leaf (.bool b, true, h))))) := by kernel_rfl
end Go.Proofs.YtjljigccgaadaaaDoor.Am

namespace Go.Proofs.YtjljigccgaadaaaDoor.Am
open Go
set_option maxRecDepth 100000

theorem lv30_eq (N : Nat) (x : AV) (l : List AV) : lv30 N (l.length + 1) = vA N (x :: l) := rfl
theorem loops30 (i : Nat) : loopsOf (p30 1) = [body30a] ∧ loopsOf (p30 3) = [body30b] ∧ i = i := ⟨by kernel_rfl, by kernel_rfl, rfl⟩
theorem id30a : idOf body30a = 2 := by kernel_rfl
theorem id30b : idOf body30b = 8 := by kernel_rfl
theorem set57 (v : AV) (b y : Bool) (h : Heap) : ((s30e v b .anyb h).a).set 57 (.bool y) = (s30e v b (.bool y) h).a := by kernel_rfl
theorem get57 (v : AV) (b : Bool) (h : Heap) : (s30e v b .anyb h).a[57]? = some .anyb := by kernel_rfl
theorem set0 (N n c : Nat) (b : Bool) (h : Heap) : ((s30d (lv30 N n) b h).a).set 0 (.mx 1 N (n - 1) 0 n c) = (s30d (.mx 1 N (n - 1) 0 n c) b h).a := by kernel_rfl
theorem get0 (N n : Nat) (b : Bool) (h : Heap) : (s30d (lv30 N n) b h).a[0]? = some (.ms 1 N (n - 1) 0 n n) := by kernel_rfl
def SubL (a b : List AV) : Prop := b.length = a.length ∧ ∀ (j : Nat) (y' : AV), b[j]? = some y' → ∃ y, a[j]? = some y ∧ Sub y y'
theorem SubL.refl (a : List AV) : SubL a a := ⟨rfl, fun _ y' h => ⟨y', h, Sub.rfl' _⟩⟩
theorem SubL.cons {x x' : AV} {a b : List AV} (h : Sub x x') (t : SubL a b) : SubL (x :: a) (x' :: b) := ⟨by simp [t.1], fun j y' hj => by
  cases j with
  | zero => cases hj; exact ⟨x, rfl, h⟩
  | succ j => exact t.2 j y' hj⟩
theorem SubL.app {a b : List AV} : ∀ (c : List AV), SubL a b → SubL (c ++ a) (c ++ b)
  | [], t => t
  | x :: c, t => SubL.cons (Sub.rfl' x) (SubL.app c t)
theorem list30e (v : AV) (b : Bool) (y : AV) (h : Heap) : (s30e v b y h).a = v :: (List.replicate 7 .junk ++ (.bool b :: (List.replicate 48 .junk ++ (y :: List.replicate 4 .junk)))) := by kernel_rfl
theorem sub30e {v v' : AV} (hv : Sub v v') (b c : Bool) (h h' : Heap) : SubL (s30e v b (.bool c) h).a (s30e v' b .anyb h').a := by
  rw [list30e, list30e]
  exact .cons hv (.app _ (.cons (Sub.rfl' _) (.app _ (.cons (fun _ _ _ h => by cases h; exact .anyb _) (.refl _)))))
theorem vA_lv (N : Nat) (W : List AV) (hW : 0 < W.length) : vA N W = lv30 N W.length ∧ oA W = [.cells (W.length - 1) W] := by
  cases W with
  | nil => simp at hW
  | cons x l => exact ⟨rfl, rfl⟩
theorem exec30 {tc : List AV} {k : Int} {b : Bool} {σ : Heap} {L : List Int} (h0 : ∀ x ∈ L, 0 ≤ x ∧ x < k) (hp : L.Pairwise (· < ·)) (hl : L.length < 1000) (hne : 0 < L.length) (hw : Wild (σ ++ [.cells (L.length - 1) (L.map I)]) k (.fn 56 [] [.row tc 0])) (hN : σ.length ≠ 0)
    (hc : ACall Tryd.prog G0 56 [lv30 σ.length L.length, .row tc 0] (σ ++ [.cells (L.length - 1) (L.map I)]) (.bool b) (σ ++ [.cells (L.length - 1) (L.map I)])) :
    AExec Tryd.prog G0 (fun r => r = none) (bodyOf Tryd.prog 30) { tmps := (s30 (lv30 σ.length L.length) (σ ++ [.cells (L.length - 1) (L.map I)])).a } (σ ++ [.cells (L.length - 1) (L.map I)]) .ret { tmps := (s30r b []).a } (σ ++ [.gone]) := by
  have ho : objAt (σ ++ [.cells (L.length - 1) (L.map I)]) σ.length (L.length - 1) = some (L.map I) := objAt_app (i := 0) rfl
  have ha := loop30a (R := fun r => r = none) hw ho hN h0 hp (by omega) L.length 0 (by omega)
  have hb := loop30b (R := fun r => r = none) b (σ := σ) (L := L) (by omega) L.length 0 (by omega)
  have e0 : wr30 L 0 = L := by simp [wr30]
  have ho2 : objAt (σ ++ [.cells (L.length - 1) ((wr30 L L.length).map I)]) σ.length (L.length - 1) = some ((wr30 L L.length).map I) := objAt_app (i := 0) rfl
  rw [e0] at hb
  rw [code30]
  refine .seq (a1 := { tmps := (s30 (lv30 σ.length L.length) (σ ++ [.cells (L.length - 1) (L.map I)])).a }) (σ1 := σ ++ [.cells (L.length - 1) (L.map I)]) (xBody_ok (m := []) names mixed clok0 (lpNo _) (n := 200) (keep := [0, 1, 2, 3]) (st := s30 (lv30 σ.length L.length) (σ ++ [.cells (L.length - 1) (L.map I)])) (st' := s30 (lv30 σ.length L.length) (σ ++ [.cells (L.length - 1) (L.map I)])) (by rw [q30_0]; rfl)).1 ?_
  refine .seq (a1 := { tmps := (s30c (lv30 σ.length L.length) (σ ++ [.cells (L.length - 1) (L.map I)])).a }) (σ1 := σ ++ [.cells (L.length - 1) (L.map I)]) (xBody_ok (m := []) names mixed clok0 (lp := lp30a σ.length L.length (σ ++ [.cells (L.length - 1) (L.map I)])) ?_ (n := 200) (keep := [0, 3]) (st := s30 (lv30 σ.length L.length) (σ ++ [.cells (L.length - 1) (L.map I)])) (st' := s30c (lv30 σ.length L.length) (σ ++ [.cells (L.length - 1) (L.map I)])) (by rw [q30_1]; exact selR)).1 ?_
  · refine .of_list _ fun x hm => ?_
    rw [(loops30 0).1] at hm
    obtain rfl := List.mem_singleton.1 hm
    intro kp s0 t e st' h' hsel
    rw [id30a] at h'
    cases h'
    cases hsel
    exact ⟨.loop ha, rfl⟩
  refine .seq (a1 := { tmps := (s30d (lv30 σ.length L.length) b (σ ++ [.cells (L.length - 1) (L.map I)])).a }) (σ1 := σ ++ [.cells (L.length - 1) (L.map I)]) (xBody_ok (m := []) names mixed (E := E30c tc (lv30 σ.length L.length) b (σ ++ [.cells (L.length - 1) (L.map I)])) (.all (hLd_ok Tryd.underlying23 rfl _).ok (clE2_ok hc) (fun l xs σ t v σ' h => (by cases h)) (fun f xs t v h => (by cases h))) (lpNo _) (n := 200) (keep := [0, 8]) (st := s30c (lv30 σ.length L.length) (σ ++ [.cells (L.length - 1) (L.map I)])) (st' := s30d (lv30 σ.length L.length) b (σ ++ [.cells (L.length - 1) (L.map I)])) (by rw [q30_2, Tree.sel_need hw.fv, Tree.sel_need ⟨rfl, rfl⟩]; rfl)).1 ?_
  refine .seq (a1 := { tmps := (s30d (lv30 σ.length L.length) b (σ ++ [.cells (L.length - 1) ((wr30 L L.length).map I)])).a }) (σ1 := σ ++ [.cells (L.length - 1) ((wr30 L L.length).map I)]) (xBody_ok (m := []) names mixed clok0 (lp := lp30b σ.length L.length b (σ ++ [.cells (L.length - 1) (L.map I)]) (σ ++ [.cells (L.length - 1) ((wr30 L L.length).map I)])) ?_ (n := 200) (keep := [0, 8]) (st := s30d (lv30 σ.length L.length) b (σ ++ [.cells (L.length - 1) (L.map I)])) (st' := s30d (lv30 σ.length L.length) b (σ ++ [.cells (L.length - 1) ((wr30 L L.length).map I)])) (by rw [q30_3]; exact selR)).1 ?_
  · refine .of_list _ fun x hm => ?_
    rw [(loops30 0).2.1] at hm
    obtain rfl := List.mem_singleton.1 hm
    intro kp s0 t e st' h' hsel
    rw [id30b] at h'
    cases h'
    cases hsel
    exact ⟨.loop hb, rfl⟩
  have hz : ∀ g c, AExec Tryd.prog G0 (fun r => r = none) (p30 7) { tmps := (s30f b []).a } (σ ++ [.cells g c]) .ret { tmps := (s30r b []).a } (σ ++ [.gone]) := fun g c =>
    AExec.goneLast (xBody_ok (m := []) names mixed clok0 (lpNo _) (n := 200) (keep := [5]) (st := s30f b (σ ++ [.cells g c])) (st' := s30r b (σ ++ [.cells g c])) (by rw [q30_7]; rfl)).1
  refine .fork2 (a1 := (s30e (lv30 σ.length L.length) b .anyb (σ ++ [.cells (L.length - 1) ((wr30 L L.length).map I)])).a) (σ1 := σ ++ [.cells (L.length - 1) ((wr30 L L.length).map I)]) (a3 := (s30f b []).a) (a2 := (s30f b []).a)
    (σ3 := σ ++ [.cells (L.length - 1 + 1) ((wr30 L L.length ++ [99]).map I)]) (σ2 := σ ++ [.cells (L.length - 1) ((wr30 L L.length).map I)]) ?_ (get57 _ _ _) ?_ (hz _ _) ?_ (hz _ _)
  · refine .known_cap (i := 0) (size := 1) (r := σ.length) (g := L.length - 1) (off := 0) (len := L.length) (cap := L.length) (get0 _ _ _ _) (by rw [ho2]; rfl) fun capc hcc => ?_
    rw [set0]
    refine AExec.weak_sub (a1 := (s30e (.mx 1 σ.length (L.length - 1) 0 L.length capc) b (.bool (decide ((capc : Int) > L.length))) (σ ++ [.cells (L.length - 1) ((wr30 L L.length).map I)])).a) (xBody_ok (m := []) names mixed (E := E30e) (.ofH rfl rfl (hCap_ok Tryd.underlying22) fun f xs t v h => by cases h) (lpNo _) (n := 200) (keep := [0, 8, 57]) (st := s30d (.mx 1 σ.length (L.length - 1) 0 L.length capc) b (σ ++ [.cells (L.length - 1) ((wr30 L L.length).map I)])) (st' := s30e (.mx 1 σ.length (L.length - 1) 0 L.length capc) b (.bool (decide ((capc : Int) > L.length))) (σ ++ [.cells (L.length - 1) ((wr30 L L.length).map I)])) (by rw [q30_4, selR, selR]; rfl)).1 (sub30e (fun _ _ _ h => h.mx_ms (Nat.le_refl _) hcc) b _ _ _).1 (sub30e (fun _ _ _ h => h.mx_ms (Nat.le_refl _) hcc) b _ _ _).2
  · rw [set57]
    have hwl : ((wr30 L L.length).map I).length = L.length := by rw [List.length_map, wr30_len (Nat.le_refl _)]
    obtain ⟨v1, v2⟩ := vA_lv σ.length ((wr30 L L.length).map I) (by omega)
    have hm : (wr30 L L.length).map I ++ [I 99] = (wr30 L L.length ++ [99]).map I := by simp
    obtain ⟨v3, v4⟩ := vA_lv σ.length ((wr30 L L.length ++ [99]).map I) (by simp)
    have happ := append_vA el22 σ ((wr30 L L.length).map I) (I 99) rfl (by omega)
    have hl2 : ((wr30 L L.length ++ [99]).map I).length - 1 = L.length - 1 + 1 := by rw [← hm, List.length_append, hwl]; simp; omega
    rw [v1, v2, hm, v4, hwl, hl2] at happ
    exact (xBody_ok (m := []) names mixed (E := E30g (lv30 σ.length L.length) (vA σ.length ((wr30 L L.length ++ [99]).map I)) (σ ++ [.cells (L.length - 1) ((wr30 L L.length).map I)]) (σ ++ [.cells (L.length - 1 + 1) ((wr30 L L.length ++ [99]).map I)])) (.ofH rfl rfl (hApp_ok _ _ _ _ _ _).ok fun f xs t v h => by cases h) (lpNo _) (n := 200) (keep := [8]) (st := s30e (lv30 σ.length L.length) b (.bool true) (σ ++ [.cells (L.length - 1) ((wr30 L L.length).map I)])) (st' := s30f b (σ ++ [.cells (L.length - 1 + 1) ((wr30 L L.length ++ [99]).map I)])) (by rw [q30_5, Tree.sel_need ⟨rfl, rfl, rfl, happ⟩]; rfl)).1
  · rw [set57]
    exact (xBody_ok (m := []) names mixed clok0 (lpNo _) (n := 200) (keep := [8]) (st := s30e (lv30 σ.length L.length) b (.bool false) (σ ++ [.cells (L.length - 1) ((wr30 L L.length).map I)])) (st' := s30f b (σ ++ [.cells (L.length - 1) ((wr30 L L.length).map I)])) (by rw [q30_6]; rfl)).1
theorem c30 {tc : List AV} {k : Int} {b : Bool} {σ : Heap} {L : List Int} (h0 : ∀ x ∈ L, 0 ≤ x ∧ x < k) (hp : L.Pairwise (· < ·)) (hl : L.length < 1000) (hne : 0 < L.length) (hw : Wild (σ ++ [.cells (L.length - 1) (L.map I)]) k (.fn 56 [] [.row tc 0])) (hN : σ.length ≠ 0)
    (hc : ACall Tryd.prog G0 56 [lv30 σ.length L.length, .row tc 0] (σ ++ [.cells (L.length - 1) (L.map I)]) (.bool b) (σ ++ [.cells (L.length - 1) (L.map I)])) :
    ACall Tryd.prog G0 30 [lv30 σ.length L.length, .ref 2 0 0, .ref 0 0 0, .ref 1 0 0] (σ ++ [.cells (L.length - 1) (L.map I)]) (.bool b) (σ ++ [.gone]) := by
  obtain ⟨fn, c, k1, k2, k3⟩ := fnOf (f := 30) (by kernel_rfl)
  have hall := exec30 h0 hp hl hne hw hN hc
  rw [k3] at hall
  have hres : fn.results.toList = [.tmp 5] := by
    have : (Tryd.prog.funcs[30]?).map (·.results.toList) = some [.tmp 5] := by kernel_rfl
    rw [k1] at this
    exact Option.some.inj this
  have hnt : fn.ntmps = 62 := by
    have : (Tryd.prog.funcs[30]?).map (·.ntmps) = some 62 := by kernel_rfl
    rw [k1] at this
    exact Option.some.inj this
  refine ACall.of_body (args := [lv30 σ.length L.length, .ref 2 0 0, .ref 0 0 0, .ref 1 0 0]) (xs := [.bool b]) k1 k2 (names 30 fn k1) (.weak ?_ hall) (.inr rfl) ?_
  · have e : (s30 (lv30 σ.length L.length) (σ ++ [.cells (L.length - 1) (L.map I)])).a = [lv30 σ.length L.length, .ref 2 0 0, .ref 0 0 0, .ref 1 0 0] ++ List.replicate 58 .junk := by kernel_rfl
    rw [hnt, e]
    refine ⟨by simp, fun j y hj => ?_⟩
    by_cases h : j < 4
    · rw [List.getElem?_append_left (by simpa using h)] at hj
      refine .inr ?_
      rw [List.getElem?_append_left (by simpa using h)]
      exact hj
    · rw [List.getElem?_append_right (by simp; omega)] at hj
      exact .inl (List.eq_of_mem_replicate (List.mem_of_getElem? hj))
  · rw [hres]
    have : (s30r b []).a[5]? = some (.bool b) := by kernel_rfl
    simp only [aResults, aResult, this]
theorem c30z {tc : List AV} {b : Bool} {h : Heap} (hfv : objAt h 1 0 = some [.fn 56 [] [.row tc 0]]) (hc : ACall Tryd.prog G0 56 [.zs, .row tc 0] h (.bool b) h) : ACall Tryd.prog G0 30 [.zs, .ref 2 0 0, .ref 0 0 0, .ref 1 0 0] h (.bool b) h := by
  refine xCall_ok (n := 200) (tags := [false, true, true, true]) (s := true) (E := { clh := clE2 56 [.zs, .row tc 0] (.bool b) h, hint := orH (hLd 23 (.fn 56 [] [.row tc 0])) (hCap 22) }) names mixed (.all ((hLd_ok Tryd.underlying23 rfl _).ok.or (hCap_ok Tryd.underlying22)) (clE2_ok hc) (fun l xs σ t v σ' h => (by cases h)) (fun f xs t v h => (by cases h))) ?_
  refine (congrArg Tree.sel (q30z tc b h)).trans ?_
  rw [Tree.sel_need hfv, Tree.sel_need ⟨rfl, rfl⟩, selR, selI]
  rfl
end Go.Proofs.YtjljigccgaadaaaDoor.Am

namespace Go.Proofs.YtjljigccgaadaaaDoor.Am
open Go
set_option maxRecDepth 100000

/-- One cell of an own list set to zero. -/
def hClr (r g off cap : Nat) (c : List AV) (h0 : Heap) : Heap → Oper → (Operand → Option AV) → Option (AV × Bool × Heap × Prop) := fun h o ρ => match o.op with
  | .call { callee := .builtin .clear, args := args, argTypes := ts } => some (.tup [], false, h0.set r (.cells g (setL c off [I 0])), h = h0 ∧ evAllR ρ args.toList = some [.ms 1 r g off 1 cap] ∧ ts = #[22] ∧ objAt h0 r g = some c ∧ off < c.length)
  | _ => none
theorem zero3 : aZero Tryd.prog 3 = some (I 0) := by kernel_rfl
theorem zc1 : (Builtin.zeroCells #[Value.int .i64 0] 1).toList = [Value.int .i64 0] := by simp [Builtin.zeroCells, List.range_succ]
theorem hClr_ok (r g off cap : Nat) (c : List AV) (h0 : Heap) : HintOk Tryd.prog G0 (hClr r g off cap c h0) := by
  refine ⟨fun h o a m y s h' p hh hp => ?_, fun h o ρ y s h' p hh hp hq => ?_⟩
  · unfold hClr at hh
    split at hh
    · rename_i args ts ho
      cases hh
      obtain ⟨rfl, p1, rfl, p3, p4⟩ := hp
      rw [← evAllR_eq] at p1
      intro r0 w M ac K Q hi ha hK
      refine ⟨fun f _ => FW_fn r0 f, ?_⟩
      have hnd : ∀ c, o.op ≠ .defer c := fun c' h => by rw [ho] at h; cases h
      rw [Oper.semAt_eq _ _ _ hnd]
      obtain ⟨x1, x2⟩ := evAll_ok hi ha.tmps p1
      simp only [Array.toArray_toList] at x1 x2
      have hx := x2 0 _ rfl
      generalize hxe : (args.map ac.eval).getD 0 undef = u at hx
      have harr := arr1 x1
      rw [hxe] at harr
      obtain ⟨b, cs, e, hm, hb, hl, hcx⟩ := hi.obj p3
      cases hx with
      | msS _ _ _ _ _ _ b' g' q capc hm' hg =>
        rw [hm] at hm'
        obtain ⟨_, rfl⟩ := Prod.mk.inj (Option.some.inj hm')
        omega
      | ms _ _ _ _ _ _ b' capc c' e' hm' hlen hcc hsz hfit =>
        rw [hm] at hm'
        obtain ⟨rfl, _⟩ := Prod.mk.inj (Option.some.inj hm')
        obtain ⟨z, hz1, hz2⟩ := aZero_ok zero3 w M
        cases hz2
        have he := Ext.upd (M := M) (cs' := wr cs off [Value.int .i64 0]) (g' := g) hm hb (wr_size _ _ _) (Nat.le_refl _) (hi.others hm) (hi.notFar hm)
        have hs := run_storeCells (P := Tryd.prog) (b := b) (o := off) (e := e) [Value.int .i64 0] 0 cs w hb (by simp; omega) (fun u hu => by rw [List.mem_singleton.1 hu]; rfl)
        have hinv := Inv.upd (cs' := wr cs off [Value.int .i64 0]) (g' := g) (c' := setL c off [I 0]) hi hm hb (wr_size _ _ _) (Nat.le_refl _) (by rw [setL_length (by simp; omega), wr_size]; exact hl)
          (written hl (by simp; omega) rfl (fun j y hj => (hcx j y hj).mono he) (fun j y hj => by
            match j, hj with
            | 0, hj => cases hj; exact .int _ _
            | j + 1, hj => simp at hj))
        rw [put_self hm] at he hinv
        have hrun : (execOp ac.eval o).run Tryd.prog w = .ok (.value (.tuple #[])) (upd w b (wr cs (off + 0) [Value.int .i64 0]) e) := by
          unfold execOp
          simp only [ho]
          simp only [resolve, Sem.run_bind, Sem.run_pure, Result.andThen_ok, invoke, builtin, harr]
          simp only [Builtin.clear_, List.getElem?_toArray, List.getElem?_cons_zero, Sem.run_bind, run_underlying', Tryd.underlying22, Result.andThen_ok, hz1]
          have hc : (Value.int .i64 0).cells = #[Value.int .i64 0] := rfl
          rw [hc, zc1]
          simp only [hs, Result.andThen_ok, Sem.run_pure]
        rw [hrun]
        exact hK _ _ M (.tup #[] _ rfl fun j x hj => by simp at hj) he hinv
    · cases hh
  · unfold hClr at hh
    split at hh
    · rename_i args ts ho
      unfold quiet at hq
      simp only [ho] at hq
      cases hq
    · cases hh
/-- A part of a list, told beforehand (which of the bounds are named tells which part). -/
def hSl (fl fh fm : Bool) (v : AV) (lo hi mx : Option AV) (y : AV) : Heap → Oper → (Operand → Option AV) → Option (AV × Bool × Heap × Prop) := fun h o ρ => match o.op with
  | .slice t x l u m => match (l.isSome == fl) && (u.isSome == fh) && (m.isSome == fm) with
    | true => some (y, true, h, t = 22 ∧ ρ x = some v ∧ evOptR ρ l = some lo ∧ evOptR ρ u = some hi ∧ evOptR ρ m = some mx ∧ aSlice Tryd.prog h 22 v lo hi mx = some y)
    | false => none
  | _ => none
theorem hSl_ok (fl fh fm : Bool) (v : AV) (lo hi mx : Option AV) (y : AV) : HintA Tryd.prog (hSl fl fh fm v lo hi mx y) := by
  intro h o ρ y' s h' p hh hp
  unfold hSl at hh
  split at hh
  · rename_i t x l u m ho
    split at hh
    · cases hh
      obtain ⟨rfl, p1, p2, p3, p4, p5⟩ := hp
      unfold aopR
      simp only [ho, p1, p2, p3, p4, p5, Option.map_some]
    · cases hh
  · cases hh
def E33 (r n i : Nat) (v1 v3 v4 : AV) (c : List AV) (h h1 : Heap) : Env := { hint := orH (hSl true true true (.ms 1 r 0 0 n n) (some (I i)) (some (I (i + 1 : Nat))) (some (I n)) v1) (orH (hSl false true false (.ms 1 r 0 0 n n) none (some (I i)) none (.ms 1 r 0 0 i n))
  (orH (hSl true false false (.ms 1 r 0 0 n n) (some (I (i + 1 : Nat))) none none v3) (orH (hSl true true false (.ms 1 r 0 0 (n - 1) n) (some (I (n - 1 : Nat))) (some (I n)) none v4) (orH (hApp 22 (.ms 1 r 0 0 i n) v3 (.ms 1 r 0 0 (n - 1) n) h h1) (hClr r 0 (n - 1) 1 c h1))))) }
theorem bound_nat {a y : Nat} (h : a ≤ y) : aBound (I a) y = some a := by
  have hc : 0 ≤ (a : Int) ∧ (a : Int) ≤ y := ⟨by omega, by omega⟩
  simp only [aBound, hc, and_self, if_true, Int.toNat_natCast]
theorem slice_ms {h : Heap} {r off len cap l u m : Nat} {lo hi mx : Option AV} (ho : (objAt h r 0).isSome = true) (hl : len ≤ cap) (hb : aBounds len cap lo hi mx = some (l, u, m)) (hne : m ≠ l) :
    aSlice Tryd.prog h 22 (.ms 1 r 0 off len cap) lo hi mx = some (.ms 1 r 0 (off + l * 1) (u - l) (m - l)) := by
  obtain ⟨ie, zx, h1, h2, h3, h4, h5, h6⟩ := el22.i
  unfold aSlice
  rw [Tryd.underlying22]
  simp only [h1, hb, h3, hl, ho, and_self, if_true, hne, if_false]
theorem slice_ms0 {h : Heap} {r off len cap l u : Nat} {lo hi : Option AV} (ho : (objAt h r 0).isSome = true) (hl : len ≤ cap) (hb : aBounds len cap lo hi none = some (l, u, l)) :
    aSlice Tryd.prog h 22 (.ms 1 r 0 off len cap) lo hi none = some (.sl 1 []) := by
  obtain ⟨ie, zx, h1, h2, h3, h4, h5, h6⟩ := el22.i
  unfold aSlice
  rw [Tryd.underlying22]
  simp only [h1, hb, h3, hl, ho, and_self, if_true]
  rfl
theorem run33 (r n i : Nat) (v1 v3 : AV) (c : List AV) (h h1 : Heap) : xCall Tryd.prog G0 (E33 r n i v1 v3 (.ms 1 r 0 (n - 1) 1 1) c h h1) 200 33 [.ms 1 r 0 0 n n, I i, I (i + 1 : Nat)] [true, true, true] h =
    .need (22 = 22 ∧ some (AV.ms 1 r 0 0 n n) = some (.ms 1 r 0 0 n n) ∧ some (some (I i)) = some (some (I i)) ∧ some (some (I (i + 1 : Nat))) = some (some (I (i + 1 : Nat))) ∧ some (some (I n)) = some (some (I n)) ∧ aSlice Tryd.prog h 22 (.ms 1 r 0 0 n n) (some (I i)) (some (I (i + 1 : Nat))) (some (I n)) = some v1)
    (.ite ((i : Int) == (i + 1 : Nat)) (.leaf (.ms 1 r 0 0 n n, true, h))
    (.need (22 = 22 ∧ some (AV.ms 1 r 0 0 n n) = some (.ms 1 r 0 0 n n) ∧ some none = some (none : Option AV) ∧ some (some (I i)) = some (some (I i)) ∧ some none = some (none : Option AV) ∧ aSlice Tryd.prog h 22 (.ms 1 r 0 0 n n) none (some (I i)) none = some (.ms 1 r 0 0 i n))
    (.need (22 = 22 ∧ some (AV.ms 1 r 0 0 n n) = some (.ms 1 r 0 0 n n) ∧ some (some (I (i + 1 : Nat))) = some (some (I (i + 1 : Nat))) ∧ some none = some (none : Option AV) ∧ some none = some (none : Option AV) ∧ aSlice Tryd.prog h 22 (.ms 1 r 0 0 n n) (some (I (i + 1 : Nat))) none none = some v3)
    (.need (some [.ms 1 r 0 0 i n, v3] = some [.ms 1 r 0 0 i n, v3] ∧ #[22, 22] = #[22, 22] ∧ h = h ∧ aAppend Tryd.prog h 22 22 (.ms 1 r 0 0 i n) v3 = some (.ms 1 r 0 0 (n - 1) n, h1))
    (.need (22 = 22 ∧ some (AV.ms 1 r 0 0 (n - 1) n) = some (.ms 1 r 0 0 (n - 1) n) ∧ some (some (I (n - 1 : Nat))) = some (some (I (n - 1 : Nat))) ∧ some (some (I n)) = some (some (I n)) ∧ some none = some (none : Option AV) ∧ aSlice Tryd.prog h1 22 (.ms 1 r 0 0 (n - 1) n) (some (I (n - 1 : Nat))) (some (I n)) none = some (.ms 1 r 0 (n - 1) 1 1))
    (.need (h1 = h1 ∧ some [AV.ms 1 r 0 (n - 1) 1 1] = some [.ms 1 r 0 (n - 1) 1 1] ∧ #[22] = #[22] ∧ objAt h1 r 0 = some c ∧ n - 1 < c.length)
      (.leaf (.ms 1 r 0 0 (n - 1) n, true, h1.set r (.cells 0 (setL c (n - 1) [I 0]))))))))) ) := by kernel_rfl
theorem clok33 (r n i : Nat) (v1 v3 : AV) (c : List AV) (h h1 : Heap) : ClOk Tryd.prog G0 (E33 r n i v1 v3 (.ms 1 r 0 (n - 1) 1 1) c h h1) :=
  .ofH rfl rfl ((hSl_ok _ _ _ _ _ _ _ _).ok.or ((hSl_ok _ _ _ _ _ _ _ _).ok.or ((hSl_ok _ _ _ _ _ _ _ _).ok.or ((hSl_ok _ _ _ _ _ _ _ _).ok.or ((hApp_ok _ _ _ _ _ _).ok.or (hClr_ok _ _ _ _ _ _)))))) fun f xs t v h => by cases h
/-- WHAT Delete DOES to a new list: one number less, the last cell set to zero. -/
theorem c33 {L : List Int} {i : Nat} (hi : i < L.length) (σ : Heap) : ACall Tryd.prog G0 33 [.ms 1 σ.length 0 0 L.length L.length, I i, I (i + 1 : Nat)] (σ ++ [.cells 0 (L.map I)]) (.ms 1 σ.length 0 0 (L.length - 1) L.length) (σ ++ [.cells 0 ((L.eraseIdx i ++ [0]).map I)]) := by
  have ho : objAt (σ ++ [.cells 0 (L.map I)]) σ.length 0 = some (L.map I) := objAt_app (i := 0) rfl
  have hlen : (L.map I).length = L.length := by simp
  have fin : ∀ (v3 : AV) (c1 : List AV), aSlice Tryd.prog (σ ++ [.cells 0 (L.map I)]) 22 (.ms 1 σ.length 0 0 L.length L.length) (some (I (i + 1 : Nat))) none none = some v3 →
      aAppend Tryd.prog (σ ++ [.cells 0 (L.map I)]) 22 22 (.ms 1 σ.length 0 0 i L.length) v3 = some (.ms 1 σ.length 0 0 (L.length - 1) L.length, σ ++ [.cells 0 c1]) → c1.length = L.length → c1.take (L.length - 1) = (L.eraseIdx i).map I →
      ACall Tryd.prog G0 33 [.ms 1 σ.length 0 0 L.length L.length, I i, I (i + 1 : Nat)] (σ ++ [.cells 0 (L.map I)]) (.ms 1 σ.length 0 0 (L.length - 1) L.length) (σ ++ [.cells 0 ((L.eraseIdx i ++ [0]).map I)]) := by
    intro v3 c1 h3 happ hc1 ht
    have ho1 : objAt (σ ++ [.cells 0 c1]) σ.length 0 = some c1 := objAt_app (i := 0) rfl
    refine xCall_ok (n := 200) (tags := [true, true, true]) (s := true) names mixed (clok33 σ.length L.length i (.ms 1 σ.length 0 (0 + i * 1) (i + 1 - i) (L.length - i)) v3 c1 (σ ++ [.cells 0 (L.map I)]) (σ ++ [.cells 0 c1])) ?_
    refine (congrArg Tree.sel (run33 σ.length L.length i _ v3 c1 _ _)).trans ?_
    have s1 := slice_ms (h := σ ++ [.cells 0 (L.map I)]) (r := σ.length) (off := 0) (len := L.length) (cap := L.length) (l := i) (u := i + 1) (m := L.length) (lo := some (I i)) (hi := some (I (i + 1 : Nat))) (mx := some (I L.length)) (by rw [ho]; rfl) (Nat.le_refl _)
      (by unfold aBounds; simp only [bound_nat (Nat.le_refl L.length), bound_nat (show i + 1 ≤ L.length by omega), bound_nat (show i ≤ i + 1 by omega)]) (by omega)
    have s2 := slice_ms (h := σ ++ [.cells 0 (L.map I)]) (r := σ.length) (off := 0) (len := L.length) (cap := L.length) (l := 0) (u := i) (m := L.length) (lo := none) (hi := some (I i)) (mx := none) (by rw [ho]; rfl) (Nat.le_refl _)
      (by unfold aBounds; simp only [bound_nat (show i ≤ L.length by omega)]) (by omega)
    have s4 := slice_ms (h := σ ++ [.cells 0 c1]) (r := σ.length) (off := 0) (len := L.length - 1) (cap := L.length) (l := L.length - 1) (u := L.length) (m := L.length) (lo := some (I (L.length - 1 : Nat))) (hi := some (I L.length)) (mx := none) (by rw [ho1]; rfl) (by omega)
      (by unfold aBounds; simp only [bound_nat (Nat.le_refl L.length), bound_nat (show L.length - 1 ≤ L.length by omega)]) (by omega)
    rw [show 0 + 0 * 1 = 0 from rfl, Nat.sub_zero, Nat.sub_zero] at s2
    rw [Nat.zero_add, Nat.mul_one, show L.length - (L.length - 1) = 1 by omega] at s4
    rw [Tree.sel_need ⟨rfl, rfl, rfl, rfl, rfl, s1⟩, selI, beq_false_of_ne (by omega), cond_false, Tree.sel_need ⟨rfl, rfl, rfl, rfl, rfl, s2⟩, Tree.sel_need ⟨rfl, rfl, rfl, rfl, rfl, h3⟩, Tree.sel_need ⟨rfl, rfl, rfl, happ⟩, Tree.sel_need ⟨rfl, rfl, rfl, rfl, rfl, s4⟩, Tree.sel_need ⟨rfl, rfl, rfl, ho1, by omega⟩, selL]
    have e : setL c1 (L.length - 1) [I 0] = (L.eraseIdx i ++ [0]).map I := by
      unfold setL
      rw [ht, List.drop_eq_nil_of_le (by simp; omega)]
      simp
    have hset := set_app σ [.cells 0 c1] 0 (.cells 0 (setL c1 (L.length - 1) [I 0]))
    rw [Nat.add_zero] at hset
    rw [hset, e]
    rfl
  obtain ⟨ie, zx, z1, z2, z3, z4, z5, z6⟩ := el22.i
  have hn : notInt Tryd.prog 22 = true := by unfold notInt; rw [Tryd.underlying22]
  by_cases hl : i + 1 < L.length
  · have s3 := slice_ms (h := σ ++ [.cells 0 (L.map I)]) (r := σ.length) (off := 0) (len := L.length) (cap := L.length) (l := i + 1) (u := L.length) (m := L.length) (lo := some (I (i + 1 : Nat))) (hi := none) (mx := none) (by rw [ho]; rfl) (Nat.le_refl _)
      (by unfold aBounds; simp only [bound_nat (show i + 1 ≤ L.length by omega)]) (by omega)
    rw [Nat.zero_add, Nat.mul_one] at s3
    refine fin _ (setL (L.map I) i ((L.map I).drop (i + 1))) s3 ?_ (by rw [setL_length (by simp; omega), hlen]) ?_
    · unfold aAppend
      rw [Tryd.underlying22]
      simp only [z1, z2]
      have hc : conts (σ ++ [.cells 0 (L.map I)]) ie.size (.ms 1 σ.length 0 (i + 1) (L.length - (i + 1)) (L.length - (i + 1))) = some (L.length - (i + 1), (L.map I).drop (i + 1)) := by
        unfold conts
        simp only [ho, z3]
        rw [if_pos ⟨trivial, by rw [hlen]; omega⟩, Nat.mul_one, List.take_of_length_le (by simp)]
      rw [hc]
      have hone : ((L.map I).drop (i + 1)).all AV.one = true := List.all_eq_true.2 fun x hx => by
        obtain ⟨y, _, rfl⟩ := List.mem_map.1 (List.mem_of_mem_drop hx)
        rfl
      have c1 : i ≤ L.length := by omega
      have c2 : 0 + i * 1 ≤ L.length := by omega
      have c3 : ¬ (L.length - (i + 1) = 0) := by omega
      have hset := set_app σ [.cells 0 (L.map I)] 0 (.cells 0 (setL (L.map I) (0 + i * 1) ((L.map I).drop (i + 1))))
      rw [Nat.add_zero] at hset
      have e1 : i + (L.length - (i + 1)) = L.length - 1 := by omega
      simp only [hn, hone, z4, z5, z6, ho, z3, hlen, c1, c2, c3, and_self, if_true, if_false, hset, e1]
      simp
    · unfold setL
      rw [List.length_drop, hlen, List.eraseIdx_eq_take_drop_succ, List.map_append, List.map_take, List.map_drop]
      rw [List.take_append, List.take_append]
      have e1 : ((L.map I).take i).take (L.length - 1) = (L.map I).take i := List.take_of_length_le (by simp; omega)
      have e2 : ((L.map I).drop (i + 1)).take (L.length - 1 - ((L.map I).take i).length) = (L.map I).drop (i + 1) := List.take_of_length_le (by simp; omega)
      rw [e1, e2]
      have e3 : L.length - 1 - ((L.map I).take i).length - ((L.map I).drop (i + 1)).length = 0 := by simp; omega
      rw [e3]
      simp
  · obtain rfl : i = L.length - 1 := by omega
    have e0 : L.length - 1 + 1 = L.length := by omega
    have s3 := slice_ms0 (h := σ ++ [.cells 0 (L.map I)]) (r := σ.length) (off := 0) (len := L.length) (cap := L.length) (l := L.length) (u := L.length) (lo := some (I (L.length - 1 + 1 : Nat))) (hi := none) (by rw [ho]; rfl) (Nat.le_refl _)
      (by rw [e0]; unfold aBounds; simp only [bound_nat (Nat.le_refl L.length)])
    refine fin _ (L.map I) s3 ?_ hlen ?_
    · unfold aAppend
      rw [Tryd.underlying22]
      simp only [z1, z2]
      have hc : conts (σ ++ [.cells 0 (L.map I)]) ie.size (.sl 1 []) = some (0, []) := by
        unfold conts
        simp [z3]
      rw [hc]
      have c1 : L.length - 1 ≤ L.length := by omega
      have c2 : 0 + (L.length - 1) * 1 ≤ L.length := by omega
      simp only [hn, List.all_nil, z4, z5, z6, ho, z3, hlen, c1, c2, and_self, if_true]
    · rw [List.eraseIdx_eq_take_drop_succ, e0, List.drop_length, List.append_nil, List.map_take]
end Go.Proofs.YtjljigccgaadaaaDoor.Am

namespace Go.Proofs.YtjljigccgaadaaaDoor.Am
open Go
set_option maxRecDepth 100000

/-! ### The closure that counts -/
def hI (fv : AV) (c : Int) : Heap := [.cells 0 [fv], .cells 0 [I c]]
/-! ### The loop that makes the list of all numbers -/
noncomputable def body6a : Code := (loopsOf (bodyOf Tryd.prog 6)).getD 0 .skip
noncomputable def body6b : Code := (loopsOf (bodyOf Tryd.prog 6)).getD 1 .skip
def st6a (k e : Int) (c : List Int) (v : AV) (i : Int) (h : Heap) : St := .of 95 h [(4, .bool false, false), (5, I k, true), (6, .ref 0 0 0, true), (7, .ref 1 0 0, true), (8, flL c, true), (9, I e, true), (10, v, true), (28, I k, true), (29, I i, true)]
def st6b (k : Int) (c : List Int) (i : Int) (h : Heap) : St := .of 95 h [(4, .bool false, false), (5, I k, true), (6, .ref 0 0 0, true), (8, flL c, true), (65, I c.length, true), (66, I i, true)]
def E6a (i : Int) (v v' : AV) (h h1 : Heap) : Env := { hint := hApp 22 v (.sl 1 [[I i]]) v' h h1 }
def clh6 (k e : Int) (c : List Int) (fv : AV) (m : Int) (ask : AV → Bool) : FuncId → List AV → Heap → Option (Tree (AV × Heap)) := fun f xs h0 => match f, xs with
  | 13, [x, y] => some (.need ([x, y] = [I k, .fn 32 [] [.ref 1 0 0, .ref 0 0 0]] ∧ h0 = hI fv 0) (.leaf (.tup [flL c, I e], hI fv m)))
  | 56, [x, y] => some (.need (ACall Tryd.prog G0 56 [x, y] h0 (.bool (ask x)) h0) (.leaf (.bool (ask x), h0)))
  | _, _ => none
def E6 (l : List (FuncId × List AV × AV)) (k e : Int) (c : List Int) (fv : AV) (m : Int) (ask : AV → Bool) : Env := { cl := clL l, clh := clh6 k e c fv m ask, hint := orH (hLd 23 fv) (hLd 3 (I m)) }
def rem65 (n : Int) : Int := (IntKind.i64.wrap n).tmod 65
def e6 (k : Int) (bad tv : AV) (tc : List AV) (c : List Int) (is : Bool) : List (FuncId × List AV × AV) :=
  [(22, [I k, bad], tv), (21, [tv], .fn 56 [] [.row tc 0]), (31, [flL c], flL c), (14, [I k, flL c, .fn 56 [] [.row tc 0]], .tup [.bool is, I 0]), (20, [], .bool true)]
def lp6 (k e : Int) (c : List Int) (lv : AV) (h h2 : Heap) : Loops := fun id => match id with
  | 7 => some ([4, 5, 6, 7, 8, 9, 10, 28, 29], st6a k e c .zs 0 h, .leaf (.exit 0, st6a k e c lv k h2))
  | 18 => some ([4, 5, 6, 8, 65, 66], st6b k c 0 h2, .leaf (.exit 2, st6b k c c.length h2))
  | _ => none
theorem run6a (k e : Int) (i : Nat) (c : List Int) (v v' : AV) (h h1 : Heap) : xBody Tryd.prog G0 (E6a i v v' h h1) 200 noLoops [4, 5, 6, 7, 8, 9, 10, 28, 29] body6a (st6a k e c v i h) =
    .ite (decide ((i : Int) < k)) (.need (some [v, .sl 1 [[I i]]] = some [v, .sl 1 [[I i]]] ∧ #[22, 22] = #[22, 22] ∧ h = h ∧ aAppend Tryd.prog h 22 22 v (.sl 1 [[I i]]) = some (v', h1)) (.leaf (.normal, st6a k e c v' (IntKind.i64.wrap (i + 1)) h1))) (.leaf (.exit 0, st6a k e c v i h)) := by kernel_rfl
def box6 (v : AV) (r : Nat) (h : Heap) (x : Tree (AV × Bool × Heap)) : Tree (AV × Bool × Heap) := .need (objAt h r 0 = some [v]) x
def call6 (x : AV) (tc : List AV) (b : Bool) (h : Heap) (y : Tree (AV × Bool × Heap)) : Tree (AV × Bool × Heap) := .need (ACall Tryd.prog G0 56 [x, .row tc 0] h (.bool b) h) y
theorem run6 (n e : Int) (bad tv : AV) (tc : List AV) (c : List Int) (is : Bool) (m : Int) (ask : AV → Bool) (lv : AV) (h2 : Heap) : xenter Tryd.prog (E6 (e6 (rem65 n) bad tv tc c is) (rem65 n) e c (.fn 56 [] [.row tc 0]) m ask) (xCode Tryd.prog G0 (E6 (e6 (rem65 n) bad tv tc c is) (rem65 n) e c (.fn 56 [] [.row tc 0]) m ask) 200 (lp6 (rem65 n) e c lv (hI (.fn 56 [] [.row tc 0]) m) h2)) 6 [.int .u8 n, bad] [true, true] [] =
    .need ([I (rem65 n), bad] = [I (rem65 n), bad]) (.need ([tv] = [tv]) (.need ([I (rem65 n), .fn 32 [] [.ref 1 0 0, .ref 0 0 0]] = [I (rem65 n), .fn 32 [] [.ref 1 0 0, .ref 0 0 0]] ∧ hI (.fn 56 [] [.row tc 0]) 0 = hI (.fn 56 [] [.row tc 0]) 0)
    (.need ((st6a (rem65 n) e c .zs 0 (hI (.fn 56 [] [.row tc 0]) m)).vals = (st6a (rem65 n) e c .zs 0 (hI (.fn 56 [] [.row tc 0]) m)).vals) (box6 (I m) 1 h2 (.ite (decide (m > IntKind.i64.wrap (rem65 n + 1))) (tF h2)
    (box6 (.fn 56 [] [.row tc 0]) 0 h2 (call6 lv tc (ask lv) h2 (.ite (!((e == 7) == ask lv)) (tF h2) (.ite (e != 0) (.ite (e == 7) (.ite ((c.length : Int) == 0) (tT h2) (tF h2)) (tF h2))
    (box6 (.fn 56 [] [.row tc 0]) 0 h2 (call6 (flL c) tc (ask (flL c)) h2 (.ite (ask (flL c)) (tF h2)
    (.need ((st6b (rem65 n) c 0 h2).vals = (st6b (rem65 n) c 0 h2).vals) (.need ([flL c] = [flL c]) (box6 (.fn 56 [] [.row tc 0]) 0 h2 (.need ([I (rem65 n), flL c, .fn 56 [] [.row tc 0]] = [I (rem65 n), flL c, .fn 56 [] [.row tc 0]])
    (.ite is (.ite ((0 : Int) == 0) (tT h2) (tF h2)) (tF h2)))))))))))))))))) := by kernel_rfl
def clh6b (n i : Nat) (c : List Int) (tc : List AV) (N : Nat) (b : Bool) (h h1 h2 : Heap) : FuncId → List AV → Heap → Option (Tree (AV × Heap)) := fun f xs h0 => match f, xs with
  | 31, [x] => some (.need (x = flL c ∧ h0 = h) (.leaf (.ms 1 N 0 0 n n, h1)))
  | 33, [x, y, z] => some (.need ([x, y, z] = [.ms 1 N 0 0 n n, I i, I (i + 1 : Nat)] ∧ h0 = h1) (.leaf (.ms 1 N 0 0 (n - 1) n, h2)))
  | 56, [x, y] => some (.need ([x, y] = [.ms 1 N 0 0 (n - 1) n, .row tc 0] ∧ h0 = h2) (.leaf (.bool b, h2)))
  | _, _ => none
def E6b (n i : Nat) (c : List Int) (tc : List AV) (N : Nat) (b : Bool) (h h1 h2 : Heap) : Env := { clh := clh6b n i c tc N b h h1 h2, hint := hLd 23 (.fn 56 [] [.row tc 0]) }
def hs3 (h h1 h2 : Heap) : Nat → Heap := fun c => match c with
  | 0 => h
  | 1 => h1
  | _ => h2
def mv6 (h h1 h2 : Heap) : Nat → Option (List Nat × (Nat → Heap)) := fun id => match id with
  | 20 => some ([2, 6], hs3 h h1 h2)
  | _ => none
def bx6 (tc : List AV) (h : Heap) (x : Tree (Exit × St)) : Tree (Exit × St) := .need (objAt h 0 0 = some [.fn 56 [] [.row tc 0]]) x
theorem run6b (k : Int) (n i : Nat) (c : List Int) (tc : List AV) (N : Nat) (b : Bool) (h h1 h2 : Heap) : xBodyM Tryd.prog G0 (E6b n i c tc N b h h1 h2) (mv6 h h1 h2) 200 noLoops [4, 5, 6, 8, 65, 66] body6b (st6b k c i h) =
    .ite (decide ((i : Int) < c.length)) (.need (h = h) (bx6 tc h (.need (h = h) (bx6 tc h1 (.need (AV.fn 56 [] [.row tc 0] = .fn 56 [] [.row tc 0] ∧ h1 = h1) (bx6 tc h2 (.need (AV.fn 56 [] [.row tc 0] = .fn 56 [] [.row tc 0] ∧ h2 = h2)
    (.need (h = h) (.need (flL c = flL c ∧ h = h) (.need (h1 = h1) (.need (h = h) (.need (I i = I i ∧ h1 = h1) (.need (h = h) (.need (I i = I i ∧ h1 = h1) (.need (h = h) (.need (I (IntKind.i64.wrap (i + 1)) = I (IntKind.i64.wrap (i + 1)) ∧ h1 = h1)
    (.need ([AV.ms 1 N 0 0 n n, I i, I (IntKind.i64.wrap (i + 1))] = [.ms 1 N 0 0 n n, I i, I (i + 1 : Nat)] ∧ h1 = h1) (.need (h2 = h2) (.need ([AV.ms 1 N 0 0 (n - 1) n, .row tc 0] = [.ms 1 N 0 0 (n - 1) n, .row tc 0] ∧ h2 = h2) (.need (h2 = h2) (.need (h2 = h2)
    (.ite (!b) (.leaf (.ret, st6b k c i h2)) (.leaf (.normal, st6b k c (IntKind.i64.wrap (i + 1)) h2)))))))))))))))))))))))) (.leaf (.exit 2, st6b k c i h)) := by kernel_rfl
end Go.Proofs.YtjljigccgaadaaaDoor.Am

namespace Go.Proofs.YtjljigccgaadaaaDoor.Am
open Go
set_option maxRecDepth 100000

/-! ### Lists of sets of up to 64 numbers -/
theorem ofLoop_ints {n : Nat} : ∀ (L : List Nat) (last : Int) (acc : Nat), L.Pairwise (· < ·) → (∀ x ∈ L, x < n) → (∀ x ∈ L, last < (x : Int)) → ofLoop n (L.map Int.ofNat) last acc = some (acc ||| orL L)
  | [], last, acc, _, _, _ => by simp [ofLoop, orL]
  | x :: r, last, acc, hp, hn, hl => by
    have hx := hn x (by simp)
    have hx2 := hl x (by simp)
    have ih := ofLoop_ints (n := n) r (x : Int) (acc ||| 2 ^ x) (List.pairwise_cons.1 hp).2 (fun y hy => hn y (by simp [hy])) (fun y hy => by have := (List.pairwise_cons.1 hp).1 y hy; omega)
    rw [List.map_cons]
    unfold ofLoop
    have hc : ¬ ((Int.ofNat x ≤ last) ∨ Int.ofNat x ≥ n) := by
      show ¬ ((x : Int) ≤ last ∨ (x : Int) ≥ n)
      omega
    rw [if_neg hc]
    show ofLoop n (r.map Int.ofNat) (x : Int) (acc ||| 2 ^ (x : Int).toNat) = _
    rw [Int.toNat_natCast, ih, orL, Nat.or_assoc]
theorem bitsL_sorted (s : Nat) : (bitsL s).Pairwise (· < ·) := List.Pairwise.filter _ List.pairwise_lt_range
theorem ofL_ints64 {n : Nat} (hn : n ≤ 64) {s : Nat} (hs : s < 2 ^ n) : ofL n (ints s) = some s := by
  have hp := pow_le hn
  unfold ofL ints
  rw [ofLoop_ints (bitsL s) (-1) 0 (bitsL_sorted s) (fun x hx => ?_) (fun x _ => by omega), Nat.zero_or, orL_bitsL (by omega)]
  obtain ⟨_, hb⟩ := mem_bitsL.1 hx
  apply Classical.byContradiction
  intro hni
  rw [Nat.testBit_lt_two_pow (Nat.lt_of_lt_of_le hs (Nat.pow_le_pow_right (by omega) (by omega)))] at hb
  cases hb
theorem irr14' {σ : Heap} {g : FuncId} {caps : List AV} {f : Nat → Bool} (hf : FulAt σ g caps f) {k s : Nat} (hk : k ≤ 64) (hs : s < 2 ^ k) : ACall Tryd.prog G0 14 [I k, flL (ints s), .fn g [] caps] σ (.tup [.bool (irr (fun s => !f s) s), I 0]) σ := by
  have hp := pow_le hk
  have h := c14 (hf.ful []) (n := k) hk (L := ints s) (by have := ints_len s; omega) ()
  simp only [List.append_nil] at h
  rw [ofL_ints64 hk hs] at h
  have h2 : (irrS (badS fun (_ : Unit) s => (f s, ())) () s).1 = irr (fun s => !f s) s := (irrS_ok (f := fun s => !f s) (Good := fun _ => True) (fun st s _ => ⟨rfl, trivial⟩) (by omega) trivial).1
  simp only [h2] at h
  exact h
theorem erase_filter : ∀ (L : List Nat), L.Pairwise (· < ·) → ∀ (i : Nat) (hi : i < L.length), L.eraseIdx i = L.filter fun x => x != L[i]
  | x :: r, hp, 0, hi => by
    have h1 := (List.pairwise_cons.1 hp).1
    rw [List.eraseIdx_cons_zero, List.getElem_cons_zero, List.filter_cons, bne_self_eq_false, if_neg (by simp)]
    exact (List.filter_eq_self.2 fun y hy => by
      have := h1 y hy
      simp
      omega).symm
  | x :: r, hp, i + 1, hi => by
    have h1 := (List.pairwise_cons.1 hp).1
    have hi' : i < r.length := by simpa using hi
    have ih := erase_filter r (List.pairwise_cons.1 hp).2 i hi'
    have hne : (x != r[i]) = true := by
      have := h1 _ (List.getElem_mem hi')
      simp
      omega
    rw [List.eraseIdx_cons_succ, ih, List.filter_cons]
    simp only [List.getElem_cons_succ, hne, if_true]
/-- A set's list without one element. -/
theorem ints_erase {s : Nat} (hs : s < 2 ^ 64) {i : Nat} (hi : i < (bitsL s).length) : (ints s).eraseIdx i = ints (del s (bitsL s)[i]) := by
  have hm : (bitsL s)[i] ∈ bitsL s := List.getElem_mem hi
  have h64 := (mem_bitsL.1 hm).1
  have e : (ints s).eraseIdx i = ((bitsL s).eraseIdx i).map Int.ofNat := by
    unfold ints
    rw [List.eraseIdx_eq_take_drop_succ, List.eraseIdx_eq_take_drop_succ, List.map_append, List.map_take, List.map_drop]
  have e2 : (bitsL s).eraseIdx i = (bitsL s).filter fun x => x != (bitsL s)[i] := erase_filter (bitsL s) (bitsL_sorted s) i hi
  rw [e, e2]
  generalize hb : (bitsL s)[i] = b at h64
  unfold ints
  congr 1
  unfold bitsL
  rw [List.filter_filter]
  refine List.filter_congr fun x _ => ?_
  rw [del_bit hs h64, Bool.and_comm]
  congr 1
  by_cases h : x = b
  · simp [h]
  · simp [h]
/-! ### The closure that counts -/
section
variable {T : Tab}
def fvT (T : Tab) : AV := .fn 56 [] [.row T.cells 0]
theorem run32 (s : Nat) (tc : List AV) (b : Bool) (c : Int) : xCall Tryd.prog G0 { cl := clL [(56, [flL (ints s), .row tc 0], .bool b)] } 200 32 [flL (ints s), .ref 1 0 0, .ref 0 0 0] [true, true, true] (hI (.fn 56 [] [.row tc 0]) c) =
    .need ([flL (ints s), AV.row tc 0] = [flL (ints s), .row tc 0]) (.leaf (.bool b, true, hI (.fn 56 [] [.row tc 0]) (IntKind.i64.wrap (c + 1)))) := by kernel_rfl
def stp6 (f : Nat → Bool) : Int → Nat → Bool × Int := fun c s => (f s, IntKind.i64.wrap (c + 1))
theorem ful32 {f : Nat → Bool} (hf : ∀ σ, FulAt σ 56 [.row T.cells 0] f) : FulOk 32 [.ref 1 0 0, .ref 0 0 0] (hI (fvT T)) (stp6 f) := fun c s hs =>
  xCall_ok (n := 200) (tags := [true, true, true]) (s := true) names mixed (clokL0 (l := [(56, [flL (ints s), .row T.cells 0], .bool (f s))]) fun p hp σ => by
    rw [List.mem_singleton.1 hp]
    have := hf σ [] s hs
    simp only [List.append_nil] at this
    exact this) ((congrArg Tree.sel (run32 s T.cells (f s) c)).trans (selR.trans rfl))
theorem count6 (f : Nat → Bool) : ∀ (x s c : Nat), c + x < 4611686018427387904 → (coreLoop (badS (stp6 f)) x s (c : Int)).2 = ((c + x : Nat) : Int)
  | 0, s, c, _ => rfl
  | x + 1, s, c, h => by
    have hw : IntKind.i64.wrap ((c : Int) + 1) = ((c + 1 : Nat) : Int) := wrap_i64 (by omega) (by omega)
    unfold coreLoop
    show (coreLoop (badS (stp6 f)) x _ (IntKind.i64.wrap ((c : Int) + 1))).2 = _
    rw [hw, count6 f x _ (c + 1) (by omega)]
    congr 1
    omega
theorem core6 (f : Nat → Bool) {n : Nat} (hn : n ≤ 64) : ∃ m : Nat, (coreS (badS (stp6 f)) n 0).2 = (m : Int) ∧ m ≤ n + 1 := by
  have h1 : (badS (stp6 f) 0 (2 ^ n - 1)).2 = ((1 : Nat) : Int) := by
    show IntKind.i64.wrap (0 + 1) = _
    rw [wrap_i64 (by omega) (by omega)]
    rfl
  unfold coreS
  rw [h1]
  split
  · exact ⟨1 + n, count6 f n _ 1 (by omega), by omega⟩
  · exact ⟨1, rfl, by omega⟩
theorem core13c {f : Nat → Bool} (hf : ∀ σ, FulAt σ 56 [.row T.cells 0] f) {n : Nat} (hn : n ≤ 64) : ∃ m : Nat, m ≤ n + 1 ∧ ACall Tryd.prog G0 13 [I n, .fn 32 [] [.ref 1 0 0, .ref 0 0 0]] (hI (fvT T) 0) (.tup [flL (coreC f n), I (coreE f n)]) (hI (fvT T) m) := by
  obtain ⟨m, hm, hle⟩ := core6 f hn
  have h := c13 (ful32 hf) hn 0
  have hs := (coreS_ok (g := fun s => !f s) (stp := badS (stp6 f)) (Good := fun _ => True) (fun st s _ => ⟨rfl, trivial⟩) n (st := 0) trivial).1
  rw [hs, hm] at h
  refine ⟨m, hle, ?_⟩
  unfold coreC coreE
  cases hq : f (2 ^ n - 1) with
  | true =>
    simp only [hq, Bool.not_true, Bool.false_eq_true, if_false] at h
    exact h
  | false =>
    simp only [hq, Bool.not_false, if_true] at h
    exact h
end
/-! ### The loops -/
def upL (i : Nat) : List Int := (List.range i).map Int.ofNat
theorem upL_succ (i : Nat) : upL (i + 1) = upL i ++ [(i : Int)] := by
  unfold upL
  rw [List.range_succ, List.map_append]
  rfl
theorem upL_len (i : Nat) : (upL i).length = i := by simp [upL]
theorem clok6a (i : Int) (v v' : AV) (h h1 : Heap) : ClOk Tryd.prog G0 (E6a i v v' h h1) := .ofH rfl rfl (hApp_ok _ _ _ _ _ _).ok fun f xs t v h => by cases h
theorem loop6a {R : Option Nat → Prop} {k : Nat} (e : Int) (c : List Int) (hk : k ≤ 64) (base : Heap) : ∀ (d i : Nat), i + d = k →
    ALoopRun Tryd.prog G0 R body6a { tmps := (st6a k e c (vA base.length ((upL i).map I)) i (hG base (upL i))).a } (hG base (upL i)) (.exit 0) { tmps := (st6a k e c (vA base.length ((upL k).map I)) k (hG base (upL k))).a } (hG base (upL k))
  | 0, i, hi => by
    obtain rfl : i = k := by omega
    refine .stop (xBody_ok (m := []) names mixed (clok6a i (vA base.length ((upL i).map I)) .zs (hG base (upL i)) []) (lpNo body6a) (n := 200) (keep := [4, 5, 6, 7, 8, 9, 10, 28, 29]) (st := st6a i e c (vA base.length ((upL i).map I)) i (hG base (upL i))) (st' := st6a i e c (vA base.length ((upL i).map I)) i (hG base (upL i))) ?_).1 nofun
    refine (congrArg Tree.sel (run6a i e i c _ _ _ _)).trans ?_
    rw [selI, decide_eq_false (by omega)]
    rfl
  | d + 1, i, hi => by
    have hw : IntKind.i64.wrap ((i : Int) + 1) = ((i + 1 : Nat) : Int) := wrap_i64 (by omega) (by omega)
    have ih := loop6a (R := R) e c hk base d (i + 1) (by omega)
    have hl := upL_succ i
    have happ := append_vA el22 base ((upL i).map I) (I i) rfl (by simp [upL]; omega)
    have hm : (upL i).map I ++ [I i] = (upL i ++ [(i : Int)]).map I := by simp
    rw [hm] at happ
    refine .next (xBody_ok (m := []) names mixed (clok6a i (vA base.length ((upL i).map I)) (vA base.length ((upL i ++ [(i : Int)]).map I)) (hG base (upL i)) (hG base (upL i ++ [(i : Int)]))) (lpNo body6a) (n := 200) (keep := [4, 5, 6, 7, 8, 9, 10, 28, 29]) (st := st6a k e c (vA base.length ((upL i).map I)) i (hG base (upL i))) (st' := st6a k e c (vA base.length ((upL (i + 1)).map I)) (i + 1 : Nat) (hG base (upL (i + 1)))) ?_).1 ih
    refine (congrArg Tree.sel (run6a k e i c _ _ _ _)).trans ?_
    rw [selI, decide_eq_true (by omega), cond_true, Tree.sel_need ⟨rfl, rfl, rfl, happ⟩, hw, hl]
    rfl
end Go.Proofs.YtjljigccgaadaaaDoor.Am

namespace Go.Proofs.YtjljigccgaadaaaDoor.Am
open Go
set_option maxRecDepth 100000

def capsW : List AV := [.ref 2 0 0, .ref 0 0 0, .ref 1 0 0]
def clh65w (s : Int) (v : AV) (b : Bool) (h h1 h2 : Heap) : FuncId → List AV → Heap → Option (Tree (AV × Heap)) := fun f xs h0 => match f with
  | 44 => some (.need (xs = [U s] ∧ h0 = h) (.leaf (v, h1)))
  | 30 => some (.need (xs = v :: capsW ∧ h0 = h1) (.leaf (.bool b, h2)))
  | _ => none
def mv65 (h h1 h2 : Heap) : Nat → Option (List Nat × (Nat → Heap)) := fun id => match id with
  | 1 => some ([2, 3], hs3 h h1 h2)
  | _ => none
theorem run65w (s : Int) (v : AV) (b : Bool) (h h1 h2 : Heap) : xenter Tryd.prog { clh := clh65w s v b h h1 h2 } (xCodeM Tryd.prog G0 { clh := clh65w s v b h h1 h2 } (mv65 h h1 h2) 200 noLoops) 65 [U s, .row [.fn 30 [] capsW] 0] [true, true] h =
    .need (h = h) (.need (h = h) (.need (AV.fn 30 [] capsW = .fn 30 [] capsW ∧ h1 = h1) (.need (h = h) (.need ([U s] = [U s] ∧ h = h) (.need (h1 = h1) (.need (v :: capsW = v :: capsW ∧ h1 = h1) (.need (h2 = h2) (.need (h2 = h2) (.need (h2 = h2) (.leaf (.bool (!b), true, h2))))))))))) := by kernel_rfl
theorem c65w' {s : Int} {v : AV} {b : Bool} {h h1 h2 : Heap} (h44 : ACall Tryd.prog G0 44 [U s] h v h1) (h30 : ACall Tryd.prog G0 30 (v :: capsW) h1 (.bool b) h2) : ACall Tryd.prog G0 65 [U s, .row [.fn 30 [] capsW] 0] h (.bool (!b)) h2 := by
  obtain ⟨fn, c, k1, k2, k3⟩ := fnOf (f := 65) (by kernel_rfl)
  refine xFnM_ok (n := 200) (tags := [true, true]) (s := true) (lp := noLoops) (mv := mv65 h h1 h2) (E := { clh := clh65w s v b h h1 h2 }) names mixed (.all .none ?_ (fun l xs σ t v σ' h => (by cases h)) (fun f xs t v h => (by cases h))) k1 k2 (lpNo c) ?_
  · intro f xs σ t u σ' hq hs
    replace hq : clh65w s v b h h1 h2 f xs σ = some t := hq
    unfold clh65w at hq
    split at hq <;> first | (cases hq; done) | skip
    all_goals cases hq
    · obtain ⟨⟨rfl, rfl⟩, hs2⟩ := Tree.of_need hs
      cases hs2
      exact h44
    · obtain ⟨⟨rfl, rfl⟩, hs2⟩ := Tree.of_need hs
      cases hs2
      exact h30
  · rw [run65w, selR, selR, Tree.sel_need ⟨rfl, rfl⟩, selR, Tree.sel_need ⟨rfl, rfl⟩, selR, Tree.sel_need ⟨rfl, rfl⟩, selR, selR, selR]
    rfl
def hW (k : Int) (fv : AV) : Heap := [.cells 0 [I k], .cells 0 [fv], .cells 0 [.bool true]]
theorem wildW (k : Int) (fv : AV) (X : Heap) : Wild (hW k fv ++ X) k fv := ⟨rfl, rfl, rfl⟩
theorem ints_in {s k : Nat} (hs : s < 2 ^ k) : ∀ x ∈ ints s, 0 ≤ x ∧ x < (k : Int) := fun x hx => by
  obtain ⟨b, hb, rfl⟩ := List.mem_map.1 hx
  obtain ⟨_, h2⟩ := mem_bitsL.1 hb
  have : b < k := by
    apply Classical.byContradiction
    intro hni
    rw [Nat.testBit_lt_two_pow (Nat.lt_of_lt_of_le hs (Nat.pow_le_pow_right (by omega) (by omega)))] at h2
    cases h2
  show 0 ≤ (b : Int) ∧ (b : Int) < k
  omega
theorem ints_sorted (s : Nat) : (ints s).Pairwise (· < ·) := by
  unfold ints
  rw [List.pairwise_map]
  exact (bitsL_sorted s).imp fun h => by
    show ((_ : Nat) : Int) < ((_ : Nat) : Int)
    omega
theorem hasW {T : Tab} (hb : T.bad.length < 4611686018427387904) {f : Nat → Bool} (hff : ∀ s : Nat, T.ful (s : Nat) = f s) (k : Nat) : HasAt (hW k (.fn 56 [] [.row T.cells 0])) 65 [.row [.fn 30 [] capsW] 0] (fun s => !f s) (2 ^ k) := by
  intro X s hs h64
  have h44 := c44n h64 (hW k (.fn 56 [] [.row T.cells 0]) ++ X)
  have e : cI (bitsL s) = (ints s).map I := by unfold cI ints; rw [List.map_map]; rfl
  rw [e] at h44
  have hlen := ints_len s
  by_cases hz : (ints s).length = 0
  · have hnil : ints s = [] := List.length_eq_zero_iff.1 hz
    have h56 := c56v hb h64 (h := hW k (.fn 56 [] [.row T.cells 0]) ++ X) (r := 0) (fun hne => absurd hnil hne)
    rw [hff, hnil] at h56
    rw [hnil] at h44
    have eh : hW k (.fn 56 [] [.row T.cells 0]) ++ X ++ oA (([] : List Int).map I) = hW k (.fn 56 [] [.row T.cells 0]) ++ X := by simp [oA]
    rw [eh] at h44
    exact c65w' h44 (c30z rfl h56)
  · obtain ⟨v1, v2⟩ := vA_lv (hW k (.fn 56 [] [.row T.cells 0]) ++ X).length ((ints s).map I) (by rw [List.length_map]; omega)
    rw [List.length_map] at v1 v2
    rw [v1, v2] at h44
    have h56 := c56v hb h64 (h := hW k (.fn 56 [] [.row T.cells 0]) ++ X ++ [.cells ((ints s).length - 1) ((ints s).map I)]) (r := (hW k (.fn 56 [] [.row T.cells 0]) ++ X).length) (fun _ => by simp)
    rw [hff, v1] at h56
    have h30 := c30 (k := k) (ints_in hs) (ints_sorted s) (by omega) (by omega) (by rw [List.append_assoc]; exact wildW _ _ _) (by simp [hW]) h56
    exact (c65w' h44 h30).forget (.bool _)
end Go.Proofs.YtjljigccgaadaaaDoor.Am

namespace Go.Proofs.YtjljigccgaadaaaDoor.Am
open Go
set_option maxRecDepth 100000

/-- Functions of which one outcome is told; that it is so, is asked at each call. -/
def clV : List (FuncId × AV) → FuncId → List AV → Heap → Option (Tree (AV × Heap))
  | [], _, _, _ => none
  | (g, v) :: r, f, xs, h => if f = g then some (.need (ACall Tryd.prog G0 g xs h v h) (.leaf (v, h))) else clV r f xs h
theorem clV_ok : ∀ (l : List (FuncId × AV)), ClH (clV l)
  | [], f, xs, σ, t, u, σ', hq, _ => by cases hq
  | (g, v) :: r, f, xs, σ, t, u, σ', hq, hs => by
    unfold clV at hq
    split at hq
    · rename_i hf
      subst hf
      cases hq
      obtain ⟨h1, hs2⟩ := Tree.of_need hs
      cases hs2
      exact h1
    · exact clV_ok r f xs σ t u σ' hq hs
noncomputable def body5b : Code := (loopsOf (bodyOf Tryd.prog 5)).headD .skip
def st5b (k s : Int) (rep : List (List Int)) (v : AV) (i : Int) (h : Heap) : St := .of 151 h [(2, .int .u8 s, true), (6, .bool false, false), (7, .ref 0 0 0, true), (8, .ref 1 0 0, true), (9, .ref 2 0 0, true), (10, .fn 30 [] capsW, true), (12, I 0, true), (14, I 0, true), (15, flLL rep, true), (17, flLL rep, true), (19, v, true), (91, I k, true), (92, I i, true)]
def keep5 : List Nat := [2, 6, 7, 8, 9, 10, 12, 14, 15, 17, 19, 91, 92]
def e5 (tv fv : AV) (all rep : List (List Int)) (c L : List Int) (e : Int) (is : Bool) : List (FuncId × AV) :=
  [(29, tv), (21, fv), (13, .tup [flL c, I e]), (15, .tup [flLL all, I 0]), (16, .tup [flLL rep, I 0]), (14, .tup [.bool is, I 0]), (31, flL L), (26, .bool true), (18, .bool true), (20, .bool true)]
def E5 (l : List (FuncId × AV)) (k : Int) (fv : AV) : Env := { clh := clV l, hint := orH hShift (orH (hLd 3 (I k)) (orH (hLd 23 fv) (hLd 4 (.bool true)))) }
def lp5 (k s : Int) (rep : List (List Int)) (lv : AV) (h h2 : Heap) : Loops := fun id => match id with
  | 15 => some (keep5, st5b k s rep .zs 0 h, .leaf (.exit 0, st5b k s rep lv k h2))
  | _ => none
def mv5 (h2 : Heap) : Nat → Option (List Nat × (Nat → Heap)) := fun id => match id with
  | 22 => some ([], fun _ => h2)
  | _ => none
def cA5 (f : FuncId) (xs : List AV) (v : AV) (h : Heap) (x : Tree (AV × Bool × Heap)) : Tree (AV × Bool × Heap) := .need (ACall Tryd.prog G0 f xs h v h) x
theorem run5 (n b s : Int) (tv : AV) (tc : List AV) (all rep : List (List Int)) (c L : List Int) (e : Int) (is : Bool) (lv : AV) (h2 : Heap) : xenter Tryd.prog (E5 (e5 tv (.fn 56 [] [.row tc 0]) all rep c L e is) (rem7 n) (.fn 56 [] [.row tc 0])) (xCodeM Tryd.prog G0 (E5 (e5 tv (.fn 56 [] [.row tc 0]) all rep c L e is) (rem7 n) (.fn 56 [] [.row tc 0])) (mv5 h2) 200 (lp5 (rem7 n) s rep lv (hW (rem7 n) (.fn 56 [] [.row tc 0])) h2)) 5 [.int .u8 n, U b, .int .u8 s] [true, true, true] [] =
    cA5 29 [U b] tv [.cells 0 [I (rem7 n)]] (cA5 21 [tv] (.fn 56 [] [.row tc 0]) [.cells 0 [I (rem7 n)]] (.need (objAt (hW (rem7 n) (.fn 56 [] [.row tc 0])) 0 0 = some [I (rem7 n)]) (cA5 13 [I (rem7 n), .fn 30 [] capsW] (.tup [flL c, I e]) (hW (rem7 n) (.fn 56 [] [.row tc 0])) (.need (objAt (hW (rem7 n) (.fn 56 [] [.row tc 0])) 0 0 = some [I (rem7 n)]) (.need (objAt (hW (rem7 n) (.fn 56 [] [.row tc 0])) 1 0 = some [(.fn 56 [] [.row tc 0])]) (cA5 13 [I (rem7 n), .fn 56 [] [.row tc 0]] (.tup [flL c, I e]) (hW (rem7 n) (.fn 56 [] [.row tc 0])) (.need (objAt (hW (rem7 n) (.fn 56 [] [.row tc 0])) 0 0 = some [I (rem7 n)]) (cA5 15 [I (rem7 n), .fn 30 [] capsW] (.tup [flLL all, I 0]) (hW (rem7 n) (.fn 56 [] [.row tc 0])) (.need (objAt (hW (rem7 n) (.fn 56 [] [.row tc 0])) 0 0 = some [I (rem7 n)]) (.need (objAt (hW (rem7 n) (.fn 56 [] [.row tc 0])) 1 0 = some [(.fn 56 [] [.row tc 0])]) (cA5 15 [I (rem7 n), .fn 56 [] [.row tc 0]] (.tup [flLL all, I 0]) (hW (rem7 n) (.fn 56 [] [.row tc 0])) (.need (objAt (hW (rem7 n) (.fn 56 [] [.row tc 0])) 2 0 = some [.bool true]) (.ite (!true) (tF (hW (rem7 n) (.fn 56 [] [.row tc 0]))) (.ite (e != e) (tF (hW (rem7 n) (.fn 56 [] [.row tc 0]))) (cA5 26 [flL c, flL c] (.bool true) (hW (rem7 n) (.fn 56 [] [.row tc 0])) (.ite (!true) (tF (hW (rem7 n) (.fn 56 [] [.row tc 0]))) (.ite ((0 : Int) != 0) (tF (hW (rem7 n) (.fn 56 [] [.row tc 0]))) (cA5 18 [flLL all, flLL all] (.bool true) (hW (rem7 n) (.fn 56 [] [.row tc 0])) (.ite (!true) (tF (hW (rem7 n) (.fn 56 [] [.row tc 0]))) (.need (objAt (hW (rem7 n) (.fn 56 [] [.row tc 0])) 0 0 = some [I (rem7 n)]) (cA5 16 [I (rem7 n), .fn 30 [] capsW] (.tup [flLL rep, I 0]) (hW (rem7 n) (.fn 56 [] [.row tc 0])) (.need (objAt (hW (rem7 n) (.fn 56 [] [.row tc 0])) 0 0 = some [I (rem7 n)]) (.need (objAt (hW (rem7 n) (.fn 56 [] [.row tc 0])) 1 0 = some [(.fn 56 [] [.row tc 0])]) (cA5 16 [I (rem7 n), .fn 56 [] [.row tc 0]] (.tup [flLL rep, I 0]) (hW (rem7 n) (.fn 56 [] [.row tc 0])) (.need (objAt (hW (rem7 n) (.fn 56 [] [.row tc 0])) 0 0 = some [I (rem7 n)]) (.need ((st5b (rem7 n) s rep .zs 0 (hW (rem7 n) (.fn 56 [] [.row tc 0]))).vals = (st5b (rem7 n) s rep .zs 0 (hW (rem7 n) (.fn 56 [] [.row tc 0]))).vals) (cA5 31 [lv] (flL L) h2 (.need (objAt h2 0 0 = some [I (rem7 n)]) (cA5 14 [I (rem7 n), lv, .fn 30 [] capsW] (.tup [.bool is, I 0]) h2 (.need (h2 = h2) (.need (objAt h2 0 0 = some [I (rem7 n)]) (.need (h2 = h2) (.need (h2 = h2) (cA5 31 [flL L] (flL L) h2 (.need (h2 = h2) (.need (objAt h2 1 0 = some [(.fn 56 [] [.row tc 0])]) (.need (h2 = h2) (cA5 14 [I (rem7 n), flL L, .fn 56 [] [.row tc 0]] (.tup [.bool is, I 0]) h2 (.need (h2 = h2) (.need (h2 = h2) (.need (h2 = h2) (.need (h2 = h2) (.need (h2 = h2) (.need (h2 = h2) (.need (objAt h2 2 0 = some [.bool true]) (.ite (true) (.ite ((0 : Int) == 0) (cA5 18 [flLL rep, flLL rep] (.bool true) h2 (.ite (true) (.ite (is == is) (.ite ((0 : Int) == 0) (cA5 26 [lv, flL L] (.bool true) h2 (.ite (true) (cA5 20 [] (.bool true) h2 (.leaf (.bool true, true, h2))) (tF h2))) (tF h2)) (tF h2)) (tF h2))) (tF h2)) (tF h2))))))))))))))))))))))))))))))))))))))))))))))) := by kernel_rfl
theorem run5b (k s i : Nat) (rep : List (List Int)) (v v' : AV) (h h1 : Heap) : xBody Tryd.prog G0 (E4b i v v' h h1) 200 noLoops keep5 body5b (st5b k s rep v i h) =
    .ite (decide ((i : Int) < k)) (.need (0 ≤ (i : Int)) (.ite (bitU s i) (.need (some ([v, .sl 1 [[I i]]] : List AV) = some [v, .sl 1 [[I i]]] ∧ #[22, 22] = #[22, 22] ∧ h = h ∧ aAppend Tryd.prog h 22 22 v (.sl 1 [[I i]]) = some (v', h1)) (.leaf (.normal, st5b k s rep v' (IntKind.i64.wrap (i + 1)) h1)))
      (.leaf (.normal, st5b k s rep v (IntKind.i64.wrap (i + 1)) h)))) (.leaf (.exit 0, st5b k s rep v i h)) := by kernel_rfl
end Go.Proofs.YtjljigccgaadaaaDoor.Am

