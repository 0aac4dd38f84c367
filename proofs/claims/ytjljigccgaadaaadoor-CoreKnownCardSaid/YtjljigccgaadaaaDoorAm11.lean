/-
  This file proves nothing of a law. It holds the rule for a statement that leaves its order open while the heap stays as it is: one walk in the order of the text serves every order. No condition.
-/
import Derived.Test.YtjljigccgaadaaaDoorAm10
namespace Go.Proofs.YtjljigccgaadaaaDoor.Am
open Go

/-! ### Who waits for whom -/
def mask1 (acc : List Nat) (o : Oper) : Nat := o.after.toList.foldl (fun s e => if Region.binds .any e then s ||| (2 ^ e.on ||| acc.getD e.on 0) else s) 0
def befores : List Oper → List Nat → List Nat
  | [], acc => acc
  | o :: r, acc => befores r (acc ++ [mask1 acc o])

theorem foldl_mask {acc : List Nat} {j : Nat} : ∀ (l : List Edge) (s : Nat), (l.foldl (fun s e => if Region.binds .any e then s ||| (2 ^ e.on ||| acc.getD e.on 0) else s) s).testBit j = true →
    s.testBit j = true ∨ ∃ e ∈ l, Region.binds .any e = true ∧ (j = e.on ∨ (acc.getD e.on 0).testBit j = true)
  | [], s, h => .inl h
  | e :: l, s, h => by
    rw [List.foldl_cons] at h
    rcases foldl_mask l _ h with h1 | ⟨e', he', hb, hj⟩
    · split at h1
      · rename_i hb
        rw [Nat.testBit_or, Nat.testBit_or, Bool.or_eq_true, Bool.or_eq_true] at h1
        rcases h1 with h1 | h1 | h1
        · exact .inl h1
        · rw [Nat.testBit_two_pow] at h1
          exact .inr ⟨e, by simp, hb, .inl (by have := of_decide_eq_true h1; omega)⟩
        · exact .inr ⟨e, by simp, hb, .inr h1⟩
      · exact .inl h1
    · exact .inr ⟨e', by simp [he'], hb, hj⟩

/-- Listed: closed under what an operation waits for. -/
def Closed (ops : List Oper) (listed : Nat → Bool) : Prop := ∀ (i : Nat) (o : Oper), ops[i]? = some o → listed i = true → ∀ e ∈ o.after, Region.binds .any e = true → listed e.on = true

theorem befores_length : ∀ (l : List Oper) (acc : List Nat), (befores l acc).length = acc.length + l.length
  | [], _ => rfl
  | o :: r, acc => by rw [befores, befores_length r]; simp; omega
theorem befores_keep : ∀ (l : List Oper) (acc : List Nat) (i : Nat), i < acc.length → (befores l acc).getD i 0 = acc.getD i 0
  | [], _, _, _ => rfl
  | o :: r, acc, i, h => by
    rw [befores, befores_keep r _ i (by simp; omega)]
    simp only [List.getD_eq_getElem?_getD, List.getElem?_append_left h]

/-- What the masks say of every closed listing. -/
theorem befores_ok {ops : List Oper} : ∀ (l : List Oper) (acc : List Nat), (∀ k, (acc.length + k < ops.length → l[k]? = ops[acc.length + k]?)) → acc.length + l.length = ops.length →
    (∀ (i : Nat), i < acc.length → ∀ o, ops[i]? = some o → ∀ (listed : Nat → Bool), Closed ops listed → (∀ e ∈ o.after, Region.binds .any e = true → listed e.on = true) → ∀ j, (acc.getD i 0).testBit j = true → listed j = true) →
    ∀ (i : Nat), i < ops.length → ∀ o, ops[i]? = some o → ∀ (listed : Nat → Bool), Closed ops listed → (∀ e ∈ o.after, Region.binds .any e = true → listed e.on = true) → ∀ j, ((befores l acc).getD i 0).testBit j = true → listed j = true
  | [], acc, _, hlen, h => by
    intro i hi
    simp at hlen
    exact h i (by omega)
  | o :: r, acc, hl, hlen, h => by
    rw [befores]
    simp only [List.length_cons] at hlen
    refine befores_ok r (acc ++ [mask1 acc o]) (fun k hk => ?_) (by simp; omega) ?_
    · have := hl (k + 1) (by simp at hk; omega)
      simp only [List.getElem?_cons_succ] at this
      rw [this]
      congr 1
      simp
      omega
    · intro i hi o' ho' listed hc hp j hj
      simp only [List.length_append, List.length_singleton] at hi
      by_cases hlt : i < acc.length
      · have : (acc ++ [mask1 acc o]).getD i 0 = acc.getD i 0 := by
          simp only [List.getD_eq_getElem?_getD, List.getElem?_append_left hlt]
        rw [this] at hj
        exact h i hlt o' ho' listed hc hp j hj
      · have hieq : i = acc.length := by omega
        subst hieq
        have : (acc ++ [mask1 acc o]).getD acc.length 0 = mask1 acc o := by
          simp [List.getD_eq_getElem?_getD]
        rw [this] at hj
        have ho : o' = o := by
          have := hl 0 (by omega)
          simp only [List.getElem?_cons_zero, Nat.add_zero] at this
          rw [← this] at ho'
          exact (Option.some.inj ho').symm
        subst ho
        rcases foldl_mask _ _ hj with h0 | ⟨e, he, hb, hje⟩
        · simp at h0
        · have hle := hp e (by simpa using he) hb
          rcases hje with rfl | hje
          · exact hle
          · by_cases hel : e.on < acc.length
            · cases hoe : ops[e.on]? with
              | none => rw [List.getElem?_eq_none_iff] at hoe; omega
              | some oe => exact h e.on hel oe hoe listed hc (hc e.on oe hoe hle) j hje
            · have : acc.getD e.on 0 = 0 := by
                simp only [List.getD_eq_getElem?_getD]
                rw [List.getElem?_eq_none (by omega)]
                rfl
              rw [this] at hje
              simp at hje

/-- The temporary that the j-th operation writes. -/
def dstAt (ops : List Oper) (j : Nat) : Option Tmp := match ops[j]? with | some o => o.dst | none => none

/-- No two operations write one temporary; who must come before, stands before in the text. -/
def okDraw (ops : List Oper) : Bool :=
  ((List.range ops.length).all fun i => (List.range ops.length).all fun j => i == j || dstAt ops i == none || dstAt ops i != dstAt ops j) &&
  ((List.range ops.length).all fun i => match ops[i]? with
    | some o => o.after.toList.all fun e => !Region.binds .any e || decide (e.on < i)
    | none => true)
/-- Whoever in the piece from b to b+n looks at a temporary that another one of it writes, is in order with it. -/
def okStill (ops : List Oper) (b n : Nat) : Bool :=
  let m := befores ops []
  (List.range n).all fun i => (List.range n).all fun j =>
    i == j || (match ops[b + i]?, dstAt ops (b + j) with
      | some o, some t => !(o.looksAt ops.toArray).contains t || (if j < i then (m.getD (b + i) 0).testBit (b + j) else (m.getD (b + j) 0).testBit (b + i))
      | _, _ => true)
/-- All from b on wait for all before b. -/
def okFence (ops : List Oper) (b : Nat) : Bool :=
  let m := befores ops []
  (List.range ops.length).all fun i => decide (i < b) || (List.range b).all fun j => (m.getD i 0).testBit j

/-- The temporaries that matter, the others of no known value. -/
def masked (L : List Tmp) (a : List AV) : List AV := a.mapIdx fun t x => if L.contains t then x else .junk

section
variable {P : Program} {G : Nat → Option (List AV)} {σ : Heap}

/-- The walk in the order of the text; every operation sees of the frame what it looks at. -/
inductive AOpsD (P : Program) (G : Nat → Option (List AV)) (σ : Heap) (ops : Array Oper) (marks : List Nat) : List Oper → List AV → List AV → Prop where
  | nil (a : List AV) : AOpsD P G σ ops marks [] a a
  | step {o : Oper} {rest : List Oper} {a a' : List AV} {y : AV} (hw : awanted ops (masked (o.looksAt ops) a) o = some true) (h : AStep P G { tmps := masked (o.looksAt ops) a, marks := marks } σ o y σ)
      (k : AOpsD P G σ ops marks rest (AAct.put { tmps := a } o.dst y).tmps a') : AOpsD P G σ ops marks (o :: rest) a a'
  | skip {o : Oper} {rest : List Oper} {a a' : List AV} (hw : awanted ops (masked (o.looksAt ops) a) o = some false)
      (k : AOpsD P G σ ops marks rest (AAct.put { tmps := a } o.dst (.tup [])).tmps a') : AOpsD P G σ ops marks (o :: rest) a a'

/-- What one operation is worth, wherever it comes. -/
def Worth (P : Program) (G : Nat → Option (List AV)) (σ : Heap) (ops : Array Oper) (marks : List Nat) (o : Oper) (v : List AV) (y : AV) : Prop :=
  (awanted ops v o = some true ∧ AStep P G { tmps := v, marks := marks } σ o y σ) ∨ (awanted ops v o = some false ∧ y = .tup [])

/-- The frame, the operations of a listing carried out. -/
def frameAt (ops : List Oper) (vals : List AV) (a0 : List AV) (listed : Nat → Bool) (t : Nat) : Option AV :=
  match (List.range ops.length).find? fun j => dstAt ops j == some t with
  | some j => if listed j then (if t < a0.length then vals[j]? else none) else a0[t]?
  | none => a0[t]?

theorem put_get {a : List AV} {dst : Option Tmp} {y : AV} (t : Nat) : (AAct.put { tmps := a } dst y).tmps[t]? = if dst = some t then (if t < a.length then some y else none) else a[t]? := by
  cases dst with
  | none => simp [AAct.put]
  | some d =>
    simp only [AAct.put]
    by_cases h : d = t
    · subst h
      rw [if_pos rfl]
      split
      · rename_i hlt; rw [List.getElem?_set_self hlt]
      · rename_i hlt; rw [List.getElem?_eq_none (by simp; omega)]
    · rw [if_neg (fun e => h (Option.some.inj e)), List.getElem?_set_ne h]
theorem put_length {a : List AV} {dst : Option Tmp} {y : AV} : (AAct.put { tmps := a } dst y).tmps.length = a.length := by
  cases dst <;> simp [AAct.put]

/-- No two operations write one temporary. -/
def Apart (ops : List Oper) : Prop := ∀ (i j : Nat) (t : Tmp), dstAt ops i = some t → dstAt ops j = some t → i = j

theorem frameAt_of {ops : List Oper} (hap : Apart ops) {vals a0 : List AV} {listed : Nat → Bool} {t j : Nat} (hj : dstAt ops j = some t) : frameAt ops vals a0 listed t = if listed j then (if t < a0.length then vals[j]? else none) else a0[t]? := by
  unfold frameAt
  split
  · rename_i j' hf
    have h1 := List.find?_some hf
    have : j' = j := hap j' j t (by simpa using h1) hj
    subst this
    rfl
  · rename_i hf
    rw [List.find?_eq_none] at hf
    have hlt : j < ops.length := by
      rcases Nat.lt_or_ge j ops.length with h | h
      · exact h
      · unfold dstAt at hj; rw [List.getElem?_eq_none h] at hj; cases hj
    exact absurd (by simpa using hj) (by simpa using hf j (by simpa using hlt))
theorem frameAt_none {ops : List Oper} {vals a0 : List AV} {listed : Nat → Bool} {t : Nat} (h : ∀ j : Nat, dstAt ops j ≠ some t) : frameAt ops vals a0 listed t = a0[t]? := by
  unfold frameAt
  split
  · rename_i j hf
    have h1 := List.find?_some hf
    exact absurd (by simpa using h1) (h j)
  · rfl

theorem frameAt_congr {ops : List Oper} {vs vs' a0 : List AV} {l l' : Nat → Bool} {t : Nat} (h : ∀ j, dstAt ops j = some t → (l j = l' j ∧ (l j = true → vs[j]? = vs'[j]?))) : frameAt ops vs a0 l t = frameAt ops vs' a0 l' t := by
  unfold frameAt
  split
  · rename_i j hf
    have h1 := List.find?_some hf
    obtain ⟨h2, h3⟩ := h j (by simpa using h1)
    rw [← h2]
    split
    · rename_i hl; rw [h3 hl]
    · rfl
  · rfl

/-- The walk gives a value to each operation. -/
theorem AOpsD.vals {ops : List Oper} {marks : List Nat} (hap : Apart ops) {a0 : List AV} {b : Nat} : ∀ {l : List Oper} {a a' : List AV}, AOpsD P G σ ops.toArray marks l a a' → ∀ (pre : List AV), b ≤ pre.length → pre.length + l.length ≤ ops.length →
    (∀ k, k < l.length → l[k]? = ops[pre.length + k]?) → a.length = a0.length → (∀ t, a[t]? = frameAt ops pre a0 (fun j => decide (b ≤ j ∧ j < pre.length)) t) →
    ∃ vs : List AV, vs.length = pre.length + l.length ∧ (∀ i, i < pre.length → vs[i]? = pre[i]?) ∧ a'.length = a0.length ∧ (∀ t, a'[t]? = frameAt ops vs a0 (fun j => decide (b ≤ j ∧ j < vs.length)) t) ∧
      ∀ i o, pre.length ≤ i → i < vs.length → ops[i]? = some o → ∃ (v : List AV) (y : AV), vs[i]? = some y ∧ v.length = a0.length ∧ Worth P G σ ops.toArray marks o v y ∧
        ∀ t x, v[t]? = some x → x = .junk ∨ ((o.looksAt ops.toArray).contains t = true ∧ frameAt ops vs a0 (fun j => decide (b ≤ j ∧ j < i)) t = some x) := by
  intro l a a' h
  have main : ∀ {o : Oper} {rest : List Oper} {a a' : List AV} {y : AV}, Worth P G σ ops.toArray marks o (masked (o.looksAt ops.toArray) a) y →
      (∀ (pre : List AV), b ≤ pre.length → pre.length + rest.length ≤ ops.length →
        (∀ k, k < rest.length → rest[k]? = ops[pre.length + k]?) → (AAct.put { tmps := a } o.dst y).tmps.length = a0.length → (∀ t, (AAct.put { tmps := a } o.dst y).tmps[t]? = frameAt ops pre a0 (fun j => decide (b ≤ j ∧ j < pre.length)) t) →
        ∃ vs : List AV, vs.length = pre.length + rest.length ∧ (∀ i, i < pre.length → vs[i]? = pre[i]?) ∧ a'.length = a0.length ∧ (∀ t, a'[t]? = frameAt ops vs a0 (fun j => decide (b ≤ j ∧ j < vs.length)) t) ∧
          ∀ i o, pre.length ≤ i → i < vs.length → ops[i]? = some o → ∃ (v : List AV) (y : AV), vs[i]? = some y ∧ v.length = a0.length ∧ Worth P G σ ops.toArray marks o v y ∧
            ∀ t x, v[t]? = some x → x = .junk ∨ ((o.looksAt ops.toArray).contains t = true ∧ frameAt ops vs a0 (fun j => decide (b ≤ j ∧ j < i)) t = some x)) →
      ∀ (pre : List AV), b ≤ pre.length → pre.length + (o :: rest).length ≤ ops.length →
        (∀ k, k < (o :: rest).length → (o :: rest)[k]? = ops[pre.length + k]?) → a.length = a0.length → (∀ t, a[t]? = frameAt ops pre a0 (fun j => decide (b ≤ j ∧ j < pre.length)) t) →
        ∃ vs : List AV, vs.length = pre.length + (o :: rest).length ∧ (∀ i, i < pre.length → vs[i]? = pre[i]?) ∧ a'.length = a0.length ∧ (∀ t, a'[t]? = frameAt ops vs a0 (fun j => decide (b ≤ j ∧ j < vs.length)) t) ∧
          ∀ i o, pre.length ≤ i → i < vs.length → ops[i]? = some o → ∃ (v : List AV) (y : AV), vs[i]? = some y ∧ v.length = a0.length ∧ Worth P G σ ops.toArray marks o v y ∧
            ∀ t x, v[t]? = some x → x = .junk ∨ ((o.looksAt ops.toArray).contains t = true ∧ frameAt ops vs a0 (fun j => decide (b ≤ j ∧ j < i)) t = some x) := by
    intro o rest a a' y hwo ih pre hb hlen hl hal ha
    simp only [List.length_cons] at hlen hl
    have ho : ops[pre.length]? = some o := by have := hl 0 (by omega); simpa using this.symm
    have key := ih (pre ++ [y]) (by simp; omega) (by simp; omega) (fun k hk => by have := hl (k + 1) (by omega); simp only [List.getElem?_cons_succ] at this; rw [this]; congr 1; simp; omega) (by rw [put_length]; exact hal) (fun t => ?_)
    · obtain ⟨vs, h1, h2, h3, h4, h5⟩ := key
      simp only [List.length_append, List.length_singleton] at h1 h2
      refine ⟨vs, by rw [h1]; simp; omega, fun i hi => ?_, h3, h4, fun i o' hi hi' ho' => ?_⟩
      · rw [h2 i (by omega), List.getElem?_append_left hi]
      · by_cases hie : i = pre.length
        · subst hie
          rw [ho] at ho'
          cases ho'
          refine ⟨masked (o.looksAt ops.toArray) a, y, ?_, by simp [masked, hal], hwo, fun t x hx => ?_⟩
          · rw [h2 _ (by omega)]; simp
          · simp only [masked, List.getElem?_mapIdx, Option.map_eq_some_iff] at hx
            obtain ⟨x0, hx0, rfl⟩ := hx
            split
            · rename_i hc
              refine .inr ⟨hc, ?_⟩
              rw [ha t] at hx0
              rw [← hx0]
              exact frameAt_congr fun j _ => ⟨rfl, fun hj => by
                have hj := of_decide_eq_true hj
                rw [h2 j (by omega), List.getElem?_append_left hj.2]⟩
            · exact .inl rfl
        · exact h5 i o' (by simp; omega) hi' ho'
    · rw [put_get]
      by_cases hd : o.dst = some t
      · rw [if_pos hd]
        have hdj : dstAt ops pre.length = some t := by unfold dstAt; rw [ho]; exact hd
        rw [frameAt_of hap hdj]
        simp [hal, hb]
      · rw [if_neg hd, ha t]
        refine frameAt_congr fun j hj => ?_
        have hne : j ≠ pre.length := fun e => by
          subst e
          unfold dstAt at hj
          rw [ho] at hj
          exact hd hj
        refine ⟨?_, fun hl => ?_⟩
        · apply decide_eq_decide.2
          simp only [List.length_append, List.length_singleton]
          omega
        · have hl := of_decide_eq_true hl
          rw [List.getElem?_append_left hl.2]
  induction h with
  | nil a =>
    intro pre hb hlen _ hal ha
    refine ⟨pre, rfl, fun _ _ => rfl, hal, fun t => by rw [ha t], fun i o hi hi' ho => ?_⟩
    omega
  | step hw hs _ ih => exact main (.inl ⟨hw, hs⟩) ih
  | skip hw _ ih => exact main (.inr ⟨hw, rfl⟩) ih
end
end Go.Proofs.YtjljigccgaadaaaDoor.Am
