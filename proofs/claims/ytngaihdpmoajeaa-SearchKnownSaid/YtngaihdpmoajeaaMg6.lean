/-
  This file proves nothing of a law. It holds lemmas, of 4 texts in their order. No condition of its own.
-/
import Derived.Test.YtngaihdpmoajeaaMg5
namespace Go.Proofs.Ytngaihdpmoajeaa.Am
open Go
set_option maxRecDepth 100000

/-- A slice type whose elements are s cells. -/
structure ElemS (t e : TypeId) (s : Nat) : Prop where
  u : Try.prog.underlying t = some (.slice e)
  i : ∃ ie zx, Try.prog.info? e = some ie ∧ aZero Try.prog e = some zx ∧ ie.size = s ∧ ie.bytes ≤ 65536 ∧ zx.cells.length = s ∧ zx.cells.all AV.one = true
theorem elemS {t e : TypeId} {s : Nat} (hu : Try.prog.underlying t = some (.slice e)) (h1 : (Try.prog.info? e).map (fun i => (i.size, decide (i.bytes ≤ 65536))) = some (s, true)) (h2 : (aZero Try.prog e).map (fun z => (z.cells.length, z.cells.all AV.one)) = some (s, true)) : ElemS t e s := by
  obtain ⟨ie, e1, e2⟩ := Option.map_eq_some_iff.1 h1
  obtain ⟨zx, e3, e4⟩ := Option.map_eq_some_iff.1 h2
  simp only [Prod.mk.injEq, decide_eq_true_eq] at e2 e4
  exact ⟨hu, ie, zx, e1, e3, e2.1, e2.2, e4.1, e4.2⟩
theorem els22 : ElemS 22 3 1 := elemS Try.underlying22 (by kernel_rfl) (by kernel_rfl)
theorem els23 : ElemS 23 22 1 := elemS Try.underlying23 (by kernel_rfl) (by kernel_rfl)
theorem els24 : ElemS 24 56 4 := elemS Try.underlying24 (by kernel_rfl) (by kernel_rfl)
/-- A slice that grows, as its variable holds it (r: its place), and what lies at its place. -/
def sV (s r : Nat) : List (List AV) → AV
  | [] => .zs
  | _ :: l => .ms s r l.length 0 (l.length + 1) (l.length + 1)
def sO : List (List AV) → AObj
  | [] => .resv
  | x :: l => .cells l.length (x :: l).flatten
theorem flatS_len {s : Nat} : ∀ {L : List (List AV)}, (∀ r ∈ L, r.length = s) → L.flatten.length = L.length * s
  | [], _ => by simp
  | x :: l, h => by
    rw [List.flatten_cons, List.length_append, flatS_len fun r hr => h r (by simp [hr]), h x (by simp), List.length_cons, Nat.succ_mul]
    omega
theorem Inv.belowObj {G : Nat → Option (List AV)} {w : World} {M : Map} {σ : Heap} (hi : Inv G w M σ) {q : Nat} {o : AObj} (ho : σ[q]? = some o) : (∀ g c, o = .cells g c → ∀ x ∈ c, Below σ.length x) ∧ ∀ A, o = .loop A → (∀ x ∈ A.tmps, Below σ.length x) ∧ A.defers < σ.length ∧ σ[A.defers]? ≠ some .resv := by
  have hn : ∀ r p, M r = some p → r < σ.length := hi.dom
  constructor
  · rintro g c rfl x hx
    obtain ⟨b, cs, e, _, _, _, h4⟩ := hi.cells q g c ho
    obtain ⟨j, hj, rfl⟩ := List.mem_iff_getElem.1 hx
    exact (h4 j _ (List.getElem?_eq_getElem hj)).isBelow hn
  · rintro A rfl
    obtain ⟨b, L, _, _, h3⟩ := hi.loop q A ho
    refine ⟨fun x hx => ?_, hn _ _ h3.defers.1, fun hr => ?_⟩
    · obtain ⟨j, hj, rfl⟩ := List.mem_iff_getElem.1 hx
      exact (h3.tmps j _ (List.getElem?_eq_getElem hj)).isBelow hn
    · have := hi.resv _ hr
      rw [h3.defers.1] at this
      cases this
/-- The last object, moved to a place that was kept for it. -/
def slotP (n r : Nat) : Nat → Option Nat := fun q => if q = r then some n else if q < n then some q else none
theorem slotP_at {n r : Nat} : slotP n r r = some n := by simp [slotP]
theorem slotP_ne {n r q : Nat} (h : q ≠ r) (hq : q < n) : slotP n r q = some q := by simp [slotP, h, hq]
theorem slotP_some {n r q z : Nat} (h : slotP n r q = some z) : (q = r ∧ z = n) ∨ (q ≠ r ∧ q < n ∧ z = q) := by
  unfold slotP at h
  split at h
  · cases h; exact .inl ⟨‹_›, rfl⟩
  · split at h
    · cases h; exact .inr ⟨‹_›, ‹_›, rfl⟩
    · cases h
theorem Inv.slot {w w1 : World} {M M1 : Map} {σ : Heap} {r g : Nat} {c : List AV} (hi : Inv G0 w M σ) (he : Ext w M w1 M1) (hi1 : Inv G0 w1 M1 (σ ++ [.cells g c])) (hr : σ[r]? = some .resv) (hb : ∀ x ∈ c, Below σ.length x) :
    Ext w M w1 (M1.re (slotP σ.length r)) ∧ Inv G0 w1 (M1.re (slotP σ.length r)) (σ.set r (.cells g c)) := by
  have hlt : r < σ.length := (List.getElem?_eq_some_iff.1 hr).1
  have hk : KeepB (slotP σ.length r) σ.length (σ ++ [.cells g c]) := fun q hq => by
    by_cases hqr : q = r
    · subst hqr; left; rw [List.getElem?_append_left hq]; exact hr
    · right; exact slotP_ne hqr hq
  refine hi.re he hi1 ⟨gbelow0, fun q o' ho' hne => ?_, fun q q' z h1 h2 => ?_, fun q z h1 => ?_, fun q o' ho' => ?_⟩
  · have hq : q < σ.length := (List.getElem?_eq_some_iff.1 ho').1
    by_cases hqr : q = r
    · subst hqr; rw [hr] at ho'; cases ho'; exact absurd rfl hne
    · exact slotP_ne hqr hq
  · rcases slotP_some h1 with ⟨h1, h3⟩ | ⟨h1, h3, h4⟩ <;> rcases slotP_some h2 with ⟨h2, h5⟩ | ⟨h2, h5, h6⟩ <;> omega
  · rw [List.length_set]
    rcases slotP_some h1 with ⟨h1, h3⟩ | ⟨h1, h3, h4⟩ <;> omega
  · rw [List.getElem?_set] at ho'
    by_cases hqr : r = q
    · subst hqr
      rw [if_pos rfl, if_pos hlt] at ho'
      cases ho'
      exact ⟨σ.length, c, slotP_at, by simp, rfl, fun j y hj => ⟨y, hj, Re.below hk (hb y (List.mem_of_getElem? hj))⟩⟩
    · rw [if_neg hqr] at ho'
      have hq : q < σ.length := (List.getElem?_eq_some_iff.1 ho').1
      have hπ : slotP σ.length r q = some q := slotP_ne (fun e => hqr e.symm) hq
      have h1 : (σ ++ [AObj.cells g c])[q]? = some o' := by rw [List.getElem?_append_left hq]; exact ho'
      obtain ⟨b1, b2⟩ := hi.belowObj ho'
      cases o' with
      | cells g' c' => exact ⟨q, c', hπ, h1, rfl, fun j y hj => ⟨y, hj, Re.below hk (b1 _ _ rfl y (List.mem_of_getElem? hj))⟩⟩
      | resv => exact fun z hz => by rw [hπ] at hz; cases hz; exact h1
      | dfr => exact ⟨q, hπ, h1⟩
      | loop A =>
        obtain ⟨h3, h4, h5⟩ := b2 A rfl
        refine ⟨hπ, h1, slotP_ne (fun e => h5 (by rw [e]; exact hr)) h4, fun x hx => Re.below hk (h3 x hx)⟩
      | gone => trivial
theorem AStep.slot {a : AAct} {o : Oper} {σ : Heap} {r g s len cap : Nat} {c : List AV} (h : AStep Try.prog G0 a σ o (.ms s σ.length g 0 len cap) (σ ++ [.cells g c])) (hr : σ[r]? = some .resv) (hb : ∀ w M ac, Inv G0 w M σ → RAct w M ac a → ∀ x ∈ c, Below σ.length x) :
    AStep Try.prog G0 a σ o (.ms s r g 0 len cap) (σ.set r (.cells g c)) := by
  intro r0 w M ac K Q hi ha hK
  refine h r0 w M ac K Q hi ha fun v w' M' hv he hi' => ?_
  obtain ⟨h1, h2⟩ := hi.slot he hi' hr (hb w M ac hi ha)
  exact hK v w' _ (Re.ms slotP_at w' M' v hi' hv) h1 h2
/-- Growing at its place, told beforehand. -/
def hApS (t : TypeId) (s r : Nat) (L : List (List AV)) (row : List AV) : Heap → Oper → (Operand → Option AV) → Option (AV × Bool × Heap × Prop) := fun h o ρ => match o.op with
  | .call { callee := .builtin .append, args := args, argTypes := ts } => bif ts == #[t, t] then some (sV s r (L ++ [row]), true, h.set r (sO (L ++ [row])), evAllR ρ args.toList = some [sV s r L, .sl s [row]] ∧ h[r]? = some (sO L) ∧ (∀ x ∈ L, x.length = s) ∧ row.length = s ∧ (∀ x ∈ row, x.one = true) ∧ L.length < 16777216) else none
  | _ => none
theorem hApS_ok {t e : TypeId} {s : Nat} (he : ElemS t e s) (r : Nat) (L : List (List AV)) (row : List AV) : HintOk Try.prog G0 (hApS t s r L row) := by
  refine ⟨fun h o a m y tg h' p hh hp => ?_, fun h o ρ y tg h' p hh hp hq => ?_⟩
  · unfold hApS at hh
    split at hh <;> first | (cases hh; done) | skip
    rename_i args ts ho
    cases hts : ts == #[t, t] with
    | false => rw [hts] at hh; cases hh
    | true =>
    rw [hts, cond_true] at hh
    have hts' : ts = #[t, t] := eq_of_beq hts
    subst hts'
    cases hh
    obtain ⟨p1, p3, p4, p5, p6, p7⟩ := hp
    obtain ⟨ie, zx, h1, h2, h3, h4, h5, h6⟩ := he.i
    have hn : notInt Try.prog t = true := by unfold notInt; rw [he.u]
    have hrow : row.all AV.one = true := List.all_eq_true.2 p6
    have hstep : ∀ {v : AV} {σ1 : Heap}, aAppend Try.prog h t t (sV s r L) (.sl s [row]) = some (v, σ1) → AStep Try.prog G0 { tmps := a, marks := m } h o v σ1 := fun {v σ1} hq => by
      refine AStep.op ?_
      rw [aopR_eq]
      unfold aopR
      simp only [ho, p1, Option.bind_some, aBuiltin]
      exact hq
    have hconts : conts h ie.size (.sl s [row]) = some (1, row) := by simp [conts, h3]
    cases L with
    | nil =>
      have ha : aAppend Try.prog h t t (sV s r []) (.sl s [row]) = some (.ms s h.length 0 0 1 1, h ++ [.cells 0 row]) := by
        unfold aAppend
        rw [he.u]
        simp only [h1, h2, hconts]
        simp only [hn, hrow, h4, h5, h3, h6, and_self, if_true, sV]
        simp
      have := AStep.slot (hstep ha) p3 fun w M ac hi hact x hx => ?_
      · have e : sO ([] ++ [row]) = .cells 0 row := by simp [sO]
        rw [e]
        exact this
      · have hxs := evAll_ok hi hact.tmps (evAllR_eq G0 a _ ▸ p1)
        have hb := (hxs.2 1 _ rfl).isBelow hi.dom
        cases hb with
        | sl _ _ hb =>
          obtain ⟨j, hj, rfl⟩ := List.mem_iff_getElem.1 hx
          exact hb 0 row j _ rfl (List.getElem?_eq_getElem hj)
    | cons x l =>
      have hobj : objAt h r l.length = some (x :: l).flatten := by
        unfold objAt
        rw [p3]
        simp [sO]
      have hlen : (x :: l).flatten.length = (l.length + 1) * s := by rw [flatS_len p4, List.length_cons]
      refine hstep ?_
      unfold aAppend
      rw [he.u]
      simp only [h1, h2, hconts]
      simp only [hn, hrow, h4, h5, h3, h6, and_self, if_true, sV, hobj]
      simp only [List.length_cons] at p7
      have hfit : l.length + 1 + 1 ≤ 16777216 := by omega
      have hroom : ¬ l.length + 1 + 1 ≤ l.length + 1 := by omega
      have htake : (x :: l).flatten.take ((l.length + 1) * s) = (x :: l).flatten := List.take_of_length_le (by omega)
      rw [if_pos ⟨trivial, by omega⟩, if_neg (by omega), if_neg hroom, if_pos ⟨trivial, hfit⟩, htake]
      simp [sO]
  · unfold hApS at hh
    split at hh <;> first | (cases hh; done) | skip
    rename_i args ts ho
    exfalso
    revert hq
    unfold Am.quiet
    rw [ho]
    simp
/-- One more at its place. -/
def Grow (s r : Nat) (row : List AV) (v v' : AV) (o o' : AObj) : Prop := ∃ L, v = sV s r L ∧ o = sO L ∧ v' = sV s r (L ++ [row]) ∧ o' = sO (L ++ [row]) ∧ (∀ x ∈ L, x.length = s) ∧ row.length = s ∧ (∀ x ∈ row, x.one = true) ∧ L.length < 16777216
/-- The same, by names. -/
def hApO (t : TypeId) (s r : Nat) (row : List AV) (v v' : AV) (o o' : AObj) (g : Prop) : Heap → Oper → (Operand → Option AV) → Option (AV × Bool × Heap × Prop) := fun h oo ρ => match oo.op with
  | .call { callee := .builtin .append, args := args, argTypes := ts } => bif ts == #[t, t] then some (v', true, h.set r o', evAllR ρ args.toList = some [v, .sl s [row]] ∧ h[r]? = some o ∧ g) else none
  | _ => none
theorem hApO_ok {t e : TypeId} {s : Nat} (he : ElemS t e s) {r : Nat} {row : List AV} {v v' : AV} {o o' : AObj} {g : Prop} (hg : g → Grow s r row v v' o o') : HintOk Try.prog G0 (hApO t s r row v v' o o' g) := by
  refine ⟨fun h oo a m y tg h' p hh hp => ?_, fun h oo ρ y tg h' p hh hp hq => ?_⟩
  · unfold hApO at hh
    split at hh <;> first | (cases hh; done) | skip
    rename_i args ts ho
    cases hts : ts == #[t, t] with
    | false => rw [hts] at hh; cases hh
    | true =>
    rw [hts, cond_true] at hh
    cases hh
    obtain ⟨p1, p2, p3⟩ := hp
    obtain ⟨L, rfl, rfl, rfl, rfl, p4, p5, p6, p7⟩ := hg p3
    refine (hApS_ok he r L row).step h oo a m _ true _ (evAllR (ev G0 a) args.toList = some [sV s r L, .sl s [row]] ∧ h[r]? = some (sO L) ∧ (∀ x ∈ L, x.length = s) ∧ row.length = s ∧ (∀ x ∈ row, x.one = true) ∧ L.length < 16777216) ?_ ⟨p1, p2, p4, p5, p6, p7⟩
    unfold hApS
    rw [ho]
    simp only [hts, cond_true]
  · unfold hApO at hh
    split at hh <;> first | (cases hh; done) | skip
    rename_i args ts ho
    exfalso
    revert hq
    unfold Am.quiet
    rw [ho]
    simp

/-! ### What lies behind is forgotten -/
def idP (n : Nat) : Nat → Option Nat := fun q => if q < n then some q else none
theorem idP_lt {n q : Nat} (h : q < n) : idP n q = some q := by simp [idP, h]
theorem idP_some {n q z : Nat} (h : idP n q = some z) : q < n ∧ z = q := by
  unfold idP at h
  split at h
  · cases h; exact ⟨‹_›, rfl⟩
  · cases h
theorem HRe.trim {σ τ g : Heap} (hl : τ.length = σ.length) (ha : ∀ o ∈ τ, Alone σ.length o) : HRe G0 (idP σ.length) σ (τ ++ g) τ := by
  have hk : KeepB (idP σ.length) σ.length (τ ++ g) := fun q hq => .inr (idP_lt hq)
  refine ⟨gbelow0, fun q o' ho' _ => idP_lt (List.getElem?_eq_some_iff.1 ho').1, fun q q' z h1 h2 => ?_, fun q z h1 => ?_, fun q o' ho' => ?_⟩
  · have := idP_some h1
    have := idP_some h2
    omega
  · have := idP_some h1
    omega
  · have hq : q < τ.length := (List.getElem?_eq_some_iff.1 ho').1
    have h1 : (τ ++ g)[q]? = some o' := by rw [List.getElem?_append_left hq]; exact ho'
    have hal := ha o' (List.mem_of_getElem? ho')
    cases o' with
    | cells g' c' => exact ⟨q, c', idP_lt (by omega), h1, rfl, fun j y hj => ⟨y, hj, Re.below hk (hal y (List.mem_of_getElem? hj))⟩⟩
    | resv => exact fun z hz => by rw [(idP_some hz).2]; exact h1
    | dfr => exact hal.elim
    | loop A => exact hal.elim
    | gone => trivial
theorem AExec.trim {R : Option Nat → Prop} {c : Code} {a a' : List AV} {σ τ g : Heap} {e : Exit} (h : AExec Try.prog G0 R c { tmps := a } σ e { tmps := a' } (τ ++ g)) (hl : τ.length = σ.length) (ha : ∀ o ∈ τ, Alone σ.length o) (hv : ∀ x ∈ a', Below σ.length x) : AExec Try.prog G0 R c { tmps := a } σ e { tmps := a' } τ :=
  h.re (.trim hl ha) (fun _ h => by cases h) rfl fun j y hj => ⟨y, hj, Re.below (fun _ hq => .inr (idP_lt hq)) (hv y (List.mem_of_getElem? hj))⟩
theorem ACall.trim {f : FuncId} {args : List AV} {v : AV} {σ τ g : Heap} (h : ACall Try.prog G0 f args σ v (τ ++ g)) (hl : τ.length = σ.length) (ha : ∀ o ∈ τ, Alone σ.length o) (hv : Below σ.length v) : ACall Try.prog G0 f args σ v τ :=
  h.re (.trim hl ha) (Re.below (fun _ hq => .inr (idP_lt hq)) hv)
/-- A piece of code; some temporaries of it, the first m objects. -/
noncomputable def xBodyT (E : Env) (n : Nat) (lp : Loops) (keep : List Nat) (m : Nat) (c : Code) (st : St) : Tree (Exit × St) :=
  (xCode Try.prog G0 E n lp c st).bind fun r => .leaf (r.1, { t := (r.2.only keep).t, n := r.2.n, h := r.2.h.take m })
/-- A frame and a heap that know of n objects. -/
def CleanT (m : Nat) (st : St) : Prop := st.h.length = m ∧ (∀ o ∈ st.h, Alone m o) ∧ ∀ x ∈ st.a, Below m x
theorem xBodyT_ok {E : Env} (hcl : ClOk Try.prog G0 E) {R : Option Nat → Prop} {lp : Loops} {n m : Nat} {keep : List Nat} {c : Code} {st : St} {e : Exit} {st' : St} (hlp : LoopsOk Try.prog G0 R [] lp c)
    (h0 : st.h.length = m) (hc : CleanT m st') (hx : (xBodyT E n lp keep m c st).sel = some (e, st')) : AExec Try.prog G0 R c { tmps := st.a } st.h e { tmps := st'.a } st'.h := by
  obtain ⟨⟨e0, st0⟩, h1, h2⟩ := Tree.of_bind hx
  cases h2
  obtain ⟨h3, h4⟩ := xCode_ok names mixed hcl n R [] lp c st _ _ hlp h1
  have h5 := h3.weak_post (a' := { tmps := st0.a, marks := [] }) (St.only_le keep st0)
  refine AExec.trim (g := st0.h.drop m) ?_ (hc.1.trans h0.symm) (by rw [h0]; exact hc.2.1) (by rw [h0]; exact hc.2.2)
  show AExec Try.prog G0 R c _ _ _ _ (st0.h.take m ++ st0.h.drop m)
  rw [List.take_append_drop]
  exact h5
theorem LoopA.ofT {body : Code} {N m : Nat} {S R : Nat → St} {X : St} {eR eX : Exit} {stop : Nat → Bool} (n0 : ∀ k, (S k).n = (S 0).n) (nR : ∀ k, (R k).n = (S 0).n) (nX : X.n = (S 0).n) (neR : eR ≠ .normal) (neX : eX ≠ .normal)
    (cS : ∀ k, CleanT m (S k)) (cR : ∀ k, CleanT m (R k)) (cX : CleanT m X)
    (hr : ∀ k, k ≤ N → (∀ j, j < k → stop j = false) → ∃ E lp keep, ClOk Try.prog G0 E ∧ LoopsOk Try.prog G0 (fun r => r = none) [] lp body ∧ (k < N → (xBodyT E 200 lp keep m body (S k)).sel = rndR (stop k) eR (R k) (S (k + 1))) ∧ (k = N → (xBodyT E 200 lp keep m body (S k)).sel = some (eX, X))) : LoopA body N S R X eR eX stop where
  n0 := n0
  nR := nR
  nX := nX
  neR := neR
  neX := neX
  go k hk hj hs := by
    obtain ⟨E, lp, keep, h1, h2, h3, _⟩ := hr k (by omega) hj
    replace h3 := h3 hk
    unfold rndR at h3
    rw [hs] at h3
    exact xBodyT_ok h1 h2 (cS k).1 (cS (k + 1)) h3
  st k hk hj hs := by
    obtain ⟨E, lp, keep, h1, h2, h3, _⟩ := hr k (by omega) hj
    replace h3 := h3 hk
    unfold rndR at h3
    rw [hs] at h3
    exact xBodyT_ok h1 h2 (cS k).1 (cR k) h3
  en hj := by
    obtain ⟨E, lp, keep, h1, h2, _, h3⟩ := hr N (Nat.le_refl N) hj
    exact xBodyT_ok h1 h2 (cS N).1 cX (h3 rfl)
theorem LoopA.linT {body : Code} {N m : Nat} {S : Nat → St} {X : St} {eX : Exit} (n0 : ∀ k, (S k).n = (S 0).n) (nX : X.n = (S 0).n) (neX : eX ≠ .normal) (cS : ∀ k, CleanT m (S k)) (cX : CleanT m X)
    (hr : ∀ k, k ≤ N → ∃ E lp keep, ClOk Try.prog G0 E ∧ LoopsOk Try.prog G0 (fun r => r = none) [] lp body ∧ (k < N → (xBodyT E 200 lp keep m body (S k)).sel = some (.normal, S (k + 1))) ∧ (k = N → (xBodyT E 200 lp keep m body (S k)).sel = some (eX, X))) : LoopA body N S S X .ret eX fun _ => false :=
  .ofT n0 n0 nX nofun neX cS cS cX fun k hk _ => hr k hk
/-- What a frame's values say of objects. -/
def AllN (m : Nat) : List (Nat × AV × Bool) → Prop
  | [] => True
  | p :: r => Below m p.2.1 ∧ AllN m r
theorem cleanT_of {m n : Nat} {h : Heap} {l : List (Nat × AV × Bool)} (h1 : h.length = m) (h2 : ∀ o ∈ h, Alone m o) (hl : AllN m l) : CleanT m (St.of n h l) := by
  refine ⟨h1, h2, fun x hx => ?_⟩
  have key : ∀ p ∈ l, Below m p.2.1 := by
    clear hx
    induction l with
    | nil => intro p hp; cases hp
    | cons q r ih =>
      intro p hp
      rcases List.mem_cons.1 hp with rfl | hp
      · exact hl.1
      · exact ih hl.2 p hp
  simp only [St.a, St.of, List.mem_map] at hx
  obtain ⟨j, _, rfl⟩ := hx
  rcases of_get l .nil j with h1 | ⟨p, hp, h1⟩
  · rw [h1, PT.get_nil]; exact .junk
  · rw [h1]; exact key p hp

/-! ### Results as data -/
theorem fl_congr {s n : Nat} {f g : Nat → List AV} (h : ∀ i, i < n → f i = g i) {w : World} {M : Map} {u : Value} (hu : RV w M u (.fl s n f)) : RV w M u (.fl s n g) := by
  have e : (List.range n).map f = (List.range n).map g := List.map_congr_left fun i hi => h i (List.mem_range.1 hi)
  cases hu with
  | fl _ _ _ _ hu => exact .fl _ _ _ _ (e ▸ hu)
theorem re_sV {π : Nat → Option Nat} {σ : Heap} {s r : Nat} {rows : List (List AV)} (ho : σ[r]? = some (sO rows)) (hπ : ∀ q, π q ≠ some r) (hl : ∀ x ∈ rows, x.length = s) (hb : ∀ x ∈ rows, ∀ y ∈ x, Re G0 π σ y y) : Re G0 π σ (sV s r rows) (.fl s rows.length fun i => rows.getD i []) := by
  cases rows with
  | nil => exact fun w M v hi hv => by cases hv; exact .fl _ _ _ _ (.sl0 _ _ _)
  | cons x l =>
    refine Re.data (cells := (x :: l).flatten) ho hπ (by rw [flatS_len hl, List.length_cons]; exact Nat.le_refl _) (fun i hi => hl _ (getD_mem (L := x :: l) hi)) fun i j y hi hj => ⟨y, ?_, hb _ (getD_mem (L := x :: l) hi) y (List.mem_of_getElem? hj)⟩
    have hjs : j < s := by
      have := (List.getElem?_eq_some_iff.1 hj).1
      rwa [hl _ (getD_mem (L := x :: l) hi)] at this
    have key : ∀ (L : List (List AV)) (i : Nat), (∀ x ∈ L, x.length = s) → i < L.length → L.flatten[i * s + j]? = (L.getD i [])[j]? := by
      intro L
      induction L with
      | nil => intro i _ h; simp at h
      | cons z t ih =>
        intro i h1 h2
        rw [List.flatten_cons]
        cases i with
        | zero =>
          rw [Nat.zero_mul, Nat.zero_add, List.getElem?_append_left (by rw [h1 z (by simp)]; exact hjs)]
          rfl
        | succ i =>
          have e : (i + 1) * s + j = z.length + (i * s + j) := by rw [h1 z (by simp), Nat.succ_mul]; omega
          rw [e, List.getElem?_append_right (by omega), Nat.add_sub_cancel_left, ih i (fun r hr => h1 r (by simp [hr])) (by simpa using h2)]
          simp
    rw [key (x :: l) i hl hi]
    exact hj
def noneP : Nat → Option Nat := fun _ => none
theorem ACall.out {f : FuncId} {args : List AV} {v v' : AV} {σ1 : Heap} {k : Nat} (h : ACall Try.prog G0 f args (List.replicate k .resv) v σ1) (hv : Re G0 noneP σ1 v v') (hb : Below 0 v') (ha : ∀ x ∈ args, Below 0 x) (σ : Heap) : ACall Try.prog G0 f args σ v' σ := by
  have h1 : ACall Try.prog G0 f args [] v σ1 := ACall.rooms (σ := []) k h
  have h2 : ACall Try.prog G0 f args [] v' [] := h1.re ⟨gbelow0, fun r o h => (by simp at h), fun r r' q h => (by cases h), fun r q h => (by cases h), fun r o h => by simp at h⟩ hv
  exact h2.lift0 hb gbelow0 ha σ
/-- Lists of integers, as rows. -/
def rowI (L : List Int) : List (List AV) := L.map fun n => [I n]
theorem rowI_len (L : List Int) : ∀ x ∈ rowI L, x.length = 1 := fun x hx => by
  obtain ⟨n, _, rfl⟩ := List.mem_map.1 hx; rfl
theorem rowI_flat {L : List Int} : ∀ x ∈ rowI L, ∀ y ∈ x, Below 0 y := fun x hx y hy => by
  obtain ⟨n, _, rfl⟩ := List.mem_map.1 hx
  rw [List.mem_singleton.1 hy]
  exact .int _ _
theorem rowI_getD (L : List Int) {i : Nat} (hi : i < L.length) : (rowI L).getD i [] = [I (L.getD i 0)] := by
  unfold rowI
  simp [List.getD_eq_getElem?_getD, hi]
theorem re_ints {π : Nat → Option Nat} {σ : Heap} {r : Nat} {L : List Int} (ho : σ[r]? = some (sO (rowI L))) (hπ : ∀ q, π q ≠ some r) : Re G0 π σ (sV 1 r (rowI L)) (flL L) := by
  have h := re_sV ho hπ (rowI_len L) (fun x hx y hy => Re.flat (rowI_flat x hx y hy))
  have e : (rowI L).length = L.length := by simp [rowI]
  rw [e] at h
  exact h.conv fun w M v hv => fl_congr (fun i hi => rowI_getD L hi) hv
theorem alone_sO {m : Nat} {rows : List (List AV)} (h : ∀ x ∈ rows, ∀ y ∈ x, Below m y) : Alone m (sO rows) := by
  cases rows with
  | nil => trivial
  | cons x l =>
    intro y hy
    obtain ⟨z, hz, hy⟩ := List.mem_flatten.1 hy
    exact h z hz y hy
theorem below_sV {m s r : Nat} {rows : List (List AV)} (h : r < m) : Below m (sV s r rows) := by
  cases rows with
  | nil => exact .zs
  | cons x l => exact .ms _ _ _ _ _ _ h
theorem rowI_app (L : List Int) (n : Int) : rowI L ++ [[I n]] = rowI (L ++ [n]) := by simp [rowI]
end Go.Proofs.Ytngaihdpmoajeaa.Am

namespace Go.Proofs.Ytngaihdpmoajeaa.Am
open Go
set_option maxRecDepth 100000

/-- The rules that are broken, of the first k. -/
def brkL (p : Pb) (a : List Int) : Nat → List Int
  | 0 => []
  | k + 1 => if leastA (p.R.getD k r0) a > (p.R.getD k r0).m then brkL p a k ++ [(k : Int)] else brkL p a k
theorem brkL_len (p : Pb) (a : List Int) : ∀ k, (brkL p a k).length ≤ k
  | 0 => Nat.le_refl _
  | k + 1 => by
    have := brkL_len p a k
    unfold brkL
    split
    · rw [List.length_append, List.length_singleton]; omega
    · omega
def brkR (p : Pb) (a : List Int) : AV := .tup [flL (if whole p a = 0 then brkL p a p.R.length else []), I (whole p a)]
/-- Calls that are known, and a list that grows. -/
def EH (q : Prop) (l : List (FuncId × List AV × AV)) (H : Heap → Oper → (Operand → Option AV) → Option (AV × Bool × Heap × Prop)) : Env := { EG q l with hint := H }
theorem clokH {q : Prop} {l : List (FuncId × List AV × AV)} {H : Heap → Oper → (Operand → Option AV) → Option (AV × Bool × Heap × Prop)} (hl : q → ∀ p ∈ l, ∀ σ, ACall Try.prog G0 p.1 p.2.1 σ p.2.2 σ) (hH : HintOk Try.prog G0 H) : ClOk Try.prog G0 (EH q l H) :=
  .all hH (clokG hl).clh (fun l xs σ t v σ' h => (by cases h)) (clokG hl).cl

/-! ### The program's -/
noncomputable def body24 : Code := (loopsOf (bodyOf Try.prog 24)).headD .skip
noncomputable def inner24 : Code := (loopsOf body24).headD .skip
theorem loops24 : loopsOf (bodyOf Try.prog 24) = [body24, inner24] := by kernel_rfl
theorem loops24i : loopsOf body24 = [inner24] := by kernel_rfl
theorem loops24u : (∀ x ∈ loopsOf (bodyOf Try.prog 24), idOf x = 6 → x = body24) ∧ ∀ x ∈ loopsOf (bodyOf Try.prog 24), idOf x = 10 → x = inner24 := two_loops loops24 (by kernel_rfl) (by kernel_rfl) (by omega)
def st24 (p : Pb) (a : List Int) (v : AV) (o : AObj) (k : Int) (b : Bool) : St := .of 59 [o] [(1, flL a, true), (2, .row (pbC p) 0, true), (7, v, b), (20, flR p.R, true), (21, I p.R.length, true), (22, I k, true)]
def st24i (p : Pb) (a : List Int) (v : AV) (o : AObj) (k : Int) (x : Rl) (s j : Int) : St := .of 59 [o, .cells 0 (rlC x)] [(1, flL a, true), (2, .row (pbC p) 0, true), (7, v, true), (8, I k, true), (9, .ref 1 0 0, true), (10, I s, true), (20, flR p.R, true), (21, I p.R.length, true), (22, I k, true), (28, flL x.v, true), (29, I x.v.length, true), (30, I j, true)]
def keep24 : List Nat := [1, 2, 7, 20, 21, 22]
def keep24i : List Nat := [1, 2, 7, 8, 9, 10, 20, 21, 22, 28, 29, 30]
theorem run24i (p : Pb) (a : List Int) (v : AV) (o : AObj) (k : Int) (x : Rl) (s j : Int) : xBody Try.prog G0 {} 200 noLoops keep24i inner24 (st24i p a v o k x s j) = .ite (decide (j < (↑x.v.length : Int))) (.need (((0 : Int) ≤ j) ∧ (j < (↑x.v.length : Int))) (.need (((0 : Int) ≤ j) ∧ (j < (↑x.w.length : Int))) (.need (((0 : Int) ≤ x.v.getD j.toNat (0 : Int)) ∧ (x.v.getD j.toNat (0 : Int) < (↑a.length : Int))) (.need (((0 : Int) ≤ a.getD (x.v.getD j.toNat (0 : Int)).toNat (0 : Int)) ∧ (a.getD (x.v.getD j.toNat (0 : Int)).toNat (0 : Int) < (↑(x.w.getD j.toNat []).length : Int))) (.leaf (Exit.normal, St.of 59 [o, (AObj.cells ((0 : Nat)) [(I (x.d)), (flL (x.v)), (flLL (x.w)), (I (x.m))])] [(1, (flL (a)), true), (2, (AV.row [(flL (p.V)), (flLL (p.C)), (flR (p.R))] ((0 : Nat))), true), (7, v, true), (8, (I k), true), (9, (AV.ref ((1 : Nat)) ((0 : Nat)) ((0 : Nat))), true), (10, (I (IntKind.i64.wrap (s + (x.w.getD j.toNat []).getD (a.getD (x.v.getD j.toNat (0 : Int)).toNat (0 : Int)).toNat (0 : Int)))), true), (20, (flR (p.R)), true), (21, (I ((↑p.R.length : Int))), true), (22, (I k), true), (28, (flL (x.v)), true), (29, (I ((↑x.v.length : Int))), true), (30, (I (IntKind.i64.wrap (j + (1 : Int)))), true)])))))) (.leaf ((Exit.exit ((2 : Nat))), St.of 59 [o, (AObj.cells ((0 : Nat)) [(I (x.d)), (flL (x.v)), (flLL (x.w)), (I (x.m))])] [(1, (flL (a)), true), (2, (AV.row [(flL (p.V)), (flLL (p.C)), (flR (p.R))] ((0 : Nat))), true), (7, v, true), (8, (I k), true), (9, (AV.ref ((1 : Nat)) ((0 : Nat)) ((0 : Nat))), true), (10, (I s), true), (20, (flR (p.R)), true), (21, (I ((↑p.R.length : Int))), true), (22, (I k), true), (28, (flL (x.v)), true), (29, (I ((↑x.v.length : Int))), true), (30, (I j), true)])) := by kernel_rfl
theorem run24 (q g : Prop) (p : Pb) (a : List Int) (v v' : AV) (o o' : AObj) (k s j : Int) : xBodyT (EH q [] (hApO 22 1 0 [I k] v v' o o' g)) 200 (lpB 10 keep24i (st24i p a v o k (p.R.getD k.toNat r0) 0 0) (.exit 2) (st24i p a v o k (p.R.getD k.toNat r0) s j)) keep24 1 body24 (st24 p a v o k true) = .ite (decide (k < (↑p.R.length : Int))) (.need (((0 : Int) ≤ k) ∧ (k < (↑p.R.length : Int))) (.need ((st24i p a v o k (p.R.getD k.toNat r0) 0 0).vals = (st24i p a v o k (p.R.getD k.toNat r0) 0 0).vals) (.ite (decide (s > (p.R.getD k.toNat r0).m)) (.need (((Option.some [v, (AV.sl (Try.prog.types[(3 : Nat)].size) [[(I k)]])]) = (Option.some [v, (AV.sl ((1 : Nat)) [[(I k)]])])) ∧ (((Option.some o) = (Option.some o)) ∧ (g))) (.leaf (Exit.normal, St.of 59 [o'] [(1, (flL (a)), true), (2, (AV.row [(flL (p.V)), (flLL (p.C)), (flR (p.R))] ((0 : Nat))), true), (7, v', true), (20, (flR (p.R)), true), (21, (I ((↑p.R.length : Int))), true), (22, (I (IntKind.i64.wrap (k + (1 : Int)))), true)]))) (.leaf (Exit.normal, St.of 59 [o] [(1, (flL (a)), true), (2, (AV.row [(flL (p.V)), (flLL (p.C)), (flR (p.R))] ((0 : Nat))), true), (7, v, true), (20, (flR (p.R)), true), (21, (I ((↑p.R.length : Int))), true), (22, (I (IntKind.i64.wrap (k + (1 : Int)))), true)]))))) (.leaf ((Exit.exit ((0 : Nat))), St.of 59 [o] [(1, (flL (a)), true), (2, (AV.row [(flL (p.V)), (flLL (p.C)), (flR (p.R))] ((0 : Nat))), true), (7, v, true), (20, (flR (p.R)), true), (21, (I ((↑p.R.length : Int))), true), (22, (I k), true)])) := by kernel_rfl
theorem runF24 (p : Pb) (a : List Int) (c : Int) (v : AV) (o : AObj) (k : Int) : xenter Try.prog (EG True [(52, [pAV p, flL a], I c)]) (xCode Try.prog G0 (EG True [(52, [pAV p, flL a], I c)]) 200 (lpB 6 keep24 (st24 p a .zs .resv 0 true) (.exit 0) (st24 p a v o k true))) 24 [pAV p, flL a] [true, true] [.resv] = .need (True) (.need ([(AV.agg [(flL (p.V)), (flLL (p.C)), (flR (p.R))]), (flL (a))] = [(AV.agg [(flL (p.V)), (flLL (p.C)), (flR (p.R))]), (flL (a))]) (.ite (c != (0 : Int)) (.leaf ((AV.tup [AV.zs, (I c)]), true, [AObj.resv])) (.need ((st24 p a .zs .resv 0 true).vals = (st24 p a .zs .resv 0 true).vals) (.leaf ((AV.tup [v, (I ((0 : Int)))]), true, [o]))))) := by kernel_rfl
theorem runG24 (p : Pb) (a : List Int) (c : Int) : xenter Try.prog (EG True [(52, [pAV p, flL a], I c)]) (xCode Try.prog G0 (EG True [(52, [pAV p, flL a], I c)]) 200 (lpF 6 keep24 (st24 p a .zs .resv 0 true))) 24 [pAV p, flL a] [true, true] [.resv] = .need (True) (.need ([(AV.agg [(flL (p.V)), (flLL (p.C)), (flR (p.R))]), (flL (a))] = [(AV.agg [(flL (p.V)), (flLL (p.C)), (flR (p.R))]), (flL (a))]) (.ite (c != (0 : Int)) (.leaf ((AV.tup [AV.zs, (I c)]), true, [AObj.resv])) (.need ((st24 p a .zs .resv 0 true).vals = (st24 p a .zs .resv 0 true).vals) .fail))) := by kernel_rfl
theorem full_lt {p : Pb} {a : List Int} (ha : Full p a) {x : Rl} (hx : OkRule p.V x) {k : Nat} (hk : k < x.v.length) : x.v.getD k 0 < a.length := by
  have := hx.v k hk
  have := ha.2
  omega
theorem loop24i {p : Pb} (hp : Ok p) {x : Rl} (hx : OkRule p.V x) (hs : x.sh) {a : List Int} (ha : Full p a) (v : AV) (o : AObj) (k : Int) : LoopA inner24 x.v.length (fun j => st24i p a v o k x (sumK (leastT x a) j) j) (fun j => st24i p a v o k x (sumK (leastT x a) j) j) (st24i p a v o k x (leastA x a) x.v.length) .ret (.exit 2) fun _ => false := by
  refine .lin (fun _ => rfl) rfl nofun fun j hj => ⟨_, _, _, clok0, lpNo _, fun hlt => (congrArg Tree.sel (run24i p a v o k x _ j)).trans ?_, fun he => (congrArg Tree.sel (run24i p a v o k x _ j)).trans ?_⟩
  · have h1 := leastK_bound hp hx ha.1 (k := j + 1) (by omega)
    have h3 := hx.len
    have hc := full_lt ha hx hlt
    have h2 := rule_beg hx ha.1 hlt hc
    have e : sumK (leastT x a) (j + 1) = sumK (leastT x a) j + leastT x a j := rfl
    have e2 : leastT x a j = (x.w.getD j []).getD (a.getD (x.v.getD j 0).toNat 0).toNat 0 := by unfold leastT; rw [dT hc]; rfl
    rw [wrapS hlt hs.1, Int.toNat_natCast, selIt (dT (by omega)), selN ⟨by omega, by omega⟩, ← e2, ← e, wrapI (by omega)]
    exact t_need ⟨by omega, by omega⟩ (t_need ⟨by omega, hc⟩ (t_need ⟨by omega, by omega⟩ rfl))
  · rw [selIf (dF (by omega)), he]
    rfl
theorem grow_I {L : List Int} (hl : L.length < 16777216) (n : Int) (r : Nat) : Grow 1 r [I n] (sV 1 r (rowI L)) (sV 1 r (rowI (L ++ [n]))) (sO (rowI L)) (sO (rowI (L ++ [n]))) :=
  ⟨rowI L, rfl, rfl, by rw [rowI_app], by rw [rowI_app], rowI_len L, rfl, fun x hx => by rw [List.mem_singleton.1 hx]; rfl, by simpa [rowI] using hl⟩
theorem one_alone {m : Nat} {o : AObj} (h : Alone m o) : ∀ o' ∈ [o], Alone m o' := fun o' ho => by rw [List.mem_singleton.1 ho]; exact h
theorem alone_rowI {m : Nat} (L : List Int) : Alone m (sO (rowI L)) := alone_sO fun x hx y hy => (rowI_flat x hx y hy).up
theorem clean24 (p : Pb) (a L : List Int) (k : Int) (b : Bool) : CleanT 1 (st24 p a (sV 1 0 (rowI L)) (sO (rowI L)) k b) :=
  cleanT_of rfl (one_alone (alone_rowI L)) ⟨below_flL _, (below_row (below_pb p)).up, below_sV (by omega), (below_flR _).up, .int _ _, .int _ _, trivial⟩
theorem rule_getD {p : Pb} (hp : Ok p) (k : Nat) : OkRule p.V (p.R.getD k r0) := by
  by_cases hk : k < p.R.length
  · exact hp.rl _ (getD_mem hk)
  · rw [List.getD_eq_getElem?_getD, List.getElem?_eq_none (by omega)]
    have h0 : ∀ {k : Nat}, ¬ k < (Option.getD none r0).v.length := fun {k} h => by simp [r0] at h
    exact ⟨⟨Int.le_refl _, by decide⟩, ⟨by decide, by decide⟩, rfl, fun k h => absurd h h0, fun k h => absurd h h0, fun k h => absurd h h0, fun k h => absurd h h0⟩
theorem loop24 {p : Pb} (hs : p.sh) (hp : Ok p) {a : List Int} (ha : Full p a) : LoopA body24 p.R.length (fun k => st24 p a (sV 1 0 (rowI (brkL p a k))) (sO (rowI (brkL p a k))) k true) (fun k => st24 p a (sV 1 0 (rowI (brkL p a k))) (sO (rowI (brkL p a k))) k true) (st24 p a (sV 1 0 (rowI (brkL p a p.R.length))) (sO (rowI (brkL p a p.R.length))) p.R.length true) .ret (.exit 0) fun _ => false := by
  refine .linT (m := 1) (fun _ => rfl) rfl nofun (fun k => clean24 p a _ k true) (clean24 p a _ _ true) fun k hk => ?_
  have hi := (loop24i hp (rule_getD hp k) (sh_getR hs.2.2.2.2 k) ha (sV 1 0 (rowI (brkL p a k))) (sO (rowI (brkL p a k))) k).okB (fun _ _ => rfl) (c := body24) (i := 10) (keep := keep24i) (one_loop loops24i)
  have hlen := brkL_len p a k
  have hr := hp.r
  have key := congrArg Tree.sel (run24 True True p a (sV 1 0 (rowI (brkL p a k))) (sV 1 0 (rowI (brkL p a k ++ [(k : Int)]))) (sO (rowI (brkL p a k))) (sO (rowI (brkL p a k ++ [(k : Int)]))) k (leastA (p.R.getD k r0) a) (p.R.getD k r0).v.length)
  rw [Int.toNat_natCast] at key
  refine ⟨EH True [] (hApO 22 1 0 [I k] (sV 1 0 (rowI (brkL p a k))) (sV 1 0 (rowI (brkL p a k ++ [(k : Int)]))) (sO (rowI (brkL p a k))) (sO (rowI (brkL p a k ++ [(k : Int)]))) True), _, keep24, clokH (fun _ => nofun) (hApO_ok els22 fun _ => grow_I (by omega) k 0), hi, fun hlt => key.trans ?_, fun he => key.trans ?_⟩
  · rw [wrapS hlt hs.2.2.2.1]
    refine (selIt (dT (by omega))).trans (t_need ⟨by omega, by omega⟩ (t_need rfl (t_ite (fun h1 => t_need ⟨rfl, rfl, trivial⟩ ?_) fun h1 => ?_)))
    · have e : brkL p a (k + 1) = brkL p a k ++ [(k : Int)] := if_pos (of_decide_eq_true h1)
      rw [e]; rfl
    · have e : brkL p a (k + 1) = brkL p a k := if_neg (of_decide_eq_false h1)
      rw [e]; rfl
  · rw [selIf (dF (by omega)), he]
    rfl
theorem re_tup2 {π : Nat → Option Nat} {σ : Heap} {a b a' b' : AV} (ha : Re G0 π σ a a') (hb : Re G0 π σ b b') : Re G0 π σ (.tup [a, b]) (.tup [a', b']) := Re.tup rfl fun j y hj => by
  match j, hj with
  | 0, hj => cases hj; exact ⟨_, rfl, ha⟩
  | 1, hj => cases hj; exact ⟨_, rfl, hb⟩
  | j + 2, hj => simp at hj
theorem re_zs {π : Nat → Option Nat} {σ : Heap} : Re G0 π σ .zs (flL []) := fun _ _ _ _ hv => by cases hv; exact .fl _ _ _ _ (.sl0 _ _ _)
theorem re_int {π : Nat → Option Nat} {σ : Heap} {n : Int} : Re G0 π σ (I n) (I n) := Re.flat (.int _ _)
theorem below_tup2 {n : Nat} {a b : AV} (ha : Below n a) (hb : Below n b) : Below n (.tup [a, b]) := .tup _ fun j x hx => by
  match j, hx with
  | 0, hx => cases hx; exact ha
  | 1, hx => cases hx; exact hb
  | j + 2, hx => simp at hx
theorem below_args2 {p : Pb} {a : List Int} : ∀ x ∈ [pAV p, flL a], Below 0 x := fun x hx => by
  simp only [List.mem_cons, List.not_mem_nil, or_false] at hx
  rcases hx with rfl | rfl
  · exact below_pAV p
  · exact below_flL _
/-- WHAT Broken RETURNS. -/
theorem c24 {p : Pb} (hs : p.sh) {a : List Int} (ha : sh a) (h : Heap) : ACall Try.prog G0 24 [pAV p, flL a] h (brkR p a) h := by
  unfold brkR
  rcases whole_cases p a with ⟨h0, hp, hb⟩ | h0 | h0
  · rw [h0, if_pos rfl]
    have hc : ACall Try.prog G0 24 [pAV p, flL a] [.resv] (.tup [sV 1 0 (rowI (brkL p a p.R.length)), I 0]) [sO (rowI (brkL p a p.R.length))] := by
      refine ACall.says (clokG1 fun _ => h0 ▸ c52 hs ha) ((loop24 hs hp hb).okB (fun _ _ => rfl) loops24u.1) (runF24 p a 0 _ _ _) ?_
      exact says_need trivial (says_need rfl (says_ite (fun h => (by cases h)) fun _ => says_need rfl says_leaf))
    exact hc.out (k := 1) (re_tup2 (re_ints rfl nofun) re_int) (below_tup2 (below_flL _) (.int _ _)) below_args2 h
  · rw [h0, if_neg (by omega)]
    have hc : ACall Try.prog G0 24 [pAV p, flL a] [.resv] (.tup [.zs, I 1]) [.resv] := by
      refine ACall.says (clokG1 fun _ => h0 ▸ c52 hs ha) (lpF_ok 6 _ _ _) (runG24 p a 1) ?_
      exact says_need trivial (says_need rfl (says_ite (fun _ => says_leaf) fun h => by cases h))
    exact hc.out (k := 1) (re_tup2 re_zs re_int) (below_tup2 (below_flL _) (.int _ _)) below_args2 h
  · rw [h0, if_neg (by omega)]
    have hc : ACall Try.prog G0 24 [pAV p, flL a] [.resv] (.tup [.zs, I 2]) [.resv] := by
      refine ACall.says (clokG1 fun _ => h0 ▸ c52 hs ha) (lpF_ok 6 _ _ _) (runG24 p a 2) ?_
      exact says_need trivial (says_need rfl (says_ite (fun _ => says_leaf) fun h => by cases h))
    exact hc.out (k := 1) (re_tup2 re_zs re_int) (below_tup2 (below_flL _) (.int _ _)) below_args2 h

/-! ### The reference's -/
end Go.Proofs.Ytngaihdpmoajeaa.Am

namespace Go.Proofs.Ytngaihdpmoajeaa.Am
open Go
set_option maxRecDepth 100000

/-! ### Hints -/
/-- The length of what some temporaries hold. -/
def hLenT (t : TypeId) (is : List Nat) (v : AV) (m : Int) : Heap → Oper → (Operand → Option AV) → Option (AV × Bool × Heap × Prop) := fun h o ρ => match o.op with
  | .call { callee := .builtin .len, args := args, argTypes := ts } => match args.toList with
    | [.tmp j] => bif is.contains j then some (I m, true, h, ρ (.tmp j) = some v ∧ ts = #[t] ∧ aLen Try.prog t v = some (I m)) else none
    | _ => none
  | _ => none
theorem hLenT_ok (t : TypeId) (is : List Nat) (v : AV) (m : Int) : HintA Try.prog (hLenT t is v m) := by
  intro h o ρ y s h' p hh hp
  unfold hLenT at hh
  split at hh <;> first | (cases hh; done) | skip
  rename_i args ts ho
  split at hh <;> first | (cases hh; done) | skip
  rename_i j hj
  cases hc : is.contains j with
  | false => rw [hc] at hh; cases hh
  | true =>
    rw [hc, cond_true] at hh
    cases hh
    obtain ⟨p1, rfl, p3⟩ := hp
    unfold aopR
    simp only [ho, hj, evAllR, p1, Option.bind_some, aBuiltin, p3, Option.map_some]
/-- Integers at unknown places of the object r. -/
def hArrG (ts t : TypeId) (k : IntKind) (r : Nat) : Heap → Oper → (Operand → Option AV) → Option (AV × Bool × Heap × Prop) := fun h o ρ => match o.op with
  | .indexAddr t' x i => bif Nat.beq t' ts then (match ρ x with
    | some (.ms 1 r' g 0 n _) => bif Nat.beq r' r then (match h[r]?, ρ i with
      | some (.cells g' _), some (.int _ j) => some (.ref r g (j.toNat), true, h, 0 ≤ j ∧ j < n ∧ g' = g)
      | _, _ => none) else none
    | _ => none) else none
  | .load t' x => bif Nat.beq t' t then (match ρ x with
    | some (.ref r' g off) => bif Nat.beq r' r then (match h[r]? with
      | some (.cells g' c) => some (.int k (intOf (c.getD off .junk)), true, h, g' = g ∧ ∃ n, c[off]? = some (.int k n))
      | _ => none) else none
    | _ => none) else none
  | .store t' x y => bif Nat.beq t' t then (match ρ x with
    | some (.ref r' g off) => bif Nat.beq r' r then (match h[r]?, ρ y with
      | some (.cells g' c), some (.int k' v) => some (.tup [], false, h.set r (.cells g (setL c off [.int k' v])), g' = g ∧ off < c.length)
      | _, _ => none) else none
    | _ => none) else none
  | _ => none
theorem hArrG_ok {ts t e : TypeId} {k : IntKind} (r : Nat) (hs : Try.prog.underlying ts = some (.slice e)) (he : One e) (hu : Try.prog.underlying t = some (.int k)) (h1 : One t) : HintA Try.prog (hArrG ts t k r) := by
  intro h o ρ y s h' p hh hp
  unfold hArrG at hh
  split at hh
  · rename_i t' x i ho
    cases ht : Nat.beq t' ts with
    | false => rw [ht] at hh; cases hh
    | true =>
    rw [ht, cond_true] at hh
    obtain rfl := Nat.eq_of_beq_eq_true ht
    split at hh <;> first | (cases hh; done) | skip
    rename_i r' g n m hx
    cases hr : Nat.beq r' r with
    | false => rw [hr] at hh; cases hh
    | true =>
    rw [hr, cond_true] at hh
    obtain rfl := Nat.eq_of_beq_eq_true hr
    split at hh <;> first | (cases hh; done) | skip
    rename_i g' c kk j hc hi
    cases hh
    obtain ⟨p1, p2, rfl⟩ := hp
    obtain ⟨ie, e1, e2⟩ := he
    have hobj : objAt h r' g' = some c := by unfold objAt; rw [hc]; simp
    unfold aopR
    simp only [ho, hx, hi, aIndex, hs, e1, e2, hobj]
    simp [p1, p2]
  · rename_i t' x ho
    cases ht : Nat.beq t' t with
    | false => rw [ht] at hh; cases hh
    | true =>
    rw [ht, cond_true] at hh
    obtain rfl := Nat.eq_of_beq_eq_true ht
    split at hh <;> first | (cases hh; done) | skip
    rename_i r' g off hx
    cases hr : Nat.beq r' r with
    | false => rw [hr] at hh; cases hh
    | true =>
    rw [hr, cond_true] at hh
    obtain rfl := Nat.eq_of_beq_eq_true hr
    split at hh <;> first | (cases hh; done) | skip
    rename_i g' c hc
    cases hh
    obtain ⟨rfl, n, hn⟩ := hp
    have hobj : objAt h r' g' = some c := by unfold objAt; rw [hc]; simp
    unfold aopR
    simp only [ho, hx, Option.bind_some, aLoad, hobj]
    unfold Am.cut
    rw [hu]
    simp only [aggD, Bool.false_eq_true, if_false, hn, Option.map_some]
    rw [List.getD_eq_getElem?_getD, hn]
    rfl
  · rename_i t' x y' ho
    cases ht : Nat.beq t' t with
    | false => rw [ht] at hh; cases hh
    | true =>
    rw [ht, cond_true] at hh
    obtain rfl := Nat.eq_of_beq_eq_true ht
    split at hh <;> first | (cases hh; done) | skip
    rename_i r' g off hx
    cases hr : Nat.beq r' r with
    | false => rw [hr] at hh; cases hh
    | true =>
    rw [hr, cond_true] at hh
    obtain rfl := Nat.eq_of_beq_eq_true hr
    split at hh <;> first | (cases hh; done) | skip
    rename_i g' c k' v hc hy
    cases hh
    obtain ⟨rfl, hlt⟩ := hp
    have hobj : objAt h r' g' = some c := by unfold objAt; rw [hc]; simp
    obtain ⟨i, e1, e2⟩ := h1
    unfold aopR
    simp only [ho, hx, hy, aStore, e1, hobj]
    have ec : (AV.int k' v).cells = [.int k' v] := rfl
    rw [ec, if_pos ⟨by rw [e2]; rfl, by rw [e2]; omega, rfl⟩]
    rfl
  · cases hh
/-- No objects are made. -/
def hNoAl : Heap → Oper → (Operand → Option AV) → Option (AV × Bool × Heap × Prop) := fun _ o _ => match o.op with
  | .alloc _ => some (.junk, true, [], False)
  | _ => none
theorem hNoAl_ok : HintA Try.prog hNoAl := by
  intro h o ρ y s h' p hh hp
  unfold hNoAl at hh
  split at hh
  · cases hh; exact hp.elim
  · cases hh
/-- A value of one cell, stored into the object r. -/
def hSto (t : TypeId) (r : Nat) : Heap → Oper → (Operand → Option AV) → Option (AV × Bool × Heap × Prop) := fun h o ρ => match o.op with
  | .store t' x y => bif Nat.beq t' t then (match ρ x with
    | some (.ref r' g off) => bif Nat.beq r' r then (match objAt h r g, ρ y with
      | some c, some v => some (.tup [], false, h.set r (.cells g (setL c off [v])), v.one = true ∧ off < c.length)
      | _, _ => none) else none
    | _ => none) else none
  | _ => none
theorem cells_one {x : AV} (h : x.one = true) : x.cells = [x] := by cases x <;> first | rfl | cases h
theorem hSto_ok {t : TypeId} (r : Nat) (h1 : One t) : HintA Try.prog (hSto t r) := by
  intro h o ρ y s h' p hh hp
  unfold hSto at hh
  split at hh <;> first | (cases hh; done) | skip
  rename_i t' x y' ho
  cases ht : Nat.beq t' t with
  | false => rw [ht] at hh; cases hh
  | true =>
  rw [ht, cond_true] at hh
  obtain rfl := Nat.eq_of_beq_eq_true ht
  split at hh <;> first | (cases hh; done) | skip
  rename_i r' g off hx
  cases hr : Nat.beq r' r with
  | false => rw [hr] at hh; cases hh
  | true =>
  rw [hr, cond_true] at hh
  obtain rfl := Nat.eq_of_beq_eq_true hr
  split at hh <;> first | (cases hh; done) | skip
  rename_i c v hc hy
  cases hh
  obtain ⟨i, e1, e2⟩ := h1
  unfold aopR
  simp only [ho, hx, hy, aStore, e1, hc]
  rw [cells_one hp.1, if_pos ⟨by rw [e2]; rfl, by rw [e2]; omega, by simp [hp.1]⟩]
  rfl

/-! ### The values so far: a list a, and behind it what was there before -/
def aV (a t : List Int) : AV := match a ++ t with
  | [] => .zs
  | _ :: l => .ms 1 2 l.length 0 a.length (l.length + 1)
def aO (a t : List Int) : AObj := sO (rowI (a ++ t))
theorem aV_nil (a : List Int) : aV a [] = sV 1 2 (rowI a) := by
  unfold aV
  rw [List.append_nil]
  cases a with
  | nil => rfl
  | cons x l => simp [rowI, sV]
theorem rowI_flatten : ∀ L : List Int, (rowI L).flatten = L.map I
  | [] => rfl
  | x :: l => by
    have := rowI_flatten l
    simp only [rowI, List.map_cons, List.flatten_cons, List.singleton_append] at this ⊢
    rw [this]
theorem sO_rowI {L : List Int} (h : L ≠ []) : sO (rowI L) = .cells (L.length - 1) (L.map I) := by
  cases L with
  | nil => exact absurd rfl h
  | cons x l =>
    have e : rowI (x :: l) = [I x] :: rowI l := rfl
    have e2 : sO ([I x] :: rowI l) = .cells (rowI l).length ([I x] :: rowI l).flatten := rfl
    rw [e, e2, ← e, rowI_flatten]
    simp [rowI]
theorem aV_ms {a t : List Int} (h : a ++ t ≠ []) : aV a t = .ms 1 2 ((a ++ t).length - 1) 0 a.length (a ++ t).length := by
  unfold aV
  cases he : a ++ t with
  | nil => exact absurd he h
  | cons y l => simp
theorem setL_mid {p q : List AV} {y x : AV} {n : Nat} (hn : n = p.length) : setL (p ++ y :: q) n [x] = p ++ x :: q := by
  subst hn
  unfold setL
  simp
/-- One value more. -/
def GrowA (v v' : AV) (o o' : AObj) (x : Int) : Prop := ∃ a t, v = aV a t ∧ o = aO a t ∧ v' = aV (a ++ [x]) t.tail ∧ o' = aO (a ++ [x]) t.tail ∧ (a ++ t).length < 16777216
def hApA (x : Int) (v v' : AV) (o o' : AObj) (g : Prop) : Heap → Oper → (Operand → Option AV) → Option (AV × Bool × Heap × Prop) := fun h oo ρ => match oo.op with
  | .call { callee := .builtin .append, args := args, argTypes := ts } => bif ts == #[22, 22] then some (v', true, h.set 2 o', evAllR ρ args.toList = some [v, .sl 1 [[I x]]] ∧ h[2]? = some o ∧ g) else none
  | _ => none
theorem hApA_ok {x : Int} {v v' : AV} {o o' : AObj} {g : Prop} (hg : g → GrowA v v' o o' x) : HintOk Try.prog G0 (hApA x v v' o o' g) := by
  refine ⟨fun h oo a m y tg h' p hh hp => ?_, fun h oo ρ y tg h' p hh hp hq => ?_⟩
  · unfold hApA at hh
    split at hh <;> first | (cases hh; done) | skip
    rename_i args ts ho
    cases hts : ts == #[22, 22] with
    | false => rw [hts] at hh; cases hh
    | true =>
    rw [hts, cond_true] at hh
    cases hh
    obtain ⟨p1, p2, p3⟩ := hp
    obtain ⟨a', t, rfl, rfl, rfl, rfl, p4⟩ := hg p3
    cases t with
    | nil =>
      rw [aV_nil] at p1
      have e1 : sV 1 2 (rowI a' ++ [[I x]]) = aV (a' ++ [x]) [] := by rw [rowI_app, aV_nil]
      have e2 : sO (rowI a' ++ [[I x]]) = aO (a' ++ [x]) [] := by unfold aO; rw [rowI_app, List.append_nil]
      have e3 : aO a' [] = sO (rowI a') := by unfold aO; rw [List.append_nil]
      rw [e3] at p2
      have key := (hApS_ok els22 2 (rowI a') [I x]).step h oo a m (sV 1 2 (rowI a' ++ [[I x]])) true (h.set 2 (sO (rowI a' ++ [[I x]]))) (evAllR (ev G0 a) args.toList = some [sV 1 2 (rowI a'), .sl 1 [[I x]]] ∧ h[2]? = some (sO (rowI a')) ∧ (∀ x ∈ rowI a', x.length = 1) ∧ ([I x] : List AV).length = 1 ∧ (∀ y ∈ ([I x] : List AV), y.one = true) ∧ (rowI a').length < 16777216) ?_ ⟨p1, p2, rowI_len a', rfl, fun y hy => by rw [List.mem_singleton.1 hy]; rfl, by simp [rowI]; simp at p4; omega⟩
      · rw [e1, e2] at key
        exact key
      · unfold hApS
        rw [ho]
        simp only [hts, cond_true]
    | cons z t' =>
      obtain ⟨ie, zx, h1, h2, h3, h4, h5, h6⟩ := els22.i
      have hts' : ts = #[22, 22] := eq_of_beq hts
      subst hts'
      have hn : notInt Try.prog 22 = true := by unfold notInt; rw [els22.u]
      refine AStep.op ?_
      rw [aopR_eq]
      unfold aopR
      simp only [ho, p1, Option.bind_some, aBuiltin]
      have hne : a' ++ z :: t' ≠ [] := by simp
      have hne2 : (a' ++ [x]) ++ t' ≠ [] := by simp
      have hobj : objAt h 2 ((a' ++ z :: t').length - 1) = some ((a' ++ z :: t').map I) := by
        unfold objAt
        rw [p2]
        unfold aO
        rw [sO_rowI hne]
        simp
      have hlen : (a' ++ z :: t').length = a'.length + t'.length + 1 := by simp; omega
      have hlen2 : ((a' ++ [x]) ++ t').length = a'.length + t'.length + 1 := by simp; omega
      have hconts : conts h ie.size (.sl 1 [[I x]]) = some (1, [I x]) := by simp [conts, h3]
      have hone : ([I x] : List AV).all AV.one = true := rfl
      rw [List.tail_cons, aV_ms hne, aV_ms hne2]
      unfold aAppend
      rw [els22.u]
      simp only [h1, h2, hconts]
      simp only [hn, hone, h4, h5, h3, h6, and_self, if_true, hobj]
      have c1 : a'.length ≤ (a' ++ z :: t').length := by omega
      have c2 : 0 + a'.length * 1 ≤ ((a' ++ z :: t').map I).length := by rw [List.length_map]; omega
      have c3 : a'.length + 1 ≤ (a' ++ z :: t').length := by omega
      have c4 : 0 + (a'.length + 1) * 1 ≤ ((a' ++ z :: t').map I).length := by rw [List.length_map]; omega
      rw [if_pos ⟨trivial, c1, c2⟩, if_neg (by omega), if_pos c3, if_pos c4]
      have e1 : setL ((a' ++ z :: t').map I) (0 + a'.length * 1) [I x] = ((a' ++ [x]) ++ t').map I := by
        rw [List.map_append, List.map_cons, setL_mid (by simp)]
        simp
      have e2 : aO (a' ++ [x]) t' = .cells ((a' ++ z :: t').length - 1) (((a' ++ [x]) ++ t').map I) := by
        unfold aO
        rw [sO_rowI hne2, hlen, hlen2]
      have e3 : (a' ++ [x]).length = a'.length + 1 := by simp
      rw [e1, e2, hlen, hlen2, e3]
  · unfold hApA at hh
    split at hh <;> first | (cases hh; done) | skip
    rename_i args ts ho
    exfalso
    revert hq
    unfold Am.quiet
    rw [ho]
    simp

/-! ### The state -/
def useC (u : Int × List Int) : List AV := [I u.1, flL u.2]
def useAV (l : List (Int × List Int)) : AV := .fl 2 l.length fun i => useC (l.getD i (0, []))
def usesAV (us : List (List (Int × List Int))) : AV := .fl 1 us.length fun i => [useAV (us.getD i [])]
/-- The state's cells. -/
def sC (p : Pb) (v : AV) (c : Int) (l : AV) (us : List (List (Int × List Int))) (rs : List Int) : List AV := [flL p.V, flLL p.C, flR p.R, v, I c, l, usesAV us, flL rs]
/-- The search's own heap. -/
def sH (p : Pb) (v : AV) (o : AObj) (c : Int) (l : AV) (lo : AObj) (us : List (List (Int × List Int))) (rs : List Int) : Heap := [.cells 0 (sC p v c l us rs), lo, o]
def SR : AV := .ref 0 0 0
/-- What is left of the rules. -/
def lV (l : List Int) : AV := sV 1 1 (rowI l)
def lO (l : List Int) : AObj := sO (rowI l)
theorem lV_ms {l : List Int} (h : l ≠ []) : lV l = .ms 1 1 (l.length - 1) 0 l.length l.length := by
  cases l with
  | nil => exact absurd rfl h
  | cons x r => simp [lV, rowI, sV]
theorem lO_cells {l : List Int} (h : l ≠ []) : lO l = .cells (l.length - 1) (l.map I) := sO_rowI h
theorem lV_len {l m : List Int} (h : l.length = m.length) : lV l = lV m := by
  cases l with
  | nil =>
    cases m with
    | nil => rfl
    | cons y q => simp at h
  | cons x r =>
    cases m with
    | nil => simp at h
    | cons y q =>
      rw [lV_ms (by simp), lV_ms (by simp), h]
theorem aLen_aV (a t : List Int) : aLen Try.prog 22 (aV a t) = some (I a.length) := by
  unfold aV
  cases h : a ++ t with
  | nil =>
    have : a = [] := (List.append_eq_nil_iff.1 h).1
    subst this
    unfold aLen
    rw [Try.underlying22]
    rfl
  | cons y l => unfold aLen; rw [Try.underlying22]
theorem one22 : One 22 := one_of (by kernel_rfl)
theorem one3 : One 3 := one_of (by kernel_rfl)
theorem arr_ok : HintA Try.prog (hArrG 22 3 .i64 1) := hArrG_ok 1 Try.underlying22 one3 Try.underlying3 one3
/-! ### bound -/
theorem run72 (m : Int) (p : Pb) (v : AV) (o : AObj) (c : Int) (l : AV) (lo : AObj) (us : List (List (Int × List Int))) (rs : List Int) : xCall Try.prog G0 { hint := hLenT 22 [14] v m } 200 72 [SR] [true] (sH p v o c l lo us rs) = .need (((Option.some v) = (Option.some v)) ∧ (((#[(22 : Nat)]) = (#[(22 : TypeId)])) ∧ ((aLen Try.prog (22 : TypeId) v) = (Option.some (I m))))) (.need (((0 : Int) ≤ m) ∧ (m < (↑rs.length : Int))) (.leaf ((I (IntKind.i64.wrap (c + rs.getD m.toNat (0 : Int)))), true, [(AObj.cells (0 : Nat) [(flL (p.V)), (flLL (p.C)), (flR (p.R)), v, (I c), l, (usesAV (us)), (flL (rs))]), lo, o]))) := by kernel_rfl
theorem c72 {p : Pb} {a t : List Int} {c : Int} {l : AV} {lo : AObj} {us : List (List (Int × List Int))} {rs : List Int} (ha : a.length < rs.length) (hc : -4000000000000000000 ≤ c + rs.getD a.length 0 ∧ c + rs.getD a.length 0 ≤ 4000000000000000000) :
    ACall Try.prog G0 72 [SR] (sH p (aV a t) (aO a t) c l lo us rs) (I (c + rs.getD a.length 0)) (sH p (aV a t) (aO a t) c l lo us rs) := by
  refine ACall.saysC (.ofH rfl rfl (hLenT_ok 22 [14] _ _).ok fun f xs t v h => by cases h) (run72 (a.length : Int) p (aV a t) (aO a t) c l lo us rs) ?_
  rw [Int.toNat_natCast, wrapI (by omega)]
  exact says_need ⟨rfl, rfl, aLen_aV a t⟩ (says_need ⟨by omega, by omega⟩ says_leaf)
/-- Loops that go to their end, their states by what they say. -/
theorem LoopA.linTv {body : Code} {N m : Nat} {S : Nat → St} {X : St} {eX : Exit} (n0 : ∀ k, (S k).n = (S 0).n) (nX : X.n = (S 0).n) (neX : eX ≠ .normal) (cS : ∀ k, CleanT m (S k)) (cX : CleanT m X)
    (hr : ∀ k, k ≤ N → ∃ E lp keep, ClOk Try.prog G0 E ∧ LoopsOk Try.prog G0 (fun r => r = none) [] lp body ∧ (k < N → ∃ st', (xBodyT E 200 lp keep m body (S k)).sel = some (.normal, st') ∧ st'.vals = (S (k + 1)).vals) ∧ (k = N → ∃ st', (xBodyT E 200 lp keep m body (S k)).sel = some (eX, st') ∧ st'.vals = X.vals)) : LoopA body N S S X .ret eX fun _ => false where
  n0 := n0
  nR := n0
  nX := nX
  neR := nofun
  neX := neX
  go k hk hj hs := by
    obtain ⟨E, lp, keep, h1, h2, h3, _⟩ := hr k (by omega)
    obtain ⟨st', h4, h5⟩ := h3 hk
    have h6 := vals_eq h5
    have hc : CleanT m st' := by unfold CleanT; rw [h6.1, h6.2]; exact cS (k + 1)
    have key := xBodyT_ok h1 h2 (cS k).1 hc h4
    rw [h6.1, h6.2] at key
    exact key
  st k hk hj hs := by cases hs
  en hj := by
    obtain ⟨E, lp, keep, h1, h2, _, h3⟩ := hr N (Nat.le_refl N)
    obtain ⟨st', h4, h5⟩ := h3 rfl
    have h6 := vals_eq h5
    have hc : CleanT m st' := by unfold CleanT; rw [h6.1, h6.2]; exact cX
    have key := xBodyT_ok h1 h2 (cS N).1 hc h4
    rw [h6.1, h6.2] at key
    exact key
theorem t_iteE {α : Type} {b : Bool} {x y : Tree (Exit × α)} {e : Exit} {Q : α → Prop} (hx : b = true → ∃ s, x.sel = some (e, s) ∧ Q s) (hy : b = false → ∃ s, y.sel = some (e, s) ∧ Q s) : ∃ s, (Tree.ite b x y).sel = some (e, s) ∧ Q s := by
  cases b with
  | true => exact hx rfl
  | false => exact hy rfl
theorem t_needE {α : Type} {p : Prop} {x : Tree (Exit × α)} {e : Exit} {Q : α → Prop} (hp : p) (hx : ∃ s, x.sel = some (e, s) ∧ Q s) : ∃ s, (Tree.need p x).sel = some (e, s) ∧ Q s := by
  obtain ⟨s, h1, h2⟩ := hx
  exact ⟨s, (selN hp).trans h1, h2⟩
/-! ### put -/
noncomputable def b65 : Code := bodyOf Try.prog 65
noncomputable def body65 : Code := (loopsOf b65).headD .skip
theorem loops65 : loopsOf b65 = [body65] := by kernel_rfl
def st65 (p : Pb) (v : AV) (o : AObj) (c : Int) (lv : AV) (lo : AObj) (us : List (List (Int × List Int))) (rs : List Int) (x : Int) (ok : Bool) (u : List (Int × List Int)) (k : Int) : St :=
  .of 83 [.cells 0 (sC p v c lv us rs), lo, o] [(0, SR, true), (1, I x, true), (4, .bool false, false), (6, .bool ok, true), (48, useAV u, true), (49, I u.length, true), (50, I k, true)]
def keep65 : List Nat := [0, 1, 4, 6, 48, 49, 50]
theorem run65 (p : Pb) (v : AV) (o : AObj) (c : Int) (g n : Nat) (cs : List AV) (us : List (List (Int × List Int))) (rs : List Int) (x : Int) (ok : Bool) (u : List (Int × List Int)) (k : Int) : xBodyT { boxRow := false, hint := hArrG 22 3 .i64 1 } 200 noLoops keep65 3 body65 (st65 p v o c (.ms 1 1 g 0 n n) (.cells g cs) us rs x ok u k) = .ite (decide (k < (↑u.length : Int))) (.need (((0 : Int) ≤ k) ∧ (k < (↑u.length : Int))) (.need (((0 : Int) ≤ (u.getD k.toNat ((0 : Int), [])).fst) ∧ (((u.getD k.toNat ((0 : Int), [])).fst < (↑n : Int)) ∧ (g = g))) (.need ((g = g) ∧ (∃ n, cs[(u.getD k.toNat ((0 : Int), [])).fst.toNat]? = some (AV.int IntKind.i64 n))) (.need (((0 : Int) ≤ x) ∧ (x < (↑(u.getD k.toNat ((0 : Int), [])).snd.length : Int))) (.need (((0 : Int) ≤ (u.getD k.toNat ((0 : Int), [])).fst) ∧ (((u.getD k.toNat ((0 : Int), [])).fst < (↑n : Int)) ∧ (g = g))) (.need ((g = g) ∧ (((u.getD k.toNat ((0 : Int), [])).fst.toNat) < (List.length cs))) (.ite (ok) (.need (((0 : Int) ≤ (u.getD k.toNat ((0 : Int), [])).fst) ∧ (((u.getD k.toNat ((0 : Int), [])).fst < (↑n : Int)) ∧ (g = g))) (.need ((g = g) ∧ (∃ n, (setL cs (u.getD k.toNat ((0 : Int), [])).fst.toNat [AV.int IntKind.i64 (IntKind.i64.wrap (intOf (cs.getD (u.getD k.toNat ((0 : Int), [])).fst.toNat AV.junk) - (u.getD k.toNat ((0 : Int), [])).snd.getD x.toNat (0 : Int)))])[(u.getD k.toNat ((0 : Int), [])).fst.toNat]? = some (AV.int IntKind.i64 n))) (.leaf (Exit.normal, St.of 83 [(AObj.cells (0 : Nat) [(flL (p.V)), (flLL (p.C)), (flR (p.R)), v, (I c), (AV.ms (1 : Nat) (1 : Nat) g (0 : Nat) n n), (usesAV (us)), (flL (rs))]), (AObj.cells g (setL cs (u.getD k.toNat ((0 : Int), [])).fst.toNat [AV.int IntKind.i64 (IntKind.i64.wrap (intOf (cs.getD (u.getD k.toNat ((0 : Int), [])).fst.toNat AV.junk) - (u.getD k.toNat ((0 : Int), [])).snd.getD x.toNat (0 : Int)))])), o] [(0, (AV.ref (0 : Nat) (0 : Nat) (0 : Nat)), true), (1, (I x), true), (4, (AV.bool false), false), (6, (AV.bool (decide (intOf ((setL cs (u.getD k.toNat ((0 : Int), [])).fst.toNat [AV.int IntKind.i64 (IntKind.i64.wrap (intOf (cs.getD (u.getD k.toNat ((0 : Int), [])).fst.toNat AV.junk) - (u.getD k.toNat ((0 : Int), [])).snd.getD x.toNat (0 : Int)))]).getD (u.getD k.toNat ((0 : Int), [])).fst.toNat AV.junk) ≥ (0 : Int)))), true), (48, (useAV (u)), true), (49, (I ((↑u.length : Int))), true), (50, (I (IntKind.i64.wrap (k + (1 : Int)))), true)])))) (.leaf (Exit.normal, St.of 83 [(AObj.cells (0 : Nat) [(flL (p.V)), (flLL (p.C)), (flR (p.R)), v, (I c), (AV.ms (1 : Nat) (1 : Nat) g (0 : Nat) n n), (usesAV (us)), (flL (rs))]), (AObj.cells g (setL cs (u.getD k.toNat ((0 : Int), [])).fst.toNat [AV.int IntKind.i64 (IntKind.i64.wrap (intOf (cs.getD (u.getD k.toNat ((0 : Int), [])).fst.toNat AV.junk) - (u.getD k.toNat ((0 : Int), [])).snd.getD x.toNat (0 : Int)))])), o] [(0, (AV.ref (0 : Nat) (0 : Nat) (0 : Nat)), true), (1, (I x), true), (4, (AV.bool false), false), (6, (AV.bool false), false), (48, (useAV (u)), true), (49, (I ((↑u.length : Int))), true), (50, (I (IntKind.i64.wrap (k + (1 : Int)))), true)]))))))))) (.leaf ((Exit.exit (0 : Nat)), St.of 83 [(AObj.cells (0 : Nat) [(flL (p.V)), (flLL (p.C)), (flR (p.R)), v, (I c), (AV.ms (1 : Nat) (1 : Nat) g (0 : Nat) n n), (usesAV (us)), (flL (rs))]), (AObj.cells g cs), o] [(0, (AV.ref (0 : Nat) (0 : Nat) (0 : Nat)), true), (1, (I x), true), (4, (AV.bool false), false), (6, (AV.bool ok), true), (48, (useAV (u)), true), (49, (I ((↑u.length : Int))), true), (50, (I k), true)])) := by kernel_rfl
theorem run65e (p : Pb) (v : AV) (o : AObj) (c : Int) (lv : AV) (lo : AObj) (us : List (List (Int × List Int))) (rs : List Int) (x : Int) (ok : Bool) (u : List (Int × List Int)) : xBodyT { boxRow := false, clh := failH, hint := hNoAl } 200 noLoops keep65 3 body65 (st65 p v o c lv lo us rs x ok u u.length) = .ite (decide ((↑u.length : Int) < (↑u.length : Int))) (.need (((0 : Int) ≤ (↑u.length : Int)) ∧ ((↑u.length : Int) < (↑u.length : Int))) (.need (False) .fail)) (.leaf ((Exit.exit (0 : Nat)), St.of 83 [(AObj.cells (0 : Nat) [(flL (p.V)), (flLL (p.C)), (flR (p.R)), v, (I c), lv, (usesAV (us)), (flL (rs))]), lo, o] [(0, (AV.ref (0 : Nat) (0 : Nat) (0 : Nat)), true), (1, (I x), true), (4, (AV.bool false), false), (6, (AV.bool ok), true), (48, (useAV (u)), true), (49, (I ((↑u.length : Int))), true), (50, (I ((↑u.length : Int))), true)])) := by kernel_rfl
def E65 (m x : Int) (v v' : AV) (o o' : AObj) (g : Prop) : Env := { boxRow := false, hint := orH (hLenT 22 [12] v m) (orH (hApA x v v' o o' g) (hSto 22 0)) }
theorem runF65 (m : Int) (gg : Prop) (p : Pb) (v v' : AV) (o o' : AObj) (c : Int) (lv : AV) (lo lo' : AObj) (us : List (List (Int × List Int))) (rs : List Int) (x : Int) (ok : Bool) : xenter Try.prog (E65 m x v v' o o' gg) (xCode Try.prog G0 (E65 m x v v' o o' gg) 200 (lpB 6 keep65 (st65 p v' o' (IntKind.i64.wrap (c + (p.C.getD m.toNat []).getD x.toNat 0)) lv lo us rs x true (us.getD m.toNat []) 0) (.exit 0) (st65 p v' o' (IntKind.i64.wrap (c + (p.C.getD m.toNat []).getD x.toNat 0)) lv lo' us rs x ok (us.getD m.toNat []) (us.getD m.toNat []).length))) 65 [SR, I x] [true, true] (sH p v o c lv lo us rs) = .need (((Option.some v) = (Option.some v)) ∧ (((#[(22 : Nat)]) = (#[(22 : TypeId)])) ∧ ((aLen Try.prog (22 : TypeId) v) = (Option.some (I m))))) (.need (((Option.some [v, (AV.sl (1 : Nat) [[(I x)]])]) = (Option.some [v, (AV.sl (1 : Nat) [[(I x)]])])) ∧ (((Option.some o) = (Option.some o)) ∧ (gg))) (.need (((AV.one v') = true) ∧ ((3 : Nat) < (8 : Nat))) (.need (((0 : Int) ≤ m) ∧ (m < (↑p.C.length : Int))) (.need (((0 : Int) ≤ x) ∧ (x < (↑(p.C.getD m.toNat []).length : Int))) (.need (((0 : Int) ≤ m) ∧ (m < (↑us.length : Int))) (.need ((st65 p v' o' (IntKind.i64.wrap (c + (p.C.getD m.toNat []).getD x.toNat 0)) lv lo us rs x true (us.getD m.toNat []) 0).vals = (st65 p v' o' (IntKind.i64.wrap (c + (p.C.getD m.toNat []).getD x.toNat 0)) lv lo us rs x true (us.getD m.toNat []) 0).vals) (.leaf ((AV.bool ok), true, [(AObj.cells (0 : Nat) [(flL (p.V)), (flLL (p.C)), (flR (p.R)), v', (I (IntKind.i64.wrap (c + (p.C.getD m.toNat []).getD x.toNat (0 : Int)))), lv, (usesAV (us)), (flL (rs))]), lo', o'])))))))) := by kernel_rfl

/-- What a value takes from what is left, use by use. -/
def putL (u : List (Int × List Int)) (x : Int) (l : List Int) : Nat → List Int
  | 0 => l
  | k + 1 => (putL u x l k).set (u.getD k (0, [])).1.toNat ((putL u x l k).getD (u.getD k (0, [])).1.toNat 0 - (u.getD k (0, [])).2.getD x.toNat 0)
def putOk (u : List (Int × List Int)) (x : Int) (l : List Int) : Nat → Bool
  | 0 => true
  | k + 1 => bif putOk u x l k then decide ((putL u x l (k + 1)).getD (u.getD k (0, [])).1.toNat 0 ≥ 0) else false
/-- Uses that fit. -/
structure Fit (u : List (Int × List Int)) (x : Int) (l : List Int) : Prop where
  x0 : 0 ≤ x
  r : ∀ k, k < u.length → 0 ≤ (u.getD k (0, [])).1 ∧ (u.getD k (0, [])).1 < l.length
  w : ∀ k, k < u.length → x.toNat < (u.getD k (0, [])).2.length
  b : ∀ k, k < u.length → -1000000000 ≤ (u.getD k (0, [])).2.getD x.toNat 0 ∧ (u.getD k (0, [])).2.getD x.toNat 0 ≤ 1000000000
  n : u.length ≤ 1000000
  lb : ∀ j, -1000000000000 ≤ l.getD j 0 ∧ l.getD j 0 ≤ 1000000000000
theorem putL_len (u : List (Int × List Int)) (x : Int) (l : List Int) : ∀ k, (putL u x l k).length = l.length
  | 0 => rfl
  | k + 1 => by unfold putL; rw [List.length_set, putL_len u x l k]
theorem getD_setL (l : List Int) (i j : Nat) (y : Int) : (l.set i y).getD j 0 = if i = j ∧ i < l.length then y else l.getD j 0 := by
  simp only [List.getD_eq_getElem?_getD, List.getElem?_set]
  by_cases h : i = j
  · subst h
    by_cases h2 : i < l.length
    · simp [h2]
    · simp [h2]
  · simp [h]
theorem Fit.bnd {u : List (Int × List Int)} {x : Int} {l : List Int} (h : Fit u x l) : ∀ {k : Nat}, k ≤ u.length → ∀ j, -1000000000000 - 1000000000 * (k : Int) ≤ (putL u x l k).getD j 0 ∧ (putL u x l k).getD j 0 ≤ 1000000000000 + 1000000000 * (k : Int)
  | 0, _, j => by
    have := h.lb j
    show _ ≤ l.getD j 0 ∧ l.getD j 0 ≤ _
    omega
  | k + 1, hk, j => by
    have h1 := Fit.bnd h (k := k) (by omega)
    have h2 := h.b k (by omega)
    unfold putL
    rw [getD_setL]
    split
    · have := h1 (u.getD k (0, [])).1.toNat
      omega
    · have := h1 j
      omega
theorem map_getD (l : List Int) {i : Nat} (h : i < l.length) : intOf ((l.map I).getD i .junk) = l.getD i 0 := by
  simp [List.getD_eq_getElem?_getD, h, intOf]
theorem map_setL (l : List Int) {i : Nat} (h : i < l.length) (y : Int) : setL (l.map I) i [I y] = (l.set i y).map I := by
  apply List.ext_getElem?
  intro j
  rw [setL_get (by simp; omega)]
  simp only [List.getElem?_map, List.getElem?_set, List.length_singleton]
  by_cases h1 : j < i
  · rw [if_pos h1, if_neg (by omega)]
  · rw [if_neg h1]
    by_cases h2 : j < i + 1
    · obtain rfl : j = i := by omega
      simp [h]
    · rw [if_neg h2, if_neg (by omega)]
theorem map_get (l : List Int) {i : Nat} (h : i < l.length) : (l.map I)[i]? = some (I (l.getD i 0)) := by
  simp [List.getD_eq_getElem?_getD, h]
theorem below_useAV {m : Nat} (u : List (Int × List Int)) : Below m (useAV u) := below_fl fun i y hy => by
  simp only [useC, List.mem_cons, List.not_mem_nil, or_false] at hy
  rcases hy with rfl | rfl
  · exact .int _ _
  · exact below_flL _
theorem below_usesAV {m : Nat} (us : List (List (Int × List Int))) : Below m (usesAV us) := below_fl fun i y hy => by
  rw [List.mem_singleton.1 hy]
  exact below_useAV _
theorem sH_alone {m : Nat} {p : Pb} {v : AV} {o : AObj} {c : Int} {l : AV} {lo : AObj} {us : List (List (Int × List Int))} {rs : List Int} (hv : Below m v) (ho : Alone m o) (hl : Below m l) (hlo : Alone m lo) : ∀ o' ∈ sH p v o c l lo us rs, Alone m o' := fun o' h' => by
  simp only [sH, List.mem_cons, List.not_mem_nil, or_false] at h'
  rcases h' with rfl | rfl | rfl
  · intro y hy
    simp only [sC, List.mem_cons, List.not_mem_nil, or_false] at hy
    rcases hy with rfl | rfl | rfl | rfl | rfl | rfl | rfl | rfl
    · exact below_flL _
    · exact below_flLL _
    · exact (below_flR _).up
    · exact hv
    · exact .int _ _
    · exact hl
    · exact below_usesAV us
    · exact below_flL _
  · exact hlo
  · exact ho
theorem below_aV (a t : List Int) : Below 3 (aV a t) := by
  by_cases h : a ++ t = []
  · unfold aV; rw [h]; exact .zs
  · rw [aV_ms h]; exact .ms _ _ _ _ _ _ (by omega)
theorem alone_aO (a t : List Int) : Alone 3 (aO a t) := alone_rowI _
theorem below_lV (l : List Int) : Below 3 (lV l) := below_sV (by omega)
theorem alone_lO (l : List Int) : Alone 3 (lO l) := alone_rowI _
theorem clean65 (p : Pb) (a t : List Int) (c : Int) (l l' : List Int) (us : List (List (Int × List Int))) (rs : List Int) (x : Int) (ok : Bool) (u : List (Int × List Int)) (k : Int) : CleanT 3 (st65 p (aV a t) (aO a t) c (lV l) (lO l') us rs x ok u k) :=
  cleanT_of rfl (sH_alone (below_aV a t) (alone_aO a t) (below_lV l) (alone_lO l')) ⟨.ref _ _ _ (by omega), .int _ _, .bool _, .bool _, below_useAV u, .int _ _, .int _ _, trivial⟩
theorem vals65 (p : Pb) (v : AV) (o : AObj) (c : Int) (lv : AV) (lo : AObj) (us : List (List (Int × List Int))) (rs : List Int) (x : Int) (ok : Bool) (u : List (Int × List Int)) (n k : Int) (b : Bool) : (St.of 83 [AObj.cells 0 [flL p.V, flLL p.C, flR p.R, v, I c, lv, usesAV us, flL rs], lo, o] [(0, AV.ref 0 0 0, true), (1, I x, true), (4, AV.bool false, false), (6, AV.bool ok, b), (48, useAV u, true), (49, I n, true), (50, I k, true)]).vals =
    (St.of 83 [AObj.cells 0 [flL p.V, flLL p.C, flR p.R, v, I c, lv, usesAV us, flL rs], lo, o] [(0, AV.ref 0 0 0, true), (1, I x, true), (4, AV.bool false, false), (6, AV.bool ok, true), (48, useAV u, true), (49, I n, true), (50, I k, true)]).vals := by kernel_rfl
theorem loop65 {p : Pb} {a t : List Int} {c : Int} {l : List Int} {us : List (List (Int × List Int))} {rs : List Int} {x : Int} {u : List (Int × List Int)} (hf : Fit u x l) :
    LoopA body65 u.length (fun k => st65 p (aV a t) (aO a t) c (lV l) (lO (putL u x l k)) us rs x (putOk u x l k) u k) (fun k => st65 p (aV a t) (aO a t) c (lV l) (lO (putL u x l k)) us rs x (putOk u x l k) u k) (st65 p (aV a t) (aO a t) c (lV l) (lO (putL u x l u.length)) us rs x (putOk u x l u.length) u u.length) .ret (.exit 0) fun _ => false := by
  refine .linTv (m := 3) (fun _ => rfl) rfl nofun (fun k => clean65 p a t c l _ us rs x _ u k) (clean65 p a t c l _ us rs x _ u _) fun k hk => ?_
  by_cases hlt : k < u.length
  · refine ⟨{ boxRow := false, hint := hArrG 22 3 .i64 1 }, noLoops, keep65, .ofH rfl rfl arr_ok.ok (fun f xs t v h => by cases h), lpNo _, fun _ => ?_, fun he => by omega⟩
    have hl0 : 0 < l.length := by have := hf.r k hlt; omega
    have hne : l ≠ [] := by intro h; rw [h] at hl0; simp at hl0
    have hlen := putL_len u x l k
    have hne2 : putL u x l k ≠ [] := by intro h; rw [h] at hlen; simp at hlen; omega
    have hr := hf.r k hlt
    have hw := hf.w k hlt
    have hb := hf.b k hlt
    have hx := hf.x0
    have hn := hf.n
    have hbn := Fit.bnd hf (k := k) (by omega) (u.getD k (0, [])).1.toNat
    have hi : (u.getD k (0, [])).1.toNat < (putL u x l k).length := by omega
    rw [lV_ms hne, lO_cells hne2, hlen]
    have key := (run65 p (aV a t) (aO a t) c (l.length - 1) l.length ((putL u x l k).map I) us rs x (putOk u x l k) u k)
    rw [Int.toNat_natCast, wrapS (n := 1000001) (by omega) (by omega), map_getD _ hi, wrapI (by omega), map_setL _ hi] at key
    have e1 : (putL u x l k).set (u.getD k (0, [])).1.toNat ((putL u x l k).getD (u.getD k (0, [])).1.toNat 0 - (u.getD k (0, [])).2.getD x.toNat 0) = putL u x l (k + 1) := rfl
    rw [e1] at key
    have hlen2 := putL_len u x l (k + 1)
    have hi2 : (u.getD k (0, [])).1.toNat < (putL u x l (k + 1)).length := by omega
    have hne3 : putL u x l (k + 1) ≠ [] := by intro h; rw [h] at hlen2; simp at hlen2; omega
    rw [map_getD _ hi2] at key
    rw [key]
    refine t_iteE (fun _ => t_needE ⟨by omega, by omega⟩ (t_needE ⟨hr.1, by omega, rfl⟩ (t_needE ⟨rfl, _, map_get _ hi⟩ (t_needE ⟨hx, by omega⟩ (t_needE ⟨hr.1, by omega, rfl⟩ (t_needE ⟨rfl, by rw [List.length_map]; exact hi⟩ (t_iteE (fun h1 => t_needE ⟨hr.1, by omega, rfl⟩ (t_needE ⟨rfl, _, map_get _ hi2⟩ ⟨_, rfl, ?_⟩)) fun h1 => ⟨_, rfl, ?_⟩))))))) fun h => absurd (of_decide_eq_false h) (by omega)
    · have e2 : putOk u x l (k + 1) = decide ((putL u x l (k + 1)).getD (u.getD k (0, [])).1.toNat 0 ≥ 0) := by
        show (bif putOk u x l k then _ else false) = _
        rw [h1]; rfl
      rw [e2, lO_cells hne3, hlen2]
      exact vals65 _ _ _ _ _ _ _ _ _ _ _ _ _ _
    · have e2 : putOk u x l (k + 1) = false := by
        show (bif putOk u x l k then _ else false) = _
        rw [h1]; rfl
      rw [e2, lO_cells hne3, hlen2]
      exact vals65 _ _ _ _ _ _ _ _ _ _ _ _ _ _
  · obtain rfl : k = u.length := by omega
    refine ⟨{ boxRow := false, clh := failH, hint := hNoAl }, noLoops, keep65, .all hNoAl_ok.ok failH_ok (fun l xs σ t v σ' h => (by cases h)) (fun f xs t v h => by cases h), lpNo _, fun h => absurd h (by omega), fun _ => ?_⟩
    rw [run65e p (aV a t) (aO a t) c (lV l) (lO (putL u x l u.length)) us rs x (putOk u x l u.length) u]
    exact t_iteE (fun h => absurd (of_decide_eq_true h) (by omega)) fun _ => ⟨_, rfl, rfl⟩
theorem one_aV (a t : List Int) : (aV a t).one = true := by
  by_cases h : a ++ t = []
  · unfold aV; rw [h]; rfl
  · rw [aV_ms h]; rfl
/-- WHAT put DOES. -/
theorem c65 {p : Pb} {a t : List Int} {c : Int} {l : List Int} {us : List (List (Int × List Int))} {rs : List Int} {x : Int} (hf : Fit (us.getD a.length []) x l) (ha : (a ++ t).length < 1000000) (hu : a.length < us.length) (hC : a.length < p.C.length) (hx : x.toNat < (p.C.getD a.length []).length)
    (hc : -4000000000000000000 ≤ c + (p.C.getD a.length []).getD x.toNat 0 ∧ c + (p.C.getD a.length []).getD x.toNat 0 ≤ 4000000000000000000) :
    ACall Try.prog G0 65 [SR, I x] (sH p (aV a t) (aO a t) c (lV l) (lO l) us rs) (.bool (putOk (us.getD a.length []) x l (us.getD a.length []).length))
      (sH p (aV (a ++ [x]) t.tail) (aO (a ++ [x]) t.tail) (c + (p.C.getD a.length []).getD x.toNat 0) (lV l) (lO (putL (us.getD a.length []) x l (us.getD a.length []).length)) us rs) := by
  have hx0 := hf.x0
  have hlp := (loop65 (p := p) (a := a ++ [x]) (t := t.tail) (c := c + (p.C.getD a.length []).getD x.toNat 0) (us := us) (rs := rs) hf).okB (fun _ _ => rfl) (c := bodyOf Try.prog 65) (i := 6) (keep := keep65) (one_loop loops65)
  have hcl : ClOk Try.prog G0 (E65 a.length x (aV a t) (aV (a ++ [x]) t.tail) (aO a t) (aO (a ++ [x]) t.tail) True) := .ofH rfl rfl ((hLenT_ok 22 [12] _ _).ok.or ((hApA_ok fun _ => ⟨a, t, rfl, rfl, rfl, rfl, by omega⟩).or (hSto_ok 0 one22).ok)) fun f xs t v h => by cases h
  have key := runF65 a.length True p (aV a t) (aV (a ++ [x]) t.tail) (aO a t) (aO (a ++ [x]) t.tail) c (lV l) (lO l) (lO (putL (us.getD a.length []) x l (us.getD a.length []).length)) us rs x (putOk (us.getD a.length []) x l (us.getD a.length []).length)
  rw [Int.toNat_natCast, wrapI (by omega)] at key
  exact ACall.says hcl hlp key (says_need ⟨rfl, rfl, aLen_aV a t⟩ (says_need ⟨rfl, rfl, trivial⟩ (says_need ⟨one_aV _ _, by omega⟩ (says_need ⟨by omega, by omega⟩ (says_need ⟨hx0, by omega⟩ (says_need ⟨by omega, by omega⟩ (says_need rfl says_leaf)))))))

/-! ### back -/
noncomputable def body70 : Code := (loopsOf (bodyOf Try.prog 70)).headD .skip
theorem loops70 : loopsOf (bodyOf Try.prog 70) = [body70] := by kernel_rfl
def st70 (p : Pb) (v : AV) (o : AObj) (c : Int) (lv : AV) (lo : AObj) (us : List (List (Int × List Int))) (rs : List Int) (d x : Int) (u : List (Int × List Int)) (k : Int) : St :=
  .of 74 [.cells 0 (sC p v c lv us rs), lo, o] [(0, SR, true), (2, I d, true), (3, I x, true), (52, useAV u, true), (53, I u.length, true), (54, I k, true)]
def keep70 : List Nat := [0, 2, 3, 52, 53, 54]
theorem run70 (p : Pb) (v : AV) (o : AObj) (c : Int) (g n : Nat) (cs : List AV) (us : List (List (Int × List Int))) (rs : List Int) (d x : Int) (u : List (Int × List Int)) (k : Int) : xBodyT { boxRow := false, hint := hArrG 22 3 .i64 1 } 200 noLoops keep70 3 body70 (st70 p v o c (.ms 1 1 g 0 n n) (.cells g cs) us rs d x u k) = .ite (decide (k < (↑u.length : Int))) (.need (((0 : Int) ≤ k) ∧ (k < (↑u.length : Int))) (.need (((0 : Int) ≤ (u.getD k.toNat ((0 : Int), [])).fst) ∧ (((u.getD k.toNat ((0 : Int), [])).fst < (↑n : Int)) ∧ (g = g))) (.need ((g = g) ∧ (∃ n, cs[(u.getD k.toNat ((0 : Int), [])).fst.toNat]? = some (AV.int IntKind.i64 n))) (.need (((0 : Int) ≤ x) ∧ (x < (↑(u.getD k.toNat ((0 : Int), [])).snd.length : Int))) (.need (((0 : Int) ≤ (u.getD k.toNat ((0 : Int), [])).fst) ∧ (((u.getD k.toNat ((0 : Int), [])).fst < (↑n : Int)) ∧ (g = g))) (.need ((g = g) ∧ (((u.getD k.toNat ((0 : Int), [])).fst.toNat) < (List.length cs))) (.leaf (Exit.normal, St.of 74 [(AObj.cells (0 : Nat) [(flL (p.V)), (flLL (p.C)), (flR (p.R)), v, (I c), (AV.ms (1 : Nat) (1 : Nat) g (0 : Nat) n n), (usesAV (us)), (flL (rs))]), (AObj.cells g (setL cs (u.getD k.toNat ((0 : Int), [])).fst.toNat [AV.int IntKind.i64 (IntKind.i64.wrap (intOf (cs.getD (u.getD k.toNat ((0 : Int), [])).fst.toNat AV.junk) + (u.getD k.toNat ((0 : Int), [])).snd.getD x.toNat (0 : Int)))])), o] [(0, (AV.ref (0 : Nat) (0 : Nat) (0 : Nat)), true), (2, (I d), true), (3, (I x), true), (52, (useAV (u)), true), (53, (I ((↑u.length : Int))), true), (54, (I (IntKind.i64.wrap (k + (1 : Int)))), true)])))))))) (.leaf ((Exit.exit (0 : Nat)), St.of 74 [(AObj.cells (0 : Nat) [(flL (p.V)), (flLL (p.C)), (flR (p.R)), v, (I c), (AV.ms (1 : Nat) (1 : Nat) g (0 : Nat) n n), (usesAV (us)), (flL (rs))]), (AObj.cells g cs), o] [(0, (AV.ref (0 : Nat) (0 : Nat) (0 : Nat)), true), (2, (I d), true), (3, (I x), true), (52, (useAV (u)), true), (53, (I ((↑u.length : Int))), true), (54, (I k), true)])) := by kernel_rfl
theorem run70e (p : Pb) (v : AV) (o : AObj) (c : Int) (lv : AV) (lo : AObj) (us : List (List (Int × List Int))) (rs : List Int) (d x : Int) (u : List (Int × List Int)) : xBodyT { boxRow := false, clh := failH, hint := hNoAl } 200 noLoops keep70 3 body70 (st70 p v o c lv lo us rs d x u u.length) = .ite (decide ((↑u.length : Int) < (↑u.length : Int))) (.need (((0 : Int) ≤ (↑u.length : Int)) ∧ ((↑u.length : Int) < (↑u.length : Int))) (.need (False) .fail)) (.leaf ((Exit.exit (0 : Nat)), St.of 74 [(AObj.cells (0 : Nat) [(flL (p.V)), (flLL (p.C)), (flR (p.R)), v, (I c), lv, (usesAV (us)), (flL (rs))]), lo, o] [(0, (AV.ref (0 : Nat) (0 : Nat) (0 : Nat)), true), (2, (I d), true), (3, (I x), true), (52, (useAV (u)), true), (53, (I ((↑u.length : Int))), true), (54, (I ((↑u.length : Int))), true)])) := by kernel_rfl
/-- A part of a slice, from its beginning, told beforehand. -/
def hSlA (t : TypeId) (g len m : Nat) (kk : Int) (v' : AV) : Heap → Oper → (Operand → Option AV) → Option (AV × Bool × Heap × Prop) := fun h o ρ => match o.op with
  | .slice t' x none (some y) none => bif Nat.beq t' t then (match h[(2 : Nat)]? with
    | some (.cells g' _) => some (v', true, h, ρ x = some (.ms 1 2 g 0 len m) ∧ ρ y = some (I kk) ∧ len ≤ m ∧ 0 ≤ kk ∧ kk ≤ m ∧ 0 < m ∧ g' = g ∧ v' = .ms 1 2 g 0 kk.toNat m)
    | _ => none) else none
  | _ => none
theorem hSlA_ok (g len m : Nat) (kk : Int) (v' : AV) : HintA Try.prog (hSlA 22 g len m kk v') := by
  intro h o ρ y s h' p hh hp
  unfold hSlA at hh
  split at hh <;> first | (cases hh; done) | skip
  rename_i t' x y' ho
  cases ht : Nat.beq t' 22 with
  | false => rw [ht] at hh; cases hh
  | true =>
  rw [ht, cond_true] at hh
  obtain rfl := Nat.eq_of_beq_eq_true ht
  split at hh <;> first | (cases hh; done) | skip
  rename_i g' c hc
  cases hh
  obtain ⟨p1, p2, p3, p4, p5, p6, rfl, rfl⟩ := hp
  obtain ⟨ie, zx, h1, h2, h3, h4, h5, h6⟩ := els22.i
  have hobj : objAt h 2 g' = some c := by unfold objAt; rw [hc]; simp
  have hb : aBounds len m none (some (I kk)) none = some (0, kk.toNat, m) := by
    unfold aBounds
    have e : aBound (I kk) m = some kk.toNat := by
      simp only [aBound]
      rw [if_pos ⟨p4, p5⟩]
    simp only [e]
  unfold aopR
  simp only [ho, p1, evOptR, p2, Option.map_some]
  unfold aSlice
  rw [Try.underlying22]
  simp only [h1, hb, h3, hobj]
  have hm : ¬ m = 0 := by omega
  simp [p3, hm]
def E70 (g n m : Nat) (kk : Int) (v' : AV) : Env := { boxRow := false, hint := orH (hArrG 22 3 .i64 2) (orH (hSlA 22 g n m kk v') (hSto 22 0)) }
theorem runF70 (kk : Int) (p : Pb) (g n m : Nat) (cs : List AV) (v' : AV) (c : Int) (lv : AV) (lo lo' : AObj) (us : List (List (Int × List Int))) (rs : List Int) : xenter Try.prog (E70 g n m kk v') (xCode Try.prog G0 (E70 g n m kk v') 200 (lpB 5 keep70 (st70 p v' (.cells g cs) (IntKind.i64.wrap (c - (p.C.getD (IntKind.i64.wrap ((n : Int) - 1)).toNat []).getD (intOf (cs.getD (IntKind.i64.wrap ((n : Int) - 1)).toNat .junk)).toNat 0)) lv lo us rs (IntKind.i64.wrap ((n : Int) - 1)) (intOf (cs.getD (IntKind.i64.wrap ((n : Int) - 1)).toNat .junk)) (us.getD (IntKind.i64.wrap ((n : Int) - 1)).toNat []) 0) (.exit 0) (st70 p v' (.cells g cs) (IntKind.i64.wrap (c - (p.C.getD (IntKind.i64.wrap ((n : Int) - 1)).toNat []).getD (intOf (cs.getD (IntKind.i64.wrap ((n : Int) - 1)).toNat .junk)).toNat 0)) lv lo' us rs (IntKind.i64.wrap ((n : Int) - 1)) (intOf (cs.getD (IntKind.i64.wrap ((n : Int) - 1)).toNat .junk)) (us.getD (IntKind.i64.wrap ((n : Int) - 1)).toNat []) (us.getD (IntKind.i64.wrap ((n : Int) - 1)).toNat []).length))) 70 [SR] [true] (sH p (.ms 1 2 g 0 n m) (.cells g cs) c lv lo us rs) = .need (((0 : Int) ≤ IntKind.i64.wrap ((↑n : Int) - (1 : Int))) ∧ ((IntKind.i64.wrap ((↑n : Int) - (1 : Int)) < (↑n : Int)) ∧ (g = g))) (.need ((g = g) ∧ (∃ n_1, cs[(IntKind.i64.wrap ((↑n : Int) - (1 : Int))).toNat]? = some (AV.int IntKind.i64 n_1))) (.need (((Option.some (AV.ms (1 : Nat) (2 : Nat) g (0 : Nat) n m)) = (Option.some (AV.ms (1 : Nat) (2 : Nat) g (0 : Nat) n m))) ∧ (((Option.some (I (IntKind.i64.wrap ((↑n : Int) - (1 : Int))))) = (Option.some (I kk))) ∧ ((n ≤ m) ∧ (((0 : Int) ≤ kk) ∧ ((kk ≤ (↑m : Int)) ∧ (((0 : Nat) < m) ∧ ((g = g) ∧ (v' = (AV.ms (1 : Nat) (2 : Nat) g (0 : Nat) (kk.toNat) m))))))))) (.need (((AV.one v') = true) ∧ ((3 : Nat) < (8 : Nat))) (.need (((0 : Int) ≤ IntKind.i64.wrap ((↑n : Int) - (1 : Int))) ∧ (IntKind.i64.wrap ((↑n : Int) - (1 : Int)) < (↑p.C.length : Int))) (.need (((0 : Int) ≤ intOf (cs.getD (IntKind.i64.wrap ((↑n : Int) - (1 : Int))).toNat AV.junk)) ∧ (intOf (cs.getD (IntKind.i64.wrap ((↑n : Int) - (1 : Int))).toNat AV.junk) < (↑(p.C.getD (IntKind.i64.wrap ((↑n : Int) - (1 : Int))).toNat []).length : Int))) (.need (((0 : Int) ≤ IntKind.i64.wrap ((↑n : Int) - (1 : Int))) ∧ (IntKind.i64.wrap ((↑n : Int) - (1 : Int)) < (↑us.length : Int))) (.need ((st70 p v' (.cells g cs) (IntKind.i64.wrap (c - (p.C.getD (IntKind.i64.wrap ((n : Int) - 1)).toNat []).getD (intOf (cs.getD (IntKind.i64.wrap ((n : Int) - 1)).toNat .junk)).toNat 0)) lv lo us rs (IntKind.i64.wrap ((n : Int) - 1)) (intOf (cs.getD (IntKind.i64.wrap ((n : Int) - 1)).toNat .junk)) (us.getD (IntKind.i64.wrap ((n : Int) - 1)).toNat []) 0).vals = (st70 p v' (.cells g cs) (IntKind.i64.wrap (c - (p.C.getD (IntKind.i64.wrap ((n : Int) - 1)).toNat []).getD (intOf (cs.getD (IntKind.i64.wrap ((n : Int) - 1)).toNat .junk)).toNat 0)) lv lo us rs (IntKind.i64.wrap ((n : Int) - 1)) (intOf (cs.getD (IntKind.i64.wrap ((n : Int) - 1)).toNat .junk)) (us.getD (IntKind.i64.wrap ((n : Int) - 1)).toNat []) 0).vals) (.leaf ((AV.tup []), false, [(AObj.cells (0 : Nat) [(flL (p.V)), (flLL (p.C)), (flR (p.R)), v', (I (IntKind.i64.wrap (c - (p.C.getD (IntKind.i64.wrap ((↑n : Int) - (1 : Int))).toNat []).getD (intOf (cs.getD (IntKind.i64.wrap ((↑n : Int) - (1 : Int))).toNat AV.junk)).toNat (0 : Int)))), lv, (usesAV (us)), (flL (rs))]), lo', (AObj.cells g cs)]))))))))) := by kernel_rfl

def backL (u : List (Int × List Int)) (x : Int) (l : List Int) : Nat → List Int
  | 0 => l
  | k + 1 => (backL u x l k).set (u.getD k (0, [])).1.toNat ((backL u x l k).getD (u.getD k (0, [])).1.toNat 0 + (u.getD k (0, [])).2.getD x.toNat 0)
theorem backL_len (u : List (Int × List Int)) (x : Int) (l : List Int) : ∀ k, (backL u x l k).length = l.length
  | 0 => rfl
  | k + 1 => by unfold backL; rw [List.length_set, backL_len u x l k]
theorem Fit.bndB {u : List (Int × List Int)} {x : Int} {l : List Int} (h : Fit u x l) : ∀ {k : Nat}, k ≤ u.length → ∀ j, -1000000000000 - 1000000000 * (k : Int) ≤ (backL u x l k).getD j 0 ∧ (backL u x l k).getD j 0 ≤ 1000000000000 + 1000000000 * (k : Int)
  | 0, _, j => by
    have := h.lb j
    show _ ≤ l.getD j 0 ∧ l.getD j 0 ≤ _
    omega
  | k + 1, hk, j => by
    have h1 := Fit.bndB h (k := k) (by omega)
    have h2 := h.b k (by omega)
    unfold backL
    rw [getD_setL]
    split
    · have := h1 (u.getD k (0, [])).1.toNat
      omega
    · have := h1 j
      omega
theorem clean70 (p : Pb) (a t : List Int) (c : Int) (l l' : List Int) (us : List (List (Int × List Int))) (rs : List Int) (d x : Int) (u : List (Int × List Int)) (k : Int) : CleanT 3 (st70 p (aV a t) (aO a t) c (lV l) (lO l') us rs d x u k) :=
  cleanT_of rfl (sH_alone (below_aV a t) (alone_aO a t) (below_lV l) (alone_lO l')) ⟨.ref _ _ _ (by omega), .int _ _, .int _ _, below_useAV u, .int _ _, .int _ _, trivial⟩
theorem loop70 {p : Pb} {a t : List Int} {c : Int} {l : List Int} {us : List (List (Int × List Int))} {rs : List Int} {d x : Int} {u : List (Int × List Int)} (hf : Fit u x l) :
    LoopA body70 u.length (fun k => st70 p (aV a t) (aO a t) c (lV l) (lO (backL u x l k)) us rs d x u k) (fun k => st70 p (aV a t) (aO a t) c (lV l) (lO (backL u x l k)) us rs d x u k) (st70 p (aV a t) (aO a t) c (lV l) (lO (backL u x l u.length)) us rs d x u u.length) .ret (.exit 0) fun _ => false := by
  refine .linTv (m := 3) (fun _ => rfl) rfl nofun (fun k => clean70 p a t c l _ us rs d x u k) (clean70 p a t c l _ us rs d x u _) fun k hk => ?_
  by_cases hlt : k < u.length
  · refine ⟨{ boxRow := false, hint := hArrG 22 3 .i64 1 }, noLoops, keep70, .ofH rfl rfl arr_ok.ok (fun f xs t v h => by cases h), lpNo _, fun _ => ?_, fun he => by omega⟩
    have hl0 : 0 < l.length := by have := hf.r k hlt; omega
    have hne : l ≠ [] := by intro h; rw [h] at hl0; simp at hl0
    have hlen := backL_len u x l k
    have hne2 : backL u x l k ≠ [] := by intro h; rw [h] at hlen; simp at hlen; omega
    have hr := hf.r k hlt
    have hw := hf.w k hlt
    have hb := hf.b k hlt
    have hx := hf.x0
    have hn := hf.n
    have hbn := Fit.bndB hf (k := k) (by omega) (u.getD k (0, [])).1.toNat
    have hi : (u.getD k (0, [])).1.toNat < (backL u x l k).length := by omega
    rw [lV_ms hne, lO_cells hne2, hlen]
    have key := run70 p (aV a t) (aO a t) c (l.length - 1) l.length ((backL u x l k).map I) us rs d x u k
    rw [Int.toNat_natCast, wrapS (n := 1000001) (by omega) (by omega), map_getD _ hi, wrapI (by omega), map_setL _ hi] at key
    have e1 : (backL u x l k).set (u.getD k (0, [])).1.toNat ((backL u x l k).getD (u.getD k (0, [])).1.toNat 0 + (u.getD k (0, [])).2.getD x.toNat 0) = backL u x l (k + 1) := rfl
    rw [e1] at key
    have hlen2 := backL_len u x l (k + 1)
    have hne3 : backL u x l (k + 1) ≠ [] := by intro h; rw [h] at hlen2; simp at hlen2; omega
    rw [key]
    refine t_iteE (fun _ => t_needE ⟨by omega, by omega⟩ (t_needE ⟨hr.1, by omega, rfl⟩ (t_needE ⟨rfl, _, map_get _ hi⟩ (t_needE ⟨hx, by omega⟩ (t_needE ⟨hr.1, by omega, rfl⟩ (t_needE ⟨rfl, by rw [List.length_map]; exact hi⟩ ⟨_, rfl, ?_⟩)))))) fun h => absurd (of_decide_eq_false h) (by omega)
    rw [lO_cells hne3, hlen2]
    rfl
  · obtain rfl : k = u.length := by omega
    refine ⟨{ boxRow := false, clh := failH, hint := hNoAl }, noLoops, keep70, .all hNoAl_ok.ok failH_ok (fun l xs σ t v σ' h => (by cases h)) (fun f xs t v h => by cases h), lpNo _, fun h => absurd h (by omega), fun _ => ?_⟩
    rw [run70e p (aV a t) (aO a t) c (lV l) (lO (backL u x l u.length)) us rs d x u]
    exact t_iteE (fun h => absurd (of_decide_eq_true h) (by omega)) fun _ => ⟨_, rfl, rfl⟩
theorem arr2_ok : HintA Try.prog (hArrG 22 3 .i64 2) := hArrG_ok 2 Try.underlying22 one3 Try.underlying3 one3
/-- WHAT back DOES. -/
theorem c70 {p : Pb} {a t : List Int} {c : Int} {l : List Int} {us : List (List (Int × List Int))} {rs : List Int} {x : Int} (hf : Fit (us.getD a.length []) x l) (ha : ((a ++ [x]) ++ t).length < 1000000) (hu : a.length < us.length) (hC : a.length < p.C.length) (hx : x.toNat < (p.C.getD a.length []).length)
    (hc : -4000000000000000000 ≤ c - (p.C.getD a.length []).getD x.toNat 0 ∧ c - (p.C.getD a.length []).getD x.toNat 0 ≤ 4000000000000000000) :
    ACall Try.prog G0 70 [SR] (sH p (aV (a ++ [x]) t) (aO (a ++ [x]) t) c (lV l) (lO l) us rs) (.tup [])
      (sH p (aV a (x :: t)) (aO a (x :: t)) (c - (p.C.getD a.length []).getD x.toNat 0) (lV l) (lO (backL (us.getD a.length []) x l (us.getD a.length []).length)) us rs) := by
  have hx0 := hf.x0
  have hne : (a ++ [x]) ++ t ≠ [] := by simp
  have eA : (a ++ [x]) ++ t = a ++ x :: t := by simp
  have hne' : a ++ x :: t ≠ [] := by simp
  have hn : (a ++ [x]).length = a.length + 1 := by simp
  have hm : ((a ++ [x]) ++ t).length = a.length + 1 + t.length := by simp; omega
  have hO : aO (a ++ [x]) t = .cells (((a ++ [x]) ++ t).length - 1) (((a ++ [x]) ++ t).map I) := by unfold aO; exact sO_rowI hne
  have hO' : aO a (x :: t) = aO (a ++ [x]) t := by unfold aO; rw [eA]
  have hget : (((a ++ [x]) ++ t).map I).getD a.length .junk = I x := by simp [List.getD_eq_getElem?_getD]
  have hw : IntKind.i64.wrap (((a.length + 1 : Nat) : Int) - 1) = (a.length : Int) := (wrapI (by omega)).trans (by omega)
  have hlp := (loop70 (p := p) (a := a) (t := x :: t) (c := c - (p.C.getD a.length []).getD x.toNat 0) (us := us) (rs := rs) (d := a.length) hf).okB (fun _ _ => rfl) (c := bodyOf Try.prog 70) (i := 5) (keep := keep70) (one_loop loops70)
  have hcl : ClOk Try.prog G0 (E70 (((a ++ [x]) ++ t).length - 1) (a.length + 1) ((a ++ [x]) ++ t).length a.length (aV a (x :: t))) := .ofH rfl rfl (arr2_ok.ok.or ((hSlA_ok _ _ _ _ _).ok.or (hSto_ok 0 one22).ok)) fun f xs t v h => by cases h
  have key := runF70 a.length p (((a ++ [x]) ++ t).length - 1) (a.length + 1) ((a ++ [x]) ++ t).length (((a ++ [x]) ++ t).map I) (aV a (x :: t)) c (lV l) (lO l) (lO (backL (us.getD a.length []) x l (us.getD a.length []).length)) us rs
  rw [hw, Int.toNat_natCast, hget] at key
  have hint : intOf (I x) = x := rfl
  rw [hint, wrapI (by omega)] at key
  rw [hO', hO] at hlp
  rw [aV_ms hne, hO, hn, hO', hO]
  have hvv : aV a (x :: t) = .ms 1 2 (((a ++ [x]) ++ t).length - 1) 0 a.length ((a ++ [x]) ++ t).length := by rw [aV_ms hne', eA]
  have hgi : (((a ++ [x]) ++ t).map I)[a.length]? = some (I x) := by simp
  exact ACall.says hcl hlp key (says_need ⟨by omega, by omega, rfl⟩ (says_need ⟨rfl, _, hgi⟩ (says_need ⟨rfl, rfl, by omega, by omega, by omega, by omega, rfl, by rw [hvv]⟩ (says_need ⟨one_aV _ _, by omega⟩ (says_need ⟨by omega, by omega⟩ (says_need ⟨hx0, by omega⟩ (says_need ⟨by omega, by omega⟩ (says_need rfl says_leaf))))))))

/-! ### open -/
theorem run78 (n : Int) (h : Heap) : xCall Try.prog G0 {} 200 78 [I n] [true] h = .leaf ((AV.bool (decide (n < (0 : Int)))), true, h) := by kernel_rfl
theorem c78 (n : Int) (h : Heap) : ACall Try.prog G0 78 [I n] h (.bool (decide (n < 0))) h := ACall.saysC clok0 (run78 n h) says_leaf
def clh73 (xs : List AV) (b : Bool) (h : Heap) : FuncId → List AV → Heap → Option (Tree (AV × Heap)) := fun f ys h0 => match f with
  | 55 => some (.need (ys = xs ∧ h0 = h) (.leaf (.bool b, h)))
  | _ => none
theorem run73 (b : Bool) (p : Pb) (v : AV) (o : AObj) (c : Int) (l : AV) (lo : AObj) (us : List (List (Int × List Int))) (rs : List Int) : xCall Try.prog G0 { clh := clh73 [l, .fn 78 [] []] b (sH p v o c l lo us rs) } 200 73 [SR] [true] (sH p v o c l lo us rs) = .need (([l, (AV.fn (78 : Nat) [] [])] = [l, (AV.fn (78 : Nat) [] [])]) ∧ ([(AObj.cells (0 : Nat) [(flL (p.V)), (flLL (p.C)), (flR (p.R)), v, (I c), l, (usesAV (us)), (flL (rs))]), lo, o] = [(AObj.cells (0 : Nat) [(flL (p.V)), (flLL (p.C)), (flR (p.R)), v, (I c), l, (usesAV (us)), (flL (rs))]), lo, o])) (.leaf ((AV.bool (!b)), true, [(AObj.cells (0 : Nat) [(flL (p.V)), (flLL (p.C)), (flR (p.R)), v, (I c), l, (usesAV (us)), (flL (rs))]), lo, o])) := by kernel_rfl
end Go.Proofs.Ytngaihdpmoajeaa.Am

namespace Go.Proofs.Ytngaihdpmoajeaa.Am
open Go
set_option maxRecDepth 100000

/-! ### open -/
def lF : List Int → AV
  | [] => .zs
  | x :: l => slL (x :: l)
theorem frz_lV {l : List Int} {h : Heap} (ho : h[1]? = some (lO l)) : Frz h (lV l) (lF l) := by
  cases l with
  | nil => exact .inr (.inl ⟨.zs, rfl⟩)
  | cons x r =>
    refine .inr (.inr ⟨1, r.length, (x :: r).map I, ?_, ?_, fun y hy => ?_, rfl⟩)
    · rw [lV_ms (by simp)]; simp
    · rw [ho, lO_cells (by simp)]; simp
    · obtain ⟨n, _, rfl⟩ := List.mem_map.1 hy
      exact .int _ _
theorem c73 {p : Pb} {v : AV} {o : AObj} {c : Int} {l : List Int} {us : List (List (Int × List Int))} {rs : List Int} (hl : sh l) :
    ACall Try.prog G0 73 [SR] (sH p v o c (lV l) (lO l) us rs) (.bool (!l.any fun n => decide (n < 0))) (sH p v o c (lV l) (lO l) us rs) := by
  have h0 : ACall Try.prog G0 55 [flL l, .fn 78 [] []] [] (.bool (l.any fun n => decide (n < 0))) [] := c55 hl (fun x _ σ => c78 x σ) []
  have h1 : ACall Try.prog G0 55 [lF l, .fn 78 [] []] [] (.bool (l.any fun n => decide (n < 0))) [] := h0.arg2 (by
    cases l with
    | nil => exact fun _ _ _ h => h.flL_zs
    | cons x r => exact sub_slL _) (Sub.rfl' _)
  have h2 : ACall Try.prog G0 55 [lV l, .fn 78 [] []] (sH p v o c (lV l) (lO l) us rs) (.bool (l.any fun n => decide (n < 0))) (sH p v o c (lV l) (lO l) us rs) :=
    h1.frz gbelow0 (.bool _) rfl fun j x' hj => by
      match j, hj with
      | 0, hj => cases hj; exact ⟨_, rfl, frz_lV rfl⟩
      | 1, hj => cases hj; exact ⟨_, rfl, .inr (.inl ⟨.fn _ _ _ (fun _ _ h => by simp at h) (fun _ _ h => by simp at h), rfl⟩)⟩
      | j + 2, hj => simp at hj
  refine ACall.saysC (.all .none ?_ (fun l xs σ t v σ' h => (by cases h)) fun f xs t v h => by cases h) (run73 (l.any fun n => decide (n < 0)) p v o c (lV l) (lO l) us rs) (says_need ⟨rfl, rfl⟩ says_leaf)
  intro f xs σ t u σ' hq hs
  replace hq : clh73 _ _ _ f xs σ = some t := hq
  unfold clh73 at hq
  split at hq <;> first | (cases hq; done) | skip
  cases hq
  obtain ⟨⟨rfl, rfl⟩, hs2⟩ := Tree.of_need hs
  cases hs2
  exact h2

/-! ### newState: the first statement -/
/-- The operations of a numbered statement. -/
def opsOf : Code → Nat → List Oper
  | .seq x y, n => match opsOf x n with
    | [] => opsOf y n
    | l => l
  | .cond _ x y, n => match opsOf x n with
    | [] => opsOf y n
    | l => l
  | .block _ x, n => opsOf x n
  | .loop x, n => opsOf x n
  | .region id ops _, n => bif Nat.beq id n then ops.toList else []
  | _, _ => []
noncomputable def ops46 : List Oper := opsOf (bodyOf Try.prog 46) 1
noncomputable def op46 (i : Nat) : Oper := ops46.getD i default
theorem len46 : ops46.length = 13 := by kernel_rfl
theorem ok46 : (okDraw ops46 && okStill ops46 0 ops46.length) = true := by kernel_rfl
/-- Values, operation by operation. -/
def y46 (p : Pb) : Nat → AV
  | 0 => pAV p
  | 1 => .row (pbC p) 0
  | 2 => flL p.V
  | 3 => I p.V.length
  | 4 => .ms 1 0 0 0 p.V.length p.V.length
  | 5 => .row (pbC p) 0
  | 6 => flL p.V
  | 7 => I p.V.length
  | 8 => I (p.V.length + 1 : Nat)
  | 9 => .ms 1 1 0 0 (p.V.length + 1) (p.V.length + 1)
  | 10 => .agg [flL p.V, flLL p.C, flR p.R, .zs, I 0, .zs, .ms 1 0 0 0 p.V.length p.V.length, .ms 1 1 0 0 (p.V.length + 1) (p.V.length + 1)]
  | _ => .ref 2 0 0
def d46 : Nat → Nat
  | 12 => 3
  | i => 14 + i
def l46 (p : Pb) : Nat → List (Nat × AV × Bool)
  | 0 => [(1, .row (pbC p) 0, true), (2, .nilp, true)]
  | i + 1 => l46 p i ++ [(d46 i, y46 p i, true)]
def st46 (p : Pb) (i : Nat) (h : Heap) : St := .of 136 h (l46 p i)
theorem dst46 : ∀ i, i < 13 → (op46 i).dst = some (d46 i) := by
  have h : ((List.range 13).all fun i => decide ((op46 i).dst = some (d46 i))) = true := by kernel_rfl
  intro i hi
  exact of_decide_eq_true (List.all_eq_true.1 h i (List.mem_range.2 hi))
theorem guard46 : ∀ i, i < 13 → (op46 i).guard = none := by
  have h : ((List.range 13).all fun i => (op46 i).guard.isNone) = true := by kernel_rfl
  intro i hi
  simpa using List.all_eq_true.1 h i (List.mem_range.2 hi)
noncomputable def ρ46 (p : Pb) (i : Nat) : Operand → Option AV := (st46 p i []).evM G0 ((op46 i).looksAt ops46.toArray)
theorem p46_0 (p : Pb) (σ : Heap) : aopR Try.prog (ρ46 p 0) σ (op46 0) = some (y46 p 0, σ) := by kernel_rfl
theorem p46_1 (p : Pb) (σ : Heap) : aopR Try.prog (ρ46 p 1) σ (op46 1) = some (y46 p 1, σ) := by kernel_rfl
theorem p46_2 (p : Pb) (σ : Heap) : aopR Try.prog (ρ46 p 2) σ (op46 2) = some (y46 p 2, σ) := by kernel_rfl
theorem p46_3 (p : Pb) (σ : Heap) : aopR Try.prog (ρ46 p 3) σ (op46 3) = some (y46 p 3, σ) := by kernel_rfl
theorem p46_5 (p : Pb) (σ : Heap) : aopR Try.prog (ρ46 p 5) σ (op46 5) = some (y46 p 5, σ) := by kernel_rfl
theorem p46_6 (p : Pb) (σ : Heap) : aopR Try.prog (ρ46 p 6) σ (op46 6) = some (y46 p 6, σ) := by kernel_rfl
theorem p46_7 (p : Pb) (σ : Heap) : aopR Try.prog (ρ46 p 7) σ (op46 7) = some (y46 p 7, σ) := by kernel_rfl
theorem p46_8 (p : Pb) (σ : Heap) : aopR Try.prog (ρ46 p 8) σ (op46 8) = some (I (IntKind.i64.wrap ((p.V.length : Int) + 1)), σ) := by kernel_rfl
theorem p46_10 (p : Pb) (σ : Heap) : aopR Try.prog (ρ46 p 10) σ (op46 10) = some (y46 p 10, σ) := by kernel_rfl
theorem p46_12 (p : Pb) (σ : Heap) : aopR Try.prog (ρ46 p 12) σ (op46 12) = some (y46 p 12, σ) := by kernel_rfl
theorem p46_4 (p : Pb) (σ : Heap) : aopR Try.prog (ρ46 p 4) σ (op46 4) = aMake Try.prog σ 97 (I p.V.length) (I p.V.length) := by kernel_rfl
theorem p46_9 (p : Pb) (σ : Heap) : aopR Try.prog (ρ46 p 9) σ (op46 9) = aMake Try.prog σ 22 (I (p.V.length + 1 : Nat)) (I (p.V.length + 1 : Nat)) := by kernel_rfl
theorem p46_11 (p : Pb) (σ : Heap) : aopR Try.prog (ρ46 p 11) σ (op46 11) = some (.ref σ.length 0 0, σ ++ [.cells 0 [flL p.V, flLL p.C, flR p.R, .zs, I 0, .zs, .ms 1 0 0 0 p.V.length p.V.length, .ms 1 1 0 0 (p.V.length + 1) (p.V.length + 1)]]) := by kernel_rfl

def s46 (p : Pb) : List AV := [flL p.V, flLL p.C, flR p.R, .zs, I 0, .zs, .ms 1 0 0 0 p.V.length p.V.length, .ms 1 1 0 0 (p.V.length + 1) (p.V.length + 1)]
/-- The heap, by what has been carried out. -/
def H46 (p : Pb) (f : Nat → Bool) : Heap := (if f 4 then .cells 0 (repl p.V.length [.zs]) else .resv) :: (if f 9 then .cells 0 (repl (p.V.length + 1) [I 0]) else .resv) :: (if f 11 then .cells 0 (s46 p) else .resv) :: List.replicate (4 + p.V.length) .resv
theorem make46 {t e : TypeId} {n : Nat} (σ : Heap) {z : AV} (he : Elem1 t e) (hz : aZero Try.prog e = some z) (hc : z.cells = [z]) (hn : n ≤ 16777216) : aMake Try.prog σ t (I n) (I n) = some (.ms 1 σ.length 0 0 n n, σ ++ [.cells 0 (repl n [z])]) := by
  obtain ⟨ie, zx, h1, h2, h3, h4, h5, h6⟩ := he.i
  rw [hz] at h2
  cases h2
  unfold aMake
  rw [he.u]
  simp only [h1, hz]
  rw [hc] at h5 h6 ⊢
  rw [if_pos ⟨by omega, by omega, by omega, h4, by rw [h3]; rfl, h6⟩]
  simp [h3]
theorem el97 : Elem1 97 102 := elem1 Try.underlying97 (by kernel_rfl) (by kernel_rfl)
theorem z102 : aZero Try.prog 102 = some .zs := by kernel_rfl
theorem z3 : aZero Try.prog 3 = some (I 0) := by kernel_rfl
theorem below_repl {m n : Nat} {z : AV} (hz : Below m z) : ∀ x ∈ repl n [z], Below m x := by
  induction n with
  | zero => intro x hx; cases hx
  | succ n ih =>
    intro x hx
    unfold repl at hx
    rcases List.mem_append.1 hx with h | h
    · rw [List.mem_singleton.1 h]; exact hz
    · exact ih x h
/-- One operation's worth, where it leaves the heap alone. -/
theorem worth46 {p : Pb} {m : List Nat} {i : Nat} (hi : i < 13) (h4 : i ≠ 4) (h9 : i ≠ 9) (h11 : i ≠ 11) (hv : ∀ σ, aopR Try.prog (ρ46 p i) σ (op46 i) = some (y46 p i, σ)) : WorthM Try.prog G0 (H46 p) ops46 m i (op46 i) (masked ((op46 i).looksAt ops46.toArray) (st46 p i []).a) (y46 p i) := by
  intro f hc hlen hu hp
  refine .inl ⟨wanted_none (guard46 i hi), ?_⟩
  have e : H46 p (fun j => decide (j = i) || f j) = H46 p f := by
    unfold H46
    simp [Ne.symm h4, Ne.symm h9, Ne.symm h11]
  rw [e]
  refine AStep.op ?_
  rw [aopR_eq, St.evM_eq]
  exact hv _
/-- The same, where it makes an object. -/
theorem worth46s {p : Pb} {m : List Nat} {i r s len cap : Nat} {c : List AV} (hi : i < 13) (hv : ∀ σ, aopR Try.prog (ρ46 p i) σ (op46 i) = some (.ms s σ.length 0 0 len cap, σ ++ [.cells 0 c])) (hb : ∀ n, ∀ x ∈ c, Below n x)
    (hr : ∀ f : Nat → Bool, f i = false → (H46 p f)[r]? = some .resv) (hs : ∀ f : Nat → Bool, (H46 p f).set r (.cells 0 c) = H46 p (fun j => decide (j = i) || f j)) :
    WorthM Try.prog G0 (H46 p) ops46 m i (op46 i) (masked ((op46 i).looksAt ops46.toArray) (st46 p i []).a) (.ms s r 0 0 len cap) := by
  intro f hc hlen hu hp
  refine .inl ⟨wanted_none (guard46 i hi), ?_⟩
  rw [← hs f]
  refine AStep.slot (AStep.op ?_) (hr f hu) fun _ _ _ _ _ => hb _
  rw [aopR_eq, St.evM_eq]
  exact hv _
theorem put46 (p : Pb) (i : Nat) (hi : i < 13) : (AAct.put { tmps := (st46 p i []).a } (op46 i).dst (y46 p i)).tmps = (st46 p (i + 1) []).a := by
  rw [dst46 i hi]
  have := St.put_a (st46 p i []) (some (d46 i)) (y46 p i) true [] []
  have h2 := congrArg AAct.tmps this
  refine h2.trans ?_
  unfold St.put st46 St.of
  simp only [l46, List.foldl_append, List.foldl_cons, List.foldl_nil]
theorem AStep.slotR {a : AAct} {o : Oper} {σ : Heap} {r g off : Nat} {c : List AV} (h : AStep Try.prog G0 a σ o (.ref σ.length g off) (σ ++ [.cells g c])) (hr : σ[r]? = some .resv) (hb : ∀ w M ac, Inv G0 w M σ → RAct w M ac a → ∀ x ∈ c, Below σ.length x) :
    AStep Try.prog G0 a σ o (.ref r g off) (σ.set r (.cells g c)) := by
  intro r0 w M ac K Q hi ha hK
  refine h r0 w M ac K Q hi ha fun v w' M' hv he hi' => ?_
  obtain ⟨h1, h2⟩ := hi.slot he hi' hr (hb w M ac hi ha)
  exact hK v w' _ (Re.ref slotP_at w' M' v hi' hv) h1 h2
theorem below_s46 {m : Nat} (hm : 2 ≤ m) (p : Pb) : ∀ x ∈ s46 p, Below m x := fun x hx => by
  simp only [s46, List.mem_cons, List.not_mem_nil, or_false] at hx
  rcases hx with rfl | rfl | rfl | rfl | rfl | rfl | rfl | rfl
  · exact below_flL _
  · exact below_flLL _
  · exact (below_flR _).up
  · exact .zs
  · exact .int _ _
  · exact .zs
  · exact .ms _ _ _ _ _ _ (by omega)
  · exact .ms _ _ _ _ _ _ (by omega)
theorem worth46b {p : Pb} {m : List Nat} : WorthM Try.prog G0 (H46 p) ops46 m 11 (op46 11) (masked ((op46 11).looksAt ops46.toArray) (st46 p 11 []).a) (y46 p 11) := by
  intro f hc hlen hu hp
  refine .inl ⟨wanted_none (guard46 11 (by omega)), ?_⟩
  have hs : (H46 p f).set 2 (.cells 0 (s46 p)) = H46 p (fun j => decide (j = 11) || f j) := by
    unfold H46
    simp
  rw [← hs]
  refine AStep.slotR (AStep.op ?_) ?_ fun _ _ _ _ _ => below_s46 (by unfold H46; simp) p
  · rw [aopR_eq, St.evM_eq]
    exact p46_11 p _
  · unfold H46
    simp [hu]
theorem drop46 (i : Nat) (hi : i < 13) : ops46.drop i = op46 i :: ops46.drop (i + 1) := by
  have hl : i < ops46.length := by rw [len46]; exact hi
  have e : op46 i = ops46[i]'hl := by unfold op46; rw [List.getD_eq_getElem?_getD, List.getElem?_eq_getElem hl]; rfl
  rw [e]
  exact List.drop_eq_getElem_cons hl
theorem worthAll {p : Pb} (hn : p.V.length ≤ 24) {m : List Nat} (i : Nat) (hi : i < 13) : WorthM Try.prog G0 (H46 p) ops46 m i (op46 i) (masked ((op46 i).looksAt ops46.toArray) (st46 p i []).a) (y46 p i) := by
  have hw : IntKind.i64.wrap ((p.V.length : Int) + 1) = ((p.V.length + 1 : Nat) : Int) := wrap_i64 (by omega) (by omega)
  match i, hi with
  | 0, _ => exact worth46 (by omega) (by omega) (by omega) (by omega) (p46_0 p)
  | 1, _ => exact worth46 (by omega) (by omega) (by omega) (by omega) (p46_1 p)
  | 2, _ => exact worth46 (by omega) (by omega) (by omega) (by omega) (p46_2 p)
  | 3, _ => exact worth46 (by omega) (by omega) (by omega) (by omega) (p46_3 p)
  | 4, _ => exact worth46s (r := 0) (by omega) (fun σ => (p46_4 p σ).trans (make46 σ el97 z102 rfl (by omega))) (fun n => below_repl .zs) (fun f hf => by unfold H46; simp [hf]) (fun f => by unfold H46; simp)
  | 5, _ => exact worth46 (by omega) (by omega) (by omega) (by omega) (p46_5 p)
  | 6, _ => exact worth46 (by omega) (by omega) (by omega) (by omega) (p46_6 p)
  | 7, _ => exact worth46 (by omega) (by omega) (by omega) (by omega) (p46_7 p)
  | 8, _ => exact worth46 (by omega) (by omega) (by omega) (by omega) (fun σ => by rw [p46_8, hw]; rfl)
  | 9, _ => exact worth46s (r := 1) (by omega) (fun σ => (p46_9 p σ).trans (make46 σ el22 z3 rfl (by omega))) (fun n => below_repl (.int _ _)) (fun f hf => by unfold H46; simp [hf]) (fun f => by unfold H46; simp)
  | 10, _ => exact worth46 (by omega) (by omega) (by omega) (by omega) (p46_10 p)
  | 11, _ => exact worth46b
  | 12, _ => exact worth46 (by omega) (by omega) (by omega) (by omega) (p46_12 p)
theorem opsM46 {p : Pb} (hn : p.V.length ≤ 24) {m : List Nat} : ∀ (d i : Nat), i + d = 13 → AOpsM Try.prog G0 (H46 p) ops46 m i (ops46.drop i) (st46 p i []).a (st46 p 13 []).a
  | 0, i, hi => by
    obtain rfl : i = 13 := by omega
    rw [List.drop_eq_nil_of_le (by rw [len46]; omega)]
    exact .nil _ _
  | d + 1, i, hi => by
    rw [drop46 i (by omega)]
    refine .step (worthAll hn i (by omega)) ?_
    rw [put46 p i (by omega)]
    exact opsM46 hn d (i + 1) (by omega)
/-- THE FIRST STATEMENT. -/
theorem first46 {p : Pb} (hn : p.V.length ≤ 24) {R : Option Nat → Prop} : AExec Try.prog G0 R (.region 1 ops46.toArray true) { tmps := (st46 p 0 []).a } (List.replicate (7 + p.V.length) .resv) .normal { tmps := (st46 p 13 []).a } (.cells 0 (repl p.V.length [.zs]) :: .cells 0 (repl (p.V.length + 1) [I 0]) :: .cells 0 (s46 p) :: List.replicate (4 + p.V.length) .resv) := by
  obtain ⟨h1, h2⟩ := Bool.and_eq_true_iff.1 ok46
  have key := (opsM46 hn (m := []) 13 0 rfl).draw (R := R) (id := 1) mixed h1 h2
  have e0 : H46 p (fun _ => false) = List.replicate (7 + p.V.length) .resv := by
    unfold H46
    have : 7 + p.V.length = (4 + p.V.length) + 1 + 1 + 1 := by omega
    rw [this, List.replicate_succ, List.replicate_succ, List.replicate_succ]
    rfl
  have e1 : H46 p (fun j => decide (j < ops46.length)) = .cells 0 (repl p.V.length [.zs]) :: .cells 0 (repl (p.V.length + 1) [I 0]) :: .cells 0 (s46 p) :: List.replicate (4 + p.V.length) .resv := by
    unfold H46
    rw [len46]
    simp
  rw [e0, e1] at key
  exact key
end Go.Proofs.Ytngaihdpmoajeaa.Am

