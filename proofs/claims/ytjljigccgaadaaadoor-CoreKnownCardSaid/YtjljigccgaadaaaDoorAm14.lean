/-
  This file proves nothing of a law. It proves that what the machine of Am13 finds is so. No condition.
-/
import Derived.Test.YtjljigccgaadaaaDoorAm13
namespace Go.Proofs.YtjljigccgaadaaaDoor.Am
open Go
section
variable {P : Program} {G : Nat → Option (List AV)} {E : Env}

/-- What is said to be known of functions is so. -/
structure ClOk (P : Program) (G : Nat → Option (List AV)) (E : Env) : Prop where
  cl : ∀ f xs t v, E.cl f xs = some t → t.sel = some v → ∀ σ, ACall P G f xs σ v σ
  clh : ∀ f xs σ t v σ', E.clh f xs σ = some t → t.sel = some (v, σ') → ACall P G f xs σ v σ'
  cy : ∀ l xs σ t v σ', E.cy l xs σ = some t → t.sel = some (v, σ') → AYield P G l xs σ v σ'
  hint : ∀ h o a m y s h' p, E.hint h o (ev G a) = some (y, s, h', p) → p → AStep P G { tmps := a, marks := m } h o y h'
  hintq : ∀ h o ρ y s h' p, E.hint h o ρ = some (y, s, h', p) → p → quiet o = true → h' = h
/-- Outcomes told beforehand are so: by the table of operations. -/
def HintA (P : Program) (a : Heap → Oper → (Operand → Option AV) → Option (AV × Bool × Heap × Prop)) : Prop := ∀ h o ρ y s h' p, a h o ρ = some (y, s, h', p) → p → aopR P ρ h o = some (y, h')
/-- Outcomes told beforehand are so. -/
structure HintOk (P : Program) (G : Nat → Option (List AV)) (t : Heap → Oper → (Operand → Option AV) → Option (AV × Bool × Heap × Prop)) : Prop where
  step : ∀ h o a m y s h' p, t h o (ev G a) = some (y, s, h', p) → p → AStep P G { tmps := a, marks := m } h o y h'
  quiet : ∀ h o ρ y s h' p, t h o ρ = some (y, s, h', p) → p → quiet o = true → h' = h
theorem HintOk.none : HintOk P G fun _ _ _ => none := ⟨fun _ _ _ _ _ _ _ _ h => (by cases h), fun _ _ _ _ _ _ _ h => (by cases h)⟩
/-- Contracts alone. -/
theorem ClOk.of (h2 : E.clh = fun _ _ _ => none) (h3 : E.cy = fun _ _ _ => none) (h : ∀ f xs t v, E.cl f xs = some t → t.sel = some v → ∀ σ, ACall P G f xs σ v σ) (h4 : E.hint = fun _ _ _ => none := by rfl) : ClOk P G E :=
  ⟨h, fun f xs σ t v σ' h' => (by rw [h2] at h'; cases h'), fun l xs σ t v σ' h' => (by rw [h3] at h'; cases h'), fun h o a m y s h' p hh => (by rw [h4] at hh; cases hh), fun h o ρ y s h' p hh => (by rw [h4] at hh; cases hh)⟩
/-- Contracts, and outcomes told beforehand. -/
theorem ClOk.ofH (h2 : E.clh = fun _ _ _ => none) (h3 : E.cy = fun _ _ _ => none) (h4 : HintOk P G E.hint) (h : ∀ f xs t v, E.cl f xs = some t → t.sel = some v → ∀ σ, ACall P G f xs σ v σ) : ClOk P G E :=
  ⟨h, fun f xs σ t v σ' h' => (by rw [h2] at h'; cases h'), fun l xs σ t v σ' h' => (by rw [h3] at h'; cases h'), h4.step, h4.quiet⟩
/-- All of it. -/
theorem ClOk.all (h4 : HintOk P G E.hint) (h2 : ∀ f xs σ t v σ', E.clh f xs σ = some t → t.sel = some (v, σ') → ACall P G f xs σ v σ') (h3 : ∀ l xs σ t v σ', E.cy l xs σ = some t → t.sel = some (v, σ') → AYield P G l xs σ v σ')
    (h : ∀ f xs t v, E.cl f xs = some t → t.sel = some v → ∀ σ, ACall P G f xs σ v σ) : ClOk P G E := ⟨h, h2, h3, h4.step, h4.quiet⟩
theorem ClOk.still (h : ClOk P G E) : ClOk P G E.still := ⟨h.cl, fun _ _ _ _ _ _ h' => (by cases h'), fun _ _ _ _ _ _ h' => (by cases h'), h.hint, h.hintq⟩
def CallOk (P : Program) (G : Nat → Option (List AV)) (call : CallT) : Prop := ∀ f xs tags h v s h', (call f xs tags h).sel = some (v, s, h') → ACall P G f xs h v h'

theorem Tree.sel_leaf {α : Type} {a b : α} (h : (Tree.leaf a).sel = some b) : a = b := Option.some.inj h
theorem Tree.sel_fail {α : Type} {b : α} (h : (Tree.fail : Tree α).sel = some b) : False := by cases h

theorem xplain_ok {a : List AV} {m : List Nat} {st : St} {o : Oper} {y : AV} {s : Bool} {h' : Heap} (h : (xplain P E (ev G a) st o).sel = some (y, s, h')) : AStep P G { tmps := a, marks := m } st.h o y h' := by
  unfold xplain at h
  split at h
  · rename_i y' h'' he
    cases h
    exact .op (by rw [aopR_eq]; exact he)
  · cases h

theorem xindex_ok {a : List AV} {m : List Nat} {st : St} {o : Oper} {t : TypeId} {x i : Operand} (ho : o.op = .indexAddr t x i) {y : AV} {s : Bool} {h' : Heap}
    (h : (xindex P E (ev G a) st o t (ev G a x) (ev G a i)).sel = some (y, s, h')) : AStep P G { tmps := a, marks := m } st.h o y h' := by
  unfold xindex at h
  split at h
  · exact xplain_ok h
  · split at h
    · rename_i size n rows k j hx hi
      split at h
      · rename_i e hu
        split at h
        · rename_i ti hti
          split at h
          · rename_i hs
            obtain ⟨hb, h⟩ := Tree.of_need h
            cases h
            refine .op ?_
            unfold aop
            simp only [ho, hx, hi, aIndex, hu, hti, hs, hb.1, hb.2, and_self, if_true, Option.map_some]
          · cases h
        · cases h
      · cases h
    · rename_i size r g off len cap k j hx hi
      split at h
      · rename_i e hu
        split at h
        · rename_i ti hti
          split at h
          · rename_i hs
            obtain ⟨hb, h⟩ := Tree.of_need h
            cases h
            refine .op ?_
            unfold aop
            simp only [ho, hx, hi, aIndex, hu, hti, hs, hb.1, hb.2.1, hb.2.2, and_self, if_true, Option.map_some]
          · cases h
        · cases h
      · cases h
    · exact xplain_ok h

theorem xload_ok {a : List AV} {m : List Nat} {st : St} {o : Oper} {t : TypeId} {x : Operand} (ho : o.op = .load t x) {y : AV} {s : Bool} {h' : Heap}
    (h : (xload P E (ev G a) st o t (ev G a x)).sel = some (y, s, h')) : AStep P G { tmps := a, marks := m } st.h o y h' ∧ (h' = st.h ∨ (xplain P E (ev G a) st o).sel = some (y, s, h')) := by
  unfold xload at h
  split at h
  · exact ⟨xplain_ok h, .inr h⟩
  · split at h
    · rename_i r g off k hx hu
      obtain ⟨⟨n, hb⟩, h⟩ := Tree.of_need h
      cases h
      refine ⟨.op ?_, .inl rfl⟩
      unfold aop
      simp only [ho, hx, Option.bind_some, hb, Option.map_some, Option.getD_some, intOf]
    · exact ⟨xplain_ok h, .inr h⟩
theorem xstore_ok {a : List AV} {m : List Nat} {st : St} {o : Oper} {t : TypeId} {x z : Operand} (ho : o.op = .store t x z) {y : AV} {s : Bool} {h' : Heap}
    (h : (xstore P E (ev G a) st o t (ev G a x) (ev G a z)).sel = some (y, s, h')) : AStep P G { tmps := a, marks := m } st.h o y h' := by
  unfold xstore at h
  split at h
  · exact xplain_ok h
  · split at h
    · rename_i p q hx hz
      obtain ⟨hb, h⟩ := Tree.of_need h
      cases h
      refine .op ?_
      unfold aop
      simp only [ho, hx, hz]
      obtain ⟨r, hr⟩ := Option.isSome_iff_exists.1 hb
      rw [hr]; rfl
    · exact xplain_ok h

theorem xcall_ok {call : CallT} (hcl : ClOk P G E) (hcall : CallOk P G call) {a : List AV} {m : List Nat} {st : St} {o : Oper} {c : Call} {f : Operand} (ho : o.op = .call c) (hc : c.callee = .value f) {y : AV} {s : Bool} {h' : Heap}
    (h : (xcall E call (ev G a) st c f).sel = some (y, s, h')) : AStep P G { tmps := a, marks := m } st.h o y h' := by
  unfold xcall at h
  split at h
  · rename_i g first caps xs hf hx
    rw [← evAllR_eq] at hx
    split at h
    · rename_i t ht
      obtain ⟨v, hv, hr⟩ := Tree.of_bind h
      cases hr
      exact .call ho hc hf hx (hcl.cl _ _ _ _ ht hv _)
    · split at h
      · rename_i t ht
        obtain ⟨⟨v, σ'⟩, hv, hr⟩ := Tree.of_bind h
        cases hr
        exact .call ho hc hf hx (hcl.clh _ _ _ _ _ _ ht hv)
      · exact .call ho hc hf hx (hcall _ _ _ _ _ _ _ h)
  · rename_i l xs hf hx
    rw [← evAllR_eq] at hx
    split at h
    · rename_i t ht
      obtain ⟨⟨v, σ'⟩, hv, hr⟩ := Tree.of_bind h
      cases hr
      exact .yield ho hc hf hx (hcl.cy _ _ _ _ _ _ ht hv)
    · cases h
  · cases h

theorem xhint_ok (hcl : ClOk P G E) {a : List AV} {m : List Nat} {st : St} {o : Oper} {y : AV} {s : Bool} {h' : Heap} {k : Tree (AV × Bool × Heap)} (hk : k.sel = some (y, s, h') → AStep P G { tmps := a, marks := m } st.h o y h')
    (h : (xhint E (ev G a) st o k).sel = some (y, s, h')) : AStep P G { tmps := a, marks := m } st.h o y h' := by
  unfold xhint at h
  split at h
  · rename_i hh
    obtain ⟨hb, h⟩ := Tree.of_need h
    cases h
    exact hcl.hint _ _ _ _ _ _ _ _ hh hb
  · exact hk h

theorem xappend_ok {a : List AV} {m : List Nat} {st : St} {o : Oper} {c : Call} (ho : o.op = .call c) (hc : c.callee = .builtin .append) {y : AV} {s : Bool} {h' : Heap}
    (h : (xappend P E (ev G a) st o c).sel = some (y, s, h')) : AStep P G { tmps := a, marks := m } st.h o y h' := by
  unfold xappend at h
  split at h
  · exact xplain_ok h
  · split at h
    · rename_i s0 x t t2 hx ht
      obtain ⟨hb, h⟩ := Tree.of_need h
      cases h
      refine .op ?_
      rw [← evAllR_eq] at hx
      obtain ⟨callee, args, ts⟩ := c
      simp only at hc hx ht
      subst hc
      unfold aop
      simp only [ho, hx, Option.bind_some, ht, aBuiltin]
      obtain ⟨r, hr⟩ := Option.isSome_iff_exists.1 hb
      rw [hr]
      rfl
    · exact xplain_ok h

/-- A variable laid as a row that nobody writes. -/
theorem AStep.boxRow {a : AAct} {σ : Heap} {o : Oper} {t : TypeId} {x : Operand} {v : AV} (ho : o.op = .box t x) (hx : ev G a.tmps x = some v) (hc : v.cells.all AV.one = true) : AStep P G a σ o (.row v.cells 0) σ := by
  intro r0 w M ac K Q hi ha hK
  refine ⟨fun f _ => FW_fn r0 f, ?_⟩
  have hnd : ∀ c, o.op ≠ .defer c := fun c' h => by rw [ho] at h; cases h
  rw [Oper.semAt_eq _ _ _ hnd]
  have hv := ev_ok hi ha.tmps hx
  obtain ⟨⟨h1, h2⟩, h3⟩ := hv.cells hc
  have hrun : (execOp ac.eval o).run P w = .ok (.value (.pointer (some ⟨w.heap.size, 0, none⟩))) (w.alloc (.cells (ac.eval x).cells t)) := by
    unfold execOp
    simp only [ho, Sem.run_bind, Instr.box, newVar, newRow, Sem.run_pure]
    rfl
  rw [hrun]
  refine hK _ _ M ?_ (.alloc w M _) (hi.alloc _)
  exact RV.row w.heap.size 0 0 (fun j => (ac.eval x).cells.getD j undef) v.cells (Imm.alloc_new hi _) (fun j hj => by
      rw [Nat.zero_add]
      exact cell_of_cells (alloc_new w _) (by omega))
    (fun j y hj => (h2 j y hj).mono (.alloc w M _))

theorem xstep_ok {call : CallT} (hcl : ClOk P G E) (hcall : CallOk P G call) {a : List AV} {m : List Nat} {st : St} {o : Oper} {y : AV} {s : Bool} {h' : Heap}
    (h : (xstep P E call (ev G a) st o).sel = some (y, s, h')) : AStep P G { tmps := a, marks := m } st.h o y h' := by
  unfold xstep at h
  split at h
  · rename_i t x ho
    split at h
    · split at h
      · rename_i v hx
        split at h
        · rename_i hc
          cases h
          exact .boxRow ho hx hc
        · cases h
      · cases h
    · exact xhint_ok hcl xplain_ok h
  · refine xhint_ok hcl (fun h => ?_) h
    split at h
    · rename_i c ho
      split at h
      · rename_i f hc
        exact xcall_ok hcl hcall ho hc h
      · rename_i hc
        exact xappend_ok ho hc h
      · exact xplain_ok h
    · rename_i t x i ho
      exact xindex_ok ho h
    · rename_i t x ho
      exact (xload_ok ho h).1
    · rename_i t x z ho
      exact xstore_ok ho h
    · exact xplain_ok h

/-- A frame in which a known value is laid anew. -/
theorem put_same {st : St} {d : Tmp} {x : AV} {s : Bool} (h : st.at d = some x) : (st.put (some d) x s st.h).a = st.a := by
  have h1 := St.put_a st (some d) x s st.h []
  rw [← St.at_eq] at h
  have h2 : (AAct.put { tmps := st.a, marks := [] } (some d) x) = { tmps := st.a, marks := [] } := by
    simp only [AAct.put]
    congr 1
    apply List.ext_getElem?
    intro i
    rw [List.getElem?_set]
    split
    · rename_i hd; subst hd
      have hlt := (List.getElem?_eq_some_iff.1 h).1
      rw [if_pos hlt, h]
    · rfl
  rw [h1] at h2
  exact (AAct.mk.inj h2).1

theorem xguard_ok {ops : Array Oper} {st : St} {o : Oper} {k : Bool → St → Tree St} {r : St} (h : (xguard ops st o k).sel = some r) :
    ∃ b st', st'.a = st.a ∧ st'.h = st.h ∧ st'.n = st.n ∧ awanted ops st.a o = some b ∧ (k b st').sel = some r := by
  unfold xguard at h
  split at h
  · rename_i hg
    exact ⟨true, st, rfl, rfl, rfl, by unfold awanted; rw [hg], h⟩
  · rename_i j want hg
    split at h
    · cases h
    · rename_i d hd
      have haw : ∀ x, st.at d = some x → awanted ops st.a o = (match some x with
          | some (.bool b) => some (b == want)
          | some (.tup _) => some false
          | _ => none) := fun x hx => by
        unfold awanted
        simp only [hg, hd, Option.bind_some, St.at_eq, hx]
        cases x <;> rfl
      split at h
      · rename_i b hb
        have haw := haw _ hb
        simp only at haw
        split at h
        · simp only [Tree.sel] at h
          cases b with
          | true =>
            refine ⟨want, _, put_same hb, rfl, rfl, ?_, h⟩
            rw [haw]; cases want <;> rfl
          | false =>
            refine ⟨!want, _, put_same hb, rfl, rfl, ?_, h⟩
            rw [haw]; cases want <;> rfl
        · split at h
          · refine ⟨want, st, rfl, rfl, rfl, ?_, h⟩
            rw [haw]; cases want <;> rfl
          · refine ⟨!want, st, rfl, rfl, rfl, ?_, h⟩
            rw [haw]; cases want <;> rfl
      · rename_i ts hb
        exact ⟨false, st, rfl, rfl, rfl, haw _ hb, h⟩
      · cases h

theorem xOps_ok {call : CallT} (hcl : ClOk P G E) (hcall : CallOk P G call) {ops : Array Oper} {m : List Nat} : ∀ (l : List Oper) (st st' : St), (xOps P G E call ops l st).sel = some st' →
    AOps P G ops l { tmps := st.a, marks := m } st.h { tmps := st'.a, marks := m } st'.h ∧ st'.n = st.n
  | [], st, st', h => by cases h; exact ⟨.nil _ _, rfl⟩
  | o :: r, st, st', h => by
    unfold xOps at h
    obtain ⟨b, st1, h1, h2, h3, hw, hk⟩ := xguard_ok h
    cases b with
    | true =>
      simp only at hk
      obtain ⟨⟨y, s, h'⟩, hq, hr⟩ := Tree.of_bind hk
      rw [← St.ev_eq] at hq
      have hs := xstep_ok (m := m) hcl hcall hq
      rw [h1, h2] at hs
      obtain ⟨ih, ihn⟩ := xOps_ok hcl hcall r _ st' hr
      refine ⟨.step (by exact hw) hs ?_, by rw [ihn, St.put_n, h3]⟩
      rw [← h1, St.put_a st1 o.dst y s h' m]
      rw [St.put_h] at ih
      exact ih
    | false =>
      simp only at hk
      obtain ⟨ih, ihn⟩ := xOps_ok hcl hcall r _ st' hk
      refine ⟨.skip (by exact hw) ?_, by rw [ihn, St.put_n, h3]⟩
      rw [← h1, St.put_a st1 o.dst (.tup []) false st1.h m]
      rw [St.put_h] at ih
      rw [h2] at ih ⊢
      exact ih

theorem quietR_ok {ρ : Operand → Option AV} {σ σ' : Heap} {o : Oper} {y : AV} (hq : quiet o = true) (h : aopR P ρ σ o = some (y, σ')) : σ' = σ := by
  unfold aopR at h
  unfold quiet at hq
  split at h <;> rename_i ho <;> simp only [ho] at hq <;> first
    | exact (map_pair h).2
    | (cases hq; done)
    | (cases h; done)
    | skip
  all_goals first
    | (split at h <;> first | exact (map_pair h).2 | (cases h; rfl) | cases h)
    | skip
  · rename_i b args ts
    obtain ⟨xs, _, h⟩ := Option.bind_eq_some_iff.1 h
    unfold aBuiltin at h
    split at h
    · exact (map_pair h).2
    · cases hq
    · exact (map_pair h).2
    · exact (map_pair h).2
    · cases h

theorem quiet_ok {a : List AV} {σ σ' : Heap} {o : Oper} {y : AV} (hq : quiet o = true) (h : aop P G a σ o = some (y, σ')) : σ' = σ := quietR_ok hq (by rw [← aopR_eq]; exact h)
theorem HintA.ok {a : Heap → Oper → (Operand → Option AV) → Option (AV × Bool × Heap × Prop)} (h : HintA P a) : HintOk P G a :=
  ⟨fun σ o tm m y s σ' p hh hp => .op (by rw [aopR_eq]; exact h _ _ _ _ _ _ _ hh hp), fun σ o ρ y s σ' p hh hp hq => quietR_ok hq (h _ _ _ _ _ _ _ hh hp)⟩
/-- One after the other. -/
def orH (a b : Heap → Oper → (Operand → Option AV) → Option (AV × Bool × Heap × Prop)) : Heap → Oper → (Operand → Option AV) → Option (AV × Bool × Heap × Prop) := fun h o ρ => match a h o ρ with
  | some r => some r
  | none => b h o ρ
theorem HintOk.or {a b : Heap → Oper → (Operand → Option AV) → Option (AV × Bool × Heap × Prop)} (ha : HintOk P G a) (hb : HintOk P G b) : HintOk P G (orH a b) := by
  refine ⟨fun h o tm m y s h' p hh hp => ?_, fun h o ρ y s h' p hh hp => ?_⟩
  · unfold orH at hh
    split at hh
    · rename_i r hr; cases hh; exact ha.step _ _ _ _ _ _ _ _ hr hp
    · exact hb.step _ _ _ _ _ _ _ _ hh hp
  · unfold orH at hh
    split at hh
    · rename_i r hr; cases hh; exact ha.quiet _ _ _ _ _ _ _ hr hp
    · exact hb.quiet _ _ _ _ _ _ _ hh hp

theorem xstill_step {a : List AV} {m : List Nat} {st : St} {o : Oper} {y : AV} {s : Bool} {h' : Heap} (hcl : ClOk P G E) (hqE : quietE E o = true)
    (h : (xstep P E.still (fun _ _ _ _ => .fail) (ev G a) st o).sel = some (y, s, h')) : AStep P G { tmps := a, marks := m } st.h o y st.h := by
  have hqE : quietE E.still o = true := hqE
  have hcl := hcl.still
  have hy : E.still.cy = fun _ _ _ => none := rfl
  have hch : E.still.clh = fun _ _ _ => none := rfl
  generalize E.still = E at h hcl hqE hy hch
  have hp : quiet o = true → ∀ {y s h'}, (xplain P E (ev G a) st o).sel = some (y, s, h') → AStep P G { tmps := a, marks := m } st.h o y st.h := fun hq {y s h'} h => by
    unfold xplain at h
    split at h
    · rename_i y' h'' he
      cases h
      rw [← aopR_eq] at he
      have := quiet_ok hq he
      subst this
      exact .op he
    · cases h
  have hph : quiet o = true → ∀ {y s h'} {k : Tree (AV × Bool × Heap)}, (k.sel = some (y, s, h') → AStep P G { tmps := a, marks := m } st.h o y st.h) → (xhint E (ev G a) st o k).sel = some (y, s, h') → AStep P G { tmps := a, marks := m } st.h o y st.h := fun hq {y s h' k} hk h => by
    unfold xhint at h
    split at h
    · rename_i hh
      obtain ⟨hb, h⟩ := Tree.of_need h
      cases h
      have hs := hcl.hint _ _ a m _ _ _ _ hh hb
      have he := hcl.hintq _ _ _ _ _ _ _ hh hb hq
      subst he
      exact hs
    · exact hk h
  unfold xstep at h
  split at h
  · rename_i t x ho
    split at h
    · split at h
      · rename_i v hx
        split at h
        · rename_i hc
          cases h
          exact .boxRow ho hx hc
        · cases h
      · cases h
    · rename_i hbx
      unfold quietE at hqE
      rw [ho] at hqE
      simp only at hqE
      rw [hqE] at hbx
      cases hbx
  rename_i hnb
  have hq0 : quiet o = true := by
    unfold quietE at hqE
    split at hqE
    · rename_i h1
      exact absurd h1 (hnb _ _)
    · exact hqE
  refine hph hq0 (fun h => ?_) h
  split at h
  · rename_i c ho
    split at h
    · rename_i f hc
      unfold xcall at h
      split at h
      · rename_i g first caps xs hf hx
        rw [← evAllR_eq] at hx
        split at h
        · rename_i t ht
          obtain ⟨v, hv, hr⟩ := Tree.of_bind h
          cases hr
          exact .call ho hc hf hx (hcl.cl _ _ _ _ ht hv _)
        · rw [hch] at h
          cases h
      · rw [hy] at h
        cases h
      · cases h
    · rename_i hc
      obtain ⟨callee, args, ts⟩ := c
      simp only at hc
      subst hc
      unfold quietE at hqE
      rw [ho] at hqE
      simp only at hqE
      unfold quiet at hqE
      rw [ho] at hqE
      cases hqE
    · exact hp (by unfold quietE at hqE; rw [ho] at hqE; exact hqE) h
  · rename_i t x i ho
    have h2 := xindex_ok (m := m) ho h
    unfold xindex at h
    split at h
    · exact hp (by unfold quietE at hqE; rw [ho] at hqE; exact hqE) h
    · split at h
      · rename_i size n rows k j hx hj
        split at h
        · split at h
          · split at h
            · have h := (Tree.of_need h).2
              cases h; exact h2
            · cases h
          · cases h
        · cases h
      · split at h
        · split at h
          · split at h
            · have h := (Tree.of_need h).2
              cases h; exact h2
            · cases h
          · cases h
        · cases h
      · exact hp (by unfold quietE at hqE; rw [ho] at hqE; exact hqE) h
  · rename_i t x ho
    obtain ⟨h1, h2⟩ := xload_ok (m := m) ho h
    rcases h2 with rfl | h2
    · exact h1
    · exact hp (by unfold quietE at hqE; rw [ho] at hqE; exact hqE) h2
  · rename_i t x z ho
    unfold quietE at hqE
    rw [ho] at hqE
    simp only at hqE
    unfold quiet at hqE
    rw [ho] at hqE
    cases hqE
  · exact hp hq0 h

theorem awanted_masked {ops : Array Oper} {a : List AV} {o : Oper} : awanted ops (masked (o.looksAt ops) a) o = awanted ops a o := by
  unfold awanted
  cases hg : o.guard with
  | none => rfl
  | some p =>
    obtain ⟨j, want⟩ := p
    simp only
    cases hd : (ops[j]?).bind (·.dst) with
    | none => rfl
    | some d =>
      simp only [Option.bind_some, masked_get]
      have : (o.looksAt ops).contains d = true := by
        unfold Oper.looksAt
        rw [hg]
        simp [hd]
      rw [this]
      cases a[d]? <;> rfl

theorem xStill_ok (hcl : ClOk P G E) {ops : Array Oper} {m : List Nat} : ∀ (l : List Oper) (st st' : St), (xStill P G E ops l st).sel = some st' →
    AOpsD P G st.h ops m l st.a st'.a ∧ st'.n = st.n ∧ st'.h = st.h
  | [], st, st', h => by cases h; exact ⟨.nil _, rfl, rfl⟩
  | o :: r, st, st', h => by
    unfold xStill at h
    obtain ⟨b, st1, h1, h2, h3, hw, hk⟩ := xguard_ok h
    cases b with
    | true =>
      simp only at hk
      split at hk
      · rename_i hq
        obtain ⟨⟨y, s, h'⟩, hq', hr⟩ := Tree.of_bind hk
        rw [← St.evM_eq] at hq'
        have hs := xstill_step (m := m) hcl hq hq'
        rw [h1, h2] at hs
        obtain ⟨ih, ihn, ihh⟩ := xStill_ok hcl r _ st' hr
        rw [St.put_h] at ih ihh
        refine ⟨.step (by rw [awanted_masked]; exact hw) hs ?_, by rw [ihn, St.put_n, h3], by rw [ihh, h2]⟩
        have hp := St.put_a st1 o.dst y s st1.h []
        rw [← h1, hp]
        rw [h2] at ih
        rw [h2]
        exact ih
      · cases hk
    | false =>
      simp only at hk
      obtain ⟨ih, ihn, ihh⟩ := xStill_ok hcl r _ st' hk
      rw [St.put_h] at ih ihh
      refine ⟨.skip (by rw [awanted_masked]; exact hw) ?_, by rw [ihn, St.put_n, h3], by rw [ihh, h2]⟩
      have hp := St.put_a st1 o.dst (.tup []) false st1.h []
      rw [← h1, hp]
      rw [h2] at ih
      rw [h2]
      exact ih

theorem AOps.single {ops : Array Oper} {o : Oper} {a a' : AAct} {σ σ' : Heap} (h : AOps P G ops [o] a σ a' σ') :
    (awanted ops a.tmps o = some true ∧ ∃ y, AStep P G a σ o y σ' ∧ a' = a.put o.dst y) ∨ (awanted ops a.tmps o = some false ∧ a' = a.put o.dst (.tup []) ∧ σ' = σ) := by
  cases h with
  | step hw hs k => cases k; exact .inl ⟨hw, _, hs, rfl⟩
  | skip hw k => cases k; exact .inr ⟨hw, rfl, rfl⟩
theorem xStages_ok {call : CallT} (hcl : ClOk P G E) (hcall : CallOk P G call) {ops : Array Oper} {m : List Nat} : ∀ (cs : List Nat) (b : Nat) (st st' : St), (xStages P G E call ops cs b st).sel = some st' →
    AStages P G ops.toList m b st.a st.h st'.a st'.h ∧ st'.n = st.n
  | [], b, st, st', h => by
    unfold xStages at h
    split at h
    · rename_i hb
      cases h
      exact ⟨.done (by simpa using hb), rfl⟩
    · cases h
  | c :: r, b, st, st', h => by
    unfold xStages at h
    split at h
    · rename_i hf
      split at h
      · rename_i hc
        have hc : c = b + 1 := by simpa using hc
        subst hc
        split at h
        · rename_i o ho
          obtain ⟨st1, h1, h2⟩ := Tree.of_bind h
          obtain ⟨ih, ihn⟩ := xStages_ok hcl hcall r (b + 1) st1 st' h2
          obtain ⟨k1, k2⟩ := xOps_ok (m := m) hcl hcall [o] st st1 h1
          have ho' : ops.toList[b]? = some o := by simpa using ho
          refine ⟨?_, ihn.trans k2⟩
          have put_eq : ∀ y, { tmps := st1.a, marks := m } = AAct.put { tmps := st.a, marks := m } o.dst y → (AAct.put { tmps := st.a } o.dst y).tmps = st1.a := fun y hy => by
            have := congrArg AAct.tmps hy
            simp only at this
            rw [this]
            cases o.dst <;> rfl
          rcases k1.single with ⟨hw, y, hs, hy⟩ | ⟨hw, hy, hh⟩
          · refine .one ho' (by simpa using hw) hs hf ?_
            rw [put_eq y hy]
            exact ih
          · refine .none ho' (by simpa using hw) hf ?_
            rw [put_eq _ hy, ← hh]
            exact ih
        · cases h
      · split at h
        · rename_i hc
          simp only [Bool.and_eq_true] at hc
          obtain ⟨⟨c1, c2⟩, c3⟩ := hc
          have c1 : b ≤ c := by simpa using c1
          have c2 : c ≤ ops.size := by simpa using c2
          obtain ⟨st1, h1, h2⟩ := Tree.of_bind h
          obtain ⟨ih, ihn⟩ := xStages_ok hcl hcall r c st1 st' h2
          obtain ⟨k1, k2, k3⟩ := xStill_ok (m := m) hcl _ _ _ h1
          refine ⟨?_, ihn.trans k2⟩
          rw [k3] at ih
          have e : b + (c - b) = c := by omega
          refine .still (n := c - b) (by simpa [e] using c2) (by simpa using k1) c3 (by rw [e]; exact hf) ?_
          rw [e]
          exact ih
        · cases h
    · cases h
theorem xDraw_ok {R : Option Nat → Prop} (hm : P.follows .mixedOrders = true) (hcl : ClOk P G E) {call : CallT} (hcall : CallOk P G call) {id : Nat} {ops : Array Oper} {m : List Nat} {st st' : St} (h : (xDraw P G E call ops st).sel = some st') :
    AExec P G R (.region id ops true) { tmps := st.a, marks := m } st.h .normal { tmps := st'.a, marks := m } st'.h ∧ st'.n = st.n := by
  unfold xDraw at h
  split at h
  · rename_i hc
    obtain ⟨h1, h2⟩ := xStages_ok (m := m) hcl hcall _ _ _ _ h
    refine ⟨?_, h2⟩
    have := AExec.draw (P := P) (G := G) (R := R) (id := id) (ops := ops.toList) (marks := m) hm hc h1
    exact this
  · cases h
end
end Go.Proofs.YtjljigccgaadaaaDoor.Am
