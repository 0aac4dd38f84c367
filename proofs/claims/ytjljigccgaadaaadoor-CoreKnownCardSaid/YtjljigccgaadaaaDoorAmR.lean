/-
  This file proves nothing of a law. It holds the rules for a range over a function: a call of yield, the statement, and a function that holds one. No condition.
-/
import Derived.Test.YtjljigccgaadaaaDoorAm12
import Derived.RangeFuncRecord
namespace Go.Proofs.YtjljigccgaadaaaDoor.Am
open Go
section
variable {P : Program} {G : Nat → Option (List AV)} {w : World} {M : Map} {σ : Heap}

/-! ### A record that is no row of cells, written -/
theorem Ext.putNo {r b : Nat} {o o' : Obj} (hfar : ¬ M.far b) (hm : M r = some (b, 0)) (ho : w.heap[b]? = some o) (h1 : ∀ c e fr, o ≠ .cells c e fr) (h2 : ∀ c e fr, o' ≠ .cells c e fr) : Ext w M (w.putObj b o') M := by
  have hlt : b < w.heap.size := lt_of_heap ho
  refine ⟨by simp, rfl, rfl, rfl, fun b' hb' => ?_, fun _ b' g h => ⟨b', g, h, .inr ⟨rfl, rfl⟩⟩, fun r' b' g c e fr _ _ hc => ⟨c, ?_, rfl⟩, fun r' b' hr hn => ⟨hr, ?_⟩, rfl, fun b' h0 _ => World.putObj_heap_other fun h => hfar (by rw [← h]; exact h0)⟩
  · have hne : b' ≠ b := fun e => hb'.2.1 r 0 (by rw [e]; exact hm)
    exact ⟨⟨by simpa using hb'.1, hb'.2⟩, World.putObj_heap_other hne⟩
  · have hne : b' ≠ b := fun e' => by subst e'; rw [ho] at hc; exact h1 _ _ _ (Option.some.inj hc)
    rw [World.putObj_heap_other hne]; exact hc
  · refine ⟨by simpa using hn.1, fun c e fr => ?_⟩
    by_cases hb : b' = b
    · subst hb
      rw [World.putObj_heap_same hlt]
      exact fun h => h2 _ _ _ (Option.some.inj h)
    · rw [World.putObj_heap_other hb]; exact hn.2 c e fr

theorem Inv.putNo {r b : Nat} {o o' : Obj} {ao : AObj} (hi : Inv G w M σ) (hm : M r = some (b, 0)) (ho : w.heap[b]? = some o) (h1 : ∀ c e fr, o ≠ .cells c e fr) (h2 : ∀ c e fr, o' ≠ .cells c e fr)
    (hao : ObjOk (w.putObj b o') M r ao) : Inv G (w.putObj b o') M (σ.set r ao) := by
  have he := Ext.putNo (w := w) (hi.notFar hm) hm ho h1 h2
  refine .of (fun g cs hg => (hi.glob g cs hg).mono he) hi.inj (fun r p h => by rw [List.length_set]; exact hi.dom r p h) (fun r b g h => by simpa using hi.lt r b g h) (hi.far.keep he fun r b g h => .inl ⟨r, g, h⟩) (fun r' o'' h => ?_)
  by_cases hr : r' = r
  · subst hr
    have hlt : r' < σ.length := hi.dom _ _ hm
    rw [List.getElem?_set_self hlt] at h
    cases h
    exact hao
  · rw [List.getElem?_set_ne (fun e => hr e.symm)] at h
    exact (hi.objOk h).keep he rfl fun b' g' hm' => World.putObj_heap_other fun e => hr (hi.inj r' r b g' 0 (by rw [← e]; exact hm') hm)

/-! ### A call of yield -/
/-- THE FACT ON A ROUND: the loop l, asked with these arguments over this heap, answers so, over that heap. -/
def AYield (P : Program) (G : Nat → Option (List AV)) (l : Nat) (args : List AV) (σ : Heap) (v : AV) (σ' : Heap) : Prop :=
  (∃ A, σ[l]? = some (.loop A)) ∧ ∀ (w : World) (M : Map) (vs : Array Value) (b : Nat), Inv G w M σ → RVs w M vs args → M l = some (b, 0) →
    ∃ fn tmps assign body, (Instr.yield b vs).run P w = .ok (.round b fn tmps assign body) w ∧
      RoundIn Fence.wide 0 P b fn tmps assign body w fun e w' => ∃ u M', e = .returned u ∧ RV w' M' u v ∧ Ext w M w' M' ∧ Inv G w' M' σ'

theorem RoundIn.FW {r : Option Nat} {n : Nat} {l : Nat} {f : FuncId} {tmps : Array Value} {assign body : Code} {w : World} {R : Ending → World → Prop} (h : RoundIn Fence.wide n P l f tmps assign body w R) : RoundIn (FW r) n P l f tmps assign body w R := by
  cases r with
  | none => exact h
  | some l => exact h

theorem AStep.yield {a : AAct} {σ' : Heap} {o : Oper} {y : AV} {c : Call} {f : Operand} {l : Nat} {xs : List AV} (ho : o.op = .call c) (hc : c.callee = .value f)
    (hf : ev G a.tmps f = some (.yf l)) (hx : evAll G a.tmps c.args.toList = some xs) (hy : AYield P G l xs σ y σ') : AStep P G a σ o y σ' := by
  intro r0 w M ac K Q hi ha hK
  refine ⟨fun f _ => FW_fn r0 f, ?_⟩
  have hnd : ∀ c, o.op ≠ .defer c := fun c' h => by rw [ho] at h; cases h
  rw [Oper.semAt_eq _ _ _ hnd]
  obtain ⟨⟨A, hA⟩, hyield⟩ := hy
  have hfv := ev_ok hi ha.tmps hf
  have hxs := evAll_ok hi ha.tmps hx
  simp only [Array.toArray_toList] at hxs
  obtain ⟨b0, L, hb0, _, _⟩ := hi.loop l A hA
  generalize hfe : ac.eval f = fv at hfv
  cases hfv with
  | yf _ b hb =>
    obtain ⟨fn, tmps, assign, body, hrun, hround⟩ := hyield w M _ b hi hxs hb
    have hrun : (execOp ac.eval o).run P w = .ok (.round b fn tmps assign body) w := by
      unfold execOp
      simp only [ho, Sem.run_bind, resolve, hc, hfe, Deferred.ofValue, Sem.run_pure, Result.andThen_ok, invoke]
      simpa using hrun
    rw [hrun]
    refine ⟨fun h => (by rw [FW_depth] at h; cases h), ?_⟩
    refine (RoundIn.FW hround).mono ?_
    rintro e w' ⟨u, M', rfl, hu, he, hinv⟩
    exact hK u w' M' hu he hinv
  | yfS _ b g fn fs cs hb hg =>
    rw [hb] at hb0
    simp only [Option.some.injEq, Prod.mk.injEq] at hb0
    omega

/-- Parameters laid. -/
def putPs (ps : List Tmp) (xs : List AV) (a : List AV) : List AV := (ps.zip xs).foldl (fun t p => t.set p.1 p.2) a
theorem putPs_ok {ps : List Tmp} : ∀ {vs : List Value} {xs : List AV} {ts : Array Value} {a : List AV}, vs.length = xs.length → (∀ (j : Nat) (x : AV), xs[j]? = some x → ∃ v, vs[j]? = some v ∧ RV w M v x) → RVs w M ts a →
    RVs w M ((ps.zip vs).foldl (fun t p => t.setIfInBounds p.1 p.2) ts) (putPs ps xs a) := by
  induction ps with
  | nil => intro vs xs ts a _ _ h; exact h
  | cons p ps ih =>
    intro vs xs ts a hl hv h
    cases vs with
    | nil =>
      cases xs with
      | nil => exact h
      | cons x xs => simp at hl
    | cons v vs =>
      cases xs with
      | nil => simp at hl
      | cons x xs =>
        unfold putPs
        simp only [List.zip_cons_cons, List.foldl_cons]
        refine ih (by simpa using hl) (fun j y hj => by simpa using hv (j + 1) y (by simpa using hj)) ?_
        obtain ⟨v', hv', hx⟩ := hv 0 x rfl
        simp only [List.getElem?_cons_zero, Option.some.injEq] at hv'
        subst hv'
        have hr : RAct w M { tmps := ts, defers := [] } { tmps := a } := ⟨h, [], rfl, rfl, fun i r b hi => by simp at hi⟩
        have := (hr.put hx (some p)).tmps
        simpa [Act.put, AAct.put] using this

/-- How a round's code is left, as a jump: none: it is not. -/
def jumpOf : Exit → Option (Option Code)
  | .normal => some none
  | .ret => some (some .ret)
  | .exit id => some (some (.exit id))
  | _ => none

theorem AYield.of_round {l : Nat} {A : ALoop} {args : List AV} {σ1 σ3 : Heap} {a1 a3 : List AV} {e : Exit} {j : Option Code} (hA : σ[l]? = some (.loop A)) (hs : A.state = .ready) (hp : args.length = A.params.size)
    (h1 : AExec P G (fun r => r ≠ none) A.assign { tmps := putPs A.params.toList args A.tmps } σ .normal { tmps := a1 } σ1) (hl1 : σ1[l]? = some (.loop A))
    (h2 : AExec P G (fun r => r ≠ none) A.body { tmps := a1 } (σ1.set l (.loop { A with state := .busy })) e { tmps := a3 } σ3) (hl3 : σ3[l]? = some (.loop { A with state := .busy }))
    (hj : jumpOf e = some j) : AYield P G l args σ (.bool j.isNone) (σ3.set l (.loop { A with state := if j.isNone then .ready else .done, pending := j })) := by
  refine ⟨⟨A, hA⟩, fun w M vs b hi hvs hb => ?_⟩
  obtain ⟨b', L, hb', hL, hR⟩ := hi.loop l A hA
  rw [hb] at hb'
  obtain ⟨rfl, _⟩ := Prod.mk.inj (Option.some.inj hb')
  refine ⟨_, _, _, _, run_yield hL (by rw [hvs.1, hR.params, hp]), ?_⟩
  refine roundIn_of_wpIn trivial ?_
  rw [hR.assign, hR.body, hR.params]
  refine h1 (some b) (by simp) w M _ _ hi ⟨?_, [], rfl, rfl, fun i r b hi => by simp at hi⟩ fun w1 M1 ac1 he1 hi1 ha1 => ?_
  · have := putPs_ok (w := w) (M := M) (ps := A.params.toList) (vs := vs.toList) (xs := args) (ts := L.tmps) (a := A.tmps) (by simpa using hvs.1) (fun i x hx => by
      refine ⟨vs.getD i undef, ?_, hvs.2 i x hx⟩
      have hlt : i < vs.size := by rw [hvs.1]; exact (List.getElem?_eq_some_iff.1 hx).1
      simp [Array.getD, hlt]) ⟨hR.size, hR.tmps⟩
    rw [← Array.foldl_toList]
    simpa using this
  · obtain ⟨b1, L1, hb1, hL1, hR1⟩ := hi1.loop l A hl1
    have hbb : b1 = b := by
      obtain ⟨k1, _⟩ := he1.fix l b hb ⟨lt_of_heap hL, fun c e fr h => by rw [hL] at h; cases h⟩
      rw [hb1] at k1
      exact (Prod.mk.inj (Option.some.inj k1)).1
    subst hbb
    refine ⟨_, run_beginRound hL1 (by rw [hR1.state, hs]), ?_⟩
    have e2 : Ext w1 M1 (w1.putObj b1 (.loop { L1 with state := .busy })) M1 := .putNo (hi1.notFar hb1) hb1 hL1 (fun _ _ _ h => by cases h) (fun _ _ _ h => by cases h)
    have i2 : Inv G (w1.putObj b1 (.loop { L1 with state := .busy })) M1 (σ1.set l (.loop { A with state := .busy })) :=
      hi1.putNo hb1 hL1 (fun _ _ _ h => by cases h) (fun _ _ _ h => by cases h)
        ⟨b1, _, hb1, World.putObj_heap_same (lt_of_heap hL1), rfl, hR1.pending, hR1.size, fun j x hj => (hR1.tmps j x hj).mono e2, hR1.params, hR1.assign, hR1.body, hR1.defers.1, (e2.fix _ _ hR1.defers.1 hR1.defers.2).2⟩
    refine h2 (some b1) (by simp) _ M1 ac1 _ i2 (ha1.mono e2) fun w3 M3 ac3 he3 hi3 ha3 => ?_
    obtain ⟨b3, L3, hb3, hL3, hR3⟩ := hi3.loop l _ hl3
    have hbb3 : b3 = b1 := by
      obtain ⟨k1, _⟩ := he3.fix l b1 hb1 ⟨by simpa using lt_of_heap hL1, fun c e fr h => by rw [World.putObj_heap_same (lt_of_heap hL1)] at h; cases h⟩
      rw [hb3] at k1
      exact (Prod.mk.inj (Option.some.inj k1)).1
    subst hbb3
    have fin : ∀ j : Option Code, ∃ v w', (Instr.endRound b3 j).run P w3 = .ok v w' ∧ ∃ u M', Ending.returned v = .returned u ∧ RV w' M' u (.bool j.isNone) ∧ Ext w M w' M' ∧ Inv G w' M' (σ3.set l (.loop { A with state := if j.isNone then .ready else .done, pending := j })) := fun j => by
      have e4 : Ext w3 M3 (w3.putObj b3 (.loop { L3 with state := if j.isNone then .ready else .done, pending := j })) M3 := .putNo (hi3.notFar hb3) hb3 hL3 (fun _ _ _ h => by cases h) (fun _ _ _ h => by cases h)
      refine ⟨_, _, run_endRound j hL3, _, M3, rfl, .bool _, he1.trans (e2.trans (he3.trans e4)), ?_⟩
      exact hi3.putNo hb3 hL3 (fun _ _ _ h => by cases h) (fun _ _ _ h => by cases h)
        ⟨b3, _, hb3, World.putObj_heap_same (lt_of_heap hL3), rfl, rfl, hR3.size, fun j x hj => (hR3.tmps j x hj).mono e4, hR3.params, hR3.assign, hR3.body, hR3.defers.1, (e4.fix _ _ hR3.defers.1 hR3.defers.2).2⟩
    cases e with
    | normal => cases hj; exact fin none
    | ret => cases hj; exact fin (some .ret)
    | exit id => cases hj; exact fin (some (.exit id))
    | _ => cases hj

/-! ### The statement -/
/-- A loop's record at its start. -/
def loop0 (a : List AV) (ps : Array Tmp) (assign body : Code) (d : Nat) : ALoop := { state := .ready, pending := none, tmps := a, params := ps, assign := assign, body := body, defers := d }

theorem AExec.rangeFunc {g : Operand} {ps : Array Tmp} {assign body : Code} {a : List AV} {m : List Nat} {σ2 σ' : Heap} {f : FuncId} {first caps : List AV} {v : AV} {A' : ALoop} {e : Exit} {a' : AAct}
    (hg : ev G a g = some (.fn f first caps)) (hcall : ACall P G f (first ++ [.yf (σ.length + 1)] ++ caps) (σ ++ [.dfr] ++ [.loop (loop0 a ps assign body σ.length)]) v σ2)
    (hl : σ2[σ.length + 1]? = some (.loop A')) (hb : A'.state ≠ .busy)
    (hnone : A'.pending = none → e = .normal ∧ a' = { tmps := a, marks := σ.length :: m } ∧ σ' = σ2.set (σ.length + 1) (.loop { A' with state := .exhausted }))
    (hsome : ∀ c, A'.pending = some c → AExec P G (fun r => r = none) c { tmps := a, marks := σ.length :: m } (σ2.set (σ.length + 1) (.loop { A' with state := .exhausted })) e a' σ') :
    AExec P G (fun r => r = none) (.rangeFunc g ps assign body) { tmps := a, marks := m } σ e a' σ' := by
  rintro r0 rfl w M ac Q hi ha hQ
  show (Code.rangeFunc g ps assign body).wpIn Fence.wide 0 P Q ac w
  refine wpIn_rangeFunc fun fn _ => ?_
  have hfv := ev_ok hi ha.tmps hg
  generalize hfe : ac.eval g = fv at hfv
  cases hfv with
  | fn _ fs cs _ _ hl1 hl2 h1 h2 =>
    have e1 : Ext w M (w.alloc (.deferred (some []))) (M.put σ.length (w.heap.size, 0)) := Ext.push hi _
    have i1 : Inv G (w.alloc (.deferred (some []))) (M.put σ.length (w.heap.size, 0)) (σ ++ [.dfr]) := hi.push ⟨w.heap.size, Map.put_same _ _ _, alloc_new w _⟩
    have hlen : (σ ++ [AObj.dfr]).length = σ.length + 1 := by simp
    have nc1 : NoCells (w.alloc (.deferred (some []))) w.heap.size := ⟨by rw [alloc_size]; omega, fun c e fr h => by rw [alloc_new] at h; cases h⟩
    let L0 : Loop := { state := .ready, pending := none, fn := fn, tmps := ac.tmps, params := ps, assign := assign, body := body, defers := w.heap.size }
    have e2 : Ext (w.alloc (.deferred (some []))) (M.put σ.length (w.heap.size, 0)) ((w.alloc (.deferred (some []))).alloc (.loop L0)) ((M.put σ.length (w.heap.size, 0)).put (σ.length + 1) (w.heap.size + 1, 0)) := by
      have := Ext.push i1 (.loop L0)
      rw [hlen, alloc_size] at this
      exact this
    have hd2 : ((M.put σ.length (w.heap.size, 0)).put (σ.length + 1) (w.heap.size + 1, 0)) σ.length = some (w.heap.size, 0) := by
      rw [Map.put_other _ _ (by omega), Map.put_same]
    have i2 : Inv G ((w.alloc (.deferred (some []))).alloc (.loop L0)) ((M.put σ.length (w.heap.size, 0)).put (σ.length + 1) (w.heap.size + 1, 0)) (σ ++ [.dfr] ++ [.loop (loop0 a ps assign body σ.length)]) := by
      have := i1.push (o := .loop L0) (ao := .loop (loop0 a ps assign body σ.length))
      rw [hlen, alloc_size] at this
      refine this ⟨w.heap.size + 1, L0, Map.put_same _ _ _, ?_, rfl, rfl, ha.tmps.1, fun j x hj => ((ha.tmps.2 j x hj).mono e1).mono e2, rfl, rfl, rfl, hd2, (e2.fix σ.length w.heap.size (Map.put_same _ _ _) nc1).2⟩
      have := alloc_new (w.alloc (.deferred (some []))) (.loop L0)
      rw [alloc_size] at this
      exact this
    have hyv : RV ((w.alloc (.deferred (some []))).alloc (.loop L0)) ((M.put σ.length (w.heap.size, 0)).put (σ.length + 1) (w.heap.size + 1, 0)) (.func (.yield (w.heap.size + 1)) #[] #[]) (.yf (σ.length + 1)) := .yf _ _ (Map.put_same _ _ _)
    obtain ⟨⟨fn', hfn, hbody, hname⟩, hcalls⟩ := hcall
    refine ⟨w.heap.size + 1, [markOf w.heap.size], (w.alloc (.deferred (some []))).alloc (.loop L0), { target := .fn (.func f) cs, args := fs ++ #[.func (.yield (w.heap.size + 1)) #[] #[]] }, (w.alloc (.deferred (some []))).alloc (.loop L0), f, fs ++ #[.func (.yield (w.heap.size + 1)) #[] #[]] ++ cs, (w.alloc (.deferred (some []))).alloc (.loop L0), run_enterLoop_outer fn ac.tmps ps assign body, ?_, fun _ _ => trivial, ?_, (fun h => by cases h), ?_⟩
    · unfold resolve
      simp only [hfe, Deferred.ofValue, Sem.run_pure]
      simp [Act.eval]
    · simp only [invoke, callFunc, run_program, hfn, hname, hbody, Sem.run_bind, Result.andThen_ok, Bool.false_eq_true, if_false, Sem.run_pure]
    · refine (hcalls _ _ _ i2 ?_).mono ?_
      · exact (RVs.append ⟨hl1, fun j x hj => ((h1 j x hj).mono e1).mono e2⟩ (show RVs _ _ #[.func (.yield (w.heap.size + 1)) #[] #[]] [.yf (σ.length + 1)] from ⟨rfl, fun j x hj => by
          cases j with
          | zero => simp at hj; subst hj; exact hyv
          | succ j => simp at hj⟩)).append ⟨hl2, fun j x hj => ((h2 j x hj).mono e1).mono e2⟩
      · rintro en w3 ⟨u, M3, rfl, hu, he3, hi3⟩
        obtain ⟨b3, L3, hb3, hL3, hR3⟩ := hi3.loop _ _ hl
        have hbb : b3 = w.heap.size + 1 := by
          obtain ⟨k1, _⟩ := he3.fix (σ.length + 1) (w.heap.size + 1) (Map.put_same _ _ _) ⟨by rw [alloc_size, alloc_size]; omega, fun c e fr h => by
            have := alloc_new (w.alloc (.deferred (some []))) (.loop L0)
            rw [alloc_size] at this
            rw [this] at h; cases h⟩
          rw [hb3] at k1
          exact (Prod.mk.inj (Option.some.inj k1)).1
        subst hbb
        have e4 : Ext w3 M3 (w3.putObj (w.heap.size + 1) (.loop { L3 with state := .exhausted })) M3 := .putNo (hi3.notFar hb3) hb3 hL3 (fun _ _ _ h => by cases h) (fun _ _ _ h => by cases h)
        have i4 : Inv G (w3.putObj (w.heap.size + 1) (.loop { L3 with state := .exhausted })) M3 (σ2.set (σ.length + 1) (.loop { A' with state := .exhausted })) :=
          hi3.putNo hb3 hL3 (fun _ _ _ h => by cases h) (fun _ _ _ h => by cases h)
            ⟨_, _, hb3, World.putObj_heap_same (lt_of_heap hL3), rfl, hR3.pending, hR3.size, fun j x hj => (hR3.tmps j x hj).mono e4, hR3.params, hR3.assign, hR3.body, hR3.defers.1, (e4.fix _ _ hR3.defers.1 hR3.defers.2).2⟩
        have e14 := e1.trans (e2.trans (he3.trans e4))
        have ha4 : RAct (w3.putObj (w.heap.size + 1) (.loop { L3 with state := .exhausted })) M3 { ac with defers := [markOf w.heap.size] ++ ac.defers } { tmps := a, marks := σ.length :: m } := by
          have hr := ha.mono e14
          obtain ⟨bs, k1, k2, k3⟩ := hr.marks
          refine ⟨hr.tmps, w.heap.size :: bs, by simp [k1], by simp [k2], fun i r b hi hb => ?_⟩
          cases i with
          | zero =>
            simp at hi hb
            subst hi; subst hb
            exact (e2.trans (he3.trans e4)).fix σ.length w.heap.size (Map.put_same _ _ _) nc1
          | succ i => exact k3 i r b (by simpa using hi) (by simpa using hb)
        refine ⟨L3.pending, _, run_endLoop hL3 (by rw [hR3.state]; exact hb), ?_⟩
        have key : ∀ jp : Option Code, A'.pending = jp → (match jp with
            | none => Q .normal { ac with defers := [markOf w.heap.size] ++ ac.defers } (w3.putObj (w.heap.size + 1) (.loop { L3 with state := .exhausted }))
            | some c => c.wpIn Fence.wide 0 P Q { ac with defers := [markOf w.heap.size] ++ ac.defers } (w3.putObj (w.heap.size + 1) (.loop { L3 with state := .exhausted }))) := by
          intro jp hp
          cases jp with
          | none =>
            obtain ⟨rfl, rfl, rfl⟩ := hnone hp
            exact hQ _ M3 _ e14 i4 ha4
          | some c => exact hsome c hp none rfl _ M3 _ Q i4 ha4 fun w5 M5 ac5 he5 => hQ w5 M5 ac5 (e14.trans he5)
        exact key L3.pending hR3.pending.symm

/-! ### A function that holds one -/
/-- The blocks for deferred calls, taken. -/
def goneAll : List Nat → Heap → Heap
  | [], σ => σ
  | r :: rs, σ => goneAll rs (σ.set r .gone)

theorem leavesM {fn : Func} {tmps : Array Value} {R : Ending → World → Prop} : ∀ (ms : List Nat) (bs : List Nat) (w : World) (M : Map) (σ : Heap), Inv G w M σ → ms.Nodup → (∀ r ∈ ms, σ[r]? = some .dfr) → bs.length = ms.length →
    (∀ (i r b : Nat), ms[i]? = some r → bs[i]? = some b → M r = some (b, 0)) →
    (∀ w', Ext w M w' M → Inv G w' M (goneAll ms σ) → ∃ v, (results fn tmps).run P w' = .ok v w' ∧ R (.returned v) w') → LeavesInM Fence.wide 0 P fn tmps R (bs.map markOf) .returning w
  | [], [], w, M, σ, hi, _, _, _, _, hend => hend w (.refl w M) hi
  | [], b :: bs, w, M, σ, _, _, _, hl, _, _ => by simp at hl
  | r :: ms, [], w, M, σ, _, _, _, hl, _, _ => by simp at hl
  | r :: ms, b :: bs, w, M, σ, hi, hnd, hd, hl, hm, hend => by
    obtain ⟨b', hb', hh⟩ := hi.dfr r (hd r (by simp))
    have hbm : M r = some (b, 0) := hm 0 r b rfl rfl
    rw [hbm] at hb'
    obtain ⟨rfl, _⟩ := Prod.mk.inj (Option.some.inj hb')
    obtain ⟨hn1, hn2⟩ := List.nodup_cons.1 hnd
    have e1 : Ext w M (w.putObj b (.deferred none)) M := .putNo (hi.notFar hbm) hbm hh (fun _ _ _ h => by cases h) (fun _ _ _ h => by cases h)
    have i1 : Inv G (w.putObj b (.deferred none)) M (σ.set r .gone) := hi.putNo hbm hh (fun _ _ _ h => by cases h) (fun _ _ _ h => by cases h) trivial
    refine ⟨by simp, .inl ⟨b, w.putObj b (.deferred none), rfl, run_takeDeferred hh, ?_⟩⟩
    refine leavesM ms bs _ M _ i1 hn2 (fun r' hr' => ?_) (by simpa using hl) (fun i r' b' h1 h2 => hm (i + 1) r' b' (by simpa using h1) (by simpa using h2)) fun w' he' hi' => hend w' (e1.trans he') hi'
    rw [List.getElem?_set_ne (fun e => hn1 (by rw [e]; exact hr'))]
    exact hd r' (by simp [hr'])

/-- A function with ranges over functions, from its body. -/
theorem ACall.of_body_marks {f : FuncId} {fn : Func} {c : Code} {args : List AV} {a' : AAct} {e : Exit} {xs : List AV} {σ' : Heap} (hf : P.funcs[f]? = some fn) (hb : fn.body = some c) (hn : (fn.name == "runtime.NumGoroutine") = false)
    (h : AExec P G (fun r => r = none) c { tmps := args ++ List.replicate (fn.ntmps - args.length) (.tup []) } σ e a' σ') (he : e = .normal ∨ e = .ret) (hnd : a'.marks.Nodup) (hd : ∀ r ∈ a'.marks, σ'[r]? = some .dfr)
    (hres : aResults P (goneAll a'.marks σ') a'.tmps fn.results.toList = some xs) : ACall P G f args σ (asOne xs) (goneAll a'.marks σ') := by
  refine ⟨⟨fn, hf, by rw [hb]; rfl, hn⟩, fun w M vs hi hvs => ?_⟩
  refine callsIn_of_wp_marks hf hb trivial (h none rfl w M _ _ hi ⟨?_, [], rfl, rfl, fun i r b hi => by simp at hi⟩ fun w' M' ac' hext hi' ha' => ?_)
  · rw [hvs.1]
    refine hvs.append ⟨by simp, fun j x hj => ?_⟩
    have hx := List.eq_of_mem_replicate (List.mem_of_getElem? hj)
    have hlt : j < fn.ntmps - args.length := by
      have := (List.getElem?_eq_some_iff.1 hj).1
      simpa using this
    subst hx
    simp only [Array.getD, Array.size_replicate, hlt, dite_true]
    simpa using RV.undef w M
  · obtain ⟨bs, hbs, hl, hmb⟩ := ha'.marks
    have fin : LeavesInM Fence.wide 0 P fn ac'.tmps (fun e w' => ∃ u M', e = .returned u ∧ RV w' M' u (asOne xs) ∧ Ext w M w' M' ∧ Inv G w' M' (goneAll a'.marks σ')) ac'.defers .returning w' := by
      rw [hbs]
      refine leavesM a'.marks bs w' M' σ' hi' hnd hd hl (fun i r b h1 h2 => (hmb i r b h1 h2).1) fun w2 he2 hi2 => ?_
      obtain ⟨v, hv, hrv⟩ := results_ok (P := P) hi2 (ha'.mono he2).tmps hres
      exact ⟨v, hv, v, M', rfl, hrv, hext.trans he2, hi2⟩
    rcases he with rfl | rfl
    · exact fin
    · exact fin
end
end Go.Proofs.YtjljigccgaadaaaDoor.Am
