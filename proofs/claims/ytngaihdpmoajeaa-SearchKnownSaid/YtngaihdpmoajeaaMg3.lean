/-
  This file proves nothing of a law. It holds lemmas, of 10 texts in their order. No condition of its own.
-/
import Derived.Test.YtngaihdpmoajeaaMg2
import Derived.RangeFuncRecord
import Derived.KernelRfl
import Derived.ProofKit
import Derived.Deep.Slices
import Derived.Deep.Fields
import Derived.OpenShut
namespace Go.Proofs.Ytngaihdpmoajeaa.Am
open Go
section
variable {P : Program} {G : Nat → Option (List AV)} {w : World} {M : Map} {σ : Heap}

/-! ### A record that is no row of cells, written -/
theorem Ext.putNo {r b : Nat} {o o' : Obj} (hfar : ¬ M.far b) (hm : M r = some (b, 0)) (ho : w.heap[b]? = some o) (h1 : ∀ c e fr, o ≠ .cells c e fr) (h2 : ∀ c e fr, o' ≠ .cells c e fr) : Ext w M (w.putObj b o') M := by
  have hlt : b < w.heap.size := lt_of_heap ho
  refine ⟨by simp, rfl, rfl, rfl, fun b' hb' => ?_, fun _ b' g h => ⟨b', g, h, .inr ⟨rfl, rfl⟩⟩, fun r' b' g c e fr _ _ hc => ⟨c, ?_, rfl⟩, fun r' b' hr hn => ⟨hr, ?_⟩, rfl, fun b' h0 _ => World.putObj_heap_other fun h => hfar (by rw [← h]; exact h0)⟩
  · have hne : b' ≠ b := fun e => hb'.2.1 r 0 (by rw [e]; exact hm)
    exact ⟨⟨by simpa using hb'.1, hb'.2⟩, World.putObj_heap_other hne⟩
  · have hne : b' ≠ b := fun e' => by subst e'; rw [ho] at hc; exact h1 _ _ _ (Option.some.inj hc)
    rw [World.putObj_heap_other hne]; exact hc
  · refine ⟨by simpa using hn.1, fun c e fr => ?_⟩
    by_cases hb : b' = b
    · subst hb
      rw [World.putObj_heap_same hlt]
      exact fun h => h2 _ _ _ (Option.some.inj h)
    · rw [World.putObj_heap_other hb]; exact hn.2 c e fr

theorem Inv.putNo {r b : Nat} {o o' : Obj} {ao : AObj} (hi : Inv G w M σ) (hm : M r = some (b, 0)) (ho : w.heap[b]? = some o) (h1 : ∀ c e fr, o ≠ .cells c e fr) (h2 : ∀ c e fr, o' ≠ .cells c e fr)
    (hao : ObjOk (w.putObj b o') M r ao) : Inv G (w.putObj b o') M (σ.set r ao) := by
  have he := Ext.putNo (w := w) (hi.notFar hm) hm ho h1 h2
  refine .of (fun g cs hg => (hi.glob g cs hg).mono he) hi.inj (fun r p h => by rw [List.length_set]; exact hi.dom r p h) (fun r b g h => by simpa using hi.lt r b g h) (hi.far.keep he fun r b g h => .inl ⟨r, g, h⟩) (fun r' o'' h => ?_)
  by_cases hr : r' = r
  · subst hr
    have hlt : r' < σ.length := hi.dom _ _ hm
    rw [List.getElem?_set_self hlt] at h
    cases h
    exact hao
  · rw [List.getElem?_set_ne (fun e => hr e.symm)] at h
    exact (hi.objOk h).keep he rfl fun b' g' hm' => World.putObj_heap_other fun e => hr (hi.inj r' r b g' 0 (by rw [← e]; exact hm') hm)

/-! ### A call of yield -/
/-- THE FACT ON A ROUND: the loop l, asked with these arguments over this heap, answers so, over that heap. -/
def AYield (P : Program) (G : Nat → Option (List AV)) (l : Nat) (args : List AV) (σ : Heap) (v : AV) (σ' : Heap) : Prop :=
  (∃ A, σ[l]? = some (.loop A)) ∧ ∀ (w : World) (M : Map) (vs : Array Value) (b : Nat), Inv G w M σ → RVs w M vs args → M l = some (b, 0) →
    ∃ fn tmps assign body, (Instr.yield b vs).run P w = .ok (.round b fn tmps assign body) w ∧
      RoundIn Fence.wide 0 P b fn tmps assign body w fun e w' => ∃ u M', e = .returned u ∧ RV w' M' u v ∧ Ext w M w' M' ∧ Inv G w' M' σ'

theorem RoundIn.FW {r : Option Nat} {n : Nat} {l : Nat} {f : FuncId} {tmps : Array Value} {assign body : Code} {w : World} {R : Ending → World → Prop} (h : RoundIn Fence.wide n P l f tmps assign body w R) : RoundIn (FW r) n P l f tmps assign body w R := by
  cases r with
  | none => exact h
  | some l => exact h

theorem AStep.yield {a : AAct} {σ' : Heap} {o : Oper} {y : AV} {c : Call} {f : Operand} {l : Nat} {xs : List AV} (ho : o.op = .call c) (hc : c.callee = .value f)
    (hf : ev G a.tmps f = some (.yf l)) (hx : evAll G a.tmps c.args.toList = some xs) (hy : AYield P G l xs σ y σ') : AStep P G a σ o y σ' := by
  intro r0 w M ac K Q hi ha hK
  refine ⟨fun f _ => FW_fn r0 f, ?_⟩
  have hnd : ∀ c, o.op ≠ .defer c := fun c' h => by rw [ho] at h; cases h
  rw [Oper.semAt_eq _ _ _ hnd]
  obtain ⟨⟨A, hA⟩, hyield⟩ := hy
  have hfv := ev_ok hi ha.tmps hf
  have hxs := evAll_ok hi ha.tmps hx
  simp only [Array.toArray_toList] at hxs
  obtain ⟨b0, L, hb0, _, _⟩ := hi.loop l A hA
  generalize hfe : ac.eval f = fv at hfv
  cases hfv with
  | yf _ b hb =>
    obtain ⟨fn, tmps, assign, body, hrun, hround⟩ := hyield w M _ b hi hxs hb
    have hrun : (execOp ac.eval o).run P w = .ok (.round b fn tmps assign body) w := by
      unfold execOp
      simp only [ho, Sem.run_bind, resolve, hc, hfe, Deferred.ofValue, Sem.run_pure, Result.andThen_ok, invoke]
      simpa using hrun
    rw [hrun]
    refine ⟨fun h => (by rw [FW_depth] at h; cases h), ?_⟩
    refine (RoundIn.FW hround).mono ?_
    rintro e w' ⟨u, M', rfl, hu, he, hinv⟩
    exact hK u w' M' hu he hinv
  | yfS _ b g fn fs cs hb hg =>
    rw [hb] at hb0
    simp only [Option.some.injEq, Prod.mk.injEq] at hb0
    omega

/-- Parameters laid. -/
def putPs (ps : List Tmp) (xs : List AV) (a : List AV) : List AV := (ps.zip xs).foldl (fun t p => t.set p.1 p.2) a
theorem putPs_ok {ps : List Tmp} : ∀ {vs : List Value} {xs : List AV} {ts : Array Value} {a : List AV}, vs.length = xs.length → (∀ (j : Nat) (x : AV), xs[j]? = some x → ∃ v, vs[j]? = some v ∧ RV w M v x) → RVs w M ts a →
    RVs w M ((ps.zip vs).foldl (fun t p => t.setIfInBounds p.1 p.2) ts) (putPs ps xs a) := by
  induction ps with
  | nil => intro vs xs ts a _ _ h; exact h
  | cons p ps ih =>
    intro vs xs ts a hl hv h
    cases vs with
    | nil =>
      cases xs with
      | nil => exact h
      | cons x xs => simp at hl
    | cons v vs =>
      cases xs with
      | nil => simp at hl
      | cons x xs =>
        unfold putPs
        simp only [List.zip_cons_cons, List.foldl_cons]
        refine ih (by simpa using hl) (fun j y hj => by simpa using hv (j + 1) y (by simpa using hj)) ?_
        obtain ⟨v', hv', hx⟩ := hv 0 x rfl
        simp only [List.getElem?_cons_zero, Option.some.injEq] at hv'
        subst hv'
        have hr : RAct w M { tmps := ts, defers := [] } { tmps := a } := ⟨h, [], rfl, rfl, fun i r b hi => by simp at hi⟩
        have := (hr.put hx (some p)).tmps
        simpa [Act.put, AAct.put] using this

/-- How a round's code is left, as a jump: none: it is not. -/
def jumpOf : Exit → Option (Option Code)
  | .normal => some none
  | .ret => some (some .ret)
  | .exit id => some (some (.exit id))
  | _ => none

theorem AYield.of_round {l : Nat} {A : ALoop} {args : List AV} {σ1 σ3 : Heap} {a1 a3 : List AV} {e : Exit} {j : Option Code} (hA : σ[l]? = some (.loop A)) (hs : A.state = .ready) (hp : args.length = A.params.size)
    (h1 : AExec P G (fun r => r ≠ none) A.assign { tmps := putPs A.params.toList args A.tmps } σ .normal { tmps := a1 } σ1) (hl1 : σ1[l]? = some (.loop A))
    (h2 : AExec P G (fun r => r ≠ none) A.body { tmps := a1 } (σ1.set l (.loop { A with state := .busy })) e { tmps := a3 } σ3) (hl3 : σ3[l]? = some (.loop { A with state := .busy }))
    (hj : jumpOf e = some j) : AYield P G l args σ (.bool j.isNone) (σ3.set l (.loop { A with state := if j.isNone then .ready else .done, pending := j })) := by
  refine ⟨⟨A, hA⟩, fun w M vs b hi hvs hb => ?_⟩
  obtain ⟨b', L, hb', hL, hR⟩ := hi.loop l A hA
  rw [hb] at hb'
  obtain ⟨rfl, _⟩ := Prod.mk.inj (Option.some.inj hb')
  refine ⟨_, _, _, _, run_yield hL (by rw [hvs.1, hR.params, hp]), ?_⟩
  refine roundIn_of_wpIn trivial ?_
  rw [hR.assign, hR.body, hR.params]
  refine h1 (some b) (by simp) w M _ _ hi ⟨?_, [], rfl, rfl, fun i r b hi => by simp at hi⟩ fun w1 M1 ac1 he1 hi1 ha1 => ?_
  · have := putPs_ok (w := w) (M := M) (ps := A.params.toList) (vs := vs.toList) (xs := args) (ts := L.tmps) (a := A.tmps) (by simpa using hvs.1) (fun i x hx => by
      refine ⟨vs.getD i undef, ?_, hvs.2 i x hx⟩
      have hlt : i < vs.size := by rw [hvs.1]; exact (List.getElem?_eq_some_iff.1 hx).1
      simp [Array.getD, hlt]) ⟨hR.size, hR.tmps⟩
    rw [← Array.foldl_toList]
    simpa using this
  · obtain ⟨b1, L1, hb1, hL1, hR1⟩ := hi1.loop l A hl1
    have hbb : b1 = b := by
      obtain ⟨k1, _⟩ := he1.fix l b hb ⟨lt_of_heap hL, fun c e fr h => by rw [hL] at h; cases h⟩
      rw [hb1] at k1
      exact (Prod.mk.inj (Option.some.inj k1)).1
    subst hbb
    refine ⟨_, run_beginRound hL1 (by rw [hR1.state, hs]), ?_⟩
    have e2 : Ext w1 M1 (w1.putObj b1 (.loop { L1 with state := .busy })) M1 := .putNo (hi1.notFar hb1) hb1 hL1 (fun _ _ _ h => by cases h) (fun _ _ _ h => by cases h)
    have i2 : Inv G (w1.putObj b1 (.loop { L1 with state := .busy })) M1 (σ1.set l (.loop { A with state := .busy })) :=
      hi1.putNo hb1 hL1 (fun _ _ _ h => by cases h) (fun _ _ _ h => by cases h)
        ⟨b1, _, hb1, World.putObj_heap_same (lt_of_heap hL1), rfl, hR1.pending, hR1.size, fun j x hj => (hR1.tmps j x hj).mono e2, hR1.params, hR1.assign, hR1.body, hR1.defers.1, (e2.fix _ _ hR1.defers.1 hR1.defers.2).2⟩
    refine h2 (some b1) (by simp) _ M1 ac1 _ i2 (ha1.mono e2) fun w3 M3 ac3 he3 hi3 ha3 => ?_
    obtain ⟨b3, L3, hb3, hL3, hR3⟩ := hi3.loop l _ hl3
    have hbb3 : b3 = b1 := by
      obtain ⟨k1, _⟩ := he3.fix l b1 hb1 ⟨by simpa using lt_of_heap hL1, fun c e fr h => by rw [World.putObj_heap_same (lt_of_heap hL1)] at h; cases h⟩
      rw [hb3] at k1
      exact (Prod.mk.inj (Option.some.inj k1)).1
    subst hbb3
    have fin : ∀ j : Option Code, ∃ v w', (Instr.endRound b3 j).run P w3 = .ok v w' ∧ ∃ u M', Ending.returned v = .returned u ∧ RV w' M' u (.bool j.isNone) ∧ Ext w M w' M' ∧ Inv G w' M' (σ3.set l (.loop { A with state := if j.isNone then .ready else .done, pending := j })) := fun j => by
      have e4 : Ext w3 M3 (w3.putObj b3 (.loop { L3 with state := if j.isNone then .ready else .done, pending := j })) M3 := .putNo (hi3.notFar hb3) hb3 hL3 (fun _ _ _ h => by cases h) (fun _ _ _ h => by cases h)
      refine ⟨_, _, run_endRound j hL3, _, M3, rfl, .bool _, he1.trans (e2.trans (he3.trans e4)), ?_⟩
      exact hi3.putNo hb3 hL3 (fun _ _ _ h => by cases h) (fun _ _ _ h => by cases h)
        ⟨b3, _, hb3, World.putObj_heap_same (lt_of_heap hL3), rfl, rfl, hR3.size, fun j x hj => (hR3.tmps j x hj).mono e4, hR3.params, hR3.assign, hR3.body, hR3.defers.1, (e4.fix _ _ hR3.defers.1 hR3.defers.2).2⟩
    cases e with
    | normal => cases hj; exact fin none
    | ret => cases hj; exact fin (some .ret)
    | exit id => cases hj; exact fin (some (.exit id))
    | _ => cases hj

/-! ### The statement -/
/-- A loop's record at its start. -/
def loop0 (a : List AV) (ps : Array Tmp) (assign body : Code) (d : Nat) : ALoop := { state := .ready, pending := none, tmps := a, params := ps, assign := assign, body := body, defers := d }

theorem AExec.rangeFunc {g : Operand} {ps : Array Tmp} {assign body : Code} {a : List AV} {m : List Nat} {σ2 σ' : Heap} {f : FuncId} {first caps : List AV} {v : AV} {A' : ALoop} {e : Exit} {a' : AAct}
    (hg : ev G a g = some (.fn f first caps)) (hcall : ACall P G f (first ++ [.yf (σ.length + 1)] ++ caps) (σ ++ [.dfr] ++ [.loop (loop0 a ps assign body σ.length)]) v σ2)
    (hl : σ2[σ.length + 1]? = some (.loop A')) (hb : A'.state ≠ .busy)
    (hnone : A'.pending = none → e = .normal ∧ a' = { tmps := a, marks := σ.length :: m } ∧ σ' = σ2.set (σ.length + 1) (.loop { A' with state := .exhausted }))
    (hsome : ∀ c, A'.pending = some c → AExec P G (fun r => r = none) c { tmps := a, marks := σ.length :: m } (σ2.set (σ.length + 1) (.loop { A' with state := .exhausted })) e a' σ') :
    AExec P G (fun r => r = none) (.rangeFunc g ps assign body) { tmps := a, marks := m } σ e a' σ' := by
  rintro r0 rfl w M ac Q hi ha hQ
  show (Code.rangeFunc g ps assign body).wpIn Fence.wide 0 P Q ac w
  refine wpIn_rangeFunc fun fn _ => ?_
  have hfv := ev_ok hi ha.tmps hg
  generalize hfe : ac.eval g = fv at hfv
  cases hfv with
  | fn _ fs cs _ _ hl1 hl2 h1 h2 =>
    have e1 : Ext w M (w.alloc (.deferred (some []))) (M.put σ.length (w.heap.size, 0)) := Ext.push hi _
    have i1 : Inv G (w.alloc (.deferred (some []))) (M.put σ.length (w.heap.size, 0)) (σ ++ [.dfr]) := hi.push ⟨w.heap.size, Map.put_same _ _ _, alloc_new w _⟩
    have hlen : (σ ++ [AObj.dfr]).length = σ.length + 1 := by simp
    have nc1 : NoCells (w.alloc (.deferred (some []))) w.heap.size := ⟨by rw [alloc_size]; omega, fun c e fr h => by rw [alloc_new] at h; cases h⟩
    let L0 : Loop := { state := .ready, pending := none, fn := fn, tmps := ac.tmps, params := ps, assign := assign, body := body, defers := w.heap.size }
    have e2 : Ext (w.alloc (.deferred (some []))) (M.put σ.length (w.heap.size, 0)) ((w.alloc (.deferred (some []))).alloc (.loop L0)) ((M.put σ.length (w.heap.size, 0)).put (σ.length + 1) (w.heap.size + 1, 0)) := by
      have := Ext.push i1 (.loop L0)
      rw [hlen, alloc_size] at this
      exact this
    have hd2 : ((M.put σ.length (w.heap.size, 0)).put (σ.length + 1) (w.heap.size + 1, 0)) σ.length = some (w.heap.size, 0) := by
      rw [Map.put_other _ _ (by omega), Map.put_same]
    have i2 : Inv G ((w.alloc (.deferred (some []))).alloc (.loop L0)) ((M.put σ.length (w.heap.size, 0)).put (σ.length + 1) (w.heap.size + 1, 0)) (σ ++ [.dfr] ++ [.loop (loop0 a ps assign body σ.length)]) := by
      have := i1.push (o := .loop L0) (ao := .loop (loop0 a ps assign body σ.length))
      rw [hlen, alloc_size] at this
      refine this ⟨w.heap.size + 1, L0, Map.put_same _ _ _, ?_, rfl, rfl, ha.tmps.1, fun j x hj => ((ha.tmps.2 j x hj).mono e1).mono e2, rfl, rfl, rfl, hd2, (e2.fix σ.length w.heap.size (Map.put_same _ _ _) nc1).2⟩
      have := alloc_new (w.alloc (.deferred (some []))) (.loop L0)
      rw [alloc_size] at this
      exact this
    have hyv : RV ((w.alloc (.deferred (some []))).alloc (.loop L0)) ((M.put σ.length (w.heap.size, 0)).put (σ.length + 1) (w.heap.size + 1, 0)) (.func (.yield (w.heap.size + 1)) #[] #[]) (.yf (σ.length + 1)) := .yf _ _ (Map.put_same _ _ _)
    obtain ⟨⟨fn', hfn, hbody, hname⟩, hcalls⟩ := hcall
    refine ⟨w.heap.size + 1, [markOf w.heap.size], (w.alloc (.deferred (some []))).alloc (.loop L0), { target := .fn (.func f) cs, args := fs ++ #[.func (.yield (w.heap.size + 1)) #[] #[]] }, (w.alloc (.deferred (some []))).alloc (.loop L0), f, fs ++ #[.func (.yield (w.heap.size + 1)) #[] #[]] ++ cs, (w.alloc (.deferred (some []))).alloc (.loop L0), run_enterLoop_outer fn ac.tmps ps assign body, ?_, fun _ _ => trivial, ?_, (fun h => by cases h), ?_⟩
    · unfold resolve
      simp only [hfe, Deferred.ofValue, Sem.run_pure]
      simp [Act.eval]
    · simp only [invoke, callFunc, run_program, hfn, hname, hbody, Sem.run_bind, Result.andThen_ok, Bool.false_eq_true, if_false, Sem.run_pure]
    · refine (hcalls _ _ _ i2 ?_).mono ?_
      · exact (RVs.append ⟨hl1, fun j x hj => ((h1 j x hj).mono e1).mono e2⟩ (show RVs _ _ #[.func (.yield (w.heap.size + 1)) #[] #[]] [.yf (σ.length + 1)] from ⟨rfl, fun j x hj => by
          cases j with
          | zero => simp at hj; subst hj; exact hyv
          | succ j => simp at hj⟩)).append ⟨hl2, fun j x hj => ((h2 j x hj).mono e1).mono e2⟩
      · rintro en w3 ⟨u, M3, rfl, hu, he3, hi3⟩
        obtain ⟨b3, L3, hb3, hL3, hR3⟩ := hi3.loop _ _ hl
        have hbb : b3 = w.heap.size + 1 := by
          obtain ⟨k1, _⟩ := he3.fix (σ.length + 1) (w.heap.size + 1) (Map.put_same _ _ _) ⟨by rw [alloc_size, alloc_size]; omega, fun c e fr h => by
            have := alloc_new (w.alloc (.deferred (some []))) (.loop L0)
            rw [alloc_size] at this
            rw [this] at h; cases h⟩
          rw [hb3] at k1
          exact (Prod.mk.inj (Option.some.inj k1)).1
        subst hbb
        have e4 : Ext w3 M3 (w3.putObj (w.heap.size + 1) (.loop { L3 with state := .exhausted })) M3 := .putNo (hi3.notFar hb3) hb3 hL3 (fun _ _ _ h => by cases h) (fun _ _ _ h => by cases h)
        have i4 : Inv G (w3.putObj (w.heap.size + 1) (.loop { L3 with state := .exhausted })) M3 (σ2.set (σ.length + 1) (.loop { A' with state := .exhausted })) :=
          hi3.putNo hb3 hL3 (fun _ _ _ h => by cases h) (fun _ _ _ h => by cases h)
            ⟨_, _, hb3, World.putObj_heap_same (lt_of_heap hL3), rfl, hR3.pending, hR3.size, fun j x hj => (hR3.tmps j x hj).mono e4, hR3.params, hR3.assign, hR3.body, hR3.defers.1, (e4.fix _ _ hR3.defers.1 hR3.defers.2).2⟩
        have e14 := e1.trans (e2.trans (he3.trans e4))
        have ha4 : RAct (w3.putObj (w.heap.size + 1) (.loop { L3 with state := .exhausted })) M3 { ac with defers := [markOf w.heap.size] ++ ac.defers } { tmps := a, marks := σ.length :: m } := by
          have hr := ha.mono e14
          obtain ⟨bs, k1, k2, k3⟩ := hr.marks
          refine ⟨hr.tmps, w.heap.size :: bs, by simp [k1], by simp [k2], fun i r b hi hb => ?_⟩
          cases i with
          | zero =>
            simp at hi hb
            subst hi; subst hb
            exact (e2.trans (he3.trans e4)).fix σ.length w.heap.size (Map.put_same _ _ _) nc1
          | succ i => exact k3 i r b (by simpa using hi) (by simpa using hb)
        refine ⟨L3.pending, _, run_endLoop hL3 (by rw [hR3.state]; exact hb), ?_⟩
        have key : ∀ jp : Option Code, A'.pending = jp → (match jp with
            | none => Q .normal { ac with defers := [markOf w.heap.size] ++ ac.defers } (w3.putObj (w.heap.size + 1) (.loop { L3 with state := .exhausted }))
            | some c => c.wpIn Fence.wide 0 P Q { ac with defers := [markOf w.heap.size] ++ ac.defers } (w3.putObj (w.heap.size + 1) (.loop { L3 with state := .exhausted }))) := by
          intro jp hp
          cases jp with
          | none =>
            obtain ⟨rfl, rfl, rfl⟩ := hnone hp
            exact hQ _ M3 _ e14 i4 ha4
          | some c => exact hsome c hp none rfl _ M3 _ Q i4 ha4 fun w5 M5 ac5 he5 => hQ w5 M5 ac5 (e14.trans he5)
        exact key L3.pending hR3.pending.symm

/-! ### A function that holds one -/
/-- The blocks for deferred calls, taken. -/
def goneAll : List Nat → Heap → Heap
  | [], σ => σ
  | r :: rs, σ => goneAll rs (σ.set r .gone)

theorem leavesM {fn : Func} {tmps : Array Value} {R : Ending → World → Prop} : ∀ (ms : List Nat) (bs : List Nat) (w : World) (M : Map) (σ : Heap), Inv G w M σ → ms.Nodup → (∀ r ∈ ms, σ[r]? = some .dfr) → bs.length = ms.length →
    (∀ (i r b : Nat), ms[i]? = some r → bs[i]? = some b → M r = some (b, 0)) →
    (∀ w', Ext w M w' M → Inv G w' M (goneAll ms σ) → ∃ v, (results fn tmps).run P w' = .ok v w' ∧ R (.returned v) w') → LeavesInM Fence.wide 0 P fn tmps R (bs.map markOf) .returning w
  | [], [], w, M, σ, hi, _, _, _, _, hend => hend w (.refl w M) hi
  | [], b :: bs, w, M, σ, _, _, _, hl, _, _ => by simp at hl
  | r :: ms, [], w, M, σ, _, _, _, hl, _, _ => by simp at hl
  | r :: ms, b :: bs, w, M, σ, hi, hnd, hd, hl, hm, hend => by
    obtain ⟨b', hb', hh⟩ := hi.dfr r (hd r (by simp))
    have hbm : M r = some (b, 0) := hm 0 r b rfl rfl
    rw [hbm] at hb'
    obtain ⟨rfl, _⟩ := Prod.mk.inj (Option.some.inj hb')
    obtain ⟨hn1, hn2⟩ := List.nodup_cons.1 hnd
    have e1 : Ext w M (w.putObj b (.deferred none)) M := .putNo (hi.notFar hbm) hbm hh (fun _ _ _ h => by cases h) (fun _ _ _ h => by cases h)
    have i1 : Inv G (w.putObj b (.deferred none)) M (σ.set r .gone) := hi.putNo hbm hh (fun _ _ _ h => by cases h) (fun _ _ _ h => by cases h) trivial
    refine ⟨by simp, .inl ⟨b, w.putObj b (.deferred none), rfl, run_takeDeferred hh, ?_⟩⟩
    refine leavesM ms bs _ M _ i1 hn2 (fun r' hr' => ?_) (by simpa using hl) (fun i r' b' h1 h2 => hm (i + 1) r' b' (by simpa using h1) (by simpa using h2)) fun w' he' hi' => hend w' (e1.trans he') hi'
    rw [List.getElem?_set_ne (fun e => hn1 (by rw [e]; exact hr'))]
    exact hd r' (by simp [hr'])

/-- A function with ranges over functions, from its body. -/
theorem ACall.of_body_marks {f : FuncId} {fn : Func} {c : Code} {args : List AV} {a' : AAct} {e : Exit} {xs : List AV} {σ' : Heap} (hf : P.funcs[f]? = some fn) (hb : fn.body = some c) (hn : (fn.name == "runtime.NumGoroutine") = false)
    (h : AExec P G (fun r => r = none) c { tmps := args ++ List.replicate (fn.ntmps - args.length) (.tup []) } σ e a' σ') (he : e = .normal ∨ e = .ret) (hnd : a'.marks.Nodup) (hd : ∀ r ∈ a'.marks, σ'[r]? = some .dfr)
    (hres : aResults P (goneAll a'.marks σ') a'.tmps fn.results.toList = some xs) : ACall P G f args σ (asOne xs) (goneAll a'.marks σ') := by
  refine ⟨⟨fn, hf, by rw [hb]; rfl, hn⟩, fun w M vs hi hvs => ?_⟩
  refine callsIn_of_wp_marks hf hb trivial (h none rfl w M _ _ hi ⟨?_, [], rfl, rfl, fun i r b hi => by simp at hi⟩ fun w' M' ac' hext hi' ha' => ?_)
  · rw [hvs.1]
    refine hvs.append ⟨by simp, fun j x hj => ?_⟩
    have hx := List.eq_of_mem_replicate (List.mem_of_getElem? hj)
    have hlt : j < fn.ntmps - args.length := by
      have := (List.getElem?_eq_some_iff.1 hj).1
      simpa using this
    subst hx
    simp only [Array.getD, Array.size_replicate, hlt, dite_true]
    simpa using RV.undef w M
  · obtain ⟨bs, hbs, hl, hmb⟩ := ha'.marks
    have fin : LeavesInM Fence.wide 0 P fn ac'.tmps (fun e w' => ∃ u M', e = .returned u ∧ RV w' M' u (asOne xs) ∧ Ext w M w' M' ∧ Inv G w' M' (goneAll a'.marks σ')) ac'.defers .returning w' := by
      rw [hbs]
      refine leavesM a'.marks bs w' M' σ' hi' hnd hd hl (fun i r b h1 h2 => (hmb i r b h1 h2).1) fun w2 he2 hi2 => ?_
      obtain ⟨v, hv, hrv⟩ := results_ok (P := P) hi2 (ha'.mono he2).tmps hres
      exact ⟨v, hv, v, M', rfl, hrv, hext.trans he2, hi2⟩
    rcases he with rfl | rfl
    · exact fin
    · exact fin
end
end Go.Proofs.Ytngaihdpmoajeaa.Am

namespace Go.Proofs.Ytngaihdpmoajeaa.Am
open Go

/-- Results by what turns out: 'ite': both may be; 'need': only if so; 'fail': nothing is said. -/
inductive Tree (α : Type) where
  | leaf (a : α)
  | ite (b : Bool) (x y : Tree α)
  | need (p : Prop) (x : Tree α)
  | fail

def Tree.bind {α β : Type} : Tree α → (α → Tree β) → Tree β
  | .leaf a, f => f a
  | .ite b x y, f => .ite b (x.bind f) (y.bind f)
  | .need p x, f => .need p (x.bind f)
  | .fail, _ => .fail
open Classical in
noncomputable def Tree.sel {α : Type} : Tree α → Option α
  | .leaf a => some a
  | .ite b x y => bif b then x.sel else y.sel
  | .need p x => if p then x.sel else none
  | .fail => none
theorem Tree.of_need {α : Type} {p : Prop} {x : Tree α} {r : α} (h : (Tree.need p x).sel = some r) : p ∧ x.sel = some r := by
  simp only [Tree.sel] at h
  split at h
  · exact ⟨‹p›, h⟩
  · cases h
theorem Tree.sel_need {α : Type} {p : Prop} {x : Tree α} (h : p) : (Tree.need p x).sel = x.sel := by simp [Tree.sel, h]

theorem Tree.sel_bind {α β : Type} (f : α → Tree β) : ∀ t : Tree α, (t.bind f).sel = t.sel.bind fun a => (f a).sel
  | .leaf a => rfl
  | .ite b x y => by cases b <;> simp [Tree.bind, Tree.sel, sel_bind f x, sel_bind f y]
  | .need p x => by
    by_cases h : p
    · simp [Tree.bind, Tree.sel, sel_bind f x, h]
    · simp [Tree.bind, Tree.sel, h]
  | .fail => rfl
theorem Tree.of_bind {α β : Type} {f : α → Tree β} {t : Tree α} {r : β} (h : (t.bind f).sel = some r) : ∃ a, t.sel = some a ∧ (f a).sel = some r := by
  rw [Tree.sel_bind] at h
  exact Option.bind_eq_some_iff.1 h

/-! ### Operations, their operands looked up in whatever way -/
def evAllR (ρ : Operand → Option AV) : List Operand → Option (List AV)
  | [] => some []
  | x :: r => match ρ x, evAllR ρ r with
    | some y, some ys => some (y :: ys)
    | _, _ => none
def evPartsR (ρ : Operand → Option AV) : List (Nat × Operand) → Option (List (Nat × AV))
  | [] => some []
  | (i, x) :: r => match ρ x, evPartsR ρ r with
    | some y, some ys => some ((i, y) :: ys)
    | _, _ => none
def evOptR (ρ : Operand → Option AV) : Option Operand → Option (Option AV)
  | none => some none
  | some x => (ρ x).map some
def aopR (P : Program) (ρ : Operand → Option AV) (σ : Heap) (o : Oper) : Option (AV × Heap) :=
  match o.op with
  | .move x | .assign x => (ρ x).map (·, σ)
  | .pick c x y =>
    match ρ c with
    | some (.bool b) => (if b then ρ x else ρ y).map (·, σ)
    | _ => none
  | .alloc t => aAlloc P σ t
  | .box _ x => (ρ x).bind (aBox σ)
  | .build t ps => ((evPartsR ρ ps.toList).bind (aBuild P t)).map (·, σ)
  | .buildSlice t n ps => ((evPartsR ρ ps.toList).bind (aLit P t n)).map (·, σ)
  | .load t x => ((ρ x).bind (aLoad P σ t)).map (·, σ)
  | .store t x y =>
    match ρ x, ρ y with
    | some p, some v => (aStore P σ t p v).map ((.tup [], ·))
    | _, _ => none
  | .nilCheck x => ((ρ x).bind aNil).map (·, σ)
  | .binOp op t x y _ =>
    match ρ x, ρ y with
    | some p, some q => (aBin P op t p q).map (·, σ)
    | _, _ => none
  | .unOp op _ x => ((ρ x).bind (aUn op)).map (·, σ)
  | .convert s d x => ((ρ x).bind (aConv P s d)).map (·, σ)
  | .makeFunc (.func f) first caps =>
    match evAllR ρ first.toList, evAllR ρ caps.toList with
    | some xs, some ys => some (.fn f xs ys, σ)
    | _, _ => none
  | .makeSlice t l c =>
    match ρ l, ρ c with
    | some x, some y => aMake P σ t x y
    | _, _ => none
  | .slice t x lo hi mx =>
    match ρ x, evOptR ρ lo, evOptR ρ hi, evOptR ρ mx with
    | some v, some l, some h, some m => (aSlice P σ t v l h m).map (·, σ)
    | _, _, _, _ => none
  | .fieldAddr t x k => ((ρ x).bind (aField P t · k)).map (·, σ)
  | .indexAddr t x i =>
    match ρ x, ρ i with
    | some v, some n => (aIndex P σ t v n).map (·, σ)
    | _, _ => none
  | .extract x k => ((ρ x).bind (aExtract · k)).map (·, σ)
  | .field t x k => ((ρ x).bind (aFld P t · k)).map (·, σ)
  | .call { callee := .builtin b, args := args, argTypes := ts } => (evAllR ρ args.toList).bind (aBuiltin P σ b ts.toList)
  | _ => none

theorem evAllR_eq (G : Nat → Option (List AV)) (a : List AV) : ∀ l, evAll G a l = evAllR (ev G a) l
  | [] => rfl
  | x :: r => by simp only [evAll, evAllR, evAllR_eq G a r]; rfl
theorem evPartsR_eq (G : Nat → Option (List AV)) (a : List AV) : ∀ l, evParts G a l = evPartsR (ev G a) l
  | [] => rfl
  | (i, x) :: r => by simp only [evParts, evPartsR, evPartsR_eq G a r]; rfl
theorem evOptR_eq (G : Nat → Option (List AV)) (a : List AV) (x : Option Operand) : evOpt G a x = evOptR (ev G a) x := by cases x <;> rfl
theorem aopR_eq (P : Program) (G : Nat → Option (List AV)) (a : List AV) (σ : Heap) (o : Oper) : aop P G a σ o = aopR P (ev G a) σ o := by
  unfold aop aopR
  simp only [evAllR_eq, evPartsR_eq, evOptR_eq]
  rfl

/-! ### Frames as trees -/
/-- The values of a frame, and whether each is to be thought of as unknown. -/
inductive PT where
  | nil
  | node (x : AV) (s : Bool) (l r : PT)
def PT.get : PT → Nat → AV × Bool
  | .nil, _ => (.junk, false)
  | .node x s l r, n => bif Nat.beq n 0 then (x, s) else bif Nat.beq (n % 2) 0 then r.get ((n - 1) / 2) else l.get ((n - 1) / 2)
def PT.setF : Nat → PT → Nat → AV → Bool → PT
  | 0, t, _, _, _ => t
  | f + 1, .nil, n, y, s => bif Nat.beq n 0 then .node y s .nil .nil else bif Nat.beq (n % 2) 0 then .node .junk false .nil (PT.setF f .nil ((n - 1) / 2) y s) else .node .junk false (PT.setF f .nil ((n - 1) / 2) y s) .nil
  | f + 1, .node x z l r, n, y, s => bif Nat.beq n 0 then .node y s l r else bif Nat.beq (n % 2) 0 then .node x z l (PT.setF f r ((n - 1) / 2) y s) else .node x z (PT.setF f l ((n - 1) / 2) y s) r
def PT.set (t : PT) (n : Nat) (y : AV) (s : Bool) : PT := PT.setF (n + 1) t n y s

theorem beq_zero (n : Nat) : Nat.beq n 0 = decide (n = 0) := by cases n <;> rfl
theorem PT.get_nil (m : Nat) : PT.get .nil m = (.junk, false) := by cases m <;> rfl
theorem PT.get_setF : ∀ (f : Nat) (t : PT) (n m : Nat) (y : AV) (s : Bool), n < f → (PT.setF f t n y s).get m = if m = n then (y, s) else t.get m
  | 0, _, _, _, _, _, h => by omega
  | f + 1, .nil, n, m, y, s, h => by
    simp only [PT.setF, beq_zero]
    by_cases hn : n = 0
    · subst hn
      simp only [decide_true, cond_true, PT.get, beq_zero]
      by_cases hm : m = 0
      · subst hm; rfl
      · simp only [hm, decide_false, cond_false, if_false, Bool.cond_self]
    · simp only [hn, decide_false, cond_false]
      by_cases h2 : n % 2 = 0
      · simp only [h2, decide_true, cond_true, PT.get, beq_zero]
        by_cases hm : m = 0
        · subst hm; simp [Ne.symm hn]
        · simp only [hm, decide_false, cond_false]
          by_cases hm2 : m % 2 = 0
          · simp only [hm2, decide_true, cond_true]
            rw [PT.get_setF f _ _ _ _ _ (by omega)]
            have : ((m - 1) / 2 = (n - 1) / 2) ↔ m = n := by omega
            simp only [this]
            simp [PT.get_nil]
          · simp only [hm2, decide_false, cond_false]
            rw [if_neg (by omega)]
      · simp only [h2, decide_false, cond_false, PT.get, beq_zero]
        by_cases hm : m = 0
        · subst hm; simp [Ne.symm hn]
        · simp only [hm, decide_false, cond_false]
          by_cases hm2 : m % 2 = 0
          · simp only [hm2, decide_true, cond_true]
            rw [if_neg (by omega)]
          · simp only [hm2, decide_false, cond_false]
            rw [PT.get_setF f _ _ _ _ _ (by omega)]
            have : ((m - 1) / 2 = (n - 1) / 2) ↔ m = n := by omega
            simp only [this]
            simp [PT.get_nil]
  | f + 1, .node x z l r, n, m, y, s, h => by
    simp only [PT.setF, beq_zero]
    by_cases hn : n = 0
    · subst hn
      simp only [decide_true, cond_true, PT.get, beq_zero]
      by_cases hm : m = 0
      · subst hm; rfl
      · simp only [hm, decide_false, cond_false, if_false]
    · simp only [hn, decide_false, cond_false]
      by_cases h2 : n % 2 = 0
      · simp only [h2, decide_true, cond_true, PT.get, beq_zero]
        by_cases hm : m = 0
        · subst hm; simp [Ne.symm hn]
        · simp only [hm, decide_false, cond_false]
          by_cases hm2 : m % 2 = 0
          · simp only [hm2, decide_true, cond_true]
            rw [PT.get_setF f _ _ _ _ _ (by omega)]
            have : ((m - 1) / 2 = (n - 1) / 2) ↔ m = n := by omega
            simp only [this]
          · simp only [hm2, decide_false, cond_false]
            rw [if_neg (by omega)]
      · simp only [h2, decide_false, cond_false, PT.get, beq_zero]
        by_cases hm : m = 0
        · subst hm; simp [Ne.symm hn]
        · simp only [hm, decide_false, cond_false]
          by_cases hm2 : m % 2 = 0
          · simp only [hm2, decide_true, cond_true]
            rw [if_neg (by omega)]
          · simp only [hm2, decide_false, cond_false]
            rw [PT.get_setF f _ _ _ _ _ (by omega)]
            have : ((m - 1) / 2 = (n - 1) / 2) ↔ m = n := by omega
            simp only [this]
theorem PT.get_set (t : PT) (n m : Nat) (y : AV) (s : Bool) : (t.set n y s).get m = if m = n then (y, s) else t.get m := PT.get_setF _ t n m y s (Nat.lt_succ_self n)

/-- A frame, how many temporaries it has, the heap. -/
structure St where
  t : PT
  n : Nat
  h : Heap
def St.a (st : St) : List AV := (List.range st.n).map fun i => (st.t.get i).1
def St.sym (st : St) (i : Nat) : Bool := (st.t.get i).2
def St.at (st : St) (i : Nat) : Option AV := bif Nat.blt i st.n then some (st.t.get i).1 else none
theorem St.at_eq (st : St) (i : Nat) : st.a[i]? = st.at i := by
  unfold St.a St.at
  simp only [List.getElem?_map]
  by_cases h : i < st.n
  · have h2 : Nat.blt i st.n = true := by simpa using h
    simp [h, h2]
  · have h2 : Nat.blt i st.n = false := by rw [← Bool.not_eq_true]; simpa using h
    simp [h, h2]

def St.put (st : St) (dst : Option Tmp) (y : AV) (s : Bool) (h : Heap) : St :=
  match dst with
  | some d => { t := st.t.set d y s, n := st.n, h := h }
  | none => { t := st.t, n := st.n, h := h }
theorem St.put_a (st : St) (dst : Option Tmp) (y : AV) (s : Bool) (h : Heap) (m : List Nat) : AAct.put { tmps := st.a, marks := m } dst y = { tmps := (st.put dst y s h).a, marks := m } := by
  cases dst with
  | none => rfl
  | some d =>
    simp only [AAct.put, St.put, St.a]
    congr 1
    apply List.ext_getElem?
    intro i
    simp only [List.getElem?_set, List.length_map, List.length_range, List.getElem?_map, PT.get_set]
    by_cases h1 : d = i
    · subst h1
      by_cases h2 : d < st.n
      · simp [h2]
      · simp [h2]
    · have h3 : ¬ i = d := fun e => h1 e.symm
      by_cases h2 : i < st.n
      · simp [h1, h2, h3]
      · simp [h1, h2]
theorem St.put_h (st : St) (dst : Option Tmp) (y : AV) (s : Bool) (h : Heap) : (st.put dst y s h).h = h := by cases dst <;> rfl
theorem St.put_n (st : St) (dst : Option Tmp) (y : AV) (s : Bool) (h : Heap) : (st.put dst y s h).n = st.n := by cases dst <;> rfl

/-- What is known from elsewhere. -/
structure Env where
  closed : Bool := false
  boxRow : Bool := true
  wild : Bool := false
  cl : FuncId → List AV → Option (Tree AV) := fun _ _ => none
  clh : FuncId → List AV → Heap → Option (Tree (AV × Heap)) := fun _ _ _ => none
  cy : Nat → List AV → Heap → Option (Tree (AV × Heap)) := fun _ _ _ => none
  hint : Heap → Oper → (Operand → Option AV) → Option (AV × Bool × Heap × Prop) := fun _ _ _ => none
/-- What is known, as far as it leaves the heap alone. -/
def Env.still (E : Env) : Env := { E with clh := fun _ _ _ => none, cy := fun _ _ _ => none }

def symOf (st : St) : Operand → Bool
  | .tmp t => st.sym t
  | _ => false
/-- An operand's value. -/
def St.ev (G : Nat → Option (List AV)) (st : St) : Operand → Option AV
  | .tmp t => st.at t
  | .const v => AV.ofValue v
  | .global g => (G g).map (AV.row · 0)
  | .func f => some (.fn f [] [])
theorem St.ev_eq (G : Nat → Option (List AV)) (st : St) : Am.ev G st.a = st.ev G := by
  funext x
  cases x with
  | tmp t => exact st.at_eq t
  | const v => rfl
  | global g => rfl
  | func f => rfl
/-- The same, of some temporaries alone. -/
def St.evM (G : Nat → Option (List AV)) (st : St) (L : List Tmp) : Operand → Option AV
  | .tmp t => match st.at t with
    | some x => some (bif L.contains t then x else .junk)
    | none => none
  | .const v => AV.ofValue v
  | .global g => (G g).map (AV.row · 0)
  | .func f => some (.fn f [] [])
theorem masked_get (L : List Tmp) (a : List AV) (t : Nat) : (masked L a)[t]? = (a[t]?).map fun x => if L.contains t then x else .junk := by
  simp [masked, List.getElem?_mapIdx]
theorem St.evM_eq (G : Nat → Option (List AV)) (st : St) (L : List Tmp) : Am.ev G (masked L st.a) = st.evM G L := by
  funext x
  cases x with
  | tmp t =>
    simp only [Am.ev, St.evM, masked_get, St.at_eq]
    cases st.at t with
    | none => rfl
    | some y => cases L.contains t <;> rfl
  | const v => rfl
  | global g => rfl
  | func f => rfl

def tagOf (E : Env) (ρ : Operand → Option AV) (st : St) (o : Oper) : Bool :=
  match E.closed with
  | true => false
  | false =>
    match o.op with
    | .load _ x => (match ρ x with
      | some (.ref _ _ _) => true
      | _ => symOf st x)
    | .call { callee := .builtin .len, args := args, .. } => (match evAllR ρ args.toList with
      | some [.sl _ _] => false
      | some [.zs] => false
      | _ => args.toList.any (symOf st))
    | _ => o.op.operands.toList.any (symOf st)

section
variable (P : Program) (G : Nat → Option (List AV)) (E : Env)
abbrev CallT := FuncId → List AV → List Bool → Heap → Tree (AV × Bool × Heap)

def xplain (ρ : Operand → Option AV) (st : St) (o : Oper) : Tree (AV × Bool × Heap) :=
  match aopR P ρ st.h o with
  | some (y, h) => .leaf (y, tagOf E ρ st o, h)
  | none => .fail

def xindex (ρ : Operand → Option AV) (st : St) (o : Oper) (t : TypeId) (p q : Option AV) : Tree (AV × Bool × Heap) :=
  match tagOf E ρ st o with
  | false => xplain P E ρ st o
  | true =>
    match p, q with
    | some (.fl size n rows), some (.int _ k) =>
      match P.underlying t with
      | some (.slice e) =>
        match P.info? e with
        | some ti => if ti.size = size then .need (0 ≤ k ∧ k < n) (.leaf (.row (rows k.toNat) 0, true, st.h)) else .fail
        | none => .fail
      | _ => .fail
    | some (.ms size r g off len _), some (.int _ k) =>
      match P.underlying t with
      | some (.slice e) =>
        match P.info? e with
        | some ti => if ti.size = size then .need (0 ≤ k ∧ k < len ∧ (objAt st.h r g).isSome = true) (.leaf (.ref r g (off + k.toNat * size), true, st.h)) else .fail
        | none => .fail
      | _ => .fail
    | _, _ => xplain P E ρ st o

def xcall (call : CallT) (ρ : Operand → Option AV) (st : St) (c : Call) (f : Operand) : Tree (AV × Bool × Heap) :=
  match ρ f, evAllR ρ c.args.toList with
  | some (.fn g first caps), some xs =>
    match E.cl g (first ++ xs ++ caps) with
    | some t => t.bind fun v => .leaf (v, !E.closed, st.h)
    | none =>
      match E.clh g (first ++ xs ++ caps) st.h with
      | some t => t.bind fun v => .leaf (v.1, !E.closed, v.2)
      | none => call g (first ++ xs ++ caps) (List.replicate first.length (symOf st f) ++ c.args.toList.map (symOf st) ++ List.replicate caps.length (symOf st f)) st.h
  | some (.yf l), some xs =>
    match E.cy l xs st.h with
    | some t => t.bind fun v => .leaf (v.1, !E.closed, v.2)
    | none => .fail
  | _, _ => .fail

def xappend (ρ : Operand → Option AV) (st : St) (o : Oper) (c : Call) : Tree (AV × Bool × Heap) :=
  match tagOf E ρ st o with
  | false => xplain P E ρ st o
  | true =>
    match evAllR ρ c.args.toList, c.argTypes.toList with
    | some [s, x], [t, t2] => .need ((aAppend P st.h t t2 s x).isSome = true) (.leaf (((aAppend P st.h t t2 s x).getD (.junk, [])).1, true, ((aAppend P st.h t t2 s x).getD (.junk, [])).2))
    | _, _ => xplain P E ρ st o

def intOf : AV → Int
  | .int _ n => n
  | _ => 0
/-- A load of an integer from an own object at an unknown place. -/
def xload (ρ : Operand → Option AV) (st : St) (o : Oper) (t : TypeId) (p : Option AV) : Tree (AV × Bool × Heap) :=
  match E.wild with
  | false => xplain P E ρ st o
  | true =>
    match p, P.underlying t with
    | some (.ref r g off), some (.int k) => .need (∃ n, aLoad P st.h t (.ref r g off) = some (.int k n)) (.leaf (.int k (intOf ((aLoad P st.h t (.ref r g off)).getD .junk)), true, st.h))
    | _, _ => xplain P E ρ st o
/-- A store into an own object at an unknown place. -/
def xstore (ρ : Operand → Option AV) (st : St) (o : Oper) (t : TypeId) (p q : Option AV) : Tree (AV × Bool × Heap) :=
  match E.wild with
  | false => xplain P E ρ st o
  | true =>
    match p, q with
    | some x, some y => .need ((aStore P st.h t x y).isSome = true) (.leaf (.tup [], false, (aStore P st.h t x y).getD []))
    | _, _ => xplain P E ρ st o

/-- An operation whose outcome is told beforehand. -/
def xhint (ρ : Operand → Option AV) (st : St) (o : Oper) (k : Tree (AV × Bool × Heap)) : Tree (AV × Bool × Heap) :=
  match E.hint st.h o ρ with
  | some (y, s, h, p) => .need p (.leaf (y, s, h))
  | none => k
def xstep (call : CallT) (ρ : Operand → Option AV) (st : St) (o : Oper) : Tree (AV × Bool × Heap) :=
  match o.op with
  | .box _ x =>
    match E.boxRow with
    | true =>
      match ρ x with
      | some v =>
        match v.cells.all AV.one with
        | true => .leaf (.row v.cells 0, symOf st x, st.h)
        | false => .fail
      | none => .fail
    | false => xhint E ρ st o (xplain P E ρ st o)
  | _ => xhint E ρ st o (match o.op with
  | .call c =>
    match c.callee with
    | .value f => xcall E call ρ st c f
    | .builtin .append => xappend P E ρ st o c
    | _ => xplain P E ρ st o
  | .indexAddr t x i => xindex P E ρ st o t (ρ x) (ρ i)
  | .load t x => xload P E ρ st o t (ρ x)
  | .store t x y => xstore P E ρ st o t (ρ x) (ρ y)
  | _ => xplain P E ρ st o)

def xguard (ops : Array Oper) (st : St) (o : Oper) (k : Bool → St → Tree St) : Tree St :=
  match o.guard with
  | none => k true st
  | some (j, want) =>
    match (ops[j]?).bind (·.dst) with
    | none => .fail
    | some d =>
      match st.at d with
      | some (.bool b) =>
        match st.sym d with
        | true => .ite b (k want (st.put (some d) (.bool true) false st.h)) (k (!want) (st.put (some d) (.bool false) false st.h))
        | false => match b with
          | true => k want st
          | false => k (!want) st
      | some (.tup _) => k false st
      | _ => .fail

def xOps (call : CallT) (ops : Array Oper) : List Oper → St → Tree St
  | [], st => .leaf st
  | o :: r, st => xguard ops st o fun b st' =>
    match b with
    | true => (xstep P E call (st'.ev G) st' o).bind fun q => xOps call ops r (st'.put o.dst q.1 q.2.1 q.2.2)
    | false => xOps call ops r (st'.put o.dst (.tup []) false st'.h)

/-- Operations that leave the heap alone. -/
def quiet (o : Oper) : Bool :=
  match o.op with
  | .move _ | .assign _ | .pick _ _ _ | .build _ _ | .buildSlice _ _ _ | .load _ _ | .nilCheck _ | .binOp _ _ _ _ _ | .unOp _ _ _ | .convert _ _ _ | .makeFunc (.func _) _ _ | .slice _ _ _ _ _ | .fieldAddr _ _ _ | .indexAddr _ _ _ | .extract _ _ | .field _ _ _ => true
  | .call { callee := .builtin .len, .. } | .call { callee := .builtin .min, .. } | .call { callee := .builtin .max, .. } => true
  | .call { callee := .value _, .. } => true
  | _ => false
def quietE (o : Oper) : Bool :=
  match o.op with
  | .box _ _ => E.boxRow
  | _ => quiet o

/-- The walk of a still piece. -/
def xStill (ops : Array Oper) : List Oper → St → Tree St
  | [], st => .leaf st
  | o :: r, st => xguard ops st o fun b st' =>
    match b with
    | true =>
      match quietE E o with
      | true => (xstep P E.still (fun _ _ _ _ => .fail) (st'.evM G (o.looksAt ops)) st' o).bind fun q => xStill ops r (st'.put o.dst q.1 q.2.1 st'.h)
      | false => .fail
    | false => xStill ops r (st'.put o.dst (.tup []) false st'.h)

/-- The pieces of a statement that leaves its order open: where each ends. -/
def xStages (call : CallT) (ops : Array Oper) : List Nat → Nat → St → Tree St
  | [], b, st => match Nat.ble ops.size b with
    | true => .leaf st
    | false => .fail
  | c :: r, b, st =>
    match okFence ops.toList c with
    | true =>
      match Nat.beq c (b + 1) with
      | true =>
        match ops[b]? with
        | some o => (xOps P G E call ops [o] st).bind fun st' => xStages call ops r c st'
        | none => .fail
      | false =>
        match Nat.ble b c && Nat.ble c ops.size && okStill ops.toList b (c - b) with
        | true => (xStill P G E ops ((ops.toList.drop b).take (c - b)) st).bind fun st' => xStages call ops r c st'
        | false => .fail
    | false => .fail
def cutsOf (ops : List Oper) : List Nat := (List.range (ops.length + 1)).filter fun b => !Nat.beq b 0 && okFence ops b
/-- A statement that leaves its order open. -/
def xDraw (call : CallT) (ops : Array Oper) (st : St) : Tree St :=
  match okDraw ops.toList with
  | true => xStages P G E call ops (cutsOf ops.toList) 0 st
  | false => .fail

/-- A loop is known by the first statement of its body. -/
def idOf : Code → Nat
  | .block id _ => id
  | .region id _ _ => id
  | .seq x _ => idOf x
  | _ => 0

def PT.ofArgs : Nat → List AV → List Bool → PT → PT
  | _, [], _, t => t
  | i, x :: r, s, t => PT.ofArgs (i + 1) r s.tail (t.set i x (s.headD false))

/-- A function, entered. -/
def xenter (run : Code → St → Tree (Exit × St)) : CallT := fun f xs tags h =>
  match P.funcs[f]? with
  | some fn =>
    match fn.body with
    | some c => (run c { t := PT.ofArgs 0 xs tags .nil, n := xs.length + (fn.ntmps - xs.length), h := h }).bind fun r =>
      match r.1 with
      | .normal | .ret =>
        match aResults P r.2.h r.2.a fn.results.toList with
        | some ys => .leaf (asOne ys, (match E.closed with | true => false | false => fn.results.toList.any fun q => match q with | .tmp t => r.2.sym t | .cell _ _ => true), r.2.h)
        | none => .fail
      | _ => .fail
    | none => .fail
  | none => .fail

def xLoop (run : St → Tree (Exit × St)) : Nat → St → Tree (Exit × St)
  | 0, _ => .fail
  | k + 1, st => (run st).bind fun r =>
    match r.1 with
    | .normal => xLoop run k r.2
    | e => .leaf (e, r.2)

/-- The frame, some temporaries alone. -/
def St.only (keep : List Nat) (st : St) : St := { t := keep.foldl (fun t k => t.set k (st.t.get k).1 (st.t.get k).2) .nil, n := st.n, h := st.h }
/-- What a state says, whatever is thought of as unknown. -/
def St.vals (st : St) : List AV × Nat × Heap := (st.a, st.n, st.h)
/-- What is known of loops: what they keep of the frame, the state at their head, how they end. -/
abbrev Loops := Nat → Option (List Nat × St × Tree (Exit × St))
/-- Code. n: how deep and how often. lp: what is known of the loops. -/
def xCode : Nat → Loops → Code → St → Tree (Exit × St)
  | 0 => fun _ _ _ => .fail
  | n + 1 => fun lp c st =>
    match c with
    | .skip => .leaf (.normal, st)
    | .ret => .leaf (.ret, st)
    | .exit id => .leaf (.exit id, st)
    | .region _ ops draws =>
      (match draws with
      | true => xDraw P G E (xenter P E (xCode n fun _ => none)) ops st
      | false => xOps P G E (xenter P E (xCode n fun _ => none)) ops ops.toList st).bind fun st' => .leaf (.normal, st')
    | .seq x y => (xCode n lp x st).bind fun r =>
      match r.1 with
      | .normal => xCode n lp y r.2
      | e => .leaf (e, r.2)
    | .cond q x y =>
      match st.ev G q with
      | some (.bool b) =>
        match symOf st q with
        | true => .ite b (xCode n lp x st) (xCode n lp y st)
        | false => match b with
          | true => xCode n lp x st
          | false => xCode n lp y st
      | _ => .fail
    | .block id x => (xCode n lp x st).bind fun r => .leaf (outOf id r.1, r.2)
    | .loop x =>
      match lp (idOf x) with
      | some (keep, s0, t) => .need ((st.only keep).vals = s0.vals) t
      | none => xLoop (xCode n lp x) n st
    | _ => .fail
def xCall (n : Nat) : CallT := xenter P E (xCode P G E n fun _ => none)
end
end Go.Proofs.Ytngaihdpmoajeaa.Am

namespace Go.Proofs.Ytngaihdpmoajeaa.Am
open Go
section
variable {P : Program} {G : Nat → Option (List AV)} {E : Env}

/-- What is said to be known of functions is so. -/
structure ClOk (P : Program) (G : Nat → Option (List AV)) (E : Env) : Prop where
  cl : ∀ f xs t v, E.cl f xs = some t → t.sel = some v → ∀ σ, ACall P G f xs σ v σ
  clh : ∀ f xs σ t v σ', E.clh f xs σ = some t → t.sel = some (v, σ') → ACall P G f xs σ v σ'
  cy : ∀ l xs σ t v σ', E.cy l xs σ = some t → t.sel = some (v, σ') → AYield P G l xs σ v σ'
  hint : ∀ h o a m y s h' p, E.hint h o (ev G a) = some (y, s, h', p) → p → AStep P G { tmps := a, marks := m } h o y h'
  hintq : ∀ h o ρ y s h' p, E.hint h o ρ = some (y, s, h', p) → p → quiet o = true → h' = h
/-- Outcomes told beforehand are so: by the table of operations. -/
def HintA (P : Program) (a : Heap → Oper → (Operand → Option AV) → Option (AV × Bool × Heap × Prop)) : Prop := ∀ h o ρ y s h' p, a h o ρ = some (y, s, h', p) → p → aopR P ρ h o = some (y, h')
/-- Outcomes told beforehand are so. -/
structure HintOk (P : Program) (G : Nat → Option (List AV)) (t : Heap → Oper → (Operand → Option AV) → Option (AV × Bool × Heap × Prop)) : Prop where
  step : ∀ h o a m y s h' p, t h o (ev G a) = some (y, s, h', p) → p → AStep P G { tmps := a, marks := m } h o y h'
  quiet : ∀ h o ρ y s h' p, t h o ρ = some (y, s, h', p) → p → quiet o = true → h' = h
theorem HintOk.none : HintOk P G fun _ _ _ => none := ⟨fun _ _ _ _ _ _ _ _ h => (by cases h), fun _ _ _ _ _ _ _ h => (by cases h)⟩
/-- Contracts alone. -/
theorem ClOk.of (h2 : E.clh = fun _ _ _ => none) (h3 : E.cy = fun _ _ _ => none) (h : ∀ f xs t v, E.cl f xs = some t → t.sel = some v → ∀ σ, ACall P G f xs σ v σ) (h4 : E.hint = fun _ _ _ => none := by rfl) : ClOk P G E :=
  ⟨h, fun f xs σ t v σ' h' => (by rw [h2] at h'; cases h'), fun l xs σ t v σ' h' => (by rw [h3] at h'; cases h'), fun h o a m y s h' p hh => (by rw [h4] at hh; cases hh), fun h o ρ y s h' p hh => (by rw [h4] at hh; cases hh)⟩
/-- Contracts, and outcomes told beforehand. -/
theorem ClOk.ofH (h2 : E.clh = fun _ _ _ => none) (h3 : E.cy = fun _ _ _ => none) (h4 : HintOk P G E.hint) (h : ∀ f xs t v, E.cl f xs = some t → t.sel = some v → ∀ σ, ACall P G f xs σ v σ) : ClOk P G E :=
  ⟨h, fun f xs σ t v σ' h' => (by rw [h2] at h'; cases h'), fun l xs σ t v σ' h' => (by rw [h3] at h'; cases h'), h4.step, h4.quiet⟩
/-- All of it. -/
theorem ClOk.all (h4 : HintOk P G E.hint) (h2 : ∀ f xs σ t v σ', E.clh f xs σ = some t → t.sel = some (v, σ') → ACall P G f xs σ v σ') (h3 : ∀ l xs σ t v σ', E.cy l xs σ = some t → t.sel = some (v, σ') → AYield P G l xs σ v σ')
    (h : ∀ f xs t v, E.cl f xs = some t → t.sel = some v → ∀ σ, ACall P G f xs σ v σ) : ClOk P G E := ⟨h, h2, h3, h4.step, h4.quiet⟩
theorem ClOk.still (h : ClOk P G E) : ClOk P G E.still := ⟨h.cl, fun _ _ _ _ _ _ h' => (by cases h'), fun _ _ _ _ _ _ h' => (by cases h'), h.hint, h.hintq⟩
def CallOk (P : Program) (G : Nat → Option (List AV)) (call : CallT) : Prop := ∀ f xs tags h v s h', (call f xs tags h).sel = some (v, s, h') → ACall P G f xs h v h'

theorem xplain_ok {a : List AV} {m : List Nat} {st : St} {o : Oper} {y : AV} {s : Bool} {h' : Heap} (h : (xplain P E (ev G a) st o).sel = some (y, s, h')) : AStep P G { tmps := a, marks := m } st.h o y h' := by
  unfold xplain at h
  split at h
  · rename_i y' h'' he
    cases h
    exact .op (by rw [aopR_eq]; exact he)
  · cases h

theorem xindex_ok {a : List AV} {m : List Nat} {st : St} {o : Oper} {t : TypeId} {x i : Operand} (ho : o.op = .indexAddr t x i) {y : AV} {s : Bool} {h' : Heap}
    (h : (xindex P E (ev G a) st o t (ev G a x) (ev G a i)).sel = some (y, s, h')) : AStep P G { tmps := a, marks := m } st.h o y h' := by
  unfold xindex at h
  split at h
  · exact xplain_ok h
  · split at h
    · rename_i size n rows k j hx hi
      split at h
      · rename_i e hu
        split at h
        · rename_i ti hti
          split at h
          · rename_i hs
            obtain ⟨hb, h⟩ := Tree.of_need h
            cases h
            refine .op ?_
            unfold aop
            simp only [ho, hx, hi, aIndex, hu, hti, hs, hb.1, hb.2, and_self, if_true, Option.map_some]
          · cases h
        · cases h
      · cases h
    · rename_i size r g off len cap k j hx hi
      split at h
      · rename_i e hu
        split at h
        · rename_i ti hti
          split at h
          · rename_i hs
            obtain ⟨hb, h⟩ := Tree.of_need h
            cases h
            refine .op ?_
            unfold aop
            simp only [ho, hx, hi, aIndex, hu, hti, hs, hb.1, hb.2.1, hb.2.2, and_self, if_true, Option.map_some]
          · cases h
        · cases h
      · cases h
    · exact xplain_ok h

theorem xload_ok {a : List AV} {m : List Nat} {st : St} {o : Oper} {t : TypeId} {x : Operand} (ho : o.op = .load t x) {y : AV} {s : Bool} {h' : Heap}
    (h : (xload P E (ev G a) st o t (ev G a x)).sel = some (y, s, h')) : AStep P G { tmps := a, marks := m } st.h o y h' ∧ (h' = st.h ∨ (xplain P E (ev G a) st o).sel = some (y, s, h')) := by
  unfold xload at h
  split at h
  · exact ⟨xplain_ok h, .inr h⟩
  · split at h
    · rename_i r g off k hx hu
      obtain ⟨⟨n, hb⟩, h⟩ := Tree.of_need h
      cases h
      refine ⟨.op ?_, .inl rfl⟩
      unfold aop
      simp only [ho, hx, Option.bind_some, hb, Option.map_some, Option.getD_some, intOf]
    · exact ⟨xplain_ok h, .inr h⟩
theorem xstore_ok {a : List AV} {m : List Nat} {st : St} {o : Oper} {t : TypeId} {x z : Operand} (ho : o.op = .store t x z) {y : AV} {s : Bool} {h' : Heap}
    (h : (xstore P E (ev G a) st o t (ev G a x) (ev G a z)).sel = some (y, s, h')) : AStep P G { tmps := a, marks := m } st.h o y h' := by
  unfold xstore at h
  split at h
  · exact xplain_ok h
  · split at h
    · rename_i p q hx hz
      obtain ⟨hb, h⟩ := Tree.of_need h
      cases h
      refine .op ?_
      unfold aop
      simp only [ho, hx, hz]
      obtain ⟨r, hr⟩ := Option.isSome_iff_exists.1 hb
      rw [hr]; rfl
    · exact xplain_ok h

theorem xcall_ok {call : CallT} (hcl : ClOk P G E) (hcall : CallOk P G call) {a : List AV} {m : List Nat} {st : St} {o : Oper} {c : Call} {f : Operand} (ho : o.op = .call c) (hc : c.callee = .value f) {y : AV} {s : Bool} {h' : Heap}
    (h : (xcall E call (ev G a) st c f).sel = some (y, s, h')) : AStep P G { tmps := a, marks := m } st.h o y h' := by
  unfold xcall at h
  split at h
  · rename_i g first caps xs hf hx
    rw [← evAllR_eq] at hx
    split at h
    · rename_i t ht
      obtain ⟨v, hv, hr⟩ := Tree.of_bind h
      cases hr
      exact .call ho hc hf hx (hcl.cl _ _ _ _ ht hv _)
    · split at h
      · rename_i t ht
        obtain ⟨⟨v, σ'⟩, hv, hr⟩ := Tree.of_bind h
        cases hr
        exact .call ho hc hf hx (hcl.clh _ _ _ _ _ _ ht hv)
      · exact .call ho hc hf hx (hcall _ _ _ _ _ _ _ h)
  · rename_i l xs hf hx
    rw [← evAllR_eq] at hx
    split at h
    · rename_i t ht
      obtain ⟨⟨v, σ'⟩, hv, hr⟩ := Tree.of_bind h
      cases hr
      exact .yield ho hc hf hx (hcl.cy _ _ _ _ _ _ ht hv)
    · cases h
  · cases h

theorem xhint_ok (hcl : ClOk P G E) {a : List AV} {m : List Nat} {st : St} {o : Oper} {y : AV} {s : Bool} {h' : Heap} {k : Tree (AV × Bool × Heap)} (hk : k.sel = some (y, s, h') → AStep P G { tmps := a, marks := m } st.h o y h')
    (h : (xhint E (ev G a) st o k).sel = some (y, s, h')) : AStep P G { tmps := a, marks := m } st.h o y h' := by
  unfold xhint at h
  split at h
  · rename_i hh
    obtain ⟨hb, h⟩ := Tree.of_need h
    cases h
    exact hcl.hint _ _ _ _ _ _ _ _ hh hb
  · exact hk h

theorem xappend_ok {a : List AV} {m : List Nat} {st : St} {o : Oper} {c : Call} (ho : o.op = .call c) (hc : c.callee = .builtin .append) {y : AV} {s : Bool} {h' : Heap}
    (h : (xappend P E (ev G a) st o c).sel = some (y, s, h')) : AStep P G { tmps := a, marks := m } st.h o y h' := by
  unfold xappend at h
  split at h
  · exact xplain_ok h
  · split at h
    · rename_i s0 x t t2 hx ht
      obtain ⟨hb, h⟩ := Tree.of_need h
      cases h
      refine .op ?_
      rw [← evAllR_eq] at hx
      obtain ⟨callee, args, ts⟩ := c
      simp only at hc hx ht
      subst hc
      unfold aop
      simp only [ho, hx, Option.bind_some, ht, aBuiltin]
      obtain ⟨r, hr⟩ := Option.isSome_iff_exists.1 hb
      rw [hr]
      rfl
    · exact xplain_ok h

/-- A variable laid as a row that nobody writes. -/
theorem AStep.boxRow {a : AAct} {σ : Heap} {o : Oper} {t : TypeId} {x : Operand} {v : AV} (ho : o.op = .box t x) (hx : ev G a.tmps x = some v) (hc : v.cells.all AV.one = true) : AStep P G a σ o (.row v.cells 0) σ := by
  intro r0 w M ac K Q hi ha hK
  refine ⟨fun f _ => FW_fn r0 f, ?_⟩
  have hnd : ∀ c, o.op ≠ .defer c := fun c' h => by rw [ho] at h; cases h
  rw [Oper.semAt_eq _ _ _ hnd]
  have hv := ev_ok hi ha.tmps hx
  obtain ⟨⟨h1, h2⟩, h3⟩ := hv.cells hc
  have hrun : (execOp ac.eval o).run P w = .ok (.value (.pointer (some ⟨w.heap.size, 0, none⟩))) (w.alloc (.cells (ac.eval x).cells t)) := by
    unfold execOp
    simp only [ho, Sem.run_bind, Instr.box, newVar, newRow, Sem.run_pure]
    rfl
  rw [hrun]
  refine hK _ _ M ?_ (.alloc w M _) (hi.alloc _)
  exact RV.row w.heap.size 0 0 (fun j => (ac.eval x).cells.getD j undef) v.cells (Imm.alloc_new hi _) (fun j hj => by
      rw [Nat.zero_add]
      exact cell_of_cells (alloc_new w _) (by omega))
    (fun j y hj => (h2 j y hj).mono (.alloc w M _))

theorem xstep_ok {call : CallT} (hcl : ClOk P G E) (hcall : CallOk P G call) {a : List AV} {m : List Nat} {st : St} {o : Oper} {y : AV} {s : Bool} {h' : Heap}
    (h : (xstep P E call (ev G a) st o).sel = some (y, s, h')) : AStep P G { tmps := a, marks := m } st.h o y h' := by
  unfold xstep at h
  split at h
  · rename_i t x ho
    split at h
    · split at h
      · rename_i v hx
        split at h
        · rename_i hc
          cases h
          exact .boxRow ho hx hc
        · cases h
      · cases h
    · exact xhint_ok hcl xplain_ok h
  · refine xhint_ok hcl (fun h => ?_) h
    split at h
    · rename_i c ho
      split at h
      · rename_i f hc
        exact xcall_ok hcl hcall ho hc h
      · rename_i hc
        exact xappend_ok ho hc h
      · exact xplain_ok h
    · rename_i t x i ho
      exact xindex_ok ho h
    · rename_i t x ho
      exact (xload_ok ho h).1
    · rename_i t x z ho
      exact xstore_ok ho h
    · exact xplain_ok h

/-- A frame in which a known value is laid anew. -/
theorem put_same {st : St} {d : Tmp} {x : AV} {s : Bool} (h : st.at d = some x) : (st.put (some d) x s st.h).a = st.a := by
  have h1 := St.put_a st (some d) x s st.h []
  rw [← St.at_eq] at h
  have h2 : (AAct.put { tmps := st.a, marks := [] } (some d) x) = { tmps := st.a, marks := [] } := by
    simp only [AAct.put]
    congr 1
    apply List.ext_getElem?
    intro i
    rw [List.getElem?_set]
    split
    · rename_i hd; subst hd
      have hlt := (List.getElem?_eq_some_iff.1 h).1
      rw [if_pos hlt, h]
    · rfl
  rw [h1] at h2
  exact (AAct.mk.inj h2).1

theorem xguard_ok {ops : Array Oper} {st : St} {o : Oper} {k : Bool → St → Tree St} {r : St} (h : (xguard ops st o k).sel = some r) :
    ∃ b st', st'.a = st.a ∧ st'.h = st.h ∧ st'.n = st.n ∧ awanted ops st.a o = some b ∧ (k b st').sel = some r := by
  unfold xguard at h
  split at h
  · rename_i hg
    exact ⟨true, st, rfl, rfl, rfl, by unfold awanted; rw [hg], h⟩
  · rename_i j want hg
    split at h
    · cases h
    · rename_i d hd
      have haw : ∀ x, st.at d = some x → awanted ops st.a o = (match some x with
          | some (.bool b) => some (b == want)
          | some (.tup _) => some false
          | _ => none) := fun x hx => by
        unfold awanted
        simp only [hg, hd, Option.bind_some, St.at_eq, hx]
        cases x <;> rfl
      split at h
      · rename_i b hb
        have haw := haw _ hb
        simp only at haw
        split at h
        · simp only [Tree.sel] at h
          cases b with
          | true =>
            refine ⟨want, _, put_same hb, rfl, rfl, ?_, h⟩
            rw [haw]; cases want <;> rfl
          | false =>
            refine ⟨!want, _, put_same hb, rfl, rfl, ?_, h⟩
            rw [haw]; cases want <;> rfl
        · split at h
          · refine ⟨want, st, rfl, rfl, rfl, ?_, h⟩
            rw [haw]; cases want <;> rfl
          · refine ⟨!want, st, rfl, rfl, rfl, ?_, h⟩
            rw [haw]; cases want <;> rfl
      · rename_i ts hb
        exact ⟨false, st, rfl, rfl, rfl, haw _ hb, h⟩
      · cases h

theorem xOps_ok {call : CallT} (hcl : ClOk P G E) (hcall : CallOk P G call) {ops : Array Oper} {m : List Nat} : ∀ (l : List Oper) (st st' : St), (xOps P G E call ops l st).sel = some st' →
    AOps P G ops l { tmps := st.a, marks := m } st.h { tmps := st'.a, marks := m } st'.h ∧ st'.n = st.n
  | [], st, st', h => by cases h; exact ⟨.nil _ _, rfl⟩
  | o :: r, st, st', h => by
    unfold xOps at h
    obtain ⟨b, st1, h1, h2, h3, hw, hk⟩ := xguard_ok h
    cases b with
    | true =>
      simp only at hk
      obtain ⟨⟨y, s, h'⟩, hq, hr⟩ := Tree.of_bind hk
      rw [← St.ev_eq] at hq
      have hs := xstep_ok (m := m) hcl hcall hq
      rw [h1, h2] at hs
      obtain ⟨ih, ihn⟩ := xOps_ok hcl hcall r _ st' hr
      refine ⟨.step (by exact hw) hs ?_, by rw [ihn, St.put_n, h3]⟩
      rw [← h1, St.put_a st1 o.dst y s h' m]
      rw [St.put_h] at ih
      exact ih
    | false =>
      simp only at hk
      obtain ⟨ih, ihn⟩ := xOps_ok hcl hcall r _ st' hk
      refine ⟨.skip (by exact hw) ?_, by rw [ihn, St.put_n, h3]⟩
      rw [← h1, St.put_a st1 o.dst (.tup []) false st1.h m]
      rw [St.put_h] at ih
      rw [h2] at ih ⊢
      exact ih

theorem quietR_ok {ρ : Operand → Option AV} {σ σ' : Heap} {o : Oper} {y : AV} (hq : quiet o = true) (h : aopR P ρ σ o = some (y, σ')) : σ' = σ := by
  unfold aopR at h
  unfold quiet at hq
  split at h <;> rename_i ho <;> simp only [ho] at hq <;> first
    | exact (map_pair h).2
    | (cases hq; done)
    | (cases h; done)
    | skip
  all_goals first
    | (split at h <;> first | exact (map_pair h).2 | (cases h; rfl) | cases h)
    | skip
  · rename_i b args ts
    obtain ⟨xs, _, h⟩ := Option.bind_eq_some_iff.1 h
    unfold aBuiltin at h
    split at h
    · exact (map_pair h).2
    · cases hq
    · exact (map_pair h).2
    · exact (map_pair h).2
    · cases h

theorem quiet_ok {a : List AV} {σ σ' : Heap} {o : Oper} {y : AV} (hq : quiet o = true) (h : aop P G a σ o = some (y, σ')) : σ' = σ := quietR_ok hq (by rw [← aopR_eq]; exact h)
theorem HintA.ok {a : Heap → Oper → (Operand → Option AV) → Option (AV × Bool × Heap × Prop)} (h : HintA P a) : HintOk P G a :=
  ⟨fun σ o tm m y s σ' p hh hp => .op (by rw [aopR_eq]; exact h _ _ _ _ _ _ _ hh hp), fun σ o ρ y s σ' p hh hp hq => quietR_ok hq (h _ _ _ _ _ _ _ hh hp)⟩
/-- One after the other. -/
def orH (a b : Heap → Oper → (Operand → Option AV) → Option (AV × Bool × Heap × Prop)) : Heap → Oper → (Operand → Option AV) → Option (AV × Bool × Heap × Prop) := fun h o ρ => match a h o ρ with
  | some r => some r
  | none => b h o ρ
theorem HintOk.or {a b : Heap → Oper → (Operand → Option AV) → Option (AV × Bool × Heap × Prop)} (ha : HintOk P G a) (hb : HintOk P G b) : HintOk P G (orH a b) := by
  refine ⟨fun h o tm m y s h' p hh hp => ?_, fun h o ρ y s h' p hh hp => ?_⟩
  · unfold orH at hh
    split at hh
    · rename_i r hr; cases hh; exact ha.step _ _ _ _ _ _ _ _ hr hp
    · exact hb.step _ _ _ _ _ _ _ _ hh hp
  · unfold orH at hh
    split at hh
    · rename_i r hr; cases hh; exact ha.quiet _ _ _ _ _ _ _ hr hp
    · exact hb.quiet _ _ _ _ _ _ _ hh hp

theorem xstill_step {a : List AV} {m : List Nat} {st : St} {o : Oper} {y : AV} {s : Bool} {h' : Heap} (hcl : ClOk P G E) (hqE : quietE E o = true)
    (h : (xstep P E.still (fun _ _ _ _ => .fail) (ev G a) st o).sel = some (y, s, h')) : AStep P G { tmps := a, marks := m } st.h o y st.h := by
  have hqE : quietE E.still o = true := hqE
  have hcl := hcl.still
  have hy : E.still.cy = fun _ _ _ => none := rfl
  have hch : E.still.clh = fun _ _ _ => none := rfl
  generalize E.still = E at h hcl hqE hy hch
  have hp : quiet o = true → ∀ {y s h'}, (xplain P E (ev G a) st o).sel = some (y, s, h') → AStep P G { tmps := a, marks := m } st.h o y st.h := fun hq {y s h'} h => by
    unfold xplain at h
    split at h
    · rename_i y' h'' he
      cases h
      rw [← aopR_eq] at he
      have := quiet_ok hq he
      subst this
      exact .op he
    · cases h
  have hph : quiet o = true → ∀ {y s h'} {k : Tree (AV × Bool × Heap)}, (k.sel = some (y, s, h') → AStep P G { tmps := a, marks := m } st.h o y st.h) → (xhint E (ev G a) st o k).sel = some (y, s, h') → AStep P G { tmps := a, marks := m } st.h o y st.h := fun hq {y s h' k} hk h => by
    unfold xhint at h
    split at h
    · rename_i hh
      obtain ⟨hb, h⟩ := Tree.of_need h
      cases h
      have hs := hcl.hint _ _ a m _ _ _ _ hh hb
      have he := hcl.hintq _ _ _ _ _ _ _ hh hb hq
      subst he
      exact hs
    · exact hk h
  unfold xstep at h
  split at h
  · rename_i t x ho
    split at h
    · split at h
      · rename_i v hx
        split at h
        · rename_i hc
          cases h
          exact .boxRow ho hx hc
        · cases h
      · cases h
    · rename_i hbx
      unfold quietE at hqE
      rw [ho] at hqE
      simp only at hqE
      rw [hqE] at hbx
      cases hbx
  rename_i hnb
  have hq0 : quiet o = true := by
    unfold quietE at hqE
    split at hqE
    · rename_i h1
      exact absurd h1 (hnb _ _)
    · exact hqE
  refine hph hq0 (fun h => ?_) h
  split at h
  · rename_i c ho
    split at h
    · rename_i f hc
      unfold xcall at h
      split at h
      · rename_i g first caps xs hf hx
        rw [← evAllR_eq] at hx
        split at h
        · rename_i t ht
          obtain ⟨v, hv, hr⟩ := Tree.of_bind h
          cases hr
          exact .call ho hc hf hx (hcl.cl _ _ _ _ ht hv _)
        · rw [hch] at h
          cases h
      · rw [hy] at h
        cases h
      · cases h
    · rename_i hc
      obtain ⟨callee, args, ts⟩ := c
      simp only at hc
      subst hc
      unfold quietE at hqE
      rw [ho] at hqE
      simp only at hqE
      unfold quiet at hqE
      rw [ho] at hqE
      cases hqE
    · exact hp (by unfold quietE at hqE; rw [ho] at hqE; exact hqE) h
  · rename_i t x i ho
    have h2 := xindex_ok (m := m) ho h
    unfold xindex at h
    split at h
    · exact hp (by unfold quietE at hqE; rw [ho] at hqE; exact hqE) h
    · split at h
      · rename_i size n rows k j hx hj
        split at h
        · split at h
          · split at h
            · have h := (Tree.of_need h).2
              cases h; exact h2
            · cases h
          · cases h
        · cases h
      · split at h
        · split at h
          · split at h
            · have h := (Tree.of_need h).2
              cases h; exact h2
            · cases h
          · cases h
        · cases h
      · exact hp (by unfold quietE at hqE; rw [ho] at hqE; exact hqE) h
  · rename_i t x ho
    obtain ⟨h1, h2⟩ := xload_ok (m := m) ho h
    rcases h2 with rfl | h2
    · exact h1
    · exact hp (by unfold quietE at hqE; rw [ho] at hqE; exact hqE) h2
  · rename_i t x z ho
    unfold quietE at hqE
    rw [ho] at hqE
    simp only at hqE
    unfold quiet at hqE
    rw [ho] at hqE
    cases hqE
  · exact hp hq0 h

theorem awanted_masked {ops : Array Oper} {a : List AV} {o : Oper} : awanted ops (masked (o.looksAt ops) a) o = awanted ops a o := by
  unfold awanted
  cases hg : o.guard with
  | none => rfl
  | some p =>
    obtain ⟨j, want⟩ := p
    simp only
    cases hd : (ops[j]?).bind (·.dst) with
    | none => rfl
    | some d =>
      simp only [Option.bind_some, masked_get]
      have : (o.looksAt ops).contains d = true := by
        unfold Oper.looksAt
        rw [hg]
        simp [hd]
      rw [this]
      cases a[d]? <;> rfl

theorem xStill_ok (hcl : ClOk P G E) {ops : Array Oper} {m : List Nat} : ∀ (l : List Oper) (st st' : St), (xStill P G E ops l st).sel = some st' →
    AOpsD P G st.h ops m l st.a st'.a ∧ st'.n = st.n ∧ st'.h = st.h
  | [], st, st', h => by cases h; exact ⟨.nil _, rfl, rfl⟩
  | o :: r, st, st', h => by
    unfold xStill at h
    obtain ⟨b, st1, h1, h2, h3, hw, hk⟩ := xguard_ok h
    cases b with
    | true =>
      simp only at hk
      split at hk
      · rename_i hq
        obtain ⟨⟨y, s, h'⟩, hq', hr⟩ := Tree.of_bind hk
        rw [← St.evM_eq] at hq'
        have hs := xstill_step (m := m) hcl hq hq'
        rw [h1, h2] at hs
        obtain ⟨ih, ihn, ihh⟩ := xStill_ok hcl r _ st' hr
        rw [St.put_h] at ih ihh
        refine ⟨.step (by rw [awanted_masked]; exact hw) hs ?_, by rw [ihn, St.put_n, h3], by rw [ihh, h2]⟩
        have hp := St.put_a st1 o.dst y s st1.h []
        rw [← h1, hp]
        rw [h2] at ih
        rw [h2]
        exact ih
      · cases hk
    | false =>
      simp only at hk
      obtain ⟨ih, ihn, ihh⟩ := xStill_ok hcl r _ st' hk
      rw [St.put_h] at ih ihh
      refine ⟨.skip (by rw [awanted_masked]; exact hw) ?_, by rw [ihn, St.put_n, h3], by rw [ihh, h2]⟩
      have hp := St.put_a st1 o.dst (.tup []) false st1.h []
      rw [← h1, hp]
      rw [h2] at ih
      rw [h2]
      exact ih

theorem AOps.single {ops : Array Oper} {o : Oper} {a a' : AAct} {σ σ' : Heap} (h : AOps P G ops [o] a σ a' σ') :
    (awanted ops a.tmps o = some true ∧ ∃ y, AStep P G a σ o y σ' ∧ a' = a.put o.dst y) ∨ (awanted ops a.tmps o = some false ∧ a' = a.put o.dst (.tup []) ∧ σ' = σ) := by
  cases h with
  | step hw hs k => cases k; exact .inl ⟨hw, _, hs, rfl⟩
  | skip hw k => cases k; exact .inr ⟨hw, rfl, rfl⟩
theorem xStages_ok {call : CallT} (hcl : ClOk P G E) (hcall : CallOk P G call) {ops : Array Oper} {m : List Nat} : ∀ (cs : List Nat) (b : Nat) (st st' : St), (xStages P G E call ops cs b st).sel = some st' →
    AStages P G ops.toList m b st.a st.h st'.a st'.h ∧ st'.n = st.n
  | [], b, st, st', h => by
    unfold xStages at h
    split at h
    · rename_i hb
      cases h
      exact ⟨.done (by simpa using hb), rfl⟩
    · cases h
  | c :: r, b, st, st', h => by
    unfold xStages at h
    split at h
    · rename_i hf
      split at h
      · rename_i hc
        have hc : c = b + 1 := by simpa using hc
        subst hc
        split at h
        · rename_i o ho
          obtain ⟨st1, h1, h2⟩ := Tree.of_bind h
          obtain ⟨ih, ihn⟩ := xStages_ok hcl hcall r (b + 1) st1 st' h2
          obtain ⟨k1, k2⟩ := xOps_ok (m := m) hcl hcall [o] st st1 h1
          have ho' : ops.toList[b]? = some o := by simpa using ho
          refine ⟨?_, ihn.trans k2⟩
          have put_eq : ∀ y, { tmps := st1.a, marks := m } = AAct.put { tmps := st.a, marks := m } o.dst y → (AAct.put { tmps := st.a } o.dst y).tmps = st1.a := fun y hy => by
            have := congrArg AAct.tmps hy
            simp only at this
            rw [this]
            cases o.dst <;> rfl
          rcases k1.single with ⟨hw, y, hs, hy⟩ | ⟨hw, hy, hh⟩
          · refine .one ho' (by simpa using hw) hs hf ?_
            rw [put_eq y hy]
            exact ih
          · refine .none ho' (by simpa using hw) hf ?_
            rw [put_eq _ hy, ← hh]
            exact ih
        · cases h
      · split at h
        · rename_i hc
          simp only [Bool.and_eq_true] at hc
          obtain ⟨⟨c1, c2⟩, c3⟩ := hc
          have c1 : b ≤ c := by simpa using c1
          have c2 : c ≤ ops.size := by simpa using c2
          obtain ⟨st1, h1, h2⟩ := Tree.of_bind h
          obtain ⟨ih, ihn⟩ := xStages_ok hcl hcall r c st1 st' h2
          obtain ⟨k1, k2, k3⟩ := xStill_ok (m := m) hcl _ _ _ h1
          refine ⟨?_, ihn.trans k2⟩
          rw [k3] at ih
          have e : b + (c - b) = c := by omega
          refine .still (n := c - b) (by simpa [e] using c2) (by simpa using k1) c3 (by rw [e]; exact hf) ?_
          rw [e]
          exact ih
        · cases h
    · cases h
theorem xDraw_ok {R : Option Nat → Prop} (hm : P.follows .mixedOrders = true) (hcl : ClOk P G E) {call : CallT} (hcall : CallOk P G call) {id : Nat} {ops : Array Oper} {m : List Nat} {st st' : St} (h : (xDraw P G E call ops st).sel = some st') :
    AExec P G R (.region id ops true) { tmps := st.a, marks := m } st.h .normal { tmps := st'.a, marks := m } st'.h ∧ st'.n = st.n := by
  unfold xDraw at h
  split at h
  · rename_i hc
    obtain ⟨h1, h2⟩ := xStages_ok (m := m) hcl hcall _ _ _ _ h
    refine ⟨?_, h2⟩
    have := AExec.draw (P := P) (G := G) (R := R) (id := id) (ops := ops.toList) (marks := m) hm hc h1
    exact this
  · cases h
end
end Go.Proofs.Ytngaihdpmoajeaa.Am

namespace Go.Proofs.Ytngaihdpmoajeaa.Am
open Go
section
variable {P : Program} {G : Nat → Option (List AV)} {E : Env}

def NamesOk (P : Program) : Prop := ∀ (f : Nat) (fn : Func), P.funcs[f]? = some fn → (fn.name == "runtime.NumGoroutine") = false

/-- What is said to be known of the loops is so. -/
def LoopsOk (P : Program) (G : Nat → Option (List AV)) (R : Option Nat → Prop) (m : List Nat) (lp : Loops) : Code → Prop
  | .seq x y => LoopsOk P G R m lp x ∧ LoopsOk P G R m lp y
  | .cond _ x y => LoopsOk P G R m lp x ∧ LoopsOk P G R m lp y
  | .block _ x => LoopsOk P G R m lp x
  | .loop x => (∀ keep s0 t e st', lp (idOf x) = some (keep, s0, t) → t.sel = some (e, st') → AExec P G R (.loop x) { tmps := s0.a, marks := m } s0.h e { tmps := st'.a, marks := m } st'.h ∧ st'.n = s0.n) ∧ LoopsOk P G R m lp x
  | _ => True

theorem LoopsOk.none {R : Option Nat → Prop} {m : List Nat} : ∀ c : Code, LoopsOk P G R m (fun _ => Option.none) c
  | .seq x y => ⟨LoopsOk.none x, LoopsOk.none y⟩
  | .cond _ x y => ⟨LoopsOk.none x, LoopsOk.none y⟩
  | .block _ x => LoopsOk.none x
  | .loop x => ⟨fun _ _ _ _ _ h => (by cases h), LoopsOk.none x⟩
  | .skip => trivial
  | .ret => trivial
  | .exit _ => trivial
  | .region _ _ _ => trivial
  | .scope _ => trivial
  | .rangeFunc _ _ _ _ => trivial
  | .label _ => trivial
  | .goto _ => trivial
  | .refuse _ => trivial

theorem PT.ofArgs_get : ∀ (xs : List AV) (i : Nat) (s : List Bool) (t : PT) (j : Nat), ((PT.ofArgs i xs s t).get j).1 = if i ≤ j ∧ j < i + xs.length then xs.getD (j - i) .junk else (t.get j).1
  | [], i, s, t, j => by
    rw [if_neg (by simp)]
    rfl
  | x :: r, i, s, t, j => by
    rw [PT.ofArgs, PT.ofArgs_get r, PT.get_set]
    by_cases h1 : j = i
    · subst h1
      have h2 : ¬ (j + 1 ≤ j ∧ j < j + 1 + r.length) := by omega
      have h3 : j ≤ j ∧ j < j + (x :: r).length := by simp
      rw [if_neg h2, if_pos h3, if_pos rfl]
      simp
    · by_cases h2 : i + 1 ≤ j ∧ j < i + 1 + r.length
      · have h3 : i ≤ j ∧ j < i + (x :: r).length := by simp; omega
        rw [if_pos h2, if_pos h3]
        have h4 : j - i = (j - (i + 1)) + 1 := by omega
        rw [h4]
        simp
      · have h3 : ¬ (i ≤ j ∧ j < i + (x :: r).length) := by simp; omega
        rw [if_neg h2, if_neg h3, if_neg h1]

theorem ofArgs_le {xs : List AV} {s : List Bool} {h : Heap} {n : Nat} : Le (xs ++ List.replicate (n - xs.length) (.tup [])) ({ t := PT.ofArgs 0 xs s .nil, n := xs.length + (n - xs.length), h := h } : St).a := by
  refine ⟨by simp [St.a], fun j y hj => ?_⟩
  rw [St.at_eq] at hj
  unfold St.at at hj
  simp only [PT.ofArgs_get] at hj
  cases hb : Nat.blt j (xs.length + (n - xs.length)) with
  | false => rw [hb] at hj; cases hj
  | true =>
    rw [hb] at hj
    simp only [cond_true, Option.some.injEq] at hj
    by_cases h : j < xs.length
    · rw [if_pos (by omega)] at hj
      refine .inr ?_
      rw [List.getElem?_append_left h, ← hj]
      simp [List.getD_eq_getElem?_getD, h]
    · rw [if_neg (by omega), PT.get_nil] at hj
      exact .inl hj.symm

theorem only_get (st : St) : ∀ (keep : List Nat) (t : PT) (j : Nat), ((keep.foldl (fun t k => t.set k (st.t.get k).1 (st.t.get k).2) t).get j) = if j ∈ keep then st.t.get j else t.get j
  | [], t, j => by simp
  | k :: r, t, j => by
    rw [List.foldl_cons, only_get st r, PT.get_set]
    by_cases h1 : j ∈ r
    · simp [h1]
    · by_cases h2 : j = k
      · subst h2; simp [h1]
      · simp [h1, h2]
theorem St.only_le (keep : List Nat) (st : St) : Le st.a (st.only keep).a := by
  refine ⟨by simp [St.a, St.only], fun j y hj => ?_⟩
  rw [St.at_eq] at hj ⊢
  unfold St.at at hj ⊢
  simp only [St.only, only_get, PT.get_nil] at hj
  cases hb : Nat.blt j st.n with
  | false => rw [hb] at hj; cases hj
  | true =>
    rw [hb] at hj
    simp only [cond_true, Option.some.injEq] at hj ⊢
    split at hj
    · exact .inr hj
    · exact .inl hj.symm

def RunOk (P : Program) (G : Nat → Option (List AV)) (run : Code → St → Tree (Exit × St)) : Prop := ∀ c st e st', (run c st).sel = some (e, st') → AExec P G (fun r => r = none) c { tmps := st.a } st.h e { tmps := st'.a } st'.h

theorem xenter_ok (hn : NamesOk P) {run : Code → St → Tree (Exit × St)} (hr : RunOk P G run) : CallOk P G (xenter P E run) := by
  intro f xs tags h v s h' hs
  unfold xenter at hs
  split at hs
  · rename_i fn hf
    split at hs
    · rename_i c hb
      obtain ⟨⟨e, st⟩, h1, h2⟩ := Tree.of_bind hs
      have hx := hr _ _ _ _ h1
      have main : ∀ {T : Tree (AV × Bool × Heap)} {tag : Bool}, (e = .normal ∨ e = .ret) → (match aResults P st.h st.a fn.results.toList with
          | some ys => .leaf (asOne ys, tag, st.h)
          | none => .fail : Tree (AV × Bool × Heap)).sel = some (v, s, h') → ACall P G f xs h v h' := fun {T tag} he hh => by
        cases hres : aResults P st.h st.a fn.results.toList with
        | none => rw [hres] at hh; cases hh
        | some ys =>
          rw [hres] at hh
          cases hh
          exact ACall.of_body hf hb (hn f fn hf) (.weak ofArgs_le hx) he hres
      split at h2
      · rename_i he
        exact main (T := .fail) (.inl he) h2
      · rename_i he
        exact main (T := .fail) (.inr he) h2
      · cases h2
    · cases hs
  · cases hs

theorem xLoop_ok {R : Option Nat → Prop} {m : List Nat} {run : St → Tree (Exit × St)} {c : Code} (hr : ∀ st e st', (run st).sel = some (e, st') → AExec P G R c { tmps := st.a, marks := m } st.h e { tmps := st'.a, marks := m } st'.h ∧ st'.n = st.n) :
    ∀ (k : Nat) (st : St) (e : Exit) (st' : St), (xLoop run k st).sel = some (e, st') → ALoopRun P G R c { tmps := st.a, marks := m } st.h e { tmps := st'.a, marks := m } st'.h ∧ st'.n = st.n
  | 0, st, e, st', h => by cases h
  | k + 1, st, e, st', h => by
    unfold xLoop at h
    obtain ⟨⟨e1, st1⟩, h1, h2⟩ := Tree.of_bind h
    obtain ⟨h3, h4⟩ := hr _ _ _ h1
    split at h2
    · rename_i he
      simp only at he
      subst he
      obtain ⟨h5, h6⟩ := xLoop_ok hr k _ e st' h2
      exact ⟨.next h3 h5, h6.trans h4⟩
    · rename_i he
      cases h2
      exact ⟨.stop h3 he, h4⟩

theorem xCode_ok (hn : NamesOk P) (hm : P.follows .mixedOrders = true) (hcl : ClOk P G E) : ∀ (n : Nat) (R : Option Nat → Prop) (m : List Nat) (lp : Loops) (c : Code) (st : St) (e : Exit) (st' : St), LoopsOk P G R m lp c →
    (xCode P G E n lp c st).sel = some (e, st') → AExec P G R c { tmps := st.a, marks := m } st.h e { tmps := st'.a, marks := m } st'.h ∧ st'.n = st.n
  | 0, R, m, lp, c, st, e, st', _, h => by cases h
  | n + 1, R, m, lp, c, st, e, st', hlp, h => by
    have hrun : RunOk P G (xCode P G E n fun _ => none) := fun c st e st' h => (xCode_ok hn hm hcl n _ [] _ c st e st' (.none c) h).1
    unfold xCode at h
    cases c with
    | skip => cases h; exact ⟨.skip, rfl⟩
    | ret => cases h; exact ⟨.ret, rfl⟩
    | exit id => cases h; exact ⟨.exit, rfl⟩
    | region id ops draws =>
      simp only at h
      obtain ⟨st1, h1, h2⟩ := Tree.of_bind h
      cases h2
      cases draws with
      | true => exact xDraw_ok hm hcl (xenter_ok hn hrun) h1
      | false =>
        obtain ⟨h3, h4⟩ := xOps_ok (m := m) hcl (xenter_ok hn hrun) _ _ _ h1
        exact ⟨.region h3, h4⟩
    | seq x y =>
      simp only at h
      obtain ⟨⟨e1, st1⟩, h1, h2⟩ := Tree.of_bind h
      obtain ⟨h3, h4⟩ := xCode_ok hn hm hcl n R m lp x _ _ _ hlp.1 h1
      split at h2
      · rename_i he
        simp only at he
        subst he
        obtain ⟨h5, h6⟩ := xCode_ok hn hm hcl n R m lp y _ _ _ hlp.2 h2
        exact ⟨.seq h3 h5, h6.trans h4⟩
      · rename_i he
        cases h2
        exact ⟨.seq_out h3 he, h4⟩
    | cond q x y =>
      simp only at h
      split at h
      · rename_i b hq
        rw [← St.ev_eq] at hq
        split at h
        · simp only [Tree.sel] at h
          cases b with
          | true =>
            obtain ⟨h3, h4⟩ := xCode_ok hn hm hcl n R m lp x _ _ _ hlp.1 h
            exact ⟨.cond_true hq h3, h4⟩
          | false =>
            obtain ⟨h3, h4⟩ := xCode_ok hn hm hcl n R m lp y _ _ _ hlp.2 h
            exact ⟨.cond_false hq h3, h4⟩
        · split at h
          · obtain ⟨h3, h4⟩ := xCode_ok hn hm hcl n R m lp x _ _ _ hlp.1 h
            exact ⟨.cond_true hq h3, h4⟩
          · obtain ⟨h3, h4⟩ := xCode_ok hn hm hcl n R m lp y _ _ _ hlp.2 h
            exact ⟨.cond_false hq h3, h4⟩
      · cases h
    | block id x =>
      simp only at h
      obtain ⟨⟨e1, st1⟩, h1, h2⟩ := Tree.of_bind h
      cases h2
      obtain ⟨h3, h4⟩ := xCode_ok hn hm hcl n R m lp x _ _ _ hlp h1
      exact ⟨.block h3, h4⟩
    | loop x =>
      simp only at h
      split at h
      · rename_i keep s0 t ht
        obtain ⟨h1, h2⟩ := Tree.of_need h
        obtain ⟨h3, h4⟩ := hlp.1 _ _ _ _ _ ht h2
        simp only [St.vals, Prod.mk.injEq] at h1
        obtain ⟨e1, e2, e3⟩ := h1
        have h5 := St.only_le keep st
        rw [e1] at h5
        refine ⟨.weak h5 ?_, h4.trans e2.symm⟩
        have e4 : st.h = s0.h := e3
        rw [e4]
        exact h3
      · obtain ⟨h3, h4⟩ := xLoop_ok (fun st e st' h => xCode_ok hn hm hcl n R m lp x st e st' hlp.2 h) n st e st' h
        exact ⟨.loop h3, h4⟩
    | scope _ => cases h
    | rangeFunc _ _ _ _ => cases h
    | label _ => cases h
    | goto _ => cases h
    | refuse _ => cases h

/-- THE FACT ON A CALL, found by running. -/
theorem xCall_ok (hn : NamesOk P) (hm : P.follows .mixedOrders = true) (hcl : ClOk P G E) {n : Nat} {f : FuncId} {xs : List AV} {tags : List Bool} {h h' : Heap} {v : AV} {s : Bool}
    (hx : (xCall P G E n f xs tags h).sel = some (v, s, h')) : ACall P G f xs h v h' :=
  xenter_ok hn (fun c st e st' h => (xCode_ok hn hm hcl n _ [] _ c st e st' (.none c) h).1) f xs tags h v s h' hx

/-- The same, where loops of its own body are known. -/
theorem xFn_ok (hn : NamesOk P) (hm : P.follows .mixedOrders = true) (hcl : ClOk P G E) {lp : Loops} {n : Nat} {f : FuncId} {fn : Func} {c : Code} (hf : P.funcs[f]? = some fn) (hb : fn.body = some c)
    (hlp : LoopsOk P G (fun r => r = none) [] lp c) {xs : List AV} {tags : List Bool} {h h' : Heap} {v : AV} {s : Bool}
    (hx : (xenter P E (xCode P G E n lp) f xs tags h).sel = some (v, s, h')) : ACall P G f xs h v h' := by
  have : ∀ (run : Code → St → Tree (Exit × St)), run = xCode P G E n lp → (xenter P E run f xs tags h).sel = some (v, s, h') → ACall P G f xs h v h' := by
    intro run hrun hx
    unfold xenter at hx
    rw [hf] at hx
    simp only [hb] at hx
    obtain ⟨⟨e, st⟩, h1, h2⟩ := Tree.of_bind hx
    subst hrun
    have hx' := (xCode_ok hn hm hcl n _ [] lp c _ _ _ hlp h1).1
    have main : ∀ {tag : Bool}, (e = .normal ∨ e = .ret) → (match aResults P st.h st.a fn.results.toList with
        | some ys => .leaf (asOne ys, tag, st.h)
        | none => .fail : Tree (AV × Bool × Heap)).sel = some (v, s, h') → ACall P G f xs h v h' := fun {tag} he hh => by
      cases hres : aResults P st.h st.a fn.results.toList with
      | none => rw [hres] at hh; cases hh
      | some ys =>
        rw [hres] at hh
        cases hh
        exact ACall.of_body hf hb (hn f fn hf) (.weak ofArgs_le hx') he hres
    split at h2
    · rename_i he
      exact main (.inl he) h2
    · rename_i he
      exact main (.inr he) h2
    · cases h2
  exact this _ rfl hx
end
end Go.Proofs.Ytngaihdpmoajeaa.Am

namespace Go.Proofs.Ytngaihdpmoajeaa.Am
open Go

/-- Values that are to be told as data from now on. -/
def freezeL (f : AV → Option AV) : List AV → Option (List AV)
  | [] => some []
  | x :: r => match f x, freezeL f r with
    | some y, some ys => some (y :: ys)
    | _, _ => none
/-- Rows of 'size' cells, from 'off' on, 'n' of them. -/
def rowsOf (f : AV → Option AV) (size : Nat) (c : List AV) : Nat → Nat → Option (List (List AV))
  | _, 0 => some []
  | off, n + 1 => if off + size ≤ c.length then
      match freezeL f ((c.drop off).take size), rowsOf f size c (off + size) n with
      | some y, some ys => some (y :: ys)
      | _, _ => none
    else none
def freeze (h : Heap) : Nat → AV → Option AV
  | 0, _ => none
  | f + 1, x => match x with
    | .int k n => some (.int k n)
    | .bool b => some (.bool b)
    | .nilp => some .nilp
    | .nilf => some .nilf
    | .zs => some .zs
    | .ms size r g off len _ =>
      match objAt h r g with
      | some c => (rowsOf (freeze h f) size c off len).map (.sl size)
      | none => none
    | .tup xs => (freezeL (freeze h f) xs).map .tup
    | .agg xs => (freezeL (freeze h f) xs).map .agg
    | _ => none

theorem freezeL_ok {f : AV → Option AV} : ∀ {l ys : List AV}, freezeL f l = some ys → ys.length = l.length ∧ ∀ (j : Nat) (y : AV), ys[j]? = some y → ∃ x, l[j]? = some x ∧ f x = some y
  | [], ys, h => by cases h; exact ⟨rfl, fun j y hj => by simp at hj⟩
  | x :: r, ys, h => by
    unfold freezeL at h
    split at h
    · rename_i y zs hy hz
      cases h
      obtain ⟨h1, h2⟩ := freezeL_ok hz
      refine ⟨by simp [h1], fun j z hj => ?_⟩
      cases j with
      | zero => simp at hj; subst hj; exact ⟨x, rfl, hy⟩
      | succ j => simpa using h2 j z (by simpa using hj)
    · cases h
theorem rowsOf_ok {f : AV → Option AV} {size : Nat} {c : List AV} : ∀ {n off : Nat} {rows : List (List AV)}, rowsOf f size c off n = some rows → rows.length = n ∧ ∀ (i : Nat) (r : List AV), rows[i]? = some r →
    r.length = size ∧ off + i * size + size ≤ c.length ∧ ∀ (j : Nat) (y : AV), r[j]? = some y → ∃ x, c[off + i * size + j]? = some x ∧ f x = some y
  | 0, off, rows, h => by cases h; exact ⟨rfl, fun i r hi => by simp at hi⟩
  | n + 1, off, rows, h => by
    unfold rowsOf at h
    split at h
    · rename_i hle
      split at h
      · rename_i y zs hy hz
        cases h
        obtain ⟨h1, h2⟩ := rowsOf_ok hz
        refine ⟨by simp [h1], fun i r hi => ?_⟩
        cases i with
        | zero =>
          simp at hi; subst hi
          obtain ⟨k1, k2⟩ := freezeL_ok hy
          have hl : ((c.drop off).take size).length = size := by simp; omega
          refine ⟨by omega, by omega, fun j z hj => ?_⟩
          obtain ⟨x, hx, hf⟩ := k2 j z hj
          have hjl := (List.getElem?_eq_some_iff.1 hx).1
          refine ⟨x, ?_, hf⟩
          rw [List.getElem?_take_of_lt (by omega), List.getElem?_drop] at hx
          simpa using hx
        | succ i =>
          obtain ⟨k1, k2, k3⟩ := h2 i r (by simpa using hi)
          have he : off + size + i * size = off + (i + 1) * size := by rw [Nat.add_mul]; omega
          rw [he] at k2 k3
          exact ⟨k1, k2, k3⟩
      · cases h
    · cases h

section
variable {P : Program} {G : Nat → Option (List AV)}

theorem freeze_ok {w : World} {M Mx : Map} {h : Heap} (hi : Inv G w M h) (hd : ∀ r b g, M r = some (b, g) → (∀ r' g', Mx r' ≠ some (b, g')) ∧ ¬ Mx.far b) : ∀ (f : Nat) {v : Value} {x y : AV}, RV w M v x → freeze h f x = some y → RV w Mx v y
  | 0, v, x, y, _, hf => by cases hf
  | f + 1, v, x, y, hv, hf => by
    unfold freeze at hf
    split at hf
    · cases hf; cases hv; exact .int _ _
    · cases hf; cases hv; exact .bool _
    · cases hf; cases hv; exact .nilp
    · cases hf; cases hv; exact .nilf
    · cases hf; cases hv; exact .zs _
    · rename_i size r g off len cap
      split at hf
      · rename_i c hc
        obtain ⟨b, cs, e, hm, hh, hl, hx⟩ := hi.obj hc
        cases hr : rowsOf (freeze h f) size c off len with
        | none => rw [hr] at hf; cases hf
        | some rows =>
          rw [hr] at hf; cases hf
          obtain ⟨h1, h2⟩ := rowsOf_ok hr
          cases hv with
          | ms size r g off len cap b' capc c' e' hm' hlen hcc hsz hfit =>
            rw [hm] at hm'
            obtain ⟨rfl, _⟩ := Prod.mk.inj (Option.some.inj hm')
            have hlt : b < w.heap.size := hi.lt r b g hm
            have := RV.sl (w := w) (M := Mx) b off capc size (fun i j => cs.getD (off + i * size + j) undef) rows ⟨hlt, hd r b g hm⟩
              (fun i rw j hrw hj => by
                obtain ⟨k1, k2, k3⟩ := h2 i rw hrw
                exact cell_of_cells hh (by omega))
              (fun i rw hrw => (h2 i rw hrw).1)
              (fun i rw j z hrw hz => by
                obtain ⟨k1, k2, k3⟩ := h2 i rw hrw
                obtain ⟨x0, hx0, hfx⟩ := k3 j z hz
                exact freeze_ok hi hd f (hx _ _ hx0) hfx)
              (by rw [h1]; omega)
            rw [h1] at this
            exact this
          | msS size r g off len cap b' g' p capc hm' hg =>
            rw [hm] at hm'
            obtain ⟨_, rfl⟩ := Prod.mk.inj (Option.some.inj hm')
            omega
      · cases hf
    · rename_i xs
      cases hx : freezeL (freeze h f) xs with
      | none => rw [hx] at hf; cases hf
      | some ys =>
        rw [hx] at hf; cases hf
        obtain ⟨h1, h2⟩ := freezeL_ok hx
        cases hv with
        | tup vs _ hl hh =>
          refine .tup vs ys (by omega) fun j z hz => ?_
          obtain ⟨x0, hx0, hfx⟩ := h2 j z hz
          exact freeze_ok hi hd f (hh j x0 hx0) hfx
    · rename_i xs
      cases hx : freezeL (freeze h f) xs with
      | none => rw [hx] at hf; cases hf
      | some ys =>
        rw [hx] at hf; cases hf
        obtain ⟨h1, h2⟩ := freezeL_ok hx
        cases hv with
        | agg vs _ hl hh =>
          refine .agg vs ys (by omega) fun j z hz => ?_
          obtain ⟨x0, hx0, hfx⟩ := h2 j z hz
          exact freeze_ok hi hd f (hh j x0 hx0) hfx
    · cases hf

/-- What is known of package variables points nowhere. -/
def GBelow (G : Nat → Option (List AV)) : Prop := ∀ g cs, G g = some cs → Below 0 (.row cs 0)

/-- The caller's objects alone, as others' blocks. -/
def Map.hide (M : Map) : Map := ⟨fun _ => none, fun b => M.far b ∨ ∃ r g, M r = some (b, g)⟩
theorem Imm.hide {w : World} {M : Map} {b : Nat} (h : Imm w M b) : Imm w M.hide b := ⟨h.1, fun _ _ h => (by cases h), fun k => by
  rcases k with k | ⟨r, g, k⟩
  · exact h.2.2 k
  · exact h.2.1 r g k⟩
theorem RV.hide {w : World} {M : Map} {v : Value} {x : AV} (hv : RV w M v x) (hb : Below 0 x) : RV w M.hide v x := by
  induction hv with
  | int k i => exact .int k i
  | bool b => exact .bool b
  | nilp => exact .nilp
  | nilf => exact .nilf
  | ref r g off b hr => cases hb with | ref _ _ _ hlt => omega
  | refS r g off b g' p hr hg => cases hb with | ref _ _ _ hlt => omega
  | row b o off f cells hi hc _ ih => cases hb with | row _ _ h => exact .row b o off f cells hi.hide hc fun j x hj => ih j x hj (h j x hj)
  | sl0 base cap size => exact .sl0 base cap size
  | sl b o cap size f rows hi hc hl _ hcap ih => cases hb with | sl _ _ h => exact .sl b o cap size f rows hi.hide hc hl (fun i r j x hi hj => ih i r j x hi hj (h i r j x hi hj)) hcap
  | fl v size k rows _ ih => cases hb with | fl _ _ _ h => exact .fl _ size k rows (ih h)
  | zs base => exact .zs base
  | ms size r g off len cap b capc c e hr hlen hcc hsz hfit => cases hb with | ms _ _ _ _ _ _ hlt => omega
  | msS size r g off len cap b g' p capc hr hg => cases hb with | ms _ _ _ _ _ _ hlt => omega
  | agg vs xs hl _ ih => cases hb with | agg _ h => exact .agg vs xs hl fun j x hj => ih j x hj (h j x hj)
  | tup vs xs hl _ ih => cases hb with | tup _ h => exact .tup vs xs hl fun j x hj => ih j x hj (h j x hj)
  | fn f fs cs xs ys hl1 hl2 _ _ ih1 ih2 => cases hb with | fn _ _ _ h1 h2 => exact .fn f fs cs xs ys hl1 hl2 (fun j x hj => ih1 j x hj (h1 j x hj)) (fun j x hj => ih2 j x hj (h2 j x hj))
  | yf l b hr => cases hb with | yf _ hlt => omega
  | yfS l b g fn fs cs hr hg => cases hb with | yf _ hlt => omega
  | anyb b => exact .anyb b
  | mx size r g off len cap b c e hr hlen hsz hfit => cases hb with | mx _ _ _ _ _ _ hlt => omega
  | mxS size r g off len cap b g' p hr hg => cases hb with | mx _ _ _ _ _ _ hlt => omega
  | junk v => exact .junk v

theorem Inv.hide {w : World} {M : Map} {σ : Heap} (hi : Inv G w M σ) (hG : GBelow G) : Inv G w M.hide [] := by
  refine .of (fun g cs hg => (hi.glob g cs hg).hide (hG g cs hg)) (fun r r' b g g' h1 _ => ?_) (fun r p h1 => ?_) (fun r b g h1 => ?_) (fun b hb => ?_) (fun r o h1 => by simp at h1)
  · cases h1
  · cases h1
  · cases h1
  · refine ⟨?_, fun r g h => by cases h⟩
    rcases hb with hb | ⟨r, g, hr⟩
    · exact (hi.far b hb).1
    · exact hi.lt r b g hr

/-- What the caller sees of a call that did not see its objects. -/
theorem Ext.unhide {w w' : World} {M M' : Map} {σ : Heap} (hi : Inv G w M σ) (he : Ext w M.hide w' M') : Ext w M w' M ∧ (∀ r b g, M r = some (b, g) → w'.heap[b]? = w.heap[b]?) ∧ ∀ r b g, M' r = some (b, g) → FarOk w' M' → (∀ r' g', M r' ≠ some (b, g')) ∧ ¬ M.far b := by
  have hsame : ∀ r b g, M r = some (b, g) → w'.heap[b]? = w.heap[b]? := fun r b g hr => he.far.2 b (.inr ⟨r, g, hr⟩) (hi.lt r b g hr)
  refine ⟨⟨he.size, he.os, he.tape, he.output, fun b hb => ⟨⟨Nat.lt_of_lt_of_le hb.1 he.size, hb.2⟩, (he.imm b hb.hide).2⟩, fun r b g hr => ⟨b, g, hr, .inr ⟨rfl, rfl⟩⟩, fun r b g c e0 fr hr _ hc => ⟨c, ?_, rfl⟩, fun r b hr hn => ⟨hr, ?_, fun c e0 fr hc => ?_⟩,
    rfl, fun b hb hl => he.far.2 b (.inl hb) hl⟩, hsame, fun r b g h1 hf => ⟨fun r' g' h2 => ?_, fun h2 => ?_⟩⟩
  · rw [hsame r b g hr]; exact hc
  · exact Nat.lt_of_lt_of_le hn.1 he.size
  · rw [hsame r b 0 hr] at hc; exact hn.2 c e0 fr hc
  · have : M'.far b := by rw [he.far.1]; exact .inr ⟨r', g', h2⟩
    exact (hf b this).2 r g h1
  · have : M'.far b := by rw [he.far.1]; exact .inl h2
    exact (hf b this).2 r g h1

/-- Data of a callee's are data of its caller's. -/
theorem Imm.unhide {w w' : World} {M M' : Map} {b : Nat} (he : Ext w M.hide w' M') (h : Imm w' M' b) : Imm w' M b := by
  have hf : ¬ M.hide.far b := by rw [← he.far.1]; exact h.2.2
  exact ⟨h.1, fun r g hr => hf (.inr ⟨r, g, hr⟩), fun hr => hf (.inl hr)⟩
theorem RV.unhide {w w' : World} {M M' : Map} (he : Ext w M.hide w' M') {v : Value} {x : AV} (hv : RV w' M' v x) (hb : Below 0 x) : RV w' M v x := by
  induction hv with
  | int k i => exact .int k i
  | bool b => exact .bool b
  | nilp => exact .nilp
  | nilf => exact .nilf
  | ref r g off b hr => cases hb with | ref _ _ _ hlt => omega
  | refS r g off b g' p hr hg => cases hb with | ref _ _ _ hlt => omega
  | row b o off f cells hi hc _ ih => cases hb with | row _ _ h => exact .row b o off f cells (hi.unhide he) hc fun j x hj => ih j x hj (h j x hj)
  | sl0 base cap size => exact .sl0 base cap size
  | sl b o cap size f rows hi hc hl _ hcap ih => cases hb with | sl _ _ h => exact .sl b o cap size f rows (hi.unhide he) hc hl (fun i r j x hi hj => ih i r j x hi hj (h i r j x hi hj)) hcap
  | fl v size k rows _ ih => cases hb with | fl _ _ _ h => exact .fl _ size k rows (ih h)
  | zs base => exact .zs base
  | ms size r g off len cap b capc c e hr hlen hcc hsz hfit => cases hb with | ms _ _ _ _ _ _ hlt => omega
  | msS size r g off len cap b g' p capc hr hg => cases hb with | ms _ _ _ _ _ _ hlt => omega
  | agg vs xs hl _ ih => cases hb with | agg _ h => exact .agg vs xs hl fun j x hj => ih j x hj (h j x hj)
  | tup vs xs hl _ ih => cases hb with | tup _ h => exact .tup vs xs hl fun j x hj => ih j x hj (h j x hj)
  | fn f fs cs xs ys hl1 hl2 _ _ ih1 ih2 => cases hb with | fn _ _ _ h1 h2 => exact .fn f fs cs xs ys hl1 hl2 (fun j x hj => ih1 j x hj (h1 j x hj)) (fun j x hj => ih2 j x hj (h2 j x hj))
  | yf l b hr => cases hb with | yf _ hlt => omega
  | yfS l b g fn fs cs hr hg => cases hb with | yf _ hlt => omega
  | anyb b => exact .anyb b
  | mx size r g off len cap b c e hr hlen hsz hfit => cases hb with | mx _ _ _ _ _ _ hlt => omega
  | mxS size r g off len cap b g' p hr hg => cases hb with | mx _ _ _ _ _ _ hlt => omega
  | junk v => exact .junk v
theorem ACall.lift0 {f : FuncId} {args : List AV} {v : AV} {h' : Heap} (h : ACall P G f args [] v h') (hv : Below 0 v) (hG : GBelow G) (ha : ∀ x ∈ args, Below 0 x) (σ : Heap) : ACall P G f args σ v σ := by
  refine ⟨h.1, fun w M vs hi hvs => ?_⟩
  have hvs0 : RVs w M.hide vs args := ⟨hvs.1, fun j x hj => (hvs.2 j x hj).hide (ha x (List.mem_of_getElem? hj))⟩
  refine (h.2 w M.hide vs (hi.hide hG) hvs0).mono ?_
  rintro e w' ⟨u, M', rfl, hu, he, hi'⟩
  obtain ⟨h1, h2, h3⟩ := Ext.unhide hi he
  exact ⟨u, M, rfl, hu.unhide he hv, h1, hi.keep h1 h2⟩

end
end Go.Proofs.Ytngaihdpmoajeaa.Am

namespace Go.Proofs.Ytngaihdpmoajeaa.Am
open Go
section
variable (P : Program) (G : Nat → Option (List AV)) (E : Env)

/-- A piece of code, some temporaries of it. -/
def xBody (n : Nat) (lp : Loops) (keep : List Nat) (c : Code) (st : St) : Tree (Exit × St) :=
  (xCode P G E n lp c st).bind fun r => .leaf (r.1, r.2.only keep)
end

/-- The body of a function, and a loop in it. -/
def bodyOf (P : Program) (f : FuncId) : Code :=
  match P.funcs[f]? with
  | some fn => fn.body.getD .skip
  | none => .skip
/-- The loops of a code, from the outside to the inside, in the order of the text: their bodies. -/
def loopsOf : Code → List Code
  | .seq x y => loopsOf x ++ loopsOf y
  | .cond _ x y => loopsOf x ++ loopsOf y
  | .block _ x => loopsOf x
  | .loop x => x :: loopsOf x
  | _ => []

section
variable {P : Program} {G : Nat → Option (List AV)} {E : Env}

/-- One loop's fact. -/
def LoopOk (P : Program) (G : Nat → Option (List AV)) (R : Option Nat → Prop) (m : List Nat) (lp : Loops) (x : Code) : Prop :=
  ∀ keep s0 t e st', lp (idOf x) = some (keep, s0, t) → t.sel = some (e, st') → AExec P G R (.loop x) { tmps := s0.a, marks := m } s0.h e { tmps := st'.a, marks := m } st'.h ∧ st'.n = s0.n
theorem LoopsOk.of_list {R : Option Nat → Prop} {m : List Nat} {lp : Loops} : ∀ (c : Code), (∀ x ∈ loopsOf c, LoopOk P G R m lp x) → LoopsOk P G R m lp c
  | .seq x y, h => ⟨LoopsOk.of_list x fun z hz => h z (by simp [loopsOf, hz]), LoopsOk.of_list y fun z hz => h z (by simp [loopsOf, hz])⟩
  | .cond _ x y, h => ⟨LoopsOk.of_list x fun z hz => h z (by simp [loopsOf, hz]), LoopsOk.of_list y fun z hz => h z (by simp [loopsOf, hz])⟩
  | .block _ x, h => LoopsOk.of_list x fun z hz => h z (by simpa [loopsOf] using hz)
  | .loop x, h => ⟨h x (by simp [loopsOf]), LoopsOk.of_list x fun z hz => h z (by simp [loopsOf, hz])⟩
  | .skip, _ => trivial
  | .ret, _ => trivial
  | .exit _, _ => trivial
  | .region _ _ _, _ => trivial
  | .scope _, _ => trivial
  | .rangeFunc _ _ _ _, _ => trivial
  | .label _, _ => trivial
  | .goto _, _ => trivial
  | .refuse _, _ => trivial

theorem xBody_ok (hn : NamesOk P) (hm : P.follows .mixedOrders = true) (hcl : ClOk P G E) {R : Option Nat → Prop} {m : List Nat} {lp : Loops} {n : Nat} {keep : List Nat} {c : Code} {st : St} {e : Exit} {st' : St} (hlp : LoopsOk P G R m lp c)
    (hx : (xBody P G E n lp keep c st).sel = some (e, st')) : AExec P G R c { tmps := st.a, marks := m } st.h e { tmps := st'.a, marks := m } st'.h ∧ st'.n = st.n := by
  obtain ⟨⟨e0, st0⟩, h1, h2⟩ := Tree.of_bind hx
  cases h2
  obtain ⟨h3, h4⟩ := xCode_ok hn hm hcl n R m lp c st _ _ hlp h1
  exact ⟨h3.weak_post (a' := { tmps := st0.a, marks := m }) (St.only_le keep st0), h4⟩

/-- The first round, from k on, at which a loop stops. -/
def fstStop (stop : Nat → Bool) : Nat → Nat → Nat
  | 0, k => k
  | d + 1, k => if stop k then k else fstStop stop d (k + 1)

theorem fstStop_before {stop : Nat → Bool} : ∀ (d k j : Nat), k ≤ j → j < fstStop stop d k → stop j = false
  | 0, k, j, h1, h2 => by unfold fstStop at h2; omega
  | d + 1, k, j, h1, h2 => by
    unfold fstStop at h2
    split at h2
    · omega
    · rename_i hk
      by_cases hj : j = k
      · subst hj; simpa using hk
      · exact fstStop_before d (k + 1) j (by omega) h2
end

/-- A state, laid out. -/
def St.of (n : Nat) (h : Heap) (l : List (Nat × AV × Bool)) : St := { t := l.foldl (fun t p => t.set p.1 p.2.1 p.2.2) .nil, n := n, h := h }

theorem wrap_i64 {n : Int} (h0 : -9223372036854775808 ≤ n) (h1 : n < 9223372036854775808) : IntKind.i64.wrap n = n := by
  simp [IntKind.wrap, IntKind.signed, IntKind.bits]
  omega
end Go.Proofs.Ytngaihdpmoajeaa.Am

namespace Go.Proofs.Ytngaihdpmoajeaa.Am
open Go

/-- No object at all. -/
def M0 : Map := ⟨fun _ => none, fun _ => False⟩

section
variable {P : Program} {G : Nat → Option (List AV)}

/-- What the world has before the call: known package variables. -/
theorem inv_top {w : World} (h : ∀ g cs, G g = some cs → RV w M0 (.pointer (some ⟨g, 0, none⟩)) (.row cs 0)) : Inv G w M0 [] :=
  .of h (fun _ _ _ _ _ h => by cases h) (fun _ _ h => by cases h) (fun _ _ _ h => by cases h) (fun _ h => h.elim) (fun r o h => by simp at h)

theorem imm_top {w : World} {b : Nat} (h : b < w.heap.size) : Imm w M0 b := ⟨h, (fun _ _ h => by cases h), fun h => h⟩

/-- THE CALL, SEEN FROM OUTSIDE. -/
theorem top_call {f : FuncId} {xs : List AV} {v : AV} {σ' : Heap} {w : World} {args : Array Value} (h : ACall P G f xs [] v σ') (hG : ∀ g cs, G g = some cs → RV w M0 (.pointer (some ⟨g, 0, none⟩)) (.row cs 0)) (hvs : RVs w M0 args xs) :
    Calls P f args w fun e w' => ∃ u M', e = .returned u ∧ RV w' M' u v ∧ Go.RowKit.Below w.heap.size w w' := by
  refine callsIn_wide.1 ((h.2 w M0 args (inv_top hG) hvs).mono ?_)
  rintro e w' ⟨u, M', rfl, hu, he, _⟩
  exact ⟨u, M', rfl, hu, ⟨he.os, he.tape, he.output, he.size, fun k hk => (he.imm k (imm_top hk)).2⟩⟩
end

section
variable {H : Type} {enc : TypeId × Value → H} {P : Program}
/-- What a row asks of the world behind the call, where nothing of the old has turned. -/
theorem post_of_below {f : Func} {s : ChangeSpec} {apart fresh handsOn again : Bool} {W W' : World} {args : Array Value} {v : Value} {ds gs : List (DataW H)} {before pa pv : List MemPlace}
    (hW : DataW.Whole enc P f.params.toList s.vars apart W args.toList ds gs before)
    (hres : ∀ (b : Nat) (sp : Nat → Bool) (hd : Bool), DataW.TrodAll enc P W' b sp hd f.resultTypes.toList (v.resultList f.resultTypes.size) (s.fn H (ds ++ gs)).results [])
    (hargs : ∀ sp : Nat → Bool, (∀ p ∈ before, sp p.block = true) → DataW.TrodAll enc P W' 0 sp true f.params.toList args.toList (s.fn H (ds ++ gs)).args pa)
    (hvars : ∀ sp : Nat → Bool, (∀ p ∈ before, sp p.block = true) → DataW.TrodVars enc P W' sp s.vars (s.fn H (ds ++ gs)).vars pv)
    (hps : before = pa ++ pv) (hb : Go.RowKit.Below W.heap.size W W')
    (hok : ∀ (j : Nat) (t : TypeId) (r : Value), f.resultTypes[j]? = some t → (v.resultList f.resultTypes.size)[j]? = some r → Value.okWide P W' .any 0 t r) :
    s.post enc P f apart fresh handsOn again W args v W' := by
  have hold : ∀ p ∈ before, (fun b => decide (b < W.heap.size)) p.block = true := fun p hp => by simpa using hW.lt p hp
  refine ⟨ds, gs, before, [], pa, pv, hW, hres _ _ _, hargs _ hold, hvars _ hold, hb.frame _, fun _ => ?_⟩
  have hlt := hW.lt
  obtain ⟨_, _, _, _, _, hz, hn⟩ := hW
  refine ⟨hok, _, _, ([] ++ pa) ++ pv, ⟨[] ++ pa, pv, Go.ChangeShapes.trodAll_append (hargs _ (fun _ _ => rfl)) (hres _ _ _), hvars _ (fun _ _ => rfl), rfl, ?_, ?_⟩, ?_⟩
  · intro b off hp
    have hp' : MemPlace.cell b off ∈ before := by rw [hps]; simpa using hp
    rw [hb.frozen (hlt _ hp')]
    exact hz b off hp'
  · intro ha
    have := hn ha
    rw [hps] at this
    simpa using this
  · intro p hp _
    rw [hps]
    simpa using hp
end
end Go.Proofs.Ytngaihdpmoajeaa.Am

namespace Go.Proofs.Ytngaihdpmoajeaa.Am
open Go
section
variable {P : Program} {G : Nat → Option (List AV)} {E : Env}

/-- What the code has made and the frame does not hold is forgotten. -/
theorem AExec.drop {R : Option Nat → Prop} {c : Code} {a a' : List AV} {σ g : Heap} {e : Exit} (h : AExec P G R c { tmps := a } σ e { tmps := a' } (σ ++ g)) (hv : ∀ x ∈ a', Below σ.length x) : AExec P G R c { tmps := a } σ e { tmps := a' } σ := by
  intro r0 hr w M ac Q hi ha hQ
  refine h r0 hr w M ac Q hi ha fun w' M' ac' he hi' ha' => ?_
  have hn : ∀ r p, M r = some p → r < σ.length := hi.dom
  refine hQ w' (M'.cut σ.length) ac' (he.cut hn) ?_ ⟨⟨ha'.tmps.1, fun j x hj => (ha'.tmps.2 j x hj).cut (hv x (List.mem_of_getElem? hj))⟩, ?_⟩
  · have he' := he.cut hn
    refine .of (fun q cs hq => (hi.glob q cs hq).mono he') (fun r r' b q q' h1 h2 => hi'.inj r r' b q q' (Map.cut_some h1).2 (Map.cut_some h2).2) (fun r p hr => (Map.cut_some hr).1)
      (fun r b q hr => hi'.lt r b q (Map.cut_some hr).2) (fun b hb => ⟨(hi'.far b hb).1, fun r q hr => (hi'.far b hb).2 r q (Map.cut_some hr).2⟩) (fun r o ho => ?_)
    have hr : r < σ.length := (List.getElem?_eq_some_iff.1 ho).1
    have ho' : (σ ++ g)[r]? = some o := by rw [List.getElem?_append_left hr]; exact ho
    have hold := hi.objOk ho
    have hnew := hi'.objOk ho'
    cases o with
    | cells gn c =>
      obtain ⟨b, cs, e, h1, h2, h3, h4⟩ := hnew
      obtain ⟨_, _, _, _, _, _, k4⟩ := hold
      exact ⟨b, cs, e, by rw [Map.cut_lt hr]; exact h1, h2, h3, fun j x hj => (h4 j x hj).cut ((k4 j x hj).isBelow hn)⟩
    | resv => show M'.cut _ r = none; rw [Map.cut_lt hr]; exact hnew
    | dfr => obtain ⟨b, h1, h2⟩ := hnew; exact ⟨b, by rw [Map.cut_lt hr]; exact h1, h2⟩
    | loop A =>
      obtain ⟨b, L, h1, h2, h3⟩ := hnew
      obtain ⟨_, _, _, _, k3⟩ := hold
      exact ⟨b, L, by rw [Map.cut_lt hr]; exact h1, h2, h3.state, h3.pending, h3.size, fun j x hj => (h3.tmps j x hj).cut ((k3.tmps j x hj).isBelow hn), h3.params, h3.assign, h3.body,
        by rw [Map.cut_lt (hn _ _ k3.defers.1)]; exact h3.defers.1, h3.defers.2⟩
    | gone => trivial
  · obtain ⟨bs, h1, h2, _⟩ := ha'.marks
    exact ⟨bs, h1, h2, fun i r b h => by simp at h⟩

/-- A frame that points to nothing. -/
def St.clean (st : St) : Prop := ∀ x ∈ st.a, Below 0 x
theorem Below.up {n : Nat} {x : AV} (h : Below 0 x) : Below n x := by
  induction h with
  | int k i => exact .int k i
  | bool b => exact .bool b
  | nilp => exact .nilp
  | nilf => exact .nilf
  | ref r g off h => omega
  | row cells off _ ih => exact .row cells off ih
  | sl size rows _ ih => exact .sl size rows ih
  | fl size k rows _ ih => exact .fl size k rows ih
  | zs => exact .zs
  | ms size r g off len cap h => omega
  | agg xs _ ih => exact .agg xs ih
  | tup xs _ ih => exact .tup xs ih
  | fn f xs ys _ _ ih1 ih2 => exact .fn f xs ys ih1 ih2
  | yf l h => omega
  | anyb => exact .anyb
  | mx size r g off len cap h => omega
  | junk => exact .junk

theorem of_get : ∀ (l : List (Nat × AV × Bool)) (t : PT) (j : Nat), (((l.foldl (fun t p => t.set p.1 p.2.1 p.2.2) t).get j).1 = (t.get j).1) ∨ ∃ p ∈ l, ((l.foldl (fun t p => t.set p.1 p.2.1 p.2.2) t).get j).1 = p.2.1
  | [], t, j => .inl rfl
  | p :: r, t, j => by
    rw [List.foldl_cons]
    rcases of_get r (t.set p.1 p.2.1 p.2.2) j with h | ⟨q, hq, h⟩
    · rw [PT.get_set] at h
      by_cases hj : j = p.1
      · rw [if_pos hj] at h; exact .inr ⟨p, by simp, h⟩
      · rw [if_neg hj] at h; exact .inl h
    · exact .inr ⟨q, by simp [hq], h⟩
theorem St.of_clean {n : Nat} {h : Heap} {l : List (Nat × AV × Bool)} (hl : ∀ p ∈ l, Below 0 p.2.1) : (St.of n h l).clean := by
  intro x hx
  simp only [St.a, St.of, List.mem_map] at hx
  obtain ⟨j, _, rfl⟩ := hx
  rcases of_get l .nil j with h1 | ⟨p, hp, h1⟩
  · rw [h1, PT.get_nil]; exact .junk
  · rw [h1]; exact hl p hp

/-- A piece of code from the empty heap; some temporaries of it, no object. -/
def xBody0 (P : Program) (G : Nat → Option (List AV)) (E : Env) (n : Nat) (lp : Loops) (keep : List Nat) (c : Code) (st : St) : Tree (Exit × St) :=
  (xCode P G E n lp c st).bind fun r => .leaf (r.1, { t := (r.2.only keep).t, n := r.2.n, h := [] })

theorem xBody0_ok (hn : NamesOk P) (hm : P.follows .mixedOrders = true) (hcl : ClOk P G E) {R : Option Nat → Prop} {lp : Loops} {n : Nat} {keep : List Nat} {c : Code} {st : St} {e : Exit} {st' : St} (hlp : LoopsOk P G R [] lp c)
    (h0 : st.h = []) (hc : st'.clean) (hx : (xBody0 P G E n lp keep c st).sel = some (e, st')) : AExec P G R c { tmps := st.a } [] e { tmps := st'.a } [] ∧ st'.n = st.n ∧ st'.h = [] := by
  obtain ⟨⟨e0, st0⟩, h1, h2⟩ := Tree.of_bind hx
  cases h2
  obtain ⟨h3, h4⟩ := xCode_ok hn hm hcl n R [] lp c st _ _ hlp h1
  rw [h0] at h3
  have h5 := h3.weak_post (a' := { tmps := st0.a, marks := [] }) (St.only_le keep st0)
  exact ⟨AExec.drop (σ := []) (g := st0.h) h5 hc, h4, rfl⟩

end
end Go.Proofs.Ytngaihdpmoajeaa.Am

namespace Go.Proofs.Ytngaihdpmoajeaa.Am
open Go Go.ChangeShapes Go.WideShapes

section
variable {H : Type} {enc : TypeId × Value → H} {P : Program} {w : World} {sp : Nat → Bool} {held : Bool}

end
end Go.Proofs.Ytngaihdpmoajeaa.Am

namespace Go.Proofs.Ytngaihdpmoajeaa.Am
open Go
section
variable {P : Program} {G : Nat → Option (List AV)}

/-- A call's world, its new objects forgotten. -/
theorem Inv.forget {w w' : World} {M M' : Map} {σ X : Heap} (hi : Inv G w M σ) (he : Ext w M w' M') (hi' : Inv G w' M' (σ ++ X)) : Ext w M w' (M'.cut σ.length) ∧ Inv G w' (M'.cut σ.length) σ := by
  have hn : ∀ r p, M r = some p → r < σ.length := hi.dom
  have he' := he.cut hn
  refine ⟨he', .of (fun q cs hq => (hi.glob q cs hq).mono he') (fun r r' b q q' h1 h2 => hi'.inj r r' b q q' (Map.cut_some h1).2 (Map.cut_some h2).2) (fun r p hr => (Map.cut_some hr).1)
    (fun r b q hr => hi'.lt r b q (Map.cut_some hr).2) (fun b hb => ⟨(hi'.far b hb).1, fun r q hr => (hi'.far b hb).2 r q (Map.cut_some hr).2⟩) (fun r o ho => ?_)⟩
  have hr : r < σ.length := (List.getElem?_eq_some_iff.1 ho).1
  have ho' : (σ ++ X)[r]? = some o := by rw [List.getElem?_append_left hr]; exact ho
  have hold := hi.objOk ho
  have hnew := hi'.objOk ho'
  cases o with
  | cells gn c =>
    obtain ⟨b, cs, e, h1, h2, h3, h4⟩ := hnew
    obtain ⟨_, _, _, _, _, _, k4⟩ := hold
    exact ⟨b, cs, e, by rw [Map.cut_lt hr]; exact h1, h2, h3, fun j x hj => (h4 j x hj).cut ((k4 j x hj).isBelow hn)⟩
  | resv => show M'.cut _ r = none; rw [Map.cut_lt hr]; exact hnew
  | dfr => obtain ⟨b, h1, h2⟩ := hnew; exact ⟨b, by rw [Map.cut_lt hr]; exact h1, h2⟩
  | loop A =>
    obtain ⟨b, L, h1, h2, h3⟩ := hnew
    obtain ⟨_, _, _, _, k3⟩ := hold
    exact ⟨b, L, by rw [Map.cut_lt hr]; exact h1, h2, h3.state, h3.pending, h3.size, fun j x hj => (h3.tmps j x hj).cut ((k3.tmps j x hj).isBelow hn), h3.params, h3.assign, h3.body,
      by rw [Map.cut_lt (hn _ _ k3.defers.1)]; exact h3.defers.1, h3.defers.2⟩
  | gone => trivial

/-- A new slice, told as data: its object is forgotten. -/
theorem RV.msData {w : World} {M : Map} {σ : Heap} {n : Nat} (hi : Inv G w M σ) {v : Value} {r g : Nat} {cells : List AV} (hr : n ≤ r) (hv : RV w M v (.ms 1 r g 0 cells.length cells.length)) (ho : σ[r]? = some (.cells g cells)) (hb : ∀ x ∈ cells, Below n x) :
    RV w (M.cut n) v (.sl 1 (cells.map fun y => [y])) := by
  obtain ⟨b, cs, e, hm, hh, hl, hx⟩ := hi.cells r g cells ho
  cases hv with
  | ms _ _ _ _ _ _ b' capc c' e' hm' hlen hcc hsz hfit =>
    rw [hm] at hm'
    obtain ⟨rfl, _⟩ := Prod.mk.inj (Option.some.inj hm')
    have himm : Imm w (M.cut n) b := ⟨hi.lt r b g hm, fun r' g' h' => by
      obtain ⟨k1, k2⟩ := Map.cut_some h'
      have := hi.inj r r' b g g' hm k2
      omega, hi.notFar hm⟩
    have hlen' : (cells.map fun y => ([y] : List AV)).length = cells.length := by simp
    have := RV.sl (w := w) (M := M.cut n) b 0 capc 1 (fun i j => cs.getD (i + j) Go.undef) (cells.map fun y => [y]) himm
      (fun i rw' j hrw hj => by
        have hil : i < cells.length := by have := (List.getElem?_eq_some_iff.1 hrw).1; rwa [hlen'] at this
        rw [Nat.zero_add, Nat.mul_one]
        exact cell_of_cells hh (by omega))
      (fun i rw' hrw => by
        obtain ⟨y, _, rfl⟩ := List.mem_map.1 (List.mem_of_getElem? hrw); rfl)
      (fun i rw' j z hrw hz => by
        have hil : i < cells.length := by have := (List.getElem?_eq_some_iff.1 hrw).1; rwa [hlen'] at this
        rw [List.getElem?_map] at hrw
        rw [List.getElem?_eq_getElem hil] at hrw
        cases hrw
        cases j with
        | zero =>
          simp at hz; subst hz
          exact (hx i _ (List.getElem?_eq_getElem hil)).cut (hb _ (List.getElem_mem hil))
        | succ j => simp at hz)
      (by rw [hlen']; omega)
    rw [hlen'] at this
    exact this
  | msS _ _ _ _ _ _ b' g' p capc hm' hg =>
    rw [hm] at hm'
    obtain ⟨_, rfl⟩ := Prod.mk.inj (Option.some.inj hm')
    omega

/-- A CALL THAT RETURNS A NEW SLICE: as data. -/
theorem ACall.msData {f : FuncId} {args : List AV} {σ X : Heap} {r g : Nat} {cells : List AV} (h : ACall P G f args σ (.ms 1 r g 0 cells.length cells.length) (σ ++ X)) (hr : σ.length ≤ r) (ho : (σ ++ X)[r]? = some (.cells g cells)) (hb : ∀ x ∈ cells, Below σ.length x) :
    ACall P G f args σ (.sl 1 (cells.map fun y => [y])) σ := by
  refine ⟨h.1, fun w M vs hi hvs => (h.2 w M vs hi hvs).mono ?_⟩
  rintro e w' ⟨u, M', rfl, hu, he, hi'⟩
  obtain ⟨h1, h2⟩ := hi.forget he hi'
  exact ⟨u, _, rfl, RV.msData hi' hr hu ho hb, h1, h2⟩
/-- A call whose new objects nobody holds. -/
theorem ACall.forget {f : FuncId} {args : List AV} {σ X : Heap} {v : AV} (h : ACall P G f args σ v (σ ++ X)) (hv : Below σ.length v) : ACall P G f args σ v σ := h.drop hv

end
end Go.Proofs.Ytngaihdpmoajeaa.Am

