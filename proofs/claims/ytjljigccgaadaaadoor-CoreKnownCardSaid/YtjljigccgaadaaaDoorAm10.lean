/-
  This file proves nothing of a law. It holds the rules by which facts on operations, calls and pieces of code are put together. No condition.
-/
import Derived.Test.YtjljigccgaadaaaDoorAm9
import Derived.LoopNIn
namespace Go.Proofs.YtjljigccgaadaaaDoor.Am
open Go

/-- The fence that lets everything in: of a function's frame, or of a round's. -/
def FW : Option Nat → Fence
  | none => Fence.wide
  | some l => Fence.wide.inRound l
theorem FW_fn (r : Option Nat) (f : FuncId) : (FW r).fn f := by cases r <;> trivial
theorem FW_depth (r : Option Nat) : (FW r).depth = none := by cases r <;> rfl
theorem FW_round (r : Option Nat) : (FW r).round = r := by cases r <;> rfl
theorem FW_calls {r : Option Nat} {n : Nat} {P : Program} {f : FuncId} {args : Array Value} {w : World} {R : Ending → World → Prop} (h : CallsIn Fence.wide n P f args w R) : CallsIn (FW r) n P f args w R := by
  cases r with
  | none => exact h
  | some l => exact CallsIn.inRound l h

/-- A frame of which less is said. -/
def Le (xs ys : List AV) : Prop := xs.length = ys.length ∧ ∀ (j : Nat) (y : AV), ys[j]? = some y → y = .junk ∨ xs[j]? = some y
theorem Le.refl (xs : List AV) : Le xs xs := ⟨rfl, fun _ _ h => .inr h⟩
theorem Le.nil : Le [] [] := .refl []
theorem Le.cons {x : AV} {xs ys : List AV} (h : Le xs ys) : Le (x :: xs) (x :: ys) := by
  refine ⟨by simp [h.1], fun j y hj => ?_⟩
  cases j with
  | zero => exact .inr (by simpa using hj)
  | succ j => have := h.2 j y (by simpa using hj); simpa using this
theorem Le.junk {x : AV} {xs ys : List AV} (h : Le xs ys) : Le (x :: xs) (.junk :: ys) := by
  refine ⟨by simp [h.1], fun j y hj => ?_⟩
  cases j with
  | zero => simp at hj; exact .inl hj.symm
  | succ j => have := h.2 j y (by simpa using hj); simpa using this
theorem RVs.le {w : World} {M : Map} {vs : Array Value} {xs ys : List AV} (h : RVs w M vs xs) (hl : Le xs ys) : RVs w M vs ys :=
  ⟨h.1.trans hl.1, fun j y hj => by
    rcases hl.2 j y hj with rfl | hx
    · exact .junk _
    · exact h.2 j y hx⟩
theorem RAct.le {w : World} {M : Map} {ac : Act} {a : AAct} {ys : List AV} (h : RAct w M ac a) (hl : Le a.tmps ys) : RAct w M ac { a with tmps := ys } := ⟨h.tmps.le hl, h.marks⟩

theorem RVs.append {w : World} {M : Map} {u v : Array Value} {xs ys : List AV} (h : RVs w M u xs) (k : RVs w M v ys) : RVs w M (u ++ v) (xs ++ ys) := by
  refine ⟨by simp [h.1, k.1], fun j x hj => ?_⟩
  rw [getD_append]
  by_cases hlt : j < xs.length
  · rw [List.getElem?_append_left hlt] at hj
    rw [if_pos (by rw [h.1]; exact hlt)]
    exact h.2 j x hj
  · rw [List.getElem?_append_right (by omega)] at hj
    rw [if_neg (by rw [h.1]; exact hlt), h.1]
    exact k.2 _ x hj

section
variable {P : Program} {G : Nat → Option (List AV)}

/-! ### Calls -/
/-- A function with a body of its own, entered as such. -/
def FnOk (P : Program) (f : FuncId) : Prop := ∃ fn, P.funcs[f]? = some fn ∧ fn.body.isNone = false ∧ (fn.name == "runtime.NumGoroutine") = false

/-- THE FACT ON A CALL: with these arguments over this heap the function returns that value over that heap. -/
def ACall (P : Program) (G : Nat → Option (List AV)) (f : FuncId) (args : List AV) (σ : Heap) (v : AV) (σ' : Heap) : Prop :=
  FnOk P f ∧ ∀ (w : World) (M : Map) (vs : Array Value), Inv G w M σ → RVs w M vs args →
    CallsIn Fence.wide 0 P f vs w fun e w' => ∃ u M', e = .returned u ∧ RV w' M' u v ∧ Ext w M w' M' ∧ Inv G w' M' σ'

/-! ### One operation -/
def AAct.put (a : AAct) (dst : Option Tmp) (y : AV) : AAct :=
  match dst with
  | some d => { a with tmps := a.tmps.set d y }
  | none => a

theorem RAct.put {w : World} {M : Map} {ac : Act} {a : AAct} {v : Value} {y : AV} (h : RAct w M ac a) (hv : RV w M v y) (dst : Option Tmp) : RAct w M (ac.put dst v) (a.put dst y) := by
  cases dst with
  | none => exact h
  | some d =>
    refine ⟨⟨by simp [Act.put, AAct.put, h.tmps.1], fun j x hj => ?_⟩, h.marks⟩
    simp only [Act.put, AAct.put] at hj ⊢
    by_cases hd : j = d
    · subst hd
      have hlt : j < a.tmps.length := by
        have := (List.getElem?_eq_some_iff.1 hj).1
        simpa using this
      rw [List.getElem?_set_self hlt] at hj
      cases hj
      rw [getD_set (by rw [h.tmps.1]; exact hlt), if_pos rfl]
      exact hv
    · rw [List.getElem?_set_ne (fun e => hd e.symm)] at hj
      have := h.tmps.2 j x hj
      simp only [Array.getD_eq_getD_getElem?, Array.getElem?_setIfInBounds] at this ⊢
      rw [if_neg (fun e => hd e.symm)]
      exact this

def AStep (P : Program) (G : Nat → Option (List AV)) (a : AAct) (σ : Heap) (o : Oper) (y : AV) (σ' : Heap) : Prop :=
  ∀ (r0 : Option Nat) (w : World) (M : Map) (ac : Act) (K : Act → World → Prop) (Q : Exit → Act → World → Prop), Inv G w M σ → RAct w M ac a →
    (∀ v w' M', RV w' M' v y → Ext w M w' M' → Inv G w' M' σ' → K (ac.put o.dst v) w') → o.wpIn (FW r0) 0 P ac w K Q

theorem aop_noDefer {a : List AV} {σ σ' : Heap} {o : Oper} {y : AV} (h : aop P G a σ o = some (y, σ')) : ∀ c, o.op ≠ .defer c := by
  intro c hc
  unfold aop at h
  rw [hc] at h
  cases h

theorem AStep.op {a : AAct} {σ σ' : Heap} {o : Oper} {y : AV} (h : aop P G a.tmps σ o = some (y, σ')) : AStep P G a σ o y σ' := by
  intro r0 w M ac K Q hi ha hK
  obtain ⟨v, w', M', hr, hv, he, hinv⟩ := aop_ok (P := P) hi ha.tmps h
  refine ⟨fun f _ => FW_fn r0 f, ?_⟩
  rw [Oper.semAt_eq _ _ _ (aop_noDefer h)]
  rcases hr with hr | ⟨hr, rfl⟩
  · rw [hr]; exact hK v w' M' hv he hinv
  · rw [hr]; exact hK undef w' M' hv he hinv

theorem AStep.call {a : AAct} {σ σ' : Heap} {o : Oper} {y : AV} {c : Call} {f : Operand} {g : FuncId} {first caps xs : List AV} (ho : o.op = .call c) (hc : c.callee = .value f)
    (hf : ev G a.tmps f = some (.fn g first caps)) (hx : evAll G a.tmps c.args.toList = some xs) (hcall : ACall P G g (first ++ xs ++ caps) σ y σ') : AStep P G a σ o y σ' := by
  intro r0 w M ac K Q hi ha hK
  refine ⟨fun f _ => FW_fn r0 f, ?_⟩
  have hnd : ∀ c, o.op ≠ .defer c := fun c' h => by rw [ho] at h; cases h
  rw [Oper.semAt_eq _ _ _ hnd]
  obtain ⟨⟨fn, hfn, hbody, hname⟩, hcalls⟩ := hcall
  have hfv := ev_ok hi ha.tmps hf
  have hxs := evAll_ok hi ha.tmps hx
  simp only [Array.toArray_toList] at hxs
  generalize hfe : ac.eval f = fv at hfv
  cases hfv with
  | fn _ fs cs _ _ hl1 hl2 h1 h2 =>
    have hrun : (execOp ac.eval o).run P w = .ok (.enter g (fs ++ c.args.map ac.eval ++ cs)) w := by
      unfold execOp
      simp only [ho, Sem.run_bind, resolve, hc, hfe, Deferred.ofValue, Sem.run_pure, Result.andThen_ok, invoke, callFunc, run_program, hfn, hname, Bool.false_eq_true, if_false, hbody]
    rw [hrun]
    refine ⟨fun h => (by rw [FW_depth] at h; cases h), ?_⟩
    refine (FW_calls (hcalls w M _ hi ((RVs.append ⟨hl1, h1⟩ hxs).append ⟨hl2, h2⟩))).mono ?_
    rintro e w' ⟨u, M', rfl, hu, he, hinv⟩
    exact hK u w' M' hu he hinv

/-! ### Lists of operations -/
/-- Is an operation wanted? (none: it is not known) -/
def awanted (ops : Array Oper) (tmps : List AV) (o : Oper) : Option Bool :=
  match o.guard with
  | none => some true
  | some (j, want) =>
    match ((ops[j]?).bind (·.dst)).bind (tmps[·]?) with
    | some (.bool b) => some (b == want)
    | some (.tup _) => some false
    | _ => none

theorem awanted_ok {ops : Array Oper} {w : World} {M : Map} {ac : Act} {tmps : List AV} {o : Oper} {b : Bool} (ha : RVs w M ac.tmps tmps) (h : awanted ops tmps o = some b) : Region.wanted o (yielded ops ac.tmps) = b := by
  unfold awanted at h
  unfold Region.wanted
  split at h
  · rename_i hg; rw [hg]; cases h; rfl
  · rename_i j want hg
    rw [hg]
    simp only
    unfold yielded
    cases hd : (ops[j]?).bind (·.dst) with
    | none => rw [hd] at h; cases h
    | some d =>
      rw [hd] at h
      simp only [Option.bind_some] at h ⊢
      cases ht : tmps[d]? with
      | none => rw [ht] at h; cases h
      | some x =>
        rw [ht] at h
        have hx := ha.2 d x ht
        have hlt : d < ac.tmps.size := by rw [ha.1]; exact (List.getElem?_eq_some_iff.1 ht).1
        have hget : ac.tmps[d]? = some (ac.tmps.getD d undef) := by simp [Array.getD, hlt]
        rw [hget]
        generalize ac.tmps.getD d undef = v at hx
        cases hx <;> simp only at h <;> cases h
        · rename_i b'; cases b' <;> cases want <;> rfl
        · rfl

inductive AOps (P : Program) (G : Nat → Option (List AV)) (ops : Array Oper) : List Oper → AAct → Heap → AAct → Heap → Prop where
  | nil (a : AAct) (σ : Heap) : AOps P G ops [] a σ a σ
  | step {o : Oper} {rest : List Oper} {a a' : AAct} {σ σ1 σ' : Heap} {y : AV} (hw : awanted ops a.tmps o = some true) (h : AStep P G a σ o y σ1) (k : AOps P G ops rest (a.put o.dst y) σ1 a' σ') : AOps P G ops (o :: rest) a σ a' σ'
  | skip {o : Oper} {rest : List Oper} {a a' : AAct} {σ σ' : Heap} (hw : awanted ops a.tmps o = some false) (k : AOps P G ops rest (a.put o.dst (.tup [])) σ a' σ') : AOps P G ops (o :: rest) a σ a' σ'

theorem RV.undef (w : World) (M : Map) : RV w M undef (.tup []) := .tup #[] [] rfl fun j x hj => by simp at hj

theorem AOps.ok {ops : Array Oper} {l : List Oper} {a a' : AAct} {σ σ' : Heap} (h : AOps P G ops l a σ a' σ') : ∀ (r0 : Option Nat) (w : World) (M : Map) (ac : Act) (Q : Exit → Act → World → Prop), Inv G w M σ → RAct w M ac a →
    (∀ w' M' ac', Ext w M w' M' → Inv G w' M' σ' → RAct w' M' ac' a' → Q .normal ac' w') → wpListIn (FW r0) 0 P ops Q l ac w := by
  induction h with
  | nil a σ => exact fun r0 w M ac Q hi ha hQ => hQ w M ac (.refl w M) hi ha
  | step hw h _ ih =>
    intro r0 w M ac Q hi ha hQ
    unfold wpListIn
    rw [if_pos (awanted_ok ha.tmps hw)]
    exact h r0 w M ac _ Q hi ha fun v w' M' hv he hi' => ih r0 w' M' _ Q hi' ((ha.mono he).put hv _) fun w'' M'' ac'' he' hi'' ha'' => hQ w'' M'' ac'' (he.trans he') hi'' ha''
  | skip hw _ ih =>
    intro r0 w M ac Q hi ha hQ
    unfold wpListIn
    rw [if_neg (by rw [awanted_ok ha.tmps hw]; simp)]
    exact ⟨fun f _ => FW_fn r0 f, ih r0 w M _ Q hi (ha.put (.undef w M) _) hQ⟩

/-! ### Code -/
/-- THE FACT ON A PIECE OF CODE: from this frame and heap it is left in this way, with that frame and heap. R: of what frames (none: a function's; some l: a round's) it speaks. -/
def AExec (P : Program) (G : Nat → Option (List AV)) (R : Option Nat → Prop) (c : Code) (a : AAct) (σ : Heap) (e : Exit) (a' : AAct) (σ' : Heap) : Prop :=
  ∀ r0, R r0 → ∀ (w : World) (M : Map) (ac : Act) (Q : Exit → Act → World → Prop), Inv G w M σ → RAct w M ac a →
    (∀ w' M' ac', Ext w M w' M' → Inv G w' M' σ' → RAct w' M' ac' a' → Q e ac' w') → c.wpIn (FW r0) 0 P Q ac w

variable {R : Option Nat → Prop} {a a1 a' : AAct} {σ σ1 σ' : Heap}

theorem AExec.skip : AExec P G R .skip a σ .normal a σ := fun _ _ w M ac _ hi ha hQ => wpIn_skip (hQ w M ac (.refl w M) hi ha)
theorem AExec.ret : AExec P G R .ret a σ .ret a σ := fun _ _ w M ac _ hi ha hQ => wpIn_ret (hQ w M ac (.refl w M) hi ha)
theorem AExec.exit {id : Nat} : AExec P G R (.exit id) a σ (.exit id) a σ := fun _ _ w M ac _ hi ha hQ => wpIn_exit (hQ w M ac (.refl w M) hi ha)
theorem AExec.region {id : Nat} {ops : Array Oper} (h : AOps P G ops ops.toList a σ a' σ') : AExec P G R (.region id ops false) a σ .normal a' σ' :=
  fun r0 _ w M ac Q hi ha hQ => wpIn_region_list (h.ok r0 w M ac Q hi ha hQ)

theorem AExec.seq {x y : Code} {e : Exit} (h : AExec P G R x a σ .normal a1 σ1) (k : AExec P G R y a1 σ1 e a' σ') : AExec P G R (.seq x y) a σ e a' σ' :=
  fun r0 hr w M ac Q hi ha hQ => wpIn_seq (h r0 hr w M ac _ hi ha fun w1 M1 ac1 he hi1 ha1 => k r0 hr w1 M1 ac1 Q hi1 ha1 fun w2 M2 ac2 he2 hi2 ha2 => hQ w2 M2 ac2 (he.trans he2) hi2 ha2)
theorem AExec.seq_out {x y : Code} {e : Exit} (h : AExec P G R x a σ e a' σ') (he : e ≠ .normal) : AExec P G R (.seq x y) a σ e a' σ' :=
  fun r0 hr w M ac Q hi ha hQ => wpIn_seq (h r0 hr w M ac _ hi ha fun w1 M1 ac1 h1 hi1 ha1 => by
    have := hQ w1 M1 ac1 h1 hi1 ha1
    cases e <;> first | exact this | exact absurd rfl he)

theorem AExec.cond_true {c : Operand} {x y : Code} {e : Exit} (hc : ev G a.tmps c = some (.bool true)) (h : AExec P G R x a σ e a' σ') : AExec P G R (.cond c x y) a σ e a' σ' :=
  fun r0 hr w M ac Q hi ha hQ => wpIn_cond_true (by have := ev_ok hi ha.tmps hc; generalize ac.eval c = v at this; cases this; rfl) (h r0 hr w M ac Q hi ha hQ)
theorem AExec.cond_false {c : Operand} {x y : Code} {e : Exit} (hc : ev G a.tmps c = some (.bool false)) (h : AExec P G R y a σ e a' σ') : AExec P G R (.cond c x y) a σ e a' σ' :=
  fun r0 hr w M ac Q hi ha hQ => wpIn_cond_false (by have := ev_ok hi ha.tmps hc; generalize ac.eval c = v at this; cases this; rfl) (h r0 hr w M ac Q hi ha hQ)
theorem AExec.cond {c : Operand} {x y : Code} {e : Exit} {b : Bool} (hc : ev G a.tmps c = some (.bool b)) (h : AExec P G R (if b then x else y) a σ e a' σ') : AExec P G R (.cond c x y) a σ e a' σ' := by
  cases b
  · exact .cond_false hc h
  · exact .cond_true hc h

/-- How a block is left. -/
def outOf (id : Nat) : Exit → Exit
  | .exit id' => if id' = id then .normal else .exit id'
  | e => e
theorem AExec.block {id : Nat} {c : Code} {e : Exit} (h : AExec P G R c a σ e a' σ') : AExec P G R (.block id c) a σ (outOf id e) a' σ' :=
  fun r0 hr w M ac Q hi ha hQ => wpIn_block (h r0 hr w M ac _ hi ha fun w1 M1 ac1 h1 hi1 ha1 => by
    have := hQ w1 M1 ac1 h1 hi1 ha1
    cases e <;> first | exact this | skip
    rename_i id'
    simp only [outOf] at this
    simp only [Exit.inBlock]
    split <;> rename_i hid
    · rw [if_pos hid] at this; exact this
    · rw [if_neg hid] at this; exact this)
theorem AExec.block_to {id : Nat} {c : Code} {e e' : Exit} (h : AExec P G R c a σ e a' σ') (he : outOf id e = e') : AExec P G R (.block id c) a σ e' a' σ' := he ▸ h.block

/-- A loop's rounds. -/
inductive ALoopRun (P : Program) (G : Nat → Option (List AV)) (R : Option Nat → Prop) (c : Code) : AAct → Heap → Exit → AAct → Heap → Prop where
  | stop {a a' : AAct} {σ σ' : Heap} {e : Exit} (h : AExec P G R c a σ e a' σ') (he : e ≠ .normal) : ALoopRun P G R c a σ e a' σ'
  | next {a a1 a' : AAct} {σ σ1 σ' : Heap} {e : Exit} (h : AExec P G R c a σ .normal a1 σ1) (k : ALoopRun P G R c a1 σ1 e a' σ') : ALoopRun P G R c a σ e a' σ'

theorem ALoopRun.rounds {c : Code} {e : Exit} (h : ALoopRun P G R c a σ e a' σ') : ∃ m, ∀ r0, R r0 → ∀ (w : World) (M : Map) (ac : Act) (Q : Exit → Act → World → Prop), Inv G w M σ → RAct w M ac a →
    (∀ w' M' ac', Ext w M w' M' → Inv G w' M' σ' → RAct w' M' ac' a' → Q e ac' w') → Code.roundsIn (FW r0) 0 P c Q m ac w := by
  induction h with
  | @stop a a' σ σ' e h he =>
    refine ⟨1, fun r0 hr w M ac Q hi ha hQ => ?_⟩
    exact h r0 hr w M ac _ hi ha fun w1 M1 ac1 h1 hi1 ha1 => by
      have := hQ w1 M1 ac1 h1 hi1 ha1
      cases e <;> first | exact this | exact absurd rfl he
  | next h _ ih =>
    obtain ⟨m, hm⟩ := ih
    refine ⟨m + 1, fun r0 hr w M ac Q hi ha hQ => ?_⟩
    exact h r0 hr w M ac _ hi ha fun w1 M1 ac1 h1 hi1 ha1 => hm r0 hr w1 M1 ac1 Q hi1 ha1 fun w2 M2 ac2 h2 hi2 ha2 => hQ w2 M2 ac2 (h1.trans h2) hi2 ha2

theorem AExec.loop {c : Code} {e : Exit} (h : ALoopRun P G R c a σ e a' σ') : AExec P G R (.loop c) a σ e a' σ' := by
  obtain ⟨m, hm⟩ := h.rounds
  exact fun r0 hr w M ac Q hi ha hQ => wpIn_loop_rounds m (hm r0 hr w M ac Q hi ha hQ)

theorem AExec.weak {c : Code} {e : Exit} {b : List AV} (hl : Le a.tmps b) (h : AExec P G R c { a with tmps := b } σ e a' σ') : AExec P G R c a σ e a' σ' :=
  fun r0 hr w M ac Q hi ha hQ => h r0 hr w M ac Q hi (ha.le hl) hQ
theorem AExec.weak_post {c : Code} {e : Exit} {b : List AV} (h : AExec P G R c a σ e a' σ') (hl : Le a'.tmps b) : AExec P G R c a σ e { a' with tmps := b } σ' :=
  fun r0 hr w M ac Q hi ha hQ => h r0 hr w M ac Q hi ha fun w1 M1 ac1 h1 hi1 ha1 => hQ w1 M1 ac1 h1 hi1 (ha1.le hl)
theorem AExec.mono {R' : Option Nat → Prop} {c : Code} {e : Exit} (hR : ∀ r, R' r → R r) (h : AExec P G R c a σ e a' σ') : AExec P G R' c a σ e a' σ' := fun r0 hr => h r0 (hR r0 hr)

/-! ### A function, from its body -/
/-- What the result variables hold. -/
def aResult (P : Program) (σ : Heap) (tmps : List AV) : ResultVar → Option AV
  | .tmp t => tmps[t]?
  | .cell t ty => (tmps[t]?).bind (aLoad P σ ty)
def aResults (P : Program) (σ : Heap) (tmps : List AV) : List ResultVar → Option (List AV)
  | [] => some []
  | r :: rs => match aResult P σ tmps r, aResults P σ tmps rs with
    | some x, some xs => some (x :: xs)
    | _, _ => none
def asOne : List AV → AV
  | [x] => x
  | xs => .tup xs

def resOf (tmps : Array Value) (r : ResultVar) : Sem Value :=
  match r with
  | .tmp t => pure (tmps.getD t undef)
  | .cell a t => do loadVar t (← asAddr (tmps.getD a undef))
theorem results_eq (fn : Func) (tmps : Array Value) : results fn tmps = (do let vs ← fn.results.mapM (resOf tmps); pure (if h : vs.size = 1 then vs[0] else .tuple vs)) := rfl

theorem aResults_ok {w : World} {M : Map} {ac : Act} {tmps : List AV} (hi : Inv G w M σ) (ha : RVs w M ac.tmps tmps) : ∀ {rs : List ResultVar} {xs : List AV}, aResults P σ tmps rs = some xs →
    ∃ vs : List Value, (rs.mapM (resOf ac.tmps)).run P w = .ok vs w ∧ RVs w M vs.toArray xs
  | [], xs, h => by cases h; exact ⟨[], rfl, rfl, fun j x hj => by simp at hj⟩
  | r :: rs, xs, h => by
    unfold aResults at h
    split at h
    · rename_i x ys hx hy
      cases h
      obtain ⟨vs, h1, h2, h3⟩ := aResults_ok hi ha hy
      have hone : ∃ v, ((resOf ac.tmps) r).run P w = .ok v w ∧ RV w M v x := by
        cases r with
        | tmp t => exact ⟨_, rfl, ha.2 t x hx⟩
        | cell t ty =>
          obtain ⟨p, hp, hl⟩ := Option.bind_eq_some_iff.1 hx
          have hpv := ha.2 t p hp
          obtain ⟨v, k1, k2⟩ := aLoad_ok (P := P) hi hpv hl
          refine ⟨v, ?_, k2⟩
          unfold resOf
          simp only
          generalize ac.tmps.getD t undef = pv at hpv k1 ⊢
          cases hpv <;> first | (simp only [aLoad] at hl; cases hl; done) | (simpa [Instr.loadAt, Instr.sureAddr, asAddr] using k1)
      obtain ⟨v, k1, k2⟩ := hone
      refine ⟨v :: vs, ?_, ?_⟩
      · simp only [List.mapM_cons, Sem.run_bind, k1, Result.andThen_ok, h1, Sem.run_pure]
      · refine ⟨by simpa using h2, fun j q hj => ?_⟩
        cases j with
        | zero => simp at hj; subst hj; simpa [Array.getD_eq_getD_getElem?] using k2
        | succ j => have := h3 j q (by simpa using hj); simpa [Array.getD_eq_getD_getElem?] using this
    · cases h

theorem results_ok {w : World} {M : Map} {ac : Act} {tmps : List AV} {fn : Func} {xs : List AV} (hi : Inv G w M σ) (ha : RVs w M ac.tmps tmps) (h : aResults P σ tmps fn.results.toList = some xs) :
    ∃ v, (results fn ac.tmps).run P w = .ok v w ∧ RV w M v (asOne xs) := by
  obtain ⟨vs, h1, h2, h3⟩ := aResults_ok (P := P) hi ha h
  have hm : (fn.results.mapM (resOf ac.tmps)).run P w = .ok vs.toArray w := by
    rw [Array.mapM_eq_mapM_toList]
    simp only [Sem.run_map, h1, Result.andThen_ok]
  rw [results_eq]
  simp only [Sem.run_bind, hm, Result.andThen_ok, Sem.run_pure]
  refine ⟨_, rfl, ?_⟩
  match xs, vs, h2 with
  | [], [], _ => exact .tup _ _ rfl (fun j x hj => by simp at hj)
  | [x], [v], _ => simpa [asOne] using h3 0 x rfl
  | x :: y :: r, v :: u :: s, hl => 
    have : ¬ ((v :: u :: s).toArray.size = 1) := by simp
    rw [dif_neg this]
    exact .tup _ _ hl h3

/-- A function without a range over a function, from its body. -/
theorem ACall.of_body {f : FuncId} {fn : Func} {c : Code} {args : List AV} {tmps : List AV} {e : Exit} {xs : List AV} (hf : P.funcs[f]? = some fn) (hb : fn.body = some c) (hn : (fn.name == "runtime.NumGoroutine") = false)
    (h : AExec P G (fun r => r = none) c { tmps := args ++ List.replicate (fn.ntmps - args.length) (.tup []) } σ e { tmps := tmps } σ') (he : e = .normal ∨ e = .ret)
    (hres : aResults P σ' tmps fn.results.toList = some xs) : ACall P G f args σ (asOne xs) σ' := by
  refine ⟨⟨fn, hf, by rw [hb]; rfl, hn⟩, fun w M vs hi hvs => ?_⟩
  refine callsIn_of_wp hf hb trivial (h none rfl w M _ _ hi ⟨?_, [], rfl, rfl, fun i r b hi => by simp at hi⟩ fun w' M' ac' hext hi' ha' => ?_)
  · rw [hvs.1]
    refine hvs.append ⟨by simp, fun j x hj => ?_⟩
    have hx := List.eq_of_mem_replicate (List.mem_of_getElem? hj)
    have hlt : j < fn.ntmps - args.length := by
      have := (List.getElem?_eq_some_iff.1 hj).1
      simpa using this
    subst hx
    simp only [Array.getD, Array.size_replicate, hlt, dite_true]
    simpa using RV.undef w M
  · obtain ⟨v, hv, hrv⟩ := results_ok (P := P) hi' ha'.tmps hres
    obtain ⟨bs, hd, hl, _⟩ := ha'.marks
    have hd0 : ac'.defers = [] := by
      rw [hd]
      have : bs = [] := List.eq_nil_of_length_eq_zero (by simpa using hl)
      rw [this]; rfl
    have hpost : ac'.defers = [] ∧ ∃ v, (results fn ac'.tmps).run P w' = .ok v w' ∧ ∃ u M', Ending.returned v = .returned u ∧ RV w' M' u (asOne xs) ∧ Ext w M w' M' ∧ Inv G w' M' σ' :=
      ⟨hd0, v, hv, v, M', rfl, hrv, hext, hi'⟩
    rcases he with rfl | rfl
    · exact hpost
    · exact hpost

/-- What the call has made and nobody holds any more is forgotten. -/
theorem ACall.drop {f : FuncId} {args : List AV} {v : AV} {g : Heap} (h : ACall P G f args σ v (σ ++ g)) (hv : Below σ.length v) : ACall P G f args σ v σ := by
  refine ⟨h.1, fun w M vs hi hvs => (h.2 w M vs hi hvs).mono ?_⟩
  rintro e w' ⟨u, M', rfl, hu, he, hi'⟩
  have hn : ∀ r p, M r = some p → r < σ.length := hi.dom
  have he' := he.cut hn
  refine ⟨u, M'.cut σ.length, rfl, hu.cut hv, he', ?_⟩
  refine .of (fun q cs hq => (hi.glob q cs hq).mono he') (fun r r' b q q' h1 h2 => hi'.inj r r' b q q' (Map.cut_some h1).2 (Map.cut_some h2).2) (fun r p hr => (Map.cut_some hr).1)
    (fun r b q hr => hi'.lt r b q (Map.cut_some hr).2) (fun b hb => ⟨(hi'.far b hb).1, fun r q hr => (hi'.far b hb).2 r q (Map.cut_some hr).2⟩) (fun r o ho => ?_)
  have hr : r < σ.length := (List.getElem?_eq_some_iff.1 ho).1
  have ho' : (σ ++ g)[r]? = some o := by rw [List.getElem?_append_left hr]; exact ho
  have hold := hi.objOk ho
  have hnew := hi'.objOk ho'
  cases o with
  | cells gn c =>
    obtain ⟨b, cs, e, h1, h2, h3, h4⟩ := hnew
    obtain ⟨_, _, _, _, _, _, k4⟩ := hold
    exact ⟨b, cs, e, by rw [Map.cut_lt hr]; exact h1, h2, h3, fun j x hj => (h4 j x hj).cut ((k4 j x hj).isBelow hn)⟩
  | resv => show M'.cut _ r = none; rw [Map.cut_lt hr]; exact hnew
  | dfr => obtain ⟨b, h1, h2⟩ := hnew; exact ⟨b, by rw [Map.cut_lt hr]; exact h1, h2⟩
  | loop A =>
    obtain ⟨b, L, h1, h2, h3⟩ := hnew
    obtain ⟨_, _, _, _, k3⟩ := hold
    exact ⟨b, L, by rw [Map.cut_lt hr]; exact h1, h2, h3.state, h3.pending, h3.size, fun j x hj => (h3.tmps j x hj).cut ((k3.tmps j x hj).isBelow hn), h3.params, h3.assign, h3.body,
      by rw [Map.cut_lt (hn _ _ k3.defers.1)]; exact h3.defers.1, h3.defers.2⟩
  | gone => trivial
end
end Go.Proofs.YtjljigccgaadaaaDoor.Am
