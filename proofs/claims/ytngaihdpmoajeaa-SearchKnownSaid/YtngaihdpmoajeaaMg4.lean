/-
  This file proves nothing of a law. It holds lemmas, of 12 texts in their order. No condition of its own.
-/
import Derived.Test.YtngaihdpmoajeaaMg3
import Derived.Test.YtngaihdpmoajeaaRows
namespace Go.Proofs.Ytngaihdpmoajeaa.Am
open Go

/-- Values that point nowhere. -/
inductive Flat : AV → Prop
  | int (k : IntKind) (n : Int) : Flat (.int k n)
  | bool (b : Bool) : Flat (.bool b)
  | nilp : Flat .nilp
  | nilf : Flat .nilf
  | zs : Flat .zs
  | anyb : Flat .anyb
  | junk : Flat .junk
  | tup (xs : List AV) (h : ∀ (j : Nat) (x : AV), xs[j]? = some x → Flat x) : Flat (.tup xs)
  | agg (xs : List AV) (h : ∀ (j : Nat) (x : AV), xs[j]? = some x → Flat x) : Flat (.agg xs)
theorem RV.flat {w w' : World} {M M' : Map} {v : Value} {x : AV} (hv : RV w M v x) (hf : Flat x) : RV w' M' v x := by
  induction hv with
  | int k i => exact .int k i
  | bool b => exact .bool b
  | nilp => exact .nilp
  | nilf => exact .nilf
  | zs base => exact .zs base
  | anyb b => exact .anyb b
  | junk v => exact .junk v
  | agg vs xs hl _ ih => cases hf with | agg _ h => exact .agg vs xs hl fun j x hj => ih j x hj (h j x hj)
  | tup vs xs hl _ ih => cases hf with | tup _ h => exact .tup vs xs hl fun j x hj => ih j x hj (h j x hj)
  | _ => cases hf

section
variable {P : Program} {G : Nat → Option (List AV)}
/-- All the caller's objects, as data. -/
def Map.opened (M : Map) : Map := ⟨fun _ => none, M.far⟩
theorem Imm.opened {w : World} {M : Map} {b : Nat} (h : Imm w M b) : Imm w M.opened b := ⟨h.1, fun _ _ h => (by cases h), h.2.2⟩
theorem RV.opened {w : World} {M : Map} {v : Value} {x : AV} (hv : RV w M v x) (hb : Below 0 x) : RV w M.opened v x := by
  induction hv with
  | int k i => exact .int k i
  | bool b => exact .bool b
  | nilp => exact .nilp
  | nilf => exact .nilf
  | ref r g off b hr => cases hb with | ref _ _ _ hlt => omega
  | refS r g off b g' p hr hg => cases hb with | ref _ _ _ hlt => omega
  | row b o off f cells hi hc _ ih => cases hb with | row _ _ h => exact .row b o off f cells hi.opened hc fun j x hj => ih j x hj (h j x hj)
  | sl0 base cap size => exact .sl0 base cap size
  | sl b o cap size f rows hi hc hl _ hcap ih => cases hb with | sl _ _ h => exact .sl b o cap size f rows hi.opened hc hl (fun i r j x hi hj => ih i r j x hi hj (h i r j x hi hj)) hcap
  | fl v size k rows _ ih => cases hb with | fl _ _ _ h => exact .fl _ size k rows (ih h)
  | zs base => exact .zs base
  | ms size r g off len cap b capc c e hr hlen hcc hsz hfit => cases hb with | ms _ _ _ _ _ _ hlt => omega
  | msS size r g off len cap b g' p capc hr hg => cases hb with | ms _ _ _ _ _ _ hlt => omega
  | agg vs xs hl _ ih => cases hb with | agg _ h => exact .agg vs xs hl fun j x hj => ih j x hj (h j x hj)
  | tup vs xs hl _ ih => cases hb with | tup _ h => exact .tup vs xs hl fun j x hj => ih j x hj (h j x hj)
  | fn f fs cs xs ys hl1 hl2 _ _ ih1 ih2 => cases hb with | fn _ _ _ h1 h2 => exact .fn f fs cs xs ys hl1 hl2 (fun j x hj => ih1 j x hj (h1 j x hj)) (fun j x hj => ih2 j x hj (h2 j x hj))
  | yf l b hr => cases hb with | yf _ hlt => omega
  | yfS l b g fn fs cs hr hg => cases hb with | yf _ hlt => omega
  | anyb b => exact .anyb b
  | mx size r g off len cap b c e hr hlen hsz hfit => cases hb with | mx _ _ _ _ _ _ hlt => omega
  | mxS size r g off len cap b g' p hr hg => cases hb with | mx _ _ _ _ _ _ hlt => omega
  | junk v => exact .junk v
theorem Inv.opened {w : World} {M : Map} {σ : Heap} (hi : Inv G w M σ) (hG : GBelow G) : Inv G w M.opened [] := by
  refine .of (fun g cs hg => (hi.glob g cs hg).opened (hG g cs hg)) (fun r r' b g g' h1 _ => ?_) (fun r p h1 => ?_) (fun r b g h1 => ?_) (fun b hb => ⟨(hi.far b hb).1, fun r g h => by cases h⟩) (fun r o h1 => by simp at h1)
  · cases h1
  · cases h1
  · cases h1
/-- What the caller sees of a call that took its objects as data. -/
theorem Ext.unopened {w w' : World} {M M' : Map} {σ : Heap} (hi : Inv G w M σ) (he : Ext w M.opened w' M') : Ext w M w' M ∧ ∀ r b g, M r = some (b, g) → w'.heap[b]? = w.heap[b]? := by
  have himm : ∀ r b g, M r = some (b, g) → Imm w M.opened b := fun r b g hr => ⟨hi.lt r b g hr, fun _ _ h => (by cases h), fun hf => (hi.far b hf).2 r g hr⟩
  have hsame : ∀ r b g, M r = some (b, g) → w'.heap[b]? = w.heap[b]? := fun r b g hr => (he.imm b (himm r b g hr)).2
  refine ⟨⟨he.size, he.os, he.tape, he.output, fun b hb => ⟨⟨Nat.lt_of_lt_of_le hb.1 he.size, hb.2⟩, (he.imm b hb.opened).2⟩, fun r b g hr => ⟨b, g, hr, .inr ⟨rfl, rfl⟩⟩, fun r b g c e0 fr hr _ hc => ⟨c, ?_, rfl⟩, fun r b hr hn => ⟨hr, ?_, fun c e0 fr hc => ?_⟩,
    rfl, fun b hb hl => he.far.2 b hb hl⟩, hsame⟩
  · rw [hsame r b g hr]; exact hc
  · exact Nat.lt_of_lt_of_le hn.1 he.size
  · rw [hsame r b 0 hr] at hc; exact hn.2 c e0 fr hc

/-- A slice of the caller's, as data. -/
theorem RV.msOpen {w : World} {M : Map} {σ : Heap} (hi : Inv G w M σ) {v : Value} {r g : Nat} {cells : List AV} (hv : RV w M v (.ms 1 r g 0 cells.length cells.length)) (ho : σ[r]? = some (.cells g cells)) (hb : ∀ x ∈ cells, Below 0 x) :
    RV w M.opened v (.sl 1 (cells.map fun y => [y])) := by
  obtain ⟨b, cs, e, hm, hh, hl, hx⟩ := hi.cells r g cells ho
  cases hv with
  | ms _ _ _ _ _ _ b' capc c' e' hm' hlen hcc hsz hfit =>
    rw [hm] at hm'
    obtain ⟨rfl, _⟩ := Prod.mk.inj (Option.some.inj hm')
    have himm : Imm w M.opened b := ⟨hi.lt r b g hm, fun r' g' h' => (by cases h'), hi.notFar hm⟩
    have hlen' : (cells.map fun y => ([y] : List AV)).length = cells.length := by simp
    have := RV.sl (w := w) (M := M.opened) b 0 capc 1 (fun i j => cs.getD (i + j) Go.undef) (cells.map fun y => [y]) himm
      (fun i rw' j hrw hj => by
        have hil : i < cells.length := by have := (List.getElem?_eq_some_iff.1 hrw).1; rwa [hlen'] at this
        rw [Nat.zero_add, Nat.mul_one]
        exact cell_of_cells hh (by omega))
      (fun i rw' hrw => by
        obtain ⟨y, _, rfl⟩ := List.mem_map.1 (List.mem_of_getElem? hrw); rfl)
      (fun i rw' j z hrw hz => by
        have hil : i < cells.length := by have := (List.getElem?_eq_some_iff.1 hrw).1; rwa [hlen'] at this
        rw [List.getElem?_map] at hrw
        rw [List.getElem?_eq_getElem hil] at hrw
        cases hrw
        cases j with
        | zero =>
          simp at hz; subst hz
          exact (hx i _ (List.getElem?_eq_getElem hil)).opened (hb _ (List.getElem_mem hil))
        | succ j => simp at hz)
      (by rw [hlen']; omega)
    rw [hlen'] at this
    exact this
  | msS _ _ _ _ _ _ b' g' p capc hm' hg =>
    rw [hm] at hm'
    obtain ⟨_, rfl⟩ := Prod.mk.inj (Option.some.inj hm')
    omega
/-- x, taken as data, is x'. -/
def Frz (σ : Heap) (x x' : AV) : Prop := (∃ k, freeze σ k x = some x') ∨ (Below 0 x ∧ x' = x) ∨ ∃ r g cells, x = .ms 1 r g 0 cells.length cells.length ∧ σ[r]? = some (.cells g cells) ∧ (∀ y ∈ cells, Below 0 y) ∧ x' = .sl 1 (cells.map fun y => [y])
theorem RV.frz {w : World} {M : Map} {σ : Heap} (hi : Inv G w M σ) {v : Value} {x x' : AV} (hv : RV w M v x) (hf : Frz σ x x') : RV w M.opened v x' := by
  rcases hf with ⟨k, hk⟩ | ⟨hb, rfl⟩ | ⟨r, g, cells, rfl, ho, hb, rfl⟩
  · exact freeze_ok (Mx := M.opened) hi (fun r b g hr => ⟨fun _ _ h => (by cases h), fun h => (hi.far b h).2 r g hr⟩) k hv hk
  · exact hv.opened hb
  · exact RV.msOpen hi hv ho hb
theorem RVs.frz {w : World} {M : Map} {σ : Heap} (hi : Inv G w M σ) {vs : Array Value} {xs xs' : List AV} (hv : RVs w M vs xs) (hl : xs.length = xs'.length) (hx : ∀ (j : Nat) (x' : AV), xs'[j]? = some x' → ∃ x, xs[j]? = some x ∧ Frz σ x x') : RVs w M.opened vs xs' :=
  ⟨by rw [hv.1, hl], fun j x' hj => by
    obtain ⟨x, h1, h2⟩ := hx j x' hj
    exact (hv.2 j x h1).frz hi h2⟩
/-- A CALL THAT TAKES THE CALLER'S OBJECTS AS DATA. -/
theorem ACall.frz {f : FuncId} {xs xs' : List AV} {σ σ0 : Heap} {v : AV} (h : ACall P G f xs' [] v σ0) (hG : GBelow G) (hv : Flat v) (hl : xs.length = xs'.length) (hx : ∀ (j : Nat) (x' : AV), xs'[j]? = some x' → ∃ x, xs[j]? = some x ∧ Frz σ x x') : ACall P G f xs σ v σ := by
  refine ⟨h.1, fun w M vs hi hvs => (h.2 w M.opened vs (hi.opened hG) (hvs.frz hi hl hx)).mono ?_⟩
  rintro e w' ⟨u, M', rfl, hu, he, _⟩
  obtain ⟨h1, h2⟩ := Ext.unopened hi he
  exact ⟨u, M, rfl, hu.flat hv, h1, hi.keep h1 h2⟩
/-- THE REST OF A BODY, which takes all objects as data. -/
theorem AExec.frz {R : Option Nat → Prop} {c : Code} {a a' a2 : List AV} {σ σ0 : Heap} {e : Exit} (h : AExec P G R c { tmps := a' } [] e { tmps := a2 } σ0) (hG : GBelow G) (hv : ∀ x ∈ a2, Flat x) (hl : a.length = a'.length) (hx : ∀ (j : Nat) (x' : AV), a'[j]? = some x' → ∃ x, a[j]? = some x ∧ Frz σ x x') :
    AExec P G R c { tmps := a } σ e { tmps := a2 } σ := by
  intro r0 hr w M ac Q hi ha hQ
  obtain ⟨bs, m1, m2, m3⟩ := ha.marks
  refine h r0 hr w M.opened ac Q (hi.opened hG) ⟨ha.tmps.frz hi hl hx, bs, m1, m2, fun i r b h => by simp at h⟩ fun w' M' ac' he hi' ha' => ?_
  obtain ⟨h1, h2⟩ := Ext.unopened hi he
  obtain ⟨bs', k1, k2, k3⟩ := ha'.marks
  exact hQ w' M ac' h1 (hi.keep h1 h2) ⟨⟨ha'.tmps.1, fun j x hj => (ha'.tmps.2 j x hj).flat (hv x (List.mem_of_getElem? hj))⟩, bs', k1, k2, fun i r b h => by simp at h⟩
end
end Go.Proofs.Ytngaihdpmoajeaa.Am

namespace Go.Proofs.Ytngaihdpmoajeaa.Am
open Go
section
variable {P : Program} {G : Nat → Option (List AV)}

/-! ### Is a slice nil? -/
/-- What is known of it: of one without room nothing. -/
def hNil (t : TypeId) : Heap → Oper → (Operand → Option AV) → Option (AV × Bool × Heap × Prop) := fun h o ρ => match o.op with
  | .binOp .eql t' x (.const (.slice none 0 0)) _ => if t' = t then match ρ x with
    | some .zs => some (.anyb, true, h, True)
    | some (.ms _ r g _ _ _) => some (.bool false, true, h, (objAt h r g).isSome = true)
    | some (.fl _ _ _) => some (.anyb, true, h, True)
    | some (.sl _ _) => some (.anyb, true, h, True)
    | _ => none
    else none
  | _ => none
theorem eq_nil {t e : TypeId} (hu : P.underlying t = some (.slice e)) (p : Option Addr) (l c : Nat) (w : World) : (Op.equal t (.slice p l c) (.slice none 0 0)).run P w = .ok p.isNone w := by
  show (Op.equalIn (9999 + 1) t _ _).run P w = _
  unfold Op.equalIn
  cases p <;> simp [run_underlying', hu]
theorem step_nil {t e : TypeId} (hu : P.underlying t = some (.slice e)) {a : AAct} {σ : Heap} {o : Oper} {x : Operand} {z : TypeId} {v y : AV} (ho : o.op = .binOp .eql t x (.const (.slice none 0 0)) z) (hx : ev G a.tmps x = some v)
    (hv : ∀ w M u, Inv G w M σ → RV w M u v → ∃ p l c, u = .slice p l c ∧ RV w M (.bool p.isNone) y) : AStep P G a σ o y σ := by
  intro r0 w M ac K Q hi ha hK
  refine ⟨fun f _ => FW_fn r0 f, ?_⟩
  have hnd : ∀ c, o.op ≠ .defer c := fun c' h => by rw [ho] at h; cases h
  rw [Oper.semAt_eq _ _ _ hnd]
  obtain ⟨p, l, c, hu2, hy⟩ := hv w M _ hi (ev_ok hi ha.tmps hx)
  have hrun : (execOp ac.eval o).run P w = .ok (.value (.bool p.isNone)) w := by
    unfold execOp
    simp only [ho]
    have h1 : ac.eval (.const (.slice none 0 0)) = .slice none 0 0 := rfl
    have hg : (eqGuard .eql t x (.const (.slice none 0 0)) (.slice p l c) (.slice none 0 0)).run P w = .ok () w := rfl
    simp only [hu2, h1, Sem.run_bind, hg, Result.andThen_ok, binOp, eq_nil hu]
    rfl
  rw [hrun]
  exact hK _ w M hy (.refl w M) hi
theorem hNil_ok {t e : TypeId} (hu : P.underlying t = some (.slice e)) : HintOk P G (hNil t) := by
  refine ⟨fun h o a m y s h' p hh hp => ?_, fun h o ρ y s h' p hh hp _ => ?_⟩
  · unfold hNil at hh
    split at hh
    · rename_i t' x z ho
      split at hh
      · rename_i ht
        subst ht
        split at hh
        · rename_i hx
          cases hh
          exact step_nil hu ho hx fun w M u _ hr => by cases hr; exact ⟨_, _, _, rfl, .anyb _⟩
        · rename_i hx
          cases hh
          exact step_nil hu ho hx fun w M u hi hr => by
            obtain ⟨c, hc⟩ := Option.isSome_iff_exists.1 hp
            obtain ⟨b, cs, e, hm, hh, hl, hx⟩ := hi.obj hc
            cases hr with
            | ms _ _ _ _ _ _ b' capc c' e' hm' hlen hcc hsz hfit => exact ⟨_, _, _, rfl, .bool _⟩
            | msS _ _ _ _ _ _ b' g' p capc hm' hg =>
              rw [hm] at hm'
              obtain ⟨_, rfl⟩ := Prod.mk.inj (Option.some.inj hm')
              omega
        · rename_i hx
          cases hh
          exact step_nil hu ho hx fun w M u _ hr => by
            cases hr with
            | fl _ _ _ _ hr =>
              generalize (List.range _).map _ = rows at hr
              cases hr with
              | sl0 base cap size => exact ⟨_, _, _, rfl, .anyb _⟩
              | sl b o cap size f rows hb hc hl h hcap => exact ⟨_, _, _, rfl, .anyb _⟩
        · rename_i hx
          cases hh
          exact step_nil hu ho hx fun w M u _ hr => by
            cases hr with
            | sl0 base cap size => exact ⟨_, _, _, rfl, .anyb _⟩
            | sl b o cap size f rows hb hc hl h hcap => exact ⟨_, _, _, rfl, .anyb _⟩
        · cases hh
      · cases hh
    · cases hh
  · unfold hNil at hh
    split at hh
    · split at hh
      · split at hh
        · cases hh; rfl
        · cases hh; rfl
        · cases hh; rfl
        · cases hh; rfl
        · cases hh
      · cases hh
    · cases hh

/-- One that has elements is not. -/
def hNilF (t : TypeId) : Heap → Oper → (Operand → Option AV) → Option (AV × Bool × Heap × Prop) := fun h o ρ => match o.op with
  | .binOp .eql t' x (.const (.slice none 0 0)) _ => if t' = t then match ρ x with
    | some (.fl _ n _) => some (.bool false, true, h, 0 < n)
    | some (.sl _ rows) => some (.bool false, true, h, 0 < rows.length)
    | _ => none
    else none
  | _ => none
theorem hNilF_ok {t e : TypeId} (hu : P.underlying t = some (.slice e)) : HintOk P G (hNilF t) := by
  refine ⟨fun h o a m y s h' p hh hp => ?_, fun h o ρ y s h' p hh hp _ => ?_⟩
  · unfold hNilF at hh
    split at hh
    · rename_i t' x z ho
      split at hh
      · rename_i ht
        subst ht
        split at hh
        · rename_i size n rows hx
          cases hh
          exact step_nil hu ho hx fun w M u _ hr => by
            cases hr with
            | fl _ _ _ _ hr =>
              generalize hrows : (List.range n).map rows = rws at hr
              have hlen : rws.length = n := by rw [← hrows]; simp
              cases hr with
              | sl0 base cap size => simp at hlen; omega
              | sl b o cap size f rows hb hc hl h hcap => exact ⟨_, _, _, rfl, .bool _⟩
        · rename_i size rows hx
          cases hh
          exact step_nil hu ho hx fun w M u _ hr => by
            cases hr with
            | sl0 base cap size => simp at hp
            | sl b o cap size f rows hb hc hl h hcap => exact ⟨_, _, _, rfl, .bool _⟩
        · cases hh
      · cases hh
    · cases hh
  · unfold hNilF at hh
    split at hh
    · split at hh
      · split at hh
        · cases hh; rfl
        · cases hh; rfl
        · cases hh
      · cases hh
    · cases hh

/-! ### A truth value that is not known -/
theorem RAct.known {w : World} {M : Map} {ac : Act} {a : List AV} {m : List Nat} (ha : RAct w M ac { tmps := a, marks := m }) {i : Nat} (hi : a[i]? = some .anyb) : ∃ b, ac.tmps.getD i undef = .bool b ∧ RAct w M ac { tmps := a.set i (.bool b), marks := m } := by
  have hv := ha.tmps.2 i .anyb hi
  generalize hu : ac.tmps.getD i undef = u at hv
  cases hv with
  | anyb b =>
    refine ⟨b, rfl, ⟨by rw [ha.tmps.1]; simp, fun j x hj => ?_⟩, ha.marks⟩
    rw [List.getElem?_set] at hj
    split at hj
    · rename_i hij
      subst hij
      split at hj
      · cases hj; rw [hu]; exact .bool b
      · cases hj
    · exact ha.tmps.2 j x hj
/-- A truth value that is not known decides between a return and going on. -/
theorem AExec.fork {R : Option Nat → Prop} {x y n z : Code} {a a1 a2 : List AV} {a' : AAct} {σ σ1 σ2 σ' : Heap} {e : Exit} {i : Nat} (hx : AExec P G R x { tmps := a } σ .normal { tmps := a1 } σ1) (hi : a1[i]? = some .anyb) (he : e ≠ .normal)
    (ht : AExec P G R y { tmps := a1.set i (.bool true) } σ1 e a' σ') (hf : AExec P G R n { tmps := a1.set i (.bool false) } σ1 .normal { tmps := a2 } σ2) (hz : AExec P G R z { tmps := a2 } σ2 e a' σ') :
    AExec P G R (.seq (.seq x (.cond (.tmp i) y n)) z) { tmps := a } σ e a' σ' :=
  fun r0 hr w M ac Q hinv ha hQ => wpIn_seq (wpIn_seq (hx r0 hr w M ac _ hinv ha fun w1 M1 ac1 h1 hi1 ha1 => by
    obtain ⟨b, hb, hab⟩ := ha1.known hi
    refine wpIn_cond (t := b) hb ?_
    cases b with
    | true =>
      refine ht r0 hr w1 M1 ac1 _ hi1 hab fun w2 M2 ac2 h2 hi2 ha2 => ?_
      have := hQ w2 M2 ac2 (h1.trans h2) hi2 ha2
      cases e <;> first | exact this | exact absurd rfl he
    | false =>
      exact hf r0 hr w1 M1 ac1 _ hi1 hab fun w2 M2 ac2 h2 hi2 ha2 => hz r0 hr w2 M2 ac2 _ hi2 ha2 fun w3 M3 ac3 h3 hi3 ha3 => hQ w3 M3 ac3 ((h1.trans h2).trans h3) hi3 ha3))
end
end Go.Proofs.Ytngaihdpmoajeaa.Am

namespace Go.Proofs.Ytngaihdpmoajeaa.Am
open Go
section
variable {P : Program} {G : Nat → Option (List AV)}

/-- What one operation is worth, whatever has been carried out. H: the heap, by what has been carried out. -/
def WorthM (P : Program) (G : Nat → Option (List AV)) (H : (Nat → Bool) → Heap) (ops : List Oper) (marks : List Nat) (i : Nat) (o : Oper) (v : List AV) (y : AV) : Prop :=
  ∀ f : Nat → Bool, Closed ops f → (∀ j, ops.length ≤ j → f j = false) → f i = false → (∀ e ∈ o.after, Region.binds .any e = true → f e.on = true) →
    (awanted ops.toArray v o = some true ∧ AStep P G { tmps := v, marks := marks } (H f) o y (H fun j => decide (j = i) || f j)) ∨ (awanted ops.toArray v o = some false ∧ y = .tup [] ∧ H (fun j => decide (j = i) || f j) = H f)

theorem WorthM.ok {H : (Nat → Bool) → Heap} {ops : List Oper} {marks : List Nat} {o : Oper} {v : List AV} {y : AV} {i : Nat} (h : WorthM P G H ops marks i o v y) {f : Nat → Bool} (hc : Closed ops f) (hlen : ∀ j, ops.length ≤ j → f j = false) (hu : f i = false) (hp : ∀ e ∈ o.after, Region.binds .any e = true → f e.on = true)
    {r0 : Option Nat} {w : World} {M : Map} {ac : Act} {K : Act → World → Prop} {Q : Exit → Act → World → Prop} (ho : ops.toArray[i]? = some o)
    (hi : Inv G w M (H f)) (ha : RAct w M ac { tmps := v, marks := marks }) (hK : ∀ u w' M', RV w' M' u y → Ext w M w' M' → Inv G w' M' (H fun j => decide (j = i) || f j) → K (ac.put o.dst u) w') : wpOpIn (FW r0) 0 P ops.toArray Q i K ac w := by
  unfold wpOpIn
  simp only [ho]
  rcases h f hc hlen hu hp with ⟨hw, hs⟩ | ⟨hw, rfl, he⟩
  · rw [if_pos (awanted_ok ha.tmps hw)]
    exact hs r0 w M ac K Q hi ha hK
  · rw [if_neg (by rw [awanted_ok ha.tmps hw]; simp)]
    exact ⟨fun f _ => FW_fn r0 f, hK undef w M (.undef w M) (.refl w M) (by rw [he]; exact hi)⟩

theorem move_go {H : (Nat → Bool) → Heap} {ops : List Oper} {marks : List Nat} (hd : okDraw ops = true) (hc : okStill ops 0 ops.length = true) {a0 vs : List AV}
    (hv : ∀ i o, ops[i]? = some o → ∃ (v : List AV) (y : AV), vs[i]? = some y ∧ v.length = a0.length ∧ WorthM P G H ops marks i o v y ∧
      ∀ t x, v[t]? = some x → x = .junk ∨ ((o.looksAt ops.toArray).contains t = true ∧ frameAt ops vs a0 (fun j => decide (j < i)) t = some x))
    {r0 : Option Nat} {Q : Exit → Act → World → Prop} {w0 : World} {M0 : Map}
    (hK : ∀ (fuel : Nat) (listed : Array Bool) (w : World) (M : Map) (ac : Act), Ls ops listed fuel → (∀ j, j < ops.length → lf listed j = true) → Ext w0 M0 w M → Inv G w M (H fun j => decide (j < ops.length)) →
      Fr w M ac marks a0.length (frameAt ops vs a0 (fun j => decide (j < ops.length))) → wpAnyIn (FW r0) 0 P .any ops.toArray Q fuel listed ac w) :
    ∀ (fuel : Nat) (listed : Array Bool) (w : World) (M : Map) (ac : Act), Ls ops listed fuel → (∀ j, ops.length ≤ j → lf listed j = false) → Ext w0 M0 w M → Inv G w M (H (lf listed)) →
      Fr w M ac marks a0.length (frameAt ops vs a0 (lf listed)) → wpAnyIn (FW r0) 0 P .any ops.toArray Q fuel listed ac w := by
  have hap := okDraw_apart hd
  have last : ∀ (fuel : Nat) (listed : Array Bool) (w : World) (M : Map) (ac : Act), Ls ops listed fuel → (∀ j, ops.length ≤ j → lf listed j = false) → Ext w0 M0 w M → Inv G w M (H (lf listed)) →
      Fr w M ac marks a0.length (frameAt ops vs a0 (lf listed)) → (∀ j, j < ops.length → lf listed j = true) → wpAnyIn (FW r0) 0 P .any ops.toArray Q fuel listed ac w := by
    intro fuel listed w M ac hl hn he hi ha hall
    have hf : lf listed = fun j => decide (j < ops.length) := by
      funext j
      by_cases hj : j < ops.length
      · rw [hall j hj]; simp [hj]
      · rw [hn j (by omega)]; simp [hj]
    rw [hf] at hi ha
    exact hK fuel listed w M ac hl hall he hi ha
  intro fuel
  induction fuel with
  | zero =>
    intro listed w M ac hl hn he hi ha
    refine last 0 listed w M ac hl hn he hi ha fun j hj => ?_
    cases hu : lf listed j with
    | true => rfl
    | false => have := count_lt (by rw [hl.size]; exact hj) hu; have := hl.fuel; have := hl.size; omega
  | succ fuel ih =>
    intro listed w M ac hl hn he hi ha
    by_cases hall : ∀ j, j < ops.length → lf listed j = true
    · exact last (fuel + 1) listed w M ac hl hn he hi ha hall
    · simp only [Classical.not_forall] at hall
      obtain ⟨u, hu, hun⟩ := hall
      have hun : lf listed u = false := by simpa using hun
      refine ⟨fun hnil => absurd hnil (ready_ne hd hl.size hu hun), fun i hir => ?_⟩
      obtain ⟨hiu, o, ho, hp⟩ := ready_spec hir
      have hin : i < ops.length := (List.getElem?_eq_some_iff.1 ho).1
      have hilt : i < listed.size := by rw [hl.size]; omega
      obtain ⟨v, y, hy, hvl, hwo, hvt⟩ := hv i o ho
      have hoa : ops.toArray[i]? = some o := by simpa using ho
      have hset : lf (listed.setIfInBounds i true) = fun j => decide (j = i) || lf listed j := funext fun j => lf_set hilt
      refine hwo.ok hl.closed hn hiu hp hoa hi (ha.act_of hvl fun t x ht => ?_) fun u' w' M' hu' he' hi' => ?_
      · rcases hvt t x ht with rfl | ⟨hlook, hfr⟩
        · exact .inl rfl
        · refine .inr ?_
          rw [← hfr]
          refine frameAt_congr fun j hj => ⟨?_, fun _ => rfl⟩
          by_cases hjn : j < ops.length
          · by_cases hji : j = i
            · subst hji; simp [hiu]
            · have hsp := okStill_spec hc (Nat.zero_le i) (by omega) (Nat.zero_le j) (by omega) (Ne.symm hji) ho hj hlook
              by_cases hlt : j < i
              · have := befores_of ho hl.closed hp (hsp.1 hlt)
                simp [this, hlt]
              · have hgt : i < j := by omega
                have : lf listed j = false := by
                  cases hlj : lf listed j with
                  | false => rfl
                  | true =>
                    obtain ⟨oj, hoj⟩ : ∃ oj, ops[j]? = some oj := ⟨_, List.getElem?_eq_getElem hjn⟩
                    have := befores_of hoj hl.closed (fun e he hbd => hl.closed j oj hoj hlj e he hbd) (hsp.2 hgt)
                    rw [hiu] at this; cases this
                simp [this, hlt]
          · rw [hn j (by omega)]
            have : ¬ (j < i) := by omega
            simp [this]
      · refine ih (listed.setIfInBounds i true) w' M' _ (hl.set ho hiu hp) (fun j hj => ?_) (he.trans he') (by rw [hset]; exact hi') (ha.put he' hu' fun t x ht => ?_)
        · rw [lf_set hilt, hn j hj]
          have : j ≠ i := by omega
          simp [this]
        · by_cases hdt : o.dst = some t
          · have hdi : dstAt ops i = some t := by unfold dstAt; rw [ho]; exact hdt
            rw [frameAt_of hap hdi, lf_set hilt] at ht
            simp only [decide_true, Bool.true_or, if_true] at ht
            split at ht
            · rename_i hlt
              rw [hy] at ht
              cases ht
              exact .inl ⟨hdt, rfl, hlt⟩
            · cases ht
          · refine .inr ⟨hdt, ?_⟩
            rw [← ht]
            refine frameAt_congr fun j hj => ⟨?_, fun _ => rfl⟩
            have hji : j ≠ i := fun e => by
              subst e
              unfold dstAt at hj
              rw [ho] at hj
              exact hdt hj
            rw [lf_set hilt]
            simp [hji]
/-- A STATEMENT THAT LEAVES ITS ORDER OPEN, some of whose operations change the heap. -/
theorem AExec.drawM {R : Option Nat → Prop} {id : Nat} {H : (Nat → Bool) → Heap} {ops : List Oper} {marks : List Nat} {a a' vs : List AV} (hm : P.follows .mixedOrders = true) (hd : okDraw ops = true) (hc : okStill ops 0 ops.length = true)
    (hv : ∀ i o, ops[i]? = some o → ∃ (v : List AV) (y : AV), vs[i]? = some y ∧ v.length = a.length ∧ WorthM P G H ops marks i o v y ∧
      ∀ t x, v[t]? = some x → x = .junk ∨ ((o.looksAt ops.toArray).contains t = true ∧ frameAt ops vs a (fun j => decide (j < i)) t = some x))
    (hl : a'.length = a.length) (ha' : ∀ t x, a'[t]? = some x → x = .junk ∨ frameAt ops vs a (fun j => decide (j < ops.length)) t = some x) :
    AExec P G R (.region id ops.toArray true) { tmps := a, marks := marks } (H fun _ => false) .normal { tmps := a', marks := marks } (H fun j => decide (j < ops.length)) := by
  intro r0 _ w M ac Q hi ha hQ
  refine wpIn_region_any hm ?_
  have h0 : ∀ j, lf (Array.replicate ops.toArray.size false) j = false := fun j => by
    unfold lf
    simp [Array.getD_eq_getD_getElem?, Array.getElem?_replicate]
    split <;> simp
  have hf0 : lf (Array.replicate ops.toArray.size false) = fun _ => false := funext h0
  refine move_go (H := H) (marks := marks) hd hc hv (w0 := w) (M0 := M) (fun fuel listed w' M' ac' hls hall he hi' hfr => ?_) _ _ _ M ac ⟨by simp, fun i o _ hlt => ?_, by simp⟩ (fun j _ => h0 j) (.drew w M) (by rw [hf0]; exact hi.drew) ?_
  · refine wpAnyIn_done ?_ (hQ w' M' ac' he hi' (hfr.act_of hl ha')) fuel
    apply List.eq_nil_iff_forall_not_mem.2
    intro i hir
    obtain ⟨hiu, o, ho, _⟩ := ready_spec hir
    rw [hall i (List.getElem?_eq_some_iff.1 ho).1] at hiu
    cases hiu
  · rw [h0] at hlt; cases hlt
  · have := Fr.of (ha.mono (.drew w M))
    refine ⟨this.act, fun t x ht => this.val t x ?_⟩
    rw [hf0] at ht
    rw [← ht]
    unfold frameAt
    split <;> simp
end
end Go.Proofs.Ytngaihdpmoajeaa.Am

namespace Go.Proofs.Ytngaihdpmoajeaa.Am
open Go
section
variable {P : Program} {G : Nat → Option (List AV)}

/-- The walk in the order of the text. -/
inductive AOpsM (P : Program) (G : Nat → Option (List AV)) (H : (Nat → Bool) → Heap) (ops : List Oper) (marks : List Nat) : Nat → List Oper → List AV → List AV → Prop where
  | nil (n : Nat) (a : List AV) : AOpsM P G H ops marks n [] a a
  | step {n : Nat} {o : Oper} {rest : List Oper} {a a' : List AV} {y : AV} (h : WorthM P G H ops marks n o (masked (o.looksAt ops.toArray) a) y) (k : AOpsM P G H ops marks (n + 1) rest (AAct.put { tmps := a } o.dst y).tmps a') : AOpsM P G H ops marks n (o :: rest) a a'
/-- The walk gives a value to each operation. -/
theorem AOpsM.vals {H : (Nat → Bool) → Heap} {ops : List Oper} {marks : List Nat} (hap : Apart ops) {a0 : List AV} : ∀ {n : Nat} {l : List Oper} {a a' : List AV}, AOpsM P G H ops marks n l a a' → ∀ (pre : List AV), pre.length = n → pre.length + l.length ≤ ops.length →
    (∀ k, k < l.length → l[k]? = ops[pre.length + k]?) → a.length = a0.length → (∀ t, a[t]? = frameAt ops pre a0 (fun j => decide (j < pre.length)) t) →
    ∃ vs : List AV, vs.length = pre.length + l.length ∧ (∀ i, i < pre.length → vs[i]? = pre[i]?) ∧ a'.length = a0.length ∧ (∀ t, a'[t]? = frameAt ops vs a0 (fun j => decide (j < vs.length)) t) ∧
      ∀ i o, pre.length ≤ i → i < vs.length → ops[i]? = some o → ∃ (v : List AV) (y : AV), vs[i]? = some y ∧ v.length = a0.length ∧ WorthM P G H ops marks i o v y ∧
        ∀ t x, v[t]? = some x → x = .junk ∨ ((o.looksAt ops.toArray).contains t = true ∧ frameAt ops vs a0 (fun j => decide (j < i)) t = some x) := by
  intro n l a a' h
  have main : ∀ {n : Nat} {o : Oper} {rest : List Oper} {a a' : List AV} {y : AV}, WorthM P G H ops marks n o (masked (o.looksAt ops.toArray) a) y →
      (∀ (pre : List AV), pre.length = n + 1 → pre.length + rest.length ≤ ops.length →
        (∀ k, k < rest.length → rest[k]? = ops[pre.length + k]?) → (AAct.put { tmps := a } o.dst y).tmps.length = a0.length → (∀ t, (AAct.put { tmps := a } o.dst y).tmps[t]? = frameAt ops pre a0 (fun j => decide (j < pre.length)) t) →
        ∃ vs : List AV, vs.length = pre.length + rest.length ∧ (∀ i, i < pre.length → vs[i]? = pre[i]?) ∧ a'.length = a0.length ∧ (∀ t, a'[t]? = frameAt ops vs a0 (fun j => decide (j < vs.length)) t) ∧
          ∀ i o, pre.length ≤ i → i < vs.length → ops[i]? = some o → ∃ (v : List AV) (y : AV), vs[i]? = some y ∧ v.length = a0.length ∧ WorthM P G H ops marks i o v y ∧
            ∀ t x, v[t]? = some x → x = .junk ∨ ((o.looksAt ops.toArray).contains t = true ∧ frameAt ops vs a0 (fun j => decide (j < i)) t = some x)) →
      ∀ (pre : List AV), pre.length = n → pre.length + (o :: rest).length ≤ ops.length →
        (∀ k, k < (o :: rest).length → (o :: rest)[k]? = ops[pre.length + k]?) → a.length = a0.length → (∀ t, a[t]? = frameAt ops pre a0 (fun j => decide (j < pre.length)) t) →
        ∃ vs : List AV, vs.length = pre.length + (o :: rest).length ∧ (∀ i, i < pre.length → vs[i]? = pre[i]?) ∧ a'.length = a0.length ∧ (∀ t, a'[t]? = frameAt ops vs a0 (fun j => decide (j < vs.length)) t) ∧
          ∀ i o, pre.length ≤ i → i < vs.length → ops[i]? = some o → ∃ (v : List AV) (y : AV), vs[i]? = some y ∧ v.length = a0.length ∧ WorthM P G H ops marks i o v y ∧
            ∀ t x, v[t]? = some x → x = .junk ∨ ((o.looksAt ops.toArray).contains t = true ∧ frameAt ops vs a0 (fun j => decide (j < i)) t = some x) := by
    intro n o rest a a' y hwo ih pre hb hlen hl hal ha
    subst hb
    simp only [List.length_cons] at hlen hl
    have ho : ops[pre.length]? = some o := by have := hl 0 (by omega); simpa using this.symm
    have key := ih (pre ++ [y]) (by simp) (by simp; omega) (fun k hk => by have := hl (k + 1) (by omega); simp only [List.getElem?_cons_succ] at this; rw [this]; congr 1; simp; omega) (by rw [put_length]; exact hal) (fun t => ?_)
    · obtain ⟨vs, h1, h2, h3, h4, h5⟩ := key
      simp only [List.length_append, List.length_singleton] at h1 h2
      refine ⟨vs, by rw [h1]; simp; omega, fun i hi => ?_, h3, h4, fun i o' hi hi' ho' => ?_⟩
      · rw [h2 i (by omega), List.getElem?_append_left hi]
      · by_cases hie : i = pre.length
        · subst hie
          rw [ho] at ho'
          cases ho'
          refine ⟨masked (o.looksAt ops.toArray) a, y, ?_, by simp [masked, hal], hwo, fun t x hx => ?_⟩
          · rw [h2 _ (by omega)]; simp
          · simp only [masked, List.getElem?_mapIdx, Option.map_eq_some_iff] at hx
            obtain ⟨x0, hx0, rfl⟩ := hx
            split
            · rename_i hc
              refine .inr ⟨hc, ?_⟩
              rw [ha t] at hx0
              rw [← hx0]
              exact frameAt_congr fun j _ => ⟨rfl, fun hj => by
                have hj := of_decide_eq_true hj
                rw [h2 j (by omega), List.getElem?_append_left hj]⟩
            · exact .inl rfl
        · exact h5 i o' (by simp; omega) hi' ho'
    · rw [put_get]
      by_cases hd : o.dst = some t
      · rw [if_pos hd]
        have hdj : dstAt ops pre.length = some t := by unfold dstAt; rw [ho]; exact hd
        rw [frameAt_of hap hdj]
        simp [hal]
      · rw [if_neg hd, ha t]
        refine frameAt_congr fun j hj => ?_
        have hne : j ≠ pre.length := fun e => by
          subst e
          unfold dstAt at hj
          rw [ho] at hj
          exact hd hj
        refine ⟨?_, fun hl => ?_⟩
        · apply decide_eq_decide.2
          simp only [List.length_append, List.length_singleton]
          omega
        · have hl := of_decide_eq_true hl
          rw [List.getElem?_append_left hl]
  induction h with
  | nil n a =>
    intro pre hb hlen _ hal ha
    refine ⟨pre, rfl, fun _ _ => rfl, hal, fun t => by rw [ha t], fun i o hi hi' ho => ?_⟩
    omega
  | step hw _ ih => exact main hw ih

theorem AOpsM.draw {R : Option Nat → Prop} {id : Nat} {H : (Nat → Bool) → Heap} {ops : List Oper} {marks : List Nat} {a a' : List AV} (hm : P.follows .mixedOrders = true) (hd : okDraw ops = true) (hc : okStill ops 0 ops.length = true) (h : AOpsM P G H ops marks 0 ops a a') :
    AExec P G R (.region id ops.toArray true) { tmps := a, marks := marks } (H fun _ => false) .normal { tmps := a', marks := marks } (H fun j => decide (j < ops.length)) := by
  obtain ⟨vs, h1, _, h3, h4, h5⟩ := h.vals (okDraw_apart hd) (a0 := a) [] rfl (by simp) (fun k _ => by simp) rfl (fun t => by
    unfold frameAt
    split <;> simp)
  simp only [List.length_nil, Nat.zero_add] at h1
  refine AExec.drawM (vs := vs) hm hd hc (fun i o ho => h5 i o (Nat.zero_le i) (by rw [h1]; exact (List.getElem?_eq_some_iff.1 ho).1) ho) h3 fun t x ht => .inr ?_
  rw [h4 t, h1] at ht
  exact ht
end
/-! ### The machine -/
/-- How many of Q are carried out. -/
def nQ (Q : List Nat) (f : Nat → Bool) : Nat := (Q.filter f).length
/-- How many of Q may be carried out when the i-th operation's turn comes. -/
def rngM (ops : List Oper) (Q : List Nat) (i : Nat) : List Nat :=
  (List.range (Q.length + 1)).filter fun c => Nat.ble (nQ Q fun q => ((befores ops []).getD i 0).testBit q) c && Nat.ble c (nQ Q fun q => !Nat.beq q i && !((befores ops []).getD q 0).testBit i)
def upM (Q : List Nat) (i c : Nat) : Nat := match Q.contains i with
  | true => c + 1
  | false => c
theorem nQ_mono {f g : Nat → Bool} : ∀ (Q : List Nat), (∀ q ∈ Q, f q = true → g q = true) → nQ Q f ≤ nQ Q g
  | [], _ => Nat.le_refl _
  | q :: r, h => by
    have ih := nQ_mono (f := f) (g := g) r fun x hx => h x (by simp [hx])
    unfold nQ at ih ⊢
    rw [List.filter_cons, List.filter_cons]
    cases hf : f q with
    | false =>
      simp only [Bool.false_eq_true, if_false]
      split
      · simp only [List.length_cons]; omega
      · exact ih
    | true =>
      rw [h q (by simp) hf]
      simp only [if_true, List.length_cons]
      omega
theorem nQ_le (Q : List Nat) (f : Nat → Bool) : nQ Q f ≤ Q.length := List.length_filter_le _ _
theorem nQ_up {f : Nat → Bool} {i : Nat} (hi : f i = false) : ∀ (Q : List Nat), Q.Nodup → nQ Q (fun j => decide (j = i) || f j) = upM Q i (nQ Q f)
  | [], _ => rfl
  | q :: r, h => by
    have ih := nQ_up hi r (List.nodup_cons.1 h).2
    have hq := (List.nodup_cons.1 h).1
    unfold nQ upM at ih ⊢
    rw [List.filter_cons, List.filter_cons, List.contains_cons]
    by_cases he : q = i
    · subst he
      have hc : r.contains q = false := by
        rw [← Bool.not_eq_true, List.contains_iff_mem]
        exact hq
      rw [hc] at ih
      simp only [decide_true, Bool.true_or, if_true, hi, Bool.false_eq_true, if_false, List.length_cons, ih, beq_self_eq_true]
    · have hb : (i == q) = false := beq_false_of_ne fun h => he h.symm
      simp only [he, decide_false, Bool.false_or, hb]
      cases hf : f q with
      | true =>
        simp only [if_true, List.length_cons, ih]
        cases r.contains i <;> rfl
      | false =>
        simp only [Bool.false_eq_true, if_false, ih]
section
variable (P : Program) (G : Nat → Option (List AV)) (E : Env)
def xAgree (call : CallT) (hs : Nat → Heap) (Q : List Nat) (ρ : Operand → Option AV) (st : St) (o : Oper) (i : Nat) (y : AV) : List Nat → Tree St → Tree St
  | [], k => k
  | c :: cs, k => (xstep P E call ρ { st with h := hs c } o).bind fun q => .need (q.1 = y ∧ q.2.2 = hs (upM Q i c)) (xAgree call hs Q ρ st o i y cs k)
def xMoveL (call : CallT) (hs : Nat → Heap) (ops : List Oper) (Q : List Nat) : Nat → List Oper → St → Tree St
  | _, [], st => .leaf st
  | i, o :: r, st => xguard ops.toArray st o fun b st' =>
    match b with
    | true =>
      match rngM ops Q i with
      | [] => .fail
      | c :: cs => (xstep P E call (st'.evM G (o.looksAt ops.toArray)) { st' with h := hs c } o).bind fun q => .need (q.2.2 = hs (upM Q i c)) (xAgree P E call hs Q (st'.evM G (o.looksAt ops.toArray)) st' o i q.1 cs (xMoveL call hs ops Q (i + 1) r (st'.put o.dst q.1 q.2.1 st'.h)))
    | false =>
      match Q.contains i with
      | true => .fail
      | false => xMoveL call hs ops Q (i + 1) r (st'.put o.dst (.tup []) false st'.h)
/-- The statement, carried out; the heap at its head is hs 0. -/
def xMove (call : CallT) (hs : Nat → Heap) (ops : List Oper) (Q : List Nat) (st : St) : Tree St :=
  match okDraw ops && okStill ops 0 ops.length && decide Q.Nodup && Q.all fun q => Nat.blt q ops.length with
  | true => .need (st.h = hs 0) ((xMoveL P G E call hs ops Q 0 ops st).bind fun st' => .leaf { st' with h := hs Q.length })
  | false => .fail
end
section
variable {P : Program} {G : Nat → Option (List AV)} {E : Env}
theorem xAgree_ok {call : CallT} (hcl : ClOk P G E) (hcall : CallOk P G call) {hs : Nat → Heap} {Q : List Nat} {a : List AV} {m : List Nat} {st : St} {o : Oper} {i : Nat} {y : AV} {k : Tree St} {r : St} : ∀ (cs : List Nat), (xAgree P E call hs Q (ev G a) st o i y cs k).sel = some r →
    (∀ c ∈ cs, AStep P G { tmps := a, marks := m } (hs c) o y (hs (upM Q i c))) ∧ k.sel = some r
  | [], h => ⟨fun _ hc => (by cases hc), h⟩
  | c :: cs, h => by
    unfold xAgree at h
    obtain ⟨⟨y2, s2, h2⟩, h3, h4⟩ := Tree.of_bind h
    obtain ⟨⟨h5, h6⟩, h7⟩ := Tree.of_need h4
    simp only at h5 h6
    subst h5 h6
    have hs1 := xstep_ok (m := m) hcl hcall h3
    obtain ⟨h8, h9⟩ := xAgree_ok hcl hcall cs h7
    refine ⟨fun c' hc' => ?_, h9⟩
    rcases List.mem_cons.1 hc' with rfl | hc'
    · exact hs1
    · exact h8 c' hc'
theorem in_rng {ops : List Oper} {Q : List Nat} {i : Nat} {o : Oper} (ho : ops[i]? = some o) (hQ : ∀ q ∈ Q, q < ops.length) {f : Nat → Bool} (hc : Closed ops f) (hu : f i = false) (hp : ∀ e ∈ o.after, Region.binds .any e = true → f e.on = true) : nQ Q f ∈ rngM ops Q i := by
  unfold rngM
  refine List.mem_filter.2 ⟨List.mem_range.2 (by have := nQ_le Q f; omega), ?_⟩
  rw [Bool.and_eq_true, Nat.ble_eq, Nat.ble_eq]
  refine ⟨nQ_mono Q fun q _ hb => befores_of ho hc hp hb, nQ_mono Q fun q hq hb => ?_⟩
  have hqi : Nat.beq q i = false := by
    cases he : Nat.beq q i with
    | false => rfl
    | true =>
      rw [Nat.eq_of_beq_eq_true he, hu] at hb
      cases hb
  rw [hqi]
  cases hm : ((befores ops []).getD q 0).testBit i with
  | false => rfl
  | true =>
    obtain ⟨oq, hoq⟩ : ∃ oq, ops[q]? = some oq := ⟨_, List.getElem?_eq_getElem (hQ q hq)⟩
    have := befores_of hoq hc (fun e he hbd => hc q oq hoq hb e he hbd) hm
    rw [hu] at this; cases this
theorem xMoveL_ok {call : CallT} (hcl : ClOk P G E) (hcall : CallOk P G call) {hs : Nat → Heap} {ops : List Oper} {Q : List Nat} (hn : Q.Nodup) (hQ : ∀ q ∈ Q, q < ops.length) {m : List Nat} : ∀ (l : List Oper) (i : Nat) (st st' : St), (∀ k, k < l.length → l[k]? = ops[i + k]?) → (xMoveL P G E call hs ops Q i l st).sel = some st' →
    AOpsM P G (fun f => hs (nQ Q f)) ops m i l st.a st'.a ∧ st'.n = st.n
  | [], i, st, st', _, h => by cases h; exact ⟨.nil _ _, rfl⟩
  | o :: r, i, st, st', hl, h => by
    have ho : ops[i]? = some o := by have := hl 0 (by simp); simpa using this.symm
    have hlr : ∀ k, k < r.length → r[k]? = ops[i + 1 + k]? := fun k hk => by
      have := hl (k + 1) (by simp; omega)
      simp only [List.getElem?_cons_succ] at this
      rw [this]; congr 1; omega
    unfold xMoveL at h
    obtain ⟨b, st1, h1, h2, h3, hw, hk⟩ := xguard_ok h
    cases b with
    | true =>
      simp only at hk
      split at hk
      · cases hk
      · rename_i c cs hrng
        obtain ⟨⟨y, s, h'⟩, hq', hr⟩ := Tree.of_bind hk
        obtain ⟨he, hr⟩ := Tree.of_need hr
        simp only at he
        subst he
        rw [← St.evM_eq] at hq' hr
        have hs1 := xstep_ok (m := m) hcl hcall hq'
        obtain ⟨hs2, hr⟩ := xAgree_ok (m := m) hcl hcall cs hr
        obtain ⟨ih, ihn⟩ := xMoveL_ok hcl hcall hn hQ r (i + 1) _ st' hlr hr
        refine ⟨.step (y := y) (fun f hc hlen hu hp => .inl ⟨by rw [awanted_masked]; exact hw, ?_⟩) ?_, by rw [ihn, St.put_n, h3]⟩
        · have hin := in_rng ho hQ hc hu hp
          rw [hrng] at hin
          show AStep P G _ (hs (nQ Q f)) o y (hs (nQ Q fun j => decide (j = i) || f j))
          rw [nQ_up hu Q hn, ← h1]
          rcases List.mem_cons.1 hin with he | hin
          · rw [he]; exact hs1
          · exact hs2 _ hin
        · have hp := St.put_a st1 o.dst y s st1.h []
          rw [← h1, hp]
          exact ih
    | false =>
      simp only at hk
      split at hk
      · cases hk
      · rename_i hni
        obtain ⟨ih, ihn⟩ := xMoveL_ok hcl hcall hn hQ r (i + 1) _ st' hlr hk
        refine ⟨.step (y := .tup []) (fun f hc hlen hu hp => .inr ⟨by rw [awanted_masked]; exact hw, rfl, ?_⟩) ?_, by rw [ihn, St.put_n, h3]⟩
        · show hs (nQ Q fun j => decide (j = i) || f j) = hs (nQ Q f)
          rw [nQ_up hu Q hn]
          unfold upM
          rw [hni]
        · have hp := St.put_a st1 o.dst (.tup []) false st1.h []
          rw [← h1, hp]
          exact ih
theorem xMove_ok {R : Option Nat → Prop} (hm : P.follows .mixedOrders = true) (hcl : ClOk P G E) {call : CallT} (hcall : CallOk P G call) {hs : Nat → Heap} {id : Nat} {ops : List Oper} {Q : List Nat} {m : List Nat} {st st' : St} (h : (xMove P G E call hs ops Q st).sel = some st') :
    AExec P G R (.region id ops.toArray true) { tmps := st.a, marks := m } st.h .normal { tmps := st'.a, marks := m } st'.h ∧ st'.n = st.n := by
  unfold xMove at h
  split at h
  · rename_i hb
    simp only [Bool.and_eq_true, decide_eq_true_eq, List.all_eq_true, Nat.blt_eq] at hb
    obtain ⟨⟨⟨hd, hc⟩, hn⟩, hQ⟩ := hb
    obtain ⟨h0, h⟩ := Tree.of_need h
    obtain ⟨st1, h1, h2⟩ := Tree.of_bind h
    cases h2
    obtain ⟨h3, h4⟩ := xMoveL_ok (m := m) hcl hcall hn hQ ops 0 st st1 (fun k _ => by simp) h1
    have key := h3.draw (R := R) (id := id) hm hd hc
    have e0 : nQ Q (fun _ => false) = 0 := by simp [nQ]
    have e1 : nQ Q (fun j => decide (j < ops.length)) = Q.length := by
      unfold nQ
      rw [List.filter_eq_self.2 fun q hq => by simpa using hQ q hq]
    simp only [e0, e1, ← h0] at key
    exact ⟨key, h4⟩
  · cases h
end
end Go.Proofs.Ytngaihdpmoajeaa.Am

namespace Go.Proofs.Ytngaihdpmoajeaa.Am
open Go
section
variable (P : Program) (G : Nat → Option (List AV)) (E : Env)
/-- Code. n: how deep and how often. lp: what is known of the loops. -/
def xCodeM (mv : Nat → Option (List Nat × (Nat → Heap))) : Nat → Loops → Code → St → Tree (Exit × St)
  | 0 => fun _ _ _ => .fail
  | n + 1 => fun lp c st =>
    match c with
    | .skip => .leaf (.normal, st)
    | .ret => .leaf (.ret, st)
    | .exit id => .leaf (.exit id, st)
    | .region id ops draws =>
      (match draws with
      | true => (match mv id with
        | some (Q, hs) => xMove P G E (xenter P E (xCode P G E n fun _ => none)) hs ops.toList Q st
        | none => xDraw P G E (xenter P E (xCode P G E n fun _ => none)) ops st)
      | false => xOps P G E (xenter P E (xCode P G E n fun _ => none)) ops ops.toList st).bind fun st' => .leaf (.normal, st')
    | .seq x y => (xCodeM mv n lp x st).bind fun r =>
      match r.1 with
      | .normal => xCodeM mv n lp y r.2
      | e => .leaf (e, r.2)
    | .cond q x y =>
      match st.ev G q with
      | some (.bool b) =>
        match symOf st q with
        | true => .ite b (xCodeM mv n lp x st) (xCodeM mv n lp y st)
        | false => match b with
          | true => xCodeM mv n lp x st
          | false => xCodeM mv n lp y st
      | _ => .fail
    | .block id x => (xCodeM mv n lp x st).bind fun r => .leaf (outOf id r.1, r.2)
    | .loop x =>
      match lp (idOf x) with
      | some (keep, s0, t) => .need ((st.only keep).vals = s0.vals) t
      | none => xLoop (xCodeM mv n lp x) n st
    | _ => .fail
/-- A piece of code, some temporaries of it. -/
def xBodyM (mv : Nat → Option (List Nat × (Nat → Heap))) (n : Nat) (lp : Loops) (keep : List Nat) (c : Code) (st : St) : Tree (Exit × St) :=
  (xCodeM P G E mv n lp c st).bind fun r => .leaf (r.1, r.2.only keep)
end
section
variable {P : Program} {G : Nat → Option (List AV)} {E : Env}
theorem xCodeM_ok {mv : Nat → Option (List Nat × (Nat → Heap))} (hn : NamesOk P) (hm : P.follows .mixedOrders = true) (hcl : ClOk P G E) : ∀ (n : Nat) (R : Option Nat → Prop) (m : List Nat) (lp : Loops) (c : Code) (st : St) (e : Exit) (st' : St), LoopsOk P G R m lp c →
    (xCodeM P G E mv n lp c st).sel = some (e, st') → AExec P G R c { tmps := st.a, marks := m } st.h e { tmps := st'.a, marks := m } st'.h ∧ st'.n = st.n
  | 0, R, m, lp, c, st, e, st', _, h => by cases h
  | n + 1, R, m, lp, c, st, e, st', hlp, h => by
    have hrun : RunOk P G (xCode P G E n fun _ => none) := fun c st e st' h => (xCode_ok hn hm hcl n _ [] _ c st e st' (.none c) h).1
    unfold xCodeM at h
    cases c with
    | skip => cases h; exact ⟨.skip, rfl⟩
    | ret => cases h; exact ⟨.ret, rfl⟩
    | exit id => cases h; exact ⟨.exit, rfl⟩
    | region id ops draws =>
      simp only at h
      obtain ⟨st1, h1, h2⟩ := Tree.of_bind h
      cases h2
      cases draws with
      | true =>
        simp only at h1
        split at h1
        · have := xMove_ok (R := R) (id := id) (m := m) hm hcl (xenter_ok hn hrun) h1
          simpa using this
        · exact xDraw_ok hm hcl (xenter_ok hn hrun) h1
      | false =>
        obtain ⟨h3, h4⟩ := xOps_ok (m := m) hcl (xenter_ok hn hrun) _ _ _ h1
        exact ⟨.region h3, h4⟩
    | seq x y =>
      simp only at h
      obtain ⟨⟨e1, st1⟩, h1, h2⟩ := Tree.of_bind h
      obtain ⟨h3, h4⟩ := xCodeM_ok hn hm hcl n R m lp x _ _ _ hlp.1 h1
      split at h2
      · rename_i he
        simp only at he
        subst he
        obtain ⟨h5, h6⟩ := xCodeM_ok hn hm hcl n R m lp y _ _ _ hlp.2 h2
        exact ⟨.seq h3 h5, h6.trans h4⟩
      · rename_i he
        cases h2
        exact ⟨.seq_out h3 he, h4⟩
    | cond q x y =>
      simp only at h
      split at h
      · rename_i b hq
        rw [← St.ev_eq] at hq
        split at h
        · simp only [Tree.sel] at h
          cases b with
          | true =>
            obtain ⟨h3, h4⟩ := xCodeM_ok hn hm hcl n R m lp x _ _ _ hlp.1 h
            exact ⟨.cond_true hq h3, h4⟩
          | false =>
            obtain ⟨h3, h4⟩ := xCodeM_ok hn hm hcl n R m lp y _ _ _ hlp.2 h
            exact ⟨.cond_false hq h3, h4⟩
        · split at h
          · obtain ⟨h3, h4⟩ := xCodeM_ok hn hm hcl n R m lp x _ _ _ hlp.1 h
            exact ⟨.cond_true hq h3, h4⟩
          · obtain ⟨h3, h4⟩ := xCodeM_ok hn hm hcl n R m lp y _ _ _ hlp.2 h
            exact ⟨.cond_false hq h3, h4⟩
      · cases h
    | block id x =>
      simp only at h
      obtain ⟨⟨e1, st1⟩, h1, h2⟩ := Tree.of_bind h
      cases h2
      obtain ⟨h3, h4⟩ := xCodeM_ok hn hm hcl n R m lp x _ _ _ hlp h1
      exact ⟨.block h3, h4⟩
    | loop x =>
      simp only at h
      split at h
      · rename_i keep s0 t ht
        obtain ⟨h1, h2⟩ := Tree.of_need h
        obtain ⟨h3, h4⟩ := hlp.1 _ _ _ _ _ ht h2
        simp only [St.vals, Prod.mk.injEq] at h1
        obtain ⟨e1, e2, e3⟩ := h1
        have h5 := St.only_le keep st
        rw [e1] at h5
        refine ⟨.weak h5 ?_, h4.trans e2.symm⟩
        have e4 : st.h = s0.h := e3
        rw [e4]
        exact h3
      · obtain ⟨h3, h4⟩ := xLoop_ok (fun st e st' h => xCodeM_ok hn hm hcl n R m lp x st e st' hlp.2 h) n st e st' h
        exact ⟨.loop h3, h4⟩
    | scope _ => cases h
    | rangeFunc _ _ _ _ => cases h
    | label _ => cases h
    | goto _ => cases h
    | refuse _ => cases h

theorem xBodyM_ok {mv : Nat → Option (List Nat × (Nat → Heap))} (hn : NamesOk P) (hm : P.follows .mixedOrders = true) (hcl : ClOk P G E) {R : Option Nat → Prop} {m : List Nat} {lp : Loops} {n : Nat} {keep : List Nat} {c : Code} {st : St} {e : Exit} {st' : St} (hlp : LoopsOk P G R m lp c)
    (hx : (xBodyM P G E mv n lp keep c st).sel = some (e, st')) : AExec P G R c { tmps := st.a, marks := m } st.h e { tmps := st'.a, marks := m } st'.h ∧ st'.n = st.n := by
  obtain ⟨⟨e0, st0⟩, h1, h2⟩ := Tree.of_bind hx
  cases h2
  obtain ⟨h3, h4⟩ := xCodeM_ok hn hm hcl n R m lp c st _ _ hlp h1
  exact ⟨h3.weak_post (a' := { tmps := st0.a, marks := m }) (St.only_le keep st0), h4⟩
/-- A function of whose loops and statements the facts are known. -/
theorem xFnM_ok {mv : Nat → Option (List Nat × (Nat → Heap))} (hn : NamesOk P) (hm : P.follows .mixedOrders = true) (hcl : ClOk P G E) {lp : Loops} {n : Nat} {f : FuncId} {fn : Func} {c : Code} (hf : P.funcs[f]? = some fn) (hb : fn.body = some c)
    (hlp : LoopsOk P G (fun r => r = none) [] lp c) {xs : List AV} {tags : List Bool} {h h' : Heap} {v : AV} {s : Bool}
    (hx : (xenter P E (xCodeM P G E mv n lp) f xs tags h).sel = some (v, s, h')) : ACall P G f xs h v h' := by
  have : ∀ (run : Code → St → Tree (Exit × St)), run = xCodeM P G E mv n lp → (xenter P E run f xs tags h).sel = some (v, s, h') → ACall P G f xs h v h' := by
    intro run hrun hx
    unfold xenter at hx
    rw [hf] at hx
    simp only [hb] at hx
    obtain ⟨⟨e, st⟩, h1, h2⟩ := Tree.of_bind hx
    subst hrun
    have hx' := (xCodeM_ok hn hm hcl n _ [] lp c _ _ _ hlp h1).1
    have main : ∀ {tag : Bool}, (e = .normal ∨ e = .ret) → (match aResults P st.h st.a fn.results.toList with
        | some ys => .leaf (asOne ys, tag, st.h)
        | none => .fail : Tree (AV × Bool × Heap)).sel = some (v, s, h') → ACall P G f xs h v h' := fun {tag} he hh => by
      cases hres : aResults P st.h st.a fn.results.toList with
      | none => rw [hres] at hh; cases hh
      | some ys =>
        rw [hres] at hh
        cases hh
        exact ACall.of_body hf hb (hn f fn hf) (.weak ofArgs_le hx') he hres
    split at h2
    · rename_i he
      exact main (.inl he) h2
    · rename_i he
      exact main (.inr he) h2
    · cases h2
  exact this _ rfl hx
end
end Go.Proofs.Ytngaihdpmoajeaa.Am

namespace Go.Proofs.Ytngaihdpmoajeaa.Am
open Go
section
variable {P : Program} {G : Nat → Option (List AV)}

/-- A frame seen through weaker values. -/
theorem RAct.sub {w : World} {M : Map} {ac : Act} {a b : List AV} {m : List Nat} (h : RAct w M ac { tmps := a, marks := m }) (hl : b.length = a.length) (hs : ∀ (j : Nat) (y' : AV), b[j]? = some y' → ∃ y, a[j]? = some y ∧ ∀ w M u, RV w M u y → RV w M u y') : RAct w M ac { tmps := b, marks := m } :=
  ⟨⟨by rw [h.tmps.1, hl], fun j y' hj => by
    obtain ⟨y, h1, h2⟩ := hs j y' hj
    exact h2 _ _ _ (h.tmps.2 j y h1)⟩, h.marks⟩
end
end Go.Proofs.Ytngaihdpmoajeaa.Am

namespace Go.Proofs.Ytngaihdpmoajeaa.Am
open Go
section
variable {P : Program} {G : Nat → Option (List AV)}

end
end Go.Proofs.Ytngaihdpmoajeaa.Am

namespace Go.Proofs.Ytngaihdpmoajeaa.Am
open Go
section
variable {P : Program} {G : Nat → Option (List AV)}

end
end Go.Proofs.Ytngaihdpmoajeaa.Am

namespace Go.Proofs.Ytngaihdpmoajeaa.Am
open Go
section
variable {P : Program} {G : Nat → Option (List AV)}

/-- An own slice becomes data: the frame holds it at one place, and nothing else of what is new. -/
theorem AExec.msData {R : Option Nat → Prop} {c : Code} {a a' b' : List AV} {σ : Heap} {e : Exit} {g : Nat} {cells : List AV} (h : AExec P G R c { tmps := a } σ e { tmps := a' } (σ ++ [.cells g cells])) (hb : ∀ x ∈ cells, Below σ.length x) (hl : b'.length = a'.length)
    (hv : ∀ (j : Nat) (y : AV), b'[j]? = some y → (a'[j]? = some y ∧ Below σ.length y) ∨ (a'[j]? = some (.ms 1 σ.length g 0 cells.length cells.length) ∧ y = .sl 1 (cells.map fun y => [y]))) : AExec P G R c { tmps := a } σ e { tmps := b' } σ := by
  intro r0 hr w M ac Q hi ha hQ
  refine h r0 hr w M ac Q hi ha fun w' M' ac' he hi' ha' => ?_
  obtain ⟨h1, h2⟩ := hi.forget he hi'
  refine hQ w' _ ac' h1 h2 ⟨⟨by rw [ha'.tmps.1, hl], fun j y hj => ?_⟩, ?_⟩
  · rcases hv j y hj with ⟨k1, k2⟩ | ⟨k1, rfl⟩
    · exact (ha'.tmps.2 j y k1).cut k2
    · exact RV.msData hi' (Nat.le_refl _) (ha'.tmps.2 j _ k1) (by simp) hb
  · obtain ⟨bs, k1, k2, _⟩ := ha'.marks
    exact ⟨bs, k1, k2, fun i r b h => by simp at h⟩
end
end Go.Proofs.Ytngaihdpmoajeaa.Am

namespace Go.Proofs.Ytngaihdpmoajeaa.Am
open Go
section
variable {P : Program} {G : Nat → Option (List AV)} {R : Option Nat → Prop}

/-- A PIECE OF CODE THAT ENDS IN ONE OF SEVERAL STATES. -/
def AExecR (P : Program) (G : Nat → Option (List AV)) (R : Option Nat → Prop) (c : Code) (a : List AV) (σ : Heap) (T : Exit → List AV → Heap → Prop) : Prop :=
  ∀ r0, R r0 → ∀ (w : World) (M : Map) (ac : Act) (Q : Exit → Act → World → Prop), Inv G w M σ → RAct w M ac { tmps := a } →
    (∀ w' M' ac' e a' σ', T e a' σ' → Ext w M w' M' → Inv G w' M' σ' → RAct w' M' ac' { tmps := a' } → Q e ac' w') → c.wpIn (FW r0) 0 P Q ac w
theorem AExecR.of {c : Code} {a a' : List AV} {σ σ' : Heap} {e : Exit} {T : Exit → List AV → Heap → Prop} (h : AExec P G R c { tmps := a } σ e { tmps := a' } σ') (ht : T e a' σ') : AExecR P G R c a σ T :=
  fun r0 hr w M ac Q hi ha hQ => h r0 hr w M ac Q hi ha fun w' M' ac' he hi' ha' => hQ w' M' ac' e a' σ' ht he hi' ha'
/-- The frame at the end seen through weaker values. -/
theorem AExecR.sub {c : Code} {a : List AV} {σ : Heap} {T T' : Exit → List AV → Heap → Prop} (h : AExecR P G R c a σ T)
    (ht : ∀ e a' σ', T e a' σ' → ∃ b, T' e b σ' ∧ b.length = a'.length ∧ ∀ (j : Nat) (y' : AV), b[j]? = some y' → ∃ y, a'[j]? = some y ∧ ∀ w M u, RV w M u y → RV w M u y') : AExecR P G R c a σ T' :=
  fun r0 hr w M ac Q hi ha hQ => h r0 hr w M ac Q hi ha fun w' M' ac' e a' σ' h1 he hi' ha' => by
    obtain ⟨b, h2, h3, h4⟩ := ht e a' σ' h1
    exact hQ w' M' ac' e b σ' h2 he hi' (ha'.sub h3 h4)
theorem AExecR.seq {x y : Code} {a : List AV} {σ : Heap} {T1 T : Exit → List AV → Heap → Prop} (h : AExecR P G R x a σ T1) (k : ∀ e a1 σ1, T1 e a1 σ1 → e = .normal ∧ AExecR P G R y a1 σ1 T) : AExecR P G R (.seq x y) a σ T :=
  fun r0 hr w M ac Q hi ha hQ => wpIn_seq (h r0 hr w M ac _ hi ha fun w1 M1 ac1 e a1 σ1 h1 he hi1 ha1 => by
    obtain ⟨rfl, h2⟩ := k e a1 σ1 h1
    exact h2 r0 hr w1 M1 ac1 Q hi1 ha1 fun w2 M2 ac2 e2 a2 σ2 h3 he2 hi2 ha2 => hQ w2 M2 ac2 e2 a2 σ2 h3 (he.trans he2) hi2 ha2)
theorem AExecR.block {id : Nat} {c : Code} {a : List AV} {σ : Heap} {T : Exit → List AV → Heap → Prop} (h : AExecR P G R c a σ fun e => T (outOf id e)) : AExecR P G R (.block id c) a σ T :=
  fun r0 hr w M ac Q hi ha hQ => wpIn_block (h r0 hr w M ac _ hi ha fun w1 M1 ac1 e a1 σ1 h1 he1 hi1 ha1 => by
    have := hQ w1 M1 ac1 _ a1 σ1 h1 he1 hi1 ha1
    cases e <;> first | exact this | skip
    rename_i id'
    simp only [outOf] at this
    simp only [Exit.inBlock]
    split <;> rename_i hid
    · rw [if_pos hid] at this; exact this
    · rw [if_neg hid] at this; exact this)
/-- A LOOP of N rounds, each of which may end in several states. -/
theorem AExecR.loop {c : Code} {S : Nat → List AV → Heap → Prop} {N : Nat} {T : Exit → List AV → Heap → Prop} (hr : ∀ k, k < N → ∀ a σ, S k a σ → AExecR P G R c a σ fun e a' σ' => e = .normal ∧ S (k + 1) a' σ')
    (hs : ∀ a σ, S N a σ → AExecR P G R c a σ fun e a' σ' => e ≠ .normal ∧ T e a' σ') {a : List AV} {σ : Heap} (h0 : S 0 a σ) : AExecR P G R (.loop c) a σ T := by
  have key : ∀ (d k : Nat), k + d = N → ∀ a σ, S k a σ → ∀ r0, R r0 → ∀ (w : World) (M : Map) (ac : Act) (Q : Exit → Act → World → Prop), Inv G w M σ → RAct w M ac { tmps := a } →
      (∀ w' M' ac' e a' σ', T e a' σ' → Ext w M w' M' → Inv G w' M' σ' → RAct w' M' ac' { tmps := a' } → Q e ac' w') → Code.roundsIn (FW r0) 0 P c Q (d + 1) ac w := by
    intro d
    induction d with
    | zero =>
      intro k hk a σ hS r0 hr0 w M ac Q hi ha hQ
      obtain rfl : k = N := by omega
      exact hs a σ hS r0 hr0 w M ac _ hi ha fun w1 M1 ac1 e a1 σ1 ⟨hne, h1⟩ he hi1 ha1 => by
        have := hQ w1 M1 ac1 e a1 σ1 h1 he hi1 ha1
        cases e <;> first | exact this | exact absurd rfl hne
    | succ d ih =>
      intro k hk a σ hS r0 hr0 w M ac Q hi ha hQ
      exact hr k (by omega) a σ hS r0 hr0 w M ac _ hi ha fun w1 M1 ac1 e a1 σ1 ⟨hne, h1⟩ he hi1 ha1 => by
        subst hne
        exact ih (k + 1) (by omega) a1 σ1 h1 r0 hr0 w1 M1 ac1 Q hi1 ha1 fun w2 M2 ac2 e2 a2 σ2 h2 he2 hi2 ha2 => hQ w2 M2 ac2 e2 a2 σ2 h2 (he.trans he2) hi2 ha2
  exact fun r0 hr0 w M ac Q hi ha hQ => wpIn_loop_rounds (N + 1) (key N 0 (by omega) a σ h0 r0 hr0 w M ac Q hi ha hQ)
/-- What a value is, where all that is new has become data. -/
def ToData (n : Nat) (σ : Heap) (x y : AV) : Prop := (Below n x ∧ ∀ w M u, RV w M u x → RV w M u y) ∨
  ∃ r g cells, x = .ms 1 r g 0 cells.length cells.length ∧ n ≤ r ∧ objAt σ r g = some cells ∧ (∀ z ∈ cells, Below n z) ∧ ∀ w M u, RV w M u (.sl 1 (cells.map fun y => [y])) → RV w M u y
/-- WHAT IS NEW BECOMES DATA. -/
theorem AExecR.data {c : Code} {a b : List AV} {σ : Heap} {e : Exit} {T : Exit → List AV → Heap → Prop} (h : AExecR P G R c a σ T)
    (ht : ∀ e' a' σ', T e' a' σ' → e' = e ∧ (∃ τ, σ' = σ ++ τ) ∧ b.length = a'.length ∧ ∀ (j : Nat) (y : AV), b[j]? = some y → ∃ x, a'[j]? = some x ∧ ToData σ.length σ' x y) : AExec P G R c { tmps := a } σ e { tmps := b } σ := by
  intro r0 hr w M ac Q hi ha hQ
  refine h r0 hr w M ac Q hi ha fun w' M' ac' e' a' σ' h1 he hi' ha' => ?_
  obtain ⟨rfl, ⟨τ, rfl⟩, h2, h3⟩ := ht e' a' σ' h1
  obtain ⟨k1, k2⟩ := hi.forget he hi'
  refine hQ w' _ ac' k1 k2 ⟨⟨by rw [ha'.tmps.1, h2], fun j y hj => ?_⟩, ?_⟩
  · obtain ⟨x, q1, q2⟩ := h3 j y hj
    have hx := ha'.tmps.2 j x q1
    rcases q2 with ⟨q3, q4⟩ | ⟨r, g, cells, rfl, q3, q4, q5, q6⟩
    · exact q4 _ _ _ (hx.cut q3)
    · refine q6 _ _ _ (RV.msData hi' q3 hx ?_ q5)
      unfold objAt at q4
      split at q4
      · rename_i g' c' he2
        split at q4
        · rename_i hg
          cases q4
          subst hg
          exact he2
        · cases q4
      · cases q4
  · obtain ⟨bs, k1, k2, _⟩ := ha'.marks
    exact ⟨bs, k1, k2, fun i r b h => by simp at h⟩
end
end Go.Proofs.Ytngaihdpmoajeaa.Am

namespace Go.Proofs.Ytngaihdpmoajeaa.Am
open Go
set_option maxRecDepth 100000

abbrev I (n : Int) : AV := .int .i64 n
abbrev U (n : Int) : AV := .int .u64 n
def G0 : Nat → Option (List AV) := fun _ => none
theorem gbelow0 : GBelow G0 := fun _ _ h => by cases h
theorem gtop0 {w : World} : ∀ g cs, G0 g = some cs → RV w M0 (.pointer (some ⟨g, 0, none⟩)) (.row cs 0) := fun _ _ h => by cases h
theorem names0 : (Try.prog.funcs.all fun fn => !(fn.name == "runtime.NumGoroutine")) = true := by kernel_rfl
theorem names : NamesOk Try.prog := fun f fn h => by
  have := Array.all_eq_true_iff_forall_mem.1 names0 fn (Array.mem_of_getElem? h)
  simpa using this
theorem mixed : Try.prog.follows .mixedOrders = true := by kernel_rfl
def noLoops : Loops := fun _ => none
theorem lpNo {R : Option Nat → Prop} {m : List Nat} (c : Code) : LoopsOk Try.prog G0 R m noLoops c := LoopsOk.none c
theorem selR {α β : Type} {a : β} {x : Tree α} : (Tree.need (a = a) x).sel = x.sel := Tree.sel_need rfl
theorem selI {α : Type} {b : Bool} {x y : Tree α} : (Tree.ite b x y).sel = bif b then x.sel else y.sel := rfl
theorem below_list {n : Nat} {l : List AV} (h : ∀ x ∈ l, Below n x) : ∀ (j : Nat) (x : AV), l[j]? = some x → Below n x := fun _ _ hj => h _ (List.mem_of_getElem? hj)
theorem below_fl {n size k : Nat} {rows : Nat → List AV} (h : ∀ i, ∀ x ∈ rows i, Below n x) : Below n (.fl size k rows) := by
  refine .fl _ _ _ (.sl _ _ fun i r j x hi hj => ?_)
  obtain ⟨m, _, rfl⟩ := List.mem_map.1 (List.mem_of_getElem? hi)
  exact h m x (List.mem_of_getElem? hj)
/-- A slice type whose elements are one cell. -/
structure Elem1 (t e : TypeId) : Prop where
  u : Try.prog.underlying t = some (.slice e)
  i : ∃ ie zx, Try.prog.info? e = some ie ∧ aZero Try.prog e = some zx ∧ ie.size = 1 ∧ ie.bytes ≤ 65536 ∧ zx.cells.length = 1 ∧ zx.cells.all AV.one = true
theorem elem1 {t e : TypeId} (hu : Try.prog.underlying t = some (.slice e)) (h1 : (Try.prog.info? e).map (fun i => (i.size, decide (i.bytes ≤ 65536))) = some (1, true)) (h2 : (aZero Try.prog e).map (fun z => (z.cells.length, z.cells.all AV.one)) = some (1, true)) : Elem1 t e := by
  obtain ⟨ie, e1, e2⟩ := Option.map_eq_some_iff.1 h1
  obtain ⟨zx, e3, e4⟩ := Option.map_eq_some_iff.1 h2
  simp only [Prod.mk.injEq, decide_eq_true_eq] at e2 e4
  exact ⟨hu, ie, zx, e1, e3, e2.1, e2.2, e4.1, e4.2⟩
theorem el22 : Elem1 22 3 := elem1 Try.underlying22 (by kernel_rfl) (by kernel_rfl)
/-- The outcome of an append, told beforehand. -/
def hApp (t : TypeId) (v x v' : AV) (h0 h' : Heap) : Heap → Oper → (Operand → Option AV) → Option (AV × Bool × Heap × Prop) := fun h o ρ => match o.op with
  | .call { callee := .builtin .append, args := args, argTypes := ts } => some (v', true, h', evAllR ρ args.toList = some [v, x] ∧ ts = #[t, t] ∧ h = h0 ∧ aAppend Try.prog h0 t t v x = some (v', h'))
  | _ => none
theorem hApp_ok (t : TypeId) (v x v' : AV) (h0 h' : Heap) : HintA Try.prog (hApp t v x v' h0 h') := by
  intro h o ρ y s h1 p hh hp
  unfold hApp at hh
  split at hh
  · rename_i args ts ho
    cases hh
    obtain ⟨p1, rfl, rfl, p4⟩ := hp
    unfold aopR
    simp only [ho, p1, Option.bind_some, aBuiltin, p4]
  · cases hh
/-- A list of integers, as data. -/
def flL (L : List Int) : AV := .fl 1 L.length fun i => [I (L.getD i 0)]
theorem flL_rows (L : List Int) : (List.range L.length).map (fun i => ([I (L.getD i 0)] : List AV)) = (L.map I).map fun y => [y] := by
  apply List.ext_getElem?
  intro i
  simp only [List.getElem?_map]
  by_cases h : i < L.length
  · simp [h, List.getD_eq_getElem?_getD]
  · simp [h]
theorem RV.flL_of {w : World} {M : Map} {u : Value} {L : List Int} (h : RV w M u (.sl 1 ((L.map I).map fun y => [y]))) : RV w M u (flL L) := by
  refine .fl _ _ _ _ ?_
  rw [flL_rows]; exact h
theorem RV.flL_to {w : World} {M : Map} {u : Value} {L : List Int} (h : RV w M u (flL L)) : RV w M u (.sl 1 ((L.map I).map fun y => [y])) := by
  cases h with | fl _ _ _ _ h => rw [flL_rows] at h; exact h
theorem RV.flL_zs {w : World} {M : Map} {u : Value} (h : RV w M u .zs) : RV w M u (flL []) := by cases h; exact .fl _ _ _ _ (.sl0 _ _ _)
theorem below_flL {n : Nat} (L : List Int) : Below n (flL L) := below_fl fun i x hx => by rw [List.mem_singleton.1 hx]; exact .int _ _
/-- A list of lists of integers, as data. -/
def flLL (L : List (List Int)) : AV := .fl 1 L.length fun i => [flL (L.getD i [])]
theorem below_flLL {n : Nat} (L : List (List Int)) : Below n (flLL L) := below_fl fun i x hx => by rw [List.mem_singleton.1 hx]; exact below_flL _
theorem ACall.conv {P : Program} {G : Nat → Option (List AV)} {f : FuncId} {xs : List AV} {σ σ' : Heap} {v v' : AV} (h : ACall P G f xs σ v σ') (hv : ∀ w M u, RV w M u v → RV w M u v') : ACall P G f xs σ v' σ' :=
  ⟨h.1, fun w M vs hi hvs => (h.2 w M vs hi hvs).mono fun _ _ ⟨u, M', he, hu, hx, hi'⟩ => ⟨u, M', he, hv _ _ _ hu, hx, hi'⟩⟩
theorem clok0 : ClOk Try.prog G0 {} := .of rfl rfl fun f xs t v h => by cases h
theorem fnOf {f : FuncId} (h : ((Try.prog.funcs[f]?).bind (·.body)).isSome = true) : ∃ fn c, Try.prog.funcs[f]? = some fn ∧ fn.body = some c ∧ bodyOf Try.prog f = c := by
  obtain ⟨c, h4⟩ := Option.isSome_iff_exists.1 h
  obtain ⟨fn, h2, h4⟩ := Option.bind_eq_some_iff.1 h4
  exact ⟨fn, c, h2, h4, by unfold bodyOf; rw [h2]; simp [h4]⟩
/-- A function, from what the machine finds of it, over whatever heap. -/
theorem ACall.find {E : Env} (hcl : ClOk Try.prog G0 E) {lp : Loops} {n : Nat} {f : FuncId} (hlp : LoopsOk Try.prog G0 (fun r => r = none) [] lp (bodyOf Try.prog f)) {xs : List AV} {tags : List Bool} {h h' : Heap} {v : AV} {s : Bool}
    (hx : (xenter Try.prog E (xCode Try.prog G0 E n lp) f xs tags h).sel = some (v, s, h')) : ACall Try.prog G0 f xs h v h' := by
  have hfn : ∃ fn c, Try.prog.funcs[f]? = some fn ∧ fn.body = some c := by
    unfold xenter at hx
    split at hx
    · rename_i fn hfn
      split at hx
      · rename_i c hb; exact ⟨fn, c, hfn, hb⟩
      · cases hx
    · cases hx
  obtain ⟨fn, c, h1, h2⟩ := hfn
  have hc : bodyOf Try.prog f = c := by unfold bodyOf; rw [h1]; simp [h2]
  rw [hc] at hlp
  exact xFn_ok names mixed hcl h1 h2 hlp hx
/-- All other calls: nothing is said. -/
def failH : FuncId → List AV → Heap → Option (Tree (AV × Heap)) := fun _ _ _ => some .fail
theorem failH_ok : ∀ f xs σ t v σ', failH f xs σ = some t → t.sel = some (v, σ') → ACall Try.prog G0 f xs σ v σ' := fun f xs σ t v σ' h hs => by cases h; cases hs
/-- A store, told beforehand. -/
def hSt (t : TypeId) (p x : AV) (h1 h2 : Heap) : Heap → Oper → (Operand → Option AV) → Option (AV × Bool × Heap × Prop) := fun h o ρ => match o.op with
  | .store t' a b => if t' = t then some (.tup [], false, h2, ρ a = some p ∧ ρ b = some x ∧ h = h1 ∧ aStore Try.prog h1 t p x = some h2) else none
  | _ => none
theorem hSt_ok (t : TypeId) (p x : AV) (h1 h2 : Heap) : HintA Try.prog (hSt t p x h1 h2) := by
  intro h o ρ y s h' q hh hp
  unfold hSt at hh
  split at hh
  · rename_i t' a b ho
    split at hh
    · rename_i ht
      subst ht
      cases hh
      obtain ⟨p1, p2, rfl, p4⟩ := hp
      unfold aopR
      simp only [ho, p1, p2, p4, Option.map_some]
    · cases hh
  · cases hh
/-- A type of one cell. -/
def One (t : TypeId) : Prop := ∃ i, Try.prog.info? t = some i ∧ i.size = 1
theorem one_of {t : TypeId} (h : (Try.prog.info? t).map (fun i => i.size) = some 1) : One t := Option.map_eq_some_iff.1 h
def lpS (i : Nat) (keep : List Nat) (S : St) (b : Bool) (r x : St) : Loops := fun id => bif Nat.beq id i then some (keep, S, .ite b (.leaf (.ret, r)) (.leaf (.exit 0, x))) else none
/-- A loop that goes over 0 to N - 1, and returns where it stops. -/
structure Scan (body : Code) (keep : List Nat) (N : Nat) (S R : Nat → St) (X : St) (stop : Nat → Bool) : Prop where
  n0 : ∀ k, (S k).n = (S 0).n
  nR : ∀ k, (R k).n = (S 0).n
  nX : X.n = (S 0).n
  run : ∀ k, k ≤ N → ∃ E, ClOk Try.prog G0 E ∧ (xBody Try.prog G0 E 200 noLoops keep body (S k)).sel = some (bif decide (k < N) then bif stop k then (.ret, R k) else (.normal, S (k + 1)) else (.exit 0, X))
section
variable {body : Code} {keep : List Nat} {N q : Nat} {S R : Nat → St} {X : St} {stop : Nat → Bool}
def scanEnd (N p : Nat) (R : Nat → St) (X : St) : Exit × St := bif decide (p < N) then (.ret, R p) else (.exit 0, X)
theorem Scan.loop (hs : Scan body keep N S R X stop) {Rr : Option Nat → Prop} : ∀ (d k : Nat), k + d = N →
    ALoopRun Try.prog G0 Rr body { tmps := (S k).a } (S k).h (scanEnd N (fstStop stop d k) R X).1 { tmps := (scanEnd N (fstStop stop d k) R X).2.a } (scanEnd N (fstStop stop d k) R X).2.h
  | 0, k, hk => by
    obtain ⟨E, h1, h2⟩ := hs.run k (by omega)
    rw [decide_eq_false (by omega), cond_false] at h2
    simp only [fstStop]
    unfold scanEnd
    rw [decide_eq_false (by omega), cond_false]
    exact .stop (xBody_ok (m := []) names mixed h1 (lpNo body) h2).1 nofun
  | d + 1, k, hk => by
    obtain ⟨E, h1, h2⟩ := hs.run k (by omega)
    rw [decide_eq_true (by omega), cond_true] at h2
    unfold fstStop
    cases hp : stop k with
    | true =>
      rw [hp, cond_true] at h2
      simp only [if_true]
      unfold scanEnd
      rw [decide_eq_true (by omega), cond_true]
      exact .stop (xBody_ok (m := []) names mixed h1 (lpNo body) h2).1 nofun
    | false =>
      rw [hp, cond_false] at h2
      simp only [Bool.false_eq_true, if_false]
      exact .next (xBody_ok (m := []) names mixed h1 (lpNo body) h2).1 (hs.loop d (k + 1) (by omega))
theorem Scan.ok (hs : Scan body keep N S R X stop) {f : FuncId} {i : Nat} (hl : loopsOf (bodyOf Try.prog f) = [body]) (hi : idOf body = i) :
    LoopsOk Try.prog G0 (fun r => r = none) [] (lpS i keep (S 0) (decide (fstStop stop N 0 < N)) (R (fstStop stop N 0)) X) (bodyOf Try.prog f) := by
  refine .of_list _ fun x hm => ?_
  rw [hl] at hm
  obtain rfl := List.mem_singleton.1 hm
  intro kp s0 t e st' h' hsel
  rw [hi] at h'
  unfold lpS at h'
  rw [Nat.beq_refl, cond_true] at h'
  cases h'
  have key := hs.loop (Rr := fun r => r = none) N 0 (by omega)
  rw [selI] at hsel
  unfold scanEnd at key
  revert key hsel
  cases decide (fstStop stop N 0 < N) with
  | true => intro hsel key; cases hsel; exact ⟨.loop key, hs.nR _⟩
  | false => intro hsel key; cases hsel; exact ⟨.loop key, hs.nX⟩
end
/-- A loop that is not reached. -/
def lpF (i : Nat) (keep : List Nat) (S : St) : Loops := fun id => bif Nat.beq id i then some (keep, S, .fail) else none
theorem lpF_ok (i : Nat) (keep : List Nat) (S : St) (c : Code) : LoopsOk Try.prog G0 (fun r => r = none) [] (lpF i keep S) c := by
  refine .of_list _ fun x hm => ?_
  intro kp s0 t e st' h' hsel
  unfold lpF at h'
  cases hb : Nat.beq (idOf x) i with
  | true => rw [hb, cond_true] at h'; cases h'; cases hsel
  | false => rw [hb, cond_false] at h'; cases h'
theorem fstStop_at' {stop : Nat → Bool} : ∀ (d k : Nat), fstStop stop d k < k + d → stop (fstStop stop d k) = true
  | 0, k, h => by unfold fstStop at h; omega
  | d + 1, k, h => by
    unfold fstStop at h ⊢
    split
    · assumption
    · rename_i hk; rw [if_neg hk] at h; exact fstStop_at' d (k + 1) (by omega)
theorem fstStop_iff (stop : Nat → Bool) (N : Nat) : fstStop stop N 0 < N ↔ ∃ k, k < N ∧ stop k = true := by
  constructor
  · intro h; exact ⟨_, h, fstStop_at' N 0 (by omega)⟩
  · intro ⟨k, h1, h2⟩
    by_cases h : fstStop stop N 0 < N
    · exact h
    · have := fstStop_before (stop := stop) N 0 k (by omega) (by omega)
      rw [h2] at this; cases this
/-- Known functions with known arguments. -/
def clL : List (FuncId × List AV × AV) → FuncId → List AV → Option (Tree AV)
  | [], _, _ => none
  | (g, ys, v) :: r, f, xs => if f = g then some (.need (xs = ys) (.leaf v)) else clL r f xs
theorem clL_ok {l : List (FuncId × List AV × AV)} (hl : ∀ p ∈ l, ∀ σ, ACall Try.prog G0 p.1 p.2.1 σ p.2.2 σ) : ∀ f xs t v, clL l f xs = some t → t.sel = some v → ∀ σ, ACall Try.prog G0 f xs σ v σ := by
  induction l with
  | nil => intro f xs t v hq; cases hq
  | cons p r ih =>
    intro f xs t v hq hs σ
    obtain ⟨g, ys, u⟩ := p
    unfold clL at hq
    split at hq
    · rename_i hf
      subst hf
      cases hq
      obtain ⟨rfl, hs2⟩ := Tree.of_need hs
      cases hs2
      exact hl (f, _, _) (.head _) σ
    · exact ih (fun p hp => hl p (by simp [hp])) f xs t v hq hs σ
structure ScanG (body : Code) (keep : List Nat) (N q : Nat) (S R : Nat → St) (X : St) (stop : Nat → Bool) : Prop where
  n0 : ∀ k, (S k).n = (S 0).n
  nR : ∀ k, (R k).n = (S 0).n
  nX : X.n = (S 0).n
  run : ∀ k, k ≤ N → ∃ E lp st', ClOk Try.prog G0 E ∧ LoopsOk Try.prog G0 (fun r => r = none) [] lp body ∧
    (xBody Try.prog G0 E 200 lp keep body (S k)).sel = some (bif decide (k < N) then bif stop k then .ret else .normal else .exit q, st') ∧ st'.vals = (bif decide (k < N) then bif stop k then R k else S (k + 1) else X).vals
section
variable {body : Code} {keep : List Nat} {N q : Nat} {S R : Nat → St} {X : St} {stop : Nat → Bool}
def scanE (N q p : Nat) (R : Nat → St) (X : St) : Exit × St := bif decide (p < N) then (.ret, R p) else (.exit q, X)
theorem vals_eq {s t : St} (h : s.vals = t.vals) : s.a = t.a ∧ s.h = t.h := by
  unfold St.vals at h
  exact ⟨(Prod.mk.inj h).1, (Prod.mk.inj (Prod.mk.inj h).2).2⟩
theorem ScanG.loop (hs : ScanG body keep N q S R X stop) : ∀ (d k : Nat), k + d = N →
    ALoopRun Try.prog G0 (fun r => r = none) body { tmps := (S k).a } (S k).h (scanE N q (fstStop stop d k) R X).1 { tmps := (scanE N q (fstStop stop d k) R X).2.a } (scanE N q (fstStop stop d k) R X).2.h
  | 0, k, hk => by
    obtain ⟨E, lp, st', h1, hl, h2, h3⟩ := hs.run k (by omega)
    have hc : decide (k < N) = false := decide_eq_false (by omega)
    rw [hc, cond_false] at h2 h3
    simp only [fstStop]
    unfold scanE
    rw [hc, cond_false]
    have key := (xBody_ok (m := []) names mixed h1 hl h2).1
    rw [(vals_eq h3).1, (vals_eq h3).2] at key
    exact .stop key nofun
  | d + 1, k, hk => by
    obtain ⟨E, lp, st', h1, hl, h2, h3⟩ := hs.run k (by omega)
    have hc : decide (k < N) = true := decide_eq_true (by omega)
    rw [hc, cond_true] at h2 h3
    have key := (xBody_ok (m := []) names mixed h1 hl h2).1
    rw [(vals_eq h3).1, (vals_eq h3).2] at key
    unfold fstStop
    cases hp : stop k with
    | true =>
      rw [hp] at key
      simp only [if_true]
      unfold scanE
      rw [hc, cond_true]
      exact .stop key nofun
    | false =>
      rw [hp] at key
      simp only [Bool.false_eq_true, if_false]
      exact .next key (hs.loop d (k + 1) (by omega))
/-- What is known of such a loop: it returns, or it goes to its end. -/
def lpG (i : Nat) (keep : List Nat) (S : St) (b : Bool) (r : St) (q : Nat) (x : St) : Loops := fun id => bif Nat.beq id i then some (keep, S, .ite b (.leaf (.ret, r)) (.leaf (.exit q, x))) else none
theorem ScanG.ok (hs : ScanG body keep N q S R X stop) {c : Code} {i : Nat} (hu : ∀ x ∈ loopsOf c, idOf x = i → x = body) :
    LoopsOk Try.prog G0 (fun r => r = none) [] (lpG i keep (S 0) (decide (fstStop stop N 0 < N)) (R (fstStop stop N 0)) q X) c := by
  refine .of_list _ fun x hm => ?_
  intro kp s0 t e st' h' hsel
  unfold lpG at h'
  cases hb : Nat.beq (idOf x) i with
  | false => rw [hb, cond_false] at h'; cases h'
  | true =>
    rw [hb, cond_true] at h'
    obtain rfl := hu x hm (Nat.eq_of_beq_eq_true hb)
    cases h'
    have key := hs.loop N 0 (by omega)
    rw [selI] at hsel
    unfold scanE at key
    revert key hsel
    cases decide (fstStop stop N 0 < N) with
    | true => intro hsel key; cases hsel; exact ⟨.loop key, hs.nR _⟩
    | false => intro hsel key; cases hsel; exact ⟨.loop key, hs.nX⟩
end
/-- Known functions, no hints. -/
def EK (l : List (FuncId × List AV × AV)) : Env := { cl := clL l }
theorem clokK {l : List (FuncId × List AV × AV)} (hl : ∀ p ∈ l, ∀ σ, ACall Try.prog G0 p.1 p.2.1 σ p.2.2 σ) : ClOk Try.prog G0 (EK l) := .ofH rfl rfl .none fun f xs t v h hs σ => clL_ok hl f xs t v h hs σ
/-- A value that stays what it is, where what is new becomes data. -/
theorem ToData.same {n : Nat} {σ : Heap} {x : AV} (h : Below n x) : ToData n σ x x := .inl ⟨h, fun _ _ _ h => h⟩
theorem wanted_none {ops : Array Oper} {t : List AV} {o : Oper} (h : o.guard = none) : awanted ops t o = some true := by
  unfold awanted
  rw [h]
def unL : AV → List Int
  | .fl _ n r => (List.range n).map fun i => intOf ((r i).headD .junk)
  | _ => []
theorem unL_flL (L : List Int) : unL (flL L) = L := by
  apply List.ext_getElem?
  intro i
  simp only [unL, flL, List.getElem?_map]
  by_cases h : i < L.length
  · simp [h, List.getD_eq_getElem?_getD, intOf]
  · simp [h]
end Go.Proofs.Ytngaihdpmoajeaa.Am

namespace Go.Proofs.Ytngaihdpmoajeaa.Am
open Go
set_option maxRecDepth 100000

noncomputable def body23 : Code := (loopsOf (bodyOf Try.prog 23)).headD .skip
def st23 (a b : List Int) (k : Int) (h : Heap) : St := .of 26 h [(0, flL a, true), (1, flL b, true), (4, .bool false, false), (12, I a.length, true), (13, I k, true)]
theorem run23 (a b : List Int) (k : Nat) (h : Heap) : xBody Try.prog G0 {} 200 noLoops [0, 1, 4, 12, 13] body23 (st23 a b k h) =
    .ite (decide ((k : Int) < a.length)) (.need (0 ≤ (k : Int) ∧ (k : Int) < a.length) (.need (0 ≤ (k : Int) ∧ (k : Int) < b.length) (.ite (a.getD (k : Int).toNat 0 != b.getD (k : Int).toNat 0) (.leaf (.ret, st23 a b k h)) (.leaf (.normal, st23 a b (IntKind.i64.wrap (k + 1)) h))))) (.leaf (.exit 0, st23 a b k h)) := by kernel_rfl
theorem scan23 {a b : List Int} (hl : a.length < 4611686018427387904) (he : a.length = b.length) (h : Heap) : Scan body23 [0, 1, 4, 12, 13] a.length (fun k => st23 a b k h) (fun k => st23 a b k h) (st23 a b a.length h) fun k => a.getD k 0 != b.getD k 0 := by
  refine ⟨fun _ => rfl, fun _ => rfl, rfl, fun k hk => ⟨{}, clok0, ?_⟩⟩
  rw [run23, selI]
  by_cases hlt : k < a.length
  · have hw : IntKind.i64.wrap ((k : Int) + 1) = ((k + 1 : Nat) : Int) := wrap_i64 (by omega) (by omega)
    rw [decide_eq_true (by omega), decide_eq_true hlt, cond_true, cond_true, Tree.sel_need ⟨by omega, by omega⟩, Tree.sel_need ⟨by omega, by omega⟩, Int.toNat_natCast, selI, hw]
    cases a.getD k 0 != b.getD k 0 <;> rfl
  · have : k = a.length := by omega
    subst this
    rw [decide_eq_false (by omega), decide_eq_false hlt]
    rfl
theorem loops23 : loopsOf (bodyOf Try.prog 23) = [body23] := by kernel_rfl
theorem id23 : idOf body23 = 4 := by kernel_rfl
theorem runF23 (a b : List Int) (h : Heap) (t : Bool) (p q : Int) : xenter Try.prog {} (xCode Try.prog G0 {} 200 (lpS 4 [0, 1, 4, 12, 13] (st23 a b 0 h) t (st23 a b p h) (st23 a b q h))) 23 [flL a, flL b] [true, true] h =
    .ite ((a.length : Int) != b.length) (.leaf (.bool false, false, h)) (.need ((st23 a b 0 h).vals = (st23 a b 0 h).vals) (.ite t (.leaf (.bool false, false, h)) (.leaf (.bool true, false, h)))) := by kernel_rfl
theorem list_eq_iff (a b : List Int) : a = b ↔ a.length = b.length ∧ ∀ k, k < a.length → a.getD k 0 = b.getD k 0 := by
  constructor
  · rintro rfl; exact ⟨rfl, fun _ _ => rfl⟩
  · intro ⟨h1, h2⟩
    apply List.ext_getElem h1
    intro k h3 h4
    have := h2 k h3
    simpa [List.getD_eq_getElem?_getD, h3, h4] using this
theorem c23 {a b : List Int} (hl : a.length < 4611686018427387904) (h : Heap) : ACall Try.prog G0 23 [flL a, flL b] h (.bool (a == b)) h := by
  by_cases he : a.length = b.length
  · have hs := scan23 hl he h
    refine .find (s := false) (n := 200) (tags := [true, true]) clok0 (hs.ok loops23 id23) ?_
    refine (congrArg Tree.sel (runF23 a b h _ _ _)).trans ?_
    rw [selI, bne_eq_false_iff_eq.2 (by omega : (a.length : Int) = b.length), cond_false, selR, selI]
    by_cases hp : fstStop (fun k => a.getD k 0 != b.getD k 0) a.length 0 < a.length
    · rw [decide_eq_true hp]
      obtain ⟨k, h1, h2⟩ := (fstStop_iff _ _).1 hp
      have : (a == b) = false := beq_eq_false_iff_ne.2 fun e => by subst e; simp at h2
      rw [this]; rfl
    · rw [decide_eq_false hp]
      have : a = b := (list_eq_iff a b).2 ⟨he, fun k hk => by
        have := fun h => hp ((fstStop_iff _ _).2 ⟨k, hk, h⟩)
        simpa using this⟩
      rw [this, beq_self_eq_true]; rfl
  · have run2 : xenter Try.prog {} (xCode Try.prog G0 {} 200 (lpF 4 [0, 1, 4, 12, 13] (st23 a b 0 h))) 23 [flL a, flL b] [true, true] h =
      .ite ((a.length : Int) != b.length) (.leaf (.bool false, false, h)) (.need ((st23 a b 0 h).vals = (st23 a b 0 h).vals) .fail) := by kernel_rfl
    refine .find (s := false) (n := 200) (tags := [true, true]) clok0 (lpF_ok 4 [0, 1, 4, 12, 13] (st23 a b 0 h) _) ?_
    rw [run2, selI, bne_iff_ne.2 (by omega : (a.length : Int) ≠ b.length)]
    have : (a == b) = false := beq_eq_false_iff_ne.2 fun e => he (by rw [e])
    rw [this]; rfl
noncomputable def body60 : Code := (loopsOf (bodyOf Try.prog 60)).headD .skip
def cl23 : FuncId → List AV → Option (Tree AV) := fun f xs => match f, xs with
  | 23, [x, y] => some (.need (x = flL (unL x) ∧ y = flL (unL y) ∧ (unL x).length < 4611686018427387904) (.leaf (.bool (unL x == unL y))))
  | _, _ => none
theorem cl26_ok {f : FuncId} {xs : List AV} {t : Tree AV} {v : AV} (hq : cl23 f xs = some t) (hs : t.sel = some v) (σ : Heap) : ACall Try.prog G0 f xs σ v σ := by
  unfold cl23 at hq
  split at hq <;> first | (cases hq; done) | skip
  rename_i x y
  cases hq
  obtain ⟨⟨h1, h2, h3⟩, hs2⟩ := Tree.of_need hs
  cases hs2
  have := c23 (a := unL x) (b := unL y) h3 σ
  rwa [← h1, ← h2] at this
theorem clok23 : ClOk Try.prog G0 { cl := cl23 } := .of rfl rfl fun f xs t v h hs σ => cl26_ok h hs σ
def st60 (a b : List (List Int)) (k : Int) (h : Heap) : St := .of 32 h [(1, flLL b, true), (2, .fn 23 [] [], true), (6, .bool false, false), (15, flLL a, true), (16, I a.length, true), (17, I k, true)]
theorem run60 (a b : List (List Int)) (k : Nat) (h : Heap) : xBody Try.prog G0 { cl := cl23 } 200 noLoops [1, 2, 6, 15, 16, 17] body60 (st60 a b k h) =
    .ite (decide ((k : Int) < a.length)) (.need (0 ≤ (k : Int) ∧ (k : Int) < a.length) (.need (0 ≤ (k : Int) ∧ (k : Int) < b.length) (.need (flL (a.getD (k : Int).toNat []) = flL (unL (flL (a.getD (k : Int).toNat []))) ∧ flL (b.getD (k : Int).toNat []) = flL (unL (flL (b.getD (k : Int).toNat []))) ∧ (unL (flL (a.getD (k : Int).toNat []))).length < 4611686018427387904)
      (.ite (!(unL (flL (a.getD (k : Int).toNat [])) == unL (flL (b.getD (k : Int).toNat [])))) (.leaf (.ret, st60 a b k h)) (.leaf (.normal, st60 a b (IntKind.i64.wrap (k + 1)) h)))))) (.leaf (.exit 0, st60 a b k h)) := by kernel_rfl
theorem scan60 {a b : List (List Int)} (hl : a.length < 4611686018427387904) (hx : ∀ x ∈ a, x.length < 4611686018427387904) (he : a.length = b.length) (h : Heap) : Scan body60 [1, 2, 6, 15, 16, 17] a.length (fun k => st60 a b k h) (fun k => st60 a b k h) (st60 a b a.length h) fun k => !(a.getD k [] == b.getD k []) := by
  refine ⟨fun _ => rfl, fun _ => rfl, rfl, fun k hk => ⟨_, clok23, ?_⟩⟩
  rw [run60, selI]
  by_cases hlt : k < a.length
  · have hw : IntKind.i64.wrap ((k : Int) + 1) = ((k + 1 : Nat) : Int) := wrap_i64 (by omega) (by omega)
    have hm : (a.getD k []).length < 4611686018427387904 := by
      have : a.getD k [] = a[k] := by simp [List.getD_eq_getElem?_getD, hlt]
      rw [this]; exact hx _ (List.getElem_mem hlt)
    rw [Int.toNat_natCast, unL_flL, unL_flL]
    rw [decide_eq_true (by omega), decide_eq_true hlt, cond_true, cond_true, Tree.sel_need ⟨by omega, by omega⟩, Tree.sel_need ⟨by omega, by omega⟩, Tree.sel_need ⟨rfl, rfl, hm⟩, selI, hw]
    cases !(a.getD k [] == b.getD k []) <;> rfl
  · have : k = a.length := by omega
    subst this
    rw [decide_eq_false (by omega), decide_eq_false hlt]
    rfl
theorem loops60 : loopsOf (bodyOf Try.prog 60) = [body60] := by kernel_rfl
theorem id60 : idOf body60 = 4 := by kernel_rfl
theorem runF60 (a b : List (List Int)) (h : Heap) (t : Bool) (p q : Int) : xenter Try.prog { cl := cl23 } (xCode Try.prog G0 { cl := cl23 } 200 (lpS 4 [1, 2, 6, 15, 16, 17] (st60 a b 0 h) t (st60 a b p h) (st60 a b q h))) 60 [flLL a, flLL b, .fn 23 [] []] [true, true, true] h =
    .ite ((a.length : Int) != b.length) (.leaf (.bool false, false, h)) (.need ((st60 a b 0 h).vals = (st60 a b 0 h).vals) (.ite t (.leaf (.bool false, false, h)) (.leaf (.bool true, false, h)))) := by kernel_rfl
theorem runF60' (a b : List (List Int)) (h : Heap) : xenter Try.prog { cl := cl23 } (xCode Try.prog G0 { cl := cl23 } 200 (lpF 4 [1, 2, 6, 15, 16, 17] (st60 a b 0 h))) 60 [flLL a, flLL b, .fn 23 [] []] [true, true, true] h =
    .ite ((a.length : Int) != b.length) (.leaf (.bool false, false, h)) (.need ((st60 a b 0 h).vals = (st60 a b 0 h).vals) .fail) := by kernel_rfl
theorem listL_eq_iff (a b : List (List Int)) : a = b ↔ a.length = b.length ∧ ∀ k, k < a.length → a.getD k [] = b.getD k [] := by
  constructor
  · rintro rfl; exact ⟨rfl, fun _ _ => rfl⟩
  · intro ⟨h1, h2⟩
    apply List.ext_getElem h1
    intro k h3 h4
    have := h2 k h3
    simpa [List.getD_eq_getElem?_getD, h3, h4] using this
theorem c60 {a b : List (List Int)} (hl : a.length < 4611686018427387904) (hx : ∀ x ∈ a, x.length < 4611686018427387904) (h : Heap) : ACall Try.prog G0 60 [flLL a, flLL b, .fn 23 [] []] h (.bool (a == b)) h := by
  by_cases he : a.length = b.length
  · have hs := scan60 hl hx he h
    refine .find (s := false) (n := 200) (tags := [true, true, true]) clok23 (hs.ok loops60 id60) ?_
    refine (congrArg Tree.sel (runF60 a b h _ _ _)).trans ?_
    rw [selI, bne_eq_false_iff_eq.2 (by omega : (a.length : Int) = b.length), cond_false, selR, selI]
    by_cases hp : fstStop (fun k => !(a.getD k [] == b.getD k [])) a.length 0 < a.length
    · rw [decide_eq_true hp]
      obtain ⟨k, h1, h2⟩ := (fstStop_iff _ _).1 hp
      have : (a == b) = false := beq_eq_false_iff_ne.2 fun e => by subst e; simp at h2
      rw [this]; rfl
    · rw [decide_eq_false hp]
      have : a = b := (listL_eq_iff a b).2 ⟨he, fun k hk => by
        have := fun h => hp ((fstStop_iff _ _).2 ⟨k, hk, h⟩)
        simpa using this⟩
      rw [this, beq_self_eq_true]; rfl
  · refine .find (s := false) (n := 200) (tags := [true, true, true]) clok23 (lpF_ok 4 [1, 2, 6, 15, 16, 17] (st60 a b 0 h) _) ?_
    rw [runF60', selI, bne_iff_ne.2 (by omega : (a.length : Int) ≠ b.length)]
    have : (a == b) = false := beq_eq_false_iff_ne.2 fun e => he (by rw [e])
    rw [this]; rfl
noncomputable def body37 : Code := (loopsOf (bodyOf Try.prog 37)).headD .skip
def st37 (a : List Int) (x k r : Int) (b : Bool) (h : Heap) : St := .of 19 h [(0, flL a, true), (1, I x, true), (4, I r, b), (7, I a.length, true), (8, I k, true)]
theorem run37 (a : List Int) (x : Int) (k : Nat) (h : Heap) : xBody Try.prog G0 {} 200 noLoops [0, 1, 4, 7, 8] body37 (st37 a x k 0 false h) =
    .ite (decide ((k : Int) < a.length)) (.need (0 ≤ (k : Int) ∧ (k : Int) < a.length) (.ite (x == a.getD (k : Int).toNat 0) (.leaf (.ret, st37 a x k k true h)) (.leaf (.normal, st37 a x (IntKind.i64.wrap (k + 1)) 0 false h)))) (.leaf (.exit 0, st37 a x k 0 false h)) := by kernel_rfl
theorem scan37 {a : List Int} (hl : a.length < 4611686018427387904) (x : Int) (h : Heap) : Scan body37 [0, 1, 4, 7, 8] a.length (fun k => st37 a x k 0 false h) (fun k => st37 a x k k true h) (st37 a x a.length 0 false h) fun k => x == a.getD k 0 := by
  refine ⟨fun _ => rfl, fun _ => rfl, rfl, fun k hk => ⟨_, clok0, ?_⟩⟩
  rw [run37, selI]
  by_cases hlt : k < a.length
  · have hw : IntKind.i64.wrap ((k : Int) + 1) = ((k + 1 : Nat) : Int) := wrap_i64 (by omega) (by omega)
    rw [decide_eq_true (by omega), decide_eq_true hlt, cond_true, cond_true, Tree.sel_need ⟨by omega, by omega⟩, selI, Int.toNat_natCast, hw]
    cases x == a.getD k 0 <;> rfl
  · have : k = a.length := by omega
    subst this
    rw [decide_eq_false (by omega), decide_eq_false hlt]
    rfl
theorem loops37 : loopsOf (bodyOf Try.prog 37) = [body37] := by kernel_rfl
theorem id37 : idOf body37 = 2 := by kernel_rfl
theorem runF37 (a : List Int) (x : Int) (h : Heap) (t : Bool) (p q : Int) : xenter Try.prog {} (xCode Try.prog G0 {} 200 (lpS 2 [0, 1, 4, 7, 8] (st37 a x 0 0 false h) t (st37 a x p p true h) (st37 a x q 0 false h))) 37 [flL a, I x] [true, true] h =
    .need ((st37 a x 0 0 false h).vals = (st37 a x 0 0 false h).vals) (.ite t (.leaf (I p, true, h)) (.leaf (I (-1), false, h))) := by kernel_rfl
/-- The first place of a number; none: -1. -/
def index (a : List Int) (x : Int) : Int := bif decide (fstStop (fun k => x == a.getD k 0) a.length 0 < a.length) then ((fstStop (fun k => x == a.getD k 0) a.length 0 : Nat) : Int) else -1
theorem index_nonneg (a : List Int) (x : Int) : decide (index a x ≥ 0) = a.contains x := by
  unfold index
  by_cases hp : fstStop (fun k => x == a.getD k 0) a.length 0 < a.length
  · rw [decide_eq_true hp, cond_true, decide_eq_true (by omega)]
    obtain ⟨k, h1, h2⟩ := (fstStop_iff _ _).1 hp
    have : x = a[k] := by simpa [List.getD_eq_getElem?_getD, h1] using h2
    symm
    rw [List.contains_iff_mem, this]
    exact List.getElem_mem h1
  · rw [decide_eq_false hp, cond_false]
    symm
    rw [show decide ((-1 : Int) ≥ 0) = false from rfl, ← Bool.not_eq_true, List.contains_iff_mem]
    intro hm
    obtain ⟨k, h1, rfl⟩ := List.getElem_of_mem hm
    exact hp ((fstStop_iff _ _).2 ⟨k, h1, by simp [List.getD_eq_getElem?_getD, h1]⟩)
theorem c37 {a : List Int} (hl : a.length < 4611686018427387904) (x : Int) (h : Heap) : ACall Try.prog G0 37 [flL a, I x] h (I (index a x)) h := by
  refine .find (s := decide (fstStop (fun k => x == a.getD k 0) a.length 0 < a.length)) (n := 200) (tags := [true, true]) clok0 ((scan37 hl x h).ok loops37 id37) ?_
  refine (congrArg Tree.sel (runF37 a x h _ _ _)).trans ?_
  rw [selR, selI]
  unfold index
  cases decide (fstStop (fun k => x == a.getD k 0) a.length 0 < a.length) <;> rfl
def cl37 : FuncId → List AV → Option (Tree AV) := fun f xs => match f, xs with
  | 37, [x, .int .i64 y] => some (.need (x = flL (unL x) ∧ (unL x).length < 4611686018427387904) (.leaf (I (index (unL x) y))))
  | _, _ => none
theorem clok37 : ClOk Try.prog G0 { cl := cl37 } := .of rfl rfl fun f xs t v hq hs σ => by
  replace hq : cl37 f xs = some t := hq
  unfold cl37 at hq
  split at hq <;> first | (cases hq; done) | skip
  rename_i x y
  cases hq
  obtain ⟨⟨h1, h3⟩, hs2⟩ := Tree.of_need hs
  cases hs2
  have := c37 (a := unL x) h3 y σ
  rwa [← h1] at this
theorem run35 (a : List Int) (x : Int) (h : Heap) : xCall Try.prog G0 { cl := cl37 } 200 35 [flL a, I x] [true, true] h = .need (flL a = flL (unL (flL a)) ∧ (unL (flL a)).length < 4611686018427387904) (.leaf (.bool (decide (index (unL (flL a)) x ≥ 0)), true, h)) := by kernel_rfl
theorem c35 {a : List Int} (hl : a.length < 4611686018427387904) (x : Int) (h : Heap) : ACall Try.prog G0 35 [flL a, I x] h (.bool (a.contains x)) h := by
  refine xCall_ok (n := 200) (tags := [true, true]) (s := true) names mixed clok37 ?_
  rw [run35, unL_flL, Tree.sel_need ⟨rfl, hl⟩, index_nonneg]
  rfl
/-- What is x is also x'. -/
def Sub (x x' : AV) : Prop := ∀ w M u, RV w M u x → RV w M u x'
theorem Sub.rfl' (x : AV) : Sub x x := fun _ _ _ h => h
theorem ACall.args {f : FuncId} {xs xs' : List AV} {σ σ' : Heap} {v : AV} (h : ACall Try.prog G0 f xs' σ v σ') (hl : xs.length = xs'.length) (hx : ∀ (j : Nat) (x' : AV), xs'[j]? = some x' → ∃ x, xs[j]? = some x ∧ Sub x x') : ACall Try.prog G0 f xs σ v σ' :=
  ⟨h.1, fun w M vs hi hvs => h.2 w M vs hi ⟨by rw [hvs.1, hl], fun j x' hj => by
    obtain ⟨x, h1, h2⟩ := hx j x' hj
    exact h2 _ _ _ (hvs.2 j x h1)⟩⟩
theorem ACall.arg2 {f : FuncId} {a b a' b' : AV} {σ σ' : Heap} {v : AV} (h : ACall Try.prog G0 f [a', b'] σ v σ') (ha : Sub a a') (hb : Sub b b') : ACall Try.prog G0 f [a, b] σ v σ' :=
  h.args rfl fun j x hx => by
    match j, hx with
    | 0, hx => cases hx; exact ⟨a, rfl, ha⟩
    | 1, hx => cases hx; exact ⟨b, rfl, hb⟩
    | j + 2, hx => simp at hx
/-- A list that is written out. -/
def slL (L : List Int) : AV := .sl 1 ((L.map I).map fun y => [y])
theorem sub_slL (L : List Int) : Sub (slL L) (flL L) := fun _ _ _ h => h.flL_of
noncomputable def fstS : Code → Code | .seq x _ => x | c => c
noncomputable def sndS : Code → Code | .seq _ x => x | c => c
noncomputable def b14 : Code := bodyOf Try.prog 14
noncomputable def cdY : Code → Code | .cond _ y _ => y | c => c
noncomputable def cdN : Code → Code | .cond _ _ y => y | c => c
noncomputable def x14 : Code := fstS (fstS (sndS b14))
noncomputable def y14 : Code := cdY (sndS (fstS (sndS b14)))
noncomputable def n14 : Code := cdN (sndS (fstS (sndS b14)))
noncomputable def z14 : Code := sndS (sndS b14)
theorem code14 : bodyOf Try.prog 14 = .seq (fstS b14) (.seq (.seq x14 (.cond (.tmp 4) y14 n14)) z14) := by kernel_rfl
def s14 (x : AV) (h : Heap) : St := .of 8 h [(0, x, true)]
def s14b (x y : AV) (h : Heap) : St := .of 8 h [(0, x, true), (4, y, true)]
def s14r (h : Heap) : St := .of 8 h [(2, .zs, true)]
def E14 : Env := { hint := hNil 22 }
theorem clok14 : ClOk Try.prog G0 E14 := .ofH rfl rfl (hNil_ok Try.underlying22) fun f xs t v h => by cases h
/-- An empty slice. -/
def z0 : AV := .sl 1 []
theorem run14r (h : Heap) : xBody Try.prog G0 {} 200 noLoops [0] (fstS b14) (s14 z0 h) = .leaf (.normal, s14 z0 h) := by kernel_rfl
theorem run14x (h : Heap) : xBody Try.prog G0 E14 200 noLoops [0, 4] x14 (s14 z0 h) = .need True (.leaf (.normal, s14b z0 .anyb h)) := by kernel_rfl
theorem run14y (h : Heap) : (xBody Try.prog G0 {} 200 noLoops [2] y14 (s14b z0 (.bool true) h)).sel = some (.ret, .of 8 h [(2, .zs, false)]) := by kernel_rfl
theorem run14n (h : Heap) : (xBody Try.prog G0 {} 200 noLoops [0] n14 (s14b z0 (.bool false) h)).sel = some (.normal, s14 z0 h) := by kernel_rfl
theorem run14z (h : Heap) : (xBody Try.prog G0 {} 200 noLoops [2] z14 (s14 z0 h)) = .need (true = true) (.leaf (.ret, s14r h)) := by kernel_rfl
theorem set14 (b : Bool) (h : Heap) : ((s14b z0 .anyb h).a).set 4 (.bool b) = (s14b z0 (.bool b) h).a := by kernel_rfl
theorem exec14 {R : Option Nat → Prop} (h : Heap) : AExec Try.prog G0 R (bodyOf Try.prog 14) { tmps := (s14 z0 h).a } h .ret { tmps := (s14r h).a } h := by
  rw [code14]
  have x0 := (xBody_ok (m := []) (R := R) names mixed clok0 (lpNo _) (congrArg Tree.sel (run14r h))).1
  have x1 := (xBody_ok (m := []) (R := R) names mixed clok14 (lpNo x14) (n := 200) (keep := [0, 4]) (st := s14 z0 h) (st' := s14b z0 .anyb h) (by rw [run14x, Tree.sel_need trivial]; rfl)).1
  have x2 := (xBody_ok (m := []) (R := R) names mixed clok0 (lpNo _) (run14y h)).1
  have x3 := (xBody_ok (m := []) (R := R) names mixed clok0 (lpNo _) (run14n h)).1
  have x4 := (xBody_ok (m := []) (R := R) names mixed clok0 (lpNo z14) (n := 200) (keep := [2]) (st := s14 z0 h) (st' := s14r h) (by rw [run14z, Tree.sel_need rfl]; rfl)).1
  have e : (St.of 8 h [(2, AV.zs, false)]).a = (s14r h).a := by kernel_rfl
  rw [e, ← set14] at x2
  rw [← set14] at x3
  exact .seq x0 (AExec.fork x1 (i := 4) (by kernel_rfl) (by simp) x2 x3 x4)
theorem c14e (h : Heap) : ACall Try.prog G0 14 [z0] h .zs h := by
  obtain ⟨fn, c, k1, k2, k3⟩ := fnOf (f := 14) (by kernel_rfl)
  have hall := exec14 (R := fun r => r = none) h
  rw [k3] at hall
  have hres : fn.results.toList = [.tmp 2] := by
    have : (Try.prog.funcs[14]?).map (·.results.toList) = some [.tmp 2] := by kernel_rfl
    rw [k1] at this
    exact Option.some.inj this
  have hnt : fn.ntmps = 8 := by
    have : (Try.prog.funcs[14]?).map (·.ntmps) = some 8 := by kernel_rfl
    rw [k1] at this
    exact Option.some.inj this
  refine ACall.of_body (args := [z0]) (xs := [.zs]) k1 k2 (names 14 fn k1) (.weak ?_ hall) (.inr rfl) ?_
  · have e : (s14 z0 h).a = z0 :: List.replicate 7 .junk := by kernel_rfl
    rw [hnt, e]
    refine ⟨by simp, fun j y hj => ?_⟩
    match j, hj with
    | 0, hj => exact .inr hj
    | j + 1, hj => exact .inl (List.eq_of_mem_replicate (n := 7) (List.mem_of_getElem? (i := j) (by simpa using hj)))
  · rw [hres]
    have : (s14r h).a[2]? = some .zs := by kernel_rfl
    simp only [aResults, aResult, this]
theorem run14s (L : List Int) (v : AV) (h h1 : Heap) : xCall Try.prog G0 { hint := orH (hNilF 22) (hApp 22 .zs (slL L) v h h1) } 200 14 [slL L] [true] h =
    .need (0 < ((L.map I).map fun y => ([y] : List AV)).length) (.ite false (.leaf (.zs, false, h)) (.need (some ([.zs, slL L] : List AV) = some [.zs, slL L] ∧ #[22, 22] = #[22, 22] ∧ h = h ∧ aAppend Try.prog h 22 22 .zs (slL L) = some (v, h1)) (.leaf (v, true, h1)))) := by kernel_rfl
/-- Appending to nothing. -/
theorem append_zs {t e : TypeId} (he : Elem1 t e) (h : Heap) (x : AV) {L : List AV} (hc : conts h 1 x = some (L.length, L)) (hone : L.all AV.one = true) (hl : L.length ≤ 16777216) (h0 : L ≠ []) :
    aAppend Try.prog h t t .zs x = some (.ms 1 h.length 0 0 L.length L.length, h ++ [.cells 0 L]) := by
  obtain ⟨ie, zx, h1, h2, h3, h4, h5, h6⟩ := he.i
  have hn : notInt Try.prog t = true := by unfold notInt; rw [he.u]
  unfold aAppend
  rw [he.u]
  simp only [h1, h2, h3, hc]
  have hL : ¬ L.length = 0 := by simpa using h0
  simp only [hn, hone, h4, h5, h6, and_self, if_true, hL, if_false, hl]
theorem one_map (L : List Int) : (L.map I).all AV.one = true := by
  rw [List.all_eq_true]
  intro x hx
  obtain ⟨n, _, rfl⟩ := List.mem_map.1 hx
  rfl
theorem flat_one (l : List AV) : (l.map fun y => ([y] : List AV)).flatten = l := by
  induction l with
  | nil => rfl
  | cons x r ih => simp [ih]
theorem sub_flL (L : List Int) : Sub (flL L) (slL L) := fun _ _ _ h => h.flL_to
/-- THE COPY OF A LIST, a new slice. -/
theorem c14s {L : List Int} (h0 : L ≠ []) (hl : L.length ≤ 16777216) (h : Heap) : ACall Try.prog G0 14 [flL L] h (.ms 1 h.length 0 0 L.length L.length) (h ++ [.cells 0 (L.map I)]) := by
  have hpos : 0 < L.length := List.length_pos_iff.2 h0
  have ha := append_zs el22 h (slL L) (L := L.map I) (by unfold slL; simp only [conts, if_true, flat_one, List.length_map]) (one_map L) (by simpa using hl) (by simpa using h0)
  rw [List.length_map] at ha
  have key : ACall Try.prog G0 14 [slL L] h (.ms 1 h.length 0 0 L.length L.length) (h ++ [.cells 0 (L.map I)]) := by
    refine xCall_ok (n := 200) (tags := [true]) (s := true) (E := { hint := orH (hNilF 22) (hApp 22 .zs (slL L) (.ms 1 h.length 0 0 L.length L.length) h (h ++ [.cells 0 (L.map I)])) }) names mixed (.ofH rfl rfl ((hNilF_ok Try.underlying22).or (hApp_ok _ _ _ _ _ _).ok) fun f xs t v h => by cases h) ?_
    refine (congrArg Tree.sel (run14s L _ h _)).trans ?_
    rw [Tree.sel_need (by simpa using hpos), selI, cond_false, Tree.sel_need ⟨rfl, rfl, rfl, ha⟩]
    rfl
  refine key.args rfl fun j x' hj => ?_
  match j, hj with
  | 0, hj => cases hj; exact ⟨_, rfl, sub_flL L⟩
  | j + 1, hj => simp at hj
/-- A new slice of integers, told as data. -/
theorem ACall.newL {f : FuncId} {args : List AV} {L : List Int} {h : Heap} (hc : ACall Try.prog G0 f args h (.ms 1 h.length 0 0 L.length L.length) (h ++ [.cells 0 (L.map I)])) : ACall Try.prog G0 f args h (flL L) h := by
  have hc' : ACall Try.prog G0 f args h (.ms 1 h.length 0 0 (L.map I).length (L.map I).length) (h ++ [.cells 0 (L.map I)]) := by rw [List.length_map]; exact hc
  refine (hc'.msData (Nat.le_refl _) (g := 0) (by simp) fun x hx => ?_).conv fun _ _ _ h => h.flL_of
  obtain ⟨n, _, rfl⟩ := List.mem_map.1 hx
  exact .int _ _
theorem sub_zs0 : Sub .zs z0 := fun _ _ _ h => by cases h; exact .sl0 _ _ _
theorem sub_fl0 : Sub (flL []) z0 := sub_flL []
theorem ACall.arg1 {f : FuncId} {a a' : AV} {σ σ' : Heap} {v : AV} (h : ACall Try.prog G0 f [a'] σ v σ') (ha : Sub a a') : ACall Try.prog G0 f [a] σ v σ' :=
  h.args rfl fun j x hx => by
    match j, hx with
    | 0, hx => cases hx; exact ⟨a, rfl, ha⟩
    | j + 1, hx => simp at hx
/-- THE COPY OF A LIST, as data. -/
theorem c14d {L : List Int} (hl : L.length ≤ 16777216) (h : Heap) : ACall Try.prog G0 14 [flL L] h (flL L) h := by
  cases L with
  | nil => exact ((c14e h).arg1 sub_fl0).conv fun _ _ _ h => h.flL_zs
  | cons x r => exact (c14s (by simp) hl h).newL
/-- The first m elements of a list. -/
def hSlc (L : List Int) (m : Nat) : Heap → Oper → (Operand → Option AV) → Option (AV × Bool × Heap × Prop) := fun h o ρ => match o.op with
  | .slice 22 x none (some y) none => some (flL (L.take m), true, h, ρ x = some (flL L) ∧ ρ y = some (I m) ∧ m ≤ L.length)
  | _ => none
theorem slice_sl (L : List Int) {m : Nat} (hm : m ≤ L.length) (σ : Heap) : aSlice Try.prog σ 22 (slL L) none (some (I m)) none = some (slL (L.take m)) := by
  obtain ⟨ie, zx, h1, h2, h3, h4, h5, h6⟩ := el22.i
  have hlen : ((L.map I).map fun y => ([y] : List AV)).length = L.length := by simp
  unfold aSlice slL
  rw [Try.underlying22]
  simp only [hlen]
  have hb : aBounds L.length L.length none (some (I m)) none = some (0, m, L.length) := by
    have e : aBound (I m) L.length = some m := by
      have hc : 0 ≤ (m : Int) ∧ (m : Int) ≤ L.length := ⟨by omega, by omega⟩
      simp only [aBound, hc, and_self, if_true, Int.toNat_natCast]
    unfold aBounds
    simp only [e]
  rw [h1, hb]
  simp [h3, List.map_take]
theorem hSlc_ok (L : List Int) (m : Nat) : HintOk Try.prog G0 (hSlc L m) := by
  refine ⟨fun h o a mk y s h' p hh hp => ?_, fun h o ρ y s h' p hh hp _ => ?_⟩
  · unfold hSlc at hh
    split at hh
    · rename_i x z ho
      cases hh
      obtain ⟨hx, hz, hm⟩ := hp
      intro r0 w M ac K Q hi ha hK
      refine ⟨fun f _ => FW_fn r0 f, ?_⟩
      have hnd : ∀ c, o.op ≠ .defer c := fun c' h => by rw [ho] at h; cases h
      rw [Oper.semAt_eq _ _ _ hnd]
      have hv := sub_flL L _ _ _ (ev_ok hi ha.tmps hx)
      obtain ⟨r, hr, hrv⟩ := aSlice_ok (lo' := none) (hi' := some (ac.eval z)) (mx' := none) hi hv .none (.some _ _ (ev_ok hi ha.tmps hz)) .none (slice_sl L hm h)
      have hrun : (execOp ac.eval o).run Try.prog w = .ok (.value r) w := by
        unfold execOp
        simp only [ho, Option.map_none, Option.map_some, Sem.run_bind, hr, Result.andThen_ok]
        rfl
      rw [hrun]
      exact hK _ w M (sub_slL _ _ _ _ hrv) (.refl w M) hi
    · cases hh
  · unfold hSlc at hh
    split at hh
    · cases hh; rfl
    · cases hh
end Go.Proofs.Ytngaihdpmoajeaa.Am

