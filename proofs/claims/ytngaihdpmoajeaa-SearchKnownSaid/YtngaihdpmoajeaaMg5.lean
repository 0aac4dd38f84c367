/-
  This file proves nothing of a law. It holds lemmas, of 7 texts in their order. No condition of its own.
-/
import Derived.Test.YtngaihdpmoajeaaMg4
namespace Go.Proofs.Ytngaihdpmoajeaa.Am
open Go
section
variable {P : Program} {G : Nat → Option (List AV)} {w : World} {M : Map}

/-- The objects by other numbers; those without a new number are forgotten. -/
def Map.re (M : Map) (π : Nat → Option Nat) : Map := ⟨fun r => (π r).bind M.get, M.far⟩
theorem Map.re_some {π : Nat → Option Nat} {r : Nat} {p : Nat × Nat} (h : M.re π r = some p) : ∃ q, π r = some q ∧ M q = some p := Option.bind_eq_some_iff.1 h
theorem Map.re_at {π : Nat → Option Nat} {r q : Nat} (h : π r = some q) : M.re π r = M q := by simp [Map.re, h]
theorem Imm.re {b : Nat} (h : Imm w M b) (π : Nat → Option Nat) : Imm w (M.re π) b := ⟨h.1, fun r g hr => by
  obtain ⟨q, _, h2⟩ := Map.re_some hr
  exact h.2.1 q g h2, h.2.2⟩

/-- Objects that keep their numbers. -/
def KeepB (π : Nat → Option Nat) (n : Nat) (σ : Heap) : Prop := ∀ r, r < n → σ[r]? = some .resv ∨ π r = some r
theorem RV.re {σ : Heap} {π : Nat → Option Nat} {n : Nat} (hi : Inv G w M σ) (hk : KeepB π n σ) {v : Value} {x : AV} (hv : RV w M v x) (hb : Below n x) : RV w (M.re π) v x := by
  have hm : ∀ r p, r < n → M r = some p → M.re π r = some p := fun r p hr hp => by
    rcases hk r hr with h | h
    · rw [hi.resv r h] at hp; cases hp
    · rw [Map.re_at h]; exact hp
  induction hv with
  | int k i => exact .int k i
  | bool b => exact .bool b
  | nilp => exact .nilp
  | nilf => exact .nilf
  | ref r g off b hr => cases hb with | ref _ _ _ hlt => exact .ref r g off b (hm _ _ hlt hr)
  | refS r g off b g' p hr hg => cases hb with | ref _ _ _ hlt => exact .refS r g off b g' p (hm _ _ hlt hr) hg
  | row b o off f cells hi hc _ ih => cases hb with | row _ _ h => exact .row b o off f cells (hi.re π) hc fun j x hj => ih j x hj (h j x hj)
  | sl0 base cap size => exact .sl0 base cap size
  | sl b o cap size f rows hi hc hl _ hcap ih => cases hb with | sl _ _ h => exact .sl b o cap size f rows (hi.re π) hc hl (fun i r j x hi hj => ih i r j x hi hj (h i r j x hi hj)) hcap
  | fl v size k rows _ ih => cases hb with | fl _ _ _ h => exact .fl _ size k rows (ih h)
  | zs base => exact .zs base
  | ms size r g off len cap b capc c e hr hlen hcc hsz hfit => cases hb with | ms _ _ _ _ _ _ hlt => exact .ms size r g off len cap b capc c e (hm _ _ hlt hr) hlen hcc hsz hfit
  | msS size r g off len cap b g' p capc hr hg => cases hb with | ms _ _ _ _ _ _ hlt => exact .msS size r g off len cap b g' p capc (hm _ _ hlt hr) hg
  | agg vs xs hl _ ih => cases hb with | agg _ h => exact .agg vs xs hl fun j x hj => ih j x hj (h j x hj)
  | tup vs xs hl _ ih => cases hb with | tup _ h => exact .tup vs xs hl fun j x hj => ih j x hj (h j x hj)
  | fn f fs cs xs ys hl1 hl2 _ _ ih1 ih2 => cases hb with | fn _ _ _ h1 h2 => exact .fn f fs cs xs ys hl1 hl2 (fun j x hj => ih1 j x hj (h1 j x hj)) (fun j x hj => ih2 j x hj (h2 j x hj))
  | yf l b hr => cases hb with | yf _ hlt => exact .yf l b (hm _ _ hlt hr)
  | yfS l b g fn fs cs hr hg => cases hb with | yf _ hlt => exact .yfS l b g fn fs cs (hm _ _ hlt hr) hg
  | anyb b => exact .anyb b
  | mx size r g off len cap b c e hr hlen hsz hfit => cases hb with | mx _ _ _ _ _ _ hlt => exact .mx size r g off len cap b c e (hm _ _ hlt hr) hlen hsz hfit
  | mxS size r g off len cap b g' p hr hg => cases hb with | mx _ _ _ _ _ _ hlt => exact .mxS size r g off len cap b g' p (hm _ _ hlt hr) hg
  | junk v => exact .junk v

/-- WHAT A VALUE IS BY THE NEW NUMBERS. -/
def Re (G : Nat → Option (List AV)) (π : Nat → Option Nat) (σ : Heap) (x y : AV) : Prop := ∀ w M v, Inv G w M σ → RV w M v x → RV w (M.re π) v y
variable {π : Nat → Option Nat} {σ : Heap}
theorem Re.below {n : Nat} {x : AV} (hk : KeepB π n σ) (hb : Below n x) : Re G π σ x x := fun _ _ _ hi hv => hv.re hi hk hb
theorem Re.flat {x : AV} (hb : Below 0 x) : Re G π σ x x := Re.below (n := 0) (fun _ h => by omega) hb
theorem Re.conv {x y z : AV} (h : Re G π σ x y) (hs : ∀ w M v, RV w M v y → RV w M v z) : Re G π σ x z := fun _ _ _ hi hv => hs _ _ _ (h _ _ _ hi hv)
theorem Re.pre {x y z : AV} (hs : ∀ w M v, RV w M v x → RV w M v y) (h : Re G π σ y z) : Re G π σ x z := fun _ _ _ hi hv => h _ _ _ hi (hs _ _ _ hv)
theorem Re.junk {x : AV} : Re G π σ x .junk := fun _ _ _ _ _ => .junk _
theorem Re.ref {r q g off : Nat} (h : π r = some q) : Re G π σ (.ref q g off) (.ref r g off) := fun w M v hi hv => by
  cases hv with
  | ref _ _ _ b hr => exact .ref r g off b (by rw [Map.re_at h]; exact hr)
  | refS _ _ _ b g' p hr hg => exact .refS r g off b g' p (by rw [Map.re_at h]; exact hr) hg
theorem Re.ms {size r q g off len cap : Nat} (h : π r = some q) : Re G π σ (.ms size q g off len cap) (.ms size r g off len cap) := fun w M v hi hv => by
  cases hv with
  | ms _ _ _ _ _ _ b capc c e hr hlen hcc hsz hfit => exact .ms size r g off len cap b capc c e (by rw [Map.re_at h]; exact hr) hlen hcc hsz hfit
  | msS _ _ _ _ _ _ b g' p capc hr hg => exact .msS size r g off len cap b g' p capc (by rw [Map.re_at h]; exact hr) hg
theorem Re.agg {xs ys : List AV} (hl : ys.length = xs.length) (h : ∀ (j : Nat) (y : AV), ys[j]? = some y → ∃ x, xs[j]? = some x ∧ Re G π σ x y) : Re G π σ (.agg xs) (.agg ys) := fun w M v hi hv => by
  cases hv with
  | agg vs _ h1 h2 => exact .agg vs ys (by omega) fun j y hj => (by
      obtain ⟨x, e1, e2⟩ := h j y hj
      exact e2 _ _ _ hi (h2 j x e1))
theorem Re.tup {xs ys : List AV} (hl : ys.length = xs.length) (h : ∀ (j : Nat) (y : AV), ys[j]? = some y → ∃ x, xs[j]? = some x ∧ Re G π σ x y) : Re G π σ (.tup xs) (.tup ys) := fun w M v hi hv => by
  cases hv with
  | tup vs _ h1 h2 => exact .tup vs ys (by omega) fun j y hj => (by
      obtain ⟨x, e1, e2⟩ := h j y hj
      exact e2 _ _ _ hi (h2 j x e1))
/-- A slice whose object is forgotten: data. -/
theorem Re.data {size r g len cap : Nat} {cells : List AV} {rows : Nat → List AV} (ho : σ[r]? = some (.cells g cells)) (hr : ∀ q, π q ≠ some r) (hc : len * size ≤ cells.length) (hl : ∀ i, i < len → (rows i).length = size)
    (h : ∀ (i j : Nat) (y : AV), i < len → (rows i)[j]? = some y → ∃ x, cells[i * size + j]? = some x ∧ Re G π σ x y) : Re G π σ (.ms size r g 0 len cap) (.fl size len rows) := fun w M v hi hv => by
  obtain ⟨b, cs, e, hm, hh, hle, hx⟩ := hi.cells r g cells ho
  cases hv with
  | ms _ _ _ _ _ _ b' capc c' e' hm' hlen hcc hsz hfit =>
    rw [hm] at hm'
    obtain ⟨rfl, _⟩ := Prod.mk.inj (Option.some.inj hm')
    have himm : Imm w (M.re π) b := ⟨hi.lt r b g hm, fun r' g' h' => by
      obtain ⟨q, k1, k2⟩ := Map.re_some h'
      have := hi.inj r q b g g' hm k2
      subst this
      exact hr _ k1, hi.notFar hm⟩
    refine .fl _ _ _ _ ?_
    have hlen' : ((List.range len).map rows).length = len := by simp
    have get : ∀ (i : Nat) (rw' : List AV), ((List.range len).map rows)[i]? = some rw' → i < len ∧ rw' = rows i := fun i rw' hi' => by
      have hil : i < len := by have := (List.getElem?_eq_some_iff.1 hi').1; rwa [hlen'] at this
      rw [List.getElem?_map, List.getElem?_range hil] at hi'
      exact ⟨hil, (Option.some.inj hi').symm⟩
    have hbound : ∀ i j, i < len → j < size → i * size + j < cs.size := fun i j h1 h2 => by
      have : (i + 1) * size ≤ len * size := Nat.mul_le_mul_right _ h1
      rw [Nat.succ_mul] at this
      omega
    have := RV.sl (w := w) (M := M.re π) b 0 capc size (fun i j => cs.getD (i * size + j) Go.undef) ((List.range len).map rows) himm
      (fun i rw' j hrw hj => by
        obtain ⟨h1, rfl⟩ := get i rw' hrw
        rw [Nat.zero_add]
        exact cell_of_cells hh (hbound i j h1 hj))
      (fun i rw' hrw => by
        obtain ⟨h1, rfl⟩ := get i rw' hrw
        exact hl i h1)
      (fun i rw' j z hrw hz => by
        obtain ⟨h1, rfl⟩ := get i rw' hrw
        obtain ⟨x, e1, e2⟩ := h i j z h1 hz
        exact e2 _ _ _ hi (hx _ x e1))
      (by rw [hlen']; omega)
    rw [hlen'] at this
    exact this
  | msS _ _ _ _ _ _ b' g' p capc hm' hg =>
    rw [hm] at hm'
    obtain ⟨_, rfl⟩ := Prod.mk.inj (Option.some.inj hm')
    omega

/-- What an object is by the new numbers. -/
def ORe (G : Nat → Option (List AV)) (π : Nat → Option Nat) (σ1 : Heap) (r : Nat) : AObj → Prop
  | .cells g c => ∃ q c0, π r = some q ∧ σ1[q]? = some (.cells g c0) ∧ c.length = c0.length ∧ ∀ (j : Nat) (y : AV), c[j]? = some y → ∃ x, c0[j]? = some x ∧ Re G π σ1 x y
  | .resv => ∀ q, π r = some q → σ1[q]? = some .resv
  | .dfr => ∃ q, π r = some q ∧ σ1[q]? = some .dfr
  | .loop A => π r = some r ∧ σ1[r]? = some (.loop A) ∧ π A.defers = some A.defers ∧ ∀ x ∈ A.tmps, Re G π σ1 x x
  | .gone => True
/-- A heap numbered anew. -/
structure HRe (G : Nat → Option (List AV)) (π : Nat → Option Nat) (σ σ1 τ : Heap) : Prop where
  glob : GBelow G
  keep : ∀ r o, σ[r]? = some o → o ≠ .resv → π r = some r
  inj : ∀ r r' q, π r = some q → π r' = some q → r = r'
  dom : ∀ r q, π r = some q → r < τ.length
  obj : ∀ r o, τ[r]? = some o → ORe G π σ1 r o

theorem Inv.kept (hi : Inv G w M σ) (hk : ∀ r o, σ[r]? = some o → o ≠ .resv → π r = some r) {r : Nat} {p : Nat × Nat} (hm : M r = some p) : π r = some r := by
  have hlt := hi.dom r p hm
  refine hk r _ (List.getElem?_eq_getElem hlt) fun he => ?_
  rw [hi.resv r (by rw [List.getElem?_eq_getElem hlt, he])] at hm
  cases hm
theorem Inv.re {w1 : World} {M1 : Map} {σ1 τ : Heap} (hi : Inv G w M σ) (he : Ext w M w1 M1) (hi1 : Inv G w1 M1 σ1) (h : HRe G π σ σ1 τ) : Ext w M w1 (M1.re π) ∧ Inv G w1 (M1.re π) τ := by
  have hk : ∀ r p, M r = some p → M1.re π r = M1 r := fun r p hm => Map.re_at (hi.kept h.keep hm)
  have hext : Ext w M w1 (M1.re π) := by
    refine ⟨he.size, he.os, he.tape, he.output, fun b hb => ⟨(he.imm b hb).1.re π, (he.imm b hb).2⟩, fun r b g hr => ?_, fun r b g c e fr hr hr' hc => ?_, fun r b hr hc => ?_, he.far⟩
    · rw [hk r _ hr]; exact he.ref r b g hr
    · rw [hk r _ hr] at hr'; exact he.shape r b g c e fr hr hr' hc
    · rw [hk r _ hr]; exact he.fix r b hr hc
  refine ⟨hext, .of (fun g cs hg => (hi1.glob g cs hg).re hi1 (fun r hr => absurd hr (by omega)) (h.glob g cs hg)) (fun r r' b g g' h1 h2 => ?_) (fun r p h1 => ?_) (fun r b g h1 => ?_) (fun b hb => ⟨(hi1.far b hb).1, fun r g h1 => ?_⟩) fun r o ho => ?_⟩
  · obtain ⟨q, a1, a2⟩ := Map.re_some h1
    obtain ⟨q', b1, b2⟩ := Map.re_some h2
    have := hi1.inj q q' b g g' a2 b2
    subst this
    exact h.inj r r' q a1 b1
  · obtain ⟨q, a1, a2⟩ := Map.re_some h1
    exact h.dom r q a1
  · obtain ⟨q, a1, a2⟩ := Map.re_some h1
    exact hi1.lt q b g a2
  · obtain ⟨q, a1, a2⟩ := Map.re_some h1
    exact (hi1.far b hb).2 q g a2
  · have hq := h.obj r o ho
    cases o with
    | cells g c =>
      obtain ⟨q, c0, h1, h2, h3, h4⟩ := hq
      obtain ⟨b, cs, e, k1, k2, k3, k4⟩ := hi1.cells q g c0 h2
      exact ⟨b, cs, e, by rw [Map.re_at h1]; exact k1, k2, by omega, fun j y hj => by
        obtain ⟨x, e1, e2⟩ := h4 j y hj
        exact e2 _ _ _ hi1 (k4 j x e1)⟩
    | resv =>
      show (π r).bind M1.get = none
      cases hp : π r with
      | none => rfl
      | some q => exact hi1.resv q (hq q hp)
    | dfr =>
      obtain ⟨q, h1, h2⟩ := hq
      obtain ⟨b, k1, k2⟩ := hi1.dfr q h2
      exact ⟨b, by rw [Map.re_at h1]; exact k1, k2⟩
    | loop A =>
      obtain ⟨h1, h2, h3, h4⟩ := hq
      obtain ⟨b, L, k1, k2, k3⟩ := hi1.loop r A h2
      exact ⟨b, L, by rw [Map.re_at h1]; exact k1, k2, k3.state, k3.pending, k3.size, fun j x hj => h4 x (List.mem_of_getElem? hj) _ _ _ hi1 (k3.tmps j x hj), k3.params, k3.assign, k3.body, by rw [Map.re_at h3]; exact k3.defers.1, k3.defers.2⟩
    | gone => trivial

theorem ACall.re {f : FuncId} {args : List AV} {v v' : AV} {σ1 τ : Heap} (h : ACall P G f args σ v σ1) (hr : HRe G π σ σ1 τ) (hv : Re G π σ1 v v') : ACall P G f args σ v' τ := by
  refine ⟨h.1, fun w M vs hi hvs => (h.2 w M vs hi hvs).mono ?_⟩
  rintro e w' ⟨u, M', rfl, hu, he, hi'⟩
  obtain ⟨h1, h2⟩ := hi.re he hi' hr
  exact ⟨u, _, rfl, hv _ _ _ hi' hu, h1, h2⟩
theorem AStep.re {a : AAct} {o : Oper} {y y' : AV} {σ1 τ : Heap} (h : AStep P G a σ o y σ1) (hr : HRe G π σ σ1 τ) (hv : Re G π σ1 y y') : AStep P G a σ o y' τ := by
  intro r0 w M ac K Q hi ha hK
  refine h r0 w M ac K Q hi ha fun v w' M' hv' he hi' => ?_
  obtain ⟨h1, h2⟩ := hi.re he hi' hr
  exact hK v w' _ (hv _ _ _ hi' hv') h1 h2
theorem AExec.re {R : Option Nat → Prop} {c : Code} {a a' b : List AV} {m : List Nat} {σ1 τ : Heap} {e : Exit} (h : AExec P G R c { tmps := a, marks := m } σ e { tmps := a', marks := m } σ1) (hr : HRe G π σ σ1 τ) (hm : ∀ r ∈ m, π r = some r)
    (hl : b.length = a'.length) (hv : ∀ (j : Nat) (y : AV), b[j]? = some y → ∃ x, a'[j]? = some x ∧ Re G π σ1 x y) : AExec P G R c { tmps := a, marks := m } σ e { tmps := b, marks := m } τ := by
  intro r0 hr0 w M ac Q hi ha hQ
  refine h r0 hr0 w M ac Q hi ha fun w' M' ac' he hi' ha' => ?_
  obtain ⟨h1, h2⟩ := hi.re he hi' hr
  refine hQ w' _ ac' h1 h2 ⟨⟨by rw [ha'.tmps.1, hl], fun j y hj => ?_⟩, ?_⟩
  · obtain ⟨x, e1, e2⟩ := hv j y hj
    exact e2 _ _ _ hi' (ha'.tmps.2 j x e1)
  · obtain ⟨bs, k1, k2, k3⟩ := ha'.marks
    exact ⟨bs, k1, k2, fun i r b q1 q2 => by rw [Map.re_at (hm r (List.mem_of_getElem? q1))]; exact k3 i r b q1 q2⟩

/-! ### Room for an object -/
theorem Inv.room (hi : Inv G w M σ) : Inv G w M (σ ++ [.resv]) := by
  refine .of hi.glob hi.inj (fun r p h => by have := hi.dom r p h; simp; omega) hi.lt hi.far fun r o ho => ?_
  by_cases h : r < σ.length
  · rw [List.getElem?_append_left h] at ho
    exact hi.objOk ho
  · have : r = σ.length := by have := (List.getElem?_eq_some_iff.1 ho).1; simp at this; omega
    subst this
    rw [List.getElem?_append_right (Nat.le_refl _), Nat.sub_self] at ho
    cases ho
    show M σ.length = none
    cases hm : M.get σ.length with
    | none => rfl
    | some p => have := hi.dom _ p hm; omega
theorem Inv.rooms (hi : Inv G w M σ) (n : Nat) : Inv G w M (σ ++ List.replicate n .resv) := by
  induction n with
  | zero => simpa using hi
  | succ n ih => rw [List.replicate_succ', ← List.append_assoc]; exact ih.room
theorem AExec.rooms {R : Option Nat → Prop} {c : Code} {a a' : AAct} {σ1 : Heap} {e : Exit} (n : Nat) (h : AExec P G R c a (σ ++ List.replicate n .resv) e a' σ1) : AExec P G R c a σ e a' σ1 :=
  fun r0 hr w M ac Q hi ha hQ => h r0 hr w M ac Q (hi.rooms n) ha hQ
theorem ACall.rooms {f : FuncId} {args : List AV} {v : AV} {σ1 : Heap} (n : Nat) (h : ACall P G f args (σ ++ List.replicate n .resv) v σ1) : ACall P G f args σ v σ1 :=
  ⟨h.1, fun w M vs hi hvs => h.2 w M vs (hi.rooms n) hvs⟩

/-! ### Beside other objects -/
/-- The objects below n alone; the others' blocks are far. -/
def Map.near (M : Map) (n : Nat) : Map := ⟨fun r => if r < n then M r else none, fun b => M.far b ∨ ∃ r g, n ≤ r ∧ M r = some (b, g)⟩
theorem Map.near_some {n r : Nat} {p : Nat × Nat} (h : M.near n r = some p) : r < n ∧ M r = some p := by
  simp only [Map.near] at h
  split at h
  · exact ⟨‹_›, h⟩
  · cases h
theorem Map.near_lt {n r : Nat} (h : r < n) : M.near n r = M r := by
  simp only [Map.near]
  rw [if_pos h]
theorem Imm.near {b : Nat} (h : Imm w M b) (n : Nat) : Imm w (M.near n) b := ⟨h.1, fun r g hr => h.2.1 r g (Map.near_some hr).2, fun k => by
  rcases k with k | ⟨r, g, _, k⟩
  · exact h.2.2 k
  · exact h.2.1 r g k⟩
theorem RV.near {n : Nat} {v : Value} {x : AV} (hv : RV w M v x) (hb : Below n x) : RV w (M.near n) v x := by
  induction hv with
  | int k i => exact .int k i
  | bool b => exact .bool b
  | nilp => exact .nilp
  | nilf => exact .nilf
  | ref r g off b hr => cases hb with | ref _ _ _ hlt => exact .ref r g off b (by rw [Map.near_lt hlt]; exact hr)
  | refS r g off b g' p hr hg => cases hb with | ref _ _ _ hlt => exact .refS r g off b g' p (by rw [Map.near_lt hlt]; exact hr) hg
  | row b o off f cells hi hc _ ih => cases hb with | row _ _ h => exact .row b o off f cells (hi.near n) hc fun j x hj => ih j x hj (h j x hj)
  | sl0 base cap size => exact .sl0 base cap size
  | sl b o cap size f rows hi hc hl _ hcap ih => cases hb with | sl _ _ h => exact .sl b o cap size f rows (hi.near n) hc hl (fun i r j x hi hj => ih i r j x hi hj (h i r j x hi hj)) hcap
  | fl v size k rows _ ih => cases hb with | fl _ _ _ h => exact .fl _ size k rows (ih h)
  | zs base => exact .zs base
  | ms size r g off len cap b capc c e hr hlen hcc hsz hfit => cases hb with | ms _ _ _ _ _ _ hlt => exact .ms size r g off len cap b capc c e (by rw [Map.near_lt hlt]; exact hr) hlen hcc hsz hfit
  | msS size r g off len cap b g' p capc hr hg => cases hb with | ms _ _ _ _ _ _ hlt => exact .msS size r g off len cap b g' p capc (by rw [Map.near_lt hlt]; exact hr) hg
  | agg vs xs hl _ ih => cases hb with | agg _ h => exact .agg vs xs hl fun j x hj => ih j x hj (h j x hj)
  | tup vs xs hl _ ih => cases hb with | tup _ h => exact .tup vs xs hl fun j x hj => ih j x hj (h j x hj)
  | fn f fs cs xs ys hl1 hl2 _ _ ih1 ih2 => cases hb with | fn _ _ _ h1 h2 => exact .fn f fs cs xs ys hl1 hl2 (fun j x hj => ih1 j x hj (h1 j x hj)) (fun j x hj => ih2 j x hj (h2 j x hj))
  | yf l b hr => cases hb with | yf _ hlt => exact .yf l b (by rw [Map.near_lt hlt]; exact hr)
  | yfS l b g fn fs cs hr hg => cases hb with | yf _ hlt => exact .yfS l b g fn fs cs (by rw [Map.near_lt hlt]; exact hr) hg
  | anyb b => exact .anyb b
  | mx size r g off len cap b c e hr hlen hsz hfit => cases hb with | mx _ _ _ _ _ _ hlt => exact .mx size r g off len cap b c e (by rw [Map.near_lt hlt]; exact hr) hlen hsz hfit
  | mxS size r g off len cap b g' p hr hg => cases hb with | mx _ _ _ _ _ _ hlt => exact .mxS size r g off len cap b g' p (by rw [Map.near_lt hlt]; exact hr) hg
  | junk v => exact .junk v
/-- Cells alone, whose values lie among themselves. -/
def Alone (n : Nat) : AObj → Prop
  | .cells _ c => ∀ x ∈ c, Below n x
  | .resv => True
  | .gone => True
  | _ => False
theorem Inv.near {Y : Heap} (hi : Inv G w M (σ ++ Y)) (hG : GBelow G) (ha : ∀ o ∈ σ, Alone σ.length o) : Inv G w (M.near σ.length) σ := by
  refine .of (fun g cs hg => (hi.glob g cs hg).near ((hG g cs hg).up)) (fun r r' b g g' h1 h2 => hi.inj r r' b g g' (Map.near_some h1).2 (Map.near_some h2).2) (fun r p h1 => (Map.near_some h1).1) (fun r b g h1 => hi.lt r b g (Map.near_some h1).2) (fun b hb => ?_) fun r o ho => ?_
  · rcases hb with hb | ⟨r, g, h1, h2⟩
    · exact ⟨(hi.far b hb).1, fun r g h => (hi.far b hb).2 r g (Map.near_some h).2⟩
    · refine ⟨hi.lt r b g h2, fun r' g' h => ?_⟩
      obtain ⟨k1, k2⟩ := Map.near_some h
      have := hi.inj r r' b g g' h2 k2
      omega
  · have hlt : r < σ.length := (List.getElem?_eq_some_iff.1 ho).1
    have hal := ha o (List.mem_of_getElem? ho)
    have ho' : (σ ++ Y)[r]? = some o := by rw [List.getElem?_append_left hlt]; exact ho
    cases o with
    | cells g c =>
      obtain ⟨b, cs, e, h1, h2, h3, h4⟩ := hi.cells r g c ho'
      exact ⟨b, cs, e, by rw [Map.near_lt hlt]; exact h1, h2, h3, fun j x hj => (h4 j x hj).near (hal x (List.mem_of_getElem? hj))⟩
    | resv => exact (Map.near_lt hlt).trans (hi.resv r ho')
    | dfr => exact hal.elim
    | loop A => exact hal.elim
    | gone => trivial
/-- Both together. -/
def Map.join (M1 M : Map) (n : Nat) : Map := ⟨fun r => if r < n then M1 r else M r, M.far⟩
theorem Map.join_lt {M1 : Map} {n r : Nat} (h : r < n) : M1.join M n r = M1 r := by
  simp only [Map.join]; rw [if_pos h]
theorem Map.join_ge {M1 : Map} {n r : Nat} (h : ¬ r < n) : M1.join M n r = M r := by
  simp only [Map.join]; rw [if_neg h]
theorem Inv.join {w1 : World} {M1 : Map} {σ1 Y : Heap} (hi : Inv G w M (σ ++ Y)) (he : Ext w (M.near σ.length) w1 M1) (hi1 : Inv G w1 M1 σ1) (hl : σ1.length = σ.length) :
    Ext w M w1 (M1.join M σ.length) ∧ Inv G w1 (M1.join M σ.length) (σ1 ++ Y) ∧ ∀ v x, RV w1 M1 v x → RV w1 (M1.join M σ.length) v x := by
  have hsame : ∀ r b g, ¬ r < σ.length → M r = some (b, g) → w1.heap[b]? = w.heap[b]? := fun r b g hr hm => he.far.2 b (.inr ⟨r, g, by omega, hm⟩) (hi.lt r b g hm)
  have hfar : ∀ r b g, ¬ r < σ.length → M r = some (b, g) → M1.far b := fun r b g hr hm => by rw [he.far.1]; exact .inr ⟨r, g, by omega, hm⟩
  have himm : ∀ b, Imm w1 M1 b → Imm w1 (M1.join M σ.length) b := fun b hb => ⟨hb.1, fun r g hr => by
    by_cases h : r < σ.length
    · rw [Map.join_lt h] at hr; exact hb.2.1 r g hr
    · rw [Map.join_ge h] at hr; exact hb.2.2 (hfar r b g h hr), fun h => hb.2.2 (by rw [he.far.1]; exact .inl h)⟩
  have hext : Ext w M w1 (M1.join M σ.length) := by
    refine ⟨he.size, he.os, he.tape, he.output, fun b hb => ⟨himm b (he.imm b (hb.near _)).1, (he.imm b (hb.near _)).2⟩, fun r b g hr => ?_, fun r b g c e fr hr hr' hc => ?_, fun r b hr hc => ?_, rfl, fun b hb hlt => he.far.2 b (.inl hb) hlt⟩
    · by_cases h : r < σ.length
      · rw [Map.join_lt h]; exact he.ref r b g (by rw [Map.near_lt h]; exact hr)
      · rw [Map.join_ge h]; exact ⟨b, g, hr, .inr ⟨rfl, rfl⟩⟩
    · by_cases h : r < σ.length
      · rw [Map.join_lt h] at hr'; exact he.shape r b g c e fr (by rw [Map.near_lt h]; exact hr) hr' hc
      · rw [hsame r b g h hr]; exact ⟨c, hc, rfl⟩
    · by_cases h : r < σ.length
      · rw [Map.join_lt h]; exact he.fix r b (by rw [Map.near_lt h]; exact hr) hc
      · rw [Map.join_ge h]
        exact ⟨hr, Nat.lt_of_lt_of_le hc.1 he.size, fun c e fr h' => by rw [hsame r b 0 h hr] at h'; exact hc.2 c e fr h'⟩
  have hrv : ∀ v x, RV w1 M1 v x → RV w1 (M1.join M σ.length) v x := by
    have hm : ∀ r p, M1 r = some p → M1.join M σ.length r = some p := fun r p h => by
      have := hi1.dom r p h
      rw [Map.join_lt (by omega)]; exact h
    intro v x hv
    induction hv with
    | int k i => exact .int k i
    | bool b => exact .bool b
    | nilp => exact .nilp
    | nilf => exact .nilf
    | ref r g off b hr => exact .ref r g off b (hm _ _ hr)
    | refS r g off b g' p hr hg => exact .refS r g off b g' p (hm _ _ hr) hg
    | row b o off f cells hi hc _ ih => exact .row b o off f cells (himm _ hi) hc ih
    | sl0 base cap size => exact .sl0 base cap size
    | sl b o cap size f rows hi hc hl _ hcap ih => exact .sl b o cap size f rows (himm _ hi) hc hl ih hcap
    | fl v size k rows _ ih => exact .fl _ size k rows ih
    | zs base => exact .zs base
    | ms size r g off len cap b capc c e hr hlen hcc hsz hfit => exact .ms size r g off len cap b capc c e (hm _ _ hr) hlen hcc hsz hfit
    | msS size r g off len cap b g' p capc hr hg => exact .msS size r g off len cap b g' p capc (hm _ _ hr) hg
    | agg vs xs hl _ ih => exact .agg vs xs hl ih
    | tup vs xs hl _ ih => exact .tup vs xs hl ih
    | fn f fs cs xs ys hl1 hl2 _ _ ih1 ih2 => exact .fn f fs cs xs ys hl1 hl2 ih1 ih2
    | yf l b hr => exact .yf l b (hm _ _ hr)
    | yfS l b g fn fs cs hr hg => exact .yfS l b g fn fs cs (hm _ _ hr) hg
    | anyb b => exact .anyb b
    | mx size r g off len cap b c e hr hlen hsz hfit => exact .mx size r g off len cap b c e (hm _ _ hr) hlen hsz hfit
    | mxS size r g off len cap b g' p hr hg => exact .mxS size r g off len cap b g' p (hm _ _ hr) hg
    | junk v => exact .junk v
  refine ⟨hext, .of (fun g cs hg => (hi.glob g cs hg).mono hext) (fun r r' b g g' h1 h2 => ?_) (fun r p h1 => ?_) (fun r b g h1 => ?_) (fun b hb => ⟨Nat.lt_of_lt_of_le (hi.far b hb).1 he.size, fun r g h1 => ?_⟩) fun r o ho => ?_, hrv⟩
  · by_cases h : r < σ.length <;> by_cases h' : r' < σ.length
    · rw [Map.join_lt h] at h1; rw [Map.join_lt h'] at h2; exact hi1.inj r r' b g g' h1 h2
    · rw [Map.join_lt h] at h1; rw [Map.join_ge h'] at h2
      exact absurd h1 ((hi1.far b (hfar r' b g' h' h2)).2 r g)
    · rw [Map.join_ge h] at h1; rw [Map.join_lt h'] at h2
      exact absurd h2 ((hi1.far b (hfar r b g h h1)).2 r' g')
    · rw [Map.join_ge h] at h1; rw [Map.join_ge h'] at h2; exact hi.inj r r' b g g' h1 h2
  · rw [List.length_append, hl]
    by_cases h : r < σ.length
    · omega
    · rw [Map.join_ge h] at h1
      have := hi.dom r p h1
      rwa [List.length_append] at this
  · by_cases h : r < σ.length
    · rw [Map.join_lt h] at h1; exact hi1.lt r b g h1
    · rw [Map.join_ge h] at h1; exact Nat.lt_of_lt_of_le (hi.lt r b g h1) he.size
  · by_cases h : r < σ.length
    · rw [Map.join_lt h] at h1
      exact (hi1.far b (by rw [he.far.1]; exact .inl hb)).2 r g h1
    · rw [Map.join_ge h] at h1
      exact (hi.far b hb).2 r g h1
  · by_cases h : r < σ.length
    · rw [List.getElem?_append_left (by omega)] at ho
      have hq := hi1.objOk ho
      cases o with
      | cells g c =>
        obtain ⟨b, cs, e, h1, h2, h3, h4⟩ := hq
        exact ⟨b, cs, e, by rw [Map.join_lt h]; exact h1, h2, h3, fun j x hj => hrv _ _ (h4 j x hj)⟩
      | resv => exact (Map.join_lt h).trans hq
      | dfr =>
        obtain ⟨b, h1, h2⟩ := hq
        exact ⟨b, by rw [Map.join_lt h]; exact h1, h2⟩
      | loop A =>
        obtain ⟨b, L, h1, h2, h3⟩ := hq
        have := hi1.dom _ _ h3.defers.1
        exact ⟨b, L, by rw [Map.join_lt h]; exact h1, h2, h3.state, h3.pending, h3.size, fun j x hj => hrv _ _ (h3.tmps j x hj), h3.params, h3.assign, h3.body, by rw [Map.join_lt (by omega)]; exact h3.defers.1, h3.defers.2⟩
      | gone => trivial
    · have hr' : (σ ++ Y)[r]? = some o := by
        rw [List.getElem?_append_right (by omega), hl] at ho
        rw [List.getElem?_append_right (by omega)]; exact ho
      exact (hi.objOk hr').keep hext (Map.join_ge h) fun b g hm => hsame r b g h hm
/-- WHAT A CALL DOES WITH SOME OBJECTS, IT DOES BESIDE OTHERS, TOO. -/
theorem ACall.beside {f : FuncId} {args : List AV} {v : AV} {σ1 : Heap} (h : ACall P G f args σ v σ1) (hl : σ1.length = σ.length) (hG : GBelow G) (ha : ∀ x ∈ args, Below σ.length x) (ho : ∀ o ∈ σ, Alone σ.length o) (Y : Heap) : ACall P G f args (σ ++ Y) v (σ1 ++ Y) := by
  refine ⟨h.1, fun w M vs hi hvs => (h.2 w _ vs (hi.near hG ho) ⟨hvs.1, fun j x hj => (hvs.2 j x hj).near (ha x (List.mem_of_getElem? hj))⟩).mono ?_⟩
  rintro e w' ⟨u, M', rfl, hu, he, hi'⟩
  obtain ⟨h1, h2, h3⟩ := hi.join he hi' hl
  exact ⟨u, _, rfl, h3 _ _ hu, h1, h2⟩
end
end Go.Proofs.Ytngaihdpmoajeaa.Am

namespace Go.Proofs.Ytngaihdpmoajeaa.Am
open Go
set_option maxRecDepth 100000

/-! ### Loops, round by round -/
theorem rnd {R : Option Nat → Prop} {E : Env} {lp : Loops} {body : Code} {n : Nat} {keep : List Nat} {s t st' : St} {e : Exit} (hcl : ClOk Try.prog G0 E) (hlp : LoopsOk Try.prog G0 R [] lp body)
    (h : (xBody Try.prog G0 E n lp keep body s).sel = some (e, st')) (hv : st'.vals = t.vals) : AExec Try.prog G0 R body { tmps := s.a } s.h e { tmps := t.a } t.h := by
  have key := (xBody_ok (m := []) names mixed hcl hlp h).1
  rw [(vals_eq hv).1, (vals_eq hv).2] at key
  exact key
/-- N rounds at most; the first that stops ends it. -/
structure LoopA (body : Code) (N : Nat) (S R : Nat → St) (X : St) (eR eX : Exit) (stop : Nat → Bool) : Prop where
  n0 : ∀ k, (S k).n = (S 0).n
  nR : ∀ k, (R k).n = (S 0).n
  nX : X.n = (S 0).n
  neR : eR ≠ .normal
  neX : eX ≠ .normal
  go : ∀ k, k < N → (∀ j, j < k → stop j = false) → stop k = false → AExec Try.prog G0 (fun r => r = none) body { tmps := (S k).a } (S k).h .normal { tmps := (S (k + 1)).a } (S (k + 1)).h
  st : ∀ k, k < N → (∀ j, j < k → stop j = false) → stop k = true → AExec Try.prog G0 (fun r => r = none) body { tmps := (S k).a } (S k).h eR { tmps := (R k).a } (R k).h
  en : (∀ j, j < N → stop j = false) → AExec Try.prog G0 (fun r => r = none) body { tmps := (S N).a } (S N).h eX { tmps := X.a } X.h
section
variable {body : Code} {N : Nat} {S R : Nat → St} {X : St} {eR eX : Exit} {stop : Nat → Bool}
def endA (N p : Nat) (eR eX : Exit) (R : Nat → St) (X : St) : Exit × St := bif decide (p < N) then (eR, R p) else (eX, X)
theorem LoopA.run (hs : LoopA body N S R X eR eX stop) : ∀ (d k : Nat), k + d = N → (∀ j, j < k → stop j = false) →
    ALoopRun Try.prog G0 (fun r => r = none) body { tmps := (S k).a } (S k).h (endA N (fstStop stop d k) eR eX R X).1 { tmps := (endA N (fstStop stop d k) eR eX R X).2.a } (endA N (fstStop stop d k) eR eX R X).2.h
  | 0, k, hk, hj => by
    obtain rfl : k = N := by omega
    simp only [fstStop]
    unfold endA
    rw [decide_eq_false (by omega), cond_false]
    exact .stop (hs.en hj) hs.neX
  | d + 1, k, hk, hj => by
    unfold fstStop
    cases hp : stop k with
    | true =>
      simp only [if_true]
      unfold endA
      rw [decide_eq_true (by omega), cond_true]
      exact .stop (hs.st k (by omega) hj hp) hs.neR
    | false =>
      simp only [Bool.false_eq_true, if_false]
      refine .next (hs.go k (by omega) hj hp) (hs.run d (k + 1) (by omega) fun j h => ?_)
      by_cases h2 : j = k
      · subst h2; exact hp
      · exact hj j (by omega)
/-- What is known of such a loop. -/
def lpA (i : Nat) (keep : List Nat) (S : St) (b : Bool) (eR : Exit) (r : St) (eX : Exit) (x : St) : Loops := fun id => bif Nat.beq id i then some (keep, S, .ite b (.leaf (eR, r)) (.leaf (eX, x))) else none
/-- The same, where it is known that it goes to its end. -/
def lpB (i : Nat) (keep : List Nat) (S : St) (eX : Exit) (x : St) : Loops := fun id => bif Nat.beq id i then some (keep, S, .leaf (eX, x)) else none
theorem LoopA.ok (hs : LoopA body N S R X eR eX stop) {c : Code} {i : Nat} {keep : List Nat} (hu : ∀ x ∈ loopsOf c, idOf x = i → x = body) :
    LoopsOk Try.prog G0 (fun r => r = none) [] (lpA i keep (S 0) (decide (fstStop stop N 0 < N)) eR (R (fstStop stop N 0)) eX X) c := by
  refine .of_list _ fun x hm => ?_
  intro kp s0 t e st' h' hsel
  unfold lpA at h'
  cases hb : Nat.beq (idOf x) i with
  | false => rw [hb, cond_false] at h'; cases h'
  | true =>
    rw [hb, cond_true] at h'
    obtain rfl := hu x hm (Nat.eq_of_beq_eq_true hb)
    cases h'
    have key := hs.run N 0 (by omega) (fun j h => absurd h (by omega))
    rw [selI] at hsel
    unfold endA at key
    revert key hsel
    cases decide (fstStop stop N 0 < N) with
    | true => intro hsel key; cases hsel; exact ⟨.loop key, hs.nR _⟩
    | false => intro hsel key; cases hsel; exact ⟨.loop key, hs.nX⟩
theorem LoopA.okB (hs : LoopA body N S R X eR eX stop) (hn : ∀ k, k < N → stop k = false) {c : Code} {i : Nat} {keep : List Nat} (hu : ∀ x ∈ loopsOf c, idOf x = i → x = body) :
    LoopsOk Try.prog G0 (fun r => r = none) [] (lpB i keep (S 0) eX X) c := by
  refine .of_list _ fun x hm => ?_
  intro kp s0 t e st' h' hsel
  unfold lpB at h'
  cases hb : Nat.beq (idOf x) i with
  | false => rw [hb, cond_false] at h'; cases h'
  | true =>
    rw [hb, cond_true] at h'
    obtain rfl := hu x hm (Nat.eq_of_beq_eq_true hb)
    cases h'
    have key := hs.run N 0 (by omega) (fun j h => absurd h (by omega))
    unfold endA at key
    rw [decide_eq_false (fun h => by
      obtain ⟨k, h1, h2⟩ := (fstStop_iff _ _).1 h
      rw [hn k h1] at h2; cases h2)] at key
    cases hsel
    exact ⟨.loop key, hs.nX⟩
end
/-- Two known loops of one piece of code. -/
def lpAnd (a b : Loops) : Loops := fun id => match a id with
  | some x => some x
  | none => b id
theorem lpAnd_ok {a b : Loops} {c : Code} {m : List Nat} {R : Option Nat → Prop} (ha : LoopsOk Try.prog G0 R m a c) (hb : LoopsOk Try.prog G0 R m b c) : LoopsOk Try.prog G0 R m (lpAnd a b) c := by
  induction c with
  | seq x y ihx ihy => exact ⟨ihx ha.1 hb.1, ihy ha.2 hb.2⟩
  | cond q x y ihx ihy => exact ⟨ihx ha.1 hb.1, ihy ha.2 hb.2⟩
  | block id x ih => exact ih ha hb
  | loop x ih =>
    refine ⟨fun kp s0 t e st' h' hsel => ?_, ih ha.2 hb.2⟩
    unfold lpAnd at h'
    split at h'
    · rename_i y hy; cases h'; exact ha.1 _ _ _ _ _ hy hsel
    · exact hb.1 _ _ _ _ _ h' hsel
  | _ => trivial
theorem selIt {α : Type} {b : Bool} {x y : Tree α} (h : b = true) : (Tree.ite b x y).sel = x.sel := by rw [selI, h, cond_true]
theorem selIf {α : Type} {b : Bool} {x y : Tree α} (h : b = false) : (Tree.ite b x y).sel = y.sel := by rw [selI, h, cond_false]
theorem selN {α : Type} {p : Prop} {x : Tree α} (h : p) : (Tree.need p x).sel = x.sel := Tree.sel_need h
theorem dT {p : Prop} [Decidable p] (h : p) : decide p = true := decide_eq_true h
theorem dF {p : Prop} [Decidable p] (h : ¬ p) : decide p = false := decide_eq_false h
end Go.Proofs.Ytngaihdpmoajeaa.Am

namespace Go.Proofs.Ytngaihdpmoajeaa.Am
open Go
set_option maxRecDepth 100000

/-- One call is known. -/
def EV (p : Prop) (g : FuncId) (xs : List AV) (v : AV) : Env := { cl := fun f ys => some (.need (p ∧ f = g ∧ ys = xs) (.leaf v)) }
theorem clokV {p : Prop} {g : FuncId} {xs : List AV} {v : AV} (h : p → ∀ σ, ACall Try.prog G0 g xs σ v σ) : ClOk Try.prog G0 (EV p g xs v) := .ofH rfl rfl .none fun f ys t u hq hs σ => by
  cases hq
  obtain ⟨⟨hp, rfl, rfl⟩, h2⟩ := Tree.of_need hs
  cases h2
  exact h hp σ
theorem getD_mem {α : Type} {L : List α} {k : Nat} {d : α} (h : k < L.length) : L.getD k d ∈ L := by
  rw [List.getD_eq_getElem?_getD, List.getElem?_eq_getElem h]
  exact List.getElem_mem h
theorem one_loop {body c : Code} {i : Nat} (h : loopsOf c = [body]) : ∀ x ∈ loopsOf c, idOf x = i → x = body := fun x hx _ => by rw [h] at hx; exact List.mem_singleton.1 hx
theorem wrapS {k n : Nat} (h : k < n) (hn : n < 4611686018427387904) : IntKind.i64.wrap ((k : Int) + 1) = ((k + 1 : Nat) : Int) := wrap_i64 (by omega) (by omega)

/-! ### IndexFunc, ContainsFunc of a list of integers -/
noncomputable def body74 : Code := (loopsOf (bodyOf Try.prog 74)).headD .skip
def st74 (L : List Int) (f : AV) (r : Int) (k : Int) (b : Bool) (h : Heap) : St := .of 19 h [(0, flL L, true), (1, f, true), (4, I r, b), (7, I L.length, true), (8, I k, true)]
theorem run74 (p : Prop) (L : List Int) (g : FuncId) (caps : List AV) (t : Bool) (k : Int) (h : Heap) : xBody Try.prog G0 (EV p g (I (L.getD k.toNat 0) :: caps) (.bool t)) 200 noLoops [0, 1, 4, 7, 8] body74 (st74 L (.fn g [] caps) 0 k false h) = .ite (decide (k < (↑L.length : Int))) (.need (((0 : Int) ≤ k) ∧ (k < (↑L.length : Int))) (.need ((p) ∧ ((g = g) ∧ (((I (L.getD k.toNat (0 : Int))) :: caps) = ((I (L.getD k.toNat (0 : Int))) :: caps)))) (.ite (t) (.leaf (Exit.ret, St.of 19 h [(0, (flL (L)), true), (1, (AV.fn g [] caps), true), (4, (I k), true), (7, (I ((↑L.length : Int))), true), (8, (I k), true)])) (.leaf (Exit.normal, St.of 19 h [(0, (flL (L)), true), (1, (AV.fn g [] caps), true), (4, (I ((0 : Int))), false), (7, (I ((↑L.length : Int))), true), (8, (I (IntKind.i64.wrap (k + (1 : Int)))), true)]))))) (.leaf ((Exit.exit ((0 : Nat))), St.of 19 h [(0, (flL (L)), true), (1, (AV.fn g [] caps), true), (4, (I ((0 : Int))), false), (7, (I ((↑L.length : Int))), true), (8, (I k), true)])) := by kernel_rfl
theorem loops74 : loopsOf (bodyOf Try.prog 74) = [body74] := by kernel_rfl
theorem runF74 (L : List Int) (f : AV) (t : Bool) (p q : Int) (h : Heap) : xenter Try.prog {} (xCode Try.prog G0 {} 200 (lpA 2 [0, 1, 4, 7, 8] (st74 L f 0 0 false h) t .ret (st74 L f p p true h) (.exit 0) (st74 L f 0 q false h))) 74 [flL L, f] [true, true] h = .need ((st74 L f 0 0 false h).vals = (st74 L f 0 0 false h).vals) (.ite (t) (.leaf ((I p), true, h)) (.leaf ((I ((-1 : Int))), false, h))) := by kernel_rfl
theorem loop74 {L : List Int} (hl : L.length < 4611686018427387904) {g : FuncId} {caps : List AV} {q : Int → Bool} (hg : ∀ x ∈ L, ∀ σ, ACall Try.prog G0 g (I x :: caps) σ (.bool (q x)) σ) (h : Heap) :
    LoopA body74 L.length (fun k => st74 L (.fn g [] caps) 0 k false h) (fun k => st74 L (.fn g [] caps) k k true h) (st74 L (.fn g [] caps) 0 L.length false h) .ret (.exit 0) fun k => q (L.getD k 0) where
  n0 _ := rfl
  nR _ := rfl
  nX := rfl
  neR := nofun
  neX := nofun
  go k hk _ hs := rnd (clokV fun _ => hg _ (getD_mem hk)) (lpNo _) ((congrArg Tree.sel (run74 True L g caps (q (L.getD k 0)) k h)).trans (by rw [selIt (dT (by omega)), selN ⟨by omega, by omega⟩, Int.toNat_natCast, selN ⟨trivial, rfl, rfl⟩, selIf hs, wrapS hk hl]; rfl)) rfl
  st k hk _ hs := rnd (clokV fun _ => hg _ (getD_mem hk)) (lpNo _) ((congrArg Tree.sel (run74 True L g caps (q (L.getD k 0)) k h)).trans (by rw [selIt (dT (by omega)), selN ⟨by omega, by omega⟩, Int.toNat_natCast, selN ⟨trivial, rfl, rfl⟩, selIt hs]; rfl)) rfl
  en _ := rnd (clokV (p := False) nofun) (lpNo _) ((congrArg Tree.sel (run74 False L g caps true L.length h)).trans (by rw [selIf (dF (by omega))]; rfl)) rfl
/-- IndexFunc, then whether there is one. -/
theorem c74 {L : List Int} (hl : L.length < 4611686018427387904) {g : FuncId} {caps : List AV} {q : Int → Bool} (hg : ∀ x ∈ L, ∀ σ, ACall Try.prog G0 g (I x :: caps) σ (.bool (q x)) σ) :
    ∃ n : Int, (∀ h, ACall Try.prog G0 74 [flL L, .fn g [] caps] h (I n) h) ∧ decide (n ≥ 0) = L.any q := by
  have hs := loop74 hl hg
  have key := fun h => congrArg Tree.sel (runF74 L (.fn g [] caps) (decide (fstStop (fun k => q (L.getD k 0)) L.length 0 < L.length)) (fstStop (fun k => q (L.getD k 0)) L.length 0 : Nat) L.length h)
  by_cases hp : fstStop (fun k => q (L.getD k 0)) L.length 0 < L.length
  · refine ⟨_, fun h => .find (s := true) (n := 200) (tags := [true, true]) clok0 ((hs h).ok (one_loop loops74)) ((key h).trans (by rw [selN rfl, selIt (dT hp)]; rfl)), ?_⟩
    obtain ⟨k, h1, h2⟩ := (fstStop_iff _ _).1 hp
    rw [dT (by omega), eq_comm, List.any_eq_true]
    exact ⟨_, getD_mem h1, h2⟩
  · refine ⟨_, fun h => .find (s := false) (n := 200) (tags := [true, true]) clok0 ((hs h).ok (one_loop loops74)) ((key h).trans (by rw [selN rfl, selIf (dF hp)]; rfl)), ?_⟩
    rw [dF (by omega), eq_comm, List.any_eq_false]
    intro x hx h2
    obtain ⟨k, hk, rfl⟩ := List.mem_iff_getElem.1 hx
    exact hp ((fstStop_iff _ _).2 ⟨k, hk, by rw [List.getD_eq_getElem?_getD, List.getElem?_eq_getElem hk]; exact h2⟩)
theorem run55 (p : Prop) (x f : AV) (n : Int) (h : Heap) : xCall Try.prog G0 (EV p 74 [x, f] (I n)) 200 55 [x, f] [true, true] h = .need ((p) ∧ ((((74 : Nat)) = ((74 : FuncId))) ∧ ([x, f] = [x, f]))) (.leaf ((AV.bool (decide (n ≥ (0 : Int)))), true, h)) := by kernel_rfl
theorem c55 {L : List Int} (hl : L.length < 4611686018427387904) {g : FuncId} {caps : List AV} {q : Int → Bool} (hg : ∀ x ∈ L, ∀ σ, ACall Try.prog G0 g (I x :: caps) σ (.bool (q x)) σ) (h : Heap) : ACall Try.prog G0 55 [flL L, .fn g [] caps] h (.bool (L.any q)) h := by
  obtain ⟨n, h1, h2⟩ := c74 hl hg
  rw [← h2]
  exact xCall_ok (n := 200) (tags := [true, true]) (s := true) names mixed (clokV fun _ => h1) ((congrArg Tree.sel (run55 True _ _ n h)).trans (selN ⟨trivial, rfl, rfl⟩))

/-! ### Numbers within bounds -/
def inB (n lo hi : Int) : Bool := decide (lo ≤ n) && decide (n ≤ hi)
theorem inB_iff {n lo hi : Int} : inB n lo hi = true ↔ lo ≤ n ∧ n ≤ hi := by simp [inB]
theorem run45 (n lo hi : Int) (h : Heap) : xCall Try.prog G0 {} 200 45 [I n, I lo, I hi] [true, true, true] h = .ite (decide (n ≥ lo)) (.leaf ((AV.bool (decide (n ≤ hi))), true, h)) (.leaf ((AV.bool false), false, h)) := by kernel_rfl
theorem c45 (n lo hi : Int) (h : Heap) : ACall Try.prog G0 45 [I n, I lo, I hi] h (.bool (inB n lo hi)) h := by
  have key := congrArg Tree.sel (run45 n lo hi h)
  unfold inB
  by_cases h1 : lo ≤ n
  · rw [selIt (dT h1)] at key
    rw [dT h1, Bool.true_and]
    exact xCall_ok (n := 200) (tags := [true, true, true]) (s := true) names mixed clok0 key
  · rw [selIf (dF h1)] at key
    rw [dF h1, Bool.false_and]
    exact xCall_ok (n := 200) (tags := [true, true, true]) (s := false) names mixed clok0 key
theorem run49 (n lo hi : Int) (h : Heap) : xCall Try.prog G0 {} 200 49 [I n, I lo, I hi] [true, true, true] h = .ite (decide (n ≥ lo)) (.leaf ((AV.bool (decide (n ≤ hi))), true, h)) (.leaf ((AV.bool false), false, h)) := by kernel_rfl
theorem c49 (n lo hi : Int) (h : Heap) : ACall Try.prog G0 49 [I n, I lo, I hi] h (.bool (inB n lo hi)) h := by
  have key := congrArg Tree.sel (run49 n lo hi h)
  unfold inB
  by_cases h1 : lo ≤ n
  · rw [selIt (dT h1)] at key
    rw [dT h1, Bool.true_and]
    exact xCall_ok (n := 200) (tags := [true, true, true]) (s := true) names mixed clok0 key
  · rw [selIf (dF h1)] at key
    rw [dF h1, Bool.false_and]
    exact xCall_ok (n := 200) (tags := [true, true, true]) (s := false) names mixed clok0 key
def outC (lo hi : Int) : List AV := [.row [I lo] 0, .row [I hi] 0]
theorem run75 (n lo hi : Int) (b : Bool) (h : Heap) : xCall Try.prog G0 (EV True 45 [I n, I lo, I hi] (.bool b)) 200 75 (I n :: outC lo hi) [true, true, true] h = .need ((True) ∧ ((((45 : Nat)) = ((45 : FuncId))) ∧ ([(I n), (I lo), (I hi)] = [(I n), (I lo), (I hi)]))) (.leaf ((AV.bool (!b)), true, h)) := by kernel_rfl
theorem c75 (n lo hi : Int) (h : Heap) : ACall Try.prog G0 75 (I n :: outC lo hi) h (.bool (!inB n lo hi)) h :=
  xCall_ok (n := 200) (tags := [true, true, true]) (s := true) names mixed (clokV fun _ => c45 n lo hi) ((congrArg Tree.sel (run75 n lo hi _ h)).trans (selN ⟨trivial, rfl, rfl⟩))
theorem run56 (lo hi : Int) (h : Heap) : xCall Try.prog G0 {} 200 56 [I lo, I hi] [true, true] h = .leaf ((AV.fn ((75 : Nat)) [] [(AV.row [(I lo)] ((0 : Nat))), (AV.row [(I hi)] ((0 : Nat)))]), true, h) := by kernel_rfl
theorem c56 (lo hi : Int) (h : Heap) : ACall Try.prog G0 56 [I lo, I hi] h (.fn 75 [] (outC lo hi)) h :=
  xCall_ok (n := 200) (tags := [true, true]) (s := true) names mixed clok0 (congrArg Tree.sel (run56 lo hi h))
/-- Some number of the list lies outside. -/
def anyOut (L : List Int) (lo hi : Int) : Bool := L.any fun x => !inB x lo hi
theorem c55o {L : List Int} (hl : L.length < 4611686018427387904) (lo hi : Int) (h : Heap) : ACall Try.prog G0 55 [flL L, .fn 75 [] (outC lo hi)] h (.bool (anyOut L lo hi)) h := c55 hl (fun x _ σ => c75 x lo hi σ) h
end Go.Proofs.Ytngaihdpmoajeaa.Am

namespace Go.Proofs.Ytngaihdpmoajeaa.Am
open Go
set_option maxRecDepth 100000

/-! ### Problems -/
structure Rl where
  d : Int
  v : List Int
  w : List (List Int)
  m : Int
  deriving DecidableEq
structure Pb where
  V : List Int
  C : List (List Int)
  R : List Rl
  deriving DecidableEq
def r0 : Rl := ⟨0, [], [], 0⟩
def rlC (x : Rl) : List AV := [I x.d, flL x.v, flLL x.w, I x.m]
def flR (R : List Rl) : AV := .fl 4 R.length fun i => rlC (R.getD i r0)
def pbC (p : Pb) : List AV := [flL p.V, flLL p.C, flR p.R]
def pAV (p : Pb) : AV := .agg (pbC p)
def sh {α : Type} (L : List α) : Prop := L.length < 4611686018427387904
def Rl.sh (x : Rl) : Prop := Am.sh x.v ∧ Am.sh x.w ∧ ∀ l ∈ x.w, Am.sh l
def Pb.sh (p : Pb) : Prop := Am.sh p.V ∧ Am.sh p.C ∧ (∀ l ∈ p.C, Am.sh l) ∧ Am.sh p.R ∧ ∀ x ∈ p.R, x.sh
theorem sh_nil {α : Type} : sh ([] : List α) := by show (0 : Nat) < _; omega
theorem sh_getD {L : List (List Int)} (h : ∀ l ∈ L, sh l) (k : Nat) : sh (L.getD k []) := by
  by_cases hk : k < L.length
  · exact h _ (getD_mem hk)
  · rw [List.getD_eq_getElem?_getD, List.getElem?_eq_none (by omega)]; exact sh_nil
theorem sh_getR {R : List Rl} (h : ∀ x ∈ R, x.sh) (k : Nat) : (R.getD k r0).sh := by
  by_cases hk : k < R.length
  · exact h _ (getD_mem hk)
  · rw [List.getD_eq_getElem?_getD, List.getElem?_eq_none (by omega)]; exact ⟨sh_nil, sh_nil, nofun⟩

/-! ### IndexFunc, ContainsFunc of a list of rules -/
noncomputable def body76 : Code := (loopsOf (bodyOf Try.prog 76)).headD .skip
def st76 (L : List Rl) (f : AV) (r : Int) (k : Int) (b : Bool) (h : Heap) : St := .of 19 h [(0, flR L, true), (1, f, true), (4, I r, b), (7, I L.length, true), (8, I k, true)]
theorem run76 (p : Prop) (L : List Rl) (g : FuncId) (caps : List AV) (t : Bool) (k : Int) (h : Heap) : xBody Try.prog G0 (EV p g (.agg (rlC (L.getD k.toNat r0)) :: caps) (.bool t)) 200 noLoops [0, 1, 4, 7, 8] body76 (st76 L (.fn g [] caps) 0 k false h) = .ite (decide (k < (↑L.length : Int))) (.need (((0 : Int) ≤ k) ∧ (k < (↑L.length : Int))) (.need ((p) ∧ ((g = g) ∧ (((AV.agg [(I ((L.getD k.toNat r0).d)), (flL ((L.getD k.toNat r0).v)), (flLL ((L.getD k.toNat r0).w)), (I ((L.getD k.toNat r0).m))]) :: caps) = ((AV.agg [(I ((L.getD k.toNat r0).d)), (flL ((L.getD k.toNat r0).v)), (flLL ((L.getD k.toNat r0).w)), (I ((L.getD k.toNat r0).m))]) :: caps)))) (.ite (t) (.leaf (Exit.ret, St.of 19 h [(0, (flR (L)), true), (1, (AV.fn g [] caps), true), (4, (I k), true), (7, (I ((↑L.length : Int))), true), (8, (I k), true)])) (.leaf (Exit.normal, St.of 19 h [(0, (flR (L)), true), (1, (AV.fn g [] caps), true), (4, (I ((0 : Int))), false), (7, (I ((↑L.length : Int))), true), (8, (I (IntKind.i64.wrap (k + (1 : Int)))), true)]))))) (.leaf ((Exit.exit ((0 : Nat))), St.of 19 h [(0, (flR (L)), true), (1, (AV.fn g [] caps), true), (4, (I ((0 : Int))), false), (7, (I ((↑L.length : Int))), true), (8, (I k), true)])) := by kernel_rfl
theorem loops76 : loopsOf (bodyOf Try.prog 76) = [body76] := by kernel_rfl
theorem runF76 (L : List Rl) (f : AV) (t : Bool) (p q : Int) (h : Heap) : xenter Try.prog {} (xCode Try.prog G0 {} 200 (lpA 2 [0, 1, 4, 7, 8] (st76 L f 0 0 false h) t .ret (st76 L f p p true h) (.exit 0) (st76 L f 0 q false h))) 76 [flR L, f] [true, true] h = .need ((st76 L f 0 0 false h).vals = (st76 L f 0 0 false h).vals) (.ite (t) (.leaf ((I p), true, h)) (.leaf ((I ((-1 : Int))), false, h))) := by kernel_rfl
theorem loop76 {L : List Rl} (hl : sh L) {g : FuncId} {caps : List AV} {q : Rl → Bool} (hg : ∀ x ∈ L, ∀ σ, ACall Try.prog G0 g (.agg (rlC x) :: caps) σ (.bool (q x)) σ) (h : Heap) :
    LoopA body76 L.length (fun k => st76 L (.fn g [] caps) 0 k false h) (fun k => st76 L (.fn g [] caps) k k true h) (st76 L (.fn g [] caps) 0 L.length false h) .ret (.exit 0) fun k => q (L.getD k r0) where
  n0 _ := rfl
  nR _ := rfl
  nX := rfl
  neR := nofun
  neX := nofun
  go k hk _ hs := rnd (clokV fun _ => hg _ (getD_mem hk)) (lpNo _) ((congrArg Tree.sel (run76 True L g caps (q (L.getD k r0)) k h)).trans (by rw [selIt (dT (by omega)), selN ⟨by omega, by omega⟩, Int.toNat_natCast, selN ⟨trivial, rfl, rfl⟩, selIf hs, wrapS hk hl]; rfl)) rfl
  st k hk _ hs := rnd (clokV fun _ => hg _ (getD_mem hk)) (lpNo _) ((congrArg Tree.sel (run76 True L g caps (q (L.getD k r0)) k h)).trans (by rw [selIt (dT (by omega)), selN ⟨by omega, by omega⟩, Int.toNat_natCast, selN ⟨trivial, rfl, rfl⟩, selIt hs]; rfl)) rfl
  en _ := rnd (clokV (p := False) nofun) (lpNo _) ((congrArg Tree.sel (run76 False L g caps true L.length h)).trans (by rw [selIf (dF (by omega))]; rfl)) rfl
theorem c76 {L : List Rl} (hl : sh L) {g : FuncId} {caps : List AV} {q : Rl → Bool} (hg : ∀ x ∈ L, ∀ σ, ACall Try.prog G0 g (.agg (rlC x) :: caps) σ (.bool (q x)) σ) :
    ∃ n : Int, (∀ h, ACall Try.prog G0 76 [flR L, .fn g [] caps] h (I n) h) ∧ decide (n ≥ 0) = L.any q := by
  have hs := loop76 hl hg
  have key := fun h => congrArg Tree.sel (runF76 L (.fn g [] caps) (decide (fstStop (fun k => q (L.getD k r0)) L.length 0 < L.length)) (fstStop (fun k => q (L.getD k r0)) L.length 0 : Nat) L.length h)
  by_cases hp : fstStop (fun k => q (L.getD k r0)) L.length 0 < L.length
  · refine ⟨_, fun h => .find (s := true) (n := 200) (tags := [true, true]) clok0 ((hs h).ok (one_loop loops76)) ((key h).trans (by rw [selN rfl, selIt (dT hp)]; rfl)), ?_⟩
    obtain ⟨k, h1, h2⟩ := (fstStop_iff _ _).1 hp
    rw [dT (by omega), eq_comm, List.any_eq_true]
    exact ⟨_, getD_mem h1, h2⟩
  · refine ⟨_, fun h => .find (s := false) (n := 200) (tags := [true, true]) clok0 ((hs h).ok (one_loop loops76)) ((key h).trans (by rw [selN rfl, selIf (dF hp)]; rfl)), ?_⟩
    rw [dF (by omega), eq_comm, List.any_eq_false]
    intro x hx h2
    obtain ⟨k, hk, rfl⟩ := List.mem_iff_getElem.1 hx
    exact hp ((fstStop_iff _ _).2 ⟨k, hk, by rw [List.getD_eq_getElem?_getD, List.getElem?_eq_getElem hk]; exact h2⟩)
theorem run57 (p : Prop) (x f : AV) (n : Int) (h : Heap) : xCall Try.prog G0 (EV p 76 [x, f] (I n)) 200 57 [x, f] [true, true] h = .need ((p) ∧ ((((76 : Nat)) = ((76 : FuncId))) ∧ ([x, f] = [x, f]))) (.leaf ((AV.bool (decide (n ≥ (0 : Int)))), true, h)) := by kernel_rfl
theorem c57 {L : List Rl} (hl : sh L) {g : FuncId} {caps : List AV} {q : Rl → Bool} (hg : ∀ x ∈ L, ∀ σ, ACall Try.prog G0 g (.agg (rlC x) :: caps) σ (.bool (q x)) σ) (h : Heap) : ACall Try.prog G0 57 [flR L, .fn g [] caps] h (.bool (L.any q)) h := by
  obtain ⟨n, h1, h2⟩ := c76 hl hg
  rw [← h2]
  exact xCall_ok (n := 200) (tags := [true, true]) (s := true) names mixed (clokV fun _ => h1) ((congrArg Tree.sel (run57 True _ _ n h)).trans (selN ⟨trivial, rfl, rfl⟩))

/-! ### Is a rule bad? -/
def lastOf (v : List Int) : Nat → Int
  | 0 => -1
  | k + 1 => v.getD k 0
def bad58 (V : List Int) (x : Rl) (k : Nat) : Bool := decide (x.v.getD k 0 ≤ lastOf x.v k) || (decide (x.v.getD k 0 ≥ V.length) || (decide (k ≥ x.w.length) || ((((x.w.getD k []).length : Int) != V.getD (x.v.getD k 0).toNat 0) || anyOut (x.w.getD k []) (-100000000) 100000000)))
noncomputable def body58 : Code := (loopsOf (bodyOf Try.prog 58)).headD .skip
def st58 (p : Pb) (x : Rl) (r : Bool) (last k : Int) (b : Bool) (h : Heap) : St := .of 76 h [(1, .row (pbC p) 0, true), (2, .row (rlC x) 0, true), (3, .bool r, false), (4, I last, b), (8, flL x.v, true), (9, I x.v.length, true), (10, I k, b)]
def E58 (l : List Int) (t : Bool) : Env := EK [(56, [I (-100000000), I 100000000], .fn 75 [] (outC (-100000000) 100000000)), (55, [flL l, .fn 75 [] (outC (-100000000) 100000000)], .bool t)]
theorem clok58 {l : List Int} (hl : sh l) : ClOk Try.prog G0 (E58 l (anyOut l (-100000000) 100000000)) := clokK fun p hp σ => by
  simp only [List.mem_cons, List.not_mem_nil, or_false] at hp
  rcases hp with rfl | rfl
  · exact c56 _ _ σ
  · exact c55o hl _ _ σ
theorem run58 (p : Pb) (x : Rl) (t : Bool) (last k : Int) (h : Heap) : xBody Try.prog G0 (E58 (x.w.getD k.toNat []) t) 200 noLoops [1, 2, 3, 4, 8, 9, 10] body58 (st58 p x false last k true h) = .ite (decide (k < (↑x.v.length : Int))) (.need (((0 : Int) ≤ k) ∧ (k < (↑x.v.length : Int))) (.ite (decide (x.v.getD k.toNat (0 : Int) ≤ last)) (.leaf (Exit.ret, St.of 76 h [(1, (AV.row [(flL (p.V)), (flLL (p.C)), (flR (p.R))] ((0 : Nat))), true), (2, (AV.row [(I (x.d)), (flL (x.v)), (flLL (x.w)), (I (x.m))] ((0 : Nat))), true), (3, (AV.bool true), false), (4, (I last), true), (8, (flL (x.v)), true), (9, (I ((↑x.v.length : Int))), true), (10, (I k), true)])) (.ite (decide (x.v.getD k.toNat (0 : Int) ≥ (↑p.V.length : Int))) (.leaf (Exit.ret, St.of 76 h [(1, (AV.row [(flL (p.V)), (flLL (p.C)), (flR (p.R))] ((0 : Nat))), true), (2, (AV.row [(I (x.d)), (flL (x.v)), (flLL (x.w)), (I (x.m))] ((0 : Nat))), true), (3, (AV.bool true), false), (4, (I last), true), (8, (flL (x.v)), true), (9, (I ((↑x.v.length : Int))), true), (10, (I k), true)])) (.ite (decide (k ≥ (↑x.w.length : Int))) (.leaf (Exit.ret, St.of 76 h [(1, (AV.row [(flL (p.V)), (flLL (p.C)), (flR (p.R))] ((0 : Nat))), true), (2, (AV.row [(I (x.d)), (flL (x.v)), (flLL (x.w)), (I (x.m))] ((0 : Nat))), true), (3, (AV.bool true), false), (4, (I last), true), (8, (flL (x.v)), true), (9, (I ((↑x.v.length : Int))), true), (10, (I k), true)])) (.need (((0 : Int) ≤ k) ∧ (k < (↑x.w.length : Int))) (.need (((0 : Int) ≤ x.v.getD k.toNat (0 : Int)) ∧ (x.v.getD k.toNat (0 : Int) < (↑p.V.length : Int))) (.ite ((↑(x.w.getD k.toNat []).length : Int) != p.V.getD (x.v.getD k.toNat (0 : Int)).toNat (0 : Int)) (.leaf (Exit.ret, St.of 76 h [(1, (AV.row [(flL (p.V)), (flLL (p.C)), (flR (p.R))] ((0 : Nat))), true), (2, (AV.row [(I (x.d)), (flL (x.v)), (flLL (x.w)), (I (x.m))] ((0 : Nat))), true), (3, (AV.bool true), false), (4, (I last), true), (8, (flL (x.v)), true), (9, (I ((↑x.v.length : Int))), true), (10, (I k), true)])) (.need (((0 : Int) ≤ k) ∧ (k < (↑x.w.length : Int))) (.need ([(I ((-100000000 : Int))), (I ((100000000 : Int)))] = [(I ((-100000000 : Int))), (I ((100000000 : Int)))]) (.need ([(flL (x.w.getD k.toNat [])), (AV.fn ((75 : FuncId)) [] [(AV.row [(I ((-100000000 : Int)))] ((0 : Nat))), (AV.row [(I ((100000000 : Int)))] ((0 : Nat)))])] = [(flL (x.w.getD k.toNat [])), (AV.fn ((75 : FuncId)) [] [(AV.row [(I ((-100000000 : Int)))] ((0 : Nat))), (AV.row [(I ((100000000 : Int)))] ((0 : Nat)))])]) (.ite (t) (.leaf (Exit.ret, St.of 76 h [(1, (AV.row [(flL (p.V)), (flLL (p.C)), (flR (p.R))] ((0 : Nat))), true), (2, (AV.row [(I (x.d)), (flL (x.v)), (flLL (x.w)), (I (x.m))] ((0 : Nat))), true), (3, (AV.bool true), false), (4, (I last), true), (8, (flL (x.v)), true), (9, (I ((↑x.v.length : Int))), true), (10, (I k), true)])) (.leaf (Exit.normal, St.of 76 h [(1, (AV.row [(flL (p.V)), (flLL (p.C)), (flR (p.R))] ((0 : Nat))), true), (2, (AV.row [(I (x.d)), (flL (x.v)), (flLL (x.w)), (I (x.m))] ((0 : Nat))), true), (3, (AV.bool false), false), (4, (I (x.v.getD k.toNat (0 : Int))), true), (8, (flL (x.v)), true), (9, (I ((↑x.v.length : Int))), true), (10, (I (IntKind.i64.wrap (k + (1 : Int)))), true)]))))))))))))) (.leaf ((Exit.exit ((0 : Nat))), St.of 76 h [(1, (AV.row [(flL (p.V)), (flLL (p.C)), (flR (p.R))] ((0 : Nat))), true), (2, (AV.row [(I (x.d)), (flL (x.v)), (flLL (x.w)), (I (x.m))] ((0 : Nat))), true), (3, (AV.bool false), false), (4, (I last), true), (8, (flL (x.v)), true), (9, (I ((↑x.v.length : Int))), true), (10, (I k), true)])) := by kernel_rfl
theorem loops58 : loopsOf (bodyOf Try.prog 58) = [body58] := by kernel_rfl
theorem bad_false {V : List Int} {x : Rl} {k : Nat} (h : bad58 V x k = false) : ¬ x.v.getD k 0 ≤ lastOf x.v k ∧ ¬ x.v.getD k 0 ≥ V.length ∧ ¬ k ≥ x.w.length ∧ (((x.w.getD k []).length : Int) != V.getD (x.v.getD k 0).toNat 0) = false ∧ anyOut (x.w.getD k []) (-100000000) 100000000 = false := by
  unfold bad58 at h
  simp only [Bool.or_eq_false_iff, decide_eq_false_iff_not] at h
  exact h
theorem last_ge {V : List Int} {x : Rl} : ∀ {k : Nat}, (∀ j, j < k → bad58 V x j = false) → -1 ≤ lastOf x.v k
  | 0, _ => Int.le_refl _
  | k + 1, h => by
    have h1 := last_ge (k := k) fun j hj => h j (by omega)
    have h2 := (bad_false (h k (by omega))).1
    show -1 ≤ x.v.getD k 0
    omega
theorem loop58 {p : Pb} {x : Rl} (hx : x.sh) (h : Heap) : LoopA body58 x.v.length (fun k => st58 p x false (lastOf x.v k) k true h) (fun k => st58 p x true (lastOf x.v k) k true h) (st58 p x false (lastOf x.v x.v.length) x.v.length true h) .ret (.exit 0) (bad58 p.V x) where
  n0 _ := rfl
  nR _ := rfl
  nX := rfl
  neR := nofun
  neX := nofun
  go k hk hj hs := rnd (clok58 (sh_getD hx.2.2 k)) (lpNo _) ((congrArg Tree.sel (run58 p x (anyOut (x.w.getD k []) (-100000000) 100000000) (lastOf x.v k) k h)).trans (by
    obtain ⟨h1, h2, h3, h4, h5⟩ := bad_false hs
    have h0 := last_ge hj
    rw [selIt (dT (by omega)), selN ⟨by omega, by omega⟩, Int.toNat_natCast, selIf (dF h1), selIf (dF h2), selIf (dF (by omega)), selN ⟨by omega, by omega⟩, selN ⟨by omega, by omega⟩, selIf h4, selN ⟨by omega, by omega⟩, selR, selR, selIf h5, wrapS hk hx.1]
    rfl)) rfl
  st k hk hj hs := rnd (clok58 (sh_getD hx.2.2 k)) (lpNo _) ((congrArg Tree.sel (run58 p x (anyOut (x.w.getD k []) (-100000000) 100000000) (lastOf x.v k) k h)).trans (by
    have h0 := last_ge hj
    unfold bad58 at hs
    rw [selIt (dT (by omega)), selN ⟨by omega, by omega⟩, Int.toNat_natCast]
    by_cases h1 : x.v.getD k 0 ≤ lastOf x.v k
    · rw [selIt (dT h1)]; rfl
    rw [selIf (dF h1)]
    by_cases h2 : x.v.getD k 0 ≥ p.V.length
    · rw [selIt (dT h2)]; rfl
    rw [selIf (dF h2)]
    by_cases h3 : k ≥ x.w.length
    · rw [selIt (dT (by omega))]; rfl
    rw [selIf (dF (by omega)), selN ⟨by omega, by omega⟩, selN ⟨by omega, by omega⟩]
    rw [dF h1, dF h2, dF h3, Bool.false_or, Bool.false_or, Bool.false_or] at hs
    cases h4 : (((x.w.getD k []).length : Int) != p.V.getD (x.v.getD k 0).toNat 0) with
    | true => rw [selIt rfl]; rfl
    | false =>
      rw [h4, Bool.false_or] at hs
      rw [selIf rfl, selN ⟨by omega, by omega⟩, selR, selR, selIt hs]; rfl)) rfl
  en _ := rnd (clok58 (sh_getD hx.2.2 x.v.length)) (lpNo _) ((congrArg Tree.sel (run58 p x (anyOut (x.w.getD x.v.length []) (-100000000) 100000000) (lastOf x.v x.v.length) x.v.length h)).trans (by rw [selIf (dF (by omega))]; rfl)) rfl
/-- What a tree of results says. -/
def Says (t : Tree (AV × Bool × Heap)) (v : AV) (h : Heap) : Prop := ∃ s, t.sel = some (v, s, h)
theorem says_leaf {v : AV} {s : Bool} {h : Heap} : Says (.leaf (v, s, h)) v h := ⟨s, rfl⟩
theorem says_need {p : Prop} {x : Tree (AV × Bool × Heap)} {v : AV} {h : Heap} (hp : p) (hx : Says x v h) : Says (.need p x) v h := by
  obtain ⟨s, hs⟩ := hx
  exact ⟨s, (selN hp).trans hs⟩
theorem says_ite {b : Bool} {x y : Tree (AV × Bool × Heap)} {v : AV} {h : Heap} (hx : b = true → Says x v h) (hy : b = false → Says y v h) : Says (.ite b x y) v h := by
  cases b with
  | true => exact hx rfl
  | false => exact hy rfl
theorem ACall.says {E : Env} (hcl : ClOk Try.prog G0 E) {lp : Loops} {n : Nat} {f : FuncId} (hlp : LoopsOk Try.prog G0 (fun r => r = none) [] lp (bodyOf Try.prog f)) {xs : List AV} {tags : List Bool} {h h' : Heap} {v : AV} {t : Tree (AV × Bool × Heap)}
    (he : xenter Try.prog E (xCode Try.prog G0 E n lp) f xs tags h = t) (hs : Says t v h') : ACall Try.prog G0 f xs h v h' := by
  obtain ⟨s, hs⟩ := hs
  exact .find (s := s) hcl hlp ((congrArg Tree.sel he).trans hs)
theorem ACall.saysC {E : Env} (hcl : ClOk Try.prog G0 E) {n : Nat} {f : FuncId} {xs : List AV} {tags : List Bool} {h h' : Heap} {v : AV} {t : Tree (AV × Bool × Heap)}
    (he : xCall Try.prog G0 E n f xs tags h = t) (hs : Says t v h') : ACall Try.prog G0 f xs h v h' := by
  obtain ⟨s, hs⟩ := hs
  exact xCall_ok names mixed hcl ((congrArg Tree.sel he).trans hs)
/-- Simple functions, always known. -/
def clS : FuncId → List AV → Option (Tree AV) := fun f xs => match f, xs with
  | 45, [.int .i64 a, .int .i64 b, .int .i64 c] => some (.leaf (.bool (inB a b c)))
  | 49, [.int .i64 a, .int .i64 b, .int .i64 c] => some (.leaf (.bool (inB a b c)))
  | 56, [.int .i64 a, .int .i64 b] => some (.leaf (.fn 75 [] (outC a b)))
  | _, _ => none
theorem clS_ok {f : FuncId} {xs : List AV} {t : Tree AV} {v : AV} (hq : clS f xs = some t) (hs : t.sel = some v) (σ : Heap) : ACall Try.prog G0 f xs σ v σ := by
  unfold clS at hq
  split at hq <;> first | (cases hq; done) | skip
  · cases hq; cases hs; exact c45 _ _ _ σ
  · cases hq; cases hs; exact c49 _ _ _ σ
  · cases hq; cases hs; exact c56 _ _ σ
def ES (l : List (FuncId × List AV × AV)) : Env := { clh := failH, cl := fun f xs => match clS f xs with
  | some t => some t
  | none => clL l f xs }
theorem clokS {l : List (FuncId × List AV × AV)} (hl : ∀ p ∈ l, ∀ σ, ACall Try.prog G0 p.1 p.2.1 σ p.2.2 σ) : ClOk Try.prog G0 (ES l) := .all .none failH_ok (fun l xs σ t v σ' h => (by cases h)) fun f xs t v h hs σ => by
  replace h : (match clS f xs with
    | some t => some t
    | none => clL l f xs) = some t := h
  split at h
  · rename_i t' ht; cases h; exact clS_ok ht hs σ
  · exact clL_ok hl f xs t v h hs σ
theorem clokS0 : ClOk Try.prog G0 (ES []) := clokS nofun
theorem clokS1 {f : FuncId} {xs : List AV} {v : AV} (h : ∀ σ, ACall Try.prog G0 f xs σ v σ) : ClOk Try.prog G0 (ES [(f, xs, v)]) := clokS fun p hp σ => by
  obtain rfl := List.mem_singleton.1 hp
  exact h σ
theorem clokS2 {f g : FuncId} {xs ys : List AV} {v u : AV} (h : ∀ σ, ACall Try.prog G0 f xs σ v σ) (k : ∀ σ, ACall Try.prog G0 g ys σ u σ) : ClOk Try.prog G0 (ES [(f, xs, v), (g, ys, u)]) := clokS fun p hp σ => by
  rcases List.mem_cons.1 hp with rfl | hp
  · exact h σ
  · obtain rfl := List.mem_singleton.1 hp
    exact k σ
theorem runF58 (p : Pb) (x : Rl) (t : Bool) (l1 l2 k1 k2 : Int) (h : Heap) : xenter Try.prog (ES []) (xCode Try.prog G0 (ES []) 200 (lpA 3 [1, 2, 3, 4, 8, 9, 10] (st58 p x false (-1) 0 true h) t .ret (st58 p x true l1 k1 true h) (.exit 0) (st58 p x false l2 k2 true h))) 58 [.agg (rlC x), .row (pbC p) 0] [true, true] h = .need ((st58 p x false (-1) 0 true h).vals = (st58 p x false (-1) 0 true h).vals) (.ite (t) (.leaf ((AV.bool true), false, h)) (.ite ((↑x.w.length : Int) != (↑x.v.length : Int)) (.leaf ((AV.bool true), false, h)) (.ite (!inB x.d (0 : Int) (1000000 : Int)) (.leaf ((AV.bool true), false, h)) (.leaf ((AV.bool (!inB x.m (-10000000000 : Int) (10000000000 : Int))), true, h))))) := by kernel_rfl
theorem loops58' : ∀ x ∈ loopsOf (bodyOf Try.prog 58), idOf x = 3 → x = body58 := one_loop loops58
/-- Some k below N. -/
def anyK (q : Nat → Bool) (N : Nat) : Bool := (List.range N).any q
theorem anyK_stop (q : Nat → Bool) (N : Nat) : decide (fstStop q N 0 < N) = anyK q N := by
  rw [Bool.eq_iff_iff, decide_eq_true_eq, fstStop_iff]
  unfold anyK
  rw [List.any_eq_true]
  exact ⟨fun ⟨k, h1, h2⟩ => ⟨k, List.mem_range.2 h1, h2⟩, fun ⟨k, h1, h2⟩ => ⟨k, List.mem_range.1 h1, h2⟩⟩
theorem anyK_false {q : Nat → Bool} {N : Nat} (h : anyK q N = false) : ∀ k, k < N → q k = false := fun k hk => by
  have := List.any_eq_false.1 h k (List.mem_range.2 hk)
  simpa using this
def badRl (V : List Int) (x : Rl) : Bool := anyK (bad58 V x) x.v.length || ((((x.w.length : Int) != x.v.length) || !inB x.d 0 1000000) || !inB x.m (-10000000000) 10000000000)
theorem c58 {p : Pb} {x : Rl} (hx : x.sh) (h : Heap) : ACall Try.prog G0 58 [.agg (rlC x), .row (pbC p) 0] h (.bool (badRl p.V x)) h := by
  have hs := loop58 (p := p) hx h
  refine ACall.says clokS0 (hs.ok loops58') (runF58 p x _ _ _ _ _ h) (says_need rfl ?_)
  rw [anyK_stop]
  unfold badRl
  refine says_ite (fun hc => by rw [hc]; exact says_leaf) (fun hc => ?_)
  rw [hc, Bool.false_or]
  refine says_ite (fun hc => by rw [hc]; exact says_leaf) (fun hc => ?_)
  rw [hc, Bool.false_or]
  refine says_ite (fun hc => by rw [hc]; exact says_leaf) (fun hc => ?_)
  rw [hc, Bool.false_or]
  exact says_leaf

/-! ### Is a problem valid? -/
def bad28 (p : Pb) (k : Nat) : Bool := (((p.C.getD k []).length : Int) != p.V.getD k 0) || anyOut (p.C.getD k []) 0 1000000
noncomputable def body28 : Code := (loopsOf (bodyOf Try.prog 28)).headD .skip
def st28 (p : Pb) (k : Int) (h : Heap) : St := .of 57 h [(1, .row (pbC p) 0, true), (2, .bool false, false), (31, flLL p.C, true), (32, I p.C.length, true), (33, I k, true)]
def E28 (l : List Int) (t : Bool) : Env := ES [(55, [flL l, .fn 75 [] (outC 0 1000000)], .bool t)]
theorem clok28 {l : List Int} (hl : sh l) : ClOk Try.prog G0 (E28 l (anyOut l 0 1000000)) := clokS1 (c55o hl _ _)
theorem run28 (p : Pb) (t : Bool) (k : Int) (h : Heap) : xBody Try.prog G0 (E28 (p.C.getD k.toNat []) t) 200 noLoops [1, 2, 31, 32, 33] body28 (st28 p k h) = .ite (decide (k < (↑p.C.length : Int))) (.need (((0 : Int) ≤ k) ∧ (k < (↑p.C.length : Int))) (.need (((0 : Int) ≤ k) ∧ (k < (↑p.V.length : Int))) (.ite ((↑(p.C.getD k.toNat []).length : Int) != p.V.getD k.toNat (0 : Int)) (.leaf (Exit.ret, St.of 57 h [(1, (AV.row [(flL (p.V)), (flLL (p.C)), (flR (p.R))] ((0 : Nat))), true), (2, (AV.bool false), false), (31, (flLL (p.C)), true), (32, (I ((↑p.C.length : Int))), true), (33, (I k), true)])) (.need ([(flL (p.C.getD k.toNat [])), (AV.fn ((75 : FuncId)) [] [(AV.row [(I ((0 : Int)))] ((0 : Nat))), (AV.row [(I ((1000000 : Int)))] ((0 : Nat)))])] = [(flL (p.C.getD k.toNat [])), (AV.fn ((75 : FuncId)) [] [(AV.row [(I ((0 : Int)))] ((0 : Nat))), (AV.row [(I ((1000000 : Int)))] ((0 : Nat)))])]) (.ite (t) (.leaf (Exit.ret, St.of 57 h [(1, (AV.row [(flL (p.V)), (flLL (p.C)), (flR (p.R))] ((0 : Nat))), true), (2, (AV.bool false), false), (31, (flLL (p.C)), true), (32, (I ((↑p.C.length : Int))), true), (33, (I k), true)])) (.leaf (Exit.normal, St.of 57 h [(1, (AV.row [(flL (p.V)), (flLL (p.C)), (flR (p.R))] ((0 : Nat))), true), (2, (AV.bool false), false), (31, (flLL (p.C)), true), (32, (I ((↑p.C.length : Int))), true), (33, (I (IntKind.i64.wrap (k + (1 : Int)))), true)]))))))) (.leaf ((Exit.exit ((0 : Nat))), St.of 57 h [(1, (AV.row [(flL (p.V)), (flLL (p.C)), (flR (p.R))] ((0 : Nat))), true), (2, (AV.bool false), false), (31, (flLL (p.C)), true), (32, (I ((↑p.C.length : Int))), true), (33, (I k), true)])) := by kernel_rfl
theorem loops28 : loopsOf (bodyOf Try.prog 28) = [body28] := by kernel_rfl
theorem loop28 {p : Pb} (hp : p.sh) (he : p.C.length = p.V.length) (h : Heap) : LoopA body28 p.C.length (fun k => st28 p k h) (fun k => st28 p k h) (st28 p p.C.length h) .ret (.exit 0) (bad28 p) where
  n0 _ := rfl
  nR _ := rfl
  nX := rfl
  neR := nofun
  neX := nofun
  go k hk hj hs := rnd (clok28 (sh_getD hp.2.2.1 k)) (lpNo _) ((congrArg Tree.sel (run28 p (anyOut (p.C.getD k []) 0 1000000) k h)).trans (by
    obtain ⟨h1, h2⟩ := Bool.or_eq_false_iff.1 hs
    rw [selIt (dT (by omega)), selN ⟨by omega, by omega⟩, selN ⟨by omega, by omega⟩, Int.toNat_natCast, selIf h1, selR, selIf h2, wrapS hk hp.2.1]
    rfl)) rfl
  st k hk hj hs := rnd (clok28 (sh_getD hp.2.2.1 k)) (lpNo _) ((congrArg Tree.sel (run28 p (anyOut (p.C.getD k []) 0 1000000) k h)).trans (by
    unfold bad28 at hs
    rw [selIt (dT (by omega)), selN ⟨by omega, by omega⟩, selN ⟨by omega, by omega⟩, Int.toNat_natCast]
    cases h4 : (((p.C.getD k []).length : Int) != p.V.getD k 0) with
    | true => rw [selIt rfl]; rfl
    | false =>
      rw [h4, Bool.false_or] at hs
      rw [selIf rfl, selR, selIt hs]; rfl)) rfl
  en _ := rnd (clok28 (sh_getD hp.2.2.1 p.C.length)) (lpNo _) ((congrArg Tree.sel (run28 p (anyOut (p.C.getD p.C.length []) 0 1000000) p.C.length h)).trans (by rw [selIf (dF (by omega))]; rfl)) rfl
def F28 (p : Pb) (a b : Bool) : Env := ES [(55, [flL p.V, .fn 75 [] (outC 1 16)], .bool a), (57, [flR p.R, .fn 58 [] [.row (pbC p) 0]], .bool b)]
theorem clokF28 {p : Pb} (hp : p.sh) : ClOk Try.prog G0 (F28 p (anyOut p.V 1 16) (p.R.any (badRl p.V))) := clokS2 (c55o hp.1 _ _) (c57 hp.2.2.2.1 fun x hx σ => c58 (hp.2.2.2.2 x hx) σ)
theorem runF28 (p : Pb) (a b t : Bool) (k1 k2 : Int) (h : Heap) : xenter Try.prog (F28 p a b) (xCode Try.prog G0 (F28 p a b) 200 (lpA 4 [1, 2, 31, 32, 33] (st28 p 0 h) t .ret (st28 p k1 h) (.exit 0) (st28 p k2 h))) 28 [pAV p] [true] h = .ite (decide ((↑p.V.length : Int) > (24 : Int))) (.leaf ((AV.bool false), false, h)) (.ite ((↑p.C.length : Int) != (↑p.V.length : Int)) (.leaf ((AV.bool false), false, h)) (.ite (decide ((↑p.R.length : Int) > (2048 : Int))) (.leaf ((AV.bool false), false, h)) (.need ([(flL (p.V)), (AV.fn ((75 : FuncId)) [] [(AV.row [(I ((1 : Int)))] ((0 : Nat))), (AV.row [(I ((16 : Int)))] ((0 : Nat)))])] = [(flL (p.V)), (AV.fn ((75 : FuncId)) [] [(AV.row [(I ((1 : Int)))] ((0 : Nat))), (AV.row [(I ((16 : Int)))] ((0 : Nat)))])]) (.ite (a) (.leaf ((AV.bool false), false, h)) (.need ((st28 p 0 h).vals = (st28 p 0 h).vals) (.ite (t) (.leaf ((AV.bool false), false, h)) (.need ([(flR (p.R)), (AV.fn ((58 : Nat)) [] [(AV.row [(flL (p.V)), (flLL (p.C)), (flR (p.R))] ((0 : Nat)))])] = [(flR (p.R)), (AV.fn ((58 : FuncId)) [] [(AV.row [(flL (p.V)), (flLL (p.C)), (flR (p.R))] ((0 : Nat)))])]) (.leaf ((AV.bool (!b)), true, h))))))))) := by kernel_rfl
theorem runG28 (p : Pb) (a b : Bool) (h : Heap) : xenter Try.prog (F28 p a b) (xCode Try.prog G0 (F28 p a b) 200 (lpF 4 [1, 2, 31, 32, 33] (st28 p 0 h))) 28 [pAV p] [true] h = .ite (decide ((↑p.V.length : Int) > (24 : Int))) (.leaf ((AV.bool false), false, h)) (.ite ((↑p.C.length : Int) != (↑p.V.length : Int)) (.leaf ((AV.bool false), false, h)) (.ite (decide ((↑p.R.length : Int) > (2048 : Int))) (.leaf ((AV.bool false), false, h)) (.need ([(flL (p.V)), (AV.fn ((75 : FuncId)) [] [(AV.row [(I ((1 : Int)))] ((0 : Nat))), (AV.row [(I ((16 : Int)))] ((0 : Nat)))])] = [(flL (p.V)), (AV.fn ((75 : FuncId)) [] [(AV.row [(I ((1 : Int)))] ((0 : Nat))), (AV.row [(I ((16 : Int)))] ((0 : Nat)))])]) (.ite (a) (.leaf ((AV.bool false), false, h)) (.need ((st28 p 0 h).vals = (st28 p 0 h).vals) .fail))))) := by kernel_rfl
/-- WHEN A PROBLEM IS VALID. -/
def validP (p : Pb) : Bool := !(decide ((p.V.length : Int) > 24) || (((p.C.length : Int) != p.V.length) || (decide ((p.R.length : Int) > 2048) || anyOut p.V 1 16))) && (!anyK (bad28 p) p.C.length && !p.R.any (badRl p.V))
theorem c28 {p : Pb} (hp : p.sh) (h : Heap) : ACall Try.prog G0 28 [pAV p] h (.bool (validP p)) h := by
  unfold validP
  by_cases he : p.C.length = p.V.length
  · have hs := loop28 hp he h
    refine ACall.says (clokF28 hp) (hs.ok (one_loop loops28)) (runF28 p _ _ _ _ _ h) ?_
    rw [anyK_stop]
    refine says_ite (fun hc => by rw [hc]; exact says_leaf) (fun hc => ?_)
    rw [hc, Bool.false_or]
    refine says_ite (fun hc => by rw [hc]; exact says_leaf) (fun hc => ?_)
    rw [hc, Bool.false_or]
    refine says_ite (fun hc => by rw [hc]; exact says_leaf) (fun hc => says_need rfl ?_)
    rw [hc, Bool.false_or]
    refine says_ite (fun hc => by rw [hc]; exact says_leaf) (fun hc => says_need rfl ?_)
    rw [hc, Bool.not_false, Bool.true_and]
    refine says_ite (fun hc => by rw [hc]; exact says_leaf) (fun hc => says_need rfl ?_)
    rw [hc, Bool.not_false, Bool.true_and]
    exact says_leaf
  · refine ACall.says (clokF28 hp) (lpF_ok 4 _ _ _) (runG28 p _ _ h) ?_
    refine says_ite (fun hc => by rw [hc]; exact says_leaf) (fun hc => ?_)
    rw [hc, Bool.false_or]
    refine says_ite (fun hc => by rw [hc]; exact says_leaf) (fun hc => ?_)
    exact absurd hc (by rw [bne_eq_false_iff_eq]; omega)
end Go.Proofs.Ytngaihdpmoajeaa.Am

namespace Go.Proofs.Ytngaihdpmoajeaa.Am
open Go
set_option maxRecDepth 100000

theorem t_ite {α : Type} {b : Bool} {x y : Tree α} {r : Option α} (hx : b = true → x.sel = r) (hy : b = false → y.sel = r) : (Tree.ite b x y).sel = r := by
  cases b with
  | true => exact hx rfl
  | false => exact hy rfl
theorem t_need {α : Type} {p : Prop} {x : Tree α} {r : Option α} (hp : p) (hx : x.sel = r) : (Tree.need p x).sel = r := (selN hp).trans hx
/-- What a round says: it stops, or goes on. -/
def rndR (b : Bool) (e : Exit) (R S : St) : Option (Exit × St) := some (bif b then (e, R) else (.normal, S))
theorem LoopA.of {body : Code} {N : Nat} {S R : Nat → St} {X : St} {eR eX : Exit} {stop : Nat → Bool} (n0 : ∀ k, (S k).n = (S 0).n) (nR : ∀ k, (R k).n = (S 0).n) (nX : X.n = (S 0).n) (neR : eR ≠ .normal) (neX : eX ≠ .normal)
    (hr : ∀ k, k ≤ N → (∀ j, j < k → stop j = false) → ∃ E lp keep, ClOk Try.prog G0 E ∧ LoopsOk Try.prog G0 (fun r => r = none) [] lp body ∧ (k < N → (xBody Try.prog G0 E 200 lp keep body (S k)).sel = rndR (stop k) eR (R k) (S (k + 1))) ∧ (k = N → (xBody Try.prog G0 E 200 lp keep body (S k)).sel = some (eX, X))) : LoopA body N S R X eR eX stop where
  n0 := n0
  nR := nR
  nX := nX
  neR := neR
  neX := neX
  go k hk hj hs := by
    obtain ⟨E, lp, keep, h1, h2, h3, _⟩ := hr k (by omega) hj
    replace h3 := h3 hk
    unfold rndR at h3
    rw [hs] at h3
    exact rnd h1 h2 h3 rfl
  st k hk hj hs := by
    obtain ⟨E, lp, keep, h1, h2, h3, _⟩ := hr k (by omega) hj
    replace h3 := h3 hk
    unfold rndR at h3
    rw [hs] at h3
    exact rnd h1 h2 h3 rfl
  en hj := by
    obtain ⟨E, lp, keep, h1, h2, _, h3⟩ := hr N (Nat.le_refl N) hj
    exact rnd h1 h2 (h3 rfl) rfl
theorem two_loops {a b c : Code} {i j : Nat} (h : loopsOf c = [a, b]) (ha : idOf a = i) (hb : idOf b = j) (hij : i ≠ j) : (∀ x ∈ loopsOf c, idOf x = i → x = a) ∧ ∀ x ∈ loopsOf c, idOf x = j → x = b := by
  constructor <;> intro x hx hi <;> rw [h] at hx <;> simp only [List.mem_cons, List.not_mem_nil, or_false] at hx <;> rcases hx with rfl | rfl
  · rfl
  · omega
  · omega
  · rfl
/-! ### validRule -/
def bad59 (V : List Int) (x : Rl) (k : Nat) : Bool := !inB (x.v.getD k 0) 0 ((V.length : Int) - 1) || ((decide ((k : Int) > 0) && decide (x.v.getD k 0 ≤ x.v.getD (k - 1) 0)) || ((((x.w.getD k []).length : Int) != V.getD (x.v.getD k 0).toNat 0) || anyOut (x.w.getD k []) (-100000000) 100000000))
def okRl (V : List Int) (x : Rl) : Bool := !(!inB x.d 0 1000000 || (((x.w.length : Int) != x.v.length) || !inB x.m (-10000000000) 10000000000)) && !anyK (bad59 V x) x.v.length
/-- Both say the same where nothing before is bad. -/
theorem anyK_same {p q : Nat → Bool} : ∀ {N : Nat}, (∀ k, k < N → (∀ j, j < k → p j = false) → p k = q k) → anyK p N = anyK q N
  | 0, _ => rfl
  | N + 1, h => by
    have ih := anyK_same (N := N) fun k hk => h k (by omega)
    unfold anyK at ih ⊢
    rw [List.range_succ, List.any_append, List.any_append, ih]
    cases hq : (List.range N).any q with
    | true => rfl
    | false =>
      rw [hq] at ih
      simp only [List.any_cons, List.any_nil, Bool.or_false, Bool.false_or]
      exact h N (by omega) fun j hj => anyK_false (q := p) (N := N) ih j hj
theorem bad_same {V : List Int} {x : Rl} (he : x.w.length = x.v.length) : anyK (bad58 V x) x.v.length = anyK (bad59 V x) x.v.length := by
  refine anyK_same fun k hk hj => ?_
  have h0 := last_ge hj
  have e : ∀ {a b : Int}, decide (a ≤ b) = true ↔ a ≤ b := decide_eq_true_iff
  unfold bad58 bad59
  generalize hv : x.v.getD k 0 = v
  cases k with
  | zero =>
    rw [show lastOf x.v 0 = -1 from rfl, dF (show ¬ (0 ≥ x.w.length) by omega), Bool.false_or, dF (show ¬ (((0 : Nat) : Int) > 0) by omega), Bool.false_and, Bool.false_or]
    unfold inB
    by_cases h1 : v ≤ -1
    · rw [dT h1, dF (show ¬ 0 ≤ v by omega)]; rfl
    · rw [dF h1, dT (show 0 ≤ v by omega), Bool.false_or, Bool.true_and]
      by_cases h2 : v ≥ V.length
      · rw [dT h2, dF (by omega)]; rfl
      · rw [dF h2, dT (show v ≤ (V.length : Int) - 1 by omega)]; rfl
  | succ k =>
    have hb := bad_false (hj k (by omega))
    have hl : lastOf x.v (k + 1) = x.v.getD k 0 := rfl
    rw [hl] at h0
    rw [hl, Nat.add_sub_cancel, dF (show ¬ (k + 1 ≥ x.w.length) by omega), Bool.false_or, dT (show (((k + 1 : Nat) : Int) > 0) by omega), Bool.true_and]
    have h0' : 0 ≤ x.v.getD k 0 := by
      have := last_ge (k := k) (fun j h => hj j (by omega))
      have := hb.1
      omega
    unfold inB
    by_cases h1 : v ≤ x.v.getD k 0
    · rw [dT h1, Bool.true_or, Bool.true_or, Bool.or_true]
    · rw [dF h1, Bool.false_or, Bool.false_or, dT (show 0 ≤ v by omega), Bool.true_and]
      by_cases h2 : v ≥ V.length
      · rw [dT h2, dF (by omega)]; rfl
      · rw [dF h2, dT (show v ≤ (V.length : Int) - 1 by omega)]; rfl
theorem okRl_bad (V : List Int) (x : Rl) : okRl V x = !badRl V x := by
  unfold okRl badRl
  cases he : ((x.w.length : Int) != x.v.length) with
  | true => simp
  | false =>
    rw [bad_same (by have := bne_eq_false_iff_eq.1 he; omega)]
    cases anyK (bad59 V x) x.v.length <;> cases inB x.d 0 1000000 <;> cases inB x.m (-10000000000) 10000000000 <;> rfl

/-! ### The reference's Valid -/
/-- Rounds that leave objects behind, from the empty heap. -/
def AllB : List (Nat × AV × Bool) → Prop
  | [] => True
  | p :: r => Below 0 p.2.1 ∧ AllB r
theorem clean_of {n : Nat} {h : Heap} : ∀ {l : List (Nat × AV × Bool)}, AllB l → (St.of n h l).clean := fun {l} hl => St.of_clean fun p hp => by
  induction l with
  | nil => cases hp
  | cons q r ih =>
    rcases List.mem_cons.1 hp with rfl | hp
    · exact hl.1
    · exact ih hl.2 hp
theorem LoopA.of0 {body : Code} {N : Nat} {S R : Nat → St} {X : St} {eR eX : Exit} {stop : Nat → Bool} (n0 : ∀ k, (S k).n = (S 0).n) (nR : ∀ k, (R k).n = (S 0).n) (nX : X.n = (S 0).n) (neR : eR ≠ .normal) (neX : eX ≠ .normal)
    (cS : ∀ k, (S k).clean ∧ (S k).h = []) (cR : ∀ k, (R k).clean ∧ (R k).h = []) (cX : X.clean ∧ X.h = [])
    (hr : ∀ k, k ≤ N → (∀ j, j < k → stop j = false) → ∃ E lp keep, ClOk Try.prog G0 E ∧ LoopsOk Try.prog G0 (fun r => r = none) [] lp body ∧ (k < N → (xBody0 Try.prog G0 E 200 lp keep body (S k)).sel = rndR (stop k) eR (R k) (S (k + 1))) ∧ (k = N → (xBody0 Try.prog G0 E 200 lp keep body (S k)).sel = some (eX, X))) : LoopA body N S R X eR eX stop where
  n0 := n0
  nR := nR
  nX := nX
  neR := neR
  neX := neX
  go k hk hj hs := by
    obtain ⟨E, lp, keep, h1, h2, h3, _⟩ := hr k (by omega) hj
    replace h3 := h3 hk
    unfold rndR at h3
    rw [hs] at h3
    rw [(cS k).2, (cS (k + 1)).2]
    exact (xBody0_ok names mixed h1 h2 (cS k).2 (cS (k + 1)).1 h3).1
  st k hk hj hs := by
    obtain ⟨E, lp, keep, h1, h2, h3, _⟩ := hr k (by omega) hj
    replace h3 := h3 hk
    unfold rndR at h3
    rw [hs] at h3
    rw [(cS k).2, (cR k).2]
    exact (xBody0_ok names mixed h1 h2 (cS k).2 (cR k).1 h3).1
  en hj := by
    obtain ⟨E, lp, keep, h1, h2, _, h3⟩ := hr N (Nat.le_refl N) hj
    rw [(cS N).2, cX.2]
    exact (xBody0_ok names mixed h1 h2 (cS N).2 cX.1 (h3 rfl)).1
theorem below_rl (x : Rl) : ∀ y ∈ rlC x, Below 0 y := fun y hy => by
  simp only [rlC, List.mem_cons, List.not_mem_nil, or_false] at hy
  rcases hy with rfl | rfl | rfl | rfl
  · exact .int _ _
  · exact below_flL _
  · exact below_flLL _
  · exact .int _ _
theorem below_flR (R : List Rl) : Below 0 (flR R) := below_fl fun _ y hy => below_rl _ y hy
theorem below_pb (p : Pb) : ∀ y ∈ pbC p, Below 0 y := fun y hy => by
  simp only [pbC, List.mem_cons, List.not_mem_nil, or_false] at hy
  rcases hy with rfl | rfl | rfl
  · exact below_flL _
  · exact below_flLL _
  · exact below_flR _
theorem below_row {n : Nat} {l : List AV} {o : Nat} (h : ∀ y ∈ l, Below n y) : Below n (.row l o) := .row _ _ (below_list h)
theorem below_agg {n : Nat} {l : List AV} (h : ∀ y ∈ l, Below n y) : Below n (.agg l) := .agg _ (below_list h)
theorem below_pAV (p : Pb) : Below 0 (pAV p) := below_agg (below_pb p)
end Go.Proofs.Ytngaihdpmoajeaa.Am

namespace Go.Proofs.Ytngaihdpmoajeaa.Am
open Go
set_option maxRecDepth 100000

/-! ### A valid problem -/
structure OkRule (V : List Int) (x : Rl) : Prop where
  d : 0 ≤ x.d ∧ x.d ≤ 1000000
  m : -10000000000 ≤ x.m ∧ x.m ≤ 10000000000
  len : x.w.length = x.v.length
  v : ∀ k, k < x.v.length → 0 ≤ x.v.getD k 0 ∧ x.v.getD k 0 < V.length
  up : ∀ k, k + 1 < x.v.length → x.v.getD k 0 < x.v.getD (k + 1) 0
  wl : ∀ k, k < x.v.length → ((x.w.getD k []).length : Int) = V.getD (x.v.getD k 0).toNat 0
  w : ∀ k, k < x.v.length → ∀ y ∈ x.w.getD k [], -100000000 ≤ y ∧ y ≤ 100000000
structure Ok (p : Pb) : Prop where
  n : p.V.length ≤ 24
  c : p.C.length = p.V.length
  r : p.R.length ≤ 2048
  v : ∀ k, k < p.V.length → 1 ≤ p.V.getD k 0 ∧ p.V.getD k 0 ≤ 16
  cl : ∀ k, k < p.V.length → ((p.C.getD k []).length : Int) = p.V.getD k 0
  cv : ∀ k, k < p.V.length → ∀ y ∈ p.C.getD k [], 0 ≤ y ∧ y ≤ 1000000
  rl : ∀ x ∈ p.R, OkRule p.V x
theorem anyK_iff {q : Nat → Bool} {N : Nat} : anyK q N = false ↔ ∀ k, k < N → q k = false := by
  refine ⟨anyK_false, fun h => ?_⟩
  unfold anyK
  rw [List.any_eq_false]
  intro k hk
  rw [h k (List.mem_range.1 hk)]
  simp
theorem anyOut_iff {L : List Int} {lo hi : Int} : anyOut L lo hi = false ↔ ∀ y ∈ L, lo ≤ y ∧ y ≤ hi := by
  unfold anyOut
  rw [List.any_eq_false]
  refine forall_congr' fun y => forall_congr' fun _ => ?_
  rw [Bool.not_eq_true, Bool.not_eq_false', inB_iff]
theorem okRule_iff {V : List Int} {x : Rl} : okRl V x = true ↔ OkRule V x := by
  unfold okRl
  rw [Bool.and_eq_true, Bool.not_eq_true', Bool.not_eq_true', Bool.or_eq_false_iff, Bool.or_eq_false_iff, Bool.not_eq_false', Bool.not_eq_false', inB_iff, inB_iff, bne_eq_false_iff_eq, anyK_iff]
  have key : ∀ k, bad59 V x k = false ↔ ((0 ≤ x.v.getD k 0 ∧ x.v.getD k 0 ≤ (V.length : Int) - 1) ∧ (0 < k → x.v.getD (k - 1) 0 < x.v.getD k 0) ∧ ((x.w.getD k []).length : Int) = V.getD (x.v.getD k 0).toNat 0 ∧ ∀ y ∈ x.w.getD k [], -100000000 ≤ y ∧ y ≤ 100000000) := by
    intro k
    unfold bad59
    rw [Bool.or_eq_false_iff, Bool.or_eq_false_iff, Bool.or_eq_false_iff, Bool.not_eq_false', inB_iff, bne_eq_false_iff_eq, anyOut_iff, Bool.and_eq_false_iff, decide_eq_false_iff_not, decide_eq_false_iff_not]
    refine and_congr_right fun _ => and_congr_left fun _ => ⟨fun h h0 => ?_, fun h => ?_⟩
    · rcases h with h | h <;> omega
    · by_cases h0 : 0 < k
      · exact .inr (by have := h h0; omega)
      · exact .inl (by omega)
  constructor
  · rintro ⟨⟨h1, h2, h3⟩, h4⟩
    have h4' := fun k hk => (key k).1 (h4 k hk)
    exact ⟨h1, h3, by omega, fun k hk => ⟨(h4' k hk).1.1, by have := (h4' k hk).1.2; omega⟩, fun k hk => by
      have := (h4' (k + 1) hk).2.1 (by omega)
      rwa [Nat.add_sub_cancel] at this, fun k hk => (h4' k hk).2.2.1, fun k hk => (h4' k hk).2.2.2⟩
  · intro h
    refine ⟨⟨h.d, by have := h.len; omega, h.m⟩, fun k hk => (key k).2 ⟨⟨(h.v k hk).1, by have := (h.v k hk).2; omega⟩, fun h0 => ?_, h.wl k hk, h.w k hk⟩⟩
    have := h.up (k - 1) (by omega)
    rwa [Nat.sub_add_cancel h0] at this
theorem valid_iff {p : Pb} : validP p = true ↔ Ok p := by
  unfold validP
  rw [Bool.and_eq_true, Bool.and_eq_true, Bool.not_eq_true', Bool.not_eq_true', Bool.not_eq_true', Bool.or_eq_false_iff, Bool.or_eq_false_iff, Bool.or_eq_false_iff, decide_eq_false_iff_not, decide_eq_false_iff_not, bne_eq_false_iff_eq, anyOut_iff, anyK_iff, List.any_eq_false]
  have key : ∀ k, bad28 p k = false ↔ (((p.C.getD k []).length : Int) = p.V.getD k 0 ∧ ∀ y ∈ p.C.getD k [], 0 ≤ y ∧ y ≤ 1000000) := by
    intro k
    unfold bad28
    rw [Bool.or_eq_false_iff, bne_eq_false_iff_eq, anyOut_iff]
  have rule : ∀ x, (¬ badRl p.V x = true) ↔ OkRule p.V x := by
    intro x
    rw [← okRule_iff, okRl_bad]
    simp
  constructor
  · rintro ⟨⟨h1, h2, h3, h4⟩, h5, h6⟩
    have hc : p.C.length = p.V.length := by omega
    exact ⟨by omega, hc, by omega, fun k hk => h4 _ (getD_mem hk), fun k hk => ((key k).1 (h5 k (by omega))).1, fun k hk => ((key k).1 (h5 k (by omega))).2, fun x hx => (rule x).1 (h6 x hx)⟩
  · intro h
    have hc := h.c
    have hn := h.n
    have hr := h.r
    refine ⟨⟨by omega, by omega, by omega, fun y hy => ?_⟩, fun k hk => (key k).2 ⟨h.cl k (by omega), h.cv k (by omega)⟩, fun x hx => (rule x).2 (h.rl x hx)⟩
    obtain ⟨k, hk, rfl⟩ := List.mem_iff_getElem.1 hy
    have := h.v k hk
    rwa [List.getD_eq_getElem?_getD, List.getElem?_eq_getElem hk] at this

/-! ### Beginnings -/
/-- A list is the beginning of an assignment. -/
structure Beg (p : Pb) (a : List Int) : Prop where
  len : a.length ≤ p.V.length
  at' : ∀ k, k < a.length → 0 ≤ a.getD k 0 ∧ a.getD k 0 < p.V.getD k 0
def begB (p : Pb) (a : List Int) : Bool := !decide ((a.length : Int) > p.V.length) && !anyK (fun k => !inB (a.getD k 0) 0 (p.V.getD k 0 - 1)) a.length
theorem beg_iff {p : Pb} {a : List Int} : begB p a = true ↔ Beg p a := by
  unfold begB
  rw [Bool.and_eq_true, Bool.not_eq_true', Bool.not_eq_true', decide_eq_false_iff_not, anyK_iff]
  constructor
  · rintro ⟨h1, h2⟩
    refine ⟨by omega, fun k hk => ?_⟩
    have := h2 k hk
    rw [Bool.not_eq_false', inB_iff] at this
    omega
  · intro h
    refine ⟨by have := h.len; omega, fun k hk => ?_⟩
    rw [Bool.not_eq_false', inB_iff]
    have := h.at' k hk
    omega
noncomputable def body41 : Code := (loopsOf (bodyOf Try.prog 41)).headD .skip
theorem loops41 : loopsOf (bodyOf Try.prog 41) = [body41] := by kernel_rfl
def st41 (p : Pb) (a : List Int) (k : Int) (h : Heap) : St := .of 30 h [(1, flL a, true), (2, .row (pbC p) 0, true), (4, .bool false, false), (13, flL a, true), (14, I a.length, true), (15, I k, true)]
theorem run41 (p : Pb) (a : List Int) (k : Int) (h : Heap) : xBody Try.prog G0 (ES []) 200 noLoops [1, 2, 4, 13, 14, 15] body41 (st41 p a k h) = .ite (decide (k < (↑a.length : Int))) (.need (((0 : Int) ≤ k) ∧ (k < (↑a.length : Int))) (.need (((0 : Int) ≤ k) ∧ (k < (↑p.V.length : Int))) (.ite (!inB (a.getD k.toNat (0 : Int)) (0 : Int) (IntKind.i64.wrap (p.V.getD k.toNat (0 : Int) - (1 : Int)))) (.leaf (Exit.ret, St.of 30 h [(1, (flL (a)), true), (2, (AV.row [(flL (p.V)), (flLL (p.C)), (flR (p.R))] ((0 : Nat))), true), (4, (AV.bool false), false), (13, (flL (a)), true), (14, (I ((↑a.length : Int))), true), (15, (I k), true)])) (.leaf (Exit.normal, St.of 30 h [(1, (flL (a)), true), (2, (AV.row [(flL (p.V)), (flLL (p.C)), (flR (p.R))] ((0 : Nat))), true), (4, (AV.bool false), false), (13, (flL (a)), true), (14, (I ((↑a.length : Int))), true), (15, (I (IntKind.i64.wrap (k + (1 : Int)))), true)]))))) (.leaf ((Exit.exit ((0 : Nat))), St.of 30 h [(1, (flL (a)), true), (2, (AV.row [(flL (p.V)), (flLL (p.C)), (flR (p.R))] ((0 : Nat))), true), (4, (AV.bool false), false), (13, (flL (a)), true), (14, (I ((↑a.length : Int))), true), (15, (I k), true)])) := by kernel_rfl
theorem ok_sub {p : Pb} (hp : Ok p) {k : Nat} (hk : k < p.V.length) : IntKind.i64.wrap (p.V.getD k 0 - 1) = p.V.getD k 0 - 1 := by
  have := hp.v k hk
  exact wrap_i64 (by omega) (by omega)
theorem loop41 {p : Pb} (hp : Ok p) {a : List Int} (ha : sh a) (hl : a.length ≤ p.V.length) (h : Heap) : LoopA body41 a.length (fun k => st41 p a k h) (fun k => st41 p a k h) (st41 p a a.length h) .ret (.exit 0) (fun k => !inB (a.getD k 0) 0 (p.V.getD k 0 - 1)) := by
  refine .of (fun _ => rfl) (fun _ => rfl) rfl nofun nofun fun k hk hj => ⟨_, _, _, clokS0, lpNo _, fun hlt => (congrArg Tree.sel (run41 p a k h)).trans ?_, fun he => (congrArg Tree.sel (run41 p a k h)).trans ?_⟩
  · rw [wrapS hlt ha, Int.toNat_natCast, ok_sub hp (by omega)]
    rw [selIt (dT (by omega)), selN ⟨by omega, by omega⟩]
    exact t_need ⟨by omega, by omega⟩ (t_ite (fun h1 => by rw [h1]; rfl) fun h1 => by rw [h1]; rfl)
  · rw [selIf (dF (by omega)), he]
    rfl
theorem runF41 (p : Pb) (a : List Int) (t : Bool) (k1 k2 : Int) (h : Heap) : xenter Try.prog (ES []) (xCode Try.prog G0 (ES []) 200 (lpA 4 [1, 2, 4, 13, 14, 15] (st41 p a 0 h) t .ret (st41 p a k1 h) (.exit 0) (st41 p a k2 h))) 41 [pAV p, flL a] [true, true] h = .ite (decide ((↑a.length : Int) > (↑p.V.length : Int))) (.leaf ((AV.bool false), false, h)) (.need ((st41 p a 0 h).vals = (st41 p a 0 h).vals) (.ite (t) (.leaf ((AV.bool false), false, h)) (.leaf ((AV.bool true), false, h)))) := by kernel_rfl
theorem runG41 (p : Pb) (a : List Int) (h : Heap) : xenter Try.prog (ES []) (xCode Try.prog G0 (ES []) 200 (lpF 4 [1, 2, 4, 13, 14, 15] (st41 p a 0 h))) 41 [pAV p, flL a] [true, true] h = .ite (decide ((↑a.length : Int) > (↑p.V.length : Int))) (.leaf ((AV.bool false), false, h)) (.need ((st41 p a 0 h).vals = (st41 p a 0 h).vals) .fail) := by kernel_rfl
theorem c41 {p : Pb} (hp : Ok p) {a : List Int} (ha : sh a) (h : Heap) : ACall Try.prog G0 41 [pAV p, flL a] h (.bool (begB p a)) h := by
  unfold begB
  by_cases hl : a.length ≤ p.V.length
  · refine ACall.says clokS0 ((loop41 hp ha hl h).ok (one_loop loops41)) (runF41 p a _ _ _ h) ?_
    rw [anyK_stop]
    refine says_ite (fun hc => absurd (of_decide_eq_true hc) (by omega)) fun hc => says_need rfl ?_
    rw [hc, Bool.not_false, Bool.true_and]
    exact says_ite (fun hc => by rw [hc]; exact says_leaf) (fun hc => by rw [hc]; exact says_leaf)
  · refine ACall.says clokS0 (lpF_ok 4 _ _ _) (runG41 p a h) ?_
    refine says_ite (fun hc => by rw [hc]; exact says_leaf) fun hc => absurd (of_decide_eq_false hc) (by omega)
/-! ### whole -/
def E52 (p : Pb) (a : List Int) (b c : Bool) : Env := ES [(28, [pAV p], .bool b), (41, [pAV p, flL a], .bool c)]
theorem run52 (p : Pb) (a : List Int) (b c : Bool) (h : Heap) : xCall Try.prog G0 (E52 p a b c) 200 52 [pAV p, flL a] [true, true] h = .need ([(AV.agg [(flL (p.V)), (flLL (p.C)), (flR (p.R))])] = [(AV.agg [(flL (p.V)), (flLL (p.C)), (flR (p.R))])]) (.ite (!b) (.leaf ((I ((1 : Int))), false, h)) (.ite ((↑a.length : Int) != (↑p.V.length : Int)) (.leaf ((I ((2 : Int))), false, h)) (.need ([(AV.agg [(flL (p.V)), (flLL (p.C)), (flR (p.R))]), (flL (a))] = [(AV.agg [(flL (p.V)), (flLL (p.C)), (flR (p.R))]), (flL (a))]) (.ite (!c) (.leaf ((I ((2 : Int))), false, h)) (.leaf ((I ((0 : Int))), false, h)))))) := by kernel_rfl
theorem run52n (p : Pb) (a : List Int) (h : Heap) : xCall Try.prog G0 (ES [(28, [pAV p], .bool false)]) 200 52 [pAV p, flL a] [true, true] h = .need ([(AV.agg [(flL (p.V)), (flLL (p.C)), (flR (p.R))])] = [(AV.agg [(flL (p.V)), (flLL (p.C)), (flR (p.R))])]) (.ite (!false) (.leaf ((I ((1 : Int))), false, h)) (.ite ((↑a.length : Int) != (↑p.V.length : Int)) (.leaf ((I ((2 : Int))), false, h)) .fail)) := by kernel_rfl
def whole (p : Pb) (a : List Int) : Int := bif validP p then (bif ((a.length : Int) != p.V.length) || !begB p a then 2 else 0) else 1
theorem c52 {p : Pb} (hs : p.sh) {a : List Int} (ha : sh a) (h : Heap) : ACall Try.prog G0 52 [pAV p, flL a] h (I (whole p a)) h := by
  unfold whole
  cases hv : validP p with
  | false =>
    refine ACall.saysC (clokS1 (hv ▸ c28 hs)) (run52n p a h) ?_
    exact says_need rfl says_leaf
  | true =>
    have hp := valid_iff.1 hv
    refine ACall.saysC (clokS2 (hv ▸ c28 hs) (c41 hp ha)) (run52 p a _ _ h) ?_
    refine says_need rfl (says_ite (fun h => (by cases h)) fun _ => says_ite (fun h1 => by rw [h1]; exact says_leaf) fun h1 => says_need rfl ?_)
    rw [h1, Bool.false_or]
    exact says_ite (fun h2 => by rw [h2]; exact says_leaf) fun h2 => by rw [h2]; exact says_leaf
end Go.Proofs.Ytngaihdpmoajeaa.Am

namespace Go.Proofs.Ytngaihdpmoajeaa.Am
open Go
set_option maxRecDepth 100000

/-- Calls that are known on a condition. -/
def EG (q : Prop) (l : List (FuncId × List AV × AV)) : Env := { clh := failH, cl := fun f xs => match clS f xs with
  | some t => some t
  | none => (clL l f xs).map fun t => .need q t }
theorem clokG {q : Prop} {l : List (FuncId × List AV × AV)} (hl : q → ∀ p ∈ l, ∀ σ, ACall Try.prog G0 p.1 p.2.1 σ p.2.2 σ) : ClOk Try.prog G0 (EG q l) := .all .none failH_ok (fun l xs σ t v σ' h => (by cases h)) fun f xs t v h hs σ => by
  replace h : (match clS f xs with
    | some t => some t
    | none => (clL l f xs).map fun t => .need q t) = some t := h
  split at h
  · rename_i t' ht; cases h; exact clS_ok ht hs σ
  · obtain ⟨t', h1, rfl⟩ := Option.map_eq_some_iff.1 h
    obtain ⟨hq, h2⟩ := Tree.of_need hs
    exact clL_ok (hl hq) f xs t' v h1 h2 σ
theorem clokG1 {q : Prop} {f : FuncId} {xs : List AV} {v : AV} (h : q → ∀ σ, ACall Try.prog G0 f xs σ v σ) : ClOk Try.prog G0 (EG q [(f, xs, v)]) := clokG fun hq p hp σ => by
  obtain rfl := List.mem_singleton.1 hp
  exact h hq σ
/-! ### Min, Max -/
def runM (f : Int → Int → Int) (L : List Int) : Nat → Int
  | 0 => L.getD 0 0
  | k + 1 => f (runM f L k) (L.getD (k + 1) 0)
def mn (a b : Int) : Int := if b < a then b else a
def mx (a b : Int) : Int := if b > a then b else a
def minL (L : List Int) : Int := runM mn L (L.length - 1)
def maxL (L : List Int) : Int := runM mx L (L.length - 1)
noncomputable def body36 : Code := (loopsOf (bodyOf Try.prog 36)).headD .skip
theorem loops36 : loopsOf (bodyOf Try.prog 36) = [body36] := by kernel_rfl
def st36 (L : List Int) (m k : Int) (h : Heap) : St := .of 25 h [(0, flL L, true), (3, I m, true), (4, I k, true)]
theorem run36 (L : List Int) (m k : Int) (h : Heap) : xBody Try.prog G0 {} 200 noLoops [0, 3, 4] body36 (st36 L m k h) = .ite (decide (k < (↑L.length : Int))) (.need (((0 : Int) ≤ k) ∧ (k < (↑L.length : Int))) (.leaf (Exit.normal, St.of 25 h [(0, (flL (L)), true), (3, (I (if L.getD k.toNat (0 : Int) < m then L.getD k.toNat (0 : Int) else m)), true), (4, (I (IntKind.i64.wrap (k + (1 : Int)))), true)]))) (.leaf ((Exit.exit ((0 : Nat))), St.of 25 h [(0, (flL (L)), true), (3, (I m), true), (4, (I k), true)])) := by kernel_rfl
theorem runF36 (L : List Int) (m k : Int) (h : Heap) : xenter Try.prog {} (xCode Try.prog G0 {} 200 (lpB 5 [0, 3, 4] (st36 L (L.getD 0 0) 1 h) (.exit 0) (st36 L m k h))) 36 [flL L] [true] h = .ite (decide ((↑L.length : Int) < (1 : Int))) .fail (.need (((0 : Int) ≤ (0 : Int)) ∧ ((0 : Int) < (↑L.length : Int))) (.need ((st36 L (L.getD 0 0) 1 h).vals = (st36 L (L.getD 0 0) 1 h).vals) (.leaf ((I m), true, h)))) := by kernel_rfl
noncomputable def body68 : Code := (loopsOf (bodyOf Try.prog 68)).headD .skip
theorem loops68 : loopsOf (bodyOf Try.prog 68) = [body68] := by kernel_rfl
theorem run68 (L : List Int) (m k : Int) (h : Heap) : xBody Try.prog G0 {} 200 noLoops [0, 3, 4] body68 (st36 L m k h) = .ite (decide (k < (↑L.length : Int))) (.need (((0 : Int) ≤ k) ∧ (k < (↑L.length : Int))) (.leaf (Exit.normal, St.of 25 h [(0, (flL (L)), true), (3, (I (if L.getD k.toNat (0 : Int) > m then L.getD k.toNat (0 : Int) else m)), true), (4, (I (IntKind.i64.wrap (k + (1 : Int)))), true)]))) (.leaf ((Exit.exit ((0 : Nat))), St.of 25 h [(0, (flL (L)), true), (3, (I m), true), (4, (I k), true)])) := by kernel_rfl
theorem runF68 (L : List Int) (m k : Int) (h : Heap) : xenter Try.prog {} (xCode Try.prog G0 {} 200 (lpB 5 [0, 3, 4] (st36 L (L.getD 0 0) 1 h) (.exit 0) (st36 L m k h))) 68 [flL L] [true] h = .ite (decide ((↑L.length : Int) < (1 : Int))) .fail (.need (((0 : Int) ≤ (0 : Int)) ∧ ((0 : Int) < (↑L.length : Int))) (.need ((st36 L (L.getD 0 0) 1 h).vals = (st36 L (L.getD 0 0) 1 h).vals) (.leaf ((I m), true, h)))) := by kernel_rfl
/-- A loop that goes to its end. -/
theorem LoopA.lin {body : Code} {N : Nat} {S : Nat → St} {X : St} {eX : Exit} (n0 : ∀ k, (S k).n = (S 0).n) (nX : X.n = (S 0).n) (neX : eX ≠ .normal)
    (hr : ∀ k, k ≤ N → ∃ E lp keep, ClOk Try.prog G0 E ∧ LoopsOk Try.prog G0 (fun r => r = none) [] lp body ∧ (k < N → (xBody Try.prog G0 E 200 lp keep body (S k)).sel = some (.normal, S (k + 1))) ∧ (k = N → (xBody Try.prog G0 E 200 lp keep body (S k)).sel = some (eX, X))) : LoopA body N S S X .ret eX fun _ => false :=
  .of n0 n0 nX nofun neX fun k hk _ => hr k hk
theorem loop36 {L : List Int} (hl : sh L) (h0 : 0 < L.length) (h : Heap) : LoopA body36 (L.length - 1) (fun k => st36 L (runM mn L k) ((k + 1 : Nat) : Int) h) (fun k => st36 L (runM mn L k) ((k + 1 : Nat) : Int) h) (st36 L (minL L) L.length h) .ret (.exit 0) fun _ => false := by
  refine .lin (fun _ => rfl) rfl nofun fun k hk => ⟨_, _, _, clok0, lpNo _, fun hlt => (congrArg Tree.sel (run36 L _ _ h)).trans ?_, fun he => (congrArg Tree.sel (run36 L _ _ h)).trans ?_⟩
  · rw [wrapS (n := L.length) (k := k + 1) (by omega) hl, Int.toNat_natCast, selIt (dT (by omega)), selN ⟨by omega, by omega⟩]
    rfl
  · rw [selIf (dF (by omega)), he, Nat.sub_add_cancel h0]
    rfl
theorem c36 {L : List Int} (hl : sh L) (h0 : 0 < L.length) (h : Heap) : ACall Try.prog G0 36 [flL L] h (I (minL L)) h := by
  refine ACall.says clok0 ((loop36 hl h0 h).okB (fun _ _ => rfl) (one_loop loops36)) (runF36 L _ _ h) ?_
  exact says_ite (fun hc => absurd (of_decide_eq_true hc) (by omega)) fun _ => says_need ⟨by omega, by omega⟩ (says_need rfl says_leaf)
theorem loop68 {L : List Int} (hl : sh L) (h0 : 0 < L.length) (h : Heap) : LoopA body68 (L.length - 1) (fun k => st36 L (runM mx L k) ((k + 1 : Nat) : Int) h) (fun k => st36 L (runM mx L k) ((k + 1 : Nat) : Int) h) (st36 L (maxL L) L.length h) .ret (.exit 0) fun _ => false := by
  refine .lin (fun _ => rfl) rfl nofun fun k hk => ⟨_, _, _, clok0, lpNo _, fun hlt => (congrArg Tree.sel (run68 L _ _ h)).trans ?_, fun he => (congrArg Tree.sel (run68 L _ _ h)).trans ?_⟩
  · rw [wrapS (n := L.length) (k := k + 1) (by omega) hl, Int.toNat_natCast, selIt (dT (by omega)), selN ⟨by omega, by omega⟩]
    rfl
  · rw [selIf (dF (by omega)), he, Nat.sub_add_cancel h0]
    rfl
theorem c68 {L : List Int} (hl : sh L) (h0 : 0 < L.length) (h : Heap) : ACall Try.prog G0 68 [flL L] h (I (maxL L)) h := by
  refine ACall.says clok0 ((loop68 hl h0 h).okB (fun _ _ => rfl) (one_loop loops68)) (runF68 L _ _ h) ?_
  exact says_ite (fun hc => absurd (of_decide_eq_true hc) (by omega)) fun _ => says_need ⟨by omega, by omega⟩ (says_need rfl says_leaf)
theorem runM_mn (L : List Int) : ∀ (k : Nat), (∀ j, j ≤ k → runM mn L k ≤ L.getD j 0) ∧ ∃ j, j ≤ k ∧ runM mn L k = L.getD j 0
  | 0 => ⟨fun j hj => by obtain rfl : j = 0 := by omega
                         exact Int.le_refl _, 0, Nat.le_refl _, rfl⟩
  | k + 1 => by
    obtain ⟨h1, i, h2, h3⟩ := runM_mn L k
    have e : runM mn L (k + 1) = if L.getD (k + 1) 0 < runM mn L k then L.getD (k + 1) 0 else runM mn L k := rfl
    rw [e]
    constructor
    · intro j hj
      by_cases he : j = k + 1
      · subst he; split <;> omega
      · have := h1 j (by omega)
        split <;> omega
    · split
      · exact ⟨k + 1, Nat.le_refl _, rfl⟩
      · exact ⟨i, by omega, h3⟩
theorem runM_mx (L : List Int) : ∀ (k : Nat), (∀ j, j ≤ k → L.getD j 0 ≤ runM mx L k) ∧ ∃ j, j ≤ k ∧ runM mx L k = L.getD j 0
  | 0 => ⟨fun j hj => by obtain rfl : j = 0 := by omega
                         exact Int.le_refl _, 0, Nat.le_refl _, rfl⟩
  | k + 1 => by
    obtain ⟨h1, i, h2, h3⟩ := runM_mx L k
    have e : runM mx L (k + 1) = if L.getD (k + 1) 0 > runM mx L k then L.getD (k + 1) 0 else runM mx L k := rfl
    rw [e]
    constructor
    · intro j hj
      by_cases he : j = k + 1
      · subst he; split <;> omega
      · have := h1 j (by omega)
        split <;> omega
    · split
      · exact ⟨k + 1, Nat.le_refl _, rfl⟩
      · exact ⟨i, by omega, h3⟩
theorem minL_le {L : List Int} {k : Nat} (hk : k < L.length) : minL L ≤ L.getD k 0 := (runM_mn L _).1 k (by omega)
theorem minL_mem {L : List Int} (h : 0 < L.length) : minL L ∈ L := by
  obtain ⟨j, h1, h2⟩ := (runM_mn L (L.length - 1)).2
  unfold minL
  rw [h2]
  exact getD_mem (by omega)
theorem maxL_ge {L : List Int} {k : Nat} (hk : k < L.length) : L.getD k 0 ≤ maxL L := (runM_mx L _).1 k (by omega)
/-! ### Sums -/
def sumK (f : Nat → Int) : Nat → Int
  | 0 => 0
  | k + 1 => sumK f k + f k
theorem sumK_bound {f : Nat → Int} {lo hi : Int} : ∀ {k : Nat}, (∀ i, i < k → lo ≤ f i ∧ f i ≤ hi) → lo * k ≤ sumK f k ∧ sumK f k ≤ hi * k
  | 0, _ => by simp [sumK]
  | k + 1, h => by
    have h1 := sumK_bound (k := k) fun i hi => h i (by omega)
    have h2 := h k (by omega)
    have e : sumK f (k + 1) = sumK f k + f k := rfl
    rw [e]
    have e1 : lo * ((k + 1 : Nat) : Int) = lo * k + lo := by rw [Int.natCast_succ, Int.mul_add, Int.mul_one]
    have e2 : hi * ((k + 1 : Nat) : Int) = hi * k + hi := by rw [Int.natCast_succ, Int.mul_add, Int.mul_one]
    omega
theorem sumK_congr {f g : Nat → Int} : ∀ {k : Nat}, (∀ i, i < k → f i = g i) → sumK f k = sumK g k
  | 0, _ => rfl
  | k + 1, h => by
    show sumK f k + f k = sumK g k + g k
    rw [sumK_congr fun i hi => h i (by omega), h k (by omega)]
/-- What a value of a variable costs. -/
def costT (p : Pb) (a : List Int) (i : Nat) : Int := (p.C.getD i []).getD (a.getD i 0).toNat 0
def costA (p : Pb) (a : List Int) : Int := sumK (costT p a) a.length
theorem getD_bound {L : List Int} {lo hi : Int} (h : ∀ y ∈ L, lo ≤ y ∧ y ≤ hi) {k : Nat} (hk : k < L.length) : lo ≤ L.getD k 0 ∧ L.getD k 0 ≤ hi := h _ (getD_mem hk)
theorem beg_nat {p : Pb} (hp : Ok p) {a : List Int} (ha : Beg p a) {i : Nat} (hi : i < a.length) : 0 ≤ a.getD i 0 ∧ (a.getD i 0).toNat < (p.C.getD i []).length ∧ (((p.C.getD i []).length : Int) = p.V.getD i 0) := by
  have h1 := ha.at' i hi
  have h2 := hp.cl i (by have := ha.len; omega)
  omega
theorem costT_bound {p : Pb} (hp : Ok p) {a : List Int} (ha : Beg p a) {i : Nat} (hi : i < a.length) : 0 ≤ costT p a i ∧ costT p a i ≤ 1000000 :=
  getD_bound (hp.cv i (by have := ha.len; omega)) (beg_nat hp ha hi).2.1
theorem costK_bound {p : Pb} (hp : Ok p) {a : List Int} (ha : Beg p a) {k : Nat} (hk : k ≤ a.length) : 0 ≤ sumK (costT p a) k ∧ sumK (costT p a) k ≤ 24000000 := by
  have h1 := sumK_bound (f := costT p a) (k := k) fun i hi => costT_bound hp ha (show i < a.length by omega)
  have h2 := ha.len
  have h3 := hp.n
  omega
theorem beg_sh {p : Pb} (hp : Ok p) {a : List Int} (ha : Beg p a) : sh a := by
  have := ha.len
  have := hp.n
  show a.length < _
  omega
/-! ### Weights -/
def leastT (x : Rl) (a : List Int) (i : Nat) : Int := bif decide (x.v.getD i 0 < a.length) then (x.w.getD i []).getD (a.getD (x.v.getD i 0).toNat 0).toNat 0 else minL (x.w.getD i [])
/-- The least that a rule's sum can be. -/
def leastA (x : Rl) (a : List Int) : Int := sumK (leastT x a) x.v.length
theorem rule_ge {V : List Int} {x : Rl} (hx : OkRule V x) : ∀ {k : Nat}, k < x.v.length → (k : Int) ≤ x.v.getD k 0
  | 0, h => (hx.v 0 h).1
  | k + 1, h => by
    have := rule_ge hx (k := k) (by omega)
    have := hx.up k h
    omega
theorem rule_len {V : List Int} {x : Rl} (hx : OkRule V x) : x.v.length ≤ V.length := by
  by_cases h : x.v.length = 0
  · omega
  · have h1 := rule_ge hx (k := x.v.length - 1) (by omega)
    have h2 := (hx.v (x.v.length - 1) (by omega)).2
    omega
theorem rule_pos {p : Pb} (hp : Ok p) {x : Rl} (hx : OkRule p.V x) {k : Nat} (hk : k < x.v.length) : 0 < (x.w.getD k []).length := by
  have h1 := hx.v k hk
  have h2 := hx.wl k hk
  have h3 := hp.v (x.v.getD k 0).toNat (by omega)
  omega
theorem rule_beg {p : Pb} {x : Rl} (hx : OkRule p.V x) {a : List Int} (ha : Beg p a) {k : Nat} (hk : k < x.v.length) (hlt : x.v.getD k 0 < a.length) :
    0 ≤ x.v.getD k 0 ∧ 0 ≤ a.getD (x.v.getD k 0).toNat 0 ∧ (a.getD (x.v.getD k 0).toNat 0).toNat < (x.w.getD k []).length := by
  have h1 := hx.v k hk
  have h2 := hx.wl k hk
  have h3 := ha.at' (x.v.getD k 0).toNat (by omega)
  omega
theorem leastT_bound {p : Pb} (hp : Ok p) {x : Rl} (hx : OkRule p.V x) {a : List Int} (ha : Beg p a) {k : Nat} (hk : k < x.v.length) : -100000000 ≤ leastT x a k ∧ leastT x a k ≤ 100000000 := by
  unfold leastT
  by_cases hlt : x.v.getD k 0 < a.length
  · rw [dT hlt, cond_true]
    exact getD_bound (hx.w k hk) (rule_beg hx ha hk hlt).2.2
  · rw [dF hlt, cond_false]
    exact hx.w k hk _ (minL_mem (rule_pos hp hx hk))
theorem leastK_bound {p : Pb} (hp : Ok p) {x : Rl} (hx : OkRule p.V x) {a : List Int} (ha : Beg p a) {k : Nat} (hk : k ≤ x.v.length) : -2400000000 ≤ sumK (leastT x a) k ∧ sumK (leastT x a) k ≤ 2400000000 := by
  have h1 := sumK_bound (f := leastT x a) (k := k) fun i hi => leastT_bound hp hx ha (show i < x.v.length by omega)
  have h2 := rule_len hx
  have h3 := hp.n
  omega
theorem rule_sh {x : Rl} (hx : x.sh) (k : Nat) : sh (x.w.getD k []) := sh_getD hx.2.2 k
/-! ### possible, bound -/
theorem wrapI {n : Int} (h : -9223372036854775808 ≤ n ∧ n < 9223372036854775808) : IntKind.i64.wrap n = n := wrap_i64 h.1 h.2
def bad50 (p : Pb) (a : List Int) (l : Bool) (k : Nat) : Bool := bif l && !(p.R.getD k r0).v.contains ((a.length : Int) - 1) then false else decide (leastA (p.R.getD k r0) a > (p.R.getD k r0).m)
/-- No rule is broken for sure (l: of those of the last variable alone). -/
def posB (p : Pb) (a : List Int) (l : Bool) : Bool := !anyK (bad50 p a l) p.R.length
/-- What the variables from i on cost at least. -/
def restT (p : Pb) (i j : Nat) : Int := minL (p.C.getD (i + j) [])
def restA (p : Pb) (i : Nat) : Int := sumK (restT p i) (p.V.length - i)
def boundA (p : Pb) (a : List Int) : Int := costA p a + restA p a.length
theorem cost_pos {p : Pb} (hp : Ok p) {i : Nat} (hi : i < p.V.length) : 0 < (p.C.getD i []).length := by
  have := hp.cl i hi
  have := hp.v i hi
  omega
theorem minC_bound {p : Pb} (hp : Ok p) {i : Nat} (hi : i < p.V.length) : 0 ≤ minL (p.C.getD i []) ∧ minL (p.C.getD i []) ≤ 1000000 := hp.cv i hi _ (minL_mem (cost_pos hp hi))
theorem restK_bound {p : Pb} (hp : Ok p) {i k : Nat} (hk : i + k ≤ p.V.length) : 0 ≤ sumK (restT p i) k ∧ sumK (restT p i) k ≤ 1000000 * k := by
  have h1 := sumK_bound (f := restT p i) (k := k) fun j hj => minC_bound hp (show i + j < p.V.length by omega)
  omega
theorem costK_bound' {p : Pb} (hp : Ok p) {a : List Int} (ha : Beg p a) : 0 ≤ costA p a ∧ costA p a ≤ 1000000 * a.length := by
  have h1 := sumK_bound (f := costT p a) (k := a.length) fun i hi => costT_bound hp ha hi
  unfold costA
  omega
/-! ### The program's Cost -/
noncomputable def body25 : Code := (loopsOf (bodyOf Try.prog 25)).headD .skip
theorem loops25 : loopsOf (bodyOf Try.prog 25) = [body25] := by kernel_rfl
def st25 (p : Pb) (a : List Int) (s k : Int) (b : Bool) (h : Heap) : St := .of 35 h [(1, flL a, true), (2, .row (pbC p) 0, true), (7, I s, b), (16, flL a, true), (17, I a.length, true), (18, I k, true)]
theorem run25 (p : Pb) (a : List Int) (s k : Int) (h : Heap) : xBody Try.prog G0 {} 200 noLoops [1, 2, 7, 16, 17, 18] body25 (st25 p a s k true h) = .ite (decide (k < (↑a.length : Int))) (.need (((0 : Int) ≤ k) ∧ (k < (↑a.length : Int))) (.need (((0 : Int) ≤ k) ∧ (k < (↑p.C.length : Int))) (.need (((0 : Int) ≤ a.getD k.toNat (0 : Int)) ∧ (a.getD k.toNat (0 : Int) < (↑(p.C.getD k.toNat []).length : Int))) (.leaf (Exit.normal, St.of 35 h [(1, (flL (a)), true), (2, (AV.row [(flL (p.V)), (flLL (p.C)), (flR (p.R))] ((0 : Nat))), true), (7, (I (IntKind.i64.wrap (s + (p.C.getD k.toNat []).getD (a.getD k.toNat (0 : Int)).toNat (0 : Int)))), true), (16, (flL (a)), true), (17, (I ((↑a.length : Int))), true), (18, (I (IntKind.i64.wrap (k + (1 : Int)))), true)]))))) (.leaf ((Exit.exit ((0 : Nat))), St.of 35 h [(1, (flL (a)), true), (2, (AV.row [(flL (p.V)), (flLL (p.C)), (flR (p.R))] ((0 : Nat))), true), (7, (I s), true), (16, (flL (a)), true), (17, (I ((↑a.length : Int))), true), (18, (I k), true)])) := by kernel_rfl
theorem runF25 (p : Pb) (a : List Int) (s k : Int) (c : Int) (h : Heap) : xenter Try.prog (EG True [(52, [pAV p, flL a], I c)]) (xCode Try.prog G0 (EG True [(52, [pAV p, flL a], I c)]) 200 (lpB 6 [1, 2, 7, 16, 17, 18] (st25 p a 0 0 true h) (.exit 0) (st25 p a s k true h))) 25 [pAV p, flL a] [true, true] h = .need (True) (.need ([(AV.agg [(flL (p.V)), (flLL (p.C)), (flR (p.R))]), (flL (a))] = [(AV.agg [(flL (p.V)), (flLL (p.C)), (flR (p.R))]), (flL (a))]) (.ite (c != (0 : Int)) (.leaf ((AV.tup [(I ((0 : Int))), (I c)]), true, h)) (.need ((st25 p a 0 0 true h).vals = (st25 p a 0 0 true h).vals) (.leaf ((AV.tup [(I s), (I ((0 : Int)))]), true, h))))) := by kernel_rfl
theorem runG25 (p : Pb) (a : List Int) (c : Int) (h : Heap) : xenter Try.prog (EG True [(52, [pAV p, flL a], I c)]) (xCode Try.prog G0 (EG True [(52, [pAV p, flL a], I c)]) 200 (lpF 6 [1, 2, 7, 16, 17, 18] (st25 p a 0 0 true h))) 25 [pAV p, flL a] [true, true] h = .need (True) (.need ([(AV.agg [(flL (p.V)), (flLL (p.C)), (flR (p.R))]), (flL (a))] = [(AV.agg [(flL (p.V)), (flLL (p.C)), (flR (p.R))]), (flL (a))]) (.ite (c != (0 : Int)) (.leaf ((AV.tup [(I ((0 : Int))), (I c)]), true, h)) (.need ((st25 p a 0 0 true h).vals = (st25 p a 0 0 true h).vals) .fail))) := by kernel_rfl

theorem loop25 {p : Pb} (hp : Ok p) {a : List Int} (ha : Beg p a) (h : Heap) : LoopA body25 a.length (fun k => st25 p a (sumK (costT p a) k) k true h) (fun k => st25 p a (sumK (costT p a) k) k true h) (st25 p a (costA p a) a.length true h) .ret (.exit 0) fun _ => false := by
  refine .lin (fun _ => rfl) rfl nofun fun k hk => ⟨_, _, _, clok0, lpNo _, fun hlt => (congrArg Tree.sel (run25 p a _ k h)).trans ?_, fun he => (congrArg Tree.sel (run25 p a _ k h)).trans ?_⟩
  · have h1 := costK_bound hp ha (k := k + 1) (by omega)
    have h2 := beg_nat hp ha hlt
    have h3 := hp.c
    have h4 := ha.len
    have e : sumK (costT p a) (k + 1) = sumK (costT p a) k + (p.C.getD k []).getD (a.getD k 0).toNat 0 := rfl
    rw [selIt (dT (by omega)), selN ⟨by omega, by omega⟩, selN ⟨by omega, by omega⟩, Int.toNat_natCast, selN ⟨by omega, by omega⟩, ← e, wrap_i64 (by omega) (by omega), wrapS hlt (beg_sh hp ha)]
    rfl
  · rw [selIf (dF (by omega)), he]
    rfl
/-- An assignment, and nothing else. -/
def Full (p : Pb) (a : List Int) : Prop := Beg p a ∧ a.length = p.V.length
theorem whole_cases (p : Pb) (a : List Int) : (whole p a = 0 ∧ Ok p ∧ Full p a) ∨ whole p a = 1 ∨ whole p a = 2 := by
  unfold whole
  cases hv : validP p with
  | false => exact .inr (.inl rfl)
  | true =>
    rw [cond_true]
    cases h1 : ((a.length : Int) != p.V.length) with
    | true => exact .inr (.inr rfl)
    | false =>
      rw [Bool.false_or]
      cases h2 : begB p a with
      | false => exact .inr (.inr rfl)
      | true => exact .inl ⟨rfl, valid_iff.1 hv, beg_iff.1 h2, by have := bne_eq_false_iff_eq.1 h1; omega⟩
def costR (p : Pb) (a : List Int) : AV := .tup [I (if whole p a = 0 then costA p a else 0), I (whole p a)]
theorem c25 {p : Pb} (hs : p.sh) {a : List Int} (ha : sh a) (h : Heap) : ACall Try.prog G0 25 [pAV p, flL a] h (costR p a) h := by
  unfold costR
  rcases whole_cases p a with ⟨h0, hp, hb⟩ | h0 | h0
  · refine ACall.says (clokG1 fun _ => h0 ▸ c52 hs ha) ((loop25 hp hb.1 h).okB (fun _ _ => rfl) (one_loop loops25)) (runF25 p a _ _ 0 h) ?_
    rw [h0, if_pos rfl]
    exact says_need trivial (says_need rfl (says_ite (fun h => (by cases h)) fun _ => says_need rfl says_leaf))
  · refine ACall.says (clokG1 fun _ => h0 ▸ c52 hs ha) (lpF_ok 6 _ _ _) (runG25 p a 1 h) ?_
    rw [h0, if_neg (by omega)]
    exact says_need trivial (says_need rfl (says_ite (fun _ => says_leaf) fun h => by cases h))
  · refine ACall.says (clokG1 fun _ => h0 ▸ c52 hs ha) (lpF_ok 6 _ _ _) (runG25 p a 2 h) ?_
    rw [h0, if_neg (by omega)]
    exact says_need trivial (says_need rfl (says_ite (fun _ => says_leaf) fun h => by cases h))

/-! ### The reference's Cost -/
end Go.Proofs.Ytngaihdpmoajeaa.Am

