/-
  This file proves nothing of a law. It holds what a new block, a written object and a moved object do to the relation of the heap to the world. No condition.
-/
import Derived.Test.YtjljigccgaadaaaDoorAm3
namespace Go.Proofs.YtjljigccgaadaaaDoor.Am
open Go

/-- The map with one more entry, or another one. -/
def Map.put (M : Map) (r : Nat) (p : Nat × Nat) : Map := ⟨fun r' => if r' = r then some p else M r', M.far⟩
theorem Map.put_same (M : Map) (r : Nat) (p : Nat × Nat) : M.put r p r = some p := by simp [Map.put]
theorem Map.put_other (M : Map) {r r' : Nat} (p : Nat × Nat) (h : r' ≠ r) : M.put r p r' = M r' := by simp [Map.put, h]

/-- The world with another row of cells in a block. -/
def upd (w : World) (b : Nat) (cs : Array Value) (e : TypeId) : World := { w with heap := w.heap.setIfInBounds b (.cells cs e (0, 0)) }

section
variable {w : World} {M : Map} {P : Program} {G : Nat → Option (List AV)} {σ : Heap}

theorem alloc_old {o : Obj} {b : Nat} (h : b < w.heap.size) : (w.alloc o).heap[b]? = w.heap[b]? := by
  simp only [World.alloc]
  rw [Array.getElem?_push, if_neg (by omega)]
theorem alloc_new (w : World) (o : Obj) : (w.alloc o).heap[w.heap.size]? = some o := by
  simp only [World.alloc]
  rw [Array.getElem?_push, if_pos rfl]
theorem alloc_size (w : World) (o : Obj) : (w.alloc o).heap.size = w.heap.size + 1 := by
  simp only [World.alloc, Array.size_push]
theorem upd_other {b b' : Nat} {cs : Array Value} {e : TypeId} (h : b' ≠ b) : (upd w b cs e).heap[b']? = w.heap[b']? := by
  simp only [upd]
  rw [Array.getElem?_setIfInBounds, if_neg (by omega)]
theorem upd_same {b : Nat} {cs : Array Value} {e : TypeId} (h : b < w.heap.size) : (upd w b cs e).heap[b]? = some (.cells cs e (0, 0)) := by
  simp only [upd]
  rw [Array.getElem?_setIfInBounds, if_pos rfl, if_pos h]
theorem upd_size {b : Nat} {cs : Array Value} {e : TypeId} : (upd w b cs e).heap.size = w.heap.size := by simp [upd]
theorem lt_of_heap {b : Nat} {o : Obj} (h : w.heap[b]? = some o) : b < w.heap.size := (Array.getElem?_eq_some_iff.1 h).1

theorem RLoop.mono {w' : World} {M' : Map} {L : Loop} {A : ALoop} (h : Ext w M w' M') (hL : RLoop w M L A) : RLoop w' M' L A :=
  ⟨hL.state, hL.pending, hL.size, fun j x hj => (hL.tmps j x hj).mono h, hL.params, hL.assign, hL.body, h.fix _ _ hL.defers.1 hL.defers.2⟩

theorem RAct.mono {w' : World} {M' : Map} {ac : Act} {a : AAct} (h : Ext w M w' M') (ha : RAct w M ac a) : RAct w' M' ac a := by
  obtain ⟨bs, h1, h2, h3⟩ := ha.marks
  exact ⟨ha.tmps.mono h, bs, h1, h2, fun i r b hi hb => let ⟨p, q⟩ := h3 i r b hi hb; h.fix r b p q⟩

/-! ### A new block: nobody's -/
theorem Ext.alloc (w : World) (M : Map) (o : Obj) : Ext w M (w.alloc o) M :=
  ⟨by rw [alloc_size]; omega, rfl, rfl, rfl, fun b hb => ⟨⟨by rw [alloc_size]; have := hb.1; omega, hb.2⟩, alloc_old hb.1⟩,
    fun r b g h => ⟨b, g, h, .inr ⟨rfl, rfl⟩⟩, fun r b g c e fr _ _ h => ⟨c, by rw [alloc_old (lt_of_heap h)]; exact h, rfl⟩,
    fun r b h k => ⟨h, by rw [alloc_size]; have := k.1; omega, fun c e fr => by rw [alloc_old k.1]; exact k.2 c e fr⟩, rfl, fun b _ h => alloc_old h⟩

theorem Ext.drew (w : World) (M : Map) : Ext w M { w with drawn := w.drawn + 1 } M :=
  ⟨Nat.le_refl _, rfl, rfl, rfl, fun _ h => ⟨h, rfl⟩, fun _ b g h => ⟨b, g, h, .inr ⟨rfl, rfl⟩⟩, fun _ _ _ c _ _ _ _ h => ⟨c, h, rfl⟩, fun _ _ h k => ⟨h, k⟩, rfl, fun _ _ _ => rfl⟩

/-- A step that leaves the objects' blocks alone. -/
theorem Inv.keep {w' : World} (hi : Inv G w M σ) (h : Ext w M w' M) (hh : ∀ r b g, M r = some (b, g) → w'.heap[b]? = w.heap[b]?) : Inv G w' M σ :=
  ⟨fun g cs hg => (hi.glob g cs hg).mono h, hi.inj, hi.dom, fun r b g hr => Nat.lt_of_lt_of_le (hi.lt r b g hr) h.size,
    fun r g c hr => by
      obtain ⟨b, cs, e, h1, h2, h3, h4⟩ := hi.cells r g c hr
      exact ⟨b, cs, e, h1, (hh r b g h1).trans h2, h3, fun j x hj => (h4 j x hj).mono h⟩,
    hi.resv,
    fun r hr => by
      obtain ⟨b, h1, h2⟩ := hi.dfr r hr
      exact ⟨b, h1, (hh r b 0 h1).trans h2⟩,
    fun r A hr => by
      obtain ⟨b, L, h1, h2, h3⟩ := hi.loop r A hr
      exact ⟨b, L, h1, (hh r b 0 h1).trans h2, h3.mono h⟩,
    hi.far.keep h fun r b g hr => .inl ⟨r, g, hr⟩⟩

theorem Inv.alloc (hi : Inv G w M σ) (o : Obj) : Inv G (w.alloc o) M σ := hi.keep (.alloc w M o) fun r b g hr => alloc_old (hi.lt r b g hr)
theorem Inv.drew (hi : Inv G w M σ) : Inv G { w with drawn := w.drawn + 1 } M σ := hi.keep (.drew w M) fun _ _ _ _ => rfl

theorem Inv.fresh (hi : Inv G w M σ) (r g : Nat) : M r ≠ some (w.heap.size, g) := fun h => by have := hi.lt _ _ _ h; omega
theorem Imm.alloc_new (hi : Inv G w M σ) (o : Obj) : Imm (w.alloc o) M w.heap.size := ⟨by rw [alloc_size]; omega, hi.fresh, fun h => by have := (hi.far _ h).1; omega⟩

/-- A new object of the call's own, in a new block. -/
theorem Ext.push (hi : Inv G w M σ) (o : Obj) : Ext w M (w.alloc o) (M.put σ.length (w.heap.size, 0)) := by
  have hne : ∀ r p, M r = some p → r ≠ σ.length := fun r p h => by have := hi.dom r p h; omega
  refine ⟨by rw [alloc_size]; omega, rfl, rfl, rfl, fun b hb => ⟨⟨by rw [alloc_size]; have := hb.1; omega, fun r g h => ?_, hb.2.2⟩, alloc_old hb.1⟩, fun r b g h => ⟨b, g, ?_, .inr ⟨rfl, rfl⟩⟩,
    fun r b g c e fr _ _ h => ⟨c, by rw [alloc_old (lt_of_heap h)]; exact h, rfl⟩,
    fun r b h k => ⟨?_, by rw [alloc_size]; have := k.1; omega, fun c e fr => by rw [alloc_old k.1]; exact k.2 c e fr⟩, rfl, fun b _ h => alloc_old h⟩
  · by_cases hr : r = σ.length
    · subst hr
      rw [Map.put_same] at h
      have := (Prod.mk.inj (Option.some.inj h)).1
      have := hb.1
      omega
    · rw [Map.put_other _ _ hr] at h
      exact hb.2.1 r g h
  · rw [Map.put_other _ _ (hne r _ h)]; exact h
  · rw [Map.put_other _ _ (hne r _ h)]; exact h

/-- What an object's record asks of the world. -/
def ObjOk (w : World) (M : Map) (r : Nat) : AObj → Prop
  | .cells g c => ∃ b cs e, M r = some (b, g) ∧ w.heap[b]? = some (.cells cs e (0, 0)) ∧ c.length ≤ cs.size ∧ ∀ (j : Nat) (x : AV), c[j]? = some x → RV w M (cs.getD j undef) x
  | .resv => M r = none
  | .dfr => ∃ b, M r = some (b, 0) ∧ w.heap[b]? = some (.deferred (some []))
  | .loop A => ∃ b L, M r = some (b, 0) ∧ w.heap[b]? = some (.loop L) ∧ RLoop w M L A
  | .gone => True

theorem Inv.of {w : World} {M : Map} {σ : Heap} (h1 : ∀ g cs, G g = some cs → RV w M (.pointer (some ⟨g, 0, none⟩)) (.row cs 0))
    (h2 : ∀ r r' b g g', M r = some (b, g) → M r' = some (b, g') → r = r') (h3 : ∀ r p, M r = some p → r < σ.length) (h4 : ∀ r b g, M r = some (b, g) → b < w.heap.size)
    (h6 : FarOk w M) (h5 : ∀ r o, σ[r]? = some o → ObjOk w M r o) : Inv G w M σ :=
  ⟨h1, h2, h3, h4, fun r _ _ h => h5 r _ h, fun r h => h5 r _ h, fun r h => h5 r _ h, fun r _ h => h5 r _ h, h6⟩

theorem Inv.objOk (hi : Inv G w M σ) {r : Nat} {o : AObj} (h : σ[r]? = some o) : ObjOk w M r o := by
  cases o with
  | cells g c => exact hi.cells r g c h
  | resv => exact hi.resv r h
  | dfr => exact hi.dfr r h
  | loop A => exact hi.loop r A h
  | gone => trivial

/-- An object's record in a later world that leaves its own block alone. -/
theorem ObjOk.keep {w' : World} {M' : Map} {r : Nat} {o : AObj} (h : Ext w M w' M') (hm : M' r = M r) (hh : ∀ b g, M r = some (b, g) → w'.heap[b]? = w.heap[b]?) (ho : ObjOk w M r o) : ObjOk w' M' r o := by
  cases o with
  | cells g c =>
    obtain ⟨b, cs, e, h1, h2, h3, h4⟩ := ho
    exact ⟨b, cs, e, hm.trans h1, (hh b g h1).trans h2, h3, fun j x hj => (h4 j x hj).mono h⟩
  | resv => exact hm.trans ho
  | dfr => obtain ⟨b, h1, h2⟩ := ho; exact ⟨b, hm.trans h1, (hh b 0 h1).trans h2⟩
  | loop A => obtain ⟨b, L, h1, h2, h3⟩ := ho; exact ⟨b, L, hm.trans h1, (hh b 0 h1).trans h2, h3.mono h⟩
  | gone => trivial

theorem Inv.push (hi : Inv G w M σ) {o : Obj} {ao : AObj} (ho : ObjOk (w.alloc o) (M.put σ.length (w.heap.size, 0)) σ.length ao) :
    Inv G (w.alloc o) (M.put σ.length (w.heap.size, 0)) (σ ++ [ao]) := by
  have he := Ext.push hi o
  refine .of (fun g cs hg => (hi.glob g cs hg).mono he) (fun r r' b g g' h h' => ?_) (fun r p h => ?_) (fun r b g h => ?_) (hi.far.keep he fun r b g h => ?_) (fun r o' h => ?_)
  · by_cases hr : r = σ.length <;> by_cases hr' : r' = σ.length
    · rw [hr, hr']
    · subst hr
      rw [Map.put_same] at h
      rw [Map.put_other _ _ hr'] at h'
      have := hi.lt _ _ _ h'
      have := (Prod.mk.inj (Option.some.inj h)).1
      omega
    · subst hr'
      rw [Map.put_same] at h'
      rw [Map.put_other _ _ hr] at h
      have := hi.lt _ _ _ h
      have := (Prod.mk.inj (Option.some.inj h')).1
      omega
    · rw [Map.put_other _ _ hr] at h
      rw [Map.put_other _ _ hr'] at h'
      exact hi.inj r r' b g g' h h'
  · rw [List.length_append, List.length_singleton]
    by_cases hr : r = σ.length
    · omega
    · rw [Map.put_other _ _ hr] at h
      have := hi.dom r p h
      omega
  · rw [alloc_size]
    by_cases hr : r = σ.length
    · subst hr
      rw [Map.put_same] at h
      have := (Prod.mk.inj (Option.some.inj h)).1
      omega
    · rw [Map.put_other _ _ hr] at h
      have := hi.lt r b g h
      omega
  · by_cases hr : r = σ.length
    · subst hr
      rw [Map.put_same] at h
      have := (Prod.mk.inj (Option.some.inj h)).1
      exact .inr (by omega)
    · rw [Map.put_other _ _ hr] at h
      exact .inl ⟨r, g, h⟩
  · by_cases hr : r = σ.length
    · subst hr
      simp at h
      subst h
      exact ho
    · have hlt : r < σ.length := by
        have := (List.getElem?_eq_some_iff.1 h).1
        simp at this
        omega
      rw [List.getElem?_append_left hlt] at h
      exact (hi.objOk h).keep he (Map.put_other _ _ hr) fun b g hm => alloc_old (hi.lt r b g hm)

/-! ### An object written, or written and moved on to its next generation -/
theorem Ext.upd {r b g g' : Nat} {cs cs' : Array Value} {e : TypeId} (hm : M r = some (b, g)) (hh : w.heap[b]? = some (.cells cs e (0, 0))) (hs : cs'.size = cs.size) (hg : g ≤ g') (hinj : ∀ r', r' ≠ r → ∀ g0, M r' ≠ some (b, g0)) (hfar : ¬ M.far b) :
    Ext w M (upd w b cs' e) (M.put r (b, g')) := by
  have hb := lt_of_heap hh
  refine ⟨by rw [upd_size]; omega, rfl, rfl, rfl, fun b0 h0 => ?_, fun r' b0 g0 h0 => ?_, fun r' b0 g0 c e0 fr h0 h1 hc => ?_, fun r' b0 h0 hn => ?_, rfl, fun b0 h0 _ => upd_other fun h => hfar (by rw [← h]; exact h0)⟩
  · have hne : b0 ≠ b := fun h => by subst h; exact h0.2.1 r g hm
    refine ⟨⟨by rw [upd_size]; exact h0.1, fun r' g0 h1 => ?_, h0.2.2⟩, upd_other hne⟩
    by_cases hr : r' = r
    · subst hr
      rw [Map.put_same] at h1
      exact hne (Prod.mk.inj (Option.some.inj h1)).1.symm
    · rw [Map.put_other _ _ hr] at h1
      exact h0.2.1 r' g0 h1
  · by_cases hr : r' = r
    · subst hr
      rw [hm] at h0
      obtain ⟨rfl, rfl⟩ := Prod.mk.inj (Option.some.inj h0)
      refine ⟨b, g', Map.put_same _ _ _, ?_⟩
      rcases Nat.lt_or_ge g g' with hlt | hge
      · exact .inl hlt
      · exact .inr ⟨rfl, by omega⟩
    · exact ⟨b0, g0, by rw [Map.put_other _ _ hr]; exact h0, .inr ⟨rfl, rfl⟩⟩
  · by_cases hb0 : b0 = b
    · subst hb0
      rw [hh] at hc
      cases hc
      exact ⟨cs', upd_same hb, hs⟩
    · exact ⟨c, by rw [upd_other hb0]; exact hc, rfl⟩
  · have hr : r' ≠ r := fun h => by
      subst h
      rw [hm] at h0
      obtain ⟨rfl, rfl⟩ := Prod.mk.inj (Option.some.inj h0)
      exact hn.2 _ _ _ hh
    have hne : b0 ≠ b := fun h => by subst h; exact hinj r' hr 0 h0
    exact ⟨by rw [Map.put_other _ _ hr]; exact h0, by rw [upd_size]; exact hn.1, fun c e0 fr => by rw [upd_other hne]; exact hn.2 c e0 fr⟩

theorem Inv.notFar (hi : Inv G w M σ) {r b g : Nat} (hm : M r = some (b, g)) : ¬ M.far b := fun h => (hi.far b h).2 r g hm
theorem Inv.others (hi : Inv G w M σ) {r b g : Nat} (hm : M r = some (b, g)) : ∀ r', r' ≠ r → ∀ g0, M r' ≠ some (b, g0) := fun r' hr g0 h => hr (hi.inj r' r b g0 g h hm)

theorem Inv.upd {r b g g' : Nat} {cs cs' : Array Value} {e : TypeId} {c' : List AV} (hi : Inv G w M σ) (hm : M r = some (b, g)) (hh : w.heap[b]? = some (.cells cs e (0, 0))) (hs : cs'.size = cs.size) (hg : g ≤ g')
    (hl : c'.length ≤ cs'.size) (hc : ∀ (j : Nat) (x : AV), c'[j]? = some x → RV (upd w b cs' e) (M.put r (b, g')) (cs'.getD j undef) x) :
    Inv G (Am.upd w b cs' e) (M.put r (b, g')) (σ.set r (.cells g' c')) := by
  have hb := lt_of_heap hh
  have ho := hi.others hm
  have he := Ext.upd (cs' := cs') (g' := g') hm hh hs hg ho (hi.notFar hm)
  refine .of (fun g cs hg => (hi.glob g cs hg).mono he) (fun r1 r2 b0 g1 g2 h1 h2 => ?_) (fun r1 p h => ?_) (fun r1 b0 g1 h => ?_) (hi.far.keep he fun r1 b0 g1 h => ?_) (fun r1 o h => ?_)
  · by_cases e1 : r1 = r <;> by_cases e2 : r2 = r
    · rw [e1, e2]
    · subst e1
      rw [Map.put_same] at h1
      rw [Map.put_other _ _ e2] at h2
      obtain ⟨rfl, _⟩ := Prod.mk.inj (Option.some.inj h1)
      exact absurd h2 (ho r2 e2 g2)
    · subst e2
      rw [Map.put_same] at h2
      rw [Map.put_other _ _ e1] at h1
      obtain ⟨rfl, _⟩ := Prod.mk.inj (Option.some.inj h2)
      exact absurd h1 (ho r1 e1 g1)
    · rw [Map.put_other _ _ e1] at h1
      rw [Map.put_other _ _ e2] at h2
      exact hi.inj r1 r2 b0 g1 g2 h1 h2
  · rw [List.length_set]
    by_cases e1 : r1 = r
    · rw [e1]; exact hi.dom r _ hm
    · rw [Map.put_other _ _ e1] at h; exact hi.dom r1 p h
  · rw [upd_size]
    by_cases e1 : r1 = r
    · subst e1
      rw [Map.put_same] at h
      have := (Prod.mk.inj (Option.some.inj h)).1
      omega
    · rw [Map.put_other _ _ e1] at h; exact hi.lt r1 b0 g1 h
  · by_cases e1 : r1 = r
    · subst e1
      rw [Map.put_same] at h
      obtain ⟨rfl, _⟩ := Prod.mk.inj (Option.some.inj h)
      exact .inl ⟨r1, g, hm⟩
    · rw [Map.put_other _ _ e1] at h; exact .inl ⟨r1, g1, h⟩
  · by_cases e1 : r1 = r
    · subst e1
      rw [List.getElem?_set_self (hi.dom _ _ hm)] at h
      cases h
      exact ⟨b, cs', e, Map.put_same _ _ _, upd_same hb, hl, hc⟩
    · rw [List.getElem?_set_ne (fun h => e1 h.symm)] at h
      exact (hi.objOk h).keep he (Map.put_other _ _ e1) fun b0 g0 hm0 => upd_other fun h0 => by subst h0; exact ho r1 e1 g0 hm0

/-- An object moved to a new block. -/
theorem Ext.move {r b g g' : Nat} {o : Obj} (hm : M r = some (b, g)) (hg : g < g') (hc : ¬ NoCells w b) : Ext w M (w.alloc o) (M.put r (w.heap.size, g')) := by
  refine ⟨by rw [alloc_size]; omega, rfl, rfl, rfl, fun b0 h0 => ⟨⟨by rw [alloc_size]; have := h0.1; omega, fun r' g0 h1 => ?_, h0.2.2⟩, alloc_old h0.1⟩, fun r' b0 g0 h0 => ?_, fun r' b0 g0 c e0 fr h0 h1 hc => ?_, fun r' b0 h0 hn => ?_, rfl, fun b _ h => alloc_old h⟩
  · by_cases hr : r' = r
    · subst hr
      rw [Map.put_same] at h1
      have := (Prod.mk.inj (Option.some.inj h1)).1
      have := h0.1
      omega
    · rw [Map.put_other _ _ hr] at h1
      exact h0.2.1 r' g0 h1
  · by_cases hr : r' = r
    · subst hr
      rw [hm] at h0
      obtain ⟨rfl, rfl⟩ := Prod.mk.inj (Option.some.inj h0)
      exact ⟨_, g', Map.put_same _ _ _, .inl hg⟩
    · exact ⟨b0, g0, by rw [Map.put_other _ _ hr]; exact h0, .inr ⟨rfl, rfl⟩⟩
  · exact ⟨c, by rw [alloc_old (lt_of_heap hc)]; exact hc, rfl⟩
  · have hr : r' ≠ r := fun h => by
      subst h
      rw [hm] at h0
      obtain ⟨rfl, rfl⟩ := Prod.mk.inj (Option.some.inj h0)
      exact hc hn
    exact ⟨by rw [Map.put_other _ _ hr]; exact h0, by rw [alloc_size]; have := hn.1; omega, fun c e0 fr => by rw [alloc_old hn.1]; exact hn.2 c e0 fr⟩

theorem Inv.move {r b g g' : Nat} {cs' : Array Value} {e : TypeId} {c' : List AV} (hi : Inv G w M σ) (hm : M r = some (b, g)) (hg : g < g') (hn : ¬ NoCells w b)
    (hl : c'.length ≤ cs'.size) (hc : ∀ (j : Nat) (x : AV), c'[j]? = some x → RV w M (cs'.getD j undef) x) :
    Inv G (w.alloc (.cells cs' e)) (M.put r (w.heap.size, g')) (σ.set r (.cells g' c')) := by
  have he := Ext.move (o := .cells cs' e) hm hg hn
  refine .of (fun g cs hg => (hi.glob g cs hg).mono he) (fun r1 r2 b0 g1 g2 h1 h2 => ?_) (fun r1 p h => ?_) (fun r1 b0 g1 h => ?_) (hi.far.keep he fun r1 b0 g1 h => ?_) (fun r1 o h => ?_)
  · by_cases e1 : r1 = r <;> by_cases e2 : r2 = r
    · rw [e1, e2]
    · subst e1
      rw [Map.put_same] at h1
      rw [Map.put_other _ _ e2] at h2
      have := hi.lt _ _ _ h2
      have := (Prod.mk.inj (Option.some.inj h1)).1
      omega
    · subst e2
      rw [Map.put_same] at h2
      rw [Map.put_other _ _ e1] at h1
      have := hi.lt _ _ _ h1
      have := (Prod.mk.inj (Option.some.inj h2)).1
      omega
    · rw [Map.put_other _ _ e1] at h1
      rw [Map.put_other _ _ e2] at h2
      exact hi.inj r1 r2 b0 g1 g2 h1 h2
  · rw [List.length_set]
    by_cases e1 : r1 = r
    · rw [e1]; exact hi.dom r _ hm
    · rw [Map.put_other _ _ e1] at h; exact hi.dom r1 p h
  · rw [alloc_size]
    by_cases e1 : r1 = r
    · subst e1
      rw [Map.put_same] at h
      have := (Prod.mk.inj (Option.some.inj h)).1
      omega
    · rw [Map.put_other _ _ e1] at h
      have := hi.lt r1 b0 g1 h
      omega
  · by_cases e1 : r1 = r
    · subst e1
      rw [Map.put_same] at h
      have := (Prod.mk.inj (Option.some.inj h)).1
      exact .inr (by omega)
    · rw [Map.put_other _ _ e1] at h; exact .inl ⟨r1, g1, h⟩
  · by_cases e1 : r1 = r
    · subst e1
      rw [List.getElem?_set_self (hi.dom _ _ hm)] at h
      cases h
      exact ⟨w.heap.size, cs', e, Map.put_same _ _ _, alloc_new w _, hl, fun j x hj => (hc j x hj).mono he⟩
    · rw [List.getElem?_set_ne (fun h => e1 h.symm)] at h
      exact (hi.objOk h).keep he (Map.put_other _ _ e1) fun b0 g0 hm0 => alloc_old (hi.lt r1 b0 g0 hm0)
end
end Go.Proofs.YtjljigccgaadaaaDoor.Am
