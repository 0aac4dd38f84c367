/-
  This file proves nothing of a law. It holds lemmas, of 12 texts in their order. No condition of its own.
-/
import Derived.Test.YtngaihdpmoajeaaMg3
import Derived.Deep.Slices
import Derived.Deep.Fields
import Derived.OpenShut
namespace Go.Proofs.Ytngaihdpmoajeaa.Am
open Go Go.ChangeShapes Go.WideShapes

section
variable {H : Type} {enc : TypeId × Value → H} {P : Program} {w : World} {sp : Nat → Bool} {held : Bool}

def inI64 (n : Int) : Prop := -9223372036854775808 ≤ n ∧ n < 9223372036854775808
theorem inI64_of_wf {n : Int} (h : (Lit.int .i64 n).wf = true) : inI64 n := by
  simp [Lit.wf, IntKind.min, IntKind.max, IntKind.signed, IntKind.bits] at h
  exact ⟨by omega, by omega⟩

/-- A type whose values are k integers. -/
def RowOf (H : Type) (enc : TypeId × Value → H) (P : Program) (w : World) (sp : Nat → Bool) (held : Bool) (e : TypeId) (k : Nat) : Prop :=
  ∀ (fuel : Nat) (cs : List Value) (y : DataW H × List MemPlace), DataW.trod enc P w 0 sp held fuel e cs = some y → cs.length = k ∧ ∀ j, j < k → ∃ n, cs[j]? = some (.int .i64 n) ∧ inI64 n

theorem rowOf_int {e : TypeId} (he : P.underlying e = some (.int .i64)) : RowOf H enc P w sp held e 1 := by
  intro fuel cs y h
  obtain ⟨n, rfl, _, hw⟩ := DataW.trod_int he h
  refine ⟨rfl, fun j hj => ?_⟩
  obtain rfl : j = 0 := by omega
  exact ⟨n, rfl, inI64_of_wf hw⟩

theorem drop_take_one {α : Type} {l : List α} {j : Nat} (h : j < l.length) : (l.drop j).take 1 = [l[j]] := by
  rw [List.drop_eq_getElem_cons h]; rfl

theorem rowOf_struct {e : TypeId} {fs : Array Field} (he : P.underlying e = some (.struct fs)) (hone : Go.Deep.oneCellFields P fs = true) (hC : P.cellsOf e = fs.size)
    (hint : ∀ (j : Nat) (f : Field), fs[j]? = some f → P.underlying f.type = some (.int .i64)) : RowOf H enc P w sp held e fs.size := by
  intro fuel cs y h
  obtain ⟨ys, n, _, _, hlen, hyl, hf⟩ := DataW.trod_struct he h
  refine ⟨by rw [hlen, hC], fun j hj => ?_⟩
  obtain ⟨f, hfj⟩ : ∃ f, fs[j]? = some f := ⟨_, Array.getElem?_eq_getElem hj⟩
  obtain ⟨ho, hk⟩ := Go.Deep.hone_of hone j f hfj
  have h1 := hf j f hfj
  have hjc : j < cs.length := by rw [hlen, hC]; exact hj
  rw [ho, hk, drop_take_one hjc, List.getElem?_eq_getElem (by omega)] at h1
  obtain ⟨m, hm, _, hw⟩ := DataW.trod_int (hint j f hfj) h1
  refine ⟨m, ?_, inI64_of_wf hw⟩
  rw [List.getElem?_eq_getElem hjc]
  simpa using hm

theorem add_spot {a : Addr} (h : a.spot = none) (n : Nat) : a.add n = ⟨a.block, a.off + n, none⟩ := by
  cases a
  simp only at h
  subst h
  unfold Addr.add
  split
  · rename_i h0; subst h0; rfl
  · rfl
theorem cell_spot {a : Addr} {v : Value} (h : w.cell? a = some v) : a.spot = none ∧ a.block < w.heap.size := by
  unfold World.cell? at h
  split at h
  · rename_i c e fr hb
    have hlt : a.block < w.heap.size := by
      rcases Nat.lt_or_ge a.block w.heap.size with h | h
      · exact h
      · rw [Array.getElem?_eq_none h] at hb; cases hb
    refine ⟨?_, hlt⟩
    cases hs : a.spot with
    | none => rfl
    | some x => rw [hs] at h; simp at h
  · cases h

/-- A SLICE OF ROWS OF INTEGERS. -/
theorem open_rows {t e : TypeId} {k : Nat} (ht : P.underlying t = some (.slice e)) (hk : 0 < k) (hC : P.cellsOf e = k) (hrow : RowOf H enc P w sp held e k) {fuel : Nat} {v : Value} {x : DataW H × List MemPlace}
    (h : DataW.trod enc P w 0 sp held fuel t [v] = some x) :
    ∃ (n : Nat) (f : Nat → Nat → Int), RV w M0 v (.fl k n fun i => (List.range k).map fun j => .int .i64 (f i j)) ∧ ∀ i j, i < n → j < k → inI64 (f i j) := by
  rcases Go.Deep.open_slice ht h with ⟨hv, _⟩ | ⟨a, len, cap, m, n0, D, Pl, hcs, _, hl, _, hm, _, hi⟩
  · obtain rfl : v = .slice none 0 0 := by simpa using hv
    exact ⟨0, fun _ _ => 0, .fl _ _ _ _ (.sl0 _ _ _), fun i j hi => by omega⟩
  · obtain rfl : v = .slice (some a) len cap := by simpa using hcs
    have hlm : len ≤ m := by rw [hm]; split <;> omega
    have key : ∀ i, i < len → ∃ cs', (∀ j, j < k → w.cell? (a.add (i * k + j)) = cs'[j]?) ∧ ∀ j, j < k → ∃ q : Int, cs'[j]? = some (Value.int .i64 q) ∧ inI64 q := fun i hil => by
      obtain ⟨cs', hc, ht'⟩ := hi i (by omega)
      rw [hC] at hc
      obtain ⟨_, hcl, hat⟩ := World.cells?_some hc
      refine ⟨cs', fun j hj => ?_, (hrow _ _ _ ht').2⟩
      rw [← Go.Deep.add_add]
      exact hat j hj
    have key2 : ∀ i j, ∃ q : Int, i < len → j < k → w.cell? (a.add (i * k + j)) = some (Value.int .i64 q) ∧ inI64 q := fun i j => by
      by_cases hb : i < len ∧ j < k
      · obtain ⟨cs', h1, h2⟩ := key i hb.1
        obtain ⟨q, hq, hr⟩ := h2 j hb.2
        exact ⟨q, fun _ _ => ⟨(h1 j hb.2).trans hq, hr⟩⟩
      · exact ⟨0, fun h1 h2 => absurd ⟨h1, h2⟩ hb⟩
    have pick : ∃ f : Nat → Nat → Int, ∀ i j, i < len → j < k → w.cell? (a.add (i * k + j)) = some (Value.int .i64 (f i j)) ∧ inI64 (f i j) :=
      ⟨fun i j => Classical.choose (key2 i j), fun i j => Classical.choose_spec (key2 i j)⟩
    obtain ⟨f, hf⟩ := pick
    refine ⟨len, f, .fl _ _ _ _ ?_, fun i j h1 h2 => (hf i j h1 h2).2⟩
    by_cases h0 : len = 0
    · subst h0; exact .sl0 _ _ _
    · have h00 := (hf 0 0 (by omega) hk).1
      simp only [Nat.zero_mul, Nat.add_zero] at h00
      have ha0 : a.add 0 = a := by unfold Addr.add; rfl
      rw [ha0] at h00
      obtain ⟨hs, hb⟩ := cell_spot h00
      have hlen : ((List.range len).map fun i => (List.range k).map fun j => AV.int .i64 (f i j)).length = len := by simp
      have := RV.sl (w := w) (M := M0) a.block a.off cap k (fun i j => .int .i64 (f i j)) ((List.range len).map fun i => (List.range k).map fun j => AV.int .i64 (f i j)) (imm_top hb)
        (fun i r j hr hj => by
          have hil : i < len := by have := (List.getElem?_eq_some_iff.1 hr).1; rwa [hlen] at this
          have := (hf i j hil hj).1
          rw [add_spot hs] at this
          rw [Nat.add_assoc]
          exact this)
        (fun i r hr => by
          obtain ⟨i', _, rfl⟩ := List.mem_map.1 (List.mem_of_getElem? hr)
          simp)
        (fun i r j y hr hy => by
          have hil : i < len := by have := (List.getElem?_eq_some_iff.1 hr).1; rwa [hlen] at this
          rw [List.getElem?_map, List.getElem?_range hil] at hr
          cases hr
          have hj : j < k := by have := (List.getElem?_eq_some_iff.1 hy).1; simpa using this
          rw [List.getElem?_map, List.getElem?_range hj] at hy
          cases hy
          exact .int _ _)
        (by rw [hlen]; exact hl)
      rw [hlen] at this
      have ha : a = ⟨a.block, a.off, none⟩ := by cases a; simp only at hs; subst hs; rfl
      rw [ha]
      exact this

/-- A STRUCT OF ONE-CELL FIELDS: its value's cells, and each field's reading. -/
theorem open_fields {r : Reach} {b0 : Nat} {t : TypeId} {fs : Array Field} {v : Value} {d : DataW H} {p : List MemPlace} (hs : P.underlying t = some (.struct fs)) (hone : Go.Deep.oneCellFields P fs = true) (hC : P.cellsOf t = fs.size)
    (hv : Value.okWide P w r b0 t v) (h : DataW.Trod enc P w 0 sp held t v d p) :
    ∃ cs : Array Value, v = .agg cs ∧ cs.size = fs.size ∧ ∀ (j : Nat) (f : Field), fs[j]? = some f → ∃ (n : Nat) (y : DataW H × List MemPlace), DataW.trod enc P w 0 sp held n f.type [cs.getD j undef] = some y := by
  obtain ⟨cs, rfl, hsz⟩ := okWide_struct hs hv
  obtain ⟨fuel, hf⟩ := h
  obtain ⟨ys, n, _, _, hlen, hyl, hg⟩ := DataW.trod_struct hs hf
  refine ⟨cs, rfl, hsz.trans hC, fun j f hfj => ?_⟩
  obtain ⟨ho, hk⟩ := Go.Deep.hone_of hone j f hfj
  have hj : j < fs.size := (Array.getElem?_eq_some_iff.1 hfj).1
  have h1 := hg j f hfj
  have hjc : j < (Value.agg cs).cells.toList.length := by rw [hlen, hC]; exact hj
  rw [ho, hk, drop_take_one hjc, List.getElem?_eq_getElem (by omega)] at h1
  refine ⟨n, ys[j]'(by omega), ?_⟩
  have hjs : j < cs.size := by rw [hsz, hC]; exact hj
  have e : cs.getD j undef = (Value.agg cs).cells.toList[j] := by
    simp [Value.cells, Array.getD, hjs]
  rw [e]
  exact h1
end
end Go.Proofs.Ytngaihdpmoajeaa.Am

namespace Go.Proofs.Ytngaihdpmoajeaa.Am
open Go
section
variable {P : Program} {G : Nat → Option (List AV)}

/-- A call's world, its new objects forgotten. -/
theorem Inv.forget {w w' : World} {M M' : Map} {σ X : Heap} (hi : Inv G w M σ) (he : Ext w M w' M') (hi' : Inv G w' M' (σ ++ X)) : Ext w M w' (M'.cut σ.length) ∧ Inv G w' (M'.cut σ.length) σ := by
  have hn : ∀ r p, M r = some p → r < σ.length := hi.dom
  have he' := he.cut hn
  refine ⟨he', .of (fun q cs hq => (hi.glob q cs hq).mono he') (fun r r' b q q' h1 h2 => hi'.inj r r' b q q' (Map.cut_some h1).2 (Map.cut_some h2).2) (fun r p hr => (Map.cut_some hr).1)
    (fun r b q hr => hi'.lt r b q (Map.cut_some hr).2) (fun b hb => ⟨(hi'.far b hb).1, fun r q hr => (hi'.far b hb).2 r q (Map.cut_some hr).2⟩) (fun r o ho => ?_)⟩
  have hr : r < σ.length := (List.getElem?_eq_some_iff.1 ho).1
  have ho' : (σ ++ X)[r]? = some o := by rw [List.getElem?_append_left hr]; exact ho
  have hold := hi.objOk ho
  have hnew := hi'.objOk ho'
  cases o with
  | cells gn c =>
    obtain ⟨b, cs, e, h1, h2, h3, h4⟩ := hnew
    obtain ⟨_, _, _, _, _, _, k4⟩ := hold
    exact ⟨b, cs, e, by rw [Map.cut_lt hr]; exact h1, h2, h3, fun j x hj => (h4 j x hj).cut ((k4 j x hj).isBelow hn)⟩
  | resv => show M'.cut _ r = none; rw [Map.cut_lt hr]; exact hnew
  | dfr => obtain ⟨b, h1, h2⟩ := hnew; exact ⟨b, by rw [Map.cut_lt hr]; exact h1, h2⟩
  | loop A =>
    obtain ⟨b, L, h1, h2, h3⟩ := hnew
    obtain ⟨_, _, _, _, k3⟩ := hold
    exact ⟨b, L, by rw [Map.cut_lt hr]; exact h1, h2, h3.state, h3.pending, h3.size, fun j x hj => (h3.tmps j x hj).cut ((k3.tmps j x hj).isBelow hn), h3.params, h3.assign, h3.body,
      by rw [Map.cut_lt (hn _ _ k3.defers.1)]; exact h3.defers.1, h3.defers.2⟩
  | gone => trivial

/-- A new slice, told as data: its object is forgotten. -/
theorem RV.msData {w : World} {M : Map} {σ : Heap} {n : Nat} (hi : Inv G w M σ) {v : Value} {r g : Nat} {cells : List AV} (hr : n ≤ r) (hv : RV w M v (.ms 1 r g 0 cells.length cells.length)) (ho : σ[r]? = some (.cells g cells)) (hb : ∀ x ∈ cells, Below n x) :
    RV w (M.cut n) v (.sl 1 (cells.map fun y => [y])) := by
  obtain ⟨b, cs, e, hm, hh, hl, hx⟩ := hi.cells r g cells ho
  cases hv with
  | ms _ _ _ _ _ _ b' capc c' e' hm' hlen hcc hsz hfit =>
    rw [hm] at hm'
    obtain ⟨rfl, _⟩ := Prod.mk.inj (Option.some.inj hm')
    have himm : Imm w (M.cut n) b := ⟨hi.lt r b g hm, fun r' g' h' => by
      obtain ⟨k1, k2⟩ := Map.cut_some h'
      have := hi.inj r r' b g g' hm k2
      omega, hi.notFar hm⟩
    have hlen' : (cells.map fun y => ([y] : List AV)).length = cells.length := by simp
    have := RV.sl (w := w) (M := M.cut n) b 0 capc 1 (fun i j => cs.getD (i + j) Go.undef) (cells.map fun y => [y]) himm
      (fun i rw' j hrw hj => by
        have hil : i < cells.length := by have := (List.getElem?_eq_some_iff.1 hrw).1; rwa [hlen'] at this
        rw [Nat.zero_add, Nat.mul_one]
        exact cell_of_cells hh (by omega))
      (fun i rw' hrw => by
        obtain ⟨y, _, rfl⟩ := List.mem_map.1 (List.mem_of_getElem? hrw); rfl)
      (fun i rw' j z hrw hz => by
        have hil : i < cells.length := by have := (List.getElem?_eq_some_iff.1 hrw).1; rwa [hlen'] at this
        rw [List.getElem?_map] at hrw
        rw [List.getElem?_eq_getElem hil] at hrw
        cases hrw
        cases j with
        | zero =>
          simp at hz; subst hz
          exact (hx i _ (List.getElem?_eq_getElem hil)).cut (hb _ (List.getElem_mem hil))
        | succ j => simp at hz)
      (by rw [hlen']; omega)
    rw [hlen'] at this
    exact this
  | msS _ _ _ _ _ _ b' g' p capc hm' hg =>
    rw [hm] at hm'
    obtain ⟨_, rfl⟩ := Prod.mk.inj (Option.some.inj hm')
    omega

/-- A CALL THAT RETURNS A NEW SLICE: as data. -/
theorem ACall.msData {f : FuncId} {args : List AV} {σ X : Heap} {r g : Nat} {cells : List AV} (h : ACall P G f args σ (.ms 1 r g 0 cells.length cells.length) (σ ++ X)) (hr : σ.length ≤ r) (ho : (σ ++ X)[r]? = some (.cells g cells)) (hb : ∀ x ∈ cells, Below σ.length x) :
    ACall P G f args σ (.sl 1 (cells.map fun y => [y])) σ := by
  refine ⟨h.1, fun w M vs hi hvs => (h.2 w M vs hi hvs).mono ?_⟩
  rintro e w' ⟨u, M', rfl, hu, he, hi'⟩
  obtain ⟨h1, h2⟩ := hi.forget he hi'
  exact ⟨u, _, rfl, RV.msData hi' hr hu ho hb, h1, h2⟩
/-- A call whose new objects nobody holds. -/
theorem ACall.forget {f : FuncId} {args : List AV} {σ X : Heap} {v : AV} (h : ACall P G f args σ v (σ ++ X)) (hv : Below σ.length v) : ACall P G f args σ v σ := h.drop hv

/-- A heap that no world has. -/
def Never (G : Nat → Option (List AV)) (σ : Heap) : Prop := ∀ w M, ¬ Inv G w M σ
theorem never_of {σ : Heap} {r : Nat} {A : ALoop} (h : σ[r]? = some (.loop A)) (hd : σ.length ≤ A.defers) : Never G σ := fun w M hi => by
  obtain ⟨b, L, _, _, hR⟩ := hi.loop r A h
  have := hi.dom _ _ hR.defers.1
  omega
theorem AYield.never {l : Nat} {xs : List AV} {σ σ' : Heap} {v : AV} {A : ALoop} (h : Never G σ) (hl : σ[l]? = some (.loop A)) : AYield P G l xs σ v σ' := ⟨⟨A, hl⟩, fun w M _ _ hi => absurd hi (h w M)⟩
end
end Go.Proofs.Ytngaihdpmoajeaa.Am

namespace Go.Proofs.Ytngaihdpmoajeaa.Am
open Go

/-- Values that point nowhere. -/
inductive Flat : AV → Prop
  | int (k : IntKind) (n : Int) : Flat (.int k n)
  | bool (b : Bool) : Flat (.bool b)
  | nilp : Flat .nilp
  | nilf : Flat .nilf
  | zs : Flat .zs
  | anyb : Flat .anyb
  | junk : Flat .junk
  | tup (xs : List AV) (h : ∀ (j : Nat) (x : AV), xs[j]? = some x → Flat x) : Flat (.tup xs)
  | agg (xs : List AV) (h : ∀ (j : Nat) (x : AV), xs[j]? = some x → Flat x) : Flat (.agg xs)
theorem flat_tup2 {a b : AV} (ha : Flat a) (hb : Flat b) : Flat (.tup [a, b]) := .tup _ fun j x hx => by
  match j, hx with
  | 0, hx => cases hx; exact ha
  | 1, hx => cases hx; exact hb
  | j + 2, hx => simp at hx
theorem RV.flat {w w' : World} {M M' : Map} {v : Value} {x : AV} (hv : RV w M v x) (hf : Flat x) : RV w' M' v x := by
  induction hv with
  | int k i => exact .int k i
  | bool b => exact .bool b
  | nilp => exact .nilp
  | nilf => exact .nilf
  | zs base => exact .zs base
  | anyb b => exact .anyb b
  | junk v => exact .junk v
  | agg vs xs hl _ ih => cases hf with | agg _ h => exact .agg vs xs hl fun j x hj => ih j x hj (h j x hj)
  | tup vs xs hl _ ih => cases hf with | tup _ h => exact .tup vs xs hl fun j x hj => ih j x hj (h j x hj)
  | _ => cases hf

section
variable {P : Program} {G : Nat → Option (List AV)}
/-- All the caller's objects, as data. -/
def Map.opened (M : Map) : Map := ⟨fun _ => none, M.far⟩
theorem Imm.opened {w : World} {M : Map} {b : Nat} (h : Imm w M b) : Imm w M.opened b := ⟨h.1, fun _ _ h => (by cases h), h.2.2⟩
theorem RV.opened {w : World} {M : Map} {v : Value} {x : AV} (hv : RV w M v x) (hb : Below 0 x) : RV w M.opened v x := by
  induction hv with
  | int k i => exact .int k i
  | bool b => exact .bool b
  | nilp => exact .nilp
  | nilf => exact .nilf
  | ref r g off b hr => cases hb with | ref _ _ _ hlt => omega
  | refS r g off b g' p hr hg => cases hb with | ref _ _ _ hlt => omega
  | row b o off f cells hi hc _ ih => cases hb with | row _ _ h => exact .row b o off f cells hi.opened hc fun j x hj => ih j x hj (h j x hj)
  | sl0 base cap size => exact .sl0 base cap size
  | sl b o cap size f rows hi hc hl _ hcap ih => cases hb with | sl _ _ h => exact .sl b o cap size f rows hi.opened hc hl (fun i r j x hi hj => ih i r j x hi hj (h i r j x hi hj)) hcap
  | fl v size k rows _ ih => cases hb with | fl _ _ _ h => exact .fl _ size k rows (ih h)
  | zs base => exact .zs base
  | ms size r g off len cap b capc c e hr hlen hcc hsz hfit => cases hb with | ms _ _ _ _ _ _ hlt => omega
  | msS size r g off len cap b g' p capc hr hg => cases hb with | ms _ _ _ _ _ _ hlt => omega
  | agg vs xs hl _ ih => cases hb with | agg _ h => exact .agg vs xs hl fun j x hj => ih j x hj (h j x hj)
  | tup vs xs hl _ ih => cases hb with | tup _ h => exact .tup vs xs hl fun j x hj => ih j x hj (h j x hj)
  | fn f fs cs xs ys hl1 hl2 _ _ ih1 ih2 => cases hb with | fn _ _ _ h1 h2 => exact .fn f fs cs xs ys hl1 hl2 (fun j x hj => ih1 j x hj (h1 j x hj)) (fun j x hj => ih2 j x hj (h2 j x hj))
  | yf l b hr => cases hb with | yf _ hlt => omega
  | yfS l b g fn fs cs hr hg => cases hb with | yf _ hlt => omega
  | anyb b => exact .anyb b
  | mx size r g off len cap b c e hr hlen hsz hfit => cases hb with | mx _ _ _ _ _ _ hlt => omega
  | mxS size r g off len cap b g' p hr hg => cases hb with | mx _ _ _ _ _ _ hlt => omega
  | junk v => exact .junk v
theorem Inv.opened {w : World} {M : Map} {σ : Heap} (hi : Inv G w M σ) (hG : GBelow G) : Inv G w M.opened [] := by
  refine .of (fun g cs hg => (hi.glob g cs hg).opened (hG g cs hg)) (fun r r' b g g' h1 _ => ?_) (fun r p h1 => ?_) (fun r b g h1 => ?_) (fun b hb => ⟨(hi.far b hb).1, fun r g h => by cases h⟩) (fun r o h1 => by simp at h1)
  · cases h1
  · cases h1
  · cases h1
/-- What the caller sees of a call that took its objects as data. -/
theorem Ext.unopened {w w' : World} {M M' : Map} {σ : Heap} (hi : Inv G w M σ) (he : Ext w M.opened w' M') : Ext w M w' M ∧ ∀ r b g, M r = some (b, g) → w'.heap[b]? = w.heap[b]? := by
  have himm : ∀ r b g, M r = some (b, g) → Imm w M.opened b := fun r b g hr => ⟨hi.lt r b g hr, fun _ _ h => (by cases h), fun hf => (hi.far b hf).2 r g hr⟩
  have hsame : ∀ r b g, M r = some (b, g) → w'.heap[b]? = w.heap[b]? := fun r b g hr => (he.imm b (himm r b g hr)).2
  refine ⟨⟨he.size, he.os, he.tape, he.output, fun b hb => ⟨⟨Nat.lt_of_lt_of_le hb.1 he.size, hb.2⟩, (he.imm b hb.opened).2⟩, fun r b g hr => ⟨b, g, hr, .inr ⟨rfl, rfl⟩⟩, fun r b g c e0 fr hr _ hc => ⟨c, ?_, rfl⟩, fun r b hr hn => ⟨hr, ?_, fun c e0 fr hc => ?_⟩,
    rfl, fun b hb hl => he.far.2 b hb hl⟩, hsame⟩
  · rw [hsame r b g hr]; exact hc
  · exact Nat.lt_of_lt_of_le hn.1 he.size
  · rw [hsame r b 0 hr] at hc; exact hn.2 c e0 fr hc

/-- A slice of the caller's, as data. -/
theorem RV.msOpen {w : World} {M : Map} {σ : Heap} (hi : Inv G w M σ) {v : Value} {r g : Nat} {cells : List AV} (hv : RV w M v (.ms 1 r g 0 cells.length cells.length)) (ho : σ[r]? = some (.cells g cells)) (hb : ∀ x ∈ cells, Below 0 x) :
    RV w M.opened v (.sl 1 (cells.map fun y => [y])) := by
  obtain ⟨b, cs, e, hm, hh, hl, hx⟩ := hi.cells r g cells ho
  cases hv with
  | ms _ _ _ _ _ _ b' capc c' e' hm' hlen hcc hsz hfit =>
    rw [hm] at hm'
    obtain ⟨rfl, _⟩ := Prod.mk.inj (Option.some.inj hm')
    have himm : Imm w M.opened b := ⟨hi.lt r b g hm, fun r' g' h' => (by cases h'), hi.notFar hm⟩
    have hlen' : (cells.map fun y => ([y] : List AV)).length = cells.length := by simp
    have := RV.sl (w := w) (M := M.opened) b 0 capc 1 (fun i j => cs.getD (i + j) Go.undef) (cells.map fun y => [y]) himm
      (fun i rw' j hrw hj => by
        have hil : i < cells.length := by have := (List.getElem?_eq_some_iff.1 hrw).1; rwa [hlen'] at this
        rw [Nat.zero_add, Nat.mul_one]
        exact cell_of_cells hh (by omega))
      (fun i rw' hrw => by
        obtain ⟨y, _, rfl⟩ := List.mem_map.1 (List.mem_of_getElem? hrw); rfl)
      (fun i rw' j z hrw hz => by
        have hil : i < cells.length := by have := (List.getElem?_eq_some_iff.1 hrw).1; rwa [hlen'] at this
        rw [List.getElem?_map] at hrw
        rw [List.getElem?_eq_getElem hil] at hrw
        cases hrw
        cases j with
        | zero =>
          simp at hz; subst hz
          exact (hx i _ (List.getElem?_eq_getElem hil)).opened (hb _ (List.getElem_mem hil))
        | succ j => simp at hz)
      (by rw [hlen']; omega)
    rw [hlen'] at this
    exact this
  | msS _ _ _ _ _ _ b' g' p capc hm' hg =>
    rw [hm] at hm'
    obtain ⟨_, rfl⟩ := Prod.mk.inj (Option.some.inj hm')
    omega
/-- x, taken as data, is x'. -/
def Frz (σ : Heap) (x x' : AV) : Prop := (∃ k, freeze σ k x = some x') ∨ (Below 0 x ∧ x' = x) ∨ ∃ r g cells, x = .ms 1 r g 0 cells.length cells.length ∧ σ[r]? = some (.cells g cells) ∧ (∀ y ∈ cells, Below 0 y) ∧ x' = .sl 1 (cells.map fun y => [y])
theorem RV.frz {w : World} {M : Map} {σ : Heap} (hi : Inv G w M σ) {v : Value} {x x' : AV} (hv : RV w M v x) (hf : Frz σ x x') : RV w M.opened v x' := by
  rcases hf with ⟨k, hk⟩ | ⟨hb, rfl⟩ | ⟨r, g, cells, rfl, ho, hb, rfl⟩
  · exact freeze_ok (Mx := M.opened) hi (fun r b g hr => ⟨fun _ _ h => (by cases h), fun h => (hi.far b h).2 r g hr⟩) k hv hk
  · exact hv.opened hb
  · exact RV.msOpen hi hv ho hb
theorem RVs.frz {w : World} {M : Map} {σ : Heap} (hi : Inv G w M σ) {vs : Array Value} {xs xs' : List AV} (hv : RVs w M vs xs) (hl : xs.length = xs'.length) (hx : ∀ (j : Nat) (x' : AV), xs'[j]? = some x' → ∃ x, xs[j]? = some x ∧ Frz σ x x') : RVs w M.opened vs xs' :=
  ⟨by rw [hv.1, hl], fun j x' hj => by
    obtain ⟨x, h1, h2⟩ := hx j x' hj
    exact (hv.2 j x h1).frz hi h2⟩
/-- A CALL THAT TAKES THE CALLER'S OBJECTS AS DATA. -/
theorem ACall.frz {f : FuncId} {xs xs' : List AV} {σ σ0 : Heap} {v : AV} (h : ACall P G f xs' [] v σ0) (hG : GBelow G) (hv : Flat v) (hl : xs.length = xs'.length) (hx : ∀ (j : Nat) (x' : AV), xs'[j]? = some x' → ∃ x, xs[j]? = some x ∧ Frz σ x x') : ACall P G f xs σ v σ := by
  refine ⟨h.1, fun w M vs hi hvs => (h.2 w M.opened vs (hi.opened hG) (hvs.frz hi hl hx)).mono ?_⟩
  rintro e w' ⟨u, M', rfl, hu, he, _⟩
  obtain ⟨h1, h2⟩ := Ext.unopened hi he
  exact ⟨u, M, rfl, hu.flat hv, h1, hi.keep h1 h2⟩
/-- THE REST OF A BODY, which takes all objects as data. -/
theorem AExec.frz {R : Option Nat → Prop} {c : Code} {a a' a2 : List AV} {σ σ0 : Heap} {e : Exit} (h : AExec P G R c { tmps := a' } [] e { tmps := a2 } σ0) (hG : GBelow G) (hv : ∀ x ∈ a2, Flat x) (hl : a.length = a'.length) (hx : ∀ (j : Nat) (x' : AV), a'[j]? = some x' → ∃ x, a[j]? = some x ∧ Frz σ x x') :
    AExec P G R c { tmps := a } σ e { tmps := a2 } σ := by
  intro r0 hr w M ac Q hi ha hQ
  obtain ⟨bs, m1, m2, m3⟩ := ha.marks
  refine h r0 hr w M.opened ac Q (hi.opened hG) ⟨ha.tmps.frz hi hl hx, bs, m1, m2, fun i r b h => by simp at h⟩ fun w' M' ac' he hi' ha' => ?_
  obtain ⟨h1, h2⟩ := Ext.unopened hi he
  obtain ⟨bs', k1, k2, k3⟩ := ha'.marks
  exact hQ w' M ac' h1 (hi.keep h1 h2) ⟨⟨ha'.tmps.1, fun j x hj => (ha'.tmps.2 j x hj).flat (hv x (List.mem_of_getElem? hj))⟩, bs', k1, k2, fun i r b h => by simp at h⟩
end
end Go.Proofs.Ytngaihdpmoajeaa.Am

namespace Go.Proofs.Ytngaihdpmoajeaa.Am
open Go
section
variable {P : Program} {G : Nat → Option (List AV)}

/-! ### Is a slice nil? -/
/-- What is known of it: of one without room nothing. -/
def hNil (t : TypeId) : Heap → Oper → (Operand → Option AV) → Option (AV × Bool × Heap × Prop) := fun h o ρ => match o.op with
  | .binOp .eql t' x (.const (.slice none 0 0)) _ => if t' = t then match ρ x with
    | some .zs => some (.anyb, true, h, True)
    | some (.ms _ r g _ _ _) => some (.bool false, true, h, (objAt h r g).isSome = true)
    | some (.fl _ _ _) => some (.anyb, true, h, True)
    | some (.sl _ _) => some (.anyb, true, h, True)
    | _ => none
    else none
  | _ => none
theorem eq_nil {t e : TypeId} (hu : P.underlying t = some (.slice e)) (p : Option Addr) (l c : Nat) (w : World) : (Op.equal t (.slice p l c) (.slice none 0 0)).run P w = .ok p.isNone w := by
  show (Op.equalIn (9999 + 1) t _ _).run P w = _
  unfold Op.equalIn
  cases p <;> simp [run_underlying', hu]
theorem step_nil {t e : TypeId} (hu : P.underlying t = some (.slice e)) {a : AAct} {σ : Heap} {o : Oper} {x : Operand} {z : TypeId} {v y : AV} (ho : o.op = .binOp .eql t x (.const (.slice none 0 0)) z) (hx : ev G a.tmps x = some v)
    (hv : ∀ w M u, Inv G w M σ → RV w M u v → ∃ p l c, u = .slice p l c ∧ RV w M (.bool p.isNone) y) : AStep P G a σ o y σ := by
  intro r0 w M ac K Q hi ha hK
  refine ⟨fun f _ => FW_fn r0 f, ?_⟩
  have hnd : ∀ c, o.op ≠ .defer c := fun c' h => by rw [ho] at h; cases h
  rw [Oper.semAt_eq _ _ _ hnd]
  obtain ⟨p, l, c, hu2, hy⟩ := hv w M _ hi (ev_ok hi ha.tmps hx)
  have hrun : (execOp ac.eval o).run P w = .ok (.value (.bool p.isNone)) w := by
    unfold execOp
    simp only [ho]
    have h1 : ac.eval (.const (.slice none 0 0)) = .slice none 0 0 := rfl
    have hg : (eqGuard .eql t x (.const (.slice none 0 0)) (.slice p l c) (.slice none 0 0)).run P w = .ok () w := rfl
    simp only [hu2, h1, Sem.run_bind, hg, Result.andThen_ok, binOp, eq_nil hu]
    rfl
  rw [hrun]
  exact hK _ w M hy (.refl w M) hi
theorem hNil_ok {t e : TypeId} (hu : P.underlying t = some (.slice e)) : HintOk P G (hNil t) := by
  refine ⟨fun h o a m y s h' p hh hp => ?_, fun h o ρ y s h' p hh hp _ => ?_⟩
  · unfold hNil at hh
    split at hh
    · rename_i t' x z ho
      split at hh
      · rename_i ht
        subst ht
        split at hh
        · rename_i hx
          cases hh
          exact step_nil hu ho hx fun w M u _ hr => by cases hr; exact ⟨_, _, _, rfl, .anyb _⟩
        · rename_i hx
          cases hh
          exact step_nil hu ho hx fun w M u hi hr => by
            obtain ⟨c, hc⟩ := Option.isSome_iff_exists.1 hp
            obtain ⟨b, cs, e, hm, hh, hl, hx⟩ := hi.obj hc
            cases hr with
            | ms _ _ _ _ _ _ b' capc c' e' hm' hlen hcc hsz hfit => exact ⟨_, _, _, rfl, .bool _⟩
            | msS _ _ _ _ _ _ b' g' p capc hm' hg =>
              rw [hm] at hm'
              obtain ⟨_, rfl⟩ := Prod.mk.inj (Option.some.inj hm')
              omega
        · rename_i hx
          cases hh
          exact step_nil hu ho hx fun w M u _ hr => by
            cases hr with
            | fl _ _ _ _ hr =>
              generalize (List.range _).map _ = rows at hr
              cases hr with
              | sl0 base cap size => exact ⟨_, _, _, rfl, .anyb _⟩
              | sl b o cap size f rows hb hc hl h hcap => exact ⟨_, _, _, rfl, .anyb _⟩
        · rename_i hx
          cases hh
          exact step_nil hu ho hx fun w M u _ hr => by
            cases hr with
            | sl0 base cap size => exact ⟨_, _, _, rfl, .anyb _⟩
            | sl b o cap size f rows hb hc hl h hcap => exact ⟨_, _, _, rfl, .anyb _⟩
        · cases hh
      · cases hh
    · cases hh
  · unfold hNil at hh
    split at hh
    · split at hh
      · split at hh
        · cases hh; rfl
        · cases hh; rfl
        · cases hh; rfl
        · cases hh; rfl
        · cases hh
      · cases hh
    · cases hh

/-- One that has elements is not. -/
def hNilF (t : TypeId) : Heap → Oper → (Operand → Option AV) → Option (AV × Bool × Heap × Prop) := fun h o ρ => match o.op with
  | .binOp .eql t' x (.const (.slice none 0 0)) _ => if t' = t then match ρ x with
    | some (.fl _ n _) => some (.bool false, true, h, 0 < n)
    | some (.sl _ rows) => some (.bool false, true, h, 0 < rows.length)
    | _ => none
    else none
  | _ => none
theorem hNilF_ok {t e : TypeId} (hu : P.underlying t = some (.slice e)) : HintOk P G (hNilF t) := by
  refine ⟨fun h o a m y s h' p hh hp => ?_, fun h o ρ y s h' p hh hp _ => ?_⟩
  · unfold hNilF at hh
    split at hh
    · rename_i t' x z ho
      split at hh
      · rename_i ht
        subst ht
        split at hh
        · rename_i size n rows hx
          cases hh
          exact step_nil hu ho hx fun w M u _ hr => by
            cases hr with
            | fl _ _ _ _ hr =>
              generalize hrows : (List.range n).map rows = rws at hr
              have hlen : rws.length = n := by rw [← hrows]; simp
              cases hr with
              | sl0 base cap size => simp at hlen; omega
              | sl b o cap size f rows hb hc hl h hcap => exact ⟨_, _, _, rfl, .bool _⟩
        · rename_i size rows hx
          cases hh
          exact step_nil hu ho hx fun w M u _ hr => by
            cases hr with
            | sl0 base cap size => simp at hp
            | sl b o cap size f rows hb hc hl h hcap => exact ⟨_, _, _, rfl, .bool _⟩
        · cases hh
      · cases hh
    · cases hh
  · unfold hNilF at hh
    split at hh
    · split at hh
      · split at hh
        · cases hh; rfl
        · cases hh; rfl
        · cases hh
      · cases hh
    · cases hh

/-! ### A truth value that is not known -/
theorem RAct.known {w : World} {M : Map} {ac : Act} {a : List AV} {m : List Nat} (ha : RAct w M ac { tmps := a, marks := m }) {i : Nat} (hi : a[i]? = some .anyb) : ∃ b, ac.tmps.getD i undef = .bool b ∧ RAct w M ac { tmps := a.set i (.bool b), marks := m } := by
  have hv := ha.tmps.2 i .anyb hi
  generalize hu : ac.tmps.getD i undef = u at hv
  cases hv with
  | anyb b =>
    refine ⟨b, rfl, ⟨by rw [ha.tmps.1]; simp, fun j x hj => ?_⟩, ha.marks⟩
    rw [List.getElem?_set] at hj
    split at hj
    · rename_i hij
      subst hij
      split at hj
      · cases hj; rw [hu]; exact .bool b
      · cases hj
    · exact ha.tmps.2 j x hj
/-- A truth value that is not known decides between a return and going on. -/
theorem AExec.fork {R : Option Nat → Prop} {x y n z : Code} {a a1 a2 : List AV} {a' : AAct} {σ σ1 σ2 σ' : Heap} {e : Exit} {i : Nat} (hx : AExec P G R x { tmps := a } σ .normal { tmps := a1 } σ1) (hi : a1[i]? = some .anyb) (he : e ≠ .normal)
    (ht : AExec P G R y { tmps := a1.set i (.bool true) } σ1 e a' σ') (hf : AExec P G R n { tmps := a1.set i (.bool false) } σ1 .normal { tmps := a2 } σ2) (hz : AExec P G R z { tmps := a2 } σ2 e a' σ') :
    AExec P G R (.seq (.seq x (.cond (.tmp i) y n)) z) { tmps := a } σ e a' σ' :=
  fun r0 hr w M ac Q hinv ha hQ => wpIn_seq (wpIn_seq (hx r0 hr w M ac _ hinv ha fun w1 M1 ac1 h1 hi1 ha1 => by
    obtain ⟨b, hb, hab⟩ := ha1.known hi
    refine wpIn_cond (t := b) hb ?_
    cases b with
    | true =>
      refine ht r0 hr w1 M1 ac1 _ hi1 hab fun w2 M2 ac2 h2 hi2 ha2 => ?_
      have := hQ w2 M2 ac2 (h1.trans h2) hi2 ha2
      cases e <;> first | exact this | exact absurd rfl he
    | false =>
      exact hf r0 hr w1 M1 ac1 _ hi1 hab fun w2 M2 ac2 h2 hi2 ha2 => hz r0 hr w2 M2 ac2 _ hi2 ha2 fun w3 M3 ac3 h3 hi3 ha3 => hQ w3 M3 ac3 ((h1.trans h2).trans h3) hi3 ha3))
end
end Go.Proofs.Ytngaihdpmoajeaa.Am

namespace Go.Proofs.Ytngaihdpmoajeaa.Am
open Go
section
variable {P : Program} {G : Nat → Option (List AV)}

/-- What one operation is worth, whatever has been carried out. H: the heap, by what has been carried out. -/
def WorthM (P : Program) (G : Nat → Option (List AV)) (H : (Nat → Bool) → Heap) (ops : List Oper) (marks : List Nat) (i : Nat) (o : Oper) (v : List AV) (y : AV) : Prop :=
  ∀ f : Nat → Bool, Closed ops f → (∀ j, ops.length ≤ j → f j = false) → f i = false → (∀ e ∈ o.after, Region.binds .any e = true → f e.on = true) →
    (awanted ops.toArray v o = some true ∧ AStep P G { tmps := v, marks := marks } (H f) o y (H fun j => decide (j = i) || f j)) ∨ (awanted ops.toArray v o = some false ∧ y = .tup [] ∧ H (fun j => decide (j = i) || f j) = H f)

theorem WorthM.ok {H : (Nat → Bool) → Heap} {ops : List Oper} {marks : List Nat} {o : Oper} {v : List AV} {y : AV} {i : Nat} (h : WorthM P G H ops marks i o v y) {f : Nat → Bool} (hc : Closed ops f) (hlen : ∀ j, ops.length ≤ j → f j = false) (hu : f i = false) (hp : ∀ e ∈ o.after, Region.binds .any e = true → f e.on = true)
    {r0 : Option Nat} {w : World} {M : Map} {ac : Act} {K : Act → World → Prop} {Q : Exit → Act → World → Prop} (ho : ops.toArray[i]? = some o)
    (hi : Inv G w M (H f)) (ha : RAct w M ac { tmps := v, marks := marks }) (hK : ∀ u w' M', RV w' M' u y → Ext w M w' M' → Inv G w' M' (H fun j => decide (j = i) || f j) → K (ac.put o.dst u) w') : wpOpIn (FW r0) 0 P ops.toArray Q i K ac w := by
  unfold wpOpIn
  simp only [ho]
  rcases h f hc hlen hu hp with ⟨hw, hs⟩ | ⟨hw, rfl, he⟩
  · rw [if_pos (awanted_ok ha.tmps hw)]
    exact hs r0 w M ac K Q hi ha hK
  · rw [if_neg (by rw [awanted_ok ha.tmps hw]; simp)]
    exact ⟨fun f _ => FW_fn r0 f, hK undef w M (.undef w M) (.refl w M) (by rw [he]; exact hi)⟩

theorem move_go {H : (Nat → Bool) → Heap} {ops : List Oper} {marks : List Nat} (hd : okDraw ops = true) (hc : okStill ops 0 ops.length = true) {a0 vs : List AV}
    (hv : ∀ i o, ops[i]? = some o → ∃ (v : List AV) (y : AV), vs[i]? = some y ∧ v.length = a0.length ∧ WorthM P G H ops marks i o v y ∧
      ∀ t x, v[t]? = some x → x = .junk ∨ ((o.looksAt ops.toArray).contains t = true ∧ frameAt ops vs a0 (fun j => decide (j < i)) t = some x))
    {r0 : Option Nat} {Q : Exit → Act → World → Prop} {w0 : World} {M0 : Map}
    (hK : ∀ (fuel : Nat) (listed : Array Bool) (w : World) (M : Map) (ac : Act), Ls ops listed fuel → (∀ j, j < ops.length → lf listed j = true) → Ext w0 M0 w M → Inv G w M (H fun j => decide (j < ops.length)) →
      Fr w M ac marks a0.length (frameAt ops vs a0 (fun j => decide (j < ops.length))) → wpAnyIn (FW r0) 0 P .any ops.toArray Q fuel listed ac w) :
    ∀ (fuel : Nat) (listed : Array Bool) (w : World) (M : Map) (ac : Act), Ls ops listed fuel → (∀ j, ops.length ≤ j → lf listed j = false) → Ext w0 M0 w M → Inv G w M (H (lf listed)) →
      Fr w M ac marks a0.length (frameAt ops vs a0 (lf listed)) → wpAnyIn (FW r0) 0 P .any ops.toArray Q fuel listed ac w := by
  have hap := okDraw_apart hd
  have last : ∀ (fuel : Nat) (listed : Array Bool) (w : World) (M : Map) (ac : Act), Ls ops listed fuel → (∀ j, ops.length ≤ j → lf listed j = false) → Ext w0 M0 w M → Inv G w M (H (lf listed)) →
      Fr w M ac marks a0.length (frameAt ops vs a0 (lf listed)) → (∀ j, j < ops.length → lf listed j = true) → wpAnyIn (FW r0) 0 P .any ops.toArray Q fuel listed ac w := by
    intro fuel listed w M ac hl hn he hi ha hall
    have hf : lf listed = fun j => decide (j < ops.length) := by
      funext j
      by_cases hj : j < ops.length
      · rw [hall j hj]; simp [hj]
      · rw [hn j (by omega)]; simp [hj]
    rw [hf] at hi ha
    exact hK fuel listed w M ac hl hall he hi ha
  intro fuel
  induction fuel with
  | zero =>
    intro listed w M ac hl hn he hi ha
    refine last 0 listed w M ac hl hn he hi ha fun j hj => ?_
    cases hu : lf listed j with
    | true => rfl
    | false => have := count_lt (by rw [hl.size]; exact hj) hu; have := hl.fuel; have := hl.size; omega
  | succ fuel ih =>
    intro listed w M ac hl hn he hi ha
    by_cases hall : ∀ j, j < ops.length → lf listed j = true
    · exact last (fuel + 1) listed w M ac hl hn he hi ha hall
    · simp only [Classical.not_forall] at hall
      obtain ⟨u, hu, hun⟩ := hall
      have hun : lf listed u = false := by simpa using hun
      refine ⟨fun hnil => absurd hnil (ready_ne hd hl.size hu hun), fun i hir => ?_⟩
      obtain ⟨hiu, o, ho, hp⟩ := ready_spec hir
      have hin : i < ops.length := (List.getElem?_eq_some_iff.1 ho).1
      have hilt : i < listed.size := by rw [hl.size]; omega
      obtain ⟨v, y, hy, hvl, hwo, hvt⟩ := hv i o ho
      have hoa : ops.toArray[i]? = some o := by simpa using ho
      have hset : lf (listed.setIfInBounds i true) = fun j => decide (j = i) || lf listed j := funext fun j => lf_set hilt
      refine hwo.ok hl.closed hn hiu hp hoa hi (ha.act_of hvl fun t x ht => ?_) fun u' w' M' hu' he' hi' => ?_
      · rcases hvt t x ht with rfl | ⟨hlook, hfr⟩
        · exact .inl rfl
        · refine .inr ?_
          rw [← hfr]
          refine frameAt_congr fun j hj => ⟨?_, fun _ => rfl⟩
          by_cases hjn : j < ops.length
          · by_cases hji : j = i
            · subst hji; simp [hiu]
            · have hsp := okStill_spec hc (Nat.zero_le i) (by omega) (Nat.zero_le j) (by omega) (Ne.symm hji) ho hj hlook
              by_cases hlt : j < i
              · have := befores_of ho hl.closed hp (hsp.1 hlt)
                simp [this, hlt]
              · have hgt : i < j := by omega
                have : lf listed j = false := by
                  cases hlj : lf listed j with
                  | false => rfl
                  | true =>
                    obtain ⟨oj, hoj⟩ : ∃ oj, ops[j]? = some oj := ⟨_, List.getElem?_eq_getElem hjn⟩
                    have := befores_of hoj hl.closed (fun e he hbd => hl.closed j oj hoj hlj e he hbd) (hsp.2 hgt)
                    rw [hiu] at this; cases this
                simp [this, hlt]
          · rw [hn j (by omega)]
            have : ¬ (j < i) := by omega
            simp [this]
      · refine ih (listed.setIfInBounds i true) w' M' _ (hl.set ho hiu hp) (fun j hj => ?_) (he.trans he') (by rw [hset]; exact hi') (ha.put he' hu' fun t x ht => ?_)
        · rw [lf_set hilt, hn j hj]
          have : j ≠ i := by omega
          simp [this]
        · by_cases hdt : o.dst = some t
          · have hdi : dstAt ops i = some t := by unfold dstAt; rw [ho]; exact hdt
            rw [frameAt_of hap hdi, lf_set hilt] at ht
            simp only [decide_true, Bool.true_or, if_true] at ht
            split at ht
            · rename_i hlt
              rw [hy] at ht
              cases ht
              exact .inl ⟨hdt, rfl, hlt⟩
            · cases ht
          · refine .inr ⟨hdt, ?_⟩
            rw [← ht]
            refine frameAt_congr fun j hj => ⟨?_, fun _ => rfl⟩
            have hji : j ≠ i := fun e => by
              subst e
              unfold dstAt at hj
              rw [ho] at hj
              exact hdt hj
            rw [lf_set hilt]
            simp [hji]
/-- A STATEMENT THAT LEAVES ITS ORDER OPEN, some of whose operations change the heap. -/
theorem AExec.drawM {R : Option Nat → Prop} {id : Nat} {H : (Nat → Bool) → Heap} {ops : List Oper} {marks : List Nat} {a a' vs : List AV} (hm : P.follows .mixedOrders = true) (hd : okDraw ops = true) (hc : okStill ops 0 ops.length = true)
    (hv : ∀ i o, ops[i]? = some o → ∃ (v : List AV) (y : AV), vs[i]? = some y ∧ v.length = a.length ∧ WorthM P G H ops marks i o v y ∧
      ∀ t x, v[t]? = some x → x = .junk ∨ ((o.looksAt ops.toArray).contains t = true ∧ frameAt ops vs a (fun j => decide (j < i)) t = some x))
    (hl : a'.length = a.length) (ha' : ∀ t x, a'[t]? = some x → x = .junk ∨ frameAt ops vs a (fun j => decide (j < ops.length)) t = some x) :
    AExec P G R (.region id ops.toArray true) { tmps := a, marks := marks } (H fun _ => false) .normal { tmps := a', marks := marks } (H fun j => decide (j < ops.length)) := by
  intro r0 _ w M ac Q hi ha hQ
  refine wpIn_region_any hm ?_
  have h0 : ∀ j, lf (Array.replicate ops.toArray.size false) j = false := fun j => by
    unfold lf
    simp [Array.getD_eq_getD_getElem?, Array.getElem?_replicate]
    split <;> simp
  have hf0 : lf (Array.replicate ops.toArray.size false) = fun _ => false := funext h0
  refine move_go (H := H) (marks := marks) hd hc hv (w0 := w) (M0 := M) (fun fuel listed w' M' ac' hls hall he hi' hfr => ?_) _ _ _ M ac ⟨by simp, fun i o _ hlt => ?_, by simp⟩ (fun j _ => h0 j) (.drew w M) (by rw [hf0]; exact hi.drew) ?_
  · refine wpAnyIn_done ?_ (hQ w' M' ac' he hi' (hfr.act_of hl ha')) fuel
    apply List.eq_nil_iff_forall_not_mem.2
    intro i hir
    obtain ⟨hiu, o, ho, _⟩ := ready_spec hir
    rw [hall i (List.getElem?_eq_some_iff.1 ho).1] at hiu
    cases hiu
  · rw [h0] at hlt; cases hlt
  · have := Fr.of (ha.mono (.drew w M))
    refine ⟨this.act, fun t x ht => this.val t x ?_⟩
    rw [hf0] at ht
    rw [← ht]
    unfold frameAt
    split <;> simp
end
end Go.Proofs.Ytngaihdpmoajeaa.Am

namespace Go.Proofs.Ytngaihdpmoajeaa.Am
open Go
section
variable {P : Program} {G : Nat → Option (List AV)}

/-- The walk in the order of the text. -/
inductive AOpsM (P : Program) (G : Nat → Option (List AV)) (H : (Nat → Bool) → Heap) (ops : List Oper) (marks : List Nat) : Nat → List Oper → List AV → List AV → Prop where
  | nil (n : Nat) (a : List AV) : AOpsM P G H ops marks n [] a a
  | step {n : Nat} {o : Oper} {rest : List Oper} {a a' : List AV} {y : AV} (h : WorthM P G H ops marks n o (masked (o.looksAt ops.toArray) a) y) (k : AOpsM P G H ops marks (n + 1) rest (AAct.put { tmps := a } o.dst y).tmps a') : AOpsM P G H ops marks n (o :: rest) a a'
/-- The walk gives a value to each operation. -/
theorem AOpsM.vals {H : (Nat → Bool) → Heap} {ops : List Oper} {marks : List Nat} (hap : Apart ops) {a0 : List AV} : ∀ {n : Nat} {l : List Oper} {a a' : List AV}, AOpsM P G H ops marks n l a a' → ∀ (pre : List AV), pre.length = n → pre.length + l.length ≤ ops.length →
    (∀ k, k < l.length → l[k]? = ops[pre.length + k]?) → a.length = a0.length → (∀ t, a[t]? = frameAt ops pre a0 (fun j => decide (j < pre.length)) t) →
    ∃ vs : List AV, vs.length = pre.length + l.length ∧ (∀ i, i < pre.length → vs[i]? = pre[i]?) ∧ a'.length = a0.length ∧ (∀ t, a'[t]? = frameAt ops vs a0 (fun j => decide (j < vs.length)) t) ∧
      ∀ i o, pre.length ≤ i → i < vs.length → ops[i]? = some o → ∃ (v : List AV) (y : AV), vs[i]? = some y ∧ v.length = a0.length ∧ WorthM P G H ops marks i o v y ∧
        ∀ t x, v[t]? = some x → x = .junk ∨ ((o.looksAt ops.toArray).contains t = true ∧ frameAt ops vs a0 (fun j => decide (j < i)) t = some x) := by
  intro n l a a' h
  have main : ∀ {n : Nat} {o : Oper} {rest : List Oper} {a a' : List AV} {y : AV}, WorthM P G H ops marks n o (masked (o.looksAt ops.toArray) a) y →
      (∀ (pre : List AV), pre.length = n + 1 → pre.length + rest.length ≤ ops.length →
        (∀ k, k < rest.length → rest[k]? = ops[pre.length + k]?) → (AAct.put { tmps := a } o.dst y).tmps.length = a0.length → (∀ t, (AAct.put { tmps := a } o.dst y).tmps[t]? = frameAt ops pre a0 (fun j => decide (j < pre.length)) t) →
        ∃ vs : List AV, vs.length = pre.length + rest.length ∧ (∀ i, i < pre.length → vs[i]? = pre[i]?) ∧ a'.length = a0.length ∧ (∀ t, a'[t]? = frameAt ops vs a0 (fun j => decide (j < vs.length)) t) ∧
          ∀ i o, pre.length ≤ i → i < vs.length → ops[i]? = some o → ∃ (v : List AV) (y : AV), vs[i]? = some y ∧ v.length = a0.length ∧ WorthM P G H ops marks i o v y ∧
            ∀ t x, v[t]? = some x → x = .junk ∨ ((o.looksAt ops.toArray).contains t = true ∧ frameAt ops vs a0 (fun j => decide (j < i)) t = some x)) →
      ∀ (pre : List AV), pre.length = n → pre.length + (o :: rest).length ≤ ops.length →
        (∀ k, k < (o :: rest).length → (o :: rest)[k]? = ops[pre.length + k]?) → a.length = a0.length → (∀ t, a[t]? = frameAt ops pre a0 (fun j => decide (j < pre.length)) t) →
        ∃ vs : List AV, vs.length = pre.length + (o :: rest).length ∧ (∀ i, i < pre.length → vs[i]? = pre[i]?) ∧ a'.length = a0.length ∧ (∀ t, a'[t]? = frameAt ops vs a0 (fun j => decide (j < vs.length)) t) ∧
          ∀ i o, pre.length ≤ i → i < vs.length → ops[i]? = some o → ∃ (v : List AV) (y : AV), vs[i]? = some y ∧ v.length = a0.length ∧ WorthM P G H ops marks i o v y ∧
            ∀ t x, v[t]? = some x → x = .junk ∨ ((o.looksAt ops.toArray).contains t = true ∧ frameAt ops vs a0 (fun j => decide (j < i)) t = some x) := by
    intro n o rest a a' y hwo ih pre hb hlen hl hal ha
    subst hb
    simp only [List.length_cons] at hlen hl
    have ho : ops[pre.length]? = some o := by have := hl 0 (by omega); simpa using this.symm
    have key := ih (pre ++ [y]) (by simp) (by simp; omega) (fun k hk => by have := hl (k + 1) (by omega); simp only [List.getElem?_cons_succ] at this; rw [this]; congr 1; simp; omega) (by rw [put_length]; exact hal) (fun t => ?_)
    · obtain ⟨vs, h1, h2, h3, h4, h5⟩ := key
      simp only [List.length_append, List.length_singleton] at h1 h2
      refine ⟨vs, by rw [h1]; simp; omega, fun i hi => ?_, h3, h4, fun i o' hi hi' ho' => ?_⟩
      · rw [h2 i (by omega), List.getElem?_append_left hi]
      · by_cases hie : i = pre.length
        · subst hie
          rw [ho] at ho'
          cases ho'
          refine ⟨masked (o.looksAt ops.toArray) a, y, ?_, by simp [masked, hal], hwo, fun t x hx => ?_⟩
          · rw [h2 _ (by omega)]; simp
          · simp only [masked, List.getElem?_mapIdx, Option.map_eq_some_iff] at hx
            obtain ⟨x0, hx0, rfl⟩ := hx
            split
            · rename_i hc
              refine .inr ⟨hc, ?_⟩
              rw [ha t] at hx0
              rw [← hx0]
              exact frameAt_congr fun j _ => ⟨rfl, fun hj => by
                have hj := of_decide_eq_true hj
                rw [h2 j (by omega), List.getElem?_append_left hj]⟩
            · exact .inl rfl
        · exact h5 i o' (by simp; omega) hi' ho'
    · rw [put_get]
      by_cases hd : o.dst = some t
      · rw [if_pos hd]
        have hdj : dstAt ops pre.length = some t := by unfold dstAt; rw [ho]; exact hd
        rw [frameAt_of hap hdj]
        simp [hal]
      · rw [if_neg hd, ha t]
        refine frameAt_congr fun j hj => ?_
        have hne : j ≠ pre.length := fun e => by
          subst e
          unfold dstAt at hj
          rw [ho] at hj
          exact hd hj
        refine ⟨?_, fun hl => ?_⟩
        · apply decide_eq_decide.2
          simp only [List.length_append, List.length_singleton]
          omega
        · have hl := of_decide_eq_true hl
          rw [List.getElem?_append_left hl]
  induction h with
  | nil n a =>
    intro pre hb hlen _ hal ha
    refine ⟨pre, rfl, fun _ _ => rfl, hal, fun t => by rw [ha t], fun i o hi hi' ho => ?_⟩
    omega
  | step hw _ ih => exact main hw ih

theorem AOpsM.draw {R : Option Nat → Prop} {id : Nat} {H : (Nat → Bool) → Heap} {ops : List Oper} {marks : List Nat} {a a' : List AV} (hm : P.follows .mixedOrders = true) (hd : okDraw ops = true) (hc : okStill ops 0 ops.length = true) (h : AOpsM P G H ops marks 0 ops a a') :
    AExec P G R (.region id ops.toArray true) { tmps := a, marks := marks } (H fun _ => false) .normal { tmps := a', marks := marks } (H fun j => decide (j < ops.length)) := by
  obtain ⟨vs, h1, _, h3, h4, h5⟩ := h.vals (okDraw_apart hd) (a0 := a) [] rfl (by simp) (fun k _ => by simp) rfl (fun t => by
    unfold frameAt
    split <;> simp)
  simp only [List.length_nil, Nat.zero_add] at h1
  refine AExec.drawM (vs := vs) hm hd hc (fun i o ho => h5 i o (Nat.zero_le i) (by rw [h1]; exact (List.getElem?_eq_some_iff.1 ho).1) ho) h3 fun t x ht => .inr ?_
  rw [h4 t, h1] at ht
  exact ht
end
/-! ### The machine -/
/-- How many of Q are carried out. -/
def nQ (Q : List Nat) (f : Nat → Bool) : Nat := (Q.filter f).length
/-- How many of Q may be carried out when the i-th operation's turn comes. -/
def rngM (ops : List Oper) (Q : List Nat) (i : Nat) : List Nat :=
  (List.range (Q.length + 1)).filter fun c => Nat.ble (nQ Q fun q => ((befores ops []).getD i 0).testBit q) c && Nat.ble c (nQ Q fun q => !Nat.beq q i && !((befores ops []).getD q 0).testBit i)
def upM (Q : List Nat) (i c : Nat) : Nat := match Q.contains i with
  | true => c + 1
  | false => c
theorem nQ_mono {f g : Nat → Bool} : ∀ (Q : List Nat), (∀ q ∈ Q, f q = true → g q = true) → nQ Q f ≤ nQ Q g
  | [], _ => Nat.le_refl _
  | q :: r, h => by
    have ih := nQ_mono (f := f) (g := g) r fun x hx => h x (by simp [hx])
    unfold nQ at ih ⊢
    rw [List.filter_cons, List.filter_cons]
    cases hf : f q with
    | false =>
      simp only [Bool.false_eq_true, if_false]
      split
      · simp only [List.length_cons]; omega
      · exact ih
    | true =>
      rw [h q (by simp) hf]
      simp only [if_true, List.length_cons]
      omega
theorem nQ_le (Q : List Nat) (f : Nat → Bool) : nQ Q f ≤ Q.length := List.length_filter_le _ _
theorem nQ_up {f : Nat → Bool} {i : Nat} (hi : f i = false) : ∀ (Q : List Nat), Q.Nodup → nQ Q (fun j => decide (j = i) || f j) = upM Q i (nQ Q f)
  | [], _ => rfl
  | q :: r, h => by
    have ih := nQ_up hi r (List.nodup_cons.1 h).2
    have hq := (List.nodup_cons.1 h).1
    unfold nQ upM at ih ⊢
    rw [List.filter_cons, List.filter_cons, List.contains_cons]
    by_cases he : q = i
    · subst he
      have hc : r.contains q = false := by
        rw [← Bool.not_eq_true, List.contains_iff_mem]
        exact hq
      rw [hc] at ih
      simp only [decide_true, Bool.true_or, if_true, hi, Bool.false_eq_true, if_false, List.length_cons, ih, beq_self_eq_true]
    · have hb : (i == q) = false := beq_false_of_ne fun h => he h.symm
      simp only [he, decide_false, Bool.false_or, hb]
      cases hf : f q with
      | true =>
        simp only [if_true, List.length_cons, ih]
        cases r.contains i <;> rfl
      | false =>
        simp only [Bool.false_eq_true, if_false, ih]
section
variable (P : Program) (G : Nat → Option (List AV)) (E : Env)
def xAgree (call : CallT) (hs : Nat → Heap) (Q : List Nat) (ρ : Operand → Option AV) (st : St) (o : Oper) (i : Nat) (y : AV) : List Nat → Tree St → Tree St
  | [], k => k
  | c :: cs, k => (xstep P E call ρ { st with h := hs c } o).bind fun q => .need (q.1 = y ∧ q.2.2 = hs (upM Q i c)) (xAgree call hs Q ρ st o i y cs k)
def xMoveL (call : CallT) (hs : Nat → Heap) (ops : List Oper) (Q : List Nat) : Nat → List Oper → St → Tree St
  | _, [], st => .leaf st
  | i, o :: r, st => xguard ops.toArray st o fun b st' =>
    match b with
    | true =>
      match rngM ops Q i with
      | [] => .fail
      | c :: cs => (xstep P E call (st'.evM G (o.looksAt ops.toArray)) { st' with h := hs c } o).bind fun q => .need (q.2.2 = hs (upM Q i c)) (xAgree P E call hs Q (st'.evM G (o.looksAt ops.toArray)) st' o i q.1 cs (xMoveL call hs ops Q (i + 1) r (st'.put o.dst q.1 q.2.1 st'.h)))
    | false =>
      match Q.contains i with
      | true => .fail
      | false => xMoveL call hs ops Q (i + 1) r (st'.put o.dst (.tup []) false st'.h)
/-- The statement, carried out; the heap at its head is hs 0. -/
def xMove (call : CallT) (hs : Nat → Heap) (ops : List Oper) (Q : List Nat) (st : St) : Tree St :=
  match okDraw ops && okStill ops 0 ops.length && decide Q.Nodup && Q.all fun q => Nat.blt q ops.length with
  | true => .need (st.h = hs 0) ((xMoveL P G E call hs ops Q 0 ops st).bind fun st' => .leaf { st' with h := hs Q.length })
  | false => .fail
end
section
variable {P : Program} {G : Nat → Option (List AV)} {E : Env}
theorem xAgree_ok {call : CallT} (hcl : ClOk P G E) (hcall : CallOk P G call) {hs : Nat → Heap} {Q : List Nat} {a : List AV} {m : List Nat} {st : St} {o : Oper} {i : Nat} {y : AV} {k : Tree St} {r : St} : ∀ (cs : List Nat), (xAgree P E call hs Q (ev G a) st o i y cs k).sel = some r →
    (∀ c ∈ cs, AStep P G { tmps := a, marks := m } (hs c) o y (hs (upM Q i c))) ∧ k.sel = some r
  | [], h => ⟨fun _ hc => (by cases hc), h⟩
  | c :: cs, h => by
    unfold xAgree at h
    obtain ⟨⟨y2, s2, h2⟩, h3, h4⟩ := Tree.of_bind h
    obtain ⟨⟨h5, h6⟩, h7⟩ := Tree.of_need h4
    simp only at h5 h6
    subst h5 h6
    have hs1 := xstep_ok (m := m) hcl hcall h3
    obtain ⟨h8, h9⟩ := xAgree_ok hcl hcall cs h7
    refine ⟨fun c' hc' => ?_, h9⟩
    rcases List.mem_cons.1 hc' with rfl | hc'
    · exact hs1
    · exact h8 c' hc'
theorem in_rng {ops : List Oper} {Q : List Nat} {i : Nat} {o : Oper} (ho : ops[i]? = some o) (hQ : ∀ q ∈ Q, q < ops.length) {f : Nat → Bool} (hc : Closed ops f) (hu : f i = false) (hp : ∀ e ∈ o.after, Region.binds .any e = true → f e.on = true) : nQ Q f ∈ rngM ops Q i := by
  unfold rngM
  refine List.mem_filter.2 ⟨List.mem_range.2 (by have := nQ_le Q f; omega), ?_⟩
  rw [Bool.and_eq_true, Nat.ble_eq, Nat.ble_eq]
  refine ⟨nQ_mono Q fun q _ hb => befores_of ho hc hp hb, nQ_mono Q fun q hq hb => ?_⟩
  have hqi : Nat.beq q i = false := by
    cases he : Nat.beq q i with
    | false => rfl
    | true =>
      rw [Nat.eq_of_beq_eq_true he, hu] at hb
      cases hb
  rw [hqi]
  cases hm : ((befores ops []).getD q 0).testBit i with
  | false => rfl
  | true =>
    obtain ⟨oq, hoq⟩ : ∃ oq, ops[q]? = some oq := ⟨_, List.getElem?_eq_getElem (hQ q hq)⟩
    have := befores_of hoq hc (fun e he hbd => hc q oq hoq hb e he hbd) hm
    rw [hu] at this; cases this
theorem xMoveL_ok {call : CallT} (hcl : ClOk P G E) (hcall : CallOk P G call) {hs : Nat → Heap} {ops : List Oper} {Q : List Nat} (hn : Q.Nodup) (hQ : ∀ q ∈ Q, q < ops.length) {m : List Nat} : ∀ (l : List Oper) (i : Nat) (st st' : St), (∀ k, k < l.length → l[k]? = ops[i + k]?) → (xMoveL P G E call hs ops Q i l st).sel = some st' →
    AOpsM P G (fun f => hs (nQ Q f)) ops m i l st.a st'.a ∧ st'.n = st.n
  | [], i, st, st', _, h => by cases h; exact ⟨.nil _ _, rfl⟩
  | o :: r, i, st, st', hl, h => by
    have ho : ops[i]? = some o := by have := hl 0 (by simp); simpa using this.symm
    have hlr : ∀ k, k < r.length → r[k]? = ops[i + 1 + k]? := fun k hk => by
      have := hl (k + 1) (by simp; omega)
      simp only [List.getElem?_cons_succ] at this
      rw [this]; congr 1; omega
    unfold xMoveL at h
    obtain ⟨b, st1, h1, h2, h3, hw, hk⟩ := xguard_ok h
    cases b with
    | true =>
      simp only at hk
      split at hk
      · cases hk
      · rename_i c cs hrng
        obtain ⟨⟨y, s, h'⟩, hq', hr⟩ := Tree.of_bind hk
        obtain ⟨he, hr⟩ := Tree.of_need hr
        simp only at he
        subst he
        rw [← St.evM_eq] at hq' hr
        have hs1 := xstep_ok (m := m) hcl hcall hq'
        obtain ⟨hs2, hr⟩ := xAgree_ok (m := m) hcl hcall cs hr
        obtain ⟨ih, ihn⟩ := xMoveL_ok hcl hcall hn hQ r (i + 1) _ st' hlr hr
        refine ⟨.step (y := y) (fun f hc hlen hu hp => .inl ⟨by rw [awanted_masked]; exact hw, ?_⟩) ?_, by rw [ihn, St.put_n, h3]⟩
        · have hin := in_rng ho hQ hc hu hp
          rw [hrng] at hin
          show AStep P G _ (hs (nQ Q f)) o y (hs (nQ Q fun j => decide (j = i) || f j))
          rw [nQ_up hu Q hn, ← h1]
          rcases List.mem_cons.1 hin with he | hin
          · rw [he]; exact hs1
          · exact hs2 _ hin
        · have hp := St.put_a st1 o.dst y s st1.h []
          rw [← h1, hp]
          exact ih
    | false =>
      simp only at hk
      split at hk
      · cases hk
      · rename_i hni
        obtain ⟨ih, ihn⟩ := xMoveL_ok hcl hcall hn hQ r (i + 1) _ st' hlr hk
        refine ⟨.step (y := .tup []) (fun f hc hlen hu hp => .inr ⟨by rw [awanted_masked]; exact hw, rfl, ?_⟩) ?_, by rw [ihn, St.put_n, h3]⟩
        · show hs (nQ Q fun j => decide (j = i) || f j) = hs (nQ Q f)
          rw [nQ_up hu Q hn]
          unfold upM
          rw [hni]
        · have hp := St.put_a st1 o.dst (.tup []) false st1.h []
          rw [← h1, hp]
          exact ih
theorem xMove_ok {R : Option Nat → Prop} (hm : P.follows .mixedOrders = true) (hcl : ClOk P G E) {call : CallT} (hcall : CallOk P G call) {hs : Nat → Heap} {id : Nat} {ops : List Oper} {Q : List Nat} {m : List Nat} {st st' : St} (h : (xMove P G E call hs ops Q st).sel = some st') :
    AExec P G R (.region id ops.toArray true) { tmps := st.a, marks := m } st.h .normal { tmps := st'.a, marks := m } st'.h ∧ st'.n = st.n := by
  unfold xMove at h
  split at h
  · rename_i hb
    simp only [Bool.and_eq_true, decide_eq_true_eq, List.all_eq_true, Nat.blt_eq] at hb
    obtain ⟨⟨⟨hd, hc⟩, hn⟩, hQ⟩ := hb
    obtain ⟨h0, h⟩ := Tree.of_need h
    obtain ⟨st1, h1, h2⟩ := Tree.of_bind h
    cases h2
    obtain ⟨h3, h4⟩ := xMoveL_ok (m := m) hcl hcall hn hQ ops 0 st st1 (fun k _ => by simp) h1
    have key := h3.draw (R := R) (id := id) hm hd hc
    have e0 : nQ Q (fun _ => false) = 0 := by simp [nQ]
    have e1 : nQ Q (fun j => decide (j < ops.length)) = Q.length := by
      unfold nQ
      rw [List.filter_eq_self.2 fun q hq => by simpa using hQ q hq]
    simp only [e0, e1, ← h0] at key
    exact ⟨key, h4⟩
  · cases h
end
end Go.Proofs.Ytngaihdpmoajeaa.Am

namespace Go.Proofs.Ytngaihdpmoajeaa.Am
open Go
section
variable (P : Program) (G : Nat → Option (List AV)) (E : Env)
/-- Code. n: how deep and how often. lp: what is known of the loops. -/
def xCodeM (mv : Nat → Option (List Nat × (Nat → Heap))) : Nat → Loops → Code → St → Tree (Exit × St)
  | 0 => fun _ _ _ => .fail
  | n + 1 => fun lp c st =>
    match c with
    | .skip => .leaf (.normal, st)
    | .ret => .leaf (.ret, st)
    | .exit id => .leaf (.exit id, st)
    | .region id ops draws =>
      (match draws with
      | true => (match mv id with
        | some (Q, hs) => xMove P G E (xenter P E (xCode P G E n fun _ => none)) hs ops.toList Q st
        | none => xDraw P G E (xenter P E (xCode P G E n fun _ => none)) ops st)
      | false => xOps P G E (xenter P E (xCode P G E n fun _ => none)) ops ops.toList st).bind fun st' => .leaf (.normal, st')
    | .seq x y => (xCodeM mv n lp x st).bind fun r =>
      match r.1 with
      | .normal => xCodeM mv n lp y r.2
      | e => .leaf (e, r.2)
    | .cond q x y =>
      match st.ev G q with
      | some (.bool b) =>
        match symOf st q with
        | true => .ite b (xCodeM mv n lp x st) (xCodeM mv n lp y st)
        | false => match b with
          | true => xCodeM mv n lp x st
          | false => xCodeM mv n lp y st
      | _ => .fail
    | .block id x => (xCodeM mv n lp x st).bind fun r => .leaf (outOf id r.1, r.2)
    | .loop x =>
      match lp (idOf x) with
      | some (keep, s0, t) => .need ((st.only keep).vals = s0.vals) t
      | none => xLoop (xCodeM mv n lp x) n st
    | _ => .fail
/-- A piece of code, some temporaries of it. -/
def xBodyM (mv : Nat → Option (List Nat × (Nat → Heap))) (n : Nat) (lp : Loops) (keep : List Nat) (c : Code) (st : St) : Tree (Exit × St) :=
  (xCodeM P G E mv n lp c st).bind fun r => .leaf (r.1, r.2.only keep)
end
section
variable {P : Program} {G : Nat → Option (List AV)} {E : Env}
theorem xCodeM_ok {mv : Nat → Option (List Nat × (Nat → Heap))} (hn : NamesOk P) (hm : P.follows .mixedOrders = true) (hcl : ClOk P G E) : ∀ (n : Nat) (R : Option Nat → Prop) (m : List Nat) (lp : Loops) (c : Code) (st : St) (e : Exit) (st' : St), LoopsOk P G R m lp c →
    (xCodeM P G E mv n lp c st).sel = some (e, st') → AExec P G R c { tmps := st.a, marks := m } st.h e { tmps := st'.a, marks := m } st'.h ∧ st'.n = st.n
  | 0, R, m, lp, c, st, e, st', _, h => by cases h
  | n + 1, R, m, lp, c, st, e, st', hlp, h => by
    have hrun : RunOk P G (xCode P G E n fun _ => none) := fun c st e st' h => (xCode_ok hn hm hcl n _ [] _ c st e st' (.none c) h).1
    unfold xCodeM at h
    cases c with
    | skip => cases h; exact ⟨.skip, rfl⟩
    | ret => cases h; exact ⟨.ret, rfl⟩
    | exit id => cases h; exact ⟨.exit, rfl⟩
    | region id ops draws =>
      simp only at h
      obtain ⟨st1, h1, h2⟩ := Tree.of_bind h
      cases h2
      cases draws with
      | true =>
        simp only at h1
        split at h1
        · have := xMove_ok (R := R) (id := id) (m := m) hm hcl (xenter_ok hn hrun) h1
          simpa using this
        · exact xDraw_ok hm hcl (xenter_ok hn hrun) h1
      | false =>
        obtain ⟨h3, h4⟩ := xOps_ok (m := m) hcl (xenter_ok hn hrun) _ _ _ h1
        exact ⟨.region h3, h4⟩
    | seq x y =>
      simp only at h
      obtain ⟨⟨e1, st1⟩, h1, h2⟩ := Tree.of_bind h
      obtain ⟨h3, h4⟩ := xCodeM_ok hn hm hcl n R m lp x _ _ _ hlp.1 h1
      split at h2
      · rename_i he
        simp only at he
        subst he
        obtain ⟨h5, h6⟩ := xCodeM_ok hn hm hcl n R m lp y _ _ _ hlp.2 h2
        exact ⟨.seq h3 h5, h6.trans h4⟩
      · rename_i he
        cases h2
        exact ⟨.seq_out h3 he, h4⟩
    | cond q x y =>
      simp only at h
      split at h
      · rename_i b hq
        rw [← St.ev_eq] at hq
        split at h
        · simp only [Tree.sel] at h
          cases b with
          | true =>
            obtain ⟨h3, h4⟩ := xCodeM_ok hn hm hcl n R m lp x _ _ _ hlp.1 h
            exact ⟨.cond_true hq h3, h4⟩
          | false =>
            obtain ⟨h3, h4⟩ := xCodeM_ok hn hm hcl n R m lp y _ _ _ hlp.2 h
            exact ⟨.cond_false hq h3, h4⟩
        · split at h
          · obtain ⟨h3, h4⟩ := xCodeM_ok hn hm hcl n R m lp x _ _ _ hlp.1 h
            exact ⟨.cond_true hq h3, h4⟩
          · obtain ⟨h3, h4⟩ := xCodeM_ok hn hm hcl n R m lp y _ _ _ hlp.2 h
            exact ⟨.cond_false hq h3, h4⟩
      · cases h
    | block id x =>
      simp only at h
      obtain ⟨⟨e1, st1⟩, h1, h2⟩ := Tree.of_bind h
      cases h2
      obtain ⟨h3, h4⟩ := xCodeM_ok hn hm hcl n R m lp x _ _ _ hlp h1
      exact ⟨.block h3, h4⟩
    | loop x =>
      simp only at h
      split at h
      · rename_i keep s0 t ht
        obtain ⟨h1, h2⟩ := Tree.of_need h
        obtain ⟨h3, h4⟩ := hlp.1 _ _ _ _ _ ht h2
        simp only [St.vals, Prod.mk.injEq] at h1
        obtain ⟨e1, e2, e3⟩ := h1
        have h5 := St.only_le keep st
        rw [e1] at h5
        refine ⟨.weak h5 ?_, h4.trans e2.symm⟩
        have e4 : st.h = s0.h := e3
        rw [e4]
        exact h3
      · obtain ⟨h3, h4⟩ := xLoop_ok (fun st e st' h => xCodeM_ok hn hm hcl n R m lp x st e st' hlp.2 h) n st e st' h
        exact ⟨.loop h3, h4⟩
    | scope _ => cases h
    | rangeFunc _ _ _ _ => cases h
    | label _ => cases h
    | goto _ => cases h
    | refuse _ => cases h

theorem xBodyM_ok {mv : Nat → Option (List Nat × (Nat → Heap))} (hn : NamesOk P) (hm : P.follows .mixedOrders = true) (hcl : ClOk P G E) {R : Option Nat → Prop} {m : List Nat} {lp : Loops} {n : Nat} {keep : List Nat} {c : Code} {st : St} {e : Exit} {st' : St} (hlp : LoopsOk P G R m lp c)
    (hx : (xBodyM P G E mv n lp keep c st).sel = some (e, st')) : AExec P G R c { tmps := st.a, marks := m } st.h e { tmps := st'.a, marks := m } st'.h ∧ st'.n = st.n := by
  obtain ⟨⟨e0, st0⟩, h1, h2⟩ := Tree.of_bind hx
  cases h2
  obtain ⟨h3, h4⟩ := xCodeM_ok hn hm hcl n R m lp c st _ _ hlp h1
  exact ⟨h3.weak_post (a' := { tmps := st0.a, marks := m }) (St.only_le keep st0), h4⟩
/-- A function of whose loops and statements the facts are known. -/
theorem xFnM_ok {mv : Nat → Option (List Nat × (Nat → Heap))} (hn : NamesOk P) (hm : P.follows .mixedOrders = true) (hcl : ClOk P G E) {lp : Loops} {n : Nat} {f : FuncId} {fn : Func} {c : Code} (hf : P.funcs[f]? = some fn) (hb : fn.body = some c)
    (hlp : LoopsOk P G (fun r => r = none) [] lp c) {xs : List AV} {tags : List Bool} {h h' : Heap} {v : AV} {s : Bool}
    (hx : (xenter P E (xCodeM P G E mv n lp) f xs tags h).sel = some (v, s, h')) : ACall P G f xs h v h' := by
  have : ∀ (run : Code → St → Tree (Exit × St)), run = xCodeM P G E mv n lp → (xenter P E run f xs tags h).sel = some (v, s, h') → ACall P G f xs h v h' := by
    intro run hrun hx
    unfold xenter at hx
    rw [hf] at hx
    simp only [hb] at hx
    obtain ⟨⟨e, st⟩, h1, h2⟩ := Tree.of_bind hx
    subst hrun
    have hx' := (xCodeM_ok hn hm hcl n _ [] lp c _ _ _ hlp h1).1
    have main : ∀ {tag : Bool}, (e = .normal ∨ e = .ret) → (match aResults P st.h st.a fn.results.toList with
        | some ys => .leaf (asOne ys, tag, st.h)
        | none => .fail : Tree (AV × Bool × Heap)).sel = some (v, s, h') → ACall P G f xs h v h' := fun {tag} he hh => by
      cases hres : aResults P st.h st.a fn.results.toList with
      | none => rw [hres] at hh; cases hh
      | some ys =>
        rw [hres] at hh
        cases hh
        exact ACall.of_body hf hb (hn f fn hf) (.weak ofArgs_le hx') he hres
    split at h2
    · rename_i he
      exact main (.inl he) h2
    · rename_i he
      exact main (.inr he) h2
    · cases h2
  exact this _ rfl hx
end
end Go.Proofs.Ytngaihdpmoajeaa.Am

namespace Go.Proofs.Ytngaihdpmoajeaa.Am
open Go
section
variable {P : Program} {G : Nat → Option (List AV)}

/-- What the last object holds is forgotten. -/
theorem Inv.goneLast {w : World} {M : Map} {σ : Heap} {g : Nat} {c : List AV} (hi : Inv G w M (σ ++ [.cells g c])) : Inv G w M (σ ++ [.gone]) :=
  .of hi.glob hi.inj (fun r p h => by have := hi.dom r p h; simpa using this) hi.lt hi.far fun r o ho => by
    by_cases hr : r < σ.length
    · rw [List.getElem?_append_left hr] at ho
      exact hi.objOk (by rw [List.getElem?_append_left hr]; exact ho)
    · rw [List.getElem?_append_right (by omega)] at ho
      obtain rfl := List.mem_singleton.1 (List.mem_of_getElem? ho)
      trivial
theorem AExec.goneLast {R : Option Nat → Prop} {c : Code} {a a' : AAct} {σ σ' : Heap} {e : Exit} {g : Nat} {cs : List AV} (h : AExec P G R c a σ e a' (σ' ++ [.cells g cs])) : AExec P G R c a σ e a' (σ' ++ [.gone]) :=
  fun r0 hr w M ac Q hi ha hQ => h r0 hr w M ac Q hi ha fun w' M' ac' he hi' ha' => hQ w' M' ac' he hi'.goneLast ha'

/-- A frame seen through weaker values. -/
theorem RAct.sub {w : World} {M : Map} {ac : Act} {a b : List AV} {m : List Nat} (h : RAct w M ac { tmps := a, marks := m }) (hl : b.length = a.length) (hs : ∀ (j : Nat) (y' : AV), b[j]? = some y' → ∃ y, a[j]? = some y ∧ ∀ w M u, RV w M u y → RV w M u y') : RAct w M ac { tmps := b, marks := m } :=
  ⟨⟨by rw [h.tmps.1, hl], fun j y' hj => by
    obtain ⟨y, h1, h2⟩ := hs j y' hj
    exact h2 _ _ _ (h.tmps.2 j y h1)⟩, h.marks⟩
theorem AExec.weak_sub {R : Option Nat → Prop} {c : Code} {a : AAct} {a1 b : List AV} {m : List Nat} {σ σ' : Heap} {e : Exit} (h : AExec P G R c a σ e { tmps := a1, marks := m } σ') (hl : b.length = a1.length) (hs : ∀ (j : Nat) (y' : AV), b[j]? = some y' → ∃ y, a1[j]? = some y ∧ ∀ w M u, RV w M u y → RV w M u y') :
    AExec P G R c a σ e { tmps := b, marks := m } σ' :=
  fun r0 hr w M ac Q hi ha hQ => h r0 hr w M ac Q hi ha fun w' M' ac' he hi' ha' => hQ w' M' ac' he hi' (ha'.sub hl hs)
theorem RV.mx_ms {w : World} {M : Map} {u : Value} {size r g off len cap cap0 : Nat} (h : RV w M u (.mx size r g off len cap)) (h0 : len ≤ cap0) (hc : cap0 ≤ cap) : RV w M u (.ms size r g off len cap0) := by
  cases h with
  | mx _ _ _ _ _ _ b c e hr hlen hsz hfit => exact .ms _ _ _ _ _ _ b cap c e hr h0 hc hsz hfit
  | mxS _ _ _ _ _ _ b g' p hr hg => exact .msS _ _ _ _ _ _ b g' p cap hr hg

/-- THE ROOM OF A SLICE: whatever it is. -/
theorem AExec.known_cap {R : Option Nat → Prop} {c : Code} {a : List AV} {m : List Nat} {a' : AAct} {σ σ' : Heap} {e : Exit} {i size r g off len cap : Nat} (hi : a[i]? = some (.ms size r g off len cap)) (ho : (objAt σ r g).isSome = true)
    (h : ∀ capc, cap ≤ capc → AExec P G R c { tmps := a.set i (.mx size r g off len capc), marks := m } σ e a' σ') : AExec P G R c { tmps := a, marks := m } σ e a' σ' := by
  intro r0 hr w M ac Q hinv ha hQ
  have hv := ha.tmps.2 i _ hi
  obtain ⟨cc, hcc⟩ := Option.isSome_iff_exists.1 ho
  obtain ⟨b, cs, e', hm, hh, hl, hx⟩ := hinv.obj hcc
  generalize hu : ac.tmps.getD i undef = u at hv
  cases hv with
  | msS _ _ _ _ _ _ b' g' p capc hm' hg =>
    rw [hm] at hm'
    obtain ⟨_, rfl⟩ := Prod.mk.inj (Option.some.inj hm')
    omega
  | ms _ _ _ _ _ _ b' capc c' e'' hm' hlen hcc' hsz hfit =>
    refine h capc hcc' r0 hr w M ac Q hinv ⟨⟨by rw [ha.tmps.1]; simp, fun j x hj => ?_⟩, ha.marks⟩ hQ
    rw [List.getElem?_set] at hj
    split at hj
    · rename_i hij
      subst hij
      split at hj
      · cases hj
        rw [hu]
        exact .mx _ _ _ _ _ _ b' c' e'' hm' (by omega) hsz hfit
      · cases hj
    · exact ha.tmps.2 j x hj

/-- Length and room of a slice whose room is known. -/
def hCap (t : TypeId) : Heap → Oper → (Operand → Option AV) → Option (AV × Bool × Heap × Prop) := fun h o ρ => match o.op with
  | .call { callee := .builtin .cap, args := args, argTypes := ts } => match evAllR ρ args.toList with
    | some [.mx _ _ _ _ _ cap] => some (.int .i64 cap, true, h, ts = #[t])
    | some [.zs] => some (.int .i64 (0 : Nat), true, h, ts = #[t])
    | _ => none
  | .call { callee := .builtin .len, args := args, argTypes := ts } => match evAllR ρ args.toList with
    | some [.mx _ _ _ _ len _] => some (.int .i64 len, true, h, ts = #[t])
    | _ => none
  | _ => none
theorem hCap_ok {t e : TypeId} (hu : P.underlying t = some (.slice e)) : HintOk P G (hCap t) := by
  refine ⟨fun h o a m y s h' p hh hp => ?_, fun h o ρ y s h' p hh hp _ => ?_⟩
  · have key : ∀ (bt : Builtin) (args : Array Operand) (ts : Array TypeId) (x : AV) (len cap : Nat) (n : Nat), (∀ w M u, RV w M u x → ∃ q, u = .slice q len cap) → o.op = .call { callee := .builtin bt, args := args, argTypes := ts } → ts = #[t] → evAllR (ev G a) args.toList = some [x] →
        (∀ (q : Option Addr) (w : World) ty cs, (builtin bt #[t] ty cs #[.slice q len cap]).run P w = .ok (.value (.int .i64 n)) w) → AStep P G { tmps := a, marks := m } h o (.int .i64 n) h := by
      intro bt args ts x len cap n hsl' ho hts hx hb r0 w M ac K Q hi ha hK
      subst hts
      refine ⟨fun f _ => FW_fn r0 f, ?_⟩
      have hnd : ∀ c, o.op ≠ .defer c := fun c' h => by rw [ho] at h; cases h
      rw [Oper.semAt_eq _ _ _ hnd]
      rw [← evAllR_eq] at hx
      obtain ⟨x1, x2⟩ := evAll_ok hi ha.tmps hx
      simp only [Array.toArray_toList] at x1 x2
      have hv := x2 0 _ rfl
      have harr := arr1 x1
      obtain ⟨q, hq⟩ := hsl' _ _ _ hv
      rw [hq] at harr
      have hrun : (execOp ac.eval o).run P w = .ok (.value (.int .i64 n)) w := by
        unfold execOp
        simp only [ho]
        simp only [resolve, Sem.run_bind, Sem.run_pure, Result.andThen_ok, invoke, harr]
        exact hb q w _ _
      rw [hrun]
      exact hK _ w M (.int _ _) (.refl w M) hi
    have hmx : ∀ {size r g off len cap : Nat}, ∀ w M u, RV w M u (.mx size r g off len cap) → ∃ q, u = .slice q len cap := fun w M u hv => by
      cases hv with
      | mx _ _ _ _ _ _ b c e hr hlen hsz hfit => exact ⟨_, rfl⟩
      | mxS _ _ _ _ _ _ b g' p hr hg => exact ⟨_, rfl⟩
    unfold hCap at hh
    split at hh
    · rename_i args ts ho
      split at hh
      · rename_i size r g off len cap hx
        cases hh
        refine key .cap args ts _ len cap cap hmx ho hp hx fun q w _ _ => ?_
        simp only [builtin, Sem.run_bind, Builtin.cap_, List.getElem?_toArray, List.getElem?_cons_zero, run_underlying', hu, Result.andThen_ok, goInt, Sem.run_pure]
      · rename_i hx
        cases hh
        refine key .cap args ts .zs 0 0 0 (fun w M u hv => by cases hv; exact ⟨_, rfl⟩) ho hp hx fun q w _ _ => ?_
        simp only [builtin, Sem.run_bind, Builtin.cap_, List.getElem?_toArray, List.getElem?_cons_zero, run_underlying', hu, Result.andThen_ok, goInt, Sem.run_pure]
      · cases hh
    · rename_i args ts ho
      split at hh
      · rename_i size r g off len cap hx
        cases hh
        refine key .len args ts _ len cap len hmx ho hp hx fun q w _ _ => ?_
        simp only [builtin, Sem.run_bind, Builtin.len_, List.getElem?_toArray, List.getElem?_cons_zero, run_underlying', hu, Result.andThen_ok, goInt, Sem.run_pure]
      · cases hh
    · cases hh
  · unfold hCap at hh
    split at hh
    · split at hh
      · cases hh; rfl
      · cases hh; rfl
      · cases hh
    · split at hh
      · cases hh; rfl
      · cases hh
    · cases hh
/-- A truth value that is not known decides between two ways; both go on. -/
theorem AExec.fork2 {R : Option Nat → Prop} {x y n z : Code} {a a1 a2 a3 : List AV} {a' : AAct} {σ σ1 σ2 σ3 σ' : Heap} {e : Exit} {i : Nat} (hx : AExec P G R x { tmps := a } σ .normal { tmps := a1 } σ1) (hi : a1[i]? = some .anyb)
    (ht : AExec P G R y { tmps := a1.set i (.bool true) } σ1 .normal { tmps := a3 } σ3) (hzt : AExec P G R z { tmps := a3 } σ3 e a' σ') (hf : AExec P G R n { tmps := a1.set i (.bool false) } σ1 .normal { tmps := a2 } σ2) (hz : AExec P G R z { tmps := a2 } σ2 e a' σ') :
    AExec P G R (.seq (.seq x (.cond (.tmp i) y n)) z) { tmps := a } σ e a' σ' :=
  fun r0 hr w M ac Q hinv ha hQ => wpIn_seq (wpIn_seq (hx r0 hr w M ac _ hinv ha fun w1 M1 ac1 h1 hi1 ha1 => by
    obtain ⟨b, hb, hab⟩ := ha1.known hi
    refine wpIn_cond (t := b) hb ?_
    cases b with
    | true =>
      exact ht r0 hr w1 M1 ac1 _ hi1 hab fun w2 M2 ac2 h2 hi2 ha2 => hzt r0 hr w2 M2 ac2 _ hi2 ha2 fun w3 M3 ac3 h3 hi3 ha3 => hQ w3 M3 ac3 ((h1.trans h2).trans h3) hi3 ha3
    | false =>
      exact hf r0 hr w1 M1 ac1 _ hi1 hab fun w2 M2 ac2 h2 hi2 ha2 => hz r0 hr w2 M2 ac2 _ hi2 ha2 fun w3 M3 ac3 h3 hi3 ha3 => hQ w3 M3 ac3 ((h1.trans h2).trans h3) hi3 ha3))
end
end Go.Proofs.Ytngaihdpmoajeaa.Am

namespace Go.Proofs.Ytngaihdpmoajeaa.Am
open Go
section
variable {P : Program} {G : Nat → Option (List AV)}

/-- A part of a slice whose room is known, told beforehand (which bounds are named tells which part). -/
def hSlM (t : TypeId) (fl fh : Bool) (r g off len cap : Nat) (lo hi : Option AV) (l u : Nat) : Heap → Oper → (Operand → Option AV) → Option (AV × Bool × Heap × Prop) := fun h o ρ => match o.op with
  | .slice t' x a b none => match Nat.beq t' t && ((a.isSome == fl) && (b.isSome == fh)) with
    | true => some (.mx 1 r g (off + l) (u - l) (cap - l), true, h, ρ x = some (.mx 1 r g off len cap) ∧ evOptR ρ a = some lo ∧ evOptR ρ b = some hi ∧ len ≤ cap ∧ aBounds len cap lo hi none = some (l, u, cap) ∧ cap ≠ l)
    | false => none
  | _ => none
theorem hSlM_ok {t e : TypeId} {ie : TypeInfo} (hu : P.underlying t = some (.slice e)) (hie : P.info? e = some ie) (h1 : ie.size = 1) (fl fh : Bool) (r g off len cap : Nat) (lo hi : Option AV) (l u : Nat) : HintOk P G (hSlM t fl fh r g off len cap lo hi l u) := by
  refine ⟨fun h o a mk y s h' p hh hp => ?_, fun h o ρ y s h' p hh hp _ => ?_⟩
  · unfold hSlM at hh
    split at hh
    · rename_i t' x a' b' ho
      split at hh
      · rename_i hq
        cases hh
        simp only [Bool.and_eq_true] at hq
        obtain rfl := Nat.eq_of_beq_eq_true hq.1
        obtain ⟨hx, ha1, hb1, hlc, hbd, hne⟩ := hp
        intro r0 w M ac K Q hi' ha hK
        refine ⟨fun f _ => FW_fn r0 f, ?_⟩
        have hnd : ∀ c, o.op ≠ .defer c := fun c' h => by rw [ho] at h; cases h
        rw [Oper.semAt_eq _ _ _ hnd]
        have hv := ev_ok hi' ha.tmps hx
        have hlo := evOpt_ok hi' ha.tmps (show evOpt G a a' = some lo by rw [evOptR_eq]; exact ha1)
        have hhi := evOpt_ok hi' ha.tmps (show evOpt G a b' = some hi by rw [evOptR_eq]; exact hb1)
        obtain ⟨hb2, hb3, hb4, _, _⟩ := aBounds_ok (P := P) hlo hhi .none hlc (Nat.le_refl cap) hbd
        simp only [Option.isSome_none, Bool.false_eq_true, if_false] at hb2
        have key : ∃ rv, (Instr.sliceAt t' (ac.eval x) (a'.map ac.eval) (b'.map ac.eval) none).run P w = .ok rv w ∧ RV w M rv (.mx 1 r g (off + l) (u - l) (cap - l)) := by
          generalize ac.eval x = uv at hv
          cases hv with
          | mx _ _ _ _ _ _ b c e' hr hlen hsz hfit =>
            refine ⟨_, run_slice' hu hie hb2, ?_⟩
            rw [if_neg hne, h1, Nat.mul_one]
            have : (some (⟨b, off, none⟩ : Addr)).map (·.add l) = some ⟨b, off + l, none⟩ := by rw [Option.map_some, add_plain]
            rw [this]
            exact .mx _ _ _ _ _ _ b c e' hr (by omega) hsz (by omega)
          | mxS _ _ _ _ _ _ b g' q hr hg => exact ⟨_, run_slice' hu hie hb2, .mxS _ _ _ _ _ _ b g' _ hr hg⟩
        obtain ⟨rv, hrun0, hrv⟩ := key
        have hrun : (execOp ac.eval o).run P w = .ok (.value rv) w := by
          unfold execOp
          simp only [ho, Option.map_none, Sem.run_bind, hrun0, Result.andThen_ok]
          rfl
        rw [hrun]
        exact hK _ w M hrv (.refl w M) hi'
      · cases hh
    · cases hh
  · unfold hSlM at hh
    split at hh
    · split at hh
      · cases hh; rfl
      · cases hh
    · cases hh
/-- Contents of a slice of which the room may be known. -/
def contsX (h : Heap) : AV → Option (Nat × List AV)
  | .mx s r g off len _ => conts h 1 (.ms s r g off len len)
  | x => conts h 1 x
theorem contsX_ok {w : World} {M : Map} {σ : Heap} {n : Nat} {v : Value} {x : AV} {xs : List AV} (hi : Inv G w M σ) (hv : RV w M v x) (h : contsX σ x = some (n, xs)) :
    (Builtin.lenOf v).run P w = .ok n w ∧ xs.length = n * 1 ∧
    ∀ k, k ≤ n → ∃ us : Array Value, (Builtin.firstCells 1 k v).run P w = .ok us w ∧ us.size = k * 1 ∧ ∀ (j : Nat) (y : AV), j < k * 1 → xs[j]? = some y → RV w M (us.getD j undef) y := by
  unfold contsX at h
  split at h
  · rename_i s r g off len cap
    cases hv with
    | mx _ _ _ _ _ _ b c e hr hlen hsz hfit => exact conts_ok hi (RV.ms s r g off len len b cap c e hr (Nat.le_refl _) hlen hsz hfit) h
    | mxS _ _ _ _ _ _ b g' q hr hg => exact conts_ok hi (RV.msS s r g off len len b g' q cap hr hg) h
  · exact conts_ok hi hv h
/-- A copy into an own slice, told beforehand: n elements. -/
def hCopy (t : TypeId) (d s : AV) (r g off len n : Nat) (c xs : List AV) (h0 : Heap) : Heap → Oper → (Operand → Option AV) → Option (AV × Bool × Heap × Prop) := fun h o ρ => match o.op with
  | .call { callee := .builtin .copy, args := args, argTypes := ts } => some (.int .i64 n, true, h0.set r (.cells g (setL c off (xs.take n))), h = h0 ∧ evAllR ρ args.toList = some [d, s] ∧ ts = #[t, t] ∧ (∃ cap, d = .ms 1 r g off len cap ∨ d = .mx 1 r g off len cap) ∧ objAt h0 r g = some c ∧ (∃ m, contsX h0 s = some (m, xs) ∧ n = min m len) ∧ off + n ≤ c.length ∧ (xs.take n).all AV.one = true)
  | _ => none
theorem hCopy_ok {t e : TypeId} {ie : TypeInfo} (hu : P.underlying t = some (.slice e)) (hie : P.info? e = some ie) (h1 : ie.size = 1) (d s : AV) (r g off len n : Nat) (c xs : List AV) (h0 : Heap) : HintOk P G (hCopy t d s r g off len n c xs h0) := by
  refine ⟨fun h o a mk y s' h' p hh hp => ?_, fun h o ρ y s' h' p hh hp hq => ?_⟩
  · unfold hCopy at hh
    split at hh
    · rename_i args ts ho
      cases hh
      obtain ⟨rfl, p1, rfl, ⟨cap, hd⟩, p3, ⟨m, p4, p5⟩, p6, p7⟩ := hp
      rw [← evAllR_eq] at p1
      intro r0 w M ac K Q hi ha hK
      refine ⟨fun f _ => FW_fn r0 f, ?_⟩
      have hnd : ∀ c, o.op ≠ .defer c := fun c' h => by rw [ho] at h; cases h
      rw [Oper.semAt_eq _ _ _ hnd]
      obtain ⟨x1, x2⟩ := evAll_ok hi ha.tmps p1
      simp only [Array.toArray_toList] at x1 x2
      have hx := x2 0 _ rfl
      have hs := x2 1 _ rfl
      have harr := arr2 x1
      generalize (args.map ac.eval).getD 1 undef = v2 at hs harr
      obtain ⟨k1, k2, k3⟩ := contsX_ok (P := P) hi hs p4
      obtain ⟨us, q1, q2, q3⟩ := k3 n (by omega)
      obtain ⟨b, cs, e0, hm, hb, hl, hcx⟩ := hi.obj p3
      have hsl : ∃ capv, (args.map ac.eval).getD 0 undef = .slice (some ⟨b, off, none⟩) len capv := by
        generalize (args.map ac.eval).getD 0 undef = u at hx
        rcases hd with rfl | rfl
        · cases hx with
          | msS _ _ _ _ _ _ b' g' q capc hm' hg =>
            rw [hm] at hm'
            obtain ⟨_, rfl⟩ := Prod.mk.inj (Option.some.inj hm')
            omega
          | ms _ _ _ _ _ _ b' capc c' e' hm' hlen hcc hsz hfit =>
            rw [hm] at hm'
            obtain ⟨rfl, _⟩ := Prod.mk.inj (Option.some.inj hm')
            exact ⟨_, rfl⟩
        · cases hx with
          | mxS _ _ _ _ _ _ b' g' q hm' hg =>
            rw [hm] at hm'
            obtain ⟨_, rfl⟩ := Prod.mk.inj (Option.some.inj hm')
            omega
          | mx _ _ _ _ _ _ b' c' e' hm' hlen hsz hfit =>
            rw [hm] at hm'
            obtain ⟨rfl, _⟩ := Prod.mk.inj (Option.some.inj hm')
            exact ⟨_, rfl⟩
      obtain ⟨capv, hsl⟩ := hsl
      rw [hsl] at harr
      have hxl : xs.length = m := by omega
      have htl : (xs.take n).length = n := by rw [List.length_take]; omega
      have hus : us.toList.length = (xs.take n).length := by rw [htl]; simp [q2]
      have hrv : ∀ (j : Nat) (y : AV), (xs.take n)[j]? = some y → RV w M (us.getD j undef) y := fun j y hj => by
        have hjl := (List.getElem?_eq_some_iff.1 hj).1
        rw [List.getElem?_take_of_lt (by omega)] at hj
        exact q3 j y (by omega) hj
      have hone : ∀ u ∈ us.toList, u.oneCell' = true := all_one (by rw [q2, htl]; omega) p7 hrv
      have he := Ext.upd (M := M) (cs' := wr cs off us.toList) (g' := g) hm hb (wr_size _ _ _) (Nat.le_refl _) (hi.others hm) (hi.notFar hm)
      have hs2 := run_storeCells (P := P) (b := b) (o := off) (e := e0) us.toList 0 cs w hb (by rw [hus, htl]; omega) hone
      have hinv := Inv.upd (cs' := wr cs off us.toList) (g' := g) (c' := setL c off (xs.take n)) hi hm hb (wr_size _ _ _) (Nat.le_refl _) (by rw [setL_length (by omega), wr_size]; exact hl)
        (written hl (by omega) hus (fun j y hj => (hcx j y hj).mono he) (fun j y hj => by simpa using (hrv j y hj).mono he))
      rw [put_self hm] at he hinv
      have hmin : Nat.min m len = n := p5.symm
      have hrun : (execOp ac.eval o).run P w = .ok (.value (.int .i64 n)) (upd w b (wr cs (off + 0) us.toList) e0) := by
        unfold execOp
        simp only [ho]
        simp only [resolve, Sem.run_bind, Sem.run_pure, Result.andThen_ok, invoke, builtin, harr]
        simp only [Builtin.copy_, List.getElem?_toArray, List.getElem?_cons_zero, List.getElem?_cons_succ, Sem.run_bind, run_underlying', hu, Result.andThen_ok, k1, hmin, run_sizeOf', hie, h1, q1, hs2, Sem.run_pure]
        rfl
      rw [hrun]
      exact hK _ _ M (.int _ _) he hinv
    · cases hh
  · unfold hCopy at hh
    split at hh
    · rename_i args ts ho
      unfold quiet at hq
      simp only [ho] at hq
      cases hq
    · cases hh
end
end Go.Proofs.Ytngaihdpmoajeaa.Am

namespace Go.Proofs.Ytngaihdpmoajeaa.Am
open Go
section
variable {P : Program} {G : Nat → Option (List AV)}

theorem run_append_zeros {w : World} {t t2 ty e : TypeId} {ie : TypeInfo} {base : Option Addr} {sLen sCap k : Nat} {os : Array Value} (hu : P.underlying t = some (.slice e)) (hie : P.info? e = some ie) (h1 : ie.size = 1) (h2 : P.underlying t2 = some (.int .i64))
    (ho : (Builtin.firstCells 1 sLen (.slice base sLen sCap)).run P { w with drawn := w.drawn + 1 } = .ok os { w with drawn := w.drawn + 1 })
    (hk : 0 < k) (hroom : ¬ sLen + k ≤ sCap) (hsm : sLen + k ≤ 16777216) (hb : ie.bytes ≤ 65536) {z : Value} (hz : (zeroValue e).run P { w with drawn := w.drawn + 1 } = .ok z { w with drawn := w.drawn + 1 }) :
    ∃ cap : Nat, sLen + k ≤ cap ∧ (Builtin.append_ #[t, t2] ty #[.slice base sLen sCap, .int .i64 k]).run P w =
      .ok (.slice (some ⟨w.heap.size, 0, none⟩) (sLen + k) cap) (({ w with drawn := w.drawn + 1 } : World).alloc (.cells (os ++ Builtin.zeroCells z.cells k ++ Builtin.zeroCells z.cells (cap - (sLen + k))) e)) := by
  refine ⟨sLen + k + w.tape w.drawn (.appendCap (sLen + k) sCap e) % (2 ^ 63 - (sLen + k)), by omega, ?_⟩
  have hcap := nextcap_le (need := sLen + k) (cap := sCap) (by omega) hsm
  have hmul : Builtin.nextslicecap (sLen + k) sCap * ie.bytes ≤ 33554432 * 65536 := Nat.mul_le_mul hcap hb
  have hw : IntKind.i64.wrap (k : Int) = k := wrap_i64 (by omega) (by omega)
  have hn1 : ¬ ((((sLen + k : Nat) : Int) > IntKind.i64.max) ∧ (True ∨ ie.bytes = 0)) := by
    have : IntKind.i64.max = 9223372036854775807 := by decide
    rw [this]
    omega
  have hn2 : ¬ (Builtin.nextslicecap (sLen + k) sCap * ie.bytes > 2 ^ 48) := by omega
  have hneg : ¬ ((k : Int) < 0) := by omega
  have hkb : ¬ ((k : Int) * ie.bytes > 2 ^ 48) := by
    have : k * ie.bytes ≤ 16777216 * 65536 := Nat.mul_le_mul (by omega) hb
    have h3 : ((k * ie.bytes : Nat) : Int) = (k : Int) * ie.bytes := by simp
    rw [← h3]
    omega
  have hks : ¬ (k * 1 = 0) := by omega
  have hq : (Question.appendCap (sLen + k) sCap e).forced = false := rfl
  simp only [Builtin.append_, List.getElem?_toArray, List.getElem?_cons_zero, List.getElem?_cons_succ, Sem.run_bind, run_underlying', hu, h2, Result.andThen_ok, run_sizeOf', hie, h1, Sem.run_pure, if_true, asInt, asIntOf, hw, if_neg hneg, run_typeInfo', Int.toNat_natCast]
  rw [if_neg hkb]
  simp only [Sem.run_bind, Sem.run_pure, Result.andThen_ok, if_neg hroom, Bool.not_true, Bool.false_eq_true, if_false]
  simp only [run_typeInfo', hie, Result.andThen_ok]
  rw [if_neg hn1]
  simp only [Sem.run_bind, run_typeInfo', hie, Result.andThen_ok]
  rw [if_neg hn2]
  simp only [Sem.run_bind, run_choose, hq, Bool.false_eq_true, if_false, Result.andThen_ok, run_typeInfo', hie, run_askRoom, ho, if_neg hks, hz, Sem.run_pure]
  rfl
/-- An append of zeros that has no room, told beforehand: a new own slice. -/
def hZer (t tn : TypeId) (r g len cap k : Nat) (xs : List AV) (zx : AV) (h0 : Heap) : Heap → Oper → (Operand → Option AV) → Option (AV × Bool × Heap × Prop) := fun h o ρ => match o.op with
  | .call { callee := .builtin .append, args := args, argTypes := ts } => some (.ms 1 h0.length 0 0 (len + k) (len + k), true, h0 ++ [.cells 0 (xs ++ List.replicate k zx)], h = h0 ∧ evAllR ρ args.toList = some [.mx 1 r g 0 len cap, .int .i64 k] ∧ ts = #[t, tn] ∧ contsX h0 (.mx 1 r g 0 len cap) = some (len, xs) ∧ 0 < k ∧ ¬ len + k ≤ cap ∧ len + k ≤ 16777216)
  | _ => none
theorem hZer_ok {t tn e : TypeId} {ie : TypeInfo} (hu : P.underlying t = some (.slice e)) (hun : P.underlying tn = some (.int .i64)) (hie : P.info? e = some ie) (h1 : ie.size = 1) (hby : ie.bytes ≤ 65536) {zx : AV} (hz : aZero P e = some zx) (hzo : zx.one = true) (r g len cap k : Nat) (xs : List AV) (h0 : Heap) : HintOk P G (hZer t tn r g len cap k xs zx h0) := by
  refine ⟨fun h o a mk y s' h' p hh hp => ?_, fun h o ρ y s' h' p hh hp hq => ?_⟩
  · unfold hZer at hh
    split at hh
    · rename_i args ts ho
      cases hh
      obtain ⟨rfl, p1, rfl, p3, p4, p5, p6⟩ := hp
      rw [← evAllR_eq] at p1
      intro r0 w M ac K Q hi ha hK
      refine ⟨fun f _ => FW_fn r0 f, ?_⟩
      have hnd : ∀ c, o.op ≠ .defer c := fun c' h => by rw [ho] at h; cases h
      rw [Oper.semAt_eq _ _ _ hnd]
      obtain ⟨x1, x2⟩ := evAll_ok hi ha.tmps p1
      simp only [Array.toArray_toList] at x1 x2
      have hx := x2 0 _ rfl
      have hs := x2 1 _ rfl
      have harr := arr2 x1
      generalize (args.map ac.eval).getD 1 undef = v2 at hs harr
      generalize (args.map ac.eval).getD 0 undef = v1 at hx harr
      cases hs
      obtain ⟨k1, k2, k3⟩ := contsX_ok (P := P) hi.drew (hx.mono (.drew w M)) p3
      obtain ⟨us, q1, q2, q3⟩ := k3 len (Nat.le_refl _)
      have hsl : ∃ q, v1 = .slice q len cap := by
        cases hx with
        | mx _ _ _ _ _ _ b c e hr hlen hsz hfit => exact ⟨_, rfl⟩
        | mxS _ _ _ _ _ _ b g' q hr hg => exact ⟨_, rfl⟩
      obtain ⟨q, rfl⟩ := hsl
      obtain ⟨z, hz1, hz2⟩ := aZero_ok hz { w with drawn := w.drawn + 1 } M
      obtain ⟨cap', c1, c2⟩ := run_append_zeros (ty := o.type) hu hie h1 hun q1 p4 p5 p6 hby hz1
      have hxc : zx.cells = [zx] := by cases zx <;> first | rfl | (simp [AV.one] at hzo)
      obtain ⟨⟨hz3, hz4⟩, _⟩ := hz2.cells (by rw [hxc]; simp [hzo])
      rw [hxc] at hz3 hz4
      have hzs : z.cells.size = 1 := hz3
      have hz5 := hz4 0 zx rfl
      have hzg : ∀ i, i < k → (Builtin.zeroCells z.cells k).getD i undef = z.cells.getD 0 undef := fun i hi => by
        unfold Builtin.zeroCells
        rw [hzs, Nat.mul_one, Array.getD_eq_getD_getElem?, Array.getElem?_map, Array.getElem?_range, if_pos hi]
        simp only [Option.map_some, Option.getD_some, Nat.mod_one]
        rw [Array.getD_eq_getD_getElem?, getElem!_pos z.cells 0 (by omega), Array.getElem?_eq_getElem (by omega), Option.getD_some]
      have he := Ext.push hi.drew (.cells (us ++ Builtin.zeroCells z.cells k ++ Builtin.zeroCells z.cells (cap' - (len + k))) e)
      have hrun : (execOp ac.eval o).run P w = .ok (.value (.slice (some ⟨w.heap.size, 0, none⟩) (len + k) cap')) (({ w with drawn := w.drawn + 1 } : World).alloc (.cells (us ++ Builtin.zeroCells z.cells k ++ Builtin.zeroCells z.cells (cap' - (len + k))) e)) := by
        unfold execOp
        simp only [ho]
        simp only [resolve, Sem.run_bind, Sem.run_pure, Result.andThen_ok, invoke, builtin, harr, c2]
      rw [hrun]
      have hxl : xs.length = len := by omega
      refine hK _ _ (M.put h.length (w.heap.size, 0)) ?_ ((Ext.drew w M).trans he) (Inv.push hi.drew ⟨w.heap.size, _, e, Map.put_same _ _ _, alloc_new _ _, ?_, fun j y hj => ?_⟩)
      · refine .ms 1 h.length 0 0 (len + k) (len + k) w.heap.size cap' _ e (Map.put_same _ _ _) (Nat.le_refl _) c1 (alloc_new _ _) ?_
        simp [q2, zeroCells_size, hzs]
        omega
      · simp [q2, zeroCells_size, hzs, hxl]
      · rw [getD_append]
        by_cases hj1 : j < len
        · rw [List.getElem?_append_left (by omega)] at hj
          rw [if_pos (by simp [q2, zeroCells_size, hzs]; omega), getD_append, if_pos (by simp [q2]; omega)]
          exact (q3 j y (by omega) hj).mono he
        · rw [List.getElem?_append_right (by omega)] at hj
          have hjl := (List.getElem?_eq_some_iff.1 hj).1
          have hy := List.eq_of_mem_replicate (List.mem_of_getElem? hj)
          rw [List.length_replicate] at hjl
          subst hy
          rw [if_pos (by simp [q2, zeroCells_size, hzs]; omega), getD_append, if_neg (by simp [q2]; omega), hzg _ (by rw [q2]; omega)]
          exact (hz5.mono (.refl _ _)).mono he
    · cases hh
  · unfold hZer at hh
    split at hh
    · rename_i args ts ho
      unfold quiet at hq
      simp only [ho] at hq
      cases hq
    · cases hh
end
end Go.Proofs.Ytngaihdpmoajeaa.Am

namespace Go.Proofs.Ytngaihdpmoajeaa.Am
open Go
section
variable {P : Program} {G : Nat → Option (List AV)}

theorem Inv.extend {w : World} {M : Map} {σ : Heap} {r g : Nat} {c : List AV} {b : Nat} {cs : Array Value} {e : TypeId} (hi : Inv G w M σ) (ho : objAt σ r g = some c) (hm : M r = some (b, g)) (hb : w.heap[b]? = some (.cells cs e (0, 0))) (hl : c.length < cs.size) : Inv G w M (σ.set r (.cells g (c ++ [.junk]))) := by
  refine .of hi.glob hi.inj (fun r p h => by have := hi.dom r p h; simpa using this) hi.lt hi.far fun q o hq => ?_
  rw [List.getElem?_set] at hq
  split at hq
  · rename_i he
    subst he
    split at hq
    · cases hq
      obtain ⟨b', cs', e', h1, h2, h3, h4⟩ := hi.obj ho
      rw [hm] at h1
      obtain ⟨rfl, _⟩ := Prod.mk.inj (Option.some.inj h1)
      rw [hb] at h2
      cases h2
      refine ⟨b, cs, e, hm, hb, by simp; omega, fun j x hj => ?_⟩
      by_cases hj2 : j < c.length
      · rw [List.getElem?_append_left hj2] at hj
        exact h4 j x hj
      · rw [List.getElem?_append_right (by omega)] at hj
        obtain rfl := List.mem_singleton.1 (List.mem_of_getElem? hj)
        exact .junk _
    · cases hq
  · exact hi.objOk hq
/-- A SLICE WITH ROOM HAS ONE CELL MORE. -/
theorem ACall.extend {f : FuncId} {args : List AV} {σ σ' : Heap} {v : AV} {r g n cap : Nat} {c : List AV} (h : ACall P G f args (σ.set r (.cells g (c ++ [.junk]))) v σ') (ha : args[0]? = some (.mx 1 r g 0 n cap)) (ho : objAt σ r g = some c) (hl : c.length < cap) : ACall P G f args σ v σ' := by
  refine ⟨h.1, fun w M vs hi hvs => ?_⟩
  obtain ⟨b, cs, e, hm, hb, h3, h4⟩ := hi.obj ho
  have hv := hvs.2 0 _ ha
  have hfit : cap ≤ cs.size := by
    generalize vs.getD 0 undef = u at hv
    cases hv with
    | mxS _ _ _ _ _ _ b' g' q hm' hg =>
      rw [hm] at hm'
      obtain ⟨_, rfl⟩ := Prod.mk.inj (Option.some.inj hm')
      omega
    | mx _ _ _ _ _ _ b' c' e' hm' hlen hsz hfit =>
      rw [hm] at hm'
      obtain ⟨rfl, _⟩ := Prod.mk.inj (Option.some.inj hm')
      rw [hb] at hsz
      cases hsz
      omega
  exact h.2 w M vs (hi.extend ho hm hb (by omega)) hvs
/-- An own slice becomes data: the frame holds it at one place, and nothing else of what is new. -/
theorem AExec.msData {R : Option Nat → Prop} {c : Code} {a a' b' : List AV} {σ : Heap} {e : Exit} {g : Nat} {cells : List AV} (h : AExec P G R c { tmps := a } σ e { tmps := a' } (σ ++ [.cells g cells])) (hb : ∀ x ∈ cells, Below σ.length x) (hl : b'.length = a'.length)
    (hv : ∀ (j : Nat) (y : AV), b'[j]? = some y → (a'[j]? = some y ∧ Below σ.length y) ∨ (a'[j]? = some (.ms 1 σ.length g 0 cells.length cells.length) ∧ y = .sl 1 (cells.map fun y => [y]))) : AExec P G R c { tmps := a } σ e { tmps := b' } σ := by
  intro r0 hr w M ac Q hi ha hQ
  refine h r0 hr w M ac Q hi ha fun w' M' ac' he hi' ha' => ?_
  obtain ⟨h1, h2⟩ := hi.forget he hi'
  refine hQ w' _ ac' h1 h2 ⟨⟨by rw [ha'.tmps.1, hl], fun j y hj => ?_⟩, ?_⟩
  · rcases hv j y hj with ⟨k1, k2⟩ | ⟨k1, rfl⟩
    · exact (ha'.tmps.2 j y k1).cut k2
    · exact RV.msData hi' (Nat.le_refl _) (ha'.tmps.2 j _ k1) (by simp) hb
  · obtain ⟨bs, k1, k2, _⟩ := ha'.marks
    exact ⟨bs, k1, k2, fun i r b h => by simp at h⟩
end
end Go.Proofs.Ytngaihdpmoajeaa.Am

namespace Go.Proofs.Ytngaihdpmoajeaa.Am
open Go
section
variable {P : Program} {G : Nat → Option (List AV)} {R : Option Nat → Prop}

/-- A PIECE OF CODE THAT ENDS IN ONE OF SEVERAL STATES. -/
def AExecR (P : Program) (G : Nat → Option (List AV)) (R : Option Nat → Prop) (c : Code) (a : List AV) (σ : Heap) (T : Exit → List AV → Heap → Prop) : Prop :=
  ∀ r0, R r0 → ∀ (w : World) (M : Map) (ac : Act) (Q : Exit → Act → World → Prop), Inv G w M σ → RAct w M ac { tmps := a } →
    (∀ w' M' ac' e a' σ', T e a' σ' → Ext w M w' M' → Inv G w' M' σ' → RAct w' M' ac' { tmps := a' } → Q e ac' w') → c.wpIn (FW r0) 0 P Q ac w
theorem AExecR.of {c : Code} {a a' : List AV} {σ σ' : Heap} {e : Exit} {T : Exit → List AV → Heap → Prop} (h : AExec P G R c { tmps := a } σ e { tmps := a' } σ') (ht : T e a' σ') : AExecR P G R c a σ T :=
  fun r0 hr w M ac Q hi ha hQ => h r0 hr w M ac Q hi ha fun w' M' ac' he hi' ha' => hQ w' M' ac' e a' σ' ht he hi' ha'
theorem AExecR.conseq {c : Code} {a : List AV} {σ : Heap} {T T' : Exit → List AV → Heap → Prop} (h : AExecR P G R c a σ T) (ht : ∀ e a' σ', T e a' σ' → T' e a' σ') : AExecR P G R c a σ T' :=
  fun r0 hr w M ac Q hi ha hQ => h r0 hr w M ac Q hi ha fun w' M' ac' e a' σ' h1 => hQ w' M' ac' e a' σ' (ht e a' σ' h1)
/-- The frame at the end seen through weaker values. -/
theorem AExecR.sub {c : Code} {a : List AV} {σ : Heap} {T T' : Exit → List AV → Heap → Prop} (h : AExecR P G R c a σ T)
    (ht : ∀ e a' σ', T e a' σ' → ∃ b, T' e b σ' ∧ b.length = a'.length ∧ ∀ (j : Nat) (y' : AV), b[j]? = some y' → ∃ y, a'[j]? = some y ∧ ∀ w M u, RV w M u y → RV w M u y') : AExecR P G R c a σ T' :=
  fun r0 hr w M ac Q hi ha hQ => h r0 hr w M ac Q hi ha fun w' M' ac' e a' σ' h1 he hi' ha' => by
    obtain ⟨b, h2, h3, h4⟩ := ht e a' σ' h1
    exact hQ w' M' ac' e b σ' h2 he hi' (ha'.sub h3 h4)
theorem AExecR.seq {x y : Code} {a : List AV} {σ : Heap} {T1 T : Exit → List AV → Heap → Prop} (h : AExecR P G R x a σ T1) (k : ∀ e a1 σ1, T1 e a1 σ1 → e = .normal ∧ AExecR P G R y a1 σ1 T) : AExecR P G R (.seq x y) a σ T :=
  fun r0 hr w M ac Q hi ha hQ => wpIn_seq (h r0 hr w M ac _ hi ha fun w1 M1 ac1 e a1 σ1 h1 he hi1 ha1 => by
    obtain ⟨rfl, h2⟩ := k e a1 σ1 h1
    exact h2 r0 hr w1 M1 ac1 Q hi1 ha1 fun w2 M2 ac2 e2 a2 σ2 h3 he2 hi2 ha2 => hQ w2 M2 ac2 e2 a2 σ2 h3 (he.trans he2) hi2 ha2)
theorem AExecR.block {id : Nat} {c : Code} {a : List AV} {σ : Heap} {T : Exit → List AV → Heap → Prop} (h : AExecR P G R c a σ fun e => T (outOf id e)) : AExecR P G R (.block id c) a σ T :=
  fun r0 hr w M ac Q hi ha hQ => wpIn_block (h r0 hr w M ac _ hi ha fun w1 M1 ac1 e a1 σ1 h1 he1 hi1 ha1 => by
    have := hQ w1 M1 ac1 _ a1 σ1 h1 he1 hi1 ha1
    cases e <;> first | exact this | skip
    rename_i id'
    simp only [outOf] at this
    simp only [Exit.inBlock]
    split <;> rename_i hid
    · rw [if_pos hid] at this; exact this
    · rw [if_neg hid] at this; exact this)
/-- THE ROOM OF A SLICE: whatever it is. -/
theorem AExecR.known_cap {c : Code} {a : List AV} {σ : Heap} {T : Exit → List AV → Heap → Prop} {i size r g off len cap : Nat} (hi : a[i]? = some (.ms size r g off len cap)) (ho : (objAt σ r g).isSome = true)
    (h : ∀ capc, cap ≤ capc → AExecR P G R c (a.set i (.mx size r g off len capc)) σ T) : AExecR P G R c a σ T := by
  intro r0 hr w M ac Q hinv ha hQ
  have hv := ha.tmps.2 i _ hi
  obtain ⟨cc, hcc⟩ := Option.isSome_iff_exists.1 ho
  obtain ⟨b, cs, e', hm, hh, hl, hx⟩ := hinv.obj hcc
  generalize hu : ac.tmps.getD i undef = u at hv
  cases hv with
  | msS _ _ _ _ _ _ b' g' p capc hm' hg =>
    rw [hm] at hm'
    obtain ⟨_, rfl⟩ := Prod.mk.inj (Option.some.inj hm')
    omega
  | ms _ _ _ _ _ _ b' capc c' e'' hm' hlen hcc' hsz hfit =>
    refine h capc hcc' r0 hr w M ac Q hinv ⟨⟨by rw [ha.tmps.1]; simp, fun j x hj => ?_⟩, ha.marks⟩ hQ
    rw [List.getElem?_set] at hj
    split at hj
    · rename_i hij
      subst hij
      split at hj
      · cases hj
        rw [hu]
        exact .mx _ _ _ _ _ _ b' c' e'' hm' (by omega) hsz hfit
      · cases hj
    · exact ha.tmps.2 j x hj

/-- A LOOP of N rounds, each of which may end in several states. -/
theorem AExecR.loop {c : Code} {S : Nat → List AV → Heap → Prop} {N : Nat} {T : Exit → List AV → Heap → Prop} (hr : ∀ k, k < N → ∀ a σ, S k a σ → AExecR P G R c a σ fun e a' σ' => e = .normal ∧ S (k + 1) a' σ')
    (hs : ∀ a σ, S N a σ → AExecR P G R c a σ fun e a' σ' => e ≠ .normal ∧ T e a' σ') {a : List AV} {σ : Heap} (h0 : S 0 a σ) : AExecR P G R (.loop c) a σ T := by
  have key : ∀ (d k : Nat), k + d = N → ∀ a σ, S k a σ → ∀ r0, R r0 → ∀ (w : World) (M : Map) (ac : Act) (Q : Exit → Act → World → Prop), Inv G w M σ → RAct w M ac { tmps := a } →
      (∀ w' M' ac' e a' σ', T e a' σ' → Ext w M w' M' → Inv G w' M' σ' → RAct w' M' ac' { tmps := a' } → Q e ac' w') → Code.roundsIn (FW r0) 0 P c Q (d + 1) ac w := by
    intro d
    induction d with
    | zero =>
      intro k hk a σ hS r0 hr0 w M ac Q hi ha hQ
      obtain rfl : k = N := by omega
      exact hs a σ hS r0 hr0 w M ac _ hi ha fun w1 M1 ac1 e a1 σ1 ⟨hne, h1⟩ he hi1 ha1 => by
        have := hQ w1 M1 ac1 e a1 σ1 h1 he hi1 ha1
        cases e <;> first | exact this | exact absurd rfl hne
    | succ d ih =>
      intro k hk a σ hS r0 hr0 w M ac Q hi ha hQ
      exact hr k (by omega) a σ hS r0 hr0 w M ac _ hi ha fun w1 M1 ac1 e a1 σ1 ⟨hne, h1⟩ he hi1 ha1 => by
        subst hne
        exact ih (k + 1) (by omega) a1 σ1 h1 r0 hr0 w1 M1 ac1 Q hi1 ha1 fun w2 M2 ac2 e2 a2 σ2 h2 he2 hi2 ha2 => hQ w2 M2 ac2 e2 a2 σ2 h2 (he.trans he2) hi2 ha2
  exact fun r0 hr0 w M ac Q hi ha hQ => wpIn_loop_rounds (N + 1) (key N 0 (by omega) a σ h0 r0 hr0 w M ac Q hi ha hQ)
/-- What a value is, where all that is new has become data. -/
def ToData (n : Nat) (σ : Heap) (x y : AV) : Prop := (Below n x ∧ ∀ w M u, RV w M u x → RV w M u y) ∨
  ∃ r g cells, x = .ms 1 r g 0 cells.length cells.length ∧ n ≤ r ∧ objAt σ r g = some cells ∧ (∀ z ∈ cells, Below n z) ∧ ∀ w M u, RV w M u (.sl 1 (cells.map fun y => [y])) → RV w M u y
/-- WHAT IS NEW BECOMES DATA. -/
theorem AExecR.data {c : Code} {a b : List AV} {σ : Heap} {e : Exit} {T : Exit → List AV → Heap → Prop} (h : AExecR P G R c a σ T)
    (ht : ∀ e' a' σ', T e' a' σ' → e' = e ∧ (∃ τ, σ' = σ ++ τ) ∧ b.length = a'.length ∧ ∀ (j : Nat) (y : AV), b[j]? = some y → ∃ x, a'[j]? = some x ∧ ToData σ.length σ' x y) : AExec P G R c { tmps := a } σ e { tmps := b } σ := by
  intro r0 hr w M ac Q hi ha hQ
  refine h r0 hr w M ac Q hi ha fun w' M' ac' e' a' σ' h1 he hi' ha' => ?_
  obtain ⟨rfl, ⟨τ, rfl⟩, h2, h3⟩ := ht e' a' σ' h1
  obtain ⟨k1, k2⟩ := hi.forget he hi'
  refine hQ w' _ ac' k1 k2 ⟨⟨by rw [ha'.tmps.1, h2], fun j y hj => ?_⟩, ?_⟩
  · obtain ⟨x, q1, q2⟩ := h3 j y hj
    have hx := ha'.tmps.2 j x q1
    rcases q2 with ⟨q3, q4⟩ | ⟨r, g, cells, rfl, q3, q4, q5, q6⟩
    · exact q4 _ _ _ (hx.cut q3)
    · refine q6 _ _ _ (RV.msData hi' q3 hx ?_ q5)
      unfold objAt at q4
      split at q4
      · rename_i g' c' he2
        split at q4
        · rename_i hg
          cases q4
          subst hg
          exact he2
        · cases q4
      · cases q4
  · obtain ⟨bs, k1, k2, _⟩ := ha'.marks
    exact ⟨bs, k1, k2, fun i r b h => by simp at h⟩
end
end Go.Proofs.Ytngaihdpmoajeaa.Am

