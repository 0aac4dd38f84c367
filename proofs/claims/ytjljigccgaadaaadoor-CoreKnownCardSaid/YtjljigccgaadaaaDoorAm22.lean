/-
  This file proves nothing of a law. It holds the rule by which a call, or the rest of a body, takes the caller's own objects as data, where nothing that it gives back points anywhere. No condition.
-/
import Derived.Test.YtjljigccgaadaaaDoorAm21
namespace Go.Proofs.YtjljigccgaadaaaDoor.Am
open Go

/-- Values that point nowhere. -/
inductive Flat : AV → Prop
  | int (k : IntKind) (n : Int) : Flat (.int k n)
  | bool (b : Bool) : Flat (.bool b)
  | nilp : Flat .nilp
  | nilf : Flat .nilf
  | zs : Flat .zs
  | anyb : Flat .anyb
  | junk : Flat .junk
  | tup (xs : List AV) (h : ∀ (j : Nat) (x : AV), xs[j]? = some x → Flat x) : Flat (.tup xs)
  | agg (xs : List AV) (h : ∀ (j : Nat) (x : AV), xs[j]? = some x → Flat x) : Flat (.agg xs)
theorem flat_tup2 {a b : AV} (ha : Flat a) (hb : Flat b) : Flat (.tup [a, b]) := .tup _ fun j x hx => by
  match j, hx with
  | 0, hx => cases hx; exact ha
  | 1, hx => cases hx; exact hb
  | j + 2, hx => simp at hx
theorem RV.flat {w w' : World} {M M' : Map} {v : Value} {x : AV} (hv : RV w M v x) (hf : Flat x) : RV w' M' v x := by
  induction hv with
  | int k i => exact .int k i
  | bool b => exact .bool b
  | nilp => exact .nilp
  | nilf => exact .nilf
  | zs base => exact .zs base
  | anyb b => exact .anyb b
  | junk v => exact .junk v
  | agg vs xs hl _ ih => cases hf with | agg _ h => exact .agg vs xs hl fun j x hj => ih j x hj (h j x hj)
  | tup vs xs hl _ ih => cases hf with | tup _ h => exact .tup vs xs hl fun j x hj => ih j x hj (h j x hj)
  | _ => cases hf

section
variable {P : Program} {G : Nat → Option (List AV)}
/-- All the caller's objects, as data. -/
def Map.opened (M : Map) : Map := ⟨fun _ => none, M.far⟩
theorem Imm.opened {w : World} {M : Map} {b : Nat} (h : Imm w M b) : Imm w M.opened b := ⟨h.1, fun _ _ h => (by cases h), h.2.2⟩
theorem RV.opened {w : World} {M : Map} {v : Value} {x : AV} (hv : RV w M v x) (hb : Below 0 x) : RV w M.opened v x := by
  induction hv with
  | int k i => exact .int k i
  | bool b => exact .bool b
  | nilp => exact .nilp
  | nilf => exact .nilf
  | ref r g off b hr => cases hb with | ref _ _ _ hlt => omega
  | refS r g off b g' p hr hg => cases hb with | ref _ _ _ hlt => omega
  | row b o off f cells hi hc _ ih => cases hb with | row _ _ h => exact .row b o off f cells hi.opened hc fun j x hj => ih j x hj (h j x hj)
  | sl0 base cap size => exact .sl0 base cap size
  | sl b o cap size f rows hi hc hl _ hcap ih => cases hb with | sl _ _ h => exact .sl b o cap size f rows hi.opened hc hl (fun i r j x hi hj => ih i r j x hi hj (h i r j x hi hj)) hcap
  | fl v size k rows _ ih => cases hb with | fl _ _ _ h => exact .fl _ size k rows (ih h)
  | zs base => exact .zs base
  | ms size r g off len cap b capc c e hr hlen hcc hsz hfit => cases hb with | ms _ _ _ _ _ _ hlt => omega
  | msS size r g off len cap b g' p capc hr hg => cases hb with | ms _ _ _ _ _ _ hlt => omega
  | agg vs xs hl _ ih => cases hb with | agg _ h => exact .agg vs xs hl fun j x hj => ih j x hj (h j x hj)
  | tup vs xs hl _ ih => cases hb with | tup _ h => exact .tup vs xs hl fun j x hj => ih j x hj (h j x hj)
  | fn f fs cs xs ys hl1 hl2 _ _ ih1 ih2 => cases hb with | fn _ _ _ h1 h2 => exact .fn f fs cs xs ys hl1 hl2 (fun j x hj => ih1 j x hj (h1 j x hj)) (fun j x hj => ih2 j x hj (h2 j x hj))
  | yf l b hr => cases hb with | yf _ hlt => omega
  | yfS l b g fn fs cs hr hg => cases hb with | yf _ hlt => omega
  | anyb b => exact .anyb b
  | mx size r g off len cap b c e hr hlen hsz hfit => cases hb with | mx _ _ _ _ _ _ hlt => omega
  | mxS size r g off len cap b g' p hr hg => cases hb with | mx _ _ _ _ _ _ hlt => omega
  | junk v => exact .junk v
theorem Inv.opened {w : World} {M : Map} {σ : Heap} (hi : Inv G w M σ) (hG : GBelow G) : Inv G w M.opened [] := by
  refine .of (fun g cs hg => (hi.glob g cs hg).opened (hG g cs hg)) (fun r r' b g g' h1 _ => ?_) (fun r p h1 => ?_) (fun r b g h1 => ?_) (fun b hb => ⟨(hi.far b hb).1, fun r g h => by cases h⟩) (fun r o h1 => by simp at h1)
  · cases h1
  · cases h1
  · cases h1
/-- What the caller sees of a call that took its objects as data. -/
theorem Ext.unopened {w w' : World} {M M' : Map} {σ : Heap} (hi : Inv G w M σ) (he : Ext w M.opened w' M') : Ext w M w' M ∧ ∀ r b g, M r = some (b, g) → w'.heap[b]? = w.heap[b]? := by
  have himm : ∀ r b g, M r = some (b, g) → Imm w M.opened b := fun r b g hr => ⟨hi.lt r b g hr, fun _ _ h => (by cases h), fun hf => (hi.far b hf).2 r g hr⟩
  have hsame : ∀ r b g, M r = some (b, g) → w'.heap[b]? = w.heap[b]? := fun r b g hr => (he.imm b (himm r b g hr)).2
  refine ⟨⟨he.size, he.os, he.tape, he.output, fun b hb => ⟨⟨Nat.lt_of_lt_of_le hb.1 he.size, hb.2⟩, (he.imm b hb.opened).2⟩, fun r b g hr => ⟨b, g, hr, .inr ⟨rfl, rfl⟩⟩, fun r b g c e0 fr hr _ hc => ⟨c, ?_, rfl⟩, fun r b hr hn => ⟨hr, ?_, fun c e0 fr hc => ?_⟩,
    rfl, fun b hb hl => he.far.2 b hb hl⟩, hsame⟩
  · rw [hsame r b g hr]; exact hc
  · exact Nat.lt_of_lt_of_le hn.1 he.size
  · rw [hsame r b 0 hr] at hc; exact hn.2 c e0 fr hc

/-- A slice of the caller's, as data. -/
theorem RV.msOpen {w : World} {M : Map} {σ : Heap} (hi : Inv G w M σ) {v : Value} {r g : Nat} {cells : List AV} (hv : RV w M v (.ms 1 r g 0 cells.length cells.length)) (ho : σ[r]? = some (.cells g cells)) (hb : ∀ x ∈ cells, Below 0 x) :
    RV w M.opened v (.sl 1 (cells.map fun y => [y])) := by
  obtain ⟨b, cs, e, hm, hh, hl, hx⟩ := hi.cells r g cells ho
  cases hv with
  | ms _ _ _ _ _ _ b' capc c' e' hm' hlen hcc hsz hfit =>
    rw [hm] at hm'
    obtain ⟨rfl, _⟩ := Prod.mk.inj (Option.some.inj hm')
    have himm : Imm w M.opened b := ⟨hi.lt r b g hm, fun r' g' h' => (by cases h'), hi.notFar hm⟩
    have hlen' : (cells.map fun y => ([y] : List AV)).length = cells.length := by simp
    have := RV.sl (w := w) (M := M.opened) b 0 capc 1 (fun i j => cs.getD (i + j) Go.undef) (cells.map fun y => [y]) himm
      (fun i rw' j hrw hj => by
        have hil : i < cells.length := by have := (List.getElem?_eq_some_iff.1 hrw).1; rwa [hlen'] at this
        rw [Nat.zero_add, Nat.mul_one]
        exact cell_of_cells hh (by omega))
      (fun i rw' hrw => by
        obtain ⟨y, _, rfl⟩ := List.mem_map.1 (List.mem_of_getElem? hrw); rfl)
      (fun i rw' j z hrw hz => by
        have hil : i < cells.length := by have := (List.getElem?_eq_some_iff.1 hrw).1; rwa [hlen'] at this
        rw [List.getElem?_map] at hrw
        rw [List.getElem?_eq_getElem hil] at hrw
        cases hrw
        cases j with
        | zero =>
          simp at hz; subst hz
          exact (hx i _ (List.getElem?_eq_getElem hil)).opened (hb _ (List.getElem_mem hil))
        | succ j => simp at hz)
      (by rw [hlen']; omega)
    rw [hlen'] at this
    exact this
  | msS _ _ _ _ _ _ b' g' p capc hm' hg =>
    rw [hm] at hm'
    obtain ⟨_, rfl⟩ := Prod.mk.inj (Option.some.inj hm')
    omega
/-- x, taken as data, is x'. -/
def Frz (σ : Heap) (x x' : AV) : Prop := (∃ k, freeze σ k x = some x') ∨ (Below 0 x ∧ x' = x) ∨ ∃ r g cells, x = .ms 1 r g 0 cells.length cells.length ∧ σ[r]? = some (.cells g cells) ∧ (∀ y ∈ cells, Below 0 y) ∧ x' = .sl 1 (cells.map fun y => [y])
theorem RV.frz {w : World} {M : Map} {σ : Heap} (hi : Inv G w M σ) {v : Value} {x x' : AV} (hv : RV w M v x) (hf : Frz σ x x') : RV w M.opened v x' := by
  rcases hf with ⟨k, hk⟩ | ⟨hb, rfl⟩ | ⟨r, g, cells, rfl, ho, hb, rfl⟩
  · exact freeze_ok (Mx := M.opened) hi (fun r b g hr => ⟨fun _ _ h => (by cases h), fun h => (hi.far b h).2 r g hr⟩) k hv hk
  · exact hv.opened hb
  · exact RV.msOpen hi hv ho hb
theorem RVs.frz {w : World} {M : Map} {σ : Heap} (hi : Inv G w M σ) {vs : Array Value} {xs xs' : List AV} (hv : RVs w M vs xs) (hl : xs.length = xs'.length) (hx : ∀ (j : Nat) (x' : AV), xs'[j]? = some x' → ∃ x, xs[j]? = some x ∧ Frz σ x x') : RVs w M.opened vs xs' :=
  ⟨by rw [hv.1, hl], fun j x' hj => by
    obtain ⟨x, h1, h2⟩ := hx j x' hj
    exact (hv.2 j x h1).frz hi h2⟩
/-- A CALL THAT TAKES THE CALLER'S OBJECTS AS DATA. -/
theorem ACall.frz {f : FuncId} {xs xs' : List AV} {σ σ0 : Heap} {v : AV} (h : ACall P G f xs' [] v σ0) (hG : GBelow G) (hv : Flat v) (hl : xs.length = xs'.length) (hx : ∀ (j : Nat) (x' : AV), xs'[j]? = some x' → ∃ x, xs[j]? = some x ∧ Frz σ x x') : ACall P G f xs σ v σ := by
  refine ⟨h.1, fun w M vs hi hvs => (h.2 w M.opened vs (hi.opened hG) (hvs.frz hi hl hx)).mono ?_⟩
  rintro e w' ⟨u, M', rfl, hu, he, _⟩
  obtain ⟨h1, h2⟩ := Ext.unopened hi he
  exact ⟨u, M, rfl, hu.flat hv, h1, hi.keep h1 h2⟩
/-- THE REST OF A BODY, which takes all objects as data. -/
theorem AExec.frz {R : Option Nat → Prop} {c : Code} {a a' a2 : List AV} {σ σ0 : Heap} {e : Exit} (h : AExec P G R c { tmps := a' } [] e { tmps := a2 } σ0) (hG : GBelow G) (hv : ∀ x ∈ a2, Flat x) (hl : a.length = a'.length) (hx : ∀ (j : Nat) (x' : AV), a'[j]? = some x' → ∃ x, a[j]? = some x ∧ Frz σ x x') :
    AExec P G R c { tmps := a } σ e { tmps := a2 } σ := by
  intro r0 hr w M ac Q hi ha hQ
  obtain ⟨bs, m1, m2, m3⟩ := ha.marks
  refine h r0 hr w M.opened ac Q (hi.opened hG) ⟨ha.tmps.frz hi hl hx, bs, m1, m2, fun i r b h => by simp at h⟩ fun w' M' ac' he hi' ha' => ?_
  obtain ⟨h1, h2⟩ := Ext.unopened hi he
  obtain ⟨bs', k1, k2, k3⟩ := ha'.marks
  exact hQ w' M ac' h1 (hi.keep h1 h2) ⟨⟨ha'.tmps.1, fun j x hj => (ha'.tmps.2 j x hj).flat (hv x (List.mem_of_getElem? hj))⟩, bs', k1, k2, fun i r b h => by simp at h⟩
end
end Go.Proofs.YtjljigccgaadaaaDoor.Am
