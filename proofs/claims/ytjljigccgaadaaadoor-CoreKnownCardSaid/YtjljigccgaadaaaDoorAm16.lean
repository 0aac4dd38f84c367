/-
  This file proves nothing of a law. It holds the rule by which a call that needs no objects of its caller's is a fact over every heap, and what it has made is from then on data. No condition.
-/
import Derived.Test.YtjljigccgaadaaaDoorAm15
namespace Go.Proofs.YtjljigccgaadaaaDoor.Am
open Go

/-- Values that are to be told as data from now on. -/
def freezeL (f : AV → Option AV) : List AV → Option (List AV)
  | [] => some []
  | x :: r => match f x, freezeL f r with
    | some y, some ys => some (y :: ys)
    | _, _ => none
/-- Rows of 'size' cells, from 'off' on, 'n' of them. -/
def rowsOf (f : AV → Option AV) (size : Nat) (c : List AV) : Nat → Nat → Option (List (List AV))
  | _, 0 => some []
  | off, n + 1 => if off + size ≤ c.length then
      match freezeL f ((c.drop off).take size), rowsOf f size c (off + size) n with
      | some y, some ys => some (y :: ys)
      | _, _ => none
    else none
def freeze (h : Heap) : Nat → AV → Option AV
  | 0, _ => none
  | f + 1, x => match x with
    | .int k n => some (.int k n)
    | .bool b => some (.bool b)
    | .nilp => some .nilp
    | .nilf => some .nilf
    | .zs => some .zs
    | .ms size r g off len _ =>
      match objAt h r g with
      | some c => (rowsOf (freeze h f) size c off len).map (.sl size)
      | none => none
    | .tup xs => (freezeL (freeze h f) xs).map .tup
    | .agg xs => (freezeL (freeze h f) xs).map .agg
    | _ => none

theorem freezeL_ok {f : AV → Option AV} : ∀ {l ys : List AV}, freezeL f l = some ys → ys.length = l.length ∧ ∀ (j : Nat) (y : AV), ys[j]? = some y → ∃ x, l[j]? = some x ∧ f x = some y
  | [], ys, h => by cases h; exact ⟨rfl, fun j y hj => by simp at hj⟩
  | x :: r, ys, h => by
    unfold freezeL at h
    split at h
    · rename_i y zs hy hz
      cases h
      obtain ⟨h1, h2⟩ := freezeL_ok hz
      refine ⟨by simp [h1], fun j z hj => ?_⟩
      cases j with
      | zero => simp at hj; subst hj; exact ⟨x, rfl, hy⟩
      | succ j => simpa using h2 j z (by simpa using hj)
    · cases h
theorem rowsOf_ok {f : AV → Option AV} {size : Nat} {c : List AV} : ∀ {n off : Nat} {rows : List (List AV)}, rowsOf f size c off n = some rows → rows.length = n ∧ ∀ (i : Nat) (r : List AV), rows[i]? = some r →
    r.length = size ∧ off + i * size + size ≤ c.length ∧ ∀ (j : Nat) (y : AV), r[j]? = some y → ∃ x, c[off + i * size + j]? = some x ∧ f x = some y
  | 0, off, rows, h => by cases h; exact ⟨rfl, fun i r hi => by simp at hi⟩
  | n + 1, off, rows, h => by
    unfold rowsOf at h
    split at h
    · rename_i hle
      split at h
      · rename_i y zs hy hz
        cases h
        obtain ⟨h1, h2⟩ := rowsOf_ok hz
        refine ⟨by simp [h1], fun i r hi => ?_⟩
        cases i with
        | zero =>
          simp at hi; subst hi
          obtain ⟨k1, k2⟩ := freezeL_ok hy
          have hl : ((c.drop off).take size).length = size := by simp; omega
          refine ⟨by omega, by omega, fun j z hj => ?_⟩
          obtain ⟨x, hx, hf⟩ := k2 j z hj
          have hjl := (List.getElem?_eq_some_iff.1 hx).1
          refine ⟨x, ?_, hf⟩
          rw [List.getElem?_take_of_lt (by omega), List.getElem?_drop] at hx
          simpa using hx
        | succ i =>
          obtain ⟨k1, k2, k3⟩ := h2 i r (by simpa using hi)
          have he : off + size + i * size = off + (i + 1) * size := by rw [Nat.add_mul]; omega
          rw [he] at k2 k3
          exact ⟨k1, k2, k3⟩
      · cases h
    · cases h

section
variable {P : Program} {G : Nat → Option (List AV)}

theorem freeze_ok {w : World} {M Mx : Map} {h : Heap} (hi : Inv G w M h) (hd : ∀ r b g, M r = some (b, g) → (∀ r' g', Mx r' ≠ some (b, g')) ∧ ¬ Mx.far b) : ∀ (f : Nat) {v : Value} {x y : AV}, RV w M v x → freeze h f x = some y → RV w Mx v y
  | 0, v, x, y, _, hf => by cases hf
  | f + 1, v, x, y, hv, hf => by
    unfold freeze at hf
    split at hf
    · cases hf; cases hv; exact .int _ _
    · cases hf; cases hv; exact .bool _
    · cases hf; cases hv; exact .nilp
    · cases hf; cases hv; exact .nilf
    · cases hf; cases hv; exact .zs _
    · rename_i size r g off len cap
      split at hf
      · rename_i c hc
        obtain ⟨b, cs, e, hm, hh, hl, hx⟩ := hi.obj hc
        cases hr : rowsOf (freeze h f) size c off len with
        | none => rw [hr] at hf; cases hf
        | some rows =>
          rw [hr] at hf; cases hf
          obtain ⟨h1, h2⟩ := rowsOf_ok hr
          cases hv with
          | ms size r g off len cap b' capc c' e' hm' hlen hcc hsz hfit =>
            rw [hm] at hm'
            obtain ⟨rfl, _⟩ := Prod.mk.inj (Option.some.inj hm')
            have hlt : b < w.heap.size := hi.lt r b g hm
            have := RV.sl (w := w) (M := Mx) b off capc size (fun i j => cs.getD (off + i * size + j) undef) rows ⟨hlt, hd r b g hm⟩
              (fun i rw j hrw hj => by
                obtain ⟨k1, k2, k3⟩ := h2 i rw hrw
                exact cell_of_cells hh (by omega))
              (fun i rw hrw => (h2 i rw hrw).1)
              (fun i rw j z hrw hz => by
                obtain ⟨k1, k2, k3⟩ := h2 i rw hrw
                obtain ⟨x0, hx0, hfx⟩ := k3 j z hz
                exact freeze_ok hi hd f (hx _ _ hx0) hfx)
              (by rw [h1]; omega)
            rw [h1] at this
            exact this
          | msS size r g off len cap b' g' p capc hm' hg =>
            rw [hm] at hm'
            obtain ⟨_, rfl⟩ := Prod.mk.inj (Option.some.inj hm')
            omega
      · cases hf
    · rename_i xs
      cases hx : freezeL (freeze h f) xs with
      | none => rw [hx] at hf; cases hf
      | some ys =>
        rw [hx] at hf; cases hf
        obtain ⟨h1, h2⟩ := freezeL_ok hx
        cases hv with
        | tup vs _ hl hh =>
          refine .tup vs ys (by omega) fun j z hz => ?_
          obtain ⟨x0, hx0, hfx⟩ := h2 j z hz
          exact freeze_ok hi hd f (hh j x0 hx0) hfx
    · rename_i xs
      cases hx : freezeL (freeze h f) xs with
      | none => rw [hx] at hf; cases hf
      | some ys =>
        rw [hx] at hf; cases hf
        obtain ⟨h1, h2⟩ := freezeL_ok hx
        cases hv with
        | agg vs _ hl hh =>
          refine .agg vs ys (by omega) fun j z hz => ?_
          obtain ⟨x0, hx0, hfx⟩ := h2 j z hz
          exact freeze_ok hi hd f (hh j x0 hx0) hfx
    · cases hf

/-- What is known of package variables points nowhere. -/
def GBelow (G : Nat → Option (List AV)) : Prop := ∀ g cs, G g = some cs → Below 0 (.row cs 0)

/-- The caller's objects alone, as others' blocks. -/
def Map.hide (M : Map) : Map := ⟨fun _ => none, fun b => M.far b ∨ ∃ r g, M r = some (b, g)⟩
theorem Imm.hide {w : World} {M : Map} {b : Nat} (h : Imm w M b) : Imm w M.hide b := ⟨h.1, fun _ _ h => (by cases h), fun k => by
  rcases k with k | ⟨r, g, k⟩
  · exact h.2.2 k
  · exact h.2.1 r g k⟩
theorem RV.hide {w : World} {M : Map} {v : Value} {x : AV} (hv : RV w M v x) (hb : Below 0 x) : RV w M.hide v x := by
  induction hv with
  | int k i => exact .int k i
  | bool b => exact .bool b
  | nilp => exact .nilp
  | nilf => exact .nilf
  | ref r g off b hr => cases hb with | ref _ _ _ hlt => omega
  | refS r g off b g' p hr hg => cases hb with | ref _ _ _ hlt => omega
  | row b o off f cells hi hc _ ih => cases hb with | row _ _ h => exact .row b o off f cells hi.hide hc fun j x hj => ih j x hj (h j x hj)
  | sl0 base cap size => exact .sl0 base cap size
  | sl b o cap size f rows hi hc hl _ hcap ih => cases hb with | sl _ _ h => exact .sl b o cap size f rows hi.hide hc hl (fun i r j x hi hj => ih i r j x hi hj (h i r j x hi hj)) hcap
  | fl v size k rows _ ih => cases hb with | fl _ _ _ h => exact .fl _ size k rows (ih h)
  | zs base => exact .zs base
  | ms size r g off len cap b capc c e hr hlen hcc hsz hfit => cases hb with | ms _ _ _ _ _ _ hlt => omega
  | msS size r g off len cap b g' p capc hr hg => cases hb with | ms _ _ _ _ _ _ hlt => omega
  | agg vs xs hl _ ih => cases hb with | agg _ h => exact .agg vs xs hl fun j x hj => ih j x hj (h j x hj)
  | tup vs xs hl _ ih => cases hb with | tup _ h => exact .tup vs xs hl fun j x hj => ih j x hj (h j x hj)
  | fn f fs cs xs ys hl1 hl2 _ _ ih1 ih2 => cases hb with | fn _ _ _ h1 h2 => exact .fn f fs cs xs ys hl1 hl2 (fun j x hj => ih1 j x hj (h1 j x hj)) (fun j x hj => ih2 j x hj (h2 j x hj))
  | yf l b hr => cases hb with | yf _ hlt => omega
  | yfS l b g fn fs cs hr hg => cases hb with | yf _ hlt => omega
  | anyb b => exact .anyb b
  | mx size r g off len cap b c e hr hlen hsz hfit => cases hb with | mx _ _ _ _ _ _ hlt => omega
  | mxS size r g off len cap b g' p hr hg => cases hb with | mx _ _ _ _ _ _ hlt => omega
  | junk v => exact .junk v

theorem Inv.hide {w : World} {M : Map} {σ : Heap} (hi : Inv G w M σ) (hG : GBelow G) : Inv G w M.hide [] := by
  refine .of (fun g cs hg => (hi.glob g cs hg).hide (hG g cs hg)) (fun r r' b g g' h1 _ => ?_) (fun r p h1 => ?_) (fun r b g h1 => ?_) (fun b hb => ?_) (fun r o h1 => by simp at h1)
  · cases h1
  · cases h1
  · cases h1
  · refine ⟨?_, fun r g h => by cases h⟩
    rcases hb with hb | ⟨r, g, hr⟩
    · exact (hi.far b hb).1
    · exact hi.lt r b g hr

/-- What the caller sees of a call that did not see its objects. -/
theorem Ext.unhide {w w' : World} {M M' : Map} {σ : Heap} (hi : Inv G w M σ) (he : Ext w M.hide w' M') : Ext w M w' M ∧ (∀ r b g, M r = some (b, g) → w'.heap[b]? = w.heap[b]?) ∧ ∀ r b g, M' r = some (b, g) → FarOk w' M' → (∀ r' g', M r' ≠ some (b, g')) ∧ ¬ M.far b := by
  have hsame : ∀ r b g, M r = some (b, g) → w'.heap[b]? = w.heap[b]? := fun r b g hr => he.far.2 b (.inr ⟨r, g, hr⟩) (hi.lt r b g hr)
  refine ⟨⟨he.size, he.os, he.tape, he.output, fun b hb => ⟨⟨Nat.lt_of_lt_of_le hb.1 he.size, hb.2⟩, (he.imm b hb.hide).2⟩, fun r b g hr => ⟨b, g, hr, .inr ⟨rfl, rfl⟩⟩, fun r b g c e0 fr hr _ hc => ⟨c, ?_, rfl⟩, fun r b hr hn => ⟨hr, ?_, fun c e0 fr hc => ?_⟩,
    rfl, fun b hb hl => he.far.2 b (.inl hb) hl⟩, hsame, fun r b g h1 hf => ⟨fun r' g' h2 => ?_, fun h2 => ?_⟩⟩
  · rw [hsame r b g hr]; exact hc
  · exact Nat.lt_of_lt_of_le hn.1 he.size
  · rw [hsame r b 0 hr] at hc; exact hn.2 c e0 fr hc
  · have : M'.far b := by rw [he.far.1]; exact .inr ⟨r', g', h2⟩
    exact (hf b this).2 r g h1
  · have : M'.far b := by rw [he.far.1]; exact .inl h2
    exact (hf b this).2 r g h1

/-- A CALL THAT NEEDS NO OBJECTS OF ITS CALLER'S. -/
theorem ACall.lift {f : FuncId} {args : List AV} {v v' : AV} {h' : Heap} {k : Nat} (h : ACall P G f args [] v h') (hf : freeze h' k v = some v') (hG : GBelow G) (ha : ∀ x ∈ args, Below 0 x) (σ : Heap) : ACall P G f args σ v' σ := by
  refine ⟨h.1, fun w M vs hi hvs => ?_⟩
  have hvs0 : RVs w M.hide vs args := ⟨hvs.1, fun j x hj => (hvs.2 j x hj).hide (ha x (List.mem_of_getElem? hj))⟩
  refine (h.2 w M.hide vs (hi.hide hG) hvs0).mono ?_
  rintro e w' ⟨u, M', rfl, hu, he, hi'⟩
  obtain ⟨h1, h2, h3⟩ := Ext.unhide hi he
  exact ⟨u, M, rfl, freeze_ok hi' (fun r b g k1 => h3 r b g k1 hi'.far) k hu hf, h1, hi.keep h1 h2⟩

/-- Data of a callee's are data of its caller's. -/
theorem Imm.unhide {w w' : World} {M M' : Map} {b : Nat} (he : Ext w M.hide w' M') (h : Imm w' M' b) : Imm w' M b := by
  have hf : ¬ M.hide.far b := by rw [← he.far.1]; exact h.2.2
  exact ⟨h.1, fun r g hr => hf (.inr ⟨r, g, hr⟩), fun hr => hf (.inl hr)⟩
theorem RV.unhide {w w' : World} {M M' : Map} (he : Ext w M.hide w' M') {v : Value} {x : AV} (hv : RV w' M' v x) (hb : Below 0 x) : RV w' M v x := by
  induction hv with
  | int k i => exact .int k i
  | bool b => exact .bool b
  | nilp => exact .nilp
  | nilf => exact .nilf
  | ref r g off b hr => cases hb with | ref _ _ _ hlt => omega
  | refS r g off b g' p hr hg => cases hb with | ref _ _ _ hlt => omega
  | row b o off f cells hi hc _ ih => cases hb with | row _ _ h => exact .row b o off f cells (hi.unhide he) hc fun j x hj => ih j x hj (h j x hj)
  | sl0 base cap size => exact .sl0 base cap size
  | sl b o cap size f rows hi hc hl _ hcap ih => cases hb with | sl _ _ h => exact .sl b o cap size f rows (hi.unhide he) hc hl (fun i r j x hi hj => ih i r j x hi hj (h i r j x hi hj)) hcap
  | fl v size k rows _ ih => cases hb with | fl _ _ _ h => exact .fl _ size k rows (ih h)
  | zs base => exact .zs base
  | ms size r g off len cap b capc c e hr hlen hcc hsz hfit => cases hb with | ms _ _ _ _ _ _ hlt => omega
  | msS size r g off len cap b g' p capc hr hg => cases hb with | ms _ _ _ _ _ _ hlt => omega
  | agg vs xs hl _ ih => cases hb with | agg _ h => exact .agg vs xs hl fun j x hj => ih j x hj (h j x hj)
  | tup vs xs hl _ ih => cases hb with | tup _ h => exact .tup vs xs hl fun j x hj => ih j x hj (h j x hj)
  | fn f fs cs xs ys hl1 hl2 _ _ ih1 ih2 => cases hb with | fn _ _ _ h1 h2 => exact .fn f fs cs xs ys hl1 hl2 (fun j x hj => ih1 j x hj (h1 j x hj)) (fun j x hj => ih2 j x hj (h2 j x hj))
  | yf l b hr => cases hb with | yf _ hlt => omega
  | yfS l b g fn fs cs hr hg => cases hb with | yf _ hlt => omega
  | anyb b => exact .anyb b
  | mx size r g off len cap b c e hr hlen hsz hfit => cases hb with | mx _ _ _ _ _ _ hlt => omega
  | mxS size r g off len cap b g' p hr hg => cases hb with | mx _ _ _ _ _ _ hlt => omega
  | junk v => exact .junk v
theorem ACall.lift0 {f : FuncId} {args : List AV} {v : AV} {h' : Heap} (h : ACall P G f args [] v h') (hv : Below 0 v) (hG : GBelow G) (ha : ∀ x ∈ args, Below 0 x) (σ : Heap) : ACall P G f args σ v σ := by
  refine ⟨h.1, fun w M vs hi hvs => ?_⟩
  have hvs0 : RVs w M.hide vs args := ⟨hvs.1, fun j x hj => (hvs.2 j x hj).hide (ha x (List.mem_of_getElem? hj))⟩
  refine (h.2 w M.hide vs (hi.hide hG) hvs0).mono ?_
  rintro e w' ⟨u, M', rfl, hu, he, hi'⟩
  obtain ⟨h1, h2, h3⟩ := Ext.unhide hi he
  exact ⟨u, M, rfl, hu.unhide he hv, h1, hi.keep h1 h2⟩

/-- The found fact, over every heap. -/
theorem xCall_lift {E : Env} (hn : NamesOk P) (hm : P.follows .mixedOrders = true) (hcl : ClOk P G E) {n : Nat} {f : FuncId} {xs : List AV} {tags : List Bool} {h' : Heap} {v v' : AV} {s : Bool} {k : Nat}
    (hx : (xCall P G E n f xs tags []).sel = some (v, s, h')) (hf : freeze h' k v = some v') (hG : GBelow G) (ha : ∀ x ∈ xs, Below 0 x) (σ : Heap) : ACall P G f xs σ v' σ :=
  (xCall_ok hn hm hcl hx).lift hf hG ha σ
end
end Go.Proofs.YtjljigccgaadaaaDoor.Am
