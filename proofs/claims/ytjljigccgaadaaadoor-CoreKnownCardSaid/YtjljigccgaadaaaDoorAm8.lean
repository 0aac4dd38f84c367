/-
  This file proves nothing of a law. It holds append, copy and clear. No condition.
-/
import Derived.Test.YtjljigccgaadaaaDoorAm7
namespace Go.Proofs.YtjljigccgaadaaaDoor.Am
open Go

theorem growBy_le (newLen : Nat) : ∀ (rounds c : Nat), Builtin.growBy newLen rounds c ≤ Nat.max c (newLen + (newLen + 768) / 4)
  | 0, c => by rw [Builtin.growBy]; exact Nat.le_max_left _ _
  | n + 1, c => by
    rw [Builtin.growBy]
    split
    · exact Nat.le_max_left _ _
    · refine Nat.le_trans (growBy_le newLen n _) ?_
      refine Nat.max_le.2 ⟨?_, Nat.le_max_right _ _⟩
      refine Nat.le_trans ?_ (Nat.le_max_right _ _)
      omega
theorem nextcap_le {need cap : Nat} (h1 : cap < need) (h2 : need ≤ 16777216) : Builtin.nextslicecap need cap ≤ 33554432 := by
  unfold Builtin.nextslicecap
  split
  · omega
  · split
    · omega
    · refine Nat.le_trans (growBy_le need 4 cap) ?_
      exact Nat.max_le.2 ⟨by omega, by omega⟩

section
variable {w : World} {M : Map} {P : Program} {G : Nat → Option (List AV)} {σ : Heap}

def notInt (P : Program) (t : TypeId) : Bool :=
  match P.underlying t with
  | some (.slice _) => true
  | _ => false

/-- append(s, x...). What grows is moved on to its next generation. -/
def aAppend (P : Program) (σ : Heap) (t t2 : TypeId) (s x : AV) : Option (AV × Heap) :=
  match P.underlying t with
  | some (.slice e) =>
    match P.info? e, aZero P e with
    | some ie, some zx =>
      match conts σ ie.size x with
      | some (n, xs) =>
        if notInt P t2 = true ∧ xs.all AV.one = true ∧ ie.bytes ≤ 65536 ∧ zx.cells.length = ie.size ∧ zx.cells.all AV.one = true then
          match s with
          | .zs => if n = 0 then some (.zs, σ) else if n ≤ 16777216 then some (.ms ie.size σ.length 0 0 n n, σ ++ [.cells 0 xs]) else none
          | .sl size _ => if n = 0 ∧ size = ie.size then some (s, σ) else none
          | .ms size r g off len cap =>
            match objAt σ r g with
            | some c =>
              if size = ie.size ∧ len ≤ cap ∧ off + len * size ≤ c.length then
                if n = 0 then some (s, σ)
                else if len + n ≤ cap then
                  if off + (len + n) * size ≤ c.length then some (.ms size r g off (len + n) cap, σ.set r (.cells g (setL c (off + len * size) xs))) else none
                else if off = 0 ∧ len + n ≤ 16777216 then
                  some (.ms size r (g + 1) 0 (len + n) (len + n), σ.set r (.cells (g + 1) (c.take (len * size) ++ xs)))
                else none
              else none
            | none => none
          | _ => none
        else none
      | none => none
    | _, _ => none
  | _ => none

/-- The run of append where there is room. -/
theorem run_append_room {t t2 ty e : TypeId} {ie : TypeInfo} {base : Option Addr} {sLen sCap n : Nat} {v : Value} {us : Array Value} {w' : World} (hu : P.underlying t = some (.slice e)) (hie : P.info? e = some ie) (h2 : notInt P t2 = true)
    (hn : (Builtin.lenOf v).run P w = .ok n w) (hf : (Builtin.firstCells ie.size n v).run P w = .ok us w) (hroom : sLen + n ≤ sCap)
    (hs : (match base with | some a => storeCells (a.add (sLen * ie.size)) us.toList | none => pure ()).run P w = .ok () w') :
    (Builtin.append_ #[t, t2] ty #[.slice base sLen sCap, v]).run P w = .ok (.slice base (sLen + n) sCap) w' := by
  obtain ⟨e2, hu2⟩ : ∃ e2, P.underlying t2 = some (.slice e2) := by
    unfold notInt at h2
    split at h2
    · exact ⟨_, ‹_›⟩
    · cases h2
  simp only [Builtin.append_, List.getElem?_toArray, List.getElem?_cons_zero, List.getElem?_cons_succ, Sem.run_bind, run_underlying', hu, hu2, Result.andThen_ok, run_sizeOf', hie, Sem.run_pure, Bool.false_eq_true, if_false, hn, hroom, if_true, Bool.not_false, hf]
  cases base with
  | none =>
    simp only [Sem.run_pure] at hs
    cases hs
    rfl
  | some a =>
    simp only at hs
    simp only [Sem.run_bind, hs, Result.andThen_ok, Sem.run_pure]

/-- The run of append where there is none. -/
theorem run_append_grow {t t2 ty e : TypeId} {ie : TypeInfo} {base : Option Addr} {sLen sCap n : Nat} {v : Value} {us os : Array Value} (hu : P.underlying t = some (.slice e)) (hie : P.info? e = some ie) (h2 : notInt P t2 = true)
    (hn : (Builtin.lenOf v).run P w = .ok n w) (hf : (Builtin.firstCells ie.size n v).run P { w with drawn := w.drawn + 1 } = .ok us { w with drawn := w.drawn + 1 })
    (ho : (Builtin.firstCells ie.size sLen (.slice base sLen sCap)).run P { w with drawn := w.drawn + 1 } = .ok os { w with drawn := w.drawn + 1 })
    (hroom : ¬ sLen + n ≤ sCap) (hsm : sLen + n ≤ 16777216) (hb : ie.bytes ≤ 65536) {z : Value} (hz : (zeroValue e).run P { w with drawn := w.drawn + 1 } = .ok z { w with drawn := w.drawn + 1 }) :
    ∃ cap : Nat, sLen + n ≤ cap ∧ (Builtin.append_ #[t, t2] ty #[.slice base sLen sCap, v]).run P w =
      .ok (.slice (some ⟨w.heap.size, 0, none⟩) (sLen + n) cap) (({ w with drawn := w.drawn + 1 } : World).alloc (.cells (os ++ us ++ Builtin.zeroCells z.cells (cap - (sLen + n))) e)) := by
  obtain ⟨e2, hu2⟩ : ∃ e2, P.underlying t2 = some (.slice e2) := by
    unfold notInt at h2
    split at h2
    · exact ⟨_, ‹_›⟩
    · cases h2
  refine ⟨sLen + n + w.tape w.drawn (.appendCap (sLen + n) sCap e) % (2 ^ 63 - (sLen + n)), by omega, ?_⟩
  have hcap := nextcap_le (need := sLen + n) (cap := sCap) (by omega) hsm
  have hmul : Builtin.nextslicecap (sLen + n) sCap * ie.bytes ≤ 33554432 * 65536 := Nat.mul_le_mul hcap hb
  have hn1 : ¬ ((((sLen + n : Nat) : Int) > IntKind.i64.max) ∧ (False ∨ ie.bytes = 0)) := by
    have : IntKind.i64.max = 9223372036854775807 := by decide
    rw [this]
    omega
  have hn2 : ¬ (Builtin.nextslicecap (sLen + n) sCap * ie.bytes > 2 ^ 48) := by omega
  simp only [Builtin.append_, List.getElem?_toArray, List.getElem?_cons_zero, List.getElem?_cons_succ, Sem.run_bind, run_underlying', hu, hu2, Result.andThen_ok, run_sizeOf', hie, Sem.run_pure, Bool.false_eq_true, if_false, hn, if_neg hroom, Bool.not_false, if_true, run_typeInfo']
  rw [if_neg hn1]
  simp only [Sem.run_bind, run_typeInfo', hie, Result.andThen_ok]
  rw [if_neg hn2]
  have hq : (Question.appendCap (sLen + n) sCap e).forced = false := rfl
  simp only [Sem.run_bind, run_choose, hq, Bool.false_eq_true, if_false, Result.andThen_ok, run_typeInfo', hie, run_askRoom, ho, hf, hz, Sem.run_pure]
  rfl
theorem zeroCells_size (z : Array Value) (n : Nat) : (Builtin.zeroCells z n).size = n * z.size := by simp [Builtin.zeroCells]
theorem getD_append {a b : Array Value} {j : Nat} : (a ++ b).getD j undef = if j < a.size then a.getD j undef else b.getD (j - a.size) undef := by
  simp only [Array.getD_eq_getD_getElem?, Array.getElem?_append]
  split <;> rfl

theorem all_one {us : Array Value} {xs : List AV} (hl : us.size = xs.length) (h1 : xs.all AV.one = true) (h : ∀ (j : Nat) (y : AV), xs[j]? = some y → RV w M (us.getD j undef) y) : ∀ u ∈ us.toList, u.oneCell' = true := by
  intro u hu
  obtain ⟨j, hj, rfl⟩ := List.getElem_of_mem hu
  have hj' : j < xs.length := by simpa [hl] using hj
  have := h j xs[j] (List.getElem?_eq_getElem hj')
  have h2 := (this.oneCell (List.all_eq_true.1 h1 _ (List.getElem_mem hj'))).1
  have hs : j < us.size := by omega
  simpa [Array.getD, hs] using h2

theorem notNoCells {b : Nat} {cs : Array Value} {e : TypeId} {fr : Nat × Nat} (h : w.heap[b]? = some (.cells cs e fr)) : ¬ NoCells w b := fun hn => hn.2 _ _ _ h

theorem aAppend_ok {t t2 ty : TypeId} {sv xv : Value} {s x y : AV} {σ' : Heap} (hi : Inv G w M σ) (hs : RV w M sv s) (hx : RV w M xv x) (h : aAppend P σ t t2 s x = some (y, σ')) :
    ∃ v w' M', (Builtin.append_ #[t, t2] ty #[sv, xv]).run P w = .ok v w' ∧ RV w' M' v y ∧ Ext w M w' M' ∧ Inv G w' M' σ' := by
  unfold aAppend at h
  split at h
  case h_2 => cases h
  rename_i e hu
  split at h
  case h_2 => cases h
  rename_i ie zx hie hz
  split at h
  case h_2 => cases h
  rename_i n xs hc
  split at h
  case isFalse => cases h
  rename_i hcond
  obtain ⟨h2, h1, hb, hzs, hzo⟩ := hcond
  obtain ⟨c1, c2, c3⟩ := conts_ok (P := P) hi hx hc
  obtain ⟨us, f1, f2, f3⟩ := c3 n (Nat.le_refl _)
  have f4 : ∀ (j : Nat) (q : AV), xs[j]? = some q → RV w M (us.getD j undef) q := fun j q hq => f3 j q (by have := (List.getElem?_eq_some_iff.1 hq).1; omega) hq
  have f5 := all_one (f2.trans c2.symm) h1 f4
  -- the same in the world in which a new row is laid
  have hed := Ext.drew w M
  obtain ⟨d1, _, d3⟩ := conts_ok (P := P) hi.drew (hx.mono hed) hc
  obtain ⟨us', g1, g2, g3⟩ := d3 n (Nat.le_refl _)
  have g4 : ∀ (j : Nat) (q : AV), xs[j]? = some q → RV { w with drawn := w.drawn + 1 } M (us'.getD j undef) q := fun j q hq => g3 j q (by have := (List.getElem?_eq_some_iff.1 hq).1; omega) hq
  obtain ⟨z, hz1, hz2⟩ := aZero_ok hz { w with drawn := w.drawn + 1 } M
  have hzz : z.cells.size = ie.size := (hz2.cells hzo).1.1.trans hzs
  split at h
  · -- no room at all
    cases hs
    rename_i base
    split at h
    · rename_i hn0
      cases h
      subst hn0
      have hus : us = #[] := Array.eq_empty_of_size_eq_zero (by rw [f2]; simp)
      subst hus
      refine ⟨_, w, M, run_append_room hu hie h2 c1 f1 (Nat.le_refl _) ?_, .zs base, .refl w M, hi⟩
      cases base with
      | none => rfl
      | some a => simp [storeCells]
    · rename_i hn0
      split at h
      · rename_i hsm
        cases h
        have hos : (Builtin.firstCells ie.size 0 (.slice base 0 0)).run P { w with drawn := w.drawn + 1 } = .ok #[] { w with drawn := w.drawn + 1 } := by
          cases base with
          | none => rfl
          | some a => simp [Builtin.firstCells, loadCells, loadCellsFrom]
        obtain ⟨cap, k1, k2⟩ := run_append_grow (ty := ty) hu hie h2 c1 g1 hos (by omega) (by omega) hb hz1
        simp only [Nat.zero_add] at k1 k2
        refine ⟨_, _, M.put σ.length (w.heap.size, 0), k2, ?_, hed.trans (Ext.push hi.drew _), ?_⟩
        · refine .ms ie.size σ.length 0 0 n n w.heap.size cap _ e (Map.put_same _ _ _) (Nat.le_refl _) k1 (alloc_new _ _) ?_
          have : n * ie.size + (cap - n) * ie.size = cap * ie.size := by rw [← Nat.add_mul]; congr 1; omega
          simp [g2, zeroCells_size, hzz]
          omega
        · refine Inv.push hi.drew ⟨w.heap.size, _, e, Map.put_same _ _ _, alloc_new _ _, by simp [g2, c2], fun j q hq => ?_⟩
          have hj : j < us'.size := by
            have := (List.getElem?_eq_some_iff.1 hq).1
            omega
          have he := Ext.push hi.drew (.cells (#[] ++ us' ++ Builtin.zeroCells z.cells (cap - n)) e)
          rw [getD_append, if_pos (by simpa using hj)]
          simpa using (g4 j q hq).mono he
      · cases h
  · -- a slice of others' cells: nothing may be appended
    rename_i size rows
    split at h
    · rename_i hcc
      obtain ⟨rfl, rfl⟩ := hcc
      cases h
      have hus : us = #[] := Array.eq_empty_of_size_eq_zero (by rw [f2]; simp)
      subst hus
      have key : ∀ (base : Option Addr) (len cap : Nat), len ≤ cap → (Builtin.append_ #[t, t2] ty #[.slice base len cap, xv]).run P w = .ok (.slice base len cap) w := fun base len cap hlc =>
        run_append_room hu hie h2 c1 f1 hlc (by cases base with | none => rfl | some a => simp [storeCells])
      cases hs with
      | sl0 base cap size => exact ⟨_, w, M, key _ _ _ (Nat.zero_le _), .sl0 _ _ _, .refl w M, hi⟩
      | sl b o cap size f rows hbb hcell hl hh hcap => exact ⟨_, w, M, key _ _ _ hcap, .sl b o cap _ f rows hbb hcell hl hh hcap, .refl w M, hi⟩
    · cases h
  · rename_i size r g off len cap
    split at h
    case h_2 => cases h
    rename_i c ho
    split at h
    case isFalse => cases h
    rename_i hcc
    obtain ⟨rfl, hlc, hle⟩ := hcc
    obtain ⟨b, cs, e0, hm, hh, hl, hcx⟩ := hi.obj ho
    cases hs with
    | msS _ _ _ _ _ _ b' g' p capc hr hg =>
      rw [hm] at hr
      obtain ⟨_, rfl⟩ := Prod.mk.inj (Option.some.inj hr)
      omega
    | ms _ _ _ _ _ _ b' capc c' e' hr hlen hcc hsz hfit =>
      rw [hm] at hr
      obtain ⟨rfl, _⟩ := Prod.mk.inj (Option.some.inj hr)
      rw [hh] at hsz
      cases hsz
      split at h
      · rename_i hn0
        cases h
        subst hn0
        have hus : us = #[] := Array.eq_empty_of_size_eq_zero (by rw [f2]; simp)
        subst hus
        exact ⟨_, w, M, run_append_room hu hie h2 c1 f1 (by omega) (by simp [storeCells]), .ms _ _ _ _ _ _ b capc cs e0 hm hlen hcc hh hfit, .refl w M, hi⟩
      · rename_i hn0
        have hsum : (len + n) * ie.size = len * ie.size + n * ie.size := Nat.add_mul _ _ _
        have hxl : xs.length = n * ie.size := c2
        by_cases hroom : len + n ≤ capc
        · -- there is room: the cells are written where they lie
          have hfit2 : off + (len + n) * ie.size ≤ cs.size := by
            have : (len + n) * ie.size ≤ capc * ie.size := Nat.mul_le_mul_right _ hroom
            omega
          have hstore : (storeCells ((⟨b, off, none⟩ : Addr).add (len * ie.size)) us.toList).run P w = .ok () (upd w b (wr cs (off + len * ie.size) us.toList) e0) := by
            rw [add_plain]
            exact run_storeCells us.toList 0 cs w hh (by simp; omega) f5
          have hrun := run_append_room (ty := ty) (base := some ⟨b, off, none⟩) (w' := upd w b (wr cs (off + len * ie.size) us.toList) e0) hu hie h2 c1 f1 hroom hstore
          split at h
          · rename_i hle2
            split at h
            · rename_i hle3
              cases h
              have he := Ext.upd (M := M) (cs' := wr cs (off + len * ie.size) us.toList) (g' := g) hm hh (wr_size _ _ _) (Nat.le_refl _) (hi.others hm) (hi.notFar hm)
              have hinv := Inv.upd (cs' := wr cs (off + len * ie.size) us.toList) (g' := g) (c' := setL c (off + len * ie.size) xs) hi hm hh (wr_size _ _ _) (Nat.le_refl _) (by rw [setL_length (by omega), wr_size]; exact hl)
                (written hl (by omega) (by simp; omega) (fun j q hq => (hcx j q hq).mono he) (fun j q hq => by simpa using (f4 j q hq).mono he))
              rw [put_self hm] at he hinv
              exact ⟨_, _, M, hrun, .ms _ _ _ _ _ _ b capc _ e0 hm hle2 hcc (upd_same (lt_of_heap hh)) (by rw [wr_size]; exact hfit), he, hinv⟩
            · cases h
          · rename_i hle2
            split at h
            · rename_i hoff
              obtain ⟨rfl, hsm⟩ := hoff
              cases h
              have he := Ext.upd (M := M) (cs' := wr cs (0 + len * ie.size) us.toList) (g' := g + 1) hm hh (wr_size _ _ _) (by omega) (hi.others hm) (hi.notFar hm)
              refine ⟨_, _, M.put r (b, g + 1), hrun, .ms _ _ _ _ _ _ b capc _ e0 (Map.put_same _ _ _) (Nat.le_refl _) hroom (upd_same (lt_of_heap hh)) (by rw [wr_size]; exact hfit), he, ?_⟩
              refine Inv.upd (cs' := wr cs (0 + len * ie.size) us.toList) (g' := g + 1) hi hm hh (wr_size _ _ _) (by omega) (by rw [wr_size]; simp; omega) fun j q hq => ?_
              have htl : (c.take (len * ie.size)).length = len * ie.size := by simp; omega
              rw [wr_get us.toList cs _ j (by simp; omega)]
              by_cases hj : j < len * ie.size
              · rw [List.getElem?_append_left (by omega), List.getElem?_take_of_lt hj] at hq
                rw [if_pos (by omega)]
                exact (hcx j q hq).mono he
              · rw [List.getElem?_append_right (by omega), htl] at hq
                have hjl := (List.getElem?_eq_some_iff.1 hq).1
                rw [if_neg (by omega), if_pos (by simp; omega)]
                simpa using (f4 _ q hq).mono he
            · cases h
        · -- none: a new row
          split at h
          · omega
          · split at h
            · rename_i hoff
              obtain ⟨rfl, hsm⟩ := hoff
              cases h
              have hos : (Builtin.firstCells ie.size len (.slice (some ⟨b, 0, none⟩) len capc)).run P { w with drawn := w.drawn + 1 } = .ok ((List.range (len * ie.size)).map fun q => cs.getD q undef).toArray { w with drawn := w.drawn + 1 } := by
                refine run_loadCells (fun q => cs.getD q undef) fun q hq => ?_
                rw [Nat.zero_add]
                exact cell_of_cells (w := { w with drawn := w.drawn + 1 }) hh (by omega)
              obtain ⟨cap', k1, k2⟩ := run_append_grow (ty := ty) hu hie h2 c1 g1 hos hroom hsm hb hz1
              have he := Ext.move (w := { w with drawn := w.drawn + 1 }) (M := M) (g' := g + 1) (o := .cells (((List.range (len * ie.size)).map fun q => cs.getD q undef).toArray ++ us' ++ Builtin.zeroCells z.cells (cap' - (len + n))) e) hm (by omega) (notNoCells hh)
              refine ⟨_, _, M.put r (w.heap.size, g + 1), k2, .ms _ _ _ _ _ _ w.heap.size cap' _ e (Map.put_same _ _ _) (Nat.le_refl _) k1 (alloc_new _ _) ?_, hed.trans he, ?_⟩
              · have : (len + n) * ie.size + (cap' - (len + n)) * ie.size = cap' * ie.size := by rw [← Nat.add_mul]; congr 1; omega
                simp [g2, zeroCells_size, hzz]
                omega
              · refine Inv.move (w := { w with drawn := w.drawn + 1 }) (cs' := ((List.range (len * ie.size)).map fun q => cs.getD q undef).toArray ++ us' ++ Builtin.zeroCells z.cells (cap' - (len + n))) hi.drew hm (by omega) (notNoCells hh) (by simp [g2]; omega) fun j q hq => ?_
                have htl : (c.take (len * ie.size)).length = len * ie.size := by simp; omega
                rw [getD_append]
                by_cases hj : j < len * ie.size
                · rw [List.getElem?_append_left (by omega), List.getElem?_take_of_lt hj] at hq
                  rw [if_pos (by simp; omega), getD_append, if_pos (by simpa using hj), getD_map_range hj]
                  exact (hcx j q hq).mono hed
                · rw [List.getElem?_append_right (by omega), htl] at hq
                  have hjl := (List.getElem?_eq_some_iff.1 hq).1
                  rw [if_pos (by simp [g2]; omega), getD_append, if_neg (by simpa using hj)]
                  simpa using g4 _ q hq
            · cases h
  · cases h
end
end Go.Proofs.YtjljigccgaadaaaDoor.Am
