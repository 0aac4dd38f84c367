/-
  This file proves nothing of a law. It holds the operations that make or write memory: boxes, literals, make, stores. No condition.
-/
import Derived.Test.YtjljigccgaadaaaDoorAm4
import Derived.Laws.Tables
namespace Go.Proofs.YtjljigccgaadaaaDoor.Am
open Go

/-! ### Lists of cells, written -/
def setL (cs : List AV) (off : Nat) (vs : List AV) : List AV := cs.take off ++ (vs ++ cs.drop (off + vs.length))
theorem setL_length {cs vs : List AV} {off : Nat} (h : off + vs.length ≤ cs.length) : (setL cs off vs).length = cs.length := by
  simp [setL]; omega
theorem setL_get {cs vs : List AV} {off j : Nat} (h : off + vs.length ≤ cs.length) :
    (setL cs off vs)[j]? = if j < off then cs[j]? else if j < off + vs.length then vs[j - off]? else cs[j]? := by
  unfold setL
  have ht : (cs.take off).length = off := by simp; omega
  by_cases h1 : j < off
  · rw [if_pos h1, List.getElem?_append_left (by omega), List.getElem?_take_of_lt h1]
  · rw [if_neg h1, List.getElem?_append_right (by omega), ht]
    by_cases h2 : j < off + vs.length
    · rw [if_pos h2, List.getElem?_append_left (by omega)]
    · rw [if_neg h2, List.getElem?_append_right (by omega), List.getElem?_drop]
      congr 1
      omega

/-- Cells of a row, written one after the other. -/
def wr (cs : Array Value) (o : Nat) : List Value → Array Value
  | [] => cs
  | v :: r => wr (cs.setIfInBounds o v) (o + 1) r
theorem wr_size : ∀ (vs : List Value) (cs : Array Value) (o : Nat), (wr cs o vs).size = cs.size
  | [], _, _ => rfl
  | v :: r, cs, o => by rw [wr, wr_size r]; simp
theorem getD_set {cs : Array Value} {o j : Nat} {v : Value} (ho : o < cs.size) : (cs.setIfInBounds o v).getD j undef = if j = o then v else cs.getD j undef := by
  by_cases h : j = o
  · subst h; simp [Array.getD, ho]
  · rw [if_neg h]
    simp only [Array.getD_eq_getD_getElem?, Array.getElem?_setIfInBounds]
    rw [if_neg (fun e => h e.symm)]
theorem wr_get : ∀ (vs : List Value) (cs : Array Value) (o j : Nat), o + vs.length ≤ cs.size →
    (wr cs o vs).getD j undef = if j < o then cs.getD j undef else if j < o + vs.length then vs.toArray.getD (j - o) undef else cs.getD j undef
  | [], cs, o, j, _ => by
    simp only [wr, List.length_nil, Nat.add_zero]
    split
    · rfl
    · rfl
  | v :: r, cs, o, j, h => by
    simp only [List.length_cons] at h
    rw [wr, wr_get r (cs.setIfInBounds o v) (o + 1) j (by simp; omega), getD_set (by omega)]
    by_cases h1 : j < o
    · rw [if_pos (by omega), if_neg (by omega), if_pos h1]
    · by_cases h2 : j = o
      · subst h2
        rw [if_pos (by omega), if_pos rfl, if_neg (by omega), if_pos (by simp)]
        simp
      · rw [if_neg (by omega), if_neg h1]
        by_cases h3 : j < o + 1 + r.length
        · rw [if_pos h3, if_pos (by simp; omega), show j - o = (j - (o + 1)) + 1 from by omega]
          simp [Array.getD_eq_getD_getElem?]
        · rw [if_neg h3, if_neg h2, if_neg (by simp; omega)]

section
variable {w : World} {M : Map} {P : Program} {G : Nat → Option (List AV)} {σ : Heap}

theorem upd_self {b : Nat} {cs : Array Value} {e : TypeId} (h : w.heap[b]? = some (.cells cs e (0, 0))) : upd w b cs e = w := by
  obtain ⟨hb, hv⟩ := Array.getElem?_eq_some_iff.1 h
  unfold upd
  congr 1
  apply Array.ext (by simp)
  intro i h1 h2
  rw [Array.getElem_setIfInBounds]
  split
  · rename_i he; subst he; exact hv.symm
  · rfl
theorem upd_upd {b : Nat} {cs cs' : Array Value} {e : TypeId} : upd (upd w b cs e) b cs' e = upd w b cs' e := by
  unfold upd
  simp
theorem setCell_upd {b o : Nat} {cs : Array Value} {e : TypeId} {v : Value} (h : w.heap[b]? = some (.cells cs e (0, 0))) : w.setCell ⟨b, o, none⟩ v = upd w b (cs.setIfInBounds o v) e := by
  obtain ⟨hb, hv⟩ := Array.getElem?_eq_some_iff.1 h
  unfold World.setCell upd
  congr 1
  apply Array.ext (by simp)
  intro i h1 h2
  rw [Array.getElem_modify, Array.getElem_setIfInBounds]
  · by_cases he : b = i
    · subst he; simp [hv]
    · simp [he]
  · simpa using h2

theorem run_storeCells {b o : Nat} {e : TypeId} : ∀ (vs : List Value) (i : Nat) (cs : Array Value) (w : World), w.heap[b]? = some (.cells cs e (0, 0)) → o + i + vs.length ≤ cs.size → (∀ u ∈ vs, u.oneCell' = true) →
    (storeCells ⟨b, o, none⟩ vs i).run P w = .ok () (upd w b (wr cs (o + i) vs) e)
  | [], i, cs, w, hh, _, _ => by simp [storeCells, wr, upd_self hh]
  | v :: r, i, cs, w, hh, hl, h1 => by
    simp only [List.length_cons] at hl
    have hc : w.cell? ⟨b, o + i, none⟩ = some (cs.getD (o + i) undef) := cell_of_cells hh (by omega)
    have hf : w.frozen? ⟨b, o + i, none⟩ = false := by simp [World.frozen?, hh]
    simp only [storeCells, Sem.run_bind, add_plain, run_store P w _ v _ (h1 v (by simp)), hc, hf, Bool.false_eq_true, if_false, Result.andThen_ok]
    rw [setCell_upd hh, run_storeCells r (i + 1) (cs.setIfInBounds (o + i) v) _ (upd_same (lt_of_heap hh)) (by simp; omega) (fun u hu => h1 u (by simp [hu])), upd_upd]
    rfl

/-! ### New variables -/
def aNew (σ : Heap) (cs : List AV) : Option (AV × Heap) := if cs.all AV.one then some (.ref σ.length 0 0, σ ++ [.cells 0 cs]) else none

theorem aNew_ok {cs : Array Value} {e : TypeId} {xs : List AV} {y : AV} {σ' : Heap} (hi : Inv G w M σ) (hx : RVs w M cs xs) (h : aNew σ xs = some (y, σ')) :
    ∃ v w' M', (newRow e cs).run P w = .ok v w' ∧ RV w' M' (.pointer (some v)) y ∧ Ext w M w' M' ∧ Inv G w' M' σ' := by
  unfold aNew at h
  split at h
  · cases h
    have he := Ext.push hi (.cells cs e)
    refine ⟨⟨w.heap.size, 0, none⟩, w.alloc (.cells cs e), M.put σ.length (w.heap.size, 0), rfl, .ref _ _ _ _ (Map.put_same _ _ _), he, ?_⟩
    refine hi.push ⟨w.heap.size, cs, e, Map.put_same _ _ _, alloc_new w _, by have := hx.1; omega, fun j x hj => (hx.2 j x hj).mono he⟩
  · cases h

def aZero (P : Program) (t : TypeId) : Option AV := ((P.info? t).bind (·.zero)).bind AV.ofValue
theorem aZero_ok {t : TypeId} {x : AV} (h : aZero P t = some x) (w : World) (M : Map) : ∃ z, (zeroValue t).run P w = .ok z w ∧ RV w M z x := by
  unfold aZero at h
  cases hi : P.info? t with
  | none => simp [hi] at h
  | some i =>
    cases hz : i.zero with
    | none => simp [hi, hz] at h
    | some z =>
      simp only [hi, hz, Option.bind_some] at h
      refine ⟨z, ?_, ofValue_ok h⟩
      unfold zeroValue
      simp [run_typeInfo', hi, hz]

def aBox (σ : Heap) (x : AV) : Option (AV × Heap) := aNew σ x.cells
theorem aBox_ok {t : TypeId} {v : Value} {x y : AV} {σ' : Heap} (hi : Inv G w M σ) (hv : RV w M v x) (h : aBox σ x = some (y, σ')) :
    ∃ v' w' M', (Instr.box t v).run P w = .ok v' w' ∧ RV w' M' v' y ∧ Ext w M w' M' ∧ Inv G w' M' σ' := by
  have hall : x.cells.all AV.one = true := by
    unfold aBox aNew at h
    split at h
    · assumption
    · cases h
  obtain ⟨a, w', M', h1, h2, h3, h4⟩ := aNew_ok (P := P) (e := t) hi (hv.cells hall).1 h
  exact ⟨.pointer (some a), w', M', by simp [Instr.box, newVar, h1], h2, h3, h4⟩

def aAlloc (P : Program) (σ : Heap) (t : TypeId) : Option (AV × Heap) := (aZero P t).bind (aBox σ)
theorem aAlloc_ok {t : TypeId} {y : AV} {σ' : Heap} (hi : Inv G w M σ) (h : aAlloc P σ t = some (y, σ')) :
    ∃ v' w' M', (Instr.alloc t true (.tuple #[])).run P w = .ok v' w' ∧ RV w' M' v' y ∧ Ext w M w' M' ∧ Inv G w' M' σ' := by
  unfold aAlloc at h
  cases hz : aZero P t with
  | none => simp [hz] at h
  | some z =>
    rw [hz, Option.bind_some] at h
    obtain ⟨zv, h1, h2⟩ := aZero_ok hz w M
    obtain ⟨v', w', M', k1, k2, k3, k4⟩ := aBox_ok (P := P) (t := t) hi h2 h
    refine ⟨v', w', M', ?_, k2, k3, k4⟩
    have k1' : ((newVar t zv).run P w).andThen (fun a w' => Result.ok (Value.pointer (some a)) w') = .ok v' w' := by
      simpa [Instr.box] using k1
    simp only [Instr.alloc, Sem.run_bind, h1, Result.andThen_ok, Sem.run_pure, k1']

/-! ### A store -/
def aStore (P : Program) (σ : Heap) (t : TypeId) (p x : AV) : Option Heap :=
  match p with
  | .ref r g off =>
    match P.info? t, objAt σ r g with
    | some i, some c => if x.cells.length = i.size ∧ off + i.size ≤ c.length ∧ x.cells.all AV.one = true then some (σ.set r (.cells g (setL c off x.cells))) else none
    | _, _ => none
  | _ => none

theorem put_self {r : Nat} {p : Nat × Nat} (h : M r = some p) : M.put r p = M := by
  obtain ⟨f, far⟩ := M
  simp only [Map.put, Map.mk.injEq, and_true]
  funext r'
  split
  · rename_i e; subst e; exact h.symm
  · rfl

theorem written {cs : Array Value} {c : List AV} {off : Nat} {vs : List Value} {xs : List AV} {w' : World} {M' : Map} (hl : c.length ≤ cs.size) (hle : off + xs.length ≤ c.length) (hlen : vs.length = xs.length)
    (hc : ∀ (j : Nat) (x : AV), c[j]? = some x → RV w' M' (cs.getD j undef) x) (hx : ∀ (j : Nat) (x : AV), xs[j]? = some x → RV w' M' (vs.toArray.getD j undef) x) :
    ∀ (j : Nat) (x : AV), (setL c off xs)[j]? = some x → RV w' M' ((wr cs off vs).getD j undef) x := by
  intro j x hj
  rw [setL_get hle] at hj
  rw [wr_get vs cs off j (by omega)]
  split at hj
  · rw [if_pos ‹_›]; exact hc j x hj
  · rw [if_neg ‹_›]
    split at hj
    · rw [if_pos (by omega)]; exact hx _ x hj
    · rw [if_neg (by omega)]; exact hc j x hj

theorem aStore_ok {t : TypeId} {pv v : Value} {p x : AV} {σ' : Heap} (hi : Inv G w M σ) (hp : RV w M pv p) (hv : RV w M v x) (h : aStore P σ t p x = some σ') :
    ∃ w', (Instr.storeAt t pv v).run P w = .ok () w' ∧ Ext w M w' M ∧ Inv G w' M σ' := by
  unfold aStore at h
  split at h
  · rename_i r g off
    split at h
    · rename_i i c hti ho
      split at h
      · rename_i hc
        obtain ⟨h1, h2, h3⟩ := hc
        cases h
        obtain ⟨b, cs, e, hm, hh, hl, hx⟩ := hi.obj ho
        cases hp with
        | refS r g off b' g' p hr hg =>
          rw [hm] at hr
          obtain ⟨_, rfl⟩ := Prod.mk.inj (Option.some.inj hr)
          omega
        | ref r g off b' hr =>
          rw [hm] at hr
          obtain ⟨rfl, _⟩ := Prod.mk.inj (Option.some.inj hr)
          obtain ⟨⟨k1, k2⟩, k3⟩ := hv.cells h3
          have he := Ext.upd (M := M) (cs' := wr cs off v.cells.toList) (g' := g) hm hh (wr_size _ _ _) (Nat.le_refl _) (hi.others hm) (hi.notFar hm)
          have hs := run_storeCells (P := P) (b := b) (o := off) (e := e) v.cells.toList 0 cs w hh (by simp; omega) k3
          have hinv := Inv.upd (cs' := wr cs off v.cells.toList) (g' := g) (c' := setL c off x.cells) hi hm hh (wr_size _ _ _) (Nat.le_refl _) (by rw [setL_length (by omega), wr_size]; exact hl)
            (written hl (by omega) (by simpa using k1) (fun j y hj => (hx j y hj).mono he) (fun j y hj => by simpa using (k2 j y hj).mono he))
          rw [put_self hm] at he hinv
          refine ⟨_, ?_, he, hinv⟩
          have hsz : v.cells.size = i.size := by omega
          simp only [Instr.storeAt, Instr.sureAddr, storeVar, Sem.run_bind, Sem.run_pure, Result.andThen_ok, run_sizeOf', hti, hsz, ne_eq, not_true_eq_false, if_false]
          simpa using hs
      · cases h
    · cases h
  · cases h

/-! ### Literals -/
/-- Parts laid into cells. -/
def fillA (place : Nat → Option (Nat × Nat)) (cells : List AV) : List (Nat × AV) → Option (List AV)
  | [] => some cells
  | (i, x) :: rest =>
    match place i with
    | none => none
    | some (off, size) => if x.cells.length = size ∧ off + x.cells.length ≤ cells.length ∧ x.cells.all AV.one = true then fillA place (setL cells off x.cells) rest else none

theorem foldl_wr (off : Nat) : ∀ (vs : List Value) (k : Nat) (cs : Array Value), (vs.zipIdx k).foldl (fun cs p => cs.setIfInBounds (off + p.2) p.1) cs = wr cs (off + k) vs
  | [], _, _ => rfl
  | v :: r, k, cs => by
    rw [List.zipIdx_cons, List.foldl_cons, foldl_wr off r (k + 1), wr]
    rfl

theorem fillA_ok {place : Nat → Option (Nat × Nat)} : ∀ (ps : List (Nat × AV)) (vs : List (Nat × Value)) (cells : List AV) (cs : Array Value) (xs : List AV),
    ps.length = vs.length → (∀ (j : Nat) (p : Nat × AV), ps[j]? = some p → ∃ v, vs[j]? = some (p.1, v) ∧ RV w M v p.2) → RVs w M cs cells → fillA place cells ps = some xs →
    ∃ cs', Instr.fill place cs vs = some cs' ∧ RVs w M cs' xs ∧ cs'.size = cs.size
  | [], [], cells, cs, xs, _, _, hc, h => by cases h; exact ⟨cs, rfl, hc, rfl⟩
  | (i, x) :: ps, (i', v) :: vs, cells, cs, xs, hl, hp, hc, h => by
    obtain ⟨u, hu, hv⟩ := hp 0 (i, x) rfl
    simp only [List.getElem?_cons_zero, Option.some.injEq, Prod.mk.injEq] at hu
    obtain ⟨rfl, rfl⟩ := hu
    unfold fillA at h
    split at h
    · cases h
    · rename_i off size hpl
      split at h
      · rename_i hcond
        obtain ⟨h1, h2, h3⟩ := hcond
        dsimp only at h1 h2 h3 hv
        obtain ⟨⟨k1, k2⟩, k3⟩ := RV.cells hv h3
        have hwr := written (w' := w) (M' := M) (cs := cs) (c := cells) (off := off) (vs := v.cells.toList) (xs := x.cells) (by have := hc.1; omega) h2 (by simpa using k1) hc.2 (by simpa using k2)
        obtain ⟨cs', e1, e2, e3⟩ := fillA_ok ps vs (setL cells off x.cells) (wr cs off v.cells.toList) xs (by simpa using hl) (fun j p hj => by have := hp (j + 1) p (by simpa using hj); simpa using this)
          ⟨by rw [wr_size, setL_length h2]; exact hc.1, hwr⟩ h
        refine ⟨cs', ?_, e2, by rw [e3, wr_size]⟩
        unfold Instr.fill
        rw [hpl]
        have hs : v.cells.size = size := by omega
        have hb : (v.cells.size ≠ size || off + v.cells.size > cs.size) = false := by
          have h4 := hc.1
          simp [hs]
          omega
        simp only [hb, Bool.false_eq_true, if_false]
        rw [← e1]
        congr 1
        rw [← Array.foldl_toList, Array.toList_zipIdx]
        have := foldl_wr off v.cells.toList 0 cs
        simpa using this
      · cases h

def aPlace (P : Program) (t : TypeId) : Option (Nat → Option (Nat × Nat)) :=
  match P.underlying t with
  | some (.array _ e) => (P.info? e).map fun ie => fun i => some (i * ie.size, ie.size)
  | some (.struct fs) => (fs.toList.mapM (fun f => (P.info? f.type).map fun i => (f.offset, i.size))).map fun places => (places.toArray[·]?)
  | _ => none
def aBuild (P : Program) (t : TypeId) (ps : List (Nat × AV)) : Option AV :=
  match aPlace P t, aZero P t with
  | some place, some (.agg zs) => (fillA place zs ps).map .agg
  | _, _ => none

theorem aBuild_ok {t : TypeId} {ps : List (Nat × AV)} {vs : Array (Nat × Value)} {y : AV} (hl : ps.length = vs.size) (hp : ∀ (j : Nat) (p : Nat × AV), ps[j]? = some p → ∃ v, vs.toList[j]? = some (p.1, v) ∧ RV w M v p.2)
    (h : aBuild P t ps = some y) : ∃ r, (Instr.build t vs).run P w = .ok r w ∧ RV w M r y := by
  unfold aBuild at h
  split at h
  · rename_i place zs hpl hz
    cases hf : fillA place zs ps with
    | none => rw [hf] at h; cases h
    | some xs =>
      rw [hf] at h
      cases h
      unfold aZero at hz
      cases hi : P.info? t with
      | none => simp [hi] at hz
      | some i =>
        cases hzz : i.zero with
        | none => simp [hi, hzz] at hz
        | some z =>
          simp only [hi, hzz, Option.bind_some] at hz
          have hrv : RV w M z (.agg zs) := ofValue_ok hz
          cases hrv with
          | agg cz _ hlz hhz =>
            obtain ⟨cs', e1, e2, _⟩ := fillA_ok (w := w) (M := M) ps vs.toList zs cz xs (by simpa using hl) hp ⟨hlz, hhz⟩ hf
            refine ⟨.agg cs', run_build w t vs cs' ?_, .agg cs' xs e2.1 e2.2⟩
            unfold Program.built
            unfold aPlace at hpl
            split at hpl
            · rename_i n e hu
              cases hie : P.info? e with
              | none => simp [hie] at hpl
              | some ie =>
                simp only [hie, Option.map_some, Option.some.injEq] at hpl
                subst hpl
                simp only [hi, hu, hzz, hie]
                exact e1
            · rename_i fs hu
              cases hpp : fs.toList.mapM (fun f => (P.info? f.type).map fun i => (f.offset, i.size)) with
              | none => rw [hpp] at hpl; cases hpl
              | some places =>
                rw [hpp] at hpl
                simp only [Option.map_some, Option.some.injEq] at hpl
                subst hpl
                simp only [hi, hu, hzz, hpp]
                exact e1
            · cases hpl
  · cases h

/-- Cells, so many to a row. -/
def chunk (size : Nat) : Nat → List AV → List (List AV)
  | 0, _ => []
  | n + 1, xs => xs.take size :: chunk size n (xs.drop size)
theorem chunk_length (size : Nat) : ∀ (n : Nat) (xs : List AV), (chunk size n xs).length = n
  | 0, _ => rfl
  | n + 1, xs => by rw [chunk, List.length_cons, chunk_length size n]
theorem chunk_get (size : Nat) : ∀ (n i : Nat) (xs : List AV), i < n → (chunk size n xs)[i]? = some ((xs.drop (i * size)).take size)
  | 0, _, _, h => by omega
  | n + 1, 0, xs, _ => by simp [chunk]
  | n + 1, i + 1, xs, h => by
    rw [chunk, List.getElem?_cons_succ, chunk_get size n i _ (by omega), List.drop_drop, Nat.succ_mul, Nat.add_comm]

/-- A slice literal: cells that nobody writes. -/
def aLit (P : Program) (t : TypeId) (len : Nat) (ps : List (Nat × AV)) : Option AV :=
  match P.underlying t with
  | some (.slice e) =>
    match P.info? e, aZero P e with
    | some ie, some _ =>
      if len * ie.size ≤ 16777216 then
        if len = 0 then (if ps = [] then some .zs else none)
        else (fillA (fun i => some (i * ie.size, ie.size)) (List.replicate (len * ie.size) .junk) ps).map fun xs => .sl ie.size (chunk ie.size len xs)
      else none
    | _, _ => none
  | _ => none
end
end Go.Proofs.YtjljigccgaadaaaDoor.Am
