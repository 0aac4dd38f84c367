/-
  This file proves nothing of a law. It holds the operations that leave the heap alone: addresses, loads, parts, slices of slices, lengths. No condition.
-/
import Derived.Test.YtjljigccgaadaaaDoorAm2
namespace Go.Proofs.YtjljigccgaadaaaDoor.Am
open Go

theorem add_plain (b o n : Nat) : (⟨b, o, none⟩ : Addr).add n = ⟨b, o + n, none⟩ := by
  unfold Addr.add
  split
  · rename_i h; subst h; rfl
  · rfl

section
variable {w : World} {M : Map} {P : Program} {G : Nat → Option (List AV)}

theorem run_sizeOf' (t : TypeId) (w : World) : (sizeOf t).run P w = match P.info? t with | some i => .ok i.size w | none => .halt (.stuck "no such type") w := by
  unfold sizeOf
  simp only [Sem.run_bind, run_typeInfo']
  cases P.info? t <;> rfl

def aggD : TypeDesc → Bool
  | .struct _ | .array _ _ => true
  | _ => false
theorem run_isAgg' (t : TypeId) (w : World) : (isAgg t).run P w = match P.underlying t with | some d => .ok (aggD d) w | none => .halt (.stuck "no such type") w := by
  unfold isAgg
  simp only [Sem.run_bind, run_underlying']
  cases P.underlying t with
  | none => rfl
  | some d => cases d <;> rfl

theorem run_load_at {a : Addr} {v : Value} (h : w.cell? a = some v) : (load a).run P w = .ok v w := by
  simp only [run_load, h]

theorem run_loadCellsFrom {b o : Nat} (f : Nat → Value) : ∀ (n i : Nat) (acc : Array Value), (∀ j, j < n → w.cell? ⟨b, o + (i + j), none⟩ = some (f (i + j))) →
    (loadCellsFrom ⟨b, o, none⟩ i n acc).run P w = .ok (acc ++ ((List.range' i n).map f).toArray) w := by
  intro n
  induction n with
  | zero => intro i acc _; simp [loadCellsFrom]
  | succ n ih =>
    intro i acc h
    have h0 := h 0 (by omega)
    simp only [Nat.add_zero] at h0
    simp only [loadCellsFrom, Sem.run_bind, add_plain, run_load_at h0, Result.andThen_ok]
    rw [ih (i + 1) _ (fun j hj => by have := h (j + 1) (by omega); rw [show i + 1 + j = i + (j + 1) from by omega]; exact this)]
    simp [List.range'_succ]

theorem run_loadCells {b o n : Nat} (f : Nat → Value) (h : ∀ j, j < n → w.cell? ⟨b, o + j, none⟩ = some (f j)) :
    (loadCells ⟨b, o, none⟩ n).run P w = .ok ((List.range n).map f).toArray w := by
  unfold loadCells
  rw [run_loadCellsFrom f n 0 #[] (by simpa using h)]
  simp [List.range_eq_range']

theorem getD_map_range {f : Nat → Value} {n j : Nat} (h : j < n) : (((List.range n).map f).toArray).getD j undef = f j := by
  simp [Array.getD, h]

/-! ### Addresses of parts -/
def aField (P : Program) (t : TypeId) (x : AV) (k : Nat) : Option AV :=
  match P.underlying t with
  | some (.struct fs) =>
    match fs[k]? with
    | some f =>
      match P.info? f.type with
      | some i =>
        if i.size = 0 then none else
        match x with
        | .row cs off => some (.row cs (off + f.offset))
        | .ref r g off => some (.ref r g (off + f.offset))
        | _ => none
      | none => none
    | none => none
  | _ => none

theorem aField_ok {t : TypeId} {v : Value} {x y : AV} {k : Nat} (hv : RV w M v x) (h : aField P t x k = some y) : ∃ r, (Instr.fieldAt t v k).run P w = .ok r w ∧ RV w M r y := by
  unfold aField at h
  split at h
  · rename_i fs hu
    split at h
    · rename_i f hf
      split at h
      · rename_i i hi
        split at h
        · cases h
        · rename_i hs
          have key : ∀ a : Addr, (Instr.fieldAt t (.pointer (some a)) k).run P w = .ok (.pointer (some (a.add f.offset))) w := by
            intro a
            unfold Instr.fieldAt Instr.sureAddr fieldPlace
            simp only [Sem.run_bind, run_underlying', hu, Result.andThen_ok, hf, Sem.run_pure, run_sizeOf', hi, Sem.run_ite, if_neg hs]
          split at h
          · cases h
            cases hv with
            | row b o off f' cells hb hc hh =>
              refine ⟨_, key _, ?_⟩
              rw [add_plain, Nat.add_assoc]
              exact .row b o _ f' _ hb hc hh
          · cases h
            cases hv with
            | ref r g off b hr =>
              refine ⟨_, key _, ?_⟩
              rw [add_plain]
              exact .ref _ _ _ b hr
            | refS r g off b g' p hr hg => exact ⟨_, key _, .refS _ _ _ b g' _ hr hg⟩
          · cases h
      · cases h
    · cases h
  · cases h

/-! ### What lies at an address -/
def objAt (σ : Heap) (r g : Nat) : Option (List AV) :=
  match σ[r]? with
  | some (.cells g' c) => if g' = g then some c else none
  | _ => none

/-- A variable of type t among cells, from off on. -/
def cut (P : Program) (t : TypeId) (cs : List AV) (off : Nat) : Option AV :=
  match P.underlying t with
  | none => none
  | some d =>
    if aggD d then
      match P.info? t with
      | some i => if off + i.size ≤ cs.length then some (.agg ((cs.drop off).take i.size)) else none
      | none => none
    else cs[off]?

def aLoad (P : Program) (σ : Heap) (t : TypeId) (x : AV) : Option AV :=
  match x with
  | .row cs off => cut P t cs off
  | .ref r g off => (objAt σ r g).bind fun cs => cut P t cs off
  | _ => none

theorem cut_ok {t : TypeId} {cs : List AV} {b o off : Nat} {f : Nat → Value} {y : AV} (hc : ∀ j, j < cs.length → w.cell? ⟨b, o + j, none⟩ = some (f j))
    (hf : ∀ (j : Nat) (x : AV), cs[j]? = some x → RV w M (f j) x) (h : cut P t cs off = some y) : ∃ r, (loadVar t ⟨b, o + off, none⟩).run P w = .ok r w ∧ RV w M r y := by
  unfold cut at h
  split at h
  · cases h
  · rename_i d hu
    split at h
    · rename_i hd
      split at h
      · rename_i i hi
        split at h
        · rename_i hle
          cases h
          have hl : (loadCells ⟨b, o + off, none⟩ i.size).run P w = _ := run_loadCells (fun j => f (off + j)) fun j hj => by
            rw [Nat.add_assoc]; exact hc (off + j) (by omega)
          refine ⟨_, by simp only [loadVar, Sem.run_bind, run_isAgg', hu, hd, Result.andThen_ok, run_sizeOf', hi, if_true, hl]; rfl, .agg _ _ (by simp; omega) fun j x hj => ?_⟩
          have hj' : j < i.size := by
            have := (List.getElem?_eq_some_iff.1 hj).1
            simp at this; omega
          rw [getD_map_range hj']
          refine hf (off + j) x ?_
          rw [List.getElem?_take_of_lt hj', List.getElem?_drop] at hj
          exact hj
        · cases h
      · cases h
    · rename_i hd
      have hlt := (List.getElem?_eq_some_iff.1 h).1
      refine ⟨f off, ?_, hf off y h⟩
      have hd' : aggD d = false := by simpa using hd
      simp only [loadVar, Sem.run_bind, run_isAgg', hu, hd', Result.andThen_ok, Bool.false_eq_true, if_false]
      exact run_load_at (hc off hlt)

theorem Inv.obj {σ : Heap} {r g : Nat} {c : List AV} (hi : Inv G w M σ) (h : objAt σ r g = some c) :
    ∃ b cs e, M r = some (b, g) ∧ w.heap[b]? = some (.cells cs e (0, 0)) ∧ c.length ≤ cs.size ∧ ∀ (j : Nat) (x : AV), c[j]? = some x → RV w M (cs.getD j undef) x := by
  unfold objAt at h
  split at h
  · rename_i g' c' hs
    split at h
    · rename_i hg; subst hg; cases h; exact hi.cells r _ _ hs
    · cases h
  · cases h

theorem cell_of_cells {b o : Nat} {cs : Array Value} {e : TypeId} {fr : Nat × Nat} (h : w.heap[b]? = some (.cells cs e fr)) (ho : o < cs.size) : w.cell? ⟨b, o, none⟩ = some (cs.getD o undef) := by
  simp [World.cell?, h, Array.getD, ho]

theorem aLoad_ok {σ : Heap} {t : TypeId} {v : Value} {x y : AV} (hi : Inv G w M σ) (hv : RV w M v x) (h : aLoad P σ t x = some y) : ∃ r, (Instr.loadAt t v).run P w = .ok r w ∧ RV w M r y := by
  unfold aLoad at h
  split at h
  · cases hv with
    | row b o off f cells hb hc hh =>
      obtain ⟨r, hr, hy⟩ := cut_ok hc hh h
      exact ⟨r, by simpa [Instr.loadAt, Instr.sureAddr] using hr, hy⟩
  · rename_i r g off
    cases ho : objAt σ r g with
    | none => rw [ho] at h; cases h
    | some c =>
      rw [ho] at h
      obtain ⟨b, cs, e, hm, hh, hl, hx⟩ := hi.obj ho
      cases hv with
      | ref r g off b' hr =>
        rw [hm] at hr
        obtain ⟨rfl, _⟩ := Prod.mk.inj (Option.some.inj hr)
        obtain ⟨u, hu, hy⟩ := cut_ok (w := w) (M := M) (P := P) (b := b) (o := 0) (off := off) (f := fun j => cs.getD j undef) (cs := c) (fun j hj => by rw [Nat.zero_add]; exact cell_of_cells hh (by omega)) hx h
        rw [Nat.zero_add] at hu
        exact ⟨u, by simpa [Instr.loadAt, Instr.sureAddr] using hu, hy⟩
      | refS r g off b' g' p hr hg =>
        rw [hm] at hr
        obtain ⟨_, rfl⟩ := Prod.mk.inj (Option.some.inj hr)
        omega
  · cases h

/-! ### An index -/
def aIndex (P : Program) (σ : Heap) (t : TypeId) (x i : AV) : Option AV :=
  match P.underlying t, x, i with
  | some (.slice e), .sl size rows, .int _ n =>
    match P.info? e with
    | some ti => if ti.size = size ∧ 0 ≤ n then (rows[n.toNat]?).map (AV.row · 0) else none
    | none => none
  | some (.slice e), .ms size r g off len _, .int _ n =>
    match P.info? e with
    | some ti => if ti.size = size ∧ 0 ≤ n ∧ n < len ∧ (objAt σ r g).isSome = true then some (.ref r g (off + n.toNat * size)) else none
    | none => none
  | some (.slice e), .fl size len rows, .int _ n =>
    match P.info? e with
    | some ti => if ti.size = size ∧ 0 ≤ n ∧ n < len then some (.row (rows n.toNat) 0) else none
    | none => none
  | some (.array len e), .row cs off, .int _ n =>
    match P.info? e with
    | some ti => if 0 ≤ n ∧ n < len then some (.row cs (off + n.toNat * ti.size)) else none
    | none => none
  | some (.array len e), .ref r g off, .int _ n =>
    match P.info? e with
    | some ti => if 0 ≤ n ∧ n < len then some (.ref r g (off + n.toNat * ti.size)) else none
    | none => none
  | _, _, _ => none

theorem aIndex_ok {σ : Heap} {t : TypeId} {v u : Value} {x i y : AV} (hi : Inv G w M σ) (hv : RV w M v x) (hu : RV w M u i) (h : aIndex P σ t x i = some y) :
    ∃ r, (Instr.indexAt t v u).run P w = .ok r w ∧ RV w M r y := by
  unfold aIndex at h
  split at h
  · rename_i e size rows k n ht
    split at h
    · rename_i ti hti
      split at h
      · rename_i hc
        obtain ⟨rfl, hn⟩ := hc
        cases hr : rows[n.toNat]? with
        | none => rw [hr] at h; cases h
        | some row =>
          rw [hr] at h; cases h
          have hlt := (List.getElem?_eq_some_iff.1 hr).1
          cases hu
          cases hv with
          | sl0 base cap size => simp at hlt
          | sl b o cap size f rows hb hcell hl hh hcap =>
            refine ⟨.pointer (some ⟨b, o + n.toNat * ti.size + 0, none⟩), ?_, .row b (o + n.toNat * ti.size) 0 (f n.toNat) row hb (fun j hj => hcell n.toNat row j hr (by rw [hl n.toNat row hr] at hj; exact hj)) (fun j x hj => hh n.toNat row j x hr hj)⟩
            have hlt' : n < (rows.length : Int) := by omega
            simp [Instr.indexAt, asIntOf, run_underlying', ht, run_sizeOf', hti, hn, hlt', add_plain]
      · cases h
    · cases h
  · rename_i e size r g off len cap k n ht
    split at h
    · rename_i ti hti
      split at h
      · rename_i hc
        obtain ⟨rfl, hn, hlt, ho⟩ := hc
        cases h
        cases hu
        obtain ⟨c, hoc⟩ := Option.isSome_iff_exists.1 ho
        obtain ⟨b0, cs, e0, hm, hh, hl, hx⟩ := hi.obj hoc
        cases hv with
        | ms size r g off len cap b capc c e hr hlen hcc hsz hfit =>
          refine ⟨.pointer (some ⟨b, off + n.toNat * ti.size, none⟩), ?_, .ref r g _ b hr⟩
          simp [Instr.indexAt, asIntOf, run_underlying', ht, run_sizeOf', hti, hn, hlt, add_plain]
        | msS size r g off len cap b g' p capc hr hg =>
          rw [hm] at hr
          obtain ⟨_, rfl⟩ := Prod.mk.inj (Option.some.inj hr)
          omega
      · cases h
    · cases h
  · rename_i e size len rows k n ht
    split at h
    · rename_i ti hti
      split at h
      · rename_i hc
        obtain ⟨rfl, hn, hlen⟩ := hc
        cases h
        cases hu
        cases hv with
        | fl _ _ _ _ hv =>
          have hnl : n.toNat < len := by omega
          have hr : ((List.range len).map rows)[n.toNat]? = some (rows n.toNat) := by simp [hnl]
          generalize (List.range len).map rows = rs at hv hr
          have hlt := (List.getElem?_eq_some_iff.1 hr).1
          cases hv with
          | sl0 base cap size => simp at hlt
          | sl b o cap size f rows' hb hcell hl hh hcap =>
            refine ⟨.pointer (some ⟨b, o + n.toNat * ti.size + 0, none⟩), ?_, .row b (o + n.toNat * ti.size) 0 (f n.toNat) (rows n.toNat) hb (fun j hj => hcell n.toNat _ j hr (by rw [hl n.toNat _ hr] at hj; exact hj)) (fun j x hj => hh n.toNat _ j x hr hj)⟩
            have hlt' : n < (rs.length : Int) := by omega
            simp [Instr.indexAt, asIntOf, run_underlying', ht, run_sizeOf', hti, hn, hlt', add_plain]
      · cases h
    · cases h
  · rename_i len e cs off k n ht
    split at h
    · rename_i ti hti
      split at h
      · rename_i hc
        cases h
        cases hu
        cases hv with
        | row b o off f cells hb hcell hh =>
          refine ⟨.pointer (some ⟨b, o + (off + n.toNat * ti.size), none⟩), ?_, .row b o _ f _ hb hcell hh⟩
          simp [Instr.indexAt, Instr.sureAddr, asIntOf, run_underlying', ht, run_sizeOf', hti, hc.1, hc.2, add_plain, Nat.add_assoc]
      · cases h
    · cases h
  · rename_i len e r g off k n ht
    split at h
    · rename_i ti hti
      split at h
      · rename_i hc
        cases h
        cases hu
        cases hv with
        | ref r g off b hr =>
          refine ⟨.pointer (some ⟨b, off + n.toNat * ti.size, none⟩), ?_, .ref r g _ b hr⟩
          simp [Instr.indexAt, Instr.sureAddr, asIntOf, run_underlying', ht, run_sizeOf', hti, hc.1, hc.2, add_plain]
        | refS r g off b g' p hr hg =>
          refine ⟨.pointer (some (p.add (n.toNat * ti.size))), ?_, .refS r g _ b g' _ hr hg⟩
          simp [Instr.indexAt, Instr.sureAddr, asIntOf, run_underlying', ht, run_sizeOf', hti, hc.1, hc.2]
      · cases h
    · cases h
  · cases h

/-! ### Unary operations, conversions, lengths, the least and the greatest, a part of a value, a component of a tuple -/
def aUn (op : UnOp) (x : AV) : Option AV :=
  match op, x with
  | .neg, .int k n => some (.int k (k.wrap (0 - n)))
  | .xor, .int k n => some (.int k (k.wrap ((BitVec.ofInt k.bits (if k.signed then -1 else k.max) ^^^ BitVec.ofInt k.bits n).toNat)))
  | .not, .bool b => some (.bool !b)
  | _, _ => none
theorem aUn_ok {op : UnOp} {v : Value} {x y : AV} (hv : RV w M v x) (h : aUn op x = some y) : ∃ r, (Op.unary op v).run P w = .ok r w ∧ RV w M r y := by
  unfold aUn at h
  split at h <;> cases h <;> cases hv
  · exact ⟨_, rfl, .int _ _⟩
  · exact ⟨_, rfl, .int _ _⟩
  · exact ⟨_, rfl, .bool _⟩

def aConv (P : Program) (src dst : TypeId) (x : AV) : Option AV :=
  match P.underlying src, P.underlying dst, x with
  | some _, some (.int k), .int _ n => some (.int k (k.wrap n))
  | _, _, _ => none
theorem aConv_ok {src dst : TypeId} {v : Value} {x y : AV} (hv : RV w M v x) (h : aConv P src dst x = some y) : ∃ r, (convert src dst v).run P w = .ok r w ∧ RV w M r y := by
  unfold aConv at h
  split at h
  · rename_i d k k' n hs hd
    cases h; cases hv
    refine ⟨.int k (k.wrap n), ?_, .int _ _⟩
    unfold convert
    simp only [Sem.run_bind, run_underlying', hs, hd, Result.andThen_ok]
    cases d <;> rfl
  · cases h

def aLen (P : Program) (t : TypeId) (x : AV) : Option AV :=
  match P.underlying t, x with
  | some (.slice _), .sl _ rows => some (.int .i64 rows.length)
  | some (.slice _), .fl _ n _ => some (.int .i64 n)
  | some (.slice _), .zs => some (.int .i64 0)
  | some (.slice _), .ms _ _ _ _ len _ => some (.int .i64 len)
  | some (.array n _), _ => some (.int .i64 n)
  | _, _ => none
theorem aLen_ok {ts : Array TypeId} {t ty : TypeId} {v : Value} {x y : AV} (ht : ts[0]? = some t) (hv : RV w M v x) (h : aLen P t x = some y) : ∃ r, (Builtin.len_ ts ty #[v]).run P w = .ok r w ∧ RV w M r y := by
  unfold aLen at h
  split at h
  · rename_i e sz rows hu
    cases h
    cases hv with
    | sl0 base cap size => exact ⟨.int .i64 0, by simp [Builtin.len_, ht, run_underlying', hu, goInt], .int _ _⟩
    | sl b o cap size f rows hb hcell hl hh hcap => exact ⟨.int .i64 rows.length, by simp [Builtin.len_, ht, run_underlying', hu, goInt], .int _ _⟩
  · rename_i e sz n rows hu
    cases h
    cases hv with
    | fl _ _ _ _ hv =>
      have hlen : ((List.range n).map rows).length = n := by simp
      generalize (List.range n).map rows = rs at hv hlen
      cases hv with
      | sl0 base cap size => exact ⟨.int .i64 0, by simp [Builtin.len_, ht, run_underlying', hu, goInt], by subst hlen; exact .int _ _⟩
      | sl b o cap size f rows hb hcell hl hh hcap => exact ⟨.int .i64 rs.length, by simp [Builtin.len_, ht, run_underlying', hu, goInt], by rw [hlen]; exact .int _ _⟩
  · rename_i e hu
    cases h; cases hv
    exact ⟨.int .i64 0, by simp [Builtin.len_, ht, run_underlying', hu, goInt], .int _ _⟩
  · rename_i e s r g off len cap hu
    cases h
    cases hv <;> exact ⟨.int .i64 len, by simp [Builtin.len_, ht, run_underlying', hu, goInt], .int _ _⟩
  · rename_i n e hu
    cases h
    refine ⟨.int .i64 n, ?_, .int _ _⟩
    simp [Builtin.len_, ht, run_underlying', hu, goInt]
  · cases h

def aExtract (x : AV) (k : Nat) : Option AV :=
  match x with
  | .tup vs => vs[k]?
  | _ => none
theorem aExtract_ok {v : Value} {x y : AV} {k : Nat} (hv : RV w M v x) (h : aExtract x k = some y) : ∃ r, (Instr.extract v k).run P w = .ok r w ∧ RV w M r y := by
  unfold aExtract at h
  split at h
  · cases hv with
    | tup vs xs hl hh =>
      have hlt := (List.getElem?_eq_some_iff.1 h).1
      have hlt' : k < vs.size := by omega
      refine ⟨vs.getD k undef, ?_, hh k y h⟩
      simp [Instr.extract, hlt', Array.getD]
  · cases h

def aNil (x : AV) : Option AV :=
  match x with
  | .row _ _ | .ref _ _ _ | .fn _ _ _ => some x
  | _ => none
end
end Go.Proofs.YtjljigccgaadaaaDoor.Am
