/-
  This file proves nothing of a law. It lays a small machine of plain values beside the model's: values (AV), a heap of the call's own objects, the relation of both to a world, and what an extension of a world keeps. No condition.
-/
import Derived.RangeFuncLeaves
import Derived.RangeFuncCalls
import Derived.OrdersIn
import Derived.TacticsIn
import Derived.Laws.World
namespace Go.Proofs.YtjljigccgaadaaaDoor.Am
open Go

/-- Plain values. 'ref', 'ms': into an object of the call's own (its number, its generation, a place); 'row', 'sl', 'fl': cells that nobody writes, as data; 'zs': a slice without room; 'yf': a loop's yield; 'anyb': some truth value; 'mx': as 'ms', its room known. -/
inductive AV where
  | int (k : IntKind) (n : Int)
  | bool (b : Bool)
  | nilp
  | nilf
  | ref (r g off : Nat)
  | row (cells : List AV) (off : Nat)
  | sl (size : Nat) (rows : List (List AV))
  | fl (size n : Nat) (rows : Nat → List AV)
  | zs
  | ms (size r g off len cap : Nat)
  | agg (cells : List AV)
  | tup (vs : List AV)
  | fn (f : FuncId) (first caps : List AV)
  | yf (l : Nat)
  | anyb
  | mx (size r g off len cap : Nat)
  | junk
  deriving Inhabited

/-- A loop's record over a function. -/
structure ALoop where
  state : LoopState
  pending : Option Code
  tmps : List AV
  params : Array Tmp
  assign : Code
  body : Code
  defers : Nat

inductive AObj where
  | cells (g : Nat) (c : List AV)
  | resv
  | dfr
  | loop (L : ALoop)
  | gone

abbrev Heap := List AObj
/-- Where an object lies: its block and its generation. -/
structure Map where
  get : Nat → Option (Nat × Nat)
  far : Nat → Prop
instance : CoeFun Map fun _ => Nat → Option (Nat × Nat) := ⟨Map.get⟩

/-- A block that nobody writes. -/
def Imm (w : World) (M : Map) (b : Nat) : Prop := b < w.heap.size ∧ (∀ r g, M r ≠ some (b, g)) ∧ ¬ M.far b

inductive RV (w : World) (M : Map) : Value → AV → Prop where
  | int (k : IntKind) (n : Int) : RV w M (.int k n) (.int k n)
  | bool (b : Bool) : RV w M (.bool b) (.bool b)
  | nilp : RV w M (.pointer none) .nilp
  | nilf : RV w M .nilFunc .nilf
  | ref (r g off b : Nat) (h : M r = some (b, g)) : RV w M (.pointer (some ⟨b, off, none⟩)) (.ref r g off)
  | refS (r g off b g' : Nat) (p : Addr) (h : M r = some (b, g')) (hg : g < g') : RV w M (.pointer (some p)) (.ref r g off)
  | row (b o off : Nat) (f : Nat → Value) (cells : List AV) (hb : Imm w M b) (hc : ∀ j, j < cells.length → w.cell? ⟨b, o + j, none⟩ = some (f j))
      (h : ∀ (j : Nat) (x : AV), cells[j]? = some x → RV w M (f j) x) : RV w M (.pointer (some ⟨b, o + off, none⟩)) (.row cells off)
  | sl0 (base : Option Addr) (cap size : Nat) : RV w M (.slice base 0 cap) (.sl size [])
  | sl (b o cap size : Nat) (f : Nat → Nat → Value) (rows : List (List AV)) (hb : Imm w M b)
      (hc : ∀ (i : Nat) (r : List AV) (j : Nat), rows[i]? = some r → j < size → w.cell? ⟨b, o + i * size + j, none⟩ = some (f i j)) (hl : ∀ (i : Nat) (r : List AV), rows[i]? = some r → r.length = size)
      (h : ∀ (i : Nat) (r : List AV) (j : Nat) (x : AV), rows[i]? = some r → r[j]? = some x → RV w M (f i j) x) (hcap : rows.length ≤ cap) : RV w M (.slice (some ⟨b, o, none⟩) rows.length cap) (.sl size rows)
  | fl (v : Value) (size n : Nat) (rows : Nat → List AV) (h : RV w M v (.sl size ((List.range n).map rows))) : RV w M v (.fl size n rows)
  | zs (base : Option Addr) : RV w M (.slice base 0 0) .zs
  | ms (size r g off len cap b capc : Nat) (c : Array Value) (e : TypeId) (h : M r = some (b, g)) (hlen : len ≤ cap) (hcc : cap ≤ capc) (hsz : w.heap[b]? = some (.cells c e (0, 0)))
      (hfit : off + capc * size ≤ c.size) : RV w M (.slice (some ⟨b, off, none⟩) len capc) (.ms size r g off len cap)
  | msS (size r g off len cap b g' : Nat) (p : Option Addr) (capc : Nat) (h : M r = some (b, g')) (hg : g < g') : RV w M (.slice p len capc) (.ms size r g off len cap)
  | agg (vs : Array Value) (xs : List AV) (hl : vs.size = xs.length) (h : ∀ (j : Nat) (x : AV), xs[j]? = some x → RV w M (vs.getD j undef) x) : RV w M (.agg vs) (.agg xs)
  | tup (vs : Array Value) (xs : List AV) (hl : vs.size = xs.length) (h : ∀ (j : Nat) (x : AV), xs[j]? = some x → RV w M (vs.getD j undef) x) : RV w M (.tuple vs) (.tup xs)
  | fn (f : FuncId) (fs cs : Array Value) (xs ys : List AV) (hl1 : fs.size = xs.length) (hl2 : cs.size = ys.length) (h1 : ∀ (j : Nat) (x : AV), xs[j]? = some x → RV w M (fs.getD j undef) x)
      (h2 : ∀ (j : Nat) (x : AV), ys[j]? = some x → RV w M (cs.getD j undef) x) : RV w M (.func (.func f) fs cs) (.fn f xs ys)
  | yf (l b : Nat) (h : M l = some (b, 0)) : RV w M (.func (.yield b) #[] #[]) (.yf l)
  | yfS (l b g : Nat) (fn : Fn) (fs cs : Array Value) (h : M l = some (b, g)) (hg : 0 < g) : RV w M (.func fn fs cs) (.yf l)
  | anyb (b : Bool) : RV w M (.bool b) .anyb
  | mx (size r g off len cap b : Nat) (c : Array Value) (e : TypeId) (h : M r = some (b, g)) (hlen : len ≤ cap) (hsz : w.heap[b]? = some (.cells c e (0, 0))) (hfit : off + cap * size ≤ c.size) : RV w M (.slice (some ⟨b, off, none⟩) len cap) (.mx size r g off len cap)
  | mxS (size r g off len cap b g' : Nat) (p : Option Addr) (h : M r = some (b, g')) (hg : g < g') : RV w M (.slice p len cap) (.mx size r g off len cap)
  | junk (v : Value) : RV w M v .junk

/-- A block that is no row of cells. -/
def NoCells (w : World) (b : Nat) : Prop := b < w.heap.size ∧ ∀ c e fr, w.heap[b]? ≠ some (.cells c e fr)

/-- What turns and what does not between two moments. -/
structure Ext (w : World) (M : Map) (w' : World) (M' : Map) : Prop where
  size : w.heap.size ≤ w'.heap.size
  os : w'.os = w.os
  tape : w'.tape = w.tape
  output : w'.output = w.output
  imm : ∀ b, Imm w M b → Imm w' M' b ∧ w'.heap[b]? = w.heap[b]?
  ref : ∀ r b g, M r = some (b, g) → ∃ b' g', M' r = some (b', g') ∧ (g < g' ∨ (b' = b ∧ g' = g))
  shape : ∀ r b g c e fr, M r = some (b, g) → M' r = some (b, g) → w.heap[b]? = some (.cells c e fr) → ∃ c', w'.heap[b]? = some (.cells c' e fr) ∧ c'.size = c.size
  fix : ∀ r b, M r = some (b, 0) → NoCells w b → M' r = some (b, 0) ∧ NoCells w' b
  far : M'.far = M.far ∧ ∀ b, M.far b → b < w.heap.size → w'.heap[b]? = w.heap[b]?

theorem Ext.refl (w : World) (M : Map) : Ext w M w M :=
  ⟨Nat.le_refl _, rfl, rfl, rfl, fun _ h => ⟨h, rfl⟩, fun _ b g h => ⟨b, g, h, .inr ⟨rfl, rfl⟩⟩, fun _ _ _ c _ _ _ _ h => ⟨c, h, rfl⟩, fun _ _ h k => ⟨h, k⟩, rfl, fun _ _ _ => rfl⟩

theorem Ext.trans {w w' w'' : World} {M M' M'' : Map} (h : Ext w M w' M') (k : Ext w' M' w'' M'') : Ext w M w'' M'' := by
  refine ⟨Nat.le_trans h.size k.size, k.os.trans h.os, k.tape.trans h.tape, k.output.trans h.output, fun b hb => ?_, fun r b g hr => ?_, fun r b g c e fr hr hr'' hc => ?_, fun r b hr hc => ?_,
    k.far.1.trans h.far.1, fun b hb hl => (k.far.2 b (by rw [h.far.1]; exact hb) (Nat.lt_of_lt_of_le hl h.size)).trans (h.far.2 b hb hl)⟩
  · obtain ⟨h1, h2⟩ := h.imm b hb
    obtain ⟨k1, k2⟩ := k.imm b h1
    exact ⟨k1, k2.trans h2⟩
  · obtain ⟨b', g', hr', hd⟩ := h.ref r b g hr
    obtain ⟨b'', g'', hr'', hd'⟩ := k.ref r b' g' hr'
    refine ⟨b'', g'', hr'', ?_⟩
    rcases hd with hd | ⟨rfl, rfl⟩
    · rcases hd' with hd' | ⟨rfl, rfl⟩
      · exact .inl (by omega)
      · exact .inl hd
    · exact hd'
  · obtain ⟨b', g', hr', hd⟩ := h.ref r b g hr
    obtain ⟨b2, g2, hr2, hd'⟩ := k.ref r b' g' hr'
    rw [hr''] at hr2
    simp only [Option.some.injEq, Prod.mk.injEq] at hr2
    obtain ⟨rfl, rfl⟩ := hr2
    have he : b' = b ∧ g' = g := by
      rcases hd with hd | hd
      · rcases hd' with hd' | ⟨_, hd'⟩ <;> omega
      · exact hd
    obtain ⟨rfl, rfl⟩ := he
    obtain ⟨c', hc', hs⟩ := h.shape r b' g' c e fr hr hr' hc
    obtain ⟨c'', hc'', hs'⟩ := k.shape r b' g' c' e fr hr' hr'' hc'
    exact ⟨c'', hc'', hs'.trans hs⟩
  · obtain ⟨h1, h2⟩ := h.fix r b hr hc
    exact k.fix r b h1 h2

theorem cell_of_heap {w w' : World} {b : Nat} (h : w'.heap[b]? = w.heap[b]?) (o : Nat) : w'.cell? ⟨b, o, none⟩ = w.cell? ⟨b, o, none⟩ := by
  simp only [World.cell?, h]

theorem RV.mono {w w' : World} {M M' : Map} (h : Ext w M w' M') {v : Value} {x : AV} (hv : RV w M v x) : RV w' M' v x := by
  induction hv with
  | int k n => exact .int k n
  | bool b => exact .bool b
  | nilp => exact .nilp
  | nilf => exact .nilf
  | ref r g off b hr =>
    obtain ⟨b', g', hr', hd⟩ := h.ref r b g hr
    rcases hd with hd | ⟨rfl, rfl⟩
    · exact .refS r g off b' g' _ hr' hd
    · exact .ref r _ off _ hr'
  | refS r g off b g' p hr hg =>
    obtain ⟨b', g'', hr', hd⟩ := h.ref r b g' hr
    exact .refS r g off b' g'' p hr' (by rcases hd with hd | ⟨_, rfl⟩ <;> omega)
  | row b o off f cells hb hc _ ih =>
    obtain ⟨h1, h2⟩ := h.imm b hb
    exact .row b o off f cells h1 (fun j hj => (cell_of_heap h2 _).trans (hc j hj)) ih
  | sl0 base cap size => exact .sl0 base cap size
  | sl b o cap size f rows hb hc hl _ hcap ih =>
    obtain ⟨h1, h2⟩ := h.imm b hb
    exact .sl b o cap size f rows h1 (fun i r j hi hj => (cell_of_heap h2 _).trans (hc i r j hi hj)) hl ih hcap
  | fl v size n rows _ ih => exact .fl _ size n rows ih
  | zs base => exact .zs base
  | ms size r g off len cap b capc c e hr hlen hcc hsz hfit =>
    obtain ⟨b', g', hr', hd⟩ := h.ref r b g hr
    rcases hd with hd | ⟨rfl, rfl⟩
    · exact .msS size r g off len cap b' g' _ _ hr' hd
    · obtain ⟨c', hc', hs⟩ := h.shape r _ _ c e (0, 0) hr hr' hsz
      exact .ms size r _ off len cap _ capc c' e hr' hlen hcc hc' (by omega)
  | msS size r g off len cap b g' p capc hr hg =>
    obtain ⟨b', g'', hr', hd⟩ := h.ref r b g' hr
    exact .msS size r g off len cap b' g'' p capc hr' (by rcases hd with hd | ⟨_, rfl⟩ <;> omega)
  | agg vs xs hl _ ih => exact .agg vs xs hl ih
  | tup vs xs hl _ ih => exact .tup vs xs hl ih
  | fn f fs cs xs ys hl1 hl2 _ _ ih1 ih2 => exact .fn f fs cs xs ys hl1 hl2 ih1 ih2
  | yf l b hr =>
    obtain ⟨b', g', hr', hd⟩ := h.ref l b 0 hr
    rcases hd with hd | ⟨rfl, rfl⟩
    · exact .yfS l b' g' _ _ _ hr' hd
    · exact .yf l _ hr'
  | yfS l b g fn fs cs hr hg =>
    obtain ⟨b', g', hr', hd⟩ := h.ref l b g hr
    exact .yfS l b' g' fn fs cs hr' (by rcases hd with hd | ⟨_, rfl⟩ <;> omega)
  | anyb b => exact .anyb b
  | mx size r g off len cap b c e hr hlen hsz hfit =>
    obtain ⟨b', g', hr', hd⟩ := h.ref r b g hr
    rcases hd with hd | ⟨rfl, rfl⟩
    · exact .mxS size r g off len cap b' g' _ hr' hd
    · obtain ⟨c', hc', hs⟩ := h.shape r _ _ c e (0, 0) hr hr' hsz
      exact .mx size r _ off len cap _ c' e hr' hlen hc' (by omega)
  | mxS size r g off len cap b g' p hr hg =>
    obtain ⟨b', g'', hr', hd⟩ := h.ref r b g' hr
    exact .mxS size r g off len cap b' g'' p hr' (by rcases hd with hd | ⟨_, rfl⟩ <;> omega)
  | junk v => exact .junk v

/-- No reference to an object from number n on. -/
inductive Below (n : Nat) : AV → Prop where
  | int (k : IntKind) (i : Int) : Below n (.int k i)
  | bool (b : Bool) : Below n (.bool b)
  | nilp : Below n .nilp
  | nilf : Below n .nilf
  | ref (r g off : Nat) (h : r < n) : Below n (.ref r g off)
  | row (cells : List AV) (off : Nat) (h : ∀ (j : Nat) (x : AV), cells[j]? = some x → Below n x) : Below n (.row cells off)
  | sl (size : Nat) (rows : List (List AV)) (h : ∀ (i : Nat) (r : List AV) (j : Nat) (x : AV), rows[i]? = some r → r[j]? = some x → Below n x) : Below n (.sl size rows)
  | fl (size k : Nat) (rows : Nat → List AV) (h : Below n (.sl size ((List.range k).map rows))) : Below n (.fl size k rows)
  | zs : Below n .zs
  | ms (size r g off len cap : Nat) (h : r < n) : Below n (.ms size r g off len cap)
  | agg (xs : List AV) (h : ∀ (j : Nat) (x : AV), xs[j]? = some x → Below n x) : Below n (.agg xs)
  | tup (xs : List AV) (h : ∀ (j : Nat) (x : AV), xs[j]? = some x → Below n x) : Below n (.tup xs)
  | fn (f : FuncId) (xs ys : List AV) (h1 : ∀ (j : Nat) (x : AV), xs[j]? = some x → Below n x) (h2 : ∀ (j : Nat) (x : AV), ys[j]? = some x → Below n x) : Below n (.fn f xs ys)
  | yf (l : Nat) (h : l < n) : Below n (.yf l)
  | anyb : Below n .anyb
  | mx (size r g off len cap : Nat) (h : r < n) : Below n (.mx size r g off len cap)
  | junk : Below n .junk

theorem RV.isBelow {w : World} {M : Map} {n : Nat} (hn : ∀ r p, M r = some p → r < n) {v : Value} {x : AV} (hv : RV w M v x) : Below n x := by
  induction hv with
  | int k i => exact .int k i
  | bool b => exact .bool b
  | nilp => exact .nilp
  | nilf => exact .nilf
  | ref r g off b hr => exact .ref r g off (hn r _ hr)
  | refS r g off b g' p hr hg => exact .ref r g off (hn r _ hr)
  | row b o off f cells hb hc _ ih => exact .row cells off ih
  | sl0 base cap size => exact .sl size [] (fun i r j x hi _ => by simp at hi)
  | sl b o cap size f rows hb hc hl _ hcap ih => exact .sl size rows ih
  | fl v size k rows _ ih => exact .fl size k rows ih
  | zs base => exact .zs
  | ms size r g off len cap b capc c e hr hlen hcc hsz hfit => exact .ms size r g off len cap (hn r _ hr)
  | msS size r g off len cap b g' p capc hr hg => exact .ms size r g off len cap (hn r _ hr)
  | agg vs xs hl _ ih => exact .agg xs ih
  | tup vs xs hl _ ih => exact .tup xs ih
  | fn f fs cs xs ys hl1 hl2 _ _ ih1 ih2 => exact .fn f xs ys ih1 ih2
  | yf l b hr => exact .yf l (hn l _ hr)
  | yfS l b g fn fs cs hr hg => exact .yf l (hn l _ hr)
  | anyb b => exact .anyb
  | mx size r g off len cap b c e hr hlen hsz hfit => exact .mx size r g off len cap (hn r _ hr)
  | mxS size r g off len cap b g' p hr hg => exact .mx size r g off len cap (hn r _ hr)
  | junk v => exact .junk

/-- The objects below n alone. -/
def Map.cut (M : Map) (n : Nat) : Map := ⟨fun r => if r < n then M r else none, M.far⟩

theorem Map.cut_some {M : Map} {n r : Nat} {p : Nat × Nat} (h : M.cut n r = some p) : r < n ∧ M r = some p := by
  simp only [Map.cut] at h
  split at h
  · exact ⟨‹_›, h⟩
  · cases h
theorem Map.cut_lt {M : Map} {n r : Nat} (h : r < n) : M.cut n r = M r := by
  simp only [Map.cut]
  rw [if_pos h]

theorem Imm.cut {w : World} {M : Map} {b : Nat} (h : Imm w M b) (n : Nat) : Imm w (M.cut n) b := ⟨h.1, fun r g he => h.2.1 r g (Map.cut_some he).2, h.2.2⟩

theorem RV.cut {w : World} {M : Map} {n : Nat} {v : Value} {x : AV} (hv : RV w M v x) (hb : Below n x) : RV w (M.cut n) v x := by
  induction hv with
  | int k i => exact .int k i
  | bool b => exact .bool b
  | nilp => exact .nilp
  | nilf => exact .nilf
  | ref r g off b hr => cases hb with | ref _ _ _ hlt => exact .ref r g off b (by rw [Map.cut_lt hlt]; exact hr)
  | refS r g off b g' p hr hg => cases hb with | ref _ _ _ hlt => exact .refS r g off b g' p (by rw [Map.cut_lt hlt]; exact hr) hg
  | row b o off f cells hi hc _ ih => cases hb with | row _ _ h => exact .row b o off f cells (hi.cut n) hc fun j x hj => ih j x hj (h j x hj)
  | sl0 base cap size => exact .sl0 base cap size
  | sl b o cap size f rows hi hc hl _ hcap ih => cases hb with | sl _ _ h => exact .sl b o cap size f rows (hi.cut n) hc hl (fun i r j x hi hj => ih i r j x hi hj (h i r j x hi hj)) hcap
  | fl v size k rows _ ih => cases hb with | fl _ _ _ h => exact .fl _ size k rows (ih h)
  | zs base => exact .zs base
  | ms size r g off len cap b capc c e hr hlen hcc hsz hfit =>
    cases hb with | ms _ _ _ _ _ _ hlt => exact .ms size r g off len cap b capc c e (by rw [Map.cut_lt hlt]; exact hr) hlen hcc hsz hfit
  | msS size r g off len cap b g' p capc hr hg => cases hb with | ms _ _ _ _ _ _ hlt => exact .msS size r g off len cap b g' p capc (by rw [Map.cut_lt hlt]; exact hr) hg
  | agg vs xs hl _ ih => cases hb with | agg _ h => exact .agg vs xs hl fun j x hj => ih j x hj (h j x hj)
  | tup vs xs hl _ ih => cases hb with | tup _ h => exact .tup vs xs hl fun j x hj => ih j x hj (h j x hj)
  | fn f fs cs xs ys hl1 hl2 _ _ ih1 ih2 => cases hb with | fn _ _ _ h1 h2 => exact .fn f fs cs xs ys hl1 hl2 (fun j x hj => ih1 j x hj (h1 j x hj)) (fun j x hj => ih2 j x hj (h2 j x hj))
  | yf l b hr => cases hb with | yf _ hlt => exact .yf l b (by rw [Map.cut_lt hlt]; exact hr)
  | yfS l b g fn fs cs hr hg => cases hb with | yf _ hlt => exact .yfS l b g fn fs cs (by rw [Map.cut_lt hlt]; exact hr) hg
  | anyb b => exact .anyb b
  | mx size r g off len cap b c e hr hlen hsz hfit => cases hb with | mx _ _ _ _ _ _ hlt => exact .mx size r g off len cap b c e (by rw [Map.cut_lt hlt]; exact hr) hlen hsz hfit
  | mxS size r g off len cap b g' p hr hg => cases hb with | mx _ _ _ _ _ _ hlt => exact .mxS size r g off len cap b g' p (by rw [Map.cut_lt hlt]; exact hr) hg
  | junk v => exact .junk v

theorem Ext.cut {w w' : World} {M M' : Map} (h : Ext w M w' M') {n : Nat} (hn : ∀ r p, M r = some p → r < n) : Ext w M w' (M'.cut n) :=
  ⟨h.size, h.os, h.tape, h.output, fun b hb => ⟨(h.imm b hb).1.cut n, (h.imm b hb).2⟩,
    fun r b g hr => by rw [Map.cut_lt (hn r _ hr)]; exact h.ref r b g hr,
    fun r b g c e fr hr hr' hc => h.shape r b g c e fr hr (Map.cut_some hr').2 hc,
    fun r b hr hc => ⟨by rw [Map.cut_lt (hn r _ hr)]; exact (h.fix r b hr hc).1, (h.fix r b hr hc).2⟩, h.far⟩

/-- The record of a loop, both ways. -/
structure RLoop (w : World) (M : Map) (L : Loop) (A : ALoop) : Prop where
  state : L.state = A.state
  pending : L.pending = A.pending
  size : L.tmps.size = A.tmps.length
  tmps : ∀ j x, A.tmps[j]? = some x → RV w M (L.tmps.getD j undef) x
  params : L.params = A.params
  assign : L.assign = A.assign
  body : L.body = A.body
  defers : M A.defers = some (L.defers, 0) ∧ NoCells w L.defers

/-- Blocks of others, that neither are the call's own objects nor data. -/
def FarOk (w : World) (M : Map) : Prop := ∀ b, M.far b → b < w.heap.size ∧ ∀ r g, M r ≠ some (b, g)
theorem FarOk.keep {w w' : World} {M M' : Map} (h : FarOk w M) (he : Ext w M w' M') (hn : ∀ r b g, M' r = some (b, g) → (∃ r0 g0, M r0 = some (b, g0)) ∨ w.heap.size ≤ b) : FarOk w' M' := by
  intro b hb
  rw [he.far.1] at hb
  obtain ⟨h1, h2⟩ := h b hb
  refine ⟨Nat.lt_of_lt_of_le h1 he.size, fun r g hr => ?_⟩
  rcases hn r b g hr with ⟨r0, g0, h3⟩ | h3
  · exact h2 r0 g0 h3
  · omega

/-- The call's own objects lie in the world as the heap has them; what is known of package variables lies there, too. -/
structure Inv (G : Nat → Option (List AV)) (w : World) (M : Map) (σ : Heap) : Prop where
  glob : ∀ g cs, G g = some cs → RV w M (.pointer (some ⟨g, 0, none⟩)) (.row cs 0)
  inj : ∀ r r' b g g', M r = some (b, g) → M r' = some (b, g') → r = r'
  dom : ∀ r p, M r = some p → r < σ.length
  lt : ∀ r b g, M r = some (b, g) → b < w.heap.size
  cells : ∀ r g c, σ[r]? = some (.cells g c) → ∃ b cs e, M r = some (b, g) ∧ w.heap[b]? = some (.cells cs e (0, 0)) ∧ c.length ≤ cs.size ∧ ∀ (j : Nat) (x : AV), c[j]? = some x → RV w M (cs.getD j undef) x
  resv : ∀ r, σ[r]? = some .resv → M r = none
  dfr : ∀ r, σ[r]? = some .dfr → ∃ b, M r = some (b, 0) ∧ w.heap[b]? = some (.deferred (some []))
  loop : ∀ r A, σ[r]? = some (.loop A) → ∃ b L, M r = some (b, 0) ∧ w.heap[b]? = some (.loop L) ∧ RLoop w M L A
  far : FarOk w M

/-- Values side by side. -/
def RVs (w : World) (M : Map) (vs : Array Value) (xs : List AV) : Prop := vs.size = xs.length ∧ ∀ (j : Nat) (x : AV), xs[j]? = some x → RV w M (vs.getD j undef) x

theorem RVs.mono {w w' : World} {M M' : Map} (h : Ext w M w' M') {vs : Array Value} {xs : List AV} (hv : RVs w M vs xs) : RVs w' M' vs xs := ⟨hv.1, fun j x hj => (hv.2 j x hj).mono h⟩

/-- A frame: its values, and the loops whose marks stand among the deferred calls. -/
structure AAct where
  tmps : List AV
  marks : List Nat := []

def markOf (b : Nat) : Deferred := { target := .collected b, args := #[] }

structure RAct (w : World) (M : Map) (ac : Act) (a : AAct) : Prop where
  tmps : RVs w M ac.tmps a.tmps
  marks : ∃ bs : List Nat, ac.defers = bs.map markOf ∧ bs.length = a.marks.length ∧ ∀ (i r b : Nat), a.marks[i]? = some r → bs[i]? = some b → M r = some (b, 0) ∧ NoCells w b

end Go.Proofs.YtjljigccgaadaaaDoor.Am
