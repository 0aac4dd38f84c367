/-
  This file proves nothing of a law. It holds lemmas, of 6 texts in their order. No condition of its own.
-/
import Derived.RangeFuncLeaves
import Derived.RangeFuncCalls
import Derived.OrdersIn
import Derived.TacticsIn
import Derived.Laws.World
import Derived.Laws.Entries
import Derived.Laws.Tables
namespace Go.Proofs.Ytngaihdpmoajeaa.Am
open Go

/-- Plain values. 'ref', 'ms': into an object of the call's own (its number, its generation, a place); 'row', 'sl', 'fl': cells that nobody writes, as data; 'zs': a slice without room; 'yf': a loop's yield; 'anyb': some truth value; 'mx': as 'ms', its room known. -/
inductive AV where
  | int (k : IntKind) (n : Int)
  | bool (b : Bool)
  | nilp
  | nilf
  | ref (r g off : Nat)
  | row (cells : List AV) (off : Nat)
  | sl (size : Nat) (rows : List (List AV))
  | fl (size n : Nat) (rows : Nat → List AV)
  | zs
  | ms (size r g off len cap : Nat)
  | agg (cells : List AV)
  | tup (vs : List AV)
  | fn (f : FuncId) (first caps : List AV)
  | yf (l : Nat)
  | anyb
  | mx (size r g off len cap : Nat)
  | junk
  deriving Inhabited

/-- A loop's record over a function. -/
structure ALoop where
  state : LoopState
  pending : Option Code
  tmps : List AV
  params : Array Tmp
  assign : Code
  body : Code
  defers : Nat

inductive AObj where
  | cells (g : Nat) (c : List AV)
  | resv
  | dfr
  | loop (L : ALoop)
  | gone

abbrev Heap := List AObj
/-- Where an object lies: its block and its generation. -/
structure Map where
  get : Nat → Option (Nat × Nat)
  far : Nat → Prop
instance : CoeFun Map fun _ => Nat → Option (Nat × Nat) := ⟨Map.get⟩

/-- A block that nobody writes. -/
def Imm (w : World) (M : Map) (b : Nat) : Prop := b < w.heap.size ∧ (∀ r g, M r ≠ some (b, g)) ∧ ¬ M.far b

inductive RV (w : World) (M : Map) : Value → AV → Prop where
  | int (k : IntKind) (n : Int) : RV w M (.int k n) (.int k n)
  | bool (b : Bool) : RV w M (.bool b) (.bool b)
  | nilp : RV w M (.pointer none) .nilp
  | nilf : RV w M .nilFunc .nilf
  | ref (r g off b : Nat) (h : M r = some (b, g)) : RV w M (.pointer (some ⟨b, off, none⟩)) (.ref r g off)
  | refS (r g off b g' : Nat) (p : Addr) (h : M r = some (b, g')) (hg : g < g') : RV w M (.pointer (some p)) (.ref r g off)
  | row (b o off : Nat) (f : Nat → Value) (cells : List AV) (hb : Imm w M b) (hc : ∀ j, j < cells.length → w.cell? ⟨b, o + j, none⟩ = some (f j))
      (h : ∀ (j : Nat) (x : AV), cells[j]? = some x → RV w M (f j) x) : RV w M (.pointer (some ⟨b, o + off, none⟩)) (.row cells off)
  | sl0 (base : Option Addr) (cap size : Nat) : RV w M (.slice base 0 cap) (.sl size [])
  | sl (b o cap size : Nat) (f : Nat → Nat → Value) (rows : List (List AV)) (hb : Imm w M b)
      (hc : ∀ (i : Nat) (r : List AV) (j : Nat), rows[i]? = some r → j < size → w.cell? ⟨b, o + i * size + j, none⟩ = some (f i j)) (hl : ∀ (i : Nat) (r : List AV), rows[i]? = some r → r.length = size)
      (h : ∀ (i : Nat) (r : List AV) (j : Nat) (x : AV), rows[i]? = some r → r[j]? = some x → RV w M (f i j) x) (hcap : rows.length ≤ cap) : RV w M (.slice (some ⟨b, o, none⟩) rows.length cap) (.sl size rows)
  | fl (v : Value) (size n : Nat) (rows : Nat → List AV) (h : RV w M v (.sl size ((List.range n).map rows))) : RV w M v (.fl size n rows)
  | zs (base : Option Addr) : RV w M (.slice base 0 0) .zs
  | ms (size r g off len cap b capc : Nat) (c : Array Value) (e : TypeId) (h : M r = some (b, g)) (hlen : len ≤ cap) (hcc : cap ≤ capc) (hsz : w.heap[b]? = some (.cells c e (0, 0)))
      (hfit : off + capc * size ≤ c.size) : RV w M (.slice (some ⟨b, off, none⟩) len capc) (.ms size r g off len cap)
  | msS (size r g off len cap b g' : Nat) (p : Option Addr) (capc : Nat) (h : M r = some (b, g')) (hg : g < g') : RV w M (.slice p len capc) (.ms size r g off len cap)
  | agg (vs : Array Value) (xs : List AV) (hl : vs.size = xs.length) (h : ∀ (j : Nat) (x : AV), xs[j]? = some x → RV w M (vs.getD j undef) x) : RV w M (.agg vs) (.agg xs)
  | tup (vs : Array Value) (xs : List AV) (hl : vs.size = xs.length) (h : ∀ (j : Nat) (x : AV), xs[j]? = some x → RV w M (vs.getD j undef) x) : RV w M (.tuple vs) (.tup xs)
  | fn (f : FuncId) (fs cs : Array Value) (xs ys : List AV) (hl1 : fs.size = xs.length) (hl2 : cs.size = ys.length) (h1 : ∀ (j : Nat) (x : AV), xs[j]? = some x → RV w M (fs.getD j undef) x)
      (h2 : ∀ (j : Nat) (x : AV), ys[j]? = some x → RV w M (cs.getD j undef) x) : RV w M (.func (.func f) fs cs) (.fn f xs ys)
  | yf (l b : Nat) (h : M l = some (b, 0)) : RV w M (.func (.yield b) #[] #[]) (.yf l)
  | yfS (l b g : Nat) (fn : Fn) (fs cs : Array Value) (h : M l = some (b, g)) (hg : 0 < g) : RV w M (.func fn fs cs) (.yf l)
  | anyb (b : Bool) : RV w M (.bool b) .anyb
  | mx (size r g off len cap b : Nat) (c : Array Value) (e : TypeId) (h : M r = some (b, g)) (hlen : len ≤ cap) (hsz : w.heap[b]? = some (.cells c e (0, 0))) (hfit : off + cap * size ≤ c.size) : RV w M (.slice (some ⟨b, off, none⟩) len cap) (.mx size r g off len cap)
  | mxS (size r g off len cap b g' : Nat) (p : Option Addr) (h : M r = some (b, g')) (hg : g < g') : RV w M (.slice p len cap) (.mx size r g off len cap)
  | junk (v : Value) : RV w M v .junk

/-- A block that is no row of cells. -/
def NoCells (w : World) (b : Nat) : Prop := b < w.heap.size ∧ ∀ c e fr, w.heap[b]? ≠ some (.cells c e fr)

/-- What turns and what does not between two moments. -/
structure Ext (w : World) (M : Map) (w' : World) (M' : Map) : Prop where
  size : w.heap.size ≤ w'.heap.size
  os : w'.os = w.os
  tape : w'.tape = w.tape
  output : w'.output = w.output
  imm : ∀ b, Imm w M b → Imm w' M' b ∧ w'.heap[b]? = w.heap[b]?
  ref : ∀ r b g, M r = some (b, g) → ∃ b' g', M' r = some (b', g') ∧ (g < g' ∨ (b' = b ∧ g' = g))
  shape : ∀ r b g c e fr, M r = some (b, g) → M' r = some (b, g) → w.heap[b]? = some (.cells c e fr) → ∃ c', w'.heap[b]? = some (.cells c' e fr) ∧ c'.size = c.size
  fix : ∀ r b, M r = some (b, 0) → NoCells w b → M' r = some (b, 0) ∧ NoCells w' b
  far : M'.far = M.far ∧ ∀ b, M.far b → b < w.heap.size → w'.heap[b]? = w.heap[b]?

theorem Ext.refl (w : World) (M : Map) : Ext w M w M :=
  ⟨Nat.le_refl _, rfl, rfl, rfl, fun _ h => ⟨h, rfl⟩, fun _ b g h => ⟨b, g, h, .inr ⟨rfl, rfl⟩⟩, fun _ _ _ c _ _ _ _ h => ⟨c, h, rfl⟩, fun _ _ h k => ⟨h, k⟩, rfl, fun _ _ _ => rfl⟩

theorem Ext.trans {w w' w'' : World} {M M' M'' : Map} (h : Ext w M w' M') (k : Ext w' M' w'' M'') : Ext w M w'' M'' := by
  refine ⟨Nat.le_trans h.size k.size, k.os.trans h.os, k.tape.trans h.tape, k.output.trans h.output, fun b hb => ?_, fun r b g hr => ?_, fun r b g c e fr hr hr'' hc => ?_, fun r b hr hc => ?_,
    k.far.1.trans h.far.1, fun b hb hl => (k.far.2 b (by rw [h.far.1]; exact hb) (Nat.lt_of_lt_of_le hl h.size)).trans (h.far.2 b hb hl)⟩
  · obtain ⟨h1, h2⟩ := h.imm b hb
    obtain ⟨k1, k2⟩ := k.imm b h1
    exact ⟨k1, k2.trans h2⟩
  · obtain ⟨b', g', hr', hd⟩ := h.ref r b g hr
    obtain ⟨b'', g'', hr'', hd'⟩ := k.ref r b' g' hr'
    refine ⟨b'', g'', hr'', ?_⟩
    rcases hd with hd | ⟨rfl, rfl⟩
    · rcases hd' with hd' | ⟨rfl, rfl⟩
      · exact .inl (by omega)
      · exact .inl hd
    · exact hd'
  · obtain ⟨b', g', hr', hd⟩ := h.ref r b g hr
    obtain ⟨b2, g2, hr2, hd'⟩ := k.ref r b' g' hr'
    rw [hr''] at hr2
    simp only [Option.some.injEq, Prod.mk.injEq] at hr2
    obtain ⟨rfl, rfl⟩ := hr2
    have he : b' = b ∧ g' = g := by
      rcases hd with hd | hd
      · rcases hd' with hd' | ⟨_, hd'⟩ <;> omega
      · exact hd
    obtain ⟨rfl, rfl⟩ := he
    obtain ⟨c', hc', hs⟩ := h.shape r b' g' c e fr hr hr' hc
    obtain ⟨c'', hc'', hs'⟩ := k.shape r b' g' c' e fr hr' hr'' hc'
    exact ⟨c'', hc'', hs'.trans hs⟩
  · obtain ⟨h1, h2⟩ := h.fix r b hr hc
    exact k.fix r b h1 h2

theorem cell_of_heap {w w' : World} {b : Nat} (h : w'.heap[b]? = w.heap[b]?) (o : Nat) : w'.cell? ⟨b, o, none⟩ = w.cell? ⟨b, o, none⟩ := by
  simp only [World.cell?, h]

theorem RV.mono {w w' : World} {M M' : Map} (h : Ext w M w' M') {v : Value} {x : AV} (hv : RV w M v x) : RV w' M' v x := by
  induction hv with
  | int k n => exact .int k n
  | bool b => exact .bool b
  | nilp => exact .nilp
  | nilf => exact .nilf
  | ref r g off b hr =>
    obtain ⟨b', g', hr', hd⟩ := h.ref r b g hr
    rcases hd with hd | ⟨rfl, rfl⟩
    · exact .refS r g off b' g' _ hr' hd
    · exact .ref r _ off _ hr'
  | refS r g off b g' p hr hg =>
    obtain ⟨b', g'', hr', hd⟩ := h.ref r b g' hr
    exact .refS r g off b' g'' p hr' (by rcases hd with hd | ⟨_, rfl⟩ <;> omega)
  | row b o off f cells hb hc _ ih =>
    obtain ⟨h1, h2⟩ := h.imm b hb
    exact .row b o off f cells h1 (fun j hj => (cell_of_heap h2 _).trans (hc j hj)) ih
  | sl0 base cap size => exact .sl0 base cap size
  | sl b o cap size f rows hb hc hl _ hcap ih =>
    obtain ⟨h1, h2⟩ := h.imm b hb
    exact .sl b o cap size f rows h1 (fun i r j hi hj => (cell_of_heap h2 _).trans (hc i r j hi hj)) hl ih hcap
  | fl v size n rows _ ih => exact .fl _ size n rows ih
  | zs base => exact .zs base
  | ms size r g off len cap b capc c e hr hlen hcc hsz hfit =>
    obtain ⟨b', g', hr', hd⟩ := h.ref r b g hr
    rcases hd with hd | ⟨rfl, rfl⟩
    · exact .msS size r g off len cap b' g' _ _ hr' hd
    · obtain ⟨c', hc', hs⟩ := h.shape r _ _ c e (0, 0) hr hr' hsz
      exact .ms size r _ off len cap _ capc c' e hr' hlen hcc hc' (by omega)
  | msS size r g off len cap b g' p capc hr hg =>
    obtain ⟨b', g'', hr', hd⟩ := h.ref r b g' hr
    exact .msS size r g off len cap b' g'' p capc hr' (by rcases hd with hd | ⟨_, rfl⟩ <;> omega)
  | agg vs xs hl _ ih => exact .agg vs xs hl ih
  | tup vs xs hl _ ih => exact .tup vs xs hl ih
  | fn f fs cs xs ys hl1 hl2 _ _ ih1 ih2 => exact .fn f fs cs xs ys hl1 hl2 ih1 ih2
  | yf l b hr =>
    obtain ⟨b', g', hr', hd⟩ := h.ref l b 0 hr
    rcases hd with hd | ⟨rfl, rfl⟩
    · exact .yfS l b' g' _ _ _ hr' hd
    · exact .yf l _ hr'
  | yfS l b g fn fs cs hr hg =>
    obtain ⟨b', g', hr', hd⟩ := h.ref l b g hr
    exact .yfS l b' g' fn fs cs hr' (by rcases hd with hd | ⟨_, rfl⟩ <;> omega)
  | anyb b => exact .anyb b
  | mx size r g off len cap b c e hr hlen hsz hfit =>
    obtain ⟨b', g', hr', hd⟩ := h.ref r b g hr
    rcases hd with hd | ⟨rfl, rfl⟩
    · exact .mxS size r g off len cap b' g' _ hr' hd
    · obtain ⟨c', hc', hs⟩ := h.shape r _ _ c e (0, 0) hr hr' hsz
      exact .mx size r _ off len cap _ c' e hr' hlen hc' (by omega)
  | mxS size r g off len cap b g' p hr hg =>
    obtain ⟨b', g'', hr', hd⟩ := h.ref r b g' hr
    exact .mxS size r g off len cap b' g'' p hr' (by rcases hd with hd | ⟨_, rfl⟩ <;> omega)
  | junk v => exact .junk v

/-- No reference to an object from number n on. -/
inductive Below (n : Nat) : AV → Prop where
  | int (k : IntKind) (i : Int) : Below n (.int k i)
  | bool (b : Bool) : Below n (.bool b)
  | nilp : Below n .nilp
  | nilf : Below n .nilf
  | ref (r g off : Nat) (h : r < n) : Below n (.ref r g off)
  | row (cells : List AV) (off : Nat) (h : ∀ (j : Nat) (x : AV), cells[j]? = some x → Below n x) : Below n (.row cells off)
  | sl (size : Nat) (rows : List (List AV)) (h : ∀ (i : Nat) (r : List AV) (j : Nat) (x : AV), rows[i]? = some r → r[j]? = some x → Below n x) : Below n (.sl size rows)
  | fl (size k : Nat) (rows : Nat → List AV) (h : Below n (.sl size ((List.range k).map rows))) : Below n (.fl size k rows)
  | zs : Below n .zs
  | ms (size r g off len cap : Nat) (h : r < n) : Below n (.ms size r g off len cap)
  | agg (xs : List AV) (h : ∀ (j : Nat) (x : AV), xs[j]? = some x → Below n x) : Below n (.agg xs)
  | tup (xs : List AV) (h : ∀ (j : Nat) (x : AV), xs[j]? = some x → Below n x) : Below n (.tup xs)
  | fn (f : FuncId) (xs ys : List AV) (h1 : ∀ (j : Nat) (x : AV), xs[j]? = some x → Below n x) (h2 : ∀ (j : Nat) (x : AV), ys[j]? = some x → Below n x) : Below n (.fn f xs ys)
  | yf (l : Nat) (h : l < n) : Below n (.yf l)
  | anyb : Below n .anyb
  | mx (size r g off len cap : Nat) (h : r < n) : Below n (.mx size r g off len cap)
  | junk : Below n .junk

theorem RV.isBelow {w : World} {M : Map} {n : Nat} (hn : ∀ r p, M r = some p → r < n) {v : Value} {x : AV} (hv : RV w M v x) : Below n x := by
  induction hv with
  | int k i => exact .int k i
  | bool b => exact .bool b
  | nilp => exact .nilp
  | nilf => exact .nilf
  | ref r g off b hr => exact .ref r g off (hn r _ hr)
  | refS r g off b g' p hr hg => exact .ref r g off (hn r _ hr)
  | row b o off f cells hb hc _ ih => exact .row cells off ih
  | sl0 base cap size => exact .sl size [] (fun i r j x hi _ => by simp at hi)
  | sl b o cap size f rows hb hc hl _ hcap ih => exact .sl size rows ih
  | fl v size k rows _ ih => exact .fl size k rows ih
  | zs base => exact .zs
  | ms size r g off len cap b capc c e hr hlen hcc hsz hfit => exact .ms size r g off len cap (hn r _ hr)
  | msS size r g off len cap b g' p capc hr hg => exact .ms size r g off len cap (hn r _ hr)
  | agg vs xs hl _ ih => exact .agg xs ih
  | tup vs xs hl _ ih => exact .tup xs ih
  | fn f fs cs xs ys hl1 hl2 _ _ ih1 ih2 => exact .fn f xs ys ih1 ih2
  | yf l b hr => exact .yf l (hn l _ hr)
  | yfS l b g fn fs cs hr hg => exact .yf l (hn l _ hr)
  | anyb b => exact .anyb
  | mx size r g off len cap b c e hr hlen hsz hfit => exact .mx size r g off len cap (hn r _ hr)
  | mxS size r g off len cap b g' p hr hg => exact .mx size r g off len cap (hn r _ hr)
  | junk v => exact .junk

/-- The objects below n alone. -/
def Map.cut (M : Map) (n : Nat) : Map := ⟨fun r => if r < n then M r else none, M.far⟩

theorem Map.cut_some {M : Map} {n r : Nat} {p : Nat × Nat} (h : M.cut n r = some p) : r < n ∧ M r = some p := by
  simp only [Map.cut] at h
  split at h
  · exact ⟨‹_›, h⟩
  · cases h
theorem Map.cut_lt {M : Map} {n r : Nat} (h : r < n) : M.cut n r = M r := by
  simp only [Map.cut]
  rw [if_pos h]

theorem Imm.cut {w : World} {M : Map} {b : Nat} (h : Imm w M b) (n : Nat) : Imm w (M.cut n) b := ⟨h.1, fun r g he => h.2.1 r g (Map.cut_some he).2, h.2.2⟩

theorem RV.cut {w : World} {M : Map} {n : Nat} {v : Value} {x : AV} (hv : RV w M v x) (hb : Below n x) : RV w (M.cut n) v x := by
  induction hv with
  | int k i => exact .int k i
  | bool b => exact .bool b
  | nilp => exact .nilp
  | nilf => exact .nilf
  | ref r g off b hr => cases hb with | ref _ _ _ hlt => exact .ref r g off b (by rw [Map.cut_lt hlt]; exact hr)
  | refS r g off b g' p hr hg => cases hb with | ref _ _ _ hlt => exact .refS r g off b g' p (by rw [Map.cut_lt hlt]; exact hr) hg
  | row b o off f cells hi hc _ ih => cases hb with | row _ _ h => exact .row b o off f cells (hi.cut n) hc fun j x hj => ih j x hj (h j x hj)
  | sl0 base cap size => exact .sl0 base cap size
  | sl b o cap size f rows hi hc hl _ hcap ih => cases hb with | sl _ _ h => exact .sl b o cap size f rows (hi.cut n) hc hl (fun i r j x hi hj => ih i r j x hi hj (h i r j x hi hj)) hcap
  | fl v size k rows _ ih => cases hb with | fl _ _ _ h => exact .fl _ size k rows (ih h)
  | zs base => exact .zs base
  | ms size r g off len cap b capc c e hr hlen hcc hsz hfit =>
    cases hb with | ms _ _ _ _ _ _ hlt => exact .ms size r g off len cap b capc c e (by rw [Map.cut_lt hlt]; exact hr) hlen hcc hsz hfit
  | msS size r g off len cap b g' p capc hr hg => cases hb with | ms _ _ _ _ _ _ hlt => exact .msS size r g off len cap b g' p capc (by rw [Map.cut_lt hlt]; exact hr) hg
  | agg vs xs hl _ ih => cases hb with | agg _ h => exact .agg vs xs hl fun j x hj => ih j x hj (h j x hj)
  | tup vs xs hl _ ih => cases hb with | tup _ h => exact .tup vs xs hl fun j x hj => ih j x hj (h j x hj)
  | fn f fs cs xs ys hl1 hl2 _ _ ih1 ih2 => cases hb with | fn _ _ _ h1 h2 => exact .fn f fs cs xs ys hl1 hl2 (fun j x hj => ih1 j x hj (h1 j x hj)) (fun j x hj => ih2 j x hj (h2 j x hj))
  | yf l b hr => cases hb with | yf _ hlt => exact .yf l b (by rw [Map.cut_lt hlt]; exact hr)
  | yfS l b g fn fs cs hr hg => cases hb with | yf _ hlt => exact .yfS l b g fn fs cs (by rw [Map.cut_lt hlt]; exact hr) hg
  | anyb b => exact .anyb b
  | mx size r g off len cap b c e hr hlen hsz hfit => cases hb with | mx _ _ _ _ _ _ hlt => exact .mx size r g off len cap b c e (by rw [Map.cut_lt hlt]; exact hr) hlen hsz hfit
  | mxS size r g off len cap b g' p hr hg => cases hb with | mx _ _ _ _ _ _ hlt => exact .mxS size r g off len cap b g' p (by rw [Map.cut_lt hlt]; exact hr) hg
  | junk v => exact .junk v

theorem Ext.cut {w w' : World} {M M' : Map} (h : Ext w M w' M') {n : Nat} (hn : ∀ r p, M r = some p → r < n) : Ext w M w' (M'.cut n) :=
  ⟨h.size, h.os, h.tape, h.output, fun b hb => ⟨(h.imm b hb).1.cut n, (h.imm b hb).2⟩,
    fun r b g hr => by rw [Map.cut_lt (hn r _ hr)]; exact h.ref r b g hr,
    fun r b g c e fr hr hr' hc => h.shape r b g c e fr hr (Map.cut_some hr').2 hc,
    fun r b hr hc => ⟨by rw [Map.cut_lt (hn r _ hr)]; exact (h.fix r b hr hc).1, (h.fix r b hr hc).2⟩, h.far⟩

/-- The record of a loop, both ways. -/
structure RLoop (w : World) (M : Map) (L : Loop) (A : ALoop) : Prop where
  state : L.state = A.state
  pending : L.pending = A.pending
  size : L.tmps.size = A.tmps.length
  tmps : ∀ j x, A.tmps[j]? = some x → RV w M (L.tmps.getD j undef) x
  params : L.params = A.params
  assign : L.assign = A.assign
  body : L.body = A.body
  defers : M A.defers = some (L.defers, 0) ∧ NoCells w L.defers

/-- Blocks of others, that neither are the call's own objects nor data. -/
def FarOk (w : World) (M : Map) : Prop := ∀ b, M.far b → b < w.heap.size ∧ ∀ r g, M r ≠ some (b, g)
theorem FarOk.keep {w w' : World} {M M' : Map} (h : FarOk w M) (he : Ext w M w' M') (hn : ∀ r b g, M' r = some (b, g) → (∃ r0 g0, M r0 = some (b, g0)) ∨ w.heap.size ≤ b) : FarOk w' M' := by
  intro b hb
  rw [he.far.1] at hb
  obtain ⟨h1, h2⟩ := h b hb
  refine ⟨Nat.lt_of_lt_of_le h1 he.size, fun r g hr => ?_⟩
  rcases hn r b g hr with ⟨r0, g0, h3⟩ | h3
  · exact h2 r0 g0 h3
  · omega

/-- The call's own objects lie in the world as the heap has them; what is known of package variables lies there, too. -/
structure Inv (G : Nat → Option (List AV)) (w : World) (M : Map) (σ : Heap) : Prop where
  glob : ∀ g cs, G g = some cs → RV w M (.pointer (some ⟨g, 0, none⟩)) (.row cs 0)
  inj : ∀ r r' b g g', M r = some (b, g) → M r' = some (b, g') → r = r'
  dom : ∀ r p, M r = some p → r < σ.length
  lt : ∀ r b g, M r = some (b, g) → b < w.heap.size
  cells : ∀ r g c, σ[r]? = some (.cells g c) → ∃ b cs e, M r = some (b, g) ∧ w.heap[b]? = some (.cells cs e (0, 0)) ∧ c.length ≤ cs.size ∧ ∀ (j : Nat) (x : AV), c[j]? = some x → RV w M (cs.getD j undef) x
  resv : ∀ r, σ[r]? = some .resv → M r = none
  dfr : ∀ r, σ[r]? = some .dfr → ∃ b, M r = some (b, 0) ∧ w.heap[b]? = some (.deferred (some []))
  loop : ∀ r A, σ[r]? = some (.loop A) → ∃ b L, M r = some (b, 0) ∧ w.heap[b]? = some (.loop L) ∧ RLoop w M L A
  far : FarOk w M

/-- Values side by side. -/
def RVs (w : World) (M : Map) (vs : Array Value) (xs : List AV) : Prop := vs.size = xs.length ∧ ∀ (j : Nat) (x : AV), xs[j]? = some x → RV w M (vs.getD j undef) x

theorem RVs.mono {w w' : World} {M M' : Map} (h : Ext w M w' M') {vs : Array Value} {xs : List AV} (hv : RVs w M vs xs) : RVs w' M' vs xs := ⟨hv.1, fun j x hj => (hv.2 j x hj).mono h⟩

/-- A frame: its values, and the loops whose marks stand among the deferred calls. -/
structure AAct where
  tmps : List AV
  marks : List Nat := []

def markOf (b : Nat) : Deferred := { target := .collected b, args := #[] }

structure RAct (w : World) (M : Map) (ac : Act) (a : AAct) : Prop where
  tmps : RVs w M ac.tmps a.tmps
  marks : ∃ bs : List Nat, ac.defers = bs.map markOf ∧ bs.length = a.marks.length ∧ ∀ (i r b : Nat), a.marks[i]? = some r → bs[i]? = some b → M r = some (b, 0) ∧ NoCells w b

end Go.Proofs.Ytngaihdpmoajeaa.Am

namespace Go.Proofs.Ytngaihdpmoajeaa.Am
open Go

/-! ### Constants and operands -/
def AV.ofCell : Value → Option AV
  | .int k n => some (.int k n)
  | .bool b => some (.bool b)
  | .pointer none => some .nilp
  | .nilFunc => some .nilf
  | .slice none 0 0 => some .zs
  | _ => none
def AV.ofCells : List Value → Option (List AV)
  | [] => some []
  | v :: r => match AV.ofCell v, AV.ofCells r with
    | some x, some xs => some (x :: xs)
    | _, _ => none
def AV.ofValue : Value → Option AV
  | .agg cs => (AV.ofCells cs.toList).map .agg
  | .tuple vs => (AV.ofCells vs.toList).map .tup
  | v => AV.ofCell v

/-- A value of one cell, of a known make. -/
def AV.one : AV → Bool
  | .agg _ | .tup _ | .junk => false
  | _ => true
def AV.cells : AV → List AV
  | .agg cs => cs
  | x => [x]

section
variable {w : World} {M : Map}
theorem ofCell_ok {v : Value} {x : AV} (h : AV.ofCell v = some x) : RV w M v x := by
  unfold AV.ofCell at h
  split at h <;> first | (cases h; constructor) | cases h

theorem ofCells_ok : ∀ {l : List Value} {xs : List AV}, AV.ofCells l = some xs → l.length = xs.length ∧ ∀ (j : Nat) (x : AV), xs[j]? = some x → RV w M (l.toArray.getD j undef) x := by
  intro l
  induction l with
  | nil => intro xs h; cases h; exact ⟨rfl, fun j x hj => by simp at hj⟩
  | cons v r ih =>
    intro xs h
    simp only [AV.ofCells] at h
    split at h
    · rename_i x ys hx hys
      cases h
      obtain ⟨h1, h2⟩ := ih hys
      refine ⟨by simp [h1], fun j y hj => ?_⟩
      cases j with
      | zero => simp at hj; subst hj; simpa using ofCell_ok hx
      | succ j => have := h2 j y (by simpa using hj); simpa using this
    · cases h

theorem ofValue_ok {v : Value} {x : AV} (h : AV.ofValue v = some x) : RV w M v x := by
  unfold AV.ofValue at h
  split at h
  · rename_i cs
    cases hc : AV.ofCells cs.toList with
    | none => rw [hc] at h; cases h
    | some xs =>
      rw [hc] at h; cases h
      obtain ⟨h1, h2⟩ := ofCells_ok (w := w) (M := M) hc
      exact .agg cs xs (by simpa using h1) (by simpa using h2)
  · rename_i cs
    cases hc : AV.ofCells cs.toList with
    | none => rw [hc] at h; cases h
    | some xs =>
      rw [hc] at h; cases h
      obtain ⟨h1, h2⟩ := ofCells_ok (w := w) (M := M) hc
      exact .tup cs xs (by simpa using h1) (by simpa using h2)
  · exact ofCell_ok h

theorem RV.oneCell {v : Value} {x : AV} (h : RV w M v x) (h1 : x.one = true) : v.oneCell' = true ∧ v.cells = #[v] := by
  cases h <;> first | exact ⟨rfl, rfl⟩ | (rename_i n rows h; generalize (List.range n).map rows = rs at h; cases h <;> exact ⟨rfl, rfl⟩) | (simp [AV.one] at h1)

theorem RV.cells {v : Value} {x : AV} (h : RV w M v x) (h1 : x.cells.all AV.one = true) : RVs w M v.cells x.cells ∧ ∀ u ∈ v.cells.toList, u.oneCell' = true := by
  by_cases hx : x.one = true
  · obtain ⟨h2, h3⟩ := h.oneCell hx
    have hc : x.cells = [x] := by cases x <;> first | rfl | (simp [AV.one] at hx)
    rw [h3, hc]
    refine ⟨⟨rfl, fun j y hj => ?_⟩, by simpa using h2⟩
    cases j with
    | zero => simp at hj; subst hj; simpa using h
    | succ j => simp at hj
  · cases h <;> first | (exact absurd rfl hx) | skip
    case agg vs xs hl h =>
      refine ⟨⟨hl, h⟩, fun u hu => ?_⟩
      simp only [AV.cells, List.all_eq_true] at h1
      obtain ⟨j, hj, rfl⟩ := List.getElem_of_mem hu
      have hj' : j < xs.length := by simpa [Value.cells, hl] using hj
      have := h j xs[j] (List.getElem?_eq_getElem hj')
      have h2 := (this.oneCell (h1 _ (List.getElem_mem hj'))).1
      have hs : j < vs.size := by omega
      simpa [Array.getD, hs, Value.cells] using h2
    case tup vs xs hl h => simp [AV.cells, AV.one] at h1
    case junk => simp [AV.cells, AV.one] at h1

/-! ### A frame's operands -/
variable {G : Nat → Option (List AV)}
def ev (G : Nat → Option (List AV)) (a : List AV) : Operand → Option AV
  | .tmp t => a[t]?
  | .const v => AV.ofValue v
  | .global g => (G g).map (AV.row · 0)
  | .func f => some (.fn f [] [])

theorem ev_ok {σ : Heap} {ac : Act} {a : List AV} (hi : Inv G w M σ) (ha : RVs w M ac.tmps a) {x : Operand} {y : AV} (h : ev G a x = some y) : RV w M (ac.eval x) y := by
  cases x with
  | tmp t => exact ha.2 t y h
  | const v => exact ofValue_ok h
  | global g =>
    cases hg : G g with
    | none => simp [ev, hg] at h
    | some cs => simp only [ev, hg, Option.map_some, Option.some.injEq] at h; subst h; exact hi.glob g cs hg
  | func f => cases h; exact .fn f #[] #[] [] [] rfl rfl (fun j x hj => by simp at hj) (fun j x hj => by simp at hj)

/-! ### What an operation is to show -/
/-- The run yields a value that corresponds to y (or nothing, y being the empty tuple), in a world that corresponds to the heap σ'. -/
def Good (G : Nat → Option (List AV)) (w : World) (M : Map) (σ' : Heap) (y : AV) (r : Result Next) : Prop :=
  ∃ v w' M', (r = .ok (.value v) w' ∨ (r = .ok .skip w' ∧ v = undef)) ∧ RV w' M' v y ∧ Ext w M w' M' ∧ Inv G w' M' σ'

theorem Good.same {σ : Heap} {y : AV} {v : Value} (hi : Inv G w M σ) (h : RV w M v y) : Good G w M σ y (.ok (.value v) w) :=
  ⟨v, w, M, .inl rfl, h, .refl w M, hi⟩

variable {P : Program}

/-! ### Arithmetic -/
def aBin (P : Program) (op : BinOp) (t : TypeId) (x y : AV) : Option AV :=
  match x, y with
  | .int k a, .int k' b =>
    match op with
    | .shl => if b < 0 then none else some (.int k (k.wrap (a * 2 ^ (min b.toNat k.bits))))
    | .shr => if b < 0 then none else some (.int k (a.fdiv (2 ^ (min b.toNat k.bits))))
    | _ => if k ≠ k' then none else
      match op with
      | .add => some (.int k (k.wrap (a + b)))
      | .sub => some (.int k (k.wrap (a - b)))
      | .mul => some (.int k (k.wrap (a * b)))
      | .quo => if b = 0 then none else some (.int k (k.wrap (a.tdiv b)))
      | .rem => if b = 0 then none else some (.int k (a.tmod b))
      | .and => some (.int k (k.wrap ((BitVec.ofInt k.bits a &&& BitVec.ofInt k.bits b).toNat)))
      | .or => some (.int k (k.wrap ((BitVec.ofInt k.bits a ||| BitVec.ofInt k.bits b).toNat)))
      | .xor => some (.int k (k.wrap ((BitVec.ofInt k.bits a ^^^ BitVec.ofInt k.bits b).toNat)))
      | .andNot => some (.int k (k.wrap ((BitVec.ofInt k.bits a &&& ~~~BitVec.ofInt k.bits b).toNat)))
      | .eql => some (.bool (a == b))
      | .neq => some (.bool (a != b))
      | .lss => some (.bool (decide (a < b)))
      | .leq => some (.bool (decide (a ≤ b)))
      | .gtr => some (.bool (decide (a > b)))
      | .geq => some (.bool (decide (a ≥ b)))
      | _ => none
  | .bool a, .bool b =>
    if (P.underlying t matches some .bool) then
      match op with
      | .eql => some (.bool (a == b))
      | .neq => some (.bool (!(a == b)))
      | _ => none
    else none
  | .fn _ _ _, .nilf =>
    if (P.underlying t matches some (.func _ _ _)) then
      match op with
      | .eql => some (.bool false)
      | .neq => some (.bool true)
      | _ => none
    else none
  | .nilf, .nilf =>
    if (P.underlying t matches some (.func _ _ _)) then
      match op with
      | .eql => some (.bool true)
      | .neq => some (.bool false)
      | _ => none
    else none
  | _, _ => none

theorem run_underlying' (t : TypeId) (w : World) : (underlying t).run P w = match P.underlying t with | some d => .ok d w | none => .halt (.stuck "no such type") w := by
  unfold underlying
  simp only [Sem.run_bind, run_program, Result.andThen_ok]
  cases P.underlying t <;> rfl
theorem run_typeInfo' (t : TypeId) (w : World) : (typeInfo t).run P w = match P.info? t with | some i => .ok i w | none => .halt (.stuck "no such type") w := by
  unfold typeInfo
  simp only [Sem.run_bind, run_program, Result.andThen_ok]
  cases P.info? t <;> rfl

theorem equal_bool {t : TypeId} (hd : P.underlying t = some .bool) (a b : Bool) (w : World) : (Op.equal t (.bool a) (.bool b)).run P w = .ok (a == b) w := by
  show (Op.equalIn (9999 + 1) t _ _).run P w = _
  unfold Op.equalIn
  simp [run_underlying', hd]
theorem equal_func_nil {t : TypeId} {ps rs : Array TypeId} {vr : Bool} (hd : P.underlying t = some (.func ps rs vr)) (f : Fn) (x y : Array Value) (w : World) : (Op.equal t (.func f x y) .nilFunc).run P w = .ok false w := by
  show (Op.equalIn (9999 + 1) t _ _).run P w = _
  unfold Op.equalIn
  simp [run_underlying', hd]
theorem equal_nil_nil {t : TypeId} {ps rs : Array TypeId} {vr : Bool} (hd : P.underlying t = some (.func ps rs vr)) (w : World) : (Op.equal t .nilFunc .nilFunc).run P w = .ok true w := by
  show (Op.equalIn (9999 + 1) t _ _).run P w = _
  unfold Op.equalIn
  simp [run_underlying', hd]
theorem matches_bool {o : Option TypeDesc} (hd : (o matches some .bool) = true) : o = some .bool := by
  cases o with
  | none => simp at hd
  | some d => cases d <;> simp at hd ⊢
theorem matches_func {o : Option TypeDesc} (hd : (o matches some (.func _ _ _)) = true) : ∃ ps rs vr, o = some (.func ps rs vr) := by
  cases o with
  | none => simp at hd
  | some d => cases d <;> simp at hd ⊢

theorem aBin_int {op : BinOp} {t : TypeId} {k k' : IntKind} {a b : Int} {z : AV} (h : aBin P op t (.int k a) (.int k' b) = some z) :
    ∃ r, (binOp op t (.int k a) (.int k' b)).run P w = .ok r w ∧ RV w M r z := by
  simp only [aBin] at h
  by_cases hk : k = k'
  · subst hk
    cases op <;> simp only [ne_eq, not_true_eq_false, if_false] at h
    case shl =>
      split at h
      · cases h
      · rename_i hb; cases h
        exact ⟨_, by simp only [binOp, Op.shift, if_neg hb]; rfl, .int k _⟩
    case shr =>
      split at h
      · cases h
      · rename_i hb; cases h
        exact ⟨_, by simp only [binOp, Op.shift, if_neg hb]; rfl, .int k _⟩
    case quo =>
      split at h
      · cases h
      · rename_i hb; cases h
        exact ⟨_, by simp [binOp, Op.intDiv, if_neg hb], .int k _⟩
    case rem =>
      split at h
      · cases h
      · rename_i hb; cases h
        exact ⟨_, by simp [binOp, Op.intDiv, if_neg hb], .int k _⟩
    all_goals
      cases h
      refine ⟨_, by simp only [binOp, ne_eq, not_true_eq_false, if_false]; rfl, ?_⟩
      first | exact .int k _ | exact .bool _
  · cases op <;> simp only [ne_eq, hk, not_false_eq_true, if_true] at h
    case shl =>
      split at h
      · cases h
      · rename_i hb; cases h
        exact ⟨_, by simp only [binOp, Op.shift, if_neg hb]; rfl, .int k _⟩
    case shr =>
      split at h
      · cases h
      · rename_i hb; cases h
        exact ⟨_, by simp only [binOp, Op.shift, if_neg hb]; rfl, .int k _⟩
    all_goals cases h

theorem aBin_ok {op : BinOp} {t : TypeId} {x y : Operand} {u v : Value} {p q z : AV} (hu : RV w M u p) (hv : RV w M v q) (h : aBin P op t p q = some z) :
    ∃ r, (do eqGuard op t x y u v; binOp op t u v).run P w = .ok r w ∧ RV w M r z := by
  cases hu <;> cases hv <;> (try (simp only [aBin] at h; cases h; done))
  case int.int k a k' b =>
    have hg : (eqGuard op t x y (.int k a) (.int k' b)).run P w = .ok () w := by cases op <;> rfl
    simp only [Sem.run_bind, hg, Result.andThen_ok]
    exact aBin_int h
  case bool.bool a b =>
    by_cases hd : (P.underlying t matches some .bool) = true
    · have hd' := matches_bool hd
      have hg : (eqGuard op t x y (.bool a) (.bool b)).run P w = .ok () w := by cases op <;> rfl
      simp only [Sem.run_bind, hg, Result.andThen_ok]
      simp only [aBin, hd'] at h
      cases op <;> simp only [if_true] at h <;> cases h
      · exact ⟨.bool (a == b), by simp only [binOp, Sem.run_bind, equal_bool hd', Result.andThen_ok, Sem.run_pure], .bool _⟩
      · exact ⟨.bool (!(a == b)), by simp only [binOp, Sem.run_bind, equal_bool hd', Result.andThen_ok, Sem.run_pure], .bool _⟩
    · simp only [aBin, if_neg hd] at h
      cases h
  case nilf.nilf =>
    by_cases hd : (P.underlying t matches some (.func _ _ _)) = true
    · obtain ⟨ps, rs, vr, hd'⟩ := matches_func hd
      have hg : (eqGuard op t x y .nilFunc .nilFunc).run P w = .ok () w := by cases op <;> rfl
      simp only [Sem.run_bind, hg, Result.andThen_ok]
      simp only [aBin, hd'] at h
      cases op <;> simp only [if_true] at h <;> cases h
      · exact ⟨.bool true, by simp only [binOp, Sem.run_bind, equal_nil_nil hd', Result.andThen_ok, Sem.run_pure], .bool _⟩
      · exact ⟨.bool false, by simp only [binOp, Sem.run_bind, equal_nil_nil hd', Result.andThen_ok, Sem.run_pure]; rfl, .bool _⟩
    · simp only [aBin, if_neg hd] at h
      cases h
  case fn.nilf f fs cs xs ys hl1 hl2 h1 h2 =>
    by_cases hd : (P.underlying t matches some (.func _ _ _)) = true
    · obtain ⟨ps, rs, vr, hd'⟩ := matches_func hd
      have hg : (eqGuard op t x y (.func (.func f) fs cs) .nilFunc).run P w = .ok () w := by cases op <;> rfl
      simp only [Sem.run_bind, hg, Result.andThen_ok]
      simp only [aBin, hd'] at h
      cases op <;> simp only [if_true] at h <;> cases h
      · exact ⟨.bool false, by simp only [binOp, Sem.run_bind, equal_func_nil hd', Result.andThen_ok, Sem.run_pure], .bool _⟩
      · exact ⟨.bool true, by simp only [binOp, Sem.run_bind, equal_func_nil hd', Result.andThen_ok, Sem.run_pure]; rfl, .bool _⟩
    · simp only [aBin, if_neg hd] at h
      cases h
end
end Go.Proofs.Ytngaihdpmoajeaa.Am

namespace Go.Proofs.Ytngaihdpmoajeaa.Am
open Go

theorem add_plain (b o n : Nat) : (⟨b, o, none⟩ : Addr).add n = ⟨b, o + n, none⟩ := by
  unfold Addr.add
  split
  · rename_i h; subst h; rfl
  · rfl

section
variable {w : World} {M : Map} {P : Program} {G : Nat → Option (List AV)}

theorem run_sizeOf' (t : TypeId) (w : World) : (sizeOf t).run P w = match P.info? t with | some i => .ok i.size w | none => .halt (.stuck "no such type") w := by
  unfold sizeOf
  simp only [Sem.run_bind, run_typeInfo']
  cases P.info? t <;> rfl

def aggD : TypeDesc → Bool
  | .struct _ | .array _ _ => true
  | _ => false
theorem run_isAgg' (t : TypeId) (w : World) : (isAgg t).run P w = match P.underlying t with | some d => .ok (aggD d) w | none => .halt (.stuck "no such type") w := by
  unfold isAgg
  simp only [Sem.run_bind, run_underlying']
  cases P.underlying t with
  | none => rfl
  | some d => cases d <;> rfl

theorem run_load_at {a : Addr} {v : Value} (h : w.cell? a = some v) : (load a).run P w = .ok v w := by
  simp only [run_load, h]

theorem run_loadCellsFrom {b o : Nat} (f : Nat → Value) : ∀ (n i : Nat) (acc : Array Value), (∀ j, j < n → w.cell? ⟨b, o + (i + j), none⟩ = some (f (i + j))) →
    (loadCellsFrom ⟨b, o, none⟩ i n acc).run P w = .ok (acc ++ ((List.range' i n).map f).toArray) w := by
  intro n
  induction n with
  | zero => intro i acc _; simp [loadCellsFrom]
  | succ n ih =>
    intro i acc h
    have h0 := h 0 (by omega)
    simp only [Nat.add_zero] at h0
    simp only [loadCellsFrom, Sem.run_bind, add_plain, run_load_at h0, Result.andThen_ok]
    rw [ih (i + 1) _ (fun j hj => by have := h (j + 1) (by omega); rw [show i + 1 + j = i + (j + 1) from by omega]; exact this)]
    simp [List.range'_succ]

theorem run_loadCells {b o n : Nat} (f : Nat → Value) (h : ∀ j, j < n → w.cell? ⟨b, o + j, none⟩ = some (f j)) :
    (loadCells ⟨b, o, none⟩ n).run P w = .ok ((List.range n).map f).toArray w := by
  unfold loadCells
  rw [run_loadCellsFrom f n 0 #[] (by simpa using h)]
  simp [List.range_eq_range']

theorem getD_map_range {f : Nat → Value} {n j : Nat} (h : j < n) : (((List.range n).map f).toArray).getD j undef = f j := by
  simp [Array.getD, h]

/-! ### Addresses of parts -/
def aField (P : Program) (t : TypeId) (x : AV) (k : Nat) : Option AV :=
  match P.underlying t with
  | some (.struct fs) =>
    match fs[k]? with
    | some f =>
      match P.info? f.type with
      | some i =>
        if i.size = 0 then none else
        match x with
        | .row cs off => some (.row cs (off + f.offset))
        | .ref r g off => some (.ref r g (off + f.offset))
        | _ => none
      | none => none
    | none => none
  | _ => none

theorem aField_ok {t : TypeId} {v : Value} {x y : AV} {k : Nat} (hv : RV w M v x) (h : aField P t x k = some y) : ∃ r, (Instr.fieldAt t v k).run P w = .ok r w ∧ RV w M r y := by
  unfold aField at h
  split at h
  · rename_i fs hu
    split at h
    · rename_i f hf
      split at h
      · rename_i i hi
        split at h
        · cases h
        · rename_i hs
          have key : ∀ a : Addr, (Instr.fieldAt t (.pointer (some a)) k).run P w = .ok (.pointer (some (a.add f.offset))) w := by
            intro a
            unfold Instr.fieldAt Instr.sureAddr fieldPlace
            simp only [Sem.run_bind, run_underlying', hu, Result.andThen_ok, hf, Sem.run_pure, run_sizeOf', hi, Sem.run_ite, if_neg hs]
          split at h
          · cases h
            cases hv with
            | row b o off f' cells hb hc hh =>
              refine ⟨_, key _, ?_⟩
              rw [add_plain, Nat.add_assoc]
              exact .row b o _ f' _ hb hc hh
          · cases h
            cases hv with
            | ref r g off b hr =>
              refine ⟨_, key _, ?_⟩
              rw [add_plain]
              exact .ref _ _ _ b hr
            | refS r g off b g' p hr hg => exact ⟨_, key _, .refS _ _ _ b g' _ hr hg⟩
          · cases h
      · cases h
    · cases h
  · cases h

/-! ### What lies at an address -/
def objAt (σ : Heap) (r g : Nat) : Option (List AV) :=
  match σ[r]? with
  | some (.cells g' c) => if g' = g then some c else none
  | _ => none

/-- A variable of type t among cells, from off on. -/
def cut (P : Program) (t : TypeId) (cs : List AV) (off : Nat) : Option AV :=
  match P.underlying t with
  | none => none
  | some d =>
    if aggD d then
      match P.info? t with
      | some i => if off + i.size ≤ cs.length then some (.agg ((cs.drop off).take i.size)) else none
      | none => none
    else cs[off]?

def aLoad (P : Program) (σ : Heap) (t : TypeId) (x : AV) : Option AV :=
  match x with
  | .row cs off => cut P t cs off
  | .ref r g off => (objAt σ r g).bind fun cs => cut P t cs off
  | _ => none

theorem cut_ok {t : TypeId} {cs : List AV} {b o off : Nat} {f : Nat → Value} {y : AV} (hc : ∀ j, j < cs.length → w.cell? ⟨b, o + j, none⟩ = some (f j))
    (hf : ∀ (j : Nat) (x : AV), cs[j]? = some x → RV w M (f j) x) (h : cut P t cs off = some y) : ∃ r, (loadVar t ⟨b, o + off, none⟩).run P w = .ok r w ∧ RV w M r y := by
  unfold cut at h
  split at h
  · cases h
  · rename_i d hu
    split at h
    · rename_i hd
      split at h
      · rename_i i hi
        split at h
        · rename_i hle
          cases h
          have hl : (loadCells ⟨b, o + off, none⟩ i.size).run P w = _ := run_loadCells (fun j => f (off + j)) fun j hj => by
            rw [Nat.add_assoc]; exact hc (off + j) (by omega)
          refine ⟨_, by simp only [loadVar, Sem.run_bind, run_isAgg', hu, hd, Result.andThen_ok, run_sizeOf', hi, if_true, hl]; rfl, .agg _ _ (by simp; omega) fun j x hj => ?_⟩
          have hj' : j < i.size := by
            have := (List.getElem?_eq_some_iff.1 hj).1
            simp at this; omega
          rw [getD_map_range hj']
          refine hf (off + j) x ?_
          rw [List.getElem?_take_of_lt hj', List.getElem?_drop] at hj
          exact hj
        · cases h
      · cases h
    · rename_i hd
      have hlt := (List.getElem?_eq_some_iff.1 h).1
      refine ⟨f off, ?_, hf off y h⟩
      have hd' : aggD d = false := by simpa using hd
      simp only [loadVar, Sem.run_bind, run_isAgg', hu, hd', Result.andThen_ok, Bool.false_eq_true, if_false]
      exact run_load_at (hc off hlt)

theorem Inv.obj {σ : Heap} {r g : Nat} {c : List AV} (hi : Inv G w M σ) (h : objAt σ r g = some c) :
    ∃ b cs e, M r = some (b, g) ∧ w.heap[b]? = some (.cells cs e (0, 0)) ∧ c.length ≤ cs.size ∧ ∀ (j : Nat) (x : AV), c[j]? = some x → RV w M (cs.getD j undef) x := by
  unfold objAt at h
  split at h
  · rename_i g' c' hs
    split at h
    · rename_i hg; subst hg; cases h; exact hi.cells r _ _ hs
    · cases h
  · cases h

theorem cell_of_cells {b o : Nat} {cs : Array Value} {e : TypeId} {fr : Nat × Nat} (h : w.heap[b]? = some (.cells cs e fr)) (ho : o < cs.size) : w.cell? ⟨b, o, none⟩ = some (cs.getD o undef) := by
  simp [World.cell?, h, Array.getD, ho]

theorem aLoad_ok {σ : Heap} {t : TypeId} {v : Value} {x y : AV} (hi : Inv G w M σ) (hv : RV w M v x) (h : aLoad P σ t x = some y) : ∃ r, (Instr.loadAt t v).run P w = .ok r w ∧ RV w M r y := by
  unfold aLoad at h
  split at h
  · cases hv with
    | row b o off f cells hb hc hh =>
      obtain ⟨r, hr, hy⟩ := cut_ok hc hh h
      exact ⟨r, by simpa [Instr.loadAt, Instr.sureAddr] using hr, hy⟩
  · rename_i r g off
    cases ho : objAt σ r g with
    | none => rw [ho] at h; cases h
    | some c =>
      rw [ho] at h
      obtain ⟨b, cs, e, hm, hh, hl, hx⟩ := hi.obj ho
      cases hv with
      | ref r g off b' hr =>
        rw [hm] at hr
        obtain ⟨rfl, _⟩ := Prod.mk.inj (Option.some.inj hr)
        obtain ⟨u, hu, hy⟩ := cut_ok (w := w) (M := M) (P := P) (b := b) (o := 0) (off := off) (f := fun j => cs.getD j undef) (cs := c) (fun j hj => by rw [Nat.zero_add]; exact cell_of_cells hh (by omega)) hx h
        rw [Nat.zero_add] at hu
        exact ⟨u, by simpa [Instr.loadAt, Instr.sureAddr] using hu, hy⟩
      | refS r g off b' g' p hr hg =>
        rw [hm] at hr
        obtain ⟨_, rfl⟩ := Prod.mk.inj (Option.some.inj hr)
        omega
  · cases h

/-! ### An index -/
def aIndex (P : Program) (σ : Heap) (t : TypeId) (x i : AV) : Option AV :=
  match P.underlying t, x, i with
  | some (.slice e), .sl size rows, .int _ n =>
    match P.info? e with
    | some ti => if ti.size = size ∧ 0 ≤ n then (rows[n.toNat]?).map (AV.row · 0) else none
    | none => none
  | some (.slice e), .ms size r g off len _, .int _ n =>
    match P.info? e with
    | some ti => if ti.size = size ∧ 0 ≤ n ∧ n < len ∧ (objAt σ r g).isSome = true then some (.ref r g (off + n.toNat * size)) else none
    | none => none
  | some (.slice e), .fl size len rows, .int _ n =>
    match P.info? e with
    | some ti => if ti.size = size ∧ 0 ≤ n ∧ n < len then some (.row (rows n.toNat) 0) else none
    | none => none
  | some (.array len e), .row cs off, .int _ n =>
    match P.info? e with
    | some ti => if 0 ≤ n ∧ n < len then some (.row cs (off + n.toNat * ti.size)) else none
    | none => none
  | some (.array len e), .ref r g off, .int _ n =>
    match P.info? e with
    | some ti => if 0 ≤ n ∧ n < len then some (.ref r g (off + n.toNat * ti.size)) else none
    | none => none
  | _, _, _ => none

theorem aIndex_ok {σ : Heap} {t : TypeId} {v u : Value} {x i y : AV} (hi : Inv G w M σ) (hv : RV w M v x) (hu : RV w M u i) (h : aIndex P σ t x i = some y) :
    ∃ r, (Instr.indexAt t v u).run P w = .ok r w ∧ RV w M r y := by
  unfold aIndex at h
  split at h
  · rename_i e size rows k n ht
    split at h
    · rename_i ti hti
      split at h
      · rename_i hc
        obtain ⟨rfl, hn⟩ := hc
        cases hr : rows[n.toNat]? with
        | none => rw [hr] at h; cases h
        | some row =>
          rw [hr] at h; cases h
          have hlt := (List.getElem?_eq_some_iff.1 hr).1
          cases hu
          cases hv with
          | sl0 base cap size => simp at hlt
          | sl b o cap size f rows hb hcell hl hh hcap =>
            refine ⟨.pointer (some ⟨b, o + n.toNat * ti.size + 0, none⟩), ?_, .row b (o + n.toNat * ti.size) 0 (f n.toNat) row hb (fun j hj => hcell n.toNat row j hr (by rw [hl n.toNat row hr] at hj; exact hj)) (fun j x hj => hh n.toNat row j x hr hj)⟩
            have hlt' : n < (rows.length : Int) := by omega
            simp [Instr.indexAt, asIntOf, run_underlying', ht, run_sizeOf', hti, hn, hlt', add_plain]
      · cases h
    · cases h
  · rename_i e size r g off len cap k n ht
    split at h
    · rename_i ti hti
      split at h
      · rename_i hc
        obtain ⟨rfl, hn, hlt, ho⟩ := hc
        cases h
        cases hu
        obtain ⟨c, hoc⟩ := Option.isSome_iff_exists.1 ho
        obtain ⟨b0, cs, e0, hm, hh, hl, hx⟩ := hi.obj hoc
        cases hv with
        | ms size r g off len cap b capc c e hr hlen hcc hsz hfit =>
          refine ⟨.pointer (some ⟨b, off + n.toNat * ti.size, none⟩), ?_, .ref r g _ b hr⟩
          simp [Instr.indexAt, asIntOf, run_underlying', ht, run_sizeOf', hti, hn, hlt, add_plain]
        | msS size r g off len cap b g' p capc hr hg =>
          rw [hm] at hr
          obtain ⟨_, rfl⟩ := Prod.mk.inj (Option.some.inj hr)
          omega
      · cases h
    · cases h
  · rename_i e size len rows k n ht
    split at h
    · rename_i ti hti
      split at h
      · rename_i hc
        obtain ⟨rfl, hn, hlen⟩ := hc
        cases h
        cases hu
        cases hv with
        | fl _ _ _ _ hv =>
          have hnl : n.toNat < len := by omega
          have hr : ((List.range len).map rows)[n.toNat]? = some (rows n.toNat) := by simp [hnl]
          generalize (List.range len).map rows = rs at hv hr
          have hlt := (List.getElem?_eq_some_iff.1 hr).1
          cases hv with
          | sl0 base cap size => simp at hlt
          | sl b o cap size f rows' hb hcell hl hh hcap =>
            refine ⟨.pointer (some ⟨b, o + n.toNat * ti.size + 0, none⟩), ?_, .row b (o + n.toNat * ti.size) 0 (f n.toNat) (rows n.toNat) hb (fun j hj => hcell n.toNat _ j hr (by rw [hl n.toNat _ hr] at hj; exact hj)) (fun j x hj => hh n.toNat _ j x hr hj)⟩
            have hlt' : n < (rs.length : Int) := by omega
            simp [Instr.indexAt, asIntOf, run_underlying', ht, run_sizeOf', hti, hn, hlt', add_plain]
      · cases h
    · cases h
  · rename_i len e cs off k n ht
    split at h
    · rename_i ti hti
      split at h
      · rename_i hc
        cases h
        cases hu
        cases hv with
        | row b o off f cells hb hcell hh =>
          refine ⟨.pointer (some ⟨b, o + (off + n.toNat * ti.size), none⟩), ?_, .row b o _ f _ hb hcell hh⟩
          simp [Instr.indexAt, Instr.sureAddr, asIntOf, run_underlying', ht, run_sizeOf', hti, hc.1, hc.2, add_plain, Nat.add_assoc]
      · cases h
    · cases h
  · rename_i len e r g off k n ht
    split at h
    · rename_i ti hti
      split at h
      · rename_i hc
        cases h
        cases hu
        cases hv with
        | ref r g off b hr =>
          refine ⟨.pointer (some ⟨b, off + n.toNat * ti.size, none⟩), ?_, .ref r g _ b hr⟩
          simp [Instr.indexAt, Instr.sureAddr, asIntOf, run_underlying', ht, run_sizeOf', hti, hc.1, hc.2, add_plain]
        | refS r g off b g' p hr hg =>
          refine ⟨.pointer (some (p.add (n.toNat * ti.size))), ?_, .refS r g _ b g' _ hr hg⟩
          simp [Instr.indexAt, Instr.sureAddr, asIntOf, run_underlying', ht, run_sizeOf', hti, hc.1, hc.2]
      · cases h
    · cases h
  · cases h

/-! ### Unary operations, conversions, lengths, the least and the greatest, a part of a value, a component of a tuple -/
def aUn (op : UnOp) (x : AV) : Option AV :=
  match op, x with
  | .neg, .int k n => some (.int k (k.wrap (0 - n)))
  | .xor, .int k n => some (.int k (k.wrap ((BitVec.ofInt k.bits (if k.signed then -1 else k.max) ^^^ BitVec.ofInt k.bits n).toNat)))
  | .not, .bool b => some (.bool !b)
  | _, _ => none
theorem aUn_ok {op : UnOp} {v : Value} {x y : AV} (hv : RV w M v x) (h : aUn op x = some y) : ∃ r, (Op.unary op v).run P w = .ok r w ∧ RV w M r y := by
  unfold aUn at h
  split at h <;> cases h <;> cases hv
  · exact ⟨_, rfl, .int _ _⟩
  · exact ⟨_, rfl, .int _ _⟩
  · exact ⟨_, rfl, .bool _⟩

def aConv (P : Program) (src dst : TypeId) (x : AV) : Option AV :=
  match P.underlying src, P.underlying dst, x with
  | some _, some (.int k), .int _ n => some (.int k (k.wrap n))
  | _, _, _ => none
theorem aConv_ok {src dst : TypeId} {v : Value} {x y : AV} (hv : RV w M v x) (h : aConv P src dst x = some y) : ∃ r, (convert src dst v).run P w = .ok r w ∧ RV w M r y := by
  unfold aConv at h
  split at h
  · rename_i d k k' n hs hd
    cases h; cases hv
    refine ⟨.int k (k.wrap n), ?_, .int _ _⟩
    unfold convert
    simp only [Sem.run_bind, run_underlying', hs, hd, Result.andThen_ok]
    cases d <;> rfl
  · cases h

def aLen (P : Program) (t : TypeId) (x : AV) : Option AV :=
  match P.underlying t, x with
  | some (.slice _), .sl _ rows => some (.int .i64 rows.length)
  | some (.slice _), .fl _ n _ => some (.int .i64 n)
  | some (.slice _), .zs => some (.int .i64 0)
  | some (.slice _), .ms _ _ _ _ len _ => some (.int .i64 len)
  | some (.array n _), _ => some (.int .i64 n)
  | _, _ => none
theorem aLen_ok {ts : Array TypeId} {t ty : TypeId} {v : Value} {x y : AV} (ht : ts[0]? = some t) (hv : RV w M v x) (h : aLen P t x = some y) : ∃ r, (Builtin.len_ ts ty #[v]).run P w = .ok r w ∧ RV w M r y := by
  unfold aLen at h
  split at h
  · rename_i e sz rows hu
    cases h
    cases hv with
    | sl0 base cap size => exact ⟨.int .i64 0, by simp [Builtin.len_, ht, run_underlying', hu, goInt], .int _ _⟩
    | sl b o cap size f rows hb hcell hl hh hcap => exact ⟨.int .i64 rows.length, by simp [Builtin.len_, ht, run_underlying', hu, goInt], .int _ _⟩
  · rename_i e sz n rows hu
    cases h
    cases hv with
    | fl _ _ _ _ hv =>
      have hlen : ((List.range n).map rows).length = n := by simp
      generalize (List.range n).map rows = rs at hv hlen
      cases hv with
      | sl0 base cap size => exact ⟨.int .i64 0, by simp [Builtin.len_, ht, run_underlying', hu, goInt], by subst hlen; exact .int _ _⟩
      | sl b o cap size f rows hb hcell hl hh hcap => exact ⟨.int .i64 rs.length, by simp [Builtin.len_, ht, run_underlying', hu, goInt], by rw [hlen]; exact .int _ _⟩
  · rename_i e hu
    cases h; cases hv
    exact ⟨.int .i64 0, by simp [Builtin.len_, ht, run_underlying', hu, goInt], .int _ _⟩
  · rename_i e s r g off len cap hu
    cases h
    cases hv <;> exact ⟨.int .i64 len, by simp [Builtin.len_, ht, run_underlying', hu, goInt], .int _ _⟩
  · rename_i n e hu
    cases h
    refine ⟨.int .i64 n, ?_, .int _ _⟩
    simp [Builtin.len_, ht, run_underlying', hu, goInt]
  · cases h

def aExtract (x : AV) (k : Nat) : Option AV :=
  match x with
  | .tup vs => vs[k]?
  | _ => none
theorem aExtract_ok {v : Value} {x y : AV} {k : Nat} (hv : RV w M v x) (h : aExtract x k = some y) : ∃ r, (Instr.extract v k).run P w = .ok r w ∧ RV w M r y := by
  unfold aExtract at h
  split at h
  · cases hv with
    | tup vs xs hl hh =>
      have hlt := (List.getElem?_eq_some_iff.1 h).1
      have hlt' : k < vs.size := by omega
      refine ⟨vs.getD k undef, ?_, hh k y h⟩
      simp [Instr.extract, hlt', Array.getD]
  · cases h

/-- A part of a struct's value (a plain one). -/
def aFld (P : Program) (t : TypeId) (x : AV) (k : Nat) : Option AV :=
  match P.underlying t with
  | some (.struct fs) =>
    match fs[k]? with
    | some f =>
      match P.underlying f.type with
      | some d =>
        match aggD d with
        | true => none
        | false =>
          match x with
          | .agg xs => xs[f.offset]?
          | _ => none
      | none => none
    | none => none
  | _ => none
theorem aFld_ok {t : TypeId} {v : Value} {x y : AV} {k : Nat} (hv : RV w M v x) (h : aFld P t x k = some y) : ∃ r, (Instr.field t v k).run P w = .ok r w ∧ RV w M r y := by
  unfold aFld at h
  split at h
  · rename_i fs hu
    split at h
    · rename_i f hf
      split at h
      · rename_i d hd
        split at h
        · cases h
        · rename_i ha
          split at h
          · cases hv with
            | agg vs xs hl hh =>
              have hlt := (List.getElem?_eq_some_iff.1 h).1
              have hlt' : f.offset < vs.size := by omega
              refine ⟨vs.getD f.offset undef, ?_, hh _ y h⟩
              unfold Instr.field part asAgg
              simp only [Sem.run_bind, run_underlying', hu, Result.andThen_ok, hf, Sem.run_pure, run_isAgg', hd, ha, Bool.false_eq_true, if_false]
              rw [Array.getElem?_eq_getElem hlt']
              simp [hlt', Array.getD]
          · cases h
      · cases h
    · cases h
  · cases h

def aNil (x : AV) : Option AV :=
  match x with
  | .row _ _ | .ref _ _ _ | .fn _ _ _ => some x
  | _ => none
end
end Go.Proofs.Ytngaihdpmoajeaa.Am

namespace Go.Proofs.Ytngaihdpmoajeaa.Am
open Go

/-- The map with one more entry, or another one. -/
def Map.put (M : Map) (r : Nat) (p : Nat × Nat) : Map := ⟨fun r' => if r' = r then some p else M r', M.far⟩
theorem Map.put_same (M : Map) (r : Nat) (p : Nat × Nat) : M.put r p r = some p := by simp [Map.put]
theorem Map.put_other (M : Map) {r r' : Nat} (p : Nat × Nat) (h : r' ≠ r) : M.put r p r' = M r' := by simp [Map.put, h]

/-- The world with another row of cells in a block. -/
def upd (w : World) (b : Nat) (cs : Array Value) (e : TypeId) : World := { w with heap := w.heap.setIfInBounds b (.cells cs e (0, 0)) }

section
variable {w : World} {M : Map} {P : Program} {G : Nat → Option (List AV)} {σ : Heap}

theorem alloc_old {o : Obj} {b : Nat} (h : b < w.heap.size) : (w.alloc o).heap[b]? = w.heap[b]? := by
  simp only [World.alloc]
  rw [Array.getElem?_push, if_neg (by omega)]
theorem alloc_new (w : World) (o : Obj) : (w.alloc o).heap[w.heap.size]? = some o := by
  simp only [World.alloc]
  rw [Array.getElem?_push, if_pos rfl]
theorem alloc_size (w : World) (o : Obj) : (w.alloc o).heap.size = w.heap.size + 1 := by
  simp only [World.alloc, Array.size_push]
theorem upd_other {b b' : Nat} {cs : Array Value} {e : TypeId} (h : b' ≠ b) : (upd w b cs e).heap[b']? = w.heap[b']? := by
  simp only [upd]
  rw [Array.getElem?_setIfInBounds, if_neg (by omega)]
theorem upd_same {b : Nat} {cs : Array Value} {e : TypeId} (h : b < w.heap.size) : (upd w b cs e).heap[b]? = some (.cells cs e (0, 0)) := by
  simp only [upd]
  rw [Array.getElem?_setIfInBounds, if_pos rfl, if_pos h]
theorem upd_size {b : Nat} {cs : Array Value} {e : TypeId} : (upd w b cs e).heap.size = w.heap.size := by simp [upd]
theorem lt_of_heap {b : Nat} {o : Obj} (h : w.heap[b]? = some o) : b < w.heap.size := (Array.getElem?_eq_some_iff.1 h).1

theorem RLoop.mono {w' : World} {M' : Map} {L : Loop} {A : ALoop} (h : Ext w M w' M') (hL : RLoop w M L A) : RLoop w' M' L A :=
  ⟨hL.state, hL.pending, hL.size, fun j x hj => (hL.tmps j x hj).mono h, hL.params, hL.assign, hL.body, h.fix _ _ hL.defers.1 hL.defers.2⟩

theorem RAct.mono {w' : World} {M' : Map} {ac : Act} {a : AAct} (h : Ext w M w' M') (ha : RAct w M ac a) : RAct w' M' ac a := by
  obtain ⟨bs, h1, h2, h3⟩ := ha.marks
  exact ⟨ha.tmps.mono h, bs, h1, h2, fun i r b hi hb => let ⟨p, q⟩ := h3 i r b hi hb; h.fix r b p q⟩

/-! ### A new block: nobody's -/
theorem Ext.alloc (w : World) (M : Map) (o : Obj) : Ext w M (w.alloc o) M :=
  ⟨by rw [alloc_size]; omega, rfl, rfl, rfl, fun b hb => ⟨⟨by rw [alloc_size]; have := hb.1; omega, hb.2⟩, alloc_old hb.1⟩,
    fun r b g h => ⟨b, g, h, .inr ⟨rfl, rfl⟩⟩, fun r b g c e fr _ _ h => ⟨c, by rw [alloc_old (lt_of_heap h)]; exact h, rfl⟩,
    fun r b h k => ⟨h, by rw [alloc_size]; have := k.1; omega, fun c e fr => by rw [alloc_old k.1]; exact k.2 c e fr⟩, rfl, fun b _ h => alloc_old h⟩

theorem Ext.drew (w : World) (M : Map) : Ext w M { w with drawn := w.drawn + 1 } M :=
  ⟨Nat.le_refl _, rfl, rfl, rfl, fun _ h => ⟨h, rfl⟩, fun _ b g h => ⟨b, g, h, .inr ⟨rfl, rfl⟩⟩, fun _ _ _ c _ _ _ _ h => ⟨c, h, rfl⟩, fun _ _ h k => ⟨h, k⟩, rfl, fun _ _ _ => rfl⟩

/-- A step that leaves the objects' blocks alone. -/
theorem Inv.keep {w' : World} (hi : Inv G w M σ) (h : Ext w M w' M) (hh : ∀ r b g, M r = some (b, g) → w'.heap[b]? = w.heap[b]?) : Inv G w' M σ :=
  ⟨fun g cs hg => (hi.glob g cs hg).mono h, hi.inj, hi.dom, fun r b g hr => Nat.lt_of_lt_of_le (hi.lt r b g hr) h.size,
    fun r g c hr => by
      obtain ⟨b, cs, e, h1, h2, h3, h4⟩ := hi.cells r g c hr
      exact ⟨b, cs, e, h1, (hh r b g h1).trans h2, h3, fun j x hj => (h4 j x hj).mono h⟩,
    hi.resv,
    fun r hr => by
      obtain ⟨b, h1, h2⟩ := hi.dfr r hr
      exact ⟨b, h1, (hh r b 0 h1).trans h2⟩,
    fun r A hr => by
      obtain ⟨b, L, h1, h2, h3⟩ := hi.loop r A hr
      exact ⟨b, L, h1, (hh r b 0 h1).trans h2, h3.mono h⟩,
    hi.far.keep h fun r b g hr => .inl ⟨r, g, hr⟩⟩

theorem Inv.alloc (hi : Inv G w M σ) (o : Obj) : Inv G (w.alloc o) M σ := hi.keep (.alloc w M o) fun r b g hr => alloc_old (hi.lt r b g hr)
theorem Inv.drew (hi : Inv G w M σ) : Inv G { w with drawn := w.drawn + 1 } M σ := hi.keep (.drew w M) fun _ _ _ _ => rfl

theorem Inv.fresh (hi : Inv G w M σ) (r g : Nat) : M r ≠ some (w.heap.size, g) := fun h => by have := hi.lt _ _ _ h; omega
theorem Imm.alloc_new (hi : Inv G w M σ) (o : Obj) : Imm (w.alloc o) M w.heap.size := ⟨by rw [alloc_size]; omega, hi.fresh, fun h => by have := (hi.far _ h).1; omega⟩

/-- A new object of the call's own, in a new block. -/
theorem Ext.push (hi : Inv G w M σ) (o : Obj) : Ext w M (w.alloc o) (M.put σ.length (w.heap.size, 0)) := by
  have hne : ∀ r p, M r = some p → r ≠ σ.length := fun r p h => by have := hi.dom r p h; omega
  refine ⟨by rw [alloc_size]; omega, rfl, rfl, rfl, fun b hb => ⟨⟨by rw [alloc_size]; have := hb.1; omega, fun r g h => ?_, hb.2.2⟩, alloc_old hb.1⟩, fun r b g h => ⟨b, g, ?_, .inr ⟨rfl, rfl⟩⟩,
    fun r b g c e fr _ _ h => ⟨c, by rw [alloc_old (lt_of_heap h)]; exact h, rfl⟩,
    fun r b h k => ⟨?_, by rw [alloc_size]; have := k.1; omega, fun c e fr => by rw [alloc_old k.1]; exact k.2 c e fr⟩, rfl, fun b _ h => alloc_old h⟩
  · by_cases hr : r = σ.length
    · subst hr
      rw [Map.put_same] at h
      have := (Prod.mk.inj (Option.some.inj h)).1
      have := hb.1
      omega
    · rw [Map.put_other _ _ hr] at h
      exact hb.2.1 r g h
  · rw [Map.put_other _ _ (hne r _ h)]; exact h
  · rw [Map.put_other _ _ (hne r _ h)]; exact h

/-- What an object's record asks of the world. -/
def ObjOk (w : World) (M : Map) (r : Nat) : AObj → Prop
  | .cells g c => ∃ b cs e, M r = some (b, g) ∧ w.heap[b]? = some (.cells cs e (0, 0)) ∧ c.length ≤ cs.size ∧ ∀ (j : Nat) (x : AV), c[j]? = some x → RV w M (cs.getD j undef) x
  | .resv => M r = none
  | .dfr => ∃ b, M r = some (b, 0) ∧ w.heap[b]? = some (.deferred (some []))
  | .loop A => ∃ b L, M r = some (b, 0) ∧ w.heap[b]? = some (.loop L) ∧ RLoop w M L A
  | .gone => True

theorem Inv.of {w : World} {M : Map} {σ : Heap} (h1 : ∀ g cs, G g = some cs → RV w M (.pointer (some ⟨g, 0, none⟩)) (.row cs 0))
    (h2 : ∀ r r' b g g', M r = some (b, g) → M r' = some (b, g') → r = r') (h3 : ∀ r p, M r = some p → r < σ.length) (h4 : ∀ r b g, M r = some (b, g) → b < w.heap.size)
    (h6 : FarOk w M) (h5 : ∀ r o, σ[r]? = some o → ObjOk w M r o) : Inv G w M σ :=
  ⟨h1, h2, h3, h4, fun r _ _ h => h5 r _ h, fun r h => h5 r _ h, fun r h => h5 r _ h, fun r _ h => h5 r _ h, h6⟩

theorem Inv.objOk (hi : Inv G w M σ) {r : Nat} {o : AObj} (h : σ[r]? = some o) : ObjOk w M r o := by
  cases o with
  | cells g c => exact hi.cells r g c h
  | resv => exact hi.resv r h
  | dfr => exact hi.dfr r h
  | loop A => exact hi.loop r A h
  | gone => trivial

/-- An object's record in a later world that leaves its own block alone. -/
theorem ObjOk.keep {w' : World} {M' : Map} {r : Nat} {o : AObj} (h : Ext w M w' M') (hm : M' r = M r) (hh : ∀ b g, M r = some (b, g) → w'.heap[b]? = w.heap[b]?) (ho : ObjOk w M r o) : ObjOk w' M' r o := by
  cases o with
  | cells g c =>
    obtain ⟨b, cs, e, h1, h2, h3, h4⟩ := ho
    exact ⟨b, cs, e, hm.trans h1, (hh b g h1).trans h2, h3, fun j x hj => (h4 j x hj).mono h⟩
  | resv => exact hm.trans ho
  | dfr => obtain ⟨b, h1, h2⟩ := ho; exact ⟨b, hm.trans h1, (hh b 0 h1).trans h2⟩
  | loop A => obtain ⟨b, L, h1, h2, h3⟩ := ho; exact ⟨b, L, hm.trans h1, (hh b 0 h1).trans h2, h3.mono h⟩
  | gone => trivial

theorem Inv.push (hi : Inv G w M σ) {o : Obj} {ao : AObj} (ho : ObjOk (w.alloc o) (M.put σ.length (w.heap.size, 0)) σ.length ao) :
    Inv G (w.alloc o) (M.put σ.length (w.heap.size, 0)) (σ ++ [ao]) := by
  have he := Ext.push hi o
  refine .of (fun g cs hg => (hi.glob g cs hg).mono he) (fun r r' b g g' h h' => ?_) (fun r p h => ?_) (fun r b g h => ?_) (hi.far.keep he fun r b g h => ?_) (fun r o' h => ?_)
  · by_cases hr : r = σ.length <;> by_cases hr' : r' = σ.length
    · rw [hr, hr']
    · subst hr
      rw [Map.put_same] at h
      rw [Map.put_other _ _ hr'] at h'
      have := hi.lt _ _ _ h'
      have := (Prod.mk.inj (Option.some.inj h)).1
      omega
    · subst hr'
      rw [Map.put_same] at h'
      rw [Map.put_other _ _ hr] at h
      have := hi.lt _ _ _ h
      have := (Prod.mk.inj (Option.some.inj h')).1
      omega
    · rw [Map.put_other _ _ hr] at h
      rw [Map.put_other _ _ hr'] at h'
      exact hi.inj r r' b g g' h h'
  · rw [List.length_append, List.length_singleton]
    by_cases hr : r = σ.length
    · omega
    · rw [Map.put_other _ _ hr] at h
      have := hi.dom r p h
      omega
  · rw [alloc_size]
    by_cases hr : r = σ.length
    · subst hr
      rw [Map.put_same] at h
      have := (Prod.mk.inj (Option.some.inj h)).1
      omega
    · rw [Map.put_other _ _ hr] at h
      have := hi.lt r b g h
      omega
  · by_cases hr : r = σ.length
    · subst hr
      rw [Map.put_same] at h
      have := (Prod.mk.inj (Option.some.inj h)).1
      exact .inr (by omega)
    · rw [Map.put_other _ _ hr] at h
      exact .inl ⟨r, g, h⟩
  · by_cases hr : r = σ.length
    · subst hr
      simp at h
      subst h
      exact ho
    · have hlt : r < σ.length := by
        have := (List.getElem?_eq_some_iff.1 h).1
        simp at this
        omega
      rw [List.getElem?_append_left hlt] at h
      exact (hi.objOk h).keep he (Map.put_other _ _ hr) fun b g hm => alloc_old (hi.lt r b g hm)

/-! ### An object written, or written and moved on to its next generation -/
theorem Ext.upd {r b g g' : Nat} {cs cs' : Array Value} {e : TypeId} (hm : M r = some (b, g)) (hh : w.heap[b]? = some (.cells cs e (0, 0))) (hs : cs'.size = cs.size) (hg : g ≤ g') (hinj : ∀ r', r' ≠ r → ∀ g0, M r' ≠ some (b, g0)) (hfar : ¬ M.far b) :
    Ext w M (upd w b cs' e) (M.put r (b, g')) := by
  have hb := lt_of_heap hh
  refine ⟨by rw [upd_size]; omega, rfl, rfl, rfl, fun b0 h0 => ?_, fun r' b0 g0 h0 => ?_, fun r' b0 g0 c e0 fr h0 h1 hc => ?_, fun r' b0 h0 hn => ?_, rfl, fun b0 h0 _ => upd_other fun h => hfar (by rw [← h]; exact h0)⟩
  · have hne : b0 ≠ b := fun h => by subst h; exact h0.2.1 r g hm
    refine ⟨⟨by rw [upd_size]; exact h0.1, fun r' g0 h1 => ?_, h0.2.2⟩, upd_other hne⟩
    by_cases hr : r' = r
    · subst hr
      rw [Map.put_same] at h1
      exact hne (Prod.mk.inj (Option.some.inj h1)).1.symm
    · rw [Map.put_other _ _ hr] at h1
      exact h0.2.1 r' g0 h1
  · by_cases hr : r' = r
    · subst hr
      rw [hm] at h0
      obtain ⟨rfl, rfl⟩ := Prod.mk.inj (Option.some.inj h0)
      refine ⟨b, g', Map.put_same _ _ _, ?_⟩
      rcases Nat.lt_or_ge g g' with hlt | hge
      · exact .inl hlt
      · exact .inr ⟨rfl, by omega⟩
    · exact ⟨b0, g0, by rw [Map.put_other _ _ hr]; exact h0, .inr ⟨rfl, rfl⟩⟩
  · by_cases hb0 : b0 = b
    · subst hb0
      rw [hh] at hc
      cases hc
      exact ⟨cs', upd_same hb, hs⟩
    · exact ⟨c, by rw [upd_other hb0]; exact hc, rfl⟩
  · have hr : r' ≠ r := fun h => by
      subst h
      rw [hm] at h0
      obtain ⟨rfl, rfl⟩ := Prod.mk.inj (Option.some.inj h0)
      exact hn.2 _ _ _ hh
    have hne : b0 ≠ b := fun h => by subst h; exact hinj r' hr 0 h0
    exact ⟨by rw [Map.put_other _ _ hr]; exact h0, by rw [upd_size]; exact hn.1, fun c e0 fr => by rw [upd_other hne]; exact hn.2 c e0 fr⟩

theorem Inv.notFar (hi : Inv G w M σ) {r b g : Nat} (hm : M r = some (b, g)) : ¬ M.far b := fun h => (hi.far b h).2 r g hm
theorem Inv.others (hi : Inv G w M σ) {r b g : Nat} (hm : M r = some (b, g)) : ∀ r', r' ≠ r → ∀ g0, M r' ≠ some (b, g0) := fun r' hr g0 h => hr (hi.inj r' r b g0 g h hm)

theorem Inv.upd {r b g g' : Nat} {cs cs' : Array Value} {e : TypeId} {c' : List AV} (hi : Inv G w M σ) (hm : M r = some (b, g)) (hh : w.heap[b]? = some (.cells cs e (0, 0))) (hs : cs'.size = cs.size) (hg : g ≤ g')
    (hl : c'.length ≤ cs'.size) (hc : ∀ (j : Nat) (x : AV), c'[j]? = some x → RV (upd w b cs' e) (M.put r (b, g')) (cs'.getD j undef) x) :
    Inv G (Am.upd w b cs' e) (M.put r (b, g')) (σ.set r (.cells g' c')) := by
  have hb := lt_of_heap hh
  have ho := hi.others hm
  have he := Ext.upd (cs' := cs') (g' := g') hm hh hs hg ho (hi.notFar hm)
  refine .of (fun g cs hg => (hi.glob g cs hg).mono he) (fun r1 r2 b0 g1 g2 h1 h2 => ?_) (fun r1 p h => ?_) (fun r1 b0 g1 h => ?_) (hi.far.keep he fun r1 b0 g1 h => ?_) (fun r1 o h => ?_)
  · by_cases e1 : r1 = r <;> by_cases e2 : r2 = r
    · rw [e1, e2]
    · subst e1
      rw [Map.put_same] at h1
      rw [Map.put_other _ _ e2] at h2
      obtain ⟨rfl, _⟩ := Prod.mk.inj (Option.some.inj h1)
      exact absurd h2 (ho r2 e2 g2)
    · subst e2
      rw [Map.put_same] at h2
      rw [Map.put_other _ _ e1] at h1
      obtain ⟨rfl, _⟩ := Prod.mk.inj (Option.some.inj h2)
      exact absurd h1 (ho r1 e1 g1)
    · rw [Map.put_other _ _ e1] at h1
      rw [Map.put_other _ _ e2] at h2
      exact hi.inj r1 r2 b0 g1 g2 h1 h2
  · rw [List.length_set]
    by_cases e1 : r1 = r
    · rw [e1]; exact hi.dom r _ hm
    · rw [Map.put_other _ _ e1] at h; exact hi.dom r1 p h
  · rw [upd_size]
    by_cases e1 : r1 = r
    · subst e1
      rw [Map.put_same] at h
      have := (Prod.mk.inj (Option.some.inj h)).1
      omega
    · rw [Map.put_other _ _ e1] at h; exact hi.lt r1 b0 g1 h
  · by_cases e1 : r1 = r
    · subst e1
      rw [Map.put_same] at h
      obtain ⟨rfl, _⟩ := Prod.mk.inj (Option.some.inj h)
      exact .inl ⟨r1, g, hm⟩
    · rw [Map.put_other _ _ e1] at h; exact .inl ⟨r1, g1, h⟩
  · by_cases e1 : r1 = r
    · subst e1
      rw [List.getElem?_set_self (hi.dom _ _ hm)] at h
      cases h
      exact ⟨b, cs', e, Map.put_same _ _ _, upd_same hb, hl, hc⟩
    · rw [List.getElem?_set_ne (fun h => e1 h.symm)] at h
      exact (hi.objOk h).keep he (Map.put_other _ _ e1) fun b0 g0 hm0 => upd_other fun h0 => by subst h0; exact ho r1 e1 g0 hm0

/-- An object moved to a new block. -/
theorem Ext.move {r b g g' : Nat} {o : Obj} (hm : M r = some (b, g)) (hg : g < g') (hc : ¬ NoCells w b) : Ext w M (w.alloc o) (M.put r (w.heap.size, g')) := by
  refine ⟨by rw [alloc_size]; omega, rfl, rfl, rfl, fun b0 h0 => ⟨⟨by rw [alloc_size]; have := h0.1; omega, fun r' g0 h1 => ?_, h0.2.2⟩, alloc_old h0.1⟩, fun r' b0 g0 h0 => ?_, fun r' b0 g0 c e0 fr h0 h1 hc => ?_, fun r' b0 h0 hn => ?_, rfl, fun b _ h => alloc_old h⟩
  · by_cases hr : r' = r
    · subst hr
      rw [Map.put_same] at h1
      have := (Prod.mk.inj (Option.some.inj h1)).1
      have := h0.1
      omega
    · rw [Map.put_other _ _ hr] at h1
      exact h0.2.1 r' g0 h1
  · by_cases hr : r' = r
    · subst hr
      rw [hm] at h0
      obtain ⟨rfl, rfl⟩ := Prod.mk.inj (Option.some.inj h0)
      exact ⟨_, g', Map.put_same _ _ _, .inl hg⟩
    · exact ⟨b0, g0, by rw [Map.put_other _ _ hr]; exact h0, .inr ⟨rfl, rfl⟩⟩
  · exact ⟨c, by rw [alloc_old (lt_of_heap hc)]; exact hc, rfl⟩
  · have hr : r' ≠ r := fun h => by
      subst h
      rw [hm] at h0
      obtain ⟨rfl, rfl⟩ := Prod.mk.inj (Option.some.inj h0)
      exact hc hn
    exact ⟨by rw [Map.put_other _ _ hr]; exact h0, by rw [alloc_size]; have := hn.1; omega, fun c e0 fr => by rw [alloc_old hn.1]; exact hn.2 c e0 fr⟩

theorem Inv.move {r b g g' : Nat} {cs' : Array Value} {e : TypeId} {c' : List AV} (hi : Inv G w M σ) (hm : M r = some (b, g)) (hg : g < g') (hn : ¬ NoCells w b)
    (hl : c'.length ≤ cs'.size) (hc : ∀ (j : Nat) (x : AV), c'[j]? = some x → RV w M (cs'.getD j undef) x) :
    Inv G (w.alloc (.cells cs' e)) (M.put r (w.heap.size, g')) (σ.set r (.cells g' c')) := by
  have he := Ext.move (o := .cells cs' e) hm hg hn
  refine .of (fun g cs hg => (hi.glob g cs hg).mono he) (fun r1 r2 b0 g1 g2 h1 h2 => ?_) (fun r1 p h => ?_) (fun r1 b0 g1 h => ?_) (hi.far.keep he fun r1 b0 g1 h => ?_) (fun r1 o h => ?_)
  · by_cases e1 : r1 = r <;> by_cases e2 : r2 = r
    · rw [e1, e2]
    · subst e1
      rw [Map.put_same] at h1
      rw [Map.put_other _ _ e2] at h2
      have := hi.lt _ _ _ h2
      have := (Prod.mk.inj (Option.some.inj h1)).1
      omega
    · subst e2
      rw [Map.put_same] at h2
      rw [Map.put_other _ _ e1] at h1
      have := hi.lt _ _ _ h1
      have := (Prod.mk.inj (Option.some.inj h2)).1
      omega
    · rw [Map.put_other _ _ e1] at h1
      rw [Map.put_other _ _ e2] at h2
      exact hi.inj r1 r2 b0 g1 g2 h1 h2
  · rw [List.length_set]
    by_cases e1 : r1 = r
    · rw [e1]; exact hi.dom r _ hm
    · rw [Map.put_other _ _ e1] at h; exact hi.dom r1 p h
  · rw [alloc_size]
    by_cases e1 : r1 = r
    · subst e1
      rw [Map.put_same] at h
      have := (Prod.mk.inj (Option.some.inj h)).1
      omega
    · rw [Map.put_other _ _ e1] at h
      have := hi.lt r1 b0 g1 h
      omega
  · by_cases e1 : r1 = r
    · subst e1
      rw [Map.put_same] at h
      have := (Prod.mk.inj (Option.some.inj h)).1
      exact .inr (by omega)
    · rw [Map.put_other _ _ e1] at h; exact .inl ⟨r1, g1, h⟩
  · by_cases e1 : r1 = r
    · subst e1
      rw [List.getElem?_set_self (hi.dom _ _ hm)] at h
      cases h
      exact ⟨w.heap.size, cs', e, Map.put_same _ _ _, alloc_new w _, hl, fun j x hj => (hc j x hj).mono he⟩
    · rw [List.getElem?_set_ne (fun h => e1 h.symm)] at h
      exact (hi.objOk h).keep he (Map.put_other _ _ e1) fun b0 g0 hm0 => alloc_old (hi.lt r1 b0 g0 hm0)
end
end Go.Proofs.Ytngaihdpmoajeaa.Am

namespace Go.Proofs.Ytngaihdpmoajeaa.Am
open Go

/-! ### Lists of cells, written -/
def setL (cs : List AV) (off : Nat) (vs : List AV) : List AV := cs.take off ++ (vs ++ cs.drop (off + vs.length))
theorem setL_length {cs vs : List AV} {off : Nat} (h : off + vs.length ≤ cs.length) : (setL cs off vs).length = cs.length := by
  simp [setL]; omega
theorem setL_get {cs vs : List AV} {off j : Nat} (h : off + vs.length ≤ cs.length) :
    (setL cs off vs)[j]? = if j < off then cs[j]? else if j < off + vs.length then vs[j - off]? else cs[j]? := by
  unfold setL
  have ht : (cs.take off).length = off := by simp; omega
  by_cases h1 : j < off
  · rw [if_pos h1, List.getElem?_append_left (by omega), List.getElem?_take_of_lt h1]
  · rw [if_neg h1, List.getElem?_append_right (by omega), ht]
    by_cases h2 : j < off + vs.length
    · rw [if_pos h2, List.getElem?_append_left (by omega)]
    · rw [if_neg h2, List.getElem?_append_right (by omega), List.getElem?_drop]
      congr 1
      omega

/-- Cells of a row, written one after the other. -/
def wr (cs : Array Value) (o : Nat) : List Value → Array Value
  | [] => cs
  | v :: r => wr (cs.setIfInBounds o v) (o + 1) r
theorem wr_size : ∀ (vs : List Value) (cs : Array Value) (o : Nat), (wr cs o vs).size = cs.size
  | [], _, _ => rfl
  | v :: r, cs, o => by rw [wr, wr_size r]; simp
theorem getD_set {cs : Array Value} {o j : Nat} {v : Value} (ho : o < cs.size) : (cs.setIfInBounds o v).getD j undef = if j = o then v else cs.getD j undef := by
  by_cases h : j = o
  · subst h; simp [Array.getD, ho]
  · rw [if_neg h]
    simp only [Array.getD_eq_getD_getElem?, Array.getElem?_setIfInBounds]
    rw [if_neg (fun e => h e.symm)]
theorem wr_get : ∀ (vs : List Value) (cs : Array Value) (o j : Nat), o + vs.length ≤ cs.size →
    (wr cs o vs).getD j undef = if j < o then cs.getD j undef else if j < o + vs.length then vs.toArray.getD (j - o) undef else cs.getD j undef
  | [], cs, o, j, _ => by
    simp only [wr, List.length_nil, Nat.add_zero]
    split
    · rfl
    · rfl
  | v :: r, cs, o, j, h => by
    simp only [List.length_cons] at h
    rw [wr, wr_get r (cs.setIfInBounds o v) (o + 1) j (by simp; omega), getD_set (by omega)]
    by_cases h1 : j < o
    · rw [if_pos (by omega), if_neg (by omega), if_pos h1]
    · by_cases h2 : j = o
      · subst h2
        rw [if_pos (by omega), if_pos rfl, if_neg (by omega), if_pos (by simp)]
        simp
      · rw [if_neg (by omega), if_neg h1]
        by_cases h3 : j < o + 1 + r.length
        · rw [if_pos h3, if_pos (by simp; omega), show j - o = (j - (o + 1)) + 1 from by omega]
          simp [Array.getD_eq_getD_getElem?]
        · rw [if_neg h3, if_neg h2, if_neg (by simp; omega)]

section
variable {w : World} {M : Map} {P : Program} {G : Nat → Option (List AV)} {σ : Heap}

theorem upd_self {b : Nat} {cs : Array Value} {e : TypeId} (h : w.heap[b]? = some (.cells cs e (0, 0))) : upd w b cs e = w := by
  obtain ⟨hb, hv⟩ := Array.getElem?_eq_some_iff.1 h
  unfold upd
  congr 1
  apply Array.ext (by simp)
  intro i h1 h2
  rw [Array.getElem_setIfInBounds]
  split
  · rename_i he; subst he; exact hv.symm
  · rfl
theorem upd_upd {b : Nat} {cs cs' : Array Value} {e : TypeId} : upd (upd w b cs e) b cs' e = upd w b cs' e := by
  unfold upd
  simp
theorem setCell_upd {b o : Nat} {cs : Array Value} {e : TypeId} {v : Value} (h : w.heap[b]? = some (.cells cs e (0, 0))) : w.setCell ⟨b, o, none⟩ v = upd w b (cs.setIfInBounds o v) e := by
  obtain ⟨hb, hv⟩ := Array.getElem?_eq_some_iff.1 h
  unfold World.setCell upd
  congr 1
  apply Array.ext (by simp)
  intro i h1 h2
  rw [Array.getElem_modify, Array.getElem_setIfInBounds]
  · by_cases he : b = i
    · subst he; simp [hv]
    · simp [he]
  · simpa using h2

theorem run_storeCells {b o : Nat} {e : TypeId} : ∀ (vs : List Value) (i : Nat) (cs : Array Value) (w : World), w.heap[b]? = some (.cells cs e (0, 0)) → o + i + vs.length ≤ cs.size → (∀ u ∈ vs, u.oneCell' = true) →
    (storeCells ⟨b, o, none⟩ vs i).run P w = .ok () (upd w b (wr cs (o + i) vs) e)
  | [], i, cs, w, hh, _, _ => by simp [storeCells, wr, upd_self hh]
  | v :: r, i, cs, w, hh, hl, h1 => by
    simp only [List.length_cons] at hl
    have hc : w.cell? ⟨b, o + i, none⟩ = some (cs.getD (o + i) undef) := cell_of_cells hh (by omega)
    have hf : w.frozen? ⟨b, o + i, none⟩ = false := by simp [World.frozen?, hh]
    simp only [storeCells, Sem.run_bind, add_plain, run_store P w _ v _ (h1 v (by simp)), hc, hf, Bool.false_eq_true, if_false, Result.andThen_ok]
    rw [setCell_upd hh, run_storeCells r (i + 1) (cs.setIfInBounds (o + i) v) _ (upd_same (lt_of_heap hh)) (by simp; omega) (fun u hu => h1 u (by simp [hu])), upd_upd]
    rfl

/-! ### New variables -/
def aNew (σ : Heap) (cs : List AV) : Option (AV × Heap) := if cs.all AV.one then some (.ref σ.length 0 0, σ ++ [.cells 0 cs]) else none

theorem aNew_ok {cs : Array Value} {e : TypeId} {xs : List AV} {y : AV} {σ' : Heap} (hi : Inv G w M σ) (hx : RVs w M cs xs) (h : aNew σ xs = some (y, σ')) :
    ∃ v w' M', (newRow e cs).run P w = .ok v w' ∧ RV w' M' (.pointer (some v)) y ∧ Ext w M w' M' ∧ Inv G w' M' σ' := by
  unfold aNew at h
  split at h
  · cases h
    have he := Ext.push hi (.cells cs e)
    refine ⟨⟨w.heap.size, 0, none⟩, w.alloc (.cells cs e), M.put σ.length (w.heap.size, 0), rfl, .ref _ _ _ _ (Map.put_same _ _ _), he, ?_⟩
    refine hi.push ⟨w.heap.size, cs, e, Map.put_same _ _ _, alloc_new w _, by have := hx.1; omega, fun j x hj => (hx.2 j x hj).mono he⟩
  · cases h

def aZero (P : Program) (t : TypeId) : Option AV := ((P.info? t).bind (·.zero)).bind AV.ofValue
theorem aZero_ok {t : TypeId} {x : AV} (h : aZero P t = some x) (w : World) (M : Map) : ∃ z, (zeroValue t).run P w = .ok z w ∧ RV w M z x := by
  unfold aZero at h
  cases hi : P.info? t with
  | none => simp [hi] at h
  | some i =>
    cases hz : i.zero with
    | none => simp [hi, hz] at h
    | some z =>
      simp only [hi, hz, Option.bind_some] at h
      refine ⟨z, ?_, ofValue_ok h⟩
      unfold zeroValue
      simp [run_typeInfo', hi, hz]

def aBox (σ : Heap) (x : AV) : Option (AV × Heap) := aNew σ x.cells
theorem aBox_ok {t : TypeId} {v : Value} {x y : AV} {σ' : Heap} (hi : Inv G w M σ) (hv : RV w M v x) (h : aBox σ x = some (y, σ')) :
    ∃ v' w' M', (Instr.box t v).run P w = .ok v' w' ∧ RV w' M' v' y ∧ Ext w M w' M' ∧ Inv G w' M' σ' := by
  have hall : x.cells.all AV.one = true := by
    unfold aBox aNew at h
    split at h
    · assumption
    · cases h
  obtain ⟨a, w', M', h1, h2, h3, h4⟩ := aNew_ok (P := P) (e := t) hi (hv.cells hall).1 h
  exact ⟨.pointer (some a), w', M', by simp [Instr.box, newVar, h1], h2, h3, h4⟩

def aAlloc (P : Program) (σ : Heap) (t : TypeId) : Option (AV × Heap) := (aZero P t).bind (aBox σ)
theorem aAlloc_ok {t : TypeId} {y : AV} {σ' : Heap} (hi : Inv G w M σ) (h : aAlloc P σ t = some (y, σ')) :
    ∃ v' w' M', (Instr.alloc t true (.tuple #[])).run P w = .ok v' w' ∧ RV w' M' v' y ∧ Ext w M w' M' ∧ Inv G w' M' σ' := by
  unfold aAlloc at h
  cases hz : aZero P t with
  | none => simp [hz] at h
  | some z =>
    rw [hz, Option.bind_some] at h
    obtain ⟨zv, h1, h2⟩ := aZero_ok hz w M
    obtain ⟨v', w', M', k1, k2, k3, k4⟩ := aBox_ok (P := P) (t := t) hi h2 h
    refine ⟨v', w', M', ?_, k2, k3, k4⟩
    have k1' : ((newVar t zv).run P w).andThen (fun a w' => Result.ok (Value.pointer (some a)) w') = .ok v' w' := by
      simpa [Instr.box] using k1
    simp only [Instr.alloc, Sem.run_bind, h1, Result.andThen_ok, Sem.run_pure, k1']

/-! ### A store -/
def aStore (P : Program) (σ : Heap) (t : TypeId) (p x : AV) : Option Heap :=
  match p with
  | .ref r g off =>
    match P.info? t, objAt σ r g with
    | some i, some c => if x.cells.length = i.size ∧ off + i.size ≤ c.length ∧ x.cells.all AV.one = true then some (σ.set r (.cells g (setL c off x.cells))) else none
    | _, _ => none
  | _ => none

theorem put_self {r : Nat} {p : Nat × Nat} (h : M r = some p) : M.put r p = M := by
  obtain ⟨f, far⟩ := M
  simp only [Map.put, Map.mk.injEq, and_true]
  funext r'
  split
  · rename_i e; subst e; exact h.symm
  · rfl

theorem written {cs : Array Value} {c : List AV} {off : Nat} {vs : List Value} {xs : List AV} {w' : World} {M' : Map} (hl : c.length ≤ cs.size) (hle : off + xs.length ≤ c.length) (hlen : vs.length = xs.length)
    (hc : ∀ (j : Nat) (x : AV), c[j]? = some x → RV w' M' (cs.getD j undef) x) (hx : ∀ (j : Nat) (x : AV), xs[j]? = some x → RV w' M' (vs.toArray.getD j undef) x) :
    ∀ (j : Nat) (x : AV), (setL c off xs)[j]? = some x → RV w' M' ((wr cs off vs).getD j undef) x := by
  intro j x hj
  rw [setL_get hle] at hj
  rw [wr_get vs cs off j (by omega)]
  split at hj
  · rw [if_pos ‹_›]; exact hc j x hj
  · rw [if_neg ‹_›]
    split at hj
    · rw [if_pos (by omega)]; exact hx _ x hj
    · rw [if_neg (by omega)]; exact hc j x hj

theorem aStore_ok {t : TypeId} {pv v : Value} {p x : AV} {σ' : Heap} (hi : Inv G w M σ) (hp : RV w M pv p) (hv : RV w M v x) (h : aStore P σ t p x = some σ') :
    ∃ w', (Instr.storeAt t pv v).run P w = .ok () w' ∧ Ext w M w' M ∧ Inv G w' M σ' := by
  unfold aStore at h
  split at h
  · rename_i r g off
    split at h
    · rename_i i c hti ho
      split at h
      · rename_i hc
        obtain ⟨h1, h2, h3⟩ := hc
        cases h
        obtain ⟨b, cs, e, hm, hh, hl, hx⟩ := hi.obj ho
        cases hp with
        | refS r g off b' g' p hr hg =>
          rw [hm] at hr
          obtain ⟨_, rfl⟩ := Prod.mk.inj (Option.some.inj hr)
          omega
        | ref r g off b' hr =>
          rw [hm] at hr
          obtain ⟨rfl, _⟩ := Prod.mk.inj (Option.some.inj hr)
          obtain ⟨⟨k1, k2⟩, k3⟩ := hv.cells h3
          have he := Ext.upd (M := M) (cs' := wr cs off v.cells.toList) (g' := g) hm hh (wr_size _ _ _) (Nat.le_refl _) (hi.others hm) (hi.notFar hm)
          have hs := run_storeCells (P := P) (b := b) (o := off) (e := e) v.cells.toList 0 cs w hh (by simp; omega) k3
          have hinv := Inv.upd (cs' := wr cs off v.cells.toList) (g' := g) (c' := setL c off x.cells) hi hm hh (wr_size _ _ _) (Nat.le_refl _) (by rw [setL_length (by omega), wr_size]; exact hl)
            (written hl (by omega) (by simpa using k1) (fun j y hj => (hx j y hj).mono he) (fun j y hj => by simpa using (k2 j y hj).mono he))
          rw [put_self hm] at he hinv
          refine ⟨_, ?_, he, hinv⟩
          have hsz : v.cells.size = i.size := by omega
          simp only [Instr.storeAt, Instr.sureAddr, storeVar, Sem.run_bind, Sem.run_pure, Result.andThen_ok, run_sizeOf', hti, hsz, ne_eq, not_true_eq_false, if_false]
          simpa using hs
      · cases h
    · cases h
  · cases h

/-! ### Literals -/
/-- Parts laid into cells. -/
def fillA (place : Nat → Option (Nat × Nat)) (cells : List AV) : List (Nat × AV) → Option (List AV)
  | [] => some cells
  | (i, x) :: rest =>
    match place i with
    | none => none
    | some (off, size) => if x.cells.length = size ∧ off + x.cells.length ≤ cells.length ∧ x.cells.all AV.one = true then fillA place (setL cells off x.cells) rest else none

theorem foldl_wr (off : Nat) : ∀ (vs : List Value) (k : Nat) (cs : Array Value), (vs.zipIdx k).foldl (fun cs p => cs.setIfInBounds (off + p.2) p.1) cs = wr cs (off + k) vs
  | [], _, _ => rfl
  | v :: r, k, cs => by
    rw [List.zipIdx_cons, List.foldl_cons, foldl_wr off r (k + 1), wr]
    rfl

theorem fillA_ok {place : Nat → Option (Nat × Nat)} : ∀ (ps : List (Nat × AV)) (vs : List (Nat × Value)) (cells : List AV) (cs : Array Value) (xs : List AV),
    ps.length = vs.length → (∀ (j : Nat) (p : Nat × AV), ps[j]? = some p → ∃ v, vs[j]? = some (p.1, v) ∧ RV w M v p.2) → RVs w M cs cells → fillA place cells ps = some xs →
    ∃ cs', Instr.fill place cs vs = some cs' ∧ RVs w M cs' xs ∧ cs'.size = cs.size
  | [], [], cells, cs, xs, _, _, hc, h => by cases h; exact ⟨cs, rfl, hc, rfl⟩
  | (i, x) :: ps, (i', v) :: vs, cells, cs, xs, hl, hp, hc, h => by
    obtain ⟨u, hu, hv⟩ := hp 0 (i, x) rfl
    simp only [List.getElem?_cons_zero, Option.some.injEq, Prod.mk.injEq] at hu
    obtain ⟨rfl, rfl⟩ := hu
    unfold fillA at h
    split at h
    · cases h
    · rename_i off size hpl
      split at h
      · rename_i hcond
        obtain ⟨h1, h2, h3⟩ := hcond
        dsimp only at h1 h2 h3 hv
        obtain ⟨⟨k1, k2⟩, k3⟩ := RV.cells hv h3
        have hwr := written (w' := w) (M' := M) (cs := cs) (c := cells) (off := off) (vs := v.cells.toList) (xs := x.cells) (by have := hc.1; omega) h2 (by simpa using k1) hc.2 (by simpa using k2)
        obtain ⟨cs', e1, e2, e3⟩ := fillA_ok ps vs (setL cells off x.cells) (wr cs off v.cells.toList) xs (by simpa using hl) (fun j p hj => by have := hp (j + 1) p (by simpa using hj); simpa using this)
          ⟨by rw [wr_size, setL_length h2]; exact hc.1, hwr⟩ h
        refine ⟨cs', ?_, e2, by rw [e3, wr_size]⟩
        unfold Instr.fill
        rw [hpl]
        have hs : v.cells.size = size := by omega
        have hb : (v.cells.size ≠ size || off + v.cells.size > cs.size) = false := by
          have h4 := hc.1
          simp [hs]
          omega
        simp only [hb, Bool.false_eq_true, if_false]
        rw [← e1]
        congr 1
        rw [← Array.foldl_toList, Array.toList_zipIdx]
        have := foldl_wr off v.cells.toList 0 cs
        simpa using this
      · cases h

def aPlace (P : Program) (t : TypeId) : Option (Nat → Option (Nat × Nat)) :=
  match P.underlying t with
  | some (.array _ e) => (P.info? e).map fun ie => fun i => some (i * ie.size, ie.size)
  | some (.struct fs) => (fs.toList.mapM (fun f => (P.info? f.type).map fun i => (f.offset, i.size))).map fun places => (places.toArray[·]?)
  | _ => none
def aBuild (P : Program) (t : TypeId) (ps : List (Nat × AV)) : Option AV :=
  match aPlace P t, aZero P t with
  | some place, some (.agg zs) => (fillA place zs ps).map .agg
  | _, _ => none

theorem aBuild_ok {t : TypeId} {ps : List (Nat × AV)} {vs : Array (Nat × Value)} {y : AV} (hl : ps.length = vs.size) (hp : ∀ (j : Nat) (p : Nat × AV), ps[j]? = some p → ∃ v, vs.toList[j]? = some (p.1, v) ∧ RV w M v p.2)
    (h : aBuild P t ps = some y) : ∃ r, (Instr.build t vs).run P w = .ok r w ∧ RV w M r y := by
  unfold aBuild at h
  split at h
  · rename_i place zs hpl hz
    cases hf : fillA place zs ps with
    | none => rw [hf] at h; cases h
    | some xs =>
      rw [hf] at h
      cases h
      unfold aZero at hz
      cases hi : P.info? t with
      | none => simp [hi] at hz
      | some i =>
        cases hzz : i.zero with
        | none => simp [hi, hzz] at hz
        | some z =>
          simp only [hi, hzz, Option.bind_some] at hz
          have hrv : RV w M z (.agg zs) := ofValue_ok hz
          cases hrv with
          | agg cz _ hlz hhz =>
            obtain ⟨cs', e1, e2, _⟩ := fillA_ok (w := w) (M := M) ps vs.toList zs cz xs (by simpa using hl) hp ⟨hlz, hhz⟩ hf
            refine ⟨.agg cs', run_build w t vs cs' ?_, .agg cs' xs e2.1 e2.2⟩
            unfold Program.built
            unfold aPlace at hpl
            split at hpl
            · rename_i n e hu
              cases hie : P.info? e with
              | none => simp [hie] at hpl
              | some ie =>
                simp only [hie, Option.map_some, Option.some.injEq] at hpl
                subst hpl
                simp only [hi, hu, hzz, hie]
                exact e1
            · rename_i fs hu
              cases hpp : fs.toList.mapM (fun f => (P.info? f.type).map fun i => (f.offset, i.size)) with
              | none => rw [hpp] at hpl; cases hpl
              | some places =>
                rw [hpp] at hpl
                simp only [Option.map_some, Option.some.injEq] at hpl
                subst hpl
                simp only [hi, hu, hzz, hpp]
                exact e1
            · cases hpl
  · cases h

/-- Cells, so many to a row. -/
def chunk (size : Nat) : Nat → List AV → List (List AV)
  | 0, _ => []
  | n + 1, xs => xs.take size :: chunk size n (xs.drop size)
theorem chunk_length (size : Nat) : ∀ (n : Nat) (xs : List AV), (chunk size n xs).length = n
  | 0, _ => rfl
  | n + 1, xs => by rw [chunk, List.length_cons, chunk_length size n]
theorem chunk_get (size : Nat) : ∀ (n i : Nat) (xs : List AV), i < n → (chunk size n xs)[i]? = some ((xs.drop (i * size)).take size)
  | 0, _, _, h => by omega
  | n + 1, 0, xs, _ => by simp [chunk]
  | n + 1, i + 1, xs, h => by
    rw [chunk, List.getElem?_cons_succ, chunk_get size n i _ (by omega), List.drop_drop, Nat.succ_mul, Nat.add_comm]

/-- A slice literal: cells that nobody writes. -/
def aLit (P : Program) (t : TypeId) (len : Nat) (ps : List (Nat × AV)) : Option AV :=
  match P.underlying t with
  | some (.slice e) =>
    match P.info? e, aZero P e with
    | some ie, some _ =>
      if len * ie.size ≤ 16777216 then
        if len = 0 then (if ps = [] then some .zs else none)
        else (fillA (fun i => some (i * ie.size, ie.size)) (List.replicate (len * ie.size) .junk) ps).map fun xs => .sl ie.size (chunk ie.size len xs)
      else none
    | _, _ => none
  | _ => none
end
end Go.Proofs.Ytngaihdpmoajeaa.Am

namespace Go.Proofs.Ytngaihdpmoajeaa.Am
open Go

section
variable {w : World} {M : Map} {P : Program} {G : Nat → Option (List AV)} {σ : Heap}

theorem getElem?_chunk_cell {size n i j : Nat} {xs r : List AV} {x : AV} (hr : (chunk size n xs)[i]? = some r) (hx : r[j]? = some x) : i < n ∧ j < size ∧ xs[i * size + j]? = some x := by
  have hi : i < n := by
    have := (List.getElem?_eq_some_iff.1 hr).1
    rw [chunk_length] at this
    exact this
  rw [chunk_get size n i xs hi] at hr
  cases hr
  have hj : j < size := by
    have := (List.getElem?_eq_some_iff.1 hx).1
    simp at this
    omega
  rw [List.getElem?_take_of_lt hj, List.getElem?_drop] at hx
  exact ⟨hi, hj, hx⟩

theorem aLit_ok {t : TypeId} {len : Nat} {ps : List (Nat × AV)} {vs : Array (Nat × Value)} {y : AV} (hi : Inv G w M σ) (hl : ps.length = vs.size) (hp : ∀ (j : Nat) (p : Nat × AV), ps[j]? = some p → ∃ v, vs.toList[j]? = some (p.1, v) ∧ RV w M v p.2)
    (h : aLit P t len ps = some y) : ∃ v w', (Instr.buildSlice t len vs).run P w = .ok v w' ∧ RV w' M v y ∧ Ext w M w' M ∧ Inv G w' M σ := by
  unfold aLit at h
  split at h
  · rename_i e hu
    split at h
    · rename_i ie zx hie hz
      split at h
      · rename_i hsm
        obtain ⟨z, hz1, hz2⟩ := aZero_ok hz w M
        have hnot : ¬ (len * ie.size > 2 ^ 24) := by omega
        split at h
        · rename_i h0
          subst h0
          split at h
          · rename_i hps
            subst hps
            cases h
            have hvs : vs = #[] := by apply Array.eq_empty_of_size_eq_zero; simpa using hl.symm
            subst hvs
            refine ⟨_, w.alloc (.cells #[] e), ?_, .zs (some ⟨w.heap.size, 0, none⟩), .alloc w M _, hi.alloc _⟩
            simp only [Instr.buildSlice, Sem.run_bind, run_underlying', hu, Result.andThen_ok, run_sizeOf', hie, Nat.zero_mul]
            rw [if_neg (by omega), if_pos trivial]
            have h00 : ∀ z : Array Value, (Array.range 0).map (fun x => z[x % z.size]!) = #[] := fun z => by simp
            simp only [Sem.run_bind, Sem.run_pure, Result.andThen_ok, h00]
            rfl
          · cases h
        · rename_i h0
          cases hf : fillA (fun i => some (i * ie.size, ie.size)) (List.replicate (len * ie.size) .junk) ps with
          | none => rw [hf] at h; cases h
          | some xs =>
            rw [hf] at h
            cases h
            let zc : Array Value := if len * ie.size = 0 then #[] else z.cells
            let cs0 : Array Value := (Array.range (len * ie.size)).map (zc[· % zc.size]!)
            obtain ⟨cs', e1, e2, e3⟩ := fillA_ok (w := w) (M := M) ps vs.toList _ cs0 xs (by simpa using hl) hp ⟨by simp [cs0], fun j x hj => by
              have := (List.mem_replicate.1 (List.mem_of_getElem? hj)).2
              subst this; exact .junk _⟩ hf
            have hsz : cs'.size = len * ie.size := by rw [e3]; simp [cs0]
            have hrun : (Instr.buildSlice t len vs).run P w = .ok (.slice (some ⟨w.heap.size, 0, none⟩) len len) (w.alloc (.cells cs' e)) := by
              simp only [Instr.buildSlice, Sem.run_bind, run_underlying', hu, Result.andThen_ok, run_sizeOf', hie, if_neg hnot]
              simp only [cs0] at e1
              by_cases hc : len * ie.size = 0
              · have hzc : zc = #[] := by simp [zc, hc]
                rw [hzc] at e1
                simp only [if_pos hc, Sem.run_bind, Sem.run_pure, Result.andThen_ok, e1]
                rfl
              · have hzc : zc = z.cells := by simp [zc, hc]
                rw [hzc] at e1
                simp only [if_neg hc, Sem.run_bind, Sem.run_pure, Result.andThen_ok, hz1, e1]
                rfl
            refine ⟨_, _, hrun, ?_, .alloc w M _, hi.alloc _⟩
            have := RV.sl (w := w.alloc (.cells cs' e)) (M := M) w.heap.size 0 len ie.size (fun i j => cs'.getD (i * ie.size + j) undef) (chunk ie.size len xs) (Imm.alloc_new hi _)
              (fun i r j hr hj => by
                have hi' : i < len := by
                  have := (List.getElem?_eq_some_iff.1 hr).1
                  rw [chunk_length] at this
                  exact this
                rw [Nat.zero_add]
                refine cell_of_cells (alloc_new w _) ?_
                rw [hsz]
                calc i * ie.size + j < i * ie.size + ie.size := by omega
                  _ = (i + 1) * ie.size := by rw [Nat.succ_mul]
                  _ ≤ len * ie.size := Nat.mul_le_mul_right _ hi')
              (fun i r hr => by
                have hi' : i < len := by
                  have := (List.getElem?_eq_some_iff.1 hr).1
                  rw [chunk_length] at this
                  exact this
                rw [chunk_get ie.size len i xs hi'] at hr
                cases hr
                have hx : xs.length = len * ie.size := by rw [← e2.1, hsz]
                have : (i + 1) * ie.size ≤ len * ie.size := Nat.mul_le_mul_right _ hi'
                rw [Nat.succ_mul] at this
                simp
                omega)
              (fun i r j x hr hx => (e2.2 _ x (getElem?_chunk_cell hr hx).2.2).mono (.alloc w M _)) (by rw [chunk_length]; exact Nat.le_refl _)
            rw [chunk_length] at this
            exact this
      · cases h
    · cases h
  · cases h

/-! ### make -/
def repl : Nat → List AV → List AV
  | 0, _ => []
  | n + 1, l => l ++ repl n l
theorem repl_length : ∀ (n : Nat) (l : List AV), (repl n l).length = n * l.length
  | 0, _ => by simp [repl]
  | n + 1, l => by rw [repl, List.length_append, repl_length n, Nat.succ_mul, Nat.add_comm]
theorem repl_get : ∀ (n : Nat) (l : List AV) (j : Nat), j < n * l.length → (repl n l)[j]? = l[j % l.length]?
  | 0, _, _, h => by simp at h
  | n + 1, l, j, h => by
    rw [repl]
    by_cases hj : j < l.length
    · rw [List.getElem?_append_left hj, Nat.mod_eq_of_lt hj]
    · rw [List.getElem?_append_right (by omega), repl_get n l _ (by rw [Nat.succ_mul] at h; omega)]
      congr 1
      rw [← Nat.mod_eq_sub_mod (by omega)]

theorem wrap_small {n : Int} (h0 : 0 ≤ n) (h1 : n < 9223372036854775808) : IntKind.i64.wrap n = n := by
  simp [IntKind.wrap, IntKind.signed, IntKind.bits]
  omega

def aMake (P : Program) (σ : Heap) (t : TypeId) (l c : AV) : Option (AV × Heap) :=
  match P.underlying t, l, c with
  | some (.slice e), .int _ l, .int _ c =>
    match P.info? e, aZero P e with
    | some ie, some zx =>
      if 0 ≤ l ∧ l ≤ c ∧ c ≤ 16777216 ∧ ie.bytes ≤ 65536 ∧ zx.cells.length = ie.size ∧ zx.cells.all AV.one = true then
        some (.ms ie.size σ.length 0 0 l.toNat c.toNat, σ ++ [.cells 0 (repl c.toNat zx.cells)])
      else none
    | _, _ => none
  | _, _, _ => none

theorem aMake_ok {t : TypeId} {lv cv : Value} {l c y : AV} {σ' : Heap} (hi : Inv G w M σ) (hl : RV w M lv l) (hc : RV w M cv c) (h : aMake P σ t l c = some (y, σ')) :
    ∃ v w' M', (Instr.makeSlice t lv cv).run P w = .ok v w' ∧ RV w' M' v y ∧ Ext w M w' M' ∧ Inv G w' M' σ' := by
  unfold aMake at h
  split at h
  · rename_i e k l k' c hu
    split at h
    · rename_i ie zx hie hz
      split at h
      · rename_i hcond
        obtain ⟨h0, h1, h2, h3, h4, h5⟩ := hcond
        cases h
        cases hl; cases hc
        obtain ⟨z, hz1, hz2⟩ := aZero_ok hz w M
        obtain ⟨⟨k1, k2⟩, _⟩ := hz2.cells h5
        obtain ⟨ln, rfl⟩ := Int.eq_ofNat_of_zero_le h0
        obtain ⟨cn, rfl⟩ := Int.eq_ofNat_of_zero_le (by omega : (0 : Int) ≤ c)
        have hw1 : IntKind.i64.wrap (ln : Int) = ln := wrap_small (by omega) (by omega)
        have hw2 : IntKind.i64.wrap (cn : Int) = cn := wrap_small (by omega) (by omega)
        have hbytes : ie.bytes * cn ≤ 65536 * 16777216 := Nat.mul_le_mul h3 (by omega)
        let zc : Array Value := if cn * ie.size = 0 then #[] else z.cells
        let cs : Array Value := (Array.range (cn * ie.size)).map (zc[· % zc.size]!)
        have he := Ext.push hi (.cells cs e)
        have hrun : (Instr.makeSlice t (.int k ln) (.int k' cn)).run P w = .ok (.slice (some ⟨w.heap.size, 0, none⟩) ln cn) (w.alloc (.cells cs e)) := by
          have ht2 : ((cn : Int) < 0 || decide ((ie.bytes : Int) * cn > 2 ^ 48) || (ln : Int) < 0 || (ln : Int) > cn) = false := by
            have : ((ie.bytes * cn : Nat) : Int) = (ie.bytes : Int) * cn := by simp
            simp
            omega
          simp only [Instr.makeSlice, Sem.run_bind, run_underlying', hu, Result.andThen_ok, asInt, asIntOf, Sem.run_pure, run_typeInfo', hie, hw1, hw2, Int.toNat_natCast]
          rw [if_neg (by simpa using ht2)]
          simp only [Sem.run_bind, run_askRoom, Result.andThen_ok, run_sizeOf', hie]
          by_cases hc : cn * ie.size = 0
          · have hzc : zc = #[] := by simp [zc, hc]
            simp only [cs, hzc, if_pos hc, Sem.run_bind, Sem.run_pure, Result.andThen_ok]
            rfl
          · have hzc : zc = z.cells := by simp [zc, hc]
            simp only [cs, hzc, if_neg hc, Sem.run_bind, Sem.run_pure, Result.andThen_ok, hz1]
            rfl
        refine ⟨_, _, _, hrun, ?_, he, ?_⟩
        · simp only [Int.toNat_natCast]
          exact .ms ie.size σ.length 0 0 ln cn w.heap.size cn cs e (Map.put_same _ _ _) (by omega) (Nat.le_refl _) (alloc_new w _) (by simp [cs])
        · refine hi.push ⟨w.heap.size, cs, e, Map.put_same _ _ _, alloc_new w _, by rw [repl_length, h4]; simp [cs], fun j x hj => ?_⟩
          have hj' : j < cn * ie.size := by
            have := (List.getElem?_eq_some_iff.1 hj).1
            rw [repl_length, h4] at this
            simpa using this
          have hne : cn * ie.size ≠ 0 := by omega
          rw [repl_get _ _ _ (by rw [h4]; simpa using hj'), h4] at hj
          have hlt : j % ie.size < ie.size := Nat.mod_lt _ (by
            rcases Nat.eq_zero_or_pos ie.size with hs | hs
            · rw [hs] at hj'; simp at hj'
            · exact hs)
          have hzs : z.cells.size = ie.size := k1.trans h4
          have hgd : cs.getD j undef = z.cells.getD (j % ie.size) undef := by
            simp [cs, zc, hne, Array.getD, hj', hzs, hlt, getElem!_pos]
          rw [hgd]
          exact (k2 _ x hj).mono he
      · cases h
    · cases h
  · cases h
end
end Go.Proofs.Ytngaihdpmoajeaa.Am

