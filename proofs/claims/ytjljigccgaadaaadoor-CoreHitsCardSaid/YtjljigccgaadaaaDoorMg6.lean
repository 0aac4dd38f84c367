/-
  This file proves nothing of a law. It holds lemmas, of 14 texts in their order. No condition of its own.
-/
import Derived.Test.YtjljigccgaadaaaDoorMg4
import Derived.Test.YtjljigccgaadaaaDoorMg5
import Derived.Lib.LaidU8
import Derived.ProofKit
import Derived.LaidLaws
import Derived.Handed
import Derived.OpenShut
namespace Go.Proofs.YtjljigccgaadaaaDoor.Am
open Go

/-- Values that point nowhere. -/
inductive Flat : AV → Prop
  | int (k : IntKind) (n : Int) : Flat (.int k n)
  | bool (b : Bool) : Flat (.bool b)
  | nilp : Flat .nilp
  | nilf : Flat .nilf
  | zs : Flat .zs
  | anyb : Flat .anyb
  | junk : Flat .junk
  | tup (xs : List AV) (h : ∀ (j : Nat) (x : AV), xs[j]? = some x → Flat x) : Flat (.tup xs)
  | agg (xs : List AV) (h : ∀ (j : Nat) (x : AV), xs[j]? = some x → Flat x) : Flat (.agg xs)
theorem flat_tup2 {a b : AV} (ha : Flat a) (hb : Flat b) : Flat (.tup [a, b]) := .tup _ fun j x hx => by
  match j, hx with
  | 0, hx => cases hx; exact ha
  | 1, hx => cases hx; exact hb
  | j + 2, hx => simp at hx
theorem RV.flat {w w' : World} {M M' : Map} {v : Value} {x : AV} (hv : RV w M v x) (hf : Flat x) : RV w' M' v x := by
  induction hv with
  | int k i => exact .int k i
  | bool b => exact .bool b
  | nilp => exact .nilp
  | nilf => exact .nilf
  | zs base => exact .zs base
  | anyb b => exact .anyb b
  | junk v => exact .junk v
  | agg vs xs hl _ ih => cases hf with | agg _ h => exact .agg vs xs hl fun j x hj => ih j x hj (h j x hj)
  | tup vs xs hl _ ih => cases hf with | tup _ h => exact .tup vs xs hl fun j x hj => ih j x hj (h j x hj)
  | _ => cases hf

section
variable {P : Program} {G : Nat → Option (List AV)}
/-- All the caller's objects, as data. -/
def Map.opened (M : Map) : Map := ⟨fun _ => none, M.far⟩
theorem Imm.opened {w : World} {M : Map} {b : Nat} (h : Imm w M b) : Imm w M.opened b := ⟨h.1, fun _ _ h => (by cases h), h.2.2⟩
theorem RV.opened {w : World} {M : Map} {v : Value} {x : AV} (hv : RV w M v x) (hb : Below 0 x) : RV w M.opened v x := by
  induction hv with
  | int k i => exact .int k i
  | bool b => exact .bool b
  | nilp => exact .nilp
  | nilf => exact .nilf
  | ref r g off b hr => cases hb with | ref _ _ _ hlt => omega
  | refS r g off b g' p hr hg => cases hb with | ref _ _ _ hlt => omega
  | row b o off f cells hi hc _ ih => cases hb with | row _ _ h => exact .row b o off f cells hi.opened hc fun j x hj => ih j x hj (h j x hj)
  | sl0 base cap size => exact .sl0 base cap size
  | sl b o cap size f rows hi hc hl _ hcap ih => cases hb with | sl _ _ h => exact .sl b o cap size f rows hi.opened hc hl (fun i r j x hi hj => ih i r j x hi hj (h i r j x hi hj)) hcap
  | fl v size k rows _ ih => cases hb with | fl _ _ _ h => exact .fl _ size k rows (ih h)
  | zs base => exact .zs base
  | ms size r g off len cap b capc c e hr hlen hcc hsz hfit => cases hb with | ms _ _ _ _ _ _ hlt => omega
  | msS size r g off len cap b g' p capc hr hg => cases hb with | ms _ _ _ _ _ _ hlt => omega
  | agg vs xs hl _ ih => cases hb with | agg _ h => exact .agg vs xs hl fun j x hj => ih j x hj (h j x hj)
  | tup vs xs hl _ ih => cases hb with | tup _ h => exact .tup vs xs hl fun j x hj => ih j x hj (h j x hj)
  | fn f fs cs xs ys hl1 hl2 _ _ ih1 ih2 => cases hb with | fn _ _ _ h1 h2 => exact .fn f fs cs xs ys hl1 hl2 (fun j x hj => ih1 j x hj (h1 j x hj)) (fun j x hj => ih2 j x hj (h2 j x hj))
  | yf l b hr => cases hb with | yf _ hlt => omega
  | yfS l b g fn fs cs hr hg => cases hb with | yf _ hlt => omega
  | anyb b => exact .anyb b
  | mx size r g off len cap b c e hr hlen hsz hfit => cases hb with | mx _ _ _ _ _ _ hlt => omega
  | mxS size r g off len cap b g' p hr hg => cases hb with | mx _ _ _ _ _ _ hlt => omega
  | junk v => exact .junk v
theorem Inv.opened {w : World} {M : Map} {σ : Heap} (hi : Inv G w M σ) (hG : GBelow G) : Inv G w M.opened [] := by
  refine .of (fun g cs hg => (hi.glob g cs hg).opened (hG g cs hg)) (fun r r' b g g' h1 _ => ?_) (fun r p h1 => ?_) (fun r b g h1 => ?_) (fun b hb => ⟨(hi.far b hb).1, fun r g h => by cases h⟩) (fun r o h1 => by simp at h1)
  · cases h1
  · cases h1
  · cases h1
/-- What the caller sees of a call that took its objects as data. -/
theorem Ext.unopened {w w' : World} {M M' : Map} {σ : Heap} (hi : Inv G w M σ) (he : Ext w M.opened w' M') : Ext w M w' M ∧ ∀ r b g, M r = some (b, g) → w'.heap[b]? = w.heap[b]? := by
  have himm : ∀ r b g, M r = some (b, g) → Imm w M.opened b := fun r b g hr => ⟨hi.lt r b g hr, fun _ _ h => (by cases h), fun hf => (hi.far b hf).2 r g hr⟩
  have hsame : ∀ r b g, M r = some (b, g) → w'.heap[b]? = w.heap[b]? := fun r b g hr => (he.imm b (himm r b g hr)).2
  refine ⟨⟨he.size, he.os, he.tape, he.output, fun b hb => ⟨⟨Nat.lt_of_lt_of_le hb.1 he.size, hb.2⟩, (he.imm b hb.opened).2⟩, fun r b g hr => ⟨b, g, hr, .inr ⟨rfl, rfl⟩⟩, fun r b g c e0 fr hr _ hc => ⟨c, ?_, rfl⟩, fun r b hr hn => ⟨hr, ?_, fun c e0 fr hc => ?_⟩,
    rfl, fun b hb hl => he.far.2 b hb hl⟩, hsame⟩
  · rw [hsame r b g hr]; exact hc
  · exact Nat.lt_of_lt_of_le hn.1 he.size
  · rw [hsame r b 0 hr] at hc; exact hn.2 c e0 fr hc

/-- A slice of the caller's, as data. -/
theorem RV.msOpen {w : World} {M : Map} {σ : Heap} (hi : Inv G w M σ) {v : Value} {r g : Nat} {cells : List AV} (hv : RV w M v (.ms 1 r g 0 cells.length cells.length)) (ho : σ[r]? = some (.cells g cells)) (hb : ∀ x ∈ cells, Below 0 x) :
    RV w M.opened v (.sl 1 (cells.map fun y => [y])) := by
  obtain ⟨b, cs, e, hm, hh, hl, hx⟩ := hi.cells r g cells ho
  cases hv with
  | ms _ _ _ _ _ _ b' capc c' e' hm' hlen hcc hsz hfit =>
    rw [hm] at hm'
    obtain ⟨rfl, _⟩ := Prod.mk.inj (Option.some.inj hm')
    have himm : Imm w M.opened b := ⟨hi.lt r b g hm, fun r' g' h' => (by cases h'), hi.notFar hm⟩
    have hlen' : (cells.map fun y => ([y] : List AV)).length = cells.length := by simp
    have := RV.sl (w := w) (M := M.opened) b 0 capc 1 (fun i j => cs.getD (i + j) Go.undef) (cells.map fun y => [y]) himm
      (fun i rw' j hrw hj => by
        have hil : i < cells.length := by have := (List.getElem?_eq_some_iff.1 hrw).1; rwa [hlen'] at this
        rw [Nat.zero_add, Nat.mul_one]
        exact cell_of_cells hh (by omega))
      (fun i rw' hrw => by
        obtain ⟨y, _, rfl⟩ := List.mem_map.1 (List.mem_of_getElem? hrw); rfl)
      (fun i rw' j z hrw hz => by
        have hil : i < cells.length := by have := (List.getElem?_eq_some_iff.1 hrw).1; rwa [hlen'] at this
        rw [List.getElem?_map] at hrw
        rw [List.getElem?_eq_getElem hil] at hrw
        cases hrw
        cases j with
        | zero =>
          simp at hz; subst hz
          exact (hx i _ (List.getElem?_eq_getElem hil)).opened (hb _ (List.getElem_mem hil))
        | succ j => simp at hz)
      (by rw [hlen']; omega)
    rw [hlen'] at this
    exact this
  | msS _ _ _ _ _ _ b' g' p capc hm' hg =>
    rw [hm] at hm'
    obtain ⟨_, rfl⟩ := Prod.mk.inj (Option.some.inj hm')
    omega
/-- x, taken as data, is x'. -/
def Frz (σ : Heap) (x x' : AV) : Prop := (∃ k, freeze σ k x = some x') ∨ (Below 0 x ∧ x' = x) ∨ ∃ r g cells, x = .ms 1 r g 0 cells.length cells.length ∧ σ[r]? = some (.cells g cells) ∧ (∀ y ∈ cells, Below 0 y) ∧ x' = .sl 1 (cells.map fun y => [y])
theorem RV.frz {w : World} {M : Map} {σ : Heap} (hi : Inv G w M σ) {v : Value} {x x' : AV} (hv : RV w M v x) (hf : Frz σ x x') : RV w M.opened v x' := by
  rcases hf with ⟨k, hk⟩ | ⟨hb, rfl⟩ | ⟨r, g, cells, rfl, ho, hb, rfl⟩
  · exact freeze_ok (Mx := M.opened) hi (fun r b g hr => ⟨fun _ _ h => (by cases h), fun h => (hi.far b h).2 r g hr⟩) k hv hk
  · exact hv.opened hb
  · exact RV.msOpen hi hv ho hb
theorem RVs.frz {w : World} {M : Map} {σ : Heap} (hi : Inv G w M σ) {vs : Array Value} {xs xs' : List AV} (hv : RVs w M vs xs) (hl : xs.length = xs'.length) (hx : ∀ (j : Nat) (x' : AV), xs'[j]? = some x' → ∃ x, xs[j]? = some x ∧ Frz σ x x') : RVs w M.opened vs xs' :=
  ⟨by rw [hv.1, hl], fun j x' hj => by
    obtain ⟨x, h1, h2⟩ := hx j x' hj
    exact (hv.2 j x h1).frz hi h2⟩
/-- A CALL THAT TAKES THE CALLER'S OBJECTS AS DATA. -/
theorem ACall.frz {f : FuncId} {xs xs' : List AV} {σ σ0 : Heap} {v : AV} (h : ACall P G f xs' [] v σ0) (hG : GBelow G) (hv : Flat v) (hl : xs.length = xs'.length) (hx : ∀ (j : Nat) (x' : AV), xs'[j]? = some x' → ∃ x, xs[j]? = some x ∧ Frz σ x x') : ACall P G f xs σ v σ := by
  refine ⟨h.1, fun w M vs hi hvs => (h.2 w M.opened vs (hi.opened hG) (hvs.frz hi hl hx)).mono ?_⟩
  rintro e w' ⟨u, M', rfl, hu, he, _⟩
  obtain ⟨h1, h2⟩ := Ext.unopened hi he
  exact ⟨u, M, rfl, hu.flat hv, h1, hi.keep h1 h2⟩
/-- THE REST OF A BODY, which takes all objects as data. -/
theorem AExec.frz {R : Option Nat → Prop} {c : Code} {a a' a2 : List AV} {σ σ0 : Heap} {e : Exit} (h : AExec P G R c { tmps := a' } [] e { tmps := a2 } σ0) (hG : GBelow G) (hv : ∀ x ∈ a2, Flat x) (hl : a.length = a'.length) (hx : ∀ (j : Nat) (x' : AV), a'[j]? = some x' → ∃ x, a[j]? = some x ∧ Frz σ x x') :
    AExec P G R c { tmps := a } σ e { tmps := a2 } σ := by
  intro r0 hr w M ac Q hi ha hQ
  obtain ⟨bs, m1, m2, m3⟩ := ha.marks
  refine h r0 hr w M.opened ac Q (hi.opened hG) ⟨ha.tmps.frz hi hl hx, bs, m1, m2, fun i r b h => by simp at h⟩ fun w' M' ac' he hi' ha' => ?_
  obtain ⟨h1, h2⟩ := Ext.unopened hi he
  obtain ⟨bs', k1, k2, k3⟩ := ha'.marks
  exact hQ w' M ac' h1 (hi.keep h1 h2) ⟨⟨ha'.tmps.1, fun j x hj => (ha'.tmps.2 j x hj).flat (hv x (List.mem_of_getElem? hj))⟩, bs', k1, k2, fun i r b h => by simp at h⟩
end
end Go.Proofs.YtjljigccgaadaaaDoor.Am

namespace Go.Proofs.YtjljigccgaadaaaDoor.Am
open Go
set_option maxRecDepth 100000

/-! ### Lists, read off plain values -/
def mapO {α β : Type} (f : α → Option β) : List α → Option (List β)
  | [] => some []
  | x :: r => match f x, mapO f r with
    | some y, some ys => some (y :: ys)
    | _, _ => none
theorem mapO_ok {α β : Type} {f : α → Option β} : ∀ {l : List α} {ys : List β}, mapO f l = some ys → ys.length = l.length ∧ ∀ (i : Nat) (y : β), ys[i]? = some y → ∃ x, l[i]? = some x ∧ f x = some y
  | [], ys, h => by cases h; exact ⟨rfl, fun i y hi => by simp at hi⟩
  | x :: r, ys, h => by
    unfold mapO at h
    split at h
    · rename_i y zs hy hz
      cases h
      obtain ⟨h1, h2⟩ := mapO_ok hz
      refine ⟨by simp [h1], fun i z hi => ?_⟩
      cases i with
      | zero => simp at hi; subst hi; exact ⟨x, rfl, hy⟩
      | succ i => simpa using h2 i z (by simpa using hi)
    · cases h
def decI : AV → Option Int
  | .int .i64 n => some n
  | _ => none
def dec1 {α : Type} (f : AV → Option α) : List AV → Option α
  | [x] => f x
  | _ => none
/-- A slice of one-cell elements. -/
def decS {α : Type} (f : AV → Option α) : AV → Option (List α)
  | .zs => some []
  | .sl 1 rows => mapO (dec1 f) rows
  | .fl 1 n r => mapO (fun i => dec1 f (r i)) (List.range n)
  | _ => none
def decL : AV → Option (List Int) := decS decI
def decLL : AV → Option (List (List Int)) := decS decL
theorem RV.rows {w : World} {M : Map} {u : Value} {α : Type} {q : α → AV} {rows : List (List AV)} {L : List α} (hl : L.length = rows.length) (hx : ∀ (i : Nat) (x : α), L[i]? = some x → ∃ y, rows[i]? = some [y] ∧ Sub y (q x)) (h : RV w M u (.sl 1 rows)) : RV w M u (.sl 1 ((L.map q).map fun y => [y])) := by
  cases h with
  | sl0 base cap _ =>
    have : L = [] := by simpa using hl
    subst this
    exact .sl0 _ _ _
  | sl b o cap size f rows hb hc hl2 h hcap =>
    have e : rows.length = ((L.map q).map fun y => [y]).length := by simp [hl]
    have ge : ∀ (i : Nat) (r : List AV), ((L.map q).map fun y => [y])[i]? = some r → ∃ x, L[i]? = some x ∧ r = [q x] := by
      intro i r hi
      simp only [List.getElem?_map, Option.map_eq_some_iff] at hi
      obtain ⟨_, ⟨x, hx, rfl⟩, rfl⟩ := hi
      exact ⟨x, hx, rfl⟩
    rw [e]
    refine .sl b o cap 1 f _ hb (fun i r j hi hj => ?_) (fun i r hi => ?_) (fun i r j x hi hj => ?_) (by rw [← e]; exact hcap)
    · obtain ⟨x, h1, _⟩ := ge i r hi
      obtain ⟨y, h2, _⟩ := hx i x h1
      exact hc i _ j h2 hj
    · obtain ⟨x, _, rfl⟩ := ge i r hi; rfl
    · obtain ⟨z, h1, rfl⟩ := ge i r hi
      obtain ⟨y, h2, h3⟩ := hx i z h1
      have : j = 0 := by
        match j, hj with
        | 0, _ => rfl
        | j + 1, hj => simp at hj
      subst this
      cases hj
      exact h3 _ _ _ (h i _ 0 _ h2 rfl)
theorem decS_ok {α : Type} {f : AV → Option α} {q : α → AV} (hf : ∀ x y, f x = some y → Sub x (q y)) {fl : List α → AV} (hfl : ∀ w M u (L : List α), RV w M u (.sl 1 ((L.map q).map fun y => [y])) → RV w M u (fl L)) (hz : ∀ w M u, RV w M u .zs → RV w M u (fl [])) {x : AV} {L : List α} (h : decS f x = some L) : Sub x (fl L) := by
  intro w M u hv
  unfold decS at h
  split at h
  · cases h; exact hz _ _ _ hv
  · rename_i rows
    obtain ⟨h1, h2⟩ := mapO_ok h
    refine hfl _ _ _ _ (RV.rows h1 (fun i x hi => ?_) hv)
    obtain ⟨r, hr, hd⟩ := h2 i x hi
    unfold dec1 at hd
    split at hd
    · exact ⟨_, hr, hf _ _ hd⟩
    · cases hd
  · rename_i n r
    obtain ⟨h1, h2⟩ := mapO_ok h
    cases hv with
    | fl _ _ _ _ hv =>
      refine hfl _ _ _ _ (RV.rows (by simpa using h1) (fun i x hi => ?_) hv)
      obtain ⟨k, hk, hd⟩ := h2 i x hi
      unfold dec1 at hd
      split at hd
      · rename_i y hy
        obtain ⟨hlt, hk2⟩ := List.getElem?_eq_some_iff.1 hk
        have : k = i := by simpa using hk2.symm
        subst this
        exact ⟨y, by rw [List.getElem?_map, hk]; simp [hy], hf _ _ hd⟩
      · cases hd
  · cases h
theorem decI_ok {x : AV} {n : Int} (h : decI x = some n) : Sub x (I n) := by
  unfold decI at h
  split at h
  · cases h; exact Sub.rfl' _
  · cases h
theorem decL_ok {x : AV} {L : List Int} (h : decL x = some L) : Sub x (flL L) := decS_ok (q := I) (fun _ _ h => decI_ok h) (fun _ _ _ _ h => h.flL_of) (fun _ _ _ h => h.flL_zs) h
theorem decLL_ok {x : AV} {L : List (List Int)} (h : decLL x = some L) : Sub x (flLL L) := decS_ok (q := flL) (fun _ _ h => decL_ok h) (fun _ _ _ _ h => h.flLL_of) (fun _ _ _ h => h.flLL_zs) h

/-! ### Functions that always say the same -/
theorem c11 (x : AV) (h : Heap) : ACall Tryd.prog G0 11 [x] h (.bool false) h := by
  have run : xCall Tryd.prog G0 {} 200 11 [x] [true] h = .leaf (.bool false, false, h) := by kernel_rfl
  exact xCall_ok (n := 200) (tags := [true]) (s := false) names mixed clok0 (congrArg Tree.sel run)
theorem c12 (x : AV) (h : Heap) : ACall Tryd.prog G0 12 [x] h (.bool true) h := by
  have run : xCall Tryd.prog G0 {} 200 12 [x] [true] h = .leaf (.bool true, false, h) := by kernel_rfl
  exact xCall_ok (n := 200) (tags := [true]) (s := false) names mixed clok0 (congrArg Tree.sel run)
def fulT : AV → Option (Nat → Bool)
  | .fn 11 [] [] => some fun _ => false
  | .fn 12 [] [] => some fun _ => true
  | .fn 19 [] [] => some fun s => exF (ints s)
  | _ => none
theorem fulT_ok {x : AV} {f : Nat → Bool} (h : fulT x = some f) : ∃ g, x = .fn g [] [] ∧ ∀ σ, FulAt σ g [] f := by
  unfold fulT at h
  split at h
  · cases h; exact ⟨11, rfl, fun σ X s _ => c11 _ _⟩
  · cases h; exact ⟨12, rfl, fun σ X s _ => c12 _ _⟩
  · cases h; exact ⟨19, rfl, fulEx⟩
  · cases h
end Go.Proofs.YtjljigccgaadaaaDoor.Am

namespace Go.Proofs.YtjljigccgaadaaaDoor.Am
open Go
set_option maxRecDepth 100000

/-! ### No function at all -/
def cl41n : FuncId → List AV → Option (Tree AV) := fun f xs => match f, xs with
  | 41, [.int .i64 _, .int .i64 _, .nilf] => some (.leaf (I 1))
  | _, _ => none
def E41n : Env := { cl := cl41n, clh := failH }
theorem clok41n : ClOk Tryd.prog G0 E41n := .all .none failH_ok (fun l xs σ t v σ' h => (by cases h)) fun f xs t v hq hs σ => by
  replace hq : cl41n f xs = some t := hq
  unfold cl41n at hq
  split at hq <;> first | (cases hq; done) | skip
  cases hq; cases hs; exact c41n _ _ σ
theorem c13n (n : Int) (h : Heap) : ACall Tryd.prog G0 13 [I n, .nilf] h (resL [] 1) h := by
  have run : (xCall Tryd.prog G0 E41n 200 13 [I n, .nilf] [true, true] h).sel = some (.tup [.zs, I 1], true, h) := by kernel_rfl
  exact (xCall_ok (n := 200) (tags := [true, true]) (s := true) names mixed clok41n run).resZs
theorem c14n (n : Int) (L : AV) (h : Heap) : ACall Tryd.prog G0 14 [I n, L, .nilf] h (.tup [.bool false, I 1]) h := by
  have run : (xCall Tryd.prog G0 E41n 200 14 [I n, L, .nilf] [true, true, true] h).sel = some (.tup [.bool false, I 1], true, h) := by kernel_rfl
  exact xCall_ok (n := 200) (tags := [true, true, true]) (s := true) names mixed clok41n run
theorem c15n (n : Int) (h : Heap) : ACall Tryd.prog G0 15 [I n, .nilf] h (resLL [] 1) h := by
  have run : (xCall Tryd.prog G0 E41n 200 15 [I n, .nilf] [true, true] h).sel = some (.tup [.zs, I 1], true, h) := by kernel_rfl
  exact (xCall_ok (n := 200) (tags := [true, true]) (s := true) names mixed clok41n run).resZsL
theorem c16n (n : Int) (h : Heap) : ACall Tryd.prog G0 16 [I n, .nilf] h (resLL [] 1) h := by
  have run : (xCall Tryd.prog G0 E41n 200 16 [I n, .nilf] [true, true] h).sel = some (.tup [.zs, I 1], true, h) := by kernel_rfl
  exact (xCall_ok (n := 200) (tags := [true, true]) (s := true) names mixed clok41n run).resZsL

/-! ### All contracts -/
def out (n m : Int) : Bool := decide (n < 0) || decide (m < n)
def lfV (v : AV) : Option (Tree AV) := some (.leaf v)
def unitS (F : Nat → Bool) : Unit → Nat → Bool × Unit := fun _ s => (F s, ())
def irrV (n : Int) (L : List Int) (F : Nat → Bool) : AV := match ofL n L with
  | some s => .tup [.bool (irrS (badS (unitS F)) () s).1, I 0]
  | none => .tup [.bool false, I 2]
def small {α : Type} (L : List α) : Bool := decide (L.length < 1000000)
def clC : FuncId → List AV → Option (Tree AV) := fun f xs => match f with
  | 13 => match xs with
    | [.int .i64 _, .nilf] => lfV (resL [] 1)
    | [.int .i64 n, .fn g [] []] => (fulT (.fn g [] [])).bind fun F => bif out n 64 then lfV (resL [] 2) else lfV (coreR (coreS (badS (unitS F)) n.toNat ()).1)
    | _ => none
  | 14 => match xs with
    | [.int .i64 _, _, .nilf] => lfV (.tup [.bool false, I 1])
    | [.int .i64 n, x, .fn g [] []] => (fulT (.fn g [] [])).bind fun F => (decL x).bind fun L => bif small L then bif out n 64 then lfV (.tup [.bool false, I 2]) else lfV (irrV n L F) else none
    | _ => none
  | 15 => match xs with
    | [.int .i64 _, .nilf] => lfV (resLL [] 1)
    | [.int .i64 n, .fn g [] []] => (fulT (.fn g [] [])).bind fun F => bif out n 12 then lfV (resLL [] 2) else lfV (resLL (everyL (fun s => !F s) n.toNat) 0)
    | _ => none
  | 16 => match xs with
    | [.int .i64 _, .nilf] => lfV (resLL [] 1)
    | [.int .i64 n, .fn g [] []] => (fulT (.fn g [] [])).bind fun F => bif out n 12 then lfV (resLL [] 2) else lfV (resLL (everyL (fun s => F (comp n.toNat s)) n.toNat) 0)
    | _ => none
  | 17 => match xs with
    | [.int .i64 n, x] => (decLL x).bind fun L => bif out n 12 || decide (4096 < L.length) then lfV (resLL [] 2) else bif L.all small then lfV (hitR n.toNat L) else none
    | _ => none
  | 26 => match xs with
    | [x, y] => (decL x).bind fun a => (decL y).bind fun b => bif small a then lfV (.bool (a == b)) else none
    | _ => none
  | 18 => match xs with
    | [x, y] => (decLL x).bind fun a => (decLL y).bind fun b => bif small a && a.all small then lfV (.bool (a == b)) else none
    | _ => none
  | 20 => match xs with
    | [] => lfV (.bool true)
    | _ => none
  | _ => none
theorem out_true {n m : Int} (h : out n m = true) : n < 0 ∨ n > m := by
  unfold out at h
  rcases Bool.or_eq_true_iff.1 h with h | h
  · exact .inl (of_decide_eq_true h)
  · exact .inr (of_decide_eq_true h)
theorem out_false {n m : Int} (h : out n m = false) : 0 ≤ n ∧ n ≤ m := by
  unfold out at h
  obtain ⟨h1, h2⟩ := Bool.or_eq_false_iff.1 h
  have := of_decide_eq_false h1
  have := of_decide_eq_false h2
  omega
theorem nat_of {n : Int} (h : 0 ≤ n) : ((n.toNat : Nat) : Int) = n := by omega
theorem clC_ok {f : FuncId} {xs : List AV} {t : Tree AV} {v : AV} (hq : clC f xs = some t) (hs : t.sel = some v) (σ : Heap) : ACall Tryd.prog G0 f xs σ v σ := by
  unfold clC at hq
  split at hq
  · split at hq
    · cases hq; cases hs; exact c13n _ σ
    · rename_i n g
      obtain ⟨F, hF, hq⟩ := Option.bind_eq_some_iff.1 hq
      obtain ⟨_, hg, hf⟩ := fulT_ok hF
      cases hg
      cases ho : out n 64 with
      | true =>
        rw [ho] at hq; cases hq; cases hs
        have := c13e ((hf σ).ful []) (out_true ho) ()
        rwa [List.append_nil] at this
      | false =>
        rw [ho] at hq; cases hq; cases hs
        obtain ⟨h1, h2⟩ := out_false ho
        have := c13 (n := n.toNat) ((hf σ).ful []) (by omega) ()
        rwa [List.append_nil, nat_of h1] at this
    · cases hq
  · split at hq
    · cases hq; cases hs; exact c14n _ _ σ
    · rename_i n x g
      obtain ⟨F, hF, hq⟩ := Option.bind_eq_some_iff.1 hq
      obtain ⟨_, hg, hf⟩ := fulT_ok hF
      cases hg
      obtain ⟨L, hL, hq⟩ := Option.bind_eq_some_iff.1 hq
      cases hsm : small L with
      | false => rw [hsm] at hq; cases hq
      | true =>
        rw [hsm, cond_true] at hq
        have hsm' := of_decide_eq_true hsm
        cases ho : out n 64 with
        | true =>
          rw [ho] at hq; cases hq; cases hs
          exact c14e (out_true ho) x _ [] [] σ
        | false =>
          rw [ho] at hq; cases hq; cases hs
          obtain ⟨h1, h2⟩ := out_false ho
          have := c14 (n := n.toNat) ((hf σ).ful []) (by omega) (L := L) (by omega) ()
          rw [nat_of h1] at this
          simp only [List.append_nil] at this
          have := this.arg3 (Sub.rfl' _) (decL_ok hL) (Sub.rfl' _)
          unfold irrV unitS
          revert this
          cases ofL n L <;> exact id
    · cases hq
  · split at hq
    · cases hq; cases hs; exact c15n _ σ
    · rename_i n g
      obtain ⟨F, hF, hq⟩ := Option.bind_eq_some_iff.1 hq
      obtain ⟨_, hg, hf⟩ := fulT_ok hF
      cases hg
      cases ho : out n 12 with
      | true => rw [ho] at hq; cases hq; cases hs; exact c15e (out_true ho) _ [] [] σ
      | false =>
        rw [ho] at hq; cases hq; cases hs
        obtain ⟨h1, h2⟩ := out_false ho
        have := c15 (n := n.toNat) (by omega) (hf σ)
        rwa [nat_of h1] at this
    · cases hq
  · split at hq
    · cases hq; cases hs; exact c16n _ σ
    · rename_i n g
      obtain ⟨F, hF, hq⟩ := Option.bind_eq_some_iff.1 hq
      obtain ⟨_, hg, hf⟩ := fulT_ok hF
      cases hg
      cases ho : out n 12 with
      | true => rw [ho] at hq; cases hq; cases hs; exact c16e (out_true ho) _ [] σ
      | false =>
        rw [ho] at hq; cases hq; cases hs
        obtain ⟨h1, h2⟩ := out_false ho
        have := c16 (n := n.toNat) (by omega) (hf σ)
        rwa [nat_of h1] at this
    · cases hq
  · split at hq
    · rename_i n x
      obtain ⟨L, hL, hq⟩ := Option.bind_eq_some_iff.1 hq
      cases ho : out n 12 || decide (4096 < L.length) with
      | true =>
        rw [ho] at hq; cases hq; cases hs
        refine (c17e ?_).arg2 (Sub.rfl' _) (decLL_ok hL)
        rcases Bool.or_eq_true_iff.1 ho with h | h
        · rcases out_true h with h | h
          · exact .inl h
          · exact .inr (.inl h)
        · have := of_decide_eq_true h
          exact .inr (.inr (by omega))
      | false =>
        rw [ho, cond_false] at hq
        obtain ⟨h1, h2⟩ := Bool.or_eq_false_iff.1 ho
        obtain ⟨h3, h4⟩ := out_false h1
        have h5 := of_decide_eq_false h2
        cases hall : L.all small with
        | false => rw [hall] at hq; cases hq
        | true =>
          rw [hall] at hq; cases hq; cases hs
          have := c17 (σ := σ) (n := n.toNat) (by omega) (SL := L) (fun x hx => by have := of_decide_eq_true (List.all_eq_true.1 hall x hx); omega) (by omega)
          rw [nat_of h3] at this
          exact this.arg2 (Sub.rfl' _) (decLL_ok hL)
    · cases hq
  · split at hq
    · rename_i x y
      obtain ⟨a, ha, hq⟩ := Option.bind_eq_some_iff.1 hq
      obtain ⟨b, hb, hq⟩ := Option.bind_eq_some_iff.1 hq
      cases hsm : small a with
      | false => rw [hsm] at hq; cases hq
      | true =>
        rw [hsm] at hq; cases hq; cases hs
        have hsm' := of_decide_eq_true hsm
        exact (c26 (by omega) σ).arg2 (decL_ok ha) (decL_ok hb)
    · cases hq
  · split at hq
    · rename_i x y
      obtain ⟨a, ha, hq⟩ := Option.bind_eq_some_iff.1 hq
      obtain ⟨b, hb, hq⟩ := Option.bind_eq_some_iff.1 hq
      cases hsm : small a && a.all small with
      | false => rw [hsm] at hq; cases hq
      | true =>
        rw [hsm] at hq; cases hq; cases hs
        obtain ⟨h1, h2⟩ := Bool.and_eq_true_iff.1 hsm
        have h1' := of_decide_eq_true h1
        exact (c18 ⟨by omega, fun x hx => by have := of_decide_eq_true (List.all_eq_true.1 h2 x hx); omega⟩ σ).arg2 (decLL_ok ha) (decLL_ok hb)
    · cases hq
  · split at hq
    · cases hq; cases hs; exact c20 σ
    · cases hq
  · cases hq
def EC : Env := { cl := clC }
theorem clokC : ClOk Tryd.prog G0 EC := .of rfl rfl fun f xs t v h hs σ => clC_ok h hs σ
end Go.Proofs.YtjljigccgaadaaaDoor.Am

namespace Go.Proofs.YtjljigccgaadaaaDoor.Am
open Go
set_option maxRecDepth 100000

noncomputable def dropS : Nat → Code → Code
  | 0, c => c
  | n + 1, c => dropS n (sndS c)
noncomputable def k3 (n : Nat) : Code := fstS (dropS n (bodyOf Tryd.prog 3))
noncomputable def rest3 : Code := dropS 8 (bodyOf Tryd.prog 3)
theorem code3 : bodyOf Tryd.prog 3 = .seq (k3 0) (.seq (k3 1) (.seq (k3 2) (.seq (k3 3) (.seq (k3 4) (.seq (k3 5) (.seq (k3 6) (.seq (k3 7) rest3))))))) := by kernel_rfl
noncomputable def body3m : Code := (loopsOf (bodyOf Tryd.prog 3)).getD 3 .skip
def st3 (h : Heap) : St := .of 355 h [(0, .bool false, false), (1, .fn 11 [] [], true), (2, .fn 12 [] [], true)]
def st3z (h : Heap) : St := .of 355 h []
def v3 : AV := .ms 1 0 0 0 4097 4097
def st3v (h : Heap) : St := .of 355 h [(0, .bool false, false), (1, .fn 11 [] [], true), (2, .fn 12 [] [], true), (31, v3, true)]
def st3m (k : Int) (h : Heap) : St := .of 355 h [(0, .bool false, false), (1, .fn 11 [] [], true), (2, .fn 12 [] [], true), (31, v3, true), (175, I 4097, true), (176, I k, true)]
/-- The list's cells when k of them are set. -/
def mc (k : Nat) : List AV := (List.range 4097).map fun i => bif decide (i < k) then .sl 1 [[I ((i : Int).tmod 12)]] else .zs
def hm (k : Nat) : Heap := [.cells 0 (mc k)]
def e3m (k : Int) : AV := .sl 1 [[I (k.tmod 12)]]
def E3m (k : Nat) : Env := { hint := hSt 22 (.ref 0 0 k) (e3m k) (hm k) (hm (k + 1)) }
theorem run3m (k : Nat) (h h2 : Heap) : xBody Tryd.prog G0 { hint := hSt 22 (.ref 0 0 k) (e3m k) h h2 } 200 noLoops [0, 1, 2, 31, 175, 176] body3m (st3m k h) =
    .ite (decide ((k : Int) < 4097)) (.need (0 ≤ (k : Int) ∧ (k : Int) < (4097 : Nat) ∧ (objAt h 0 0).isSome = true) (.need (some (AV.ref 0 0 (0 + (k : Int).toNat * 1)) = some (.ref 0 0 k) ∧ some (e3m k) = some (e3m k) ∧ h = h ∧ aStore Tryd.prog h 22 (.ref 0 0 k) (e3m k) = some h2)
      (.leaf (.normal, st3m (IntKind.i64.wrap (k + 1)) h2)))) (.leaf (.exit 6, st3m k h)) := by kernel_rfl
theorem mc_len (k : Nat) : (mc k).length = 4097 := by simp [mc]
theorem mc_set {k : Nat} : (mc k).set k (e3m k) = mc (k + 1) := by
  apply List.ext_getElem
  · simp [mc]
  · intro i h1 h2
    have hi : i < 4097 := by simpa [mc] using h2
    rw [List.getElem_set]
    by_cases h : k = i
    · subst h; simp [mc, e3m]
    · rw [if_neg h]
      have h3 : decide (i < k) = decide (i < k + 1) := by by_cases h4 : i < k <;> simp <;> omega
      simp only [mc, List.getElem_map, List.getElem_range, h3]
theorem store3 {k : Nat} (hk : k < 4097) : aStore Tryd.prog (hm k) 22 (.ref 0 0 k) (e3m k) = some (hm (k + 1)) := by
  obtain ⟨i, h1, h2⟩ := one_of (t := 22) (by kernel_rfl)
  have ho : objAt (hm k) 0 0 = some (mc k) := rfl
  have hc : (e3m k).cells = [e3m k] := rfl
  simp only [aStore, h1, ho, h2, hc]
  have e : setL (mc k) k [e3m k] = mc (k + 1) := by
    rw [← mc_set, List.set_eq_take_append_cons_drop, if_pos (by rw [mc_len]; exact hk)]
    rfl
  rw [if_pos ⟨rfl, by rw [mc_len]; exact hk, rfl⟩, e]
  rfl
theorem round3 {R : Option Nat → Prop} {k : Nat} (hk : k < 4097) : AExec Tryd.prog G0 R body3m { tmps := (st3m k (hm k)).a } (hm k) .normal { tmps := (st3m (k + 1 : Nat) (hm (k + 1))).a } (hm (k + 1)) := by
  refine (xBody_ok (m := []) names mixed (E := E3m k) (.ofH rfl rfl (hSt_ok _ _ _ _ _).ok fun f xs t v h => by cases h) (lpNo body3m) (n := 200) (keep := [0, 1, 2, 31, 175, 176]) (st := st3m k (hm k)) (st' := st3m (k + 1 : Nat) (hm (k + 1))) ?_).1
  have hw : IntKind.i64.wrap ((k : Int) + 1) = ((k + 1 : Nat) : Int) := wrap_i64 (by omega) (by omega)
  refine (congrArg Tree.sel (run3m k (hm k) (hm (k + 1)))).trans ?_
  rw [selI, decide_eq_true (by omega), cond_true, Tree.sel_need ⟨by omega, by omega, rfl⟩, Tree.sel_need ⟨by rw [Int.toNat_natCast, Nat.zero_add, Nat.mul_one], rfl, rfl, store3 hk⟩, hw]
  rfl
theorem loop3 {R : Option Nat → Prop} : ∀ (d k : Nat), k + d = 4097 → ALoopRun Tryd.prog G0 R body3m { tmps := (st3m k (hm k)).a } (hm k) (.exit 6) { tmps := (st3m (4097 : Nat) (hm 4097)).a } (hm 4097)
  | 0, k, hk => by
    obtain rfl : k = 4097 := by omega
    refine .stop (xBody_ok (m := []) names mixed clok0 (lpNo body3m) (n := 200) (keep := [0, 1, 2, 31, 175, 176]) (st := st3m (4097 : Nat) (hm 4097)) (st' := st3m (4097 : Nat) (hm 4097)) ?_).1 nofun
    kernel_rfl
  | d + 1, k, hk => .next (round3 (by omega)) (loop3 d (k + 1) (by omega))
def lp3 : Loops := fun id => match id with
  | 34 => some ([0, 1, 2, 31, 175, 176], st3m (0 : Nat) (hm 0), .leaf (.exit 6, st3m (4097 : Nat) (hm 4097)))
  | _ => none
def s3 : St := .of 355 (hm 4097) [(0, .bool false, false), (1, .fn 11 [] [], true), (2, .fn 12 [] [], true), (31, v3, true)]
def many : List (List AV) := (mc 4097).map fun y => [y]
def s3f : St := .of 355 [] [(0, .bool false, false), (1, .fn 11 [] [], true), (2, .fn 12 [] [], true), (31, .sl 1 many, true)]
def s3e : St := .of 355 [] [(0, .bool true, true)]
theorem p3_0 : (xBody Tryd.prog G0 {} 200 noLoops [0] (k3 0) (st3z [])).sel = some (.normal, .of 355 [] [(0, .bool false, false)]) := by kernel_rfl
theorem p3_1 : (xBody Tryd.prog G0 {} 200 noLoops [0, 1] (k3 1) (.of 355 [] [(0, .bool false, false)])).sel = some (.normal, .of 355 [] [(0, .bool false, false), (1, .fn 11 [] [], false)]) := by kernel_rfl
theorem p3_2 : (xBody Tryd.prog G0 {} 200 noLoops [0, 1, 2] (k3 2) (.of 355 [] [(0, .bool false, false), (1, .fn 11 [] [], true)])).sel = some (.normal, .of 355 [] [(0, .bool false, false), (1, .fn 11 [] [], true), (2, .fn 12 [] [], false)]) := by kernel_rfl
theorem p3_3 : (xBody Tryd.prog G0 EC 200 noLoops [0, 1, 2] (k3 3) (st3 [])).sel = some (.normal, st3 []) := by kernel_rfl
theorem p3_4 : (xBody Tryd.prog G0 EC 200 noLoops [0, 1, 2] (k3 4) (st3 [])).sel = some (.normal, st3 []) := by kernel_rfl
theorem p3_5 : (xBody Tryd.prog G0 EC 200 noLoops [0, 1, 2] (k3 5) (st3 [])).sel = some (.normal, st3 []) := by kernel_rfl
theorem p3_6 : (xBody Tryd.prog G0 {} 200 noLoops [0, 1, 2, 31] (k3 6) (st3 [])).sel = some (.normal, .of 355 (hm 0) [(0, .bool false, false), (1, .fn 11 [] [], true), (2, .fn 12 [] [], true), (31, v3, false)]) := by kernel_rfl
theorem p3_7 : (xBody Tryd.prog G0 {} 200 lp3 [0, 1, 2, 31] (k3 7) (st3v (hm 0))) = .need ((st3m (0 : Nat) (hm 0)).vals = (st3m (0 : Nat) (hm 0)).vals) (.leaf (.normal, s3)) := by kernel_rfl
noncomputable def kk (n : Nat) : Code := fstS (dropS n rest3)
theorem codeR : rest3 = .seq (kk 0) (.seq (kk 1) (.seq (kk 2) (dropS 3 rest3))) := by kernel_rfl
def L12 : List (List Int) := [[0, 1, 2, 3, 4, 5, 6, 7, 8, 9, 10, 11]]
def s3p : St := .of 355 [] [(0, .bool false, false), (1, .fn 11 [] [], true), (2, .fn 12 [] [], true), (31, .sl 1 many, true), (34, I 2, true)]
def s3g (L : List (List Int)) : St := .of 355 [] [(0, .bool false, false), (1, .fn 11 [] [], true), (2, .fn 12 [] [], true), (34, I 2, true), (35, flLL L, true), (36, I 0, true)]
def s3h : St := .of 355 [] [(0, .bool false, false), (1, .fn 11 [] [], true), (2, .fn 12 [] [], true)]
theorem q3_0 : (xBody Tryd.prog G0 EC 200 noLoops [0, 1, 2, 31, 34] (kk 0) s3f).sel = some (.normal, s3p) := by kernel_rfl
theorem q3_1 : (xBody Tryd.prog G0 EC 200 noLoops [0, 1, 2, 34, 35, 36] (kk 1) s3p).sel = some (.normal, s3g L12) := by kernel_rfl
theorem q3_2 : xBody Tryd.prog G0 EC 200 noLoops [0, 1, 2] (kk 2) (s3g L12) = .ite ((2 : Int) != 2) (.leaf (.ret, s3h)) (.ite ((0 : Int) != 0) (.leaf (.ret, s3h)) (.ite (((L12.length : Nat) : Int) != 1) (.leaf (.ret, s3h))
    (.need (0 ≤ (0 : Int) ∧ (0 : Int) < L12.length) (.ite ((((L12.getD (Int.toNat 0) []).length : Nat) : Int) != 12) (.leaf (.ret, s3h)) (.leaf (.normal, s3h)))))) := by kernel_rfl
theorem q3_2s : (xBody Tryd.prog G0 EC 200 noLoops [0, 1, 2] (kk 2) (s3g L12)).sel = some (.normal, s3h) := by
  rw [q3_2]
  exact Tree.sel_need ⟨by omega, by decide⟩
theorem q3_3 : (xBody Tryd.prog G0 EC 200 noLoops [0] (dropS 3 rest3) s3h).sel = some (.ret, s3e) := by kernel_rfl
theorem flat_of {n : Nat} {h : Heap} {l : List (Nat × AV × Bool)} (hl : ∀ p ∈ l, Flat p.2.1) : ∀ x ∈ (St.of n h l).a, Flat x := by
  intro x hx
  simp only [St.a, St.of, List.mem_map] at hx
  obtain ⟨j, _, rfl⟩ := hx
  rcases of_get l .nil j with h1 | ⟨p, hp, h1⟩
  · rw [h1, PT.get_nil]; exact .junk
  · rw [h1]; exact hl p hp
theorem below_of {n : Nat} {h : Heap} {l : List (Nat × AV × Bool)} (hl : ∀ p ∈ l, Below 0 p.2.1) : ∀ x ∈ (St.of n h l).a, Below 0 x := St.of_clean hl
def s3n : List (Nat × AV × Bool) := [(0, .bool false, false), (1, .fn 11 [] [], true), (2, .fn 12 [] [], true)]
theorem s3n_below : ∀ p ∈ s3n, Below 0 p.2.1 := by
  intro p hp
  simp only [s3n, List.mem_cons, List.not_mem_nil, or_false] at hp
  rcases hp with rfl | rfl | rfl
  · exact .bool _
  · exact .fn _ _ _ (fun j x hj => by simp at hj) (fun j x hj => by simp at hj)
  · exact .fn _ _ _ (fun j x hj => by simp at hj) (fun j x hj => by simp at hj)
theorem below_one (n : Int) : Below 0 (.sl 1 [[I n]]) := .sl _ _ fun i r j x hi hj => by
  rw [List.mem_singleton.1 (List.mem_of_getElem? hi)] at hj
  rw [List.mem_singleton.1 (List.mem_of_getElem? hj)]
  exact .int _ _
theorem mc_below (k : Nat) : ∀ y ∈ mc k, Below 0 y := by
  intro y hy
  obtain ⟨i, _, rfl⟩ := List.mem_map.1 hy
  cases decide (i < k) with
  | false => exact .zs
  | true => exact below_one _
theorem of_getS (n : Nat) (h : Heap) (l : List (Nat × AV × Bool)) (r : Nat) (x : AV) (t : Bool) (j : Nat) : (St.of n h (l ++ [(r, x, t)])).a[j]? = if j < n then some (if j = r then x else ((l.foldl (fun t p => t.set p.1 p.2.1 p.2.2) PT.nil).get j).1) else none := by
  simp only [St.a, St.of, List.foldl_append, List.foldl_cons, List.foldl_nil, List.getElem?_map]
  by_cases hj : j < n
  · rw [List.getElem?_range hj, if_pos hj, Option.map_some, PT.get_set]
    split <;> rfl
  · rw [List.getElem?_eq_none (by simp; omega), if_neg hj]; rfl
/-- A frame of which one temporary is taken as data. -/
theorem frz_frame {n : Nat} {σ h h' : Heap} {l : List (Nat × AV × Bool)} {r : Nat} {x x' : AV} {t : Bool} (hl : ∀ p ∈ l, Below 0 p.2.1) (hx : Frz σ x x') : ∀ (j : Nat) (y' : AV), (St.of n h' (l ++ [(r, x', t)])).a[j]? = some y' → ∃ y, (St.of n h (l ++ [(r, x, t)])).a[j]? = some y ∧ Frz σ y y' := by
  intro j y' hj
  rw [of_getS] at hj
  split at hj
  · rename_i hlt
    rw [of_getS, if_pos hlt]
    refine ⟨_, rfl, ?_⟩
    cases hj
    split
    · exact hx
    · refine .inr (.inl ⟨?_, rfl⟩)
      rcases of_get l .nil j with h1 | ⟨p, hp, h1⟩
      · rw [h1, PT.get_nil]; exact .junk
      · rw [h1]; exact hl p hp
  · cases hj
theorem frz3 : Frz (hm 4097) v3 (.sl 1 many) := .inr (.inr ⟨0, 0, mc 4097, by rw [mc_len]; rfl, rfl, mc_below _, rfl⟩)
theorem lpok3 {R : Option Nat → Prop} : LoopsOk Tryd.prog G0 R [] lp3 (k3 7) := by
  refine .of_list _ fun x hx => ?_
  have hl : loopsOf (k3 7) = [body3m] := by kernel_rfl
  have hid : idOf body3m = 34 := by kernel_rfl
  rw [hl] at hx
  obtain rfl := List.mem_singleton.1 hx
  intro kp s0 t e st' h' hs
  rw [hid] at h'
  cases h'
  cases hs
  exact ⟨.loop (loop3 4097 0 (by omega)), rfl⟩
/-- CoreKnown, from nothing. -/
theorem exec3 : AExec Tryd.prog G0 (fun r => r = none) (bodyOf Tryd.prog 3) { tmps := (st3z []).a } [] .ret { tmps := s3e.a } (hm 4097) := by
  rw [code3]
  refine .seq (xBody_ok (m := []) names mixed clok0 (lpNo _) p3_0).1 (.seq (xBody_ok (m := []) names mixed clok0 (lpNo _) p3_1).1 (.seq (xBody_ok (m := []) names mixed clok0 (lpNo _) p3_2).1
    (.seq (xBody_ok (m := []) (st := st3 []) names mixed clokC (lpNo _) p3_3).1 (.seq (xBody_ok (m := []) names mixed clokC (lpNo _) p3_4).1 (.seq (xBody_ok (m := []) names mixed clokC (lpNo _) p3_5).1 (.seq (xBody_ok (m := []) names mixed clok0 (lpNo _) p3_6).1
      (.seq (xBody_ok (m := []) (st := st3v (hm 0)) (st' := s3) names mixed clok0 lpok3 (by rw [p3_7, selR]; rfl)).1 ?_)))))))
  refine AExec.frz (a' := s3f.a) (σ0 := []) ?_ gbelow0 (flat_of (fun p hp => ?_)) (by simp [s3, s3f, St.a, St.of]) (frz_frame (l := s3n) s3n_below frz3)
  · rw [codeR]
    exact .seq (xBody_ok (m := []) names mixed clokC (lpNo _) q3_0).1 (.seq (xBody_ok (m := []) names mixed clokC (lpNo _) q3_1).1 (.seq (xBody_ok (m := []) names mixed clokC (lpNo _) q3_2s).1 (xBody_ok (m := []) names mixed clokC (lpNo _) q3_3).1))
  · rw [List.mem_singleton.1 hp]; exact .bool _
end Go.Proofs.YtjljigccgaadaaaDoor.Am

namespace Go.Proofs.YtjljigccgaadaaaDoor.Am
open Go Go.ChangeShapes Go.WideShapes Go.ChangeAt Go.RowKit
set_option maxRecDepth 100000

theorem own : ownKnob Tryd.prog.godebug = none := by kernel_rfl
theorem gN : Tryd.prog.globalNamed "math/bits.deBruijn64tab" = some 0 := by kernel_rfl
theorem gT : (Tryd.prog.globals[0]?).map (·.type) = some 94 := by kernel_rfl
theorem c5 : Tryd.prog.cellsOf 5 = 1 := by kernel_rfl
def laidL : List (String × DataW Unit) := [("math/bits.deBruijn64tab", Rows.laid_math_bits_deBruijn64tab)]
def tabD : List (DataW Unit) := tabL.map fun (n : Nat) => .lit (.int .u8 (n : Int))
theorem tabD_eq : (Rows.laid_math_bits_deBruijn64tab : DataW Unit) = .agg tabD := by kernel_rfl
/-- From the listed table to the walk's fact. -/
theorem tab_of_laid {W : World} (h : laidMet Tryd.prog laidL W) : ∀ g cs, G0 g = some cs → RV W M0 (.pointer (some ⟨g, 0, none⟩)) (.row cs 0) := by
  intro g cs hg
  obtain ⟨g', t, vs, fuel, p, h1, h2, h3, h4⟩ := Go.Lib.laidMet.reads h (List.mem_singleton.2 rfl)
  obtain rfl := Option.some.inj (gN.symm.trans h1)
  obtain rfl := Option.some.inj (gT.symm.trans h2)
  rw [tabD_eq] at h4
  unfold G0 at hg
  split at hg
  · cases hg
    have hcell : ∀ j, j < 64 → W.cell? ⟨0, j, none⟩ = some (.int .u8 ((tabL.getD j 0 : Nat) : Int)) := by
      intro j hj
      obtain ⟨fuel', d, q, hd, hr⟩ := Go.Lib.array_elem Tryd.underlying94 h4 j hj
      rw [c5, Nat.mul_one] at hr
      obtain ⟨n, hcs, hx, _⟩ := DataW.trod_int Tryd.underlying5 hr
      have hdj : tabD[j]? = some (.lit (.int .u8 ((tabL.getD j 0 : Nat) : Int))) := by
        have hl : j < tabL.length := hj
        unfold tabD
        rw [List.getElem?_map, List.getD_eq_getElem?_getD, List.getElem?_eq_getElem hl]
        rfl
      rw [hdj] at hd
      cases hd
      obtain ⟨hn, _⟩ := Prod.mk.inj hx
      have hn' : ((tabL.getD j 0 : Nat) : Int) = n := by simpa using hn
      have h0 : vs.toList[j]? = some (.int .u8 n) := by
        have := congrArg (fun l => l[0]?) hcs
        simpa [List.getElem?_take, List.getElem?_drop] using this
      have hv := World.var?_cell gN h3 j
      rw [hv, hn', ← h0]
      simp
    have hb : (0 : Nat) < W.heap.size := by
      have := hcell 0 (by omega)
      exact (cell_spot this).2
    refine .row 0 0 0 (fun j => .int .u8 ((tabL.getD j 0 : Nat) : Int)) tabC (imm_top hb) (fun j hj => ?_) (fun j x hx => ?_)
    · rw [Nat.zero_add]; exact hcell j hj
    · unfold tabC at hx
      rw [List.getElem?_map] at hx
      obtain ⟨n, hn, rfl⟩ := Option.map_eq_some_iff.1 hx
      rw [List.getD_eq_getElem?_getD, hn]
      exact .int _ _
  · cases hg
def tabVals : Array Value := (tabL.map fun (n : Nat) => Value.int .u8 (n : Int)).toArray
/-- The settled world, but the table holds what it holds. -/
noncomputable def tabWorld (os : Os) : World :=
  let w0 := World.holding Tryd.prog os ⟨#[], #[], []⟩
  { w0 with heap := w0.heap.modify 0 fun
      | .cells _ t frozen => .cells tabVals t frozen
      | o => o }
theorem tab_met (os : Os) (args : Array Value) : laidMet Tryd.prog laidL ((tabWorld os).forCall (fun _ _ => 0) ⟨#[], args, []⟩).memory :=
  laidMet_of_run (ps := (List.range 64).map fun i => .cell 0 i) 8 (by kernel_rfl) (by kernel_rfl) (by kernel_rfl)
end Go.Proofs.YtjljigccgaadaaaDoor.Am

namespace Go.Proofs.YtjljigccgaadaaaDoor.Am
open Go
section
variable {P : Program} {G : Nat → Option (List AV)}

/-! ### Is a slice nil? -/
/-- What is known of it: of one without room nothing. -/
def hNil (t : TypeId) : Heap → Oper → (Operand → Option AV) → Option (AV × Bool × Heap × Prop) := fun h o ρ => match o.op with
  | .binOp .eql t' x (.const (.slice none 0 0)) _ => if t' = t then match ρ x with
    | some .zs => some (.anyb, true, h, True)
    | some (.ms _ r g _ _ _) => some (.bool false, true, h, (objAt h r g).isSome = true)
    | some (.fl _ _ _) => some (.anyb, true, h, True)
    | some (.sl _ _) => some (.anyb, true, h, True)
    | _ => none
    else none
  | _ => none
theorem eq_nil {t e : TypeId} (hu : P.underlying t = some (.slice e)) (p : Option Addr) (l c : Nat) (w : World) : (Op.equal t (.slice p l c) (.slice none 0 0)).run P w = .ok p.isNone w := by
  show (Op.equalIn (9999 + 1) t _ _).run P w = _
  unfold Op.equalIn
  cases p <;> simp [run_underlying', hu]
theorem step_nil {t e : TypeId} (hu : P.underlying t = some (.slice e)) {a : AAct} {σ : Heap} {o : Oper} {x : Operand} {z : TypeId} {v y : AV} (ho : o.op = .binOp .eql t x (.const (.slice none 0 0)) z) (hx : ev G a.tmps x = some v)
    (hv : ∀ w M u, Inv G w M σ → RV w M u v → ∃ p l c, u = .slice p l c ∧ RV w M (.bool p.isNone) y) : AStep P G a σ o y σ := by
  intro r0 w M ac K Q hi ha hK
  refine ⟨fun f _ => FW_fn r0 f, ?_⟩
  have hnd : ∀ c, o.op ≠ .defer c := fun c' h => by rw [ho] at h; cases h
  rw [Oper.semAt_eq _ _ _ hnd]
  obtain ⟨p, l, c, hu2, hy⟩ := hv w M _ hi (ev_ok hi ha.tmps hx)
  have hrun : (execOp ac.eval o).run P w = .ok (.value (.bool p.isNone)) w := by
    unfold execOp
    simp only [ho]
    have h1 : ac.eval (.const (.slice none 0 0)) = .slice none 0 0 := rfl
    have hg : (eqGuard .eql t x (.const (.slice none 0 0)) (.slice p l c) (.slice none 0 0)).run P w = .ok () w := rfl
    simp only [hu2, h1, Sem.run_bind, hg, Result.andThen_ok, binOp, eq_nil hu]
    rfl
  rw [hrun]
  exact hK _ w M hy (.refl w M) hi
theorem hNil_ok {t e : TypeId} (hu : P.underlying t = some (.slice e)) : HintOk P G (hNil t) := by
  refine ⟨fun h o a m y s h' p hh hp => ?_, fun h o ρ y s h' p hh hp _ => ?_⟩
  · unfold hNil at hh
    split at hh
    · rename_i t' x z ho
      split at hh
      · rename_i ht
        subst ht
        split at hh
        · rename_i hx
          cases hh
          exact step_nil hu ho hx fun w M u _ hr => by cases hr; exact ⟨_, _, _, rfl, .anyb _⟩
        · rename_i hx
          cases hh
          exact step_nil hu ho hx fun w M u hi hr => by
            obtain ⟨c, hc⟩ := Option.isSome_iff_exists.1 hp
            obtain ⟨b, cs, e, hm, hh, hl, hx⟩ := hi.obj hc
            cases hr with
            | ms _ _ _ _ _ _ b' capc c' e' hm' hlen hcc hsz hfit => exact ⟨_, _, _, rfl, .bool _⟩
            | msS _ _ _ _ _ _ b' g' p capc hm' hg =>
              rw [hm] at hm'
              obtain ⟨_, rfl⟩ := Prod.mk.inj (Option.some.inj hm')
              omega
        · rename_i hx
          cases hh
          exact step_nil hu ho hx fun w M u _ hr => by
            cases hr with
            | fl _ _ _ _ hr =>
              generalize (List.range _).map _ = rows at hr
              cases hr with
              | sl0 base cap size => exact ⟨_, _, _, rfl, .anyb _⟩
              | sl b o cap size f rows hb hc hl h hcap => exact ⟨_, _, _, rfl, .anyb _⟩
        · rename_i hx
          cases hh
          exact step_nil hu ho hx fun w M u _ hr => by
            cases hr with
            | sl0 base cap size => exact ⟨_, _, _, rfl, .anyb _⟩
            | sl b o cap size f rows hb hc hl h hcap => exact ⟨_, _, _, rfl, .anyb _⟩
        · cases hh
      · cases hh
    · cases hh
  · unfold hNil at hh
    split at hh
    · split at hh
      · split at hh
        · cases hh; rfl
        · cases hh; rfl
        · cases hh; rfl
        · cases hh; rfl
        · cases hh
      · cases hh
    · cases hh

/-- One that has elements is not. -/
def hNilF (t : TypeId) : Heap → Oper → (Operand → Option AV) → Option (AV × Bool × Heap × Prop) := fun h o ρ => match o.op with
  | .binOp .eql t' x (.const (.slice none 0 0)) _ => if t' = t then match ρ x with
    | some (.fl _ n _) => some (.bool false, true, h, 0 < n)
    | some (.sl _ rows) => some (.bool false, true, h, 0 < rows.length)
    | _ => none
    else none
  | _ => none
theorem hNilF_ok {t e : TypeId} (hu : P.underlying t = some (.slice e)) : HintOk P G (hNilF t) := by
  refine ⟨fun h o a m y s h' p hh hp => ?_, fun h o ρ y s h' p hh hp _ => ?_⟩
  · unfold hNilF at hh
    split at hh
    · rename_i t' x z ho
      split at hh
      · rename_i ht
        subst ht
        split at hh
        · rename_i size n rows hx
          cases hh
          exact step_nil hu ho hx fun w M u _ hr => by
            cases hr with
            | fl _ _ _ _ hr =>
              generalize hrows : (List.range n).map rows = rws at hr
              have hlen : rws.length = n := by rw [← hrows]; simp
              cases hr with
              | sl0 base cap size => simp at hlen; omega
              | sl b o cap size f rows hb hc hl h hcap => exact ⟨_, _, _, rfl, .bool _⟩
        · rename_i size rows hx
          cases hh
          exact step_nil hu ho hx fun w M u _ hr => by
            cases hr with
            | sl0 base cap size => simp at hp
            | sl b o cap size f rows hb hc hl h hcap => exact ⟨_, _, _, rfl, .bool _⟩
        · cases hh
      · cases hh
    · cases hh
  · unfold hNilF at hh
    split at hh
    · split at hh
      · split at hh
        · cases hh; rfl
        · cases hh; rfl
        · cases hh
      · cases hh
    · cases hh

/-! ### A truth value that is not known -/
theorem RAct.known {w : World} {M : Map} {ac : Act} {a : List AV} {m : List Nat} (ha : RAct w M ac { tmps := a, marks := m }) {i : Nat} (hi : a[i]? = some .anyb) : ∃ b, ac.tmps.getD i undef = .bool b ∧ RAct w M ac { tmps := a.set i (.bool b), marks := m } := by
  have hv := ha.tmps.2 i .anyb hi
  generalize hu : ac.tmps.getD i undef = u at hv
  cases hv with
  | anyb b =>
    refine ⟨b, rfl, ⟨by rw [ha.tmps.1]; simp, fun j x hj => ?_⟩, ha.marks⟩
    rw [List.getElem?_set] at hj
    split at hj
    · rename_i hij
      subst hij
      split at hj
      · cases hj; rw [hu]; exact .bool b
      · cases hj
    · exact ha.tmps.2 j x hj
/-- A truth value that is not known decides between a return and going on. -/
theorem AExec.fork {R : Option Nat → Prop} {x y n z : Code} {a a1 a2 : List AV} {a' : AAct} {σ σ1 σ2 σ' : Heap} {e : Exit} {i : Nat} (hx : AExec P G R x { tmps := a } σ .normal { tmps := a1 } σ1) (hi : a1[i]? = some .anyb) (he : e ≠ .normal)
    (ht : AExec P G R y { tmps := a1.set i (.bool true) } σ1 e a' σ') (hf : AExec P G R n { tmps := a1.set i (.bool false) } σ1 .normal { tmps := a2 } σ2) (hz : AExec P G R z { tmps := a2 } σ2 e a' σ') :
    AExec P G R (.seq (.seq x (.cond (.tmp i) y n)) z) { tmps := a } σ e a' σ' :=
  fun r0 hr w M ac Q hinv ha hQ => wpIn_seq (wpIn_seq (hx r0 hr w M ac _ hinv ha fun w1 M1 ac1 h1 hi1 ha1 => by
    obtain ⟨b, hb, hab⟩ := ha1.known hi
    refine wpIn_cond (t := b) hb ?_
    cases b with
    | true =>
      refine ht r0 hr w1 M1 ac1 _ hi1 hab fun w2 M2 ac2 h2 hi2 ha2 => ?_
      have := hQ w2 M2 ac2 (h1.trans h2) hi2 ha2
      cases e <;> first | exact this | exact absurd rfl he
    | false =>
      exact hf r0 hr w1 M1 ac1 _ hi1 hab fun w2 M2 ac2 h2 hi2 ha2 => hz r0 hr w2 M2 ac2 _ hi2 ha2 fun w3 M3 ac3 h3 hi3 ha3 => hQ w3 M3 ac3 ((h1.trans h2).trans h3) hi3 ha3))
end
end Go.Proofs.YtjljigccgaadaaaDoor.Am

namespace Go.Proofs.YtjljigccgaadaaaDoor.Am
open Go
set_option maxRecDepth 100000

/-! ### Compare -/
def cmp2 (x y : Int) : Int := bif decide (x < y) then -1 else bif decide (x > y) then 1 else 0
theorem run59 (x y : Int) (h : Heap) : xCall Tryd.prog G0 {} 200 59 [I x, I y] [true, true] h =
    .ite (x != x) (.ite (y != y) (.leaf (I 0, false, h)) (.leaf (I (-1), false, h))) (.ite (y != y) (.leaf (I 1, false, h)) (.ite (decide (x < y)) (.leaf (I (-1), false, h)) (.ite (decide (x > y)) (.leaf (I 1, false, h)) (.leaf (I 0, false, h))))) := by kernel_rfl
theorem c59 (x y : Int) (h : Heap) : ACall Tryd.prog G0 59 [I x, I y] h (I (cmp2 x y)) h := by
  refine xCall_ok (n := 200) (tags := [true, true]) (s := false) names mixed clok0 ?_
  rw [run59, selI, bne_self_eq_false, cond_false, selI, bne_self_eq_false, cond_false, selI, selI]
  unfold cmp2
  cases decide (x < y) <;> cases decide (x > y) <;> rfl
def cl34 : FuncId → List AV → Option (Tree AV) := fun f xs => match f, xs with
  | 59, [.int .i64 x, .int .i64 y] => some (.leaf (I (cmp2 x y)))
  | _, _ => none
theorem clok34 : ClOk Tryd.prog G0 { cl := cl34 } := .of rfl rfl fun f xs t v hq hs σ => by
  replace hq : cl34 f xs = some t := hq
  unfold cl34 at hq
  split at hq <;> first | (cases hq; done) | skip
  cases hq
  cases hs
  exact c59 _ _ σ
noncomputable def body34 : Code := (loopsOf (bodyOf Tryd.prog 34)).headD .skip
def st34 (a b : List Int) (k r : Int) (t : Bool) (h : Heap) : St := .of 36 h [(0, flL a, true), (1, flL b, true), (4, I r, t), (9, flL a, true), (10, I a.length, true), (11, I k, true)]
theorem run34 (a b : List Int) (k : Nat) (h : Heap) : xBody Tryd.prog G0 { cl := cl34 } 200 noLoops [0, 1, 4, 9, 10, 11] body34 (st34 a b k 0 false h) =
    .ite (decide ((k : Int) < a.length)) (.need (0 ≤ (k : Int) ∧ (k : Int) < a.length) (.ite (decide ((k : Int) ≥ b.length)) (.leaf (.ret, st34 a b k 1 false h)) (.need (0 ≤ (k : Int) ∧ (k : Int) < b.length)
      (.ite (cmp2 (a.getD (k : Int).toNat 0) (b.getD (k : Int).toNat 0) != 0) (.leaf (.ret, st34 a b k (cmp2 (a.getD (k : Int).toNat 0) (b.getD (k : Int).toNat 0)) true h)) (.leaf (.normal, st34 a b (IntKind.i64.wrap (k + 1)) 0 false h)))))) (.leaf (.exit 0, st34 a b k 0 false h)) := by kernel_rfl
def stop34 (a b : List Int) (k : Nat) : Bool := decide (b.length ≤ k) || cmp2 (a.getD k 0) (b.getD k 0) != 0
def r34 (a b : List Int) (k : Nat) : Int := bif decide (b.length ≤ k) then 1 else cmp2 (a.getD k 0) (b.getD k 0)
def t34 (b : List Int) (k : Nat) : Bool := !decide (b.length ≤ k)
theorem scan34 {a b : List Int} (hl : a.length < 4611686018427387904) (h : Heap) : Scan body34 [0, 1, 4, 9, 10, 11] a.length (fun k => st34 a b k 0 false h) (fun k => st34 a b k (r34 a b k) (t34 b k) h) (st34 a b a.length 0 false h) (stop34 a b) := by
  refine ⟨fun _ => rfl, fun _ => rfl, rfl, fun k hk => ⟨_, clok34, ?_⟩⟩
  rw [run34, selI]
  by_cases hlt : k < a.length
  · have hw : IntKind.i64.wrap ((k : Int) + 1) = ((k + 1 : Nat) : Int) := wrap_i64 (by omega) (by omega)
    rw [decide_eq_true (by omega), decide_eq_true hlt, cond_true, cond_true, Tree.sel_need ⟨by omega, by omega⟩, selI, Int.toNat_natCast, hw]
    unfold stop34 r34 t34
    by_cases hb : b.length ≤ k
    · rw [decide_eq_true hb, decide_eq_true (by omega)]; rfl
    · rw [decide_eq_false hb, decide_eq_false (by omega), cond_false, Tree.sel_need ⟨by omega, by omega⟩, selI]
      cases cmp2 (a.getD k 0) (b.getD k 0) != 0 <;> rfl
  · have : k = a.length := by omega
    subst this
    rw [decide_eq_false (by omega), decide_eq_false hlt]
    rfl
theorem loops34 : loopsOf (bodyOf Tryd.prog 34) = [body34] := by kernel_rfl
theorem id34 : idOf body34 = 2 := by kernel_rfl
theorem runF34 (a b : List Int) (h : Heap) (t : Bool) (p q r : Int) (s : Bool) : xenter Tryd.prog { cl := cl34 } (xCode Tryd.prog G0 { cl := cl34 } 200 (lpS 2 [0, 1, 4, 9, 10, 11] (st34 a b 0 0 false h) t (st34 a b p r s h) (st34 a b q 0 false h))) 34 [flL a, flL b] [true, true] h =
    .need ((st34 a b 0 0 false h).vals = (st34 a b 0 0 false h).vals) (.ite t (.leaf (I r, s || false, h)) (.ite (decide ((a.length : Int) < b.length)) (.leaf (I (-1), false, h)) (.leaf (I 0, false, h)))) := by kernel_rfl
/-- How two lists compare. -/
def cmpL : List Int → List Int → Int
  | [], [] => 0
  | [], _ :: _ => -1
  | _ :: _, [] => 1
  | x :: a, y :: b => bif cmp2 x y == 0 then cmpL a b else cmp2 x y
def res34 (a b : List Int) (p : Nat) : Int := bif decide (p < a.length) then r34 a b p else bif decide ((a.length : Int) < b.length) then -1 else 0
theorem res34_eq (a b : List Int) : ∀ (d k : Nat), k + d = a.length → k ≤ b.length → res34 a b (fstStop (stop34 a b) d k) = cmpL (a.drop k) (b.drop k)
  | 0, k, hk, hb => by
    simp only [fstStop]
    unfold res34
    rw [decide_eq_false (by omega), cond_false, List.drop_eq_nil_of_le (by omega : a.length ≤ k)]
    by_cases h : b.length ≤ k
    · rw [List.drop_eq_nil_of_le h, decide_eq_false (by omega)]; rfl
    · rw [List.drop_eq_getElem_cons (by omega : k < b.length), decide_eq_true (by omega)]; rfl
  | d + 1, k, hk, hb => by
    have hlt : k < a.length := by omega
    have ga : a.getD k 0 = a[k] := by simp [List.getD_eq_getElem?_getD, hlt]
    unfold fstStop
    rw [List.drop_eq_getElem_cons hlt]
    cases hs : stop34 a b k with
    | true =>
      simp only [if_true]
      unfold res34 r34
      rw [decide_eq_true hlt, cond_true]
      by_cases h : b.length ≤ k
      · rw [List.drop_eq_nil_of_le h, decide_eq_true h]; rfl
      · have hbl : k < b.length := by omega
        have gb : b.getD k 0 = b[k] := by simp [List.getD_eq_getElem?_getD, hbl]
        unfold stop34 at hs
        rw [decide_eq_false h, Bool.false_or, ga, gb] at hs
        rw [List.drop_eq_getElem_cons hbl, decide_eq_false h, cond_false, ga, gb, cmpL, beq_false_of_ne (bne_iff_ne.1 hs), cond_false]
    | false =>
      simp only [Bool.false_eq_true, if_false]
      unfold stop34 at hs
      obtain ⟨h1, h2⟩ := Bool.or_eq_false_iff.1 hs
      have hbl : k < b.length := by have := of_decide_eq_false h1; omega
      have gb : b.getD k 0 = b[k] := by simp [List.getD_eq_getElem?_getD, hbl]
      rw [ga, gb] at h2
      rw [res34_eq a b d (k + 1) (by omega) (by omega), List.drop_eq_getElem_cons hbl, cmpL, bne_eq_false_iff_eq.1 h2]
      rfl
theorem c34 {a b : List Int} (hl : a.length < 4611686018427387904) (h : Heap) : ACall Tryd.prog G0 34 [flL a, flL b] h (I (cmpL a b)) h := by
  have hp := res34_eq a b a.length 0 (by omega) (by omega)
  rw [List.drop_zero, List.drop_zero] at hp
  rw [← hp]
  refine .find (s := bif decide (fstStop (stop34 a b) a.length 0 < a.length) then (t34 b (fstStop (stop34 a b) a.length 0) || false) else false) (n := 200) (tags := [true, true]) clok34 ((scan34 (b := b) hl h).ok loops34 id34) ?_
  refine (congrArg Tree.sel (runF34 a b h _ _ _ _ _)).trans ?_
  rw [selR, selI]
  unfold res34
  cases decide (fstStop (stop34 a b) a.length 0 < a.length) with
  | true => rfl
  | false => rw [cond_false, selI]; cases decide ((a.length : Int) < b.length) <;> rfl
end Go.Proofs.YtjljigccgaadaaaDoor.Am

namespace Go.Proofs.YtjljigccgaadaaaDoor.Am
open Go
set_option maxRecDepth 100000

noncomputable def b31 : Code := bodyOf Tryd.prog 31
noncomputable def cdY : Code → Code | .cond _ y _ => y | c => c
noncomputable def cdN : Code → Code | .cond _ _ y => y | c => c
noncomputable def x31 : Code := fstS (fstS (sndS b31))
noncomputable def y31 : Code := cdY (sndS (fstS (sndS b31)))
noncomputable def n31 : Code := cdN (sndS (fstS (sndS b31)))
noncomputable def z31 : Code := sndS (sndS b31)
theorem code31 : bodyOf Tryd.prog 31 = .seq (fstS b31) (.seq (.seq x31 (.cond (.tmp 4) y31 n31)) z31) := by kernel_rfl
def s31 (x : AV) (h : Heap) : St := .of 8 h [(0, x, true)]
def s31b (x y : AV) (h : Heap) : St := .of 8 h [(0, x, true), (4, y, true)]
def s31r (h : Heap) : St := .of 8 h [(2, .zs, true)]
def E31 : Env := { hint := hNil 22 }
theorem clok31 : ClOk Tryd.prog G0 E31 := .ofH rfl rfl (hNil_ok Tryd.underlying22) fun f xs t v h => by cases h
/-- An empty slice. -/
def z0 : AV := .sl 1 []
theorem run31r (h : Heap) : xBody Tryd.prog G0 {} 200 noLoops [0] (fstS b31) (s31 z0 h) = .leaf (.normal, s31 z0 h) := by kernel_rfl
theorem run31x (h : Heap) : xBody Tryd.prog G0 E31 200 noLoops [0, 4] x31 (s31 z0 h) = .need True (.leaf (.normal, s31b z0 .anyb h)) := by kernel_rfl
theorem run31y (h : Heap) : (xBody Tryd.prog G0 {} 200 noLoops [2] y31 (s31b z0 (.bool true) h)).sel = some (.ret, .of 8 h [(2, .zs, false)]) := by kernel_rfl
theorem run31n (h : Heap) : (xBody Tryd.prog G0 {} 200 noLoops [0] n31 (s31b z0 (.bool false) h)).sel = some (.normal, s31 z0 h) := by kernel_rfl
theorem run31z (h : Heap) : (xBody Tryd.prog G0 {} 200 noLoops [2] z31 (s31 z0 h)) = .need (true = true) (.leaf (.ret, s31r h)) := by kernel_rfl
theorem set31 (b : Bool) (h : Heap) : ((s31b z0 .anyb h).a).set 4 (.bool b) = (s31b z0 (.bool b) h).a := by kernel_rfl
theorem exec31 {R : Option Nat → Prop} (h : Heap) : AExec Tryd.prog G0 R (bodyOf Tryd.prog 31) { tmps := (s31 z0 h).a } h .ret { tmps := (s31r h).a } h := by
  rw [code31]
  have x0 := (xBody_ok (m := []) (R := R) names mixed clok0 (lpNo _) (congrArg Tree.sel (run31r h))).1
  have x1 := (xBody_ok (m := []) (R := R) names mixed clok31 (lpNo x31) (n := 200) (keep := [0, 4]) (st := s31 z0 h) (st' := s31b z0 .anyb h) (by rw [run31x, Tree.sel_need trivial]; rfl)).1
  have x2 := (xBody_ok (m := []) (R := R) names mixed clok0 (lpNo _) (run31y h)).1
  have x3 := (xBody_ok (m := []) (R := R) names mixed clok0 (lpNo _) (run31n h)).1
  have x4 := (xBody_ok (m := []) (R := R) names mixed clok0 (lpNo z31) (n := 200) (keep := [2]) (st := s31 z0 h) (st' := s31r h) (by rw [run31z, Tree.sel_need rfl]; rfl)).1
  have e : (St.of 8 h [(2, AV.zs, false)]).a = (s31r h).a := by kernel_rfl
  rw [e, ← set31] at x2
  rw [← set31] at x3
  exact .seq x0 (AExec.fork x1 (i := 4) (by kernel_rfl) (by simp) x2 x3 x4)
theorem c31e (h : Heap) : ACall Tryd.prog G0 31 [z0] h .zs h := by
  obtain ⟨fn, c, k1, k2, k3⟩ := fnOf (f := 31) (by kernel_rfl)
  have hall := exec31 (R := fun r => r = none) h
  rw [k3] at hall
  have hres : fn.results.toList = [.tmp 2] := by
    have : (Tryd.prog.funcs[31]?).map (·.results.toList) = some [.tmp 2] := by kernel_rfl
    rw [k1] at this
    exact Option.some.inj this
  have hnt : fn.ntmps = 8 := by
    have : (Tryd.prog.funcs[31]?).map (·.ntmps) = some 8 := by kernel_rfl
    rw [k1] at this
    exact Option.some.inj this
  refine ACall.of_body (args := [z0]) (xs := [.zs]) k1 k2 (names 31 fn k1) (.weak ?_ hall) (.inr rfl) ?_
  · have e : (s31 z0 h).a = z0 :: List.replicate 7 .junk := by kernel_rfl
    rw [hnt, e]
    refine ⟨by simp, fun j y hj => ?_⟩
    match j, hj with
    | 0, hj => exact .inr hj
    | j + 1, hj => exact .inl (List.eq_of_mem_replicate (n := 7) (List.mem_of_getElem? (i := j) (by simpa using hj)))
  · rw [hres]
    have : (s31r h).a[2]? = some .zs := by kernel_rfl
    simp only [aResults, aResult, this]
theorem run31s (L : List Int) (v : AV) (h h1 : Heap) : xCall Tryd.prog G0 { hint := orH (hNilF 22) (hApp 22 .zs (slL L) v h h1) } 200 31 [slL L] [true] h =
    .need (0 < ((L.map I).map fun y => ([y] : List AV)).length) (.ite false (.leaf (.zs, false, h)) (.need (some ([.zs, slL L] : List AV) = some [.zs, slL L] ∧ #[22, 22] = #[22, 22] ∧ h = h ∧ aAppend Tryd.prog h 22 22 .zs (slL L) = some (v, h1)) (.leaf (v, true, h1)))) := by kernel_rfl
theorem run31m (v : AV) (r g m : Nat) (h h1 : Heap) : xCall Tryd.prog G0 { hint := orH (hNil 22) (hApp 22 .zs (.ms 1 r g 0 m m) v h h1) } 200 31 [.ms 1 r g 0 m m] [true] h =
    .need ((objAt h r g).isSome = true) (.ite false (.leaf (.zs, false, h)) (.need (some ([.zs, .ms 1 r g 0 m m] : List AV) = some [.zs, .ms 1 r g 0 m m] ∧ #[22, 22] = #[22, 22] ∧ h = h ∧ aAppend Tryd.prog h 22 22 .zs (.ms 1 r g 0 m m) = some (v, h1)) (.leaf (v, true, h1)))) := by kernel_rfl
/-- Appending to nothing. -/
theorem append_zs {t e : TypeId} (he : Elem1 t e) (h : Heap) (x : AV) {L : List AV} (hc : conts h 1 x = some (L.length, L)) (hone : L.all AV.one = true) (hl : L.length ≤ 16777216) (h0 : L ≠ []) :
    aAppend Tryd.prog h t t .zs x = some (.ms 1 h.length 0 0 L.length L.length, h ++ [.cells 0 L]) := by
  obtain ⟨ie, zx, h1, h2, h3, h4, h5, h6⟩ := he.i
  have hn : notInt Tryd.prog t = true := by unfold notInt; rw [he.u]
  unfold aAppend
  rw [he.u]
  simp only [h1, h2, h3, hc]
  have hL : ¬ L.length = 0 := by simpa using h0
  simp only [hn, hone, h4, h5, h6, and_self, if_true, hL, if_false, hl]
theorem one_map (L : List Int) : (L.map I).all AV.one = true := by
  rw [List.all_eq_true]
  intro x hx
  obtain ⟨n, _, rfl⟩ := List.mem_map.1 hx
  rfl
theorem flat_one (l : List AV) : (l.map fun y => ([y] : List AV)).flatten = l := by
  induction l with
  | nil => rfl
  | cons x r ih => simp [ih]
theorem sub_flL (L : List Int) : Sub (flL L) (slL L) := fun _ _ _ h => h.flL_to
/-- THE COPY OF A LIST, a new slice. -/
theorem c31s {L : List Int} (h0 : L ≠ []) (hl : L.length ≤ 16777216) (h : Heap) : ACall Tryd.prog G0 31 [flL L] h (.ms 1 h.length 0 0 L.length L.length) (h ++ [.cells 0 (L.map I)]) := by
  have hpos : 0 < L.length := List.length_pos_iff.2 h0
  have ha := append_zs el22 h (slL L) (L := L.map I) (by unfold slL; simp only [conts, if_true, flat_one, List.length_map]) (one_map L) (by simpa using hl) (by simpa using h0)
  rw [List.length_map] at ha
  have key : ACall Tryd.prog G0 31 [slL L] h (.ms 1 h.length 0 0 L.length L.length) (h ++ [.cells 0 (L.map I)]) := by
    refine xCall_ok (n := 200) (tags := [true]) (s := true) (E := { hint := orH (hNilF 22) (hApp 22 .zs (slL L) (.ms 1 h.length 0 0 L.length L.length) h (h ++ [.cells 0 (L.map I)])) }) names mixed (.ofH rfl rfl ((hNilF_ok Tryd.underlying22).or (hApp_ok _ _ _ _ _ _).ok) fun f xs t v h => by cases h) ?_
    refine (congrArg Tree.sel (run31s L _ h _)).trans ?_
    rw [Tree.sel_need (by simpa using hpos), selI, cond_false, Tree.sel_need ⟨rfl, rfl, rfl, ha⟩]
    rfl
  refine key.args rfl fun j x' hj => ?_
  match j, hj with
  | 0, hj => cases hj; exact ⟨_, rfl, sub_flL L⟩
  | j + 1, hj => simp at hj
theorem c31m {L : List Int} (h0 : L ≠ []) (hl : L.length ≤ 16777216) {h : Heap} {r g : Nat} (ho : objAt h r g = some (L.map I)) : ACall Tryd.prog G0 31 [.ms 1 r g 0 L.length L.length] h (.ms 1 h.length 0 0 L.length L.length) (h ++ [.cells 0 (L.map I)]) := by
  have ha := append_zs el22 h (.ms 1 r g 0 L.length L.length) (L := L.map I) (by unfold conts; simp [ho, List.take_of_length_le]) (one_map L) (by simpa using hl) (by simpa using h0)
  rw [List.length_map] at ha
  refine xCall_ok (n := 200) (tags := [true]) (s := true) (E := { hint := orH (hNil 22) (hApp 22 .zs (.ms 1 r g 0 L.length L.length) (.ms 1 h.length 0 0 L.length L.length) h (h ++ [.cells 0 (L.map I)])) }) names mixed (.ofH rfl rfl ((hNil_ok Tryd.underlying22).or (hApp_ok _ _ _ _ _ _).ok) fun f xs t v h => by cases h) ?_
  refine (congrArg Tree.sel (run31m _ r g L.length h _)).trans ?_
  rw [Tree.sel_need (by rw [ho]; rfl), selI, cond_false, Tree.sel_need ⟨rfl, rfl, rfl, ha⟩]
  rfl
/-- A new slice of integers, told as data. -/
theorem ACall.newL {f : FuncId} {args : List AV} {L : List Int} {h : Heap} (hc : ACall Tryd.prog G0 f args h (.ms 1 h.length 0 0 L.length L.length) (h ++ [.cells 0 (L.map I)])) : ACall Tryd.prog G0 f args h (flL L) h := by
  have hc' : ACall Tryd.prog G0 f args h (.ms 1 h.length 0 0 (L.map I).length (L.map I).length) (h ++ [.cells 0 (L.map I)]) := by rw [List.length_map]; exact hc
  refine (hc'.msData (Nat.le_refl _) (g := 0) (by simp) fun x hx => ?_).conv fun _ _ _ h => h.flL_of
  obtain ⟨n, _, rfl⟩ := List.mem_map.1 hx
  exact .int _ _
theorem sub_zs0 : Sub .zs z0 := fun _ _ _ h => by cases h; exact .sl0 _ _ _
theorem sub_fl0 : Sub (flL []) z0 := sub_flL []
theorem ACall.arg1 {f : FuncId} {a a' : AV} {σ σ' : Heap} {v : AV} (h : ACall Tryd.prog G0 f [a'] σ v σ') (ha : Sub a a') : ACall Tryd.prog G0 f [a] σ v σ' :=
  h.args rfl fun j x hx => by
    match j, hx with
    | 0, hx => cases hx; exact ⟨a, rfl, ha⟩
    | j + 1, hx => simp at hx
/-- THE COPY OF A LIST, as data. -/
theorem c31d {L : List Int} (hl : L.length ≤ 16777216) (h : Heap) : ACall Tryd.prog G0 31 [flL L] h (flL L) h := by
  cases L with
  | nil => exact ((c31e h).arg1 sub_fl0).conv fun _ _ _ h => h.flL_zs
  | cons x r => exact (c31s (by simp) hl h).newL
/-- The copy of a list that grew. -/
theorem c31v {L : List Int} (hl : L.length ≤ 16777216) {h : Heap} {r : Nat} (ho : L ≠ [] → objAt h r (L.length - 1) = some (L.map I)) : ACall Tryd.prog G0 31 [vA r (L.map I)] h (flL L) h := by
  cases L with
  | nil => exact ((c31e h).arg1 sub_zs0).conv fun _ _ _ h => h.flL_zs
  | cons x l =>
    have := (c31m (L := x :: l) (by simp) hl (ho (by simp))).newL
    have e : vA r ((x :: l).map I) = .ms 1 r ((x :: l).length - 1) 0 (x :: l).length (x :: l).length := by simp [vA]
    rw [e]; exact this
end Go.Proofs.YtjljigccgaadaaaDoor.Am

namespace Go.Proofs.YtjljigccgaadaaaDoor.Am
open Go
set_option maxRecDepth 100000

/-- A function on lists that leaves all alone. -/
def AskAt (h : Heap) (g : FuncId) (caps : List AV) (p : List Int → Bool) (L : List (List Int)) : Prop := ∀ m ∈ L, ACall Tryd.prog G0 g (flL m :: caps) h (.bool (p m)) h
def clP (g : FuncId) (caps : List AV) (p : List Int → Bool) (L : List (List Int)) (h : Heap) : FuncId → List AV → Heap → Option (Tree (AV × Heap)) := fun f xs h0 => match xs with
  | x :: ys => some (.need (f = g ∧ x = flL (unL x) ∧ unL x ∈ L ∧ ys = caps ∧ h0 = h) (.leaf (.bool (p (unL x)), h)))
  | _ => none
def EP (g : FuncId) (caps : List AV) (p : List Int → Bool) (L : List (List Int)) (h : Heap) : Env := { clh := clP g caps p L h }
theorem clokP {g : FuncId} {caps : List AV} {p : List Int → Bool} {L : List (List Int)} {h : Heap} (ha : AskAt h g caps p L) : ClOk Tryd.prog G0 (EP g caps p L h) := by
  refine .all .none ?_ (fun l xs σ t v σ' h => (by cases h)) (fun f xs t v h => (by cases h))
  intro f xs σ t v σ' hq hs
  replace hq : clP g caps p L h f xs σ = some t := hq
  unfold clP at hq
  split at hq <;> first | (cases hq; done) | skip
  rename_i x ys
  cases hq
  obtain ⟨⟨rfl, h2, h3, rfl, rfl⟩, hs2⟩ := Tree.of_need hs
  cases hs2
  have := ha _ h3
  rwa [← h2] at this
noncomputable def body58 : Code := (loopsOf (bodyOf Tryd.prog 58)).headD .skip
def st58 (L : List (List Int)) (fv : AV) (k r : Int) (b : Bool) (h : Heap) : St := .of 19 h [(0, flLL L, true), (1, fv, true), (4, I r, b), (7, I L.length, true), (8, I k, true)]
def u58 (L : List (List Int)) (k : Nat) : AV := flL (L.getD (k : Int).toNat [])
theorem run58 (g : FuncId) (caps : List AV) (p : List Int → Bool) (L : List (List Int)) (k : Nat) (h : Heap) : xBody Tryd.prog G0 (EP g caps p L h) 200 noLoops [0, 1, 4, 7, 8] body58 (st58 L (.fn g [] caps) k 0 false h) =
    .ite (decide ((k : Int) < L.length)) (.need (0 ≤ (k : Int) ∧ (k : Int) < L.length) (.need (g = g ∧ u58 L k = flL (unL (u58 L k)) ∧ unL (u58 L k) ∈ L ∧ caps = caps ∧ h = h)
      (.ite (p (unL (u58 L k))) (.leaf (.ret, st58 L (.fn g [] caps) k k true h)) (.leaf (.normal, st58 L (.fn g [] caps) (IntKind.i64.wrap (k + 1)) 0 false h))))) (.leaf (.exit 0, st58 L (.fn g [] caps) k 0 false h)) := by kernel_rfl
theorem scan58 {g : FuncId} {caps : List AV} {p : List Int → Bool} {L : List (List Int)} {h : Heap} (ha : AskAt h g caps p L) (hl : L.length < 4611686018427387904) :
    Scan body58 [0, 1, 4, 7, 8] L.length (fun k => st58 L (.fn g [] caps) k 0 false h) (fun k => st58 L (.fn g [] caps) k k true h) (st58 L (.fn g [] caps) L.length 0 false h) fun k => p (L.getD k []) := by
  refine ⟨fun _ => rfl, fun _ => rfl, rfl, fun k hk => ⟨_, clokP ha, ?_⟩⟩
  rw [run58, selI]
  by_cases hlt : k < L.length
  · have hw : IntKind.i64.wrap ((k : Int) + 1) = ((k + 1 : Nat) : Int) := wrap_i64 (by omega) (by omega)
    have hu : u58 L k = flL (L.getD k []) := by unfold u58; rw [Int.toNat_natCast]
    have hm : L.getD k [] ∈ L := by
      have : L.getD k [] = L[k] := by simp [List.getD_eq_getElem?_getD, hlt]
      rw [this]; exact List.getElem_mem hlt
    rw [decide_eq_true (by omega), decide_eq_true hlt, cond_true, cond_true, Tree.sel_need ⟨by omega, by omega⟩, hu, unL_flL, Tree.sel_need ⟨rfl, rfl, hm, rfl, rfl⟩, selI, hw]
    cases p (L.getD k []) <;> rfl
  · have : k = L.length := by omega
    subst this
    rw [decide_eq_false (by omega), decide_eq_false hlt]
    rfl
theorem loops58 : loopsOf (bodyOf Tryd.prog 58) = [body58] := by kernel_rfl
theorem id58 : idOf body58 = 2 := by kernel_rfl
theorem runF58 (L : List (List Int)) (fv : AV) (h : Heap) (t : Bool) (p q : Int) : xenter Tryd.prog {} (xCode Tryd.prog G0 {} 200 (lpS 2 [0, 1, 4, 7, 8] (st58 L fv 0 0 false h) t (st58 L fv p p true h) (st58 L fv q 0 false h))) 58 [flLL L, fv] [true, true] h =
    .need ((st58 L fv 0 0 false h).vals = (st58 L fv 0 0 false h).vals) (.ite t (.leaf (I p, true, h)) (.leaf (I (-1), false, h))) := by kernel_rfl
theorem anyL_fst (a : List (List Int)) (p : List Int → Bool) : a.any p = decide (fstStop (fun k => p (a.getD k [])) a.length 0 < a.length) := by
  by_cases hp : fstStop (fun k => p (a.getD k [])) a.length 0 < a.length
  · rw [decide_eq_true hp]
    obtain ⟨k, h1, h2⟩ := (fstStop_iff _ _).1 hp
    rw [List.any_eq_true]
    exact ⟨a[k], List.getElem_mem h1, by simpa [List.getD_eq_getElem?_getD, h1] using h2⟩
  · rw [decide_eq_false hp, ← Bool.not_eq_true, List.any_eq_true]
    rintro ⟨x, hm, hx⟩
    obtain ⟨k, h1, rfl⟩ := List.getElem_of_mem hm
    exact hp ((fstStop_iff _ _).2 ⟨k, h1, by simpa [List.getD_eq_getElem?_getD, h1] using hx⟩)
def idx58 (L : List (List Int)) (p : List Int → Bool) : Int := bif L.any p then ((fstStop (fun k => p (L.getD k [])) L.length 0 : Nat) : Int) else -1
theorem c58 {g : FuncId} {caps : List AV} {p : List Int → Bool} {L : List (List Int)} {h : Heap} (ha : AskAt h g caps p L) (hl : L.length < 4611686018427387904) : ACall Tryd.prog G0 58 [flLL L, .fn g [] caps] h (I (idx58 L p)) h := by
  refine .find (s := L.any p) (n := 200) (tags := [true, true]) clok0 ((scan58 ha hl).ok loops58 id58) ?_
  refine (congrArg Tree.sel (runF58 L _ h _ _ _)).trans ?_
  rw [selR, selI, ← anyL_fst]
  unfold idx58
  cases L.any p <;> rfl
theorem run24 (L : List (List Int)) (fv : AV) (i : Int) (h : Heap) : xCall Tryd.prog G0 { clh := clhI 58 [flLL L, fv] i h } 200 24 [flLL L, fv] [true, true] h = .need ([flLL L, fv] = [flLL L, fv] ∧ h = h) (.leaf (.bool (decide (i ≥ 0)), true, h)) := by kernel_rfl
/-- ContainsFunc. -/
theorem c24 {g : FuncId} {caps : List AV} {p : List Int → Bool} {L : List (List Int)} {h : Heap} (ha : AskAt h g caps p L) (hl : L.length < 4611686018427387904) : ACall Tryd.prog G0 24 [flLL L, .fn g [] caps] h (.bool (L.any p)) h := by
  refine xCall_ok (n := 200) (tags := [true, true]) (s := true) names mixed (clokI (c58 ha hl)) ?_
  rw [run24, Tree.sel_need ⟨rfl, rfl⟩]
  have : decide (idx58 L p ≥ 0) = L.any p := by
    unfold idx58
    cases L.any p with
    | true => rw [cond_true, decide_eq_true (by omega)]
    | false => rfl
  rw [this]
  rfl
end Go.Proofs.YtjljigccgaadaaaDoor.Am

namespace Go.Proofs.YtjljigccgaadaaaDoor.Am
open Go
set_option maxRecDepth 100000

/-- The first m elements of a list. -/
def hSlc (L : List Int) (m : Nat) : Heap → Oper → (Operand → Option AV) → Option (AV × Bool × Heap × Prop) := fun h o ρ => match o.op with
  | .slice 22 x none (some y) none => some (flL (L.take m), true, h, ρ x = some (flL L) ∧ ρ y = some (I m) ∧ m ≤ L.length)
  | _ => none
theorem slice_sl (L : List Int) {m : Nat} (hm : m ≤ L.length) (σ : Heap) : aSlice Tryd.prog σ 22 (slL L) none (some (I m)) none = some (slL (L.take m)) := by
  obtain ⟨ie, zx, h1, h2, h3, h4, h5, h6⟩ := el22.i
  have hlen : ((L.map I).map fun y => ([y] : List AV)).length = L.length := by simp
  unfold aSlice slL
  rw [Tryd.underlying22]
  simp only [hlen]
  have hb : aBounds L.length L.length none (some (I m)) none = some (0, m, L.length) := by
    have e : aBound (I m) L.length = some m := by
      have hc : 0 ≤ (m : Int) ∧ (m : Int) ≤ L.length := ⟨by omega, by omega⟩
      simp only [aBound, hc, and_self, if_true, Int.toNat_natCast]
    unfold aBounds
    simp only [e]
  rw [h1, hb]
  simp [h3, List.map_take]
theorem hSlc_ok (L : List Int) (m : Nat) : HintOk Tryd.prog G0 (hSlc L m) := by
  refine ⟨fun h o a mk y s h' p hh hp => ?_, fun h o ρ y s h' p hh hp _ => ?_⟩
  · unfold hSlc at hh
    split at hh
    · rename_i x z ho
      cases hh
      obtain ⟨hx, hz, hm⟩ := hp
      intro r0 w M ac K Q hi ha hK
      refine ⟨fun f _ => FW_fn r0 f, ?_⟩
      have hnd : ∀ c, o.op ≠ .defer c := fun c' h => by rw [ho] at h; cases h
      rw [Oper.semAt_eq _ _ _ hnd]
      have hv := sub_flL L _ _ _ (ev_ok hi ha.tmps hx)
      obtain ⟨r, hr, hrv⟩ := aSlice_ok (lo' := none) (hi' := some (ac.eval z)) (mx' := none) hi hv .none (.some _ _ (ev_ok hi ha.tmps hz)) .none (slice_sl L hm h)
      have hrun : (execOp ac.eval o).run Tryd.prog w = .ok (.value r) w := by
        unfold execOp
        simp only [ho, Option.map_none, Option.map_some, Sem.run_bind, hr, Result.andThen_ok]
        rfl
      rw [hrun]
      exact hK _ w M (sub_slL _ _ _ _ hrv) (.refl w M) hi
    · cases hh
  · unfold hSlc at hh
    split at hh
    · cases hh; rfl
    · cases hh
/-! ### own -/
noncomputable def body23 : Code := (loopsOf (bodyOf Tryd.prog 23)).headD .skip
def cl31 : FuncId → List AV → Option (Tree AV) := fun f xs => match f, xs with
  | 31, [x] => some (.need (x = flL (unL x) ∧ (unL x).length ≤ 16777216) (.leaf (flL (unL x))))
  | _, _ => none
theorem cl31_ok {f : FuncId} {xs : List AV} {t : Tree AV} {v : AV} (hq : cl31 f xs = some t) (hs : t.sel = some v) (σ : Heap) : ACall Tryd.prog G0 f xs σ v σ := by
  unfold cl31 at hq
  split at hq <;> first | (cases hq; done) | skip
  rename_i x
  cases hq
  obtain ⟨⟨h1, h2⟩, hs2⟩ := Tree.of_need hs
  cases hs2
  have := c31d h2 σ
  rwa [← h1] at this ⊢
def cut14 (l : List Int) : List Int := l.take 14
def E23 (l : List Int) (m : Nat) (v x v' : AV) (h h1 : Heap) : Env := { cl := cl31, hint := orH (hSlc l m) (hApp 29 v x v' h h1) }
theorem clok23 (l : List Int) (m : Nat) (v x v' : AV) (h h1 : Heap) : ClOk Tryd.prog G0 (E23 l m v x v' h h1) := .ofH rfl rfl ((hSlc_ok _ _).or (hApp_ok _ _ _ _ _ _).ok) fun _ _ _ _ h hs σ => cl31_ok h hs σ
def st23 (L : List (List Int)) (most : Int) (v : AV) (k : Int) (h : Heap) : St := .of 36 h [(0, flLL L, true), (2, .zs, false), (3, I most, true), (4, v, true), (5, I k, true)]
def mn14 (a : Int) : Int := if 14 < a then 14 else a
def a23 (l : List Int) (m : Nat) : AV := flL (unL (flL (l.take m)))
theorem run23 (L : List (List Int)) (most : Nat) (l : List Int) (m : Nat) (v v' : AV) (k : Nat) (h h1 : Heap) : xBody Tryd.prog G0 (E23 l m v (.sl 1 [[a23 l m]]) v' h h1) 200 noLoops [0, 2, 3, 4, 5] body23 (st23 L most v k h) =
    .ite (decide ((k : Int) < L.length)) (.ite (decide ((k : Int) < most)) (.need (0 ≤ (k : Int) ∧ (k : Int) < L.length) (.need (0 ≤ (k : Int) ∧ (k : Int) < L.length)
      (.need (some (flL (L.getD (k : Int).toNat [])) = some (flL l) ∧ some (I (mn14 ((L.getD (k : Int).toNat []).length : Nat))) = some (I m) ∧ m ≤ l.length)
        (.need (flL (l.take m) = flL (unL (flL (l.take m))) ∧ (unL (flL (l.take m))).length ≤ 16777216) (.need (some ([v, .sl 1 [[a23 l m]]] : List AV) = some [v, .sl 1 [[a23 l m]]] ∧ #[29, 29] = #[29, 29] ∧ h = h ∧ aAppend Tryd.prog h 29 29 v (.sl 1 [[a23 l m]]) = some (v', h1))
          (.leaf (.normal, st23 L most v' (IntKind.i64.wrap (k + 1)) h1))))))) (.leaf (.exit 0, st23 L most v k h))) (.leaf (.exit 0, st23 L most v k h)) := by kernel_rfl
/-- The lists that own makes. -/
def ownC (L : List (List Int)) (k : Nat) : List (List Int) := (L.take k).map cut14
def cF (L : List (List Int)) : List AV := L.map flL
theorem one_cF (l : List Int) : (flL l).one = true := rfl
theorem ownC_succ {L : List (List Int)} {k : Nat} (hk : k < L.length) : cF (ownC L (k + 1)) = cF (ownC L k) ++ [flL ((L.getD k []).take 14)] := by
  have : L.getD k [] = L[k] := by simp [List.getD_eq_getElem?_getD, hk]
  unfold ownC cF
  rw [List.take_succ_eq_append_getElem hk, List.map_append, List.map_append, this]
  rfl
theorem cF_len (L : List (List Int)) (k : Nat) : (cF (ownC L k)).length ≤ k := by simp [cF, ownC]; omega
def S23 (L : List (List Int)) (most : Nat) (σ : Heap) (k : Nat) : St := st23 L most (vA σ.length (cF (ownC L k))) k (σ ++ oA (cF (ownC L k)))
theorem scan23 {L : List (List Int)} {most : Nat} (hl : L.length < 4611686018427387904) (hm : most ≤ 4097) (σ : Heap) :
    Scan body23 [0, 2, 3, 4, 5] (min L.length most) (S23 L most σ) (S23 L most σ) (S23 L most σ (min L.length most)) fun _ => false := by
  refine ⟨fun _ => rfl, fun _ => rfl, rfl, fun k hk => ⟨E23 (L.getD k []) (min (L.getD k []).length 14) (vA σ.length (cF (ownC L k))) (.sl 1 [[a23 (L.getD k []) (min (L.getD k []).length 14)]]) (vA σ.length (cF (ownC L (k + 1)))) (σ ++ oA (cF (ownC L k))) (σ ++ oA (cF (ownC L (k + 1)))), clok23 _ _ _ _ _ _ _, ?_⟩⟩
  refine (congrArg Tree.sel (run23 L most (L.getD k []) (min (L.getD k []).length 14) _ _ k _ _)).trans ?_
  rw [selI]
  by_cases hlt : k < min L.length most
  · have hlt1 : k < L.length := by omega
    have hw : IntKind.i64.wrap ((k : Int) + 1) = ((k + 1 : Nat) : Int) := wrap_i64 (by omega) (by omega)
    have htk : (L.getD k []).take (min (L.getD k []).length 14) = (L.getD k []).take 14 := by
      by_cases h : (L.getD k []).length ≤ 14
      · rw [Nat.min_eq_left h, List.take_of_length_le (Nat.le_refl _), List.take_of_length_le h]
      · rw [Nat.min_eq_right (by omega)]
    have hmn : mn14 ((L.getD k []).length : Nat) = ((min (L.getD k []).length 14 : Nat) : Int) := by
      unfold mn14
      split <;> omega
    have ha : a23 (L.getD k []) (min (L.getD k []).length 14) = flL ((L.getD k []).take 14) := by unfold a23; rw [unL_flL, htk]
    have happ := append_vA el29 σ (cF (ownC L k)) (flL ((L.getD k []).take 14)) rfl (by have := cF_len L k; omega)
    rw [← ownC_succ hlt1, ← ha] at happ
    rw [decide_eq_true (by omega : (k : Int) < L.length), decide_eq_true hlt, cond_true, cond_true, selI, decide_eq_true (by omega : (k : Int) < most), cond_true, Tree.sel_need ⟨by omega, by omega⟩, Tree.sel_need ⟨by omega, by omega⟩, Int.toNat_natCast,
      Tree.sel_need ⟨rfl, by rw [hmn], Nat.min_le_left _ _⟩, Tree.sel_need ⟨by rw [unL_flL], by rw [unL_flL, List.length_take]; omega⟩, Tree.sel_need ⟨rfl, rfl, rfl, happ⟩, hw]
    rfl
  · have hk2 : k = min L.length most := by omega
    rw [decide_eq_false hlt, cond_false]
    by_cases h1 : (k : Int) < L.length
    · rw [decide_eq_true h1, cond_true, selI, decide_eq_false (by omega : ¬ (k : Int) < most), cond_false, ← hk2]; rfl
    · rw [decide_eq_false h1, cond_false, ← hk2]; rfl
theorem loops23 : loopsOf (bodyOf Tryd.prog 23) = [body23] := by kernel_rfl
theorem id23 : idOf body23 = 6 := by kernel_rfl
theorem runF23 (L : List (List Int)) (most q : Nat) (v : AV) (h h1 : Heap) (x : Bool) (hx : x = decide ((L.length : Int) > 4096)) (hm : (most : Int) = if x then 4097 else 30) : (xenter Tryd.prog {} (xCode Tryd.prog G0 {} 200 (lpX 6 [0, 2, 3, 4, 5] (st23 L most .zs 0 h) (st23 L most v q h1))) 23 [flLL L] [true] h).sel = some (v, true, h1) := by
  have run : xenter Tryd.prog {} (xCode Tryd.prog G0 {} 200 (lpX 6 [0, 2, 3, 4, 5] (st23 L most .zs 0 h) (st23 L most v q h1))) 23 [flLL L] [true] h =
    .ite (decide ((L.length : Int) > 4096)) (.need ((st23 L 4097 .zs 0 h).vals = (st23 L most .zs 0 h).vals) (.leaf (v, true, h1))) (.need ((st23 L 30 .zs 0 h).vals = (st23 L most .zs 0 h).vals) (.leaf (v, true, h1))) := by kernel_rfl
  rw [run, selI, ← hx]
  cases x with
  | true => rw [if_pos rfl] at hm; rw [cond_true, hm, selR]; rfl
  | false => rw [if_neg (by simp)] at hm; rw [cond_false, hm, selR]; rfl
def mostL (L : List (List Int)) : Nat := if 4096 < L.length then 4097 else 30
/-- What own returns. -/
def ownL (L : List (List Int)) : List (List Int) := (L.take (mostL L)).map cut14
theorem ownC_all (L : List (List Int)) (m : Nat) : ownC L (min L.length m) = (L.take m).map cut14 := by
  unfold ownC
  by_cases h : L.length ≤ m
  · rw [Nat.min_eq_left h, List.take_of_length_le (Nat.le_refl _), List.take_of_length_le h]
  · rw [Nat.min_eq_right (by omega)]
theorem c23 {L : List (List Int)} (hl : L.length < 4611686018427387904) (σ : Heap) : ACall Tryd.prog G0 23 [flLL L] σ (flLL (ownL L)) σ := by
  have hmost : mostL L ≤ 4097 := by unfold mostL; split <;> omega
  have hs := (scan23 (most := mostL L) hl hmost σ).okX loops23 id23
  have e0 : S23 L (mostL L) σ 0 = st23 L (mostL L) .zs (0 : Nat) σ := by
    unfold S23
    simp [ownC, cF, vA, oA]
  rw [e0] at hs
  have key : ACall Tryd.prog G0 23 [flLL L] σ (vA σ.length (cF (ownC L (min L.length (mostL L))))) (σ ++ oA (cF (ownC L (min L.length (mostL L))))) := by
    refine .find (s := true) (n := 200) (tags := [true]) clok0 hs ?_
    refine runF23 L (mostL L) (min L.length (mostL L)) _ σ _ (decide ((L.length : Int) > 4096)) rfl ?_
    unfold mostL
    by_cases h : 4096 < L.length
    · rw [if_pos h, if_pos (decide_eq_true (by omega))]; rfl
    · rw [if_neg h, if_neg (by rw [decide_eq_true_eq]; omega)]; rfl
  rw [ownC_all] at key
  change ACall _ _ _ _ _ (vA σ.length (cF (ownL L))) (σ ++ oA (cF (ownL L))) at key
  generalize ownL L = O at key ⊢
  cases O with
  | nil =>
    simp only [cF, List.map_nil, vA, oA, List.append_nil] at key
    exact key.conv fun _ _ _ h => h.flLL_zs
  | cons x r =>
    have e : vA σ.length (cF (x :: r)) = .ms 1 σ.length r.length 0 (cF (x :: r)).length (cF (x :: r)).length := by simp [cF, vA]
    rw [e] at key
    refine (key.msData (g := r.length) (Nat.le_refl _) (by simp [cF, oA]) fun y hy => ?_).conv fun _ _ _ h => h.flLL_of
    obtain ⟨z, _, rfl⟩ := List.mem_map.1 hy
    exact below_flL z
end Go.Proofs.YtjljigccgaadaaaDoor.Am

namespace Go.Proofs.YtjljigccgaadaaaDoor.Am
open Go
set_option maxRecDepth 100000

theorem orAll : ((List.range 13).all fun n => orL (allSeq n) == 2 ^ (2 ^ n) - 1) = true := by kernel_rfl
theorem lenAll : ((List.range 13).all fun n => (allSeq n).length == 2 ^ n) = true := by kernel_rfl
theorem mem_allSeq {n : Nat} (hn : n ≤ 12) (s : Nat) : s ∈ allSeq n ↔ s < 2 ^ n := by
  have h := List.all_eq_true.1 orAll n (List.mem_range.2 (by omega))
  have h1 : orL (allSeq n) = 2 ^ (2 ^ n) - 1 := by simpa using h
  have h2 := orL_bit s (allSeq n)
  rw [h1, Nat.testBit_two_pow_sub_one] at h2
  have := decide_eq_decide.1 h2
  exact this.symm
/-- A list comes before another one in the order of sets. -/
def befB (a b : List Int) : Bool := decide (a.length < b.length) || (decide (a.length = b.length) && decide (cmpL a b < 0))
def chainB : List (List Int) → Bool
  | [] => true
  | [_] => true
  | a :: b :: r => befB a b && chainB (b :: r)
theorem chainAll : ((List.range 13).all fun n => chainB ((allSeq n).map ints)) = true := by kernel_rfl
theorem cmp2_neg {x y : Int} : cmp2 x y < 0 ↔ x < y := by
  unfold cmp2
  by_cases h : x < y
  · rw [decide_eq_true h]; simp [h]
  · rw [decide_eq_false h, cond_false]
    by_cases h2 : x > y
    · rw [decide_eq_true h2]; simp; omega
    · rw [decide_eq_false h2]; simp; omega
theorem cmp2_zero {x y : Int} : cmp2 x y = 0 ↔ x = y := by
  unfold cmp2
  by_cases h : x < y
  · rw [decide_eq_true h]; simp; omega
  · rw [decide_eq_false h, cond_false]
    by_cases h2 : x > y
    · rw [decide_eq_true h2]; simp; omega
    · rw [decide_eq_false h2]; simp; omega
theorem cmpL_trans : ∀ (a b c : List Int), a.length = b.length → b.length = c.length → cmpL a b < 0 → cmpL b c < 0 → cmpL a c < 0
  | [], [], _, _, _, h, _ => by simp [cmpL] at h
  | x :: a, y :: b, z :: c, h1, h2, h3, h4 => by
    unfold cmpL at h3 h4 ⊢
    by_cases e1 : cmp2 x y = 0
    · obtain rfl := cmp2_zero.1 e1
      rw [e1, beq_self_eq_true, cond_true] at h3
      by_cases e2 : cmp2 x z = 0
      · rw [e2, beq_self_eq_true, cond_true] at h4 ⊢
        exact cmpL_trans a b c (by simpa using h1) (by simpa using h2) h3 h4
      · rw [beq_false_of_ne e2, cond_false] at h4 ⊢
        exact h4
    · rw [beq_false_of_ne e1, cond_false] at h3
      have h5 := cmp2_neg.1 h3
      by_cases e2 : cmp2 y z = 0
      · obtain rfl := cmp2_zero.1 e2
        rw [beq_false_of_ne e1, cond_false]
        exact h3
      · rw [beq_false_of_ne e2, cond_false] at h4
        have h6 := cmp2_neg.1 h4
        have h7 : cmp2 x z < 0 := cmp2_neg.2 (by omega)
        have h8 : cmp2 x z ≠ 0 := by omega
        rw [beq_false_of_ne h8, cond_false]
        exact h7
  | _ :: _, [], _, h1, _, _, _ => by simp at h1
  | [], _ :: _, _, h1, _, _, _ => by simp at h1
  | _ :: _, _ :: _, [], _, h2, _, _ => by simp at h2
theorem befB_iff {a b : List Int} : befB a b = true ↔ a.length < b.length ∨ (a.length = b.length ∧ cmpL a b < 0) := by
  simp [befB]
theorem befB_trans {a b c : List Int} (h1 : befB a b = true) (h2 : befB b c = true) : befB a c = true := by
  rw [befB_iff] at h1 h2 ⊢
  rcases h1 with h1 | ⟨h1, h1'⟩
  · rcases h2 with h2 | ⟨h2, _⟩
    · exact .inl (by omega)
    · exact .inl (by omega)
  · rcases h2 with h2 | ⟨h2, h2'⟩
    · exact .inl (by omega)
    · exact .inr ⟨by omega, cmpL_trans a b c h1 h2 h1' h2'⟩
/-- Each one before all that follow. -/
theorem pairwise_of_chain : ∀ (L : List (List Int)), chainB L = true → L.Pairwise fun a b => befB a b = true
  | [], _ => .nil
  | [a], _ => by simp
  | a :: b :: r, h => by
    unfold chainB at h
    obtain ⟨h1, h2⟩ := Bool.and_eq_true_iff.1 h
    have ih := pairwise_of_chain (b :: r) h2
    refine List.pairwise_cons.2 ⟨fun c hc => ?_, ih⟩
    rcases List.mem_cons.1 hc with rfl | hc
    · exact h1
    · exact befB_trans h1 ((List.pairwise_cons.1 ih).1 c hc)
theorem sorted_all {n : Nat} (hn : n ≤ 12) : ((allSeq n).map ints).Pairwise fun a b => befB a b = true :=
  pairwise_of_chain _ (List.all_eq_true.1 chainAll n (List.mem_range.2 (by omega)))
/-- What every returns stands in the order of sets. -/
theorem sorted_every (f : Nat → Bool) {n : Nat} (hn : n ≤ 12) : (everyL f n).Pairwise fun a b => befB a b = true := by
  refine (sorted_all hn).sublist ?_
  exact List.Sublist.map ints List.filter_sublist
end Go.Proofs.YtjljigccgaadaaaDoor.Am

namespace Go.Proofs.YtjljigccgaadaaaDoor.Am
open Go
set_option maxRecDepth 100000

theorem ofAll : ((List.range 13).all fun n => (List.range (2 ^ n)).all fun s => ofL n (ints s) == some s) = true := by kernel_rfl
theorem ofL_ints {n : Nat} (hn : n ≤ 12) {s : Nat} (hs : s < 2 ^ n) : ofL n (ints s) = some s := by
  have h := List.all_eq_true.1 (List.all_eq_true.1 ofAll n (List.mem_range.2 (by omega))) s (List.mem_range.2 hs)
  simpa using h
theorem ints_inj {n : Nat} (hn : n ≤ 12) {s t : Nat} (hs : s < 2 ^ n) (ht : t < 2 ^ n) (h : ints s = ints t) : s = t := by
  have h1 := ofL_ints hn hs
  rw [h, ofL_ints hn ht] at h1
  exact (Option.some.inj h1).symm
theorem permAll : ((List.range 7).all fun n => (allSeq n).isPerm (List.range (2 ^ n))) = true := by kernel_rfl
theorem perm_allSeq {n : Nat} (hn : n ≤ 6) : (allSeq n).Perm (List.range (2 ^ n)) :=
  List.isPerm_iff.1 (List.all_eq_true.1 permAll n (List.mem_range.2 (by omega)))
theorem count_every (f : Nat → Bool) {n : Nat} (hn : n ≤ 6) : ((List.range (2 ^ n)).filter (irr f)).length = (everyL f n).length := by
  unfold everyL
  rw [List.length_map]
  exact (((perm_allSeq hn).filter (irr f)).length_eq).symm
/-- A set is among them if it is irreducible. -/
theorem mem_everyL (f : Nat → Bool) {n : Nat} (hn : n ≤ 12) {s : Nat} (hs : s < 2 ^ n) : ((everyL f n).any fun m => ints s == m) = irr f s := by
  unfold everyL
  cases hi : irr f s with
  | true =>
    rw [List.any_eq_true]
    exact ⟨ints s, List.mem_map.2 ⟨s, List.mem_filter.2 ⟨(mem_allSeq hn s).2 hs, hi⟩, rfl⟩, beq_self_eq_true _⟩
  | false =>
    rw [← Bool.not_eq_true, List.any_eq_true]
    rintro ⟨m, hm, he⟩
    obtain ⟨t, ht, rfl⟩ := List.mem_map.1 hm
    obtain ⟨h1, h2⟩ := List.mem_filter.1 ht
    have := ints_inj hn hs ((mem_allSeq hn t).1 h1) (eq_of_beq he)
    subst this
    rw [h2] at hi
    cases hi
/-- Lists of sets are accepted. -/
theorem hitLoop_ok {n : Nat} (hn : n ≤ 12) : ∀ (L : List Nat) (acc : List Int), (∀ s ∈ L, s < 2 ^ n) → (hitLoop n (L.map ints) acc).isSome = true
  | [], _, _ => rfl
  | s :: r, acc, h => by
    rw [List.map_cons, hitLoop, ofL_ints hn (h s (by simp))]
    exact hitLoop_ok hn r _ fun t ht => h t (by simp [ht])
end Go.Proofs.YtjljigccgaadaaaDoor.Am

namespace Go.Proofs.YtjljigccgaadaaaDoor.Am
open Go
set_option maxRecDepth 100000

/-- A set within another. -/
def Sub2 (t s : Nat) : Prop := ∀ i, t.testBit i = true → s.testBit i = true
theorem Sub2.rfl' (s : Nat) : Sub2 s s := fun _ h => h
theorem Sub2.trans {a b c : Nat} (h1 : Sub2 a b) (h2 : Sub2 b c) : Sub2 a c := fun i h => h2 i (h1 i h)
theorem sub_del {s : Nat} (k : Nat) : Sub2 (del s k) s := fun i h => by
  unfold del at h
  rw [Nat.testBit_and, Bool.and_eq_true] at h
  exact h.1
theorem del_less {s k : Nat} (hs : s < 2 ^ 64) (hk : k ∈ bitsL s) : del s k < s := by
  obtain ⟨h1, h2⟩ := mem_bitsL.1 hk
  refine Nat.lt_of_le_of_ne (del_le s k) fun he => ?_
  have := del_bit hs h1 k
  rw [he, h2] at this
  simp at this
theorem irr_iff {g : Nat → Bool} {s : Nat} : irr g s = true ↔ g s = true ∧ ∀ k ∈ bitsL s, g (del s k) = false := by
  unfold irr
  rw [Bool.and_eq_true, List.all_eq_true]
  refine ⟨fun h => ⟨h.1, fun k hk => by have := h.2 k hk; simpa using this⟩, fun h => ⟨h.1, fun k hk => by rw [h.2 k hk]; rfl⟩⟩
/-- Each bad set holds a minimal one. -/
theorem irr_exists (g : Nat → Bool) : ∀ (s : Nat), s < 2 ^ 64 → g s = true → ∃ m, Sub2 m s ∧ m ≤ s ∧ irr g m = true := by
  intro s
  induction s using Nat.strongRecOn with
  | ind s ih =>
    intro hs hg
    by_cases h : ∀ k ∈ bitsL s, g (del s k) = false
    · exact ⟨s, .rfl' s, Nat.le_refl s, irr_iff.2 ⟨hg, h⟩⟩
    · have ⟨k, hk, hb⟩ : ∃ k ∈ bitsL s, g (del s k) = true := by
        apply Classical.byContradiction
        intro hn
        refine h fun k hk => ?_
        cases hq : g (del s k) with
        | false => rfl
        | true => exact absurd ⟨k, hk, hq⟩ hn
      have hlt := del_less hs hk
      obtain ⟨m, h1, h2, h3⟩ := ih (del s k) hlt (Nat.lt_trans hlt hs) hb
      exact ⟨m, h1.trans (sub_del k), by omega, h3⟩
/-- A subset of what can be fulfilled can be fulfilled. -/
def Mono (f : Nat → Bool) : Prop := ∀ s t, s < 2 ^ 64 → t < 2 ^ 64 → Sub2 t s → f s = true → f t = true

/-! ### The way of Core -/
def coreP (g : Nat → Bool) : Nat → Nat → Nat
  | 0, s => s
  | x + 1, s => coreP g x (if g (del s x) then del s x else s)
theorem coreP_lt {g : Nat → Bool} : ∀ (x s : Nat), s < 2 ^ 64 → coreP g x s < 2 ^ 64 ∧ coreP g x s ≤ s
  | 0, s, h => ⟨h, Nat.le_refl s⟩
  | x + 1, s, h => by
    unfold coreP
    split
    · have := coreP_lt (g := g) x (del s x) (del_lt h)
      have := del_le s x
      omega
    · exact coreP_lt x s h
theorem coreP_irr {f : Nat → Bool} (hm : Mono f) : ∀ (x s : Nat), x ≤ 64 → s < 2 ^ 64 → f s = false → (∀ k ∈ bitsL s, x ≤ k → f (del s k) = true) →
    irr (fun s => !f s) (coreP (fun s => !f s) x s) = true
  | 0, s, _, hs, hf, h => irr_iff.2 ⟨by show (!f s) = true; rw [hf]; rfl, fun k hk => by show (!f (del s k)) = false; rw [h k hk (by omega)]; rfl⟩
  | x + 1, s, hx, hs, hf, h => by
    unfold coreP
    cases hd : f (del s x) with
    | false =>
      simp only [Bool.not_false, if_true]
      refine coreP_irr hm x (del s x) (by omega) (del_lt hs) hd fun k hk hxk => ?_
      obtain ⟨h1, h2⟩ := mem_bitsL.1 hk
      have h3 := del_bit hs (by omega : x < 64) k
      rw [h2] at h3
      simp only [Bool.true_eq, Bool.and_eq_true, decide_eq_true_eq] at h3
      have h4 := h k (mem_bitsL.2 ⟨h1, h3.1⟩) (by omega)
      refine hm (del s k) _ (del_lt hs) (del_lt (del_lt hs)) (fun i hi => ?_) h4
      rw [del_bit (del_lt hs) h1, del_bit hs (by omega)] at hi
      rw [del_bit hs h1]
      simp only [Bool.and_eq_true] at hi ⊢
      exact ⟨hi.1.1, hi.2⟩
    | true =>
      simp only [Bool.not_true, Bool.false_eq_true, if_false]
      refine coreP_irr hm x s (by omega) hs hf fun k hk hxk => ?_
      by_cases he : k = x
      · subst he; exact hd
      · exact h k hk (by omega)
section
variable {g : Nat → Bool} {S : Type} {stp : S → Nat → Bool × S} {Good : S → Prop}
theorem coreLoop_ok (hst : ∀ st s, Good st → (stp st s).1 = g s ∧ Good (stp st s).2) : ∀ (x s : Nat) (st : S), Good st → (coreLoop stp x s st).1 = coreP g x s ∧ Good (coreLoop stp x s st).2
  | 0, s, st, h => ⟨rfl, h⟩
  | x + 1, s, st, h => by
    obtain ⟨h1, h2⟩ := hst st (del s x) h
    unfold coreLoop coreP
    rw [h1]
    exact coreLoop_ok hst x _ _ h2
/-- What Core finds: nothing, if all can be fulfilled. -/
theorem coreS_ok (hst : ∀ st s, Good st → (stp st s).1 = g s ∧ Good (stp st s).2) (n : Nat) {st : S} (hg : Good st) : (coreS stp n st).1 = (if g (2 ^ n - 1) then some (coreP g n (2 ^ n - 1)) else none) ∧ Good (coreS stp n st).2 := by
  obtain ⟨h1, h2⟩ := hst st (2 ^ n - 1) hg
  have h3 := coreLoop_ok hst n (2 ^ n - 1) _ h2
  unfold coreS
  rw [h1]
  split
  · exact ⟨by rw [h3.1], h3.2⟩
  · exact ⟨rfl, h2⟩
end
theorem pow_le {n : Nat} (hn : n ≤ 64) : 2 ^ n ≤ 2 ^ 64 := Nat.pow_le_pow_right (by omega) hn
theorem pow_pos' (n : Nat) : 0 < 2 ^ n := Nat.pow_pos (by omega)
theorem core_irr {f : Nat → Bool} (hm : Mono f) {n : Nat} (hn : n ≤ 64) (hf : f (2 ^ n - 1) = false) : irr (fun s => !f s) (coreP (fun s => !f s) n (2 ^ n - 1)) = true ∧ coreP (fun s => !f s) n (2 ^ n - 1) < 2 ^ n := by
  have hp := pow_le hn
  have h0 := pow_pos' n
  refine ⟨coreP_irr hm n _ hn (by omega) hf fun k hk hnk => ?_, ?_⟩
  · obtain ⟨_, h2⟩ := mem_bitsL.1 hk
    rw [Nat.testBit_two_pow_sub_one] at h2
    simp at h2
    omega
  · have := (coreP_lt (g := fun s => !f s) n (2 ^ n - 1) (by omega)).2
    omega
end Go.Proofs.YtjljigccgaadaaaDoor.Am

namespace Go.Proofs.YtjljigccgaadaaaDoor.Am
open Go
set_option maxRecDepth 100000

/-- The length of a slice, told beforehand. -/
def hLen (t : TypeId) (v : AV) (m : Int) : Heap → Oper → (Operand → Option AV) → Option (AV × Bool × Heap × Prop) := fun h o ρ => match o.op with
  | .call { callee := .builtin .len, args := args, argTypes := ts } => some (I m, true, h, evAllR ρ args.toList = some [v] ∧ ts = #[t] ∧ aLen Tryd.prog t v = some (I m))
  | _ => none
theorem hLen_ok (t : TypeId) (v : AV) (m : Int) : HintA Tryd.prog (hLen t v m) := by
  intro h o ρ y s h1 p hh hp
  unfold hLen at hh
  split at hh
  · rename_i args ts ho
    cases hh
    obtain ⟨p1, rfl, p4⟩ := hp
    unfold aopR
    simp only [ho, p1, Option.bind_some, aBuiltin, p4, Option.map_some]
  · cases hh
theorem len_vA {t e : TypeId} (hu : Tryd.prog.underlying t = some (.slice e)) (r : Nat) (L : List AV) : aLen Tryd.prog t (vA r L) = some (I L.length) := by
  unfold aLen
  rw [hu]
  cases L <;> rfl
noncomputable def body22 : Code := (loopsOf (bodyOf Tryd.prog 22)).headD .skip
def st22 (n : Int) (L : List Int) (N : Nat) (v : AV) (k : Int) (h : Heap) : St := .of 39 h [(0, I n, true), (4, .ref N 0 0, true), (5, v, true), (8, flU L, true), (9, I L.length, true), (10, I k, true)]
def E22 (v : AV) (m x : Int) (v' : AV) (h h1 : Heap) : Env := { hint := orH hShift (orH (hLen 35 v m) (hApp 35 v (.sl 1 [[U x]]) v' h h1)) }
theorem clok22 (v : AV) (m x : Int) (v' : AV) (h h1 : Heap) : ClOk Tryd.prog G0 (E22 v m x v' h h1) := .ofH rfl rfl (hShift_ok.ok.or ((hLen_ok _ _ _).ok.or (hApp_ok _ _ _ _ _ _).ok)) fun f xs t v h => by cases h
/-- The set without what lies above n. -/
def low22 (n m : Int) : Int := uand m (IntKind.u64.wrap (ushl 1 n - 1))
def r22 (n : Int) (L : List Int) (N : Nat) (v v' : AV) (m x : Int) (k : Nat) (h h1 : Heap) (y : Int) : Tree (Exit × St) :=
  .ite (y != 0) (.need (some [v] = some [v] ∧ #[35] = #[35] ∧ aLen Tryd.prog 35 v = some (I m)) (.ite (decide (m < 12)) (.need (some [v, .sl 1 [[U y]]] = some [v, .sl 1 [[U x]]] ∧ #[35, 35] = #[35, 35] ∧ h = h ∧ aAppend Tryd.prog h 35 35 v (.sl 1 [[U x]]) = some (v', h1)) (.leaf (.normal, st22 n L N v' (IntKind.i64.wrap (k + 1)) h1)))
    (.leaf (.normal, st22 n L N v (IntKind.i64.wrap (k + 1)) h)))) (.leaf (.normal, st22 n L N v (IntKind.i64.wrap (k + 1)) h))
theorem run22 (n : Int) (L : List Int) (N : Nat) (v v' : AV) (m x : Int) (k : Nat) (h h1 : Heap) : xBody Tryd.prog G0 (E22 v m x v' h h1) 200 noLoops [0, 4, 5, 8, 9, 10] body22 (st22 n L N v k h) =
    .ite (decide ((k : Int) < L.length)) (.need (0 ≤ (k : Int) ∧ (k : Int) < L.length) (.ite (decide (n ≥ 0)) (.ite (decide (n < 64)) (.need (0 ≤ n) (r22 n L N v v' m x k h h1 (low22 n (L.getD (k : Int).toNat 0)))) (r22 n L N v v' m x k h h1 (L.getD (k : Int).toNat 0))) (r22 n L N v v' m x k h h1 (L.getD (k : Int).toNat 0)))) (.leaf (.exit 0, st22 n L N v k h)) := by kernel_rfl
def ordF (n m : Int) : Int := if 0 ≤ n ∧ n < 64 then low22 n m else m
def ordS (n : Int) (acc : List Int) (m : Int) : List Int := if ordF n m ≠ 0 ∧ acc.length < 12 then acc ++ [ordF n m] else acc
/-- The sets that 'ordinary' keeps. -/
def ordL (n : Int) (L : List Int) : List Int := L.foldl (ordS n) []
def c22z (v : AV) : AObj := .cells 0 [.bool false, U 0, v]
def h22 (acc : List Int) : Heap := [c22z .zs] ++ oA (acc.map U)
theorem sel22 (n : Int) (L acc : List Int) (k : Nat) (hk : k < 4611686018427387904) (y : Int) (hl : acc.length ≤ 12) :
    (r22 n L 0 (vA 1 (acc.map U)) (vA 1 ((acc ++ [y]).map U)) acc.length y k (h22 acc) (h22 (acc ++ [y])) y).sel = some (.normal, st22 n L 0 (vA 1 ((if y ≠ 0 ∧ acc.length < 12 then acc ++ [y] else acc).map U)) (k + 1 : Nat) (h22 (if y ≠ 0 ∧ acc.length < 12 then acc ++ [y] else acc))) := by
  have hw : IntKind.i64.wrap ((k : Int) + 1) = ((k + 1 : Nat) : Int) := wrap_i64 (by omega) (by omega)
  unfold r22
  rw [selI, hw]
  by_cases hy : y = 0
  · rw [hy, bne_self_eq_false, cond_false, if_neg (by simp)]
    rfl
  · have hlen : aLen Tryd.prog 35 (vA 1 (acc.map U)) = some (I acc.length) := by rw [len_vA Tryd.underlying35, List.length_map]
    rw [bne_iff_ne.2 hy, cond_true, Tree.sel_need ⟨rfl, rfl, hlen⟩, selI]
    by_cases h12 : acc.length < 12
    · have happ := append_vA el35 [c22z .zs] (acc.map U) (U y) rfl (by simp; omega)
      have hm : acc.map U ++ [U y] = (acc ++ [y]).map U := by simp
      rw [hm] at happ
      rw [decide_eq_true (by omega), cond_true, Tree.sel_need ⟨rfl, rfl, rfl, happ⟩, if_pos ⟨hy, h12⟩]
      rfl
    · rw [decide_eq_false (by omega), cond_false, if_neg (fun h => h12 h.2)]
      rfl
theorem ordS_len {n : Int} {acc : List Int} {m : Int} (h : acc.length ≤ 12) : (ordS n acc m).length ≤ 12 := by
  unfold ordS
  split
  · rename_i h2; simp; omega
  · exact h
theorem loop22 {R : Option Nat → Prop} {n : Int} {L : List Int} (hL : L.length < 4611686018427387904) : ∀ (d k : Nat) (acc : List Int), k + d = L.length → acc.length ≤ 12 →
    ALoopRun Tryd.prog G0 R body22 { tmps := (st22 n L 0 (vA 1 (acc.map U)) k (h22 acc)).a } (h22 acc) (.exit 0) { tmps := (st22 n L 0 (vA 1 (((L.drop k).foldl (ordS n) acc).map U)) L.length (h22 ((L.drop k).foldl (ordS n) acc))).a } (h22 ((L.drop k).foldl (ordS n) acc))
  | 0, k, acc, hk, hl => by
    obtain rfl : k = L.length := by omega
    rw [List.drop_length, List.foldl_nil]
    refine .stop (xBody_ok (m := []) names mixed (clok22 (vA 1 (acc.map U)) 0 0 .junk (h22 acc) []) (lpNo body22) (n := 200) (keep := [0, 4, 5, 8, 9, 10]) (st := st22 n L 0 (vA 1 (acc.map U)) L.length (h22 acc)) (st' := st22 n L 0 (vA 1 (acc.map U)) L.length (h22 acc)) ?_).1 nofun
    refine (congrArg Tree.sel (run22 n L 0 _ _ _ _ _ _ _)).trans ?_
    rw [selI, decide_eq_false (by omega)]
    rfl
  | d + 1, k, acc, hk, hl => by
    have hlt : k < L.length := by omega
    have hg : L.getD (k : Int).toNat 0 = L[k] := getD_nat hlt
    have ih := loop22 (R := R) (n := n) hL d (k + 1) (ordS n acc L[k]) (by omega) (ordS_len hl)
    rw [List.drop_eq_getElem_cons hlt, List.foldl_cons]
    refine .next (xBody_ok (m := []) names mixed (clok22 (vA 1 (acc.map U)) acc.length (ordF n L[k]) (vA 1 ((acc ++ [ordF n L[k]]).map U)) (h22 acc) (h22 (acc ++ [ordF n L[k]]))) (lpNo body22) (n := 200) (keep := [0, 4, 5, 8, 9, 10]) (st := st22 n L 0 (vA 1 (acc.map U)) k (h22 acc)) (st' := st22 n L 0 (vA 1 ((ordS n acc L[k]).map U)) (k + 1 : Nat) (h22 (ordS n acc L[k]))) ?_).1 ih
    refine (congrArg Tree.sel (run22 n L 0 _ _ _ _ _ _ _)).trans ?_
    have key := sel22 n L acc k (by omega) (ordF n L[k]) hl
    rw [selI, decide_eq_true (by omega), cond_true, Tree.sel_need ⟨by omega, by omega⟩, hg, selI, selI]
    by_cases h0 : 0 ≤ n
    · rw [decide_eq_true (by omega), cond_true, Tree.sel_need h0]
      by_cases h1 : n < 64
      · rw [decide_eq_true h1, cond_true]
        have e : ordF n L[k] = low22 n L[k] := if_pos ⟨h0, h1⟩
        rw [e] at key
        rw [e]
        unfold ordS
        rw [e]
        exact key
      · rw [decide_eq_false h1, cond_false]
        have e : ordF n L[k] = L[k] := if_neg fun h => h1 h.2
        rw [e] at key
        rw [e]
        unfold ordS
        rw [e]
        exact key
    · rw [decide_eq_false (by omega), cond_false]
      have e : ordF n L[k] = L[k] := if_neg fun h => h0 h.1
      rw [e] at key
      rw [e]
      unfold ordS
      rw [e]
      exact key
def lp22 (n : Int) (L : List Int) (v : AV) (hr : Heap) : Loops := fun id => match id with
  | 3 => some ([0, 4, 5, 8, 9, 10], st22 n L 0 .zs 0 [c22z .zs], .leaf (.exit 0, st22 n L 0 v L.length (c22z .zs :: hr)))
  | _ => none
theorem runF22 (n : Int) (L : List Int) (x : AV) (l : List AV) (hr : Heap) : xenter Tryd.prog {} (xCode Tryd.prog G0 {} 200 (lp22 n L (vA 1 (x :: l)) hr)) 22 [I n, flU L] [true, true] [] =
    .need ((st22 n L 0 .zs 0 [c22z .zs]).vals = (st22 n L 0 .zs 0 [c22z .zs]).vals) (.leaf (.agg [.bool false, U 0, vA 1 (x :: l)], true, c22z (vA 1 (x :: l)) :: hr)) := by kernel_rfl
theorem runF22z (n : Int) (L : List Int) (hr : Heap) : xenter Tryd.prog {} (xCode Tryd.prog G0 {} 200 (lp22 n L (vA 1 []) hr)) 22 [I n, flU L] [true, true] [] =
    .need ((st22 n L 0 .zs 0 [c22z .zs]).vals = (st22 n L 0 .zs 0 [c22z .zs]).vals) (.leaf (.agg [.bool false, U 0, vA 1 []], true, c22z (vA 1 []) :: hr)) := by kernel_rfl
theorem loops22 : loopsOf (bodyOf Tryd.prog 22) = [body22] := by kernel_rfl
theorem id22 : idOf body22 = 3 := by kernel_rfl
theorem freeze_at {h : Heap} {r : Nat} (L : List AV) (k : Nat) (ho : ∀ x l, L = x :: l → objAt h r l.length = some L) (hx : ∀ x ∈ L, freeze h k x = some x) : freeze h (k + 1) (vA r L) = some (fA L) := by
  cases L with
  | nil => rfl
  | cons x l =>
    have := rowsOf_ones (h := h) (k := k) (x :: l) [] hx
    simp only [List.nil_append, List.length_nil, List.length_cons] at this
    unfold freeze
    simp only [vA]
    rw [ho x l rfl]
    simp only [this]
    rfl
/-- WHAT 'ordinary' RETURNS. -/
theorem c22 (n : Int) {L : List Int} (hL : L.length < 4611686018427387904) (σ : Heap) : ACall Tryd.prog G0 22 [I n, flU L] σ (Tab.av ⟨false, 0, ordL n L⟩) σ := by
  have hlp : ∀ acc, acc = ordL n L → LoopsOk Tryd.prog G0 (fun r => r = none) [] (lp22 n L (vA 1 (acc.map U)) (oA (acc.map U))) (bodyOf Tryd.prog 22) := fun acc ha => by
    refine .of_list _ fun x hm => ?_
    rw [loops22] at hm
    obtain rfl := List.mem_singleton.1 hm
    intro kp s0 t e st' h' hsel
    rw [id22] at h'
    cases h'
    cases hsel
    have := loop22 (R := fun r => r = none) (n := n) hL L.length 0 [] (by omega) (by simp)
    rw [List.drop_zero] at this
    subst ha
    exact ⟨.loop this, rfl⟩
  have h0 : ∃ hr, ACall Tryd.prog G0 22 [I n, flU L] [] (.agg [.bool false, U 0, vA 1 ((ordL n L).map U)]) (c22z (vA 1 ((ordL n L).map U)) :: oA ((ordL n L).map U)) ∧ hr = oA ((ordL n L).map U) := by
    refine ⟨_, ?_, rfl⟩
    have hl := hlp _ rfl
    cases hq : ordL n L with
    | nil =>
      rw [hq] at hl
      exact .find (s := true) (n := 200) (tags := [true, true]) clok0 hl ((congrArg Tree.sel (runF22z n L _)).trans (selR.trans rfl))
    | cons x l =>
      rw [hq] at hl
      exact .find (s := true) (n := 200) (tags := [true, true]) clok0 hl ((congrArg Tree.sel (runF22 n L (U x) (l.map U) _)).trans (selR.trans rfl))
  obtain ⟨_, h1, _⟩ := h0
  have hf : freeze (c22z (vA 1 ((ordL n L).map U)) :: oA ((ordL n L).map U)) 3 (.agg [.bool false, U 0, vA 1 ((ordL n L).map U)]) = some (.agg [.bool false, U 0, fA ((ordL n L).map U)]) := by
    have := freeze_at (h := c22z (vA 1 ((ordL n L).map U)) :: oA ((ordL n L).map U)) (r := 1) ((ordL n L).map U) 1 (fun x l he => by rw [he]; simp [objAt, oA]) (fun x hx => by
      obtain ⟨m, _, rfl⟩ := List.mem_map.1 hx
      rfl)
    unfold freeze
    simp only [freezeL, this]
    rfl
  refine (h1.lift hf gbelow0 (fun x hx => ?_) σ).conv fun _ _ _ h => h.agg3 fun _ h => h.fA_flU
  simp only [List.mem_cons, List.not_mem_nil, or_false] at hx
  rcases hx with rfl | rfl
  · exact .int _ _
  · exact below_flU _
end Go.Proofs.YtjljigccgaadaaaDoor.Am

