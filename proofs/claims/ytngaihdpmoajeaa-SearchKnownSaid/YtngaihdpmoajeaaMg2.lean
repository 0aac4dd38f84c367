/-
  This file proves nothing of a law. It holds lemmas, of 6 texts in their order. No condition of its own.
-/
import Derived.Test.YtngaihdpmoajeaaMg1
import Derived.RangeFuncNested
import Derived.LoopNIn
namespace Go.Proofs.Ytngaihdpmoajeaa.Am
open Go

section
variable {w : World} {M : Map} {P : Program} {G : Nat → Option (List AV)} {σ : Heap}

/-! ### Bounds -/
def aBound (x : AV) (y : Nat) : Option Nat :=
  match x with
  | .int _ n => if 0 ≤ n ∧ n ≤ y then some n.toNat else none
  | _ => none
theorem aBound_ok {x : AV} {v : Value} {y n : Nat} {code : BoundsCode} (hv : RV w M v x) (h : aBound x y = some n) : (Instr.sliceBound v y code).run P w = .ok n w ∧ n ≤ y := by
  unfold aBound at h
  split at h
  · split at h
    · rename_i hc
      cases h
      cases hv
      exact ⟨by simp [Instr.sliceBound, asIntOf, hc.1, hc.2], by omega⟩
    · cases h
  · cases h

/-- The three bounds; the last one as far as it is known (the capacity, if none is named). -/
def aBounds (len cap : Nat) (lo hi mx : Option AV) : Option (Nat × Nat × Nat) :=
  match (match mx with | some v => aBound v cap | none => some cap) with
  | none => none
  | some m =>
    match (match hi, mx with | some v, _ => aBound v m | none, none => some len | none, some _ => none) with
    | none => none
    | some h =>
      match (match lo with | some v => aBound v h | none => some 0) with
      | none => none
      | some l => some (l, h, m)

inductive ROpt (w : World) (M : Map) : Option Value → Option AV → Prop where
  | none : ROpt w M none none
  | some (v : Value) (x : AV) (h : RV w M v x) : ROpt w M (some v) (some x)

theorem aBound_more {x : AV} {y y' n : Nat} (h : aBound x y = some n) (hy : y ≤ y') : aBound x y' = some n := by
  unfold aBound at h ⊢
  split at h
  · rename_i k i
    split at h
    · rename_i hc
      rw [if_pos ⟨hc.1, by omega⟩]
      exact h
    · cases h
  · cases h

theorem aBounds_ok {len cap capc l h m : Nat} {lo hi mx : Option AV} {lo' hi' mx' : Option Value} (hlo : ROpt w M lo' lo) (hhi : ROpt w M hi' hi) (hmx : ROpt w M mx' mx) (hlen : len ≤ cap) (hcap : cap ≤ capc)
    (hb : aBounds len cap lo hi mx = some (l, h, m)) :
    (Instr.sliceBounds true len capc lo' hi' mx').run P w = .ok (l, h, if mx.isSome then m else capc) w ∧ l ≤ h ∧ h ≤ m ∧ m ≤ cap ∧ (mx = none → m = cap) := by
  unfold aBounds at hb
  cases hmx with
  | none =>
    dsimp only at hb
    cases hhi with
    | none =>
      dsimp only at hb
      cases hlo with
      | none => cases hb; exact ⟨rfl, Nat.zero_le _, hlen, Nat.le_refl _, fun _ => rfl⟩
      | some v x hv =>
        dsimp only at hb
        cases hx : aBound x len with
        | none => rw [hx] at hb; cases hb
        | some n =>
          rw [hx] at hb; cases hb
          obtain ⟨h1, h2⟩ := aBound_ok (P := P) (code := .sliceB) hv hx
          exact ⟨by simp [Instr.sliceBounds, h1], h2, hlen, Nat.le_refl _, fun _ => rfl⟩
    | some u y hu =>
      dsimp only at hb
      cases hy : aBound y cap with
      | none => rw [hy] at hb; cases hb
      | some n =>
        rw [hy] at hb
        dsimp only at hb
        obtain ⟨h1, _⟩ := aBound_ok (P := P) (code := .sliceAcap) hu (aBound_more hy hcap)
        obtain ⟨_, h2⟩ := aBound_ok (P := P) (code := .sliceAcap) hu hy
        cases hlo with
        | none => cases hb; exact ⟨by simp [Instr.sliceBounds, h1], Nat.zero_le _, h2, Nat.le_refl _, fun _ => rfl⟩
        | some v x hv =>
          dsimp only at hb
          cases hx : aBound x n with
          | none => rw [hx] at hb; cases hb
          | some k =>
            rw [hx] at hb; cases hb
            obtain ⟨k1, k2⟩ := aBound_ok (P := P) (code := .sliceB) hv hx
            exact ⟨by simp [Instr.sliceBounds, h1, k1], k2, h2, Nat.le_refl _, fun _ => rfl⟩
  | some t z ht =>
    dsimp only at hb
    cases hz : aBound z cap with
    | none => rw [hz] at hb; cases hb
    | some q =>
      rw [hz] at hb
      dsimp only at hb
      obtain ⟨g1, _⟩ := aBound_ok (P := P) (code := .slice3Acap) ht (aBound_more hz hcap)
      obtain ⟨_, g2⟩ := aBound_ok (P := P) (code := .slice3Acap) ht hz
      cases hhi with
      | none => cases hb
      | some u y hu =>
        dsimp only at hb
        cases hy : aBound y q with
        | none => rw [hy] at hb; cases hb
        | some n =>
          rw [hy] at hb
          dsimp only at hb
          obtain ⟨h1, h2⟩ := aBound_ok (P := P) (code := .slice3B) hu hy
          cases hlo with
          | none => cases hb; exact ⟨by simp [Instr.sliceBounds, g1, h1], Nat.zero_le _, h2, g2, fun h => by cases h⟩
          | some v x hv =>
            dsimp only at hb
            cases hx : aBound x n with
            | none => rw [hx] at hb; cases hb
            | some k =>
              rw [hx] at hb; cases hb
              obtain ⟨k1, k2⟩ := aBound_ok (P := P) (code := .slice3C) hv hx
              exact ⟨by simp [Instr.sliceBounds, g1, h1, k1], k2, h2, g2, fun h => by cases h⟩

/-! ### A slice of a slice -/
def aSlice (P : Program) (σ : Heap) (t : TypeId) (x : AV) (lo hi mx : Option AV) : Option AV :=
  match P.underlying t, x with
  | some (.slice e), .sl size rows =>
    match P.info? e, aBounds rows.length rows.length lo hi mx with
    | some ie, some (l, h, m) => if ie.size = size then (if mx.isSome ∧ m = l then some .zs else some (.sl size ((rows.drop l).take (h - l)))) else none
    | _, _ => none
  | some (.slice e), .zs =>
    match P.info? e, aBounds 0 0 lo hi mx with
    | some _, some _ => some .zs
    | _, _ => none
  | some (.slice e), .ms size r g off len cap =>
    match P.info? e, aBounds len cap lo hi mx with
    | some ie, some (l, h, m) =>
      if ie.size = size ∧ len ≤ cap ∧ (objAt σ r g).isSome = true then
        (if m = l then (if mx.isSome then some .zs else some (.sl size [])) else some (.ms size r g (off + l * size) (h - l) (m - l)))
      else none
    | _, _ => none
  | _, _ => none

theorem sliceAt_slice {t e : TypeId} (hu : P.underlying t = some (.slice e)) (v : Value) (lo hi mx : Option Value) : (Instr.sliceAt t v lo hi mx).run P w = (Instr.slice t v lo hi mx).run P w := by
  simp only [Instr.sliceAt, Sem.run_bind, run_underlying', hu, Result.andThen_ok]

theorem run_slice' {t e : TypeId} {ie : TypeInfo} {a : Option Addr} {len cap l h m : Nat} {lo hi mx : Option Value} (hu : P.underlying t = some (.slice e)) (hie : P.info? e = some ie)
    (hb : (Instr.sliceBounds true len cap lo hi mx).run P w = .ok (l, h, m) w) :
    (Instr.sliceAt t (.slice a len cap) lo hi mx).run P w = .ok (.slice (if m = l then a else a.map (·.add (l * ie.size))) (h - l) (m - l)) w := by
  rw [sliceAt_slice hu]
  simp only [Instr.slice, Sem.run_bind, run_underlying', hu, Result.andThen_ok, hb, run_sizeOf', hie, Sem.run_pure]

theorem aSlice_ok {t : TypeId} {v : Value} {x y : AV} {lo hi mx : Option AV} {lo' hi' mx' : Option Value} (hinv : Inv G w M σ) (hv : RV w M v x) (hlo : ROpt w M lo' lo) (hhi : ROpt w M hi' hi) (hmx : ROpt w M mx' mx)
    (h : aSlice P σ t x lo hi mx = some y) : ∃ r, (Instr.sliceAt t v lo' hi' mx').run P w = .ok r w ∧ RV w M r y := by
  unfold aSlice at h
  split at h
  · rename_i e size rows hu
    split at h
    · rename_i ie l h' m hie hb
      split at h
      · rename_i hs
        subst hs
        have key : ∀ (base : Option Addr) (cap : Nat), rows.length ≤ cap → (Instr.sliceAt t (.slice base rows.length cap) lo' hi' mx').run P w =
            .ok (.slice (if (if mx.isSome then m else cap) = l then base else base.map (·.add (l * ie.size))) (h' - l) ((if mx.isSome then m else cap) - l)) w ∧ l ≤ h' ∧ h' ≤ m ∧ m ≤ rows.length := by
          intro base cap hcap
          obtain ⟨k1, k2, k3, k4, _⟩ := aBounds_ok (P := P) (capc := cap) hlo hhi hmx (Nat.le_refl _) hcap hb
          exact ⟨run_slice' hu hie k1, k2, k3, k4⟩
        cases hv with
        | sl0 base cap size =>
          obtain ⟨k1, k2, k3, k4⟩ := key base cap (by simp)
          have hl : l = 0 := by simp at k4; omega
          have hh : h' = 0 := by simp at k4; omega
          have hm : m = 0 := by simp at k4; omega
          subst hl hh hm
          split at h
          · rename_i hc
            cases h
            rw [if_pos hc.1] at k1
            exact ⟨_, k1, .zs _⟩
          · cases h
            exact ⟨_, k1, by simpa using RV.sl0 _ _ ie.size⟩
        | sl b o cap size f rows hbb hcell hl hh hcap =>
          obtain ⟨k1, k2, k3, k4⟩ := key (some ⟨b, o, none⟩) cap hcap
          split at h
          · rename_i hc
            cases h
            rw [if_pos hc.1, if_pos hc.2, hc.2, Nat.sub_self] at k1
            have : h' - l = 0 := by omega
            rw [this] at k1
            exact ⟨_, k1, .zs _⟩
          · rename_i hc
            cases h
            by_cases h0 : h' - l = 0
            · rw [h0] at k1 ⊢
              exact ⟨_, k1, by simpa using RV.sl0 _ _ ie.size⟩
            · have hne : ¬ (if mx.isSome = true then m else cap) = l := by
                split <;> omega
              rw [if_neg hne] at k1
              simp only [Option.map_some, add_plain] at k1
              refine ⟨_, k1, ?_⟩
              have hlen : ((rows.drop l).take (h' - l)).length = h' - l := by simp; omega
              have hget : ∀ (i : Nat) (r : List AV), ((rows.drop l).take (h' - l))[i]? = some r → rows[l + i]? = some r := by
                intro i r hr
                have hi : i < h' - l := by
                  have := (List.getElem?_eq_some_iff.1 hr).1
                  omega
                rw [List.getElem?_take_of_lt hi, List.getElem?_drop] at hr
                exact hr
              have := RV.sl (w := w) (M := M) b (o + l * ie.size) ((if mx.isSome = true then m else cap) - l) ie.size (fun i j => f (l + i) j) ((rows.drop l).take (h' - l)) hbb
                (fun i r j hr hj => by
                  have := hcell (l + i) r j (hget i r hr) hj
                  rw [Nat.add_mul, ← Nat.add_assoc] at this
                  exact this)
                (fun i r hr => hl _ r (hget i r hr)) (fun i r j x hr hj => hh _ r j x (hget i r hr) hj) (by rw [hlen]; split <;> omega)
              rw [hlen] at this
              exact this
      · cases h
    · cases h
  · rename_i e hu
    split at h
    · rename_i ie p hie hb
      cases h
      obtain ⟨l, h', m⟩ := p
      cases hv with
      | zs base =>
        obtain ⟨k1, k2, k3, k4, k5⟩ := aBounds_ok (P := P) (capc := 0) hlo hhi hmx (Nat.le_refl _) (Nat.le_refl _) hb
        have hl : l = 0 := by omega
        have hh : h' = 0 := by omega
        have hm : m = 0 := by omega
        subst hl hh hm
        refine ⟨_, run_slice' hu hie k1, ?_⟩
        simpa using RV.zs _
    · cases h
  · rename_i e size r g off len cap hu
    split at h
    · rename_i ie l h' m hie hb
      split at h
      · rename_i hc
        obtain ⟨rfl, hlc, ho⟩ := hc
        obtain ⟨c, hoc⟩ := Option.isSome_iff_exists.1 ho
        obtain ⟨b0, cs, e0, hm, hh, hl, hx⟩ := hinv.obj hoc
        cases hv with
        | msS size r g off len cap b g' p capc hr hg =>
          rw [hm] at hr
          obtain ⟨_, rfl⟩ := Prod.mk.inj (Option.some.inj hr)
          omega
        | ms size r g off len cap b capc c e hr hlen hcc hsz hfit =>
          obtain ⟨k1, k2, k3, k4, k5⟩ := aBounds_ok (P := P) (capc := capc) hlo hhi hmx hlc hcc hb
          have hrun := run_slice' (a := some ⟨b, off, none⟩) hu hie k1
          refine ⟨_, hrun, ?_⟩
          split at h
          · rename_i hml
            have h0 : h' - l = 0 := by omega
            split at h
            · rename_i hs
              cases h
              rw [if_pos hs, if_pos hml, h0, hml, Nat.sub_self]
              exact .zs _
            · rename_i hs
              cases h
              rw [h0]
              exact .sl0 _ _ _
          · rename_i hml
            cases h
            have hne : ¬ (if mx.isSome = true then m else capc) = l := by split <;> omega
            rw [if_neg hne]
            simp only [Option.map_some, add_plain]
            refine .ms ie.size r g _ _ _ b _ c e hr (by omega) (by split <;> omega) hsz ?_
            have hle : (if mx.isSome = true then m else capc) ≤ capc := by split <;> omega
            have hge : l ≤ (if mx.isSome = true then m else capc) := by split <;> omega
            have : l * ie.size + ((if mx.isSome = true then m else capc) - l) * ie.size ≤ capc * ie.size := by
              rw [← Nat.add_mul]
              exact Nat.mul_le_mul_right _ (by omega)
            omega
      · cases h
    · cases h
  · cases h
/-! ### What a slice holds -/
theorem flatten_len {size : Nat} : ∀ {rows : List (List AV)}, (∀ (i : Nat) (r : List AV), rows[i]? = some r → r.length = size) → rows.flatten.length = rows.length * size
  | [], _ => by simp
  | r :: rows, h => by
    have h0 := h 0 r rfl
    rw [List.flatten_cons, List.length_append, flatten_len (rows := rows) (fun i q hq => h (i + 1) q (by simpa using hq)), List.length_cons, Nat.succ_mul, h0, Nat.add_comm]
theorem flatten_get {size : Nat} : ∀ {rows : List (List AV)} {k : Nat} {x : AV}, (∀ (i : Nat) (r : List AV), rows[i]? = some r → r.length = size) → rows.flatten[k]? = some x →
    ∃ (i j : Nat) (r : List AV), k = i * size + j ∧ j < size ∧ rows[i]? = some r ∧ r[j]? = some x
  | [], k, x, _, hx => by simp at hx
  | r :: rows, k, x, h, hx => by
    have h0 := h 0 r rfl
    rw [List.flatten_cons] at hx
    by_cases hk : k < r.length
    · rw [List.getElem?_append_left hk] at hx
      exact ⟨0, k, r, by simp, by omega, rfl, hx⟩
    · rw [List.getElem?_append_right (by omega)] at hx
      obtain ⟨i, j, q, e1, e2, e3, e4⟩ := flatten_get (rows := rows) (fun i q hq => h (i + 1) q (by simpa using hq)) hx
      exact ⟨i + 1, j, q, by rw [Nat.succ_mul]; omega, e2, by simpa using e3, e4⟩

/-- How many elements, and their cells, one behind the other. -/
def conts (σ : Heap) (size : Nat) (x : AV) : Option (Nat × List AV) :=
  match x with
  | .sl s rows => if s = size then some (rows.length, rows.flatten) else none
  | .zs => some (0, [])
  | .ms s r g off len _ =>
    match objAt σ r g with
    | some c => if s = size ∧ off + len * size ≤ c.length then some (len, (c.drop off).take (len * size)) else none
    | none => none
  | _ => none

theorem conts_ok {size n : Nat} {v : Value} {x : AV} {xs : List AV} (hi : Inv G w M σ) (hv : RV w M v x) (h : conts σ size x = some (n, xs)) :
    (Builtin.lenOf v).run P w = .ok n w ∧ xs.length = n * size ∧
    ∀ k, k ≤ n → ∃ us : Array Value, (Builtin.firstCells size k v).run P w = .ok us w ∧ us.size = k * size ∧ ∀ (j : Nat) (y : AV), j < k * size → xs[j]? = some y → RV w M (us.getD j undef) y := by
  unfold conts at h
  split at h
  · rename_i s rows
    split at h
    · rename_i hs
      subst hs
      cases h
      cases hv with
      | sl0 base cap s =>
        refine ⟨rfl, by simp, fun k hk => ?_⟩
        have hk0 : k = 0 := by simpa using hk
        subst hk0
        refine ⟨#[], ?_, by simp, fun j y hj => by simp at hj⟩
        cases base with
        | none => rfl
        | some a => simp [Builtin.firstCells, loadCells, loadCellsFrom]
      | sl b o cap s f rows hb hc hl hh hcap =>
        refine ⟨rfl, flatten_len hl, fun k hk => ?_⟩
        refine ⟨((List.range (k * s)).map fun q => f (q / s) (q % s)).toArray, ?_, by simp, fun j y hj hy => ?_⟩
        · refine run_loadCells (P := P) (w := w) (b := b) (o := o) (n := k * s) (fun q => f (q / s) (q % s)) fun q hq => ?_
          have hs : 0 < s := by
            rcases Nat.eq_zero_or_pos s with e | e
            · subst e; simp at hq
            · exact e
          have hqs : q / s < rows.length := Nat.lt_of_lt_of_le (Nat.div_lt_of_lt_mul (by rw [Nat.mul_comm]; exact hq)) hk
          have := hc (q / s) _ (q % s) (List.getElem?_eq_getElem hqs) (Nat.mod_lt _ hs)
          rw [Nat.add_assoc, Nat.mul_comm (q / s) s, Nat.div_add_mod] at this
          exact this
        · rw [getD_map_range hj]
          obtain ⟨i, j', r, e1, e2, e3, e4⟩ := flatten_get hl hy
          have hs : 0 < s := by omega
          have hd : j / s = i := by
            rw [e1, Nat.add_comm, Nat.add_mul_div_right _ _ hs, Nat.div_eq_of_lt e2, Nat.zero_add]
          have hm : j % s = j' := by
            rw [e1, Nat.add_comm, Nat.add_mul_mod_self_right, Nat.mod_eq_of_lt e2]
          rw [hd, hm]
          exact hh i r j' y e3 e4
    · cases h
  · cases h
    cases hv
    rename_i base
    refine ⟨rfl, by simp, fun k hk => ?_⟩
    have hk0 : k = 0 := by omega
    subst hk0
    refine ⟨#[], ?_, by simp, fun j y hj => by simp at hj⟩
    cases base with
    | none => rfl
    | some a => simp [Builtin.firstCells, loadCells, loadCellsFrom]
  · rename_i s r g off len cap
    split at h
    · rename_i c ho
      split at h
      · rename_i hcond
        obtain ⟨rfl, hle⟩ := hcond
        cases h
        obtain ⟨b, cs, e, hm, hh, hl, hx⟩ := hi.obj ho
        cases hv with
        | msS _ _ _ _ _ _ b g' p capc hr hg =>
          rw [hm] at hr
          obtain ⟨_, rfl⟩ := Prod.mk.inj (Option.some.inj hr)
          omega
        | ms _ _ _ _ _ _ b' capc c' e' hr hlen hcc hsz hfit =>
          rw [hm] at hr
          obtain ⟨rfl, _⟩ := Prod.mk.inj (Option.some.inj hr)
          refine ⟨rfl, by simp; omega, fun k hk => ?_⟩
          have hks : k * s ≤ n * s := Nat.mul_le_mul_right _ hk
          refine ⟨((List.range (k * s)).map fun q => cs.getD (off + q) undef).toArray, ?_, by simp, fun j y hj hy => ?_⟩
          · exact run_loadCells (P := P) (w := w) (b := b) (o := off) (n := k * s) (fun q => cs.getD (off + q) undef) fun q hq => cell_of_cells hh (by omega)
          · rw [getD_map_range hj]
            rw [List.getElem?_take_of_lt (by omega), List.getElem?_drop] at hy
            exact hx _ y hy
      · cases h
    · cases h
  · cases h

/-! ### The least and the greatest -/
def aFold (f : Int → Int → Int) : AV → List AV → Option AV
  | x, [] => some x
  | .int k a, .int k' b :: r => if k = k' then aFold f (.int k (f a b)) r else none
  | _, _ => none
def aMin (xs : List AV) : Option AV :=
  match xs with
  | x :: r => aFold (fun a b => if b < a then b else a) x r
  | [] => none
def aMax (xs : List AV) : Option AV :=
  match xs with
  | x :: r => aFold (fun a b => if b > a then b else a) x r
  | [] => none
theorem aFold_ok {f : Int → Int → Int} {g : Value → Value → Sem Value} (hg : ∀ k a b, g (.int k a) (.int k b) = pure (.int k (f a b))) :
    ∀ (xs : List AV) (vs : List Value) (v : Value) (x y : AV), vs.length = xs.length → RV w M v x → (∀ (j : Nat) (z : AV), xs[j]? = some z → RV w M (vs.toArray.getD j undef) z) → aFold f x xs = some y →
      ∃ r, (vs.foldlM g v).run P w = .ok r w ∧ RV w M r y
  | [], [], v, x, y, _, hv, _, h => by cases h; exact ⟨v, rfl, hv⟩
  | z :: xs, u :: vs, v, x, y, hl, hv, hz, h => by
    have hu : RV w M u z := by simpa using hz 0 z rfl
    unfold aFold at h
    split at h
    · rename_i e; cases e
    · rename_i e
      cases e
      split at h
      · rename_i hk
        subst hk
        cases hv; cases hu
        rw [List.foldlM_cons, hg]
        obtain ⟨r, h1, h2⟩ := aFold_ok hg xs vs _ _ y (by simpa using hl) (.int _ _) (fun j q hq => by have := hz (j + 1) q (by simpa using hq); simpa [Array.getD_eq_getD_getElem?] using this) h
        exact ⟨r, by simpa using h1, h2⟩
      · cases h
    · cases h
theorem aMin_ok {ts : Array TypeId} {ty : TypeId} {vs : Array Value} {xs : List AV} {y : AV} (hv : RVs w M vs xs) (h : aMin xs = some y) : ∃ r, (Builtin.min_ ts ty vs).run P w = .ok r w ∧ RV w M r y := by
  obtain ⟨l⟩ := vs
  match xs, l, hv.1 with
  | x :: xs, v :: vs, hl =>
    exact aFold_ok (g := Builtin.min2) (fun k a b => rfl) xs vs v x y (by simpa using hl) (by simpa using hv.2 0 x rfl) (fun j q hq => by have := hv.2 (j + 1) q (by simpa using hq); simpa [Array.getD_eq_getD_getElem?] using this) h
theorem aMax_ok {ts : Array TypeId} {ty : TypeId} {vs : Array Value} {xs : List AV} {y : AV} (hv : RVs w M vs xs) (h : aMax xs = some y) : ∃ r, (Builtin.max_ ts ty vs).run P w = .ok r w ∧ RV w M r y := by
  obtain ⟨l⟩ := vs
  match xs, l, hv.1 with
  | x :: xs, v :: vs, hl =>
    exact aFold_ok (g := Builtin.max2) (fun k a b => rfl) xs vs v x y (by simpa using hl) (by simpa using hv.2 0 x rfl) (fun j q hq => by have := hv.2 (j + 1) q (by simpa using hq); simpa [Array.getD_eq_getD_getElem?] using this) h
end
end Go.Proofs.Ytngaihdpmoajeaa.Am

namespace Go.Proofs.Ytngaihdpmoajeaa.Am
open Go

theorem growBy_le (newLen : Nat) : ∀ (rounds c : Nat), Builtin.growBy newLen rounds c ≤ Nat.max c (newLen + (newLen + 768) / 4)
  | 0, c => by rw [Builtin.growBy]; exact Nat.le_max_left _ _
  | n + 1, c => by
    rw [Builtin.growBy]
    split
    · exact Nat.le_max_left _ _
    · refine Nat.le_trans (growBy_le newLen n _) ?_
      refine Nat.max_le.2 ⟨?_, Nat.le_max_right _ _⟩
      refine Nat.le_trans ?_ (Nat.le_max_right _ _)
      omega
theorem nextcap_le {need cap : Nat} (h1 : cap < need) (h2 : need ≤ 16777216) : Builtin.nextslicecap need cap ≤ 33554432 := by
  unfold Builtin.nextslicecap
  split
  · omega
  · split
    · omega
    · refine Nat.le_trans (growBy_le need 4 cap) ?_
      exact Nat.max_le.2 ⟨by omega, by omega⟩

section
variable {w : World} {M : Map} {P : Program} {G : Nat → Option (List AV)} {σ : Heap}

def notInt (P : Program) (t : TypeId) : Bool :=
  match P.underlying t with
  | some (.slice _) => true
  | _ => false

/-- append(s, x...). What grows is moved on to its next generation. -/
def aAppend (P : Program) (σ : Heap) (t t2 : TypeId) (s x : AV) : Option (AV × Heap) :=
  match P.underlying t with
  | some (.slice e) =>
    match P.info? e, aZero P e with
    | some ie, some zx =>
      match conts σ ie.size x with
      | some (n, xs) =>
        if notInt P t2 = true ∧ xs.all AV.one = true ∧ ie.bytes ≤ 65536 ∧ zx.cells.length = ie.size ∧ zx.cells.all AV.one = true then
          match s with
          | .zs => if n = 0 then some (.zs, σ) else if n ≤ 16777216 then some (.ms ie.size σ.length 0 0 n n, σ ++ [.cells 0 xs]) else none
          | .sl size _ => if n = 0 ∧ size = ie.size then some (s, σ) else none
          | .ms size r g off len cap =>
            match objAt σ r g with
            | some c =>
              if size = ie.size ∧ len ≤ cap ∧ off + len * size ≤ c.length then
                if n = 0 then some (s, σ)
                else if len + n ≤ cap then
                  if off + (len + n) * size ≤ c.length then some (.ms size r g off (len + n) cap, σ.set r (.cells g (setL c (off + len * size) xs))) else none
                else if off = 0 ∧ len + n ≤ 16777216 then
                  some (.ms size r (g + 1) 0 (len + n) (len + n), σ.set r (.cells (g + 1) (c.take (len * size) ++ xs)))
                else none
              else none
            | none => none
          | _ => none
        else none
      | none => none
    | _, _ => none
  | _ => none

/-- The run of append where there is room. -/
theorem run_append_room {t t2 ty e : TypeId} {ie : TypeInfo} {base : Option Addr} {sLen sCap n : Nat} {v : Value} {us : Array Value} {w' : World} (hu : P.underlying t = some (.slice e)) (hie : P.info? e = some ie) (h2 : notInt P t2 = true)
    (hn : (Builtin.lenOf v).run P w = .ok n w) (hf : (Builtin.firstCells ie.size n v).run P w = .ok us w) (hroom : sLen + n ≤ sCap)
    (hs : (match base with | some a => storeCells (a.add (sLen * ie.size)) us.toList | none => pure ()).run P w = .ok () w') :
    (Builtin.append_ #[t, t2] ty #[.slice base sLen sCap, v]).run P w = .ok (.slice base (sLen + n) sCap) w' := by
  obtain ⟨e2, hu2⟩ : ∃ e2, P.underlying t2 = some (.slice e2) := by
    unfold notInt at h2
    split at h2
    · exact ⟨_, ‹_›⟩
    · cases h2
  simp only [Builtin.append_, List.getElem?_toArray, List.getElem?_cons_zero, List.getElem?_cons_succ, Sem.run_bind, run_underlying', hu, hu2, Result.andThen_ok, run_sizeOf', hie, Sem.run_pure, Bool.false_eq_true, if_false, hn, hroom, if_true, Bool.not_false, hf]
  cases base with
  | none =>
    simp only [Sem.run_pure] at hs
    cases hs
    rfl
  | some a =>
    simp only at hs
    simp only [Sem.run_bind, hs, Result.andThen_ok, Sem.run_pure]

/-- The run of append where there is none. -/
theorem run_append_grow {t t2 ty e : TypeId} {ie : TypeInfo} {base : Option Addr} {sLen sCap n : Nat} {v : Value} {us os : Array Value} (hu : P.underlying t = some (.slice e)) (hie : P.info? e = some ie) (h2 : notInt P t2 = true)
    (hn : (Builtin.lenOf v).run P w = .ok n w) (hf : (Builtin.firstCells ie.size n v).run P { w with drawn := w.drawn + 1 } = .ok us { w with drawn := w.drawn + 1 })
    (ho : (Builtin.firstCells ie.size sLen (.slice base sLen sCap)).run P { w with drawn := w.drawn + 1 } = .ok os { w with drawn := w.drawn + 1 })
    (hroom : ¬ sLen + n ≤ sCap) (hsm : sLen + n ≤ 16777216) (hb : ie.bytes ≤ 65536) {z : Value} (hz : (zeroValue e).run P { w with drawn := w.drawn + 1 } = .ok z { w with drawn := w.drawn + 1 }) :
    ∃ cap : Nat, sLen + n ≤ cap ∧ (Builtin.append_ #[t, t2] ty #[.slice base sLen sCap, v]).run P w =
      .ok (.slice (some ⟨w.heap.size, 0, none⟩) (sLen + n) cap) (({ w with drawn := w.drawn + 1 } : World).alloc (.cells (os ++ us ++ Builtin.zeroCells z.cells (cap - (sLen + n))) e)) := by
  obtain ⟨e2, hu2⟩ : ∃ e2, P.underlying t2 = some (.slice e2) := by
    unfold notInt at h2
    split at h2
    · exact ⟨_, ‹_›⟩
    · cases h2
  refine ⟨sLen + n + w.tape w.drawn (.appendCap (sLen + n) sCap e) % (2 ^ 63 - (sLen + n)), by omega, ?_⟩
  have hcap := nextcap_le (need := sLen + n) (cap := sCap) (by omega) hsm
  have hmul : Builtin.nextslicecap (sLen + n) sCap * ie.bytes ≤ 33554432 * 65536 := Nat.mul_le_mul hcap hb
  have hn1 : ¬ ((((sLen + n : Nat) : Int) > IntKind.i64.max) ∧ (False ∨ ie.bytes = 0)) := by
    have : IntKind.i64.max = 9223372036854775807 := by decide
    rw [this]
    omega
  have hn2 : ¬ (Builtin.nextslicecap (sLen + n) sCap * ie.bytes > 2 ^ 48) := by omega
  simp only [Builtin.append_, List.getElem?_toArray, List.getElem?_cons_zero, List.getElem?_cons_succ, Sem.run_bind, run_underlying', hu, hu2, Result.andThen_ok, run_sizeOf', hie, Sem.run_pure, Bool.false_eq_true, if_false, hn, if_neg hroom, Bool.not_false, if_true, run_typeInfo']
  rw [if_neg hn1]
  simp only [Sem.run_bind, run_typeInfo', hie, Result.andThen_ok]
  rw [if_neg hn2]
  have hq : (Question.appendCap (sLen + n) sCap e).forced = false := rfl
  simp only [Sem.run_bind, run_choose, hq, Bool.false_eq_true, if_false, Result.andThen_ok, run_typeInfo', hie, run_askRoom, ho, hf, hz, Sem.run_pure]
  rfl
theorem zeroCells_size (z : Array Value) (n : Nat) : (Builtin.zeroCells z n).size = n * z.size := by simp [Builtin.zeroCells]
theorem getD_append {a b : Array Value} {j : Nat} : (a ++ b).getD j undef = if j < a.size then a.getD j undef else b.getD (j - a.size) undef := by
  simp only [Array.getD_eq_getD_getElem?, Array.getElem?_append]
  split <;> rfl

theorem all_one {us : Array Value} {xs : List AV} (hl : us.size = xs.length) (h1 : xs.all AV.one = true) (h : ∀ (j : Nat) (y : AV), xs[j]? = some y → RV w M (us.getD j undef) y) : ∀ u ∈ us.toList, u.oneCell' = true := by
  intro u hu
  obtain ⟨j, hj, rfl⟩ := List.getElem_of_mem hu
  have hj' : j < xs.length := by simpa [hl] using hj
  have := h j xs[j] (List.getElem?_eq_getElem hj')
  have h2 := (this.oneCell (List.all_eq_true.1 h1 _ (List.getElem_mem hj'))).1
  have hs : j < us.size := by omega
  simpa [Array.getD, hs] using h2

theorem notNoCells {b : Nat} {cs : Array Value} {e : TypeId} {fr : Nat × Nat} (h : w.heap[b]? = some (.cells cs e fr)) : ¬ NoCells w b := fun hn => hn.2 _ _ _ h

theorem aAppend_ok {t t2 ty : TypeId} {sv xv : Value} {s x y : AV} {σ' : Heap} (hi : Inv G w M σ) (hs : RV w M sv s) (hx : RV w M xv x) (h : aAppend P σ t t2 s x = some (y, σ')) :
    ∃ v w' M', (Builtin.append_ #[t, t2] ty #[sv, xv]).run P w = .ok v w' ∧ RV w' M' v y ∧ Ext w M w' M' ∧ Inv G w' M' σ' := by
  unfold aAppend at h
  split at h
  case h_2 => cases h
  rename_i e hu
  split at h
  case h_2 => cases h
  rename_i ie zx hie hz
  split at h
  case h_2 => cases h
  rename_i n xs hc
  split at h
  case isFalse => cases h
  rename_i hcond
  obtain ⟨h2, h1, hb, hzs, hzo⟩ := hcond
  obtain ⟨c1, c2, c3⟩ := conts_ok (P := P) hi hx hc
  obtain ⟨us, f1, f2, f3⟩ := c3 n (Nat.le_refl _)
  have f4 : ∀ (j : Nat) (q : AV), xs[j]? = some q → RV w M (us.getD j undef) q := fun j q hq => f3 j q (by have := (List.getElem?_eq_some_iff.1 hq).1; omega) hq
  have f5 := all_one (f2.trans c2.symm) h1 f4
  -- the same in the world in which a new row is laid
  have hed := Ext.drew w M
  obtain ⟨d1, _, d3⟩ := conts_ok (P := P) hi.drew (hx.mono hed) hc
  obtain ⟨us', g1, g2, g3⟩ := d3 n (Nat.le_refl _)
  have g4 : ∀ (j : Nat) (q : AV), xs[j]? = some q → RV { w with drawn := w.drawn + 1 } M (us'.getD j undef) q := fun j q hq => g3 j q (by have := (List.getElem?_eq_some_iff.1 hq).1; omega) hq
  obtain ⟨z, hz1, hz2⟩ := aZero_ok hz { w with drawn := w.drawn + 1 } M
  have hzz : z.cells.size = ie.size := (hz2.cells hzo).1.1.trans hzs
  split at h
  · -- no room at all
    cases hs
    rename_i base
    split at h
    · rename_i hn0
      cases h
      subst hn0
      have hus : us = #[] := Array.eq_empty_of_size_eq_zero (by rw [f2]; simp)
      subst hus
      refine ⟨_, w, M, run_append_room hu hie h2 c1 f1 (Nat.le_refl _) ?_, .zs base, .refl w M, hi⟩
      cases base with
      | none => rfl
      | some a => simp [storeCells]
    · rename_i hn0
      split at h
      · rename_i hsm
        cases h
        have hos : (Builtin.firstCells ie.size 0 (.slice base 0 0)).run P { w with drawn := w.drawn + 1 } = .ok #[] { w with drawn := w.drawn + 1 } := by
          cases base with
          | none => rfl
          | some a => simp [Builtin.firstCells, loadCells, loadCellsFrom]
        obtain ⟨cap, k1, k2⟩ := run_append_grow (ty := ty) hu hie h2 c1 g1 hos (by omega) (by omega) hb hz1
        simp only [Nat.zero_add] at k1 k2
        refine ⟨_, _, M.put σ.length (w.heap.size, 0), k2, ?_, hed.trans (Ext.push hi.drew _), ?_⟩
        · refine .ms ie.size σ.length 0 0 n n w.heap.size cap _ e (Map.put_same _ _ _) (Nat.le_refl _) k1 (alloc_new _ _) ?_
          have : n * ie.size + (cap - n) * ie.size = cap * ie.size := by rw [← Nat.add_mul]; congr 1; omega
          simp [g2, zeroCells_size, hzz]
          omega
        · refine Inv.push hi.drew ⟨w.heap.size, _, e, Map.put_same _ _ _, alloc_new _ _, by simp [g2, c2], fun j q hq => ?_⟩
          have hj : j < us'.size := by
            have := (List.getElem?_eq_some_iff.1 hq).1
            omega
          have he := Ext.push hi.drew (.cells (#[] ++ us' ++ Builtin.zeroCells z.cells (cap - n)) e)
          rw [getD_append, if_pos (by simpa using hj)]
          simpa using (g4 j q hq).mono he
      · cases h
  · -- a slice of others' cells: nothing may be appended
    rename_i size rows
    split at h
    · rename_i hcc
      obtain ⟨rfl, rfl⟩ := hcc
      cases h
      have hus : us = #[] := Array.eq_empty_of_size_eq_zero (by rw [f2]; simp)
      subst hus
      have key : ∀ (base : Option Addr) (len cap : Nat), len ≤ cap → (Builtin.append_ #[t, t2] ty #[.slice base len cap, xv]).run P w = .ok (.slice base len cap) w := fun base len cap hlc =>
        run_append_room hu hie h2 c1 f1 hlc (by cases base with | none => rfl | some a => simp [storeCells])
      cases hs with
      | sl0 base cap size => exact ⟨_, w, M, key _ _ _ (Nat.zero_le _), .sl0 _ _ _, .refl w M, hi⟩
      | sl b o cap size f rows hbb hcell hl hh hcap => exact ⟨_, w, M, key _ _ _ hcap, .sl b o cap _ f rows hbb hcell hl hh hcap, .refl w M, hi⟩
    · cases h
  · rename_i size r g off len cap
    split at h
    case h_2 => cases h
    rename_i c ho
    split at h
    case isFalse => cases h
    rename_i hcc
    obtain ⟨rfl, hlc, hle⟩ := hcc
    obtain ⟨b, cs, e0, hm, hh, hl, hcx⟩ := hi.obj ho
    cases hs with
    | msS _ _ _ _ _ _ b' g' p capc hr hg =>
      rw [hm] at hr
      obtain ⟨_, rfl⟩ := Prod.mk.inj (Option.some.inj hr)
      omega
    | ms _ _ _ _ _ _ b' capc c' e' hr hlen hcc hsz hfit =>
      rw [hm] at hr
      obtain ⟨rfl, _⟩ := Prod.mk.inj (Option.some.inj hr)
      rw [hh] at hsz
      cases hsz
      split at h
      · rename_i hn0
        cases h
        subst hn0
        have hus : us = #[] := Array.eq_empty_of_size_eq_zero (by rw [f2]; simp)
        subst hus
        exact ⟨_, w, M, run_append_room hu hie h2 c1 f1 (by omega) (by simp [storeCells]), .ms _ _ _ _ _ _ b capc cs e0 hm hlen hcc hh hfit, .refl w M, hi⟩
      · rename_i hn0
        have hsum : (len + n) * ie.size = len * ie.size + n * ie.size := Nat.add_mul _ _ _
        have hxl : xs.length = n * ie.size := c2
        by_cases hroom : len + n ≤ capc
        · -- there is room: the cells are written where they lie
          have hfit2 : off + (len + n) * ie.size ≤ cs.size := by
            have : (len + n) * ie.size ≤ capc * ie.size := Nat.mul_le_mul_right _ hroom
            omega
          have hstore : (storeCells ((⟨b, off, none⟩ : Addr).add (len * ie.size)) us.toList).run P w = .ok () (upd w b (wr cs (off + len * ie.size) us.toList) e0) := by
            rw [add_plain]
            exact run_storeCells us.toList 0 cs w hh (by simp; omega) f5
          have hrun := run_append_room (ty := ty) (base := some ⟨b, off, none⟩) (w' := upd w b (wr cs (off + len * ie.size) us.toList) e0) hu hie h2 c1 f1 hroom hstore
          split at h
          · rename_i hle2
            split at h
            · rename_i hle3
              cases h
              have he := Ext.upd (M := M) (cs' := wr cs (off + len * ie.size) us.toList) (g' := g) hm hh (wr_size _ _ _) (Nat.le_refl _) (hi.others hm) (hi.notFar hm)
              have hinv := Inv.upd (cs' := wr cs (off + len * ie.size) us.toList) (g' := g) (c' := setL c (off + len * ie.size) xs) hi hm hh (wr_size _ _ _) (Nat.le_refl _) (by rw [setL_length (by omega), wr_size]; exact hl)
                (written hl (by omega) (by simp; omega) (fun j q hq => (hcx j q hq).mono he) (fun j q hq => by simpa using (f4 j q hq).mono he))
              rw [put_self hm] at he hinv
              exact ⟨_, _, M, hrun, .ms _ _ _ _ _ _ b capc _ e0 hm hle2 hcc (upd_same (lt_of_heap hh)) (by rw [wr_size]; exact hfit), he, hinv⟩
            · cases h
          · rename_i hle2
            split at h
            · rename_i hoff
              obtain ⟨rfl, hsm⟩ := hoff
              cases h
              have he := Ext.upd (M := M) (cs' := wr cs (0 + len * ie.size) us.toList) (g' := g + 1) hm hh (wr_size _ _ _) (by omega) (hi.others hm) (hi.notFar hm)
              refine ⟨_, _, M.put r (b, g + 1), hrun, .ms _ _ _ _ _ _ b capc _ e0 (Map.put_same _ _ _) (Nat.le_refl _) hroom (upd_same (lt_of_heap hh)) (by rw [wr_size]; exact hfit), he, ?_⟩
              refine Inv.upd (cs' := wr cs (0 + len * ie.size) us.toList) (g' := g + 1) hi hm hh (wr_size _ _ _) (by omega) (by rw [wr_size]; simp; omega) fun j q hq => ?_
              have htl : (c.take (len * ie.size)).length = len * ie.size := by simp; omega
              rw [wr_get us.toList cs _ j (by simp; omega)]
              by_cases hj : j < len * ie.size
              · rw [List.getElem?_append_left (by omega), List.getElem?_take_of_lt hj] at hq
                rw [if_pos (by omega)]
                exact (hcx j q hq).mono he
              · rw [List.getElem?_append_right (by omega), htl] at hq
                have hjl := (List.getElem?_eq_some_iff.1 hq).1
                rw [if_neg (by omega), if_pos (by simp; omega)]
                simpa using (f4 _ q hq).mono he
            · cases h
        · -- none: a new row
          split at h
          · omega
          · split at h
            · rename_i hoff
              obtain ⟨rfl, hsm⟩ := hoff
              cases h
              have hos : (Builtin.firstCells ie.size len (.slice (some ⟨b, 0, none⟩) len capc)).run P { w with drawn := w.drawn + 1 } = .ok ((List.range (len * ie.size)).map fun q => cs.getD q undef).toArray { w with drawn := w.drawn + 1 } := by
                refine run_loadCells (fun q => cs.getD q undef) fun q hq => ?_
                rw [Nat.zero_add]
                exact cell_of_cells (w := { w with drawn := w.drawn + 1 }) hh (by omega)
              obtain ⟨cap', k1, k2⟩ := run_append_grow (ty := ty) hu hie h2 c1 g1 hos hroom hsm hb hz1
              have he := Ext.move (w := { w with drawn := w.drawn + 1 }) (M := M) (g' := g + 1) (o := .cells (((List.range (len * ie.size)).map fun q => cs.getD q undef).toArray ++ us' ++ Builtin.zeroCells z.cells (cap' - (len + n))) e) hm (by omega) (notNoCells hh)
              refine ⟨_, _, M.put r (w.heap.size, g + 1), k2, .ms _ _ _ _ _ _ w.heap.size cap' _ e (Map.put_same _ _ _) (Nat.le_refl _) k1 (alloc_new _ _) ?_, hed.trans he, ?_⟩
              · have : (len + n) * ie.size + (cap' - (len + n)) * ie.size = cap' * ie.size := by rw [← Nat.add_mul]; congr 1; omega
                simp [g2, zeroCells_size, hzz]
                omega
              · refine Inv.move (w := { w with drawn := w.drawn + 1 }) (cs' := ((List.range (len * ie.size)).map fun q => cs.getD q undef).toArray ++ us' ++ Builtin.zeroCells z.cells (cap' - (len + n))) hi.drew hm (by omega) (notNoCells hh) (by simp [g2]; omega) fun j q hq => ?_
                have htl : (c.take (len * ie.size)).length = len * ie.size := by simp; omega
                rw [getD_append]
                by_cases hj : j < len * ie.size
                · rw [List.getElem?_append_left (by omega), List.getElem?_take_of_lt hj] at hq
                  rw [if_pos (by simp; omega), getD_append, if_pos (by simpa using hj), getD_map_range hj]
                  exact (hcx j q hq).mono hed
                · rw [List.getElem?_append_right (by omega), htl] at hq
                  have hjl := (List.getElem?_eq_some_iff.1 hq).1
                  rw [if_pos (by simp [g2]; omega), getD_append, if_neg (by simpa using hj)]
                  simpa using g4 _ q hq
            · cases h
  · cases h
end
end Go.Proofs.Ytngaihdpmoajeaa.Am

namespace Go.Proofs.Ytngaihdpmoajeaa.Am
open Go

section
variable {P : Program} {G : Nat → Option (List AV)}

/-! ### An operation that calls nothing -/
def evAll (G : Nat → Option (List AV)) (a : List AV) : List Operand → Option (List AV)
  | [] => some []
  | x :: r => match ev G a x, evAll G a r with
    | some y, some ys => some (y :: ys)
    | _, _ => none
def evParts (G : Nat → Option (List AV)) (a : List AV) : List (Nat × Operand) → Option (List (Nat × AV))
  | [] => some []
  | (i, x) :: r => match ev G a x, evParts G a r with
    | some y, some ys => some ((i, y) :: ys)
    | _, _ => none
/-- An operand that may lack: none of it, or its value. -/
def evOpt (G : Nat → Option (List AV)) (a : List AV) : Option Operand → Option (Option AV)
  | none => some none
  | some x => (ev G a x).map some

def aBuiltin (P : Program) (σ : Heap) (b : Builtin) (ts : List TypeId) (xs : List AV) : Option (AV × Heap) :=
  match b, ts, xs with
  | .len, [t], [x] => (aLen P t x).map (·, σ)
  | .append, [t, t2], [s, x] => aAppend P σ t t2 s x
  | .min, _, xs => (aMin xs).map (·, σ)
  | .max, _, xs => (aMax xs).map (·, σ)
  | _, _, _ => none

def aop (P : Program) (G : Nat → Option (List AV)) (a : List AV) (σ : Heap) (o : Oper) : Option (AV × Heap) :=
  match o.op with
  | .move x | .assign x => (ev G a x).map (·, σ)
  | .pick c x y =>
    match ev G a c with
    | some (.bool b) => (if b then ev G a x else ev G a y).map (·, σ)
    | _ => none
  | .alloc t => aAlloc P σ t
  | .box _ x => (ev G a x).bind (aBox σ)
  | .build t ps => ((evParts G a ps.toList).bind (aBuild P t)).map (·, σ)
  | .buildSlice t n ps => ((evParts G a ps.toList).bind (aLit P t n)).map (·, σ)
  | .load t x => ((ev G a x).bind (aLoad P σ t)).map (·, σ)
  | .store t x y =>
    match ev G a x, ev G a y with
    | some p, some v => (aStore P σ t p v).map ((.tup [], ·))
    | _, _ => none
  | .nilCheck x => ((ev G a x).bind aNil).map (·, σ)
  | .binOp op t x y _ =>
    match ev G a x, ev G a y with
    | some p, some q => (aBin P op t p q).map (·, σ)
    | _, _ => none
  | .unOp op _ x => ((ev G a x).bind (aUn op)).map (·, σ)
  | .convert s d x => ((ev G a x).bind (aConv P s d)).map (·, σ)
  | .makeFunc (.func f) first caps =>
    match evAll G a first.toList, evAll G a caps.toList with
    | some xs, some ys => some (.fn f xs ys, σ)
    | _, _ => none
  | .makeSlice t l c =>
    match ev G a l, ev G a c with
    | some x, some y => aMake P σ t x y
    | _, _ => none
  | .slice t x lo hi mx =>
    match ev G a x, evOpt G a lo, evOpt G a hi, evOpt G a mx with
    | some v, some l, some h, some m => (aSlice P σ t v l h m).map (·, σ)
    | _, _, _, _ => none
  | .fieldAddr t x k => ((ev G a x).bind (aField P t · k)).map (·, σ)
  | .indexAddr t x i =>
    match ev G a x, ev G a i with
    | some v, some n => (aIndex P σ t v n).map (·, σ)
    | _, _ => none
  | .extract x k => ((ev G a x).bind (aExtract · k)).map (·, σ)
  | .field t x k => ((ev G a x).bind (aFld P t · k)).map (·, σ)
  | .call { callee := .builtin b, args := args, argTypes := ts } => (evAll G a args.toList).bind (aBuiltin P σ b ts.toList)
  | _ => none

variable {w : World} {M : Map} {σ σ' : Heap} {a : List AV} {ac : Act}

theorem map_pair {x : Option AV} {y : AV} (h : x.map (·, σ) = some (y, σ')) : x = some y ∧ σ' = σ := by
  cases x with
  | none => cases h
  | some x => cases h; exact ⟨rfl, rfl⟩

theorem Good.calm {y : AV} {s : Sem Value} (hi : Inv G w M σ) (h : ∃ r, s.run P w = .ok r w ∧ RV w M r y) : Good G w M σ y ((do pure (.value (← s)) : Sem Next).run P w) := by
  obtain ⟨r, h1, h2⟩ := h
  simp only [Sem.run_bind, h1, Result.andThen_ok, Sem.run_pure]
  exact .same hi h2
theorem Good.world {y : AV} {s : Sem Value} (h : ∃ v w' M', s.run P w = .ok v w' ∧ RV w' M' v y ∧ Ext w M w' M' ∧ Inv G w' M' σ') : Good G w M σ' y ((do pure (.value (← s)) : Sem Next).run P w) := by
  obtain ⟨v, w', M', h1, h2, h3, h4⟩ := h
  simp only [Sem.run_bind, h1, Result.andThen_ok, Sem.run_pure]
  exact ⟨v, w', M', .inl rfl, h2, h3, h4⟩

theorem evAll_ok (hi : Inv G w M σ) (ha : RVs w M ac.tmps a) : ∀ {l : List Operand} {ys : List AV}, evAll G a l = some ys → RVs w M (l.toArray.map ac.eval) ys
  | [], ys, h => by cases h; exact ⟨by simp, fun j x hj => by simp at hj⟩
  | x :: r, ys, h => by
    unfold evAll at h
    split at h
    · rename_i y zs hy hz
      cases h
      obtain ⟨h1, h2⟩ := evAll_ok hi ha hz
      refine ⟨by simpa using h1, fun j q hj => ?_⟩
      cases j with
      | zero => simp at hj; subst hj; simpa [Array.getD_eq_getD_getElem?] using ev_ok hi ha hy
      | succ j => have := h2 j q (by simpa using hj); simpa [Array.getD_eq_getD_getElem?] using this
    · cases h

theorem evParts_ok (hi : Inv G w M σ) (ha : RVs w M ac.tmps a) : ∀ {l : List (Nat × Operand)} {ys : List (Nat × AV)}, evParts G a l = some ys →
    ys.length = l.length ∧ ∀ (j : Nat) (p : Nat × AV), ys[j]? = some p → ∃ v, (l.map fun (i, x) => (i, ac.eval x))[j]? = some (p.1, v) ∧ RV w M v p.2
  | [], ys, h => by cases h; exact ⟨rfl, fun j x hj => by simp at hj⟩
  | (i, x) :: r, ys, h => by
    unfold evParts at h
    split at h
    · rename_i y zs hy hz
      cases h
      obtain ⟨h1, h2⟩ := evParts_ok hi ha hz
      refine ⟨by simpa using h1, fun j q hj => ?_⟩
      cases j with
      | zero => simp at hj; subst hj; exact ⟨_, rfl, ev_ok hi ha hy⟩
      | succ j => have := h2 j q (by simpa using hj); simpa using this
    · cases h

theorem evOpt_ok (hi : Inv G w M σ) (ha : RVs w M ac.tmps a) {x : Option Operand} {y : Option AV} (h : evOpt G a x = some y) : ROpt w M (x.map ac.eval) y := by
  cases x with
  | none => cases h; exact .none
  | some x =>
    simp only [evOpt] at h
    cases hx : ev G a x with
    | none => rw [hx] at h; cases h
    | some z => rw [hx] at h; cases h; exact .some _ _ (ev_ok hi ha hx)

theorem arr1 {vs : Array Value} (h : vs.size = 1) : vs = #[vs.getD 0 undef] := by
  obtain ⟨l⟩ := vs
  match l, h with
  | [v], _ => rfl
theorem arr2 {vs : Array Value} (h : vs.size = 2) : vs = #[vs.getD 0 undef, vs.getD 1 undef] := by
  obtain ⟨l⟩ := vs
  match l, h with
  | [v, u], _ => rfl

theorem aop_ok {o : Oper} {y : AV} (hi : Inv G w M σ) (ha : RVs w M ac.tmps a) (h : aop P G a σ o = some (y, σ')) : Good G w M σ' y ((execOp ac.eval o).run P w) := by
  unfold aop at h
  unfold execOp
  split at h <;> rename_i ho <;> simp only [ho]
  · obtain ⟨h1, rfl⟩ := map_pair h
    exact .same hi (ev_ok hi ha h1)
  · obtain ⟨h1, rfl⟩ := map_pair h
    exact .same hi (ev_ok hi ha h1)
  · split at h
    · rename_i b hc
      obtain ⟨h1, rfl⟩ := map_pair h
      have hb := ev_ok hi ha hc
      generalize ac.eval _ = cv at hb
      cases hb
      cases b
      · exact .same hi (ev_ok hi ha h1)
      · exact .same hi (ev_ok hi ha h1)
    · cases h
  · exact .world (aAlloc_ok hi h)
  · obtain ⟨x, hx, h⟩ := Option.bind_eq_some_iff.1 h
    exact .world (aBox_ok hi (ev_ok hi ha hx) h)
  · obtain ⟨h1, rfl⟩ := map_pair h
    obtain ⟨ps, hp, h⟩ := Option.bind_eq_some_iff.1 h1
    obtain ⟨k1, k2⟩ := evParts_ok hi ha hp
    exact .calm hi (aBuild_ok (by simpa using k1) (by simpa using k2) h)
  · obtain ⟨h1, rfl⟩ := map_pair h
    obtain ⟨ps, hp, h⟩ := Option.bind_eq_some_iff.1 h1
    obtain ⟨k1, k2⟩ := evParts_ok hi ha hp
    obtain ⟨v, w', q1, q2, q3, q4⟩ := aLit_ok (P := P) (vs := (Array.map (fun (i, x) => (i, ac.eval x)) _)) hi (by simpa using k1) (by simpa using k2) h
    exact .world ⟨v, w', M, q1, q2, q3, q4⟩
  · obtain ⟨h1, rfl⟩ := map_pair h
    obtain ⟨x, hx, h⟩ := Option.bind_eq_some_iff.1 h1
    exact .calm hi (aLoad_ok hi (ev_ok hi ha hx) h)
  · split at h
    · rename_i p v hp hv
      cases hs : aStore P σ _ p v with
      | none => rw [hs] at h; cases h
      | some σ1 =>
        rw [hs] at h
        cases h
        obtain ⟨w', k1, k2, k3⟩ := aStore_ok hi (ev_ok hi ha hp) (ev_ok hi ha hv) hs
        refine ⟨undef, w', M, .inr ⟨?_, rfl⟩, .tup #[] [] rfl (fun j x hj => by simp at hj), k2, k3⟩
        simp only [Sem.run_bind, k1, Result.andThen_ok, Sem.run_pure]
    · cases h
  · obtain ⟨h1, rfl⟩ := map_pair h
    obtain ⟨x, hx, h⟩ := Option.bind_eq_some_iff.1 h1
    have hv := ev_ok hi ha hx
    unfold aNil at h
    generalize ac.eval _ = cv at hv
    split at h
    · cases h; cases hv with | row b o off f cells hb hc hh => exact .same hi (.row b o _ f _ hb hc hh)
    · cases h
      cases hv with
      | ref r g off b hr => exact .same hi (.ref _ _ _ b hr)
      | refS r g off b g' p hr hg => exact .same hi (.refS _ _ _ b g' p hr hg)
    · cases h; cases hv with | fn f fs cs xs ys hl1 hl2 h1 h2 => exact .same hi (.fn _ fs cs _ _ hl1 hl2 h1 h2)
    · cases h
  · split at h
    · rename_i p q hp hq
      obtain ⟨h1, rfl⟩ := map_pair h
      obtain ⟨r, k1, k2⟩ := aBin_ok (P := P) (ev_ok hi ha hp) (ev_ok hi ha hq) h1
      exact .calm hi ⟨r, k1, k2⟩
    · cases h
  · obtain ⟨h1, rfl⟩ := map_pair h
    obtain ⟨x, hx, h⟩ := Option.bind_eq_some_iff.1 h1
    exact .calm hi (aUn_ok (ev_ok hi ha hx) h)
  · obtain ⟨h1, rfl⟩ := map_pair h
    obtain ⟨x, hx, h⟩ := Option.bind_eq_some_iff.1 h1
    exact .calm hi (aConv_ok (ev_ok hi ha hx) h)
  · split at h
    · rename_i xs ys hx hy
      cases h
      obtain ⟨x1, x2⟩ := evAll_ok hi ha hx
      obtain ⟨y1, y2⟩ := evAll_ok hi ha hy
      exact .same hi (.fn _ _ _ xs ys x1 y1 x2 y2)
    · cases h
  · split at h
    · rename_i l c hl hc
      exact .world (aMake_ok hi (ev_ok hi ha hl) (ev_ok hi ha hc) h)
    · cases h
  · split at h
    · rename_i v l hh m hv hl hh' hm
      obtain ⟨h1, rfl⟩ := map_pair h
      exact .calm hi (aSlice_ok hi (ev_ok hi ha hv) (evOpt_ok hi ha hl) (evOpt_ok hi ha hh') (evOpt_ok hi ha hm) h1)
    · cases h
  · obtain ⟨h1, rfl⟩ := map_pair h
    obtain ⟨x, hx, h⟩ := Option.bind_eq_some_iff.1 h1
    exact .calm hi (aField_ok (ev_ok hi ha hx) h)
  · split at h
    · rename_i v n hv hn
      obtain ⟨h1, rfl⟩ := map_pair h
      exact .calm hi (aIndex_ok hi (ev_ok hi ha hv) (ev_ok hi ha hn) h1)
    · cases h
  · obtain ⟨h1, rfl⟩ := map_pair h
    obtain ⟨x, hx, h⟩ := Option.bind_eq_some_iff.1 h1
    exact .calm hi (aExtract_ok (ev_ok hi ha hx) h)
  · obtain ⟨h1, rfl⟩ := map_pair h
    obtain ⟨x, hx, h⟩ := Option.bind_eq_some_iff.1 h1
    exact .calm hi (aFld_ok (ev_ok hi ha hx) h)
  · rename_i b args ts
    obtain ⟨xs, hx, h⟩ := Option.bind_eq_some_iff.1 h
    obtain ⟨x1, x2⟩ := evAll_ok hi ha hx
    simp only [Array.toArray_toList] at x1 x2
    simp only [resolve, Sem.run_bind, Sem.run_pure, Result.andThen_ok, invoke, builtin]
    unfold aBuiltin at h
    split at h
    · rename_i t x hts _
      obtain ⟨h1, rfl⟩ := map_pair h
      rw [arr1 x1]
      refine .calm hi (aLen_ok (t := t) ?_ (x2 0 x rfl) h1)
      rw [← Array.getElem?_toList, hts]
      rfl
    · rename_i t t2 s x hts _
      have htsa : ts = #[t, t2] := by
        rw [← Array.toArray_toList (xs := ts), hts]
      rw [arr2 x1, htsa]
      exact .world (aAppend_ok hi (x2 0 s rfl) (x2 1 x rfl) h)
    · obtain ⟨h1, rfl⟩ := map_pair h
      exact .calm hi (aMin_ok ⟨x1, x2⟩ h1)
    · obtain ⟨h1, rfl⟩ := map_pair h
      exact .calm hi (aMax_ok ⟨x1, x2⟩ h1)
    · cases h
  · cases h
end
end Go.Proofs.Ytngaihdpmoajeaa.Am

namespace Go.Proofs.Ytngaihdpmoajeaa.Am
open Go

/-- The fence that lets everything in: of a function's frame, or of a round's. -/
def FW : Option Nat → Fence
  | none => Fence.wide
  | some l => Fence.wide.inRound l
theorem FW_fn (r : Option Nat) (f : FuncId) : (FW r).fn f := by cases r <;> trivial
theorem FW_depth (r : Option Nat) : (FW r).depth = none := by cases r <;> rfl
theorem FW_calls {r : Option Nat} {n : Nat} {P : Program} {f : FuncId} {args : Array Value} {w : World} {R : Ending → World → Prop} (h : CallsIn Fence.wide n P f args w R) : CallsIn (FW r) n P f args w R := by
  cases r with
  | none => exact h
  | some l => exact CallsIn.inRound l h

/-- A frame of which less is said. -/
def Le (xs ys : List AV) : Prop := xs.length = ys.length ∧ ∀ (j : Nat) (y : AV), ys[j]? = some y → y = .junk ∨ xs[j]? = some y
theorem Le.refl (xs : List AV) : Le xs xs := ⟨rfl, fun _ _ h => .inr h⟩
theorem Le.nil : Le [] [] := .refl []
theorem Le.cons {x : AV} {xs ys : List AV} (h : Le xs ys) : Le (x :: xs) (x :: ys) := by
  refine ⟨by simp [h.1], fun j y hj => ?_⟩
  cases j with
  | zero => exact .inr (by simpa using hj)
  | succ j => have := h.2 j y (by simpa using hj); simpa using this
theorem Le.junk {x : AV} {xs ys : List AV} (h : Le xs ys) : Le (x :: xs) (.junk :: ys) := by
  refine ⟨by simp [h.1], fun j y hj => ?_⟩
  cases j with
  | zero => simp at hj; exact .inl hj.symm
  | succ j => have := h.2 j y (by simpa using hj); simpa using this
theorem RVs.le {w : World} {M : Map} {vs : Array Value} {xs ys : List AV} (h : RVs w M vs xs) (hl : Le xs ys) : RVs w M vs ys :=
  ⟨h.1.trans hl.1, fun j y hj => by
    rcases hl.2 j y hj with rfl | hx
    · exact .junk _
    · exact h.2 j y hx⟩
theorem RAct.le {w : World} {M : Map} {ac : Act} {a : AAct} {ys : List AV} (h : RAct w M ac a) (hl : Le a.tmps ys) : RAct w M ac { a with tmps := ys } := ⟨h.tmps.le hl, h.marks⟩

theorem RVs.append {w : World} {M : Map} {u v : Array Value} {xs ys : List AV} (h : RVs w M u xs) (k : RVs w M v ys) : RVs w M (u ++ v) (xs ++ ys) := by
  refine ⟨by simp [h.1, k.1], fun j x hj => ?_⟩
  rw [getD_append]
  by_cases hlt : j < xs.length
  · rw [List.getElem?_append_left hlt] at hj
    rw [if_pos (by rw [h.1]; exact hlt)]
    exact h.2 j x hj
  · rw [List.getElem?_append_right (by omega)] at hj
    rw [if_neg (by rw [h.1]; exact hlt), h.1]
    exact k.2 _ x hj

section
variable {P : Program} {G : Nat → Option (List AV)}

/-! ### Calls -/
/-- A function with a body of its own, entered as such. -/
def FnOk (P : Program) (f : FuncId) : Prop := ∃ fn, P.funcs[f]? = some fn ∧ fn.body.isNone = false ∧ (fn.name == "runtime.NumGoroutine") = false

/-- THE FACT ON A CALL: with these arguments over this heap the function returns that value over that heap. -/
def ACall (P : Program) (G : Nat → Option (List AV)) (f : FuncId) (args : List AV) (σ : Heap) (v : AV) (σ' : Heap) : Prop :=
  FnOk P f ∧ ∀ (w : World) (M : Map) (vs : Array Value), Inv G w M σ → RVs w M vs args →
    CallsIn Fence.wide 0 P f vs w fun e w' => ∃ u M', e = .returned u ∧ RV w' M' u v ∧ Ext w M w' M' ∧ Inv G w' M' σ'

/-! ### One operation -/
def AAct.put (a : AAct) (dst : Option Tmp) (y : AV) : AAct :=
  match dst with
  | some d => { a with tmps := a.tmps.set d y }
  | none => a

theorem RAct.put {w : World} {M : Map} {ac : Act} {a : AAct} {v : Value} {y : AV} (h : RAct w M ac a) (hv : RV w M v y) (dst : Option Tmp) : RAct w M (ac.put dst v) (a.put dst y) := by
  cases dst with
  | none => exact h
  | some d =>
    refine ⟨⟨by simp [Act.put, AAct.put, h.tmps.1], fun j x hj => ?_⟩, h.marks⟩
    simp only [Act.put, AAct.put] at hj ⊢
    by_cases hd : j = d
    · subst hd
      have hlt : j < a.tmps.length := by
        have := (List.getElem?_eq_some_iff.1 hj).1
        simpa using this
      rw [List.getElem?_set_self hlt] at hj
      cases hj
      rw [getD_set (by rw [h.tmps.1]; exact hlt), if_pos rfl]
      exact hv
    · rw [List.getElem?_set_ne (fun e => hd e.symm)] at hj
      have := h.tmps.2 j x hj
      simp only [Array.getD_eq_getD_getElem?, Array.getElem?_setIfInBounds] at this ⊢
      rw [if_neg (fun e => hd e.symm)]
      exact this

def AStep (P : Program) (G : Nat → Option (List AV)) (a : AAct) (σ : Heap) (o : Oper) (y : AV) (σ' : Heap) : Prop :=
  ∀ (r0 : Option Nat) (w : World) (M : Map) (ac : Act) (K : Act → World → Prop) (Q : Exit → Act → World → Prop), Inv G w M σ → RAct w M ac a →
    (∀ v w' M', RV w' M' v y → Ext w M w' M' → Inv G w' M' σ' → K (ac.put o.dst v) w') → o.wpIn (FW r0) 0 P ac w K Q

theorem aop_noDefer {a : List AV} {σ σ' : Heap} {o : Oper} {y : AV} (h : aop P G a σ o = some (y, σ')) : ∀ c, o.op ≠ .defer c := by
  intro c hc
  unfold aop at h
  rw [hc] at h
  cases h

theorem AStep.op {a : AAct} {σ σ' : Heap} {o : Oper} {y : AV} (h : aop P G a.tmps σ o = some (y, σ')) : AStep P G a σ o y σ' := by
  intro r0 w M ac K Q hi ha hK
  obtain ⟨v, w', M', hr, hv, he, hinv⟩ := aop_ok (P := P) hi ha.tmps h
  refine ⟨fun f _ => FW_fn r0 f, ?_⟩
  rw [Oper.semAt_eq _ _ _ (aop_noDefer h)]
  rcases hr with hr | ⟨hr, rfl⟩
  · rw [hr]; exact hK v w' M' hv he hinv
  · rw [hr]; exact hK undef w' M' hv he hinv

theorem AStep.call {a : AAct} {σ σ' : Heap} {o : Oper} {y : AV} {c : Call} {f : Operand} {g : FuncId} {first caps xs : List AV} (ho : o.op = .call c) (hc : c.callee = .value f)
    (hf : ev G a.tmps f = some (.fn g first caps)) (hx : evAll G a.tmps c.args.toList = some xs) (hcall : ACall P G g (first ++ xs ++ caps) σ y σ') : AStep P G a σ o y σ' := by
  intro r0 w M ac K Q hi ha hK
  refine ⟨fun f _ => FW_fn r0 f, ?_⟩
  have hnd : ∀ c, o.op ≠ .defer c := fun c' h => by rw [ho] at h; cases h
  rw [Oper.semAt_eq _ _ _ hnd]
  obtain ⟨⟨fn, hfn, hbody, hname⟩, hcalls⟩ := hcall
  have hfv := ev_ok hi ha.tmps hf
  have hxs := evAll_ok hi ha.tmps hx
  simp only [Array.toArray_toList] at hxs
  generalize hfe : ac.eval f = fv at hfv
  cases hfv with
  | fn _ fs cs _ _ hl1 hl2 h1 h2 =>
    have hrun : (execOp ac.eval o).run P w = .ok (.enter g (fs ++ c.args.map ac.eval ++ cs)) w := by
      unfold execOp
      simp only [ho, Sem.run_bind, resolve, hc, hfe, Deferred.ofValue, Sem.run_pure, Result.andThen_ok, invoke, callFunc, run_program, hfn, hname, Bool.false_eq_true, if_false, hbody]
    rw [hrun]
    refine ⟨fun h => (by rw [FW_depth] at h; cases h), ?_⟩
    refine (FW_calls (hcalls w M _ hi ((RVs.append ⟨hl1, h1⟩ hxs).append ⟨hl2, h2⟩))).mono ?_
    rintro e w' ⟨u, M', rfl, hu, he, hinv⟩
    exact hK u w' M' hu he hinv

/-! ### Lists of operations -/
/-- Is an operation wanted? (none: it is not known) -/
def awanted (ops : Array Oper) (tmps : List AV) (o : Oper) : Option Bool :=
  match o.guard with
  | none => some true
  | some (j, want) =>
    match ((ops[j]?).bind (·.dst)).bind (tmps[·]?) with
    | some (.bool b) => some (b == want)
    | some (.tup _) => some false
    | _ => none

theorem awanted_ok {ops : Array Oper} {w : World} {M : Map} {ac : Act} {tmps : List AV} {o : Oper} {b : Bool} (ha : RVs w M ac.tmps tmps) (h : awanted ops tmps o = some b) : Region.wanted o (yielded ops ac.tmps) = b := by
  unfold awanted at h
  unfold Region.wanted
  split at h
  · rename_i hg; rw [hg]; cases h; rfl
  · rename_i j want hg
    rw [hg]
    simp only
    unfold yielded
    cases hd : (ops[j]?).bind (·.dst) with
    | none => rw [hd] at h; cases h
    | some d =>
      rw [hd] at h
      simp only [Option.bind_some] at h ⊢
      cases ht : tmps[d]? with
      | none => rw [ht] at h; cases h
      | some x =>
        rw [ht] at h
        have hx := ha.2 d x ht
        have hlt : d < ac.tmps.size := by rw [ha.1]; exact (List.getElem?_eq_some_iff.1 ht).1
        have hget : ac.tmps[d]? = some (ac.tmps.getD d undef) := by simp [Array.getD, hlt]
        rw [hget]
        generalize ac.tmps.getD d undef = v at hx
        cases hx <;> simp only at h <;> cases h
        · rename_i b'; cases b' <;> cases want <;> rfl
        · rfl

inductive AOps (P : Program) (G : Nat → Option (List AV)) (ops : Array Oper) : List Oper → AAct → Heap → AAct → Heap → Prop where
  | nil (a : AAct) (σ : Heap) : AOps P G ops [] a σ a σ
  | step {o : Oper} {rest : List Oper} {a a' : AAct} {σ σ1 σ' : Heap} {y : AV} (hw : awanted ops a.tmps o = some true) (h : AStep P G a σ o y σ1) (k : AOps P G ops rest (a.put o.dst y) σ1 a' σ') : AOps P G ops (o :: rest) a σ a' σ'
  | skip {o : Oper} {rest : List Oper} {a a' : AAct} {σ σ' : Heap} (hw : awanted ops a.tmps o = some false) (k : AOps P G ops rest (a.put o.dst (.tup [])) σ a' σ') : AOps P G ops (o :: rest) a σ a' σ'

theorem RV.undef (w : World) (M : Map) : RV w M undef (.tup []) := .tup #[] [] rfl fun j x hj => by simp at hj

theorem AOps.ok {ops : Array Oper} {l : List Oper} {a a' : AAct} {σ σ' : Heap} (h : AOps P G ops l a σ a' σ') : ∀ (r0 : Option Nat) (w : World) (M : Map) (ac : Act) (Q : Exit → Act → World → Prop), Inv G w M σ → RAct w M ac a →
    (∀ w' M' ac', Ext w M w' M' → Inv G w' M' σ' → RAct w' M' ac' a' → Q .normal ac' w') → wpListIn (FW r0) 0 P ops Q l ac w := by
  induction h with
  | nil a σ => exact fun r0 w M ac Q hi ha hQ => hQ w M ac (.refl w M) hi ha
  | step hw h _ ih =>
    intro r0 w M ac Q hi ha hQ
    unfold wpListIn
    rw [if_pos (awanted_ok ha.tmps hw)]
    exact h r0 w M ac _ Q hi ha fun v w' M' hv he hi' => ih r0 w' M' _ Q hi' ((ha.mono he).put hv _) fun w'' M'' ac'' he' hi'' ha'' => hQ w'' M'' ac'' (he.trans he') hi'' ha''
  | skip hw _ ih =>
    intro r0 w M ac Q hi ha hQ
    unfold wpListIn
    rw [if_neg (by rw [awanted_ok ha.tmps hw]; simp)]
    exact ⟨fun f _ => FW_fn r0 f, ih r0 w M _ Q hi (ha.put (.undef w M) _) hQ⟩

/-! ### Code -/
/-- THE FACT ON A PIECE OF CODE: from this frame and heap it is left in this way, with that frame and heap. R: of what frames (none: a function's; some l: a round's) it speaks. -/
def AExec (P : Program) (G : Nat → Option (List AV)) (R : Option Nat → Prop) (c : Code) (a : AAct) (σ : Heap) (e : Exit) (a' : AAct) (σ' : Heap) : Prop :=
  ∀ r0, R r0 → ∀ (w : World) (M : Map) (ac : Act) (Q : Exit → Act → World → Prop), Inv G w M σ → RAct w M ac a →
    (∀ w' M' ac', Ext w M w' M' → Inv G w' M' σ' → RAct w' M' ac' a' → Q e ac' w') → c.wpIn (FW r0) 0 P Q ac w

variable {R : Option Nat → Prop} {a a1 a' : AAct} {σ σ1 σ' : Heap}

theorem AExec.skip : AExec P G R .skip a σ .normal a σ := fun _ _ w M ac _ hi ha hQ => wpIn_skip (hQ w M ac (.refl w M) hi ha)
theorem AExec.ret : AExec P G R .ret a σ .ret a σ := fun _ _ w M ac _ hi ha hQ => wpIn_ret (hQ w M ac (.refl w M) hi ha)
theorem AExec.exit {id : Nat} : AExec P G R (.exit id) a σ (.exit id) a σ := fun _ _ w M ac _ hi ha hQ => wpIn_exit (hQ w M ac (.refl w M) hi ha)
theorem AExec.region {id : Nat} {ops : Array Oper} (h : AOps P G ops ops.toList a σ a' σ') : AExec P G R (.region id ops false) a σ .normal a' σ' :=
  fun r0 _ w M ac Q hi ha hQ => wpIn_region_list (h.ok r0 w M ac Q hi ha hQ)

theorem AExec.seq {x y : Code} {e : Exit} (h : AExec P G R x a σ .normal a1 σ1) (k : AExec P G R y a1 σ1 e a' σ') : AExec P G R (.seq x y) a σ e a' σ' :=
  fun r0 hr w M ac Q hi ha hQ => wpIn_seq (h r0 hr w M ac _ hi ha fun w1 M1 ac1 he hi1 ha1 => k r0 hr w1 M1 ac1 Q hi1 ha1 fun w2 M2 ac2 he2 hi2 ha2 => hQ w2 M2 ac2 (he.trans he2) hi2 ha2)
theorem AExec.seq_out {x y : Code} {e : Exit} (h : AExec P G R x a σ e a' σ') (he : e ≠ .normal) : AExec P G R (.seq x y) a σ e a' σ' :=
  fun r0 hr w M ac Q hi ha hQ => wpIn_seq (h r0 hr w M ac _ hi ha fun w1 M1 ac1 h1 hi1 ha1 => by
    have := hQ w1 M1 ac1 h1 hi1 ha1
    cases e <;> first | exact this | exact absurd rfl he)

theorem AExec.cond_true {c : Operand} {x y : Code} {e : Exit} (hc : ev G a.tmps c = some (.bool true)) (h : AExec P G R x a σ e a' σ') : AExec P G R (.cond c x y) a σ e a' σ' :=
  fun r0 hr w M ac Q hi ha hQ => wpIn_cond_true (by have := ev_ok hi ha.tmps hc; generalize ac.eval c = v at this; cases this; rfl) (h r0 hr w M ac Q hi ha hQ)
theorem AExec.cond_false {c : Operand} {x y : Code} {e : Exit} (hc : ev G a.tmps c = some (.bool false)) (h : AExec P G R y a σ e a' σ') : AExec P G R (.cond c x y) a σ e a' σ' :=
  fun r0 hr w M ac Q hi ha hQ => wpIn_cond_false (by have := ev_ok hi ha.tmps hc; generalize ac.eval c = v at this; cases this; rfl) (h r0 hr w M ac Q hi ha hQ)
theorem AExec.cond {c : Operand} {x y : Code} {e : Exit} {b : Bool} (hc : ev G a.tmps c = some (.bool b)) (h : AExec P G R (if b then x else y) a σ e a' σ') : AExec P G R (.cond c x y) a σ e a' σ' := by
  cases b
  · exact .cond_false hc h
  · exact .cond_true hc h

/-- How a block is left. -/
def outOf (id : Nat) : Exit → Exit
  | .exit id' => if id' = id then .normal else .exit id'
  | e => e
theorem AExec.block {id : Nat} {c : Code} {e : Exit} (h : AExec P G R c a σ e a' σ') : AExec P G R (.block id c) a σ (outOf id e) a' σ' :=
  fun r0 hr w M ac Q hi ha hQ => wpIn_block (h r0 hr w M ac _ hi ha fun w1 M1 ac1 h1 hi1 ha1 => by
    have := hQ w1 M1 ac1 h1 hi1 ha1
    cases e <;> first | exact this | skip
    rename_i id'
    simp only [outOf] at this
    simp only [Exit.inBlock]
    split <;> rename_i hid
    · rw [if_pos hid] at this; exact this
    · rw [if_neg hid] at this; exact this)
theorem AExec.block_to {id : Nat} {c : Code} {e e' : Exit} (h : AExec P G R c a σ e a' σ') (he : outOf id e = e') : AExec P G R (.block id c) a σ e' a' σ' := he ▸ h.block

/-- A loop's rounds. -/
inductive ALoopRun (P : Program) (G : Nat → Option (List AV)) (R : Option Nat → Prop) (c : Code) : AAct → Heap → Exit → AAct → Heap → Prop where
  | stop {a a' : AAct} {σ σ' : Heap} {e : Exit} (h : AExec P G R c a σ e a' σ') (he : e ≠ .normal) : ALoopRun P G R c a σ e a' σ'
  | next {a a1 a' : AAct} {σ σ1 σ' : Heap} {e : Exit} (h : AExec P G R c a σ .normal a1 σ1) (k : ALoopRun P G R c a1 σ1 e a' σ') : ALoopRun P G R c a σ e a' σ'

theorem ALoopRun.rounds {c : Code} {e : Exit} (h : ALoopRun P G R c a σ e a' σ') : ∃ m, ∀ r0, R r0 → ∀ (w : World) (M : Map) (ac : Act) (Q : Exit → Act → World → Prop), Inv G w M σ → RAct w M ac a →
    (∀ w' M' ac', Ext w M w' M' → Inv G w' M' σ' → RAct w' M' ac' a' → Q e ac' w') → Code.roundsIn (FW r0) 0 P c Q m ac w := by
  induction h with
  | @stop a a' σ σ' e h he =>
    refine ⟨1, fun r0 hr w M ac Q hi ha hQ => ?_⟩
    exact h r0 hr w M ac _ hi ha fun w1 M1 ac1 h1 hi1 ha1 => by
      have := hQ w1 M1 ac1 h1 hi1 ha1
      cases e <;> first | exact this | exact absurd rfl he
  | next h _ ih =>
    obtain ⟨m, hm⟩ := ih
    refine ⟨m + 1, fun r0 hr w M ac Q hi ha hQ => ?_⟩
    exact h r0 hr w M ac _ hi ha fun w1 M1 ac1 h1 hi1 ha1 => hm r0 hr w1 M1 ac1 Q hi1 ha1 fun w2 M2 ac2 h2 hi2 ha2 => hQ w2 M2 ac2 (h1.trans h2) hi2 ha2

theorem AExec.loop {c : Code} {e : Exit} (h : ALoopRun P G R c a σ e a' σ') : AExec P G R (.loop c) a σ e a' σ' := by
  obtain ⟨m, hm⟩ := h.rounds
  exact fun r0 hr w M ac Q hi ha hQ => wpIn_loop_rounds m (hm r0 hr w M ac Q hi ha hQ)

theorem AExec.weak {c : Code} {e : Exit} {b : List AV} (hl : Le a.tmps b) (h : AExec P G R c { a with tmps := b } σ e a' σ') : AExec P G R c a σ e a' σ' :=
  fun r0 hr w M ac Q hi ha hQ => h r0 hr w M ac Q hi (ha.le hl) hQ
theorem AExec.weak_post {c : Code} {e : Exit} {b : List AV} (h : AExec P G R c a σ e a' σ') (hl : Le a'.tmps b) : AExec P G R c a σ e { a' with tmps := b } σ' :=
  fun r0 hr w M ac Q hi ha hQ => h r0 hr w M ac Q hi ha fun w1 M1 ac1 h1 hi1 ha1 => hQ w1 M1 ac1 h1 hi1 (ha1.le hl)
theorem AExec.mono {R' : Option Nat → Prop} {c : Code} {e : Exit} (hR : ∀ r, R' r → R r) (h : AExec P G R c a σ e a' σ') : AExec P G R' c a σ e a' σ' := fun r0 hr => h r0 (hR r0 hr)

/-! ### A function, from its body -/
/-- What the result variables hold. -/
def aResult (P : Program) (σ : Heap) (tmps : List AV) : ResultVar → Option AV
  | .tmp t => tmps[t]?
  | .cell t ty => (tmps[t]?).bind (aLoad P σ ty)
def aResults (P : Program) (σ : Heap) (tmps : List AV) : List ResultVar → Option (List AV)
  | [] => some []
  | r :: rs => match aResult P σ tmps r, aResults P σ tmps rs with
    | some x, some xs => some (x :: xs)
    | _, _ => none
def asOne : List AV → AV
  | [x] => x
  | xs => .tup xs

def resOf (tmps : Array Value) (r : ResultVar) : Sem Value :=
  match r with
  | .tmp t => pure (tmps.getD t undef)
  | .cell a t => do loadVar t (← asAddr (tmps.getD a undef))
theorem results_eq (fn : Func) (tmps : Array Value) : results fn tmps = (do let vs ← fn.results.mapM (resOf tmps); pure (if h : vs.size = 1 then vs[0] else .tuple vs)) := rfl

theorem aResults_ok {w : World} {M : Map} {ac : Act} {tmps : List AV} (hi : Inv G w M σ) (ha : RVs w M ac.tmps tmps) : ∀ {rs : List ResultVar} {xs : List AV}, aResults P σ tmps rs = some xs →
    ∃ vs : List Value, (rs.mapM (resOf ac.tmps)).run P w = .ok vs w ∧ RVs w M vs.toArray xs
  | [], xs, h => by cases h; exact ⟨[], rfl, rfl, fun j x hj => by simp at hj⟩
  | r :: rs, xs, h => by
    unfold aResults at h
    split at h
    · rename_i x ys hx hy
      cases h
      obtain ⟨vs, h1, h2, h3⟩ := aResults_ok hi ha hy
      have hone : ∃ v, ((resOf ac.tmps) r).run P w = .ok v w ∧ RV w M v x := by
        cases r with
        | tmp t => exact ⟨_, rfl, ha.2 t x hx⟩
        | cell t ty =>
          obtain ⟨p, hp, hl⟩ := Option.bind_eq_some_iff.1 hx
          have hpv := ha.2 t p hp
          obtain ⟨v, k1, k2⟩ := aLoad_ok (P := P) hi hpv hl
          refine ⟨v, ?_, k2⟩
          unfold resOf
          simp only
          generalize ac.tmps.getD t undef = pv at hpv k1 ⊢
          cases hpv <;> first | (simp only [aLoad] at hl; cases hl; done) | (simpa [Instr.loadAt, Instr.sureAddr, asAddr] using k1)
      obtain ⟨v, k1, k2⟩ := hone
      refine ⟨v :: vs, ?_, ?_⟩
      · simp only [List.mapM_cons, Sem.run_bind, k1, Result.andThen_ok, h1, Sem.run_pure]
      · refine ⟨by simpa using h2, fun j q hj => ?_⟩
        cases j with
        | zero => simp at hj; subst hj; simpa [Array.getD_eq_getD_getElem?] using k2
        | succ j => have := h3 j q (by simpa using hj); simpa [Array.getD_eq_getD_getElem?] using this
    · cases h

theorem results_ok {w : World} {M : Map} {ac : Act} {tmps : List AV} {fn : Func} {xs : List AV} (hi : Inv G w M σ) (ha : RVs w M ac.tmps tmps) (h : aResults P σ tmps fn.results.toList = some xs) :
    ∃ v, (results fn ac.tmps).run P w = .ok v w ∧ RV w M v (asOne xs) := by
  obtain ⟨vs, h1, h2, h3⟩ := aResults_ok (P := P) hi ha h
  have hm : (fn.results.mapM (resOf ac.tmps)).run P w = .ok vs.toArray w := by
    rw [Array.mapM_eq_mapM_toList]
    simp only [Sem.run_map, h1, Result.andThen_ok]
  rw [results_eq]
  simp only [Sem.run_bind, hm, Result.andThen_ok, Sem.run_pure]
  refine ⟨_, rfl, ?_⟩
  match xs, vs, h2 with
  | [], [], _ => exact .tup _ _ rfl (fun j x hj => by simp at hj)
  | [x], [v], _ => simpa [asOne] using h3 0 x rfl
  | x :: y :: r, v :: u :: s, hl => 
    have : ¬ ((v :: u :: s).toArray.size = 1) := by simp
    rw [dif_neg this]
    exact .tup _ _ hl h3

/-- A function without a range over a function, from its body. -/
theorem ACall.of_body {f : FuncId} {fn : Func} {c : Code} {args : List AV} {tmps : List AV} {e : Exit} {xs : List AV} (hf : P.funcs[f]? = some fn) (hb : fn.body = some c) (hn : (fn.name == "runtime.NumGoroutine") = false)
    (h : AExec P G (fun r => r = none) c { tmps := args ++ List.replicate (fn.ntmps - args.length) (.tup []) } σ e { tmps := tmps } σ') (he : e = .normal ∨ e = .ret)
    (hres : aResults P σ' tmps fn.results.toList = some xs) : ACall P G f args σ (asOne xs) σ' := by
  refine ⟨⟨fn, hf, by rw [hb]; rfl, hn⟩, fun w M vs hi hvs => ?_⟩
  refine callsIn_of_wp hf hb trivial (h none rfl w M _ _ hi ⟨?_, [], rfl, rfl, fun i r b hi => by simp at hi⟩ fun w' M' ac' hext hi' ha' => ?_)
  · rw [hvs.1]
    refine hvs.append ⟨by simp, fun j x hj => ?_⟩
    have hx := List.eq_of_mem_replicate (List.mem_of_getElem? hj)
    have hlt : j < fn.ntmps - args.length := by
      have := (List.getElem?_eq_some_iff.1 hj).1
      simpa using this
    subst hx
    simp only [Array.getD, Array.size_replicate, hlt, dite_true]
    simpa using RV.undef w M
  · obtain ⟨v, hv, hrv⟩ := results_ok (P := P) hi' ha'.tmps hres
    obtain ⟨bs, hd, hl, _⟩ := ha'.marks
    have hd0 : ac'.defers = [] := by
      rw [hd]
      have : bs = [] := List.eq_nil_of_length_eq_zero (by simpa using hl)
      rw [this]; rfl
    have hpost : ac'.defers = [] ∧ ∃ v, (results fn ac'.tmps).run P w' = .ok v w' ∧ ∃ u M', Ending.returned v = .returned u ∧ RV w' M' u (asOne xs) ∧ Ext w M w' M' ∧ Inv G w' M' σ' :=
      ⟨hd0, v, hv, v, M', rfl, hrv, hext, hi'⟩
    rcases he with rfl | rfl
    · exact hpost
    · exact hpost

/-- What the call has made and nobody holds any more is forgotten. -/
theorem ACall.drop {f : FuncId} {args : List AV} {v : AV} {g : Heap} (h : ACall P G f args σ v (σ ++ g)) (hv : Below σ.length v) : ACall P G f args σ v σ := by
  refine ⟨h.1, fun w M vs hi hvs => (h.2 w M vs hi hvs).mono ?_⟩
  rintro e w' ⟨u, M', rfl, hu, he, hi'⟩
  have hn : ∀ r p, M r = some p → r < σ.length := hi.dom
  have he' := he.cut hn
  refine ⟨u, M'.cut σ.length, rfl, hu.cut hv, he', ?_⟩
  refine .of (fun q cs hq => (hi.glob q cs hq).mono he') (fun r r' b q q' h1 h2 => hi'.inj r r' b q q' (Map.cut_some h1).2 (Map.cut_some h2).2) (fun r p hr => (Map.cut_some hr).1)
    (fun r b q hr => hi'.lt r b q (Map.cut_some hr).2) (fun b hb => ⟨(hi'.far b hb).1, fun r q hr => (hi'.far b hb).2 r q (Map.cut_some hr).2⟩) (fun r o ho => ?_)
  have hr : r < σ.length := (List.getElem?_eq_some_iff.1 ho).1
  have ho' : (σ ++ g)[r]? = some o := by rw [List.getElem?_append_left hr]; exact ho
  have hold := hi.objOk ho
  have hnew := hi'.objOk ho'
  cases o with
  | cells gn c =>
    obtain ⟨b, cs, e, h1, h2, h3, h4⟩ := hnew
    obtain ⟨_, _, _, _, _, _, k4⟩ := hold
    exact ⟨b, cs, e, by rw [Map.cut_lt hr]; exact h1, h2, h3, fun j x hj => (h4 j x hj).cut ((k4 j x hj).isBelow hn)⟩
  | resv => show M'.cut _ r = none; rw [Map.cut_lt hr]; exact hnew
  | dfr => obtain ⟨b, h1, h2⟩ := hnew; exact ⟨b, by rw [Map.cut_lt hr]; exact h1, h2⟩
  | loop A =>
    obtain ⟨b, L, h1, h2, h3⟩ := hnew
    obtain ⟨_, _, _, _, k3⟩ := hold
    exact ⟨b, L, by rw [Map.cut_lt hr]; exact h1, h2, h3.state, h3.pending, h3.size, fun j x hj => (h3.tmps j x hj).cut ((k3.tmps j x hj).isBelow hn), h3.params, h3.assign, h3.body,
      by rw [Map.cut_lt (hn _ _ k3.defers.1)]; exact h3.defers.1, h3.defers.2⟩
  | gone => trivial
end
end Go.Proofs.Ytngaihdpmoajeaa.Am

namespace Go.Proofs.Ytngaihdpmoajeaa.Am
open Go

/-! ### Who waits for whom -/
def mask1 (acc : List Nat) (o : Oper) : Nat := o.after.toList.foldl (fun s e => if Region.binds .any e then s ||| (2 ^ e.on ||| acc.getD e.on 0) else s) 0
def befores : List Oper → List Nat → List Nat
  | [], acc => acc
  | o :: r, acc => befores r (acc ++ [mask1 acc o])

theorem foldl_mask {acc : List Nat} {j : Nat} : ∀ (l : List Edge) (s : Nat), (l.foldl (fun s e => if Region.binds .any e then s ||| (2 ^ e.on ||| acc.getD e.on 0) else s) s).testBit j = true →
    s.testBit j = true ∨ ∃ e ∈ l, Region.binds .any e = true ∧ (j = e.on ∨ (acc.getD e.on 0).testBit j = true)
  | [], s, h => .inl h
  | e :: l, s, h => by
    rw [List.foldl_cons] at h
    rcases foldl_mask l _ h with h1 | ⟨e', he', hb, hj⟩
    · split at h1
      · rename_i hb
        rw [Nat.testBit_or, Nat.testBit_or, Bool.or_eq_true, Bool.or_eq_true] at h1
        rcases h1 with h1 | h1 | h1
        · exact .inl h1
        · rw [Nat.testBit_two_pow] at h1
          exact .inr ⟨e, by simp, hb, .inl (by have := of_decide_eq_true h1; omega)⟩
        · exact .inr ⟨e, by simp, hb, .inr h1⟩
      · exact .inl h1
    · exact .inr ⟨e', by simp [he'], hb, hj⟩

/-- Listed: closed under what an operation waits for. -/
def Closed (ops : List Oper) (listed : Nat → Bool) : Prop := ∀ (i : Nat) (o : Oper), ops[i]? = some o → listed i = true → ∀ e ∈ o.after, Region.binds .any e = true → listed e.on = true

/-- What the masks say of every closed listing. -/
theorem befores_ok {ops : List Oper} : ∀ (l : List Oper) (acc : List Nat), (∀ k, (acc.length + k < ops.length → l[k]? = ops[acc.length + k]?)) → acc.length + l.length = ops.length →
    (∀ (i : Nat), i < acc.length → ∀ o, ops[i]? = some o → ∀ (listed : Nat → Bool), Closed ops listed → (∀ e ∈ o.after, Region.binds .any e = true → listed e.on = true) → ∀ j, (acc.getD i 0).testBit j = true → listed j = true) →
    ∀ (i : Nat), i < ops.length → ∀ o, ops[i]? = some o → ∀ (listed : Nat → Bool), Closed ops listed → (∀ e ∈ o.after, Region.binds .any e = true → listed e.on = true) → ∀ j, ((befores l acc).getD i 0).testBit j = true → listed j = true
  | [], acc, _, hlen, h => by
    intro i hi
    simp at hlen
    exact h i (by omega)
  | o :: r, acc, hl, hlen, h => by
    rw [befores]
    simp only [List.length_cons] at hlen
    refine befores_ok r (acc ++ [mask1 acc o]) (fun k hk => ?_) (by simp; omega) ?_
    · have := hl (k + 1) (by simp at hk; omega)
      simp only [List.getElem?_cons_succ] at this
      rw [this]
      congr 1
      simp
      omega
    · intro i hi o' ho' listed hc hp j hj
      simp only [List.length_append, List.length_singleton] at hi
      by_cases hlt : i < acc.length
      · have : (acc ++ [mask1 acc o]).getD i 0 = acc.getD i 0 := by
          simp only [List.getD_eq_getElem?_getD, List.getElem?_append_left hlt]
        rw [this] at hj
        exact h i hlt o' ho' listed hc hp j hj
      · have hieq : i = acc.length := by omega
        subst hieq
        have : (acc ++ [mask1 acc o]).getD acc.length 0 = mask1 acc o := by
          simp [List.getD_eq_getElem?_getD]
        rw [this] at hj
        have ho : o' = o := by
          have := hl 0 (by omega)
          simp only [List.getElem?_cons_zero, Nat.add_zero] at this
          rw [← this] at ho'
          exact (Option.some.inj ho').symm
        subst ho
        rcases foldl_mask _ _ hj with h0 | ⟨e, he, hb, hje⟩
        · simp at h0
        · have hle := hp e (by simpa using he) hb
          rcases hje with rfl | hje
          · exact hle
          · by_cases hel : e.on < acc.length
            · cases hoe : ops[e.on]? with
              | none => rw [List.getElem?_eq_none_iff] at hoe; omega
              | some oe => exact h e.on hel oe hoe listed hc (hc e.on oe hoe hle) j hje
            · have : acc.getD e.on 0 = 0 := by
                simp only [List.getD_eq_getElem?_getD]
                rw [List.getElem?_eq_none (by omega)]
                rfl
              rw [this] at hje
              simp at hje

/-- The temporary that the j-th operation writes. -/
def dstAt (ops : List Oper) (j : Nat) : Option Tmp := match ops[j]? with | some o => o.dst | none => none

/-- No two operations write one temporary; who must come before, stands before in the text. -/
def okDraw (ops : List Oper) : Bool :=
  ((List.range ops.length).all fun i => (List.range ops.length).all fun j => i == j || dstAt ops i == none || dstAt ops i != dstAt ops j) &&
  ((List.range ops.length).all fun i => match ops[i]? with
    | some o => o.after.toList.all fun e => !Region.binds .any e || decide (e.on < i)
    | none => true)
/-- Whoever in the piece from b to b+n looks at a temporary that another one of it writes, is in order with it. -/
def okStill (ops : List Oper) (b n : Nat) : Bool :=
  let m := befores ops []
  (List.range n).all fun i => (List.range n).all fun j =>
    i == j || (match ops[b + i]?, dstAt ops (b + j) with
      | some o, some t => !(o.looksAt ops.toArray).contains t || (if j < i then (m.getD (b + i) 0).testBit (b + j) else (m.getD (b + j) 0).testBit (b + i))
      | _, _ => true)
/-- All from b on wait for all before b. -/
def okFence (ops : List Oper) (b : Nat) : Bool :=
  let m := befores ops []
  (List.range ops.length).all fun i => decide (i < b) || (List.range b).all fun j => (m.getD i 0).testBit j

/-- The temporaries that matter, the others of no known value. -/
def masked (L : List Tmp) (a : List AV) : List AV := a.mapIdx fun t x => if L.contains t then x else .junk

section
variable {P : Program} {G : Nat → Option (List AV)} {σ : Heap}

/-- The walk in the order of the text; every operation sees of the frame what it looks at. -/
inductive AOpsD (P : Program) (G : Nat → Option (List AV)) (σ : Heap) (ops : Array Oper) (marks : List Nat) : List Oper → List AV → List AV → Prop where
  | nil (a : List AV) : AOpsD P G σ ops marks [] a a
  | step {o : Oper} {rest : List Oper} {a a' : List AV} {y : AV} (hw : awanted ops (masked (o.looksAt ops) a) o = some true) (h : AStep P G { tmps := masked (o.looksAt ops) a, marks := marks } σ o y σ)
      (k : AOpsD P G σ ops marks rest (AAct.put { tmps := a } o.dst y).tmps a') : AOpsD P G σ ops marks (o :: rest) a a'
  | skip {o : Oper} {rest : List Oper} {a a' : List AV} (hw : awanted ops (masked (o.looksAt ops) a) o = some false)
      (k : AOpsD P G σ ops marks rest (AAct.put { tmps := a } o.dst (.tup [])).tmps a') : AOpsD P G σ ops marks (o :: rest) a a'

/-- What one operation is worth, wherever it comes. -/
def Worth (P : Program) (G : Nat → Option (List AV)) (σ : Heap) (ops : Array Oper) (marks : List Nat) (o : Oper) (v : List AV) (y : AV) : Prop :=
  (awanted ops v o = some true ∧ AStep P G { tmps := v, marks := marks } σ o y σ) ∨ (awanted ops v o = some false ∧ y = .tup [])

/-- The frame, the operations of a listing carried out. -/
def frameAt (ops : List Oper) (vals : List AV) (a0 : List AV) (listed : Nat → Bool) (t : Nat) : Option AV :=
  match (List.range ops.length).find? fun j => dstAt ops j == some t with
  | some j => if listed j then (if t < a0.length then vals[j]? else none) else a0[t]?
  | none => a0[t]?

theorem put_get {a : List AV} {dst : Option Tmp} {y : AV} (t : Nat) : (AAct.put { tmps := a } dst y).tmps[t]? = if dst = some t then (if t < a.length then some y else none) else a[t]? := by
  cases dst with
  | none => simp [AAct.put]
  | some d =>
    simp only [AAct.put]
    by_cases h : d = t
    · subst h
      rw [if_pos rfl]
      split
      · rename_i hlt; rw [List.getElem?_set_self hlt]
      · rename_i hlt; rw [List.getElem?_eq_none (by simp; omega)]
    · rw [if_neg (fun e => h (Option.some.inj e)), List.getElem?_set_ne h]
theorem put_length {a : List AV} {dst : Option Tmp} {y : AV} : (AAct.put { tmps := a } dst y).tmps.length = a.length := by
  cases dst <;> simp [AAct.put]

/-- No two operations write one temporary. -/
def Apart (ops : List Oper) : Prop := ∀ (i j : Nat) (t : Tmp), dstAt ops i = some t → dstAt ops j = some t → i = j

theorem frameAt_of {ops : List Oper} (hap : Apart ops) {vals a0 : List AV} {listed : Nat → Bool} {t j : Nat} (hj : dstAt ops j = some t) : frameAt ops vals a0 listed t = if listed j then (if t < a0.length then vals[j]? else none) else a0[t]? := by
  unfold frameAt
  split
  · rename_i j' hf
    have h1 := List.find?_some hf
    have : j' = j := hap j' j t (by simpa using h1) hj
    subst this
    rfl
  · rename_i hf
    rw [List.find?_eq_none] at hf
    have hlt : j < ops.length := by
      rcases Nat.lt_or_ge j ops.length with h | h
      · exact h
      · unfold dstAt at hj; rw [List.getElem?_eq_none h] at hj; cases hj
    exact absurd (by simpa using hj) (by simpa using hf j (by simpa using hlt))
theorem frameAt_congr {ops : List Oper} {vs vs' a0 : List AV} {l l' : Nat → Bool} {t : Nat} (h : ∀ j, dstAt ops j = some t → (l j = l' j ∧ (l j = true → vs[j]? = vs'[j]?))) : frameAt ops vs a0 l t = frameAt ops vs' a0 l' t := by
  unfold frameAt
  split
  · rename_i j hf
    have h1 := List.find?_some hf
    obtain ⟨h2, h3⟩ := h j (by simpa using h1)
    rw [← h2]
    split
    · rename_i hl; rw [h3 hl]
    · rfl
  · rfl

/-- The walk gives a value to each operation. -/
theorem AOpsD.vals {ops : List Oper} {marks : List Nat} (hap : Apart ops) {a0 : List AV} {b : Nat} : ∀ {l : List Oper} {a a' : List AV}, AOpsD P G σ ops.toArray marks l a a' → ∀ (pre : List AV), b ≤ pre.length → pre.length + l.length ≤ ops.length →
    (∀ k, k < l.length → l[k]? = ops[pre.length + k]?) → a.length = a0.length → (∀ t, a[t]? = frameAt ops pre a0 (fun j => decide (b ≤ j ∧ j < pre.length)) t) →
    ∃ vs : List AV, vs.length = pre.length + l.length ∧ (∀ i, i < pre.length → vs[i]? = pre[i]?) ∧ a'.length = a0.length ∧ (∀ t, a'[t]? = frameAt ops vs a0 (fun j => decide (b ≤ j ∧ j < vs.length)) t) ∧
      ∀ i o, pre.length ≤ i → i < vs.length → ops[i]? = some o → ∃ (v : List AV) (y : AV), vs[i]? = some y ∧ v.length = a0.length ∧ Worth P G σ ops.toArray marks o v y ∧
        ∀ t x, v[t]? = some x → x = .junk ∨ ((o.looksAt ops.toArray).contains t = true ∧ frameAt ops vs a0 (fun j => decide (b ≤ j ∧ j < i)) t = some x) := by
  intro l a a' h
  have main : ∀ {o : Oper} {rest : List Oper} {a a' : List AV} {y : AV}, Worth P G σ ops.toArray marks o (masked (o.looksAt ops.toArray) a) y →
      (∀ (pre : List AV), b ≤ pre.length → pre.length + rest.length ≤ ops.length →
        (∀ k, k < rest.length → rest[k]? = ops[pre.length + k]?) → (AAct.put { tmps := a } o.dst y).tmps.length = a0.length → (∀ t, (AAct.put { tmps := a } o.dst y).tmps[t]? = frameAt ops pre a0 (fun j => decide (b ≤ j ∧ j < pre.length)) t) →
        ∃ vs : List AV, vs.length = pre.length + rest.length ∧ (∀ i, i < pre.length → vs[i]? = pre[i]?) ∧ a'.length = a0.length ∧ (∀ t, a'[t]? = frameAt ops vs a0 (fun j => decide (b ≤ j ∧ j < vs.length)) t) ∧
          ∀ i o, pre.length ≤ i → i < vs.length → ops[i]? = some o → ∃ (v : List AV) (y : AV), vs[i]? = some y ∧ v.length = a0.length ∧ Worth P G σ ops.toArray marks o v y ∧
            ∀ t x, v[t]? = some x → x = .junk ∨ ((o.looksAt ops.toArray).contains t = true ∧ frameAt ops vs a0 (fun j => decide (b ≤ j ∧ j < i)) t = some x)) →
      ∀ (pre : List AV), b ≤ pre.length → pre.length + (o :: rest).length ≤ ops.length →
        (∀ k, k < (o :: rest).length → (o :: rest)[k]? = ops[pre.length + k]?) → a.length = a0.length → (∀ t, a[t]? = frameAt ops pre a0 (fun j => decide (b ≤ j ∧ j < pre.length)) t) →
        ∃ vs : List AV, vs.length = pre.length + (o :: rest).length ∧ (∀ i, i < pre.length → vs[i]? = pre[i]?) ∧ a'.length = a0.length ∧ (∀ t, a'[t]? = frameAt ops vs a0 (fun j => decide (b ≤ j ∧ j < vs.length)) t) ∧
          ∀ i o, pre.length ≤ i → i < vs.length → ops[i]? = some o → ∃ (v : List AV) (y : AV), vs[i]? = some y ∧ v.length = a0.length ∧ Worth P G σ ops.toArray marks o v y ∧
            ∀ t x, v[t]? = some x → x = .junk ∨ ((o.looksAt ops.toArray).contains t = true ∧ frameAt ops vs a0 (fun j => decide (b ≤ j ∧ j < i)) t = some x) := by
    intro o rest a a' y hwo ih pre hb hlen hl hal ha
    simp only [List.length_cons] at hlen hl
    have ho : ops[pre.length]? = some o := by have := hl 0 (by omega); simpa using this.symm
    have key := ih (pre ++ [y]) (by simp; omega) (by simp; omega) (fun k hk => by have := hl (k + 1) (by omega); simp only [List.getElem?_cons_succ] at this; rw [this]; congr 1; simp; omega) (by rw [put_length]; exact hal) (fun t => ?_)
    · obtain ⟨vs, h1, h2, h3, h4, h5⟩ := key
      simp only [List.length_append, List.length_singleton] at h1 h2
      refine ⟨vs, by rw [h1]; simp; omega, fun i hi => ?_, h3, h4, fun i o' hi hi' ho' => ?_⟩
      · rw [h2 i (by omega), List.getElem?_append_left hi]
      · by_cases hie : i = pre.length
        · subst hie
          rw [ho] at ho'
          cases ho'
          refine ⟨masked (o.looksAt ops.toArray) a, y, ?_, by simp [masked, hal], hwo, fun t x hx => ?_⟩
          · rw [h2 _ (by omega)]; simp
          · simp only [masked, List.getElem?_mapIdx, Option.map_eq_some_iff] at hx
            obtain ⟨x0, hx0, rfl⟩ := hx
            split
            · rename_i hc
              refine .inr ⟨hc, ?_⟩
              rw [ha t] at hx0
              rw [← hx0]
              exact frameAt_congr fun j _ => ⟨rfl, fun hj => by
                have hj := of_decide_eq_true hj
                rw [h2 j (by omega), List.getElem?_append_left hj.2]⟩
            · exact .inl rfl
        · exact h5 i o' (by simp; omega) hi' ho'
    · rw [put_get]
      by_cases hd : o.dst = some t
      · rw [if_pos hd]
        have hdj : dstAt ops pre.length = some t := by unfold dstAt; rw [ho]; exact hd
        rw [frameAt_of hap hdj]
        simp [hal, hb]
      · rw [if_neg hd, ha t]
        refine frameAt_congr fun j hj => ?_
        have hne : j ≠ pre.length := fun e => by
          subst e
          unfold dstAt at hj
          rw [ho] at hj
          exact hd hj
        refine ⟨?_, fun hl => ?_⟩
        · apply decide_eq_decide.2
          simp only [List.length_append, List.length_singleton]
          omega
        · have hl := of_decide_eq_true hl
          rw [List.getElem?_append_left hl.2]
  induction h with
  | nil a =>
    intro pre hb hlen _ hal ha
    refine ⟨pre, rfl, fun _ _ => rfl, hal, fun t => by rw [ha t], fun i o hi hi' ho => ?_⟩
    omega
  | step hw hs _ ih => exact main (.inl ⟨hw, hs⟩) ih
  | skip hw _ ih => exact main (.inr ⟨hw, rfl⟩) ih
end
end Go.Proofs.Ytngaihdpmoajeaa.Am

namespace Go.Proofs.Ytngaihdpmoajeaa.Am
open Go
section
variable {P : Program} {G : Nat → Option (List AV)} {σ : Heap}

/-- The pieces of a statement, one after the other. -/
inductive AStages (P : Program) (G : Nat → Option (List AV)) (ops : List Oper) (marks : List Nat) : Nat → List AV → Heap → List AV → Heap → Prop where
  | done {b : Nat} {a : List AV} {σ : Heap} (hb : ops.length ≤ b) : AStages P G ops marks b a σ a σ
  | still {b n : Nat} {a a1 a' : List AV} {σ σ' : Heap} (hn : b + n ≤ ops.length) (h : AOpsD P G σ ops.toArray marks ((ops.drop b).take n) a a1) (hc : okStill ops b n = true) (hf : okFence ops (b + n) = true)
      (k : AStages P G ops marks (b + n) a1 σ a' σ') : AStages P G ops marks b a σ a' σ'
  | one {b : Nat} {o : Oper} {a a' : List AV} {σ σ1 σ' : Heap} {y : AV} (ho : ops[b]? = some o) (hw : awanted ops.toArray a o = some true) (h : AStep P G { tmps := a, marks := marks } σ o y σ1) (hf : okFence ops (b + 1) = true)
      (k : AStages P G ops marks (b + 1) (AAct.put { tmps := a } o.dst y).tmps σ1 a' σ') : AStages P G ops marks b a σ a' σ'
  | none {b : Nat} {o : Oper} {a a' : List AV} {σ σ' : Heap} (ho : ops[b]? = some o) (hw : awanted ops.toArray a o = some false) (hf : okFence ops (b + 1) = true)
      (k : AStages P G ops marks (b + 1) (AAct.put { tmps := a } o.dst (.tup [])).tmps σ a' σ') : AStages P G ops marks b a σ a' σ'

theorem okDraw_apart {ops : List Oper} (h : okDraw ops = true) : Apart ops := by
  intro i j t hi hj
  unfold okDraw at h
  rw [Bool.and_eq_true] at h
  have lt : ∀ (k : Nat) (t : Tmp), dstAt ops k = some t → k < ops.length := fun k t hk => by
    rcases Nat.lt_or_ge k ops.length with h | h
    · exact h
    · unfold dstAt at hk; rw [List.getElem?_eq_none h] at hk; cases hk
  have h1 := List.all_eq_true.1 (List.all_eq_true.1 h.1 i (List.mem_range.2 (lt i t hi))) j (List.mem_range.2 (lt j t hj))
  rw [hi, hj] at h1
  simpa using h1
theorem okDraw_back {ops : List Oper} (h : okDraw ops = true) {i : Nat} {o : Oper} (ho : ops[i]? = some o) : ∀ e ∈ o.after, Region.binds .any e = true → e.on < i := by
  intro e he hb
  unfold okDraw at h
  rw [Bool.and_eq_true] at h
  have h1 := List.all_eq_true.1 h.2 i (List.mem_range.2 (List.getElem?_eq_some_iff.1 ho).1)
  rw [ho] at h1
  have h2 := List.all_eq_true.1 h1 e (by simpa using he)
  rw [hb] at h2
  simpa using h2

/-- What the masks say of an operation of which nothing hinders that it be listed. -/
theorem befores_of {ops : List Oper} {i : Nat} {o : Oper} (ho : ops[i]? = some o) {listed : Nat → Bool} (hc : Closed ops listed) (hp : ∀ e ∈ o.after, Region.binds .any e = true → listed e.on = true) {j : Nat} (hj : ((befores ops []).getD i 0).testBit j = true) : listed j = true :=
  befores_ok ops [] (fun k hk => by simp) (by simp) (fun i hi => absurd hi (by simp)) i (List.getElem?_eq_some_iff.1 ho).1 o ho listed hc hp j hj

theorem okFence_spec {ops : List Oper} {b i j : Nat} {o : Oper} (h : okFence ops b = true) (ho : ops[i]? = some o) (hi : b ≤ i) (hj : j < b) : ((befores ops []).getD i 0).testBit j = true := by
  unfold okFence at h
  have h1 := List.all_eq_true.1 h i (List.mem_range.2 (List.getElem?_eq_some_iff.1 ho).1)
  simp only [Bool.or_eq_true, decide_eq_true_eq] at h1
  rcases h1 with h1 | h1
  · omega
  · exact List.all_eq_true.1 h1 j (List.mem_range.2 hj)

theorem okStill_spec {ops : List Oper} {b n i j : Nat} {o : Oper} {t : Tmp} (h : okStill ops b n = true) (hi : b ≤ i) (hi' : i < b + n) (hj : b ≤ j) (hj' : j < b + n) (hne : i ≠ j) (ho : ops[i]? = some o) (hd : dstAt ops j = some t)
    (hl : (o.looksAt ops.toArray).contains t = true) : (j < i → ((befores ops []).getD i 0).testBit j = true) ∧ (i < j → ((befores ops []).getD j 0).testBit i = true) := by
  obtain ⟨i', rfl⟩ := Nat.exists_eq_add_of_le hi
  obtain ⟨j', rfl⟩ := Nat.exists_eq_add_of_le hj
  unfold okStill at h
  have h1 := List.all_eq_true.1 (List.all_eq_true.1 h i' (List.mem_range.2 (by omega))) j' (List.mem_range.2 (by omega))
  rw [ho, hd] at h1
  simp only [hl, Bool.not_true, Bool.false_or, Bool.or_eq_true, beq_iff_eq] at h1
  rcases h1 with h1 | h1
  · omega
  · constructor
    · intro hlt
      rw [if_pos (by omega)] at h1
      exact h1
    · intro hlt
      rw [if_neg (by omega)] at h1
      exact h1

/-! ### The listing as the walk finds it -/
def lf (listed : Array Bool) (j : Nat) : Bool := listed.getD j false
theorem lf_set {listed : Array Bool} {i j : Nat} (hi : i < listed.size) : lf (listed.setIfInBounds i true) j = (decide (j = i) || lf listed j) := by
  unfold lf
  simp only [Array.getD_eq_getD_getElem?, Array.getElem?_setIfInBounds]
  by_cases h : i = j
  · subst h; simp [hi]
  · rw [if_neg h]
    simp [Ne.symm h]
theorem count_set {listed : Array Bool} {i : Nat} (hi : i < listed.size) (hu : lf listed i = false) : (listed.setIfInBounds i true).count true = listed.count true + 1 := by
  rw [Array.setIfInBounds_def, dif_pos hi, Array.count_set]
  unfold lf at hu
  simp only [Array.getD_eq_getD_getElem?, Array.getElem?_eq_getElem hi, Option.getD_some] at hu
  simp [hu]
theorem count_lt {listed : Array Bool} {i : Nat} (hi : i < listed.size) (hu : lf listed i = false) : listed.count true < listed.size := by
  have h1 := count_set hi hu
  have h2 : (listed.setIfInBounds i true).count true ≤ (listed.setIfInBounds i true).size := Array.count_le_size
  rw [Array.size_setIfInBounds] at h2
  omega

/-- The listing, ready for a next operation. -/
structure Ls (ops : List Oper) (listed : Array Bool) (fuel : Nat) : Prop where
  size : listed.size = ops.length
  closed : Closed ops (lf listed)
  fuel : ops.length ≤ fuel + listed.count true

theorem Ls.set {ops : List Oper} {listed : Array Bool} {fuel i : Nat} {o : Oper} (h : Ls ops listed (fuel + 1)) (ho : ops[i]? = some o) (hu : lf listed i = false) (hp : ∀ e ∈ o.after, Region.binds .any e = true → lf listed e.on = true) : Ls ops (listed.setIfInBounds i true) fuel := by
  have hi : i < listed.size := by rw [h.size]; exact (List.getElem?_eq_some_iff.1 ho).1
  refine ⟨by rw [Array.size_setIfInBounds, h.size], fun k ok hk hl e he hb => ?_, ?_⟩
  · rw [lf_set hi] at hl ⊢
    simp only [Bool.or_eq_true, decide_eq_true_eq] at hl ⊢
    rcases hl with rfl | hl
    · rw [ho] at hk; cases hk
      exact .inr (hp e he hb)
    · exact .inr (h.closed k ok hk hl e he hb)
  · have := h.fuel
    rw [count_set hi hu]
    omega

theorem lf_of_true {listed : Array Bool} {j : Nat} (h : listed.getD j true = false) : lf listed j = false := by
  unfold lf
  simp only [Array.getD_eq_getD_getElem?] at h ⊢
  cases hj : listed[j]? with
  | none => rw [hj] at h; simp at h
  | some x => rw [hj] at h; simpa using h
theorem true_of_lf {listed : Array Bool} {j : Nat} (hj : j < listed.size) (h : lf listed j = false) : listed.getD j true = false := by
  unfold lf at h
  simp only [Array.getD_eq_getD_getElem?, Array.getElem?_eq_getElem hj, Option.getD_some] at h ⊢
  exact h

theorem ready_spec {ops : List Oper} {listed : Array Bool} {i : Nat} (h : i ∈ Region.ready .any ops.toArray listed) : lf listed i = false ∧ ∃ o, ops[i]? = some o ∧ ∀ e ∈ o.after, Region.binds .any e = true → lf listed e.on = true := by
  obtain ⟨h1, o, h2, h3⟩ := mem_ready.1 h
  exact ⟨lf_of_true h1, o, by simpa using h2, h3⟩

/-- As long as something is not listed, something is ready. -/
theorem ready_ne {ops : List Oper} {listed : Array Bool} (hd : okDraw ops = true) (hs : listed.size = ops.length) : ∀ {i : Nat}, i < ops.length → lf listed i = false → Region.ready .any ops.toArray listed ≠ [] := by
  intro i
  induction i using Nat.strongRecOn with
  | _ i ih =>
    intro hi hu hnil
    obtain ⟨o, ho⟩ : ∃ o, ops[i]? = some o := ⟨_, List.getElem?_eq_getElem hi⟩
    by_cases hall : ∀ e ∈ o.after, Region.binds .any e = true → lf listed e.on = true
    · have : i ∈ Region.ready .any ops.toArray listed := mem_ready.2 ⟨true_of_lf (by omega) hu, o, by simpa using ho, hall⟩
      rw [hnil] at this
      cases this
    · simp only [Classical.not_forall] at hall
      obtain ⟨e, he, hb, hl⟩ := hall
      have hlt := okDraw_back hd ho e he hb
      exact ih e.on hlt (by omega) (by simpa using hl) hnil

theorem Worth.ok {ops : Array Oper} {marks : List Nat} {o : Oper} {v : List AV} {y : AV} (h : Worth P G σ ops marks o v y) {r0 : Option Nat} {w : World} {M : Map} {ac : Act} {K : Act → World → Prop} {Q : Exit → Act → World → Prop} {i : Nat} (ho : ops[i]? = some o)
    (hi : Inv G w M σ) (ha : RAct w M ac { tmps := v, marks := marks }) (hK : ∀ u w' M', RV w' M' u y → Ext w M w' M' → Inv G w' M' σ → K (ac.put o.dst u) w') : wpOpIn (FW r0) 0 P ops Q i K ac w := by
  unfold wpOpIn
  simp only [ho]
  rcases h with ⟨hw, hs⟩ | ⟨hw, rfl⟩
  · rw [if_pos (awanted_ok ha.tmps hw)]
    exact hs r0 w M ac K Q hi ha hK
  · rw [if_neg (by rw [awanted_ok ha.tmps hw]; simp)]
    exact ⟨fun f _ => FW_fn r0 f, hK undef w M (.undef w M) (.refl w M) hi⟩

/-- The frame as a function of the temporaries. -/
structure Fr (w : World) (M : Map) (ac : Act) (marks : List Nat) (len : Nat) (f : Nat → Option AV) : Prop where
  act : RAct w M ac { tmps := List.replicate len .junk, marks := marks }
  val : ∀ t x, f t = some x → RV w M (ac.tmps.getD t undef) x

theorem Fr.of {w : World} {M : Map} {ac : Act} {marks : List Nat} {a : List AV} (h : RAct w M ac { tmps := a, marks := marks }) : Fr w M ac marks a.length fun t => a[t]? :=
  ⟨⟨⟨by rw [h.tmps.1]; simp, fun j x hj => by rw [List.eq_of_mem_replicate (List.mem_of_getElem? hj)]; exact .junk _⟩, h.marks⟩, fun t x ht => h.tmps.2 t x ht⟩
theorem Fr.act_of {w : World} {M : Map} {ac : Act} {marks : List Nat} {len : Nat} {f : Nat → Option AV} (h : Fr w M ac marks len f) {a : List AV} (hl : a.length = len) (ha : ∀ t x, a[t]? = some x → x = .junk ∨ f t = some x) : RAct w M ac { tmps := a, marks := marks } :=
  ⟨⟨by rw [h.act.tmps.1]; simp [hl], fun t x ht => by
    rcases ha t x ht with rfl | hx
    · exact .junk _
    · exact h.val t x hx⟩, h.act.marks⟩

theorem Fr.put {w w' : World} {M M' : Map} {ac : Act} {marks : List Nat} {len : Nat} {f g : Nat → Option AV} {v : Value} {y : AV} {dst : Option Tmp} (h : Fr w M ac marks len f) (he : Ext w M w' M') (hv : RV w' M' v y)
    (hg : ∀ t x, g t = some x → (dst = some t ∧ x = y ∧ t < len) ∨ (dst ≠ some t ∧ f t = some x)) : Fr w' M' (ac.put dst v) marks len g := by
  have hsz : ac.tmps.size = len := by have := h.act.tmps.1; simpa using this
  constructor
  · have h1 := (h.act.mono he).put (hv) dst
    refine ⟨⟨?_, fun t x ht => ?_⟩, ?_⟩
    · have := h1.tmps.1
      rw [this]
      cases dst <;> simp [AAct.put]
    · rw [List.eq_of_mem_replicate (List.mem_of_getElem? ht)]; exact .junk _
    · have := h1.marks
      cases dst <;> exact this
  · intro t x ht
    rcases hg t x ht with ⟨rfl, rfl, hlt⟩ | ⟨hne, hft⟩
    · simp only [Act.put]
      rw [getD_set (by omega), if_pos rfl]
      exact hv
    · have := (h.val t x hft).mono he
      cases dst with
      | none => exact this
      | some d =>
        simp only [Act.put]
        simp only [Array.getD_eq_getD_getElem?, Array.getElem?_setIfInBounds] at this ⊢
        rw [if_neg (fun e => hne (by rw [e]))]
        exact this

/-- A still piece, from any listing of it. -/
theorem still_go {ops : List Oper} {marks : List Nat} (hd : okDraw ops = true) {b n : Nat} (hn : b + n ≤ ops.length) (hc : okStill ops b n = true) (hf : okFence ops (b + n) = true) {a0 vs : List AV}
    (hv : ∀ i o, b ≤ i → i < b + n → ops[i]? = some o → ∃ (v : List AV) (y : AV), vs[i]? = some y ∧ v.length = a0.length ∧ Worth P G σ ops.toArray marks o v y ∧
      ∀ t x, v[t]? = some x → x = .junk ∨ ((o.looksAt ops.toArray).contains t = true ∧ frameAt ops vs a0 (fun j => decide (b ≤ j ∧ j < i)) t = some x))
    {r0 : Option Nat} {Q : Exit → Act → World → Prop} {w0 : World} {M0 : Map}
    (hK : ∀ (fuel : Nat) (listed : Array Bool) (w : World) (M : Map) (ac : Act), Ls ops listed fuel → (∀ j, j < ops.length → lf listed j = decide (j < b + n)) → Ext w0 M0 w M → Inv G w M σ →
      Fr w M ac marks a0.length (frameAt ops vs a0 (fun j => decide (b ≤ j ∧ j < b + n))) → wpAnyIn (FW r0) 0 P .any ops.toArray Q fuel listed ac w) :
    ∀ (fuel : Nat) (listed : Array Bool) (w : World) (M : Map) (ac : Act), Ls ops listed fuel → (∀ j, j < b → lf listed j = true) → (∀ j, b + n ≤ j → lf listed j = false) → Ext w0 M0 w M → Inv G w M σ →
      Fr w M ac marks a0.length (frameAt ops vs a0 (fun j => decide (b ≤ j) && lf listed j)) → wpAnyIn (FW r0) 0 P .any ops.toArray Q fuel listed ac w := by
  have hap := okDraw_apart hd
  intro fuel
  induction fuel with
  | zero =>
    intro listed w M ac hl hb hn' he hi ha
    have hall : ∀ j, j < ops.length → lf listed j = true := fun j hj => by
      cases hu : lf listed j with
      | true => rfl
      | false => have := count_lt (by rw [hl.size]; exact hj) hu; have := hl.fuel; have := hl.size; omega
    refine hK 0 listed w M ac hl (fun j hj => ?_) he hi ⟨ha.act, fun t x ht => ha.val t x ?_⟩
    · by_cases hlt : j < b + n
      · rw [hall j hj]; simp [hlt]
      · rw [hn' j (by omega)]; simp [hlt]
    · rw [← ht]
      refine frameAt_congr fun j hj => ⟨?_, fun _ => rfl⟩
      by_cases hlt : j < b + n
      · rw [hall j (by omega)]; simp [hlt]
      · rw [hn' j (by omega)]; simp [hlt]
  | succ fuel ih =>
    intro listed w M ac hl hb hn' he hi ha
    by_cases hall : ∀ j, j < b + n → lf listed j = true
    · refine hK (fuel + 1) listed w M ac hl (fun j hj => ?_) he hi ⟨ha.act, fun t x ht => ha.val t x ?_⟩
      · by_cases hlt : j < b + n
        · rw [hall j hlt]; simp [hlt]
        · rw [hn' j (by omega)]; simp [hlt]
      · rw [← ht]
        refine frameAt_congr fun j hj => ⟨?_, fun _ => rfl⟩
        by_cases hlt : j < b + n
        · rw [hall j hlt]; simp [hlt]
        · rw [hn' j (by omega)]; simp [hlt]
    · simp only [Classical.not_forall] at hall
      obtain ⟨u, hu, hun⟩ := hall
      have hun : lf listed u = false := by simpa using hun
      refine ⟨fun hnil => absurd hnil (ready_ne hd hl.size (by omega : u < ops.length) hun), fun i hir => ?_⟩
      obtain ⟨hiu, o, ho, hp⟩ := ready_spec hir
      have hib : b ≤ i := by
        rcases Nat.lt_or_ge i b with h | h
        · rw [hb i h] at hiu; cases hiu
        · exact h
      have hin : i < b + n := by
        rcases Nat.lt_or_ge i (b + n) with h | h
        · exact h
        · have := befores_of ho hl.closed hp (okFence_spec hf ho h hu)
          rw [hun] at this; cases this
      have hilt : i < listed.size := by rw [hl.size]; omega
      obtain ⟨v, y, hy, hvl, hwo, hvt⟩ := hv i o hib hin ho
      have hoa : ops.toArray[i]? = some o := by simpa using ho
      refine hwo.ok hoa hi (ha.act_of hvl fun t x ht => ?_) fun u' w' M' hu' he' hi' => ?_
      · rcases hvt t x ht with rfl | ⟨hlook, hfr⟩
        · exact .inl rfl
        · refine .inr ?_
          rw [← hfr]
          refine frameAt_congr fun j hj => ⟨?_, fun _ => rfl⟩
          by_cases hjb : b ≤ j
          · by_cases hjn : j < b + n
            · by_cases hji : j = i
              · subst hji; simp [hiu]
              · have hsp := okStill_spec hc hib hin hjb hjn (Ne.symm hji) ho hj hlook
                by_cases hlt : j < i
                · have := befores_of ho hl.closed hp (hsp.1 hlt)
                  simp [this, hlt]
                · have hgt : i < j := by omega
                  have : lf listed j = false := by
                    cases hlj : lf listed j with
                    | false => rfl
                    | true =>
                      obtain ⟨oj, hoj⟩ : ∃ oj, ops[j]? = some oj := ⟨_, List.getElem?_eq_getElem (by omega)⟩
                      have := befores_of hoj hl.closed (fun e he hbd => hl.closed j oj hoj hlj e he hbd) (hsp.2 hgt)
                      rw [hiu] at this; cases this
                  simp [this, hlt]
            · rw [hn' j (by omega)]
              have : ¬ (j < i) := by omega
              simp [this]
          · simp [hjb]
      · refine ih (listed.setIfInBounds i true) w' M' _ (hl.set ho hiu hp) (fun j hj => ?_) (fun j hj => ?_) (he.trans he') hi' (ha.put he' hu' fun t x ht => ?_)
        · rw [lf_set hilt, hb j hj]; simp
        · rw [lf_set hilt, hn' j hj]
          have : j ≠ i := by omega
          simp [this]
        · by_cases hdt : o.dst = some t
          · have hdi : dstAt ops i = some t := by unfold dstAt; rw [ho]; exact hdt
            rw [frameAt_of hap hdi, lf_set hilt] at ht
            simp only [hib, decide_true, Bool.true_or, Bool.and_self, if_true] at ht
            split at ht
            · rename_i hlt
              rw [hy] at ht
              cases ht
              exact .inl ⟨hdt, rfl, hlt⟩
            · cases ht
          · refine .inr ⟨hdt, ?_⟩
            rw [← ht]
            refine frameAt_congr fun j hj => ⟨?_, fun _ => rfl⟩
            have hji : j ≠ i := fun e => by
              subst e
              unfold dstAt at hj
              rw [ho] at hj
              exact hdt hj
            rw [lf_set hilt]
            simp [hji]

/-- One operation, for which all others stand in line. -/
theorem one_go {ops : List Oper} {marks : List Nat} (hd : okDraw ops = true) {b : Nat} {o : Oper} (ho : ops[b]? = some o) (hf : okFence ops (b + 1) = true) {a : List AV} {y : AV} {σ1 : Heap}
    (hwo : (awanted ops.toArray a o = some true ∧ AStep P G { tmps := a, marks := marks } σ o y σ1) ∨ (awanted ops.toArray a o = some false ∧ y = .tup [] ∧ σ1 = σ)) {r0 : Option Nat} {Q : Exit → Act → World → Prop} {w : World} {M : Map} {ac : Act}
    {fuel : Nat} {listed : Array Bool} (hl : Ls ops listed fuel) (hb : ∀ j, j < ops.length → lf listed j = decide (j < b)) (hi : Inv G w M σ) (ha : RAct w M ac { tmps := a, marks := marks })
    (hK : ∀ (fuel : Nat) (listed : Array Bool) (w' : World) (M' : Map) (ac' : Act), Ls ops listed fuel → (∀ j, j < ops.length → lf listed j = decide (j < b + 1)) → Ext w M w' M' → Inv G w' M' σ1 →
      RAct w' M' ac' { tmps := (AAct.put { tmps := a } o.dst y).tmps, marks := marks } → wpAnyIn (FW r0) 0 P .any ops.toArray Q fuel listed ac' w') : wpAnyIn (FW r0) 0 P .any ops.toArray Q fuel listed ac w := by
  have hblt : b < ops.length := (List.getElem?_eq_some_iff.1 ho).1
  have hbu : lf listed b = false := by rw [hb b hblt]; simp
  have hbs : b < listed.size := by rw [hl.size]; exact hblt
  cases fuel with
  | zero => have := count_lt hbs hbu; have := hl.fuel; have := hl.size; omega
  | succ fuel =>
    refine ⟨fun hnil => absurd hnil (ready_ne hd hl.size hblt hbu), fun i hir => ?_⟩
    obtain ⟨hiu, oi, hoi, hp⟩ := ready_spec hir
    have hilt : i < ops.length := (List.getElem?_eq_some_iff.1 hoi).1
    have hib : b ≤ i := by
      rw [hb i hilt] at hiu
      simpa using hiu
    have hie : i = b := by
      rcases Nat.lt_or_ge b i with h | h
      · have := befores_of hoi hl.closed hp (okFence_spec hf hoi h (Nat.lt_succ_self b))
        rw [hbu] at this; cases this
      · omega
    subst hie
    rw [ho] at hoi
    cases hoi
    have hnext : ∀ j, j < ops.length → lf (listed.setIfInBounds i true) j = decide (j < i + 1) := fun j hj => by
      rw [lf_set hbs, hb j hj]
      by_cases h : j = i
      · subst h; simp
      · simp only [h, decide_false, Bool.false_or]
        apply decide_eq_decide.2; omega
    have hput : ∀ (u : Value) (w' : World) (M' : Map), RV w' M' u y → Ext w M w' M' → Inv G w' M' σ1 → wpAnyIn (FW r0) 0 P .any ops.toArray Q fuel (listed.setIfInBounds i true) (ac.put o.dst u) w' := fun u w' M' hu he hi' => by
      refine hK fuel _ w' M' _ (hl.set ho hbu hp) hnext he hi' ?_
      have := (ha.mono he).put hu o.dst
      cases hd : o.dst with
      | none => rw [hd] at this; exact this
      | some d => rw [hd] at this; exact this
    have hoa : ops.toArray[i]? = some o := by simpa using ho
    unfold wpOpIn
    simp only [hoa]
    rcases hwo with ⟨hw, hs⟩ | ⟨hw, rfl, rfl⟩
    · rw [if_pos (awanted_ok ha.tmps hw)]
      exact hs r0 w M ac _ Q hi ha hput
    · rw [if_neg (by rw [awanted_ok ha.tmps hw]; simp)]
      exact ⟨fun f _ => FW_fn r0 f, hput undef w M (.undef w M) (.refl w M) hi⟩

theorem AStages.go {ops : List Oper} {marks : List Nat} (hd : okDraw ops = true) {b : Nat} {a a' : List AV} {σ σ' : Heap} (h : AStages P G ops marks b a σ a' σ') : ∀ (r0 : Option Nat) (Q : Exit → Act → World → Prop) (fuel : Nat) (listed : Array Bool) (w : World) (M : Map) (ac : Act),
    Ls ops listed fuel → (∀ j, j < ops.length → lf listed j = decide (j < b)) → Inv G w M σ → RAct w M ac { tmps := a, marks := marks } →
    (∀ w' M' ac', Ext w M w' M' → Inv G w' M' σ' → RAct w' M' ac' { tmps := a', marks := marks } → Q .normal ac' w') → wpAnyIn (FW r0) 0 P .any ops.toArray Q fuel listed ac w := by
  induction h with
  | @done b a σ hb =>
    intro r0 Q fuel listed w M ac hl hlb hi ha hQ
    refine wpAnyIn_done ?_ (hQ w M ac (.refl w M) hi ha) fuel
    apply List.eq_nil_iff_forall_not_mem.2
    intro i hir
    obtain ⟨hiu, o, ho, _⟩ := ready_spec hir
    have hlt := (List.getElem?_eq_some_iff.1 ho).1
    rw [hlb i hlt] at hiu
    have : ¬ (i < b) := by simpa using hiu
    omega
  | @still b n a a1 a' σ σ' hn hw hc hf _ ih =>
    intro r0 Q fuel listed w M ac hl hlb hi ha hQ
    have hap := okDraw_apart hd
    have hbl : b ≤ ops.length := by omega
    have hlen : ((ops.drop b).take n).length = n := by simp; omega
    obtain ⟨vs, h1, _, h3, h4, h5⟩ := hw.vals hap (a0 := a) (b := b) (List.replicate b .junk) (by simp) (by simp [hlen]; omega)
      (fun k hk => by rw [hlen] at hk; rw [List.getElem?_take_of_lt hk, List.getElem?_drop]; simp) rfl
      (fun t => by
        have : (fun j => decide (b ≤ j ∧ j < (List.replicate b AV.junk).length)) = fun _ => false := by
          funext j; simp
        rw [this]
        unfold frameAt
        split <;> simp)
    simp only [List.length_replicate, hlen] at h1 h5
    refine still_go hd hn hc hf (a0 := a) (vs := vs) (fun i o hib hin ho => h5 i o hib (by omega) ho) (w0 := w) (M0 := M) ?_ fuel listed w M ac hl (fun j hj => by rw [hlb j (by omega)]; simp [hj]) (fun j hj => ?_) (.refl w M) hi ?_
    · intro fuel2 listed2 w2 M2 ac2 hl2 hlb2 he2 hi2 ha2
      refine ih r0 Q fuel2 listed2 w2 M2 ac2 hl2 hlb2 hi2 (ha2.act_of h3 fun t x ht => .inr ?_) fun w3 M3 ac3 he3 => hQ w3 M3 ac3 (he2.trans he3)
      rw [h4 t, h1] at ht
      exact ht
    · by_cases hjl : j < ops.length
      · rw [hlb j hjl]
        have : ¬ (j < b) := by omega
        simp [this]
      · unfold lf
        simp only [Array.getD_eq_getD_getElem?]
        rw [Array.getElem?_eq_none (by rw [hl.size]; omega)]
        rfl
    · have := Fr.of ha
      refine ⟨this.act, fun t x ht => this.val t x ?_⟩
      rw [← ht]
      unfold frameAt
      split
      · rename_i j hf'
        have h1' := List.find?_some hf'
        have hjl : j < ops.length := by have := List.mem_of_find?_eq_some hf'; simpa using this
        simp only [hlb j hjl]
        by_cases hjb : b ≤ j
        · have : ¬ (j < b) := by omega
          simp [this]
        · simp [hjb]
      · rfl
  | one ho hw hs hf _ ih =>
    intro r0 Q fuel listed w M ac hl hlb hi ha hQ
    exact one_go hd ho hf (.inl ⟨hw, hs⟩) hl hlb hi ha fun fuel2 listed2 w2 M2 ac2 hl2 hlb2 he2 hi2 ha2 => ih r0 Q fuel2 listed2 w2 M2 ac2 hl2 hlb2 hi2 ha2 fun w3 M3 ac3 he3 => hQ w3 M3 ac3 (he2.trans he3)
  | none ho hw hf _ ih =>
    intro r0 Q fuel listed w M ac hl hlb hi ha hQ
    exact one_go hd ho hf (.inr ⟨hw, rfl, rfl⟩) hl hlb hi ha fun fuel2 listed2 w2 M2 ac2 hl2 hlb2 he2 hi2 ha2 => ih r0 Q fuel2 listed2 w2 M2 ac2 hl2 hlb2 hi2 ha2 fun w3 M3 ac3 he3 => hQ w3 M3 ac3 (he2.trans he3)

theorem AExec.draw {R : Option Nat → Prop} {id : Nat} {ops : List Oper} {marks : List Nat} {a a' : List AV} {σ σ' : Heap} (hm : P.follows .mixedOrders = true) (hd : okDraw ops = true) (h : AStages P G ops marks 0 a σ a' σ') :
    AExec P G R (.region id ops.toArray true) { tmps := a, marks := marks } σ .normal { tmps := a', marks := marks } σ' := by
  intro r0 _ w M ac Q hi ha hQ
  refine wpIn_region_any hm ?_
  refine h.go hd r0 Q _ _ _ M ac ⟨by simp, fun i o _ hl => ?_, by simp⟩ (fun j hj => ?_) hi.drew (ha.mono (.drew w M)) fun w' M' ac' he => hQ w' M' ac' ((Ext.drew w M).trans he)
  · unfold lf at hl
    simp [Array.getD_eq_getD_getElem?, Array.getElem?_replicate] at hl
    split at hl <;> simp at hl
  · unfold lf
    simp [Array.getD_eq_getD_getElem?, Array.getElem?_replicate]
    split <;> simp
end
end Go.Proofs.Ytngaihdpmoajeaa.Am

