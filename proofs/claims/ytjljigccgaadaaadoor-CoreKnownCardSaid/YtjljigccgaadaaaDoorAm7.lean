/-
  This file proves nothing of a law. It holds slices of slices, what a slice holds, append, copy, the least and the greatest. No condition.
-/
import Derived.Test.YtjljigccgaadaaaDoorAm6
namespace Go.Proofs.YtjljigccgaadaaaDoor.Am
open Go

section
variable {w : World} {M : Map} {P : Program} {G : Nat → Option (List AV)} {σ : Heap}

/-! ### Bounds -/
def aBound (x : AV) (y : Nat) : Option Nat :=
  match x with
  | .int _ n => if 0 ≤ n ∧ n ≤ y then some n.toNat else none
  | _ => none
theorem aBound_ok {x : AV} {v : Value} {y n : Nat} {code : BoundsCode} (hv : RV w M v x) (h : aBound x y = some n) : (Instr.sliceBound v y code).run P w = .ok n w ∧ n ≤ y := by
  unfold aBound at h
  split at h
  · split at h
    · rename_i hc
      cases h
      cases hv
      exact ⟨by simp [Instr.sliceBound, asIntOf, hc.1, hc.2], by omega⟩
    · cases h
  · cases h

/-- The three bounds; the last one as far as it is known (the capacity, if none is named). -/
def aBounds (len cap : Nat) (lo hi mx : Option AV) : Option (Nat × Nat × Nat) :=
  match (match mx with | some v => aBound v cap | none => some cap) with
  | none => none
  | some m =>
    match (match hi, mx with | some v, _ => aBound v m | none, none => some len | none, some _ => none) with
    | none => none
    | some h =>
      match (match lo with | some v => aBound v h | none => some 0) with
      | none => none
      | some l => some (l, h, m)

inductive ROpt (w : World) (M : Map) : Option Value → Option AV → Prop where
  | none : ROpt w M none none
  | some (v : Value) (x : AV) (h : RV w M v x) : ROpt w M (some v) (some x)

theorem aBound_more {x : AV} {y y' n : Nat} (h : aBound x y = some n) (hy : y ≤ y') : aBound x y' = some n := by
  unfold aBound at h ⊢
  split at h
  · rename_i k i
    split at h
    · rename_i hc
      rw [if_pos ⟨hc.1, by omega⟩]
      exact h
    · cases h
  · cases h

theorem aBounds_ok {len cap capc l h m : Nat} {lo hi mx : Option AV} {lo' hi' mx' : Option Value} (hlo : ROpt w M lo' lo) (hhi : ROpt w M hi' hi) (hmx : ROpt w M mx' mx) (hlen : len ≤ cap) (hcap : cap ≤ capc)
    (hb : aBounds len cap lo hi mx = some (l, h, m)) :
    (Instr.sliceBounds true len capc lo' hi' mx').run P w = .ok (l, h, if mx.isSome then m else capc) w ∧ l ≤ h ∧ h ≤ m ∧ m ≤ cap ∧ (mx = none → m = cap) := by
  unfold aBounds at hb
  cases hmx with
  | none =>
    dsimp only at hb
    cases hhi with
    | none =>
      dsimp only at hb
      cases hlo with
      | none => cases hb; exact ⟨rfl, Nat.zero_le _, hlen, Nat.le_refl _, fun _ => rfl⟩
      | some v x hv =>
        dsimp only at hb
        cases hx : aBound x len with
        | none => rw [hx] at hb; cases hb
        | some n =>
          rw [hx] at hb; cases hb
          obtain ⟨h1, h2⟩ := aBound_ok (P := P) (code := .sliceB) hv hx
          exact ⟨by simp [Instr.sliceBounds, h1], h2, hlen, Nat.le_refl _, fun _ => rfl⟩
    | some u y hu =>
      dsimp only at hb
      cases hy : aBound y cap with
      | none => rw [hy] at hb; cases hb
      | some n =>
        rw [hy] at hb
        dsimp only at hb
        obtain ⟨h1, _⟩ := aBound_ok (P := P) (code := .sliceAcap) hu (aBound_more hy hcap)
        obtain ⟨_, h2⟩ := aBound_ok (P := P) (code := .sliceAcap) hu hy
        cases hlo with
        | none => cases hb; exact ⟨by simp [Instr.sliceBounds, h1], Nat.zero_le _, h2, Nat.le_refl _, fun _ => rfl⟩
        | some v x hv =>
          dsimp only at hb
          cases hx : aBound x n with
          | none => rw [hx] at hb; cases hb
          | some k =>
            rw [hx] at hb; cases hb
            obtain ⟨k1, k2⟩ := aBound_ok (P := P) (code := .sliceB) hv hx
            exact ⟨by simp [Instr.sliceBounds, h1, k1], k2, h2, Nat.le_refl _, fun _ => rfl⟩
  | some t z ht =>
    dsimp only at hb
    cases hz : aBound z cap with
    | none => rw [hz] at hb; cases hb
    | some q =>
      rw [hz] at hb
      dsimp only at hb
      obtain ⟨g1, _⟩ := aBound_ok (P := P) (code := .slice3Acap) ht (aBound_more hz hcap)
      obtain ⟨_, g2⟩ := aBound_ok (P := P) (code := .slice3Acap) ht hz
      cases hhi with
      | none => cases hb
      | some u y hu =>
        dsimp only at hb
        cases hy : aBound y q with
        | none => rw [hy] at hb; cases hb
        | some n =>
          rw [hy] at hb
          dsimp only at hb
          obtain ⟨h1, h2⟩ := aBound_ok (P := P) (code := .slice3B) hu hy
          cases hlo with
          | none => cases hb; exact ⟨by simp [Instr.sliceBounds, g1, h1], Nat.zero_le _, h2, g2, fun h => by cases h⟩
          | some v x hv =>
            dsimp only at hb
            cases hx : aBound x n with
            | none => rw [hx] at hb; cases hb
            | some k =>
              rw [hx] at hb; cases hb
              obtain ⟨k1, k2⟩ := aBound_ok (P := P) (code := .slice3C) hv hx
              exact ⟨by simp [Instr.sliceBounds, g1, h1, k1], k2, h2, g2, fun h => by cases h⟩

/-! ### A slice of a slice -/
def aSlice (P : Program) (σ : Heap) (t : TypeId) (x : AV) (lo hi mx : Option AV) : Option AV :=
  match P.underlying t, x with
  | some (.slice e), .sl size rows =>
    match P.info? e, aBounds rows.length rows.length lo hi mx with
    | some ie, some (l, h, m) => if ie.size = size then (if mx.isSome ∧ m = l then some .zs else some (.sl size ((rows.drop l).take (h - l)))) else none
    | _, _ => none
  | some (.slice e), .zs =>
    match P.info? e, aBounds 0 0 lo hi mx with
    | some _, some _ => some .zs
    | _, _ => none
  | some (.slice e), .ms size r g off len cap =>
    match P.info? e, aBounds len cap lo hi mx with
    | some ie, some (l, h, m) =>
      if ie.size = size ∧ len ≤ cap ∧ (objAt σ r g).isSome = true then
        (if m = l then (if mx.isSome then some .zs else some (.sl size [])) else some (.ms size r g (off + l * size) (h - l) (m - l)))
      else none
    | _, _ => none
  | _, _ => none

theorem sliceAt_slice {t e : TypeId} (hu : P.underlying t = some (.slice e)) (v : Value) (lo hi mx : Option Value) : (Instr.sliceAt t v lo hi mx).run P w = (Instr.slice t v lo hi mx).run P w := by
  simp only [Instr.sliceAt, Sem.run_bind, run_underlying', hu, Result.andThen_ok]

theorem run_slice' {t e : TypeId} {ie : TypeInfo} {a : Option Addr} {len cap l h m : Nat} {lo hi mx : Option Value} (hu : P.underlying t = some (.slice e)) (hie : P.info? e = some ie)
    (hb : (Instr.sliceBounds true len cap lo hi mx).run P w = .ok (l, h, m) w) :
    (Instr.sliceAt t (.slice a len cap) lo hi mx).run P w = .ok (.slice (if m = l then a else a.map (·.add (l * ie.size))) (h - l) (m - l)) w := by
  rw [sliceAt_slice hu]
  simp only [Instr.slice, Sem.run_bind, run_underlying', hu, Result.andThen_ok, hb, run_sizeOf', hie, Sem.run_pure]

theorem aSlice_ok {t : TypeId} {v : Value} {x y : AV} {lo hi mx : Option AV} {lo' hi' mx' : Option Value} (hinv : Inv G w M σ) (hv : RV w M v x) (hlo : ROpt w M lo' lo) (hhi : ROpt w M hi' hi) (hmx : ROpt w M mx' mx)
    (h : aSlice P σ t x lo hi mx = some y) : ∃ r, (Instr.sliceAt t v lo' hi' mx').run P w = .ok r w ∧ RV w M r y := by
  unfold aSlice at h
  split at h
  · rename_i e size rows hu
    split at h
    · rename_i ie l h' m hie hb
      split at h
      · rename_i hs
        subst hs
        have key : ∀ (base : Option Addr) (cap : Nat), rows.length ≤ cap → (Instr.sliceAt t (.slice base rows.length cap) lo' hi' mx').run P w =
            .ok (.slice (if (if mx.isSome then m else cap) = l then base else base.map (·.add (l * ie.size))) (h' - l) ((if mx.isSome then m else cap) - l)) w ∧ l ≤ h' ∧ h' ≤ m ∧ m ≤ rows.length := by
          intro base cap hcap
          obtain ⟨k1, k2, k3, k4, _⟩ := aBounds_ok (P := P) (capc := cap) hlo hhi hmx (Nat.le_refl _) hcap hb
          exact ⟨run_slice' hu hie k1, k2, k3, k4⟩
        cases hv with
        | sl0 base cap size =>
          obtain ⟨k1, k2, k3, k4⟩ := key base cap (by simp)
          have hl : l = 0 := by simp at k4; omega
          have hh : h' = 0 := by simp at k4; omega
          have hm : m = 0 := by simp at k4; omega
          subst hl hh hm
          split at h
          · rename_i hc
            cases h
            rw [if_pos hc.1] at k1
            exact ⟨_, k1, .zs _⟩
          · cases h
            exact ⟨_, k1, by simpa using RV.sl0 _ _ ie.size⟩
        | sl b o cap size f rows hbb hcell hl hh hcap =>
          obtain ⟨k1, k2, k3, k4⟩ := key (some ⟨b, o, none⟩) cap hcap
          split at h
          · rename_i hc
            cases h
            rw [if_pos hc.1, if_pos hc.2, hc.2, Nat.sub_self] at k1
            have : h' - l = 0 := by omega
            rw [this] at k1
            exact ⟨_, k1, .zs _⟩
          · rename_i hc
            cases h
            by_cases h0 : h' - l = 0
            · rw [h0] at k1 ⊢
              exact ⟨_, k1, by simpa using RV.sl0 _ _ ie.size⟩
            · have hne : ¬ (if mx.isSome = true then m else cap) = l := by
                split <;> omega
              rw [if_neg hne] at k1
              simp only [Option.map_some, add_plain] at k1
              refine ⟨_, k1, ?_⟩
              have hlen : ((rows.drop l).take (h' - l)).length = h' - l := by simp; omega
              have hget : ∀ (i : Nat) (r : List AV), ((rows.drop l).take (h' - l))[i]? = some r → rows[l + i]? = some r := by
                intro i r hr
                have hi : i < h' - l := by
                  have := (List.getElem?_eq_some_iff.1 hr).1
                  omega
                rw [List.getElem?_take_of_lt hi, List.getElem?_drop] at hr
                exact hr
              have := RV.sl (w := w) (M := M) b (o + l * ie.size) ((if mx.isSome = true then m else cap) - l) ie.size (fun i j => f (l + i) j) ((rows.drop l).take (h' - l)) hbb
                (fun i r j hr hj => by
                  have := hcell (l + i) r j (hget i r hr) hj
                  rw [Nat.add_mul, ← Nat.add_assoc] at this
                  exact this)
                (fun i r hr => hl _ r (hget i r hr)) (fun i r j x hr hj => hh _ r j x (hget i r hr) hj) (by rw [hlen]; split <;> omega)
              rw [hlen] at this
              exact this
      · cases h
    · cases h
  · rename_i e hu
    split at h
    · rename_i ie p hie hb
      cases h
      obtain ⟨l, h', m⟩ := p
      cases hv with
      | zs base =>
        obtain ⟨k1, k2, k3, k4, k5⟩ := aBounds_ok (P := P) (capc := 0) hlo hhi hmx (Nat.le_refl _) (Nat.le_refl _) hb
        have hl : l = 0 := by omega
        have hh : h' = 0 := by omega
        have hm : m = 0 := by omega
        subst hl hh hm
        refine ⟨_, run_slice' hu hie k1, ?_⟩
        simpa using RV.zs _
    · cases h
  · rename_i e size r g off len cap hu
    split at h
    · rename_i ie l h' m hie hb
      split at h
      · rename_i hc
        obtain ⟨rfl, hlc, ho⟩ := hc
        obtain ⟨c, hoc⟩ := Option.isSome_iff_exists.1 ho
        obtain ⟨b0, cs, e0, hm, hh, hl, hx⟩ := hinv.obj hoc
        cases hv with
        | msS size r g off len cap b g' p capc hr hg =>
          rw [hm] at hr
          obtain ⟨_, rfl⟩ := Prod.mk.inj (Option.some.inj hr)
          omega
        | ms size r g off len cap b capc c e hr hlen hcc hsz hfit =>
          obtain ⟨k1, k2, k3, k4, k5⟩ := aBounds_ok (P := P) (capc := capc) hlo hhi hmx hlc hcc hb
          have hrun := run_slice' (a := some ⟨b, off, none⟩) hu hie k1
          refine ⟨_, hrun, ?_⟩
          split at h
          · rename_i hml
            have h0 : h' - l = 0 := by omega
            split at h
            · rename_i hs
              cases h
              rw [if_pos hs, if_pos hml, h0, hml, Nat.sub_self]
              exact .zs _
            · rename_i hs
              cases h
              rw [h0]
              exact .sl0 _ _ _
          · rename_i hml
            cases h
            have hne : ¬ (if mx.isSome = true then m else capc) = l := by split <;> omega
            rw [if_neg hne]
            simp only [Option.map_some, add_plain]
            refine .ms ie.size r g _ _ _ b _ c e hr (by omega) (by split <;> omega) hsz ?_
            have hle : (if mx.isSome = true then m else capc) ≤ capc := by split <;> omega
            have hge : l ≤ (if mx.isSome = true then m else capc) := by split <;> omega
            have : l * ie.size + ((if mx.isSome = true then m else capc) - l) * ie.size ≤ capc * ie.size := by
              rw [← Nat.add_mul]
              exact Nat.mul_le_mul_right _ (by omega)
            omega
      · cases h
    · cases h
  · cases h
/-! ### What a slice holds -/
theorem flatten_len {size : Nat} : ∀ {rows : List (List AV)}, (∀ (i : Nat) (r : List AV), rows[i]? = some r → r.length = size) → rows.flatten.length = rows.length * size
  | [], _ => by simp
  | r :: rows, h => by
    have h0 := h 0 r rfl
    rw [List.flatten_cons, List.length_append, flatten_len (rows := rows) (fun i q hq => h (i + 1) q (by simpa using hq)), List.length_cons, Nat.succ_mul, h0, Nat.add_comm]
theorem flatten_get {size : Nat} : ∀ {rows : List (List AV)} {k : Nat} {x : AV}, (∀ (i : Nat) (r : List AV), rows[i]? = some r → r.length = size) → rows.flatten[k]? = some x →
    ∃ (i j : Nat) (r : List AV), k = i * size + j ∧ j < size ∧ rows[i]? = some r ∧ r[j]? = some x
  | [], k, x, _, hx => by simp at hx
  | r :: rows, k, x, h, hx => by
    have h0 := h 0 r rfl
    rw [List.flatten_cons] at hx
    by_cases hk : k < r.length
    · rw [List.getElem?_append_left hk] at hx
      exact ⟨0, k, r, by simp, by omega, rfl, hx⟩
    · rw [List.getElem?_append_right (by omega)] at hx
      obtain ⟨i, j, q, e1, e2, e3, e4⟩ := flatten_get (rows := rows) (fun i q hq => h (i + 1) q (by simpa using hq)) hx
      exact ⟨i + 1, j, q, by rw [Nat.succ_mul]; omega, e2, by simpa using e3, e4⟩

/-- How many elements, and their cells, one behind the other. -/
def conts (σ : Heap) (size : Nat) (x : AV) : Option (Nat × List AV) :=
  match x with
  | .sl s rows => if s = size then some (rows.length, rows.flatten) else none
  | .zs => some (0, [])
  | .ms s r g off len _ =>
    match objAt σ r g with
    | some c => if s = size ∧ off + len * size ≤ c.length then some (len, (c.drop off).take (len * size)) else none
    | none => none
  | _ => none

theorem conts_ok {size n : Nat} {v : Value} {x : AV} {xs : List AV} (hi : Inv G w M σ) (hv : RV w M v x) (h : conts σ size x = some (n, xs)) :
    (Builtin.lenOf v).run P w = .ok n w ∧ xs.length = n * size ∧
    ∀ k, k ≤ n → ∃ us : Array Value, (Builtin.firstCells size k v).run P w = .ok us w ∧ us.size = k * size ∧ ∀ (j : Nat) (y : AV), j < k * size → xs[j]? = some y → RV w M (us.getD j undef) y := by
  unfold conts at h
  split at h
  · rename_i s rows
    split at h
    · rename_i hs
      subst hs
      cases h
      cases hv with
      | sl0 base cap s =>
        refine ⟨rfl, by simp, fun k hk => ?_⟩
        have hk0 : k = 0 := by simpa using hk
        subst hk0
        refine ⟨#[], ?_, by simp, fun j y hj => by simp at hj⟩
        cases base with
        | none => rfl
        | some a => simp [Builtin.firstCells, loadCells, loadCellsFrom]
      | sl b o cap s f rows hb hc hl hh hcap =>
        refine ⟨rfl, flatten_len hl, fun k hk => ?_⟩
        refine ⟨((List.range (k * s)).map fun q => f (q / s) (q % s)).toArray, ?_, by simp, fun j y hj hy => ?_⟩
        · refine run_loadCells (P := P) (w := w) (b := b) (o := o) (n := k * s) (fun q => f (q / s) (q % s)) fun q hq => ?_
          have hs : 0 < s := by
            rcases Nat.eq_zero_or_pos s with e | e
            · subst e; simp at hq
            · exact e
          have hqs : q / s < rows.length := Nat.lt_of_lt_of_le (Nat.div_lt_of_lt_mul (by rw [Nat.mul_comm]; exact hq)) hk
          have := hc (q / s) _ (q % s) (List.getElem?_eq_getElem hqs) (Nat.mod_lt _ hs)
          rw [Nat.add_assoc, Nat.mul_comm (q / s) s, Nat.div_add_mod] at this
          exact this
        · rw [getD_map_range hj]
          obtain ⟨i, j', r, e1, e2, e3, e4⟩ := flatten_get hl hy
          have hs : 0 < s := by omega
          have hd : j / s = i := by
            rw [e1, Nat.add_comm, Nat.add_mul_div_right _ _ hs, Nat.div_eq_of_lt e2, Nat.zero_add]
          have hm : j % s = j' := by
            rw [e1, Nat.add_comm, Nat.add_mul_mod_self_right, Nat.mod_eq_of_lt e2]
          rw [hd, hm]
          exact hh i r j' y e3 e4
    · cases h
  · cases h
    cases hv
    rename_i base
    refine ⟨rfl, by simp, fun k hk => ?_⟩
    have hk0 : k = 0 := by omega
    subst hk0
    refine ⟨#[], ?_, by simp, fun j y hj => by simp at hj⟩
    cases base with
    | none => rfl
    | some a => simp [Builtin.firstCells, loadCells, loadCellsFrom]
  · rename_i s r g off len cap
    split at h
    · rename_i c ho
      split at h
      · rename_i hcond
        obtain ⟨rfl, hle⟩ := hcond
        cases h
        obtain ⟨b, cs, e, hm, hh, hl, hx⟩ := hi.obj ho
        cases hv with
        | msS _ _ _ _ _ _ b g' p capc hr hg =>
          rw [hm] at hr
          obtain ⟨_, rfl⟩ := Prod.mk.inj (Option.some.inj hr)
          omega
        | ms _ _ _ _ _ _ b' capc c' e' hr hlen hcc hsz hfit =>
          rw [hm] at hr
          obtain ⟨rfl, _⟩ := Prod.mk.inj (Option.some.inj hr)
          refine ⟨rfl, by simp; omega, fun k hk => ?_⟩
          have hks : k * s ≤ n * s := Nat.mul_le_mul_right _ hk
          refine ⟨((List.range (k * s)).map fun q => cs.getD (off + q) undef).toArray, ?_, by simp, fun j y hj hy => ?_⟩
          · exact run_loadCells (P := P) (w := w) (b := b) (o := off) (n := k * s) (fun q => cs.getD (off + q) undef) fun q hq => cell_of_cells hh (by omega)
          · rw [getD_map_range hj]
            rw [List.getElem?_take_of_lt (by omega), List.getElem?_drop] at hy
            exact hx _ y hy
      · cases h
    · cases h
  · cases h

/-! ### The least and the greatest -/
def aFold (f : Int → Int → Int) : AV → List AV → Option AV
  | x, [] => some x
  | .int k a, .int k' b :: r => if k = k' then aFold f (.int k (f a b)) r else none
  | _, _ => none
def aMin (xs : List AV) : Option AV :=
  match xs with
  | x :: r => aFold (fun a b => if b < a then b else a) x r
  | [] => none
def aMax (xs : List AV) : Option AV :=
  match xs with
  | x :: r => aFold (fun a b => if b > a then b else a) x r
  | [] => none
theorem aFold_ok {f : Int → Int → Int} {g : Value → Value → Sem Value} (hg : ∀ k a b, g (.int k a) (.int k b) = pure (.int k (f a b))) :
    ∀ (xs : List AV) (vs : List Value) (v : Value) (x y : AV), vs.length = xs.length → RV w M v x → (∀ (j : Nat) (z : AV), xs[j]? = some z → RV w M (vs.toArray.getD j undef) z) → aFold f x xs = some y →
      ∃ r, (vs.foldlM g v).run P w = .ok r w ∧ RV w M r y
  | [], [], v, x, y, _, hv, _, h => by cases h; exact ⟨v, rfl, hv⟩
  | z :: xs, u :: vs, v, x, y, hl, hv, hz, h => by
    have hu : RV w M u z := by simpa using hz 0 z rfl
    unfold aFold at h
    split at h
    · rename_i e; cases e
    · rename_i e
      cases e
      split at h
      · rename_i hk
        subst hk
        cases hv; cases hu
        rw [List.foldlM_cons, hg]
        obtain ⟨r, h1, h2⟩ := aFold_ok hg xs vs _ _ y (by simpa using hl) (.int _ _) (fun j q hq => by have := hz (j + 1) q (by simpa using hq); simpa [Array.getD_eq_getD_getElem?] using this) h
        exact ⟨r, by simpa using h1, h2⟩
      · cases h
    · cases h
theorem aMin_ok {ts : Array TypeId} {ty : TypeId} {vs : Array Value} {xs : List AV} {y : AV} (hv : RVs w M vs xs) (h : aMin xs = some y) : ∃ r, (Builtin.min_ ts ty vs).run P w = .ok r w ∧ RV w M r y := by
  obtain ⟨l⟩ := vs
  match xs, l, hv.1 with
  | x :: xs, v :: vs, hl =>
    exact aFold_ok (g := Builtin.min2) (fun k a b => rfl) xs vs v x y (by simpa using hl) (by simpa using hv.2 0 x rfl) (fun j q hq => by have := hv.2 (j + 1) q (by simpa using hq); simpa [Array.getD_eq_getD_getElem?] using this) h
theorem aMax_ok {ts : Array TypeId} {ty : TypeId} {vs : Array Value} {xs : List AV} {y : AV} (hv : RVs w M vs xs) (h : aMax xs = some y) : ∃ r, (Builtin.max_ ts ty vs).run P w = .ok r w ∧ RV w M r y := by
  obtain ⟨l⟩ := vs
  match xs, l, hv.1 with
  | x :: xs, v :: vs, hl =>
    exact aFold_ok (g := Builtin.max2) (fun k a b => rfl) xs vs v x y (by simpa using hl) (by simpa using hv.2 0 x rfl) (fun j q hq => by have := hv.2 (j + 1) q (by simpa using hq); simpa [Array.getD_eq_getD_getElem?] using this) h
end
end Go.Proofs.YtjljigccgaadaaaDoor.Am
