/-
  This file proves nothing of a law. It says what one operation, a call, a list of operations and a piece of code do to a frame and a heap of plain values, and how such facts are put together. No condition.
-/
import Derived.Test.YtjljigccgaadaaaDoorAm8
import Derived.RangeFuncNested
namespace Go.Proofs.YtjljigccgaadaaaDoor.Am
open Go

section
variable {P : Program} {G : Nat → Option (List AV)}

/-! ### An operation that calls nothing -/
def evAll (G : Nat → Option (List AV)) (a : List AV) : List Operand → Option (List AV)
  | [] => some []
  | x :: r => match ev G a x, evAll G a r with
    | some y, some ys => some (y :: ys)
    | _, _ => none
def evParts (G : Nat → Option (List AV)) (a : List AV) : List (Nat × Operand) → Option (List (Nat × AV))
  | [] => some []
  | (i, x) :: r => match ev G a x, evParts G a r with
    | some y, some ys => some ((i, y) :: ys)
    | _, _ => none
/-- An operand that may lack: none of it, or its value. -/
def evOpt (G : Nat → Option (List AV)) (a : List AV) : Option Operand → Option (Option AV)
  | none => some none
  | some x => (ev G a x).map some

def aBuiltin (P : Program) (σ : Heap) (b : Builtin) (ts : List TypeId) (xs : List AV) : Option (AV × Heap) :=
  match b, ts, xs with
  | .len, [t], [x] => (aLen P t x).map (·, σ)
  | .append, [t, t2], [s, x] => aAppend P σ t t2 s x
  | .min, _, xs => (aMin xs).map (·, σ)
  | .max, _, xs => (aMax xs).map (·, σ)
  | _, _, _ => none

def aop (P : Program) (G : Nat → Option (List AV)) (a : List AV) (σ : Heap) (o : Oper) : Option (AV × Heap) :=
  match o.op with
  | .move x | .assign x => (ev G a x).map (·, σ)
  | .pick c x y =>
    match ev G a c with
    | some (.bool b) => (if b then ev G a x else ev G a y).map (·, σ)
    | _ => none
  | .alloc t => aAlloc P σ t
  | .box _ x => (ev G a x).bind (aBox σ)
  | .build t ps => ((evParts G a ps.toList).bind (aBuild P t)).map (·, σ)
  | .buildSlice t n ps => ((evParts G a ps.toList).bind (aLit P t n)).map (·, σ)
  | .load t x => ((ev G a x).bind (aLoad P σ t)).map (·, σ)
  | .store t x y =>
    match ev G a x, ev G a y with
    | some p, some v => (aStore P σ t p v).map ((.tup [], ·))
    | _, _ => none
  | .nilCheck x => ((ev G a x).bind aNil).map (·, σ)
  | .binOp op t x y _ =>
    match ev G a x, ev G a y with
    | some p, some q => (aBin P op t p q).map (·, σ)
    | _, _ => none
  | .unOp op _ x => ((ev G a x).bind (aUn op)).map (·, σ)
  | .convert s d x => ((ev G a x).bind (aConv P s d)).map (·, σ)
  | .makeFunc (.func f) first caps =>
    match evAll G a first.toList, evAll G a caps.toList with
    | some xs, some ys => some (.fn f xs ys, σ)
    | _, _ => none
  | .makeSlice t l c =>
    match ev G a l, ev G a c with
    | some x, some y => aMake P σ t x y
    | _, _ => none
  | .slice t x lo hi mx =>
    match ev G a x, evOpt G a lo, evOpt G a hi, evOpt G a mx with
    | some v, some l, some h, some m => (aSlice P σ t v l h m).map (·, σ)
    | _, _, _, _ => none
  | .fieldAddr t x k => ((ev G a x).bind (aField P t · k)).map (·, σ)
  | .indexAddr t x i =>
    match ev G a x, ev G a i with
    | some v, some n => (aIndex P σ t v n).map (·, σ)
    | _, _ => none
  | .extract x k => ((ev G a x).bind (aExtract · k)).map (·, σ)
  | .call { callee := .builtin b, args := args, argTypes := ts } => (evAll G a args.toList).bind (aBuiltin P σ b ts.toList)
  | _ => none

variable {w : World} {M : Map} {σ σ' : Heap} {a : List AV} {ac : Act}

theorem map_pair {x : Option AV} {y : AV} (h : x.map (·, σ) = some (y, σ')) : x = some y ∧ σ' = σ := by
  cases x with
  | none => cases h
  | some x => cases h; exact ⟨rfl, rfl⟩

theorem Good.calm {y : AV} {s : Sem Value} (hi : Inv G w M σ) (h : ∃ r, s.run P w = .ok r w ∧ RV w M r y) : Good G w M σ y ((do pure (.value (← s)) : Sem Next).run P w) := by
  obtain ⟨r, h1, h2⟩ := h
  simp only [Sem.run_bind, h1, Result.andThen_ok, Sem.run_pure]
  exact .same hi h2
theorem Good.world {y : AV} {s : Sem Value} (h : ∃ v w' M', s.run P w = .ok v w' ∧ RV w' M' v y ∧ Ext w M w' M' ∧ Inv G w' M' σ') : Good G w M σ' y ((do pure (.value (← s)) : Sem Next).run P w) := by
  obtain ⟨v, w', M', h1, h2, h3, h4⟩ := h
  simp only [Sem.run_bind, h1, Result.andThen_ok, Sem.run_pure]
  exact ⟨v, w', M', .inl rfl, h2, h3, h4⟩

theorem evAll_ok (hi : Inv G w M σ) (ha : RVs w M ac.tmps a) : ∀ {l : List Operand} {ys : List AV}, evAll G a l = some ys → RVs w M (l.toArray.map ac.eval) ys
  | [], ys, h => by cases h; exact ⟨by simp, fun j x hj => by simp at hj⟩
  | x :: r, ys, h => by
    unfold evAll at h
    split at h
    · rename_i y zs hy hz
      cases h
      obtain ⟨h1, h2⟩ := evAll_ok hi ha hz
      refine ⟨by simpa using h1, fun j q hj => ?_⟩
      cases j with
      | zero => simp at hj; subst hj; simpa [Array.getD_eq_getD_getElem?] using ev_ok hi ha hy
      | succ j => have := h2 j q (by simpa using hj); simpa [Array.getD_eq_getD_getElem?] using this
    · cases h

theorem evParts_ok (hi : Inv G w M σ) (ha : RVs w M ac.tmps a) : ∀ {l : List (Nat × Operand)} {ys : List (Nat × AV)}, evParts G a l = some ys →
    ys.length = l.length ∧ ∀ (j : Nat) (p : Nat × AV), ys[j]? = some p → ∃ v, (l.map fun (i, x) => (i, ac.eval x))[j]? = some (p.1, v) ∧ RV w M v p.2
  | [], ys, h => by cases h; exact ⟨rfl, fun j x hj => by simp at hj⟩
  | (i, x) :: r, ys, h => by
    unfold evParts at h
    split at h
    · rename_i y zs hy hz
      cases h
      obtain ⟨h1, h2⟩ := evParts_ok hi ha hz
      refine ⟨by simpa using h1, fun j q hj => ?_⟩
      cases j with
      | zero => simp at hj; subst hj; exact ⟨_, rfl, ev_ok hi ha hy⟩
      | succ j => have := h2 j q (by simpa using hj); simpa using this
    · cases h

theorem evOpt_ok (hi : Inv G w M σ) (ha : RVs w M ac.tmps a) {x : Option Operand} {y : Option AV} (h : evOpt G a x = some y) : ROpt w M (x.map ac.eval) y := by
  cases x with
  | none => cases h; exact .none
  | some x =>
    simp only [evOpt] at h
    cases hx : ev G a x with
    | none => rw [hx] at h; cases h
    | some z => rw [hx] at h; cases h; exact .some _ _ (ev_ok hi ha hx)

theorem arr1 {vs : Array Value} (h : vs.size = 1) : vs = #[vs.getD 0 undef] := by
  obtain ⟨l⟩ := vs
  match l, h with
  | [v], _ => rfl
theorem arr2 {vs : Array Value} (h : vs.size = 2) : vs = #[vs.getD 0 undef, vs.getD 1 undef] := by
  obtain ⟨l⟩ := vs
  match l, h with
  | [v, u], _ => rfl

theorem aop_ok {o : Oper} {y : AV} (hi : Inv G w M σ) (ha : RVs w M ac.tmps a) (h : aop P G a σ o = some (y, σ')) : Good G w M σ' y ((execOp ac.eval o).run P w) := by
  unfold aop at h
  unfold execOp
  split at h <;> rename_i ho <;> simp only [ho]
  · obtain ⟨h1, rfl⟩ := map_pair h
    exact .same hi (ev_ok hi ha h1)
  · obtain ⟨h1, rfl⟩ := map_pair h
    exact .same hi (ev_ok hi ha h1)
  · split at h
    · rename_i b hc
      obtain ⟨h1, rfl⟩ := map_pair h
      have hb := ev_ok hi ha hc
      generalize ac.eval _ = cv at hb
      cases hb
      cases b
      · exact .same hi (ev_ok hi ha h1)
      · exact .same hi (ev_ok hi ha h1)
    · cases h
  · exact .world (aAlloc_ok hi h)
  · obtain ⟨x, hx, h⟩ := Option.bind_eq_some_iff.1 h
    exact .world (aBox_ok hi (ev_ok hi ha hx) h)
  · obtain ⟨h1, rfl⟩ := map_pair h
    obtain ⟨ps, hp, h⟩ := Option.bind_eq_some_iff.1 h1
    obtain ⟨k1, k2⟩ := evParts_ok hi ha hp
    exact .calm hi (aBuild_ok (by simpa using k1) (by simpa using k2) h)
  · obtain ⟨h1, rfl⟩ := map_pair h
    obtain ⟨ps, hp, h⟩ := Option.bind_eq_some_iff.1 h1
    obtain ⟨k1, k2⟩ := evParts_ok hi ha hp
    obtain ⟨v, w', q1, q2, q3, q4⟩ := aLit_ok (P := P) (vs := (Array.map (fun (i, x) => (i, ac.eval x)) _)) hi (by simpa using k1) (by simpa using k2) h
    exact .world ⟨v, w', M, q1, q2, q3, q4⟩
  · obtain ⟨h1, rfl⟩ := map_pair h
    obtain ⟨x, hx, h⟩ := Option.bind_eq_some_iff.1 h1
    exact .calm hi (aLoad_ok hi (ev_ok hi ha hx) h)
  · split at h
    · rename_i p v hp hv
      cases hs : aStore P σ _ p v with
      | none => rw [hs] at h; cases h
      | some σ1 =>
        rw [hs] at h
        cases h
        obtain ⟨w', k1, k2, k3⟩ := aStore_ok hi (ev_ok hi ha hp) (ev_ok hi ha hv) hs
        refine ⟨undef, w', M, .inr ⟨?_, rfl⟩, .tup #[] [] rfl (fun j x hj => by simp at hj), k2, k3⟩
        simp only [Sem.run_bind, k1, Result.andThen_ok, Sem.run_pure]
    · cases h
  · obtain ⟨h1, rfl⟩ := map_pair h
    obtain ⟨x, hx, h⟩ := Option.bind_eq_some_iff.1 h1
    have hv := ev_ok hi ha hx
    unfold aNil at h
    generalize ac.eval _ = cv at hv
    split at h
    · cases h; cases hv with | row b o off f cells hb hc hh => exact .same hi (.row b o _ f _ hb hc hh)
    · cases h
      cases hv with
      | ref r g off b hr => exact .same hi (.ref _ _ _ b hr)
      | refS r g off b g' p hr hg => exact .same hi (.refS _ _ _ b g' p hr hg)
    · cases h; cases hv with | fn f fs cs xs ys hl1 hl2 h1 h2 => exact .same hi (.fn _ fs cs _ _ hl1 hl2 h1 h2)
    · cases h
  · split at h
    · rename_i p q hp hq
      obtain ⟨h1, rfl⟩ := map_pair h
      obtain ⟨r, k1, k2⟩ := aBin_ok (P := P) (ev_ok hi ha hp) (ev_ok hi ha hq) h1
      exact .calm hi ⟨r, k1, k2⟩
    · cases h
  · obtain ⟨h1, rfl⟩ := map_pair h
    obtain ⟨x, hx, h⟩ := Option.bind_eq_some_iff.1 h1
    exact .calm hi (aUn_ok (ev_ok hi ha hx) h)
  · obtain ⟨h1, rfl⟩ := map_pair h
    obtain ⟨x, hx, h⟩ := Option.bind_eq_some_iff.1 h1
    exact .calm hi (aConv_ok (ev_ok hi ha hx) h)
  · split at h
    · rename_i xs ys hx hy
      cases h
      obtain ⟨x1, x2⟩ := evAll_ok hi ha hx
      obtain ⟨y1, y2⟩ := evAll_ok hi ha hy
      exact .same hi (.fn _ _ _ xs ys x1 y1 x2 y2)
    · cases h
  · split at h
    · rename_i l c hl hc
      exact .world (aMake_ok hi (ev_ok hi ha hl) (ev_ok hi ha hc) h)
    · cases h
  · split at h
    · rename_i v l hh m hv hl hh' hm
      obtain ⟨h1, rfl⟩ := map_pair h
      exact .calm hi (aSlice_ok hi (ev_ok hi ha hv) (evOpt_ok hi ha hl) (evOpt_ok hi ha hh') (evOpt_ok hi ha hm) h1)
    · cases h
  · obtain ⟨h1, rfl⟩ := map_pair h
    obtain ⟨x, hx, h⟩ := Option.bind_eq_some_iff.1 h1
    exact .calm hi (aField_ok (ev_ok hi ha hx) h)
  · split at h
    · rename_i v n hv hn
      obtain ⟨h1, rfl⟩ := map_pair h
      exact .calm hi (aIndex_ok hi (ev_ok hi ha hv) (ev_ok hi ha hn) h1)
    · cases h
  · obtain ⟨h1, rfl⟩ := map_pair h
    obtain ⟨x, hx, h⟩ := Option.bind_eq_some_iff.1 h1
    exact .calm hi (aExtract_ok (ev_ok hi ha hx) h)
  · rename_i b args ts
    obtain ⟨xs, hx, h⟩ := Option.bind_eq_some_iff.1 h
    obtain ⟨x1, x2⟩ := evAll_ok hi ha hx
    simp only [Array.toArray_toList] at x1 x2
    simp only [resolve, Sem.run_bind, Sem.run_pure, Result.andThen_ok, invoke, builtin]
    unfold aBuiltin at h
    split at h
    · rename_i t x hts _
      obtain ⟨h1, rfl⟩ := map_pair h
      rw [arr1 x1]
      refine .calm hi (aLen_ok (t := t) ?_ (x2 0 x rfl) h1)
      rw [← Array.getElem?_toList, hts]
      rfl
    · rename_i t t2 s x hts _
      have htsa : ts = #[t, t2] := by
        rw [← Array.toArray_toList (xs := ts), hts]
      rw [arr2 x1, htsa]
      exact .world (aAppend_ok hi (x2 0 s rfl) (x2 1 x rfl) h)
    · obtain ⟨h1, rfl⟩ := map_pair h
      exact .calm hi (aMin_ok ⟨x1, x2⟩ h1)
    · obtain ⟨h1, rfl⟩ := map_pair h
      exact .calm hi (aMax_ok ⟨x1, x2⟩ h1)
    · cases h
  · cases h
end
end Go.Proofs.YtjljigccgaadaaaDoor.Am
