/-
  This file proves nothing of a law. It says what each operation makes of plain values (aop), and what that is worth: an operation that aop carries out is carried out by the model, with values that correspond. No condition.
-/
import Derived.Test.YtjljigccgaadaaaDoorAm1
import Derived.Laws.Entries
namespace Go.Proofs.YtjljigccgaadaaaDoor.Am
open Go

/-! ### Constants and operands -/
def AV.ofCell : Value → Option AV
  | .int k n => some (.int k n)
  | .bool b => some (.bool b)
  | .pointer none => some .nilp
  | .nilFunc => some .nilf
  | .slice none 0 0 => some .zs
  | _ => none
def AV.ofCells : List Value → Option (List AV)
  | [] => some []
  | v :: r => match AV.ofCell v, AV.ofCells r with
    | some x, some xs => some (x :: xs)
    | _, _ => none
def AV.ofValue : Value → Option AV
  | .agg cs => (AV.ofCells cs.toList).map .agg
  | .tuple vs => (AV.ofCells vs.toList).map .tup
  | v => AV.ofCell v

/-- A value of one cell, of a known make. -/
def AV.one : AV → Bool
  | .agg _ | .tup _ | .junk => false
  | _ => true
def AV.cells : AV → List AV
  | .agg cs => cs
  | x => [x]

section
variable {w : World} {M : Map}
theorem ofCell_ok {v : Value} {x : AV} (h : AV.ofCell v = some x) : RV w M v x := by
  unfold AV.ofCell at h
  split at h <;> first | (cases h; constructor) | cases h

theorem ofCells_ok : ∀ {l : List Value} {xs : List AV}, AV.ofCells l = some xs → l.length = xs.length ∧ ∀ (j : Nat) (x : AV), xs[j]? = some x → RV w M (l.toArray.getD j undef) x := by
  intro l
  induction l with
  | nil => intro xs h; cases h; exact ⟨rfl, fun j x hj => by simp at hj⟩
  | cons v r ih =>
    intro xs h
    simp only [AV.ofCells] at h
    split at h
    · rename_i x ys hx hys
      cases h
      obtain ⟨h1, h2⟩ := ih hys
      refine ⟨by simp [h1], fun j y hj => ?_⟩
      cases j with
      | zero => simp at hj; subst hj; simpa using ofCell_ok hx
      | succ j => have := h2 j y (by simpa using hj); simpa using this
    · cases h

theorem ofValue_ok {v : Value} {x : AV} (h : AV.ofValue v = some x) : RV w M v x := by
  unfold AV.ofValue at h
  split at h
  · rename_i cs
    cases hc : AV.ofCells cs.toList with
    | none => rw [hc] at h; cases h
    | some xs =>
      rw [hc] at h; cases h
      obtain ⟨h1, h2⟩ := ofCells_ok (w := w) (M := M) hc
      exact .agg cs xs (by simpa using h1) (by simpa using h2)
  · rename_i cs
    cases hc : AV.ofCells cs.toList with
    | none => rw [hc] at h; cases h
    | some xs =>
      rw [hc] at h; cases h
      obtain ⟨h1, h2⟩ := ofCells_ok (w := w) (M := M) hc
      exact .tup cs xs (by simpa using h1) (by simpa using h2)
  · exact ofCell_ok h

theorem RV.oneCell {v : Value} {x : AV} (h : RV w M v x) (h1 : x.one = true) : v.oneCell' = true ∧ v.cells = #[v] := by
  cases h <;> first | exact ⟨rfl, rfl⟩ | (rename_i n rows h; generalize (List.range n).map rows = rs at h; cases h <;> exact ⟨rfl, rfl⟩) | (simp [AV.one] at h1)

theorem RV.cells {v : Value} {x : AV} (h : RV w M v x) (h1 : x.cells.all AV.one = true) : RVs w M v.cells x.cells ∧ ∀ u ∈ v.cells.toList, u.oneCell' = true := by
  by_cases hx : x.one = true
  · obtain ⟨h2, h3⟩ := h.oneCell hx
    have hc : x.cells = [x] := by cases x <;> first | rfl | (simp [AV.one] at hx)
    rw [h3, hc]
    refine ⟨⟨rfl, fun j y hj => ?_⟩, by simpa using h2⟩
    cases j with
    | zero => simp at hj; subst hj; simpa using h
    | succ j => simp at hj
  · cases h <;> first | (exact absurd rfl hx) | skip
    case agg vs xs hl h =>
      refine ⟨⟨hl, h⟩, fun u hu => ?_⟩
      simp only [AV.cells, List.all_eq_true] at h1
      obtain ⟨j, hj, rfl⟩ := List.getElem_of_mem hu
      have hj' : j < xs.length := by simpa [Value.cells, hl] using hj
      have := h j xs[j] (List.getElem?_eq_getElem hj')
      have h2 := (this.oneCell (h1 _ (List.getElem_mem hj'))).1
      have hs : j < vs.size := by omega
      simpa [Array.getD, hs, Value.cells] using h2
    case tup vs xs hl h => simp [AV.cells, AV.one] at h1
    case junk => simp [AV.cells, AV.one] at h1

/-! ### A frame's operands -/
variable {G : Nat → Option (List AV)}
def ev (G : Nat → Option (List AV)) (a : List AV) : Operand → Option AV
  | .tmp t => a[t]?
  | .const v => AV.ofValue v
  | .global g => (G g).map (AV.row · 0)
  | .func f => some (.fn f [] [])

theorem ev_ok {σ : Heap} {ac : Act} {a : List AV} (hi : Inv G w M σ) (ha : RVs w M ac.tmps a) {x : Operand} {y : AV} (h : ev G a x = some y) : RV w M (ac.eval x) y := by
  cases x with
  | tmp t => exact ha.2 t y h
  | const v => exact ofValue_ok h
  | global g =>
    cases hg : G g with
    | none => simp [ev, hg] at h
    | some cs => simp only [ev, hg, Option.map_some, Option.some.injEq] at h; subst h; exact hi.glob g cs hg
  | func f => cases h; exact .fn f #[] #[] [] [] rfl rfl (fun j x hj => by simp at hj) (fun j x hj => by simp at hj)

/-! ### What an operation is to show -/
/-- The run yields a value that corresponds to y (or nothing, y being the empty tuple), in a world that corresponds to the heap σ'. -/
def Good (G : Nat → Option (List AV)) (w : World) (M : Map) (σ' : Heap) (y : AV) (r : Result Next) : Prop :=
  ∃ v w' M', (r = .ok (.value v) w' ∨ (r = .ok .skip w' ∧ v = undef)) ∧ RV w' M' v y ∧ Ext w M w' M' ∧ Inv G w' M' σ'

theorem Good.same {σ : Heap} {y : AV} {v : Value} (hi : Inv G w M σ) (h : RV w M v y) : Good G w M σ y (.ok (.value v) w) :=
  ⟨v, w, M, .inl rfl, h, .refl w M, hi⟩

variable {P : Program}

/-! ### Arithmetic -/
def aBin (P : Program) (op : BinOp) (t : TypeId) (x y : AV) : Option AV :=
  match x, y with
  | .int k a, .int k' b =>
    match op with
    | .shl => if b < 0 then none else some (.int k (k.wrap (a * 2 ^ (min b.toNat k.bits))))
    | .shr => if b < 0 then none else some (.int k (a.fdiv (2 ^ (min b.toNat k.bits))))
    | _ => if k ≠ k' then none else
      match op with
      | .add => some (.int k (k.wrap (a + b)))
      | .sub => some (.int k (k.wrap (a - b)))
      | .mul => some (.int k (k.wrap (a * b)))
      | .quo => if b = 0 then none else some (.int k (k.wrap (a.tdiv b)))
      | .rem => if b = 0 then none else some (.int k (a.tmod b))
      | .and => some (.int k (k.wrap ((BitVec.ofInt k.bits a &&& BitVec.ofInt k.bits b).toNat)))
      | .or => some (.int k (k.wrap ((BitVec.ofInt k.bits a ||| BitVec.ofInt k.bits b).toNat)))
      | .xor => some (.int k (k.wrap ((BitVec.ofInt k.bits a ^^^ BitVec.ofInt k.bits b).toNat)))
      | .andNot => some (.int k (k.wrap ((BitVec.ofInt k.bits a &&& ~~~BitVec.ofInt k.bits b).toNat)))
      | .eql => some (.bool (a == b))
      | .neq => some (.bool (a != b))
      | .lss => some (.bool (decide (a < b)))
      | .leq => some (.bool (decide (a ≤ b)))
      | .gtr => some (.bool (decide (a > b)))
      | .geq => some (.bool (decide (a ≥ b)))
      | _ => none
  | .bool a, .bool b =>
    if (P.underlying t matches some .bool) then
      match op with
      | .eql => some (.bool (a == b))
      | .neq => some (.bool (!(a == b)))
      | _ => none
    else none
  | .fn _ _ _, .nilf =>
    if (P.underlying t matches some (.func _ _ _)) then
      match op with
      | .eql => some (.bool false)
      | .neq => some (.bool true)
      | _ => none
    else none
  | .nilf, .nilf =>
    if (P.underlying t matches some (.func _ _ _)) then
      match op with
      | .eql => some (.bool true)
      | .neq => some (.bool false)
      | _ => none
    else none
  | _, _ => none

theorem run_underlying' (t : TypeId) (w : World) : (underlying t).run P w = match P.underlying t with | some d => .ok d w | none => .halt (.stuck "no such type") w := by
  unfold underlying
  simp only [Sem.run_bind, run_program, Result.andThen_ok]
  cases P.underlying t <;> rfl
theorem run_typeInfo' (t : TypeId) (w : World) : (typeInfo t).run P w = match P.info? t with | some i => .ok i w | none => .halt (.stuck "no such type") w := by
  unfold typeInfo
  simp only [Sem.run_bind, run_program, Result.andThen_ok]
  cases P.info? t <;> rfl

theorem equal_bool {t : TypeId} (hd : P.underlying t = some .bool) (a b : Bool) (w : World) : (Op.equal t (.bool a) (.bool b)).run P w = .ok (a == b) w := by
  show (Op.equalIn (9999 + 1) t _ _).run P w = _
  unfold Op.equalIn
  simp [run_underlying', hd]
theorem equal_func_nil {t : TypeId} {ps rs : Array TypeId} {vr : Bool} (hd : P.underlying t = some (.func ps rs vr)) (f : Fn) (x y : Array Value) (w : World) : (Op.equal t (.func f x y) .nilFunc).run P w = .ok false w := by
  show (Op.equalIn (9999 + 1) t _ _).run P w = _
  unfold Op.equalIn
  simp [run_underlying', hd]
theorem equal_nil_nil {t : TypeId} {ps rs : Array TypeId} {vr : Bool} (hd : P.underlying t = some (.func ps rs vr)) (w : World) : (Op.equal t .nilFunc .nilFunc).run P w = .ok true w := by
  show (Op.equalIn (9999 + 1) t _ _).run P w = _
  unfold Op.equalIn
  simp [run_underlying', hd]
theorem matches_bool {o : Option TypeDesc} (hd : (o matches some .bool) = true) : o = some .bool := by
  cases o with
  | none => simp at hd
  | some d => cases d <;> simp at hd ⊢
theorem matches_func {o : Option TypeDesc} (hd : (o matches some (.func _ _ _)) = true) : ∃ ps rs vr, o = some (.func ps rs vr) := by
  cases o with
  | none => simp at hd
  | some d => cases d <;> simp at hd ⊢

theorem aBin_int {op : BinOp} {t : TypeId} {k k' : IntKind} {a b : Int} {z : AV} (h : aBin P op t (.int k a) (.int k' b) = some z) :
    ∃ r, (binOp op t (.int k a) (.int k' b)).run P w = .ok r w ∧ RV w M r z := by
  simp only [aBin] at h
  by_cases hk : k = k'
  · subst hk
    cases op <;> simp only [ne_eq, not_true_eq_false, if_false] at h
    case shl =>
      split at h
      · cases h
      · rename_i hb; cases h
        exact ⟨_, by simp only [binOp, Op.shift, if_neg hb]; rfl, .int k _⟩
    case shr =>
      split at h
      · cases h
      · rename_i hb; cases h
        exact ⟨_, by simp only [binOp, Op.shift, if_neg hb]; rfl, .int k _⟩
    case quo =>
      split at h
      · cases h
      · rename_i hb; cases h
        exact ⟨_, by simp [binOp, Op.intDiv, if_neg hb], .int k _⟩
    case rem =>
      split at h
      · cases h
      · rename_i hb; cases h
        exact ⟨_, by simp [binOp, Op.intDiv, if_neg hb], .int k _⟩
    all_goals
      cases h
      refine ⟨_, by simp only [binOp, ne_eq, not_true_eq_false, if_false]; rfl, ?_⟩
      first | exact .int k _ | exact .bool _
  · cases op <;> simp only [ne_eq, hk, not_false_eq_true, if_true] at h
    case shl =>
      split at h
      · cases h
      · rename_i hb; cases h
        exact ⟨_, by simp only [binOp, Op.shift, if_neg hb]; rfl, .int k _⟩
    case shr =>
      split at h
      · cases h
      · rename_i hb; cases h
        exact ⟨_, by simp only [binOp, Op.shift, if_neg hb]; rfl, .int k _⟩
    all_goals cases h

theorem aBin_ok {op : BinOp} {t : TypeId} {x y : Operand} {u v : Value} {p q z : AV} (hu : RV w M u p) (hv : RV w M v q) (h : aBin P op t p q = some z) :
    ∃ r, (do eqGuard op t x y u v; binOp op t u v).run P w = .ok r w ∧ RV w M r z := by
  cases hu <;> cases hv <;> (try (simp only [aBin] at h; cases h; done))
  case int.int k a k' b =>
    have hg : (eqGuard op t x y (.int k a) (.int k' b)).run P w = .ok () w := by cases op <;> rfl
    simp only [Sem.run_bind, hg, Result.andThen_ok]
    exact aBin_int h
  case bool.bool a b =>
    by_cases hd : (P.underlying t matches some .bool) = true
    · have hd' := matches_bool hd
      have hg : (eqGuard op t x y (.bool a) (.bool b)).run P w = .ok () w := by cases op <;> rfl
      simp only [Sem.run_bind, hg, Result.andThen_ok]
      simp only [aBin, hd'] at h
      cases op <;> simp only [if_true] at h <;> cases h
      · exact ⟨.bool (a == b), by simp only [binOp, Sem.run_bind, equal_bool hd', Result.andThen_ok, Sem.run_pure], .bool _⟩
      · exact ⟨.bool (!(a == b)), by simp only [binOp, Sem.run_bind, equal_bool hd', Result.andThen_ok, Sem.run_pure], .bool _⟩
    · simp only [aBin, if_neg hd] at h
      cases h
  case nilf.nilf =>
    by_cases hd : (P.underlying t matches some (.func _ _ _)) = true
    · obtain ⟨ps, rs, vr, hd'⟩ := matches_func hd
      have hg : (eqGuard op t x y .nilFunc .nilFunc).run P w = .ok () w := by cases op <;> rfl
      simp only [Sem.run_bind, hg, Result.andThen_ok]
      simp only [aBin, hd'] at h
      cases op <;> simp only [if_true] at h <;> cases h
      · exact ⟨.bool true, by simp only [binOp, Sem.run_bind, equal_nil_nil hd', Result.andThen_ok, Sem.run_pure], .bool _⟩
      · exact ⟨.bool false, by simp only [binOp, Sem.run_bind, equal_nil_nil hd', Result.andThen_ok, Sem.run_pure]; rfl, .bool _⟩
    · simp only [aBin, if_neg hd] at h
      cases h
  case fn.nilf f fs cs xs ys hl1 hl2 h1 h2 =>
    by_cases hd : (P.underlying t matches some (.func _ _ _)) = true
    · obtain ⟨ps, rs, vr, hd'⟩ := matches_func hd
      have hg : (eqGuard op t x y (.func (.func f) fs cs) .nilFunc).run P w = .ok () w := by cases op <;> rfl
      simp only [Sem.run_bind, hg, Result.andThen_ok]
      simp only [aBin, hd'] at h
      cases op <;> simp only [if_true] at h <;> cases h
      · exact ⟨.bool false, by simp only [binOp, Sem.run_bind, equal_func_nil hd', Result.andThen_ok, Sem.run_pure], .bool _⟩
      · exact ⟨.bool true, by simp only [binOp, Sem.run_bind, equal_func_nil hd', Result.andThen_ok, Sem.run_pure]; rfl, .bool _⟩
    · simp only [aBin, if_neg hd] at h
      cases h
end
end Go.Proofs.YtjljigccgaadaaaDoor.Am
