/-
  This file proves nothing of a law. It holds a machine that carries code out over plain values, known or not, and the theorem that what it finds is so. No condition.
-/
import Derived.Test.YtjljigccgaadaaaDoorAmR
namespace Go.Proofs.YtjljigccgaadaaaDoor.Am
open Go

/-- Results by what turns out: 'ite': both may be; 'need': only if so; 'fail': nothing is said. -/
inductive Tree (α : Type) where
  | leaf (a : α)
  | ite (b : Bool) (x y : Tree α)
  | need (p : Prop) (x : Tree α)
  | fail

def Tree.bind {α β : Type} : Tree α → (α → Tree β) → Tree β
  | .leaf a, f => f a
  | .ite b x y, f => .ite b (x.bind f) (y.bind f)
  | .need p x, f => .need p (x.bind f)
  | .fail, _ => .fail
open Classical in
noncomputable def Tree.sel {α : Type} : Tree α → Option α
  | .leaf a => some a
  | .ite b x y => bif b then x.sel else y.sel
  | .need p x => if p then x.sel else none
  | .fail => none
theorem Tree.of_need {α : Type} {p : Prop} {x : Tree α} {r : α} (h : (Tree.need p x).sel = some r) : p ∧ x.sel = some r := by
  simp only [Tree.sel] at h
  split at h
  · exact ⟨‹p›, h⟩
  · cases h
theorem Tree.sel_need {α : Type} {p : Prop} {x : Tree α} (h : p) : (Tree.need p x).sel = x.sel := by simp [Tree.sel, h]

theorem Tree.sel_bind {α β : Type} (f : α → Tree β) : ∀ t : Tree α, (t.bind f).sel = t.sel.bind fun a => (f a).sel
  | .leaf a => rfl
  | .ite b x y => by cases b <;> simp [Tree.bind, Tree.sel, sel_bind f x, sel_bind f y]
  | .need p x => by
    by_cases h : p
    · simp [Tree.bind, Tree.sel, sel_bind f x, h]
    · simp [Tree.bind, Tree.sel, h]
  | .fail => rfl
theorem Tree.of_bind {α β : Type} {f : α → Tree β} {t : Tree α} {r : β} (h : (t.bind f).sel = some r) : ∃ a, t.sel = some a ∧ (f a).sel = some r := by
  rw [Tree.sel_bind] at h
  exact Option.bind_eq_some_iff.1 h

/-! ### Operations, their operands looked up in whatever way -/
def evAllR (ρ : Operand → Option AV) : List Operand → Option (List AV)
  | [] => some []
  | x :: r => match ρ x, evAllR ρ r with
    | some y, some ys => some (y :: ys)
    | _, _ => none
def evPartsR (ρ : Operand → Option AV) : List (Nat × Operand) → Option (List (Nat × AV))
  | [] => some []
  | (i, x) :: r => match ρ x, evPartsR ρ r with
    | some y, some ys => some ((i, y) :: ys)
    | _, _ => none
def evOptR (ρ : Operand → Option AV) : Option Operand → Option (Option AV)
  | none => some none
  | some x => (ρ x).map some
def aopR (P : Program) (ρ : Operand → Option AV) (σ : Heap) (o : Oper) : Option (AV × Heap) :=
  match o.op with
  | .move x | .assign x => (ρ x).map (·, σ)
  | .pick c x y =>
    match ρ c with
    | some (.bool b) => (if b then ρ x else ρ y).map (·, σ)
    | _ => none
  | .alloc t => aAlloc P σ t
  | .box _ x => (ρ x).bind (aBox σ)
  | .build t ps => ((evPartsR ρ ps.toList).bind (aBuild P t)).map (·, σ)
  | .buildSlice t n ps => ((evPartsR ρ ps.toList).bind (aLit P t n)).map (·, σ)
  | .load t x => ((ρ x).bind (aLoad P σ t)).map (·, σ)
  | .store t x y =>
    match ρ x, ρ y with
    | some p, some v => (aStore P σ t p v).map ((.tup [], ·))
    | _, _ => none
  | .nilCheck x => ((ρ x).bind aNil).map (·, σ)
  | .binOp op t x y _ =>
    match ρ x, ρ y with
    | some p, some q => (aBin P op t p q).map (·, σ)
    | _, _ => none
  | .unOp op _ x => ((ρ x).bind (aUn op)).map (·, σ)
  | .convert s d x => ((ρ x).bind (aConv P s d)).map (·, σ)
  | .makeFunc (.func f) first caps =>
    match evAllR ρ first.toList, evAllR ρ caps.toList with
    | some xs, some ys => some (.fn f xs ys, σ)
    | _, _ => none
  | .makeSlice t l c =>
    match ρ l, ρ c with
    | some x, some y => aMake P σ t x y
    | _, _ => none
  | .slice t x lo hi mx =>
    match ρ x, evOptR ρ lo, evOptR ρ hi, evOptR ρ mx with
    | some v, some l, some h, some m => (aSlice P σ t v l h m).map (·, σ)
    | _, _, _, _ => none
  | .fieldAddr t x k => ((ρ x).bind (aField P t · k)).map (·, σ)
  | .indexAddr t x i =>
    match ρ x, ρ i with
    | some v, some n => (aIndex P σ t v n).map (·, σ)
    | _, _ => none
  | .extract x k => ((ρ x).bind (aExtract · k)).map (·, σ)
  | .call { callee := .builtin b, args := args, argTypes := ts } => (evAllR ρ args.toList).bind (aBuiltin P σ b ts.toList)
  | _ => none

theorem evAllR_eq (G : Nat → Option (List AV)) (a : List AV) : ∀ l, evAll G a l = evAllR (ev G a) l
  | [] => rfl
  | x :: r => by simp only [evAll, evAllR, evAllR_eq G a r]; rfl
theorem evPartsR_eq (G : Nat → Option (List AV)) (a : List AV) : ∀ l, evParts G a l = evPartsR (ev G a) l
  | [] => rfl
  | (i, x) :: r => by simp only [evParts, evPartsR, evPartsR_eq G a r]; rfl
theorem evOptR_eq (G : Nat → Option (List AV)) (a : List AV) (x : Option Operand) : evOpt G a x = evOptR (ev G a) x := by cases x <;> rfl
theorem aopR_eq (P : Program) (G : Nat → Option (List AV)) (a : List AV) (σ : Heap) (o : Oper) : aop P G a σ o = aopR P (ev G a) σ o := by
  unfold aop aopR
  simp only [evAllR_eq, evPartsR_eq, evOptR_eq]
  rfl

/-! ### Frames as trees -/
/-- The values of a frame, and whether each is to be thought of as unknown. -/
inductive PT where
  | nil
  | node (x : AV) (s : Bool) (l r : PT)
def PT.get : PT → Nat → AV × Bool
  | .nil, _ => (.junk, false)
  | .node x s l r, n => bif Nat.beq n 0 then (x, s) else bif Nat.beq (n % 2) 0 then r.get ((n - 1) / 2) else l.get ((n - 1) / 2)
def PT.setF : Nat → PT → Nat → AV → Bool → PT
  | 0, t, _, _, _ => t
  | f + 1, .nil, n, y, s => bif Nat.beq n 0 then .node y s .nil .nil else bif Nat.beq (n % 2) 0 then .node .junk false .nil (PT.setF f .nil ((n - 1) / 2) y s) else .node .junk false (PT.setF f .nil ((n - 1) / 2) y s) .nil
  | f + 1, .node x z l r, n, y, s => bif Nat.beq n 0 then .node y s l r else bif Nat.beq (n % 2) 0 then .node x z l (PT.setF f r ((n - 1) / 2) y s) else .node x z (PT.setF f l ((n - 1) / 2) y s) r
def PT.set (t : PT) (n : Nat) (y : AV) (s : Bool) : PT := PT.setF (n + 1) t n y s

theorem beq_zero (n : Nat) : Nat.beq n 0 = decide (n = 0) := by cases n <;> rfl
theorem PT.get_nil (m : Nat) : PT.get .nil m = (.junk, false) := by cases m <;> rfl
theorem PT.get_setF : ∀ (f : Nat) (t : PT) (n m : Nat) (y : AV) (s : Bool), n < f → (PT.setF f t n y s).get m = if m = n then (y, s) else t.get m
  | 0, _, _, _, _, _, h => by omega
  | f + 1, .nil, n, m, y, s, h => by
    simp only [PT.setF, beq_zero]
    by_cases hn : n = 0
    · subst hn
      simp only [decide_true, cond_true, PT.get, beq_zero]
      by_cases hm : m = 0
      · subst hm; rfl
      · simp only [hm, decide_false, cond_false, if_false, Bool.cond_self]
    · simp only [hn, decide_false, cond_false]
      by_cases h2 : n % 2 = 0
      · simp only [h2, decide_true, cond_true, PT.get, beq_zero]
        by_cases hm : m = 0
        · subst hm; simp [Ne.symm hn]
        · simp only [hm, decide_false, cond_false]
          by_cases hm2 : m % 2 = 0
          · simp only [hm2, decide_true, cond_true]
            rw [PT.get_setF f _ _ _ _ _ (by omega)]
            have : ((m - 1) / 2 = (n - 1) / 2) ↔ m = n := by omega
            simp only [this]
            simp [PT.get_nil]
          · simp only [hm2, decide_false, cond_false]
            rw [if_neg (by omega)]
      · simp only [h2, decide_false, cond_false, PT.get, beq_zero]
        by_cases hm : m = 0
        · subst hm; simp [Ne.symm hn]
        · simp only [hm, decide_false, cond_false]
          by_cases hm2 : m % 2 = 0
          · simp only [hm2, decide_true, cond_true]
            rw [if_neg (by omega)]
          · simp only [hm2, decide_false, cond_false]
            rw [PT.get_setF f _ _ _ _ _ (by omega)]
            have : ((m - 1) / 2 = (n - 1) / 2) ↔ m = n := by omega
            simp only [this]
            simp [PT.get_nil]
  | f + 1, .node x z l r, n, m, y, s, h => by
    simp only [PT.setF, beq_zero]
    by_cases hn : n = 0
    · subst hn
      simp only [decide_true, cond_true, PT.get, beq_zero]
      by_cases hm : m = 0
      · subst hm; rfl
      · simp only [hm, decide_false, cond_false, if_false]
    · simp only [hn, decide_false, cond_false]
      by_cases h2 : n % 2 = 0
      · simp only [h2, decide_true, cond_true, PT.get, beq_zero]
        by_cases hm : m = 0
        · subst hm; simp [Ne.symm hn]
        · simp only [hm, decide_false, cond_false]
          by_cases hm2 : m % 2 = 0
          · simp only [hm2, decide_true, cond_true]
            rw [PT.get_setF f _ _ _ _ _ (by omega)]
            have : ((m - 1) / 2 = (n - 1) / 2) ↔ m = n := by omega
            simp only [this]
          · simp only [hm2, decide_false, cond_false]
            rw [if_neg (by omega)]
      · simp only [h2, decide_false, cond_false, PT.get, beq_zero]
        by_cases hm : m = 0
        · subst hm; simp [Ne.symm hn]
        · simp only [hm, decide_false, cond_false]
          by_cases hm2 : m % 2 = 0
          · simp only [hm2, decide_true, cond_true]
            rw [if_neg (by omega)]
          · simp only [hm2, decide_false, cond_false]
            rw [PT.get_setF f _ _ _ _ _ (by omega)]
            have : ((m - 1) / 2 = (n - 1) / 2) ↔ m = n := by omega
            simp only [this]
theorem PT.get_set (t : PT) (n m : Nat) (y : AV) (s : Bool) : (t.set n y s).get m = if m = n then (y, s) else t.get m := PT.get_setF _ t n m y s (Nat.lt_succ_self n)

/-- A frame, how many temporaries it has, the heap. -/
structure St where
  t : PT
  n : Nat
  h : Heap
def St.a (st : St) : List AV := (List.range st.n).map fun i => (st.t.get i).1
def St.sym (st : St) (i : Nat) : Bool := (st.t.get i).2
def St.at (st : St) (i : Nat) : Option AV := bif Nat.blt i st.n then some (st.t.get i).1 else none
theorem St.at_eq (st : St) (i : Nat) : st.a[i]? = st.at i := by
  unfold St.a St.at
  simp only [List.getElem?_map]
  by_cases h : i < st.n
  · have h2 : Nat.blt i st.n = true := by simpa using h
    simp [h, h2]
  · have h2 : Nat.blt i st.n = false := by rw [← Bool.not_eq_true]; simpa using h
    simp [h, h2]

def St.put (st : St) (dst : Option Tmp) (y : AV) (s : Bool) (h : Heap) : St :=
  match dst with
  | some d => { t := st.t.set d y s, n := st.n, h := h }
  | none => { t := st.t, n := st.n, h := h }
theorem St.put_a (st : St) (dst : Option Tmp) (y : AV) (s : Bool) (h : Heap) (m : List Nat) : AAct.put { tmps := st.a, marks := m } dst y = { tmps := (st.put dst y s h).a, marks := m } := by
  cases dst with
  | none => rfl
  | some d =>
    simp only [AAct.put, St.put, St.a]
    congr 1
    apply List.ext_getElem?
    intro i
    simp only [List.getElem?_set, List.length_map, List.length_range, List.getElem?_map, PT.get_set]
    by_cases h1 : d = i
    · subst h1
      by_cases h2 : d < st.n
      · simp [h2]
      · simp [h2]
    · have h3 : ¬ i = d := fun e => h1 e.symm
      by_cases h2 : i < st.n
      · simp [h1, h2, h3]
      · simp [h1, h2]
theorem St.put_h (st : St) (dst : Option Tmp) (y : AV) (s : Bool) (h : Heap) : (st.put dst y s h).h = h := by cases dst <;> rfl
theorem St.put_n (st : St) (dst : Option Tmp) (y : AV) (s : Bool) (h : Heap) : (st.put dst y s h).n = st.n := by cases dst <;> rfl

/-- What is known from elsewhere. -/
structure Env where
  closed : Bool := false
  boxRow : Bool := true
  wild : Bool := false
  cl : FuncId → List AV → Option (Tree AV) := fun _ _ => none
  clh : FuncId → List AV → Heap → Option (Tree (AV × Heap)) := fun _ _ _ => none
  cy : Nat → List AV → Heap → Option (Tree (AV × Heap)) := fun _ _ _ => none
  hint : Heap → Oper → (Operand → Option AV) → Option (AV × Bool × Heap × Prop) := fun _ _ _ => none
/-- What is known, as far as it leaves the heap alone. -/
def Env.still (E : Env) : Env := { E with clh := fun _ _ _ => none, cy := fun _ _ _ => none }

def symOf (st : St) : Operand → Bool
  | .tmp t => st.sym t
  | _ => false
/-- An operand's value. -/
def St.ev (G : Nat → Option (List AV)) (st : St) : Operand → Option AV
  | .tmp t => st.at t
  | .const v => AV.ofValue v
  | .global g => (G g).map (AV.row · 0)
  | .func f => some (.fn f [] [])
theorem St.ev_eq (G : Nat → Option (List AV)) (st : St) : Am.ev G st.a = st.ev G := by
  funext x
  cases x with
  | tmp t => exact st.at_eq t
  | const v => rfl
  | global g => rfl
  | func f => rfl
/-- The same, of some temporaries alone. -/
def St.evM (G : Nat → Option (List AV)) (st : St) (L : List Tmp) : Operand → Option AV
  | .tmp t => match st.at t with
    | some x => some (bif L.contains t then x else .junk)
    | none => none
  | .const v => AV.ofValue v
  | .global g => (G g).map (AV.row · 0)
  | .func f => some (.fn f [] [])
theorem masked_get (L : List Tmp) (a : List AV) (t : Nat) : (masked L a)[t]? = (a[t]?).map fun x => if L.contains t then x else .junk := by
  simp [masked, List.getElem?_mapIdx]
theorem St.evM_eq (G : Nat → Option (List AV)) (st : St) (L : List Tmp) : Am.ev G (masked L st.a) = st.evM G L := by
  funext x
  cases x with
  | tmp t =>
    simp only [Am.ev, St.evM, masked_get, St.at_eq]
    cases st.at t with
    | none => rfl
    | some y => cases L.contains t <;> rfl
  | const v => rfl
  | global g => rfl
  | func f => rfl

def tagOf (E : Env) (ρ : Operand → Option AV) (st : St) (o : Oper) : Bool :=
  match E.closed with
  | true => false
  | false =>
    match o.op with
    | .load _ x => (match ρ x with
      | some (.ref _ _ _) => true
      | _ => symOf st x)
    | .call { callee := .builtin .len, args := args, .. } => (match evAllR ρ args.toList with
      | some [.sl _ _] => false
      | some [.zs] => false
      | _ => args.toList.any (symOf st))
    | _ => o.op.operands.toList.any (symOf st)

section
variable (P : Program) (G : Nat → Option (List AV)) (E : Env)
abbrev CallT := FuncId → List AV → List Bool → Heap → Tree (AV × Bool × Heap)

def xplain (ρ : Operand → Option AV) (st : St) (o : Oper) : Tree (AV × Bool × Heap) :=
  match aopR P ρ st.h o with
  | some (y, h) => .leaf (y, tagOf E ρ st o, h)
  | none => .fail

def xindex (ρ : Operand → Option AV) (st : St) (o : Oper) (t : TypeId) (p q : Option AV) : Tree (AV × Bool × Heap) :=
  match tagOf E ρ st o with
  | false => xplain P E ρ st o
  | true =>
    match p, q with
    | some (.fl size n rows), some (.int _ k) =>
      match P.underlying t with
      | some (.slice e) =>
        match P.info? e with
        | some ti => if ti.size = size then .need (0 ≤ k ∧ k < n) (.leaf (.row (rows k.toNat) 0, true, st.h)) else .fail
        | none => .fail
      | _ => .fail
    | some (.ms size r g off len _), some (.int _ k) =>
      match P.underlying t with
      | some (.slice e) =>
        match P.info? e with
        | some ti => if ti.size = size then .need (0 ≤ k ∧ k < len ∧ (objAt st.h r g).isSome = true) (.leaf (.ref r g (off + k.toNat * size), true, st.h)) else .fail
        | none => .fail
      | _ => .fail
    | _, _ => xplain P E ρ st o

def xcall (call : CallT) (ρ : Operand → Option AV) (st : St) (c : Call) (f : Operand) : Tree (AV × Bool × Heap) :=
  match ρ f, evAllR ρ c.args.toList with
  | some (.fn g first caps), some xs =>
    match E.cl g (first ++ xs ++ caps) with
    | some t => t.bind fun v => .leaf (v, !E.closed, st.h)
    | none =>
      match E.clh g (first ++ xs ++ caps) st.h with
      | some t => t.bind fun v => .leaf (v.1, !E.closed, v.2)
      | none => call g (first ++ xs ++ caps) (List.replicate first.length (symOf st f) ++ c.args.toList.map (symOf st) ++ List.replicate caps.length (symOf st f)) st.h
  | some (.yf l), some xs =>
    match E.cy l xs st.h with
    | some t => t.bind fun v => .leaf (v.1, !E.closed, v.2)
    | none => .fail
  | _, _ => .fail

def xappend (ρ : Operand → Option AV) (st : St) (o : Oper) (c : Call) : Tree (AV × Bool × Heap) :=
  match tagOf E ρ st o with
  | false => xplain P E ρ st o
  | true =>
    match evAllR ρ c.args.toList, c.argTypes.toList with
    | some [s, x], [t, t2] => .need ((aAppend P st.h t t2 s x).isSome = true) (.leaf (((aAppend P st.h t t2 s x).getD (.junk, [])).1, true, ((aAppend P st.h t t2 s x).getD (.junk, [])).2))
    | _, _ => xplain P E ρ st o

def intOf : AV → Int
  | .int _ n => n
  | _ => 0
/-- A load of an integer from an own object at an unknown place. -/
def xload (ρ : Operand → Option AV) (st : St) (o : Oper) (t : TypeId) (p : Option AV) : Tree (AV × Bool × Heap) :=
  match E.wild with
  | false => xplain P E ρ st o
  | true =>
    match p, P.underlying t with
    | some (.ref r g off), some (.int k) => .need (∃ n, aLoad P st.h t (.ref r g off) = some (.int k n)) (.leaf (.int k (intOf ((aLoad P st.h t (.ref r g off)).getD .junk)), true, st.h))
    | _, _ => xplain P E ρ st o
/-- A store into an own object at an unknown place. -/
def xstore (ρ : Operand → Option AV) (st : St) (o : Oper) (t : TypeId) (p q : Option AV) : Tree (AV × Bool × Heap) :=
  match E.wild with
  | false => xplain P E ρ st o
  | true =>
    match p, q with
    | some x, some y => .need ((aStore P st.h t x y).isSome = true) (.leaf (.tup [], false, (aStore P st.h t x y).getD []))
    | _, _ => xplain P E ρ st o

/-- An operation whose outcome is told beforehand. -/
def xhint (ρ : Operand → Option AV) (st : St) (o : Oper) (k : Tree (AV × Bool × Heap)) : Tree (AV × Bool × Heap) :=
  match E.hint st.h o ρ with
  | some (y, s, h, p) => .need p (.leaf (y, s, h))
  | none => k
def xstep (call : CallT) (ρ : Operand → Option AV) (st : St) (o : Oper) : Tree (AV × Bool × Heap) :=
  match o.op with
  | .box _ x =>
    match E.boxRow with
    | true =>
      match ρ x with
      | some v =>
        match v.cells.all AV.one with
        | true => .leaf (.row v.cells 0, symOf st x, st.h)
        | false => .fail
      | none => .fail
    | false => xhint E ρ st o (xplain P E ρ st o)
  | _ => xhint E ρ st o (match o.op with
  | .call c =>
    match c.callee with
    | .value f => xcall E call ρ st c f
    | .builtin .append => xappend P E ρ st o c
    | _ => xplain P E ρ st o
  | .indexAddr t x i => xindex P E ρ st o t (ρ x) (ρ i)
  | .load t x => xload P E ρ st o t (ρ x)
  | .store t x y => xstore P E ρ st o t (ρ x) (ρ y)
  | _ => xplain P E ρ st o)

def xguard (ops : Array Oper) (st : St) (o : Oper) (k : Bool → St → Tree St) : Tree St :=
  match o.guard with
  | none => k true st
  | some (j, want) =>
    match (ops[j]?).bind (·.dst) with
    | none => .fail
    | some d =>
      match st.at d with
      | some (.bool b) =>
        match st.sym d with
        | true => .ite b (k want (st.put (some d) (.bool true) false st.h)) (k (!want) (st.put (some d) (.bool false) false st.h))
        | false => match b with
          | true => k want st
          | false => k (!want) st
      | some (.tup _) => k false st
      | _ => .fail

def xOps (call : CallT) (ops : Array Oper) : List Oper → St → Tree St
  | [], st => .leaf st
  | o :: r, st => xguard ops st o fun b st' =>
    match b with
    | true => (xstep P E call (st'.ev G) st' o).bind fun q => xOps call ops r (st'.put o.dst q.1 q.2.1 q.2.2)
    | false => xOps call ops r (st'.put o.dst (.tup []) false st'.h)

/-- Operations that leave the heap alone. -/
def quiet (o : Oper) : Bool :=
  match o.op with
  | .move _ | .assign _ | .pick _ _ _ | .build _ _ | .buildSlice _ _ _ | .load _ _ | .nilCheck _ | .binOp _ _ _ _ _ | .unOp _ _ _ | .convert _ _ _ | .makeFunc (.func _) _ _ | .slice _ _ _ _ _ | .fieldAddr _ _ _ | .indexAddr _ _ _ | .extract _ _ => true
  | .call { callee := .builtin .len, .. } | .call { callee := .builtin .min, .. } | .call { callee := .builtin .max, .. } => true
  | .call { callee := .value _, .. } => true
  | _ => false
def quietE (o : Oper) : Bool :=
  match o.op with
  | .box _ _ => E.boxRow
  | _ => quiet o

/-- The walk of a still piece. -/
def xStill (ops : Array Oper) : List Oper → St → Tree St
  | [], st => .leaf st
  | o :: r, st => xguard ops st o fun b st' =>
    match b with
    | true =>
      match quietE E o with
      | true => (xstep P E.still (fun _ _ _ _ => .fail) (st'.evM G (o.looksAt ops)) st' o).bind fun q => xStill ops r (st'.put o.dst q.1 q.2.1 st'.h)
      | false => .fail
    | false => xStill ops r (st'.put o.dst (.tup []) false st'.h)

/-- The pieces of a statement that leaves its order open: where each ends. -/
def xStages (call : CallT) (ops : Array Oper) : List Nat → Nat → St → Tree St
  | [], b, st => match Nat.ble ops.size b with
    | true => .leaf st
    | false => .fail
  | c :: r, b, st =>
    match okFence ops.toList c with
    | true =>
      match Nat.beq c (b + 1) with
      | true =>
        match ops[b]? with
        | some o => (xOps P G E call ops [o] st).bind fun st' => xStages call ops r c st'
        | none => .fail
      | false =>
        match Nat.ble b c && Nat.ble c ops.size && okStill ops.toList b (c - b) with
        | true => (xStill P G E ops ((ops.toList.drop b).take (c - b)) st).bind fun st' => xStages call ops r c st'
        | false => .fail
    | false => .fail
def cutsOf (ops : List Oper) : List Nat := (List.range (ops.length + 1)).filter fun b => !Nat.beq b 0 && okFence ops b
/-- A statement that leaves its order open. -/
def xDraw (call : CallT) (ops : Array Oper) (st : St) : Tree St :=
  match okDraw ops.toList with
  | true => xStages P G E call ops (cutsOf ops.toList) 0 st
  | false => .fail

/-- A loop is known by the first statement of its body. -/
def idOf : Code → Nat
  | .block id _ => id
  | .region id _ _ => id
  | .seq x _ => idOf x
  | _ => 0

def PT.ofArgs : Nat → List AV → List Bool → PT → PT
  | _, [], _, t => t
  | i, x :: r, s, t => PT.ofArgs (i + 1) r s.tail (t.set i x (s.headD false))

/-- A function, entered. -/
def xenter (run : Code → St → Tree (Exit × St)) : CallT := fun f xs tags h =>
  match P.funcs[f]? with
  | some fn =>
    match fn.body with
    | some c => (run c { t := PT.ofArgs 0 xs tags .nil, n := xs.length + (fn.ntmps - xs.length), h := h }).bind fun r =>
      match r.1 with
      | .normal | .ret =>
        match aResults P r.2.h r.2.a fn.results.toList with
        | some ys => .leaf (asOne ys, (match E.closed with | true => false | false => fn.results.toList.any fun q => match q with | .tmp t => r.2.sym t | .cell _ _ => true), r.2.h)
        | none => .fail
      | _ => .fail
    | none => .fail
  | none => .fail

def xLoop (run : St → Tree (Exit × St)) : Nat → St → Tree (Exit × St)
  | 0, _ => .fail
  | k + 1, st => (run st).bind fun r =>
    match r.1 with
    | .normal => xLoop run k r.2
    | e => .leaf (e, r.2)

/-- The frame, some temporaries alone. -/
def St.only (keep : List Nat) (st : St) : St := { t := keep.foldl (fun t k => t.set k (st.t.get k).1 (st.t.get k).2) .nil, n := st.n, h := st.h }
/-- What a state says, whatever is thought of as unknown. -/
def St.vals (st : St) : List AV × Nat × Heap := (st.a, st.n, st.h)
/-- What is known of loops: what they keep of the frame, the state at their head, how they end. -/
abbrev Loops := Nat → Option (List Nat × St × Tree (Exit × St))
/-- Code. n: how deep and how often. lp: what is known of the loops. -/
def xCode : Nat → Loops → Code → St → Tree (Exit × St)
  | 0 => fun _ _ _ => .fail
  | n + 1 => fun lp c st =>
    match c with
    | .skip => .leaf (.normal, st)
    | .ret => .leaf (.ret, st)
    | .exit id => .leaf (.exit id, st)
    | .region _ ops draws =>
      (match draws with
      | true => xDraw P G E (xenter P E (xCode n fun _ => none)) ops st
      | false => xOps P G E (xenter P E (xCode n fun _ => none)) ops ops.toList st).bind fun st' => .leaf (.normal, st')
    | .seq x y => (xCode n lp x st).bind fun r =>
      match r.1 with
      | .normal => xCode n lp y r.2
      | e => .leaf (e, r.2)
    | .cond q x y =>
      match st.ev G q with
      | some (.bool b) =>
        match symOf st q with
        | true => .ite b (xCode n lp x st) (xCode n lp y st)
        | false => match b with
          | true => xCode n lp x st
          | false => xCode n lp y st
      | _ => .fail
    | .block id x => (xCode n lp x st).bind fun r => .leaf (outOf id r.1, r.2)
    | .loop x =>
      match lp (idOf x) with
      | some (keep, s0, t) => .need ((st.only keep).vals = s0.vals) t
      | none => xLoop (xCode n lp x) n st
    | _ => .fail
def xCall (n : Nat) : CallT := xenter P E (xCode P G E n fun _ => none)
end
end Go.Proofs.YtjljigccgaadaaaDoor.Am
