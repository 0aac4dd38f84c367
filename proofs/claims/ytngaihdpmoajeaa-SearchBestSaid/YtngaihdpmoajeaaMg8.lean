/-
  This file proves nothing of a law. It holds lemmas, of 3 texts in their order. No condition of its own.
-/
import Derived.Test.YtngaihdpmoajeaaMg7
namespace Go.Proofs.Ytngaihdpmoajeaa.Am
open Go
set_option maxRecDepth 100000

/-! ### Hints -/
/-- The length of what some temporaries hold. -/
def hLenT (t : TypeId) (is : List Nat) (v : AV) (m : Int) : Heap → Oper → (Operand → Option AV) → Option (AV × Bool × Heap × Prop) := fun h o ρ => match o.op with
  | .call { callee := .builtin .len, args := args, argTypes := ts } => match args.toList with
    | [.tmp j] => bif is.contains j then some (I m, true, h, ρ (.tmp j) = some v ∧ ts = #[t] ∧ aLen Try.prog t v = some (I m)) else none
    | _ => none
  | _ => none
theorem hLenT_ok (t : TypeId) (is : List Nat) (v : AV) (m : Int) : HintA Try.prog (hLenT t is v m) := by
  intro h o ρ y s h' p hh hp
  unfold hLenT at hh
  split at hh <;> first | (cases hh; done) | skip
  rename_i args ts ho
  split at hh <;> first | (cases hh; done) | skip
  rename_i j hj
  cases hc : is.contains j with
  | false => rw [hc] at hh; cases hh
  | true =>
    rw [hc, cond_true] at hh
    cases hh
    obtain ⟨p1, rfl, p3⟩ := hp
    unfold aopR
    simp only [ho, hj, evAllR, p1, Option.bind_some, aBuiltin, p3, Option.map_some]
/-- Integers at unknown places of the object r. -/
def hArrG (ts t : TypeId) (k : IntKind) (r : Nat) : Heap → Oper → (Operand → Option AV) → Option (AV × Bool × Heap × Prop) := fun h o ρ => match o.op with
  | .indexAddr t' x i => bif Nat.beq t' ts then (match ρ x with
    | some (.ms 1 r' g 0 n _) => bif Nat.beq r' r then (match h[r]?, ρ i with
      | some (.cells g' _), some (.int _ j) => some (.ref r g (j.toNat), true, h, 0 ≤ j ∧ j < n ∧ g' = g)
      | _, _ => none) else none
    | _ => none) else none
  | .load t' x => bif Nat.beq t' t then (match ρ x with
    | some (.ref r' g off) => bif Nat.beq r' r then (match h[r]? with
      | some (.cells g' c) => some (.int k (intOf (c.getD off .junk)), true, h, g' = g ∧ ∃ n, c[off]? = some (.int k n))
      | _ => none) else none
    | _ => none) else none
  | .store t' x y => bif Nat.beq t' t then (match ρ x with
    | some (.ref r' g off) => bif Nat.beq r' r then (match h[r]?, ρ y with
      | some (.cells g' c), some (.int k' v) => some (.tup [], false, h.set r (.cells g (setL c off [.int k' v])), g' = g ∧ off < c.length)
      | _, _ => none) else none
    | _ => none) else none
  | _ => none
theorem hArrG_ok {ts t e : TypeId} {k : IntKind} (r : Nat) (hs : Try.prog.underlying ts = some (.slice e)) (he : One e) (hu : Try.prog.underlying t = some (.int k)) (h1 : One t) : HintA Try.prog (hArrG ts t k r) := by
  intro h o ρ y s h' p hh hp
  unfold hArrG at hh
  split at hh
  · rename_i t' x i ho
    cases ht : Nat.beq t' ts with
    | false => rw [ht] at hh; cases hh
    | true =>
    rw [ht, cond_true] at hh
    obtain rfl := Nat.eq_of_beq_eq_true ht
    split at hh <;> first | (cases hh; done) | skip
    rename_i r' g n m hx
    cases hr : Nat.beq r' r with
    | false => rw [hr] at hh; cases hh
    | true =>
    rw [hr, cond_true] at hh
    obtain rfl := Nat.eq_of_beq_eq_true hr
    split at hh <;> first | (cases hh; done) | skip
    rename_i g' c kk j hc hi
    cases hh
    obtain ⟨p1, p2, rfl⟩ := hp
    obtain ⟨ie, e1, e2⟩ := he
    have hobj : objAt h r' g' = some c := by unfold objAt; rw [hc]; simp
    unfold aopR
    simp only [ho, hx, hi, aIndex, hs, e1, e2, hobj]
    simp [p1, p2]
  · rename_i t' x ho
    cases ht : Nat.beq t' t with
    | false => rw [ht] at hh; cases hh
    | true =>
    rw [ht, cond_true] at hh
    obtain rfl := Nat.eq_of_beq_eq_true ht
    split at hh <;> first | (cases hh; done) | skip
    rename_i r' g off hx
    cases hr : Nat.beq r' r with
    | false => rw [hr] at hh; cases hh
    | true =>
    rw [hr, cond_true] at hh
    obtain rfl := Nat.eq_of_beq_eq_true hr
    split at hh <;> first | (cases hh; done) | skip
    rename_i g' c hc
    cases hh
    obtain ⟨rfl, n, hn⟩ := hp
    have hobj : objAt h r' g' = some c := by unfold objAt; rw [hc]; simp
    unfold aopR
    simp only [ho, hx, Option.bind_some, aLoad, hobj]
    unfold Am.cut
    rw [hu]
    simp only [aggD, Bool.false_eq_true, if_false, hn, Option.map_some]
    rw [List.getD_eq_getElem?_getD, hn]
    rfl
  · rename_i t' x y' ho
    cases ht : Nat.beq t' t with
    | false => rw [ht] at hh; cases hh
    | true =>
    rw [ht, cond_true] at hh
    obtain rfl := Nat.eq_of_beq_eq_true ht
    split at hh <;> first | (cases hh; done) | skip
    rename_i r' g off hx
    cases hr : Nat.beq r' r with
    | false => rw [hr] at hh; cases hh
    | true =>
    rw [hr, cond_true] at hh
    obtain rfl := Nat.eq_of_beq_eq_true hr
    split at hh <;> first | (cases hh; done) | skip
    rename_i g' c k' v hc hy
    cases hh
    obtain ⟨rfl, hlt⟩ := hp
    have hobj : objAt h r' g' = some c := by unfold objAt; rw [hc]; simp
    obtain ⟨i, e1, e2⟩ := h1
    unfold aopR
    simp only [ho, hx, hy, aStore, e1, hobj]
    have ec : (AV.int k' v).cells = [.int k' v] := rfl
    rw [ec, if_pos ⟨by rw [e2]; rfl, by rw [e2]; omega, rfl⟩]
    rfl
  · cases hh
/-- No objects are made. -/
def hNoAl : Heap → Oper → (Operand → Option AV) → Option (AV × Bool × Heap × Prop) := fun _ o _ => match o.op with
  | .alloc _ => some (.junk, true, [], False)
  | _ => none
theorem hNoAl_ok : HintA Try.prog hNoAl := by
  intro h o ρ y s h' p hh hp
  unfold hNoAl at hh
  split at hh
  · cases hh; exact hp.elim
  · cases hh
/-- A value of one cell, stored into the object r. -/
def hSto (t : TypeId) (r : Nat) : Heap → Oper → (Operand → Option AV) → Option (AV × Bool × Heap × Prop) := fun h o ρ => match o.op with
  | .store t' x y => bif Nat.beq t' t then (match ρ x with
    | some (.ref r' g off) => bif Nat.beq r' r then (match objAt h r g, ρ y with
      | some c, some v => some (.tup [], false, h.set r (.cells g (setL c off [v])), v.one = true ∧ off < c.length)
      | _, _ => none) else none
    | _ => none) else none
  | _ => none
theorem cells_one {x : AV} (h : x.one = true) : x.cells = [x] := by cases x <;> first | rfl | cases h
theorem hSto_ok {t : TypeId} (r : Nat) (h1 : One t) : HintA Try.prog (hSto t r) := by
  intro h o ρ y s h' p hh hp
  unfold hSto at hh
  split at hh <;> first | (cases hh; done) | skip
  rename_i t' x y' ho
  cases ht : Nat.beq t' t with
  | false => rw [ht] at hh; cases hh
  | true =>
  rw [ht, cond_true] at hh
  obtain rfl := Nat.eq_of_beq_eq_true ht
  split at hh <;> first | (cases hh; done) | skip
  rename_i r' g off hx
  cases hr : Nat.beq r' r with
  | false => rw [hr] at hh; cases hh
  | true =>
  rw [hr, cond_true] at hh
  obtain rfl := Nat.eq_of_beq_eq_true hr
  split at hh <;> first | (cases hh; done) | skip
  rename_i c v hc hy
  cases hh
  obtain ⟨i, e1, e2⟩ := h1
  unfold aopR
  simp only [ho, hx, hy, aStore, e1, hc]
  rw [cells_one hp.1, if_pos ⟨by rw [e2]; rfl, by rw [e2]; omega, by simp [hp.1]⟩]
  rfl

/-! ### The values so far: a list a, and behind it what was there before -/
def aV (a t : List Int) : AV := match a ++ t with
  | [] => .zs
  | _ :: l => .ms 1 2 l.length 0 a.length (l.length + 1)
def aO (a t : List Int) : AObj := sO (rowI (a ++ t))
theorem aV_nil (a : List Int) : aV a [] = sV 1 2 (rowI a) := by
  unfold aV
  rw [List.append_nil]
  cases a with
  | nil => rfl
  | cons x l => simp [rowI, sV]
theorem rowI_flatten : ∀ L : List Int, (rowI L).flatten = L.map I
  | [] => rfl
  | x :: l => by
    have := rowI_flatten l
    simp only [rowI, List.map_cons, List.flatten_cons, List.singleton_append] at this ⊢
    rw [this]
theorem sO_rowI {L : List Int} (h : L ≠ []) : sO (rowI L) = .cells (L.length - 1) (L.map I) := by
  cases L with
  | nil => exact absurd rfl h
  | cons x l =>
    have e : rowI (x :: l) = [I x] :: rowI l := rfl
    have e2 : sO ([I x] :: rowI l) = .cells (rowI l).length ([I x] :: rowI l).flatten := rfl
    rw [e, e2, ← e, rowI_flatten]
    simp [rowI]
theorem aV_ms {a t : List Int} (h : a ++ t ≠ []) : aV a t = .ms 1 2 ((a ++ t).length - 1) 0 a.length (a ++ t).length := by
  unfold aV
  cases he : a ++ t with
  | nil => exact absurd he h
  | cons y l => simp
theorem setL_mid {p q : List AV} {y x : AV} {n : Nat} (hn : n = p.length) : setL (p ++ y :: q) n [x] = p ++ x :: q := by
  subst hn
  unfold setL
  simp
/-- One value more. -/
def GrowA (v v' : AV) (o o' : AObj) (x : Int) : Prop := ∃ a t, v = aV a t ∧ o = aO a t ∧ v' = aV (a ++ [x]) t.tail ∧ o' = aO (a ++ [x]) t.tail ∧ (a ++ t).length < 16777216
def hApA (x : Int) (v v' : AV) (o o' : AObj) (g : Prop) : Heap → Oper → (Operand → Option AV) → Option (AV × Bool × Heap × Prop) := fun h oo ρ => match oo.op with
  | .call { callee := .builtin .append, args := args, argTypes := ts } => bif ts == #[22, 22] then some (v', true, h.set 2 o', evAllR ρ args.toList = some [v, .sl 1 [[I x]]] ∧ h[2]? = some o ∧ g) else none
  | _ => none
theorem hApA_ok {x : Int} {v v' : AV} {o o' : AObj} {g : Prop} (hg : g → GrowA v v' o o' x) : HintOk Try.prog G0 (hApA x v v' o o' g) := by
  refine ⟨fun h oo a m y tg h' p hh hp => ?_, fun h oo ρ y tg h' p hh hp hq => ?_⟩
  · unfold hApA at hh
    split at hh <;> first | (cases hh; done) | skip
    rename_i args ts ho
    cases hts : ts == #[22, 22] with
    | false => rw [hts] at hh; cases hh
    | true =>
    rw [hts, cond_true] at hh
    cases hh
    obtain ⟨p1, p2, p3⟩ := hp
    obtain ⟨a', t, rfl, rfl, rfl, rfl, p4⟩ := hg p3
    cases t with
    | nil =>
      rw [aV_nil] at p1
      have e1 : sV 1 2 (rowI a' ++ [[I x]]) = aV (a' ++ [x]) [] := by rw [rowI_app, aV_nil]
      have e2 : sO (rowI a' ++ [[I x]]) = aO (a' ++ [x]) [] := by unfold aO; rw [rowI_app, List.append_nil]
      have e3 : aO a' [] = sO (rowI a') := by unfold aO; rw [List.append_nil]
      rw [e3] at p2
      have key := (hApS_ok els22 2 (rowI a') [I x]).step h oo a m (sV 1 2 (rowI a' ++ [[I x]])) true (h.set 2 (sO (rowI a' ++ [[I x]]))) (evAllR (ev G0 a) args.toList = some [sV 1 2 (rowI a'), .sl 1 [[I x]]] ∧ h[2]? = some (sO (rowI a')) ∧ (∀ x ∈ rowI a', x.length = 1) ∧ ([I x] : List AV).length = 1 ∧ (∀ y ∈ ([I x] : List AV), y.one = true) ∧ (rowI a').length < 16777216) ?_ ⟨p1, p2, rowI_len a', rfl, fun y hy => by rw [List.mem_singleton.1 hy]; rfl, by simp [rowI]; simp at p4; omega⟩
      · rw [e1, e2] at key
        exact key
      · unfold hApS
        rw [ho]
        simp only [hts, cond_true]
    | cons z t' =>
      obtain ⟨ie, zx, h1, h2, h3, h4, h5, h6⟩ := els22.i
      have hts' : ts = #[22, 22] := eq_of_beq hts
      subst hts'
      have hn : notInt Try.prog 22 = true := by unfold notInt; rw [els22.u]
      refine AStep.op ?_
      rw [aopR_eq]
      unfold aopR
      simp only [ho, p1, Option.bind_some, aBuiltin]
      have hne : a' ++ z :: t' ≠ [] := by simp
      have hne2 : (a' ++ [x]) ++ t' ≠ [] := by simp
      have hobj : objAt h 2 ((a' ++ z :: t').length - 1) = some ((a' ++ z :: t').map I) := by
        unfold objAt
        rw [p2]
        unfold aO
        rw [sO_rowI hne]
        simp
      have hlen : (a' ++ z :: t').length = a'.length + t'.length + 1 := by simp; omega
      have hlen2 : ((a' ++ [x]) ++ t').length = a'.length + t'.length + 1 := by simp; omega
      have hconts : conts h ie.size (.sl 1 [[I x]]) = some (1, [I x]) := by simp [conts, h3]
      have hone : ([I x] : List AV).all AV.one = true := rfl
      rw [List.tail_cons, aV_ms hne, aV_ms hne2]
      unfold aAppend
      rw [els22.u]
      simp only [h1, h2, hconts]
      simp only [hn, hone, h4, h5, h3, h6, and_self, if_true, hobj]
      have c1 : a'.length ≤ (a' ++ z :: t').length := by omega
      have c2 : 0 + a'.length * 1 ≤ ((a' ++ z :: t').map I).length := by rw [List.length_map]; omega
      have c3 : a'.length + 1 ≤ (a' ++ z :: t').length := by omega
      have c4 : 0 + (a'.length + 1) * 1 ≤ ((a' ++ z :: t').map I).length := by rw [List.length_map]; omega
      rw [if_pos ⟨trivial, c1, c2⟩, if_neg (by omega), if_pos c3, if_pos c4]
      have e1 : setL ((a' ++ z :: t').map I) (0 + a'.length * 1) [I x] = ((a' ++ [x]) ++ t').map I := by
        rw [List.map_append, List.map_cons, setL_mid (by simp)]
        simp
      have e2 : aO (a' ++ [x]) t' = .cells ((a' ++ z :: t').length - 1) (((a' ++ [x]) ++ t').map I) := by
        unfold aO
        rw [sO_rowI hne2, hlen, hlen2]
      have e3 : (a' ++ [x]).length = a'.length + 1 := by simp
      rw [e1, e2, hlen, hlen2, e3]
  · unfold hApA at hh
    split at hh <;> first | (cases hh; done) | skip
    rename_i args ts ho
    exfalso
    revert hq
    unfold Am.quiet
    rw [ho]
    simp

/-! ### The state -/
def useC (u : Int × List Int) : List AV := [I u.1, flL u.2]
def useAV (l : List (Int × List Int)) : AV := .fl 2 l.length fun i => useC (l.getD i (0, []))
def usesAV (us : List (List (Int × List Int))) : AV := .fl 1 us.length fun i => [useAV (us.getD i [])]
/-- The state's cells. -/
def sC (p : Pb) (v : AV) (c : Int) (l : AV) (us : List (List (Int × List Int))) (rs : List Int) : List AV := [flL p.V, flLL p.C, flR p.R, v, I c, l, usesAV us, flL rs]
/-- The search's own heap. -/
def sH (p : Pb) (v : AV) (o : AObj) (c : Int) (l : AV) (lo : AObj) (us : List (List (Int × List Int))) (rs : List Int) : Heap := [.cells 0 (sC p v c l us rs), lo, o]
def SR : AV := .ref 0 0 0
theorem rowI_length (L : List Int) : (rowI L).length = L.length := by simp [rowI]
/-- What is left of the rules. -/
def lV (l : List Int) : AV := sV 1 1 (rowI l)
def lO (l : List Int) : AObj := sO (rowI l)
theorem lV_ms {l : List Int} (h : l ≠ []) : lV l = .ms 1 1 (l.length - 1) 0 l.length l.length := by
  cases l with
  | nil => exact absurd rfl h
  | cons x r => simp [lV, rowI, sV]
theorem lO_cells {l : List Int} (h : l ≠ []) : lO l = .cells (l.length - 1) (l.map I) := sO_rowI h
theorem lV_len {l m : List Int} (h : l.length = m.length) : lV l = lV m := by
  cases l with
  | nil =>
    cases m with
    | nil => rfl
    | cons y q => simp at h
  | cons x r =>
    cases m with
    | nil => simp at h
    | cons y q =>
      rw [lV_ms (by simp), lV_ms (by simp), h]
theorem aLen_aV (a t : List Int) : aLen Try.prog 22 (aV a t) = some (I a.length) := by
  unfold aV
  cases h : a ++ t with
  | nil =>
    have : a = [] := (List.append_eq_nil_iff.1 h).1
    subst this
    unfold aLen
    rw [Try.underlying22]
    rfl
  | cons y l => unfold aLen; rw [Try.underlying22]
theorem one22 : One 22 := one_of (by kernel_rfl)
theorem one3 : One 3 := one_of (by kernel_rfl)
theorem arr_ok : HintA Try.prog (hArrG 22 3 .i64 1) := hArrG_ok 1 Try.underlying22 one3 Try.underlying3 one3
/-! ### bound -/
theorem run72 (m : Int) (p : Pb) (v : AV) (o : AObj) (c : Int) (l : AV) (lo : AObj) (us : List (List (Int × List Int))) (rs : List Int) : xCall Try.prog G0 { hint := hLenT 22 [14] v m } 200 72 [SR] [true] (sH p v o c l lo us rs) = .need (((Option.some v) = (Option.some v)) ∧ (((#[(22 : Nat)]) = (#[(22 : TypeId)])) ∧ ((aLen Try.prog (22 : TypeId) v) = (Option.some (I m))))) (.need (((0 : Int) ≤ m) ∧ (m < (↑rs.length : Int))) (.leaf ((I (IntKind.i64.wrap (c + rs.getD m.toNat (0 : Int)))), true, [(AObj.cells (0 : Nat) [(flL (p.V)), (flLL (p.C)), (flR (p.R)), v, (I c), l, (usesAV (us)), (flL (rs))]), lo, o]))) := by kernel_rfl
theorem c72 {p : Pb} {a t : List Int} {c : Int} {l : AV} {lo : AObj} {us : List (List (Int × List Int))} {rs : List Int} (ha : a.length < rs.length) (hc : -4000000000000000000 ≤ c + rs.getD a.length 0 ∧ c + rs.getD a.length 0 ≤ 4000000000000000000) :
    ACall Try.prog G0 72 [SR] (sH p (aV a t) (aO a t) c l lo us rs) (I (c + rs.getD a.length 0)) (sH p (aV a t) (aO a t) c l lo us rs) := by
  refine ACall.saysC (.ofH rfl rfl (hLenT_ok 22 [14] _ _).ok fun f xs t v h => by cases h) (run72 (a.length : Int) p (aV a t) (aO a t) c l lo us rs) ?_
  rw [Int.toNat_natCast, wrapI (by omega)]
  exact says_need ⟨rfl, rfl, aLen_aV a t⟩ (says_need ⟨by omega, by omega⟩ says_leaf)
/-- Loops that go to their end, their states by what they say. -/
theorem LoopA.linTv {body : Code} {N m : Nat} {S : Nat → St} {X : St} {eX : Exit} (n0 : ∀ k, (S k).n = (S 0).n) (nX : X.n = (S 0).n) (neX : eX ≠ .normal) (cS : ∀ k, CleanT m (S k)) (cX : CleanT m X)
    (hr : ∀ k, k ≤ N → ∃ E lp keep, ClOk Try.prog G0 E ∧ LoopsOk Try.prog G0 (fun r => r = none) [] lp body ∧ (k < N → ∃ st', (xBodyT E 200 lp keep m body (S k)).sel = some (.normal, st') ∧ st'.vals = (S (k + 1)).vals) ∧ (k = N → ∃ st', (xBodyT E 200 lp keep m body (S k)).sel = some (eX, st') ∧ st'.vals = X.vals)) : LoopA body N S S X .ret eX fun _ => false where
  n0 := n0
  nR := n0
  nX := nX
  neR := nofun
  neX := neX
  go k hk hj hs := by
    obtain ⟨E, lp, keep, h1, h2, h3, _⟩ := hr k (by omega)
    obtain ⟨st', h4, h5⟩ := h3 hk
    have h6 := vals_eq h5
    have hc : CleanT m st' := by unfold CleanT; rw [h6.1, h6.2]; exact cS (k + 1)
    have key := xBodyT_ok h1 h2 (cS k).1 hc h4
    rw [h6.1, h6.2] at key
    exact key
  st k hk hj hs := by cases hs
  en hj := by
    obtain ⟨E, lp, keep, h1, h2, _, h3⟩ := hr N (Nat.le_refl N)
    obtain ⟨st', h4, h5⟩ := h3 rfl
    have h6 := vals_eq h5
    have hc : CleanT m st' := by unfold CleanT; rw [h6.1, h6.2]; exact cX
    have key := xBodyT_ok h1 h2 (cS N).1 hc h4
    rw [h6.1, h6.2] at key
    exact key
theorem t_iteE {α : Type} {b : Bool} {x y : Tree (Exit × α)} {e : Exit} {Q : α → Prop} (hx : b = true → ∃ s, x.sel = some (e, s) ∧ Q s) (hy : b = false → ∃ s, y.sel = some (e, s) ∧ Q s) : ∃ s, (Tree.ite b x y).sel = some (e, s) ∧ Q s := by
  cases b with
  | true => exact hx rfl
  | false => exact hy rfl
theorem t_needE {α : Type} {p : Prop} {x : Tree (Exit × α)} {e : Exit} {Q : α → Prop} (hp : p) (hx : ∃ s, x.sel = some (e, s) ∧ Q s) : ∃ s, (Tree.need p x).sel = some (e, s) ∧ Q s := by
  obtain ⟨s, h1, h2⟩ := hx
  exact ⟨s, (selN hp).trans h1, h2⟩
/-! ### put -/
noncomputable def b65 : Code := bodyOf Try.prog 65
noncomputable def body65 : Code := (loopsOf b65).headD .skip
theorem loops65 : loopsOf b65 = [body65] := by kernel_rfl
def st65 (p : Pb) (v : AV) (o : AObj) (c : Int) (lv : AV) (lo : AObj) (us : List (List (Int × List Int))) (rs : List Int) (x : Int) (ok : Bool) (u : List (Int × List Int)) (k : Int) : St :=
  .of 83 [.cells 0 (sC p v c lv us rs), lo, o] [(0, SR, true), (1, I x, true), (4, .bool false, false), (6, .bool ok, true), (48, useAV u, true), (49, I u.length, true), (50, I k, true)]
def keep65 : List Nat := [0, 1, 4, 6, 48, 49, 50]
theorem run65 (p : Pb) (v : AV) (o : AObj) (c : Int) (g n : Nat) (cs : List AV) (us : List (List (Int × List Int))) (rs : List Int) (x : Int) (ok : Bool) (u : List (Int × List Int)) (k : Int) : xBodyT { boxRow := false, hint := hArrG 22 3 .i64 1 } 200 noLoops keep65 3 body65 (st65 p v o c (.ms 1 1 g 0 n n) (.cells g cs) us rs x ok u k) = .ite (decide (k < (↑u.length : Int))) (.need (((0 : Int) ≤ k) ∧ (k < (↑u.length : Int))) (.need (((0 : Int) ≤ (u.getD k.toNat ((0 : Int), [])).fst) ∧ (((u.getD k.toNat ((0 : Int), [])).fst < (↑n : Int)) ∧ (g = g))) (.need ((g = g) ∧ (∃ n, cs[(u.getD k.toNat ((0 : Int), [])).fst.toNat]? = some (AV.int IntKind.i64 n))) (.need (((0 : Int) ≤ x) ∧ (x < (↑(u.getD k.toNat ((0 : Int), [])).snd.length : Int))) (.need (((0 : Int) ≤ (u.getD k.toNat ((0 : Int), [])).fst) ∧ (((u.getD k.toNat ((0 : Int), [])).fst < (↑n : Int)) ∧ (g = g))) (.need ((g = g) ∧ (((u.getD k.toNat ((0 : Int), [])).fst.toNat) < (List.length cs))) (.ite (ok) (.need (((0 : Int) ≤ (u.getD k.toNat ((0 : Int), [])).fst) ∧ (((u.getD k.toNat ((0 : Int), [])).fst < (↑n : Int)) ∧ (g = g))) (.need ((g = g) ∧ (∃ n, (setL cs (u.getD k.toNat ((0 : Int), [])).fst.toNat [AV.int IntKind.i64 (IntKind.i64.wrap (intOf (cs.getD (u.getD k.toNat ((0 : Int), [])).fst.toNat AV.junk) - (u.getD k.toNat ((0 : Int), [])).snd.getD x.toNat (0 : Int)))])[(u.getD k.toNat ((0 : Int), [])).fst.toNat]? = some (AV.int IntKind.i64 n))) (.leaf (Exit.normal, St.of 83 [(AObj.cells (0 : Nat) [(flL (p.V)), (flLL (p.C)), (flR (p.R)), v, (I c), (AV.ms (1 : Nat) (1 : Nat) g (0 : Nat) n n), (usesAV (us)), (flL (rs))]), (AObj.cells g (setL cs (u.getD k.toNat ((0 : Int), [])).fst.toNat [AV.int IntKind.i64 (IntKind.i64.wrap (intOf (cs.getD (u.getD k.toNat ((0 : Int), [])).fst.toNat AV.junk) - (u.getD k.toNat ((0 : Int), [])).snd.getD x.toNat (0 : Int)))])), o] [(0, (AV.ref (0 : Nat) (0 : Nat) (0 : Nat)), true), (1, (I x), true), (4, (AV.bool false), false), (6, (AV.bool (decide (intOf ((setL cs (u.getD k.toNat ((0 : Int), [])).fst.toNat [AV.int IntKind.i64 (IntKind.i64.wrap (intOf (cs.getD (u.getD k.toNat ((0 : Int), [])).fst.toNat AV.junk) - (u.getD k.toNat ((0 : Int), [])).snd.getD x.toNat (0 : Int)))]).getD (u.getD k.toNat ((0 : Int), [])).fst.toNat AV.junk) ≥ (0 : Int)))), true), (48, (useAV (u)), true), (49, (I ((↑u.length : Int))), true), (50, (I (IntKind.i64.wrap (k + (1 : Int)))), true)])))) (.leaf (Exit.normal, St.of 83 [(AObj.cells (0 : Nat) [(flL (p.V)), (flLL (p.C)), (flR (p.R)), v, (I c), (AV.ms (1 : Nat) (1 : Nat) g (0 : Nat) n n), (usesAV (us)), (flL (rs))]), (AObj.cells g (setL cs (u.getD k.toNat ((0 : Int), [])).fst.toNat [AV.int IntKind.i64 (IntKind.i64.wrap (intOf (cs.getD (u.getD k.toNat ((0 : Int), [])).fst.toNat AV.junk) - (u.getD k.toNat ((0 : Int), [])).snd.getD x.toNat (0 : Int)))])), o] [(0, (AV.ref (0 : Nat) (0 : Nat) (0 : Nat)), true), (1, (I x), true), (4, (AV.bool false), false), (6, (AV.bool false), false), (48, (useAV (u)), true), (49, (I ((↑u.length : Int))), true), (50, (I (IntKind.i64.wrap (k + (1 : Int)))), true)]))))))))) (.leaf ((Exit.exit (0 : Nat)), St.of 83 [(AObj.cells (0 : Nat) [(flL (p.V)), (flLL (p.C)), (flR (p.R)), v, (I c), (AV.ms (1 : Nat) (1 : Nat) g (0 : Nat) n n), (usesAV (us)), (flL (rs))]), (AObj.cells g cs), o] [(0, (AV.ref (0 : Nat) (0 : Nat) (0 : Nat)), true), (1, (I x), true), (4, (AV.bool false), false), (6, (AV.bool ok), true), (48, (useAV (u)), true), (49, (I ((↑u.length : Int))), true), (50, (I k), true)])) := by kernel_rfl
theorem run65e (p : Pb) (v : AV) (o : AObj) (c : Int) (lv : AV) (lo : AObj) (us : List (List (Int × List Int))) (rs : List Int) (x : Int) (ok : Bool) (u : List (Int × List Int)) : xBodyT { boxRow := false, clh := failH, hint := hNoAl } 200 noLoops keep65 3 body65 (st65 p v o c lv lo us rs x ok u u.length) = .ite (decide ((↑u.length : Int) < (↑u.length : Int))) (.need (((0 : Int) ≤ (↑u.length : Int)) ∧ ((↑u.length : Int) < (↑u.length : Int))) (.need (False) .fail)) (.leaf ((Exit.exit (0 : Nat)), St.of 83 [(AObj.cells (0 : Nat) [(flL (p.V)), (flLL (p.C)), (flR (p.R)), v, (I c), lv, (usesAV (us)), (flL (rs))]), lo, o] [(0, (AV.ref (0 : Nat) (0 : Nat) (0 : Nat)), true), (1, (I x), true), (4, (AV.bool false), false), (6, (AV.bool ok), true), (48, (useAV (u)), true), (49, (I ((↑u.length : Int))), true), (50, (I ((↑u.length : Int))), true)])) := by kernel_rfl
def E65 (m x : Int) (v v' : AV) (o o' : AObj) (g : Prop) : Env := { boxRow := false, hint := orH (hLenT 22 [12] v m) (orH (hApA x v v' o o' g) (hSto 22 0)) }
theorem runF65 (m : Int) (gg : Prop) (p : Pb) (v v' : AV) (o o' : AObj) (c : Int) (lv : AV) (lo lo' : AObj) (us : List (List (Int × List Int))) (rs : List Int) (x : Int) (ok : Bool) : xenter Try.prog (E65 m x v v' o o' gg) (xCode Try.prog G0 (E65 m x v v' o o' gg) 200 (lpB 6 keep65 (st65 p v' o' (IntKind.i64.wrap (c + (p.C.getD m.toNat []).getD x.toNat 0)) lv lo us rs x true (us.getD m.toNat []) 0) (.exit 0) (st65 p v' o' (IntKind.i64.wrap (c + (p.C.getD m.toNat []).getD x.toNat 0)) lv lo' us rs x ok (us.getD m.toNat []) (us.getD m.toNat []).length))) 65 [SR, I x] [true, true] (sH p v o c lv lo us rs) = .need (((Option.some v) = (Option.some v)) ∧ (((#[(22 : Nat)]) = (#[(22 : TypeId)])) ∧ ((aLen Try.prog (22 : TypeId) v) = (Option.some (I m))))) (.need (((Option.some [v, (AV.sl (1 : Nat) [[(I x)]])]) = (Option.some [v, (AV.sl (1 : Nat) [[(I x)]])])) ∧ (((Option.some o) = (Option.some o)) ∧ (gg))) (.need (((AV.one v') = true) ∧ ((3 : Nat) < (8 : Nat))) (.need (((0 : Int) ≤ m) ∧ (m < (↑p.C.length : Int))) (.need (((0 : Int) ≤ x) ∧ (x < (↑(p.C.getD m.toNat []).length : Int))) (.need (((0 : Int) ≤ m) ∧ (m < (↑us.length : Int))) (.need ((st65 p v' o' (IntKind.i64.wrap (c + (p.C.getD m.toNat []).getD x.toNat 0)) lv lo us rs x true (us.getD m.toNat []) 0).vals = (st65 p v' o' (IntKind.i64.wrap (c + (p.C.getD m.toNat []).getD x.toNat 0)) lv lo us rs x true (us.getD m.toNat []) 0).vals) (.leaf ((AV.bool ok), true, [(AObj.cells (0 : Nat) [(flL (p.V)), (flLL (p.C)), (flR (p.R)), v', (I (IntKind.i64.wrap (c + (p.C.getD m.toNat []).getD x.toNat (0 : Int)))), lv, (usesAV (us)), (flL (rs))]), lo', o'])))))))) := by kernel_rfl

/-- What a value takes from what is left, use by use. -/
def putL (u : List (Int × List Int)) (x : Int) (l : List Int) : Nat → List Int
  | 0 => l
  | k + 1 => (putL u x l k).set (u.getD k (0, [])).1.toNat ((putL u x l k).getD (u.getD k (0, [])).1.toNat 0 - (u.getD k (0, [])).2.getD x.toNat 0)
def putOk (u : List (Int × List Int)) (x : Int) (l : List Int) : Nat → Bool
  | 0 => true
  | k + 1 => bif putOk u x l k then decide ((putL u x l (k + 1)).getD (u.getD k (0, [])).1.toNat 0 ≥ 0) else false
/-- Uses that fit. -/
structure Fit (u : List (Int × List Int)) (x : Int) (l : List Int) : Prop where
  x0 : 0 ≤ x
  r : ∀ k, k < u.length → 0 ≤ (u.getD k (0, [])).1 ∧ (u.getD k (0, [])).1 < l.length
  w : ∀ k, k < u.length → x.toNat < (u.getD k (0, [])).2.length
  b : ∀ k, k < u.length → -1000000000 ≤ (u.getD k (0, [])).2.getD x.toNat 0 ∧ (u.getD k (0, [])).2.getD x.toNat 0 ≤ 1000000000
  n : u.length ≤ 1000000
  lb : ∀ j, -1000000000000 ≤ l.getD j 0 ∧ l.getD j 0 ≤ 1000000000000
theorem putL_len (u : List (Int × List Int)) (x : Int) (l : List Int) : ∀ k, (putL u x l k).length = l.length
  | 0 => rfl
  | k + 1 => by unfold putL; rw [List.length_set, putL_len u x l k]
theorem getD_setL (l : List Int) (i j : Nat) (y : Int) : (l.set i y).getD j 0 = if i = j ∧ i < l.length then y else l.getD j 0 := by
  simp only [List.getD_eq_getElem?_getD, List.getElem?_set]
  by_cases h : i = j
  · subst h
    by_cases h2 : i < l.length
    · simp [h2]
    · simp [h2]
  · simp [h]
theorem Fit.bnd {u : List (Int × List Int)} {x : Int} {l : List Int} (h : Fit u x l) : ∀ {k : Nat}, k ≤ u.length → ∀ j, -1000000000000 - 1000000000 * (k : Int) ≤ (putL u x l k).getD j 0 ∧ (putL u x l k).getD j 0 ≤ 1000000000000 + 1000000000 * (k : Int)
  | 0, _, j => by
    have := h.lb j
    show _ ≤ l.getD j 0 ∧ l.getD j 0 ≤ _
    omega
  | k + 1, hk, j => by
    have h1 := Fit.bnd h (k := k) (by omega)
    have h2 := h.b k (by omega)
    unfold putL
    rw [getD_setL]
    split
    · have := h1 (u.getD k (0, [])).1.toNat
      omega
    · have := h1 j
      omega
theorem map_getD (l : List Int) {i : Nat} (h : i < l.length) : intOf ((l.map I).getD i .junk) = l.getD i 0 := by
  simp [List.getD_eq_getElem?_getD, h, intOf]
theorem map_setL (l : List Int) {i : Nat} (h : i < l.length) (y : Int) : setL (l.map I) i [I y] = (l.set i y).map I := by
  apply List.ext_getElem?
  intro j
  rw [setL_get (by simp; omega)]
  simp only [List.getElem?_map, List.getElem?_set, List.length_singleton]
  by_cases h1 : j < i
  · rw [if_pos h1, if_neg (by omega)]
  · rw [if_neg h1]
    by_cases h2 : j < i + 1
    · obtain rfl : j = i := by omega
      simp [h]
    · rw [if_neg h2, if_neg (by omega)]
theorem map_get (l : List Int) {i : Nat} (h : i < l.length) : (l.map I)[i]? = some (I (l.getD i 0)) := by
  simp [List.getD_eq_getElem?_getD, h]
theorem below_useAV {m : Nat} (u : List (Int × List Int)) : Below m (useAV u) := below_fl fun i y hy => by
  simp only [useC, List.mem_cons, List.not_mem_nil, or_false] at hy
  rcases hy with rfl | rfl
  · exact .int _ _
  · exact below_flL _
theorem below_usesAV {m : Nat} (us : List (List (Int × List Int))) : Below m (usesAV us) := below_fl fun i y hy => by
  rw [List.mem_singleton.1 hy]
  exact below_useAV _
theorem sH_alone {m : Nat} {p : Pb} {v : AV} {o : AObj} {c : Int} {l : AV} {lo : AObj} {us : List (List (Int × List Int))} {rs : List Int} (hv : Below m v) (ho : Alone m o) (hl : Below m l) (hlo : Alone m lo) : ∀ o' ∈ sH p v o c l lo us rs, Alone m o' := fun o' h' => by
  simp only [sH, List.mem_cons, List.not_mem_nil, or_false] at h'
  rcases h' with rfl | rfl | rfl
  · intro y hy
    simp only [sC, List.mem_cons, List.not_mem_nil, or_false] at hy
    rcases hy with rfl | rfl | rfl | rfl | rfl | rfl | rfl | rfl
    · exact below_flL _
    · exact below_flLL _
    · exact (below_flR _).up
    · exact hv
    · exact .int _ _
    · exact hl
    · exact below_usesAV us
    · exact below_flL _
  · exact hlo
  · exact ho
theorem below_aV (a t : List Int) : Below 3 (aV a t) := by
  by_cases h : a ++ t = []
  · unfold aV; rw [h]; exact .zs
  · rw [aV_ms h]; exact .ms _ _ _ _ _ _ (by omega)
theorem alone_aO (a t : List Int) : Alone 3 (aO a t) := alone_rowI _
theorem below_lV (l : List Int) : Below 3 (lV l) := below_sV (by omega)
theorem alone_lO (l : List Int) : Alone 3 (lO l) := alone_rowI _
theorem clean65 (p : Pb) (a t : List Int) (c : Int) (l l' : List Int) (us : List (List (Int × List Int))) (rs : List Int) (x : Int) (ok : Bool) (u : List (Int × List Int)) (k : Int) : CleanT 3 (st65 p (aV a t) (aO a t) c (lV l) (lO l') us rs x ok u k) :=
  cleanT_of rfl (sH_alone (below_aV a t) (alone_aO a t) (below_lV l) (alone_lO l')) ⟨.ref _ _ _ (by omega), .int _ _, .bool _, .bool _, below_useAV u, .int _ _, .int _ _, trivial⟩
theorem vals65 (p : Pb) (v : AV) (o : AObj) (c : Int) (lv : AV) (lo : AObj) (us : List (List (Int × List Int))) (rs : List Int) (x : Int) (ok : Bool) (u : List (Int × List Int)) (n k : Int) (b : Bool) : (St.of 83 [AObj.cells 0 [flL p.V, flLL p.C, flR p.R, v, I c, lv, usesAV us, flL rs], lo, o] [(0, AV.ref 0 0 0, true), (1, I x, true), (4, AV.bool false, false), (6, AV.bool ok, b), (48, useAV u, true), (49, I n, true), (50, I k, true)]).vals =
    (St.of 83 [AObj.cells 0 [flL p.V, flLL p.C, flR p.R, v, I c, lv, usesAV us, flL rs], lo, o] [(0, AV.ref 0 0 0, true), (1, I x, true), (4, AV.bool false, false), (6, AV.bool ok, true), (48, useAV u, true), (49, I n, true), (50, I k, true)]).vals := by kernel_rfl
theorem loop65 {p : Pb} {a t : List Int} {c : Int} {l : List Int} {us : List (List (Int × List Int))} {rs : List Int} {x : Int} {u : List (Int × List Int)} (hf : Fit u x l) :
    LoopA body65 u.length (fun k => st65 p (aV a t) (aO a t) c (lV l) (lO (putL u x l k)) us rs x (putOk u x l k) u k) (fun k => st65 p (aV a t) (aO a t) c (lV l) (lO (putL u x l k)) us rs x (putOk u x l k) u k) (st65 p (aV a t) (aO a t) c (lV l) (lO (putL u x l u.length)) us rs x (putOk u x l u.length) u u.length) .ret (.exit 0) fun _ => false := by
  refine .linTv (m := 3) (fun _ => rfl) rfl nofun (fun k => clean65 p a t c l _ us rs x _ u k) (clean65 p a t c l _ us rs x _ u _) fun k hk => ?_
  by_cases hlt : k < u.length
  · refine ⟨{ boxRow := false, hint := hArrG 22 3 .i64 1 }, noLoops, keep65, .ofH rfl rfl arr_ok.ok (fun f xs t v h => by cases h), lpNo _, fun _ => ?_, fun he => by omega⟩
    have hl0 : 0 < l.length := by have := hf.r k hlt; omega
    have hne : l ≠ [] := by intro h; rw [h] at hl0; simp at hl0
    have hlen := putL_len u x l k
    have hne2 : putL u x l k ≠ [] := by intro h; rw [h] at hlen; simp at hlen; omega
    have hr := hf.r k hlt
    have hw := hf.w k hlt
    have hb := hf.b k hlt
    have hx := hf.x0
    have hn := hf.n
    have hbn := Fit.bnd hf (k := k) (by omega) (u.getD k (0, [])).1.toNat
    have hi : (u.getD k (0, [])).1.toNat < (putL u x l k).length := by omega
    rw [lV_ms hne, lO_cells hne2, hlen]
    have key := (run65 p (aV a t) (aO a t) c (l.length - 1) l.length ((putL u x l k).map I) us rs x (putOk u x l k) u k)
    rw [Int.toNat_natCast, wrapS (n := 1000001) (by omega) (by omega), map_getD _ hi, wrapI (by omega), map_setL _ hi] at key
    have e1 : (putL u x l k).set (u.getD k (0, [])).1.toNat ((putL u x l k).getD (u.getD k (0, [])).1.toNat 0 - (u.getD k (0, [])).2.getD x.toNat 0) = putL u x l (k + 1) := rfl
    rw [e1] at key
    have hlen2 := putL_len u x l (k + 1)
    have hi2 : (u.getD k (0, [])).1.toNat < (putL u x l (k + 1)).length := by omega
    have hne3 : putL u x l (k + 1) ≠ [] := by intro h; rw [h] at hlen2; simp at hlen2; omega
    rw [map_getD _ hi2] at key
    rw [key]
    refine t_iteE (fun _ => t_needE ⟨by omega, by omega⟩ (t_needE ⟨hr.1, by omega, rfl⟩ (t_needE ⟨rfl, _, map_get _ hi⟩ (t_needE ⟨hx, by omega⟩ (t_needE ⟨hr.1, by omega, rfl⟩ (t_needE ⟨rfl, by rw [List.length_map]; exact hi⟩ (t_iteE (fun h1 => t_needE ⟨hr.1, by omega, rfl⟩ (t_needE ⟨rfl, _, map_get _ hi2⟩ ⟨_, rfl, ?_⟩)) fun h1 => ⟨_, rfl, ?_⟩))))))) fun h => absurd (of_decide_eq_false h) (by omega)
    · have e2 : putOk u x l (k + 1) = decide ((putL u x l (k + 1)).getD (u.getD k (0, [])).1.toNat 0 ≥ 0) := by
        show (bif putOk u x l k then _ else false) = _
        rw [h1]; rfl
      rw [e2, lO_cells hne3, hlen2]
      exact vals65 _ _ _ _ _ _ _ _ _ _ _ _ _ _
    · have e2 : putOk u x l (k + 1) = false := by
        show (bif putOk u x l k then _ else false) = _
        rw [h1]; rfl
      rw [e2, lO_cells hne3, hlen2]
      exact vals65 _ _ _ _ _ _ _ _ _ _ _ _ _ _
  · obtain rfl : k = u.length := by omega
    refine ⟨{ boxRow := false, clh := failH, hint := hNoAl }, noLoops, keep65, .all hNoAl_ok.ok failH_ok (fun l xs σ t v σ' h => (by cases h)) (fun f xs t v h => by cases h), lpNo _, fun h => absurd h (by omega), fun _ => ?_⟩
    rw [run65e p (aV a t) (aO a t) c (lV l) (lO (putL u x l u.length)) us rs x (putOk u x l u.length) u]
    exact t_iteE (fun h => absurd (of_decide_eq_true h) (by omega)) fun _ => ⟨_, rfl, rfl⟩
theorem one_aV (a t : List Int) : (aV a t).one = true := by
  by_cases h : a ++ t = []
  · unfold aV; rw [h]; rfl
  · rw [aV_ms h]; rfl
/-- WHAT put DOES. -/
theorem c65 {p : Pb} {a t : List Int} {c : Int} {l : List Int} {us : List (List (Int × List Int))} {rs : List Int} {x : Int} (hf : Fit (us.getD a.length []) x l) (ha : (a ++ t).length < 1000000) (hu : a.length < us.length) (hC : a.length < p.C.length) (hx : x.toNat < (p.C.getD a.length []).length)
    (hc : -4000000000000000000 ≤ c + (p.C.getD a.length []).getD x.toNat 0 ∧ c + (p.C.getD a.length []).getD x.toNat 0 ≤ 4000000000000000000) :
    ACall Try.prog G0 65 [SR, I x] (sH p (aV a t) (aO a t) c (lV l) (lO l) us rs) (.bool (putOk (us.getD a.length []) x l (us.getD a.length []).length))
      (sH p (aV (a ++ [x]) t.tail) (aO (a ++ [x]) t.tail) (c + (p.C.getD a.length []).getD x.toNat 0) (lV l) (lO (putL (us.getD a.length []) x l (us.getD a.length []).length)) us rs) := by
  have hx0 := hf.x0
  have hlp := (loop65 (p := p) (a := a ++ [x]) (t := t.tail) (c := c + (p.C.getD a.length []).getD x.toNat 0) (us := us) (rs := rs) hf).okB (fun _ _ => rfl) (c := bodyOf Try.prog 65) (i := 6) (keep := keep65) (one_loop loops65)
  have hcl : ClOk Try.prog G0 (E65 a.length x (aV a t) (aV (a ++ [x]) t.tail) (aO a t) (aO (a ++ [x]) t.tail) True) := .ofH rfl rfl ((hLenT_ok 22 [12] _ _).ok.or ((hApA_ok fun _ => ⟨a, t, rfl, rfl, rfl, rfl, by omega⟩).or (hSto_ok 0 one22).ok)) fun f xs t v h => by cases h
  have key := runF65 a.length True p (aV a t) (aV (a ++ [x]) t.tail) (aO a t) (aO (a ++ [x]) t.tail) c (lV l) (lO l) (lO (putL (us.getD a.length []) x l (us.getD a.length []).length)) us rs x (putOk (us.getD a.length []) x l (us.getD a.length []).length)
  rw [Int.toNat_natCast, wrapI (by omega)] at key
  exact ACall.says hcl hlp key (says_need ⟨rfl, rfl, aLen_aV a t⟩ (says_need ⟨rfl, rfl, trivial⟩ (says_need ⟨one_aV _ _, by omega⟩ (says_need ⟨by omega, by omega⟩ (says_need ⟨hx0, by omega⟩ (says_need ⟨by omega, by omega⟩ (says_need rfl says_leaf)))))))

/-! ### back -/
noncomputable def body70 : Code := (loopsOf (bodyOf Try.prog 70)).headD .skip
theorem loops70 : loopsOf (bodyOf Try.prog 70) = [body70] := by kernel_rfl
def st70 (p : Pb) (v : AV) (o : AObj) (c : Int) (lv : AV) (lo : AObj) (us : List (List (Int × List Int))) (rs : List Int) (d x : Int) (u : List (Int × List Int)) (k : Int) : St :=
  .of 74 [.cells 0 (sC p v c lv us rs), lo, o] [(0, SR, true), (2, I d, true), (3, I x, true), (52, useAV u, true), (53, I u.length, true), (54, I k, true)]
def keep70 : List Nat := [0, 2, 3, 52, 53, 54]
theorem run70 (p : Pb) (v : AV) (o : AObj) (c : Int) (g n : Nat) (cs : List AV) (us : List (List (Int × List Int))) (rs : List Int) (d x : Int) (u : List (Int × List Int)) (k : Int) : xBodyT { boxRow := false, hint := hArrG 22 3 .i64 1 } 200 noLoops keep70 3 body70 (st70 p v o c (.ms 1 1 g 0 n n) (.cells g cs) us rs d x u k) = .ite (decide (k < (↑u.length : Int))) (.need (((0 : Int) ≤ k) ∧ (k < (↑u.length : Int))) (.need (((0 : Int) ≤ (u.getD k.toNat ((0 : Int), [])).fst) ∧ (((u.getD k.toNat ((0 : Int), [])).fst < (↑n : Int)) ∧ (g = g))) (.need ((g = g) ∧ (∃ n, cs[(u.getD k.toNat ((0 : Int), [])).fst.toNat]? = some (AV.int IntKind.i64 n))) (.need (((0 : Int) ≤ x) ∧ (x < (↑(u.getD k.toNat ((0 : Int), [])).snd.length : Int))) (.need (((0 : Int) ≤ (u.getD k.toNat ((0 : Int), [])).fst) ∧ (((u.getD k.toNat ((0 : Int), [])).fst < (↑n : Int)) ∧ (g = g))) (.need ((g = g) ∧ (((u.getD k.toNat ((0 : Int), [])).fst.toNat) < (List.length cs))) (.leaf (Exit.normal, St.of 74 [(AObj.cells (0 : Nat) [(flL (p.V)), (flLL (p.C)), (flR (p.R)), v, (I c), (AV.ms (1 : Nat) (1 : Nat) g (0 : Nat) n n), (usesAV (us)), (flL (rs))]), (AObj.cells g (setL cs (u.getD k.toNat ((0 : Int), [])).fst.toNat [AV.int IntKind.i64 (IntKind.i64.wrap (intOf (cs.getD (u.getD k.toNat ((0 : Int), [])).fst.toNat AV.junk) + (u.getD k.toNat ((0 : Int), [])).snd.getD x.toNat (0 : Int)))])), o] [(0, (AV.ref (0 : Nat) (0 : Nat) (0 : Nat)), true), (2, (I d), true), (3, (I x), true), (52, (useAV (u)), true), (53, (I ((↑u.length : Int))), true), (54, (I (IntKind.i64.wrap (k + (1 : Int)))), true)])))))))) (.leaf ((Exit.exit (0 : Nat)), St.of 74 [(AObj.cells (0 : Nat) [(flL (p.V)), (flLL (p.C)), (flR (p.R)), v, (I c), (AV.ms (1 : Nat) (1 : Nat) g (0 : Nat) n n), (usesAV (us)), (flL (rs))]), (AObj.cells g cs), o] [(0, (AV.ref (0 : Nat) (0 : Nat) (0 : Nat)), true), (2, (I d), true), (3, (I x), true), (52, (useAV (u)), true), (53, (I ((↑u.length : Int))), true), (54, (I k), true)])) := by kernel_rfl
theorem run70e (p : Pb) (v : AV) (o : AObj) (c : Int) (lv : AV) (lo : AObj) (us : List (List (Int × List Int))) (rs : List Int) (d x : Int) (u : List (Int × List Int)) : xBodyT { boxRow := false, clh := failH, hint := hNoAl } 200 noLoops keep70 3 body70 (st70 p v o c lv lo us rs d x u u.length) = .ite (decide ((↑u.length : Int) < (↑u.length : Int))) (.need (((0 : Int) ≤ (↑u.length : Int)) ∧ ((↑u.length : Int) < (↑u.length : Int))) (.need (False) .fail)) (.leaf ((Exit.exit (0 : Nat)), St.of 74 [(AObj.cells (0 : Nat) [(flL (p.V)), (flLL (p.C)), (flR (p.R)), v, (I c), lv, (usesAV (us)), (flL (rs))]), lo, o] [(0, (AV.ref (0 : Nat) (0 : Nat) (0 : Nat)), true), (2, (I d), true), (3, (I x), true), (52, (useAV (u)), true), (53, (I ((↑u.length : Int))), true), (54, (I ((↑u.length : Int))), true)])) := by kernel_rfl
/-- A part of a slice, from its beginning, told beforehand. -/
def hSlA (t : TypeId) (g len m : Nat) (kk : Int) (v' : AV) : Heap → Oper → (Operand → Option AV) → Option (AV × Bool × Heap × Prop) := fun h o ρ => match o.op with
  | .slice t' x none (some y) none => bif Nat.beq t' t then (match h[(2 : Nat)]? with
    | some (.cells g' _) => some (v', true, h, ρ x = some (.ms 1 2 g 0 len m) ∧ ρ y = some (I kk) ∧ len ≤ m ∧ 0 ≤ kk ∧ kk ≤ m ∧ 0 < m ∧ g' = g ∧ v' = .ms 1 2 g 0 kk.toNat m)
    | _ => none) else none
  | _ => none
theorem hSlA_ok (g len m : Nat) (kk : Int) (v' : AV) : HintA Try.prog (hSlA 22 g len m kk v') := by
  intro h o ρ y s h' p hh hp
  unfold hSlA at hh
  split at hh <;> first | (cases hh; done) | skip
  rename_i t' x y' ho
  cases ht : Nat.beq t' 22 with
  | false => rw [ht] at hh; cases hh
  | true =>
  rw [ht, cond_true] at hh
  obtain rfl := Nat.eq_of_beq_eq_true ht
  split at hh <;> first | (cases hh; done) | skip
  rename_i g' c hc
  cases hh
  obtain ⟨p1, p2, p3, p4, p5, p6, rfl, rfl⟩ := hp
  obtain ⟨ie, zx, h1, h2, h3, h4, h5, h6⟩ := els22.i
  have hobj : objAt h 2 g' = some c := by unfold objAt; rw [hc]; simp
  have hb : aBounds len m none (some (I kk)) none = some (0, kk.toNat, m) := by
    unfold aBounds
    have e : aBound (I kk) m = some kk.toNat := by
      simp only [aBound]
      rw [if_pos ⟨p4, p5⟩]
    simp only [e]
  unfold aopR
  simp only [ho, p1, evOptR, p2, Option.map_some]
  unfold aSlice
  rw [Try.underlying22]
  simp only [h1, hb, h3, hobj]
  have hm : ¬ m = 0 := by omega
  simp [p3, hm]
def E70 (g n m : Nat) (kk : Int) (v' : AV) : Env := { boxRow := false, hint := orH (hArrG 22 3 .i64 2) (orH (hSlA 22 g n m kk v') (hSto 22 0)) }
theorem runF70 (kk : Int) (p : Pb) (g n m : Nat) (cs : List AV) (v' : AV) (c : Int) (lv : AV) (lo lo' : AObj) (us : List (List (Int × List Int))) (rs : List Int) : xenter Try.prog (E70 g n m kk v') (xCode Try.prog G0 (E70 g n m kk v') 200 (lpB 5 keep70 (st70 p v' (.cells g cs) (IntKind.i64.wrap (c - (p.C.getD (IntKind.i64.wrap ((n : Int) - 1)).toNat []).getD (intOf (cs.getD (IntKind.i64.wrap ((n : Int) - 1)).toNat .junk)).toNat 0)) lv lo us rs (IntKind.i64.wrap ((n : Int) - 1)) (intOf (cs.getD (IntKind.i64.wrap ((n : Int) - 1)).toNat .junk)) (us.getD (IntKind.i64.wrap ((n : Int) - 1)).toNat []) 0) (.exit 0) (st70 p v' (.cells g cs) (IntKind.i64.wrap (c - (p.C.getD (IntKind.i64.wrap ((n : Int) - 1)).toNat []).getD (intOf (cs.getD (IntKind.i64.wrap ((n : Int) - 1)).toNat .junk)).toNat 0)) lv lo' us rs (IntKind.i64.wrap ((n : Int) - 1)) (intOf (cs.getD (IntKind.i64.wrap ((n : Int) - 1)).toNat .junk)) (us.getD (IntKind.i64.wrap ((n : Int) - 1)).toNat []) (us.getD (IntKind.i64.wrap ((n : Int) - 1)).toNat []).length))) 70 [SR] [true] (sH p (.ms 1 2 g 0 n m) (.cells g cs) c lv lo us rs) = .need (((0 : Int) ≤ IntKind.i64.wrap ((↑n : Int) - (1 : Int))) ∧ ((IntKind.i64.wrap ((↑n : Int) - (1 : Int)) < (↑n : Int)) ∧ (g = g))) (.need ((g = g) ∧ (∃ n_1, cs[(IntKind.i64.wrap ((↑n : Int) - (1 : Int))).toNat]? = some (AV.int IntKind.i64 n_1))) (.need (((Option.some (AV.ms (1 : Nat) (2 : Nat) g (0 : Nat) n m)) = (Option.some (AV.ms (1 : Nat) (2 : Nat) g (0 : Nat) n m))) ∧ (((Option.some (I (IntKind.i64.wrap ((↑n : Int) - (1 : Int))))) = (Option.some (I kk))) ∧ ((n ≤ m) ∧ (((0 : Int) ≤ kk) ∧ ((kk ≤ (↑m : Int)) ∧ (((0 : Nat) < m) ∧ ((g = g) ∧ (v' = (AV.ms (1 : Nat) (2 : Nat) g (0 : Nat) (kk.toNat) m))))))))) (.need (((AV.one v') = true) ∧ ((3 : Nat) < (8 : Nat))) (.need (((0 : Int) ≤ IntKind.i64.wrap ((↑n : Int) - (1 : Int))) ∧ (IntKind.i64.wrap ((↑n : Int) - (1 : Int)) < (↑p.C.length : Int))) (.need (((0 : Int) ≤ intOf (cs.getD (IntKind.i64.wrap ((↑n : Int) - (1 : Int))).toNat AV.junk)) ∧ (intOf (cs.getD (IntKind.i64.wrap ((↑n : Int) - (1 : Int))).toNat AV.junk) < (↑(p.C.getD (IntKind.i64.wrap ((↑n : Int) - (1 : Int))).toNat []).length : Int))) (.need (((0 : Int) ≤ IntKind.i64.wrap ((↑n : Int) - (1 : Int))) ∧ (IntKind.i64.wrap ((↑n : Int) - (1 : Int)) < (↑us.length : Int))) (.need ((st70 p v' (.cells g cs) (IntKind.i64.wrap (c - (p.C.getD (IntKind.i64.wrap ((n : Int) - 1)).toNat []).getD (intOf (cs.getD (IntKind.i64.wrap ((n : Int) - 1)).toNat .junk)).toNat 0)) lv lo us rs (IntKind.i64.wrap ((n : Int) - 1)) (intOf (cs.getD (IntKind.i64.wrap ((n : Int) - 1)).toNat .junk)) (us.getD (IntKind.i64.wrap ((n : Int) - 1)).toNat []) 0).vals = (st70 p v' (.cells g cs) (IntKind.i64.wrap (c - (p.C.getD (IntKind.i64.wrap ((n : Int) - 1)).toNat []).getD (intOf (cs.getD (IntKind.i64.wrap ((n : Int) - 1)).toNat .junk)).toNat 0)) lv lo us rs (IntKind.i64.wrap ((n : Int) - 1)) (intOf (cs.getD (IntKind.i64.wrap ((n : Int) - 1)).toNat .junk)) (us.getD (IntKind.i64.wrap ((n : Int) - 1)).toNat []) 0).vals) (.leaf ((AV.tup []), false, [(AObj.cells (0 : Nat) [(flL (p.V)), (flLL (p.C)), (flR (p.R)), v', (I (IntKind.i64.wrap (c - (p.C.getD (IntKind.i64.wrap ((↑n : Int) - (1 : Int))).toNat []).getD (intOf (cs.getD (IntKind.i64.wrap ((↑n : Int) - (1 : Int))).toNat AV.junk)).toNat (0 : Int)))), lv, (usesAV (us)), (flL (rs))]), lo', (AObj.cells g cs)]))))))))) := by kernel_rfl

def backL (u : List (Int × List Int)) (x : Int) (l : List Int) : Nat → List Int
  | 0 => l
  | k + 1 => (backL u x l k).set (u.getD k (0, [])).1.toNat ((backL u x l k).getD (u.getD k (0, [])).1.toNat 0 + (u.getD k (0, [])).2.getD x.toNat 0)
theorem backL_len (u : List (Int × List Int)) (x : Int) (l : List Int) : ∀ k, (backL u x l k).length = l.length
  | 0 => rfl
  | k + 1 => by unfold backL; rw [List.length_set, backL_len u x l k]
theorem Fit.bndB {u : List (Int × List Int)} {x : Int} {l : List Int} (h : Fit u x l) : ∀ {k : Nat}, k ≤ u.length → ∀ j, -1000000000000 - 1000000000 * (k : Int) ≤ (backL u x l k).getD j 0 ∧ (backL u x l k).getD j 0 ≤ 1000000000000 + 1000000000 * (k : Int)
  | 0, _, j => by
    have := h.lb j
    show _ ≤ l.getD j 0 ∧ l.getD j 0 ≤ _
    omega
  | k + 1, hk, j => by
    have h1 := Fit.bndB h (k := k) (by omega)
    have h2 := h.b k (by omega)
    unfold backL
    rw [getD_setL]
    split
    · have := h1 (u.getD k (0, [])).1.toNat
      omega
    · have := h1 j
      omega
theorem clean70 (p : Pb) (a t : List Int) (c : Int) (l l' : List Int) (us : List (List (Int × List Int))) (rs : List Int) (d x : Int) (u : List (Int × List Int)) (k : Int) : CleanT 3 (st70 p (aV a t) (aO a t) c (lV l) (lO l') us rs d x u k) :=
  cleanT_of rfl (sH_alone (below_aV a t) (alone_aO a t) (below_lV l) (alone_lO l')) ⟨.ref _ _ _ (by omega), .int _ _, .int _ _, below_useAV u, .int _ _, .int _ _, trivial⟩
theorem loop70 {p : Pb} {a t : List Int} {c : Int} {l : List Int} {us : List (List (Int × List Int))} {rs : List Int} {d x : Int} {u : List (Int × List Int)} (hf : Fit u x l) :
    LoopA body70 u.length (fun k => st70 p (aV a t) (aO a t) c (lV l) (lO (backL u x l k)) us rs d x u k) (fun k => st70 p (aV a t) (aO a t) c (lV l) (lO (backL u x l k)) us rs d x u k) (st70 p (aV a t) (aO a t) c (lV l) (lO (backL u x l u.length)) us rs d x u u.length) .ret (.exit 0) fun _ => false := by
  refine .linTv (m := 3) (fun _ => rfl) rfl nofun (fun k => clean70 p a t c l _ us rs d x u k) (clean70 p a t c l _ us rs d x u _) fun k hk => ?_
  by_cases hlt : k < u.length
  · refine ⟨{ boxRow := false, hint := hArrG 22 3 .i64 1 }, noLoops, keep70, .ofH rfl rfl arr_ok.ok (fun f xs t v h => by cases h), lpNo _, fun _ => ?_, fun he => by omega⟩
    have hl0 : 0 < l.length := by have := hf.r k hlt; omega
    have hne : l ≠ [] := by intro h; rw [h] at hl0; simp at hl0
    have hlen := backL_len u x l k
    have hne2 : backL u x l k ≠ [] := by intro h; rw [h] at hlen; simp at hlen; omega
    have hr := hf.r k hlt
    have hw := hf.w k hlt
    have hb := hf.b k hlt
    have hx := hf.x0
    have hn := hf.n
    have hbn := Fit.bndB hf (k := k) (by omega) (u.getD k (0, [])).1.toNat
    have hi : (u.getD k (0, [])).1.toNat < (backL u x l k).length := by omega
    rw [lV_ms hne, lO_cells hne2, hlen]
    have key := run70 p (aV a t) (aO a t) c (l.length - 1) l.length ((backL u x l k).map I) us rs d x u k
    rw [Int.toNat_natCast, wrapS (n := 1000001) (by omega) (by omega), map_getD _ hi, wrapI (by omega), map_setL _ hi] at key
    have e1 : (backL u x l k).set (u.getD k (0, [])).1.toNat ((backL u x l k).getD (u.getD k (0, [])).1.toNat 0 + (u.getD k (0, [])).2.getD x.toNat 0) = backL u x l (k + 1) := rfl
    rw [e1] at key
    have hlen2 := backL_len u x l (k + 1)
    have hne3 : backL u x l (k + 1) ≠ [] := by intro h; rw [h] at hlen2; simp at hlen2; omega
    rw [key]
    refine t_iteE (fun _ => t_needE ⟨by omega, by omega⟩ (t_needE ⟨hr.1, by omega, rfl⟩ (t_needE ⟨rfl, _, map_get _ hi⟩ (t_needE ⟨hx, by omega⟩ (t_needE ⟨hr.1, by omega, rfl⟩ (t_needE ⟨rfl, by rw [List.length_map]; exact hi⟩ ⟨_, rfl, ?_⟩)))))) fun h => absurd (of_decide_eq_false h) (by omega)
    rw [lO_cells hne3, hlen2]
    rfl
  · obtain rfl : k = u.length := by omega
    refine ⟨{ boxRow := false, clh := failH, hint := hNoAl }, noLoops, keep70, .all hNoAl_ok.ok failH_ok (fun l xs σ t v σ' h => (by cases h)) (fun f xs t v h => by cases h), lpNo _, fun h => absurd h (by omega), fun _ => ?_⟩
    rw [run70e p (aV a t) (aO a t) c (lV l) (lO (backL u x l u.length)) us rs d x u]
    exact t_iteE (fun h => absurd (of_decide_eq_true h) (by omega)) fun _ => ⟨_, rfl, rfl⟩
theorem arr2_ok : HintA Try.prog (hArrG 22 3 .i64 2) := hArrG_ok 2 Try.underlying22 one3 Try.underlying3 one3
/-- WHAT back DOES. -/
theorem c70 {p : Pb} {a t : List Int} {c : Int} {l : List Int} {us : List (List (Int × List Int))} {rs : List Int} {x : Int} (hf : Fit (us.getD a.length []) x l) (ha : ((a ++ [x]) ++ t).length < 1000000) (hu : a.length < us.length) (hC : a.length < p.C.length) (hx : x.toNat < (p.C.getD a.length []).length)
    (hc : -4000000000000000000 ≤ c - (p.C.getD a.length []).getD x.toNat 0 ∧ c - (p.C.getD a.length []).getD x.toNat 0 ≤ 4000000000000000000) :
    ACall Try.prog G0 70 [SR] (sH p (aV (a ++ [x]) t) (aO (a ++ [x]) t) c (lV l) (lO l) us rs) (.tup [])
      (sH p (aV a (x :: t)) (aO a (x :: t)) (c - (p.C.getD a.length []).getD x.toNat 0) (lV l) (lO (backL (us.getD a.length []) x l (us.getD a.length []).length)) us rs) := by
  have hx0 := hf.x0
  have hne : (a ++ [x]) ++ t ≠ [] := by simp
  have eA : (a ++ [x]) ++ t = a ++ x :: t := by simp
  have hne' : a ++ x :: t ≠ [] := by simp
  have hn : (a ++ [x]).length = a.length + 1 := by simp
  have hm : ((a ++ [x]) ++ t).length = a.length + 1 + t.length := by simp; omega
  have hO : aO (a ++ [x]) t = .cells (((a ++ [x]) ++ t).length - 1) (((a ++ [x]) ++ t).map I) := by unfold aO; exact sO_rowI hne
  have hO' : aO a (x :: t) = aO (a ++ [x]) t := by unfold aO; rw [eA]
  have hget : (((a ++ [x]) ++ t).map I).getD a.length .junk = I x := by simp [List.getD_eq_getElem?_getD]
  have hw : IntKind.i64.wrap (((a.length + 1 : Nat) : Int) - 1) = (a.length : Int) := (wrapI (by omega)).trans (by omega)
  have hlp := (loop70 (p := p) (a := a) (t := x :: t) (c := c - (p.C.getD a.length []).getD x.toNat 0) (us := us) (rs := rs) (d := a.length) hf).okB (fun _ _ => rfl) (c := bodyOf Try.prog 70) (i := 5) (keep := keep70) (one_loop loops70)
  have hcl : ClOk Try.prog G0 (E70 (((a ++ [x]) ++ t).length - 1) (a.length + 1) ((a ++ [x]) ++ t).length a.length (aV a (x :: t))) := .ofH rfl rfl (arr2_ok.ok.or ((hSlA_ok _ _ _ _ _).ok.or (hSto_ok 0 one22).ok)) fun f xs t v h => by cases h
  have key := runF70 a.length p (((a ++ [x]) ++ t).length - 1) (a.length + 1) ((a ++ [x]) ++ t).length (((a ++ [x]) ++ t).map I) (aV a (x :: t)) c (lV l) (lO l) (lO (backL (us.getD a.length []) x l (us.getD a.length []).length)) us rs
  rw [hw, Int.toNat_natCast, hget] at key
  have hint : intOf (I x) = x := rfl
  rw [hint, wrapI (by omega)] at key
  rw [hO', hO] at hlp
  rw [aV_ms hne, hO, hn, hO', hO]
  have hvv : aV a (x :: t) = .ms 1 2 (((a ++ [x]) ++ t).length - 1) 0 a.length ((a ++ [x]) ++ t).length := by rw [aV_ms hne', eA]
  have hgi : (((a ++ [x]) ++ t).map I)[a.length]? = some (I x) := by simp
  exact ACall.says hcl hlp key (says_need ⟨by omega, by omega, rfl⟩ (says_need ⟨rfl, _, hgi⟩ (says_need ⟨rfl, rfl, by omega, by omega, by omega, by omega, rfl, by rw [hvv]⟩ (says_need ⟨one_aV _ _, by omega⟩ (says_need ⟨by omega, by omega⟩ (says_need ⟨hx0, by omega⟩ (says_need ⟨by omega, by omega⟩ (says_need rfl says_leaf))))))))

/-! ### open -/
theorem run78 (n : Int) (h : Heap) : xCall Try.prog G0 {} 200 78 [I n] [true] h = .leaf ((AV.bool (decide (n < (0 : Int)))), true, h) := by kernel_rfl
theorem c78 (n : Int) (h : Heap) : ACall Try.prog G0 78 [I n] h (.bool (decide (n < 0))) h := ACall.saysC clok0 (run78 n h) says_leaf
def clh73 (xs : List AV) (b : Bool) (h : Heap) : FuncId → List AV → Heap → Option (Tree (AV × Heap)) := fun f ys h0 => match f with
  | 55 => some (.need (ys = xs ∧ h0 = h) (.leaf (.bool b, h)))
  | _ => none
theorem run73 (b : Bool) (p : Pb) (v : AV) (o : AObj) (c : Int) (l : AV) (lo : AObj) (us : List (List (Int × List Int))) (rs : List Int) : xCall Try.prog G0 { clh := clh73 [l, .fn 78 [] []] b (sH p v o c l lo us rs) } 200 73 [SR] [true] (sH p v o c l lo us rs) = .need (([l, (AV.fn (78 : Nat) [] [])] = [l, (AV.fn (78 : Nat) [] [])]) ∧ ([(AObj.cells (0 : Nat) [(flL (p.V)), (flLL (p.C)), (flR (p.R)), v, (I c), l, (usesAV (us)), (flL (rs))]), lo, o] = [(AObj.cells (0 : Nat) [(flL (p.V)), (flLL (p.C)), (flR (p.R)), v, (I c), l, (usesAV (us)), (flL (rs))]), lo, o])) (.leaf ((AV.bool (!b)), true, [(AObj.cells (0 : Nat) [(flL (p.V)), (flLL (p.C)), (flR (p.R)), v, (I c), l, (usesAV (us)), (flL (rs))]), lo, o])) := by kernel_rfl
end Go.Proofs.Ytngaihdpmoajeaa.Am

namespace Go.Proofs.Ytngaihdpmoajeaa.Am
open Go
set_option maxRecDepth 100000

/-! ### open -/
def lF : List Int → AV
  | [] => .zs
  | x :: l => slL (x :: l)
theorem frz_lV {l : List Int} {h : Heap} (ho : h[1]? = some (lO l)) : Frz h (lV l) (lF l) := by
  cases l with
  | nil => exact .inr (.inl ⟨.zs, rfl⟩)
  | cons x r =>
    refine .inr (.inr ⟨1, r.length, (x :: r).map I, ?_, ?_, fun y hy => ?_, rfl⟩)
    · rw [lV_ms (by simp)]; simp
    · rw [ho, lO_cells (by simp)]; simp
    · obtain ⟨n, _, rfl⟩ := List.mem_map.1 hy
      exact .int _ _
theorem c73 {p : Pb} {v : AV} {o : AObj} {c : Int} {l : List Int} {us : List (List (Int × List Int))} {rs : List Int} (hl : sh l) :
    ACall Try.prog G0 73 [SR] (sH p v o c (lV l) (lO l) us rs) (.bool (!l.any fun n => decide (n < 0))) (sH p v o c (lV l) (lO l) us rs) := by
  have h0 : ACall Try.prog G0 55 [flL l, .fn 78 [] []] [] (.bool (l.any fun n => decide (n < 0))) [] := c55 hl (fun x _ σ => c78 x σ) []
  have h1 : ACall Try.prog G0 55 [lF l, .fn 78 [] []] [] (.bool (l.any fun n => decide (n < 0))) [] := h0.arg2 (by
    cases l with
    | nil => exact fun _ _ _ h => h.flL_zs
    | cons x r => exact sub_slL _) (Sub.rfl' _)
  have h2 : ACall Try.prog G0 55 [lV l, .fn 78 [] []] (sH p v o c (lV l) (lO l) us rs) (.bool (l.any fun n => decide (n < 0))) (sH p v o c (lV l) (lO l) us rs) :=
    h1.frz gbelow0 (.bool _) rfl fun j x' hj => by
      match j, hj with
      | 0, hj => cases hj; exact ⟨_, rfl, frz_lV rfl⟩
      | 1, hj => cases hj; exact ⟨_, rfl, .inr (.inl ⟨.fn _ _ _ (fun _ _ h => by simp at h) (fun _ _ h => by simp at h), rfl⟩)⟩
      | j + 2, hj => simp at hj
  refine ACall.saysC (.all .none ?_ (fun l xs σ t v σ' h => (by cases h)) fun f xs t v h => by cases h) (run73 (l.any fun n => decide (n < 0)) p v o c (lV l) (lO l) us rs) (says_need ⟨rfl, rfl⟩ says_leaf)
  intro f xs σ t u σ' hq hs
  replace hq : clh73 _ _ _ f xs σ = some t := hq
  unfold clh73 at hq
  split at hq <;> first | (cases hq; done) | skip
  cases hq
  obtain ⟨⟨rfl, rfl⟩, hs2⟩ := Tree.of_need hs
  cases hs2
  exact h2

/-! ### newState: the first statement -/
/-- The operations of a numbered statement. -/
def opsOf : Code → Nat → List Oper
  | .seq x y, n => match opsOf x n with
    | [] => opsOf y n
    | l => l
  | .cond _ x y, n => match opsOf x n with
    | [] => opsOf y n
    | l => l
  | .block _ x, n => opsOf x n
  | .loop x, n => opsOf x n
  | .region id ops _, n => bif Nat.beq id n then ops.toList else []
  | _, _ => []
noncomputable def ops46 : List Oper := opsOf (bodyOf Try.prog 46) 1
noncomputable def op46 (i : Nat) : Oper := ops46.getD i default
theorem len46 : ops46.length = 13 := by kernel_rfl
theorem ok46 : (okDraw ops46 && okStill ops46 0 ops46.length) = true := by kernel_rfl
/-- Values, operation by operation. -/
def y46 (p : Pb) : Nat → AV
  | 0 => pAV p
  | 1 => .row (pbC p) 0
  | 2 => flL p.V
  | 3 => I p.V.length
  | 4 => .ms 1 0 0 0 p.V.length p.V.length
  | 5 => .row (pbC p) 0
  | 6 => flL p.V
  | 7 => I p.V.length
  | 8 => I (p.V.length + 1 : Nat)
  | 9 => .ms 1 1 0 0 (p.V.length + 1) (p.V.length + 1)
  | 10 => .agg [flL p.V, flLL p.C, flR p.R, .zs, I 0, .zs, .ms 1 0 0 0 p.V.length p.V.length, .ms 1 1 0 0 (p.V.length + 1) (p.V.length + 1)]
  | _ => .ref 2 0 0
def d46 : Nat → Nat
  | 12 => 3
  | i => 14 + i
def l46 (p : Pb) : Nat → List (Nat × AV × Bool)
  | 0 => [(1, .row (pbC p) 0, true), (2, .nilp, true)]
  | i + 1 => l46 p i ++ [(d46 i, y46 p i, true)]
def st46 (p : Pb) (i : Nat) (h : Heap) : St := .of 136 h (l46 p i)
theorem dst46 : ∀ i, i < 13 → (op46 i).dst = some (d46 i) := by
  have h : ((List.range 13).all fun i => decide ((op46 i).dst = some (d46 i))) = true := by kernel_rfl
  intro i hi
  exact of_decide_eq_true (List.all_eq_true.1 h i (List.mem_range.2 hi))
theorem guard46 : ∀ i, i < 13 → (op46 i).guard = none := by
  have h : ((List.range 13).all fun i => (op46 i).guard.isNone) = true := by kernel_rfl
  intro i hi
  simpa using List.all_eq_true.1 h i (List.mem_range.2 hi)
noncomputable def ρ46 (p : Pb) (i : Nat) : Operand → Option AV := (st46 p i []).evM G0 ((op46 i).looksAt ops46.toArray)
theorem p46_0 (p : Pb) (σ : Heap) : aopR Try.prog (ρ46 p 0) σ (op46 0) = some (y46 p 0, σ) := by kernel_rfl
theorem p46_1 (p : Pb) (σ : Heap) : aopR Try.prog (ρ46 p 1) σ (op46 1) = some (y46 p 1, σ) := by kernel_rfl
theorem p46_2 (p : Pb) (σ : Heap) : aopR Try.prog (ρ46 p 2) σ (op46 2) = some (y46 p 2, σ) := by kernel_rfl
theorem p46_3 (p : Pb) (σ : Heap) : aopR Try.prog (ρ46 p 3) σ (op46 3) = some (y46 p 3, σ) := by kernel_rfl
theorem p46_5 (p : Pb) (σ : Heap) : aopR Try.prog (ρ46 p 5) σ (op46 5) = some (y46 p 5, σ) := by kernel_rfl
theorem p46_6 (p : Pb) (σ : Heap) : aopR Try.prog (ρ46 p 6) σ (op46 6) = some (y46 p 6, σ) := by kernel_rfl
theorem p46_7 (p : Pb) (σ : Heap) : aopR Try.prog (ρ46 p 7) σ (op46 7) = some (y46 p 7, σ) := by kernel_rfl
theorem p46_8 (p : Pb) (σ : Heap) : aopR Try.prog (ρ46 p 8) σ (op46 8) = some (I (IntKind.i64.wrap ((p.V.length : Int) + 1)), σ) := by kernel_rfl
theorem p46_10 (p : Pb) (σ : Heap) : aopR Try.prog (ρ46 p 10) σ (op46 10) = some (y46 p 10, σ) := by kernel_rfl
theorem p46_12 (p : Pb) (σ : Heap) : aopR Try.prog (ρ46 p 12) σ (op46 12) = some (y46 p 12, σ) := by kernel_rfl
theorem p46_4 (p : Pb) (σ : Heap) : aopR Try.prog (ρ46 p 4) σ (op46 4) = aMake Try.prog σ 97 (I p.V.length) (I p.V.length) := by kernel_rfl
theorem p46_9 (p : Pb) (σ : Heap) : aopR Try.prog (ρ46 p 9) σ (op46 9) = aMake Try.prog σ 22 (I (p.V.length + 1 : Nat)) (I (p.V.length + 1 : Nat)) := by kernel_rfl
theorem p46_11 (p : Pb) (σ : Heap) : aopR Try.prog (ρ46 p 11) σ (op46 11) = some (.ref σ.length 0 0, σ ++ [.cells 0 [flL p.V, flLL p.C, flR p.R, .zs, I 0, .zs, .ms 1 0 0 0 p.V.length p.V.length, .ms 1 1 0 0 (p.V.length + 1) (p.V.length + 1)]]) := by kernel_rfl

def s46 (p : Pb) : List AV := [flL p.V, flLL p.C, flR p.R, .zs, I 0, .zs, .ms 1 0 0 0 p.V.length p.V.length, .ms 1 1 0 0 (p.V.length + 1) (p.V.length + 1)]
/-- The heap, by what has been carried out. -/
def H46 (p : Pb) (f : Nat → Bool) : Heap := (if f 4 then .cells 0 (repl p.V.length [.zs]) else .resv) :: (if f 9 then .cells 0 (repl (p.V.length + 1) [I 0]) else .resv) :: (if f 11 then .cells 0 (s46 p) else .resv) :: List.replicate (4 + p.V.length) .resv
theorem make46 {t e : TypeId} {n : Nat} (σ : Heap) {z : AV} (he : Elem1 t e) (hz : aZero Try.prog e = some z) (hc : z.cells = [z]) (hn : n ≤ 16777216) : aMake Try.prog σ t (I n) (I n) = some (.ms 1 σ.length 0 0 n n, σ ++ [.cells 0 (repl n [z])]) := by
  obtain ⟨ie, zx, h1, h2, h3, h4, h5, h6⟩ := he.i
  rw [hz] at h2
  cases h2
  unfold aMake
  rw [he.u]
  simp only [h1, hz]
  rw [hc] at h5 h6 ⊢
  rw [if_pos ⟨by omega, by omega, by omega, h4, by rw [h3]; rfl, h6⟩]
  simp [h3]
theorem el97 : Elem1 97 102 := elem1 Try.underlying97 (by kernel_rfl) (by kernel_rfl)
theorem z102 : aZero Try.prog 102 = some .zs := by kernel_rfl
theorem z3 : aZero Try.prog 3 = some (I 0) := by kernel_rfl
theorem below_repl {m n : Nat} {z : AV} (hz : Below m z) : ∀ x ∈ repl n [z], Below m x := by
  induction n with
  | zero => intro x hx; cases hx
  | succ n ih =>
    intro x hx
    unfold repl at hx
    rcases List.mem_append.1 hx with h | h
    · rw [List.mem_singleton.1 h]; exact hz
    · exact ih x h
/-- One operation's worth, where it leaves the heap alone. -/
theorem worth46 {p : Pb} {m : List Nat} {i : Nat} (hi : i < 13) (h4 : i ≠ 4) (h9 : i ≠ 9) (h11 : i ≠ 11) (hv : ∀ σ, aopR Try.prog (ρ46 p i) σ (op46 i) = some (y46 p i, σ)) : WorthM Try.prog G0 (H46 p) ops46 m i (op46 i) (masked ((op46 i).looksAt ops46.toArray) (st46 p i []).a) (y46 p i) := by
  intro f hc hlen hu hp
  refine .inl ⟨wanted_none (guard46 i hi), ?_⟩
  have e : H46 p (fun j => decide (j = i) || f j) = H46 p f := by
    unfold H46
    simp [Ne.symm h4, Ne.symm h9, Ne.symm h11]
  rw [e]
  refine AStep.op ?_
  rw [aopR_eq, St.evM_eq]
  exact hv _
/-- The same, where it makes an object. -/
theorem worth46s {p : Pb} {m : List Nat} {i r s len cap : Nat} {c : List AV} (hi : i < 13) (hv : ∀ σ, aopR Try.prog (ρ46 p i) σ (op46 i) = some (.ms s σ.length 0 0 len cap, σ ++ [.cells 0 c])) (hb : ∀ n, ∀ x ∈ c, Below n x)
    (hr : ∀ f : Nat → Bool, f i = false → (H46 p f)[r]? = some .resv) (hs : ∀ f : Nat → Bool, (H46 p f).set r (.cells 0 c) = H46 p (fun j => decide (j = i) || f j)) :
    WorthM Try.prog G0 (H46 p) ops46 m i (op46 i) (masked ((op46 i).looksAt ops46.toArray) (st46 p i []).a) (.ms s r 0 0 len cap) := by
  intro f hc hlen hu hp
  refine .inl ⟨wanted_none (guard46 i hi), ?_⟩
  rw [← hs f]
  refine AStep.slot (AStep.op ?_) (hr f hu) fun _ _ _ _ _ => hb _
  rw [aopR_eq, St.evM_eq]
  exact hv _
theorem put46 (p : Pb) (i : Nat) (hi : i < 13) : (AAct.put { tmps := (st46 p i []).a } (op46 i).dst (y46 p i)).tmps = (st46 p (i + 1) []).a := by
  rw [dst46 i hi]
  have := St.put_a (st46 p i []) (some (d46 i)) (y46 p i) true [] []
  have h2 := congrArg AAct.tmps this
  refine h2.trans ?_
  unfold St.put st46 St.of
  simp only [l46, List.foldl_append, List.foldl_cons, List.foldl_nil]
theorem AStep.slotR {a : AAct} {o : Oper} {σ : Heap} {r g off : Nat} {c : List AV} (h : AStep Try.prog G0 a σ o (.ref σ.length g off) (σ ++ [.cells g c])) (hr : σ[r]? = some .resv) (hb : ∀ w M ac, Inv G0 w M σ → RAct w M ac a → ∀ x ∈ c, Below σ.length x) :
    AStep Try.prog G0 a σ o (.ref r g off) (σ.set r (.cells g c)) := by
  intro r0 w M ac K Q hi ha hK
  refine h r0 w M ac K Q hi ha fun v w' M' hv he hi' => ?_
  obtain ⟨h1, h2⟩ := hi.slot he hi' hr (hb w M ac hi ha)
  exact hK v w' _ (Re.ref slotP_at w' M' v hi' hv) h1 h2
theorem below_s46 {m : Nat} (hm : 2 ≤ m) (p : Pb) : ∀ x ∈ s46 p, Below m x := fun x hx => by
  simp only [s46, List.mem_cons, List.not_mem_nil, or_false] at hx
  rcases hx with rfl | rfl | rfl | rfl | rfl | rfl | rfl | rfl
  · exact below_flL _
  · exact below_flLL _
  · exact (below_flR _).up
  · exact .zs
  · exact .int _ _
  · exact .zs
  · exact .ms _ _ _ _ _ _ (by omega)
  · exact .ms _ _ _ _ _ _ (by omega)
theorem worth46b {p : Pb} {m : List Nat} : WorthM Try.prog G0 (H46 p) ops46 m 11 (op46 11) (masked ((op46 11).looksAt ops46.toArray) (st46 p 11 []).a) (y46 p 11) := by
  intro f hc hlen hu hp
  refine .inl ⟨wanted_none (guard46 11 (by omega)), ?_⟩
  have hs : (H46 p f).set 2 (.cells 0 (s46 p)) = H46 p (fun j => decide (j = 11) || f j) := by
    unfold H46
    simp
  rw [← hs]
  refine AStep.slotR (AStep.op ?_) ?_ fun _ _ _ _ _ => below_s46 (by unfold H46; simp) p
  · rw [aopR_eq, St.evM_eq]
    exact p46_11 p _
  · unfold H46
    simp [hu]
theorem drop46 (i : Nat) (hi : i < 13) : ops46.drop i = op46 i :: ops46.drop (i + 1) := by
  have hl : i < ops46.length := by rw [len46]; exact hi
  have e : op46 i = ops46[i]'hl := by unfold op46; rw [List.getD_eq_getElem?_getD, List.getElem?_eq_getElem hl]; rfl
  rw [e]
  exact List.drop_eq_getElem_cons hl
theorem worthAll {p : Pb} (hn : p.V.length ≤ 24) {m : List Nat} (i : Nat) (hi : i < 13) : WorthM Try.prog G0 (H46 p) ops46 m i (op46 i) (masked ((op46 i).looksAt ops46.toArray) (st46 p i []).a) (y46 p i) := by
  have hw : IntKind.i64.wrap ((p.V.length : Int) + 1) = ((p.V.length + 1 : Nat) : Int) := wrap_i64 (by omega) (by omega)
  match i, hi with
  | 0, _ => exact worth46 (by omega) (by omega) (by omega) (by omega) (p46_0 p)
  | 1, _ => exact worth46 (by omega) (by omega) (by omega) (by omega) (p46_1 p)
  | 2, _ => exact worth46 (by omega) (by omega) (by omega) (by omega) (p46_2 p)
  | 3, _ => exact worth46 (by omega) (by omega) (by omega) (by omega) (p46_3 p)
  | 4, _ => exact worth46s (r := 0) (by omega) (fun σ => (p46_4 p σ).trans (make46 σ el97 z102 rfl (by omega))) (fun n => below_repl .zs) (fun f hf => by unfold H46; simp [hf]) (fun f => by unfold H46; simp)
  | 5, _ => exact worth46 (by omega) (by omega) (by omega) (by omega) (p46_5 p)
  | 6, _ => exact worth46 (by omega) (by omega) (by omega) (by omega) (p46_6 p)
  | 7, _ => exact worth46 (by omega) (by omega) (by omega) (by omega) (p46_7 p)
  | 8, _ => exact worth46 (by omega) (by omega) (by omega) (by omega) (fun σ => by rw [p46_8, hw]; rfl)
  | 9, _ => exact worth46s (r := 1) (by omega) (fun σ => (p46_9 p σ).trans (make46 σ el22 z3 rfl (by omega))) (fun n => below_repl (.int _ _)) (fun f hf => by unfold H46; simp [hf]) (fun f => by unfold H46; simp)
  | 10, _ => exact worth46 (by omega) (by omega) (by omega) (by omega) (p46_10 p)
  | 11, _ => exact worth46b
  | 12, _ => exact worth46 (by omega) (by omega) (by omega) (by omega) (p46_12 p)
theorem opsM46 {p : Pb} (hn : p.V.length ≤ 24) {m : List Nat} : ∀ (d i : Nat), i + d = 13 → AOpsM Try.prog G0 (H46 p) ops46 m i (ops46.drop i) (st46 p i []).a (st46 p 13 []).a
  | 0, i, hi => by
    obtain rfl : i = 13 := by omega
    rw [List.drop_eq_nil_of_le (by rw [len46]; omega)]
    exact .nil _ _
  | d + 1, i, hi => by
    rw [drop46 i (by omega)]
    refine .step (worthAll hn i (by omega)) ?_
    rw [put46 p i (by omega)]
    exact opsM46 hn d (i + 1) (by omega)
/-- THE FIRST STATEMENT. -/
theorem first46 {p : Pb} (hn : p.V.length ≤ 24) {R : Option Nat → Prop} : AExec Try.prog G0 R (.region 1 ops46.toArray true) { tmps := (st46 p 0 []).a } (List.replicate (7 + p.V.length) .resv) .normal { tmps := (st46 p 13 []).a } (.cells 0 (repl p.V.length [.zs]) :: .cells 0 (repl (p.V.length + 1) [I 0]) :: .cells 0 (s46 p) :: List.replicate (4 + p.V.length) .resv) := by
  obtain ⟨h1, h2⟩ := Bool.and_eq_true_iff.1 ok46
  have key := (opsM46 hn (m := []) 13 0 rfl).draw (R := R) (id := 1) mixed h1 h2
  have e0 : H46 p (fun _ => false) = List.replicate (7 + p.V.length) .resv := by
    unfold H46
    have : 7 + p.V.length = (4 + p.V.length) + 1 + 1 + 1 := by omega
    rw [this, List.replicate_succ, List.replicate_succ, List.replicate_succ]
    rfl
  have e1 : H46 p (fun j => decide (j < ops46.length)) = .cells 0 (repl p.V.length [.zs]) :: .cells 0 (repl (p.V.length + 1) [I 0]) :: .cells 0 (s46 p) :: List.replicate (4 + p.V.length) .resv := by
    unfold H46
    rw [len46]
    simp
  rw [e0, e1] at key
  exact key
end Go.Proofs.Ytngaihdpmoajeaa.Am

namespace Go.Proofs.Ytngaihdpmoajeaa.Am
open Go
set_option maxRecDepth 100000

/-! ### The least costs from each variable on -/
noncomputable def b46 : Code := bodyOf Try.prog 46
noncomputable def lp46 (i : Nat) : Code := ((loopsOf b46).drop i).headD .skip
theorem ids46 : (loopsOf b46).map idOf = [3, 7, 11, 17] := by kernel_rfl
noncomputable def bodyR : Code := lp46 0
noncomputable def bodyO : Code := lp46 1
noncomputable def bodyM : Code := lp46 2
noncomputable def bodyI : Code := lp46 3
theorem loopsO : loopsOf bodyO = [bodyM, bodyI] := by kernel_rfl
theorem loopsM : loopsOf bodyM = [bodyI] := by kernel_rfl
theorem loops46 : loopsOf b46 = [bodyR, bodyO, bodyM, bodyI] := by kernel_rfl
def stR (p : Pb) (rcs : List AV) (i : Int) (Y : Heap) : St := .of 136 (.cells 0 (repl p.V.length [.zs]) :: .cells 0 rcs :: .cells 0 (s46 p) :: Y) [(1, .row (pbC p) 0, true), (2, .nilp, true), (3, .ref 2 0 0, true), (4, I i, true)]
theorem runR (q : Prop) (p : Pb) (rcs : List AV) (i : Int) (Y : Heap) : xBody Try.prog G0 { EG q [(36, [flL (p.C.getD i.toNat [])], I (minL (p.C.getD i.toNat [])))] with boxRow := false, hint := hArrG 22 3 .i64 1 } 200 noLoops [1, 2, 3, 4] bodyR (stR p rcs i Y) = .ite (decide (i ≥ (0 : Int))) (.need (((0 : Int) ≤ IntKind.i64.wrap (i + (1 : Int))) ∧ ((IntKind.i64.wrap (i + (1 : Int)) < (↑(p.V.length + (1 : Nat)) : Int)) ∧ ((0 : Nat) = (0 : Nat)))) (.need (((0 : Nat) = (0 : Nat)) ∧ (∃ n, rcs[(IntKind.i64.wrap (i + (1 : Int))).toNat]? = some (AV.int IntKind.i64 n))) (.need (((0 : Int) ≤ i) ∧ (i < (↑p.C.length : Int))) (.need (q) (.need ([(flL (p.C.getD i.toNat []))] = [(flL (p.C.getD i.toNat []))]) (.need (((0 : Int) ≤ i) ∧ ((i < (↑(p.V.length + (1 : Nat)) : Int)) ∧ ((0 : Nat) = (0 : Nat)))) (.need (((0 : Nat) = (0 : Nat)) ∧ ((i.toNat) < (List.length rcs))) (.leaf (Exit.normal, St.of 136 ((AObj.cells (0 : Nat) (repl p.V.length [AV.zs])) :: ((AObj.cells (0 : Nat) (setL rcs (i.toNat) [(I (IntKind.i64.wrap (intOf (rcs.getD (IntKind.i64.wrap (i + (1 : Int))).toNat AV.junk) + minL (p.C.getD i.toNat []))))])) :: ((AObj.cells (0 : Nat) [(flL (p.V)), (flLL (p.C)), (flR (p.R)), AV.zs, (I ((0 : Int))), AV.zs, (AV.ms (1 : Nat) (0 : Nat) (0 : Nat) (0 : Nat) (List.length (p.V)) (List.length (p.V))), (AV.ms (1 : Nat) (1 : Nat) (0 : Nat) (0 : Nat) (p.V.length + (1 : Nat)) (p.V.length + (1 : Nat)))]) :: Y))) [(1, (AV.row [(flL (p.V)), (flLL (p.C)), (flR (p.R))] (0 : Nat)), true), (2, AV.nilp, true), (3, (AV.ref (2 : Nat) (0 : Nat) (0 : Nat)), true), (4, (I (IntKind.i64.wrap (i - (1 : Int)))), true)]))))))))) (.leaf ((Exit.exit (0 : Nat)), St.of 136 ((AObj.cells (0 : Nat) (repl p.V.length [AV.zs])) :: ((AObj.cells (0 : Nat) rcs) :: ((AObj.cells (0 : Nat) [(flL (p.V)), (flLL (p.C)), (flR (p.R)), AV.zs, (I ((0 : Int))), AV.zs, (AV.ms (1 : Nat) (0 : Nat) (0 : Nat) (0 : Nat) (List.length (p.V)) (List.length (p.V))), (AV.ms (1 : Nat) (1 : Nat) (0 : Nat) (0 : Nat) (p.V.length + (1 : Nat)) (p.V.length + (1 : Nat)))]) :: Y))) [(1, (AV.row [(flL (p.V)), (flLL (p.C)), (flR (p.R))] (0 : Nat)), true), (2, AV.nilp, true), (3, (AV.ref (2 : Nat) (0 : Nat) (0 : Nat)), true), (4, (I i), true)])) := by kernel_rfl

/-! ### The heap while the rules are read -/
/-- ucs: the uses' cells; rcs: the rest's; lv, lo: what is left; X, Uo, Lo: the round's own variables; Y: the uses' places. -/
def hN (p : Pb) (ucs rcs : List AV) (lv : AV) (lo X Uo Lo : AObj) (Y : Heap) : Heap :=
  .cells 0 ucs :: .cells 0 rcs :: .cells 0 [flL p.V, flLL p.C, flR p.R, .zs, I 0, lv, .ms 1 0 0 0 p.V.length p.V.length, .ms 1 1 0 0 (p.V.length + 1) (p.V.length + 1)] :: lo :: X :: Uo :: Lo :: Y
/-- A variable is made at a place. -/
def hAlO (t : TypeId) (r : Nat) (z : List AV) : Heap → Oper → (Operand → Option AV) → Option (AV × Bool × Heap × Prop) := fun h o _ => match o.op with
  | .alloc t' => bif Nat.beq t' t then some (.ref r 0 0, true, h.set r (.cells 0 z), h[r]? = some .resv) else none
  | _ => none
theorem hAlO_ok {t : TypeId} (r : Nat) {z : List AV} (hz : (aZero Try.prog t).map AV.cells = some z) (h1 : z.all AV.one = true) (hb : ∀ n, ∀ x ∈ z, Below n x) : HintOk Try.prog G0 (hAlO t r z) := by
  refine ⟨fun h o a m y tg h' p hh hp => ?_, fun h o ρ y tg h' p hh hp hq => ?_⟩
  · unfold hAlO at hh
    split at hh <;> first | (cases hh; done) | skip
    rename_i t' ho
    cases ht : Nat.beq t' t with
    | false => rw [ht] at hh; cases hh
    | true =>
    rw [ht, cond_true] at hh
    obtain rfl := Nat.eq_of_beq_eq_true ht
    cases hh
    obtain ⟨zz, e1, e2⟩ := Option.map_eq_some_iff.1 hz
    refine AStep.slotR (AStep.op ?_) hp fun _ _ _ _ _ => hb _
    rw [aopR_eq]
    unfold aopR
    simp only [ho, aAlloc, e1, Option.bind_some, aBox, aNew, e2, h1, if_true]
  · unfold hAlO at hh
    split at hh <;> first | (cases hh; done) | skip
    rename_i t' ho
    exfalso
    revert hq
    unfold Am.quiet
    rw [ho]
    simp
/-- A value of one cell, loaded from an unknown place of the object r. -/
def hLdO (t : TypeId) (r : Nat) (v : AV) : Heap → Oper → (Operand → Option AV) → Option (AV × Bool × Heap × Prop) := fun h o ρ => match o.op with
  | .load t' x => bif Nat.beq t' t then (match ρ x with
    | some (.ref r' g off) => bif Nat.beq r' r then (match h[r]? with
      | some (.cells g' c) => some (v, true, h, g' = g ∧ c[off]? = some v)
      | _ => none) else none
    | _ => none) else none
  | _ => none
theorem hLdO_ok {t : TypeId} {d : TypeDesc} (r : Nat) (hu : Try.prog.underlying t = some d) (hd : aggD d = false) (v : AV) : HintA Try.prog (hLdO t r v) := by
  intro h o ρ y s h' p hh hp
  unfold hLdO at hh
  split at hh <;> first | (cases hh; done) | skip
  rename_i t' x ho
  cases ht : Nat.beq t' t with
  | false => rw [ht] at hh; cases hh
  | true =>
  rw [ht, cond_true] at hh
  obtain rfl := Nat.eq_of_beq_eq_true ht
  split at hh <;> first | (cases hh; done) | skip
  rename_i r' g off hx
  cases hr : Nat.beq r' r with
  | false => rw [hr] at hh; cases hh
  | true =>
  rw [hr, cond_true] at hh
  obtain rfl := Nat.eq_of_beq_eq_true hr
  split at hh <;> first | (cases hh; done) | skip
  rename_i g' c hc
  cases hh
  obtain ⟨rfl, hv⟩ := hp
  have hobj : objAt h r' g' = some c := by unfold objAt; rw [hc]; simp
  unfold aopR
  simp only [ho, hx, Option.bind_some, aLoad, hobj]
  unfold Am.cut
  rw [hu]
  simp only [hd, Bool.false_eq_true, if_false, hv, Option.map_some]
/-- Growing at a place among the uses'. -/
def hApY (t : TypeId) (s r : Nat) (row : List AV) (v v' : AV) (o o' : AObj) (h0 Y' : Heap) (g : Prop) : Heap → Oper → (Operand → Option AV) → Option (AV × Bool × Heap × Prop) := fun h oo ρ => match oo.op with
  | .call { callee := .builtin .append, args := args, argTypes := ts } => bif ts == #[t, t] then some (v', true, h.take 7 ++ Y', evAllR ρ args.toList = some [v, .sl s [row]] ∧ h = h0 ∧ g ∧ h0[r]? = some o ∧ h0.set r o' = h0.take 7 ++ Y') else none
  | _ => none
theorem hApY_ok {t e : TypeId} {s : Nat} (he : ElemS t e s) {r : Nat} {row : List AV} {v v' : AV} {o o' : AObj} {h0 Y' : Heap} {g : Prop} (hg : g → Grow s r row v v' o o') : HintOk Try.prog G0 (hApY t s r row v v' o o' h0 Y' g) := by
  refine ⟨fun h oo a m y tg h' p hh hp => ?_, fun h oo ρ y tg h' p hh hp hq => ?_⟩
  · unfold hApY at hh
    split at hh <;> first | (cases hh; done) | skip
    rename_i args ts ho
    cases hts : ts == #[t, t] with
    | false => rw [hts] at hh; cases hh
    | true =>
    rw [hts, cond_true] at hh
    cases hh
    obtain ⟨p1, rfl, p3, p2, p4⟩ := hp
    rw [← p4]
    refine (hApO_ok he hg).step h oo a m _ true _ (evAllR (ev G0 a) args.toList = some [v, .sl s [row]] ∧ h[r]? = some o ∧ g) ?_ ⟨p1, p2, p3⟩
    unfold hApO
    rw [ho]
    simp only [hts, cond_true]
  · unfold hApY at hh
    split at hh <;> first | (cases hh; done) | skip
    rename_i args ts ho
    exfalso
    revert hq
    unfold Am.quiet
    rw [ho]
    simp
/-- A list of one struct, told beforehand. -/
def hLitO (t : TypeId) (s : Nat) (row : List AV) : Heap → Oper → (Operand → Option AV) → Option (AV × Bool × Heap × Prop) := fun h o ρ => match o.op with
  | .buildSlice t' n ps => bif Nat.beq t' t && Nat.beq n 1 then some (.sl s [row], true, h, evPartsR ρ ps.toList = some [(0, .agg row)] ∧ row.length = s ∧ ∀ x ∈ row, x.one = true) else none
  | _ => none
theorem hLitO_ok {t e : TypeId} {s : Nat} (he : ElemS t e s) (hs : s ≤ 1000) (row : List AV) : HintA Try.prog (hLitO t s row) := by
  intro h o ρ y tg h' p hh hp
  unfold hLitO at hh
  split at hh <;> first | (cases hh; done) | skip
  rename_i t' n ps ho
  cases hb : Nat.beq t' t && Nat.beq n 1 with
  | false => rw [hb] at hh; cases hh
  | true =>
  rw [hb, cond_true] at hh
  obtain ⟨h1, h2⟩ := Bool.and_eq_true_iff.1 hb
  obtain rfl := Nat.eq_of_beq_eq_true h1
  obtain rfl := Nat.eq_of_beq_eq_true h2
  cases hh
  obtain ⟨p1, p2, p3⟩ := hp
  obtain ⟨ie, zx, e1, e2, e3, e4, e5, e6⟩ := he.i
  have hall : row.all AV.one = true := List.all_eq_true.2 p3
  unfold aopR
  simp only [ho, p1, Option.bind_some]
  unfold aLit
  rw [he.u]
  simp only [e1, e2, e3]
  rw [if_pos (by omega), if_neg (by omega)]
  unfold fillA
  have hc : (AV.agg row).cells = row := rfl
  simp only [hc]
  rw [if_pos ⟨p2, by simp [p2], hall⟩]
  unfold fillA
  have ht : row.take s = row := List.take_of_length_le (by omega)
  simp [setL, p2, chunk, ht]
/-! ### The weights of one variable -/
def stI (p : Pb) (ucs rcs : List AV) (lv : AV) (lo X : AObj) (r : Int) (ls : AV) (Lo : AObj) (Y : Heap) (left k v least : Int) (x : Rl) (w : List Int) (j : Int) : St :=
  .of 136 (hN p ucs rcs lv lo X (.cells 0 [I r, ls]) Lo Y) [(1, .row (pbC p) 0, true), (3, .ref 2 0 0, true), (5, I r, true), (6, .ref 4 0 0, true), (7, I left, true), (9, I v, true), (10, I least, true), (11, .ref 5 0 0, true), (56, flR p.R, true), (57, I p.R.length, true), (58, I r, true), (66, flL x.v, true), (67, I x.v.length, true), (68, I k, true), (88, flL w, true), (89, I w.length, true), (90, I j, true)]
def keepI : List Nat := [1, 3, 5, 6, 7, 9, 10, 11, 56, 57, 58, 66, 67, 68, 88, 89, 90]
def EI (n : Int) (ls ls' : AV) (Lo Lo' : AObj) (g : Prop) : Env := { boxRow := false, hint := orH (hApO 22 1 6 [I n] ls ls' Lo Lo' g) (hSto 22 5) }
theorem runI (g : Prop) (p : Pb) (ucs rcs : List AV) (lv : AV) (lo X : AObj) (r : Int) (ls ls' : AV) (Lo Lo' : AObj) (Y : Heap) (left k v least : Int) (x : Rl) (w : List Int) (j : Int) : xBody Try.prog G0 (EI (IntKind.i64.wrap (w.getD j.toNat 0 - least)) ls ls' Lo Lo' g) 200 noLoops keepI bodyI (stI p ucs rcs lv lo X r ls Lo Y left k v least x w j) = .ite (decide (j < (↑w.length : Int))) (.need (((0 : Int) ≤ j) ∧ (j < (↑w.length : Int))) (.need (((Option.some [ls, (AV.sl (1 : Nat) [[(I (IntKind.i64.wrap (w.getD j.toNat (0 : Int) - least)))]])]) = (Option.some [ls, (AV.sl (1 : Nat) [[(I (IntKind.i64.wrap (w.getD j.toNat (0 : Int) - least)))]])])) ∧ (((Option.some Lo) = (Option.some Lo)) ∧ (g))) (.need (((AV.one ls') = true) ∧ ((1 : Nat) < (2 : Nat))) (.leaf (Exit.normal, St.of 136 ((AObj.cells (0 : Nat) ucs) :: ((AObj.cells (0 : Nat) rcs) :: ((AObj.cells (0 : Nat) [(flL (p.V)), (flLL (p.C)), (flR (p.R)), AV.zs, (I ((0 : Int))), lv, (AV.ms (1 : Nat) (0 : Nat) (0 : Nat) (0 : Nat) (List.length (p.V)) (List.length (p.V))), (AV.ms (1 : Nat) (1 : Nat) (0 : Nat) (0 : Nat) (p.V.length + (1 : Nat)) (p.V.length + (1 : Nat)))]) :: (lo :: (X :: ((AObj.cells (0 : Nat) (setL [(I r), ls] (1 : Nat) [ls'])) :: (Lo' :: Y))))))) [(1, (AV.row [(flL (p.V)), (flLL (p.C)), (flR (p.R))] (0 : Nat)), true), (3, (AV.ref (2 : Nat) (0 : Nat) (0 : Nat)), true), (5, (I r), true), (6, (AV.ref (4 : Nat) (0 : Nat) (0 : Nat)), true), (7, (I left), true), (9, (I v), true), (10, (I least), true), (11, (AV.ref (5 : Nat) (0 : Nat) (0 : Nat)), true), (56, (flR (p.R)), true), (57, (I ((↑p.R.length : Int))), true), (58, (I r), true), (66, (flL (x.v)), true), (67, (I ((↑x.v.length : Int))), true), (68, (I k), true), (88, (flL (w)), true), (89, (I ((↑w.length : Int))), true), (90, (I (IntKind.i64.wrap (j + (1 : Int)))), true)]))))) (.leaf ((Exit.exit (6 : Nat)), St.of 136 ((AObj.cells (0 : Nat) ucs) :: ((AObj.cells (0 : Nat) rcs) :: ((AObj.cells (0 : Nat) [(flL (p.V)), (flLL (p.C)), (flR (p.R)), AV.zs, (I ((0 : Int))), lv, (AV.ms (1 : Nat) (0 : Nat) (0 : Nat) (0 : Nat) (List.length (p.V)) (List.length (p.V))), (AV.ms (1 : Nat) (1 : Nat) (0 : Nat) (0 : Nat) (p.V.length + (1 : Nat)) (p.V.length + (1 : Nat)))]) :: (lo :: (X :: ((AObj.cells (0 : Nat) [(I r), ls]) :: (Lo :: Y))))))) [(1, (AV.row [(flL (p.V)), (flLL (p.C)), (flR (p.R))] (0 : Nat)), true), (3, (AV.ref (2 : Nat) (0 : Nat) (0 : Nat)), true), (5, (I r), true), (6, (AV.ref (4 : Nat) (0 : Nat) (0 : Nat)), true), (7, (I left), true), (9, (I v), true), (10, (I least), true), (11, (AV.ref (5 : Nat) (0 : Nat) (0 : Nat)), true), (56, (flR (p.R)), true), (57, (I ((↑p.R.length : Int))), true), (58, (I r), true), (66, (flL (x.v)), true), (67, (I ((↑x.v.length : Int))), true), (68, (I k), true), (88, (flL (w)), true), (89, (I ((↑w.length : Int))), true), (90, (I j), true)])) := by kernel_rfl

/-! ### One variable of a rule -/
def stM (p : Pb) (ucs rcs : List AV) (lv : AV) (lo : AObj) (Uo Lo : AObj) (r : Int) (Y : Heap) (left k : Int) (x : Rl) : St :=
  .of 136 (hN p ucs rcs lv lo (.cells 0 (rlC x)) Uo Lo Y) [(1, .row (pbC p) 0, true), (3, .ref 2 0 0, true), (5, I r, true), (6, .ref 4 0 0, true), (7, I left, true), (56, flR p.R, true), (57, I p.R.length, true), (58, I r, true), (66, flL x.v, true), (67, I x.v.length, true), (68, I k, true)]
def keepM : List Nat := [1, 3, 5, 6, 7, 56, 57, 58, 66, 67, 68]
/-- Calls known by their arguments and the heap. -/
def clhK (f0 : FuncId) (xs : List AV) (v : AV) (h : Heap) : FuncId → List AV → Heap → Option (Tree (AV × Heap)) := fun f ys h0 => bif Nat.beq f f0 then some (.need (ys = xs ∧ h0 = h) (.leaf (v, h))) else some .fail
theorem clhK_ok {f0 : FuncId} {xs : List AV} {v : AV} {h : Heap} (hc : ACall Try.prog G0 f0 xs h v h) : ∀ f ys σ t u σ', clhK f0 xs v h f ys σ = some t → t.sel = some (u, σ') → ACall Try.prog G0 f ys σ u σ' := by
  intro f ys σ t u σ' hq hs
  unfold clhK at hq
  cases hf : Nat.beq f f0 with
  | false => rw [hf] at hq; cases hq; cases hs
  | true =>
    rw [hf, cond_true] at hq
    cases hq
    obtain ⟨⟨rfl, rfl⟩, h2⟩ := Tree.of_need hs
    cases h2
    obtain rfl := Nat.eq_of_beq_eq_true hf
    exact hc
def EM (w : List Int) (ls : AV) (mxv : Int) (h0 : Heap) (v r : Int) (uv uv' : AV) (uo uo' : AObj) (Y' : Heap) (g : Prop) : Env :=
  { boxRow := false, cl := (EG True [(36, [flL w], I (minL w))]).cl, clh := clhK 68 [ls] (I mxv) h0, hint := orH (hAlO 101 5 [I 0, .zs]) (orH (hLdO 102 0 uv) (orH (hApY 102 2 (7 + v.toNat) [I r, ls] uv uv' uo uo' h0 Y' g) (orH (hLitO 102 2 [I r, ls]) (hSto 102 0)))) }
noncomputable def mvM (h0 h1 h2 : Heap) : Nat → Option (List Nat × (Nat → Heap)) := fun id => bif Nat.beq id 22 then some ([14, 16], fun n => match n with
  | 0 => h0
  | 1 => h1
  | _ => h2) else none
theorem runV (g : Prop) (p : Pb) (ucs rcs : List AV) (lv : AV) (lo : AObj) (r : Int) (ls : AV) (Lo : AObj) (Y Y' : Heap) (left k : Int) (x : Rl) (mxv : Int) (uv uv' : AV) (uo uo' : AObj) : xBodyM Try.prog G0 (EM (x.w.getD k.toNat []) ls mxv (hN p ucs rcs lv lo (.cells 0 (rlC x)) (.cells 0 [I r, ls]) Lo Y) (x.v.getD k.toNat 0) r uv uv' uo uo' Y' g) (mvM (hN p ucs rcs lv lo (.cells 0 (rlC x)) (.cells 0 [I r, ls]) Lo Y) (hN p ucs rcs lv lo (.cells 0 (rlC x)) (.cells 0 [I r, ls]) Lo Y') (hN p (setL ucs (0 + (x.v.getD k.toNat 0).toNat * 1) [uv']) rcs lv lo (.cells 0 (rlC x)) (.cells 0 [I r, ls]) Lo Y')) 200 (lpB 17 keepI (stI p ucs rcs lv lo (.cells 0 (rlC x)) r .zs .resv Y (IntKind.i64.wrap (left - minL (x.w.getD k.toNat []))) k (x.v.getD k.toNat 0) (minL (x.w.getD k.toNat [])) x (x.w.getD k.toNat []) 0) (.exit 6) (stI p ucs rcs lv lo (.cells 0 (rlC x)) r ls Lo Y (IntKind.i64.wrap (left - minL (x.w.getD k.toNat []))) k (x.v.getD k.toNat 0) (minL (x.w.getD k.toNat [])) x (x.w.getD k.toNat []) (x.w.getD k.toNat []).length)) keepM bodyM (stM p ucs rcs lv lo .resv .resv r Y left k x) = .ite (decide (k < (↑x.v.length : Int))) (.need (((0 : Int) ≤ k) ∧ (k < (↑x.v.length : Int))) (.need (((0 : Int) ≤ k) ∧ (k < (↑x.w.length : Int))) (.need (True) (.need ([(flL (x.w.getD k.toNat []))] = [(flL (x.w.getD k.toNat []))]) (.need ((Option.some AObj.resv) = (Option.some AObj.resv)) (.need (((0 : Int) ≤ k) ∧ (k < (↑x.w.length : Int))) (.need ((stI p ucs rcs lv lo (.cells 0 (rlC x)) r .zs .resv Y (IntKind.i64.wrap (left - minL (x.w.getD k.toNat []))) k (x.v.getD k.toNat 0) (minL (x.w.getD k.toNat [])) x (x.w.getD k.toNat []) 0).vals = (stI p ucs rcs lv lo (.cells 0 (rlC x)) r .zs .resv Y (IntKind.i64.wrap (left - minL (x.w.getD k.toNat []))) k (x.v.getD k.toNat 0) (minL (x.w.getD k.toNat [])) x (x.w.getD k.toNat []) 0).vals) (.need (([ls] = [ls]) ∧ (((AObj.cells (0 : Nat) ucs) :: ((AObj.cells (0 : Nat) rcs) :: ((AObj.cells (0 : Nat) [(flL (p.V)), (flLL (p.C)), (flR (p.R)), AV.zs, (I ((0 : Int))), lv, (AV.ms (1 : Nat) (0 : Nat) (0 : Nat) (0 : Nat) (List.length (p.V)) (List.length (p.V))), (AV.ms (1 : Nat) (1 : Nat) (0 : Nat) (0 : Nat) (p.V.length + (1 : Nat)) (p.V.length + (1 : Nat)))]) :: (lo :: ((AObj.cells (0 : Nat) [(I (x.d)), (flL (x.v)), (flLL (x.w)), (I (x.m))]) :: ((AObj.cells (0 : Nat) [(I r), ls]) :: (Lo :: Y))))))) = ((AObj.cells (0 : Nat) ucs) :: ((AObj.cells (0 : Nat) rcs) :: ((AObj.cells (0 : Nat) [(flL (p.V)), (flLL (p.C)), (flR (p.R)), AV.zs, (I ((0 : Int))), lv, (AV.ms (1 : Nat) (0 : Nat) (0 : Nat) (0 : Nat) (List.length (p.V)) (List.length (p.V))), (AV.ms (1 : Nat) (1 : Nat) (0 : Nat) (0 : Nat) (p.V.length + (1 : Nat)) (p.V.length + (1 : Nat)))]) :: (lo :: ((AObj.cells (0 : Nat) [(I (x.d)), (flL (x.v)), (flLL (x.w)), (I (x.m))]) :: ((AObj.cells (0 : Nat) [(I r), ls]) :: (Lo :: Y))))))))) (.ite (decide (mxv > (0 : Int))) (.need (((AObj.cells (0 : Nat) ucs) :: ((AObj.cells (0 : Nat) rcs) :: ((AObj.cells (0 : Nat) [(flL (p.V)), (flLL (p.C)), (flR (p.R)), AV.zs, (I ((0 : Int))), lv, (AV.ms (1 : Nat) (0 : Nat) (0 : Nat) (0 : Nat) (List.length (p.V)) (List.length (p.V))), (AV.ms (1 : Nat) (1 : Nat) (0 : Nat) (0 : Nat) (p.V.length + (1 : Nat)) (p.V.length + (1 : Nat)))]) :: (lo :: ((AObj.cells (0 : Nat) [(I (x.d)), (flL (x.v)), (flLL (x.w)), (I (x.m))]) :: ((AObj.cells (0 : Nat) [(I r), ls]) :: (Lo :: Y))))))) = ((AObj.cells (0 : Nat) ucs) :: ((AObj.cells (0 : Nat) rcs) :: ((AObj.cells (0 : Nat) [(flL (p.V)), (flLL (p.C)), (flR (p.R)), AV.zs, (I ((0 : Int))), lv, (AV.ms (1 : Nat) (0 : Nat) (0 : Nat) (0 : Nat) (List.length (p.V)) (List.length (p.V))), (AV.ms (1 : Nat) (1 : Nat) (0 : Nat) (0 : Nat) (p.V.length + (1 : Nat)) (p.V.length + (1 : Nat)))]) :: (lo :: ((AObj.cells (0 : Nat) [(I (x.d)), (flL (x.v)), (flLL (x.w)), (I (x.m))]) :: ((AObj.cells (0 : Nat) [(I r), ls]) :: (Lo :: Y)))))))) (.need (((AObj.cells (0 : Nat) ucs) :: ((AObj.cells (0 : Nat) rcs) :: ((AObj.cells (0 : Nat) [(flL (p.V)), (flLL (p.C)), (flR (p.R)), AV.zs, (I ((0 : Int))), lv, (AV.ms (1 : Nat) (0 : Nat) (0 : Nat) (0 : Nat) (List.length (p.V)) (List.length (p.V))), (AV.ms (1 : Nat) (1 : Nat) (0 : Nat) (0 : Nat) (p.V.length + (1 : Nat)) (p.V.length + (1 : Nat)))]) :: (lo :: ((AObj.cells (0 : Nat) [(I (x.d)), (flL (x.v)), (flLL (x.w)), (I (x.m))]) :: ((AObj.cells (0 : Nat) [(I r), ls]) :: (Lo :: Y))))))) = ((AObj.cells (0 : Nat) ucs) :: ((AObj.cells (0 : Nat) rcs) :: ((AObj.cells (0 : Nat) [(flL (p.V)), (flLL (p.C)), (flR (p.R)), AV.zs, (I ((0 : Int))), lv, (AV.ms (1 : Nat) (0 : Nat) (0 : Nat) (0 : Nat) (List.length (p.V)) (List.length (p.V))), (AV.ms (1 : Nat) (1 : Nat) (0 : Nat) (0 : Nat) (p.V.length + (1 : Nat)) (p.V.length + (1 : Nat)))]) :: (lo :: ((AObj.cells (0 : Nat) [(I (x.d)), (flL (x.v)), (flLL (x.w)), (I (x.m))]) :: ((AObj.cells (0 : Nat) [(I r), ls]) :: (Lo :: Y)))))))) (.need (((AV.ref (2 : Nat) (0 : Nat) (0 : Nat)) = (AV.ref (2 : Nat) (0 : Nat) (0 : Nat))) ∧ (((AObj.cells (0 : Nat) ucs) :: ((AObj.cells (0 : Nat) rcs) :: ((AObj.cells (0 : Nat) [(flL (p.V)), (flLL (p.C)), (flR (p.R)), AV.zs, (I ((0 : Int))), lv, (AV.ms (1 : Nat) (0 : Nat) (0 : Nat) (0 : Nat) (List.length (p.V)) (List.length (p.V))), (AV.ms (1 : Nat) (1 : Nat) (0 : Nat) (0 : Nat) (p.V.length + (1 : Nat)) (p.V.length + (1 : Nat)))]) :: (lo :: ((AObj.cells (0 : Nat) [(I (x.d)), (flL (x.v)), (flLL (x.w)), (I (x.m))]) :: ((AObj.cells (0 : Nat) [(I r), ls]) :: (Lo :: Y'))))))) = ((AObj.cells (0 : Nat) ucs) :: ((AObj.cells (0 : Nat) rcs) :: ((AObj.cells (0 : Nat) [(flL (p.V)), (flLL (p.C)), (flR (p.R)), AV.zs, (I ((0 : Int))), lv, (AV.ms (1 : Nat) (0 : Nat) (0 : Nat) (0 : Nat) (List.length (p.V)) (List.length (p.V))), (AV.ms (1 : Nat) (1 : Nat) (0 : Nat) (0 : Nat) (p.V.length + (1 : Nat)) (p.V.length + (1 : Nat)))]) :: (lo :: ((AObj.cells (0 : Nat) [(I (x.d)), (flL (x.v)), (flLL (x.w)), (I (x.m))]) :: ((AObj.cells (0 : Nat) [(I r), ls]) :: (Lo :: Y'))))))))) (.need (((AObj.cells (0 : Nat) ucs) :: ((AObj.cells (0 : Nat) rcs) :: ((AObj.cells (0 : Nat) [(flL (p.V)), (flLL (p.C)), (flR (p.R)), AV.zs, (I ((0 : Int))), lv, (AV.ms (1 : Nat) (0 : Nat) (0 : Nat) (0 : Nat) (List.length (p.V)) (List.length (p.V))), (AV.ms (1 : Nat) (1 : Nat) (0 : Nat) (0 : Nat) (p.V.length + (1 : Nat)) (p.V.length + (1 : Nat)))]) :: (lo :: ((AObj.cells (0 : Nat) [(I (x.d)), (flL (x.v)), (flLL (x.w)), (I (x.m))]) :: ((AObj.cells (0 : Nat) [(I r), ls]) :: (Lo :: Y))))))) = ((AObj.cells (0 : Nat) ucs) :: ((AObj.cells (0 : Nat) rcs) :: ((AObj.cells (0 : Nat) [(flL (p.V)), (flLL (p.C)), (flR (p.R)), AV.zs, (I ((0 : Int))), lv, (AV.ms (1 : Nat) (0 : Nat) (0 : Nat) (0 : Nat) (List.length (p.V)) (List.length (p.V))), (AV.ms (1 : Nat) (1 : Nat) (0 : Nat) (0 : Nat) (p.V.length + (1 : Nat)) (p.V.length + (1 : Nat)))]) :: (lo :: ((AObj.cells (0 : Nat) [(I (x.d)), (flL (x.v)), (flLL (x.w)), (I (x.m))]) :: ((AObj.cells (0 : Nat) [(I r), ls]) :: (Lo :: Y)))))))) (.need (((AV.ref (2 : Nat) (0 : Nat) (0 : Nat)) = (AV.ref (2 : Nat) (0 : Nat) (0 : Nat))) ∧ (((AObj.cells (0 : Nat) ucs) :: ((AObj.cells (0 : Nat) rcs) :: ((AObj.cells (0 : Nat) [(flL (p.V)), (flLL (p.C)), (flR (p.R)), AV.zs, (I ((0 : Int))), lv, (AV.ms (1 : Nat) (0 : Nat) (0 : Nat) (0 : Nat) (List.length (p.V)) (List.length (p.V))), (AV.ms (1 : Nat) (1 : Nat) (0 : Nat) (0 : Nat) (p.V.length + (1 : Nat)) (p.V.length + (1 : Nat)))]) :: (lo :: ((AObj.cells (0 : Nat) [(I (x.d)), (flL (x.v)), (flLL (x.w)), (I (x.m))]) :: ((AObj.cells (0 : Nat) [(I r), ls]) :: (Lo :: Y'))))))) = ((AObj.cells (0 : Nat) ucs) :: ((AObj.cells (0 : Nat) rcs) :: ((AObj.cells (0 : Nat) [(flL (p.V)), (flLL (p.C)), (flR (p.R)), AV.zs, (I ((0 : Int))), lv, (AV.ms (1 : Nat) (0 : Nat) (0 : Nat) (0 : Nat) (List.length (p.V)) (List.length (p.V))), (AV.ms (1 : Nat) (1 : Nat) (0 : Nat) (0 : Nat) (p.V.length + (1 : Nat)) (p.V.length + (1 : Nat)))]) :: (lo :: ((AObj.cells (0 : Nat) [(I (x.d)), (flL (x.v)), (flLL (x.w)), (I (x.m))]) :: ((AObj.cells (0 : Nat) [(I r), ls]) :: (Lo :: Y'))))))))) (.need (((AObj.cells (0 : Nat) ucs) :: ((AObj.cells (0 : Nat) rcs) :: ((AObj.cells (0 : Nat) [(flL (p.V)), (flLL (p.C)), (flR (p.R)), AV.zs, (I ((0 : Int))), lv, (AV.ms (1 : Nat) (0 : Nat) (0 : Nat) (0 : Nat) (List.length (p.V)) (List.length (p.V))), (AV.ms (1 : Nat) (1 : Nat) (0 : Nat) (0 : Nat) (p.V.length + (1 : Nat)) (p.V.length + (1 : Nat)))]) :: (lo :: ((AObj.cells (0 : Nat) [(I (x.d)), (flL (x.v)), (flLL (x.w)), (I (x.m))]) :: ((AObj.cells (0 : Nat) [(I r), ls]) :: (Lo :: Y))))))) = ((AObj.cells (0 : Nat) ucs) :: ((AObj.cells (0 : Nat) rcs) :: ((AObj.cells (0 : Nat) [(flL (p.V)), (flLL (p.C)), (flR (p.R)), AV.zs, (I ((0 : Int))), lv, (AV.ms (1 : Nat) (0 : Nat) (0 : Nat) (0 : Nat) (List.length (p.V)) (List.length (p.V))), (AV.ms (1 : Nat) (1 : Nat) (0 : Nat) (0 : Nat) (p.V.length + (1 : Nat)) (p.V.length + (1 : Nat)))]) :: (lo :: ((AObj.cells (0 : Nat) [(I (x.d)), (flL (x.v)), (flLL (x.w)), (I (x.m))]) :: ((AObj.cells (0 : Nat) [(I r), ls]) :: (Lo :: Y)))))))) (.need (((AV.ref (2 : Nat) (0 : Nat) (6 : Nat)) = (AV.ref (2 : Nat) (0 : Nat) (6 : Nat))) ∧ (((AObj.cells (0 : Nat) ucs) :: ((AObj.cells (0 : Nat) rcs) :: ((AObj.cells (0 : Nat) [(flL (p.V)), (flLL (p.C)), (flR (p.R)), AV.zs, (I ((0 : Int))), lv, (AV.ms (1 : Nat) (0 : Nat) (0 : Nat) (0 : Nat) (List.length (p.V)) (List.length (p.V))), (AV.ms (1 : Nat) (1 : Nat) (0 : Nat) (0 : Nat) (p.V.length + (1 : Nat)) (p.V.length + (1 : Nat)))]) :: (lo :: ((AObj.cells (0 : Nat) [(I (x.d)), (flL (x.v)), (flLL (x.w)), (I (x.m))]) :: ((AObj.cells (0 : Nat) [(I r), ls]) :: (Lo :: Y'))))))) = ((AObj.cells (0 : Nat) ucs) :: ((AObj.cells (0 : Nat) rcs) :: ((AObj.cells (0 : Nat) [(flL (p.V)), (flLL (p.C)), (flR (p.R)), AV.zs, (I ((0 : Int))), lv, (AV.ms (1 : Nat) (0 : Nat) (0 : Nat) (0 : Nat) (List.length (p.V)) (List.length (p.V))), (AV.ms (1 : Nat) (1 : Nat) (0 : Nat) (0 : Nat) (p.V.length + (1 : Nat)) (p.V.length + (1 : Nat)))]) :: (lo :: ((AObj.cells (0 : Nat) [(I (x.d)), (flL (x.v)), (flLL (x.w)), (I (x.m))]) :: ((AObj.cells (0 : Nat) [(I r), ls]) :: (Lo :: Y'))))))))) (.need (((AObj.cells (0 : Nat) ucs) :: ((AObj.cells (0 : Nat) rcs) :: ((AObj.cells (0 : Nat) [(flL (p.V)), (flLL (p.C)), (flR (p.R)), AV.zs, (I ((0 : Int))), lv, (AV.ms (1 : Nat) (0 : Nat) (0 : Nat) (0 : Nat) (List.length (p.V)) (List.length (p.V))), (AV.ms (1 : Nat) (1 : Nat) (0 : Nat) (0 : Nat) (p.V.length + (1 : Nat)) (p.V.length + (1 : Nat)))]) :: (lo :: ((AObj.cells (0 : Nat) [(I (x.d)), (flL (x.v)), (flLL (x.w)), (I (x.m))]) :: ((AObj.cells (0 : Nat) [(I r), ls]) :: (Lo :: Y))))))) = ((AObj.cells (0 : Nat) ucs) :: ((AObj.cells (0 : Nat) rcs) :: ((AObj.cells (0 : Nat) [(flL (p.V)), (flLL (p.C)), (flR (p.R)), AV.zs, (I ((0 : Int))), lv, (AV.ms (1 : Nat) (0 : Nat) (0 : Nat) (0 : Nat) (List.length (p.V)) (List.length (p.V))), (AV.ms (1 : Nat) (1 : Nat) (0 : Nat) (0 : Nat) (p.V.length + (1 : Nat)) (p.V.length + (1 : Nat)))]) :: (lo :: ((AObj.cells (0 : Nat) [(I (x.d)), (flL (x.v)), (flLL (x.w)), (I (x.m))]) :: ((AObj.cells (0 : Nat) [(I r), ls]) :: (Lo :: Y)))))))) (.need (((AV.ms (1 : Nat) (0 : Nat) (0 : Nat) (0 : Nat) (List.length (p.V)) (List.length (p.V))) = (AV.ms (1 : Nat) (0 : Nat) (0 : Nat) (0 : Nat) (List.length (p.V)) (List.length (p.V)))) ∧ (((AObj.cells (0 : Nat) ucs) :: ((AObj.cells (0 : Nat) rcs) :: ((AObj.cells (0 : Nat) [(flL (p.V)), (flLL (p.C)), (flR (p.R)), AV.zs, (I ((0 : Int))), lv, (AV.ms (1 : Nat) (0 : Nat) (0 : Nat) (0 : Nat) (List.length (p.V)) (List.length (p.V))), (AV.ms (1 : Nat) (1 : Nat) (0 : Nat) (0 : Nat) (p.V.length + (1 : Nat)) (p.V.length + (1 : Nat)))]) :: (lo :: ((AObj.cells (0 : Nat) [(I (x.d)), (flL (x.v)), (flLL (x.w)), (I (x.m))]) :: ((AObj.cells (0 : Nat) [(I r), ls]) :: (Lo :: Y'))))))) = ((AObj.cells (0 : Nat) ucs) :: ((AObj.cells (0 : Nat) rcs) :: ((AObj.cells (0 : Nat) [(flL (p.V)), (flLL (p.C)), (flR (p.R)), AV.zs, (I ((0 : Int))), lv, (AV.ms (1 : Nat) (0 : Nat) (0 : Nat) (0 : Nat) (List.length (p.V)) (List.length (p.V))), (AV.ms (1 : Nat) (1 : Nat) (0 : Nat) (0 : Nat) (p.V.length + (1 : Nat)) (p.V.length + (1 : Nat)))]) :: (lo :: ((AObj.cells (0 : Nat) [(I (x.d)), (flL (x.v)), (flLL (x.w)), (I (x.m))]) :: ((AObj.cells (0 : Nat) [(I r), ls]) :: (Lo :: Y'))))))))) (.need (((AObj.cells (0 : Nat) ucs) :: ((AObj.cells (0 : Nat) rcs) :: ((AObj.cells (0 : Nat) [(flL (p.V)), (flLL (p.C)), (flR (p.R)), AV.zs, (I ((0 : Int))), lv, (AV.ms (1 : Nat) (0 : Nat) (0 : Nat) (0 : Nat) (List.length (p.V)) (List.length (p.V))), (AV.ms (1 : Nat) (1 : Nat) (0 : Nat) (0 : Nat) (p.V.length + (1 : Nat)) (p.V.length + (1 : Nat)))]) :: (lo :: ((AObj.cells (0 : Nat) [(I (x.d)), (flL (x.v)), (flLL (x.w)), (I (x.m))]) :: ((AObj.cells (0 : Nat) [(I r), ls]) :: (Lo :: Y))))))) = ((AObj.cells (0 : Nat) ucs) :: ((AObj.cells (0 : Nat) rcs) :: ((AObj.cells (0 : Nat) [(flL (p.V)), (flLL (p.C)), (flR (p.R)), AV.zs, (I ((0 : Int))), lv, (AV.ms (1 : Nat) (0 : Nat) (0 : Nat) (0 : Nat) (List.length (p.V)) (List.length (p.V))), (AV.ms (1 : Nat) (1 : Nat) (0 : Nat) (0 : Nat) (p.V.length + (1 : Nat)) (p.V.length + (1 : Nat)))]) :: (lo :: ((AObj.cells (0 : Nat) [(I (x.d)), (flL (x.v)), (flLL (x.w)), (I (x.m))]) :: ((AObj.cells (0 : Nat) [(I r), ls]) :: (Lo :: Y)))))))) (.need (((I (x.v.getD k.toNat (0 : Int))) = (I (x.v.getD k.toNat (0 : Int)))) ∧ (((AObj.cells (0 : Nat) ucs) :: ((AObj.cells (0 : Nat) rcs) :: ((AObj.cells (0 : Nat) [(flL (p.V)), (flLL (p.C)), (flR (p.R)), AV.zs, (I ((0 : Int))), lv, (AV.ms (1 : Nat) (0 : Nat) (0 : Nat) (0 : Nat) (List.length (p.V)) (List.length (p.V))), (AV.ms (1 : Nat) (1 : Nat) (0 : Nat) (0 : Nat) (p.V.length + (1 : Nat)) (p.V.length + (1 : Nat)))]) :: (lo :: ((AObj.cells (0 : Nat) [(I (x.d)), (flL (x.v)), (flLL (x.w)), (I (x.m))]) :: ((AObj.cells (0 : Nat) [(I r), ls]) :: (Lo :: Y'))))))) = ((AObj.cells (0 : Nat) ucs) :: ((AObj.cells (0 : Nat) rcs) :: ((AObj.cells (0 : Nat) [(flL (p.V)), (flLL (p.C)), (flR (p.R)), AV.zs, (I ((0 : Int))), lv, (AV.ms (1 : Nat) (0 : Nat) (0 : Nat) (0 : Nat) (List.length (p.V)) (List.length (p.V))), (AV.ms (1 : Nat) (1 : Nat) (0 : Nat) (0 : Nat) (p.V.length + (1 : Nat)) (p.V.length + (1 : Nat)))]) :: (lo :: ((AObj.cells (0 : Nat) [(I (x.d)), (flL (x.v)), (flLL (x.w)), (I (x.m))]) :: ((AObj.cells (0 : Nat) [(I r), ls]) :: (Lo :: Y'))))))))) (.need (((AObj.cells (0 : Nat) ucs) :: ((AObj.cells (0 : Nat) rcs) :: ((AObj.cells (0 : Nat) [(flL (p.V)), (flLL (p.C)), (flR (p.R)), AV.zs, (I ((0 : Int))), lv, (AV.ms (1 : Nat) (0 : Nat) (0 : Nat) (0 : Nat) (List.length (p.V)) (List.length (p.V))), (AV.ms (1 : Nat) (1 : Nat) (0 : Nat) (0 : Nat) (p.V.length + (1 : Nat)) (p.V.length + (1 : Nat)))]) :: (lo :: ((AObj.cells (0 : Nat) [(I (x.d)), (flL (x.v)), (flLL (x.w)), (I (x.m))]) :: ((AObj.cells (0 : Nat) [(I r), ls]) :: (Lo :: Y))))))) = ((AObj.cells (0 : Nat) ucs) :: ((AObj.cells (0 : Nat) rcs) :: ((AObj.cells (0 : Nat) [(flL (p.V)), (flLL (p.C)), (flR (p.R)), AV.zs, (I ((0 : Int))), lv, (AV.ms (1 : Nat) (0 : Nat) (0 : Nat) (0 : Nat) (List.length (p.V)) (List.length (p.V))), (AV.ms (1 : Nat) (1 : Nat) (0 : Nat) (0 : Nat) (p.V.length + (1 : Nat)) (p.V.length + (1 : Nat)))]) :: (lo :: ((AObj.cells (0 : Nat) [(I (x.d)), (flL (x.v)), (flLL (x.w)), (I (x.m))]) :: ((AObj.cells (0 : Nat) [(I r), ls]) :: (Lo :: Y)))))))) (.need (((AObj.cells (0 : Nat) ucs) :: ((AObj.cells (0 : Nat) rcs) :: ((AObj.cells (0 : Nat) [(flL (p.V)), (flLL (p.C)), (flR (p.R)), AV.zs, (I ((0 : Int))), lv, (AV.ms (1 : Nat) (0 : Nat) (0 : Nat) (0 : Nat) (List.length (p.V)) (List.length (p.V))), (AV.ms (1 : Nat) (1 : Nat) (0 : Nat) (0 : Nat) (p.V.length + (1 : Nat)) (p.V.length + (1 : Nat)))]) :: (lo :: ((AObj.cells (0 : Nat) [(I (x.d)), (flL (x.v)), (flLL (x.w)), (I (x.m))]) :: ((AObj.cells (0 : Nat) [(I r), ls]) :: (Lo :: Y))))))) = ((AObj.cells (0 : Nat) ucs) :: ((AObj.cells (0 : Nat) rcs) :: ((AObj.cells (0 : Nat) [(flL (p.V)), (flLL (p.C)), (flR (p.R)), AV.zs, (I ((0 : Int))), lv, (AV.ms (1 : Nat) (0 : Nat) (0 : Nat) (0 : Nat) (List.length (p.V)) (List.length (p.V))), (AV.ms (1 : Nat) (1 : Nat) (0 : Nat) (0 : Nat) (p.V.length + (1 : Nat)) (p.V.length + (1 : Nat)))]) :: (lo :: ((AObj.cells (0 : Nat) [(I (x.d)), (flL (x.v)), (flLL (x.w)), (I (x.m))]) :: ((AObj.cells (0 : Nat) [(I r), ls]) :: (Lo :: Y)))))))) (.need (((AObj.cells (0 : Nat) ucs) :: ((AObj.cells (0 : Nat) rcs) :: ((AObj.cells (0 : Nat) [(flL (p.V)), (flLL (p.C)), (flR (p.R)), AV.zs, (I ((0 : Int))), lv, (AV.ms (1 : Nat) (0 : Nat) (0 : Nat) (0 : Nat) (List.length (p.V)) (List.length (p.V))), (AV.ms (1 : Nat) (1 : Nat) (0 : Nat) (0 : Nat) (p.V.length + (1 : Nat)) (p.V.length + (1 : Nat)))]) :: (lo :: ((AObj.cells (0 : Nat) [(I (x.d)), (flL (x.v)), (flLL (x.w)), (I (x.m))]) :: ((AObj.cells (0 : Nat) [(I r), ls]) :: (Lo :: Y))))))) = ((AObj.cells (0 : Nat) ucs) :: ((AObj.cells (0 : Nat) rcs) :: ((AObj.cells (0 : Nat) [(flL (p.V)), (flLL (p.C)), (flR (p.R)), AV.zs, (I ((0 : Int))), lv, (AV.ms (1 : Nat) (0 : Nat) (0 : Nat) (0 : Nat) (List.length (p.V)) (List.length (p.V))), (AV.ms (1 : Nat) (1 : Nat) (0 : Nat) (0 : Nat) (p.V.length + (1 : Nat)) (p.V.length + (1 : Nat)))]) :: (lo :: ((AObj.cells (0 : Nat) [(I (x.d)), (flL (x.v)), (flLL (x.w)), (I (x.m))]) :: ((AObj.cells (0 : Nat) [(I r), ls]) :: (Lo :: Y)))))))) (.need (((AObj.cells (0 : Nat) ucs) :: ((AObj.cells (0 : Nat) rcs) :: ((AObj.cells (0 : Nat) [(flL (p.V)), (flLL (p.C)), (flR (p.R)), AV.zs, (I ((0 : Int))), lv, (AV.ms (1 : Nat) (0 : Nat) (0 : Nat) (0 : Nat) (List.length (p.V)) (List.length (p.V))), (AV.ms (1 : Nat) (1 : Nat) (0 : Nat) (0 : Nat) (p.V.length + (1 : Nat)) (p.V.length + (1 : Nat)))]) :: (lo :: ((AObj.cells (0 : Nat) [(I (x.d)), (flL (x.v)), (flLL (x.w)), (I (x.m))]) :: ((AObj.cells (0 : Nat) [(I r), ls]) :: (Lo :: Y))))))) = ((AObj.cells (0 : Nat) ucs) :: ((AObj.cells (0 : Nat) rcs) :: ((AObj.cells (0 : Nat) [(flL (p.V)), (flLL (p.C)), (flR (p.R)), AV.zs, (I ((0 : Int))), lv, (AV.ms (1 : Nat) (0 : Nat) (0 : Nat) (0 : Nat) (List.length (p.V)) (List.length (p.V))), (AV.ms (1 : Nat) (1 : Nat) (0 : Nat) (0 : Nat) (p.V.length + (1 : Nat)) (p.V.length + (1 : Nat)))]) :: (lo :: ((AObj.cells (0 : Nat) [(I (x.d)), (flL (x.v)), (flLL (x.w)), (I (x.m))]) :: ((AObj.cells (0 : Nat) [(I r), ls]) :: (Lo :: Y)))))))) (.need (((AObj.cells (0 : Nat) ucs) :: ((AObj.cells (0 : Nat) rcs) :: ((AObj.cells (0 : Nat) [(flL (p.V)), (flLL (p.C)), (flR (p.R)), AV.zs, (I ((0 : Int))), lv, (AV.ms (1 : Nat) (0 : Nat) (0 : Nat) (0 : Nat) (List.length (p.V)) (List.length (p.V))), (AV.ms (1 : Nat) (1 : Nat) (0 : Nat) (0 : Nat) (p.V.length + (1 : Nat)) (p.V.length + (1 : Nat)))]) :: (lo :: ((AObj.cells (0 : Nat) [(I (x.d)), (flL (x.v)), (flLL (x.w)), (I (x.m))]) :: ((AObj.cells (0 : Nat) [(I r), ls]) :: (Lo :: Y))))))) = ((AObj.cells (0 : Nat) ucs) :: ((AObj.cells (0 : Nat) rcs) :: ((AObj.cells (0 : Nat) [(flL (p.V)), (flLL (p.C)), (flR (p.R)), AV.zs, (I ((0 : Int))), lv, (AV.ms (1 : Nat) (0 : Nat) (0 : Nat) (0 : Nat) (List.length (p.V)) (List.length (p.V))), (AV.ms (1 : Nat) (1 : Nat) (0 : Nat) (0 : Nat) (p.V.length + (1 : Nat)) (p.V.length + (1 : Nat)))]) :: (lo :: ((AObj.cells (0 : Nat) [(I (x.d)), (flL (x.v)), (flLL (x.w)), (I (x.m))]) :: ((AObj.cells (0 : Nat) [(I r), ls]) :: (Lo :: Y)))))))) (.need (((0 : Int) ≤ x.v.getD k.toNat (0 : Int)) ∧ ((x.v.getD k.toNat (0 : Int) < (↑p.V.length : Int)) ∧ (true = true))) (.need (((AObj.cells (0 : Nat) ucs) :: ((AObj.cells (0 : Nat) rcs) :: ((AObj.cells (0 : Nat) [(flL (p.V)), (flLL (p.C)), (flR (p.R)), AV.zs, (I ((0 : Int))), lv, (AV.ms (1 : Nat) (0 : Nat) (0 : Nat) (0 : Nat) (List.length (p.V)) (List.length (p.V))), (AV.ms (1 : Nat) (1 : Nat) (0 : Nat) (0 : Nat) (p.V.length + (1 : Nat)) (p.V.length + (1 : Nat)))]) :: (lo :: ((AObj.cells (0 : Nat) [(I (x.d)), (flL (x.v)), (flLL (x.w)), (I (x.m))]) :: ((AObj.cells (0 : Nat) [(I r), ls]) :: (Lo :: Y))))))) = ((AObj.cells (0 : Nat) ucs) :: ((AObj.cells (0 : Nat) rcs) :: ((AObj.cells (0 : Nat) [(flL (p.V)), (flLL (p.C)), (flR (p.R)), AV.zs, (I ((0 : Int))), lv, (AV.ms (1 : Nat) (0 : Nat) (0 : Nat) (0 : Nat) (List.length (p.V)) (List.length (p.V))), (AV.ms (1 : Nat) (1 : Nat) (0 : Nat) (0 : Nat) (p.V.length + (1 : Nat)) (p.V.length + (1 : Nat)))]) :: (lo :: ((AObj.cells (0 : Nat) [(I (x.d)), (flL (x.v)), (flLL (x.w)), (I (x.m))]) :: ((AObj.cells (0 : Nat) [(I r), ls]) :: (Lo :: Y)))))))) (.need (((0 : Nat) = (0 : Nat)) ∧ ((ucs[(0 : Nat) + (x.v.getD k.toNat (0 : Int)).toNat * (1 : Nat)]?) = (Option.some uv))) (.need (((AObj.cells (0 : Nat) ucs) :: ((AObj.cells (0 : Nat) rcs) :: ((AObj.cells (0 : Nat) [(flL (p.V)), (flLL (p.C)), (flR (p.R)), AV.zs, (I ((0 : Int))), lv, (AV.ms (1 : Nat) (0 : Nat) (0 : Nat) (0 : Nat) (List.length (p.V)) (List.length (p.V))), (AV.ms (1 : Nat) (1 : Nat) (0 : Nat) (0 : Nat) (p.V.length + (1 : Nat)) (p.V.length + (1 : Nat)))]) :: (lo :: ((AObj.cells (0 : Nat) [(I (x.d)), (flL (x.v)), (flLL (x.w)), (I (x.m))]) :: ((AObj.cells (0 : Nat) [(I r), ls]) :: (Lo :: Y))))))) = ((AObj.cells (0 : Nat) ucs) :: ((AObj.cells (0 : Nat) rcs) :: ((AObj.cells (0 : Nat) [(flL (p.V)), (flLL (p.C)), (flR (p.R)), AV.zs, (I ((0 : Int))), lv, (AV.ms (1 : Nat) (0 : Nat) (0 : Nat) (0 : Nat) (List.length (p.V)) (List.length (p.V))), (AV.ms (1 : Nat) (1 : Nat) (0 : Nat) (0 : Nat) (p.V.length + (1 : Nat)) (p.V.length + (1 : Nat)))]) :: (lo :: ((AObj.cells (0 : Nat) [(I (x.d)), (flL (x.v)), (flLL (x.w)), (I (x.m))]) :: ((AObj.cells (0 : Nat) [(I r), ls]) :: (Lo :: Y)))))))) (.need (((AObj.cells (0 : Nat) ucs) :: ((AObj.cells (0 : Nat) rcs) :: ((AObj.cells (0 : Nat) [(flL (p.V)), (flLL (p.C)), (flR (p.R)), AV.zs, (I ((0 : Int))), lv, (AV.ms (1 : Nat) (0 : Nat) (0 : Nat) (0 : Nat) (List.length (p.V)) (List.length (p.V))), (AV.ms (1 : Nat) (1 : Nat) (0 : Nat) (0 : Nat) (p.V.length + (1 : Nat)) (p.V.length + (1 : Nat)))]) :: (lo :: ((AObj.cells (0 : Nat) [(I (x.d)), (flL (x.v)), (flLL (x.w)), (I (x.m))]) :: ((AObj.cells (0 : Nat) [(I r), ls]) :: (Lo :: Y))))))) = ((AObj.cells (0 : Nat) ucs) :: ((AObj.cells (0 : Nat) rcs) :: ((AObj.cells (0 : Nat) [(flL (p.V)), (flLL (p.C)), (flR (p.R)), AV.zs, (I ((0 : Int))), lv, (AV.ms (1 : Nat) (0 : Nat) (0 : Nat) (0 : Nat) (List.length (p.V)) (List.length (p.V))), (AV.ms (1 : Nat) (1 : Nat) (0 : Nat) (0 : Nat) (p.V.length + (1 : Nat)) (p.V.length + (1 : Nat)))]) :: (lo :: ((AObj.cells (0 : Nat) [(I (x.d)), (flL (x.v)), (flLL (x.w)), (I (x.m))]) :: ((AObj.cells (0 : Nat) [(I r), ls]) :: (Lo :: Y)))))))) (.need (((Option.some [((0 : Nat), (AV.agg [(I r), ls]))]) = (Option.some [((0 : Nat), (AV.agg [(I r), ls]))])) ∧ (((2 : Nat) = (2 : Nat)) ∧ (∀ (x : AV), x ∈ [I r, ls] → x.one = true))) (.need (((AObj.cells (0 : Nat) ucs) :: ((AObj.cells (0 : Nat) rcs) :: ((AObj.cells (0 : Nat) [(flL (p.V)), (flLL (p.C)), (flR (p.R)), AV.zs, (I ((0 : Int))), lv, (AV.ms (1 : Nat) (0 : Nat) (0 : Nat) (0 : Nat) (List.length (p.V)) (List.length (p.V))), (AV.ms (1 : Nat) (1 : Nat) (0 : Nat) (0 : Nat) (p.V.length + (1 : Nat)) (p.V.length + (1 : Nat)))]) :: (lo :: ((AObj.cells (0 : Nat) [(I (x.d)), (flL (x.v)), (flLL (x.w)), (I (x.m))]) :: ((AObj.cells (0 : Nat) [(I r), ls]) :: (Lo :: Y))))))) = ((AObj.cells (0 : Nat) ucs) :: ((AObj.cells (0 : Nat) rcs) :: ((AObj.cells (0 : Nat) [(flL (p.V)), (flLL (p.C)), (flR (p.R)), AV.zs, (I ((0 : Int))), lv, (AV.ms (1 : Nat) (0 : Nat) (0 : Nat) (0 : Nat) (List.length (p.V)) (List.length (p.V))), (AV.ms (1 : Nat) (1 : Nat) (0 : Nat) (0 : Nat) (p.V.length + (1 : Nat)) (p.V.length + (1 : Nat)))]) :: (lo :: ((AObj.cells (0 : Nat) [(I (x.d)), (flL (x.v)), (flLL (x.w)), (I (x.m))]) :: ((AObj.cells (0 : Nat) [(I r), ls]) :: (Lo :: Y)))))))) (.need (((Option.some [uv, (AV.sl (2 : Nat) [[(I r), ls]])]) = (Option.some [uv, (AV.sl (2 : Nat) [[(I r), ls]])])) ∧ ((((AObj.cells (0 : Nat) ucs) :: ((AObj.cells (0 : Nat) rcs) :: ((AObj.cells (0 : Nat) [(flL (p.V)), (flLL (p.C)), (flR (p.R)), AV.zs, (I ((0 : Int))), lv, (AV.ms (1 : Nat) (0 : Nat) (0 : Nat) (0 : Nat) (List.length (p.V)) (List.length (p.V))), (AV.ms (1 : Nat) (1 : Nat) (0 : Nat) (0 : Nat) (p.V.length + (1 : Nat)) (p.V.length + (1 : Nat)))]) :: (lo :: ((AObj.cells (0 : Nat) [(I (x.d)), (flL (x.v)), (flLL (x.w)), (I (x.m))]) :: ((AObj.cells (0 : Nat) [(I r), ls]) :: (Lo :: Y))))))) = ((AObj.cells (0 : Nat) ucs) :: ((AObj.cells (0 : Nat) rcs) :: ((AObj.cells (0 : Nat) [(flL (p.V)), (flLL (p.C)), (flR (p.R)), AV.zs, (I ((0 : Int))), lv, (AV.ms (1 : Nat) (0 : Nat) (0 : Nat) (0 : Nat) (List.length (p.V)) (List.length (p.V))), (AV.ms (1 : Nat) (1 : Nat) (0 : Nat) (0 : Nat) (p.V.length + (1 : Nat)) (p.V.length + (1 : Nat)))]) :: (lo :: ((AObj.cells (0 : Nat) [(I (x.d)), (flL (x.v)), (flLL (x.w)), (I (x.m))]) :: ((AObj.cells (0 : Nat) [(I r), ls]) :: (Lo :: Y)))))))) ∧ ((g) ∧ ((((hN p ucs rcs lv lo (AObj.cells (0 : Nat) (rlC x)) (AObj.cells (0 : Nat) [I r, ls]) Lo Y)[(7 : Nat) + (x.v.getD k.toNat (0 : Int)).toNat]?) = (Option.some uo)) ∧ ((List.set (hN p ucs rcs lv lo (AObj.cells (0 : Nat) (rlC x)) (AObj.cells (0 : Nat) [I r, ls]) Lo Y) ((7 : Nat) + (x.v.getD k.toNat (0 : Int)).toNat) uo') = ((AObj.cells (0 : Nat) ucs) :: ((AObj.cells (0 : Nat) rcs) :: ((AObj.cells (0 : Nat) [(flL (p.V)), (flLL (p.C)), (flR (p.R)), AV.zs, (I ((0 : Int))), lv, (AV.ms (1 : Nat) (0 : Nat) (0 : Nat) (0 : Nat) (List.length (p.V)) (List.length (p.V))), (AV.ms (1 : Nat) (1 : Nat) (0 : Nat) (0 : Nat) (p.V.length + (1 : Nat)) (p.V.length + (1 : Nat)))]) :: (lo :: ((AObj.cells (0 : Nat) [(I (x.d)), (flL (x.v)), (flLL (x.w)), (I (x.m))]) :: ((AObj.cells (0 : Nat) [(I r), ls]) :: (Lo :: Y')))))))))))) (.need (((AObj.cells (0 : Nat) ucs) :: ((AObj.cells (0 : Nat) rcs) :: ((AObj.cells (0 : Nat) [(flL (p.V)), (flLL (p.C)), (flR (p.R)), AV.zs, (I ((0 : Int))), lv, (AV.ms (1 : Nat) (0 : Nat) (0 : Nat) (0 : Nat) (List.length (p.V)) (List.length (p.V))), (AV.ms (1 : Nat) (1 : Nat) (0 : Nat) (0 : Nat) (p.V.length + (1 : Nat)) (p.V.length + (1 : Nat)))]) :: (lo :: ((AObj.cells (0 : Nat) [(I (x.d)), (flL (x.v)), (flLL (x.w)), (I (x.m))]) :: ((AObj.cells (0 : Nat) [(I r), ls]) :: (Lo :: Y'))))))) = ((AObj.cells (0 : Nat) ucs) :: ((AObj.cells (0 : Nat) rcs) :: ((AObj.cells (0 : Nat) [(flL (p.V)), (flLL (p.C)), (flR (p.R)), AV.zs, (I ((0 : Int))), lv, (AV.ms (1 : Nat) (0 : Nat) (0 : Nat) (0 : Nat) (List.length (p.V)) (List.length (p.V))), (AV.ms (1 : Nat) (1 : Nat) (0 : Nat) (0 : Nat) (p.V.length + (1 : Nat)) (p.V.length + (1 : Nat)))]) :: (lo :: ((AObj.cells (0 : Nat) [(I (x.d)), (flL (x.v)), (flLL (x.w)), (I (x.m))]) :: ((AObj.cells (0 : Nat) [(I r), ls]) :: (Lo :: Y')))))))) (.need (((0 : Int) ≤ x.v.getD k.toNat (0 : Int)) ∧ ((x.v.getD k.toNat (0 : Int) < (↑p.V.length : Int)) ∧ (true = true))) (.need (((AObj.cells (0 : Nat) ucs) :: ((AObj.cells (0 : Nat) rcs) :: ((AObj.cells (0 : Nat) [(flL (p.V)), (flLL (p.C)), (flR (p.R)), AV.zs, (I ((0 : Int))), lv, (AV.ms (1 : Nat) (0 : Nat) (0 : Nat) (0 : Nat) (List.length (p.V)) (List.length (p.V))), (AV.ms (1 : Nat) (1 : Nat) (0 : Nat) (0 : Nat) (p.V.length + (1 : Nat)) (p.V.length + (1 : Nat)))]) :: (lo :: ((AObj.cells (0 : Nat) [(I (x.d)), (flL (x.v)), (flLL (x.w)), (I (x.m))]) :: ((AObj.cells (0 : Nat) [(I r), ls]) :: (Lo :: Y'))))))) = ((AObj.cells (0 : Nat) ucs) :: ((AObj.cells (0 : Nat) rcs) :: ((AObj.cells (0 : Nat) [(flL (p.V)), (flLL (p.C)), (flR (p.R)), AV.zs, (I ((0 : Int))), lv, (AV.ms (1 : Nat) (0 : Nat) (0 : Nat) (0 : Nat) (List.length (p.V)) (List.length (p.V))), (AV.ms (1 : Nat) (1 : Nat) (0 : Nat) (0 : Nat) (p.V.length + (1 : Nat)) (p.V.length + (1 : Nat)))]) :: (lo :: ((AObj.cells (0 : Nat) [(I (x.d)), (flL (x.v)), (flLL (x.w)), (I (x.m))]) :: ((AObj.cells (0 : Nat) [(I r), ls]) :: (Lo :: Y')))))))) (.need (((AV.one uv') = true) ∧ (((0 : Nat) + (x.v.getD k.toNat (0 : Int)).toNat * (1 : Nat)) < (List.length ucs))) (.need (((AObj.cells (0 : Nat) (setL ucs ((0 : Nat) + (x.v.getD k.toNat (0 : Int)).toNat * (1 : Nat)) [uv'])) :: ((AObj.cells (0 : Nat) rcs) :: ((AObj.cells (0 : Nat) [(flL (p.V)), (flLL (p.C)), (flR (p.R)), AV.zs, (I ((0 : Int))), lv, (AV.ms (1 : Nat) (0 : Nat) (0 : Nat) (0 : Nat) (List.length (p.V)) (List.length (p.V))), (AV.ms (1 : Nat) (1 : Nat) (0 : Nat) (0 : Nat) (p.V.length + (1 : Nat)) (p.V.length + (1 : Nat)))]) :: (lo :: ((AObj.cells (0 : Nat) [(I (x.d)), (flL (x.v)), (flLL (x.w)), (I (x.m))]) :: ((AObj.cells (0 : Nat) [(I r), ls]) :: (Lo :: Y'))))))) = ((AObj.cells (0 : Nat) (setL ucs ((0 : Nat) + (x.v.getD k.toNat (0 : Int)).toNat * (1 : Nat)) [uv'])) :: ((AObj.cells (0 : Nat) rcs) :: ((AObj.cells (0 : Nat) [(flL (p.V)), (flLL (p.C)), (flR (p.R)), AV.zs, (I ((0 : Int))), lv, (AV.ms (1 : Nat) (0 : Nat) (0 : Nat) (0 : Nat) (List.length (p.V)) (List.length (p.V))), (AV.ms (1 : Nat) (1 : Nat) (0 : Nat) (0 : Nat) (p.V.length + (1 : Nat)) (p.V.length + (1 : Nat)))]) :: (lo :: ((AObj.cells (0 : Nat) [(I (x.d)), (flL (x.v)), (flLL (x.w)), (I (x.m))]) :: ((AObj.cells (0 : Nat) [(I r), ls]) :: (Lo :: Y')))))))) (.leaf (Exit.normal, St.of 136 ((AObj.cells (0 : Nat) (setL ucs ((0 : Nat) + (x.v.getD k.toNat (0 : Int)).toNat * (1 : Nat)) [uv'])) :: ((AObj.cells (0 : Nat) rcs) :: ((AObj.cells (0 : Nat) [(flL (p.V)), (flLL (p.C)), (flR (p.R)), AV.zs, (I ((0 : Int))), lv, (AV.ms (1 : Nat) (0 : Nat) (0 : Nat) (0 : Nat) (List.length (p.V)) (List.length (p.V))), (AV.ms (1 : Nat) (1 : Nat) (0 : Nat) (0 : Nat) (p.V.length + (1 : Nat)) (p.V.length + (1 : Nat)))]) :: (lo :: ((AObj.cells (0 : Nat) [(I (x.d)), (flL (x.v)), (flLL (x.w)), (I (x.m))]) :: ((AObj.cells (0 : Nat) [(I r), ls]) :: (Lo :: Y'))))))) [(1, (AV.row [(flL (p.V)), (flLL (p.C)), (flR (p.R))] (0 : Nat)), true), (3, (AV.ref (2 : Nat) (0 : Nat) (0 : Nat)), true), (5, (I r), true), (6, (AV.ref (4 : Nat) (0 : Nat) (0 : Nat)), true), (7, (I (IntKind.i64.wrap (left - minL (x.w.getD k.toNat [])))), true), (56, (flR (p.R)), true), (57, (I ((↑p.R.length : Int))), true), (58, (I r), true), (66, (flL (x.v)), true), (67, (I ((↑x.v.length : Int))), true), (68, (I (IntKind.i64.wrap (k + (1 : Int)))), true)]))))))))))))))))))))))))))))))) (.leaf (Exit.normal, St.of 136 ((AObj.cells (0 : Nat) ucs) :: ((AObj.cells (0 : Nat) rcs) :: ((AObj.cells (0 : Nat) [(flL (p.V)), (flLL (p.C)), (flR (p.R)), AV.zs, (I ((0 : Int))), lv, (AV.ms (1 : Nat) (0 : Nat) (0 : Nat) (0 : Nat) (List.length (p.V)) (List.length (p.V))), (AV.ms (1 : Nat) (1 : Nat) (0 : Nat) (0 : Nat) (p.V.length + (1 : Nat)) (p.V.length + (1 : Nat)))]) :: (lo :: ((AObj.cells (0 : Nat) [(I (x.d)), (flL (x.v)), (flLL (x.w)), (I (x.m))]) :: ((AObj.cells (0 : Nat) [(I r), ls]) :: (Lo :: Y))))))) [(1, (AV.row [(flL (p.V)), (flLL (p.C)), (flR (p.R))] (0 : Nat)), true), (3, (AV.ref (2 : Nat) (0 : Nat) (0 : Nat)), true), (5, (I r), true), (6, (AV.ref (4 : Nat) (0 : Nat) (0 : Nat)), true), (7, (I (IntKind.i64.wrap (left - minL (x.w.getD k.toNat [])))), true), (56, (flR (p.R)), true), (57, (I ((↑p.R.length : Int))), true), (58, (I r), true), (66, (flL (x.v)), true), (67, (I ((↑x.v.length : Int))), true), (68, (I (IntKind.i64.wrap (k + (1 : Int)))), true)]))))))))))) (.leaf ((Exit.exit (4 : Nat)), St.of 136 ((AObj.cells (0 : Nat) ucs) :: ((AObj.cells (0 : Nat) rcs) :: ((AObj.cells (0 : Nat) [(flL (p.V)), (flLL (p.C)), (flR (p.R)), AV.zs, (I ((0 : Int))), lv, (AV.ms (1 : Nat) (0 : Nat) (0 : Nat) (0 : Nat) (List.length (p.V)) (List.length (p.V))), (AV.ms (1 : Nat) (1 : Nat) (0 : Nat) (0 : Nat) (p.V.length + (1 : Nat)) (p.V.length + (1 : Nat)))]) :: (lo :: ((AObj.cells (0 : Nat) [(I (x.d)), (flL (x.v)), (flLL (x.w)), (I (x.m))]) :: (AObj.resv :: (AObj.resv :: Y))))))) [(1, (AV.row [(flL (p.V)), (flLL (p.C)), (flR (p.R))] (0 : Nat)), true), (3, (AV.ref (2 : Nat) (0 : Nat) (0 : Nat)), true), (5, (I r), true), (6, (AV.ref (4 : Nat) (0 : Nat) (0 : Nat)), true), (7, (I left), true), (56, (flR (p.R)), true), (57, (I ((↑p.R.length : Int))), true), (58, (I r), true), (66, (flL (x.v)), true), (67, (I ((↑x.v.length : Int))), true), (68, (I k), true)])) := by kernel_rfl
end Go.Proofs.Ytngaihdpmoajeaa.Am

