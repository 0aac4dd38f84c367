/-
  This file proves nothing of a law. It holds lemmas, of 5 texts in their order. No condition of its own.
-/
import Derived.Test.YtngaihdpmoajeaaMg4
import Derived.Test.YtngaihdpmoajeaaRows
namespace Go.Proofs.Ytngaihdpmoajeaa.Am
open Go
set_option maxRecDepth 100000

abbrev I (n : Int) : AV := .int .i64 n
abbrev U (n : Int) : AV := .int .u64 n
def G0 : Nat → Option (List AV) := fun _ => none
theorem gbelow0 : GBelow G0 := fun _ _ h => by cases h
theorem gtop0 {w : World} : ∀ g cs, G0 g = some cs → RV w M0 (.pointer (some ⟨g, 0, none⟩)) (.row cs 0) := fun _ _ h => by cases h
theorem names0 : (Try.prog.funcs.all fun fn => !(fn.name == "runtime.NumGoroutine")) = true := by kernel_rfl
theorem names : NamesOk Try.prog := fun f fn h => by
  have := Array.all_eq_true_iff_forall_mem.1 names0 fn (Array.mem_of_getElem? h)
  simpa using this
theorem mixed : Try.prog.follows .mixedOrders = true := by kernel_rfl
def noLoops : Loops := fun _ => none
theorem lpNo {R : Option Nat → Prop} {m : List Nat} (c : Code) : LoopsOk Try.prog G0 R m noLoops c := LoopsOk.none c
theorem selR {α β : Type} {a : β} {x : Tree α} : (Tree.need (a = a) x).sel = x.sel := Tree.sel_need rfl
theorem selT {α : Type} {x : Tree α} : (Tree.need True x).sel = x.sel := Tree.sel_need trivial
theorem selI {α : Type} {b : Bool} {x y : Tree α} : (Tree.ite b x y).sel = bif b then x.sel else y.sel := rfl
theorem selL {α : Type} {a : α} : (Tree.leaf a).sel = some a := rfl
theorem fstStop_lt (n : Nat) : fstStop (fun k => !decide ((k : Int) < n)) n 0 = n := by
  have h1 := fstStop_le (stop := fun k => !decide ((k : Int) < n)) n 0
  have h2 := fstStop_at (stop := fun k => !decide ((k : Int) < n)) n 0 (by simp)
  simp only [Bool.not_eq_true', decide_eq_false_iff_not] at h2
  omega
theorem below_list {n : Nat} {l : List AV} (h : ∀ x ∈ l, Below n x) : ∀ (j : Nat) (x : AV), l[j]? = some x → Below n x := fun _ _ hj => h _ (List.mem_of_getElem? hj)
theorem below_fl {n size k : Nat} {rows : Nat → List AV} (h : ∀ i, ∀ x ∈ rows i, Below n x) : Below n (.fl size k rows) := by
  refine .fl _ _ _ (.sl _ _ fun i r j x hi hj => ?_)
  obtain ⟨m, _, rfl⟩ := List.mem_map.1 (List.mem_of_getElem? hi)
  exact h m x (List.mem_of_getElem? hj)
/-- A slice type whose elements are one cell. -/
structure Elem1 (t e : TypeId) : Prop where
  u : Try.prog.underlying t = some (.slice e)
  i : ∃ ie zx, Try.prog.info? e = some ie ∧ aZero Try.prog e = some zx ∧ ie.size = 1 ∧ ie.bytes ≤ 65536 ∧ zx.cells.length = 1 ∧ zx.cells.all AV.one = true
theorem elem1 {t e : TypeId} (hu : Try.prog.underlying t = some (.slice e)) (h1 : (Try.prog.info? e).map (fun i => (i.size, decide (i.bytes ≤ 65536))) = some (1, true)) (h2 : (aZero Try.prog e).map (fun z => (z.cells.length, z.cells.all AV.one)) = some (1, true)) : Elem1 t e := by
  obtain ⟨ie, e1, e2⟩ := Option.map_eq_some_iff.1 h1
  obtain ⟨zx, e3, e4⟩ := Option.map_eq_some_iff.1 h2
  simp only [Prod.mk.injEq, decide_eq_true_eq] at e2 e4
  exact ⟨hu, ie, zx, e1, e3, e2.1, e2.2, e4.1, e4.2⟩
theorem el22 : Elem1 22 3 := elem1 Try.underlying22 (by kernel_rfl) (by kernel_rfl)
/-- A slice that grows, as its variable holds it (r: the number of its object); and its object. -/
def vA (r : Nat) : List AV → AV
  | [] => .zs
  | _ :: l => .ms 1 r l.length 0 (l.length + 1) (l.length + 1)
def oA : List AV → Heap
  | [] => []
  | x :: l => [.cells l.length (x :: l)]
theorem append_vA {t e : TypeId} (he : Elem1 t e) (σ : Heap) (L : List AV) (x : AV) (hx : x.one = true) (hl : L.length < 16777216) :
    aAppend Try.prog (σ ++ oA L) t t (vA σ.length L) (.sl 1 [[x]]) = some (vA σ.length (L ++ [x]), σ ++ oA (L ++ [x])) := by
  obtain ⟨ie, zx, h1, h2, h3, h4, h5, h6⟩ := he.i
  have hn : notInt Try.prog t = true := by unfold notInt; rw [he.u]
  unfold aAppend
  rw [he.u]
  simp only [h1, h2, h3]
  have hc : conts (σ ++ oA L) 1 (.sl 1 [[x]]) = some (1, [x]) := by simp [conts]
  rw [hc]
  have hone : ([x] : List AV).all AV.one = true := by simp [hx]
  simp only [hn, hone, h4, h5, h6, and_self, if_true]
  cases L with
  | nil => simp [vA, oA]
  | cons y r =>
    simp only [List.length_cons] at hl
    have ho : objAt (σ ++ oA (y :: r)) σ.length r.length = some (y :: r) := by simp [oA, objAt]
    simp only [vA, ho, List.cons_append]
    have e2 : r.length + 1 + 1 ≤ 16777216 := by omega
    simp [oA, e2, List.take_of_length_le]
/-- The outcome of an append, told beforehand. -/
def hApp (t : TypeId) (v x v' : AV) (h0 h' : Heap) : Heap → Oper → (Operand → Option AV) → Option (AV × Bool × Heap × Prop) := fun h o ρ => match o.op with
  | .call { callee := .builtin .append, args := args, argTypes := ts } => some (v', true, h', evAllR ρ args.toList = some [v, x] ∧ ts = #[t, t] ∧ h = h0 ∧ aAppend Try.prog h0 t t v x = some (v', h'))
  | _ => none
theorem hApp_ok (t : TypeId) (v x v' : AV) (h0 h' : Heap) : HintA Try.prog (hApp t v x v' h0 h') := by
  intro h o ρ y s h1 p hh hp
  unfold hApp at hh
  split at hh
  · rename_i args ts ho
    cases hh
    obtain ⟨p1, rfl, rfl, p4⟩ := hp
    unfold aopR
    simp only [ho, p1, Option.bind_some, aBuiltin, p4]
  · cases hh
/-- A list of one-cell values, as data. -/
def flA (L : List AV) : AV := .fl 1 L.length fun i => [L.getD i .junk]
theorem flA_rows (L : List AV) : (List.range L.length).map (fun i => ([L.getD i .junk] : List AV)) = L.map fun y => [y] := by
  apply List.ext_getElem?
  intro i
  simp only [List.getElem?_map]
  by_cases h : i < L.length
  · simp [h, List.getD_eq_getElem?_getD]
  · simp [h]
theorem RV.flA_of {w : World} {M : Map} {u : Value} {L : List AV} (h : RV w M u (.sl 1 (L.map fun y => [y]))) : RV w M u (flA L) := by
  refine .fl _ _ _ _ ?_
  rw [flA_rows]; exact h
theorem RV.flA_to {w : World} {M : Map} {u : Value} {L : List AV} (h : RV w M u (flA L)) : RV w M u (.sl 1 (L.map fun y => [y])) := by
  cases h with | fl _ _ _ _ h => rw [flA_rows] at h; exact h
theorem RV.flA_zs {w : World} {M : Map} {u : Value} (h : RV w M u .zs) : RV w M u (flA []) := by cases h; exact .fl _ _ _ _ (.sl0 _ _ _)
theorem below_flA {n : Nat} {L : List AV} (h : ∀ x ∈ L, Below n x) : Below n (flA L) := below_fl fun i x hx => by
  rw [List.mem_singleton.1 hx, List.getD_eq_getElem?_getD]
  cases hi : L[i]? with
  | none => exact .junk
  | some y => exact h y (List.mem_of_getElem? hi)
/-- A list of integers, as data. -/
def flL (L : List Int) : AV := .fl 1 L.length fun i => [I (L.getD i 0)]
theorem flL_rows (L : List Int) : (List.range L.length).map (fun i => ([I (L.getD i 0)] : List AV)) = (L.map I).map fun y => [y] := by
  apply List.ext_getElem?
  intro i
  simp only [List.getElem?_map]
  by_cases h : i < L.length
  · simp [h, List.getD_eq_getElem?_getD]
  · simp [h]
theorem RV.flL_of {w : World} {M : Map} {u : Value} {L : List Int} (h : RV w M u (.sl 1 ((L.map I).map fun y => [y]))) : RV w M u (flL L) := by
  refine .fl _ _ _ _ ?_
  rw [flL_rows]; exact h
theorem RV.flL_to {w : World} {M : Map} {u : Value} {L : List Int} (h : RV w M u (flL L)) : RV w M u (.sl 1 ((L.map I).map fun y => [y])) := by
  cases h with | fl _ _ _ _ h => rw [flL_rows] at h; exact h
theorem RV.flL_zs {w : World} {M : Map} {u : Value} (h : RV w M u .zs) : RV w M u (flL []) := by cases h; exact .fl _ _ _ _ (.sl0 _ _ _)
theorem below_flL {n : Nat} (L : List Int) : Below n (flL L) := below_fl fun i x hx => by rw [List.mem_singleton.1 hx]; exact .int _ _
/-- A list of lists of integers, as data. -/
def flLL (L : List (List Int)) : AV := .fl 1 L.length fun i => [flL (L.getD i [])]
theorem flLL_rows (L : List (List Int)) : (List.range L.length).map (fun i => ([flL (L.getD i [])] : List AV)) = (L.map flL).map fun y => [y] := by
  apply List.ext_getElem?
  intro i
  simp only [List.getElem?_map]
  by_cases h : i < L.length
  · simp [h, List.getD_eq_getElem?_getD]
  · simp [h]
theorem RV.flLL_of {w : World} {M : Map} {u : Value} {L : List (List Int)} (h : RV w M u (.sl 1 ((L.map flL).map fun y => [y]))) : RV w M u (flLL L) := by
  refine .fl _ _ _ _ ?_
  rw [flLL_rows]; exact h
theorem RV.flLL_to {w : World} {M : Map} {u : Value} {L : List (List Int)} (h : RV w M u (flLL L)) : RV w M u (.sl 1 ((L.map flL).map fun y => [y])) := by
  cases h with | fl _ _ _ _ h => rw [flLL_rows] at h; exact h
theorem RV.flLL_zs {w : World} {M : Map} {u : Value} (h : RV w M u .zs) : RV w M u (flLL []) := by cases h; exact .fl _ _ _ _ (.sl0 _ _ _)
theorem below_flLL {n : Nat} (L : List (List Int)) : Below n (flLL L) := below_fl fun i x hx => by rw [List.mem_singleton.1 hx]; exact below_flL _
theorem ACall.conv {P : Program} {G : Nat → Option (List AV)} {f : FuncId} {xs : List AV} {σ σ' : Heap} {v v' : AV} (h : ACall P G f xs σ v σ') (hv : ∀ w M u, RV w M u v → RV w M u v') : ACall P G f xs σ v' σ' :=
  ⟨h.1, fun w M vs hi hvs => (h.2 w M vs hi hvs).mono fun _ _ ⟨u, M', he, hu, hx, hi'⟩ => ⟨u, M', he, hv _ _ _ hu, hx, hi'⟩⟩
theorem freezeL_id {h : Heap} {k : Nat} : ∀ {L : List AV}, (∀ x ∈ L, freeze h k x = some x) → freezeL (freeze h k) L = some L
  | [], _ => rfl
  | x :: r, hx => by
    unfold freezeL
    rw [hx x (by simp), freezeL_id fun y hy => hx y (by simp [hy])]
theorem rowsOf_ones {h : Heap} {k : Nat} : ∀ (l pre : List AV), (∀ x ∈ l, freeze h k x = some x) → rowsOf (freeze h k) 1 (pre ++ l) pre.length l.length = some (l.map fun y => [y])
  | [], pre, _ => rfl
  | x :: r, pre, hx => by
    have ih := rowsOf_ones r (pre ++ [x]) fun y hy => hx y (by simp [hy])
    simp only [List.length_append, List.length_singleton, List.append_assoc, List.singleton_append] at ih
    simp only [List.length_cons, rowsOf]
    rw [if_pos (by simp), ih]
    have : ((pre ++ x :: r).drop pre.length).take 1 = [x] := by simp
    rw [this, freezeL_id fun y hy => hx y (by rw [List.mem_singleton.1 hy]; simp)]
    rfl
/-- The data that a grown slice is. -/
def fA : List AV → AV
  | [] => .zs
  | x :: l => .sl 1 ((x :: l).map fun y => [y])
theorem freeze_vA (L : List AV) (k : Nat) (hx : ∀ x ∈ L, freeze (oA L) k x = some x) : freeze (oA L) (k + 1) (vA 0 L) = some (fA L) := by
  cases L with
  | nil => rfl
  | cons x r =>
    have := rowsOf_ones (h := oA (x :: r)) (k := k) (x :: r) [] hx
    simp only [List.nil_append, List.length_nil, List.length_cons] at this
    unfold freeze
    simp only [vA]
    have ho : objAt (oA (x :: r)) 0 r.length = some (x :: r) := by simp [oA, objAt]
    rw [ho]
    simp only [this, Option.map_some, fA]
theorem RV.fA_flL {w : World} {M : Map} {u : Value} {L : List Int} (h : RV w M u (fA (L.map I))) : RV w M u (flL L) := by
  cases L with
  | nil => exact h.flL_zs
  | cons x r => exact h.flL_of
theorem RV.fA_flLL {w : World} {M : Map} {u : Value} {L : List (List Int)} (h : RV w M u (fA (L.map flL))) : RV w M u (flLL L) := by
  cases L with
  | nil => exact h.flLL_zs
  | cons x r => exact h.flLL_of
theorem RV.fA_flA {w : World} {M : Map} {u : Value} {L : List AV} (h : RV w M u (fA L)) : RV w M u (flA L) := by
  cases L with
  | nil => exact h.flA_zs
  | cons x r => exact h.flA_of
theorem clok0 : ClOk Try.prog G0 {} := .of rfl rfl fun f xs t v h => by cases h
theorem fnOf {f : FuncId} (h : ((Try.prog.funcs[f]?).bind (·.body)).isSome = true) : ∃ fn c, Try.prog.funcs[f]? = some fn ∧ fn.body = some c ∧ bodyOf Try.prog f = c := by
  obtain ⟨c, h4⟩ := Option.isSome_iff_exists.1 h
  obtain ⟨fn, h2, h4⟩ := Option.bind_eq_some_iff.1 h4
  exact ⟨fn, c, h2, h4, by unfold bodyOf; rw [h2]; simp [h4]⟩
/-- A function, from what the machine finds of it, over whatever heap. -/
theorem ACall.find {E : Env} (hcl : ClOk Try.prog G0 E) {lp : Loops} {n : Nat} {f : FuncId} (hlp : LoopsOk Try.prog G0 (fun r => r = none) [] lp (bodyOf Try.prog f)) {xs : List AV} {tags : List Bool} {h h' : Heap} {v : AV} {s : Bool}
    (hx : (xenter Try.prog E (xCode Try.prog G0 E n lp) f xs tags h).sel = some (v, s, h')) : ACall Try.prog G0 f xs h v h' := by
  have hfn : ∃ fn c, Try.prog.funcs[f]? = some fn ∧ fn.body = some c := by
    unfold xenter at hx
    split at hx
    · rename_i fn hfn
      split at hx
      · rename_i c hb; exact ⟨fn, c, hfn, hb⟩
      · cases hx
    · cases hx
  obtain ⟨fn, c, h1, h2⟩ := hfn
  have hc : bodyOf Try.prog f = c := by unfold bodyOf; rw [h1]; simp [h2]
  rw [hc] at hlp
  exact xFn_ok names mixed hcl h1 h2 hlp hx
theorem RV.tup2 {w : World} {M : Map} {u : Value} {a b a' b' : AV} (h : RV w M u (.tup [a, b])) (ha : ∀ v, RV w M v a → RV w M v a') (hb : ∀ v, RV w M v b → RV w M v b') : RV w M u (.tup [a', b']) := by
  cases h with
  | tup vs _ hl h =>
    refine .tup vs _ hl fun j x hx => ?_
    match j, hx with
    | 0, hx => cases hx; exact ha _ (h 0 a rfl)
    | 1, hx => cases hx; exact hb _ (h 1 b rfl)
    | j + 2, hx => simp at hx
/-- All other calls: nothing is said. -/
def failH : FuncId → List AV → Heap → Option (Tree (AV × Heap)) := fun _ _ _ => some .fail
theorem failH_ok : ∀ f xs σ t v σ', failH f xs σ = some t → t.sel = some (v, σ') → ACall Try.prog G0 f xs σ v σ' := fun f xs σ t v σ' h hs => by cases h; cases hs
/-- A store, told beforehand. -/
def hSt (t : TypeId) (p x : AV) (h1 h2 : Heap) : Heap → Oper → (Operand → Option AV) → Option (AV × Bool × Heap × Prop) := fun h o ρ => match o.op with
  | .store t' a b => if t' = t then some (.tup [], false, h2, ρ a = some p ∧ ρ b = some x ∧ h = h1 ∧ aStore Try.prog h1 t p x = some h2) else none
  | _ => none
theorem hSt_ok (t : TypeId) (p x : AV) (h1 h2 : Heap) : HintA Try.prog (hSt t p x h1 h2) := by
  intro h o ρ y s h' q hh hp
  unfold hSt at hh
  split at hh
  · rename_i t' a b ho
    split at hh
    · rename_i ht
      subst ht
      cases hh
      obtain ⟨p1, p2, rfl, p4⟩ := hp
      unfold aopR
      simp only [ho, p1, p2, p4, Option.map_some]
    · cases hh
  · cases hh
/-- A type of one cell. -/
def One (t : TypeId) : Prop := ∃ i, Try.prog.info? t = some i ∧ i.size = 1
theorem one_of {t : TypeId} (h : (Try.prog.info? t).map (fun i => i.size) = some 1) : One t := Option.map_eq_some_iff.1 h
theorem store_new {t : TypeId} (ht : One t) (h : Heap) (x y : AV) (hx : x.one = true) : aStore Try.prog (h ++ [.cells 0 [y]]) t (.ref h.length 0 0) x = some (h ++ [.cells 0 [x]]) := by
  obtain ⟨i, h1, h2⟩ := ht
  have ho : objAt (h ++ [.cells 0 [y]]) h.length 0 = some [y] := by simp [objAt]
  have hc : x.cells = [x] := by cases x <;> first | rfl | cases hx
  simp only [aStore, h1, ho, h2, hc]
  rw [if_pos ⟨rfl, by simp, by simp [hx]⟩]
  simp [setL]
def hAl (t : TypeId) (r : Nat) (h1 h2 : Heap) : Heap → Oper → (Operand → Option AV) → Option (AV × Bool × Heap × Prop) := fun h o _ => match o.op with
  | .alloc t' => if t' = t then some (.ref r 0 0, true, h2, h = h1 ∧ aAlloc Try.prog h1 t = some (.ref r 0 0, h2)) else none
  | _ => none
theorem hAl_ok (t : TypeId) (r : Nat) (h1 h2 : Heap) : HintA Try.prog (hAl t r h1 h2) := by
  intro h o ρ y s h' p hh hp
  unfold hAl at hh
  split at hh
  · rename_i t' ho
    split at hh
    · rename_i ht
      subst ht
      cases hh
      obtain ⟨rfl, p2⟩ := hp
      unfold aopR
      simp only [ho, p2]
    · cases hh
  · cases hh
def hMk (t : TypeId) (v : AV) (l : Int) (h1 h2 : Heap) : Heap → Oper → (Operand → Option AV) → Option (AV × Bool × Heap × Prop) := fun h o ρ => match o.op with
  | .makeSlice t' a b => if t' = t then some (v, true, h2, ρ a = some (I l) ∧ ρ b = some (I l) ∧ h = h1 ∧ aMake Try.prog h1 t (I l) (I l) = some (v, h2)) else none
  | _ => none
theorem hMk_ok (t : TypeId) (v : AV) (l : Int) (h1 h2 : Heap) : HintA Try.prog (hMk t v l h1 h2) := by
  intro h o ρ y s h' p hh hp
  unfold hMk at hh
  split at hh
  · rename_i t' a b ho
    split at hh
    · rename_i ht
      subst ht
      cases hh
      obtain ⟨p1, p2, rfl, p4⟩ := hp
      unfold aopR
      simp only [ho, p1, p2, p4]
    · cases hh
  · cases hh
theorem at_app (σ rest : Heap) (i : Nat) : (σ ++ rest)[σ.length + i]? = rest[i]? := by
  rw [List.getElem?_append_right (by omega)]
  congr 1; omega
theorem set_app (σ rest : Heap) (i : Nat) (x : AObj) : (σ ++ rest).set (σ.length + i) x = σ ++ rest.set i x := by
  rw [List.set_append_right _ _ (by omega)]
  congr 2; omega
theorem objAt_app {σ rest : Heap} {i g : Nat} {c : List AV} (h : rest[i]? = some (.cells g c)) : objAt (σ ++ rest) (σ.length + i) g = some c := by
  unfold objAt
  rw [at_app, h]
  simp
theorem clokFail : ClOk Try.prog G0 { clh := failH } := .all .none failH_ok (fun l xs σ t v σ' h => (by cases h)) (fun f xs t v h => (by cases h))
def lpS (i : Nat) (keep : List Nat) (S : St) (b : Bool) (r x : St) : Loops := fun id => bif Nat.beq id i then some (keep, S, .ite b (.leaf (.ret, r)) (.leaf (.exit 0, x))) else none
/-- A loop that goes over 0 to N - 1, and returns where it stops. -/
structure Scan (body : Code) (keep : List Nat) (N : Nat) (S R : Nat → St) (X : St) (stop : Nat → Bool) : Prop where
  n0 : ∀ k, (S k).n = (S 0).n
  nR : ∀ k, (R k).n = (S 0).n
  nX : X.n = (S 0).n
  run : ∀ k, k ≤ N → ∃ E, ClOk Try.prog G0 E ∧ (xBody Try.prog G0 E 200 noLoops keep body (S k)).sel = some (bif decide (k < N) then bif stop k then (.ret, R k) else (.normal, S (k + 1)) else (.exit 0, X))
section
variable {body : Code} {keep : List Nat} {N q : Nat} {S R : Nat → St} {X : St} {stop : Nat → Bool}
def scanEnd (N p : Nat) (R : Nat → St) (X : St) : Exit × St := bif decide (p < N) then (.ret, R p) else (.exit 0, X)
theorem Scan.loop (hs : Scan body keep N S R X stop) {Rr : Option Nat → Prop} : ∀ (d k : Nat), k + d = N →
    ALoopRun Try.prog G0 Rr body { tmps := (S k).a } (S k).h (scanEnd N (fstStop stop d k) R X).1 { tmps := (scanEnd N (fstStop stop d k) R X).2.a } (scanEnd N (fstStop stop d k) R X).2.h
  | 0, k, hk => by
    obtain ⟨E, h1, h2⟩ := hs.run k (by omega)
    rw [decide_eq_false (by omega), cond_false] at h2
    simp only [fstStop]
    unfold scanEnd
    rw [decide_eq_false (by omega), cond_false]
    exact .stop (xBody_ok (m := []) names mixed h1 (lpNo body) h2).1 nofun
  | d + 1, k, hk => by
    obtain ⟨E, h1, h2⟩ := hs.run k (by omega)
    rw [decide_eq_true (by omega), cond_true] at h2
    unfold fstStop
    cases hp : stop k with
    | true =>
      rw [hp, cond_true] at h2
      simp only [if_true]
      unfold scanEnd
      rw [decide_eq_true (by omega), cond_true]
      exact .stop (xBody_ok (m := []) names mixed h1 (lpNo body) h2).1 nofun
    | false =>
      rw [hp, cond_false] at h2
      simp only [Bool.false_eq_true, if_false]
      exact .next (xBody_ok (m := []) names mixed h1 (lpNo body) h2).1 (hs.loop d (k + 1) (by omega))
theorem Scan.ok (hs : Scan body keep N S R X stop) {f : FuncId} {i : Nat} (hl : loopsOf (bodyOf Try.prog f) = [body]) (hi : idOf body = i) :
    LoopsOk Try.prog G0 (fun r => r = none) [] (lpS i keep (S 0) (decide (fstStop stop N 0 < N)) (R (fstStop stop N 0)) X) (bodyOf Try.prog f) := by
  refine .of_list _ fun x hm => ?_
  rw [hl] at hm
  obtain rfl := List.mem_singleton.1 hm
  intro kp s0 t e st' h' hsel
  rw [hi] at h'
  unfold lpS at h'
  rw [Nat.beq_refl, cond_true] at h'
  cases h'
  have key := hs.loop (Rr := fun r => r = none) N 0 (by omega)
  rw [selI] at hsel
  unfold scanEnd at key
  revert key hsel
  cases decide (fstStop stop N 0 < N) with
  | true => intro hsel key; cases hsel; exact ⟨.loop key, hs.nR _⟩
  | false => intro hsel key; cases hsel; exact ⟨.loop key, hs.nX⟩
end
/-- A loop that is not reached. -/
def lpF (i : Nat) (keep : List Nat) (S : St) : Loops := fun id => bif Nat.beq id i then some (keep, S, .fail) else none
theorem lpF_ok (i : Nat) (keep : List Nat) (S : St) (c : Code) : LoopsOk Try.prog G0 (fun r => r = none) [] (lpF i keep S) c := by
  refine .of_list _ fun x hm => ?_
  intro kp s0 t e st' h' hsel
  unfold lpF at h'
  cases hb : Nat.beq (idOf x) i with
  | true => rw [hb, cond_true] at h'; cases h'; cases hsel
  | false => rw [hb, cond_false] at h'; cases h'
theorem fstStop_at' {stop : Nat → Bool} : ∀ (d k : Nat), fstStop stop d k < k + d → stop (fstStop stop d k) = true
  | 0, k, h => by unfold fstStop at h; omega
  | d + 1, k, h => by
    unfold fstStop at h ⊢
    split
    · assumption
    · rename_i hk; rw [if_neg hk] at h; exact fstStop_at' d (k + 1) (by omega)
theorem fstStop_iff (stop : Nat → Bool) (N : Nat) : fstStop stop N 0 < N ↔ ∃ k, k < N ∧ stop k = true := by
  constructor
  · intro h; exact ⟨_, h, fstStop_at' N 0 (by omega)⟩
  · intro ⟨k, h1, h2⟩
    by_cases h : fstStop stop N 0 < N
    · exact h
    · have := fstStop_before (stop := stop) N 0 k (by omega) (by omega)
      rw [h2] at this; cases this
/-- A loop that goes to its end. -/
def lpX (i : Nat) (keep : List Nat) (S x : St) : Loops := fun id => bif Nat.beq id i then some (keep, S, .leaf (.exit 0, x)) else none
theorem fstStop_none (N : Nat) : fstStop (fun _ => false) N 0 = N := by
  have h := fstStop_le (stop := fun _ => false) N 0
  by_cases hlt : fstStop (fun _ => false) N 0 < N
  · obtain ⟨k, _, h⟩ := (fstStop_iff _ _).1 hlt; cases h
  · omega
theorem Scan.okX {body : Code} {keep : List Nat} {N : Nat} {S R : Nat → St} {X : St} (hs : Scan body keep N S R X fun _ => false) {f : FuncId} {i : Nat} (hl : loopsOf (bodyOf Try.prog f) = [body]) (hi : idOf body = i) :
    LoopsOk Try.prog G0 (fun r => r = none) [] (lpX i keep (S 0) X) (bodyOf Try.prog f) := by
  refine .of_list _ fun x hm => ?_
  rw [hl] at hm
  obtain rfl := List.mem_singleton.1 hm
  intro kp s0 t e st' h' hsel
  rw [hi] at h'
  unfold lpX at h'
  rw [Nat.beq_refl, cond_true] at h'
  cases h'
  have key := hs.loop (Rr := fun r => r = none) N 0 (by omega)
  rw [fstStop_none] at key
  unfold scanEnd at key
  rw [decide_eq_false (Nat.lt_irrefl N)] at key
  cases hsel
  exact ⟨.loop key, hs.nX⟩
def EF : Env := { clh := failH }
theorem clokF : ClOk Try.prog G0 EF := .all .none failH_ok (fun l xs σ t v σ' h => (by cases h)) fun f xs t v h => by cases h
/-- Known functions with known arguments. -/
def clL : List (FuncId × List AV × AV) → FuncId → List AV → Option (Tree AV)
  | [], _, _ => none
  | (g, ys, v) :: r, f, xs => if f = g then some (.need (xs = ys) (.leaf v)) else clL r f xs
theorem clL_ok {l : List (FuncId × List AV × AV)} (hl : ∀ p ∈ l, ∀ σ, ACall Try.prog G0 p.1 p.2.1 σ p.2.2 σ) : ∀ f xs t v, clL l f xs = some t → t.sel = some v → ∀ σ, ACall Try.prog G0 f xs σ v σ := by
  induction l with
  | nil => intro f xs t v hq; cases hq
  | cons p r ih =>
    intro f xs t v hq hs σ
    obtain ⟨g, ys, u⟩ := p
    unfold clL at hq
    split at hq
    · rename_i hf
      subst hf
      cases hq
      obtain ⟨rfl, hs2⟩ := Tree.of_need hs
      cases hs2
      exact hl (f, _, _) (.head _) σ
    · exact ih (fun p hp => hl p (by simp [hp])) f xs t v hq hs σ
/-- The length of a slice, told beforehand. -/
def hLen (t : TypeId) (v : AV) (m : Int) : Heap → Oper → (Operand → Option AV) → Option (AV × Bool × Heap × Prop) := fun h o ρ => match o.op with
  | .call { callee := .builtin .len, args := args, argTypes := ts } => some (I m, true, h, evAllR ρ args.toList = some [v] ∧ ts = #[t] ∧ aLen Try.prog t v = some (I m))
  | _ => none
theorem hLen_ok (t : TypeId) (v : AV) (m : Int) : HintA Try.prog (hLen t v m) := by
  intro h o ρ y s h1 p hh hp
  unfold hLen at hh
  split at hh
  · rename_i args ts ho
    cases hh
    obtain ⟨p1, rfl, p4⟩ := hp
    unfold aopR
    simp only [ho, p1, Option.bind_some, aBuiltin, p4, Option.map_some]
  · cases hh
theorem len_vA {t e : TypeId} (hu : Try.prog.underlying t = some (.slice e)) (r : Nat) (L : List AV) : aLen Try.prog t (vA r L) = some (I L.length) := by
  unfold aLen
  rw [hu]
  cases L <;> rfl
theorem objAt_lt {σ : Heap} {r g : Nat} {c : List AV} (h : objAt σ r g = some c) : r < σ.length ∧ σ[r]? = some (.cells g c) := by
  unfold objAt at h
  split at h
  · rename_i g' c' he
    split at h
    · rename_i hg
      cases h
      subst hg
      exact ⟨(List.getElem?_eq_some_iff.1 he).1, he⟩
    · cases h
  · cases h
theorem objAt_push {σ τ : Heap} {r g : Nat} {c : List AV} (h : objAt σ r g = some c) : objAt (σ ++ τ) r g = some c := by
  obtain ⟨h1, h2⟩ := objAt_lt h
  unfold objAt
  rw [List.getElem?_append_left h1, h2]
  simp
theorem objAt_set {σ : Heap} {r g : Nat} {c : List AV} (h : r < σ.length) : objAt (σ.set r (.cells g c)) r g = some c := by
  unfold objAt
  rw [List.getElem?_set_self h]
  simp
theorem objAt_set_ne {σ : Heap} {r r' g : Nat} {o : AObj} (h : r' ≠ r) : objAt (σ.set r' o) r g = objAt σ r g := by
  unfold objAt
  rw [List.getElem?_set_ne h]
def EAp (v x v' : AV) (h h1 : Heap) : Env := { hint := hApp 22 v (.sl 1 [[x]]) v' h h1 }
theorem clokAp (v x v' : AV) (h h1 : Heap) : ClOk Try.prog G0 (EAp v x v' h h1) := .ofH rfl rfl (hApp_ok _ _ _ _ _ _).ok fun f xs t v h => by cases h
/-- A list that grows, from the empty heap. -/
def gV (L : List Int) : AV := vA 0 (L.map I)
def gH (L : List Int) : Heap := oA (L.map I)
theorem append_g (L : List Int) (x : Int) (hl : L.length < 16777216) : aAppend Try.prog (gH L) 22 22 (gV L) (.sl 1 [[I x]]) = some (gV (L ++ [x]), gH (L ++ [x])) := by
  have h := append_vA el22 [] (L.map I) (I x) rfl (by simpa using hl)
  simp only [List.nil_append, List.length_nil] at h
  unfold gV gH
  rw [h, List.map_append]
  rfl
theorem lift_g {f : FuncId} {args : List AV} {L : List Int} (h : ACall Try.prog G0 f args [] (gV L) (gH L)) (ha : ∀ x ∈ args, Below 0 x) (σ : Heap) : ACall Try.prog G0 f args σ (flL L) σ := by
  refine ((h.lift (k := 2) (freeze_vA _ 1 fun x hx => ?_) gbelow0 ha σ)).conv fun _ _ _ h => h.fA_flL
  obtain ⟨n, _, rfl⟩ := List.mem_map.1 hx; rfl
structure ScanG (body : Code) (keep : List Nat) (N q : Nat) (S R : Nat → St) (X : St) (stop : Nat → Bool) : Prop where
  n0 : ∀ k, (S k).n = (S 0).n
  nR : ∀ k, (R k).n = (S 0).n
  nX : X.n = (S 0).n
  run : ∀ k, k ≤ N → ∃ E lp st', ClOk Try.prog G0 E ∧ LoopsOk Try.prog G0 (fun r => r = none) [] lp body ∧
    (xBody Try.prog G0 E 200 lp keep body (S k)).sel = some (bif decide (k < N) then bif stop k then .ret else .normal else .exit q, st') ∧ st'.vals = (bif decide (k < N) then bif stop k then R k else S (k + 1) else X).vals
section
variable {body : Code} {keep : List Nat} {N q : Nat} {S R : Nat → St} {X : St} {stop : Nat → Bool}
def scanE (N q p : Nat) (R : Nat → St) (X : St) : Exit × St := bif decide (p < N) then (.ret, R p) else (.exit q, X)
theorem vals_eq {s t : St} (h : s.vals = t.vals) : s.a = t.a ∧ s.h = t.h := by
  unfold St.vals at h
  exact ⟨(Prod.mk.inj h).1, (Prod.mk.inj (Prod.mk.inj h).2).2⟩
theorem ScanG.loop (hs : ScanG body keep N q S R X stop) : ∀ (d k : Nat), k + d = N →
    ALoopRun Try.prog G0 (fun r => r = none) body { tmps := (S k).a } (S k).h (scanE N q (fstStop stop d k) R X).1 { tmps := (scanE N q (fstStop stop d k) R X).2.a } (scanE N q (fstStop stop d k) R X).2.h
  | 0, k, hk => by
    obtain ⟨E, lp, st', h1, hl, h2, h3⟩ := hs.run k (by omega)
    have hc : decide (k < N) = false := decide_eq_false (by omega)
    rw [hc, cond_false] at h2 h3
    simp only [fstStop]
    unfold scanE
    rw [hc, cond_false]
    have key := (xBody_ok (m := []) names mixed h1 hl h2).1
    rw [(vals_eq h3).1, (vals_eq h3).2] at key
    exact .stop key nofun
  | d + 1, k, hk => by
    obtain ⟨E, lp, st', h1, hl, h2, h3⟩ := hs.run k (by omega)
    have hc : decide (k < N) = true := decide_eq_true (by omega)
    rw [hc, cond_true] at h2 h3
    have key := (xBody_ok (m := []) names mixed h1 hl h2).1
    rw [(vals_eq h3).1, (vals_eq h3).2] at key
    unfold fstStop
    cases hp : stop k with
    | true =>
      rw [hp] at key
      simp only [if_true]
      unfold scanE
      rw [hc, cond_true]
      exact .stop key nofun
    | false =>
      rw [hp] at key
      simp only [Bool.false_eq_true, if_false]
      exact .next key (hs.loop d (k + 1) (by omega))
/-- What is known of such a loop: it returns, or it goes to its end. -/
def lpG (i : Nat) (keep : List Nat) (S : St) (b : Bool) (r : St) (q : Nat) (x : St) : Loops := fun id => bif Nat.beq id i then some (keep, S, .ite b (.leaf (.ret, r)) (.leaf (.exit q, x))) else none
def lpY (i : Nat) (keep : List Nat) (S : St) (q : Nat) (x : St) : Loops := fun id => bif Nat.beq id i then some (keep, S, .leaf (.exit q, x)) else none
theorem ScanG.ok (hs : ScanG body keep N q S R X stop) {c : Code} {i : Nat} (hu : ∀ x ∈ loopsOf c, idOf x = i → x = body) :
    LoopsOk Try.prog G0 (fun r => r = none) [] (lpG i keep (S 0) (decide (fstStop stop N 0 < N)) (R (fstStop stop N 0)) q X) c := by
  refine .of_list _ fun x hm => ?_
  intro kp s0 t e st' h' hsel
  unfold lpG at h'
  cases hb : Nat.beq (idOf x) i with
  | false => rw [hb, cond_false] at h'; cases h'
  | true =>
    rw [hb, cond_true] at h'
    obtain rfl := hu x hm (Nat.eq_of_beq_eq_true hb)
    cases h'
    have key := hs.loop N 0 (by omega)
    rw [selI] at hsel
    unfold scanE at key
    revert key hsel
    cases decide (fstStop stop N 0 < N) with
    | true => intro hsel key; cases hsel; exact ⟨.loop key, hs.nR _⟩
    | false => intro hsel key; cases hsel; exact ⟨.loop key, hs.nX⟩
theorem ScanG.okX (hs : ScanG body keep N q S R X fun _ => false) {c : Code} {i : Nat} (hu : ∀ x ∈ loopsOf c, idOf x = i → x = body) :
    LoopsOk Try.prog G0 (fun r => r = none) [] (lpY i keep (S 0) q X) c := by
  refine .of_list _ fun x hm => ?_
  intro kp s0 t e st' h' hsel
  unfold lpY at h'
  cases hb : Nat.beq (idOf x) i with
  | false => rw [hb, cond_false] at h'; cases h'
  | true =>
    rw [hb, cond_true] at h'
    obtain rfl := hu x hm (Nat.eq_of_beq_eq_true hb)
    cases h'
    have key := hs.loop N 0 (by omega)
    rw [fstStop_none] at key
    unfold scanE at key
    rw [decide_eq_false (Nat.lt_irrefl N)] at key
    cases hsel
    exact ⟨.loop key, hs.nX⟩
end
/-- Known functions, no hints. -/
def EK (l : List (FuncId × List AV × AV)) : Env := { cl := clL l }
theorem clokK {l : List (FuncId × List AV × AV)} (hl : ∀ p ∈ l, ∀ σ, ACall Try.prog G0 p.1 p.2.1 σ p.2.2 σ) : ClOk Try.prog G0 (EK l) := .ofH rfl rfl .none fun f xs t v h hs σ => clL_ok hl f xs t v h hs σ
theorem getD_nat {L : List Int} {k : Nat} (hk : k < L.length) : L.getD (k : Int).toNat 0 = L[k] := by rw [Int.toNat_natCast]; simp [List.getD_eq_getElem?_getD, hk]
def look (l : List (Nat × AV × Bool)) (j : Nat) (d : AV × Bool) : AV × Bool := l.foldl (fun acc p => if j = p.1 then p.2 else acc) d
theorem get_of (l : List (Nat × AV × Bool)) (j : Nat) : ∀ t : PT, (l.foldl (fun t p => t.set p.1 p.2.1 p.2.2) t).get j = look l j (t.get j) := by
  induction l with
  | nil => intro t; rfl
  | cons p l ih =>
    intro t
    rw [List.foldl_cons, ih]
    unfold look
    rw [List.foldl_cons]
    congr 1
    unfold PT.set
    rw [PT.get_setF _ _ _ _ _ _ (Nat.lt_succ_self _)]
theorem at_of (n : Nat) (h : Heap) (l : List (Nat × AV × Bool)) (j : Nat) : (St.of n h l).a[j]? = if j < n then some (look l j (.junk, false)).1 else none := by
  rw [St.at_eq]
  unfold St.at St.of
  simp only [get_of, PT.get_nil]
  by_cases h : j < n
  · rw [if_pos h, show Nat.blt j n = true from by rw [Nat.blt_eq]; exact h]; rfl
  · rw [if_neg h, show Nat.blt j n = false from by rw [← Bool.not_eq_true, Nat.blt_eq]; exact h]; rfl
/-- Two frames with the same places, entry by entry. -/
def Rel2 (Rl : AV → AV → Prop) : List (Nat × AV × Bool) → List (Nat × AV × Bool) → Prop
  | [], [] => True
  | p :: l, q :: m => p.1 = q.1 ∧ Rl p.2.1 q.2.1 ∧ Rel2 Rl l m
  | _, _ => False
theorem look_rel {Rl : AV → AV → Prop} (j : Nat) : ∀ (l m : List (Nat × AV × Bool)) (d e : AV × Bool), Rel2 Rl l m → Rl d.1 e.1 → Rl (look l j d).1 (look m j e).1
  | [], [], d, e, _, h => h
  | p :: l, q :: m, d, e, ⟨h1, h2, h3⟩, h => by
    unfold look
    rw [List.foldl_cons, List.foldl_cons]
    refine look_rel j l m _ _ h3 ?_
    rw [h1]
    split
    · exact h2
    · exact h
  | [], _ :: _, _, _, h, _ => h.elim
  | _ :: _, [], _, _, h, _ => h.elim
theorem rel_at {Rl : AV → AV → Prop} {n : Nat} {h h' : Heap} {l m : List (Nat × AV × Bool)} (hr : Rel2 Rl l m) (hj : Rl .junk .junk) (j : Nat) (y : AV) (hy : (St.of n h' m).a[j]? = some y) : ∃ x, (St.of n h l).a[j]? = some x ∧ Rl x y := by
  rw [at_of] at hy
  split at hy
  · rename_i hlt
    cases hy
    refine ⟨_, by rw [at_of, if_pos hlt], look_rel j l m _ _ hr hj⟩
  · cases hy
theorem len_of (n : Nat) (h : Heap) (l : List (Nat × AV × Bool)) : (St.of n h l).a.length = n := by
  unfold St.a St.of
  simp
/-- A value that stays what it is, where what is new becomes data. -/
theorem ToData.same {n : Nat} {σ : Heap} {x : AV} (h : Below n x) : ToData n σ x x := .inl ⟨h, fun _ _ _ h => h⟩
def fS : Code → Code
  | .seq x _ => x
  | c => c
def sS : Code → Code
  | .seq _ y => y
  | c => c
def uB : Code → Code
  | .block _ x => x
  | c => c
/-- A load, told beforehand. -/
def hLd2 (t : TypeId) (x : AV) : Heap → Oper → (Operand → Option AV) → Option (AV × Bool × Heap × Prop) := fun h o ρ => match o.op with
  | .load t' q => match Nat.beq t' t with
    | true => match ρ q with
      | some (.ref r g off) => some (x, true, h, aLoad Try.prog h t (.ref r g off) = some x)
      | _ => none
    | false => none
  | _ => none
theorem hLd2_ok (t : TypeId) (x : AV) : HintA Try.prog (hLd2 t x) := by
  intro h o ρ y s h' p hh hp
  unfold hLd2 at hh
  split at hh
  · rename_i t' q ho
    split at hh
    · rename_i ht
      obtain rfl := Nat.eq_of_beq_eq_true ht
      split at hh
      · rename_i r g off hx
        cases hh
        unfold aopR
        simp only [ho, hx, Option.bind_some, hp, Option.map_some]
      · cases hh
    · cases hh
  · cases hh
theorem set_of (n : Nat) (h : Heap) (l : List (Nat × AV × Bool)) (i : Nat) (v : AV) : (St.of n h l).a.set i v = (St.of n h (l ++ [(i, v, true)])).a := by
  apply List.ext_getElem?
  intro j
  rw [at_of, List.getElem?_set, at_of, len_of]
  unfold look
  rw [List.foldl_append, List.foldl_cons, List.foldl_nil]
  by_cases hij : i = j
  · subst hij
    simp
  · rw [if_neg hij]
    by_cases hj : j < n
    · rw [if_pos hj, if_pos hj, if_neg (fun h => hij h.symm)]
    · rw [if_neg hj, if_neg hj]
theorem step_move {a : AAct} {σ : Heap} {o : Oper} {i : Nat} {v : AV} (ho : o.op = .move (.tmp i) ∨ o.op = .assign (.tmp i)) (hv : a.tmps[i]? = some v) : AStep Try.prog G0 a σ o v σ := by
  refine .op ?_
  rw [aopR_eq]
  unfold aopR
  rcases ho with ho | ho <;> simp only [ho, ev, hv, Option.map_some]
theorem wanted_none {ops : Array Oper} {t : List AV} {o : Oper} (h : o.guard = none) : awanted ops t o = some true := by
  unfold awanted
  rw [h]
def unL : AV → List Int
  | .fl _ n r => (List.range n).map fun i => intOf ((r i).headD .junk)
  | _ => []
theorem unL_flL (L : List Int) : unL (flL L) = L := by
  apply List.ext_getElem?
  intro i
  simp only [unL, flL, List.getElem?_map]
  by_cases h : i < L.length
  · simp [h, List.getD_eq_getElem?_getD, intOf]
  · simp [h]
end Go.Proofs.Ytngaihdpmoajeaa.Am

namespace Go.Proofs.Ytngaihdpmoajeaa.Am
open Go
set_option maxRecDepth 100000

noncomputable def body23 : Code := (loopsOf (bodyOf Try.prog 23)).headD .skip
def st23 (a b : List Int) (k : Int) (h : Heap) : St := .of 26 h [(0, flL a, true), (1, flL b, true), (4, .bool false, false), (12, I a.length, true), (13, I k, true)]
theorem run23 (a b : List Int) (k : Nat) (h : Heap) : xBody Try.prog G0 {} 200 noLoops [0, 1, 4, 12, 13] body23 (st23 a b k h) =
    .ite (decide ((k : Int) < a.length)) (.need (0 ≤ (k : Int) ∧ (k : Int) < a.length) (.need (0 ≤ (k : Int) ∧ (k : Int) < b.length) (.ite (a.getD (k : Int).toNat 0 != b.getD (k : Int).toNat 0) (.leaf (.ret, st23 a b k h)) (.leaf (.normal, st23 a b (IntKind.i64.wrap (k + 1)) h))))) (.leaf (.exit 0, st23 a b k h)) := by kernel_rfl
theorem scan23 {a b : List Int} (hl : a.length < 4611686018427387904) (he : a.length = b.length) (h : Heap) : Scan body23 [0, 1, 4, 12, 13] a.length (fun k => st23 a b k h) (fun k => st23 a b k h) (st23 a b a.length h) fun k => a.getD k 0 != b.getD k 0 := by
  refine ⟨fun _ => rfl, fun _ => rfl, rfl, fun k hk => ⟨{}, clok0, ?_⟩⟩
  rw [run23, selI]
  by_cases hlt : k < a.length
  · have hw : IntKind.i64.wrap ((k : Int) + 1) = ((k + 1 : Nat) : Int) := wrap_i64 (by omega) (by omega)
    rw [decide_eq_true (by omega), decide_eq_true hlt, cond_true, cond_true, Tree.sel_need ⟨by omega, by omega⟩, Tree.sel_need ⟨by omega, by omega⟩, Int.toNat_natCast, selI, hw]
    cases a.getD k 0 != b.getD k 0 <;> rfl
  · have : k = a.length := by omega
    subst this
    rw [decide_eq_false (by omega), decide_eq_false hlt]
    rfl
theorem loops23 : loopsOf (bodyOf Try.prog 23) = [body23] := by kernel_rfl
theorem id23 : idOf body23 = 4 := by kernel_rfl
theorem runF23 (a b : List Int) (h : Heap) (t : Bool) (p q : Int) : xenter Try.prog {} (xCode Try.prog G0 {} 200 (lpS 4 [0, 1, 4, 12, 13] (st23 a b 0 h) t (st23 a b p h) (st23 a b q h))) 23 [flL a, flL b] [true, true] h =
    .ite ((a.length : Int) != b.length) (.leaf (.bool false, false, h)) (.need ((st23 a b 0 h).vals = (st23 a b 0 h).vals) (.ite t (.leaf (.bool false, false, h)) (.leaf (.bool true, false, h)))) := by kernel_rfl
theorem list_eq_iff (a b : List Int) : a = b ↔ a.length = b.length ∧ ∀ k, k < a.length → a.getD k 0 = b.getD k 0 := by
  constructor
  · rintro rfl; exact ⟨rfl, fun _ _ => rfl⟩
  · intro ⟨h1, h2⟩
    apply List.ext_getElem h1
    intro k h3 h4
    have := h2 k h3
    simpa [List.getD_eq_getElem?_getD, h3, h4] using this
theorem c23 {a b : List Int} (hl : a.length < 4611686018427387904) (h : Heap) : ACall Try.prog G0 23 [flL a, flL b] h (.bool (a == b)) h := by
  by_cases he : a.length = b.length
  · have hs := scan23 hl he h
    refine .find (s := false) (n := 200) (tags := [true, true]) clok0 (hs.ok loops23 id23) ?_
    refine (congrArg Tree.sel (runF23 a b h _ _ _)).trans ?_
    rw [selI, bne_eq_false_iff_eq.2 (by omega : (a.length : Int) = b.length), cond_false, selR, selI]
    by_cases hp : fstStop (fun k => a.getD k 0 != b.getD k 0) a.length 0 < a.length
    · rw [decide_eq_true hp]
      obtain ⟨k, h1, h2⟩ := (fstStop_iff _ _).1 hp
      have : (a == b) = false := beq_eq_false_iff_ne.2 fun e => by subst e; simp at h2
      rw [this]; rfl
    · rw [decide_eq_false hp]
      have : a = b := (list_eq_iff a b).2 ⟨he, fun k hk => by
        have := fun h => hp ((fstStop_iff _ _).2 ⟨k, hk, h⟩)
        simpa using this⟩
      rw [this, beq_self_eq_true]; rfl
  · have run2 : xenter Try.prog {} (xCode Try.prog G0 {} 200 (lpF 4 [0, 1, 4, 12, 13] (st23 a b 0 h))) 23 [flL a, flL b] [true, true] h =
      .ite ((a.length : Int) != b.length) (.leaf (.bool false, false, h)) (.need ((st23 a b 0 h).vals = (st23 a b 0 h).vals) .fail) := by kernel_rfl
    refine .find (s := false) (n := 200) (tags := [true, true]) clok0 (lpF_ok 4 [0, 1, 4, 12, 13] (st23 a b 0 h) _) ?_
    rw [run2, selI, bne_iff_ne.2 (by omega : (a.length : Int) ≠ b.length)]
    have : (a == b) = false := beq_eq_false_iff_ne.2 fun e => he (by rw [e])
    rw [this]; rfl
noncomputable def body60 : Code := (loopsOf (bodyOf Try.prog 60)).headD .skip
def cl23 : FuncId → List AV → Option (Tree AV) := fun f xs => match f, xs with
  | 23, [x, y] => some (.need (x = flL (unL x) ∧ y = flL (unL y) ∧ (unL x).length < 4611686018427387904) (.leaf (.bool (unL x == unL y))))
  | _, _ => none
theorem cl26_ok {f : FuncId} {xs : List AV} {t : Tree AV} {v : AV} (hq : cl23 f xs = some t) (hs : t.sel = some v) (σ : Heap) : ACall Try.prog G0 f xs σ v σ := by
  unfold cl23 at hq
  split at hq <;> first | (cases hq; done) | skip
  rename_i x y
  cases hq
  obtain ⟨⟨h1, h2, h3⟩, hs2⟩ := Tree.of_need hs
  cases hs2
  have := c23 (a := unL x) (b := unL y) h3 σ
  rwa [← h1, ← h2] at this
theorem clok23 : ClOk Try.prog G0 { cl := cl23 } := .of rfl rfl fun f xs t v h hs σ => cl26_ok h hs σ
def st60 (a b : List (List Int)) (k : Int) (h : Heap) : St := .of 32 h [(1, flLL b, true), (2, .fn 23 [] [], true), (6, .bool false, false), (15, flLL a, true), (16, I a.length, true), (17, I k, true)]
theorem run60 (a b : List (List Int)) (k : Nat) (h : Heap) : xBody Try.prog G0 { cl := cl23 } 200 noLoops [1, 2, 6, 15, 16, 17] body60 (st60 a b k h) =
    .ite (decide ((k : Int) < a.length)) (.need (0 ≤ (k : Int) ∧ (k : Int) < a.length) (.need (0 ≤ (k : Int) ∧ (k : Int) < b.length) (.need (flL (a.getD (k : Int).toNat []) = flL (unL (flL (a.getD (k : Int).toNat []))) ∧ flL (b.getD (k : Int).toNat []) = flL (unL (flL (b.getD (k : Int).toNat []))) ∧ (unL (flL (a.getD (k : Int).toNat []))).length < 4611686018427387904)
      (.ite (!(unL (flL (a.getD (k : Int).toNat [])) == unL (flL (b.getD (k : Int).toNat [])))) (.leaf (.ret, st60 a b k h)) (.leaf (.normal, st60 a b (IntKind.i64.wrap (k + 1)) h)))))) (.leaf (.exit 0, st60 a b k h)) := by kernel_rfl
theorem scan60 {a b : List (List Int)} (hl : a.length < 4611686018427387904) (hx : ∀ x ∈ a, x.length < 4611686018427387904) (he : a.length = b.length) (h : Heap) : Scan body60 [1, 2, 6, 15, 16, 17] a.length (fun k => st60 a b k h) (fun k => st60 a b k h) (st60 a b a.length h) fun k => !(a.getD k [] == b.getD k []) := by
  refine ⟨fun _ => rfl, fun _ => rfl, rfl, fun k hk => ⟨_, clok23, ?_⟩⟩
  rw [run60, selI]
  by_cases hlt : k < a.length
  · have hw : IntKind.i64.wrap ((k : Int) + 1) = ((k + 1 : Nat) : Int) := wrap_i64 (by omega) (by omega)
    have hm : (a.getD k []).length < 4611686018427387904 := by
      have : a.getD k [] = a[k] := by simp [List.getD_eq_getElem?_getD, hlt]
      rw [this]; exact hx _ (List.getElem_mem hlt)
    rw [Int.toNat_natCast, unL_flL, unL_flL]
    rw [decide_eq_true (by omega), decide_eq_true hlt, cond_true, cond_true, Tree.sel_need ⟨by omega, by omega⟩, Tree.sel_need ⟨by omega, by omega⟩, Tree.sel_need ⟨rfl, rfl, hm⟩, selI, hw]
    cases !(a.getD k [] == b.getD k []) <;> rfl
  · have : k = a.length := by omega
    subst this
    rw [decide_eq_false (by omega), decide_eq_false hlt]
    rfl
theorem loops60 : loopsOf (bodyOf Try.prog 60) = [body60] := by kernel_rfl
theorem id60 : idOf body60 = 4 := by kernel_rfl
theorem runF60 (a b : List (List Int)) (h : Heap) (t : Bool) (p q : Int) : xenter Try.prog { cl := cl23 } (xCode Try.prog G0 { cl := cl23 } 200 (lpS 4 [1, 2, 6, 15, 16, 17] (st60 a b 0 h) t (st60 a b p h) (st60 a b q h))) 60 [flLL a, flLL b, .fn 23 [] []] [true, true, true] h =
    .ite ((a.length : Int) != b.length) (.leaf (.bool false, false, h)) (.need ((st60 a b 0 h).vals = (st60 a b 0 h).vals) (.ite t (.leaf (.bool false, false, h)) (.leaf (.bool true, false, h)))) := by kernel_rfl
theorem runF60' (a b : List (List Int)) (h : Heap) : xenter Try.prog { cl := cl23 } (xCode Try.prog G0 { cl := cl23 } 200 (lpF 4 [1, 2, 6, 15, 16, 17] (st60 a b 0 h))) 60 [flLL a, flLL b, .fn 23 [] []] [true, true, true] h =
    .ite ((a.length : Int) != b.length) (.leaf (.bool false, false, h)) (.need ((st60 a b 0 h).vals = (st60 a b 0 h).vals) .fail) := by kernel_rfl
theorem listL_eq_iff (a b : List (List Int)) : a = b ↔ a.length = b.length ∧ ∀ k, k < a.length → a.getD k [] = b.getD k [] := by
  constructor
  · rintro rfl; exact ⟨rfl, fun _ _ => rfl⟩
  · intro ⟨h1, h2⟩
    apply List.ext_getElem h1
    intro k h3 h4
    have := h2 k h3
    simpa [List.getD_eq_getElem?_getD, h3, h4] using this
theorem c60 {a b : List (List Int)} (hl : a.length < 4611686018427387904) (hx : ∀ x ∈ a, x.length < 4611686018427387904) (h : Heap) : ACall Try.prog G0 60 [flLL a, flLL b, .fn 23 [] []] h (.bool (a == b)) h := by
  by_cases he : a.length = b.length
  · have hs := scan60 hl hx he h
    refine .find (s := false) (n := 200) (tags := [true, true, true]) clok23 (hs.ok loops60 id60) ?_
    refine (congrArg Tree.sel (runF60 a b h _ _ _)).trans ?_
    rw [selI, bne_eq_false_iff_eq.2 (by omega : (a.length : Int) = b.length), cond_false, selR, selI]
    by_cases hp : fstStop (fun k => !(a.getD k [] == b.getD k [])) a.length 0 < a.length
    · rw [decide_eq_true hp]
      obtain ⟨k, h1, h2⟩ := (fstStop_iff _ _).1 hp
      have : (a == b) = false := beq_eq_false_iff_ne.2 fun e => by subst e; simp at h2
      rw [this]; rfl
    · rw [decide_eq_false hp]
      have : a = b := (listL_eq_iff a b).2 ⟨he, fun k hk => by
        have := fun h => hp ((fstStop_iff _ _).2 ⟨k, hk, h⟩)
        simpa using this⟩
      rw [this, beq_self_eq_true]; rfl
  · refine .find (s := false) (n := 200) (tags := [true, true, true]) clok23 (lpF_ok 4 [1, 2, 6, 15, 16, 17] (st60 a b 0 h) _) ?_
    rw [runF60', selI, bne_iff_ne.2 (by omega : (a.length : Int) ≠ b.length)]
    have : (a == b) = false := beq_eq_false_iff_ne.2 fun e => he (by rw [e])
    rw [this]; rfl
def unLL : AV → List (List Int)
  | .fl _ n r => (List.range n).map fun i => unL ((r i).headD .junk)
  | _ => []
theorem unLL_flLL (L : List (List Int)) : unLL (flLL L) = L := by
  apply List.ext_getElem?
  intro i
  simp only [unLL, flLL, List.getElem?_map]
  by_cases h : i < L.length
  · simp [h, List.getD_eq_getElem?_getD, unL_flL]
  · simp [h]
/-- Few enough elements. -/
def shortLL (a : List (List Int)) : Prop := a.length < 4611686018427387904 ∧ ∀ x ∈ a, x.length < 4611686018427387904
noncomputable def body37 : Code := (loopsOf (bodyOf Try.prog 37)).headD .skip
def st37 (a : List Int) (x k r : Int) (b : Bool) (h : Heap) : St := .of 19 h [(0, flL a, true), (1, I x, true), (4, I r, b), (7, I a.length, true), (8, I k, true)]
theorem run37 (a : List Int) (x : Int) (k : Nat) (h : Heap) : xBody Try.prog G0 {} 200 noLoops [0, 1, 4, 7, 8] body37 (st37 a x k 0 false h) =
    .ite (decide ((k : Int) < a.length)) (.need (0 ≤ (k : Int) ∧ (k : Int) < a.length) (.ite (x == a.getD (k : Int).toNat 0) (.leaf (.ret, st37 a x k k true h)) (.leaf (.normal, st37 a x (IntKind.i64.wrap (k + 1)) 0 false h)))) (.leaf (.exit 0, st37 a x k 0 false h)) := by kernel_rfl
theorem scan37 {a : List Int} (hl : a.length < 4611686018427387904) (x : Int) (h : Heap) : Scan body37 [0, 1, 4, 7, 8] a.length (fun k => st37 a x k 0 false h) (fun k => st37 a x k k true h) (st37 a x a.length 0 false h) fun k => x == a.getD k 0 := by
  refine ⟨fun _ => rfl, fun _ => rfl, rfl, fun k hk => ⟨_, clok0, ?_⟩⟩
  rw [run37, selI]
  by_cases hlt : k < a.length
  · have hw : IntKind.i64.wrap ((k : Int) + 1) = ((k + 1 : Nat) : Int) := wrap_i64 (by omega) (by omega)
    rw [decide_eq_true (by omega), decide_eq_true hlt, cond_true, cond_true, Tree.sel_need ⟨by omega, by omega⟩, selI, Int.toNat_natCast, hw]
    cases x == a.getD k 0 <;> rfl
  · have : k = a.length := by omega
    subst this
    rw [decide_eq_false (by omega), decide_eq_false hlt]
    rfl
theorem loops37 : loopsOf (bodyOf Try.prog 37) = [body37] := by kernel_rfl
theorem id37 : idOf body37 = 2 := by kernel_rfl
theorem runF37 (a : List Int) (x : Int) (h : Heap) (t : Bool) (p q : Int) : xenter Try.prog {} (xCode Try.prog G0 {} 200 (lpS 2 [0, 1, 4, 7, 8] (st37 a x 0 0 false h) t (st37 a x p p true h) (st37 a x q 0 false h))) 37 [flL a, I x] [true, true] h =
    .need ((st37 a x 0 0 false h).vals = (st37 a x 0 0 false h).vals) (.ite t (.leaf (I p, true, h)) (.leaf (I (-1), false, h))) := by kernel_rfl
/-- The first place of a number; none: -1. -/
def index (a : List Int) (x : Int) : Int := bif decide (fstStop (fun k => x == a.getD k 0) a.length 0 < a.length) then ((fstStop (fun k => x == a.getD k 0) a.length 0 : Nat) : Int) else -1
theorem index_nonneg (a : List Int) (x : Int) : decide (index a x ≥ 0) = a.contains x := by
  unfold index
  by_cases hp : fstStop (fun k => x == a.getD k 0) a.length 0 < a.length
  · rw [decide_eq_true hp, cond_true, decide_eq_true (by omega)]
    obtain ⟨k, h1, h2⟩ := (fstStop_iff _ _).1 hp
    have : x = a[k] := by simpa [List.getD_eq_getElem?_getD, h1] using h2
    symm
    rw [List.contains_iff_mem, this]
    exact List.getElem_mem h1
  · rw [decide_eq_false hp, cond_false]
    symm
    rw [show decide ((-1 : Int) ≥ 0) = false from rfl, ← Bool.not_eq_true, List.contains_iff_mem]
    intro hm
    obtain ⟨k, h1, rfl⟩ := List.getElem_of_mem hm
    exact hp ((fstStop_iff _ _).2 ⟨k, h1, by simp [List.getD_eq_getElem?_getD, h1]⟩)
theorem c37 {a : List Int} (hl : a.length < 4611686018427387904) (x : Int) (h : Heap) : ACall Try.prog G0 37 [flL a, I x] h (I (index a x)) h := by
  refine .find (s := decide (fstStop (fun k => x == a.getD k 0) a.length 0 < a.length)) (n := 200) (tags := [true, true]) clok0 ((scan37 hl x h).ok loops37 id37) ?_
  refine (congrArg Tree.sel (runF37 a x h _ _ _)).trans ?_
  rw [selR, selI]
  unfold index
  cases decide (fstStop (fun k => x == a.getD k 0) a.length 0 < a.length) <;> rfl
def cl37 : FuncId → List AV → Option (Tree AV) := fun f xs => match f, xs with
  | 37, [x, .int .i64 y] => some (.need (x = flL (unL x) ∧ (unL x).length < 4611686018427387904) (.leaf (I (index (unL x) y))))
  | _, _ => none
theorem clok37 : ClOk Try.prog G0 { cl := cl37 } := .of rfl rfl fun f xs t v hq hs σ => by
  replace hq : cl37 f xs = some t := hq
  unfold cl37 at hq
  split at hq <;> first | (cases hq; done) | skip
  rename_i x y
  cases hq
  obtain ⟨⟨h1, h3⟩, hs2⟩ := Tree.of_need hs
  cases hs2
  have := c37 (a := unL x) h3 y σ
  rwa [← h1] at this
theorem run35 (a : List Int) (x : Int) (h : Heap) : xCall Try.prog G0 { cl := cl37 } 200 35 [flL a, I x] [true, true] h = .need (flL a = flL (unL (flL a)) ∧ (unL (flL a)).length < 4611686018427387904) (.leaf (.bool (decide (index (unL (flL a)) x ≥ 0)), true, h)) := by kernel_rfl
theorem c35 {a : List Int} (hl : a.length < 4611686018427387904) (x : Int) (h : Heap) : ACall Try.prog G0 35 [flL a, I x] h (.bool (a.contains x)) h := by
  refine xCall_ok (n := 200) (tags := [true, true]) (s := true) names mixed clok37 ?_
  rw [run35, unL_flL, Tree.sel_need ⟨rfl, hl⟩, index_nonneg]
  rfl
/-- What is x is also x'. -/
def Sub (x x' : AV) : Prop := ∀ w M u, RV w M u x → RV w M u x'
theorem Sub.rfl' (x : AV) : Sub x x := fun _ _ _ h => h
theorem ACall.args {f : FuncId} {xs xs' : List AV} {σ σ' : Heap} {v : AV} (h : ACall Try.prog G0 f xs' σ v σ') (hl : xs.length = xs'.length) (hx : ∀ (j : Nat) (x' : AV), xs'[j]? = some x' → ∃ x, xs[j]? = some x ∧ Sub x x') : ACall Try.prog G0 f xs σ v σ' :=
  ⟨h.1, fun w M vs hi hvs => h.2 w M vs hi ⟨by rw [hvs.1, hl], fun j x' hj => by
    obtain ⟨x, h1, h2⟩ := hx j x' hj
    exact h2 _ _ _ (hvs.2 j x h1)⟩⟩
theorem ACall.arg2 {f : FuncId} {a b a' b' : AV} {σ σ' : Heap} {v : AV} (h : ACall Try.prog G0 f [a', b'] σ v σ') (ha : Sub a a') (hb : Sub b b') : ACall Try.prog G0 f [a, b] σ v σ' :=
  h.args rfl fun j x hx => by
    match j, hx with
    | 0, hx => cases hx; exact ⟨a, rfl, ha⟩
    | 1, hx => cases hx; exact ⟨b, rfl, hb⟩
    | j + 2, hx => simp at hx
theorem ACall.arg3 {f : FuncId} {a b c a' b' c' : AV} {σ σ' : Heap} {v : AV} (h : ACall Try.prog G0 f [a', b', c'] σ v σ') (ha : Sub a a') (hb : Sub b b') (hc : Sub c c') : ACall Try.prog G0 f [a, b, c] σ v σ' :=
  h.args rfl fun j x hx => by
    match j, hx with
    | 0, hx => cases hx; exact ⟨a, rfl, ha⟩
    | 1, hx => cases hx; exact ⟨b, rfl, hb⟩
    | 2, hx => cases hx; exact ⟨c, rfl, hc⟩
    | j + 3, hx => simp at hx
/-- A list that is written out. -/
def slL (L : List Int) : AV := .sl 1 ((L.map I).map fun y => [y])
def slLL (L : List (List Int)) : AV := .sl 1 ((L.map slL).map fun y => [y])
theorem sub_slL (L : List Int) : Sub (slL L) (flL L) := fun _ _ _ h => h.flL_of
theorem RV.sl_map {w : World} {M : Map} {u : Value} {α : Type} {p q : α → AV} (hpq : ∀ x, Sub (p x) (q x)) {L : List α} (h : RV w M u (.sl 1 ((L.map p).map fun y => [y]))) : RV w M u (.sl 1 ((L.map q).map fun y => [y])) := by
  generalize hr : ((L.map p).map fun y => [y]) = rows at h
  cases h with
  | sl0 base cap _ =>
    have : L = [] := by simpa using hr
    subst this
    exact .sl0 _ _ _
  | sl b o cap size f rows hb hc hl h hcap =>
    subst hr
    have e : ((L.map p).map fun y => [y]).length = ((L.map q).map fun y => [y]).length := by simp
    have ge : ∀ (i : Nat) (r : List AV), ((L.map q).map fun y => [y])[i]? = some r → ∃ x, L[i]? = some x ∧ r = [q x] := by
      intro i r hi
      simp only [List.getElem?_map, Option.map_eq_some_iff] at hi
      obtain ⟨_, ⟨x, hx, rfl⟩, rfl⟩ := hi
      exact ⟨x, hx, rfl⟩
    have gp : ∀ (i : Nat) (x : α), L[i]? = some x → ((L.map p).map fun y => [y])[i]? = some [p x] := fun i x hx => by simp [List.getElem?_map, hx]
    rw [e]
    refine .sl b o cap 1 f _ hb (fun i r j hi hj => ?_) (fun i r hi => ?_) (fun i r j x hi hj => ?_) (by rw [← e]; exact hcap)
    · obtain ⟨x, hx, _⟩ := ge i r hi
      exact hc i _ j (gp i x hx) hj
    · obtain ⟨x, _, rfl⟩ := ge i r hi; rfl
    · obtain ⟨y, hy, rfl⟩ := ge i r hi
      have : j = 0 := by
        match j, hj with
        | 0, _ => rfl
        | j + 1, hj => simp at hj
      subst this
      cases hj
      exact hpq _ _ _ _ (h i _ 0 _ (gp i y hy) rfl)
theorem sub_slLL (L : List (List Int)) : Sub (slLL L) (flLL L) := fun _ _ _ h => (RV.sl_map (p := slL) (q := flL) sub_slL h).flLL_of
noncomputable def fstS : Code → Code | .seq x _ => x | c => c
noncomputable def sndS : Code → Code | .seq _ x => x | c => c
noncomputable def b14 : Code := bodyOf Try.prog 14
noncomputable def cdY : Code → Code | .cond _ y _ => y | c => c
noncomputable def cdN : Code → Code | .cond _ _ y => y | c => c
noncomputable def x14 : Code := fstS (fstS (sndS b14))
noncomputable def y14 : Code := cdY (sndS (fstS (sndS b14)))
noncomputable def n14 : Code := cdN (sndS (fstS (sndS b14)))
noncomputable def z14 : Code := sndS (sndS b14)
theorem code14 : bodyOf Try.prog 14 = .seq (fstS b14) (.seq (.seq x14 (.cond (.tmp 4) y14 n14)) z14) := by kernel_rfl
def s14 (x : AV) (h : Heap) : St := .of 8 h [(0, x, true)]
def s14b (x y : AV) (h : Heap) : St := .of 8 h [(0, x, true), (4, y, true)]
def s14r (h : Heap) : St := .of 8 h [(2, .zs, true)]
def E14 : Env := { hint := hNil 22 }
theorem clok14 : ClOk Try.prog G0 E14 := .ofH rfl rfl (hNil_ok Try.underlying22) fun f xs t v h => by cases h
/-- An empty slice. -/
def z0 : AV := .sl 1 []
theorem run14r (h : Heap) : xBody Try.prog G0 {} 200 noLoops [0] (fstS b14) (s14 z0 h) = .leaf (.normal, s14 z0 h) := by kernel_rfl
theorem run14x (h : Heap) : xBody Try.prog G0 E14 200 noLoops [0, 4] x14 (s14 z0 h) = .need True (.leaf (.normal, s14b z0 .anyb h)) := by kernel_rfl
theorem run14y (h : Heap) : (xBody Try.prog G0 {} 200 noLoops [2] y14 (s14b z0 (.bool true) h)).sel = some (.ret, .of 8 h [(2, .zs, false)]) := by kernel_rfl
theorem run14n (h : Heap) : (xBody Try.prog G0 {} 200 noLoops [0] n14 (s14b z0 (.bool false) h)).sel = some (.normal, s14 z0 h) := by kernel_rfl
theorem run14z (h : Heap) : (xBody Try.prog G0 {} 200 noLoops [2] z14 (s14 z0 h)) = .need (true = true) (.leaf (.ret, s14r h)) := by kernel_rfl
theorem set14 (b : Bool) (h : Heap) : ((s14b z0 .anyb h).a).set 4 (.bool b) = (s14b z0 (.bool b) h).a := by kernel_rfl
theorem exec14 {R : Option Nat → Prop} (h : Heap) : AExec Try.prog G0 R (bodyOf Try.prog 14) { tmps := (s14 z0 h).a } h .ret { tmps := (s14r h).a } h := by
  rw [code14]
  have x0 := (xBody_ok (m := []) (R := R) names mixed clok0 (lpNo _) (congrArg Tree.sel (run14r h))).1
  have x1 := (xBody_ok (m := []) (R := R) names mixed clok14 (lpNo x14) (n := 200) (keep := [0, 4]) (st := s14 z0 h) (st' := s14b z0 .anyb h) (by rw [run14x, Tree.sel_need trivial]; rfl)).1
  have x2 := (xBody_ok (m := []) (R := R) names mixed clok0 (lpNo _) (run14y h)).1
  have x3 := (xBody_ok (m := []) (R := R) names mixed clok0 (lpNo _) (run14n h)).1
  have x4 := (xBody_ok (m := []) (R := R) names mixed clok0 (lpNo z14) (n := 200) (keep := [2]) (st := s14 z0 h) (st' := s14r h) (by rw [run14z, Tree.sel_need rfl]; rfl)).1
  have e : (St.of 8 h [(2, AV.zs, false)]).a = (s14r h).a := by kernel_rfl
  rw [e, ← set14] at x2
  rw [← set14] at x3
  exact .seq x0 (AExec.fork x1 (i := 4) (by kernel_rfl) (by simp) x2 x3 x4)
theorem c14e (h : Heap) : ACall Try.prog G0 14 [z0] h .zs h := by
  obtain ⟨fn, c, k1, k2, k3⟩ := fnOf (f := 14) (by kernel_rfl)
  have hall := exec14 (R := fun r => r = none) h
  rw [k3] at hall
  have hres : fn.results.toList = [.tmp 2] := by
    have : (Try.prog.funcs[14]?).map (·.results.toList) = some [.tmp 2] := by kernel_rfl
    rw [k1] at this
    exact Option.some.inj this
  have hnt : fn.ntmps = 8 := by
    have : (Try.prog.funcs[14]?).map (·.ntmps) = some 8 := by kernel_rfl
    rw [k1] at this
    exact Option.some.inj this
  refine ACall.of_body (args := [z0]) (xs := [.zs]) k1 k2 (names 14 fn k1) (.weak ?_ hall) (.inr rfl) ?_
  · have e : (s14 z0 h).a = z0 :: List.replicate 7 .junk := by kernel_rfl
    rw [hnt, e]
    refine ⟨by simp, fun j y hj => ?_⟩
    match j, hj with
    | 0, hj => exact .inr hj
    | j + 1, hj => exact .inl (List.eq_of_mem_replicate (n := 7) (List.mem_of_getElem? (i := j) (by simpa using hj)))
  · rw [hres]
    have : (s14r h).a[2]? = some .zs := by kernel_rfl
    simp only [aResults, aResult, this]
theorem run14s (L : List Int) (v : AV) (h h1 : Heap) : xCall Try.prog G0 { hint := orH (hNilF 22) (hApp 22 .zs (slL L) v h h1) } 200 14 [slL L] [true] h =
    .need (0 < ((L.map I).map fun y => ([y] : List AV)).length) (.ite false (.leaf (.zs, false, h)) (.need (some ([.zs, slL L] : List AV) = some [.zs, slL L] ∧ #[22, 22] = #[22, 22] ∧ h = h ∧ aAppend Try.prog h 22 22 .zs (slL L) = some (v, h1)) (.leaf (v, true, h1)))) := by kernel_rfl
theorem run14m (v : AV) (r g m : Nat) (h h1 : Heap) : xCall Try.prog G0 { hint := orH (hNil 22) (hApp 22 .zs (.ms 1 r g 0 m m) v h h1) } 200 14 [.ms 1 r g 0 m m] [true] h =
    .need ((objAt h r g).isSome = true) (.ite false (.leaf (.zs, false, h)) (.need (some ([.zs, .ms 1 r g 0 m m] : List AV) = some [.zs, .ms 1 r g 0 m m] ∧ #[22, 22] = #[22, 22] ∧ h = h ∧ aAppend Try.prog h 22 22 .zs (.ms 1 r g 0 m m) = some (v, h1)) (.leaf (v, true, h1)))) := by kernel_rfl
/-- Appending to nothing. -/
theorem append_zs {t e : TypeId} (he : Elem1 t e) (h : Heap) (x : AV) {L : List AV} (hc : conts h 1 x = some (L.length, L)) (hone : L.all AV.one = true) (hl : L.length ≤ 16777216) (h0 : L ≠ []) :
    aAppend Try.prog h t t .zs x = some (.ms 1 h.length 0 0 L.length L.length, h ++ [.cells 0 L]) := by
  obtain ⟨ie, zx, h1, h2, h3, h4, h5, h6⟩ := he.i
  have hn : notInt Try.prog t = true := by unfold notInt; rw [he.u]
  unfold aAppend
  rw [he.u]
  simp only [h1, h2, h3, hc]
  have hL : ¬ L.length = 0 := by simpa using h0
  simp only [hn, hone, h4, h5, h6, and_self, if_true, hL, if_false, hl]
theorem one_map (L : List Int) : (L.map I).all AV.one = true := by
  rw [List.all_eq_true]
  intro x hx
  obtain ⟨n, _, rfl⟩ := List.mem_map.1 hx
  rfl
theorem flat_one (l : List AV) : (l.map fun y => ([y] : List AV)).flatten = l := by
  induction l with
  | nil => rfl
  | cons x r ih => simp [ih]
theorem sub_flL (L : List Int) : Sub (flL L) (slL L) := fun _ _ _ h => h.flL_to
/-- THE COPY OF A LIST, a new slice. -/
theorem c14s {L : List Int} (h0 : L ≠ []) (hl : L.length ≤ 16777216) (h : Heap) : ACall Try.prog G0 14 [flL L] h (.ms 1 h.length 0 0 L.length L.length) (h ++ [.cells 0 (L.map I)]) := by
  have hpos : 0 < L.length := List.length_pos_iff.2 h0
  have ha := append_zs el22 h (slL L) (L := L.map I) (by unfold slL; simp only [conts, if_true, flat_one, List.length_map]) (one_map L) (by simpa using hl) (by simpa using h0)
  rw [List.length_map] at ha
  have key : ACall Try.prog G0 14 [slL L] h (.ms 1 h.length 0 0 L.length L.length) (h ++ [.cells 0 (L.map I)]) := by
    refine xCall_ok (n := 200) (tags := [true]) (s := true) (E := { hint := orH (hNilF 22) (hApp 22 .zs (slL L) (.ms 1 h.length 0 0 L.length L.length) h (h ++ [.cells 0 (L.map I)])) }) names mixed (.ofH rfl rfl ((hNilF_ok Try.underlying22).or (hApp_ok _ _ _ _ _ _).ok) fun f xs t v h => by cases h) ?_
    refine (congrArg Tree.sel (run14s L _ h _)).trans ?_
    rw [Tree.sel_need (by simpa using hpos), selI, cond_false, Tree.sel_need ⟨rfl, rfl, rfl, ha⟩]
    rfl
  refine key.args rfl fun j x' hj => ?_
  match j, hj with
  | 0, hj => cases hj; exact ⟨_, rfl, sub_flL L⟩
  | j + 1, hj => simp at hj
theorem c14m {L : List Int} (h0 : L ≠ []) (hl : L.length ≤ 16777216) {h : Heap} {r g : Nat} (ho : objAt h r g = some (L.map I)) : ACall Try.prog G0 14 [.ms 1 r g 0 L.length L.length] h (.ms 1 h.length 0 0 L.length L.length) (h ++ [.cells 0 (L.map I)]) := by
  have ha := append_zs el22 h (.ms 1 r g 0 L.length L.length) (L := L.map I) (by unfold conts; simp [ho, List.take_of_length_le]) (one_map L) (by simpa using hl) (by simpa using h0)
  rw [List.length_map] at ha
  refine xCall_ok (n := 200) (tags := [true]) (s := true) (E := { hint := orH (hNil 22) (hApp 22 .zs (.ms 1 r g 0 L.length L.length) (.ms 1 h.length 0 0 L.length L.length) h (h ++ [.cells 0 (L.map I)])) }) names mixed (.ofH rfl rfl ((hNil_ok Try.underlying22).or (hApp_ok _ _ _ _ _ _).ok) fun f xs t v h => by cases h) ?_
  refine (congrArg Tree.sel (run14m _ r g L.length h _)).trans ?_
  rw [Tree.sel_need (by rw [ho]; rfl), selI, cond_false, Tree.sel_need ⟨rfl, rfl, rfl, ha⟩]
  rfl
/-- A new slice of integers, told as data. -/
theorem ACall.newL {f : FuncId} {args : List AV} {L : List Int} {h : Heap} (hc : ACall Try.prog G0 f args h (.ms 1 h.length 0 0 L.length L.length) (h ++ [.cells 0 (L.map I)])) : ACall Try.prog G0 f args h (flL L) h := by
  have hc' : ACall Try.prog G0 f args h (.ms 1 h.length 0 0 (L.map I).length (L.map I).length) (h ++ [.cells 0 (L.map I)]) := by rw [List.length_map]; exact hc
  refine (hc'.msData (Nat.le_refl _) (g := 0) (by simp) fun x hx => ?_).conv fun _ _ _ h => h.flL_of
  obtain ⟨n, _, rfl⟩ := List.mem_map.1 hx
  exact .int _ _
theorem sub_zs0 : Sub .zs z0 := fun _ _ _ h => by cases h; exact .sl0 _ _ _
theorem sub_fl0 : Sub (flL []) z0 := sub_flL []
theorem ACall.arg1 {f : FuncId} {a a' : AV} {σ σ' : Heap} {v : AV} (h : ACall Try.prog G0 f [a'] σ v σ') (ha : Sub a a') : ACall Try.prog G0 f [a] σ v σ' :=
  h.args rfl fun j x hx => by
    match j, hx with
    | 0, hx => cases hx; exact ⟨a, rfl, ha⟩
    | j + 1, hx => simp at hx
/-- THE COPY OF A LIST, as data. -/
theorem c14d {L : List Int} (hl : L.length ≤ 16777216) (h : Heap) : ACall Try.prog G0 14 [flL L] h (flL L) h := by
  cases L with
  | nil => exact ((c14e h).arg1 sub_fl0).conv fun _ _ _ h => h.flL_zs
  | cons x r => exact (c14s (by simp) hl h).newL
/-- The copy of a list that grew. -/
theorem c14v {L : List Int} (hl : L.length ≤ 16777216) {h : Heap} {r : Nat} (ho : L ≠ [] → objAt h r (L.length - 1) = some (L.map I)) : ACall Try.prog G0 14 [vA r (L.map I)] h (flL L) h := by
  cases L with
  | nil => exact ((c14e h).arg1 sub_zs0).conv fun _ _ _ h => h.flL_zs
  | cons x l =>
    have := (c14m (L := x :: l) (by simp) hl (ho (by simp))).newL
    have e : vA r ((x :: l).map I) = .ms 1 r ((x :: l).length - 1) 0 (x :: l).length (x :: l).length := by simp [vA]
    rw [e]; exact this
/-- The first m elements of a list. -/
def hSlc (L : List Int) (m : Nat) : Heap → Oper → (Operand → Option AV) → Option (AV × Bool × Heap × Prop) := fun h o ρ => match o.op with
  | .slice 22 x none (some y) none => some (flL (L.take m), true, h, ρ x = some (flL L) ∧ ρ y = some (I m) ∧ m ≤ L.length)
  | _ => none
theorem slice_sl (L : List Int) {m : Nat} (hm : m ≤ L.length) (σ : Heap) : aSlice Try.prog σ 22 (slL L) none (some (I m)) none = some (slL (L.take m)) := by
  obtain ⟨ie, zx, h1, h2, h3, h4, h5, h6⟩ := el22.i
  have hlen : ((L.map I).map fun y => ([y] : List AV)).length = L.length := by simp
  unfold aSlice slL
  rw [Try.underlying22]
  simp only [hlen]
  have hb : aBounds L.length L.length none (some (I m)) none = some (0, m, L.length) := by
    have e : aBound (I m) L.length = some m := by
      have hc : 0 ≤ (m : Int) ∧ (m : Int) ≤ L.length := ⟨by omega, by omega⟩
      simp only [aBound, hc, and_self, if_true, Int.toNat_natCast]
    unfold aBounds
    simp only [e]
  rw [h1, hb]
  simp [h3, List.map_take]
theorem hSlc_ok (L : List Int) (m : Nat) : HintOk Try.prog G0 (hSlc L m) := by
  refine ⟨fun h o a mk y s h' p hh hp => ?_, fun h o ρ y s h' p hh hp _ => ?_⟩
  · unfold hSlc at hh
    split at hh
    · rename_i x z ho
      cases hh
      obtain ⟨hx, hz, hm⟩ := hp
      intro r0 w M ac K Q hi ha hK
      refine ⟨fun f _ => FW_fn r0 f, ?_⟩
      have hnd : ∀ c, o.op ≠ .defer c := fun c' h => by rw [ho] at h; cases h
      rw [Oper.semAt_eq _ _ _ hnd]
      have hv := sub_flL L _ _ _ (ev_ok hi ha.tmps hx)
      obtain ⟨r, hr, hrv⟩ := aSlice_ok (lo' := none) (hi' := some (ac.eval z)) (mx' := none) hi hv .none (.some _ _ (ev_ok hi ha.tmps hz)) .none (slice_sl L hm h)
      have hrun : (execOp ac.eval o).run Try.prog w = .ok (.value r) w := by
        unfold execOp
        simp only [ho, Option.map_none, Option.map_some, Sem.run_bind, hr, Result.andThen_ok]
        rfl
      rw [hrun]
      exact hK _ w M (sub_slL _ _ _ _ hrv) (.refl w M) hi
    · cases hh
  · unfold hSlc at hh
    split at hh
    · cases hh; rfl
    · cases hh
end Go.Proofs.Ytngaihdpmoajeaa.Am

namespace Go.Proofs.Ytngaihdpmoajeaa.Am
open Go
section
variable {P : Program} {G : Nat → Option (List AV)} {w : World} {M : Map}

/-- The objects by other numbers; those without a new number are forgotten. -/
def Map.re (M : Map) (π : Nat → Option Nat) : Map := ⟨fun r => (π r).bind M.get, M.far⟩
theorem Map.re_some {π : Nat → Option Nat} {r : Nat} {p : Nat × Nat} (h : M.re π r = some p) : ∃ q, π r = some q ∧ M q = some p := Option.bind_eq_some_iff.1 h
theorem Map.re_at {π : Nat → Option Nat} {r q : Nat} (h : π r = some q) : M.re π r = M q := by simp [Map.re, h]
theorem Imm.re {b : Nat} (h : Imm w M b) (π : Nat → Option Nat) : Imm w (M.re π) b := ⟨h.1, fun r g hr => by
  obtain ⟨q, _, h2⟩ := Map.re_some hr
  exact h.2.1 q g h2, h.2.2⟩

/-- Objects that keep their numbers. -/
def KeepB (π : Nat → Option Nat) (n : Nat) (σ : Heap) : Prop := ∀ r, r < n → σ[r]? = some .resv ∨ π r = some r
theorem RV.re {σ : Heap} {π : Nat → Option Nat} {n : Nat} (hi : Inv G w M σ) (hk : KeepB π n σ) {v : Value} {x : AV} (hv : RV w M v x) (hb : Below n x) : RV w (M.re π) v x := by
  have hm : ∀ r p, r < n → M r = some p → M.re π r = some p := fun r p hr hp => by
    rcases hk r hr with h | h
    · rw [hi.resv r h] at hp; cases hp
    · rw [Map.re_at h]; exact hp
  induction hv with
  | int k i => exact .int k i
  | bool b => exact .bool b
  | nilp => exact .nilp
  | nilf => exact .nilf
  | ref r g off b hr => cases hb with | ref _ _ _ hlt => exact .ref r g off b (hm _ _ hlt hr)
  | refS r g off b g' p hr hg => cases hb with | ref _ _ _ hlt => exact .refS r g off b g' p (hm _ _ hlt hr) hg
  | row b o off f cells hi hc _ ih => cases hb with | row _ _ h => exact .row b o off f cells (hi.re π) hc fun j x hj => ih j x hj (h j x hj)
  | sl0 base cap size => exact .sl0 base cap size
  | sl b o cap size f rows hi hc hl _ hcap ih => cases hb with | sl _ _ h => exact .sl b o cap size f rows (hi.re π) hc hl (fun i r j x hi hj => ih i r j x hi hj (h i r j x hi hj)) hcap
  | fl v size k rows _ ih => cases hb with | fl _ _ _ h => exact .fl _ size k rows (ih h)
  | zs base => exact .zs base
  | ms size r g off len cap b capc c e hr hlen hcc hsz hfit => cases hb with | ms _ _ _ _ _ _ hlt => exact .ms size r g off len cap b capc c e (hm _ _ hlt hr) hlen hcc hsz hfit
  | msS size r g off len cap b g' p capc hr hg => cases hb with | ms _ _ _ _ _ _ hlt => exact .msS size r g off len cap b g' p capc (hm _ _ hlt hr) hg
  | agg vs xs hl _ ih => cases hb with | agg _ h => exact .agg vs xs hl fun j x hj => ih j x hj (h j x hj)
  | tup vs xs hl _ ih => cases hb with | tup _ h => exact .tup vs xs hl fun j x hj => ih j x hj (h j x hj)
  | fn f fs cs xs ys hl1 hl2 _ _ ih1 ih2 => cases hb with | fn _ _ _ h1 h2 => exact .fn f fs cs xs ys hl1 hl2 (fun j x hj => ih1 j x hj (h1 j x hj)) (fun j x hj => ih2 j x hj (h2 j x hj))
  | yf l b hr => cases hb with | yf _ hlt => exact .yf l b (hm _ _ hlt hr)
  | yfS l b g fn fs cs hr hg => cases hb with | yf _ hlt => exact .yfS l b g fn fs cs (hm _ _ hlt hr) hg
  | anyb b => exact .anyb b
  | mx size r g off len cap b c e hr hlen hsz hfit => cases hb with | mx _ _ _ _ _ _ hlt => exact .mx size r g off len cap b c e (hm _ _ hlt hr) hlen hsz hfit
  | mxS size r g off len cap b g' p hr hg => cases hb with | mx _ _ _ _ _ _ hlt => exact .mxS size r g off len cap b g' p (hm _ _ hlt hr) hg
  | junk v => exact .junk v

/-- WHAT A VALUE IS BY THE NEW NUMBERS. -/
def Re (G : Nat → Option (List AV)) (π : Nat → Option Nat) (σ : Heap) (x y : AV) : Prop := ∀ w M v, Inv G w M σ → RV w M v x → RV w (M.re π) v y
variable {π : Nat → Option Nat} {σ : Heap}
theorem Re.below {n : Nat} {x : AV} (hk : KeepB π n σ) (hb : Below n x) : Re G π σ x x := fun _ _ _ hi hv => hv.re hi hk hb
theorem Re.flat {x : AV} (hb : Below 0 x) : Re G π σ x x := Re.below (n := 0) (fun _ h => by omega) hb
theorem Re.conv {x y z : AV} (h : Re G π σ x y) (hs : ∀ w M v, RV w M v y → RV w M v z) : Re G π σ x z := fun _ _ _ hi hv => hs _ _ _ (h _ _ _ hi hv)
theorem Re.pre {x y z : AV} (hs : ∀ w M v, RV w M v x → RV w M v y) (h : Re G π σ y z) : Re G π σ x z := fun _ _ _ hi hv => h _ _ _ hi (hs _ _ _ hv)
theorem Re.junk {x : AV} : Re G π σ x .junk := fun _ _ _ _ _ => .junk _
theorem Re.ref {r q g off : Nat} (h : π r = some q) : Re G π σ (.ref q g off) (.ref r g off) := fun w M v hi hv => by
  cases hv with
  | ref _ _ _ b hr => exact .ref r g off b (by rw [Map.re_at h]; exact hr)
  | refS _ _ _ b g' p hr hg => exact .refS r g off b g' p (by rw [Map.re_at h]; exact hr) hg
theorem Re.ms {size r q g off len cap : Nat} (h : π r = some q) : Re G π σ (.ms size q g off len cap) (.ms size r g off len cap) := fun w M v hi hv => by
  cases hv with
  | ms _ _ _ _ _ _ b capc c e hr hlen hcc hsz hfit => exact .ms size r g off len cap b capc c e (by rw [Map.re_at h]; exact hr) hlen hcc hsz hfit
  | msS _ _ _ _ _ _ b g' p capc hr hg => exact .msS size r g off len cap b g' p capc (by rw [Map.re_at h]; exact hr) hg
theorem Re.agg {xs ys : List AV} (hl : ys.length = xs.length) (h : ∀ (j : Nat) (y : AV), ys[j]? = some y → ∃ x, xs[j]? = some x ∧ Re G π σ x y) : Re G π σ (.agg xs) (.agg ys) := fun w M v hi hv => by
  cases hv with
  | agg vs _ h1 h2 => exact .agg vs ys (by omega) fun j y hj => (by
      obtain ⟨x, e1, e2⟩ := h j y hj
      exact e2 _ _ _ hi (h2 j x e1))
theorem Re.tup {xs ys : List AV} (hl : ys.length = xs.length) (h : ∀ (j : Nat) (y : AV), ys[j]? = some y → ∃ x, xs[j]? = some x ∧ Re G π σ x y) : Re G π σ (.tup xs) (.tup ys) := fun w M v hi hv => by
  cases hv with
  | tup vs _ h1 h2 => exact .tup vs ys (by omega) fun j y hj => (by
      obtain ⟨x, e1, e2⟩ := h j y hj
      exact e2 _ _ _ hi (h2 j x e1))
/-- A slice whose object is forgotten: data. -/
theorem Re.data {size r g len cap : Nat} {cells : List AV} {rows : Nat → List AV} (ho : σ[r]? = some (.cells g cells)) (hr : ∀ q, π q ≠ some r) (hc : len * size ≤ cells.length) (hl : ∀ i, i < len → (rows i).length = size)
    (h : ∀ (i j : Nat) (y : AV), i < len → (rows i)[j]? = some y → ∃ x, cells[i * size + j]? = some x ∧ Re G π σ x y) : Re G π σ (.ms size r g 0 len cap) (.fl size len rows) := fun w M v hi hv => by
  obtain ⟨b, cs, e, hm, hh, hle, hx⟩ := hi.cells r g cells ho
  cases hv with
  | ms _ _ _ _ _ _ b' capc c' e' hm' hlen hcc hsz hfit =>
    rw [hm] at hm'
    obtain ⟨rfl, _⟩ := Prod.mk.inj (Option.some.inj hm')
    have himm : Imm w (M.re π) b := ⟨hi.lt r b g hm, fun r' g' h' => by
      obtain ⟨q, k1, k2⟩ := Map.re_some h'
      have := hi.inj r q b g g' hm k2
      subst this
      exact hr _ k1, hi.notFar hm⟩
    refine .fl _ _ _ _ ?_
    have hlen' : ((List.range len).map rows).length = len := by simp
    have get : ∀ (i : Nat) (rw' : List AV), ((List.range len).map rows)[i]? = some rw' → i < len ∧ rw' = rows i := fun i rw' hi' => by
      have hil : i < len := by have := (List.getElem?_eq_some_iff.1 hi').1; rwa [hlen'] at this
      rw [List.getElem?_map, List.getElem?_range hil] at hi'
      exact ⟨hil, (Option.some.inj hi').symm⟩
    have hbound : ∀ i j, i < len → j < size → i * size + j < cs.size := fun i j h1 h2 => by
      have : (i + 1) * size ≤ len * size := Nat.mul_le_mul_right _ h1
      rw [Nat.succ_mul] at this
      omega
    have := RV.sl (w := w) (M := M.re π) b 0 capc size (fun i j => cs.getD (i * size + j) Go.undef) ((List.range len).map rows) himm
      (fun i rw' j hrw hj => by
        obtain ⟨h1, rfl⟩ := get i rw' hrw
        rw [Nat.zero_add]
        exact cell_of_cells hh (hbound i j h1 hj))
      (fun i rw' hrw => by
        obtain ⟨h1, rfl⟩ := get i rw' hrw
        exact hl i h1)
      (fun i rw' j z hrw hz => by
        obtain ⟨h1, rfl⟩ := get i rw' hrw
        obtain ⟨x, e1, e2⟩ := h i j z h1 hz
        exact e2 _ _ _ hi (hx _ x e1))
      (by rw [hlen']; omega)
    rw [hlen'] at this
    exact this
  | msS _ _ _ _ _ _ b' g' p capc hm' hg =>
    rw [hm] at hm'
    obtain ⟨_, rfl⟩ := Prod.mk.inj (Option.some.inj hm')
    omega

/-- What an object is by the new numbers. -/
def ORe (G : Nat → Option (List AV)) (π : Nat → Option Nat) (σ1 : Heap) (r : Nat) : AObj → Prop
  | .cells g c => ∃ q c0, π r = some q ∧ σ1[q]? = some (.cells g c0) ∧ c.length = c0.length ∧ ∀ (j : Nat) (y : AV), c[j]? = some y → ∃ x, c0[j]? = some x ∧ Re G π σ1 x y
  | .resv => ∀ q, π r = some q → σ1[q]? = some .resv
  | .dfr => ∃ q, π r = some q ∧ σ1[q]? = some .dfr
  | .loop A => π r = some r ∧ σ1[r]? = some (.loop A) ∧ π A.defers = some A.defers ∧ ∀ x ∈ A.tmps, Re G π σ1 x x
  | .gone => True
/-- A heap numbered anew. -/
structure HRe (G : Nat → Option (List AV)) (π : Nat → Option Nat) (σ σ1 τ : Heap) : Prop where
  glob : GBelow G
  keep : ∀ r o, σ[r]? = some o → o ≠ .resv → π r = some r
  inj : ∀ r r' q, π r = some q → π r' = some q → r = r'
  dom : ∀ r q, π r = some q → r < τ.length
  obj : ∀ r o, τ[r]? = some o → ORe G π σ1 r o

theorem Inv.kept (hi : Inv G w M σ) (hk : ∀ r o, σ[r]? = some o → o ≠ .resv → π r = some r) {r : Nat} {p : Nat × Nat} (hm : M r = some p) : π r = some r := by
  have hlt := hi.dom r p hm
  refine hk r _ (List.getElem?_eq_getElem hlt) fun he => ?_
  rw [hi.resv r (by rw [List.getElem?_eq_getElem hlt, he])] at hm
  cases hm
theorem Inv.re {w1 : World} {M1 : Map} {σ1 τ : Heap} (hi : Inv G w M σ) (he : Ext w M w1 M1) (hi1 : Inv G w1 M1 σ1) (h : HRe G π σ σ1 τ) : Ext w M w1 (M1.re π) ∧ Inv G w1 (M1.re π) τ := by
  have hk : ∀ r p, M r = some p → M1.re π r = M1 r := fun r p hm => Map.re_at (hi.kept h.keep hm)
  have hext : Ext w M w1 (M1.re π) := by
    refine ⟨he.size, he.os, he.tape, he.output, fun b hb => ⟨(he.imm b hb).1.re π, (he.imm b hb).2⟩, fun r b g hr => ?_, fun r b g c e fr hr hr' hc => ?_, fun r b hr hc => ?_, he.far⟩
    · rw [hk r _ hr]; exact he.ref r b g hr
    · rw [hk r _ hr] at hr'; exact he.shape r b g c e fr hr hr' hc
    · rw [hk r _ hr]; exact he.fix r b hr hc
  refine ⟨hext, .of (fun g cs hg => (hi1.glob g cs hg).re hi1 (fun r hr => absurd hr (by omega)) (h.glob g cs hg)) (fun r r' b g g' h1 h2 => ?_) (fun r p h1 => ?_) (fun r b g h1 => ?_) (fun b hb => ⟨(hi1.far b hb).1, fun r g h1 => ?_⟩) fun r o ho => ?_⟩
  · obtain ⟨q, a1, a2⟩ := Map.re_some h1
    obtain ⟨q', b1, b2⟩ := Map.re_some h2
    have := hi1.inj q q' b g g' a2 b2
    subst this
    exact h.inj r r' q a1 b1
  · obtain ⟨q, a1, a2⟩ := Map.re_some h1
    exact h.dom r q a1
  · obtain ⟨q, a1, a2⟩ := Map.re_some h1
    exact hi1.lt q b g a2
  · obtain ⟨q, a1, a2⟩ := Map.re_some h1
    exact (hi1.far b hb).2 q g a2
  · have hq := h.obj r o ho
    cases o with
    | cells g c =>
      obtain ⟨q, c0, h1, h2, h3, h4⟩ := hq
      obtain ⟨b, cs, e, k1, k2, k3, k4⟩ := hi1.cells q g c0 h2
      exact ⟨b, cs, e, by rw [Map.re_at h1]; exact k1, k2, by omega, fun j y hj => by
        obtain ⟨x, e1, e2⟩ := h4 j y hj
        exact e2 _ _ _ hi1 (k4 j x e1)⟩
    | resv =>
      show (π r).bind M1.get = none
      cases hp : π r with
      | none => rfl
      | some q => exact hi1.resv q (hq q hp)
    | dfr =>
      obtain ⟨q, h1, h2⟩ := hq
      obtain ⟨b, k1, k2⟩ := hi1.dfr q h2
      exact ⟨b, by rw [Map.re_at h1]; exact k1, k2⟩
    | loop A =>
      obtain ⟨h1, h2, h3, h4⟩ := hq
      obtain ⟨b, L, k1, k2, k3⟩ := hi1.loop r A h2
      exact ⟨b, L, by rw [Map.re_at h1]; exact k1, k2, k3.state, k3.pending, k3.size, fun j x hj => h4 x (List.mem_of_getElem? hj) _ _ _ hi1 (k3.tmps j x hj), k3.params, k3.assign, k3.body, by rw [Map.re_at h3]; exact k3.defers.1, k3.defers.2⟩
    | gone => trivial

theorem ACall.re {f : FuncId} {args : List AV} {v v' : AV} {σ1 τ : Heap} (h : ACall P G f args σ v σ1) (hr : HRe G π σ σ1 τ) (hv : Re G π σ1 v v') : ACall P G f args σ v' τ := by
  refine ⟨h.1, fun w M vs hi hvs => (h.2 w M vs hi hvs).mono ?_⟩
  rintro e w' ⟨u, M', rfl, hu, he, hi'⟩
  obtain ⟨h1, h2⟩ := hi.re he hi' hr
  exact ⟨u, _, rfl, hv _ _ _ hi' hu, h1, h2⟩
theorem AStep.re {a : AAct} {o : Oper} {y y' : AV} {σ1 τ : Heap} (h : AStep P G a σ o y σ1) (hr : HRe G π σ σ1 τ) (hv : Re G π σ1 y y') : AStep P G a σ o y' τ := by
  intro r0 w M ac K Q hi ha hK
  refine h r0 w M ac K Q hi ha fun v w' M' hv' he hi' => ?_
  obtain ⟨h1, h2⟩ := hi.re he hi' hr
  exact hK v w' _ (hv _ _ _ hi' hv') h1 h2
theorem AExec.re {R : Option Nat → Prop} {c : Code} {a a' b : List AV} {m : List Nat} {σ1 τ : Heap} {e : Exit} (h : AExec P G R c { tmps := a, marks := m } σ e { tmps := a', marks := m } σ1) (hr : HRe G π σ σ1 τ) (hm : ∀ r ∈ m, π r = some r)
    (hl : b.length = a'.length) (hv : ∀ (j : Nat) (y : AV), b[j]? = some y → ∃ x, a'[j]? = some x ∧ Re G π σ1 x y) : AExec P G R c { tmps := a, marks := m } σ e { tmps := b, marks := m } τ := by
  intro r0 hr0 w M ac Q hi ha hQ
  refine h r0 hr0 w M ac Q hi ha fun w' M' ac' he hi' ha' => ?_
  obtain ⟨h1, h2⟩ := hi.re he hi' hr
  refine hQ w' _ ac' h1 h2 ⟨⟨by rw [ha'.tmps.1, hl], fun j y hj => ?_⟩, ?_⟩
  · obtain ⟨x, e1, e2⟩ := hv j y hj
    exact e2 _ _ _ hi' (ha'.tmps.2 j x e1)
  · obtain ⟨bs, k1, k2, k3⟩ := ha'.marks
    exact ⟨bs, k1, k2, fun i r b q1 q2 => by rw [Map.re_at (hm r (List.mem_of_getElem? q1))]; exact k3 i r b q1 q2⟩

/-! ### Room for an object -/
theorem Inv.room (hi : Inv G w M σ) : Inv G w M (σ ++ [.resv]) := by
  refine .of hi.glob hi.inj (fun r p h => by have := hi.dom r p h; simp; omega) hi.lt hi.far fun r o ho => ?_
  by_cases h : r < σ.length
  · rw [List.getElem?_append_left h] at ho
    exact hi.objOk ho
  · have : r = σ.length := by have := (List.getElem?_eq_some_iff.1 ho).1; simp at this; omega
    subst this
    rw [List.getElem?_append_right (Nat.le_refl _), Nat.sub_self] at ho
    cases ho
    show M σ.length = none
    cases hm : M.get σ.length with
    | none => rfl
    | some p => have := hi.dom _ p hm; omega
theorem Inv.rooms (hi : Inv G w M σ) (n : Nat) : Inv G w M (σ ++ List.replicate n .resv) := by
  induction n with
  | zero => simpa using hi
  | succ n ih => rw [List.replicate_succ', ← List.append_assoc]; exact ih.room
theorem AExec.rooms {R : Option Nat → Prop} {c : Code} {a a' : AAct} {σ1 : Heap} {e : Exit} (n : Nat) (h : AExec P G R c a (σ ++ List.replicate n .resv) e a' σ1) : AExec P G R c a σ e a' σ1 :=
  fun r0 hr w M ac Q hi ha hQ => h r0 hr w M ac Q (hi.rooms n) ha hQ
theorem ACall.rooms {f : FuncId} {args : List AV} {v : AV} {σ1 : Heap} (n : Nat) (h : ACall P G f args (σ ++ List.replicate n .resv) v σ1) : ACall P G f args σ v σ1 :=
  ⟨h.1, fun w M vs hi hvs => h.2 w M vs (hi.rooms n) hvs⟩

/-! ### Beside other objects -/
/-- The objects below n alone; the others' blocks are far. -/
def Map.near (M : Map) (n : Nat) : Map := ⟨fun r => if r < n then M r else none, fun b => M.far b ∨ ∃ r g, n ≤ r ∧ M r = some (b, g)⟩
theorem Map.near_some {n r : Nat} {p : Nat × Nat} (h : M.near n r = some p) : r < n ∧ M r = some p := by
  simp only [Map.near] at h
  split at h
  · exact ⟨‹_›, h⟩
  · cases h
theorem Map.near_lt {n r : Nat} (h : r < n) : M.near n r = M r := by
  simp only [Map.near]
  rw [if_pos h]
theorem Imm.near {b : Nat} (h : Imm w M b) (n : Nat) : Imm w (M.near n) b := ⟨h.1, fun r g hr => h.2.1 r g (Map.near_some hr).2, fun k => by
  rcases k with k | ⟨r, g, _, k⟩
  · exact h.2.2 k
  · exact h.2.1 r g k⟩
theorem RV.near {n : Nat} {v : Value} {x : AV} (hv : RV w M v x) (hb : Below n x) : RV w (M.near n) v x := by
  induction hv with
  | int k i => exact .int k i
  | bool b => exact .bool b
  | nilp => exact .nilp
  | nilf => exact .nilf
  | ref r g off b hr => cases hb with | ref _ _ _ hlt => exact .ref r g off b (by rw [Map.near_lt hlt]; exact hr)
  | refS r g off b g' p hr hg => cases hb with | ref _ _ _ hlt => exact .refS r g off b g' p (by rw [Map.near_lt hlt]; exact hr) hg
  | row b o off f cells hi hc _ ih => cases hb with | row _ _ h => exact .row b o off f cells (hi.near n) hc fun j x hj => ih j x hj (h j x hj)
  | sl0 base cap size => exact .sl0 base cap size
  | sl b o cap size f rows hi hc hl _ hcap ih => cases hb with | sl _ _ h => exact .sl b o cap size f rows (hi.near n) hc hl (fun i r j x hi hj => ih i r j x hi hj (h i r j x hi hj)) hcap
  | fl v size k rows _ ih => cases hb with | fl _ _ _ h => exact .fl _ size k rows (ih h)
  | zs base => exact .zs base
  | ms size r g off len cap b capc c e hr hlen hcc hsz hfit => cases hb with | ms _ _ _ _ _ _ hlt => exact .ms size r g off len cap b capc c e (by rw [Map.near_lt hlt]; exact hr) hlen hcc hsz hfit
  | msS size r g off len cap b g' p capc hr hg => cases hb with | ms _ _ _ _ _ _ hlt => exact .msS size r g off len cap b g' p capc (by rw [Map.near_lt hlt]; exact hr) hg
  | agg vs xs hl _ ih => cases hb with | agg _ h => exact .agg vs xs hl fun j x hj => ih j x hj (h j x hj)
  | tup vs xs hl _ ih => cases hb with | tup _ h => exact .tup vs xs hl fun j x hj => ih j x hj (h j x hj)
  | fn f fs cs xs ys hl1 hl2 _ _ ih1 ih2 => cases hb with | fn _ _ _ h1 h2 => exact .fn f fs cs xs ys hl1 hl2 (fun j x hj => ih1 j x hj (h1 j x hj)) (fun j x hj => ih2 j x hj (h2 j x hj))
  | yf l b hr => cases hb with | yf _ hlt => exact .yf l b (by rw [Map.near_lt hlt]; exact hr)
  | yfS l b g fn fs cs hr hg => cases hb with | yf _ hlt => exact .yfS l b g fn fs cs (by rw [Map.near_lt hlt]; exact hr) hg
  | anyb b => exact .anyb b
  | mx size r g off len cap b c e hr hlen hsz hfit => cases hb with | mx _ _ _ _ _ _ hlt => exact .mx size r g off len cap b c e (by rw [Map.near_lt hlt]; exact hr) hlen hsz hfit
  | mxS size r g off len cap b g' p hr hg => cases hb with | mx _ _ _ _ _ _ hlt => exact .mxS size r g off len cap b g' p (by rw [Map.near_lt hlt]; exact hr) hg
  | junk v => exact .junk v
/-- Cells alone, whose values lie among themselves. -/
def Alone (n : Nat) : AObj → Prop
  | .cells _ c => ∀ x ∈ c, Below n x
  | .resv => True
  | .gone => True
  | _ => False
theorem Inv.near {Y : Heap} (hi : Inv G w M (σ ++ Y)) (hG : GBelow G) (ha : ∀ o ∈ σ, Alone σ.length o) : Inv G w (M.near σ.length) σ := by
  refine .of (fun g cs hg => (hi.glob g cs hg).near ((hG g cs hg).up)) (fun r r' b g g' h1 h2 => hi.inj r r' b g g' (Map.near_some h1).2 (Map.near_some h2).2) (fun r p h1 => (Map.near_some h1).1) (fun r b g h1 => hi.lt r b g (Map.near_some h1).2) (fun b hb => ?_) fun r o ho => ?_
  · rcases hb with hb | ⟨r, g, h1, h2⟩
    · exact ⟨(hi.far b hb).1, fun r g h => (hi.far b hb).2 r g (Map.near_some h).2⟩
    · refine ⟨hi.lt r b g h2, fun r' g' h => ?_⟩
      obtain ⟨k1, k2⟩ := Map.near_some h
      have := hi.inj r r' b g g' h2 k2
      omega
  · have hlt : r < σ.length := (List.getElem?_eq_some_iff.1 ho).1
    have hal := ha o (List.mem_of_getElem? ho)
    have ho' : (σ ++ Y)[r]? = some o := by rw [List.getElem?_append_left hlt]; exact ho
    cases o with
    | cells g c =>
      obtain ⟨b, cs, e, h1, h2, h3, h4⟩ := hi.cells r g c ho'
      exact ⟨b, cs, e, by rw [Map.near_lt hlt]; exact h1, h2, h3, fun j x hj => (h4 j x hj).near (hal x (List.mem_of_getElem? hj))⟩
    | resv => exact (Map.near_lt hlt).trans (hi.resv r ho')
    | dfr => exact hal.elim
    | loop A => exact hal.elim
    | gone => trivial
/-- Both together. -/
def Map.join (M1 M : Map) (n : Nat) : Map := ⟨fun r => if r < n then M1 r else M r, M.far⟩
theorem Map.join_lt {M1 : Map} {n r : Nat} (h : r < n) : M1.join M n r = M1 r := by
  simp only [Map.join]; rw [if_pos h]
theorem Map.join_ge {M1 : Map} {n r : Nat} (h : ¬ r < n) : M1.join M n r = M r := by
  simp only [Map.join]; rw [if_neg h]
theorem Inv.join {w1 : World} {M1 : Map} {σ1 Y : Heap} (hi : Inv G w M (σ ++ Y)) (he : Ext w (M.near σ.length) w1 M1) (hi1 : Inv G w1 M1 σ1) (hl : σ1.length = σ.length) :
    Ext w M w1 (M1.join M σ.length) ∧ Inv G w1 (M1.join M σ.length) (σ1 ++ Y) ∧ ∀ v x, RV w1 M1 v x → RV w1 (M1.join M σ.length) v x := by
  have hsame : ∀ r b g, ¬ r < σ.length → M r = some (b, g) → w1.heap[b]? = w.heap[b]? := fun r b g hr hm => he.far.2 b (.inr ⟨r, g, by omega, hm⟩) (hi.lt r b g hm)
  have hfar : ∀ r b g, ¬ r < σ.length → M r = some (b, g) → M1.far b := fun r b g hr hm => by rw [he.far.1]; exact .inr ⟨r, g, by omega, hm⟩
  have himm : ∀ b, Imm w1 M1 b → Imm w1 (M1.join M σ.length) b := fun b hb => ⟨hb.1, fun r g hr => by
    by_cases h : r < σ.length
    · rw [Map.join_lt h] at hr; exact hb.2.1 r g hr
    · rw [Map.join_ge h] at hr; exact hb.2.2 (hfar r b g h hr), fun h => hb.2.2 (by rw [he.far.1]; exact .inl h)⟩
  have hext : Ext w M w1 (M1.join M σ.length) := by
    refine ⟨he.size, he.os, he.tape, he.output, fun b hb => ⟨himm b (he.imm b (hb.near _)).1, (he.imm b (hb.near _)).2⟩, fun r b g hr => ?_, fun r b g c e fr hr hr' hc => ?_, fun r b hr hc => ?_, rfl, fun b hb hlt => he.far.2 b (.inl hb) hlt⟩
    · by_cases h : r < σ.length
      · rw [Map.join_lt h]; exact he.ref r b g (by rw [Map.near_lt h]; exact hr)
      · rw [Map.join_ge h]; exact ⟨b, g, hr, .inr ⟨rfl, rfl⟩⟩
    · by_cases h : r < σ.length
      · rw [Map.join_lt h] at hr'; exact he.shape r b g c e fr (by rw [Map.near_lt h]; exact hr) hr' hc
      · rw [hsame r b g h hr]; exact ⟨c, hc, rfl⟩
    · by_cases h : r < σ.length
      · rw [Map.join_lt h]; exact he.fix r b (by rw [Map.near_lt h]; exact hr) hc
      · rw [Map.join_ge h]
        exact ⟨hr, Nat.lt_of_lt_of_le hc.1 he.size, fun c e fr h' => by rw [hsame r b 0 h hr] at h'; exact hc.2 c e fr h'⟩
  have hrv : ∀ v x, RV w1 M1 v x → RV w1 (M1.join M σ.length) v x := by
    have hm : ∀ r p, M1 r = some p → M1.join M σ.length r = some p := fun r p h => by
      have := hi1.dom r p h
      rw [Map.join_lt (by omega)]; exact h
    intro v x hv
    induction hv with
    | int k i => exact .int k i
    | bool b => exact .bool b
    | nilp => exact .nilp
    | nilf => exact .nilf
    | ref r g off b hr => exact .ref r g off b (hm _ _ hr)
    | refS r g off b g' p hr hg => exact .refS r g off b g' p (hm _ _ hr) hg
    | row b o off f cells hi hc _ ih => exact .row b o off f cells (himm _ hi) hc ih
    | sl0 base cap size => exact .sl0 base cap size
    | sl b o cap size f rows hi hc hl _ hcap ih => exact .sl b o cap size f rows (himm _ hi) hc hl ih hcap
    | fl v size k rows _ ih => exact .fl _ size k rows ih
    | zs base => exact .zs base
    | ms size r g off len cap b capc c e hr hlen hcc hsz hfit => exact .ms size r g off len cap b capc c e (hm _ _ hr) hlen hcc hsz hfit
    | msS size r g off len cap b g' p capc hr hg => exact .msS size r g off len cap b g' p capc (hm _ _ hr) hg
    | agg vs xs hl _ ih => exact .agg vs xs hl ih
    | tup vs xs hl _ ih => exact .tup vs xs hl ih
    | fn f fs cs xs ys hl1 hl2 _ _ ih1 ih2 => exact .fn f fs cs xs ys hl1 hl2 ih1 ih2
    | yf l b hr => exact .yf l b (hm _ _ hr)
    | yfS l b g fn fs cs hr hg => exact .yfS l b g fn fs cs (hm _ _ hr) hg
    | anyb b => exact .anyb b
    | mx size r g off len cap b c e hr hlen hsz hfit => exact .mx size r g off len cap b c e (hm _ _ hr) hlen hsz hfit
    | mxS size r g off len cap b g' p hr hg => exact .mxS size r g off len cap b g' p (hm _ _ hr) hg
    | junk v => exact .junk v
  refine ⟨hext, .of (fun g cs hg => (hi.glob g cs hg).mono hext) (fun r r' b g g' h1 h2 => ?_) (fun r p h1 => ?_) (fun r b g h1 => ?_) (fun b hb => ⟨Nat.lt_of_lt_of_le (hi.far b hb).1 he.size, fun r g h1 => ?_⟩) fun r o ho => ?_, hrv⟩
  · by_cases h : r < σ.length <;> by_cases h' : r' < σ.length
    · rw [Map.join_lt h] at h1; rw [Map.join_lt h'] at h2; exact hi1.inj r r' b g g' h1 h2
    · rw [Map.join_lt h] at h1; rw [Map.join_ge h'] at h2
      exact absurd h1 ((hi1.far b (hfar r' b g' h' h2)).2 r g)
    · rw [Map.join_ge h] at h1; rw [Map.join_lt h'] at h2
      exact absurd h2 ((hi1.far b (hfar r b g h h1)).2 r' g')
    · rw [Map.join_ge h] at h1; rw [Map.join_ge h'] at h2; exact hi.inj r r' b g g' h1 h2
  · rw [List.length_append, hl]
    by_cases h : r < σ.length
    · omega
    · rw [Map.join_ge h] at h1
      have := hi.dom r p h1
      rwa [List.length_append] at this
  · by_cases h : r < σ.length
    · rw [Map.join_lt h] at h1; exact hi1.lt r b g h1
    · rw [Map.join_ge h] at h1; exact Nat.lt_of_lt_of_le (hi.lt r b g h1) he.size
  · by_cases h : r < σ.length
    · rw [Map.join_lt h] at h1
      exact (hi1.far b (by rw [he.far.1]; exact .inl hb)).2 r g h1
    · rw [Map.join_ge h] at h1
      exact (hi.far b hb).2 r g h1
  · by_cases h : r < σ.length
    · rw [List.getElem?_append_left (by omega)] at ho
      have hq := hi1.objOk ho
      cases o with
      | cells g c =>
        obtain ⟨b, cs, e, h1, h2, h3, h4⟩ := hq
        exact ⟨b, cs, e, by rw [Map.join_lt h]; exact h1, h2, h3, fun j x hj => hrv _ _ (h4 j x hj)⟩
      | resv => exact (Map.join_lt h).trans hq
      | dfr =>
        obtain ⟨b, h1, h2⟩ := hq
        exact ⟨b, by rw [Map.join_lt h]; exact h1, h2⟩
      | loop A =>
        obtain ⟨b, L, h1, h2, h3⟩ := hq
        have := hi1.dom _ _ h3.defers.1
        exact ⟨b, L, by rw [Map.join_lt h]; exact h1, h2, h3.state, h3.pending, h3.size, fun j x hj => hrv _ _ (h3.tmps j x hj), h3.params, h3.assign, h3.body, by rw [Map.join_lt (by omega)]; exact h3.defers.1, h3.defers.2⟩
      | gone => trivial
    · have hr' : (σ ++ Y)[r]? = some o := by
        rw [List.getElem?_append_right (by omega), hl] at ho
        rw [List.getElem?_append_right (by omega)]; exact ho
      exact (hi.objOk hr').keep hext (Map.join_ge h) fun b g hm => hsame r b g h hm
/-- WHAT A CALL DOES WITH SOME OBJECTS, IT DOES BESIDE OTHERS, TOO. -/
theorem ACall.beside {f : FuncId} {args : List AV} {v : AV} {σ1 : Heap} (h : ACall P G f args σ v σ1) (hl : σ1.length = σ.length) (hG : GBelow G) (ha : ∀ x ∈ args, Below σ.length x) (ho : ∀ o ∈ σ, Alone σ.length o) (Y : Heap) : ACall P G f args (σ ++ Y) v (σ1 ++ Y) := by
  refine ⟨h.1, fun w M vs hi hvs => (h.2 w _ vs (hi.near hG ho) ⟨hvs.1, fun j x hj => (hvs.2 j x hj).near (ha x (List.mem_of_getElem? hj))⟩).mono ?_⟩
  rintro e w' ⟨u, M', rfl, hu, he, hi'⟩
  obtain ⟨h1, h2, h3⟩ := hi.join he hi' hl
  exact ⟨u, _, rfl, h3 _ _ hu, h1, h2⟩
end
end Go.Proofs.Ytngaihdpmoajeaa.Am

namespace Go.Proofs.Ytngaihdpmoajeaa.Am
open Go
set_option maxRecDepth 100000

/-! ### Loops, round by round -/
theorem rnd {R : Option Nat → Prop} {E : Env} {lp : Loops} {body : Code} {n : Nat} {keep : List Nat} {s t st' : St} {e : Exit} (hcl : ClOk Try.prog G0 E) (hlp : LoopsOk Try.prog G0 R [] lp body)
    (h : (xBody Try.prog G0 E n lp keep body s).sel = some (e, st')) (hv : st'.vals = t.vals) : AExec Try.prog G0 R body { tmps := s.a } s.h e { tmps := t.a } t.h := by
  have key := (xBody_ok (m := []) names mixed hcl hlp h).1
  rw [(vals_eq hv).1, (vals_eq hv).2] at key
  exact key
/-- N rounds at most; the first that stops ends it. -/
structure LoopA (body : Code) (N : Nat) (S R : Nat → St) (X : St) (eR eX : Exit) (stop : Nat → Bool) : Prop where
  n0 : ∀ k, (S k).n = (S 0).n
  nR : ∀ k, (R k).n = (S 0).n
  nX : X.n = (S 0).n
  neR : eR ≠ .normal
  neX : eX ≠ .normal
  go : ∀ k, k < N → (∀ j, j < k → stop j = false) → stop k = false → AExec Try.prog G0 (fun r => r = none) body { tmps := (S k).a } (S k).h .normal { tmps := (S (k + 1)).a } (S (k + 1)).h
  st : ∀ k, k < N → (∀ j, j < k → stop j = false) → stop k = true → AExec Try.prog G0 (fun r => r = none) body { tmps := (S k).a } (S k).h eR { tmps := (R k).a } (R k).h
  en : (∀ j, j < N → stop j = false) → AExec Try.prog G0 (fun r => r = none) body { tmps := (S N).a } (S N).h eX { tmps := X.a } X.h
section
variable {body : Code} {N : Nat} {S R : Nat → St} {X : St} {eR eX : Exit} {stop : Nat → Bool}
def endA (N p : Nat) (eR eX : Exit) (R : Nat → St) (X : St) : Exit × St := bif decide (p < N) then (eR, R p) else (eX, X)
theorem LoopA.run (hs : LoopA body N S R X eR eX stop) : ∀ (d k : Nat), k + d = N → (∀ j, j < k → stop j = false) →
    ALoopRun Try.prog G0 (fun r => r = none) body { tmps := (S k).a } (S k).h (endA N (fstStop stop d k) eR eX R X).1 { tmps := (endA N (fstStop stop d k) eR eX R X).2.a } (endA N (fstStop stop d k) eR eX R X).2.h
  | 0, k, hk, hj => by
    obtain rfl : k = N := by omega
    simp only [fstStop]
    unfold endA
    rw [decide_eq_false (by omega), cond_false]
    exact .stop (hs.en hj) hs.neX
  | d + 1, k, hk, hj => by
    unfold fstStop
    cases hp : stop k with
    | true =>
      simp only [if_true]
      unfold endA
      rw [decide_eq_true (by omega), cond_true]
      exact .stop (hs.st k (by omega) hj hp) hs.neR
    | false =>
      simp only [Bool.false_eq_true, if_false]
      refine .next (hs.go k (by omega) hj hp) (hs.run d (k + 1) (by omega) fun j h => ?_)
      by_cases h2 : j = k
      · subst h2; exact hp
      · exact hj j (by omega)
/-- What is known of such a loop. -/
def lpA (i : Nat) (keep : List Nat) (S : St) (b : Bool) (eR : Exit) (r : St) (eX : Exit) (x : St) : Loops := fun id => bif Nat.beq id i then some (keep, S, .ite b (.leaf (eR, r)) (.leaf (eX, x))) else none
/-- The same, where it is known that it goes to its end. -/
def lpB (i : Nat) (keep : List Nat) (S : St) (eX : Exit) (x : St) : Loops := fun id => bif Nat.beq id i then some (keep, S, .leaf (eX, x)) else none
theorem LoopA.ok (hs : LoopA body N S R X eR eX stop) {c : Code} {i : Nat} {keep : List Nat} (hu : ∀ x ∈ loopsOf c, idOf x = i → x = body) :
    LoopsOk Try.prog G0 (fun r => r = none) [] (lpA i keep (S 0) (decide (fstStop stop N 0 < N)) eR (R (fstStop stop N 0)) eX X) c := by
  refine .of_list _ fun x hm => ?_
  intro kp s0 t e st' h' hsel
  unfold lpA at h'
  cases hb : Nat.beq (idOf x) i with
  | false => rw [hb, cond_false] at h'; cases h'
  | true =>
    rw [hb, cond_true] at h'
    obtain rfl := hu x hm (Nat.eq_of_beq_eq_true hb)
    cases h'
    have key := hs.run N 0 (by omega) (fun j h => absurd h (by omega))
    rw [selI] at hsel
    unfold endA at key
    revert key hsel
    cases decide (fstStop stop N 0 < N) with
    | true => intro hsel key; cases hsel; exact ⟨.loop key, hs.nR _⟩
    | false => intro hsel key; cases hsel; exact ⟨.loop key, hs.nX⟩
theorem LoopA.okB (hs : LoopA body N S R X eR eX stop) (hn : ∀ k, k < N → stop k = false) {c : Code} {i : Nat} {keep : List Nat} (hu : ∀ x ∈ loopsOf c, idOf x = i → x = body) :
    LoopsOk Try.prog G0 (fun r => r = none) [] (lpB i keep (S 0) eX X) c := by
  refine .of_list _ fun x hm => ?_
  intro kp s0 t e st' h' hsel
  unfold lpB at h'
  cases hb : Nat.beq (idOf x) i with
  | false => rw [hb, cond_false] at h'; cases h'
  | true =>
    rw [hb, cond_true] at h'
    obtain rfl := hu x hm (Nat.eq_of_beq_eq_true hb)
    cases h'
    have key := hs.run N 0 (by omega) (fun j h => absurd h (by omega))
    unfold endA at key
    rw [decide_eq_false (fun h => by
      obtain ⟨k, h1, h2⟩ := (fstStop_iff _ _).1 h
      rw [hn k h1] at h2; cases h2)] at key
    cases hsel
    exact ⟨.loop key, hs.nX⟩
end
/-- Two known loops of one piece of code. -/
def lpAnd (a b : Loops) : Loops := fun id => match a id with
  | some x => some x
  | none => b id
theorem lpAnd_ok {a b : Loops} {c : Code} {m : List Nat} {R : Option Nat → Prop} (ha : LoopsOk Try.prog G0 R m a c) (hb : LoopsOk Try.prog G0 R m b c) : LoopsOk Try.prog G0 R m (lpAnd a b) c := by
  induction c with
  | seq x y ihx ihy => exact ⟨ihx ha.1 hb.1, ihy ha.2 hb.2⟩
  | cond q x y ihx ihy => exact ⟨ihx ha.1 hb.1, ihy ha.2 hb.2⟩
  | block id x ih => exact ih ha hb
  | loop x ih =>
    refine ⟨fun kp s0 t e st' h' hsel => ?_, ih ha.2 hb.2⟩
    unfold lpAnd at h'
    split at h'
    · rename_i y hy; cases h'; exact ha.1 _ _ _ _ _ hy hsel
    · exact hb.1 _ _ _ _ _ h' hsel
  | _ => trivial
theorem selIt {α : Type} {b : Bool} {x y : Tree α} (h : b = true) : (Tree.ite b x y).sel = x.sel := by rw [selI, h, cond_true]
theorem selIf {α : Type} {b : Bool} {x y : Tree α} (h : b = false) : (Tree.ite b x y).sel = y.sel := by rw [selI, h, cond_false]
theorem selN {α : Type} {p : Prop} {x : Tree α} (h : p) : (Tree.need p x).sel = x.sel := Tree.sel_need h
theorem dT {p : Prop} [Decidable p] (h : p) : decide p = true := decide_eq_true h
theorem dF {p : Prop} [Decidable p] (h : ¬ p) : decide p = false := decide_eq_false h
end Go.Proofs.Ytngaihdpmoajeaa.Am

namespace Go.Proofs.Ytngaihdpmoajeaa.Am
open Go
set_option maxRecDepth 100000

/-- One call is known. -/
def EV (p : Prop) (g : FuncId) (xs : List AV) (v : AV) : Env := { cl := fun f ys => some (.need (p ∧ f = g ∧ ys = xs) (.leaf v)) }
theorem clokV {p : Prop} {g : FuncId} {xs : List AV} {v : AV} (h : p → ∀ σ, ACall Try.prog G0 g xs σ v σ) : ClOk Try.prog G0 (EV p g xs v) := .ofH rfl rfl .none fun f ys t u hq hs σ => by
  cases hq
  obtain ⟨⟨hp, rfl, rfl⟩, h2⟩ := Tree.of_need hs
  cases h2
  exact h hp σ
theorem getD_mem {α : Type} {L : List α} {k : Nat} {d : α} (h : k < L.length) : L.getD k d ∈ L := by
  rw [List.getD_eq_getElem?_getD, List.getElem?_eq_getElem h]
  exact List.getElem_mem h
theorem one_loop {body c : Code} {i : Nat} (h : loopsOf c = [body]) : ∀ x ∈ loopsOf c, idOf x = i → x = body := fun x hx _ => by rw [h] at hx; exact List.mem_singleton.1 hx
theorem wrapS {k n : Nat} (h : k < n) (hn : n < 4611686018427387904) : IntKind.i64.wrap ((k : Int) + 1) = ((k + 1 : Nat) : Int) := wrap_i64 (by omega) (by omega)

/-! ### IndexFunc, ContainsFunc of a list of integers -/
noncomputable def body74 : Code := (loopsOf (bodyOf Try.prog 74)).headD .skip
def st74 (L : List Int) (f : AV) (r : Int) (k : Int) (b : Bool) (h : Heap) : St := .of 19 h [(0, flL L, true), (1, f, true), (4, I r, b), (7, I L.length, true), (8, I k, true)]
theorem run74 (p : Prop) (L : List Int) (g : FuncId) (caps : List AV) (t : Bool) (k : Int) (h : Heap) : xBody Try.prog G0 (EV p g (I (L.getD k.toNat 0) :: caps) (.bool t)) 200 noLoops [0, 1, 4, 7, 8] body74 (st74 L (.fn g [] caps) 0 k false h) = .ite (decide (k < (↑L.length : Int))) (.need (((0 : Int) ≤ k) ∧ (k < (↑L.length : Int))) (.need ((p) ∧ ((g = g) ∧ (((I (L.getD k.toNat (0 : Int))) :: caps) = ((I (L.getD k.toNat (0 : Int))) :: caps)))) (.ite (t) (.leaf (Exit.ret, St.of 19 h [(0, (flL (L)), true), (1, (AV.fn g [] caps), true), (4, (I k), true), (7, (I ((↑L.length : Int))), true), (8, (I k), true)])) (.leaf (Exit.normal, St.of 19 h [(0, (flL (L)), true), (1, (AV.fn g [] caps), true), (4, (I ((0 : Int))), false), (7, (I ((↑L.length : Int))), true), (8, (I (IntKind.i64.wrap (k + (1 : Int)))), true)]))))) (.leaf ((Exit.exit ((0 : Nat))), St.of 19 h [(0, (flL (L)), true), (1, (AV.fn g [] caps), true), (4, (I ((0 : Int))), false), (7, (I ((↑L.length : Int))), true), (8, (I k), true)])) := by kernel_rfl
theorem loops74 : loopsOf (bodyOf Try.prog 74) = [body74] := by kernel_rfl
theorem runF74 (L : List Int) (f : AV) (t : Bool) (p q : Int) (h : Heap) : xenter Try.prog {} (xCode Try.prog G0 {} 200 (lpA 2 [0, 1, 4, 7, 8] (st74 L f 0 0 false h) t .ret (st74 L f p p true h) (.exit 0) (st74 L f 0 q false h))) 74 [flL L, f] [true, true] h = .need ((st74 L f 0 0 false h).vals = (st74 L f 0 0 false h).vals) (.ite (t) (.leaf ((I p), true, h)) (.leaf ((I ((-1 : Int))), false, h))) := by kernel_rfl
theorem loop74 {L : List Int} (hl : L.length < 4611686018427387904) {g : FuncId} {caps : List AV} {q : Int → Bool} (hg : ∀ x ∈ L, ∀ σ, ACall Try.prog G0 g (I x :: caps) σ (.bool (q x)) σ) (h : Heap) :
    LoopA body74 L.length (fun k => st74 L (.fn g [] caps) 0 k false h) (fun k => st74 L (.fn g [] caps) k k true h) (st74 L (.fn g [] caps) 0 L.length false h) .ret (.exit 0) fun k => q (L.getD k 0) where
  n0 _ := rfl
  nR _ := rfl
  nX := rfl
  neR := nofun
  neX := nofun
  go k hk _ hs := rnd (clokV fun _ => hg _ (getD_mem hk)) (lpNo _) ((congrArg Tree.sel (run74 True L g caps (q (L.getD k 0)) k h)).trans (by rw [selIt (dT (by omega)), selN ⟨by omega, by omega⟩, Int.toNat_natCast, selN ⟨trivial, rfl, rfl⟩, selIf hs, wrapS hk hl]; rfl)) rfl
  st k hk _ hs := rnd (clokV fun _ => hg _ (getD_mem hk)) (lpNo _) ((congrArg Tree.sel (run74 True L g caps (q (L.getD k 0)) k h)).trans (by rw [selIt (dT (by omega)), selN ⟨by omega, by omega⟩, Int.toNat_natCast, selN ⟨trivial, rfl, rfl⟩, selIt hs]; rfl)) rfl
  en _ := rnd (clokV (p := False) nofun) (lpNo _) ((congrArg Tree.sel (run74 False L g caps true L.length h)).trans (by rw [selIf (dF (by omega))]; rfl)) rfl
/-- IndexFunc, then whether there is one. -/
theorem c74 {L : List Int} (hl : L.length < 4611686018427387904) {g : FuncId} {caps : List AV} {q : Int → Bool} (hg : ∀ x ∈ L, ∀ σ, ACall Try.prog G0 g (I x :: caps) σ (.bool (q x)) σ) :
    ∃ n : Int, (∀ h, ACall Try.prog G0 74 [flL L, .fn g [] caps] h (I n) h) ∧ decide (n ≥ 0) = L.any q := by
  have hs := loop74 hl hg
  have key := fun h => congrArg Tree.sel (runF74 L (.fn g [] caps) (decide (fstStop (fun k => q (L.getD k 0)) L.length 0 < L.length)) (fstStop (fun k => q (L.getD k 0)) L.length 0 : Nat) L.length h)
  by_cases hp : fstStop (fun k => q (L.getD k 0)) L.length 0 < L.length
  · refine ⟨_, fun h => .find (s := true) (n := 200) (tags := [true, true]) clok0 ((hs h).ok (one_loop loops74)) ((key h).trans (by rw [selN rfl, selIt (dT hp)]; rfl)), ?_⟩
    obtain ⟨k, h1, h2⟩ := (fstStop_iff _ _).1 hp
    rw [dT (by omega), eq_comm, List.any_eq_true]
    exact ⟨_, getD_mem h1, h2⟩
  · refine ⟨_, fun h => .find (s := false) (n := 200) (tags := [true, true]) clok0 ((hs h).ok (one_loop loops74)) ((key h).trans (by rw [selN rfl, selIf (dF hp)]; rfl)), ?_⟩
    rw [dF (by omega), eq_comm, List.any_eq_false]
    intro x hx h2
    obtain ⟨k, hk, rfl⟩ := List.mem_iff_getElem.1 hx
    exact hp ((fstStop_iff _ _).2 ⟨k, hk, by rw [List.getD_eq_getElem?_getD, List.getElem?_eq_getElem hk]; exact h2⟩)
theorem run55 (p : Prop) (x f : AV) (n : Int) (h : Heap) : xCall Try.prog G0 (EV p 74 [x, f] (I n)) 200 55 [x, f] [true, true] h = .need ((p) ∧ ((((74 : Nat)) = ((74 : FuncId))) ∧ ([x, f] = [x, f]))) (.leaf ((AV.bool (decide (n ≥ (0 : Int)))), true, h)) := by kernel_rfl
theorem c55 {L : List Int} (hl : L.length < 4611686018427387904) {g : FuncId} {caps : List AV} {q : Int → Bool} (hg : ∀ x ∈ L, ∀ σ, ACall Try.prog G0 g (I x :: caps) σ (.bool (q x)) σ) (h : Heap) : ACall Try.prog G0 55 [flL L, .fn g [] caps] h (.bool (L.any q)) h := by
  obtain ⟨n, h1, h2⟩ := c74 hl hg
  rw [← h2]
  exact xCall_ok (n := 200) (tags := [true, true]) (s := true) names mixed (clokV fun _ => h1) ((congrArg Tree.sel (run55 True _ _ n h)).trans (selN ⟨trivial, rfl, rfl⟩))

/-! ### Numbers within bounds -/
def inB (n lo hi : Int) : Bool := decide (lo ≤ n) && decide (n ≤ hi)
theorem inB_iff {n lo hi : Int} : inB n lo hi = true ↔ lo ≤ n ∧ n ≤ hi := by simp [inB]
theorem run45 (n lo hi : Int) (h : Heap) : xCall Try.prog G0 {} 200 45 [I n, I lo, I hi] [true, true, true] h = .ite (decide (n ≥ lo)) (.leaf ((AV.bool (decide (n ≤ hi))), true, h)) (.leaf ((AV.bool false), false, h)) := by kernel_rfl
theorem c45 (n lo hi : Int) (h : Heap) : ACall Try.prog G0 45 [I n, I lo, I hi] h (.bool (inB n lo hi)) h := by
  have key := congrArg Tree.sel (run45 n lo hi h)
  unfold inB
  by_cases h1 : lo ≤ n
  · rw [selIt (dT h1)] at key
    rw [dT h1, Bool.true_and]
    exact xCall_ok (n := 200) (tags := [true, true, true]) (s := true) names mixed clok0 key
  · rw [selIf (dF h1)] at key
    rw [dF h1, Bool.false_and]
    exact xCall_ok (n := 200) (tags := [true, true, true]) (s := false) names mixed clok0 key
theorem run49 (n lo hi : Int) (h : Heap) : xCall Try.prog G0 {} 200 49 [I n, I lo, I hi] [true, true, true] h = .ite (decide (n ≥ lo)) (.leaf ((AV.bool (decide (n ≤ hi))), true, h)) (.leaf ((AV.bool false), false, h)) := by kernel_rfl
theorem c49 (n lo hi : Int) (h : Heap) : ACall Try.prog G0 49 [I n, I lo, I hi] h (.bool (inB n lo hi)) h := by
  have key := congrArg Tree.sel (run49 n lo hi h)
  unfold inB
  by_cases h1 : lo ≤ n
  · rw [selIt (dT h1)] at key
    rw [dT h1, Bool.true_and]
    exact xCall_ok (n := 200) (tags := [true, true, true]) (s := true) names mixed clok0 key
  · rw [selIf (dF h1)] at key
    rw [dF h1, Bool.false_and]
    exact xCall_ok (n := 200) (tags := [true, true, true]) (s := false) names mixed clok0 key
def outC (lo hi : Int) : List AV := [.row [I lo] 0, .row [I hi] 0]
theorem run75 (n lo hi : Int) (b : Bool) (h : Heap) : xCall Try.prog G0 (EV True 45 [I n, I lo, I hi] (.bool b)) 200 75 (I n :: outC lo hi) [true, true, true] h = .need ((True) ∧ ((((45 : Nat)) = ((45 : FuncId))) ∧ ([(I n), (I lo), (I hi)] = [(I n), (I lo), (I hi)]))) (.leaf ((AV.bool (!b)), true, h)) := by kernel_rfl
theorem c75 (n lo hi : Int) (h : Heap) : ACall Try.prog G0 75 (I n :: outC lo hi) h (.bool (!inB n lo hi)) h :=
  xCall_ok (n := 200) (tags := [true, true, true]) (s := true) names mixed (clokV fun _ => c45 n lo hi) ((congrArg Tree.sel (run75 n lo hi _ h)).trans (selN ⟨trivial, rfl, rfl⟩))
theorem run56 (lo hi : Int) (h : Heap) : xCall Try.prog G0 {} 200 56 [I lo, I hi] [true, true] h = .leaf ((AV.fn ((75 : Nat)) [] [(AV.row [(I lo)] ((0 : Nat))), (AV.row [(I hi)] ((0 : Nat)))]), true, h) := by kernel_rfl
theorem c56 (lo hi : Int) (h : Heap) : ACall Try.prog G0 56 [I lo, I hi] h (.fn 75 [] (outC lo hi)) h :=
  xCall_ok (n := 200) (tags := [true, true]) (s := true) names mixed clok0 (congrArg Tree.sel (run56 lo hi h))
/-- Some number of the list lies outside. -/
def anyOut (L : List Int) (lo hi : Int) : Bool := L.any fun x => !inB x lo hi
theorem c55o {L : List Int} (hl : L.length < 4611686018427387904) (lo hi : Int) (h : Heap) : ACall Try.prog G0 55 [flL L, .fn 75 [] (outC lo hi)] h (.bool (anyOut L lo hi)) h := c55 hl (fun x _ σ => c75 x lo hi σ) h
end Go.Proofs.Ytngaihdpmoajeaa.Am

