/-
  This file proves nothing of a law. It holds what the proofs on cores share: the program's own facts, the table of the library that is known, numbers of 64 bits. No condition.
-/
import Derived.Test.YtjljigccgaadaaaDoorAm20
import Derived.Test.YtjljigccgaadaaaDoorRows
namespace Go.Proofs.YtjljigccgaadaaaDoor.Am
open Go
set_option maxRecDepth 100000

abbrev I (n : Int) : AV := .int .i64 n
abbrev U (n : Int) : AV := .int .u64 n

/-- The library's table, as it is laid. -/
def tabL : List Nat := [0, 1, 56, 2, 57, 49, 28, 3, 61, 58, 42, 50, 38, 29, 17, 4, 62, 47, 59, 36, 45, 43, 51, 22, 53, 39, 33, 30, 24, 18, 12, 5, 63, 55, 48, 27, 60, 41, 37, 16, 46, 35, 44, 21, 52, 32, 23, 11, 54, 26, 40, 15, 34, 20, 31, 10, 25, 14, 19, 9, 13, 8, 7, 6]
def tabC : List AV := tabL.map fun (n : Nat) => .int .u8 (n : Int)
def G0 : Nat → Option (List AV) := fun g => match g with
  | 0 => some tabC
  | _ => none
theorem gbelow0 : GBelow G0 := fun g cs h => by
  unfold G0 at h
  split at h
  · cases h
    refine .row _ _ fun j x hx => ?_
    obtain ⟨n, _, rfl⟩ := List.mem_map.1 (List.mem_of_getElem? hx)
    exact .int _ _
  · cases h
theorem names0 : (Tryd.prog.funcs.all fun fn => !(fn.name == "runtime.NumGoroutine")) = true := by kernel_rfl
theorem names : NamesOk Tryd.prog := fun f fn h => by
  have := Array.all_eq_true_iff_forall_mem.1 names0 fn (Array.mem_of_getElem? h)
  simpa using this
theorem mixed : Tryd.prog.follows .mixedOrders = true := by kernel_rfl
def noLoops : Loops := fun _ => none
theorem lpNo {R : Option Nat → Prop} {m : List Nat} (c : Code) : LoopsOk Tryd.prog G0 R m noLoops c := LoopsOk.none c

/-! ### Choosing -/
theorem selR {α β : Type} {a : β} {x : Tree α} : (Tree.need (a = a) x).sel = x.sel := Tree.sel_need rfl
theorem selT {α : Type} {x : Tree α} : (Tree.need True x).sel = x.sel := Tree.sel_need trivial
theorem selI {α : Type} {b : Bool} {x y : Tree α} : (Tree.ite b x y).sel = bif b then x.sel else y.sel := rfl
theorem selL {α : Type} {a : α} : (Tree.leaf a).sel = some a := rfl
theorem fstStop_lt (n : Nat) : fstStop (fun k => !decide ((k : Int) < n)) n 0 = n := by
  have h1 := fstStop_le (stop := fun k => !decide ((k : Int) < n)) n 0
  have h2 := fstStop_at (stop := fun k => !decide ((k : Int) < n)) n 0 (by simp)
  simp only [Bool.not_eq_true', decide_eq_false_iff_not] at h2
  omega

/-! ### No references -/
theorem below_list {n : Nat} {l : List AV} (h : ∀ x ∈ l, Below n x) : ∀ (j : Nat) (x : AV), l[j]? = some x → Below n x := fun _ _ hj => h _ (List.mem_of_getElem? hj)
theorem below_fl {n size k : Nat} {rows : Nat → List AV} (h : ∀ i, ∀ x ∈ rows i, Below n x) : Below n (.fl size k rows) := by
  refine .fl _ _ _ (.sl _ _ fun i r j x hi hj => ?_)
  obtain ⟨m, _, rfl⟩ := List.mem_map.1 (List.mem_of_getElem? hi)
  exact h m x (List.mem_of_getElem? hj)

/-! ### Numbers of 64 bits -/
def uand (a b : Int) : Int := IntKind.u64.wrap ((BitVec.ofInt IntKind.u64.bits a &&& BitVec.ofInt IntKind.u64.bits b).toNat)
def uor (a b : Int) : Int := IntKind.u64.wrap ((BitVec.ofInt IntKind.u64.bits a ||| BitVec.ofInt IntKind.u64.bits b).toNat)
def uandNot (a b : Int) : Int := IntKind.u64.wrap ((BitVec.ofInt IntKind.u64.bits a &&& ~~~BitVec.ofInt IntKind.u64.bits b).toNat)
def ushl (a b : Int) : Int := IntKind.u64.wrap (a * 2 ^ (min b.toNat IntKind.u64.bits))
def ushr (a b : Int) : Int := a.fdiv (2 ^ (min b.toNat IntKind.u64.bits))
theorem wrap_u64 {n : Int} (h0 : 0 ≤ n) (h1 : n < 18446744073709551616) : IntKind.u64.wrap n = n := by
  simp [IntKind.wrap, IntKind.signed, IntKind.bits]
  omega
theorem bv_nat {a : Nat} (h : a < 2 ^ 64) : (BitVec.ofInt IntKind.u64.bits (a : Int)).toNat = a := by
  show (BitVec.ofInt 64 (a : Int)).toNat = a
  simp only [BitVec.ofInt_natCast, BitVec.toNat_ofNat]
  exact Nat.mod_eq_of_lt h
theorem uand_nat {a b : Nat} (ha : a < 2 ^ 64) (hb : b < 2 ^ 64) : uand a b = (a &&& b : Nat) := by
  unfold uand
  rw [BitVec.toNat_and, bv_nat ha, bv_nat hb]
  have := Nat.and_le_left (n := a) (m := b)
  exact wrap_u64 (by omega) (by omega)
theorem uor_nat {a b : Nat} (ha : a < 2 ^ 64) (hb : b < 2 ^ 64) : uor a b = (a ||| b : Nat) := by
  unfold uor
  rw [BitVec.toNat_or, bv_nat ha, bv_nat hb]
  have := Nat.or_lt_two_pow ha hb
  exact wrap_u64 (by omega) (by omega)
theorem uandNot_nat {a b : Nat} (ha : a < 2 ^ 64) (hb : b < 2 ^ 64) : uandNot a b = (a &&& (2 ^ 64 - 1 - b) : Nat) := by
  unfold uandNot
  rw [BitVec.toNat_and, BitVec.toNat_not, bv_nat ha, bv_nat hb]
  have := Nat.and_le_left (n := a) (m := 2 ^ 64 - 1 - b)
  exact wrap_u64 (by omega) (by show ((a &&& 2 ^ 64 - 1 - b : Nat) : Int) < 18446744073709551616; omega)

/-! ### Outcomes that are told beforehand -/
/-- A shift by an unknown number. -/
def hShift : Heap → Oper → (Operand → Option AV) → Option (AV × Bool × Heap × Prop) := fun h o ρ => match o.op with
  | .binOp .shl _ x y _ => match ρ x, ρ y with
    | some (.int k a), some (.int _ b) => some (.int k (k.wrap (a * 2 ^ (min b.toNat k.bits))), true, h, 0 ≤ b)
    | _, _ => none
  | .binOp .shr _ x y _ => match ρ x, ρ y with
    | some (.int k a), some (.int _ b) => some (.int k (a.fdiv (2 ^ (min b.toNat k.bits))), true, h, 0 ≤ b)
    | _, _ => none
  | _ => none
/-- A look into a table of bytes. -/
def hTab : Heap → Oper → (Operand → Option AV) → Option (AV × Bool × Heap × Prop) := fun h o ρ => match o.op with
  | .indexAddr 94 x y => match ρ x, ρ y with
    | some (.row cs 0), some (.int _ n) => some (.row cs n.toNat, true, h, 0 ≤ n ∧ n < 64)
    | _, _ => none
  | .load 5 x => match ρ x with
    | some (.row cs n) => some (.int .u8 (intOf (cs.getD n .junk)), true, h, ∃ v, cs[n]? = some (.int .u8 v))
    | _ => none
  | _ => none
theorem hShift_ok : HintA Tryd.prog hShift := by
  intro h o ρ y s h' p hh hp
  unfold hShift at hh
  split at hh
  · rename_i t x z g ho
    split at hh
    · rename_i k a k' b hx hz
      cases hh
      unfold aopR
      simp only [ho, hx, hz, aBin, if_neg (by omega : ¬ b < 0), Option.map_some]
    · cases hh
  · rename_i t x z g ho
    split at hh
    · rename_i k a k' b hx hz
      cases hh
      unfold aopR
      simp only [ho, hx, hz, aBin, if_neg (by omega : ¬ b < 0), Option.map_some]
    · cases hh
  · cases hh
theorem info5 : ∃ ie, Tryd.prog.info? 5 = some ie ∧ ie.size = 1 := by
  have h1 : (Tryd.prog.info? 5).map (fun i => i.size) = some 1 := by kernel_rfl
  obtain ⟨ie, e1, e2⟩ := Option.map_eq_some_iff.1 h1
  exact ⟨ie, e1, e2⟩
theorem hTab_ok : HintA Tryd.prog hTab := by
  intro h o ρ y s h' p hh hp
  unfold hTab at hh
  split at hh
  · rename_i x z ho
    split at hh
    · rename_i cs k n hx hz
      cases hh
      obtain ⟨ie, e1, e2⟩ := info5
      unfold aopR
      simp only [ho, hx, hz, aIndex, Tryd.underlying94, e1, e2]
      rw [if_pos (by exact hp)]
      simp
    · cases hh
  · rename_i x ho
    split at hh
    · rename_i cs n hx
      cases hh
      obtain ⟨v, hv⟩ := hp
      unfold aopR
      have hc : Am.cut Tryd.prog 5 cs n = some (.int .u8 v) := by
        unfold Am.cut
        rw [Tryd.underlying5]
        simp only [aggD, Bool.false_eq_true, if_false, hv]
      simp only [ho, hx, Option.bind_some, aLoad, hc, Option.map_some, List.getD_eq_getElem?_getD, hv, Option.getD_some, intOf]
    · cases hh
  · cases hh
end Go.Proofs.YtjljigccgaadaaaDoor.Am
