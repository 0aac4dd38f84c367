/-
  This file proves nothing of a law. It says what ranging over core.ordered does: a round for each set, in the order of sets. Condition: at most 63 numbers, and rounds that always ask for more.
-/
import Derived.Test.YtjljigccgaadaaaDoorCore7
namespace Go.Proofs.YtjljigccgaadaaaDoor.Am
open Go
set_option maxRecDepth 100000

/-- A store, told beforehand. -/
def hSt (t : TypeId) (p x : AV) (h1 h2 : Heap) : Heap → Oper → (Operand → Option AV) → Option (AV × Bool × Heap × Prop) := fun h o ρ => match o.op with
  | .store t' a b => if t' = t then some (.tup [], false, h2, ρ a = some p ∧ ρ b = some x ∧ h = h1 ∧ aStore Tryd.prog h1 t p x = some h2) else none
  | _ => none
theorem hSt_ok (t : TypeId) (p x : AV) (h1 h2 : Heap) : HintA Tryd.prog (hSt t p x h1 h2) := by
  intro h o ρ y s h' q hh hp
  unfold hSt at hh
  split at hh
  · rename_i t' a b ho
    split at hh
    · rename_i ht
      subst ht
      cases hh
      obtain ⟨p1, p2, rfl, p4⟩ := hp
      unfold aopR
      simp only [ho, p1, p2, p4, Option.map_some]
    · cases hh
  · cases hh
/-- A type of one cell. -/
def One (t : TypeId) : Prop := ∃ i, Tryd.prog.info? t = some i ∧ i.size = 1
theorem one_of {t : TypeId} (h : (Tryd.prog.info? t).map (fun i => i.size) = some 1) : One t := Option.map_eq_some_iff.1 h
theorem store_new {t : TypeId} (ht : One t) (h : Heap) (x y : AV) (hx : x.one = true) : aStore Tryd.prog (h ++ [.cells 0 [y]]) t (.ref h.length 0 0) x = some (h ++ [.cells 0 [x]]) := by
  obtain ⟨i, h1, h2⟩ := ht
  have ho : objAt (h ++ [.cells 0 [y]]) h.length 0 = some [y] := by simp [objAt]
  have hc : x.cells = [x] := by cases x <;> first | rfl | cases hx
  simp only [aStore, h1, ho, h2, hc]
  rw [if_pos ⟨rfl, by simp, by simp [hx]⟩]
  simp [setL]

/-- All sets of numbers below n, in their order. -/
def seqK (n : Nat) : Nat → Nat → List Nat
  | 0, _ => []
  | e + 1, k => seqD n k 0 0 ++ seqK n e (k + 1)
def allSeq (n : Nat) : List Nat := seqK n (n + 1) 0
theorem allSeq_lt {n t : Nat} (h : t ∈ allSeq n) : t < 2 ^ n := by
  have : ∀ e k, t ∈ seqK n e k → t < 2 ^ n := by
    intro e
    induction e with
    | zero => intro k h; cases h
    | succ e ih =>
      intro k h
      rcases List.mem_append.1 h with h | h
      · exact seqD_lt n k 0 0 n (by omega) (Nat.two_pow_pos n) t h
      · exact ih _ h
  exact this _ _ h

def st77 (q : Nat) (n : Int) (k : Int) (s : Bool) (h : Heap) : St := .of 16 h [(1, .row [I n] 0, true), (3, .ref q 0 0, true), (4, I k, s)]
def stE77 (h : Heap) : St := .of 16 h []
noncomputable def body77 : Code := (loopsOf (bodyOf Tryd.prog 77)).headD .skip
theorem run77 (l q : Nat) (n k s' x' k' : Int) (h h' : Heap) : xBody Tryd.prog G0 (EOb l q n s' x' k' h h') 200 noLoops [1, 3, 4] body77 (st77 q n k true h) =
    .ite (decide (k ≤ n)) (.need (need78 l q n h) (.need ([U 0, I 0, I k, .row [.yf l] 0, .row [I n] 0, .ref q 0 0] = [U s', I x', I k', .row [.yf l] 0, .row [I n] 0, .ref q 0 0] ∧ h = h)
      (.ite true (.leaf (.normal, st77 q n (IntKind.i64.wrap (k + 1)) true h')) (.leaf (.exit 0, st77 q n k true h'))))) (.leaf (.exit 0, st77 q n k true h)) := by kernel_rfl
theorem run77e (l q : Nat) (n k : Int) (h : Heap) : xBody Tryd.prog G0 (EOx l q n) 200 noLoops [] body77 (st77 q n k true h) = .ite (decide (k ≤ n)) (.need (need78 l q n h) .fail) (.leaf (.exit 0, stE77 h)) := by kernel_rfl
theorem st77_tag (q : Nat) (n k : Int) (h : Heap) : (st77 q n k false h).a = (st77 q n k true h).a := by kernel_rfl
section
variable {S : Type} {Hs : S → Heap} {yst : S → Nat → S} {l q n : Nat} {Good : Nat → S → Prop}
theorem loop77 (hn : n ≤ 63) (hy : YOk l n Hs yst Good) (hq : ∀ st, need78 l q n (Hs st)) : ∀ (e k : Nat) (st : S) (c : Nat), k + e = n + 1 → Good (c + (seqK n e k).length) st →
    ALoopRun Tryd.prog G0 (fun r => r = none) body77 { tmps := (st77 q n k true (Hs st)).a } (Hs st) (.exit 0) { tmps := (stE77 (Hs ((seqK n e k).foldl yst st))).a } (Hs ((seqK n e k).foldl yst st))
  | 0, k, st, c, hk, _ => by
    refine .stop (xBody_ok (m := []) names mixed (clokOx l q n) (lpNo body77) (n := 200) (keep := []) (st := st77 q n k true (Hs st)) (st' := stE77 (Hs st)) ?_).1 nofun
    rw [run77e, selI, decide_eq_false (by omega)]
    rfl
  | e + 1, k, st, c, hk, hgd => by
    have es : seqK n (e + 1) k = seqD n k 0 0 ++ seqK n e (k + 1) := rfl
    rw [es, List.length_append, Nat.add_comm (seqD n k 0 0).length, ← Nat.add_assoc] at hgd
    have hc := c78 hn hy hq n k 0 0 st _ (by omega) (by omega) (Nat.two_pow_pos n) hgd
    have hrest := loop77 hn hy hq e (k + 1) ((seqD n k 0 0).foldl yst st) c (by omega) (hy.fold _ _ _ (seqD_lt n k 0 0 n (by omega) (Nat.two_pow_pos n)) hgd)
    rw [es]
    rw [List.foldl_append]
    refine .next (xBody_ok (m := []) names mixed (clokOb hc) (lpNo body77) (n := 200) (keep := [1, 3, 4]) (st := st77 q n k true (Hs st)) (st' := st77 q n (k + 1 : Nat) true (Hs ((seqD n k 0 0).foldl yst st))) ?_).1 hrest
    have hw1 : IntKind.i64.wrap ((k : Int) + 1) = ((k + 1 : Nat) : Int) := wrap_i64 (by omega) (by omega)
    rw [run77, selI, decide_eq_true (by omega), cond_true, Tree.sel_need (hq st), Tree.sel_need ⟨rfl, rfl⟩, selI, hw1]
    rfl
def E77 (l : Nat) (n : Int) (h : Heap) : Env := { hint := hSt 96 (.ref h.length 0 0) (clos l h.length n) (h ++ [.cells 0 [.nilf]]) (h ++ [.cells 0 [clos l h.length n]]) }
def lp77 (q : Nat) (n : Int) (h' h'' : Heap) : Loops := fun id => match id with
  | 4 => some ([1, 3, 4], st77 q n 0 false h', .leaf (.exit 0, stE77 h''))
  | _ => none
theorem runF77 (l : Nat) (n : Int) (h h'' : Heap) : xenter Tryd.prog (E77 l n h) (xCode Tryd.prog G0 (E77 l n h) 200 (lp77 h.length n (h ++ [.cells 0 [clos l h.length n]]) h'')) 77 [.yf l, .row [I n] 0] [true, true] h =
    .need (some (AV.ref h.length 0 0) = some (AV.ref h.length 0 0) ∧ some (clos l h.length n) = some (clos l h.length n) ∧ h ++ [.cells 0 [.nilf]] = h ++ [.cells 0 [.nilf]] ∧ aStore Tryd.prog (h ++ [.cells 0 [.nilf]]) 96 (.ref h.length 0 0) (clos l h.length n) = some (h ++ [.cells 0 [clos l h.length n]]))
      (.need ((st77 h.length n 0 false (h ++ [.cells 0 [clos l h.length n]])).vals = (st77 h.length n 0 false (h ++ [.cells 0 [clos l h.length n]])).vals) (.leaf (.tup [], false, h''))) := by kernel_rfl
theorem loops77 : loopsOf (bodyOf Tryd.prog 77) = [body77] := by kernel_rfl
theorem id77 : idOf body77 = 4 := by kernel_rfl
/-- RANGING OVER ordered(n). The variable 'more' lies behind all that was there. -/
theorem c77 (hn : n ≤ 63) (hy : YOk l n Hs yst Good) {h : Heap} (hq : ∀ st, need78 l h.length n (Hs st)) (st : S) (h0 : Hs st = h ++ [.cells 0 [clos l h.length n]]) (hgd : Good (allSeq n).length st) :
    ACall Tryd.prog G0 77 [.yf l, .row [I n] 0] h (.tup []) (Hs ((allSeq n).foldl yst st)) := by
  have hl := loop77 hn hy hq (n + 1) 0 st 0 (by omega) (by rw [Nat.zero_add]; exact hgd)
  have hlp : LoopsOk Tryd.prog G0 (fun r => r = none) [] (lp77 h.length n (h ++ [.cells 0 [clos l h.length n]]) (Hs ((allSeq n).foldl yst st))) (bodyOf Tryd.prog 77) := by
    refine .of_list _ fun x hm => ?_
    rw [loops77] at hm
    obtain rfl := List.mem_singleton.1 hm
    intro keep s0 t' e st' h' hsel
    rw [id77] at h'
    cases h'
    cases hsel
    rw [← h0, st77_tag]
    exact ⟨.loop hl, rfl⟩
  refine .find (n := 200) (tags := [true, true]) (s := false) (.ofH (E := E77 l n h) rfl rfl (hSt_ok _ _ _ _ _).ok fun f xs t v h => by cases h) hlp ?_
  rw [runF77, Tree.sel_need ⟨rfl, rfl, rfl, store_new (one_of (by kernel_rfl)) _ _ _ rfl⟩]
  exact selR.trans rfl
end
theorem c68 (n : Int) (h : Heap) : ACall Tryd.prog G0 68 [I n] h (.fn 77 [] [.row [I n] 0]) h := by
  have run : xCall Tryd.prog G0 {} 200 68 [I n] [true] h = .leaf (.fn 77 [] [.row [I n] 0], true, h) := by kernel_rfl
  exact xCall_ok (n := 200) (tags := [true]) (s := true) names mixed clok0 (by rw [run]; rfl)
end Go.Proofs.YtjljigccgaadaaaDoor.Am
