/-
  This file proves nothing of a law. It holds the contracts of the package, where all arguments are known, in a form that the kernel runs. No condition.
-/
import Derived.Test.YtjljigccgaadaaaDoorCore19
namespace Go.Proofs.YtjljigccgaadaaaDoor.Am
open Go
set_option maxRecDepth 100000

/-! ### No function at all -/
def cl41n : FuncId → List AV → Option (Tree AV) := fun f xs => match f, xs with
  | 41, [.int .i64 _, .int .i64 _, .nilf] => some (.leaf (I 1))
  | _, _ => none
def E41n : Env := { cl := cl41n, clh := failH }
theorem clok41n : ClOk Tryd.prog G0 E41n := .all .none failH_ok (fun l xs σ t v σ' h => (by cases h)) fun f xs t v hq hs σ => by
  replace hq : cl41n f xs = some t := hq
  unfold cl41n at hq
  split at hq <;> first | (cases hq; done) | skip
  cases hq; cases hs; exact c41n _ _ σ
theorem c13n (n : Int) (h : Heap) : ACall Tryd.prog G0 13 [I n, .nilf] h (resL [] 1) h := by
  have run : (xCall Tryd.prog G0 E41n 200 13 [I n, .nilf] [true, true] h).sel = some (.tup [.zs, I 1], true, h) := by kernel_rfl
  exact (xCall_ok (n := 200) (tags := [true, true]) (s := true) names mixed clok41n run).resZs
theorem c14n (n : Int) (L : AV) (h : Heap) : ACall Tryd.prog G0 14 [I n, L, .nilf] h (.tup [.bool false, I 1]) h := by
  have run : (xCall Tryd.prog G0 E41n 200 14 [I n, L, .nilf] [true, true, true] h).sel = some (.tup [.bool false, I 1], true, h) := by kernel_rfl
  exact xCall_ok (n := 200) (tags := [true, true, true]) (s := true) names mixed clok41n run
theorem c15n (n : Int) (h : Heap) : ACall Tryd.prog G0 15 [I n, .nilf] h (resLL [] 1) h := by
  have run : (xCall Tryd.prog G0 E41n 200 15 [I n, .nilf] [true, true] h).sel = some (.tup [.zs, I 1], true, h) := by kernel_rfl
  exact (xCall_ok (n := 200) (tags := [true, true]) (s := true) names mixed clok41n run).resZsL
theorem c16n (n : Int) (h : Heap) : ACall Tryd.prog G0 16 [I n, .nilf] h (resLL [] 1) h := by
  have run : (xCall Tryd.prog G0 E41n 200 16 [I n, .nilf] [true, true] h).sel = some (.tup [.zs, I 1], true, h) := by kernel_rfl
  exact (xCall_ok (n := 200) (tags := [true, true]) (s := true) names mixed clok41n run).resZsL

/-! ### All contracts -/
def out (n m : Int) : Bool := decide (n < 0) || decide (m < n)
def lfV (v : AV) : Option (Tree AV) := some (.leaf v)
def unitS (F : Nat → Bool) : Unit → Nat → Bool × Unit := fun _ s => (F s, ())
def irrV (n : Int) (L : List Int) (F : Nat → Bool) : AV := match ofL n L with
  | some s => .tup [.bool (irrS (badS (unitS F)) () s).1, I 0]
  | none => .tup [.bool false, I 2]
def small {α : Type} (L : List α) : Bool := decide (L.length < 1000000)
def clC : FuncId → List AV → Option (Tree AV) := fun f xs => match f with
  | 13 => match xs with
    | [.int .i64 _, .nilf] => lfV (resL [] 1)
    | [.int .i64 n, .fn g [] []] => (fulT (.fn g [] [])).bind fun F => bif out n 64 then lfV (resL [] 2) else lfV (coreR (coreS (badS (unitS F)) n.toNat ()).1)
    | _ => none
  | 14 => match xs with
    | [.int .i64 _, _, .nilf] => lfV (.tup [.bool false, I 1])
    | [.int .i64 n, x, .fn g [] []] => (fulT (.fn g [] [])).bind fun F => (decL x).bind fun L => bif small L then bif out n 64 then lfV (.tup [.bool false, I 2]) else lfV (irrV n L F) else none
    | _ => none
  | 15 => match xs with
    | [.int .i64 _, .nilf] => lfV (resLL [] 1)
    | [.int .i64 n, .fn g [] []] => (fulT (.fn g [] [])).bind fun F => bif out n 12 then lfV (resLL [] 2) else lfV (resLL (everyL (fun s => !F s) n.toNat) 0)
    | _ => none
  | 16 => match xs with
    | [.int .i64 _, .nilf] => lfV (resLL [] 1)
    | [.int .i64 n, .fn g [] []] => (fulT (.fn g [] [])).bind fun F => bif out n 12 then lfV (resLL [] 2) else lfV (resLL (everyL (fun s => F (comp n.toNat s)) n.toNat) 0)
    | _ => none
  | 17 => match xs with
    | [.int .i64 n, x] => (decLL x).bind fun L => bif out n 12 || decide (4096 < L.length) then lfV (resLL [] 2) else bif L.all small then lfV (hitR n.toNat L) else none
    | _ => none
  | 26 => match xs with
    | [x, y] => (decL x).bind fun a => (decL y).bind fun b => bif small a then lfV (.bool (a == b)) else none
    | _ => none
  | 18 => match xs with
    | [x, y] => (decLL x).bind fun a => (decLL y).bind fun b => bif small a && a.all small then lfV (.bool (a == b)) else none
    | _ => none
  | 20 => match xs with
    | [] => lfV (.bool true)
    | _ => none
  | _ => none
theorem out_true {n m : Int} (h : out n m = true) : n < 0 ∨ n > m := by
  unfold out at h
  rcases Bool.or_eq_true_iff.1 h with h | h
  · exact .inl (of_decide_eq_true h)
  · exact .inr (of_decide_eq_true h)
theorem out_false {n m : Int} (h : out n m = false) : 0 ≤ n ∧ n ≤ m := by
  unfold out at h
  obtain ⟨h1, h2⟩ := Bool.or_eq_false_iff.1 h
  have := of_decide_eq_false h1
  have := of_decide_eq_false h2
  omega
theorem nat_of {n : Int} (h : 0 ≤ n) : ((n.toNat : Nat) : Int) = n := by omega
theorem clC_ok {f : FuncId} {xs : List AV} {t : Tree AV} {v : AV} (hq : clC f xs = some t) (hs : t.sel = some v) (σ : Heap) : ACall Tryd.prog G0 f xs σ v σ := by
  unfold clC at hq
  split at hq
  · split at hq
    · cases hq; cases hs; exact c13n _ σ
    · rename_i n g
      obtain ⟨F, hF, hq⟩ := Option.bind_eq_some_iff.1 hq
      obtain ⟨_, hg, hf⟩ := fulT_ok hF
      cases hg
      cases ho : out n 64 with
      | true =>
        rw [ho] at hq; cases hq; cases hs
        have := c13e ((hf σ).ful []) (out_true ho) ()
        rwa [List.append_nil] at this
      | false =>
        rw [ho] at hq; cases hq; cases hs
        obtain ⟨h1, h2⟩ := out_false ho
        have := c13 (n := n.toNat) ((hf σ).ful []) (by omega) ()
        rwa [List.append_nil, nat_of h1] at this
    · cases hq
  · split at hq
    · cases hq; cases hs; exact c14n _ _ σ
    · rename_i n x g
      obtain ⟨F, hF, hq⟩ := Option.bind_eq_some_iff.1 hq
      obtain ⟨_, hg, hf⟩ := fulT_ok hF
      cases hg
      obtain ⟨L, hL, hq⟩ := Option.bind_eq_some_iff.1 hq
      cases hsm : small L with
      | false => rw [hsm] at hq; cases hq
      | true =>
        rw [hsm, cond_true] at hq
        have hsm' := of_decide_eq_true hsm
        cases ho : out n 64 with
        | true =>
          rw [ho] at hq; cases hq; cases hs
          exact c14e (out_true ho) x _ [] [] σ
        | false =>
          rw [ho] at hq; cases hq; cases hs
          obtain ⟨h1, h2⟩ := out_false ho
          have := c14 (n := n.toNat) ((hf σ).ful []) (by omega) (L := L) (by omega) ()
          rw [nat_of h1] at this
          simp only [List.append_nil] at this
          have := this.arg3 (Sub.rfl' _) (decL_ok hL) (Sub.rfl' _)
          unfold irrV unitS
          revert this
          cases ofL n L <;> exact id
    · cases hq
  · split at hq
    · cases hq; cases hs; exact c15n _ σ
    · rename_i n g
      obtain ⟨F, hF, hq⟩ := Option.bind_eq_some_iff.1 hq
      obtain ⟨_, hg, hf⟩ := fulT_ok hF
      cases hg
      cases ho : out n 12 with
      | true => rw [ho] at hq; cases hq; cases hs; exact c15e (out_true ho) _ [] [] σ
      | false =>
        rw [ho] at hq; cases hq; cases hs
        obtain ⟨h1, h2⟩ := out_false ho
        have := c15 (n := n.toNat) (by omega) (hf σ)
        rwa [nat_of h1] at this
    · cases hq
  · split at hq
    · cases hq; cases hs; exact c16n _ σ
    · rename_i n g
      obtain ⟨F, hF, hq⟩ := Option.bind_eq_some_iff.1 hq
      obtain ⟨_, hg, hf⟩ := fulT_ok hF
      cases hg
      cases ho : out n 12 with
      | true => rw [ho] at hq; cases hq; cases hs; exact c16e (out_true ho) _ [] σ
      | false =>
        rw [ho] at hq; cases hq; cases hs
        obtain ⟨h1, h2⟩ := out_false ho
        have := c16 (n := n.toNat) (by omega) (hf σ)
        rwa [nat_of h1] at this
    · cases hq
  · split at hq
    · rename_i n x
      obtain ⟨L, hL, hq⟩ := Option.bind_eq_some_iff.1 hq
      cases ho : out n 12 || decide (4096 < L.length) with
      | true =>
        rw [ho] at hq; cases hq; cases hs
        refine (c17e ?_).arg2 (Sub.rfl' _) (decLL_ok hL)
        rcases Bool.or_eq_true_iff.1 ho with h | h
        · rcases out_true h with h | h
          · exact .inl h
          · exact .inr (.inl h)
        · have := of_decide_eq_true h
          exact .inr (.inr (by omega))
      | false =>
        rw [ho, cond_false] at hq
        obtain ⟨h1, h2⟩ := Bool.or_eq_false_iff.1 ho
        obtain ⟨h3, h4⟩ := out_false h1
        have h5 := of_decide_eq_false h2
        cases hall : L.all small with
        | false => rw [hall] at hq; cases hq
        | true =>
          rw [hall] at hq; cases hq; cases hs
          have := c17 (σ := σ) (n := n.toNat) (by omega) (SL := L) (fun x hx => by have := of_decide_eq_true (List.all_eq_true.1 hall x hx); omega) (by omega)
          rw [nat_of h3] at this
          exact this.arg2 (Sub.rfl' _) (decLL_ok hL)
    · cases hq
  · split at hq
    · rename_i x y
      obtain ⟨a, ha, hq⟩ := Option.bind_eq_some_iff.1 hq
      obtain ⟨b, hb, hq⟩ := Option.bind_eq_some_iff.1 hq
      cases hsm : small a with
      | false => rw [hsm] at hq; cases hq
      | true =>
        rw [hsm] at hq; cases hq; cases hs
        have hsm' := of_decide_eq_true hsm
        exact (c26 (by omega) σ).arg2 (decL_ok ha) (decL_ok hb)
    · cases hq
  · split at hq
    · rename_i x y
      obtain ⟨a, ha, hq⟩ := Option.bind_eq_some_iff.1 hq
      obtain ⟨b, hb, hq⟩ := Option.bind_eq_some_iff.1 hq
      cases hsm : small a && a.all small with
      | false => rw [hsm] at hq; cases hq
      | true =>
        rw [hsm] at hq; cases hq; cases hs
        obtain ⟨h1, h2⟩ := Bool.and_eq_true_iff.1 hsm
        have h1' := of_decide_eq_true h1
        exact (c18 ⟨by omega, fun x hx => by have := of_decide_eq_true (List.all_eq_true.1 h2 x hx); omega⟩ σ).arg2 (decLL_ok ha) (decLL_ok hb)
    · cases hq
  · split at hq
    · cases hq; cases hs; exact c20 σ
    · cases hq
  · cases hq
def EC : Env := { cl := clC }
theorem clokC : ClOk Tryd.prog G0 EC := .of rfl rfl fun f xs t v h hs σ => clC_ok h hs σ
end Go.Proofs.YtjljigccgaadaaaDoor.Am
