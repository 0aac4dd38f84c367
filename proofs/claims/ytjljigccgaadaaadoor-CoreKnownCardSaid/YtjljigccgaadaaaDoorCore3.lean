/-
  This file proves nothing of a law. It says what the list of a set is. Condition: sets of numbers below 64.
-/
import Derived.Test.YtjljigccgaadaaaDoorCore2
namespace Go.Proofs.YtjljigccgaadaaaDoor.Am
open Go
set_option maxRecDepth 100000

def cl44 : FuncId → List AV → Option (Tree AV) := fun f xs => match f, xs with
  | 66, [.int .u64 s] => some (.need (0 < s ∧ s < 18446744073709551616) (.leaf (I (tz s.toNat))))
  | _, _ => none
def E44 (s : Nat) (v v' : AV) (h0 h' : Heap) : Env := { cl := cl44, hint := hApp 22 v (.sl 1 [[I (tz s)]]) v' h0 h' }
theorem clok44 (s : Nat) (v v' : AV) (h0 h' : Heap) : ClOk Tryd.prog G0 (E44 s v v' h0 h') := by
  refine .ofH rfl rfl (hApp_ok _ _ _ _ _ _).ok ?_
  intro f xs t v hc hs σ
  replace hc : cl44 f xs = some t := hc
  unfold cl44 at hc
  split at hc <;> first | (cases hc; done) | skip
  rename_i s'
  cases hc
  obtain ⟨⟨h1, h2⟩, hs2⟩ := Tree.of_need hs
  cases hs2
  have e : s' = (s'.toNat : Int) := by omega
  rw [e]
  exact c66 (by omega) (by omega) σ
def st44 (s : Int) (v : AV) (h : Heap) : St := .of 16 h [(0, U s, true), (3, v, true)]
noncomputable def body44 : Code := (loopsOf (bodyOf Tryd.prog 44)).headD .skip
theorem run44 (s : Nat) (v v' : AV) (h0 h' : Heap) : xBody Tryd.prog G0 (E44 s v v' h0 h') 100 noLoops [0, 3] body44 (st44 s v h0) =
    .ite ((s : Int) != 0) (.need (0 < (s : Int) ∧ (s : Int) < 18446744073709551616) (.need (some [v, .sl 1 [[I (tz s)]]] = some [v, .sl 1 [[I (tz s)]]] ∧ #[22, 22] = #[22, 22] ∧ h0 = h0 ∧ aAppend Tryd.prog h0 22 22 v (.sl 1 [[I (tz s)]]) = some (v', h'))
      (.leaf (.normal, st44 (uand s (IntKind.u64.wrap (s - 1))) v' h')))) (.leaf (.exit 0, st44 s v h0)) := by kernel_rfl
/-- A list of integers, its cells. -/
def cI (L : List Nat) : List AV := L.map fun (n : Nat) => I n
theorem cI_append (L : List Nat) (n : Nat) : cI L ++ [I n] = cI (L ++ [n]) := by simp [cI]
theorem loop44 {R : Option Nat → Prop} (base : Heap) : ∀ (n s : Nat) (acc : List Nat), s < n → s < 2 ^ 64 → acc.length + (bitsL s).length ≤ 1000 →
    ALoopRun Tryd.prog G0 R body44 { tmps := (st44 s (vA base.length (cI acc)) (base ++ oA (cI acc))).a } (base ++ oA (cI acc)) (.exit 0) { tmps := (st44 0 (vA base.length (cI (acc ++ bitsL s))) (base ++ oA (cI (acc ++ bitsL s)))).a } (base ++ oA (cI (acc ++ bitsL s)))
  | 0, s, acc, h, _, _ => by omega
  | n + 1, s, acc, h, hs, hl => by
    by_cases h0 : s = 0
    · subst h0
      rw [bitsL_zero, List.append_nil]
      refine .stop (xBody_ok (m := []) names mixed (clok44 0 (vA base.length (cI acc)) .junk (base ++ oA (cI acc)) []) (lpNo body44) (n := 100) (keep := [0, 3]) (st := st44 0 (vA base.length (cI acc)) (base ++ oA (cI acc))) (st' := st44 0 (vA base.length (cI acc)) (base ++ oA (cI acc))) ?_).1 nofun
      exact (congrArg Tree.sel (run44 0 _ _ _ _)).trans rfl
    · have hb := bitsL_cons h0 hs
      rw [hb, List.length_cons] at hl
      have ih := loop44 (R := R) base n (dropLow s) (acc ++ [tz s]) (by have := dropLow_less h0; omega) (dropLow_lt hs) (by simp; omega)
      rw [List.append_assoc, List.singleton_append, ← hb] at ih
      refine .next (xBody_ok (m := []) names mixed (clok44 s (vA base.length (cI acc)) (vA base.length (cI (acc ++ [tz s]))) (base ++ oA (cI acc)) (base ++ oA (cI (acc ++ [tz s])))) (lpNo body44) (n := 100) (keep := [0, 3]) (st := st44 s (vA base.length (cI acc)) (base ++ oA (cI acc))) (st' := st44 (dropLow s) (vA base.length (cI (acc ++ [tz s]))) (base ++ oA (cI (acc ++ [tz s])))) ?_).1 ih
      have happ := append_vA el22 base (cI acc) (I (tz s)) rfl (by simp [cI]; omega)
      rw [cI_append] at happ
      have hw : IntKind.u64.wrap ((s : Int) - 1) = ((s - 1 : Nat) : Int) := by rw [wrap_u64 (by omega) (by omega)]; omega
      rw [run44, selI, bne_iff_ne.2 (by omega : (s : Int) ≠ 0), cond_true, Tree.sel_need ⟨by omega, by omega⟩, Tree.sel_need ⟨rfl, rfl, rfl, happ⟩, hw, uand_nat hs (by omega)]
      rfl
theorem exec44 {R : Option Nat → Prop} (base : Heap) {s : Nat} (hs : s < 2 ^ 64) : AExec Tryd.prog G0 R (.loop body44) { tmps := (st44 s .zs base).a } base (.exit 0) { tmps := (st44 0 (vA base.length (cI (bitsL s))) (base ++ oA (cI (bitsL s)))).a } (base ++ oA (cI (bitsL s))) := by
  have := loop44 (R := R) base (s + 1) s [] (by omega) hs (by have := bitsL_len s; simp; omega)
  have e : base ++ oA (cI []) = base := by simp [cI, oA]
  simp only [List.nil_append, e] at this
  exact .loop this

def lp44 (s : Nat) (h : Heap) (v' : AV) (h' : Heap) : Loops := fun id => match id with
  | 2 => some ([0, 3], st44 s .zs h, .leaf (.exit 0, st44 0 v' h'))
  | _ => none
theorem loops44 : loopsOf (bodyOf Tryd.prog 44) = [body44] := by kernel_rfl
theorem id44 : idOf body44 = 2 := by kernel_rfl
theorem lpok44 {s : Nat} {h h' : Heap} {v' : AV} (hx : AExec Tryd.prog G0 (fun r => r = none) (.loop body44) { tmps := (st44 s .zs h).a } h (.exit 0) { tmps := (st44 0 v' h').a } h') : LoopsOk Tryd.prog G0 (fun r => r = none) [] (lp44 s h v' h') (bodyOf Tryd.prog 44) := by
  refine .of_list _ fun x hm => ?_
  rw [loops44] at hm
  obtain rfl := List.mem_singleton.1 hm
  intro keep s0 t e st' h' hs
  rw [id44] at h'
  cases h'
  cases hs
  exact ⟨hx, rfl⟩
theorem runF44 (s : Nat) (h : Heap) (v' : AV) (h' : Heap) : xenter Tryd.prog {} (xCode Tryd.prog G0 {} 200 (lp44 s h v' h')) 44 [U s] [true] h = .need ((st44 s .zs h).vals = (st44 s .zs h).vals) (.leaf (v', true, h')) := by kernel_rfl
theorem clok0 : ClOk Tryd.prog G0 {} := .of rfl rfl fun f xs t v h => by cases h
theorem fnOf {f : FuncId} (h : ((Tryd.prog.funcs[f]?).bind (·.body)).isSome = true) : ∃ fn c, Tryd.prog.funcs[f]? = some fn ∧ fn.body = some c ∧ bodyOf Tryd.prog f = c := by
  obtain ⟨c, h4⟩ := Option.isSome_iff_exists.1 h
  obtain ⟨fn, h2, h4⟩ := Option.bind_eq_some_iff.1 h4
  exact ⟨fn, c, h2, h4, by unfold bodyOf; rw [h2]; simp [h4]⟩
/-- A function, from what the machine finds of it, over whatever heap. -/
theorem ACall.find {E : Env} (hcl : ClOk Tryd.prog G0 E) {lp : Loops} {n : Nat} {f : FuncId} (hlp : LoopsOk Tryd.prog G0 (fun r => r = none) [] lp (bodyOf Tryd.prog f)) {xs : List AV} {tags : List Bool} {h h' : Heap} {v : AV} {s : Bool}
    (hx : (xenter Tryd.prog E (xCode Tryd.prog G0 E n lp) f xs tags h).sel = some (v, s, h')) : ACall Tryd.prog G0 f xs h v h' := by
  have hfn : ∃ fn c, Tryd.prog.funcs[f]? = some fn ∧ fn.body = some c := by
    unfold xenter at hx
    split at hx
    · rename_i fn hfn
      split at hx
      · rename_i c hb; exact ⟨fn, c, hfn, hb⟩
      · cases hx
    · cases hx
  obtain ⟨fn, c, h1, h2⟩ := hfn
  have hc : bodyOf Tryd.prog f = c := by unfold bodyOf; rw [h1]; simp [h2]
  rw [hc] at hlp
  exact xFn_ok names mixed hcl h1 h2 hlp hx
/-- THE LIST OF A SET, a new slice. -/
theorem c44n {s : Nat} (hs : s < 2 ^ 64) (σ : Heap) : ACall Tryd.prog G0 44 [U s] σ (vA σ.length (cI (bitsL s))) (σ ++ oA (cI (bitsL s))) :=
  .find clok0 (lpok44 (exec44 σ hs)) ((congrArg Tree.sel (runF44 s σ _ _)).trans (selR.trans rfl))
/-- THE LIST OF A SET, as data. -/
theorem c44 {s : Nat} (hs : s < 2 ^ 64) (σ : Heap) : ACall Tryd.prog G0 44 [U s] σ (flN (bitsL s)) σ := by
  have h := c44n hs []
  have e : cI (bitsL s) = ((bitsL s).map Int.ofNat).map I := by unfold cI; rw [List.map_map]; rfl
  refine ((h.lift (k := 2) (freeze_vA _ 1 fun x hx => ?_) gbelow0 (fun x hx => ?_) σ)).conv fun _ _ _ h => by rw [e] at h; exact h.fA_flL
  · obtain ⟨n, _, rfl⟩ := List.mem_map.1 hx; rfl
  · rw [List.mem_singleton.1 hx]; exact .int _ _
end Go.Proofs.YtjljigccgaadaaaDoor.Am
