/-
  This file proves nothing of a law. It says what one round of core.every does: it asks whether a set is irreducible, and notes it if so. Condition: at most 12 numbers; the function that is asked says the same each time, and leaves all else alone.
-/
import Derived.Test.YtjljigccgaadaaaDoorCore9
import Derived.Test.YtjljigccgaadaaaDoorAm21
namespace Go.Proofs.YtjljigccgaadaaaDoor.Am
open Go
set_option maxRecDepth 100000

/-! ### Outcomes told beforehand -/
def hAl (t : TypeId) (r : Nat) (h1 h2 : Heap) : Heap → Oper → (Operand → Option AV) → Option (AV × Bool × Heap × Prop) := fun h o _ => match o.op with
  | .alloc t' => if t' = t then some (.ref r 0 0, true, h2, h = h1 ∧ aAlloc Tryd.prog h1 t = some (.ref r 0 0, h2)) else none
  | _ => none
theorem hAl_ok (t : TypeId) (r : Nat) (h1 h2 : Heap) : HintA Tryd.prog (hAl t r h1 h2) := by
  intro h o ρ y s h' p hh hp
  unfold hAl at hh
  split at hh
  · rename_i t' ho
    split at hh
    · rename_i ht
      subst ht
      cases hh
      obtain ⟨rfl, p2⟩ := hp
      unfold aopR
      simp only [ho, p2]
    · cases hh
  · cases hh
def hMk (t : TypeId) (v : AV) (l : Int) (h1 h2 : Heap) : Heap → Oper → (Operand → Option AV) → Option (AV × Bool × Heap × Prop) := fun h o ρ => match o.op with
  | .makeSlice t' a b => if t' = t then some (v, true, h2, ρ a = some (I l) ∧ ρ b = some (I l) ∧ h = h1 ∧ aMake Tryd.prog h1 t (I l) (I l) = some (v, h2)) else none
  | _ => none
theorem hMk_ok (t : TypeId) (v : AV) (l : Int) (h1 h2 : Heap) : HintA Tryd.prog (hMk t v l h1 h2) := by
  intro h o ρ y s h' p hh hp
  unfold hMk at hh
  split at hh
  · rename_i t' a b ho
    split at hh
    · rename_i ht
      subst ht
      cases hh
      obtain ⟨p1, p2, rfl, p4⟩ := hp
      unfold aopR
      simp only [ho, p1, p2, p4]
    · cases hh
  · cases hh

/-! ### Places behind a heap -/
theorem at_app (σ rest : Heap) (i : Nat) : (σ ++ rest)[σ.length + i]? = rest[i]? := by
  rw [List.getElem?_append_right (by omega)]
  congr 1; omega
theorem set_app (σ rest : Heap) (i : Nat) (x : AObj) : (σ ++ rest).set (σ.length + i) x = σ ++ rest.set i x := by
  rw [List.set_append_right _ _ (by omega)]
  congr 2; omega
theorem objAt_app {σ rest : Heap} {i g : Nat} {c : List AV} (h : rest[i]? = some (.cells g c)) : objAt (σ ++ rest) (σ.length + i) g = some c := by
  unfold objAt
  rw [at_app, h]
  simp

/-! ### every's code -/
noncomputable def fstS : Code → Code | .seq x _ => x | c => c
noncomputable def sndS : Code → Code | .seq _ x => x | c => c
noncomputable def rfA : Code → Code | .rangeFunc _ _ a _ => a | .block _ c => rfA c | .seq _ c => rfA c | _ => .skip
noncomputable def rfB : Code → Code | .rangeFunc _ _ _ b => b | .block _ c => rfB c | .seq _ c => rfB c | _ => .skip
noncomputable def b47 : Code := bodyOf Tryd.prog 47
noncomputable def c47 (i : Nat) : Code := match i with
  | 0 => fstS b47
  | 1 => fstS (sndS b47)
  | 2 => fstS (sndS (sndS b47))
  | 3 => fstS (sndS (sndS (sndS b47)))
  | 4 => fstS (fstS (sndS (sndS (sndS (sndS b47)))))
  | _ => sndS (sndS (sndS (sndS (sndS b47))))
noncomputable def rf47 : Code := fstS (sndS (sndS (sndS (sndS b47))))
noncomputable def as47 : Code := rfA rf47
noncomputable def bd47 : Code := rfB rf47
theorem code47 : bodyOf Tryd.prog 47 = .seq (c47 0) (.seq (c47 1) (.seq (c47 2) (.seq (c47 3) (.seq (.seq (c47 4) (.block 0 (.rangeFunc (.tmp 14) #[15] as47 bd47))) (c47 5))))) := by kernel_rfl

/-! ### The heap while every ranges -/
/-- A set as a list of integers. -/
def ints (s : Nat) : List Int := (bitsL s).map Int.ofNat
/-- What the loop's frame holds. -/
def stF (N n : Nat) (h : Heap) : St := .of 25 h [(6, .ref (N + 2) 0 0, true), (7, .ref (N + 3) 0 0, true), (14, .fn 77 [] [.row [I n] 0], true)]
noncomputable def lpE (N n : Nat) (s : LoopState) : ALoop := { loop0 (stF N n []).a #[15] as47 bd47 (N + 4) with state := s }
def caps67 (N : Nat) (fv : AV) : List AV := [.ref (N + 1) 0 0, .row [fv] 0]
noncomputable def seven (N n : Nat) (fv : AV) (s : LoopState) (K : Nat → Int) (L : List (List Int)) : Heap :=
  [.cells 0 (cK .i8 (2 ^ n) K), .cells 0 [.ms 1 N 0 0 (2 ^ n) (2 ^ n)], .cells 0 [.fn 67 [] (caps67 N fv)], .cells 0 [vA (N + 7) (L.map flL)], .dfr, .loop (lpE N n s), .cells 0 [clos (N + 5) (N + 6) n]]
noncomputable def hE (σ : Heap) (n : Nat) (fv : AV) (s : LoopState) (K : Nat → Int) (L : List (List Int)) : Heap := σ ++ (seven σ.length n fv s K L ++ oA (L.map flL))
theorem kfam {σ : Heap} {n : Nat} {fv : AV} {s : LoopState} {L : List (List Int)} : KFam (fun K => hE σ n fv s K L) (σ.length + 1) σ.length (2 ^ n) := by
  refine ⟨fun K => objAt_app rfl, fun K => ?_, fun K k v hk => ?_⟩
  · have := objAt_app (σ := σ) (rest := seven σ.length n fv s K L ++ oA (L.map flL)) (i := 0) (g := 0) rfl
    exact this
  · exact set_app σ (seven σ.length n fv s K L ++ oA (L.map flL)) 0 _

/-- Asked whether a set has the property: the answer is always the same, and nothing turns. -/
def HasAt (σ : Heap) (g : FuncId) (caps : List AV) (f : Nat → Bool) (m : Nat) : Prop := ∀ (X : Heap) (s : Nat), s < m → s < 2 ^ 64 → ACall Tryd.prog G0 g (U s :: caps) (σ ++ X) (.bool (f s)) (σ ++ X)

def cl47 : FuncId → List AV → Option (Tree AV) := fun f xs => match f, xs with
  | 68, [.int .i64 n] => some (.leaf (.fn 77 [] [.row [I n] 0]))
  | 44, [.int .u64 s] => some (.need (0 ≤ s ∧ s < 18446744073709551616) (.leaf (flN (bitsL s.toNat))))
  | _, _ => none
theorem cl47_ok {f : FuncId} {xs : List AV} {t : Tree AV} {v : AV} (hq : cl47 f xs = some t) (hs : t.sel = some v) (σ : Heap) : ACall Tryd.prog G0 f xs σ v σ := by
  unfold cl47 at hq
  split at hq <;> first | (cases hq; done) | skip
  · cases hq; cases hs; exact c68 _ σ
  · rename_i s
    cases hq
    obtain ⟨h1, hs2⟩ := Tree.of_need hs
    cases hs2
    have := c44 (s := s.toNat) (by omega) σ
    rwa [show ((s.toNat : Nat) : Int) = s by omega] at this
def clh47 (s : Int) (fv : AV) (b : Bool) (h h' : Heap) : FuncId → List AV → Heap → Option (Tree (AV × Heap)) := fun f xs h0 => match f with
  | 46 => some (.need (xs = [U s, fv] ∧ h0 = h) (.leaf (.bool b, h')))
  | _ => none
def EBd (s N : Nat) (fv v v' : AV) (b : Bool) (h h' h1 h2 : Heap) : Env :=
  { cl := cl47, clh := clh47 s fv b h h', hint := orH (hLd 61 fv) (orH (hLd 29 v) (orH (hApp 29 v (.sl 1 [[flN (bitsL s)]]) v' h' h1) (hSt 29 (.ref N 0 0) v' h1 h2))) }
theorem clokBd {s N : Nat} {fv v v' : AV} {b : Bool} {h h' h1 h2 : Heap} (hc : ACall Tryd.prog G0 46 [U s, fv] h (.bool b) h') : ClOk Tryd.prog G0 (EBd s N fv v v' b h h' h1 h2) := by
  refine .all ((hLd_ok (by kernel_rfl : Tryd.prog.underlying 61 = some (.func #[63] #[4] false)) rfl _).ok.or ((hLd_ok Tryd.underlying29 rfl _).ok.or ((hApp_ok _ _ _ _ _ _).ok.or (hSt_ok _ _ _ _ _).ok))) ?_ (fun l xs σ t v σ' h => (by cases h)) (fun f xs t v h hs σ => cl47_ok h hs σ)
  intro f xs σ t v σ' hq hs
  replace hq : clh47 s fv b h h' f xs σ = some t := hq
  unfold clh47 at hq
  split at hq <;> first | (cases hq; done) | skip
  cases hq
  obtain ⟨⟨rfl, rfl⟩, hs2⟩ := Tree.of_need hs
  cases hs2
  exact hc
def stB (M N : Nat) (s : Int) (h : Heap) : St := .of 25 h [(6, .ref M 0 0, true), (7, .ref N 0 0, true), (8, U s, true)]
def st0 (h : Heap) : St := .of 25 h []
theorem runBd (s M N : Nat) (fv v v' : AV) (b : Bool) (h h' h1 h2 : Heap) : xBody Tryd.prog G0 (EBd s N fv v v' b h h' h1 h2) 200 noLoops [] bd47 (stB M N s h) =
    .need (objAt h M 0 = some [fv]) (.need ([U s, fv] = [U s, fv] ∧ h = h) (.ite b (.need (objAt h' N 0 = some [v]) (.need (0 ≤ (s : Int) ∧ (s : Int) < 18446744073709551616)
      (.need (some [v, .sl 1 [[flN (bitsL (s : Int).toNat)]]] = some [v, .sl 1 [[flN (bitsL s)]]] ∧ #[29, 29] = #[29, 29] ∧ h' = h' ∧ aAppend Tryd.prog h' 29 29 v (.sl 1 [[flN (bitsL s)]]) = some (v', h1))
        (.need (some (AV.ref N 0 0) = some (AV.ref N 0 0) ∧ some v' = some v' ∧ h1 = h1 ∧ aStore Tryd.prog h1 29 (.ref N 0 0) v' = some h2) (.leaf (.normal, st0 h2)))))) (.leaf (.normal, st0 h')))) := by kernel_rfl
def stA (M N n : Nat) (s : Int) (h : Heap) : St := .of 25 h [(6, .ref M 0 0, true), (7, .ref N 0 0, true), (14, .fn 77 [] [.row [I n] 0], true), (15, U s, true)]
theorem runAs (M N n : Nat) (s : Int) (h : Heap) : xBody Tryd.prog G0 {} 200 noLoops [6, 7, 8] as47 (stA M N n s h) = .leaf (.normal, stB M N s h) := by kernel_rfl
theorem putA (N n : Nat) (s : Int) (h : Heap) : putPs [15] [U s] (stF N n []).a = (stA (N + 2) (N + 3) n s h).a := by kernel_rfl

theorem del_le (s k : Nat) : del s k ≤ s := Nat.and_le_left
section
variable {σ : Heap} {g : FuncId} {caps : List AV} {f : Nat → Bool} {n : Nat}
/-- ONE ROUND. -/
theorem roundE (hn : n ≤ 12) (hg : HasAt σ g caps f (2 ^ n)) {s : Nat} (hs : s < 2 ^ n) (K : Nat → Int) {L : List (List Int)} (hL : L.length < 1048576) :
    AYield Tryd.prog G0 (σ.length + 5) [U s] (hE σ n (.fn g [] caps) .ready K L) (.bool true)
      (hE σ n (.fn g [] caps) .ready (irrS (onceS f) K s).2 (if (irrS (onceS f) K s).1 then L ++ [ints s] else L)) := by
  have h64 : 2 ^ n ≤ 2 ^ 12 := Nat.pow_le_pow_right (by omega) hn
  have hs64 : s < 2 ^ 64 := by omega
  have hloop : ∀ st K L, (hE σ n (.fn g [] caps) st K L)[σ.length + 5]? = some (.loop (lpE σ.length n st)) := fun st K L => at_app σ _ 5
  have hset : ∀ st st' K L, (hE σ n (.fn g [] caps) st K L).set (σ.length + 5) (.loop (lpE σ.length n st')) = hE σ n (.fn g [] caps) st' K L := fun st st' K L => set_app σ _ 5 _
  -- the call of irreducible
  have h67 : HasOk 67 (caps67 σ.length (.fn g [] caps)) (fun K => hE σ n (.fn g [] caps) .busy K L) (onceS f) (· < 2 ^ n) := c67 kfam fun K s h1 h2 => hg _ s h1 h2
  have h46 := c46 h67 hs64 hs (fun k _ => Nat.lt_of_le_of_lt (del_le s k) hs) K
  generalize irrS (onceS f) K s = q at h46
  obtain ⟨b, K'⟩ := q
  simp only at h46 ⊢
  have key := AYield.of_round (P := Tryd.prog) (G := G0) (l := σ.length + 5) (A := lpE σ.length n .ready) (args := [U s]) (σ := hE σ n (.fn g [] caps) .ready K L) (σ1 := hE σ n (.fn g [] caps) .ready K L) (σ3 := hE σ n (.fn g [] caps) .busy K' (if b = true then L ++ [ints s] else L))
    (a1 := (stB (σ.length + 2) (σ.length + 3) s []).a) (a3 := (st0 []).a) (e := .normal) (j := none) (hloop _ _ _) rfl rfl ?_ (hloop _ _ _) ?_ (hloop _ _ _) rfl
  · exact hset .busy .ready K' _ ▸ key
  · show AExec Tryd.prog G0 _ as47 { tmps := putPs [15] [U s] (stF σ.length n []).a } _ .normal _ _
    rw [putA σ.length n s (hE σ n (.fn g [] caps) .ready K L)]
    exact (xBody_ok (m := []) names mixed clok0 (lpNo as47) (n := 200) (keep := [6, 7, 8]) (st := stA (σ.length + 2) (σ.length + 3) n s (hE σ n (.fn g [] caps) .ready K L)) (st' := stB (σ.length + 2) (σ.length + 3) s (hE σ n (.fn g [] caps) .ready K L)) (by rw [runAs]; rfl)).1
  · rw [show (AObj.loop { lpE σ.length n .ready with state := .busy }) = .loop (lpE σ.length n .busy) from rfl, hset]
    have hone : One 29 := one_of (by kernel_rfl)
    have happ := append_vA el29 (σ ++ seven σ.length n (.fn g [] caps) .busy K' L) (L.map flL) (flN (bitsL s)) rfl (by simp; omega)
    have hlen : (σ ++ seven σ.length n (.fn g [] caps) .busy K' L).length = σ.length + 7 := by simp [seven]
    have hmap : L.map flL ++ [flN (bitsL s)] = (L ++ [ints s]).map flL := by simp [ints, flN]
    rw [hlen, hmap, List.append_assoc, List.append_assoc] at happ
    have hsto : aStore Tryd.prog (σ ++ (seven σ.length n (.fn g [] caps) .busy K' L ++ oA ((L ++ [ints s]).map flL))) 29 (.ref (σ.length + 3) 0 0) (vA (σ.length + 7) ((L ++ [ints s]).map flL)) = some (hE σ n (.fn g [] caps) .busy K' (L ++ [ints s])) := by
      obtain ⟨i, e1, e2⟩ := hone
      have ho : objAt (σ ++ (seven σ.length n (.fn g [] caps) .busy K' L ++ oA ((L ++ [ints s]).map flL))) (σ.length + 3) 0 = some [vA (σ.length + 7) (L.map flL)] := objAt_app rfl
      have hv1 : (vA (σ.length + 7) ((L ++ [ints s]).map flL)).one = true := by cases (L ++ [ints s]).map flL <;> rfl
      have hc : (vA (σ.length + 7) ((L ++ [ints s]).map flL)).cells = [vA (σ.length + 7) ((L ++ [ints s]).map flL)] := by cases (L ++ [ints s]).map flL <;> rfl
      simp only [aStore, e1, ho, e2, hc]
      rw [if_pos ⟨rfl, by simp, by rw [List.all_cons, hv1]; rfl⟩, set_app]
      rfl
    refine (xBody_ok (m := []) names mixed (clokBd (N := σ.length + 3) (v := vA (σ.length + 7) (L.map flL)) (v' := vA (σ.length + 7) ((L ++ [ints s]).map flL)) (h1 := σ ++ (seven σ.length n (.fn g [] caps) .busy K' L ++ oA ((L ++ [ints s]).map flL))) (h2 := hE σ n (.fn g [] caps) .busy K' (L ++ [ints s])) h46) (lpNo bd47) (n := 200) (keep := [])
      (st := stB (σ.length + 2) (σ.length + 3) s (hE σ n (.fn g [] caps) .busy K L)) (st' := st0 (hE σ n (.fn g [] caps) .busy K' (if b = true then L ++ [ints s] else L))) ?_).1
    have g1 : objAt (hE σ n (.fn g [] caps) .busy K L) (σ.length + 2) 0 = some [.fn 67 [] (caps67 σ.length (.fn g [] caps))] := objAt_app rfl
    have g2 : objAt (hE σ n (.fn g [] caps) .busy K' L) (σ.length + 3) 0 = some [vA (σ.length + 7) (L.map flL)] := objAt_app rfl
    rw [runBd, Tree.sel_need g1, Tree.sel_need ⟨rfl, rfl⟩, selI]
    cases b with
    | false => rfl
    | true =>
      rw [cond_true, Tree.sel_need g2, Tree.sel_need ⟨by omega, by omega⟩, Int.toNat_natCast, Tree.sel_need ⟨rfl, rfl, rfl, happ⟩, Tree.sel_need ⟨rfl, rfl, rfl, hsto⟩]
      rfl
end
end Go.Proofs.YtjljigccgaadaaaDoor.Am
