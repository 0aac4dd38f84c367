/-
  This file proves nothing of a law. It holds slice literals, make, slices of slices, append and copy. No condition.
-/
import Derived.Test.YtjljigccgaadaaaDoorAm5
namespace Go.Proofs.YtjljigccgaadaaaDoor.Am
open Go

section
variable {w : World} {M : Map} {P : Program} {G : Nat → Option (List AV)} {σ : Heap}

theorem getElem?_chunk_cell {size n i j : Nat} {xs r : List AV} {x : AV} (hr : (chunk size n xs)[i]? = some r) (hx : r[j]? = some x) : i < n ∧ j < size ∧ xs[i * size + j]? = some x := by
  have hi : i < n := by
    have := (List.getElem?_eq_some_iff.1 hr).1
    rw [chunk_length] at this
    exact this
  rw [chunk_get size n i xs hi] at hr
  cases hr
  have hj : j < size := by
    have := (List.getElem?_eq_some_iff.1 hx).1
    simp at this
    omega
  rw [List.getElem?_take_of_lt hj, List.getElem?_drop] at hx
  exact ⟨hi, hj, hx⟩

theorem aLit_ok {t : TypeId} {len : Nat} {ps : List (Nat × AV)} {vs : Array (Nat × Value)} {y : AV} (hi : Inv G w M σ) (hl : ps.length = vs.size) (hp : ∀ (j : Nat) (p : Nat × AV), ps[j]? = some p → ∃ v, vs.toList[j]? = some (p.1, v) ∧ RV w M v p.2)
    (h : aLit P t len ps = some y) : ∃ v w', (Instr.buildSlice t len vs).run P w = .ok v w' ∧ RV w' M v y ∧ Ext w M w' M ∧ Inv G w' M σ := by
  unfold aLit at h
  split at h
  · rename_i e hu
    split at h
    · rename_i ie zx hie hz
      split at h
      · rename_i hsm
        obtain ⟨z, hz1, hz2⟩ := aZero_ok hz w M
        have hnot : ¬ (len * ie.size > 2 ^ 24) := by omega
        split at h
        · rename_i h0
          subst h0
          split at h
          · rename_i hps
            subst hps
            cases h
            have hvs : vs = #[] := by apply Array.eq_empty_of_size_eq_zero; simpa using hl.symm
            subst hvs
            refine ⟨_, w.alloc (.cells #[] e), ?_, .zs (some ⟨w.heap.size, 0, none⟩), .alloc w M _, hi.alloc _⟩
            simp only [Instr.buildSlice, Sem.run_bind, run_underlying', hu, Result.andThen_ok, run_sizeOf', hie, Nat.zero_mul]
            rw [if_neg (by omega), if_pos trivial]
            have h00 : ∀ z : Array Value, (Array.range 0).map (fun x => z[x % z.size]!) = #[] := fun z => by simp
            simp only [Sem.run_bind, Sem.run_pure, Result.andThen_ok, h00]
            rfl
          · cases h
        · rename_i h0
          cases hf : fillA (fun i => some (i * ie.size, ie.size)) (List.replicate (len * ie.size) .junk) ps with
          | none => rw [hf] at h; cases h
          | some xs =>
            rw [hf] at h
            cases h
            let zc : Array Value := if len * ie.size = 0 then #[] else z.cells
            let cs0 : Array Value := (Array.range (len * ie.size)).map (zc[· % zc.size]!)
            obtain ⟨cs', e1, e2, e3⟩ := fillA_ok (w := w) (M := M) ps vs.toList _ cs0 xs (by simpa using hl) hp ⟨by simp [cs0], fun j x hj => by
              have := (List.mem_replicate.1 (List.mem_of_getElem? hj)).2
              subst this; exact .junk _⟩ hf
            have hsz : cs'.size = len * ie.size := by rw [e3]; simp [cs0]
            have hrun : (Instr.buildSlice t len vs).run P w = .ok (.slice (some ⟨w.heap.size, 0, none⟩) len len) (w.alloc (.cells cs' e)) := by
              simp only [Instr.buildSlice, Sem.run_bind, run_underlying', hu, Result.andThen_ok, run_sizeOf', hie, if_neg hnot]
              simp only [cs0] at e1
              by_cases hc : len * ie.size = 0
              · have hzc : zc = #[] := by simp [zc, hc]
                rw [hzc] at e1
                simp only [if_pos hc, Sem.run_bind, Sem.run_pure, Result.andThen_ok, e1]
                rfl
              · have hzc : zc = z.cells := by simp [zc, hc]
                rw [hzc] at e1
                simp only [if_neg hc, Sem.run_bind, Sem.run_pure, Result.andThen_ok, hz1, e1]
                rfl
            refine ⟨_, _, hrun, ?_, .alloc w M _, hi.alloc _⟩
            have := RV.sl (w := w.alloc (.cells cs' e)) (M := M) w.heap.size 0 len ie.size (fun i j => cs'.getD (i * ie.size + j) undef) (chunk ie.size len xs) (Imm.alloc_new hi _)
              (fun i r j hr hj => by
                have hi' : i < len := by
                  have := (List.getElem?_eq_some_iff.1 hr).1
                  rw [chunk_length] at this
                  exact this
                rw [Nat.zero_add]
                refine cell_of_cells (alloc_new w _) ?_
                rw [hsz]
                calc i * ie.size + j < i * ie.size + ie.size := by omega
                  _ = (i + 1) * ie.size := by rw [Nat.succ_mul]
                  _ ≤ len * ie.size := Nat.mul_le_mul_right _ hi')
              (fun i r hr => by
                have hi' : i < len := by
                  have := (List.getElem?_eq_some_iff.1 hr).1
                  rw [chunk_length] at this
                  exact this
                rw [chunk_get ie.size len i xs hi'] at hr
                cases hr
                have hx : xs.length = len * ie.size := by rw [← e2.1, hsz]
                have : (i + 1) * ie.size ≤ len * ie.size := Nat.mul_le_mul_right _ hi'
                rw [Nat.succ_mul] at this
                simp
                omega)
              (fun i r j x hr hx => (e2.2 _ x (getElem?_chunk_cell hr hx).2.2).mono (.alloc w M _)) (by rw [chunk_length]; exact Nat.le_refl _)
            rw [chunk_length] at this
            exact this
      · cases h
    · cases h
  · cases h

/-! ### make -/
def repl : Nat → List AV → List AV
  | 0, _ => []
  | n + 1, l => l ++ repl n l
theorem repl_length : ∀ (n : Nat) (l : List AV), (repl n l).length = n * l.length
  | 0, _ => by simp [repl]
  | n + 1, l => by rw [repl, List.length_append, repl_length n, Nat.succ_mul, Nat.add_comm]
theorem repl_get : ∀ (n : Nat) (l : List AV) (j : Nat), j < n * l.length → (repl n l)[j]? = l[j % l.length]?
  | 0, _, _, h => by simp at h
  | n + 1, l, j, h => by
    rw [repl]
    by_cases hj : j < l.length
    · rw [List.getElem?_append_left hj, Nat.mod_eq_of_lt hj]
    · rw [List.getElem?_append_right (by omega), repl_get n l _ (by rw [Nat.succ_mul] at h; omega)]
      congr 1
      rw [← Nat.mod_eq_sub_mod (by omega)]

theorem wrap_small {n : Int} (h0 : 0 ≤ n) (h1 : n < 9223372036854775808) : IntKind.i64.wrap n = n := by
  simp [IntKind.wrap, IntKind.signed, IntKind.bits]
  omega

def aMake (P : Program) (σ : Heap) (t : TypeId) (l c : AV) : Option (AV × Heap) :=
  match P.underlying t, l, c with
  | some (.slice e), .int _ l, .int _ c =>
    match P.info? e, aZero P e with
    | some ie, some zx =>
      if 0 ≤ l ∧ l ≤ c ∧ c ≤ 16777216 ∧ ie.bytes ≤ 65536 ∧ zx.cells.length = ie.size ∧ zx.cells.all AV.one = true then
        some (.ms ie.size σ.length 0 0 l.toNat c.toNat, σ ++ [.cells 0 (repl c.toNat zx.cells)])
      else none
    | _, _ => none
  | _, _, _ => none

theorem aMake_ok {t : TypeId} {lv cv : Value} {l c y : AV} {σ' : Heap} (hi : Inv G w M σ) (hl : RV w M lv l) (hc : RV w M cv c) (h : aMake P σ t l c = some (y, σ')) :
    ∃ v w' M', (Instr.makeSlice t lv cv).run P w = .ok v w' ∧ RV w' M' v y ∧ Ext w M w' M' ∧ Inv G w' M' σ' := by
  unfold aMake at h
  split at h
  · rename_i e k l k' c hu
    split at h
    · rename_i ie zx hie hz
      split at h
      · rename_i hcond
        obtain ⟨h0, h1, h2, h3, h4, h5⟩ := hcond
        cases h
        cases hl; cases hc
        obtain ⟨z, hz1, hz2⟩ := aZero_ok hz w M
        obtain ⟨⟨k1, k2⟩, _⟩ := hz2.cells h5
        obtain ⟨ln, rfl⟩ := Int.eq_ofNat_of_zero_le h0
        obtain ⟨cn, rfl⟩ := Int.eq_ofNat_of_zero_le (by omega : (0 : Int) ≤ c)
        have hw1 : IntKind.i64.wrap (ln : Int) = ln := wrap_small (by omega) (by omega)
        have hw2 : IntKind.i64.wrap (cn : Int) = cn := wrap_small (by omega) (by omega)
        have hbytes : ie.bytes * cn ≤ 65536 * 16777216 := Nat.mul_le_mul h3 (by omega)
        let zc : Array Value := if cn * ie.size = 0 then #[] else z.cells
        let cs : Array Value := (Array.range (cn * ie.size)).map (zc[· % zc.size]!)
        have he := Ext.push hi (.cells cs e)
        have hrun : (Instr.makeSlice t (.int k ln) (.int k' cn)).run P w = .ok (.slice (some ⟨w.heap.size, 0, none⟩) ln cn) (w.alloc (.cells cs e)) := by
          have ht2 : ((cn : Int) < 0 || decide ((ie.bytes : Int) * cn > 2 ^ 48) || (ln : Int) < 0 || (ln : Int) > cn) = false := by
            have : ((ie.bytes * cn : Nat) : Int) = (ie.bytes : Int) * cn := by simp
            simp
            omega
          simp only [Instr.makeSlice, Sem.run_bind, run_underlying', hu, Result.andThen_ok, asInt, asIntOf, Sem.run_pure, run_typeInfo', hie, hw1, hw2, Int.toNat_natCast]
          rw [if_neg (by simpa using ht2)]
          simp only [Sem.run_bind, run_askRoom, Result.andThen_ok, run_sizeOf', hie]
          by_cases hc : cn * ie.size = 0
          · have hzc : zc = #[] := by simp [zc, hc]
            simp only [cs, hzc, if_pos hc, Sem.run_bind, Sem.run_pure, Result.andThen_ok]
            rfl
          · have hzc : zc = z.cells := by simp [zc, hc]
            simp only [cs, hzc, if_neg hc, Sem.run_bind, Sem.run_pure, Result.andThen_ok, hz1]
            rfl
        refine ⟨_, _, _, hrun, ?_, he, ?_⟩
        · simp only [Int.toNat_natCast]
          exact .ms ie.size σ.length 0 0 ln cn w.heap.size cn cs e (Map.put_same _ _ _) (by omega) (Nat.le_refl _) (alloc_new w _) (by simp [cs])
        · refine hi.push ⟨w.heap.size, cs, e, Map.put_same _ _ _, alloc_new w _, by rw [repl_length, h4]; simp [cs], fun j x hj => ?_⟩
          have hj' : j < cn * ie.size := by
            have := (List.getElem?_eq_some_iff.1 hj).1
            rw [repl_length, h4] at this
            simpa using this
          have hne : cn * ie.size ≠ 0 := by omega
          rw [repl_get _ _ _ (by rw [h4]; simpa using hj'), h4] at hj
          have hlt : j % ie.size < ie.size := Nat.mod_lt _ (by
            rcases Nat.eq_zero_or_pos ie.size with hs | hs
            · rw [hs] at hj'; simp at hj'
            · exact hs)
          have hzs : z.cells.size = ie.size := k1.trans h4
          have hgd : cs.getD j undef = z.cells.getD (j % ie.size) undef := by
            simp [cs, zc, hne, Array.getD, hj', hzs, hlt, getElem!_pos]
          rw [hgd]
          exact (k2 _ x hj).mono he
      · cases h
    · cases h
  · cases h
end
end Go.Proofs.YtjljigccgaadaaaDoor.Am
