/-
  This file proves nothing of a law. It holds lemmas, of 10 texts in their order. No condition of its own.
-/
import Derived.Test.YtngaihdpmoajeaaMg10
namespace Go.Proofs.Ytngaihdpmoajeaa.Am
open Go
set_option maxRecDepth 100000

theorem run18C (g : Prop) (x : Pz) (V : List Int) (C : List (List Int)) (v v' : AV) (r r' : AObj) (k : Int) (U : List Int) (W : List (List Int)) (at2 : Int) : xBodyMT (E18C g (dm18 x k) (mm18 x k) U W v v' r r') (mv18 (hC V C v r .resv .resv .resv) (dm18 x k) (mm18 x k)) 200 (lpB 24 keepD (stD x V C v r k (dm18 x k) (mm18 x k) .zs .zs .resv .resv 0 0) (.exit 6) (stD x V C v r k (dm18 x k) (mm18 x k) (flL U) (flLL W) .resv .resv at2 V.length)) keepC 8 body18C (stC x V C v r k) = .ite (decide (k < (↑x.R.length : Int))) (.ite (decide (k < (6 : Int))) (.need ([AObj.resv, AObj.resv, r, AObj.resv, AObj.resv, AObj.resv, (AObj.cells (0 : Nat) [AV.zs, AV.zs, AV.zs]), (AObj.cells (0 : Nat) [(flL (V)), (flLL (C)), v])] = [AObj.resv, AObj.resv, r, AObj.resv, AObj.resv, AObj.resv, (AObj.cells (0 : Nat) [AV.zs, AV.zs, AV.zs]), (AObj.cells (0 : Nat) [(flL (V)), (flLL (C)), v])]) (.need ([AObj.resv, AObj.resv, r, AObj.resv, AObj.resv, AObj.resv, (AObj.cells (0 : Nat) [AV.zs, AV.zs, AV.zs]), (AObj.cells (0 : Nat) [(flL (V)), (flLL (C)), v])] = [AObj.resv, AObj.resv, r, AObj.resv, AObj.resv, AObj.resv, (AObj.cells (0 : Nat) [AV.zs, AV.zs, AV.zs]), (AObj.cells (0 : Nat) [(flL (V)), (flLL (C)), v])]) (.need (((AV.row [(flB (x.V)), (flB (x.C)), (flC (x.R))] (2 : Nat)) = (AV.row [(flB (x.V)), (flB (x.C)), (flC (x.R))] (2 : Nat))) ∧ ([AObj.resv, AObj.resv, r, AObj.resv, AObj.resv, AObj.resv, (AObj.cells (0 : Nat) [AV.zs, AV.zs, AV.zs]), (AObj.cells (0 : Nat) [(flL (V)), (flLL (C)), v]), (AObj.cells (0 : Nat) [(I ((0 : Int))), AV.zs, AV.zs, (I ((0 : Int)))])] = [AObj.resv, AObj.resv, r, AObj.resv, AObj.resv, AObj.resv, (AObj.cells (0 : Nat) [AV.zs, AV.zs, AV.zs]), (AObj.cells (0 : Nat) [(flL (V)), (flLL (C)), v]), (AObj.cells (0 : Nat) [(I ((0 : Int))), AV.zs, AV.zs, (I ((0 : Int)))])])) (.need ([AObj.resv, AObj.resv, r, AObj.resv, AObj.resv, AObj.resv, (AObj.cells (0 : Nat) [AV.zs, AV.zs, AV.zs]), (AObj.cells (0 : Nat) [(flL (V)), (flLL (C)), v])] = [AObj.resv, AObj.resv, r, AObj.resv, AObj.resv, AObj.resv, (AObj.cells (0 : Nat) [AV.zs, AV.zs, AV.zs]), (AObj.cells (0 : Nat) [(flL (V)), (flLL (C)), v])]) (.need (((flC (x.R)) = (flC (x.R))) ∧ ([AObj.resv, AObj.resv, r, AObj.resv, AObj.resv, AObj.resv, (AObj.cells (0 : Nat) [AV.zs, AV.zs, AV.zs]), (AObj.cells (0 : Nat) [(flL (V)), (flLL (C)), v]), (AObj.cells (0 : Nat) [(I ((0 : Int))), AV.zs, AV.zs, (I ((0 : Int)))])] = [AObj.resv, AObj.resv, r, AObj.resv, AObj.resv, AObj.resv, (AObj.cells (0 : Nat) [AV.zs, AV.zs, AV.zs]), (AObj.cells (0 : Nat) [(flL (V)), (flLL (C)), v]), (AObj.cells (0 : Nat) [(I ((0 : Int))), AV.zs, AV.zs, (I ((0 : Int)))])])) (.need ([AObj.resv, AObj.resv, r, AObj.resv, AObj.resv, AObj.resv, (AObj.cells (0 : Nat) [AV.zs, AV.zs, AV.zs]), (AObj.cells (0 : Nat) [(flL (V)), (flLL (C)), v])] = [AObj.resv, AObj.resv, r, AObj.resv, AObj.resv, AObj.resv, (AObj.cells (0 : Nat) [AV.zs, AV.zs, AV.zs]), (AObj.cells (0 : Nat) [(flL (V)), (flLL (C)), v])]) (.need (((I k) = (I k)) ∧ ([AObj.resv, AObj.resv, r, AObj.resv, AObj.resv, AObj.resv, (AObj.cells (0 : Nat) [AV.zs, AV.zs, AV.zs]), (AObj.cells (0 : Nat) [(flL (V)), (flLL (C)), v]), (AObj.cells (0 : Nat) [(I ((0 : Int))), AV.zs, AV.zs, (I ((0 : Int)))])] = [AObj.resv, AObj.resv, r, AObj.resv, AObj.resv, AObj.resv, (AObj.cells (0 : Nat) [AV.zs, AV.zs, AV.zs]), (AObj.cells (0 : Nat) [(flL (V)), (flLL (C)), v]), (AObj.cells (0 : Nat) [(I ((0 : Int))), AV.zs, AV.zs, (I ((0 : Int)))])])) (.need (((0 : Int) ≤ k) ∧ (k < (↑x.R.length : Int))) (.need ([AObj.resv, AObj.resv, r, AObj.resv, AObj.resv, AObj.resv, (AObj.cells (0 : Nat) [AV.zs, AV.zs, AV.zs]), (AObj.cells (0 : Nat) [(flL (V)), (flLL (C)), v])] = [AObj.resv, AObj.resv, r, AObj.resv, AObj.resv, AObj.resv, (AObj.cells (0 : Nat) [AV.zs, AV.zs, AV.zs]), (AObj.cells (0 : Nat) [(flL (V)), (flLL (C)), v])]) (.need (((0 : Int) ≤ k) ∧ (k < (↑x.R.length : Int))) (.need (((AV.row [(AV.int IntKind.u8 ((x.R.getD k.toNat c0).d)), (AV.int IntKind.u8 ((x.R.getD k.toNat c0).u)), (flT ((x.R.getD k.toNat c0).w)), (AV.int IntKind.i8 ((x.R.getD k.toNat c0).m))] (0 : Nat)) = (AV.row [(AV.int IntKind.u8 ((x.R.getD k.toNat c0).d)), (AV.int IntKind.u8 ((x.R.getD k.toNat c0).u)), (flT ((x.R.getD k.toNat c0).w)), (AV.int IntKind.i8 ((x.R.getD k.toNat c0).m))] (0 : Nat))) ∧ ([AObj.resv, AObj.resv, r, AObj.resv, AObj.resv, AObj.resv, (AObj.cells (0 : Nat) [AV.zs, AV.zs, AV.zs]), (AObj.cells (0 : Nat) [(flL (V)), (flLL (C)), v]), (AObj.cells (0 : Nat) [(I ((0 : Int))), AV.zs, AV.zs, (I ((0 : Int)))])] = [AObj.resv, AObj.resv, r, AObj.resv, AObj.resv, AObj.resv, (AObj.cells (0 : Nat) [AV.zs, AV.zs, AV.zs]), (AObj.cells (0 : Nat) [(flL (V)), (flLL (C)), v]), (AObj.cells (0 : Nat) [(I ((0 : Int))), AV.zs, AV.zs, (I ((0 : Int)))])])) (.need ([AObj.resv, AObj.resv, r, AObj.resv, AObj.resv, AObj.resv, (AObj.cells (0 : Nat) [AV.zs, AV.zs, AV.zs]), (AObj.cells (0 : Nat) [(flL (V)), (flLL (C)), v])] = [AObj.resv, AObj.resv, r, AObj.resv, AObj.resv, AObj.resv, (AObj.cells (0 : Nat) [AV.zs, AV.zs, AV.zs]), (AObj.cells (0 : Nat) [(flL (V)), (flLL (C)), v])]) (.need (((AV.row [(AV.int IntKind.u8 ((x.R.getD k.toNat c0).d)), (AV.int IntKind.u8 ((x.R.getD k.toNat c0).u)), (flT ((x.R.getD k.toNat c0).w)), (AV.int IntKind.i8 ((x.R.getD k.toNat c0).m))] (0 : Nat)) = (AV.row [(AV.int IntKind.u8 ((x.R.getD k.toNat c0).d)), (AV.int IntKind.u8 ((x.R.getD k.toNat c0).u)), (flT ((x.R.getD k.toNat c0).w)), (AV.int IntKind.i8 ((x.R.getD k.toNat c0).m))] (0 : Nat))) ∧ ([AObj.resv, AObj.resv, r, AObj.resv, AObj.resv, AObj.resv, (AObj.cells (0 : Nat) [AV.zs, AV.zs, AV.zs]), (AObj.cells (0 : Nat) [(flL (V)), (flLL (C)), v]), (AObj.cells (0 : Nat) [(I ((0 : Int))), AV.zs, AV.zs, (I ((0 : Int)))])] = [AObj.resv, AObj.resv, r, AObj.resv, AObj.resv, AObj.resv, (AObj.cells (0 : Nat) [AV.zs, AV.zs, AV.zs]), (AObj.cells (0 : Nat) [(flL (V)), (flLL (C)), v]), (AObj.cells (0 : Nat) [(I ((0 : Int))), AV.zs, AV.zs, (I ((0 : Int)))])])) (.need ([AObj.resv, AObj.resv, r, AObj.resv, AObj.resv, AObj.resv, (AObj.cells (0 : Nat) [AV.zs, AV.zs, AV.zs]), (AObj.cells (0 : Nat) [(flL (V)), (flLL (C)), v])] = [AObj.resv, AObj.resv, r, AObj.resv, AObj.resv, AObj.resv, (AObj.cells (0 : Nat) [AV.zs, AV.zs, AV.zs]), (AObj.cells (0 : Nat) [(flL (V)), (flLL (C)), v])]) (.need (((AV.int IntKind.u8 ((x.R.getD k.toNat c0).d)) = (AV.int IntKind.u8 ((x.R.getD k.toNat c0).d))) ∧ ([AObj.resv, AObj.resv, r, AObj.resv, AObj.resv, AObj.resv, (AObj.cells (0 : Nat) [AV.zs, AV.zs, AV.zs]), (AObj.cells (0 : Nat) [(flL (V)), (flLL (C)), v]), (AObj.cells (0 : Nat) [(I ((0 : Int))), AV.zs, AV.zs, (I ((0 : Int)))])] = [AObj.resv, AObj.resv, r, AObj.resv, AObj.resv, AObj.resv, (AObj.cells (0 : Nat) [AV.zs, AV.zs, AV.zs]), (AObj.cells (0 : Nat) [(flL (V)), (flLL (C)), v]), (AObj.cells (0 : Nat) [(I ((0 : Int))), AV.zs, AV.zs, (I ((0 : Int)))])])) (.need ([AObj.resv, AObj.resv, r, AObj.resv, AObj.resv, AObj.resv, (AObj.cells (0 : Nat) [AV.zs, AV.zs, AV.zs]), (AObj.cells (0 : Nat) [(flL (V)), (flLL (C)), v])] = [AObj.resv, AObj.resv, r, AObj.resv, AObj.resv, AObj.resv, (AObj.cells (0 : Nat) [AV.zs, AV.zs, AV.zs]), (AObj.cells (0 : Nat) [(flL (V)), (flLL (C)), v])]) (.need (((I (IntKind.i64.wrap (x.R.getD k.toNat c0).d)) = (I (IntKind.i64.wrap (x.R.getD k.toNat c0).d))) ∧ ([AObj.resv, AObj.resv, r, AObj.resv, AObj.resv, AObj.resv, (AObj.cells (0 : Nat) [AV.zs, AV.zs, AV.zs]), (AObj.cells (0 : Nat) [(flL (V)), (flLL (C)), v]), (AObj.cells (0 : Nat) [(I ((0 : Int))), AV.zs, AV.zs, (I ((0 : Int)))])] = [AObj.resv, AObj.resv, r, AObj.resv, AObj.resv, AObj.resv, (AObj.cells (0 : Nat) [AV.zs, AV.zs, AV.zs]), (AObj.cells (0 : Nat) [(flL (V)), (flLL (C)), v]), (AObj.cells (0 : Nat) [(I ((0 : Int))), AV.zs, AV.zs, (I ((0 : Int)))])])) (.need ([AObj.resv, AObj.resv, r, AObj.resv, AObj.resv, AObj.resv, (AObj.cells (0 : Nat) [AV.zs, AV.zs, AV.zs]), (AObj.cells (0 : Nat) [(flL (V)), (flLL (C)), v])] = [AObj.resv, AObj.resv, r, AObj.resv, AObj.resv, AObj.resv, (AObj.cells (0 : Nat) [AV.zs, AV.zs, AV.zs]), (AObj.cells (0 : Nat) [(flL (V)), (flLL (C)), v])]) (.need (((AV.row [(flB (x.V)), (flB (x.C)), (flC (x.R))] (2 : Nat)) = (AV.row [(flB (x.V)), (flB (x.C)), (flC (x.R))] (2 : Nat))) ∧ ([AObj.resv, AObj.resv, r, AObj.resv, AObj.resv, AObj.resv, (AObj.cells (0 : Nat) [AV.zs, AV.zs, AV.zs]), (AObj.cells (0 : Nat) [(flL (V)), (flLL (C)), v]), (AObj.cells (0 : Nat) [(I ((0 : Int))), AV.zs, AV.zs, (I ((0 : Int)))])] = [AObj.resv, AObj.resv, r, AObj.resv, AObj.resv, AObj.resv, (AObj.cells (0 : Nat) [AV.zs, AV.zs, AV.zs]), (AObj.cells (0 : Nat) [(flL (V)), (flLL (C)), v]), (AObj.cells (0 : Nat) [(I ((0 : Int))), AV.zs, AV.zs, (I ((0 : Int)))])])) (.need ([AObj.resv, AObj.resv, r, AObj.resv, AObj.resv, AObj.resv, (AObj.cells (0 : Nat) [AV.zs, AV.zs, AV.zs]), (AObj.cells (0 : Nat) [(flL (V)), (flLL (C)), v])] = [AObj.resv, AObj.resv, r, AObj.resv, AObj.resv, AObj.resv, (AObj.cells (0 : Nat) [AV.zs, AV.zs, AV.zs]), (AObj.cells (0 : Nat) [(flL (V)), (flLL (C)), v])]) (.need (((flC (x.R)) = (flC (x.R))) ∧ ([AObj.resv, AObj.resv, r, AObj.resv, AObj.resv, AObj.resv, (AObj.cells (0 : Nat) [AV.zs, AV.zs, AV.zs]), (AObj.cells (0 : Nat) [(flL (V)), (flLL (C)), v]), (AObj.cells (0 : Nat) [(I ((0 : Int))), AV.zs, AV.zs, (I ((0 : Int)))])] = [AObj.resv, AObj.resv, r, AObj.resv, AObj.resv, AObj.resv, (AObj.cells (0 : Nat) [AV.zs, AV.zs, AV.zs]), (AObj.cells (0 : Nat) [(flL (V)), (flLL (C)), v]), (AObj.cells (0 : Nat) [(I ((0 : Int))), AV.zs, AV.zs, (I ((0 : Int)))])])) (.need ([AObj.resv, AObj.resv, r, AObj.resv, AObj.resv, AObj.resv, (AObj.cells (0 : Nat) [AV.zs, AV.zs, AV.zs]), (AObj.cells (0 : Nat) [(flL (V)), (flLL (C)), v])] = [AObj.resv, AObj.resv, r, AObj.resv, AObj.resv, AObj.resv, (AObj.cells (0 : Nat) [AV.zs, AV.zs, AV.zs]), (AObj.cells (0 : Nat) [(flL (V)), (flLL (C)), v])]) (.need (((I k) = (I k)) ∧ ([AObj.resv, AObj.resv, r, AObj.resv, AObj.resv, AObj.resv, (AObj.cells (0 : Nat) [AV.zs, AV.zs, AV.zs]), (AObj.cells (0 : Nat) [(flL (V)), (flLL (C)), v]), (AObj.cells (0 : Nat) [(I ((0 : Int))), AV.zs, AV.zs, (I ((0 : Int)))])] = [AObj.resv, AObj.resv, r, AObj.resv, AObj.resv, AObj.resv, (AObj.cells (0 : Nat) [AV.zs, AV.zs, AV.zs]), (AObj.cells (0 : Nat) [(flL (V)), (flLL (C)), v]), (AObj.cells (0 : Nat) [(I ((0 : Int))), AV.zs, AV.zs, (I ((0 : Int)))])])) (.need (((0 : Int) ≤ k) ∧ (k < (↑x.R.length : Int))) (.need ([AObj.resv, AObj.resv, r, AObj.resv, AObj.resv, AObj.resv, (AObj.cells (0 : Nat) [AV.zs, AV.zs, AV.zs]), (AObj.cells (0 : Nat) [(flL (V)), (flLL (C)), v])] = [AObj.resv, AObj.resv, r, AObj.resv, AObj.resv, AObj.resv, (AObj.cells (0 : Nat) [AV.zs, AV.zs, AV.zs]), (AObj.cells (0 : Nat) [(flL (V)), (flLL (C)), v])]) (.need (((0 : Int) ≤ k) ∧ (k < (↑x.R.length : Int))) (.need (((AV.row [(AV.int IntKind.u8 ((x.R.getD k.toNat c0).d)), (AV.int IntKind.u8 ((x.R.getD k.toNat c0).u)), (flT ((x.R.getD k.toNat c0).w)), (AV.int IntKind.i8 ((x.R.getD k.toNat c0).m))] (0 : Nat)) = (AV.row [(AV.int IntKind.u8 ((x.R.getD k.toNat c0).d)), (AV.int IntKind.u8 ((x.R.getD k.toNat c0).u)), (flT ((x.R.getD k.toNat c0).w)), (AV.int IntKind.i8 ((x.R.getD k.toNat c0).m))] (0 : Nat))) ∧ ([AObj.resv, AObj.resv, r, AObj.resv, AObj.resv, AObj.resv, (AObj.cells (0 : Nat) [AV.zs, AV.zs, AV.zs]), (AObj.cells (0 : Nat) [(flL (V)), (flLL (C)), v]), (AObj.cells (0 : Nat) [(I ((0 : Int))), AV.zs, AV.zs, (I ((0 : Int)))])] = [AObj.resv, AObj.resv, r, AObj.resv, AObj.resv, AObj.resv, (AObj.cells (0 : Nat) [AV.zs, AV.zs, AV.zs]), (AObj.cells (0 : Nat) [(flL (V)), (flLL (C)), v]), (AObj.cells (0 : Nat) [(I ((0 : Int))), AV.zs, AV.zs, (I ((0 : Int)))])])) (.need ([AObj.resv, AObj.resv, r, AObj.resv, AObj.resv, AObj.resv, (AObj.cells (0 : Nat) [AV.zs, AV.zs, AV.zs]), (AObj.cells (0 : Nat) [(flL (V)), (flLL (C)), v])] = [AObj.resv, AObj.resv, r, AObj.resv, AObj.resv, AObj.resv, (AObj.cells (0 : Nat) [AV.zs, AV.zs, AV.zs]), (AObj.cells (0 : Nat) [(flL (V)), (flLL (C)), v])]) (.need (((AV.row [(AV.int IntKind.u8 ((x.R.getD k.toNat c0).d)), (AV.int IntKind.u8 ((x.R.getD k.toNat c0).u)), (flT ((x.R.getD k.toNat c0).w)), (AV.int IntKind.i8 ((x.R.getD k.toNat c0).m))] (3 : Nat)) = (AV.row [(AV.int IntKind.u8 ((x.R.getD k.toNat c0).d)), (AV.int IntKind.u8 ((x.R.getD k.toNat c0).u)), (flT ((x.R.getD k.toNat c0).w)), (AV.int IntKind.i8 ((x.R.getD k.toNat c0).m))] (3 : Nat))) ∧ ([AObj.resv, AObj.resv, r, AObj.resv, AObj.resv, AObj.resv, (AObj.cells (0 : Nat) [AV.zs, AV.zs, AV.zs]), (AObj.cells (0 : Nat) [(flL (V)), (flLL (C)), v]), (AObj.cells (0 : Nat) [(I ((0 : Int))), AV.zs, AV.zs, (I ((0 : Int)))])] = [AObj.resv, AObj.resv, r, AObj.resv, AObj.resv, AObj.resv, (AObj.cells (0 : Nat) [AV.zs, AV.zs, AV.zs]), (AObj.cells (0 : Nat) [(flL (V)), (flLL (C)), v]), (AObj.cells (0 : Nat) [(I ((0 : Int))), AV.zs, AV.zs, (I ((0 : Int)))])])) (.need ([AObj.resv, AObj.resv, r, AObj.resv, AObj.resv, AObj.resv, (AObj.cells (0 : Nat) [AV.zs, AV.zs, AV.zs]), (AObj.cells (0 : Nat) [(flL (V)), (flLL (C)), v])] = [AObj.resv, AObj.resv, r, AObj.resv, AObj.resv, AObj.resv, (AObj.cells (0 : Nat) [AV.zs, AV.zs, AV.zs]), (AObj.cells (0 : Nat) [(flL (V)), (flLL (C)), v])]) (.need (((AV.int IntKind.i8 ((x.R.getD k.toNat c0).m)) = (AV.int IntKind.i8 ((x.R.getD k.toNat c0).m))) ∧ ([AObj.resv, AObj.resv, r, AObj.resv, AObj.resv, AObj.resv, (AObj.cells (0 : Nat) [AV.zs, AV.zs, AV.zs]), (AObj.cells (0 : Nat) [(flL (V)), (flLL (C)), v]), (AObj.cells (0 : Nat) [(I ((0 : Int))), AV.zs, AV.zs, (I ((0 : Int)))])] = [AObj.resv, AObj.resv, r, AObj.resv, AObj.resv, AObj.resv, (AObj.cells (0 : Nat) [AV.zs, AV.zs, AV.zs]), (AObj.cells (0 : Nat) [(flL (V)), (flLL (C)), v]), (AObj.cells (0 : Nat) [(I ((0 : Int))), AV.zs, AV.zs, (I ((0 : Int)))])])) (.need ([AObj.resv, AObj.resv, r, AObj.resv, AObj.resv, AObj.resv, (AObj.cells (0 : Nat) [AV.zs, AV.zs, AV.zs]), (AObj.cells (0 : Nat) [(flL (V)), (flLL (C)), v])] = [AObj.resv, AObj.resv, r, AObj.resv, AObj.resv, AObj.resv, (AObj.cells (0 : Nat) [AV.zs, AV.zs, AV.zs]), (AObj.cells (0 : Nat) [(flL (V)), (flLL (C)), v])]) (.need (((I (IntKind.i64.wrap (x.R.getD k.toNat c0).m)) = (I (IntKind.i64.wrap (x.R.getD k.toNat c0).m))) ∧ ([AObj.resv, AObj.resv, r, AObj.resv, AObj.resv, AObj.resv, (AObj.cells (0 : Nat) [AV.zs, AV.zs, AV.zs]), (AObj.cells (0 : Nat) [(flL (V)), (flLL (C)), v]), (AObj.cells (0 : Nat) [(I ((0 : Int))), AV.zs, AV.zs, (I ((0 : Int)))])] = [AObj.resv, AObj.resv, r, AObj.resv, AObj.resv, AObj.resv, (AObj.cells (0 : Nat) [AV.zs, AV.zs, AV.zs]), (AObj.cells (0 : Nat) [(flL (V)), (flLL (C)), v]), (AObj.cells (0 : Nat) [(I ((0 : Int))), AV.zs, AV.zs, (I ((0 : Int)))])])) (.need ([AObj.resv, AObj.resv, r, AObj.resv, AObj.resv, AObj.resv, (AObj.cells (0 : Nat) [AV.zs, AV.zs, AV.zs]), (AObj.cells (0 : Nat) [(flL (V)), (flLL (C)), v])] = [AObj.resv, AObj.resv, r, AObj.resv, AObj.resv, AObj.resv, (AObj.cells (0 : Nat) [AV.zs, AV.zs, AV.zs]), (AObj.cells (0 : Nat) [(flL (V)), (flLL (C)), v])]) (.need (((AV.agg (setL (setL [(I ((0 : Int))), AV.zs, AV.zs, (I ((0 : Int)))] (0 : Nat) [(I (IntKind.i64.wrap (x.R.getD k.toNat c0).d))]) (3 : Nat) [(I (IntKind.i64.wrap (x.R.getD k.toNat c0).m))])) = (AV.agg (setL (setL [(I ((0 : Int))), AV.zs, AV.zs, (I ((0 : Int)))] (0 : Nat) [(I (IntKind.i64.wrap (x.R.getD k.toNat c0).d))]) (3 : Nat) [(I (IntKind.i64.wrap (x.R.getD k.toNat c0).m))]))) ∧ ([AObj.resv, AObj.resv, r, AObj.resv, AObj.resv, AObj.resv, (AObj.cells (0 : Nat) [AV.zs, AV.zs, AV.zs]), (AObj.cells (0 : Nat) [(flL (V)), (flLL (C)), v]), (AObj.cells (0 : Nat) [(I ((0 : Int))), AV.zs, AV.zs, (I ((0 : Int)))])] = [AObj.resv, AObj.resv, r, AObj.resv, AObj.resv, AObj.resv, (AObj.cells (0 : Nat) [AV.zs, AV.zs, AV.zs]), (AObj.cells (0 : Nat) [(flL (V)), (flLL (C)), v]), (AObj.cells (0 : Nat) [(I ((0 : Int))), AV.zs, AV.zs, (I ((0 : Int)))])])) (.need ([AObj.resv, AObj.resv, r, AObj.resv, AObj.resv, AObj.resv, (AObj.cells (0 : Nat) [AV.zs, AV.zs, AV.zs]), (AObj.cells (0 : Nat) [(flL (V)), (flLL (C)), v]), (AObj.cells (0 : Nat) [(I ((0 : Int))), AV.zs, AV.zs, (I ((0 : Int)))])] = [AObj.resv, AObj.resv, r, AObj.resv, AObj.resv, AObj.resv, (AObj.cells (0 : Nat) [AV.zs, AV.zs, AV.zs]), (AObj.cells (0 : Nat) [(flL (V)), (flLL (C)), v]), (AObj.cells (0 : Nat) [(I ((0 : Int))), AV.zs, AV.zs, (I ((0 : Int)))])]) (.need (((Option.some (4 : Nat)) = (Option.some (4 : Nat))) ∧ ((true = true) ∧ ((4 : Nat) ≤ (4 : Nat)))) (.need ([AObj.resv, AObj.resv, r, AObj.resv, AObj.resv, AObj.resv, (AObj.cells (0 : Nat) [AV.zs, AV.zs, AV.zs]), (AObj.cells (0 : Nat) [(flL (V)), (flLL (C)), v]), (AObj.cells (0 : Nat) (setL [(I ((0 : Int))), AV.zs, AV.zs, (I ((0 : Int)))] (0 : Nat) (setL (setL [(I ((0 : Int))), AV.zs, AV.zs, (I ((0 : Int)))] (0 : Nat) [(I (IntKind.i64.wrap (x.R.getD k.toNat c0).d))]) (3 : Nat) [(I (IntKind.i64.wrap (x.R.getD k.toNat c0).m))])))] = [AObj.resv, AObj.resv, r, AObj.resv, AObj.resv, AObj.resv, (AObj.cells (0 : Nat) [AV.zs, AV.zs, AV.zs]), (AObj.cells (0 : Nat) [(flL (V)), (flLL (C)), v]), (AObj.cells (0 : Nat) [(I (dm18 x k)), AV.zs, AV.zs, (I (mm18 x k))])]) (.need ((stD x V C v r k (dm18 x k) (mm18 x k) .zs .zs .resv .resv 0 0).vals = (stD x V C v r k (dm18 x k) (mm18 x k) .zs .zs .resv .resv 0 0).vals) (.need (((Option.some [v, (AV.sl (4 : Nat) [[(I (dm18 x k)), (flL (U)), (flLL (W)), (I (mm18 x k))]])]) = (Option.some [v, (AV.sl (4 : Nat) [[(I (dm18 x k)), (flL (U)), (flLL (W)), (I (mm18 x k))]])])) ∧ (((Option.some r) = (Option.some r)) ∧ (g))) (.need (((AV.one v') = true) ∧ ((2 : Nat) < (3 : Nat))) (.leaf (Exit.normal, St.of 162 [AObj.resv, AObj.resv, r', AObj.resv, AObj.resv, AObj.resv, (AObj.cells (0 : Nat) [AV.zs, AV.zs, AV.zs]), (AObj.cells (0 : Nat) (setL [(flL (V)), (flLL (C)), v] (2 : Nat) [v']))] [(1, (AV.row [(flB (x.V)), (flB (x.C)), (flC (x.R))] (0 : Nat)), true), (2, (AV.ref (6 : Nat) (0 : Nat) (0 : Nat)), true), (3, (AV.ref (7 : Nat) (0 : Nat) (0 : Nat)), true), (9, (I (IntKind.i64.wrap (k + (1 : Int)))), true)]))))))))))))))))))))))))))))))))))))))))))) (.leaf ((Exit.exit (4 : Nat)), St.of 162 [AObj.resv, AObj.resv, r, AObj.resv, AObj.resv, AObj.resv, (AObj.cells (0 : Nat) [AV.zs, AV.zs, AV.zs]), (AObj.cells (0 : Nat) [(flL (V)), (flLL (C)), v])] [(1, (AV.row [(flB (x.V)), (flB (x.C)), (flC (x.R))] (0 : Nat)), true), (2, (AV.ref (6 : Nat) (0 : Nat) (0 : Nat)), true), (3, (AV.ref (7 : Nat) (0 : Nat) (0 : Nat)), true), (9, (I k), true)]))) (.leaf ((Exit.exit (4 : Nat)), St.of 162 [AObj.resv, AObj.resv, r, AObj.resv, AObj.resv, AObj.resv, (AObj.cells (0 : Nat) [AV.zs, AV.zs, AV.zs]), (AObj.cells (0 : Nat) [(flL (V)), (flLL (C)), v])] [(1, (AV.row [(flB (x.V)), (flB (x.C)), (flC (x.R))] (0 : Nat)), true), (2, (AV.ref (6 : Nat) (0 : Nat) (0 : Nat)), true), (3, (AV.ref (7 : Nat) (0 : Nat) (0 : Nat)), true), (9, (I k), true)])) := by kernel_rfl
theorem run18Ce (x : Pz) (V : List Int) (C : List (List Int)) (v : AV) (r : AObj) (k : Int) : xBodyT { boxRow := false } 200 (lpF 24 keepD (stD x V C v r k 0 0 .zs .zs .resv .resv 0 0)) keepC 8 body18C (stC x V C v r k) = .ite (decide (k < (↑x.R.length : Int))) (.ite (decide (k < (6 : Int))) (.need (((0 : Int) ≤ k) ∧ (k < (↑x.R.length : Int))) (.need (((0 : Int) ≤ k) ∧ (k < (↑x.R.length : Int))) .fail)) (.leaf ((Exit.exit (4 : Nat)), St.of 162 [AObj.resv, AObj.resv, r, AObj.resv, AObj.resv, AObj.resv, (AObj.cells (0 : Nat) [AV.zs, AV.zs, AV.zs]), (AObj.cells (0 : Nat) [(flL (V)), (flLL (C)), v])] [(1, (AV.row [(flB (x.V)), (flB (x.C)), (flC (x.R))] (0 : Nat)), true), (2, (AV.ref (6 : Nat) (0 : Nat) (0 : Nat)), true), (3, (AV.ref (7 : Nat) (0 : Nat) (0 : Nat)), true), (9, (I k), true)]))) (.leaf ((Exit.exit (4 : Nat)), St.of 162 [AObj.resv, AObj.resv, r, AObj.resv, AObj.resv, AObj.resv, (AObj.cells (0 : Nat) [AV.zs, AV.zs, AV.zs]), (AObj.cells (0 : Nat) [(flL (V)), (flLL (C)), v])] [(1, (AV.row [(flB (x.V)), (flB (x.C)), (flC (x.R))] (0 : Nat)), true), (2, (AV.ref (6 : Nat) (0 : Nat) (0 : Nat)), true), (3, (AV.ref (7 : Nat) (0 : Nat) (0 : Nat)), true), (9, (I k), true)])) := by kernel_rfl
end Go.Proofs.Ytngaihdpmoajeaa.Am

namespace Go.Proofs.Ytngaihdpmoajeaa.Am
open Go
set_option maxRecDepth 100000

def D01 : Nat → Bool := fun q => Nat.blt q 2
def D45 : Nat → Bool := fun q => Nat.beq q 4 || Nat.beq q 5
theorem only_zPb {P : Nat → Prop} : ∀ y ∈ zPb, Only P y := fun y hy => by
  simp only [zPb, List.mem_cons, List.not_mem_nil, or_false] at hy
  rcases hy with rfl | rfl | rfl <;> exact .zs
theorem exec18A {x : Pz} (hx : x.ok) : AExec Try.prog G0 (fun r => r = none) (.loop body18A) { tmps := (stA x .zs .resv .zs .resv 0 0).a } (hA .zs .resv .zs .resv .resv) (.exit 0)
    { tmps := (St.of 162 (hC (valsM x (N18 x)) (costsM x (N18 x)) .zs .resv .resv .resv .resv) [(1, .row (pzC x) 0, true), (2, .ref 6 0 0, true), (3, .ref 7 0 0, true), (4, I (ofs x (N18 x) : Nat), true), (5, I (N18 x), true)]).a } (hC (valsM x (N18 x)) (costsM x (N18 x)) .zs .resv .resv .resv .resv) := by
  refine (loop18A hx).drop (n := 8) (D := D01) (fun _ _ => rfl) rfl rfl (fun r q hr hD => ?_) ?_ ?_
  · have : r < 2 := by rw [← Nat.blt_eq]; exact hD
    match r, hr with
    | 0, hr => cases hr; rfl
    | 1, hr => cases hr; rfl
    | r + 2, _ => omega
  · refine ⟨.inl ⟨rfl, rfl⟩, .inl ⟨rfl, rfl⟩, .inr (.inl ⟨rfl, rfl, trivial⟩), .inr (.inl ⟨rfl, rfl, trivial⟩), .inr (.inl ⟨rfl, rfl, trivial⟩), .inr (.inl ⟨rfl, rfl, trivial⟩), .inr (.inl ⟨rfl, rfl, only_zPb⟩), .inr (.inr ⟨rfl, _, _, _, rfl, rfl, ?_⟩), trivial⟩
    exact ⟨re_ints rfl (dropP_none rfl), re_lists rfl (dropP_none rfl), Re.flat .zs, trivial⟩
  · have rf : ∀ (r : Nat) (σ : Heap), D01 r = false ∧ r < 8 → Re G0 (dropP D01 8) σ (.ref r 0 0) (.ref r 0 0) := fun r σ h => Re.good (.ref _ _ _ h)
    exact ⟨rfl, Re.flat (below_pzr x), rfl, rf 6 _ ⟨rfl, by omega⟩, rfl, rf 7 _ ⟨rfl, by omega⟩, rfl, re_int, rfl, re_int, trivial⟩
/-! ### The weights of one variable -/
def wF (c : Cs) (o j : Nat) : Int := c.w.getD (o + j) 0
section
variable (V : List Int) (C : List (List Int)) (R : List Rl) (k d m : Int) (U : List Int) (W : List (List Int))
theorem alone_D (T : List Int) : ∀ o ∈ hD V C (sV 4 2 (rowR R)) (sO (rowR R)) (sO (rowI T)) (sO (rowI U)) (sO (rowLL W)) d (sV 1 4 (rowI U)) (sV 1 5 (rowLL W)) m, Alone 9 o := fun o ho => by
  simp only [hD, List.mem_cons, List.not_mem_nil, or_false] at ho
  rcases ho with rfl | rfl | rfl | rfl | rfl | rfl | rfl | rfl | rfl
  · trivial
  · trivial
  · exact alone_sO fun x hx y hy => (rowR_flat x hx y hy).up
  · exact alone_rowI _
  · exact alone_rowI _
  · exact alone_rowLL _
  · intro y hy
    simp only [zPb, List.mem_cons, List.not_mem_nil, or_false] at hy
    rcases hy with rfl | rfl | rfl <;> exact .zs
  · intro y hy
    simp only [List.mem_cons, List.not_mem_nil, or_false] at hy
    rcases hy with rfl | rfl | rfl
    · exact (below_flL _).up
    · exact (below_flLL _).up
    · exact below_sV (by omega)
  · intro y hy
    simp only [List.mem_cons, List.not_mem_nil, or_false] at hy
    rcases hy with rfl | rfl | rfl | rfl
    · exact .int _ _
    · exact below_sV (by omega)
    · exact below_sV (by omega)
    · exact .int _ _
/-- The state over a variable's weights, by lists. -/
def stE' (x : Pz) (a j u n : Int) (T : List Int) (i : Int) : St := stE x V C (sV 4 2 (rowR R)) (sO (rowR R)) k d m (sV 1 4 (rowI U)) (sV 1 5 (rowLL W)) (sO (rowI U)) (sO (rowLL W)) a j u n (sV 1 3 (rowI T)) (sO (rowI T)) i
theorem clean18E (x : Pz) (a j u n : Int) (T : List Int) (i : Int) : CleanT 9 (stE' V C R k d m U W x a j u n T i) :=
  cleanT_of rfl (alone_D V C R d m U W T) ⟨below_pzr x, .ref _ _ _ (by omega), .ref _ _ _ (by omega), .int _ _, .ref _ _ _ (by omega), .int _ _, .int _ _, below_sV (by omega), (below_flL _).up, .int _ _, .int _ _, .int _ _, .int _ _, trivial⟩
end
theorem loop18E {x : Pz} (hx : x.ok) (V : List Int) (C : List (List Int)) (R : List Rl) {k : Nat} (hk : k < x.R.length) (d m : Int) (U : List Int) (W : List (List Int)) (j u : Int) (n o : Nat) (hb : o + n < 1000000) :
    LoopA body18E n (fun i => stE' V C R k d m U W x (o + i : Nat) j u n (preL (wF (x.R.getD k c0) o) i) i) (fun i => stE' V C R k d m U W x (o + i : Nat) j u n (preL (wF (x.R.getD k c0) o) i) i) (stE' V C R k d m U W x (o + n : Nat) j u n (preL (wF (x.R.getD k c0) o) n) n) .ret (.exit 8) fun _ => false := by
  refine .linT (m := 9) (fun _ => rfl) rfl nofun (fun i => clean18E V C R k d m U W x _ j u n _ i) (clean18E V C R k d m U W x _ j u n _ _) fun i hi => ?_
  have key := congrArg Tree.sel (run18E True x V C (sV 4 2 (rowR R)) (sO (rowR R)) k d m (sV 1 4 (rowI U)) (sV 1 5 (rowLL W)) (sO (rowI U)) (sO (rowLL W)) (o + i : Nat) j u n (sV 1 3 (rowI (preL (wF (x.R.getD k c0) o) i))) (sV 1 3 (rowI (preL (wF (x.R.getD k c0) o) i ++ [wF (x.R.getD k c0) o i]))) (sO (rowI (preL (wF (x.R.getD k c0) o) i))) (sO (rowI (preL (wF (x.R.getD k c0) o) i ++ [wF (x.R.getD k c0) o i]))) i (wF (x.R.getD k c0) o i))
  have hw := hx.w k (o + i)
  rw [Int.toNat_natCast, Int.toNat_natCast] at key
  refine ⟨_, _, _, clokHint (hApO_ok els22 fun _ => grow_I (by rw [preL_len]; omega) _ 3), lpNo _, fun hlt => key.trans ?_, fun he => key.trans ?_⟩
  · have w1 : IntKind.i64.wrap (((o + i : Nat) : Int) + 1) = ((o + (i + 1) : Nat) : Int) := (wrapI (by omega)).trans (by omega)
    have w2 : IntKind.i64.wrap (i + 1 : Int) = ((i + 1 : Nat) : Int) := (wrapI (by omega)).trans (by omega)
    rw [w1, w2, preL_succ]
    refine (selIt (dT (by omega))).trans (t_need ⟨by omega, by omega⟩ (t_ite (fun h1 => ?_) fun h1 => ?_))
    · have h1' := of_decide_eq_true h1
      have e : wF (x.R.getD k c0) o i = (x.R.getD k c0).w.getD (o + i) 0 := rfl
      rw [wrapI (by omega), e]
      exact t_need ⟨by omega, by omega⟩ (t_need ⟨by omega, h1'⟩ (t_need ⟨rfl, rfl, trivial⟩ rfl))
    · have h1' := of_decide_eq_false h1
      have e : wF (x.R.getD k c0) o i = 0 := by
        unfold wF
        rw [List.getD_eq_getElem?_getD, List.getElem?_eq_none (by omega)]
        rfl
      rw [e]
      exact t_need ⟨rfl, rfl, trivial⟩ rfl
  · rw [selIf (dF (by omega)), he]
    rfl
/-- The state behind a variable's weights. -/
def stEx (x : Pz) (V : List Int) (C : List (List Int)) (R : List Rl) (k d m : Int) (U : List Int) (W : List (List Int)) (a j u n : Int) (s : AV) (i : Int) : St := stE x V C (sV 4 2 (rowR R)) (sO (rowR R)) k d m (sV 1 4 (rowI U)) (sV 1 5 (rowLL W)) (sO (rowI U)) (sO (rowLL W)) a j u n s .resv i
def hDx (V : List Int) (C : List (List Int)) (R : List Rl) (d m : Int) (U : List Int) (W : List (List Int)) : Heap := hD V C (sV 4 2 (rowR R)) (sO (rowR R)) .resv (sO (rowI U)) (sO (rowLL W)) d (sV 1 4 (rowI U)) (sV 1 5 (rowLL W)) m
theorem exec18E {x : Pz} (hx : x.ok) (V : List Int) (C : List (List Int)) (R : List Rl) {k : Nat} (hk : k < x.R.length) (d m : Int) (U : List Int) (W : List (List Int)) (j u : Int) (n o : Nat) (hb : o + n < 1000000) :
    AExec Try.prog G0 (fun r => r = none) (.loop body18E) { tmps := (stEx x V C R k d m U W o j u n .zs 0).a } (hDx V C R d m U W) (.exit 8)
      { tmps := (stEx x V C R k d m U W (o + n : Nat) j u n (flL (preL (wF (x.R.getD k c0) o) n)) n).a } (hDx V C R d m U W) := by
  refine (loop18E hx V C R hk d m U W j u n o hb).drop (n := 9) (D := D3) (fun _ _ => rfl) rfl rfl (fun r q hr hD => ?_) ?_ ?_
  · obtain rfl := Nat.eq_of_beq_eq_true hD
    cases hr; rfl
  · refine ⟨.inr (.inl ⟨rfl, rfl, trivial⟩), .inr (.inl ⟨rfl, rfl, trivial⟩), .inr (.inl ⟨rfl, rfl, onlyO_sO rowR_flat⟩), .inl ⟨rfl, rfl⟩, .inr (.inl ⟨rfl, rfl, onlyO_sO rowI_flat⟩), .inr (.inl ⟨rfl, rfl, onlyO_sO rowLL_flat⟩), .inr (.inl ⟨rfl, rfl, only_zPb⟩), .inr (.inl ⟨rfl, rfl, fun y hy => ?_⟩), .inr (.inl ⟨rfl, rfl, fun y hy => ?_⟩), trivial⟩
    · simp only [List.mem_cons, List.not_mem_nil, or_false] at hy
      rcases hy with rfl | rfl | rfl
      · exact .of0 (below_flL _)
      · exact .of0 (below_flLL _)
      · exact onlySV ⟨rfl, by omega⟩
    · simp only [List.mem_cons, List.not_mem_nil, or_false] at hy
      rcases hy with rfl | rfl | rfl | rfl
      · exact .int _ _
      · exact onlySV ⟨rfl, by omega⟩
      · exact onlySV ⟨rfl, by omega⟩
      · exact .int _ _
  · have rf : ∀ (r : Nat) (σ : Heap), D3 r = false ∧ r < 9 → Re G0 (dropP D3 9) σ (.ref r 0 0) (.ref r 0 0) := fun r σ h => Re.good (.ref _ _ _ h)
    exact ⟨rfl, Re.flat (below_pzr x), rfl, rf 6 _ ⟨rfl, by omega⟩, rfl, rf 7 _ ⟨rfl, by omega⟩, rfl, re_int, rfl, rf 8 _ ⟨rfl, by omega⟩, rfl, re_int, rfl, re_int, rfl, re_ints rfl (dropP_none rfl), rfl, Re.flat (below_flL _), rfl, re_int, rfl, re_int, rfl, re_int, rfl, re_int, trivial⟩
/-! ### One rule -/
def bitC (c : Cs) (j : Nat) : Bool := !(uand8 (ushr8 c.u j) 1 == 0)
def varK (c : Cs) : Nat → List Int
  | 0 => []
  | j + 1 => bif bitC c j then varK c j ++ [(j : Int)] else varK c j
def offK (V : List Int) (c : Cs) : Nat → Nat
  | 0 => 0
  | j + 1 => bif bitC c j then offK V c j + (V.getD j 0).toNat else offK V c j
def wtK (V : List Int) (c : Cs) : Nat → List (List Int)
  | 0 => []
  | j + 1 => bif bitC c j then wtK V c j ++ [preL (wF c (offK V c j)) (V.getD j 0).toNat] else wtK V c j
theorem varK_len (c : Cs) : ∀ j, (varK c j).length ≤ j
  | 0 => Nat.le_refl _
  | j + 1 => by
    have := varK_len c j
    unfold varK
    cases bitC c j with
    | true => rw [cond_true, List.length_append, List.length_singleton]; omega
    | false => rw [cond_false]; omega
theorem wtK_len (V : List Int) (c : Cs) : ∀ j, (wtK V c j).length = (varK c j).length
  | 0 => rfl
  | j + 1 => by
    have := wtK_len V c j
    unfold wtK varK
    cases bitC c j with
    | true => rw [cond_true, cond_true, List.length_append, List.length_append, List.length_singleton, List.length_singleton, this]
    | false => rw [cond_false, cond_false, this]
theorem offK_le {V : List Int} (hV : ∀ j, V.getD j 0 ≤ 4) (c : Cs) : ∀ j, offK V c j ≤ 4 * j
  | 0 => Nat.le_refl _
  | j + 1 => by
    have := offK_le hV c j
    have := hV j
    unfold offK
    cases bitC c j with
    | true => rw [cond_true]; omega
    | false => rw [cond_false]; omega
def stD' (x : Pz) (V : List Int) (C : List (List Int)) (R : List Rl) (k d m : Int) (U : List Int) (W : List (List Int)) (a j : Int) : St := stD x V C (sV 4 2 (rowR R)) (sO (rowR R)) k d m (sV 1 4 (rowI U)) (sV 1 5 (rowLL W)) (sO (rowI U)) (sO (rowLL W)) a j
theorem clean18D (x : Pz) (V : List Int) (C : List (List Int)) (R : List Rl) (k d m : Int) (U : List Int) (W : List (List Int)) (a j : Int) : CleanT 9 (stD' x V C R k d m U W a j) :=
  cleanT_of rfl (alone_D V C R d m U W []) ⟨below_pzr x, .ref _ _ _ (by omega), .ref _ _ _ (by omega), .int _ _, .ref _ _ _ (by omega), .int _ _, (below_flL _).up, .int _ _, .int _ _, trivial⟩
theorem loops18D : loopsOf body18D = [body18E] := by kernel_rfl
theorem loop18D {x : Pz} (hx : x.ok) {V : List Int} (hV : ∀ j, V.getD j 0 ≤ 4) (hV0 : ∀ j, 0 ≤ V.getD j 0) (hVl : V.length ≤ 5) (C : List (List Int)) (R : List Rl) {k : Nat} (hk : k < x.R.length) (d m : Int) :
    LoopA body18D V.length (fun j => stD' x V C R k d m (varK (x.R.getD k c0) j) (wtK V (x.R.getD k c0) j) (offK V (x.R.getD k c0) j : Nat) j) (fun j => stD' x V C R k d m (varK (x.R.getD k c0) j) (wtK V (x.R.getD k c0) j) (offK V (x.R.getD k c0) j : Nat) j)
      (stD' x V C R k d m (varK (x.R.getD k c0) V.length) (wtK V (x.R.getD k c0) V.length) (offK V (x.R.getD k c0) V.length : Nat) V.length) .ret (.exit 6) fun _ => false := by
  refine .linT (m := 9) (fun _ => rfl) rfl nofun (fun j => clean18D x V C R k d m _ _ _ j) (clean18D x V C R k d m _ _ _ _) fun j hj => ?_
  have ho := offK_le hV (x.R.getD k c0) j
  have h4 := hV j
  have h0 := hV0 j
  have hn : V.getD j 0 = ((V.getD j 0).toNat : Int) := by omega
  have hvl := varK_len (x.R.getD k c0) j
  have hwl := wtK_len V (x.R.getD k c0) j
  have he := lpB_exec (i := 29) (keep := keepE) (S := stEx x V C R k d m (varK (x.R.getD k c0) j) (wtK V (x.R.getD k c0) j) (offK V (x.R.getD k c0) j : Nat) j j (V.getD j 0).toNat .zs 0) (X := stEx x V C R k d m (varK (x.R.getD k c0) j) (wtK V (x.R.getD k c0) j) (offK V (x.R.getD k c0) j + (V.getD j 0).toNat : Nat) j j (V.getD j 0).toNat (flL (preL (wF (x.R.getD k c0) (offK V (x.R.getD k c0) j)) (V.getD j 0).toNat)) (V.getD j 0).toNat)
    (exec18E hx V C R hk d m (varK (x.R.getD k c0) j) (wtK V (x.R.getD k c0) j) j j (V.getD j 0).toNat (offK V (x.R.getD k c0) j) (by omega)) rfl (c := body18D) (one_loop loops18D)
  have key := congrArg Tree.sel (run18D True x V C (sV 4 2 (rowR R)) (sO (rowR R)) k d m (sV 1 4 (rowI (varK (x.R.getD k c0) j))) (sV 1 5 (rowLL (wtK V (x.R.getD k c0) j))) (sV 1 4 (rowI (varK (x.R.getD k c0) j ++ [(j : Int)]))) (sV 1 5 (rowLL (wtK V (x.R.getD k c0) j ++ [preL (wF (x.R.getD k c0) (offK V (x.R.getD k c0) j)) (V.getD j 0).toNat])))
    (sO (rowI (varK (x.R.getD k c0) j))) (sO (rowLL (wtK V (x.R.getD k c0) j))) (sO (rowI (varK (x.R.getD k c0) j ++ [(j : Int)]))) (sO (rowLL (wtK V (x.R.getD k c0) j ++ [preL (wF (x.R.getD k c0) (offK V (x.R.getD k c0) j)) (V.getD j 0).toNat]))) (offK V (x.R.getD k c0) j : Nat) (offK V (x.R.getD k c0) j + (V.getD j 0).toNat : Nat) j (preL (wF (x.R.getD k c0) (offK V (x.R.getD k c0) j)) (V.getD j 0).toNat))
  rw [Int.toNat_natCast, Int.toNat_natCast, hn, Int.toNat_natCast] at key
  refine ⟨_, _, _, clokHint ((hApO_ok els22 fun _ => grow_I (by omega) _ 4).or ((hApO_ok els23 fun _ => grow_LL (by omega) _ 5).or ((hSto_ok 8 (one_of (by kernel_rfl))).ok.or ((hSto_ok 8 (one_of (by kernel_rfl))).ok.or hBit_ok.ok)))), he, fun hlt => key.trans ?_, fun he => key.trans ?_⟩
  · have w2 : IntKind.i64.wrap (j + 1 : Int) = ((j + 1 : Nat) : Int) := (wrapI (by omega)).trans (by omega)
    rw [w2]
    refine (selIt (dT (by omega))).trans (t_need ⟨by omega, by omega⟩ (t_need ⟨by omega, by omega⟩ (t_need (by omega) (t_need trivial (t_ite (fun h1 => ?_) fun h1 => ?_)))))
    · have hb : bitC (x.R.getD k c0) j = false := by unfold bitC; rw [h1]; rfl
      have e1 : varK (x.R.getD k c0) (j + 1) = varK (x.R.getD k c0) j := by show (bif _ then _ else _) = _; rw [hb]; rfl
      have e2 : wtK V (x.R.getD k c0) (j + 1) = wtK V (x.R.getD k c0) j := by show (bif _ then _ else _) = _; rw [hb]; rfl
      have e3 : offK V (x.R.getD k c0) (j + 1) = offK V (x.R.getD k c0) j := by show (bif _ then _ else _) = _; rw [hb]; rfl
      rw [e1, e2, e3]
      rfl
    · have hb : bitC (x.R.getD k c0) j = true := by unfold bitC; rw [h1]; rfl
      have e1 : varK (x.R.getD k c0) (j + 1) = varK (x.R.getD k c0) j ++ [(j : Int)] := by show (bif _ then _ else _) = _; rw [hb]; rfl
      have e2 : wtK V (x.R.getD k c0) (j + 1) = wtK V (x.R.getD k c0) j ++ [preL (wF (x.R.getD k c0) (offK V (x.R.getD k c0) j)) (V.getD j 0).toNat] := by show (bif _ then _ else _) = _; rw [hb]; rfl
      have e3 : offK V (x.R.getD k c0) (j + 1) = offK V (x.R.getD k c0) j + (V.getD j 0).toNat := by show (bif _ then _ else _) = _; rw [hb]; rfl
      rw [e1, e2, e3]
      exact t_need rfl (t_need ⟨rfl, rfl, trivial⟩ (t_need ⟨one_sV, by omega⟩ (t_need ⟨rfl, rfl, trivial⟩ (t_need ⟨one_sV, by omega⟩ rfl))))
  · rw [selIf (dF (by omega)), he]
    rfl
end Go.Proofs.Ytngaihdpmoajeaa.Am

namespace Go.Proofs.Ytngaihdpmoajeaa.Am
open Go
set_option maxRecDepth 100000

theorem exec18D {x : Pz} (hx : x.ok) {V : List Int} (hV : ∀ j, V.getD j 0 ≤ 4) (hV0 : ∀ j, 0 ≤ V.getD j 0) (hVl : V.length ≤ 5) (C : List (List Int)) (R : List Rl) {k : Nat} (hk : k < x.R.length) (d m : Int) :
    AExec Try.prog G0 (fun r => r = none) (.loop body18D) { tmps := (stD x V C (sV 4 2 (rowR R)) (sO (rowR R)) k d m .zs .zs .resv .resv 0 0).a } (hD V C (sV 4 2 (rowR R)) (sO (rowR R)) .resv .resv .resv d .zs .zs m) (.exit 6)
      { tmps := (stD x V C (sV 4 2 (rowR R)) (sO (rowR R)) k d m (flL (varK (x.R.getD k c0) V.length)) (flLL (wtK V (x.R.getD k c0) V.length)) .resv .resv (offK V (x.R.getD k c0) V.length : Nat) V.length).a } (hD V C (sV 4 2 (rowR R)) (sO (rowR R)) .resv .resv .resv d (flL (varK (x.R.getD k c0) V.length)) (flLL (wtK V (x.R.getD k c0) V.length)) m) := by
  refine (loop18D hx hV hV0 hVl C R hk d m).drop (n := 9) (D := D45) (fun _ _ => rfl) rfl rfl (fun r q hr hD => ?_) ?_ ?_
  · match r, hr, hD with
    | 4, hr, _ => cases hr; rfl
    | 5, hr, _ => cases hr; rfl
    | 0, _, hD => cases hD
    | 1, _, hD => cases hD
    | 2, _, hD => cases hD
    | 3, _, hD => cases hD
    | r + 6, _, hD =>
      have : r + 6 = 4 ∨ r + 6 = 5 := by
        have := Bool.or_eq_true_iff.1 (show (Nat.beq (r + 6) 4 || Nat.beq (r + 6) 5) = true from hD)
        rcases this with h | h
        · exact .inl (Nat.eq_of_beq_eq_true h)
        · exact .inr (Nat.eq_of_beq_eq_true h)
      omega
  · refine ⟨.inr (.inl ⟨rfl, rfl, trivial⟩), .inr (.inl ⟨rfl, rfl, trivial⟩), .inr (.inl ⟨rfl, rfl, onlyO_sO rowR_flat⟩), .inr (.inl ⟨rfl, rfl, trivial⟩), .inl ⟨rfl, rfl⟩, .inl ⟨rfl, rfl⟩, .inr (.inl ⟨rfl, rfl, only_zPb⟩), .inr (.inl ⟨rfl, rfl, fun y hy => ?_⟩), .inr (.inr ⟨rfl, _, _, _, rfl, rfl, ?_⟩), trivial⟩
    · simp only [List.mem_cons, List.not_mem_nil, or_false] at hy
      rcases hy with rfl | rfl | rfl
      · exact .of0 (below_flL _)
      · exact .of0 (below_flLL _)
      · exact onlySV ⟨rfl, by omega⟩
    · exact ⟨re_int, re_ints rfl (dropP_none rfl), re_lists rfl (dropP_none rfl), re_int, trivial⟩
  · have rf : ∀ (r : Nat) (σ : Heap), D45 r = false ∧ r < 9 → Re G0 (dropP D45 9) σ (.ref r 0 0) (.ref r 0 0) := fun r σ h => Re.good (.ref _ _ _ h)
    exact ⟨rfl, Re.flat (below_pzr x), rfl, rf 6 _ ⟨rfl, by omega⟩, rfl, rf 7 _ ⟨rfl, by omega⟩, rfl, re_int, rfl, rf 8 _ ⟨rfl, by omega⟩, rfl, re_int, rfl, Re.flat (below_flL _), rfl, re_int, rfl, re_int, trivial⟩
/-! ### All rules -/
def M18 (x : Pz) : Nat := min x.R.length 6
def ruleM (V : List Int) (x : Pz) (i : Nat) : Rl := ⟨(x.R.getD i c0).d, varK (x.R.getD i c0) V.length, wtK V (x.R.getD i c0) V.length, (x.R.getD i c0).m⟩
def stC' (x : Pz) (V : List Int) (C : List (List Int)) (R : List Rl) (k : Int) : St := stC x V C (sV 4 2 (rowR R)) (sO (rowR R)) k
theorem clean18C (x : Pz) (V : List Int) (C : List (List Int)) (R : List Rl) (k : Int) : CleanT 8 (stC' x V C R k) :=
  cleanT_of rfl (fun o ho => by
    simp only [hC, List.mem_cons, List.not_mem_nil, or_false] at ho
    rcases ho with rfl | rfl | rfl | rfl | rfl | rfl | rfl | rfl
    · trivial
    · trivial
    · exact alone_sO fun x hx y hy => (rowR_flat x hx y hy).up
    · trivial
    · trivial
    · trivial
    · intro y hy
      simp only [zPb, List.mem_cons, List.not_mem_nil, or_false] at hy
      rcases hy with rfl | rfl | rfl <;> exact .zs
    · intro y hy
      simp only [List.mem_cons, List.not_mem_nil, or_false] at hy
      rcases hy with rfl | rfl | rfl
      · exact (below_flL _).up
      · exact (below_flLL _).up
      · exact below_sV (by omega)) ⟨below_pzr x, .ref _ _ _ (by omega), .ref _ _ _ (by omega), .int _ _, trivial⟩
theorem loops18C' : ∀ x ∈ loopsOf body18C, idOf x = 24 → x = body18D := nth_loop (k := 0) (ids := [24, 29]) (by kernel_rfl) (by decide) (by kernel_rfl) rfl
theorem roundC {x : Pz} (hx : x.ok) {V : List Int} (hV : ∀ j, V.getD j 0 ≤ 4) (hV0 : ∀ j, 0 ≤ V.getD j 0) (hVl : V.length ≤ 5) (C : List (List Int)) (k : Nat) (hk : k < M18 x) :
    AExec Try.prog G0 (fun r => r = none) body18C { tmps := (stC' x V C (preL (ruleM V x) k) k).a } (stC' x V C (preL (ruleM V x) k) k).h .normal { tmps := (stC' x V C (preL (ruleM V x) (k + 1)) (k + 1 : Nat)).a } (stC' x V C (preL (ruleM V x) (k + 1)) (k + 1 : Nat)).h := by
  have hkl : k < x.R.length := by unfold M18 at hk; omega
  have hk6 : k < 6 := by unfold M18 at hk; omega
  have hdd := hx.d k
  have hmm := hx.m k
  have hd : dm18 x k = (x.R.getD k c0).d := by unfold dm18; rw [Int.toNat_natCast]; exact wrapI (by omega)
  have hm : mm18 x k = (x.R.getD k c0).m := by unfold mm18; rw [Int.toNat_natCast]; exact wrapI (by omega)
  have key := congrArg Tree.sel (run18C True x V C (sV 4 2 (rowR (preL (ruleM V x) k))) (sV 4 2 (rowR (preL (ruleM V x) (k + 1)))) (sO (rowR (preL (ruleM V x) k))) (sO (rowR (preL (ruleM V x) (k + 1)))) k (varK (x.R.getD k c0) V.length) (wtK V (x.R.getD k c0) V.length) (offK V (x.R.getD k c0) V.length : Nat))
  have g1 : Grow 4 2 [I (dm18 x k), flL (varK (x.R.getD k c0) V.length), flLL (wtK V (x.R.getD k c0) V.length), I (mm18 x k)] (sV 4 2 (rowR (preL (ruleM V x) k))) (sV 4 2 (rowR (preL (ruleM V x) (k + 1)))) (sO (rowR (preL (ruleM V x) k))) (sO (rowR (preL (ruleM V x) (k + 1)))) := by
    rw [preL_succ, hd, hm]
    exact grow_R (by rw [preL_len]; omega) (ruleM V x k) 2
  have hi := lpB_exec (i := 24) (keep := keepD) (S := stD x V C (sV 4 2 (rowR (preL (ruleM V x) k))) (sO (rowR (preL (ruleM V x) k))) k (dm18 x k) (mm18 x k) .zs .zs .resv .resv 0 0) (X := stD x V C (sV 4 2 (rowR (preL (ruleM V x) k))) (sO (rowR (preL (ruleM V x) k))) k (dm18 x k) (mm18 x k) (flL (varK (x.R.getD k c0) V.length)) (flLL (wtK V (x.R.getD k c0) V.length)) .resv .resv (offK V (x.R.getD k c0) V.length : Nat) V.length)
    (exec18D hx hV hV0 hVl C (preL (ruleM V x) k) hkl (dm18 x k) (mm18 x k)) rfl (c := body18C) loops18C'
  refine xBodyMT_ok (m := 8) (st := stC' x V C (preL (ruleM V x) k) k) (clokHint ((hApO_ok els24 fun _ => g1).or ((hSto_ok 7 (one_of (by kernel_rfl))).ok.or (hStA_ok 56 8).ok))) hi rfl (clean18C x V C _ _) (key.trans ?_)
  have w2 : IntKind.i64.wrap (k + 1 : Int) = ((k + 1 : Nat) : Int) := (wrapI (by omega)).trans (by omega)
  rw [w2]
  refine (selIt (dT (by omega))).trans ((selIt (dT (by omega))).trans ?_)
  repeat first
    | exact rfl
    | refine t_need rfl ?_
    | refine t_need ⟨rfl, rfl⟩ ?_
    | refine t_need ⟨by omega, by omega⟩ ?_
    | refine t_need ⟨rfl, rfl, trivial⟩ ?_
    | refine t_need ⟨rfl, rfl, Nat.le_refl _⟩ ?_
    | refine t_need ⟨one_sV, by omega⟩ ?_
theorem loop18C {x : Pz} (hx : x.ok) {V : List Int} (hV : ∀ j, V.getD j 0 ≤ 4) (hV0 : ∀ j, 0 ≤ V.getD j 0) (hVl : V.length ≤ 5) (C : List (List Int)) :
    LoopA body18C (M18 x) (fun k => stC' x V C (preL (ruleM V x) k) k) (fun k => stC' x V C (preL (ruleM V x) k) k) (stC' x V C (preL (ruleM V x) (M18 x)) (M18 x)) .ret (.exit 4) fun _ => false where
  n0 _ := rfl
  nR _ := rfl
  nX := rfl
  neR := nofun
  neX := nofun
  go k hk _ _ := roundC hx hV hV0 hVl C k hk
  st k hk _ hs := by cases hs
  en _ := by
    refine xBodyT_ok (m := 8) (E := { boxRow := false }) (st := stC' x V C (preL (ruleM V x) (M18 x)) (M18 x)) (.of rfl rfl fun f xs t v h => by cases h) (lpF_ok 24 keepD _ _) rfl (clean18C x V C _ _) ((congrArg Tree.sel (run18Ce x V C (sV 4 2 (rowR (preL (ruleM V x) (M18 x)))) (sO (rowR (preL (ruleM V x) (M18 x)))) (M18 x))).trans ?_)
    exact t_ite (fun h1 => (selIf (dF (by have := of_decide_eq_true h1; unfold M18 at this ⊢; omega))).trans rfl) fun _ => rfl
/-! ### The problem -/
def madeP (x : Pz) : Pb := ⟨valsM x (N18 x), costsM x (N18 x), preL (ruleM (valsM x (N18 x)) x) (M18 x)⟩
theorem vals_at (x : Pz) {k : Nat} (hk : k < N18 x) : (valsM x (N18 x)).getD k 0 = valM x k := preL_getD _ hk _
theorem vals_le (x : Pz) (j : Nat) : 0 ≤ (valsM x (N18 x)).getD j 0 ∧ (valsM x (N18 x)).getD j 0 ≤ 4 := by
  by_cases hj : j < N18 x
  · rw [vals_at x hj]
    have := valM_bound x j
    omega
  · rw [List.getD_eq_getElem?_getD, List.getElem?_eq_none (by unfold valsM; rw [preL_len]; omega)]
    exact ⟨Int.le_refl _, by decide⟩
theorem N18_le (x : Pz) : N18 x ≤ 5 := by unfold N18; omega
theorem vals_len (x : Pz) : (valsM x (N18 x)).length = N18 x := preL_len _ _
theorem getD_snoc {α : Type} (l : List α) (a : α) (k : Nat) (d : α) : (l ++ [a]).getD k d = if k < l.length then l.getD k d else if k = l.length then a else d := by
  rw [List.getD_eq_getElem?_getD, List.getElem?_append]
  split
  · rw [← List.getD_eq_getElem?_getD]
  · split
    · subst k; simp
    · rw [List.getElem?_eq_none (by simp; omega)]; rfl
theorem varK_ok {V : List Int} (hV0 : ∀ j, 0 ≤ V.getD j 0) {c : Cs} (hw : ∀ j, -128 ≤ c.w.getD j 0 ∧ c.w.getD j 0 ≤ 127) : ∀ j : Nat,
    (∀ k, k < (varK c j).length → (0 ≤ (varK c j).getD k 0 ∧ (varK c j).getD k 0 < j) ∧ (((wtK V c j).getD k []).length : Int) = V.getD ((varK c j).getD k 0).toNat 0 ∧ ∀ y ∈ (wtK V c j).getD k [], -128 ≤ y ∧ y ≤ 127) ∧
      ∀ k, k + 1 < (varK c j).length → (varK c j).getD k 0 < (varK c j).getD (k + 1) 0
  | 0 => ⟨fun k hk => by simp [varK] at hk, fun k hk => by simp [varK] at hk⟩
  | j + 1 => by
    obtain ⟨h1, h2⟩ := varK_ok hV0 hw j
    have hl := wtK_len V c j
    have h0 := hV0 j
    unfold varK wtK
    cases bitC c j with
    | false =>
      rw [cond_false, cond_false]
      exact ⟨fun k hk => ⟨⟨(h1 k hk).1.1, by have := (h1 k hk).1.2; omega⟩, (h1 k hk).2⟩, h2⟩
    | true =>
      rw [cond_true, cond_true]
      refine ⟨fun k hk => ?_, fun k hk => ?_⟩
      · rw [List.length_append, List.length_singleton] at hk
        rw [getD_snoc, getD_snoc, hl]
        by_cases hlt : k < (varK c j).length
        · rw [if_pos hlt, if_pos hlt]
          exact ⟨⟨(h1 k hlt).1.1, by have := (h1 k hlt).1.2; omega⟩, (h1 k hlt).2⟩
        · have he : k = (varK c j).length := by omega
          rw [if_neg hlt, if_pos he, if_neg hlt, if_pos he]
          refine ⟨⟨by omega, by omega⟩, ?_, fun y hy => ?_⟩
          · rw [preL_len, Int.toNat_natCast]
            omega
          · unfold preL at hy
            obtain ⟨i, _, rfl⟩ := List.mem_map.1 hy
            exact hw _
      · rw [List.length_append, List.length_singleton] at hk
        rw [getD_snoc, getD_snoc, if_pos (by omega)]
        by_cases hlt : k + 1 < (varK c j).length
        · rw [if_pos hlt]
          exact h2 k hlt
        · rw [if_neg hlt, if_pos (by omega)]
          exact (h1 k (by omega)).1.2
theorem made_rule {x : Pz} (hx : x.ok) (i : Nat) : OkRule (valsM x (N18 x)) (ruleM (valsM x (N18 x)) x i) := by
  have hd := hx.d i
  have hm := hx.m i
  obtain ⟨h1, h2⟩ := varK_ok (fun j => (vals_le x j).1) (hx.w i) (valsM x (N18 x)).length
  exact ⟨⟨hd.1, by show (x.R.getD i c0).d ≤ _; omega⟩, ⟨by show _ ≤ (x.R.getD i c0).m; omega, by show (x.R.getD i c0).m ≤ _; omega⟩, wtK_len _ _ _, fun k hk => (h1 k hk).1, h2, fun k hk => (h1 k hk).2.1, fun k hk y hy => by
    have := (h1 k hk).2.2 y hy
    omega⟩
theorem made_ok {x : Pz} (hx : x.ok) : Ok (madeP x) := by
  have hN := N18_le x
  have hl := vals_len x
  refine ⟨by show (valsM x (N18 x)).length ≤ 24; omega, ?_, ?_, fun k hk => ?_, fun k hk => ?_, fun k hk y hy => ?_, fun r hr => ?_⟩
  · show (costsM x (N18 x)).length = _
    exact (preL_len _ _).trans hl.symm
  · show (preL _ _).length ≤ 2048
    rw [preL_len]
    unfold M18
    omega
  · replace hk : k < N18 x := by rw [← hl]; exact hk
    have := valM_bound x k
    rw [show (madeP x).V.getD k 0 = valM x k from vals_at x hk]
    omega
  · replace hk : k < N18 x := by rw [← hl]; exact hk
    rw [show (madeP x).V.getD k 0 = valM x k from vals_at x hk, show (madeP x).C.getD k [] = cosR x k from preL_getD _ hk _]
    unfold cosR
    rw [preL_len]
  · replace hk : k < N18 x := by rw [← hl]; exact hk
    rw [show (madeP x).C.getD k [] = cosR x k from preL_getD _ hk _] at hy
    unfold cosR preL at hy
    obtain ⟨j, _, rfl⟩ := List.mem_map.1 hy
    have := hx.c (ofs x k + j)
    unfold costF
    omega
  · have hr' : r ∈ preL (ruleM (valsM x (N18 x)) x) (M18 x) := hr
    unfold preL at hr'
    obtain ⟨i, _, rfl⟩ := List.mem_map.1 hr'
    exact made_rule hx i
/-- THE PROBLEM OF A PUZZLE. -/
theorem c18 {x : Pz} (hx : x.ok) (h : Heap) : ACall Try.prog G0 18 [pzAV x] h (pAV (madeP x)) h := by
  have hlA := lpB_exec (i := 4) (keep := keepA) (S := stA x .zs .resv .zs .resv 0 0) (X := St.of 162 (hC (valsM x (N18 x)) (costsM x (N18 x)) .zs .resv .resv .resv .resv) [(1, .row (pzC x) 0, true), (2, .ref 6 0 0, true), (3, .ref 7 0 0, true), (4, I (ofs x (N18 x) : Nat), true), (5, I (N18 x), true)]) (exec18A hx) rfl (c := bodyOf Try.prog 18)
    (nth_loop (k := 0) (i := 4) (ids := [4, 10, 19, 24, 29]) ids18 (by decide) (by kernel_rfl) rfl)
  have hlC := (loop18C hx (fun j => (vals_le x j).2) (fun j => (vals_le x j).1) (by rw [vals_len]; exact N18_le x) (costsM x (N18 x))).okB (fun _ _ => rfl) (c := bodyOf Try.prog 18) (i := 19) (keep := keepC)
    (nth_loop (k := 2) (i := 19) (ids := [4, 10, 19, 24, 29]) ids18 (by decide) (by kernel_rfl) rfl)
  have hc : ACall Try.prog G0 18 [pzAV x] (List.replicate 6 .resv) (.agg [flL (madeP x).V, flLL (madeP x).C, sV 4 2 (rowR (madeP x).R)]) [AObj.resv, AObj.resv, sO (rowR (madeP x).R), AObj.resv, AObj.resv, AObj.resv, AObj.cells 0 [flL (madeP x).V, flLL (madeP x).C, sV 4 2 (rowR (madeP x).R)], AObj.cells 0 [flL (madeP x).V, flLL (madeP x).C, sV 4 2 (rowR (madeP x).R)]] := by
    refine ACall.says (.ofH rfl rfl ((hStA_ok 26 6).ok.or (hStA_ok 26 7).ok) fun f xs t v h => by cases h) (lpAnd_ok hlA hlC) (runF18 x (valsM x (N18 x)) (costsM x (N18 x)) (sV 4 2 (rowR (preL (ruleM (valsM x (N18 x)) x) (M18 x)))) (sO (rowR (preL (ruleM (valsM x (N18 x)) x) (M18 x)))) (ofs x (N18 x) : Nat) (N18 x) (M18 x)) ?_
    refine says_need ⟨rfl, rfl, Nat.le_refl _⟩ (says_need rfl (says_need rfl (says_need ⟨rfl, ?_, Nat.le_refl _⟩ says_leaf)))
    rw [tk26]
    simp only [List.all_cons, one_sV]
    rfl
  exact hc.out (k := 6) (re_pb rfl nofun) (below_pAV _) (fun y hy => by rw [List.mem_singleton.1 hy]; exact below_agg (below_pz x)) h
end Go.Proofs.Ytngaihdpmoajeaa.Am

namespace Go.Proofs.Ytngaihdpmoajeaa.Am
open Go
set_option maxRecDepth 100000

/-- An assignment in an object of its own. -/
def hX (o : AObj) (b : List Int) : Heap := [o, .cells 0 (b.map I)]
section
variable {p : Pb} {n : Nat} {b : List Int} {i : Nat} (hb : b.length = n) (hV : p.V.length = n) (hk : n ≤ 1000) (hi : i < n) (h0 : -1000000 ≤ b.getD i 0 ∧ b.getD i 0 ≤ 1000000) (o : AObj)
include hb hV hk hi h0
end
end Go.Proofs.Ytngaihdpmoajeaa.Am

namespace Go.Proofs.Ytngaihdpmoajeaa.Am
open Go
set_option maxRecDepth 100000

/-- Each of a list is followed by the next one; z: what follows the last one. -/
def Ch (f : List Int → Bool × List Int) : List (List Int) → Bool × List Int → Prop
  | [], _ => True
  | [x], z => f x = z
  | x :: y :: l, z => f x = (true, y) ∧ Ch f (y :: l) z
theorem Ch.at' {f : List Int → Bool × List Int} {z : Bool × List Int} : ∀ {A : List (List Int)}, Ch f A z → ∀ k, k < A.length → f (A.getD k []) = if k + 1 < A.length then (true, A.getD (k + 1) []) else z
  | [], _, k, hk => by simp at hk
  | [x], h, k, hk => by
    obtain rfl : k = 0 := by simpa using hk
    rw [if_neg (by simp)]
    exact h
  | x :: y :: l, h, 0, _ => by
    rw [if_pos (by simp)]
    exact h.1
  | x :: y :: l, h, k + 1, hk => by
    have := Ch.at' (A := y :: l) h.2 k (by simpa using hk)
    simp only [List.getD_cons_succ, List.length_cons, Nat.add_lt_add_iff_right] at this ⊢
    exact this
end Go.Proofs.Ytngaihdpmoajeaa.Am

namespace Go.Proofs.Ytngaihdpmoajeaa.Am
open Go
set_option maxRecDepth 100000

def k4 (x : Pz) (p : Pb) (bv fv a f : AV) (c e g n h : Int) : List (FuncId × (List AV → Prop) × (List AV → AV)) :=
  [(18, is1 [pzAV x] (pAV p)), (21, is1 [pAV p] (.tup [a, I c, I e])), (22, is1 [pAV p] (.tup [f, I g])), (16, is1 [pAV p, I 1000000] (.tup [I n, I h])), (23, is2 [a, bv] [f, fv] (.bool true)), (12, is1 [] (.bool true))]
end Go.Proofs.Ytngaihdpmoajeaa.Am

namespace Go.Proofs.Ytngaihdpmoajeaa.Am
open Go
set_option maxRecDepth 100000

theorem ok_sh {p : Pb} (hp : Ok p) : p.sh := by
  have h1 := hp.n
  have h2 := hp.c
  have h3 := hp.r
  have e : ∀ {α : Type} {L : List α}, L.length ≤ 4000 → sh L := fun {α L} h => by
    show L.length < _
    omega
  exact ⟨e (by omega), e (by omega), fun l hl => e (by have := cost_small hp l hl; omega), e (by omega), fun x hx => by
    have := rule_small hp (hp.rl x hx)
    exact ⟨e (by omega), e (by omega), fun l hl => e (by have := this.2.2 l hl; omega)⟩⟩
/-! ### Calls on an assignment of one's own -/
/-! ### What has been seen of all assignments -/
/-! ### The loop -/
/-! ### SearchBest -/
end Go.Proofs.Ytngaihdpmoajeaa.Am

namespace Go.Proofs.Ytngaihdpmoajeaa.Am
open Go
set_option maxRecDepth 100000

noncomputable def b5 : Code := bodyOf Try.prog 5
theorem ids5 : (loopsOf b5).map idOf = [4, 19] := by kernel_rfl
noncomputable def body5p : Code := (loopsOf b5).headD .skip
noncomputable def body5v : Code := ((loopsOf b5).drop 1).headD .skip
/-! ### The beginning -/
def hP (p : Pb) (o : AObj) : Heap := [o, .cells 0 (pbC p)]
def st5p (p : Pb) (l : List Int) (v : AV) (o : AObj) (k : Int) : St := .of 173 (hP p o) [(1, flB l, true), (4, .bool false, false), (5, .ref 1 0 0, true), (6, v, true), (7, I k, true)]
def keep5p : List Nat := [1, 4, 5, 6, 7]
noncomputable def mv5 (id : Nat) (Q : List Nat) (hs : Nat → Heap) : Nat → Option (List Nat × (Nat → Heap)) := fun i => bif Nat.beq i id then some (Q, hs) else none
def hs5p (p : Pb) (o o' : AObj) : Nat → Heap
  | 0 => hP p o
  | _ => hP p o'
def E5p (g : Prop) (c : Int) (v v' : AV) (o o' : AObj) : Env := { boxRow := false, hint := orH (hApO 22 1 0 [I c] v v' o o' g) hBit }
theorem run5p (g : Prop) (p : Pb) (l : List Int) (v v' : AV) (o o' : AObj) (k c : Int) : xBodyMT (E5p g c v v' o o') (mv5 6 [13] (hs5p p o o')) 200 noLoops keep5p 2 body5p (st5p p l v o k) = .ite (decide (k < (↑l.length : Int))) (.ite (decide (k < (↑p.V.length : Int))) (.need ([o, (AObj.cells (0 : Nat) [(flL (p.V)), (flLL (p.C)), (flR (p.R))])] = [o, (AObj.cells (0 : Nat) [(flL (p.V)), (flLL (p.C)), (flR (p.R))])]) (.need ([o, (AObj.cells (0 : Nat) [(flL (p.V)), (flLL (p.C)), (flR (p.R))])] = [o, (AObj.cells (0 : Nat) [(flL (p.V)), (flLL (p.C)), (flR (p.R))])]) (.need ([o, (AObj.cells (0 : Nat) [(flL (p.V)), (flLL (p.C)), (flR (p.R))])] = [o, (AObj.cells (0 : Nat) [(flL (p.V)), (flLL (p.C)), (flR (p.R))])]) (.need ([o, (AObj.cells (0 : Nat) [(flL (p.V)), (flLL (p.C)), (flR (p.R))])] = [o, (AObj.cells (0 : Nat) [(flL (p.V)), (flLL (p.C)), (flR (p.R))])]) (.need (((0 : Int) ≤ k) ∧ (k < (↑l.length : Int))) (.need ([o, (AObj.cells (0 : Nat) [(flL (p.V)), (flLL (p.C)), (flR (p.R))])] = [o, (AObj.cells (0 : Nat) [(flL (p.V)), (flLL (p.C)), (flR (p.R))])]) (.need ([o, (AObj.cells (0 : Nat) [(flL (p.V)), (flLL (p.C)), (flR (p.R))])] = [o, (AObj.cells (0 : Nat) [(flL (p.V)), (flLL (p.C)), (flR (p.R))])]) (.need ([o, (AObj.cells (0 : Nat) [(flL (p.V)), (flLL (p.C)), (flR (p.R))])] = [o, (AObj.cells (0 : Nat) [(flL (p.V)), (flLL (p.C)), (flR (p.R))])]) (.need ([o, (AObj.cells (0 : Nat) [(flL (p.V)), (flLL (p.C)), (flR (p.R))])] = [o, (AObj.cells (0 : Nat) [(flL (p.V)), (flLL (p.C)), (flR (p.R))])]) (.need ([o, (AObj.cells (0 : Nat) [(flL (p.V)), (flLL (p.C)), (flR (p.R))])] = [o, (AObj.cells (0 : Nat) [(flL (p.V)), (flLL (p.C)), (flR (p.R))])]) (.need ([o, (AObj.cells (0 : Nat) [(flL (p.V)), (flLL (p.C)), (flR (p.R))])] = [o, (AObj.cells (0 : Nat) [(flL (p.V)), (flLL (p.C)), (flR (p.R))])]) (.need (((0 : Int) ≤ k) ∧ (k < (↑p.V.length : Int))) (.need ([o, (AObj.cells (0 : Nat) [(flL (p.V)), (flLL (p.C)), (flR (p.R))])] = [o, (AObj.cells (0 : Nat) [(flL (p.V)), (flLL (p.C)), (flR (p.R))])]) (.need ([o, (AObj.cells (0 : Nat) [(flL (p.V)), (flLL (p.C)), (flR (p.R))])] = [o, (AObj.cells (0 : Nat) [(flL (p.V)), (flLL (p.C)), (flR (p.R))])]) (.need (p.V.getD k.toNat (0 : Int) ≠ (0 : Int)) (.need ([o, (AObj.cells (0 : Nat) [(flL (p.V)), (flLL (p.C)), (flR (p.R))])] = [o, (AObj.cells (0 : Nat) [(flL (p.V)), (flLL (p.C)), (flR (p.R))])]) (.need ([o, (AObj.cells (0 : Nat) [(flL (p.V)), (flLL (p.C)), (flR (p.R))])] = [o, (AObj.cells (0 : Nat) [(flL (p.V)), (flLL (p.C)), (flR (p.R))])]) (.need (((Option.some [v, (AV.sl (1 : Nat) [[(I ((IntKind.i64.wrap (l.getD k.toNat (0 : Int))).tmod (p.V.getD k.toNat (0 : Int))))]])]) = (Option.some [v, (AV.sl (1 : Nat) [[(I c)]])])) ∧ (((Option.some o) = (Option.some o)) ∧ (g))) (.need ([o', (AObj.cells (0 : Nat) [(flL (p.V)), (flLL (p.C)), (flR (p.R))])] = [o', (AObj.cells (0 : Nat) [(flL (p.V)), (flLL (p.C)), (flR (p.R))])]) (.need ([o', (AObj.cells (0 : Nat) [(flL (p.V)), (flLL (p.C)), (flR (p.R))])] = [o', (AObj.cells (0 : Nat) [(flL (p.V)), (flLL (p.C)), (flR (p.R))])]) (.leaf (Exit.normal, St.of 173 [o', (AObj.cells (0 : Nat) [(flL (p.V)), (flLL (p.C)), (flR (p.R))])] [(1, (flB (l)), true), (4, (AV.bool false), false), (5, (AV.ref (1 : Nat) (0 : Nat) (0 : Nat)), true), (6, v', true), (7, (I (IntKind.i64.wrap (k + (1 : Int)))), true)])))))))))))))))))))))) (.leaf ((Exit.exit (0 : Nat)), St.of 173 [o, (AObj.cells (0 : Nat) [(flL (p.V)), (flLL (p.C)), (flR (p.R))])] [(1, (flB (l)), true), (4, (AV.bool false), false), (5, (AV.ref (1 : Nat) (0 : Nat) (0 : Nat)), true), (6, v, true), (7, (I k), true)]))) (.leaf ((Exit.exit (0 : Nat)), St.of 173 [o, (AObj.cells (0 : Nat) [(flL (p.V)), (flLL (p.C)), (flR (p.R))])] [(1, (flB (l)), true), (4, (AV.bool false), false), (5, (AV.ref (1 : Nat) (0 : Nat) (0 : Nat)), true), (6, v, true), (7, (I k), true)])) := by kernel_rfl
/-! ### The values of the next variable -/
def st5v (p : Pb) (a : List Int) (c e : Int) (f : Bool) (b n k : Int) : St := .of 173 (hP p .resv) [(4, .bool false, false), (5, .ref 1 0 0, true), (6, flL a, true), (8, I c, true), (9, I e, true), (16, .bool f, true), (17, I b, true), (123, I n, true), (124, I k, true)]
def keep5v : List Nat := [4, 5, 6, 8, 9, 16, 17, 123, 124]
def hs5v (p : Pb) (h1 h2 : Heap) : Nat → Heap
  | 0 => hP p .resv
  | 1 => hP p .resv ++ h1
  | _ => hP p .resv ++ h2
def E5v (q : Prop) (p : Pb) (a : List Int) (k : Int) (cv av : AV) (h1 h2 : Heap) (d e : Int) : Env := { boxRow := false, clh := clhq q [(14, [flL a], hP p .resv, cv, hP p .resv ++ h1), (13, [pAV p, av], hP p .resv ++ h2, .tup [I d, I e], hP p .resv ++ h2)], hint := hApp 22 cv (.sl 1 [[I k]]) av (hP p .resv ++ h1) (hP p .resv ++ h2) }
theorem run5v (q : Prop) (p : Pb) (a : List Int) (c e : Int) (f : Bool) (b n k : Int) (cv av : AV) (h1 h2 : Heap) (d e2 : Int) : xBodyMT (E5v q p a k cv av h1 h2 d e2) (mv5 21 [2, 5] (hs5v p h1 h2)) 200 noLoops keep5v 2 body5v (st5v p a c e f b n k) = .ite (decide (k < n)) (.need ([AObj.resv, (AObj.cells (0 : Nat) [(flL (p.V)), (flLL (p.C)), (flR (p.R))])] = [AObj.resv, (AObj.cells (0 : Nat) [(flL (p.V)), (flLL (p.C)), (flR (p.R))])]) (.need ([AObj.resv, (AObj.cells (0 : Nat) [(flL (p.V)), (flLL (p.C)), (flR (p.R))])] = [AObj.resv, (AObj.cells (0 : Nat) [(flL (p.V)), (flLL (p.C)), (flR (p.R))])]) (.need (((AV.agg [(flL (p.V)), (flLL (p.C)), (flR (p.R))]) = (AV.agg [(flL (p.V)), (flLL (p.C)), (flR (p.R))])) ∧ ((AObj.resv :: ((AObj.cells (0 : Nat) [(flL (p.V)), (flLL (p.C)), (flR (p.R))]) :: h1)) = (AObj.resv :: ((AObj.cells (0 : Nat) [(flL (p.V)), (flLL (p.C)), (flR (p.R))]) :: h1)))) (.need (((AV.agg [(flL (p.V)), (flLL (p.C)), (flR (p.R))]) = (AV.agg [(flL (p.V)), (flLL (p.C)), (flR (p.R))])) ∧ ((AObj.resv :: ((AObj.cells (0 : Nat) [(flL (p.V)), (flLL (p.C)), (flR (p.R))]) :: h2)) = (AObj.resv :: ((AObj.cells (0 : Nat) [(flL (p.V)), (flLL (p.C)), (flR (p.R))]) :: h2)))) (.need ([AObj.resv, (AObj.cells (0 : Nat) [(flL (p.V)), (flLL (p.C)), (flR (p.R))])] = [AObj.resv, (AObj.cells (0 : Nat) [(flL (p.V)), (flLL (p.C)), (flR (p.R))])]) (.need (q) (.need (([(flL (a))] = [(flL (a))]) ∧ ([AObj.resv, (AObj.cells (0 : Nat) [(flL (p.V)), (flLL (p.C)), (flR (p.R))])] = [AObj.resv, (AObj.cells (0 : Nat) [(flL (p.V)), (flLL (p.C)), (flR (p.R))])])) (.need ((AObj.resv :: ((AObj.cells (0 : Nat) [(flL (p.V)), (flLL (p.C)), (flR (p.R))]) :: h1)) = (AObj.resv :: ((AObj.cells (0 : Nat) [(flL (p.V)), (flLL (p.C)), (flR (p.R))]) :: h1))) (.need ([AObj.resv, (AObj.cells (0 : Nat) [(flL (p.V)), (flLL (p.C)), (flR (p.R))])] = [AObj.resv, (AObj.cells (0 : Nat) [(flL (p.V)), (flLL (p.C)), (flR (p.R))])]) (.need (((I k) = (I k)) ∧ ((AObj.resv :: ((AObj.cells (0 : Nat) [(flL (p.V)), (flLL (p.C)), (flR (p.R))]) :: h1)) = (AObj.resv :: ((AObj.cells (0 : Nat) [(flL (p.V)), (flLL (p.C)), (flR (p.R))]) :: h1)))) (.need ([AObj.resv, (AObj.cells (0 : Nat) [(flL (p.V)), (flLL (p.C)), (flR (p.R))])] = [AObj.resv, (AObj.cells (0 : Nat) [(flL (p.V)), (flLL (p.C)), (flR (p.R))])]) (.need (((AV.sl (1 : Nat) [[(I k)]]) = (AV.sl (1 : Nat) [[(I k)]])) ∧ ((AObj.resv :: ((AObj.cells (0 : Nat) [(flL (p.V)), (flLL (p.C)), (flR (p.R))]) :: h1)) = (AObj.resv :: ((AObj.cells (0 : Nat) [(flL (p.V)), (flLL (p.C)), (flR (p.R))]) :: h1)))) (.need (((Option.some [cv, (AV.sl (1 : Nat) [[(I k)]])]) = (Option.some [cv, (AV.sl (1 : Nat) [[(I k)]])])) ∧ (((#[(22 : Nat), (22 : Nat)]) = (#[(22 : TypeId), (22 : TypeId)])) ∧ (((AObj.resv :: ((AObj.cells (0 : Nat) [(flL (p.V)), (flLL (p.C)), (flR (p.R))]) :: h1)) = (AObj.resv :: ((AObj.cells (0 : Nat) [(flL (p.V)), (flLL (p.C)), (flR (p.R))]) :: h1))) ∧ ((aAppend Try.prog (hP p AObj.resv ++ h1) (22 : TypeId) (22 : TypeId) cv (AV.sl (1 : Nat) [[I k]])) = (Option.some (av, (AObj.resv :: ((AObj.cells (0 : Nat) [(flL (p.V)), (flLL (p.C)), (flR (p.R))]) :: h2)))))))) (.need ((AObj.resv :: ((AObj.cells (0 : Nat) [(flL (p.V)), (flLL (p.C)), (flR (p.R))]) :: h2)) = (AObj.resv :: ((AObj.cells (0 : Nat) [(flL (p.V)), (flLL (p.C)), (flR (p.R))]) :: h2))) (.need (q) (.need (([(AV.agg [(flL (p.V)), (flLL (p.C)), (flR (p.R))]), av] = [(AV.agg [(flL (p.V)), (flLL (p.C)), (flR (p.R))]), av]) ∧ ((AObj.resv :: ((AObj.cells (0 : Nat) [(flL (p.V)), (flLL (p.C)), (flR (p.R))]) :: h2)) = (AObj.resv :: ((AObj.cells (0 : Nat) [(flL (p.V)), (flLL (p.C)), (flR (p.R))]) :: h2)))) (.need ((AObj.resv :: ((AObj.cells (0 : Nat) [(flL (p.V)), (flLL (p.C)), (flR (p.R))]) :: h2)) = (AObj.resv :: ((AObj.cells (0 : Nat) [(flL (p.V)), (flLL (p.C)), (flR (p.R))]) :: h2))) (.need ((AObj.resv :: ((AObj.cells (0 : Nat) [(flL (p.V)), (flLL (p.C)), (flR (p.R))]) :: h2)) = (AObj.resv :: ((AObj.cells (0 : Nat) [(flL (p.V)), (flLL (p.C)), (flR (p.R))]) :: h2))) (.need ((AObj.resv :: ((AObj.cells (0 : Nat) [(flL (p.V)), (flLL (p.C)), (flR (p.R))]) :: h2)) = (AObj.resv :: ((AObj.cells (0 : Nat) [(flL (p.V)), (flLL (p.C)), (flR (p.R))]) :: h2))) (.need ((AObj.resv :: ((AObj.cells (0 : Nat) [(flL (p.V)), (flLL (p.C)), (flR (p.R))]) :: h2)) = (AObj.resv :: ((AObj.cells (0 : Nat) [(flL (p.V)), (flLL (p.C)), (flR (p.R))]) :: h2))) (.need ((AObj.resv :: ((AObj.cells (0 : Nat) [(flL (p.V)), (flLL (p.C)), (flR (p.R))]) :: h2)) = (AObj.resv :: ((AObj.cells (0 : Nat) [(flL (p.V)), (flLL (p.C)), (flR (p.R))]) :: h2))) (.need ((AObj.resv :: ((AObj.cells (0 : Nat) [(flL (p.V)), (flLL (p.C)), (flR (p.R))]) :: h2)) = (AObj.resv :: ((AObj.cells (0 : Nat) [(flL (p.V)), (flLL (p.C)), (flR (p.R))]) :: h2))) (.ite (e2 == (0 : Int)) (.ite (!f) (.ite (e2 != (0 : Int)) (.ite (e2 != (7 : Int)) (.leaf (Exit.ret, St.of 173 [AObj.resv, (AObj.cells (0 : Nat) [(flL (p.V)), (flLL (p.C)), (flR (p.R))])] [(4, (AV.bool false), false), (5, (AV.ref (1 : Nat) (0 : Nat) (0 : Nat)), true), (6, (flL (a)), true), (8, (I c), true), (9, (I e), true), (16, (AV.bool true), false), (17, (I d), true), (123, (I n), true), (124, (I k), true)])) (.leaf (Exit.normal, St.of 173 [AObj.resv, (AObj.cells (0 : Nat) [(flL (p.V)), (flLL (p.C)), (flR (p.R))])] [(4, (AV.bool false), false), (5, (AV.ref (1 : Nat) (0 : Nat) (0 : Nat)), true), (6, (flL (a)), true), (8, (I c), true), (9, (I e), true), (16, (AV.bool true), false), (17, (I d), true), (123, (I n), true), (124, (I (IntKind.i64.wrap (k + (1 : Int)))), true)]))) (.leaf (Exit.normal, St.of 173 [AObj.resv, (AObj.cells (0 : Nat) [(flL (p.V)), (flLL (p.C)), (flR (p.R))])] [(4, (AV.bool false), false), (5, (AV.ref (1 : Nat) (0 : Nat) (0 : Nat)), true), (6, (flL (a)), true), (8, (I c), true), (9, (I e), true), (16, (AV.bool true), false), (17, (I d), true), (123, (I n), true), (124, (I (IntKind.i64.wrap (k + (1 : Int)))), true)]))) (.ite (decide (d < b)) (.ite (e2 != (0 : Int)) (.ite (e2 != (7 : Int)) (.leaf (Exit.ret, St.of 173 [AObj.resv, (AObj.cells (0 : Nat) [(flL (p.V)), (flLL (p.C)), (flR (p.R))])] [(4, (AV.bool false), false), (5, (AV.ref (1 : Nat) (0 : Nat) (0 : Nat)), true), (6, (flL (a)), true), (8, (I c), true), (9, (I e), true), (16, (AV.bool true), false), (17, (I d), true), (123, (I n), true), (124, (I k), true)])) (.leaf (Exit.normal, St.of 173 [AObj.resv, (AObj.cells (0 : Nat) [(flL (p.V)), (flLL (p.C)), (flR (p.R))])] [(4, (AV.bool false), false), (5, (AV.ref (1 : Nat) (0 : Nat) (0 : Nat)), true), (6, (flL (a)), true), (8, (I c), true), (9, (I e), true), (16, (AV.bool true), false), (17, (I d), true), (123, (I n), true), (124, (I (IntKind.i64.wrap (k + (1 : Int)))), true)]))) (.leaf (Exit.normal, St.of 173 [AObj.resv, (AObj.cells (0 : Nat) [(flL (p.V)), (flLL (p.C)), (flR (p.R))])] [(4, (AV.bool false), false), (5, (AV.ref (1 : Nat) (0 : Nat) (0 : Nat)), true), (6, (flL (a)), true), (8, (I c), true), (9, (I e), true), (16, (AV.bool true), false), (17, (I d), true), (123, (I n), true), (124, (I (IntKind.i64.wrap (k + (1 : Int)))), true)]))) (.ite (e2 != (0 : Int)) (.ite (e2 != (7 : Int)) (.leaf (Exit.ret, St.of 173 [AObj.resv, (AObj.cells (0 : Nat) [(flL (p.V)), (flLL (p.C)), (flR (p.R))])] [(4, (AV.bool false), false), (5, (AV.ref (1 : Nat) (0 : Nat) (0 : Nat)), true), (6, (flL (a)), true), (8, (I c), true), (9, (I e), true), (16, (AV.bool f), true), (17, (I b), true), (123, (I n), true), (124, (I k), true)])) (.leaf (Exit.normal, St.of 173 [AObj.resv, (AObj.cells (0 : Nat) [(flL (p.V)), (flLL (p.C)), (flR (p.R))])] [(4, (AV.bool false), false), (5, (AV.ref (1 : Nat) (0 : Nat) (0 : Nat)), true), (6, (flL (a)), true), (8, (I c), true), (9, (I e), true), (16, (AV.bool f), true), (17, (I b), true), (123, (I n), true), (124, (I (IntKind.i64.wrap (k + (1 : Int)))), true)]))) (.leaf (Exit.normal, St.of 173 [AObj.resv, (AObj.cells (0 : Nat) [(flL (p.V)), (flLL (p.C)), (flR (p.R))])] [(4, (AV.bool false), false), (5, (AV.ref (1 : Nat) (0 : Nat) (0 : Nat)), true), (6, (flL (a)), true), (8, (I c), true), (9, (I e), true), (16, (AV.bool f), true), (17, (I b), true), (123, (I n), true), (124, (I (IntKind.i64.wrap (k + (1 : Int)))), true)]))))) (.ite (e2 != (0 : Int)) (.ite (e2 != (7 : Int)) (.leaf (Exit.ret, St.of 173 [AObj.resv, (AObj.cells (0 : Nat) [(flL (p.V)), (flLL (p.C)), (flR (p.R))])] [(4, (AV.bool false), false), (5, (AV.ref (1 : Nat) (0 : Nat) (0 : Nat)), true), (6, (flL (a)), true), (8, (I c), true), (9, (I e), true), (16, (AV.bool f), true), (17, (I b), true), (123, (I n), true), (124, (I k), true)])) (.leaf (Exit.normal, St.of 173 [AObj.resv, (AObj.cells (0 : Nat) [(flL (p.V)), (flLL (p.C)), (flR (p.R))])] [(4, (AV.bool false), false), (5, (AV.ref (1 : Nat) (0 : Nat) (0 : Nat)), true), (6, (flL (a)), true), (8, (I c), true), (9, (I e), true), (16, (AV.bool f), true), (17, (I b), true), (123, (I n), true), (124, (I (IntKind.i64.wrap (k + (1 : Int)))), true)]))) (.leaf (Exit.normal, St.of 173 [AObj.resv, (AObj.cells (0 : Nat) [(flL (p.V)), (flLL (p.C)), (flR (p.R))])] [(4, (AV.bool false), false), (5, (AV.ref (1 : Nat) (0 : Nat) (0 : Nat)), true), (6, (flL (a)), true), (8, (I c), true), (9, (I e), true), (16, (AV.bool f), true), (17, (I b), true), (123, (I n), true), (124, (I (IntKind.i64.wrap (k + (1 : Int)))), true)])))))))))))))))))))))))))) (.leaf ((Exit.exit (2 : Nat)), St.of 173 [AObj.resv, (AObj.cells (0 : Nat) [(flL (p.V)), (flLL (p.C)), (flR (p.R))])] [(4, (AV.bool false), false), (5, (AV.ref (1 : Nat) (0 : Nat) (0 : Nat)), true), (6, (flL (a)), true), (8, (I c), true), (9, (I e), true), (16, (AV.bool f), true), (17, (I b), true), (123, (I n), true), (124, (I k), true)])) := by kernel_rfl
def k5 (x : Pz) (p : Pb) (a bk : List Int) (c e w : Int) (ok : Bool) : List (FuncId × (List AV → Prop) × (List AV → AV)) :=
  [(18, is1 [pzAV x] (pAV p)), (14, is1 [flL a] (flL a)), (13, is1 [pAV p, flL a] (.tup [I c, I e])), (24, is1 [pAV p, flL a] (.tup [flL bk, I 0])), (25, is1 [pAV p, flL a] (.tup [I w, I 0])), (20, is1 [pAV p, flL a] (.tup [.bool ok, I w])), (12, is1 [] (.bool true))]
def E5F (x : Pz) (p : Pb) (a bk : List Int) (c e w : Int) (ok : Bool) : Env := { EN (k5 x p a bk c e w ok) (hStA 26 1) with boxRow := true }
def k5n (x : Pz) (p : Pb) (a : List Int) (c e : Int) : List (FuncId × (List AV → Prop) × (List AV → AV)) :=
  [(18, is1 [pzAV x] (pAV p)), (14, is1 [flL a] (flL a)), (13, is1 [pAV p, flL a] (.tup [I c, I e])), (12, is1 [] (.bool true))]
def E5N (x : Pz) (p : Pb) (a : List Int) (c e : Int) : Env := { EN (k5n x p a c e) (hStA 26 1) with boxRow := true }
theorem runF5 (x : Pz) (p : Pb) (l a : List Int) (c e : Int) (f : Bool) (b : Int) : xenter Try.prog (E5N x p a c e) (xCode Try.prog G0 (E5N x p a c e) 200 (lpAnd (lpB 4 keep5p (st5p p l .zs .resv 0) (.exit 0) (st5p p l (flL a) .resv a.length)) (lpB 19 keep5v (st5v p a c e false 0 (p.V.getD a.length 0) 0) (.exit 2) (st5v p a c e f b (p.V.getD a.length 0) (p.V.getD a.length 0))))) 5 [pzAV x, flB l] [true, true] [.resv] = .need ([(AV.agg [(flB (x.V)), (flB (x.C)), (flC (x.R))])] = [(AV.agg [(flB (x.V)), (flB (x.C)), (flC (x.R))])]) (.need (((Option.some (3 : Nat)) = (Option.some (3 : Nat))) ∧ ((true = true) ∧ ((3 : Nat) ≤ (3 : Nat)))) (.need ((st5p p l .zs .resv 0).vals = (st5p p l .zs .resv 0).vals) (.need ([(flL (a))] = [(flL (a))]) (.need ([(AV.agg [(flL (p.V)), (flLL (p.C)), (flR (p.R))]), (flL (a))] = [(AV.agg [(flL (p.V)), (flLL (p.C)), (flR (p.R))]), (flL (a))]) (.ite ((↑a.length : Int) == (↑p.V.length : Int)) (.need ([(flL (a))] = [(flL (a))]) .fail) (.need (((0 : Int) ≤ (↑a.length : Int)) ∧ ((↑a.length : Int) < (↑p.V.length : Int))) (.need ((st5v p a c e false 0 (p.V.getD a.length 0) 0).vals = (st5v p a c e false 0 (p.V.getD a.length 0) 0).vals) (.ite (!f) (.ite (e == (7 : Int)) (.need (([] : List AV) = []) (.leaf ((AV.bool true), true, [AObj.resv, (AObj.cells (0 : Nat) [(flL (p.V)), (flLL (p.C)), (flR (p.R))])]))) (.leaf ((AV.bool false), false, [AObj.resv, (AObj.cells (0 : Nat) [(flL (p.V)), (flLL (p.C)), (flR (p.R))])]))) (.ite (e == (0 : Int)) (.ite (c == b) (.need (([] : List AV) = []) (.leaf ((AV.bool true), true, [AObj.resv, (AObj.cells (0 : Nat) [(flL (p.V)), (flLL (p.C)), (flR (p.R))])]))) (.leaf ((AV.bool false), false, [AObj.resv, (AObj.cells (0 : Nat) [(flL (p.V)), (flLL (p.C)), (flR (p.R))])]))) (.leaf ((AV.bool false), false, [AObj.resv, (AObj.cells (0 : Nat) [(flL (p.V)), (flLL (p.C)), (flR (p.R))])]))))))))))) := by kernel_rfl
theorem runF5w (x : Pz) (p : Pb) (l a bk : List Int) (c e w : Int) (ok : Bool) : xenter Try.prog (E5F x p a bk c e w ok) (xCode Try.prog G0 (E5F x p a bk c e w ok) 200 (lpAnd (lpB 4 keep5p (st5p p l .zs .resv 0) (.exit 0) (st5p p l (flL a) .resv a.length)) (lpF 19 keep5v (st5v p a c e false 0 (p.V.getD a.length 0) 0)))) 5 [pzAV x, flB l] [true, true] [.resv] = .need ([(AV.agg [(flB (x.V)), (flB (x.C)), (flC (x.R))])] = [(AV.agg [(flB (x.V)), (flB (x.C)), (flC (x.R))])]) (.need (((Option.some (3 : Nat)) = (Option.some (3 : Nat))) ∧ ((true = true) ∧ ((3 : Nat) ≤ (3 : Nat)))) (.need ((st5p p l .zs .resv 0).vals = (st5p p l .zs .resv 0).vals) (.need ([(flL (a))] = [(flL (a))]) (.need ([(AV.agg [(flL (p.V)), (flLL (p.C)), (flR (p.R))]), (flL (a))] = [(AV.agg [(flL (p.V)), (flLL (p.C)), (flR (p.R))]), (flL (a))]) (.ite ((↑a.length : Int) == (↑p.V.length : Int)) (.need ([(flL (a))] = [(flL (a))]) (.need ([(AV.agg [(flL (p.V)), (flLL (p.C)), (flR (p.R))]), (flL (a))] = [(AV.agg [(flL (p.V)), (flLL (p.C)), (flR (p.R))]), (flL (a))]) (.need ([(flL (a))] = [(flL (a))]) (.need ([(AV.agg [(flL (p.V)), (flLL (p.C)), (flR (p.R))]), (flL (a))] = [(AV.agg [(flL (p.V)), (flLL (p.C)), (flR (p.R))]), (flL (a))]) (.need ([(AV.agg [(flL (p.V)), (flLL (p.C)), (flR (p.R))]), (flL (a))] = [(AV.agg [(flL (p.V)), (flLL (p.C)), (flR (p.R))]), (flL (a))]) (.ite ((0 : Int) != (0 : Int)) (.leaf ((AV.bool false), false, [AObj.resv, (AObj.cells (0 : Nat) [(flL (p.V)), (flLL (p.C)), (flR (p.R))])])) (.ite ((0 : Int) != (0 : Int)) (.leaf ((AV.bool false), false, [AObj.resv, (AObj.cells (0 : Nat) [(flL (p.V)), (flLL (p.C)), (flR (p.R))])])) (.ite (w != w) (.leaf ((AV.bool false), false, [AObj.resv, (AObj.cells (0 : Nat) [(flL (p.V)), (flLL (p.C)), (flR (p.R))])])) (.ite (!((↑bk.length : Int) == (0 : Int)) == ok) (.leaf ((AV.bool false), false, [AObj.resv, (AObj.cells (0 : Nat) [(flL (p.V)), (flLL (p.C)), (flR (p.R))])])) (.ite (!ok) (.ite (e == (7 : Int)) (.need (([] : List AV) = []) (.leaf ((AV.bool true), true, [AObj.resv, (AObj.cells (0 : Nat) [(flL (p.V)), (flLL (p.C)), (flR (p.R))])]))) (.leaf ((AV.bool false), false, [AObj.resv, (AObj.cells (0 : Nat) [(flL (p.V)), (flLL (p.C)), (flR (p.R))])]))) (.ite (e == (0 : Int)) (.ite (c == w) (.need (([] : List AV) = []) (.leaf ((AV.bool true), true, [AObj.resv, (AObj.cells (0 : Nat) [(flL (p.V)), (flLL (p.C)), (flR (p.R))])]))) (.leaf ((AV.bool false), false, [AObj.resv, (AObj.cells (0 : Nat) [(flL (p.V)), (flLL (p.C)), (flR (p.R))])]))) (.leaf ((AV.bool false), false, [AObj.resv, (AObj.cells (0 : Nat) [(flL (p.V)), (flLL (p.C)), (flR (p.R))])]))))))))))))) (.need (((0 : Int) ≤ (↑a.length : Int)) ∧ ((↑a.length : Int) < (↑p.V.length : Int))) (.need ((st5v p a c e false 0 (p.V.getD a.length 0) 0).vals = (st5v p a c e false 0 (p.V.getD a.length 0) 0).vals) .fail))))))) := by kernel_rfl
end Go.Proofs.Ytngaihdpmoajeaa.Am

namespace Go.Proofs.Ytngaihdpmoajeaa.Am
open Go
set_option maxRecDepth 100000

theorem rndMT {E : Env} (hcl : ClOk Try.prog G0 E) {mv : Nat → Option (List Nat × (Nat → Heap))} {R : Option Nat → Prop} {lp : Loops} {n m : Nat} {keep : List Nat} {c : Code} {st : St} {e : Exit} {st' t : St} (hlp : LoopsOk Try.prog G0 R [] lp c)
    (h0 : st.h.length = m) (hc : CleanT m t) (hx : (xBodyMT E mv n lp keep m c st).sel = some (e, st')) (hv : st'.vals = t.vals) : AExec Try.prog G0 R c { tmps := st.a } st.h e { tmps := t.a } t.h := by
  obtain ⟨e1, e2⟩ := vals_eq hv
  have hc' : CleanT m st' := by
    unfold CleanT
    rw [e1, e2]
    exact hc
  have := xBodyMT_ok hcl hlp h0 hc' hx
  rwa [e1, e2] at this
/-- What a round comes to, whatever is thought of as unknown. -/
def SelV (t : Tree (Exit × St)) (e : Exit) (s : St) : Prop := ∃ st', t.sel = some (e, st') ∧ st'.vals = s.vals
theorem sv_leaf {st s : St} {e : Exit} (h : st.vals = s.vals) : SelV (.leaf (e, st)) e s := ⟨st, rfl, h⟩
theorem sv_need {p : Prop} {x : Tree (Exit × St)} {e : Exit} {s : St} (hp : p) (h : SelV x e s) : SelV (.need p x) e s := by
  obtain ⟨st, h1, h2⟩ := h
  exact ⟨st, (selN hp).trans h1, h2⟩
theorem sv_ite {b : Bool} {x y : Tree (Exit × St)} {e : Exit} {s : St} (hx : b = true → SelV x e s) (hy : b = false → SelV y e s) : SelV (.ite b x y) e s := by
  cases b with
  | true => exact hx rfl
  | false => exact hy rfl
theorem rndMV {E : Env} (hcl : ClOk Try.prog G0 E) {mv : Nat → Option (List Nat × (Nat → Heap))} {R : Option Nat → Prop} {lp : Loops} {n m : Nat} {keep : List Nat} {c : Code} {st : St} {e : Exit} {s : St} {t : Tree (Exit × St)} (hlp : LoopsOk Try.prog G0 R [] lp c)
    (h0 : st.h.length = m) (hc : CleanT m s) (hx : xBodyMT E mv n lp keep m c st = t) (hs : SelV t e s) : AExec Try.prog G0 R c { tmps := st.a } st.h e { tmps := s.a } s.h := by
  obtain ⟨st', h1, h2⟩ := hs
  exact rndMT hcl hlp h0 hc ((congrArg Tree.sel hx).trans h1) h2
/-! ### The beginning -/
def preF (p : Pb) (l : List Int) (i : Nat) : Int := (l.getD i 0).tmod (p.V.getD i 0)
def N5 (p : Pb) (l : List Int) : Nat := min l.length p.V.length
def preB (p : Pb) (l : List Int) : List Int := preL (preF p l) (N5 p l)
def st5p' (p : Pb) (l L : List Int) (k : Int) : St := st5p p l (sV 1 0 (rowI L)) (sO (rowI L)) k
theorem below_flB (L : List Int) : Below 0 (flB L) := below_fl fun i y hy => by rw [List.mem_singleton.1 hy]; exact .int _ _
theorem alone_P (p : Pb) (L : List Int) : ∀ o ∈ hP p (sO (rowI L)), Alone 2 o := fun o ho => by
  simp only [hP, List.mem_cons, List.not_mem_nil, or_false] at ho
  rcases ho with rfl | rfl
  · exact alone_rowI _
  · exact fun y hy => (below_pb p y hy).up
theorem clean5p (p : Pb) (l L : List Int) (k : Int) : CleanT 2 (st5p' p l L k) :=
  cleanT_of rfl (alone_P p L) ⟨(below_flB _).up, .bool _, .ref _ _ _ (by omega), below_sV (by omega), .int _ _, trivial⟩
theorem loop5p {p : Pb} (hp : Ok p) {l : List Int} (hl : ∀ k, 0 ≤ l.getD k 0 ∧ l.getD k 0 ≤ 255) : LoopA body5p (N5 p l) (fun k => st5p' p l (preL (preF p l) k) k) (fun k => st5p' p l (preL (preF p l) k) k) (st5p' p l (preB p l) (N5 p l)) .ret (.exit 0) fun _ => false where
  n0 _ := rfl
  nR _ := rfl
  nX := rfl
  neR := nofun
  neX := nofun
  go k hk _ _ := by
    have hn := hp.n
    have hkl : k < l.length ∧ k < p.V.length := by unfold N5 at hk; omega
    have hlk := hl k
    have hv := hp.v k hkl.2
    have key := congrArg Tree.sel (run5p True p l (sV 1 0 (rowI (preL (preF p l) k))) (sV 1 0 (rowI (preL (preF p l) k ++ [preF p l k]))) (sO (rowI (preL (preF p l) k))) (sO (rowI (preL (preF p l) k ++ [preF p l k]))) k (preF p l k))
    have w1 : IntKind.i64.wrap (l.getD k 0) = l.getD k 0 := wrapI (by omega)
    have w2 : IntKind.i64.wrap (k + 1 : Int) = ((k + 1 : Nat) : Int) := (wrapI (by omega)).trans (by omega)
    rw [Int.toNat_natCast, w1, w2, ← preL_succ] at key
    refine rndMT (m := 2) (st := st5p' p l (preL (preF p l) k) k) (t := st5p' p l (preL (preF p l) (k + 1)) (k + 1 : Nat)) (clokHint ((hApO_ok els22 fun _ => by rw [preL_succ]; exact grow_I (by rw [preL_len]; omega) _ 0).or hBit_ok.ok)) (lpNo _) rfl (clean5p p l _ _) (key.trans ((selIt (dT (by omega))).trans ((selIt (dT (by omega))).trans ?_))) rfl
    repeat first
      | exact rfl
      | refine t_need rfl ?_
      | refine t_need ⟨by omega, by omega⟩ ?_
      | refine t_need (show p.V.getD k 0 ≠ 0 by omega) ?_
      | refine t_need ⟨rfl, rfl, trivial⟩ ?_
  st k _ _ hs := by cases hs
  en _ := by
    have key := congrArg Tree.sel (run5p False p l (sV 1 0 (rowI (preB p l))) (sV 1 0 (rowI (preB p l))) (sO (rowI (preB p l))) (sO (rowI (preB p l))) (N5 p l) 0)
    refine rndMT (m := 2) (st := st5p' p l (preB p l) (N5 p l)) (t := st5p' p l (preB p l) (N5 p l)) (clokHint ((hApO_ok els22 fun h => h.elim).or hBit_ok.ok)) (lpNo _) rfl (clean5p p l _ _) (key.trans (t_ite (fun h1 => (selIf (dF ?_)).trans rfl) fun _ => rfl)) rfl
    have := of_decide_eq_true h1
    unfold N5 at this ⊢
    omega
def D0 : Nat → Bool := fun q => Nat.beq q 0
theorem preB_len (p : Pb) (l : List Int) : (preB p l).length = N5 p l := preL_len _ _
theorem exec5p {p : Pb} (hp : Ok p) {l : List Int} (hl : ∀ k, 0 ≤ l.getD k 0 ∧ l.getD k 0 ≤ 255) : AExec Try.prog G0 (fun q => q = none) (.loop body5p) { tmps := (st5p p l .zs .resv 0).a } (hP p .resv) (.exit 0) { tmps := (st5p p l (flL (preB p l)) .resv (preB p l).length).a } (hP p .resv) := by
  rw [preB_len]
  refine (loop5p hp hl).drop (n := 2) (D := D0) (fun _ _ => rfl) rfl rfl (fun r q hr hD => ?_) ?_ ?_
  · obtain rfl := Nat.eq_of_beq_eq_true hD
    cases hr; rfl
  · exact ⟨.inl ⟨rfl, rfl⟩, .inr (.inl ⟨rfl, rfl, fun y hy => .of0 (below_pb p y hy)⟩), trivial⟩
  · exact ⟨rfl, Re.flat (below_flB _), rfl, Re.flat (.bool _), rfl, Re.good (.ref _ _ _ ⟨rfl, by omega⟩), rfl, re_ints rfl (dropP_none rfl), rfl, re_int, trivial⟩
theorem preB_beg {p : Pb} (hp : Ok p) {l : List Int} (hl : ∀ k, 0 ≤ l.getD k 0 ∧ l.getD k 0 ≤ 255) : Beg p (preB p l) := by
  have hlen := preB_len p l
  refine ⟨by rw [hlen]; unfold N5; omega, fun k hk => ?_⟩
  have hk' : k < N5 p l := by rw [← hlen]; exact hk
  have hv := hp.v k (by unfold N5 at hk'; omega)
  have h1 := hl k
  rw [show (preB p l).getD k 0 = preF p l k from preL_getD _ hk' _]
  unfold preF
  exact ⟨Int.tmod_nonneg _ h1.1, Int.tmod_lt_of_pos _ (by omega)⟩
/-! ### The least cost -/
def om (o : Option Int) (c : Int) : Option Int := match o with
  | none => some c
  | some b => if c < b then some c else some b
def omO (o : Option Int) : Option Int → Option Int
  | none => o
  | some d => om o d
theorem om_fold : ∀ (l : List Int) (o : Option Int), l.foldl om o = omO o (l.foldl om none)
  | [], o => rfl
  | x :: r, o => by
    rw [List.foldl_cons, List.foldl_cons, om_fold r (om o x), om_fold r (om none x)]
    cases hr : r.foldl om none with
    | none => rfl
    | some d =>
      show om (om o x) d = omO o (om (some x) d)
      cases o with
      | none => simp only [om, omO]; split <;> rfl
      | some b =>
        simp only [om, omO]
        by_cases h1 : x < b <;> by_cases h2 : d < x <;> by_cases h3 : d < b <;> simp only [h1, h2, h3, if_true, if_false] <;> first | rfl | omega
/-- The least cost of solutions that begin so. -/
def lcO (p : Pb) (a : List Int) : Option Int := (refW p a).map (costA p)
theorem fold_cost (p : Pb) : ∀ (l : List (List Int)) (b : Option (List Int)), (l.foldl (bstep p) b).map (costA p) = (l.map (costA p)).foldl om (b.map (costA p))
  | [], _ => rfl
  | x :: r, b => by
    rw [List.foldl_cons, List.map_cons, List.foldl_cons, fold_cost p r]
    congr 1
    cases b with
    | none => rfl
    | some y =>
      show ((bif decide (costA p x < costA p y) then some x else some y).map (costA p)) = if costA p x < costA p y then some (costA p x) else some (costA p y)
      by_cases h : costA p x < costA p y
      · rw [dT h, cond_true, if_pos h]; rfl
      · rw [dF h, cond_false, if_neg h]; rfl
theorem lcO_sol {p : Pb} (hp : Ok p) {a : List Int} (ha : Beg p a) : lcO p a = ((solL p (p.V.length - a.length) a).map (costA p)).foldl om none := by
  unfold lcO
  rw [refW_sol hp ha, fold_cost]
  rfl
theorem sol_flat (p : Pb) (d : Nat) (a : List Int) : solL p (d + 1) a = (rng (p.V.getD a.length 0).toNat 0).flatMap fun k => solL p d (a ++ [k]) := by
  unfold solL
  show ((rng (p.V.getD a.length 0).toNat 0).flatMap fun k => allL p d (a ++ [k])).filter _ = _
  rw [List.filter_flatMap]
/-- The least of the first values'. -/
def bO (p : Pb) (a : List Int) (k : Nat) : Option Int := (rng k 0).foldl (fun o j => omO o (lcO p (a ++ [j]))) none
theorem bO_succ (p : Pb) (a : List Int) (k : Nat) : bO p a (k + 1) = omO (bO p a k) (lcO p (a ++ [(k : Int)])) := by
  unfold bO
  rw [rng_snoc, List.foldl_append, Int.zero_add]
  rfl
theorem bO_all {p : Pb} (hp : Ok p) {a : List Int} (ha : Beg p a) (hl : a.length < p.V.length) : bO p a (p.V.getD a.length 0).toNat = lcO p a := by
  rw [lcO_sol hp ha]
  obtain ⟨d, hd⟩ : ∃ d, p.V.length - a.length = d + 1 := ⟨p.V.length - a.length - 1, by omega⟩
  rw [hd, sol_flat]
  have key : ∀ m : Nat, m ≤ (p.V.getD a.length 0).toNat → bO p a m = (((rng m 0).flatMap fun k => solL p d (a ++ [k])).map (costA p)).foldl om none := by
    intro m
    induction m with
    | zero => intro _; rfl
    | succ m ih =>
      intro hm
      have hb := beg_app ha hl (x := (m : Int)) (by omega) (by omega)
      rw [bO_succ, ih (by omega), rng_snoc, List.flatMap_append, List.map_append, List.foldl_append, List.flatMap_singleton, Int.zero_add, lcO_sol hp hb, List.length_append, List.length_singleton, show p.V.length - (a.length + 1) = d by omega]
      exact (om_fold _ _).symm
  exact key _ (Nat.le_refl _)
/-! ### The values of the next variable -/
theorem clean5v (p : Pb) (a : List Int) (c e : Int) (f : Bool) (b n k : Int) : CleanT 2 (st5v p a c e f b n k) :=
  cleanT_of rfl (alone_P p []) ⟨.bool _, .ref _ _ _ (by omega), (below_flL _).up, .int _ _, .int _ _, .bool _, .int _ _, .int _ _, .int _ _, trivial⟩
def avX (a : List Int) (k : Int) : AV := .ms 1 2 (cpG a) 0 (a ++ [k]).length (a ++ [k]).length
theorem c13x {p : Pb} (hs : p.sh) {a : List Int} (ha : sh a) (g : Nat) {v : AV} (hv : leastR p a (bestW p a) = v) (hf : Flat v) : ACall Try.prog G0 13 [pAV p, .ms 1 2 g 0 a.length a.length] (hP p .resv ++ [.cells g (a.map I)]) v (hP p .resv ++ [.cells g (a.map I)]) := by
  have h1 : ACall Try.prog G0 13 [pAV p, slL a] [] v [] := (hv ▸ c13 hs ha []).arg2 (Sub.rfl' _) (sub_slL a)
  refine h1.frz gbelow0 hf rfl fun j x' hj => ?_
  match j, hj with
  | 0, hj => cases hj; exact ⟨_, rfl, .inr (.inl ⟨below_pAV p, rfl⟩)⟩
  | 1, hj =>
    cases hj
    refine ⟨_, rfl, .inr (.inr ⟨2, g, a.map I, by rw [List.length_map], rfl, fun y hy => ?_, rfl⟩)⟩
    obtain ⟨k, _, rfl⟩ := List.mem_map.1 hy
    exact .int _ _
  | j + 2, hj => simp at hj
theorem least_at {p : Pb} (hp : Ok p) {a : List Int} (ha : Beg p a) : leastR p a (bestW p a) = .tup [I ((lcO p a).getD 0), I (bif (lcO p a).isSome then 0 else 7)] := by
  unfold leastR
  rw [valid_iff.2 hp, beg_iff.2 ha, cond_true, cond_true, best_ref hp ha]
  unfold lcO
  cases refW p a <;> rfl
theorem vals5v (p : Pb) (a : List Int) (c e b n k : Int) : (St.of 173 [AObj.resv, AObj.cells 0 [flL p.V, flLL p.C, flR p.R]] [(4, AV.bool false, false), (5, AV.ref 1 0 0, true), (6, flL a, true), (8, I c, true), (9, I e, true), (16, AV.bool true, false), (17, I b, true), (123, I n, true), (124, I k, true)]).vals = (st5v p a c e true b n k).vals := by kernel_rfl
def S5v (p : Pb) (a : List Int) (c e : Int) (k : Nat) : St := st5v p a c e (bO p a k).isSome ((bO p a k).getD 0) (p.V.getD a.length 0) k
theorem loop5v {p : Pb} (hp : Ok p) {a : List Int} (ha : Beg p a) (hl : a.length < p.V.length) (c e : Int) : LoopA body5v (p.V.getD a.length 0).toNat (S5v p a c e) (S5v p a c e) (S5v p a c e (p.V.getD a.length 0).toNat) .ret (.exit 2) fun _ => false where
  n0 _ := rfl
  nR _ := rfl
  nX := rfl
  neR := nofun
  neX := nofun
  go k hk _ _ := by
    have hs := ok_sh hp
    have hn := hp.n
    have hv := hp.v a.length hl
    have hb := beg_app ha hl (x := (k : Int)) (by omega) (by omega)
    have hla := least_at hp hb
    have hbs : sh (a ++ [(k : Int)]) := beg_sh hp hb
    have key := run5v True p a c e (bO p a k).isSome ((bO p a k).getD 0) (p.V.getD a.length 0) k (cpV 2 a) (avX a k) (cpO a) [.cells (cpG a) ((a ++ [(k : Int)]).map I)] ((lcO p (a ++ [(k : Int)])).getD 0) (bif (lcO p (a ++ [(k : Int)])).isSome then 0 else 7)
    have w2 : IntKind.i64.wrap (k + 1 : Int) = ((k + 1 : Nat) : Int) := (wrapI (by omega)).trans (by omega)
    have happ := app_cl (a := a) (by omega) k (hP p .resv)
    have hcl : ClOk Try.prog G0 (E5v True p a k (cpV 2 a) (avX a k) (cpO a) [.cells (cpG a) ((a ++ [(k : Int)]).map I)] ((lcO p (a ++ [(k : Int)])).getD 0) (bif (lcO p (a ++ [(k : Int)])).isSome then 0 else 7)) := by
      refine .all (hApp_ok _ _ _ _ _ _).ok (clhq_ok fun _ z hz => ?_) (fun l xs σ t v σ' h => (by cases h)) fun f xs t v h => by cases h
      simp only [List.mem_cons, List.not_mem_nil, or_false] at hz
      rcases hz with rfl | rfl
      · exact c14n (by omega) (hP p .resv)
      · exact c13x hs hbs (cpG a) hla (flat_tup2 (.int _ _) (.int _ _))
    rw [w2] at key
    refine rndMV (m := 2) (st := S5v p a c e k) (s := S5v p a c e (k + 1)) hcl (lpNo _) rfl (clean5v p a _ _ _ _ _ _) key ?_
    refine sv_ite (fun _ => ?_) fun h => absurd (of_decide_eq_false h) (by omega)
    have hsucc := bO_succ p a k
    unfold S5v
    rw [hsucc]
    repeat first
      | refine sv_need rfl ?_
      | refine sv_need trivial ?_
      | refine sv_need ⟨rfl, rfl⟩ ?_
      | refine sv_need ⟨rfl, rfl, rfl, happ⟩ ?_
    cases hq : lcO p (a ++ [(k : Int)]) with
    | none =>
      refine sv_ite (fun h => by cases h) fun _ => sv_ite (fun _ => sv_ite (fun h => by cases h) fun _ => sv_leaf rfl) fun h => by cases h
    | some d =>
      refine sv_ite (fun _ => ?_) fun h => by cases h
      cases hb0 : bO p a k with
      | none => exact sv_ite (fun _ => sv_ite (fun h => by cases h) fun _ => sv_leaf (vals5v p a c e d _ _)) fun h => by cases h
      | some b =>
        refine sv_ite (fun h => by cases h) fun _ => sv_ite (fun h1 => sv_ite (fun h => by cases h) fun _ => sv_leaf ?_) fun h1 => sv_ite (fun h => by cases h) fun _ => sv_leaf ?_
        · have h1' : d < b := of_decide_eq_true h1
          have e0 : omO (some b) (some d) = some d := if_pos h1'
          rw [e0]
          exact vals5v p a c _ d _ _
        · have h1' : ¬ d < b := of_decide_eq_false h1
          have e0 : omO (some b) (some d) = some b := if_neg h1'
          rw [e0]
          rfl
  st k _ _ hs := by cases hs
  en _ := by
    have hv := hp.v a.length hl
    have key := congrArg Tree.sel (run5v False p a c e (bO p a (p.V.getD a.length 0).toNat).isSome ((bO p a (p.V.getD a.length 0).toNat).getD 0) (p.V.getD a.length 0) (p.V.getD a.length 0).toNat .zs .zs [] [] 0 0)
    refine rndMT (m := 2) (st := S5v p a c e (p.V.getD a.length 0).toNat) (t := S5v p a c e (p.V.getD a.length 0).toNat) (.all (hApp_ok _ _ _ _ _ _).ok (clhq_ok fun h => h.elim) (fun l xs σ t v σ' h => (by cases h)) fun f xs t v h => by cases h) (lpNo _) rfl (clean5v p a _ _ _ _ _ _) (key.trans ((selIf (dF (by omega))).trans rfl)) rfl
end Go.Proofs.Ytngaihdpmoajeaa.Am

namespace Go.Proofs.Ytngaihdpmoajeaa.Am
open Go
set_option maxRecDepth 100000

theorem brkL_none (p : Pb) (a : List Int) : ∀ k, ((((brkL p a k).length : Nat) : Int) == 0) = !anyK (bad50 p a false) k
  | 0 => rfl
  | k + 1 => by
    have ih := brkL_none p a k
    have e : anyK (bad50 p a false) (k + 1) = (anyK (bad50 p a false) k || bad50 p a false k) := by
      unfold anyK
      rw [List.range_succ, List.any_append]
      simp
    rw [e]
    have hb : bad50 p a false k = decide (leastA (p.R.getD k r0) a > (p.R.getD k r0).m) := rfl
    unfold brkL
    by_cases h : leastA (p.R.getD k r0) a > (p.R.getD k r0).m
    · rw [if_pos h, hb, dT h, Bool.or_true, Bool.not_true, List.length_append, List.length_singleton, beq_eq_false_iff_ne]
      omega
    · rw [if_neg h, hb, dF h, Bool.or_false]
      exact ih
theorem lcO_full {p : Pb} (hp : Ok p) {a : List Int} (ha : Full p a) : lcO p a = bif posB p a false then some (costA p a) else none := by
  rw [lcO_sol hp ha.1, show p.V.length - a.length = 0 by have := ha.2; omega]
  cases hq : posB p a false with
  | true =>
    rw [sol_zero ((pos_opn p a).1 hq)]
    rfl
  | false =>
    rw [sol_none hp ha.1 (by have := ha.2; omega) fun h => by rw [(pos_opn p a).2 h] at hq; cases hq]
    rfl
theorem whole_full {p : Pb} (hp : Ok p) {a : List Int} (ha : Full p a) : whole p a = 0 := by
  rcases whole_cases p a with ⟨h0, _⟩ | h0 | h0
  · exact h0
  · exfalso
    revert h0
    unfold whole
    rw [valid_iff.2 hp]
    cases hb : begB p a <;> simp [ha.2]
  · exfalso
    revert h0
    unfold whole
    rw [valid_iff.2 hp, beg_iff.2 ha.1]
    simp [ha.2]
theorem call5 {x : Pz} (hx : x.ok) {l : List Int} (hl : ∀ y ∈ l, 0 ≤ y ∧ y ≤ 255) : ∃ σ', ACall Try.prog G0 5 [pzAV x, flB l] [] (.bool true) σ' := by
  have hp := made_ok hx
  have hs := ok_sh hp
  have hn := hp.n
  have hlk : ∀ k, 0 ≤ l.getD k 0 ∧ l.getD k 0 ≤ 255 := fun k => by
    by_cases hk : k < l.length
    · exact hl _ (getD_mem hk)
    · rw [List.getD_eq_getElem?_getD, List.getElem?_eq_none (by omega)]
      exact ⟨Int.le_refl _, by decide⟩
  have ha := preB_beg hp hlk
  have hpre := lpB_exec (i := 4) (keep := keep5p) (S := st5p (madeP x) l .zs .resv 0) (X := st5p (madeP x) l (flL (preB (madeP x) l)) .resv (preB (madeP x) l).length) (exec5p hp hlk) rfl (c := bodyOf Try.prog 5) (nth_loop (k := 0) (i := 4) (ids := [4, 19]) ids5 (by decide) (by kernel_rfl) rfl)
  generalize preB (madeP x) l = a at ha hpre
  have has := beg_sh hp ha
  have hal := ha.len
  have hv := valid_iff.2 hp
  have h13 : ∀ σ, ACall Try.prog G0 13 [pAV (madeP x), flL a] σ (.tup [I ((lcO (madeP x) a).getD 0), I (bif (lcO (madeP x) a).isSome then 0 else 7)]) σ := fun σ => least_at hp ha ▸ c13 hs has σ
  have h14 : ∀ σ, ACall Try.prog G0 14 [flL a] σ (flL a) σ := fun σ => c14d (by omega) σ
  by_cases hw : a.length = (madeP x).V.length
  · have hf : Full (madeP x) a := ⟨ha, hw⟩
    have h0 := whole_full hp hf
    have h24 : ∀ σ, ACall Try.prog G0 24 [pAV (madeP x), flL a] σ (.tup [flL (brkL (madeP x) a (madeP x).R.length), I 0]) σ := fun σ => by
      have := c24 hs has σ
      unfold brkR at this
      rwa [h0, if_pos rfl] at this
    have h25 : ∀ σ, ACall Try.prog G0 25 [pAV (madeP x), flL a] σ (.tup [I (costA (madeP x) a), I 0]) σ := fun σ => by
      have := c25 hs has σ
      unfold costR at this
      rwa [h0, if_pos rfl] at this
    have h20 : ∀ σ, ACall Try.prog G0 20 [pAV (madeP x), flL a] σ (.tup [.bool (posB (madeP x) a false), I (costA (madeP x) a)]) σ := fun σ => c20 hs hp hf σ
    have hcl : ClOk Try.prog G0 (E5F x (madeP x) a (brkL (madeP x) a (madeP x).R.length) ((lcO (madeP x) a).getD 0) (bif (lcO (madeP x) a).isSome then 0 else 7) (costA (madeP x) a) (posB (madeP x) a false)) :=
      .all (hStA_ok 26 1).ok failH_ok (fun l xs σ t v σ' h => (by cases h)) fun f' xs t v hq hs' σ => clK_ok (l := k5 x (madeP x) a (brkL (madeP x) a (madeP x).R.length) ((lcO (madeP x) a).getD 0) (bif (lcO (madeP x) a).isSome then 0 else 7) (costA (madeP x) a) (posB (madeP x) a false)) (fun y hy xs hx' σ => by
        simp only [k5, List.mem_cons, List.not_mem_nil, or_false] at hy
        rcases hy with rfl | rfl | rfl | rfl | rfl | rfl | rfl
        · obtain rfl : xs = _ := hx'; exact c18 hx σ
        · obtain rfl : xs = _ := hx'; exact h14 σ
        · obtain rfl : xs = _ := hx'; exact h13 σ
        · obtain rfl : xs = _ := hx'; exact h24 σ
        · obtain rfl : xs = _ := hx'; exact h25 σ
        · obtain rfl : xs = _ := hx'; exact h20 σ
        · obtain rfl : xs = _ := hx'; exact c12 σ) f' xs t v hq hs' σ
    refine ⟨_, ACall.rooms (σ := []) (σ1 := hP (madeP x) .resv) 1 (ACall.says hcl (lpAnd_ok hpre (lpF_ok 19 _ _ _)) (runF5w x (madeP x) l a _ _ _ _ _) ?_)⟩
    have hbr := brkL_none (madeP x) a (madeP x).R.length
    have hlc := lcO_full hp hf
    have hpos : posB (madeP x) a false = !anyK (bad50 (madeP x) a false) (madeP x).R.length := rfl
    rw [← hpos] at hbr
    rw [hlc]
    refine says_need rfl (says_need ⟨rfl, rfl, Nat.le_refl _⟩ (says_need rfl (says_need rfl (says_need rfl (says_ite (fun _ => ?_) fun h => ?_)))))
    · refine says_need rfl (says_need rfl (says_need rfl (says_need rfl (says_need rfl (says_ite (fun h => by cases h) fun _ => says_ite (fun h => by cases h) fun _ => says_ite (fun h => ?_) fun _ => says_ite (fun h => ?_) fun _ => ?_)))))
      · rw [bne_self_eq_false] at h; cases h
      · rw [hbr, beq_self_eq_true] at h; cases h
      · cases hq : posB (madeP x) a false with
        | true => exact says_ite (fun h => by cases h) fun _ => says_ite (fun _ => says_ite (fun _ => says_need rfl says_leaf) fun h => by
            have h' : (costA (madeP x) a == costA (madeP x) a) = false := h
            rw [beq_self_eq_true] at h'; cases h') fun h => by cases h
        | false => exact says_ite (fun _ => says_ite (fun _ => says_need rfl says_leaf) fun h => by cases h) fun h => by cases h
    · rw [hw, beq_self_eq_true] at h; cases h
  · have hcl : ClOk Try.prog G0 (E5N x (madeP x) a ((lcO (madeP x) a).getD 0) (bif (lcO (madeP x) a).isSome then 0 else 7)) :=
      .all (hStA_ok 26 1).ok failH_ok (fun l xs σ t v σ' h => (by cases h)) fun f' xs t v hq hs' σ => clK_ok (l := k5n x (madeP x) a ((lcO (madeP x) a).getD 0) (bif (lcO (madeP x) a).isSome then 0 else 7)) (fun y hy xs hx' σ => by
        simp only [k5n, List.mem_cons, List.not_mem_nil, or_false] at hy
        rcases hy with rfl | rfl | rfl | rfl
        · obtain rfl : xs = _ := hx'; exact c18 hx σ
        · obtain rfl : xs = _ := hx'; exact h14 σ
        · obtain rfl : xs = _ := hx'; exact h13 σ
        · obtain rfl : xs = _ := hx'; exact c12 σ) f' xs t v hq hs' σ
    have hlv := (loop5v hp ha (by omega) ((lcO (madeP x) a).getD 0) (bif (lcO (madeP x) a).isSome then 0 else 7)).okB (fun _ _ => rfl) (c := bodyOf Try.prog 5) (i := 19) (keep := keep5v) (nth_loop (k := 1) (i := 19) (ids := [4, 19]) ids5 (by decide) (by kernel_rfl) rfl)
    have hvl := hp.v a.length (by omega)
    have hX : S5v (madeP x) a ((lcO (madeP x) a).getD 0) (bif (lcO (madeP x) a).isSome then 0 else 7) ((madeP x).V.getD a.length 0).toNat = st5v (madeP x) a ((lcO (madeP x) a).getD 0) (bif (lcO (madeP x) a).isSome then 0 else 7) (lcO (madeP x) a).isSome ((lcO (madeP x) a).getD 0) ((madeP x).V.getD a.length 0) ((madeP x).V.getD a.length 0) := by
      unfold S5v
      rw [bO_all hp ha (by omega), show ((((madeP x).V.getD a.length 0).toNat : Nat) : Int) = (madeP x).V.getD a.length 0 by omega]
    rw [hX] at hlv
    refine ⟨_, ACall.rooms (σ := []) (σ1 := hP (madeP x) .resv) 1 (ACall.says hcl (lpAnd_ok hpre hlv) (runF5 x (madeP x) l a _ _ _ _) ?_)⟩
    refine says_need rfl (says_need ⟨rfl, rfl, Nat.le_refl _⟩ (says_need rfl (says_need rfl (says_need rfl (says_ite (fun h => absurd (eq_of_beq h) (by omega)) fun _ => says_need ⟨by omega, by omega⟩ (says_need rfl ?_))))))
    cases hq : lcO (madeP x) a with
    | none => exact says_ite (fun _ => says_ite (fun _ => says_need rfl says_leaf) fun h => by cases h) fun h => by cases h
    | some c => exact says_ite (fun h => by cases h) fun _ => says_ite (fun _ => says_ite (fun _ => says_need rfl says_leaf) fun h => by rw [beq_self_eq_true] at h; cases h) fun h => by cases h
end Go.Proofs.Ytngaihdpmoajeaa.Am

