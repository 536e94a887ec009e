/- What the shadow run is told of the program. No condition. -/
import Derived.Test.YthmlfonbfnmalaaProg
import Derived.Test.YthmlfonbfnmalaaSh17
import Derived.Test.YthmlfonbfnmalaaShS
import Derived.Test.YthmlfonbfnmalaaShD
namespace Go.Proofs.Ythmlfonbfnmalaa.Sh
open Go.RowKit
set_option linter.unusedSimpArgs false
set_option maxRecDepth 100000
noncomputable def eqKinds : TypeId → Option (List Nat) := flatKinds Try.prog
def annOf : FuncId → List Nat × List Nat
  | 3 => ([0, 1, 2, 3, 4, 5, 6, 7, 8, 10, 11, 12, 13, 14, 15, 16, 19, 22, 40], [5, 6, 7, 8, 12])
  | 4 => ([0, 1, 2, 3, 4, 5, 8, 9, 10, 11, 12, 13, 14, 15, 16, 18, 20, 36, 83, 119, 128], [4, 5, 11])
  | 5 => ([0, 1, 2, 3, 4, 5, 6, 8, 9, 11, 12, 13, 16, 19, 22, 23, 24, 25, 26, 27, 28, 41, 59, 149, 167, 219, 223, 243, 262, 286, 305], [4, 5, 6, 28])
  | 6 => ([0, 1, 2, 3, 4, 5, 7, 8, 60], [1])
  | 7 => ([0, 1, 2, 3, 4, 6], [3, 4])
  | 8 => ([0, 1, 2], [1])
  | 9 => ([0, 1, 3, 4, 35, 37, 38, 49, 56, 71], [3])
  | 10 => ([0, 1, 2, 3, 4, 5, 6, 11, 12, 13, 14, 15, 16, 27, 28, 36, 42, 44, 68, 78, 85], [6, 11, 15])
  | 11 => ([0, 1, 2, 3, 4, 5, 6, 7, 12, 14, 15, 16, 17, 19, 20, 21, 49, 54, 67], [7, 12])
  | 12 => ([0, 1, 2, 6, 8], [])
  | 13 => ([0, 1, 2, 3, 4, 5, 8, 9, 10, 25], [4, 5])
  | 14 => ([0, 1, 2, 4, 5, 6, 7, 8, 9, 10], [2, 5])
  | 15 => ([0, 1, 2, 3, 8, 9, 10, 11, 12, 13, 18, 22, 28, 32, 48, 52, 70, 74, 120], [13])
  | 16 => ([0, 1, 2, 6], [])
  | 17 => ([0, 1, 4, 5, 6, 7, 8, 9, 10, 31], [])
  | 18 => ([0, 1, 4], [])
  | 19 => ([0, 1, 2, 3, 4, 5, 6, 8, 10, 11, 31], [4, 5, 6])
  | 20 => ([0, 2, 4], [7])
  | 21 => ([0, 2, 4], [7])
  | 22 => ([0, 2, 3], [])
  | 23 => ([0, 1, 2], [1])
  | 24 => ([0, 1, 4], [])
  | 25 => ([0, 1, 2], [1])
  | 26 => ([0, 1, 4], [])
  | 27 => ([0, 1, 2, 3], [2])
  | 28 => ([0, 1, 4], [])
  | 29 => ([0, 1, 2, 3], [2])
  | 30 => ([0, 1, 4, 5, 9, 17], [])
  | 31 => ([0, 1, 4, 5, 7, 8, 9, 16], [])
  | 32 => ([0, 2], [])
  | 33 => ([0, 2], [])
  | 34 => ([0, 1, 4, 5, 6, 7, 8, 14], [])
  | 35 => ([0, 1, 4, 5, 7, 8, 9, 16], [])
  | 36 => ([0, 1, 4, 5, 7, 8, 9, 16], [])
  | 37 => ([0, 1, 4, 5, 7, 8, 9, 16], [])
  | 38 => ([0, 1, 2, 4, 5, 7], [2])
  | 39 => ([0, 1, 2, 3, 8, 9, 10, 11, 12, 13, 14, 15, 16, 17, 18, 23, 29, 35, 50, 68, 72, 87, 113], [])
  | 40 => ([0, 2], [])
  | 41 => ([0, 1, 2, 6, 7, 12, 30], [])
  | 42 => ([0, 1, 2, 6, 7, 8, 9, 10, 19, 30], [])
  | 43 => ([0, 1, 2, 6, 7, 8, 9, 10, 15, 33, 43], [7])
  | 44 => ([0, 1, 2, 6, 7, 8, 9, 10, 11, 12, 32, 34, 49, 51, 54], [9])
  | 45 => ([0, 1, 2, 6, 7, 13], [])
  | 46 => ([0, 1, 2, 6, 7, 8, 9, 10, 14, 32, 37, 41, 61, 65, 78, 98, 103, 116], [])
  | 47 => ([0, 1, 4], [])
  | 48 => ([0, 1, 2, 3, 8, 9, 10, 43, 59, 64], [])
  | 49 => ([0, 1, 2, 3, 8, 9, 10, 11, 43, 60, 65, 112, 129, 134], [])
  | 50 => ([0, 2, 4, 8], [])
  | 51 => ([0, 2, 4, 8, 14], [])
  | 52 => ([0, 1, 2, 3, 8, 9, 16, 36, 52], [])
  | 53 => ([0, 2], [])
  | 54 => ([0, 2], [])
  | 55 => ([0, 1, 2, 6], [])
  | 56 => ([0, 1, 2, 3, 4, 10], [])
  | 57 => ([0, 2], [])
  | 58 => ([0, 1, 2, 3, 8, 9, 18], [])
  | _ => ([], [])
def keepOf : FuncId → Bool
  | 20 => true
  | 21 => true
  | _ => false
def maskOf : FuncId → List Nat
  | 11 => [79, 80, 87, 88, 89]
  | _ => []
/-- The program, as the shadow run sees it; 'ext': what is shown of functions by other means. -/
noncomputable def X (ext : FuncId → Option (List PV → List GO → Option (PV × List GO))) : Aux := ⟨Try.prog, eqKinds, annOf, ext, 2 ^ 64, keepOf, maskOf⟩
theorem eqOk : EqOk Try.prog eqKinds := eqOk_flat
theorem follows : Try.prog.follows .mixedOrders = true := by kernel_rfl
theorem ek4 : eqKinds 4 = some [9] := by kernel_rfl
theorem ek29 : eqKinds 29 = some [1, 1, 1, 1] := by kernel_rfl
theorem ek42 : eqKinds 42 = some [1, 1, 1] := by kernel_rfl
theorem ek49 : eqKinds 49 = some [3, 1] := by kernel_rfl
theorem ek52 : eqKinds 52 = some [1, 1, 2] := by kernel_rfl
theorem sz3 : szOf Try.prog 3 = some 1 := by kernel_rfl
theorem ag3 : aggOf Try.prog 3 = false := by kernel_rfl
theorem ze3 : zeroOf Try.prog 3 = some (.int .i64 0) := by kernel_rfl
theorem el3 : elOf Try.prog 3 = some (1, 8, [.int .i64 0]) := by kernel_rfl
theorem sz4 : szOf Try.prog 4 = some 1 := by kernel_rfl
theorem ag4 : aggOf Try.prog 4 = false := by kernel_rfl
theorem ze4 : zeroOf Try.prog 4 = some (.bool false) := by kernel_rfl
theorem sz5 : szOf Try.prog 5 = some 1 := by kernel_rfl
theorem ag5 : aggOf Try.prog 5 = false := by kernel_rfl
theorem ze5 : zeroOf Try.prog 5 = some (.int .u8 0) := by kernel_rfl
theorem sz9 : szOf Try.prog 9 = some 1 := by kernel_rfl
theorem ag9 : aggOf Try.prog 9 = false := by kernel_rfl
theorem ze9 : zeroOf Try.prog 9 = some (.string ⟨#[]⟩) := by kernel_rfl
theorem sz22 : szOf Try.prog 22 = some 1 := by kernel_rfl
theorem ag22 : aggOf Try.prog 22 = false := by kernel_rfl
theorem ze22 : zeroOf Try.prog 22 = some (.slice none 0 0) := by kernel_rfl
theorem sz23 : szOf Try.prog 23 = some 1 := by kernel_rfl
theorem ag23 : aggOf Try.prog 23 = false := by kernel_rfl
theorem ze23 : zeroOf Try.prog 23 = some (.slice none 0 0) := by kernel_rfl
theorem sz24 : szOf Try.prog 24 = some 1 := by kernel_rfl
theorem ag24 : aggOf Try.prog 24 = false := by kernel_rfl
theorem ze24 : zeroOf Try.prog 24 = some (.slice none 0 0) := by kernel_rfl
theorem sz25 : szOf Try.prog 25 = some 1 := by kernel_rfl
theorem ag25 : aggOf Try.prog 25 = false := by kernel_rfl
theorem ze25 : zeroOf Try.prog 25 = some (.slice none 0 0) := by kernel_rfl
theorem sz27 : szOf Try.prog 27 = some 4 := by kernel_rfl
theorem ag27 : aggOf Try.prog 27 = true := by kernel_rfl
theorem ze27 : zeroOf Try.prog 27 = some (.agg #[.slice none 0 0, .slice none 0 0, .slice none 0 0, .slice none 0 0]) := by kernel_rfl
theorem pl27 : placesOf Try.prog 27 = some [(0, 1), (1, 1), (2, 1), (3, 1)] := by kernel_rfl
theorem fo27_0 : fldOf Try.prog 27 0 = some (0, 1, false) := by kernel_rfl
theorem fo27_1 : fldOf Try.prog 27 1 = some (1, 1, false) := by kernel_rfl
theorem fo27_2 : fldOf Try.prog 27 2 = some (2, 1, false) := by kernel_rfl
theorem fo27_3 : fldOf Try.prog 27 3 = some (3, 1, false) := by kernel_rfl
theorem sz29 : szOf Try.prog 29 = some 4 := by kernel_rfl
theorem ag29 : aggOf Try.prog 29 = true := by kernel_rfl
theorem ze29 : zeroOf Try.prog 29 = some (.agg #[.int .i64 0, .int .i64 0, .int .i64 0, .int .i64 0]) := by kernel_rfl
theorem pl29 : placesOf Try.prog 29 = some [(0, 1), (1, 1), (2, 1), (3, 1)] := by kernel_rfl
theorem fo29_0 : fldOf Try.prog 29 0 = some (0, 1, false) := by kernel_rfl
theorem fo29_1 : fldOf Try.prog 29 1 = some (1, 1, false) := by kernel_rfl
theorem fo29_2 : fldOf Try.prog 29 2 = some (2, 1, false) := by kernel_rfl
theorem fo29_3 : fldOf Try.prog 29 3 = some (3, 1, false) := by kernel_rfl
theorem sz31 : szOf Try.prog 31 = some 5 := by kernel_rfl
theorem ag31 : aggOf Try.prog 31 = true := by kernel_rfl
theorem ze31 : zeroOf Try.prog 31 = some (.agg #[.int .i64 0, .int .i64 0, .int .i64 0, .int .i64 0, .slice none 0 0]) := by kernel_rfl
theorem el31 : elOf Try.prog 31 = some (5, 56, [.int .i64 0, .int .i64 0, .int .i64 0, .int .i64 0, .slice none 0 0]) := by kernel_rfl
theorem pl31 : placesOf Try.prog 31 = some [(0, 1), (1, 1), (2, 1), (3, 1), (4, 1)] := by kernel_rfl
theorem fo31_0 : fldOf Try.prog 31 0 = some (0, 1, false) := by kernel_rfl
theorem fo31_1 : fldOf Try.prog 31 1 = some (1, 1, false) := by kernel_rfl
theorem fo31_2 : fldOf Try.prog 31 2 = some (2, 1, false) := by kernel_rfl
theorem fo31_3 : fldOf Try.prog 31 3 = some (3, 1, false) := by kernel_rfl
theorem fo31_4 : fldOf Try.prog 31 4 = some (4, 1, false) := by kernel_rfl
theorem sz42 : szOf Try.prog 42 = some 3 := by kernel_rfl
theorem ag42 : aggOf Try.prog 42 = true := by kernel_rfl
theorem ze42 : zeroOf Try.prog 42 = some (.agg #[.int .i64 0, .int .i64 0, .int .i64 0]) := by kernel_rfl
theorem el42 : elOf Try.prog 42 = some (3, 24, [.int .i64 0, .int .i64 0, .int .i64 0]) := by kernel_rfl
theorem pl42 : placesOf Try.prog 42 = some [(0, 1), (1, 1), (2, 1)] := by kernel_rfl
theorem fo42_0 : fldOf Try.prog 42 0 = some (0, 1, false) := by kernel_rfl
theorem fo42_1 : fldOf Try.prog 42 1 = some (1, 1, false) := by kernel_rfl
theorem fo42_2 : fldOf Try.prog 42 2 = some (2, 1, false) := by kernel_rfl
theorem sz44 : szOf Try.prog 44 = some 1 := by kernel_rfl
theorem ag44 : aggOf Try.prog 44 = false := by kernel_rfl
theorem ze44 : zeroOf Try.prog 44 = some (.slice none 0 0) := by kernel_rfl
theorem sz49 : szOf Try.prog 49 = some 2 := by kernel_rfl
theorem ag49 : aggOf Try.prog 49 = true := by kernel_rfl
theorem ze49 : zeroOf Try.prog 49 = some (.agg #[.string ⟨#[]⟩, .int .i64 0]) := by kernel_rfl
theorem el49 : elOf Try.prog 49 = some (2, 24, [.string ⟨#[]⟩, .int .i64 0]) := by kernel_rfl
theorem pl49 : placesOf Try.prog 49 = some [(0, 1), (1, 1)] := by kernel_rfl
theorem fo49_1 : fldOf Try.prog 49 1 = some (1, 1, false) := by kernel_rfl
theorem sz52 : szOf Try.prog 52 = some 3 := by kernel_rfl
theorem ag52 : aggOf Try.prog 52 = true := by kernel_rfl
theorem ze52 : zeroOf Try.prog 52 = some (.agg #[.int .i64 0, .int .i64 0, .bool false]) := by kernel_rfl
theorem el52 : elOf Try.prog 52 = some (3, 24, [.int .i64 0, .int .i64 0, .bool false]) := by kernel_rfl
theorem pl52 : placesOf Try.prog 52 = some [(0, 1), (1, 1), (2, 1)] := by kernel_rfl
theorem fo52_0 : fldOf Try.prog 52 0 = some (0, 1, false) := by kernel_rfl
theorem sz77 : szOf Try.prog 77 = some 1 := by kernel_rfl
theorem ag77 : aggOf Try.prog 77 = false := by kernel_rfl
theorem ze77 : zeroOf Try.prog 77 = some (.int .u64 0) := by kernel_rfl
theorem sz79 : szOf Try.prog 79 = some 1 := by kernel_rfl
theorem ag79 : aggOf Try.prog 79 = false := by kernel_rfl
theorem ze79 : zeroOf Try.prog 79 = some (.int .i64 0) := by kernel_rfl
theorem sz87 : szOf Try.prog 87 = some 1 := by kernel_rfl
theorem ag87 : aggOf Try.prog 87 = false := by kernel_rfl
theorem ze87 : zeroOf Try.prog 87 = some (.int .u32 0) := by kernel_rfl
theorem sz89 : szOf Try.prog 89 = some 1 := by kernel_rfl
theorem ag89 : aggOf Try.prog 89 = false := by kernel_rfl
theorem ze89 : zeroOf Try.prog 89 = some (.int .u64 0) := by kernel_rfl
theorem sz90 : szOf Try.prog 90 = some 1 := by kernel_rfl
theorem ag90 : aggOf Try.prog 90 = false := by kernel_rfl
theorem ze90 : zeroOf Try.prog 90 = some (.int .u64 0) := by kernel_rfl
theorem sz94 : szOf Try.prog 94 = some 1 := by kernel_rfl
theorem ag94 : aggOf Try.prog 94 = false := by kernel_rfl
theorem ze94 : zeroOf Try.prog 94 = some (.pointer none) := by kernel_rfl
theorem sz96 : szOf Try.prog 96 = some 1 := by kernel_rfl
theorem ag96 : aggOf Try.prog 96 = false := by kernel_rfl
theorem ze96 : zeroOf Try.prog 96 = some (.pointer none) := by kernel_rfl
/-- What is shown of functions by other means. -/
def ext0 : FuncId → Option (List PV → List GO → Option (PV × List GO))
  | 20 => some (cloneG 1 8)
  | 21 => some (cloneG 3 24)
  | 33 => some (sortG)
  | 32 => some (collG 34)
  | _ => none
/-- taquin/taquinlaw36.SightGrows -/
noncomputable def c3 : Code := (Try.f3.body).getD .skip
theorem enter3 {ext : FuncId → Option (List PV → List GO → Option (PV × List GO))} (hx : ext 3 = none) (d : Nat) (args : List PV) (G : List GO) (h : args.length ≤ 143) : shFn (X ext) (d + 1) 3 args G = fin Try.prog Try.f3 false G.length (shCode ⟨Try.prog, eqKinds, G.length, [5, 6, 7, 8, 12], shFn (X ext) d, []⟩ 143 [0, 1, 2, 3, 4, 5, 6, 7, 8, 10, 11, 12, 13, 14, 15, 16, 19, 22, 40] (2 ^ 64) c3 (argEnv args 0, G ++ slotsG [5, 6, 7, 8, 12])) :=
  shFn_run (X := X ext) hx Try.func3 (by rfl) (by decide) rfl (by kernel_rfl) rfl h
/-- taquin/taquinlaw36.SightTrue -/
noncomputable def c4 : Code := (Try.f4.body).getD .skip
theorem enter4 {ext : FuncId → Option (List PV → List GO → Option (PV × List GO))} (hx : ext 4 = none) (d : Nat) (args : List PV) (G : List GO) (h : args.length ≤ 178) : shFn (X ext) (d + 1) 4 args G = fin Try.prog Try.f4 false G.length (shCode ⟨Try.prog, eqKinds, G.length, [4, 5, 11], shFn (X ext) d, []⟩ 178 [0, 1, 2, 3, 4, 5, 8, 9, 10, 11, 12, 13, 14, 15, 16, 18, 20, 36, 83, 119, 128] (2 ^ 64) c4 (argEnv args 0, G ++ slotsG [4, 5, 11])) :=
  shFn_run (X := X ext) hx Try.func4 (by rfl) (by decide) rfl (by kernel_rfl) rfl h
/-- taquin/taquinlaw36.SightAfter -/
noncomputable def c5 : Code := (Try.f5.body).getD .skip
theorem enter5 {ext : FuncId → Option (List PV → List GO → Option (PV × List GO))} (hx : ext 5 = none) (d : Nat) (args : List PV) (G : List GO) (h : args.length ≤ 307) : shFn (X ext) (d + 1) 5 args G = fin Try.prog Try.f5 false G.length (shCode ⟨Try.prog, eqKinds, G.length, [4, 5, 6, 28], shFn (X ext) d, []⟩ 307 [0, 1, 2, 3, 4, 5, 6, 8, 9, 11, 12, 13, 16, 19, 22, 23, 24, 25, 26, 27, 28, 41, 59, 149, 167, 219, 223, 243, 262, 286, 305] (2 ^ 64) c5 (argEnv args 0, G ++ slotsG [4, 5, 6, 28])) :=
  shFn_run (X := X ext) hx Try.func5 (by rfl) (by decide) rfl (by kernel_rfl) rfl h
/-- taquin/taquinlaw36.small -/
noncomputable def c6 : Code := (Try.f6.body).getD .skip
theorem enter6 {ext : FuncId → Option (List PV → List GO → Option (PV × List GO))} (hx : ext 6 = none) (d : Nat) (args : List PV) (G : List GO) (h : args.length ≤ 82) : shFn (X ext) (d + 1) 6 args G = fin Try.prog Try.f6 false G.length (shCode ⟨Try.prog, eqKinds, G.length, [1], shFn (X ext) d, []⟩ 82 [0, 1, 2, 3, 4, 5, 7, 8, 60] (2 ^ 64) c6 (argEnv args 0, G ++ slotsG [1])) :=
  shFn_run (X := X ext) hx Try.func6 (by rfl) (by decide) rfl (by kernel_rfl) rfl h
/-- taquin/taquinref36.Fits -/
noncomputable def c7 : Code := (Try.f7.body).getD .skip
theorem enter7 {ext : FuncId → Option (List PV → List GO → Option (PV × List GO))} (hx : ext 7 = none) (d : Nat) (args : List PV) (G : List GO) (h : args.length ≤ 52) : shFn (X ext) (d + 1) 7 args G = fin Try.prog Try.f7 false G.length (shCode ⟨Try.prog, eqKinds, G.length, [3, 4], shFn (X ext) d, []⟩ 52 [0, 1, 2, 3, 4, 6] (2 ^ 64) c7 (argEnv args 0, G ++ slotsG [3, 4])) :=
  shFn_run (X := X ext) hx Try.func7 (by rfl) (by decide) rfl (by kernel_rfl) rfl h
/-- taquin/taquinref36.Senses -/
noncomputable def c8 : Code := (Try.f8.body).getD .skip
theorem enter8 {ext : FuncId → Option (List PV → List GO → Option (PV × List GO))} (hx : ext 8 = none) (d : Nat) (args : List PV) (G : List GO) (h : args.length ≤ 25) : shFn (X ext) (d + 1) 8 args G = fin Try.prog Try.f8 false G.length (shCode ⟨Try.prog, eqKinds, G.length, [1], shFn (X ext) d, []⟩ 25 [0, 1, 2] (2 ^ 64) c8 (argEnv args 0, G ++ slotsG [1])) :=
  shFn_run (X := X ext) hx Try.func8 (by rfl) (by decide) rfl (by kernel_rfl) rfl h
/-- taquin/sight.Right -/
noncomputable def c9 : Code := (Try.f9.body).getD .skip
theorem enter9 {ext : FuncId → Option (List PV → List GO → Option (PV × List GO))} (hx : ext 9 = none) (d : Nat) (args : List PV) (G : List GO) (h : args.length ≤ 78) : shFn (X ext) (d + 1) 9 args G = fin Try.prog Try.f9 false G.length (shCode ⟨Try.prog, eqKinds, G.length, [3], shFn (X ext) d, []⟩ 78 [0, 1, 3, 4, 35, 37, 38, 49, 56, 71] (2 ^ 64) c9 (argEnv args 0, G ++ slotsG [3])) :=
  shFn_run (X := X ext) hx Try.func9 (by rfl) (by decide) rfl (by kernel_rfl) rfl h
/-- taquin/sight.Agrees -/
noncomputable def c10 : Code := (Try.f10.body).getD .skip
theorem enter10 {ext : FuncId → Option (List PV → List GO → Option (PV × List GO))} (hx : ext 10 = none) (d : Nat) (args : List PV) (G : List GO) (h : args.length ≤ 91) : shFn (X ext) (d + 1) 10 args G = fin Try.prog Try.f10 false G.length (shCode ⟨Try.prog, eqKinds, G.length, [6, 11, 15], shFn (X ext) d, []⟩ 91 [0, 1, 2, 3, 4, 5, 6, 11, 12, 13, 14, 15, 16, 27, 28, 36, 42, 44, 68, 78, 85] (2 ^ 64) c10 (argEnv args 0, G ++ slotsG [6, 11, 15])) :=
  shFn_run (X := X ext) hx Try.func10 (by rfl) (by decide) rfl (by kernel_rfl) rfl h
/-- taquin/sight.After -/
noncomputable def c11 : Code := (Try.f11.body).getD .skip
theorem enter11 {ext : FuncId → Option (List PV → List GO → Option (PV × List GO))} (hx : ext 11 = none) (d : Nat) (args : List PV) (G : List GO) (h : args.length ≤ 95) : shFn (X ext) (d + 1) 11 args G = fin Try.prog Try.f11 false G.length (shCode ⟨Try.prog, eqKinds, G.length, [7, 12], shFn (X ext) d, [79, 80, 87, 88, 89]⟩ 95 [0, 1, 2, 3, 4, 5, 6, 7, 12, 14, 15, 16, 17, 19, 20, 21, 49, 54, 67] (2 ^ 64) c11 (argEnv args 0, G ++ slotsG [7, 12])) :=
  shFn_run (X := X ext) hx Try.func11 (by rfl) (by decide) rfl (by kernel_rfl) rfl h
/-- taquin/sight.Unit -/
noncomputable def c12 : Code := (Try.f12.body).getD .skip
theorem enter12 {ext : FuncId → Option (List PV → List GO → Option (PV × List GO))} (hx : ext 12 = none) (d : Nat) (args : List PV) (G : List GO) (h : args.length ≤ 18) : shFn (X ext) (d + 1) 12 args G = fin Try.prog Try.f12 false G.length (shCode ⟨Try.prog, eqKinds, G.length, [], shFn (X ext) d, []⟩ 18 [0, 1, 2, 6, 8] (2 ^ 64) c12 (argEnv args 0, G ++ slotsG [])) :=
  shFn_run (X := X ext) hx Try.func12 (by rfl) (by decide) rfl (by kernel_rfl) rfl h
/-- taquin/sight.Truth -/
noncomputable def c13 : Code := (Try.f13.body).getD .skip
theorem enter13 {ext : FuncId → Option (List PV → List GO → Option (PV × List GO))} (hx : ext 13 = none) (d : Nat) (args : List PV) (G : List GO) (h : args.length ≤ 42) : shFn (X ext) (d + 1) 13 args G = fin Try.prog Try.f13 false G.length (shCode ⟨Try.prog, eqKinds, G.length, [4, 5], shFn (X ext) d, []⟩ 42 [0, 1, 2, 3, 4, 5, 8, 9, 10, 25] (2 ^ 64) c13 (argEnv args 0, G ++ slotsG [4, 5])) :=
  shFn_run (X := X ext) hx Try.func13 (by rfl) (by decide) rfl (by kernel_rfl) rfl h
/-- taquin/taquinlaw36.sees -/
noncomputable def c14 : Code := (Try.f14.body).getD .skip
theorem enter14 {ext : FuncId → Option (List PV → List GO → Option (PV × List GO))} (hx : ext 14 = none) (d : Nat) (args : List PV) (G : List GO) (h : args.length ≤ 36) : shFn (X ext) (d + 1) 14 args G = fin Try.prog Try.f14 false G.length (shCode ⟨Try.prog, eqKinds, G.length, [2, 5], shFn (X ext) d, []⟩ 36 [0, 1, 2, 4, 5, 6, 7, 8, 9, 10] (2 ^ 64) c14 (argEnv args 0, G ++ slotsG [2, 5])) :=
  shFn_run (X := X ext) hx Try.func14 (by rfl) (by decide) rfl (by kernel_rfl) rfl h
/-- taquin/taquinref36.Truth -/
noncomputable def c15 : Code := (Try.f15.body).getD .skip
theorem enter15 {ext : FuncId → Option (List PV → List GO → Option (PV × List GO))} (hx : ext 15 = none) (d : Nat) (args : List PV) (G : List GO) (h : args.length ≤ 121) : shFn (X ext) (d + 1) 15 args G = fin Try.prog Try.f15 false G.length (shCode ⟨Try.prog, eqKinds, G.length, [13], shFn (X ext) d, []⟩ 121 [0, 1, 2, 3, 8, 9, 10, 11, 12, 13, 18, 22, 28, 32, 48, 52, 70, 74, 120] (2 ^ 64) c15 (argEnv args 0, G ++ slotsG [13])) :=
  shFn_run (X := X ext) hx Try.func15 (by rfl) (by decide) rfl (by kernel_rfl) rfl h
/-- taquin/sight.within -/
noncomputable def c16 : Code := (Try.f16.body).getD .skip
theorem enter16 {ext : FuncId → Option (List PV → List GO → Option (PV × List GO))} (hx : ext 16 = none) (d : Nat) (args : List PV) (G : List GO) (h : args.length ≤ 15) : shFn (X ext) (d + 1) 16 args G = fin Try.prog Try.f16 false G.length (shCode ⟨Try.prog, eqKinds, G.length, [], shFn (X ext) d, []⟩ 15 [0, 1, 2, 6] (2 ^ 64) c16 (argEnv args 0, G ++ slotsG [])) :=
  shFn_run (X := X ext) hx Try.func16 (by rfl) (by decide) rfl (by kernel_rfl) rfl h
/-- taquin/sight.ascends -/
noncomputable def c17 : Code := (Try.f17.body).getD .skip
theorem enter17 {ext : FuncId → Option (List PV → List GO → Option (PV × List GO))} (hx : ext 17 = none) (d : Nat) (args : List PV) (G : List GO) (h : args.length ≤ 33) : shFn (X ext) (d + 1) 17 args G = fin Try.prog Try.f17 false G.length (shCode ⟨Try.prog, eqKinds, G.length, [], shFn (X ext) d, []⟩ 33 [0, 1, 4, 5, 6, 7, 8, 9, 10, 31] (2 ^ 64) c17 (argEnv args 0, G ++ slotsG [])) :=
  shFn_run (X := X ext) hx Try.func17 (by rfl) (by decide) rfl (by kernel_rfl) rfl h
/-- slices.Contains[[]int,int] -/
noncomputable def c18 : Code := (Try.f18.body).getD .skip
theorem enter18 {ext : FuncId → Option (List PV → List GO → Option (PV × List GO))} (hx : ext 18 = none) (d : Nat) (args : List PV) (G : List GO) (h : args.length ≤ 9) : shFn (X ext) (d + 1) 18 args G = fin Try.prog Try.f18 false G.length (shCode ⟨Try.prog, eqKinds, G.length, [], shFn (X ext) d, []⟩ 9 [0, 1, 4] (2 ^ 64) c18 (argEnv args 0, G ++ slotsG [])) :=
  shFn_run (X := X ext) hx Try.func18 (by rfl) (by decide) rfl (by kernel_rfl) rfl h
/-- taquin/sight.can -/
noncomputable def c19 : Code := (Try.f19.body).getD .skip
theorem enter19 {ext : FuncId → Option (List PV → List GO → Option (PV × List GO))} (hx : ext 19 = none) (d : Nat) (args : List PV) (G : List GO) (h : args.length ≤ 41) : shFn (X ext) (d + 1) 19 args G = fin Try.prog Try.f19 false G.length (shCode ⟨Try.prog, eqKinds, G.length, [4, 5, 6], shFn (X ext) d, []⟩ 41 [0, 1, 2, 3, 4, 5, 6, 8, 10, 11, 31] (2 ^ 64) c19 (argEnv args 0, G ++ slotsG [4, 5, 6])) :=
  shFn_run (X := X ext) hx Try.func19 (by rfl) (by decide) rfl (by kernel_rfl) rfl h
/-- slices.Clone[[]int,int] -/
noncomputable def c20 : Code := (Try.f20.body).getD .skip
theorem enter20 {ext : FuncId → Option (List PV → List GO → Option (PV × List GO))} (hx : ext 20 = none) (d : Nat) (args : List PV) (G : List GO) (h : args.length ≤ 8) : shFn (X ext) (d + 1) 20 args G = fin Try.prog Try.f20 true G.length (shCode ⟨Try.prog, eqKinds, G.length, [7], shFn (X ext) d, []⟩ 8 [0, 2, 4] (2 ^ 64) c20 (argEnv args 0, G ++ slotsG [7])) :=
  shFn_run (X := X ext) hx Try.func20 (by rfl) (by decide) rfl (by kernel_rfl) rfl h
/-- slices.Clone[[]taquin/api.Box,taquin/api.Box] -/
noncomputable def c21 : Code := (Try.f21.body).getD .skip
theorem enter21 {ext : FuncId → Option (List PV → List GO → Option (PV × List GO))} (hx : ext 21 = none) (d : Nat) (args : List PV) (G : List GO) (h : args.length ≤ 8) : shFn (X ext) (d + 1) 21 args G = fin Try.prog Try.f21 true G.length (shCode ⟨Try.prog, eqKinds, G.length, [7], shFn (X ext) d, []⟩ 8 [0, 2, 4] (2 ^ 64) c21 (argEnv args 0, G ++ slotsG [7])) :=
  shFn_run (X := X ext) hx Try.func21 (by rfl) (by decide) rfl (by kernel_rfl) rfl h
/-- slices.Sorted[int] -/
noncomputable def c22 : Code := (Try.f22.body).getD .skip
theorem enter22 {ext : FuncId → Option (List PV → List GO → Option (PV × List GO))} (hx : ext 22 = none) (d : Nat) (args : List PV) (G : List GO) (h : args.length ≤ 9) : shFn (X ext) (d + 1) 22 args G = fin Try.prog Try.f22 false G.length (shCode ⟨Try.prog, eqKinds, G.length, [], shFn (X ext) d, []⟩ 9 [0, 2, 3] (2 ^ 64) c22 (argEnv args 0, G ++ slotsG [])) :=
  shFn_run (X := X ext) hx Try.func22 (by rfl) (by decide) rfl (by kernel_rfl) rfl h
/-- slices.Values[[]int,int] -/
noncomputable def c23 : Code := (Try.f23.body).getD .skip
theorem enter23 {ext : FuncId → Option (List PV → List GO → Option (PV × List GO))} (hx : ext 23 = none) (d : Nat) (args : List PV) (G : List GO) (h : args.length ≤ 4) : shFn (X ext) (d + 1) 23 args G = fin Try.prog Try.f23 false G.length (shCode ⟨Try.prog, eqKinds, G.length, [1], shFn (X ext) d, []⟩ 4 [0, 1, 2] (2 ^ 64) c23 (argEnv args 0, G ++ slotsG [1])) :=
  shFn_run (X := X ext) hx Try.func23 (by rfl) (by decide) rfl (by kernel_rfl) rfl h
/-- slices.ContainsFunc[[]taquin/api.Kind,taquin/api.Kind] -/
noncomputable def c24 : Code := (Try.f24.body).getD .skip
theorem enter24 {ext : FuncId → Option (List PV → List GO → Option (PV × List GO))} (hx : ext 24 = none) (d : Nat) (args : List PV) (G : List GO) (h : args.length ≤ 9) : shFn (X ext) (d + 1) 24 args G = fin Try.prog Try.f24 false G.length (shCode ⟨Try.prog, eqKinds, G.length, [], shFn (X ext) d, []⟩ 9 [0, 1, 4] (2 ^ 64) c24 (argEnv args 0, G ++ slotsG [])) :=
  shFn_run (X := X ext) hx Try.func24 (by rfl) (by decide) rfl (by kernel_rfl) rfl h
/-- taquin/sight.Truth$1 -/
noncomputable def c25 : Code := (Try.f25.body).getD .skip
theorem enter25 {ext : FuncId → Option (List PV → List GO → Option (PV × List GO))} (hx : ext 25 = none) (d : Nat) (args : List PV) (G : List GO) (h : args.length ≤ 7) : shFn (X ext) (d + 1) 25 args G = fin Try.prog Try.f25 false G.length (shCode ⟨Try.prog, eqKinds, G.length, [1], shFn (X ext) d, []⟩ 7 [0, 1, 2] (2 ^ 64) c25 (argEnv args 0, G ++ slotsG [1])) :=
  shFn_run (X := X ext) hx Try.func25 (by rfl) (by decide) rfl (by kernel_rfl) rfl h
/-- slices.ContainsFunc[[]taquin/api.Lot,taquin/api.Lot] -/
noncomputable def c26 : Code := (Try.f26.body).getD .skip
theorem enter26 {ext : FuncId → Option (List PV → List GO → Option (PV × List GO))} (hx : ext 26 = none) (d : Nat) (args : List PV) (G : List GO) (h : args.length ≤ 9) : shFn (X ext) (d + 1) 26 args G = fin Try.prog Try.f26 false G.length (shCode ⟨Try.prog, eqKinds, G.length, [], shFn (X ext) d, []⟩ 9 [0, 1, 4] (2 ^ 64) c26 (argEnv args 0, G ++ slotsG [])) :=
  shFn_run (X := X ext) hx Try.func26 (by rfl) (by decide) rfl (by kernel_rfl) rfl h
/-- taquin/sight.Truth$2 -/
noncomputable def c27 : Code := (Try.f27.body).getD .skip
theorem enter27 {ext : FuncId → Option (List PV → List GO → Option (PV × List GO))} (hx : ext 27 = none) (d : Nat) (args : List PV) (G : List GO) (h : args.length ≤ 11) : shFn (X ext) (d + 1) 27 args G = fin Try.prog Try.f27 false G.length (shCode ⟨Try.prog, eqKinds, G.length, [2], shFn (X ext) d, []⟩ 11 [0, 1, 2, 3] (2 ^ 64) c27 (argEnv args 0, G ++ slotsG [2])) :=
  shFn_run (X := X ext) hx Try.func27 (by rfl) (by decide) rfl (by kernel_rfl) rfl h
/-- slices.ContainsFunc[[]taquin/api.Box,taquin/api.Box] -/
noncomputable def c28 : Code := (Try.f28.body).getD .skip
theorem enter28 {ext : FuncId → Option (List PV → List GO → Option (PV × List GO))} (hx : ext 28 = none) (d : Nat) (args : List PV) (G : List GO) (h : args.length ≤ 9) : shFn (X ext) (d + 1) 28 args G = fin Try.prog Try.f28 false G.length (shCode ⟨Try.prog, eqKinds, G.length, [], shFn (X ext) d, []⟩ 9 [0, 1, 4] (2 ^ 64) c28 (argEnv args 0, G ++ slotsG [])) :=
  shFn_run (X := X ext) hx Try.func28 (by rfl) (by decide) rfl (by kernel_rfl) rfl h
/-- taquin/sight.Truth$3 -/
noncomputable def c29 : Code := (Try.f29.body).getD .skip
theorem enter29 {ext : FuncId → Option (List PV → List GO → Option (PV × List GO))} (hx : ext 29 = none) (d : Nat) (args : List PV) (G : List GO) (h : args.length ≤ 33) : shFn (X ext) (d + 1) 29 args G = fin Try.prog Try.f29 false G.length (shCode ⟨Try.prog, eqKinds, G.length, [2], shFn (X ext) d, []⟩ 33 [0, 1, 2, 3] (2 ^ 64) c29 (argEnv args 0, G ++ slotsG [2])) :=
  shFn_run (X := X ext) hx Try.func29 (by rfl) (by decide) rfl (by kernel_rfl) rfl h
/-- taquin/taquinref07.Has -/
noncomputable def c30 : Code := (Try.f30.body).getD .skip
theorem enter30 {ext : FuncId → Option (List PV → List GO → Option (PV × List GO))} (hx : ext 30 = none) (d : Nat) (args : List PV) (G : List GO) (h : args.length ≤ 18) : shFn (X ext) (d + 1) 30 args G = fin Try.prog Try.f30 false G.length (shCode ⟨Try.prog, eqKinds, G.length, [], shFn (X ext) d, []⟩ 18 [0, 1, 4, 5, 9, 17] (2 ^ 64) c30 (argEnv args 0, G ++ slotsG [])) :=
  shFn_run (X := X ext) hx Try.func30 (by rfl) (by decide) rfl (by kernel_rfl) rfl h
/-- slices.Index[[]int,int] -/
noncomputable def c31 : Code := (Try.f31.body).getD .skip
theorem enter31 {ext : FuncId → Option (List PV → List GO → Option (PV × List GO))} (hx : ext 31 = none) (d : Nat) (args : List PV) (G : List GO) (h : args.length ≤ 19) : shFn (X ext) (d + 1) 31 args G = fin Try.prog Try.f31 false G.length (shCode ⟨Try.prog, eqKinds, G.length, [], shFn (X ext) d, []⟩ 19 [0, 1, 4, 5, 7, 8, 9, 16] (2 ^ 64) c31 (argEnv args 0, G ++ slotsG [])) :=
  shFn_run (X := X ext) hx Try.func31 (by rfl) (by decide) rfl (by kernel_rfl) rfl h
/-- slices.IndexFunc[[]taquin/api.Kind,taquin/api.Kind] -/
noncomputable def c35 : Code := (Try.f35.body).getD .skip
theorem enter35 {ext : FuncId → Option (List PV → List GO → Option (PV × List GO))} (hx : ext 35 = none) (d : Nat) (args : List PV) (G : List GO) (h : args.length ≤ 19) : shFn (X ext) (d + 1) 35 args G = fin Try.prog Try.f35 false G.length (shCode ⟨Try.prog, eqKinds, G.length, [], shFn (X ext) d, []⟩ 19 [0, 1, 4, 5, 7, 8, 9, 16] (2 ^ 64) c35 (argEnv args 0, G ++ slotsG [])) :=
  shFn_run (X := X ext) hx Try.func35 (by rfl) (by decide) rfl (by kernel_rfl) rfl h
/-- slices.IndexFunc[[]taquin/api.Lot,taquin/api.Lot] -/
noncomputable def c36 : Code := (Try.f36.body).getD .skip
theorem enter36 {ext : FuncId → Option (List PV → List GO → Option (PV × List GO))} (hx : ext 36 = none) (d : Nat) (args : List PV) (G : List GO) (h : args.length ≤ 19) : shFn (X ext) (d + 1) 36 args G = fin Try.prog Try.f36 false G.length (shCode ⟨Try.prog, eqKinds, G.length, [], shFn (X ext) d, []⟩ 19 [0, 1, 4, 5, 7, 8, 9, 16] (2 ^ 64) c36 (argEnv args 0, G ++ slotsG [])) :=
  shFn_run (X := X ext) hx Try.func36 (by rfl) (by decide) rfl (by kernel_rfl) rfl h
/-- slices.IndexFunc[[]taquin/api.Box,taquin/api.Box] -/
noncomputable def c37 : Code := (Try.f37.body).getD .skip
theorem enter37 {ext : FuncId → Option (List PV → List GO → Option (PV × List GO))} (hx : ext 37 = none) (d : Nat) (args : List PV) (G : List GO) (h : args.length ≤ 19) : shFn (X ext) (d + 1) 37 args G = fin Try.prog Try.f37 false G.length (shCode ⟨Try.prog, eqKinds, G.length, [], shFn (X ext) d, []⟩ 19 [0, 1, 4, 5, 7, 8, 9, 16] (2 ^ 64) c37 (argEnv args 0, G ++ slotsG [])) :=
  shFn_run (X := X ext) hx Try.func37 (by rfl) (by decide) rfl (by kernel_rfl) rfl h
/-- math/bits.Len -/
noncomputable def c40 : Code := (Try.f40.body).getD .skip
theorem enter40 {ext : FuncId → Option (List PV → List GO → Option (PV × List GO))} (hx : ext 40 = none) (d : Nat) (args : List PV) (G : List GO) (h : args.length ≤ 8) : shFn (X ext) (d + 1) 40 args G = fin Try.prog Try.f40 false G.length (shCode ⟨Try.prog, eqKinds, G.length, [], shFn (X ext) d, []⟩ 8 [0, 2] (2 ^ 64) c40 (argEnv args 0, G ++ slotsG [])) :=
  shFn_run (X := X ext) hx Try.func40 (by rfl) (by decide) rfl (by kernel_rfl) rfl h
/-- slices.choosePivotOrdered[int] -/
noncomputable def c44 : Code := (Try.f44.body).getD .skip
theorem enter44 {ext : FuncId → Option (List PV → List GO → Option (PV × List GO))} (hx : ext 44 = none) (d : Nat) (args : List PV) (G : List GO) (h : args.length ≤ 57) : shFn (X ext) (d + 1) 44 args G = fin Try.prog Try.f44 false G.length (shCode ⟨Try.prog, eqKinds, G.length, [9], shFn (X ext) d, []⟩ 57 [0, 1, 2, 6, 7, 8, 9, 10, 11, 12, 32, 34, 49, 51, 54] (2 ^ 64) c44 (argEnv args 0, G ++ slotsG [9])) :=
  shFn_run (X := X ext) hx Try.func44 (by rfl) (by decide) rfl (by kernel_rfl) rfl h
/-- cmp.Less[int] -/
noncomputable def c47 : Code := (Try.f47.body).getD .skip
theorem enter47 {ext : FuncId → Option (List PV → List GO → Option (PV × List GO))} (hx : ext 47 = none) (d : Nat) (args : List PV) (G : List GO) (h : args.length ≤ 17) : shFn (X ext) (d + 1) 47 args G = fin Try.prog Try.f47 false G.length (shCode ⟨Try.prog, eqKinds, G.length, [], shFn (X ext) d, []⟩ 17 [0, 1, 4] (2 ^ 64) c47 (argEnv args 0, G ++ slotsG [])) :=
  shFn_run (X := X ext) hx Try.func47 (by rfl) (by decide) rfl (by kernel_rfl) rfl h
/-- math/bits.Len32 -/
noncomputable def c50 : Code := (Try.f50.body).getD .skip
theorem enter50 {ext : FuncId → Option (List PV → List GO → Option (PV × List GO))} (hx : ext 50 = none) (d : Nat) (args : List PV) (G : List GO) (h : args.length ≤ 19) : shFn (X ext) (d + 1) 50 args G = fin Try.prog Try.f50 false G.length (shCode ⟨Try.prog, eqKinds, G.length, [], shFn (X ext) d, []⟩ 19 [0, 2, 4, 8] (2 ^ 64) c50 (argEnv args 0, G ++ slotsG [])) :=
  shFn_run (X := X ext) hx Try.func50 (by rfl) (by decide) rfl (by kernel_rfl) rfl h
/-- math/bits.Len64 -/
noncomputable def c51 : Code := (Try.f51.body).getD .skip
theorem enter51 {ext : FuncId → Option (List PV → List GO → Option (PV × List GO))} (hx : ext 51 = none) (d : Nat) (args : List PV) (G : List GO) (h : args.length ≤ 25) : shFn (X ext) (d + 1) 51 args G = fin Try.prog Try.f51 false G.length (shCode ⟨Try.prog, eqKinds, G.length, [], shFn (X ext) d, []⟩ 25 [0, 2, 4, 8, 14] (2 ^ 64) c51 (argEnv args 0, G ++ slotsG [])) :=
  shFn_run (X := X ext) hx Try.func51 (by rfl) (by decide) rfl (by kernel_rfl) rfl h
/-- slices.nextPowerOfTwo -/
noncomputable def c53 : Code := (Try.f53.body).getD .skip
theorem enter53 {ext : FuncId → Option (List PV → List GO → Option (PV × List GO))} (hx : ext 53 = none) (d : Nat) (args : List PV) (G : List GO) (h : args.length ≤ 7) : shFn (X ext) (d + 1) 53 args G = fin Try.prog Try.f53 false G.length (shCode ⟨Try.prog, eqKinds, G.length, [], shFn (X ext) d, []⟩ 7 [0, 2] (2 ^ 64) c53 (argEnv args 0, G ++ slotsG [])) :=
  shFn_run (X := X ext) hx Try.func53 (by rfl) (by decide) rfl (by kernel_rfl) rfl h
/-- (*slices.xorshift).Next -/
noncomputable def c54 : Code := (Try.f54.body).getD .skip
theorem enter54 {ext : FuncId → Option (List PV → List GO → Option (PV × List GO))} (hx : ext 54 = none) (d : Nat) (args : List PV) (G : List GO) (h : args.length ≤ 33) : shFn (X ext) (d + 1) 54 args G = fin Try.prog Try.f54 false G.length (shCode ⟨Try.prog, eqKinds, G.length, [], shFn (X ext) d, []⟩ 33 [0, 2] (2 ^ 64) c54 (argEnv args 0, G ++ slotsG [])) :=
  shFn_run (X := X ext) hx Try.func54 (by rfl) (by decide) rfl (by kernel_rfl) rfl h
/-- slices.medianAdjacentOrdered[int] -/
noncomputable def c55 : Code := (Try.f55.body).getD .skip
theorem enter55 {ext : FuncId → Option (List PV → List GO → Option (PV × List GO))} (hx : ext 55 = none) (d : Nat) (args : List PV) (G : List GO) (h : args.length ≤ 15) : shFn (X ext) (d + 1) 55 args G = fin Try.prog Try.f55 false G.length (shCode ⟨Try.prog, eqKinds, G.length, [], shFn (X ext) d, []⟩ 15 [0, 1, 2, 6] (2 ^ 64) c55 (argEnv args 0, G ++ slotsG [])) :=
  shFn_run (X := X ext) hx Try.func55 (by rfl) (by decide) rfl (by kernel_rfl) rfl h
/-- slices.medianOrdered[int] -/
noncomputable def c56 : Code := (Try.f56.body).getD .skip
theorem enter56 {ext : FuncId → Option (List PV → List GO → Option (PV × List GO))} (hx : ext 56 = none) (d : Nat) (args : List PV) (G : List GO) (h : args.length ≤ 36) : shFn (X ext) (d + 1) 56 args G = fin Try.prog Try.f56 false G.length (shCode ⟨Try.prog, eqKinds, G.length, [], shFn (X ext) d, []⟩ 36 [0, 1, 2, 3, 4, 10] (2 ^ 64) c56 (argEnv args 0, G ++ slotsG [])) :=
  shFn_run (X := X ext) hx Try.func56 (by rfl) (by decide) rfl (by kernel_rfl) rfl h
/-- cmp.isNaN[int] -/
noncomputable def c57 : Code := (Try.f57.body).getD .skip
theorem enter57 {ext : FuncId → Option (List PV → List GO → Option (PV × List GO))} (hx : ext 57 = none) (d : Nat) (args : List PV) (G : List GO) (h : args.length ≤ 6) : shFn (X ext) (d + 1) 57 args G = fin Try.prog Try.f57 false G.length (shCode ⟨Try.prog, eqKinds, G.length, [], shFn (X ext) d, []⟩ 6 [0, 2] (2 ^ 64) c57 (argEnv args 0, G ++ slotsG [])) :=
  shFn_run (X := X ext) hx Try.func57 (by rfl) (by decide) rfl (by kernel_rfl) rfl h
/-- slices.order2Ordered[int] -/
noncomputable def c58 : Code := (Try.f58.body).getD .skip
theorem enter58 {ext : FuncId → Option (List PV → List GO → Option (PV × List GO))} (hx : ext 58 = none) (d : Nat) (args : List PV) (G : List GO) (h : args.length ≤ 28) : shFn (X ext) (d + 1) 58 args G = fin Try.prog Try.f58 false G.length (shCode ⟨Try.prog, eqKinds, G.length, [], shFn (X ext) d, []⟩ 28 [0, 1, 2, 3, 8, 9, 18] (2 ^ 64) c58 (argEnv args 0, G ++ slotsG [])) :=
  shFn_run (X := X ext) hx Try.func58 (by rfl) (by decide) rfl (by kernel_rfl) rfl h
theorem noExt {P : Program} : ExtOk P (fun _ => none) := fun f g h => by cases h
theorem TF : type_of% (And.intro (And.intro (And.intro (And.intro (And.intro (And.intro (And.intro @ek4 @ek29) (And.intro @ek42 @ek49)) (And.intro (And.intro @ek52 @sz3) (And.intro @ag3 @ze3))) (And.intro (And.intro (And.intro @el3 @sz4) (And.intro @ag4 @ze4)) (And.intro (And.intro @sz5 @ag5) (And.intro @ze5 @sz9)))) (And.intro (And.intro (And.intro (And.intro @ag9 @ze9) (And.intro @sz22 @ag22)) (And.intro (And.intro @ze22 @sz23) (And.intro @ag23 @ze23))) (And.intro (And.intro (And.intro @sz24 @ag24) (And.intro @ze24 @sz25)) (And.intro (And.intro @ag25 @ze25) (And.intro @sz27 @ag27))))) (And.intro (And.intro (And.intro (And.intro (And.intro @ze27 @pl27) (And.intro @fo27_0 @fo27_1)) (And.intro (And.intro @fo27_2 @fo27_3) (And.intro @sz29 @ag29))) (And.intro (And.intro (And.intro @ze29 @pl29) (And.intro @fo29_0 @fo29_1)) (And.intro (And.intro @fo29_2 @fo29_3) (And.intro @sz31 @ag31)))) (And.intro (And.intro (And.intro (And.intro @ze31 @el31) (And.intro @pl31 @fo31_0)) (And.intro (And.intro @fo31_1 @fo31_2) (And.intro @fo31_3 @fo31_4))) (And.intro (And.intro (And.intro @sz42 @ag42) (And.intro @ze42 @el42)) (And.intro (And.intro @pl42 @fo42_0) (And.intro @fo42_1 @fo42_2)))))) (And.intro (And.intro (And.intro (And.intro (And.intro (And.intro @sz44 @ag44) (And.intro @ze44 @sz49)) (And.intro (And.intro @ag49 @ze49) (And.intro @el49 @pl49))) (And.intro (And.intro (And.intro @fo49_1 @sz52) (And.intro @ag52 @ze52)) (And.intro (And.intro @el52 @pl52) (And.intro @fo52_0 @sz77)))) (And.intro (And.intro (And.intro (And.intro @ag77 @ze77) (And.intro @sz79 @ag79)) (And.intro (And.intro @ze79 @sz87) (And.intro @ag87 @ze87))) (And.intro (And.intro (And.intro @sz89 @ag89) (And.intro @ze89 @sz90)) (And.intro (And.intro @ag90 @ze90) (And.intro @sz94 @ag94))))) (And.intro (And.intro (And.intro (And.intro (And.intro @ze94 @sz96) (And.intro @ag96 @ze96)) (And.intro (And.intro Try.underlying3 Try.underlying4) (And.intro Try.underlying5 Try.underlying9))) (And.intro (And.intro (And.intro Try.underlying22 Try.underlying23) (And.intro Try.underlying24 Try.underlying25)) (And.intro (And.intro Try.underlying27 Try.underlying29) (And.intro Try.underlying31 Try.underlying42)))) (And.intro (And.intro (And.intro (And.intro Try.underlying44 Try.underlying49) (And.intro Try.underlying52 Try.underlying59)) (And.intro (And.intro Try.underlying60 Try.underlying63) (And.intro Try.underlying65 Try.underlying67))) (And.intro (And.intro (And.intro Try.underlying70 Try.underlying77) (And.intro Try.underlying79 Try.underlying87)) (And.intro (And.intro Try.underlying89 Try.underlying90) (And.intro Try.underlying94 Try.underlying96))))))) := (And.intro (And.intro (And.intro (And.intro (And.intro (And.intro (And.intro @ek4 @ek29) (And.intro @ek42 @ek49)) (And.intro (And.intro @ek52 @sz3) (And.intro @ag3 @ze3))) (And.intro (And.intro (And.intro @el3 @sz4) (And.intro @ag4 @ze4)) (And.intro (And.intro @sz5 @ag5) (And.intro @ze5 @sz9)))) (And.intro (And.intro (And.intro (And.intro @ag9 @ze9) (And.intro @sz22 @ag22)) (And.intro (And.intro @ze22 @sz23) (And.intro @ag23 @ze23))) (And.intro (And.intro (And.intro @sz24 @ag24) (And.intro @ze24 @sz25)) (And.intro (And.intro @ag25 @ze25) (And.intro @sz27 @ag27))))) (And.intro (And.intro (And.intro (And.intro (And.intro @ze27 @pl27) (And.intro @fo27_0 @fo27_1)) (And.intro (And.intro @fo27_2 @fo27_3) (And.intro @sz29 @ag29))) (And.intro (And.intro (And.intro @ze29 @pl29) (And.intro @fo29_0 @fo29_1)) (And.intro (And.intro @fo29_2 @fo29_3) (And.intro @sz31 @ag31)))) (And.intro (And.intro (And.intro (And.intro @ze31 @el31) (And.intro @pl31 @fo31_0)) (And.intro (And.intro @fo31_1 @fo31_2) (And.intro @fo31_3 @fo31_4))) (And.intro (And.intro (And.intro @sz42 @ag42) (And.intro @ze42 @el42)) (And.intro (And.intro @pl42 @fo42_0) (And.intro @fo42_1 @fo42_2)))))) (And.intro (And.intro (And.intro (And.intro (And.intro (And.intro @sz44 @ag44) (And.intro @ze44 @sz49)) (And.intro (And.intro @ag49 @ze49) (And.intro @el49 @pl49))) (And.intro (And.intro (And.intro @fo49_1 @sz52) (And.intro @ag52 @ze52)) (And.intro (And.intro @el52 @pl52) (And.intro @fo52_0 @sz77)))) (And.intro (And.intro (And.intro (And.intro @ag77 @ze77) (And.intro @sz79 @ag79)) (And.intro (And.intro @ze79 @sz87) (And.intro @ag87 @ze87))) (And.intro (And.intro (And.intro @sz89 @ag89) (And.intro @ze89 @sz90)) (And.intro (And.intro @ag90 @ze90) (And.intro @sz94 @ag94))))) (And.intro (And.intro (And.intro (And.intro (And.intro @ze94 @sz96) (And.intro @ag96 @ze96)) (And.intro (And.intro Try.underlying3 Try.underlying4) (And.intro Try.underlying5 Try.underlying9))) (And.intro (And.intro (And.intro Try.underlying22 Try.underlying23) (And.intro Try.underlying24 Try.underlying25)) (And.intro (And.intro Try.underlying27 Try.underlying29) (And.intro Try.underlying31 Try.underlying42)))) (And.intro (And.intro (And.intro (And.intro Try.underlying44 Try.underlying49) (And.intro Try.underlying52 Try.underlying59)) (And.intro (And.intro Try.underlying60 Try.underlying63) (And.intro Try.underlying65 Try.underlying67))) (And.intro (And.intro (And.intro Try.underlying70 Try.underlying77) (And.intro Try.underlying79 Try.underlying87)) (And.intro (And.intro Try.underlying89 Try.underlying90) (And.intro Try.underlying94 Try.underlying96)))))))
theorem clone20 : CallOk Try.prog (fun f' args G => if f' = 20 then cloneG 1 8 args G else none) := by
  refine clone_ok (X := X fun _ => none) rfl eqOk noExt follows (fun l h0 h1 h2 => ?_) ?_ ?_
  · rw [enter20 rfl _ _ _ (by simp)]
    simp -implicitDefEqProofs only [c20, Try.f20, h0, h1, h2, EVB, STB, TF, Option.isSome_some, Option.isSome_none, asgn, binV, nilV, seen, valOp, bin, ibin, resOf, resVar, sealR, seal3, seal2, flat, one, cellsOf, cellsAt, newAt, storeG, rowOf, rd, further, over, natIn, vEq, vEqs, shiftV, argEnv, slotsG, slotIx, noOwn, isRowG, keptV, ownFlat, shiftR, shift1, keepR, reloc, relocs, kept, maxP, minP, appOp, rowE, oneF, sealArg, seal1, pureV, scalV, isOwn, hasOwn, bldOf, fillP, litOf, mkM, upM, dlM, mkS, updM, putM, delM, strikeM, findM, mapOf, keyV, vals, keyEq, keyEqs, keyEq1, shapeV, shapes, KD.of, found, zeroPV, isNilMap, ↓reduceIte, Nat.reduceLT, Nat.reduceLeDiff, Nat.reduceAdd, Nat.reduceSub, Nat.reduceMul, Nat.reducePow, Nat.reduceEqDiff, Nat.reduceBEq, Int.reduceLE, Int.reduceLT, Int.reduceToNat, Int.reduceEq, Int.reduceNeg, reduceCtorEq]
  · rw [enter20 rfl _ _ _ (by simp)]
    simp -implicitDefEqProofs only [c20, Try.f20, EVB, STB, TF, Option.isSome_some, Option.isSome_none, asgn, binV, nilV, nilEq, seen, valOp, bin, ibin, resOf, resVar, sealR, seal3, seal2, flat, one, cellsOf, cellsAt, newAt, storeG, rowOf, rd, further, over, natIn, vEq, vEqs, shiftV, argEnv, slotsG, slotIx, noOwn, isRowG, keptV, ownFlat, shiftR, shift1, keepR, reloc, relocs, kept, maxP, minP, appOp, rowE, fits, oneF, sealArg, seal1, pureV, scalV, isOwn, hasOwn, bldOf, fillP, litOf, mkM, upM, dlM, mkS, updM, putM, delM, strikeM, findM, mapOf, keyV, vals, keyEq, keyEqs, keyEq1, shapeV, shapes, KD.of, found, zeroPV, isNilMap, ↓reduceIte, Nat.reduceLT, Nat.reduceLeDiff, Nat.reduceAdd, Nat.reduceSub, Nat.reduceMul, Nat.reducePow, Nat.reduceEqDiff, Nat.reduceBEq, Int.reduceLE, Int.reduceLT, Int.reduceToNat, Int.reduceEq, Int.reduceNeg, reduceCtorEq]
    try rfl
  · rw [enter20 rfl _ _ _ (by simp)]
    simp -implicitDefEqProofs only [c20, Try.f20, EVB, STB, TF, Option.isSome_some, Option.isSome_none, asgn, binV, nilV, nilEq, seen, valOp, bin, ibin, resOf, resVar, sealR, seal3, seal2, flat, one, cellsOf, cellsAt, newAt, storeG, rowOf, rd, further, over, natIn, vEq, vEqs, shiftV, argEnv, slotsG, slotIx, noOwn, isRowG, keptV, ownFlat, shiftR, shift1, keepR, reloc, relocs, kept, maxP, minP, appOp, rowE, fits, oneF, sealArg, seal1, pureV, scalV, isOwn, hasOwn, bldOf, fillP, litOf, mkM, upM, dlM, mkS, updM, putM, delM, strikeM, findM, mapOf, keyV, vals, keyEq, keyEqs, keyEq1, shapeV, shapes, KD.of, found, zeroPV, isNilMap, ↓reduceIte, Nat.reduceLT, Nat.reduceLeDiff, Nat.reduceAdd, Nat.reduceSub, Nat.reduceMul, Nat.reducePow, Nat.reduceEqDiff, Nat.reduceBEq, Int.reduceLE, Int.reduceLT, Int.reduceToNat, Int.reduceEq, Int.reduceNeg, reduceCtorEq]
    try rfl
theorem clone21 : CallOk Try.prog (fun f' args G => if f' = 21 then cloneG 3 24 args G else none) := by
  refine clone_ok (X := X fun _ => none) rfl eqOk noExt follows (fun l h0 h1 h2 => ?_) ?_ ?_
  · rw [enter21 rfl _ _ _ (by simp)]
    simp -implicitDefEqProofs only [c21, Try.f21, h0, h1, h2, EVB, STB, TF, Option.isSome_some, Option.isSome_none, asgn, binV, nilV, seen, valOp, bin, ibin, resOf, resVar, sealR, seal3, seal2, flat, one, cellsOf, cellsAt, newAt, storeG, rowOf, rd, further, over, natIn, vEq, vEqs, shiftV, argEnv, slotsG, slotIx, noOwn, isRowG, keptV, ownFlat, shiftR, shift1, keepR, reloc, relocs, kept, maxP, minP, appOp, rowE, oneF, sealArg, seal1, pureV, scalV, isOwn, hasOwn, bldOf, fillP, litOf, mkM, upM, dlM, mkS, updM, putM, delM, strikeM, findM, mapOf, keyV, vals, keyEq, keyEqs, keyEq1, shapeV, shapes, KD.of, found, zeroPV, isNilMap, ↓reduceIte, Nat.reduceLT, Nat.reduceLeDiff, Nat.reduceAdd, Nat.reduceSub, Nat.reduceMul, Nat.reducePow, Nat.reduceEqDiff, Nat.reduceBEq, Int.reduceLE, Int.reduceLT, Int.reduceToNat, Int.reduceEq, Int.reduceNeg, reduceCtorEq]
  · rw [enter21 rfl _ _ _ (by simp)]
    simp -implicitDefEqProofs only [c21, Try.f21, EVB, STB, TF, Option.isSome_some, Option.isSome_none, asgn, binV, nilV, nilEq, seen, valOp, bin, ibin, resOf, resVar, sealR, seal3, seal2, flat, one, cellsOf, cellsAt, newAt, storeG, rowOf, rd, further, over, natIn, vEq, vEqs, shiftV, argEnv, slotsG, slotIx, noOwn, isRowG, keptV, ownFlat, shiftR, shift1, keepR, reloc, relocs, kept, maxP, minP, appOp, rowE, fits, oneF, sealArg, seal1, pureV, scalV, isOwn, hasOwn, bldOf, fillP, litOf, mkM, upM, dlM, mkS, updM, putM, delM, strikeM, findM, mapOf, keyV, vals, keyEq, keyEqs, keyEq1, shapeV, shapes, KD.of, found, zeroPV, isNilMap, ↓reduceIte, Nat.reduceLT, Nat.reduceLeDiff, Nat.reduceAdd, Nat.reduceSub, Nat.reduceMul, Nat.reducePow, Nat.reduceEqDiff, Nat.reduceBEq, Int.reduceLE, Int.reduceLT, Int.reduceToNat, Int.reduceEq, Int.reduceNeg, reduceCtorEq]
    try rfl
  · rw [enter21 rfl _ _ _ (by simp)]
    simp -implicitDefEqProofs only [c21, Try.f21, EVB, STB, TF, Option.isSome_some, Option.isSome_none, asgn, binV, nilV, nilEq, seen, valOp, bin, ibin, resOf, resVar, sealR, seal3, seal2, flat, one, cellsOf, cellsAt, newAt, storeG, rowOf, rd, further, over, natIn, vEq, vEqs, shiftV, argEnv, slotsG, slotIx, noOwn, isRowG, keptV, ownFlat, shiftR, shift1, keepR, reloc, relocs, kept, maxP, minP, appOp, rowE, fits, oneF, sealArg, seal1, pureV, scalV, isOwn, hasOwn, bldOf, fillP, litOf, mkM, upM, dlM, mkS, updM, putM, delM, strikeM, findM, mapOf, keyV, vals, keyEq, keyEqs, keyEq1, shapeV, shapes, KD.of, found, zeroPV, isNilMap, ↓reduceIte, Nat.reduceLT, Nat.reduceLeDiff, Nat.reduceAdd, Nat.reduceSub, Nat.reduceMul, Nat.reducePow, Nat.reduceEqDiff, Nat.reduceBEq, Int.reduceLE, Int.reduceLT, Int.reduceToNat, Int.reduceEq, Int.reduceNeg, reduceCtorEq]
    try rfl
theorem ext33 : CallOk Try.prog (fun f' args G => if f' = 33 then sortG args G else none) := sort_ok ⟨Try.f33, Try.func33, by kernel_rfl, by kernel_rfl⟩ (fun blk off cap zs w h1 h2 h3 => Try.slices_Sort_int blk off cap zs w h1 h2 h3) (fun p cap w => Try.slices_Sort_int_none p cap w)
theorem ext32 : CallOk Try.prog (fun f' args G => if f' = 32 then collG 34 args G else none) := coll_ok (t := 3) ⟨Try.f32, Try.func32, by kernel_rfl, by kernel_rfl⟩ (fun b o A c zs w h1 h2 h3 h4 => collect_calls b o A c zs w h1 h2 h3 h4)
theorem extOk : ExtOk Try.prog ext0 := fun f g h => by
  unfold ext0 at h
  split at h
  · cases h; exact clone20
  · cases h; exact clone21
  · cases h; exact ext33
  · cases h; exact ext32
  all_goals cases h
end Go.Proofs.Ythmlfonbfnmalaa.Sh
