/- Truth of sight for right truths, by the shadow run. No condition. -/
import Derived.Test.YthmlfonbfnmalaaLE
namespace Go.Proofs.Ythmlfonbfnmalaa.Sh
open Go.RowKit
set_option maxRecDepth 100000
set_option maxHeartbeats 2000000
set_option linter.unusedSimpArgs false
set_option linter.unusedVariables false
theorem kind_no (d : Nat) (k : GKind) (h : kindOk k = true) : shFn (X ext0) (d + 2) 25 [.agg k.cells] [] = some (bool false, []) := by
  rw [enter25 rfl _ _ _ (by simp)]
  simp only [kindOk, Bool.not_eq_true', Bool.or_eq_false_iff, decide_eq_false_iff_not] at h
  have h1 : 0 ≤ k.weight := by omega
  have h2 : k.weight ≤ 1048576 := by omega
  simp -implicitDefEqProofs only [c25, Try.f25, within_sh, h1, h2, EVB, STB, TF, Option.isSome_some, Option.isSome_none, asgn, binV, nilV, nilEq, seen, valOp, bin, ibin, resOf, resVar, sealR, seal3, seal2, flat, one, cellsOf, cellsAt, newAt, storeG, rowOf, rd, further, over, natIn, vEq, vEqs, shiftV, argEnv, slotsG, slotIx, noOwn, isRowG, keptV, ownFlat, shiftR, shift1, keepR, reloc, relocs, kept, maxP, minP, appOp, rowE, fits, oneF, sealArg, seal1, pureV, scalV, isOwn, hasOwn, bldOf, fillP, litOf, mkM, upM, dlM, mkS, updM, putM, delM, strikeM, findM, mapOf, keyV, vals, keyEq, keyEqs, keyEq1, shapeV, shapes, KD.of, found, zeroPV, isNilMap, ↓reduceIte, Nat.reduceLT, Nat.reduceLeDiff, Nat.reduceAdd, Nat.reduceSub, Nat.reduceMul, Nat.reducePow, Nat.reduceEqDiff, Nat.reduceBEq, Int.reduceLE, Int.reduceLT, Int.reduceToNat, Int.reduceEq, Int.reduceNeg, reduceCtorEq]
theorem idx_kinds (d : Nat) (ks : List GKind) (hl : ks.length < 2 ^ 63) (h : ∀ k ∈ ks, kindOk k = true) : shFn (X ext0) (d + 3) 35 [pKinds ks, .clo 25 []] [] = some (int (-1), []) := by
  rw [enter35 rfl _ _ _ (by simp)]
  simp -implicitDefEqProofs only [c35, Try.f35, ev_loop, EVB, STB, TF, Option.isSome_some, Option.isSome_none, asgn, binV, nilV, nilEq, seen, valOp, bin, ibin, resOf, resVar, sealR, seal3, seal2, flat, one, cellsOf, cellsAt, newAt, storeG, rowOf, rd, further, over, natIn, vEq, vEqs, shiftV, argEnv, slotsG, slotIx, noOwn, isRowG, keptV, ownFlat, shiftR, shift1, keepR, reloc, relocs, kept, maxP, minP, appOp, rowE, fits, oneF, sealArg, seal1, pureV, scalV, isOwn, hasOwn, bldOf, fillP, litOf, mkM, upM, dlM, mkS, updM, putM, delM, strikeM, findM, mapOf, keyV, vals, keyEq, keyEqs, keyEq1, shapeV, shapes, KD.of, found, zeroPV, isNilMap, ↓reduceIte, Nat.reduceLT, Nat.reduceLeDiff, Nat.reduceAdd, Nat.reduceSub, Nat.reduceMul, Nat.reducePow, Nat.reduceEqDiff, Nat.reduceBEq, Int.reduceLE, Int.reduceLT, Int.reduceToNat, Int.reduceEq, Int.reduceNeg, reduceCtorEq]
  generalize hF : shCode _ _ _ _ _ = F
  generalize hL : shLoop F _ _ = r
  obtain ⟨s', hr, j0, j1, j4, j5, j7, j8, j9, j16, rfl⟩ := loop_to hL (ks.length) (fun i s => ∃ j4 j5 j9 j16, s = ([(0, pKinds ks), (1, .clo 25 []), (4, j4), (5, j5), (7, int ks.length), (8, int i), (9, j9), (16, j16)], [])) (.ext 0)
    (fun s => ∃ j0 j1 j4 j5 j7 j8 j9 j16, s = ([(0, j0), (1, j1), (4, j4), (5, j5), (7, j7), (8, j8), (9, j9), (16, j16)], [])) (by simp) (by exact ⟨_, _, _, _, rfl⟩) (by omega)
    (fun i hi s ⟨j4, j5, j9, j16, hs⟩ => by
        have hlt : (i : Int) < (ks.length : Nat) := by omega
        have h0 : (0 : Int) ≤ i := by omega
        have hg : ks[i]? = some ks[i] := List.getElem?_eq_getElem hi
        have e1 := kind_no d ks[i] (h _ (List.getElem_mem hi))
        simp only [GKind.cells] at e1
        clear hL
        subst hs hF
        simp -implicitDefEqProofs only [hlt, h0, hg, e1, Int.toNat_natCast, i64_succ (show i < 2 ^ 63 - 1 by omega), EVB, STB, TF, Option.isSome_some, Option.isSome_none, asgn, binV, nilV, nilEq, seen, valOp, bin, ibin, resOf, resVar, sealR, seal3, seal2, flat, one, cellsOf, cellsAt, newAt, storeG, rowOf, rd, further, over, natIn, vEq, vEqs, shiftV, argEnv, slotsG, slotIx, noOwn, isRowG, keptV, ownFlat, shiftR, shift1, keepR, reloc, relocs, kept, maxP, minP, appOp, rowE, fits, oneF, sealArg, seal1, pureV, scalV, isOwn, hasOwn, bldOf, fillP, litOf, mkM, upM, dlM, mkS, updM, putM, delM, strikeM, findM, mapOf, keyV, vals, keyEq, keyEqs, keyEq1, shapeV, shapes, KD.of, found, zeroPV, isNilMap, ↓reduceIte, Nat.reduceLT, Nat.reduceLeDiff, Nat.reduceAdd, Nat.reduceSub, Nat.reduceMul, Nat.reducePow, Nat.reduceEqDiff, Nat.reduceBEq, Int.reduceLE, Int.reduceLT, Int.reduceToNat, Int.reduceEq, Int.reduceNeg, reduceCtorEq]
        exact ⟨_, rfl, _, _, _, _, rfl⟩)
    (fun s ⟨j4, j5, j9, j16, hs⟩ => by
        clear hL
        subst hs hF
        simp -implicitDefEqProofs only [Int.lt_irrefl, EVB, STB, TF, Option.isSome_some, Option.isSome_none, asgn, binV, nilV, nilEq, seen, valOp, bin, ibin, resOf, resVar, sealR, seal3, seal2, flat, one, cellsOf, cellsAt, newAt, storeG, rowOf, rd, further, over, natIn, vEq, vEqs, shiftV, argEnv, slotsG, slotIx, noOwn, isRowG, keptV, ownFlat, shiftR, shift1, keepR, reloc, relocs, kept, maxP, minP, appOp, rowE, fits, oneF, sealArg, seal1, pureV, scalV, isOwn, hasOwn, bldOf, fillP, litOf, mkM, upM, dlM, mkS, updM, putM, delM, strikeM, findM, mapOf, keyV, vals, keyEq, keyEqs, keyEq1, shapeV, shapes, KD.of, found, zeroPV, isNilMap, ↓reduceIte, Nat.reduceLT, Nat.reduceLeDiff, Nat.reduceAdd, Nat.reduceSub, Nat.reduceMul, Nat.reducePow, Nat.reduceEqDiff, Nat.reduceBEq, Int.reduceLE, Int.reduceLT, Int.reduceToNat, Int.reduceEq, Int.reduceNeg, reduceCtorEq]
        exact ⟨_, rfl, _, _, _, _, _, _, _, _, rfl⟩)
  rw [hr]
  simp -implicitDefEqProofs only [EVB, STB, TF, Option.isSome_some, Option.isSome_none, asgn, binV, nilV, nilEq, seen, valOp, bin, ibin, resOf, resVar, sealR, seal3, seal2, flat, one, cellsOf, cellsAt, newAt, storeG, rowOf, rd, further, over, natIn, vEq, vEqs, shiftV, argEnv, slotsG, slotIx, noOwn, isRowG, keptV, ownFlat, shiftR, shift1, keepR, reloc, relocs, kept, maxP, minP, appOp, rowE, fits, oneF, sealArg, seal1, pureV, scalV, isOwn, hasOwn, bldOf, fillP, litOf, mkM, upM, dlM, mkS, updM, putM, delM, strikeM, findM, mapOf, keyV, vals, keyEq, keyEqs, keyEq1, shapeV, shapes, KD.of, found, zeroPV, isNilMap, ↓reduceIte, Nat.reduceLT, Nat.reduceLeDiff, Nat.reduceAdd, Nat.reduceSub, Nat.reduceMul, Nat.reducePow, Nat.reduceEqDiff, Nat.reduceBEq, Int.reduceLE, Int.reduceLT, Int.reduceToNat, Int.reduceEq, Int.reduceNeg, reduceCtorEq]
theorem con_kinds (d : Nat) (ks : List GKind) (hl : ks.length < 2 ^ 63) (h : ∀ k ∈ ks, kindOk k = true) : shFn (X ext0) (d + 4) 24 [pKinds ks, .clo 25 []] [] = some (bool false, []) := by
  rw [enter24 rfl _ _ _ (by simp)]
  have e1 := idx_kinds d ks hl h
  simp -implicitDefEqProofs only [c24, Try.f24, e1, Int.reduceLE, Int.reduceNeg, EVB, STB, TF, Option.isSome_some, Option.isSome_none, asgn, binV, nilV, nilEq, seen, valOp, bin, ibin, resOf, resVar, sealR, seal3, seal2, flat, one, cellsOf, cellsAt, newAt, storeG, rowOf, rd, further, over, natIn, vEq, vEqs, shiftV, argEnv, slotsG, slotIx, noOwn, isRowG, keptV, ownFlat, shiftR, shift1, keepR, reloc, relocs, kept, maxP, minP, appOp, rowE, fits, oneF, sealArg, seal1, pureV, scalV, isOwn, hasOwn, bldOf, fillP, litOf, mkM, upM, dlM, mkS, updM, putM, delM, strikeM, findM, mapOf, keyV, vals, keyEq, keyEqs, keyEq1, shapeV, shapes, KD.of, found, zeroPV, isNilMap, ↓reduceIte, Nat.reduceLT, Nat.reduceLeDiff, Nat.reduceAdd, Nat.reduceSub, Nat.reduceMul, Nat.reducePow, Nat.reduceEqDiff, Nat.reduceBEq, Int.reduceLE, Int.reduceLT, Int.reduceToNat, Int.reduceEq, Int.reduceNeg, reduceCtorEq]
/-- What the literals see. -/
abbrev caught (ks : List GKind) (ls : List GLot) : List GO := [⟨1, .box [pKinds ks]⟩, ⟨1, .box [pLots ls]⟩]
theorem lot_no (d : Nat) (ks : List GKind) (ls : List GLot) (l : GLot) (hk : ks.length < 2 ^ 62) (h : lotOk ks.length l = true) : shFn (X ext0) (d + 2) 27 [.agg l.cells, .box 0 1 0] (caught ks ls) = some (bool false, caught ks ls) := by
  rw [enter27 rfl _ _ _ (by simp)]
  simp only [lotOk, Bool.not_eq_true', Bool.or_eq_false_iff, decide_eq_false_iff_not] at h
  have w1 : IntKind.i64.wrap ((ks.length : Int) - 1) = ks.length - 1 := i64_id (by omega) (by omega)
  have h1 : 0 ≤ l.kind := by omega
  have h2 : l.kind ≤ (ks.length : Int) - 1 := by omega
  simp -implicitDefEqProofs only [c27, Try.f27, caught, within_sh, w1, h1, h2, EVB, STB, TF, Option.isSome_some, Option.isSome_none, asgn, binV, nilV, nilEq, seen, valOp, bin, ibin, resOf, resVar, sealR, seal3, seal2, flat, one, cellsOf, cellsAt, newAt, storeG, rowOf, rd, further, over, natIn, vEq, vEqs, shiftV, argEnv, slotsG, slotIx, noOwn, isRowG, keptV, ownFlat, shiftR, shift1, keepR, reloc, relocs, kept, maxP, minP, appOp, rowE, fits, oneF, sealArg, seal1, pureV, scalV, isOwn, hasOwn, bldOf, fillP, litOf, mkM, upM, dlM, mkS, updM, putM, delM, strikeM, findM, mapOf, keyV, vals, keyEq, keyEqs, keyEq1, shapeV, shapes, KD.of, found, zeroPV, isNilMap, ↓reduceIte, Nat.reduceLT, Nat.reduceLeDiff, Nat.reduceAdd, Nat.reduceSub, Nat.reduceMul, Nat.reducePow, Nat.reduceEqDiff, Nat.reduceBEq, Int.reduceLE, Int.reduceLT, Int.reduceToNat, Int.reduceEq, Int.reduceNeg, reduceCtorEq]
theorem idx_lots (d : Nat) (ks : List GKind) (ls : List GLot) (hk : ks.length < 2 ^ 62) (hl : ls.length < 2 ^ 63) (h : ∀ l ∈ ls, lotOk ks.length l = true) : shFn (X ext0) (d + 3) 36 [pLots ls, .clo 27 [.box 0 1 0]] (caught ks ls) = some (int (-1), caught ks ls) := by
  rw [enter36 rfl _ _ _ (by simp)]
  simp -implicitDefEqProofs only [c36, Try.f36, caught, ev_loop, EVB, STB, TF, Option.isSome_some, Option.isSome_none, asgn, binV, nilV, nilEq, seen, valOp, bin, ibin, resOf, resVar, sealR, seal3, seal2, flat, one, cellsOf, cellsAt, newAt, storeG, rowOf, rd, further, over, natIn, vEq, vEqs, shiftV, argEnv, slotsG, slotIx, noOwn, isRowG, keptV, ownFlat, shiftR, shift1, keepR, reloc, relocs, kept, maxP, minP, appOp, rowE, fits, oneF, sealArg, seal1, pureV, scalV, isOwn, hasOwn, bldOf, fillP, litOf, mkM, upM, dlM, mkS, updM, putM, delM, strikeM, findM, mapOf, keyV, vals, keyEq, keyEqs, keyEq1, shapeV, shapes, KD.of, found, zeroPV, isNilMap, ↓reduceIte, Nat.reduceLT, Nat.reduceLeDiff, Nat.reduceAdd, Nat.reduceSub, Nat.reduceMul, Nat.reducePow, Nat.reduceEqDiff, Nat.reduceBEq, Int.reduceLE, Int.reduceLT, Int.reduceToNat, Int.reduceEq, Int.reduceNeg, reduceCtorEq]
  generalize hF : shCode _ _ _ _ _ = F
  generalize hL : shLoop F _ _ = r
  obtain ⟨s', hr, j0, j1, j4, j5, j7, j8, j9, j16, rfl⟩ := loop_to hL (ls.length) (fun i s => ∃ j4 j5 j9 j16, s = ([(0, pLots ls), (1, .clo 27 [.box 0 1 0]), (4, j4), (5, j5), (7, int ls.length), (8, int i), (9, j9), (16, j16)], [⟨1, .box [pKinds ks]⟩, ⟨1, .box [pLots ls]⟩])) (.ext 0)
    (fun s => ∃ j0 j1 j4 j5 j7 j8 j9 j16, s = ([(0, j0), (1, j1), (4, j4), (5, j5), (7, j7), (8, j8), (9, j9), (16, j16)], [⟨1, .box [pKinds ks]⟩, ⟨1, .box [pLots ls]⟩])) (by simp) (by exact ⟨_, _, _, _, rfl⟩) (by omega)
    (fun i hi s ⟨j4, j5, j9, j16, hs⟩ => by
        have hlt : (i : Int) < (ls.length : Nat) := by omega
        have h0 : (0 : Int) ≤ i := by omega
        have hg : ls[i]? = some ls[i] := List.getElem?_eq_getElem hi
        have e1 := lot_no d ks ls ls[i] hk (h _ (List.getElem_mem hi))
        simp only [GLot.cells, caught] at e1
        clear hL
        subst hs hF
        simp -implicitDefEqProofs only [hlt, h0, hg, e1, Int.toNat_natCast, i64_succ (show i < 2 ^ 63 - 1 by omega), EVB, STB, TF, Option.isSome_some, Option.isSome_none, asgn, binV, nilV, nilEq, seen, valOp, bin, ibin, resOf, resVar, sealR, seal3, seal2, flat, one, cellsOf, cellsAt, newAt, storeG, rowOf, rd, further, over, natIn, vEq, vEqs, shiftV, argEnv, slotsG, slotIx, noOwn, isRowG, keptV, ownFlat, shiftR, shift1, keepR, reloc, relocs, kept, maxP, minP, appOp, rowE, fits, oneF, sealArg, seal1, pureV, scalV, isOwn, hasOwn, bldOf, fillP, litOf, mkM, upM, dlM, mkS, updM, putM, delM, strikeM, findM, mapOf, keyV, vals, keyEq, keyEqs, keyEq1, shapeV, shapes, KD.of, found, zeroPV, isNilMap, ↓reduceIte, Nat.reduceLT, Nat.reduceLeDiff, Nat.reduceAdd, Nat.reduceSub, Nat.reduceMul, Nat.reducePow, Nat.reduceEqDiff, Nat.reduceBEq, Int.reduceLE, Int.reduceLT, Int.reduceToNat, Int.reduceEq, Int.reduceNeg, reduceCtorEq]
        exact ⟨_, rfl, _, _, _, _, rfl⟩)
    (fun s ⟨j4, j5, j9, j16, hs⟩ => by
        clear hL
        subst hs hF
        simp -implicitDefEqProofs only [Int.lt_irrefl, EVB, STB, TF, Option.isSome_some, Option.isSome_none, asgn, binV, nilV, nilEq, seen, valOp, bin, ibin, resOf, resVar, sealR, seal3, seal2, flat, one, cellsOf, cellsAt, newAt, storeG, rowOf, rd, further, over, natIn, vEq, vEqs, shiftV, argEnv, slotsG, slotIx, noOwn, isRowG, keptV, ownFlat, shiftR, shift1, keepR, reloc, relocs, kept, maxP, minP, appOp, rowE, fits, oneF, sealArg, seal1, pureV, scalV, isOwn, hasOwn, bldOf, fillP, litOf, mkM, upM, dlM, mkS, updM, putM, delM, strikeM, findM, mapOf, keyV, vals, keyEq, keyEqs, keyEq1, shapeV, shapes, KD.of, found, zeroPV, isNilMap, ↓reduceIte, Nat.reduceLT, Nat.reduceLeDiff, Nat.reduceAdd, Nat.reduceSub, Nat.reduceMul, Nat.reducePow, Nat.reduceEqDiff, Nat.reduceBEq, Int.reduceLE, Int.reduceLT, Int.reduceToNat, Int.reduceEq, Int.reduceNeg, reduceCtorEq]
        exact ⟨_, rfl, _, _, _, _, _, _, _, _, rfl⟩)
  rw [hr]
  simp -implicitDefEqProofs only [EVB, STB, TF, Option.isSome_some, Option.isSome_none, asgn, binV, nilV, nilEq, seen, valOp, bin, ibin, resOf, resVar, sealR, seal3, seal2, flat, one, cellsOf, cellsAt, newAt, storeG, rowOf, rd, further, over, natIn, vEq, vEqs, shiftV, argEnv, slotsG, slotIx, noOwn, isRowG, keptV, ownFlat, shiftR, shift1, keepR, reloc, relocs, kept, maxP, minP, appOp, rowE, fits, oneF, sealArg, seal1, pureV, scalV, isOwn, hasOwn, bldOf, fillP, litOf, mkM, upM, dlM, mkS, updM, putM, delM, strikeM, findM, mapOf, keyV, vals, keyEq, keyEqs, keyEq1, shapeV, shapes, KD.of, found, zeroPV, isNilMap, ↓reduceIte, Nat.reduceLT, Nat.reduceLeDiff, Nat.reduceAdd, Nat.reduceSub, Nat.reduceMul, Nat.reducePow, Nat.reduceEqDiff, Nat.reduceBEq, Int.reduceLE, Int.reduceLT, Int.reduceToNat, Int.reduceEq, Int.reduceNeg, reduceCtorEq]
theorem con_lots (d : Nat) (ks : List GKind) (ls : List GLot) (hk : ks.length < 2 ^ 62) (hl : ls.length < 2 ^ 63) (h : ∀ l ∈ ls, lotOk ks.length l = true) : shFn (X ext0) (d + 4) 26 [pLots ls, .clo 27 [.box 0 1 0]] (caught ks ls) = some (bool false, caught ks ls) := by
  rw [enter26 rfl _ _ _ (by simp)]
  have e1 := idx_lots d ks ls hk hl h
  simp only [caught] at e1
  simp -implicitDefEqProofs only [c26, Try.f26, caught, e1, Int.reduceLE, Int.reduceNeg, EVB, STB, TF, Option.isSome_some, Option.isSome_none, asgn, binV, nilV, nilEq, seen, valOp, bin, ibin, resOf, resVar, sealR, seal3, seal2, flat, one, cellsOf, cellsAt, newAt, storeG, rowOf, rd, further, over, natIn, vEq, vEqs, shiftV, argEnv, slotsG, slotIx, noOwn, isRowG, keptV, ownFlat, shiftR, shift1, keepR, reloc, relocs, kept, maxP, minP, appOp, rowE, fits, oneF, sealArg, seal1, pureV, scalV, isOwn, hasOwn, bldOf, fillP, litOf, mkM, upM, dlM, mkS, updM, putM, delM, strikeM, findM, mapOf, keyV, vals, keyEq, keyEqs, keyEq1, shapeV, shapes, KD.of, found, zeroPV, isNilMap, ↓reduceIte, Nat.reduceLT, Nat.reduceLeDiff, Nat.reduceAdd, Nat.reduceSub, Nat.reduceMul, Nat.reducePow, Nat.reduceEqDiff, Nat.reduceBEq, Int.reduceLE, Int.reduceLT, Int.reduceToNat, Int.reduceEq, Int.reduceNeg, reduceCtorEq]
theorem box_no (d : Nat) (ks : List GKind) (ls : List GLot) (b : GBox) (hk : ls.length < 2 ^ 62) (h : boxOk ls.length b = true) : shFn (X ext0) (d + 2) 29 [.agg b.cells, .box 1 1 0] (caught ks ls) = some (bool false, caught ks ls) := by
  rw [enter29 rfl _ _ _ (by simp)]
  simp only [boxOk, Bool.not_eq_true', Bool.or_eq_false_iff, Bool.and_eq_false_iff, Bool.not_eq_false', decide_eq_true_eq, decide_eq_false_iff_not] at h
  have w1 : IntKind.i64.wrap ((ls.length : Int) - 1) = ls.length - 1 := i64_id (by omega) (by omega)
  have h1 : -1 ≤ b.lot := by omega
  have h2 : b.lot ≤ (ls.length : Int) - 1 := by omega
  have h3 : 0 ≤ b.count := by omega
  have h4 : b.count ≤ 20000 := by omega
  have h5 : 0 ≤ b.tare := by omega
  have h6 : b.tare ≤ 1073741824 := by omega
  by_cases h7 : b.lot < 0
  · have h8 : b.lot = -1 := by omega
    have h9 : b.count = 0 := by rcases h.1.1.2 with h | h; exact absurd h8 h; exact h
    have h7 := eq_true h7
    have h10 : ¬ 0 < b.count := by omega
    simp -implicitDefEqProofs only [c29, Try.f29, caught, within_sh, w1, h1, h2, h3, h4, h5, h6, h7, h10, EVB, STB, TF, Option.isSome_some, Option.isSome_none, asgn, binV, nilV, nilEq, seen, valOp, bin, ibin, resOf, resVar, sealR, seal3, seal2, flat, one, cellsOf, cellsAt, newAt, storeG, rowOf, rd, further, over, natIn, vEq, vEqs, shiftV, argEnv, slotsG, slotIx, noOwn, isRowG, keptV, ownFlat, shiftR, shift1, keepR, reloc, relocs, kept, maxP, minP, appOp, rowE, fits, oneF, sealArg, seal1, pureV, scalV, isOwn, hasOwn, bldOf, fillP, litOf, mkM, upM, dlM, mkS, updM, putM, delM, strikeM, findM, mapOf, keyV, vals, keyEq, keyEqs, keyEq1, shapeV, shapes, KD.of, found, zeroPV, isNilMap, ↓reduceIte, Nat.reduceLT, Nat.reduceLeDiff, Nat.reduceAdd, Nat.reduceSub, Nat.reduceMul, Nat.reducePow, Nat.reduceEqDiff, Nat.reduceBEq, Int.reduceLE, Int.reduceLT, Int.reduceToNat, Int.reduceEq, Int.reduceNeg, reduceCtorEq]
  · simp -implicitDefEqProofs only [c29, Try.f29, caught, within_sh, w1, h1, h2, h3, h4, h5, h6, h7, EVB, STB, TF, Option.isSome_some, Option.isSome_none, asgn, binV, nilV, nilEq, seen, valOp, bin, ibin, resOf, resVar, sealR, seal3, seal2, flat, one, cellsOf, cellsAt, newAt, storeG, rowOf, rd, further, over, natIn, vEq, vEqs, shiftV, argEnv, slotsG, slotIx, noOwn, isRowG, keptV, ownFlat, shiftR, shift1, keepR, reloc, relocs, kept, maxP, minP, appOp, rowE, fits, oneF, sealArg, seal1, pureV, scalV, isOwn, hasOwn, bldOf, fillP, litOf, mkM, upM, dlM, mkS, updM, putM, delM, strikeM, findM, mapOf, keyV, vals, keyEq, keyEqs, keyEq1, shapeV, shapes, KD.of, found, zeroPV, isNilMap, ↓reduceIte, Nat.reduceLT, Nat.reduceLeDiff, Nat.reduceAdd, Nat.reduceSub, Nat.reduceMul, Nat.reducePow, Nat.reduceEqDiff, Nat.reduceBEq, Int.reduceLE, Int.reduceLT, Int.reduceToNat, Int.reduceEq, Int.reduceNeg, reduceCtorEq]
theorem idx_boxes (d : Nat) (ks : List GKind) (ls : List GLot) (bs : List GBox) (hk : ls.length < 2 ^ 62) (hl : bs.length < 2 ^ 63) (h : ∀ b ∈ bs, boxOk ls.length b = true) : shFn (X ext0) (d + 3) 37 [pBoxes bs, .clo 29 [.box 1 1 0]] (caught ks ls) = some (int (-1), caught ks ls) := by
  rw [enter37 rfl _ _ _ (by simp)]
  simp -implicitDefEqProofs only [c37, Try.f37, caught, ev_loop, EVB, STB, TF, Option.isSome_some, Option.isSome_none, asgn, binV, nilV, nilEq, seen, valOp, bin, ibin, resOf, resVar, sealR, seal3, seal2, flat, one, cellsOf, cellsAt, newAt, storeG, rowOf, rd, further, over, natIn, vEq, vEqs, shiftV, argEnv, slotsG, slotIx, noOwn, isRowG, keptV, ownFlat, shiftR, shift1, keepR, reloc, relocs, kept, maxP, minP, appOp, rowE, fits, oneF, sealArg, seal1, pureV, scalV, isOwn, hasOwn, bldOf, fillP, litOf, mkM, upM, dlM, mkS, updM, putM, delM, strikeM, findM, mapOf, keyV, vals, keyEq, keyEqs, keyEq1, shapeV, shapes, KD.of, found, zeroPV, isNilMap, ↓reduceIte, Nat.reduceLT, Nat.reduceLeDiff, Nat.reduceAdd, Nat.reduceSub, Nat.reduceMul, Nat.reducePow, Nat.reduceEqDiff, Nat.reduceBEq, Int.reduceLE, Int.reduceLT, Int.reduceToNat, Int.reduceEq, Int.reduceNeg, reduceCtorEq]
  generalize hF : shCode _ _ _ _ _ = F
  generalize hL : shLoop F _ _ = r
  obtain ⟨s', hr, j0, j1, j4, j5, j7, j8, j9, j16, rfl⟩ := loop_to hL (bs.length) (fun i s => ∃ j4 j5 j9 j16, s = ([(0, pBoxes bs), (1, .clo 29 [.box 1 1 0]), (4, j4), (5, j5), (7, int bs.length), (8, int i), (9, j9), (16, j16)], [⟨1, .box [pKinds ks]⟩, ⟨1, .box [pLots ls]⟩])) (.ext 0)
    (fun s => ∃ j0 j1 j4 j5 j7 j8 j9 j16, s = ([(0, j0), (1, j1), (4, j4), (5, j5), (7, j7), (8, j8), (9, j9), (16, j16)], [⟨1, .box [pKinds ks]⟩, ⟨1, .box [pLots ls]⟩])) (by simp) (by exact ⟨_, _, _, _, rfl⟩) (by omega)
    (fun i hi s ⟨j4, j5, j9, j16, hs⟩ => by
        have hlt : (i : Int) < (bs.length : Nat) := by omega
        have h0 : (0 : Int) ≤ i := by omega
        have hg : bs[i]? = some bs[i] := List.getElem?_eq_getElem hi
        have e1 := box_no d ks ls bs[i] hk (h _ (List.getElem_mem hi))
        simp only [GBox.cells, caught] at e1
        clear hL
        subst hs hF
        simp -implicitDefEqProofs only [hlt, h0, hg, e1, Int.toNat_natCast, i64_succ (show i < 2 ^ 63 - 1 by omega), EVB, STB, TF, Option.isSome_some, Option.isSome_none, asgn, binV, nilV, nilEq, seen, valOp, bin, ibin, resOf, resVar, sealR, seal3, seal2, flat, one, cellsOf, cellsAt, newAt, storeG, rowOf, rd, further, over, natIn, vEq, vEqs, shiftV, argEnv, slotsG, slotIx, noOwn, isRowG, keptV, ownFlat, shiftR, shift1, keepR, reloc, relocs, kept, maxP, minP, appOp, rowE, fits, oneF, sealArg, seal1, pureV, scalV, isOwn, hasOwn, bldOf, fillP, litOf, mkM, upM, dlM, mkS, updM, putM, delM, strikeM, findM, mapOf, keyV, vals, keyEq, keyEqs, keyEq1, shapeV, shapes, KD.of, found, zeroPV, isNilMap, ↓reduceIte, Nat.reduceLT, Nat.reduceLeDiff, Nat.reduceAdd, Nat.reduceSub, Nat.reduceMul, Nat.reducePow, Nat.reduceEqDiff, Nat.reduceBEq, Int.reduceLE, Int.reduceLT, Int.reduceToNat, Int.reduceEq, Int.reduceNeg, reduceCtorEq]
        exact ⟨_, rfl, _, _, _, _, rfl⟩)
    (fun s ⟨j4, j5, j9, j16, hs⟩ => by
        clear hL
        subst hs hF
        simp -implicitDefEqProofs only [Int.lt_irrefl, EVB, STB, TF, Option.isSome_some, Option.isSome_none, asgn, binV, nilV, nilEq, seen, valOp, bin, ibin, resOf, resVar, sealR, seal3, seal2, flat, one, cellsOf, cellsAt, newAt, storeG, rowOf, rd, further, over, natIn, vEq, vEqs, shiftV, argEnv, slotsG, slotIx, noOwn, isRowG, keptV, ownFlat, shiftR, shift1, keepR, reloc, relocs, kept, maxP, minP, appOp, rowE, fits, oneF, sealArg, seal1, pureV, scalV, isOwn, hasOwn, bldOf, fillP, litOf, mkM, upM, dlM, mkS, updM, putM, delM, strikeM, findM, mapOf, keyV, vals, keyEq, keyEqs, keyEq1, shapeV, shapes, KD.of, found, zeroPV, isNilMap, ↓reduceIte, Nat.reduceLT, Nat.reduceLeDiff, Nat.reduceAdd, Nat.reduceSub, Nat.reduceMul, Nat.reducePow, Nat.reduceEqDiff, Nat.reduceBEq, Int.reduceLE, Int.reduceLT, Int.reduceToNat, Int.reduceEq, Int.reduceNeg, reduceCtorEq]
        exact ⟨_, rfl, _, _, _, _, _, _, _, _, rfl⟩)
  rw [hr]
  simp -implicitDefEqProofs only [EVB, STB, TF, Option.isSome_some, Option.isSome_none, asgn, binV, nilV, nilEq, seen, valOp, bin, ibin, resOf, resVar, sealR, seal3, seal2, flat, one, cellsOf, cellsAt, newAt, storeG, rowOf, rd, further, over, natIn, vEq, vEqs, shiftV, argEnv, slotsG, slotIx, noOwn, isRowG, keptV, ownFlat, shiftR, shift1, keepR, reloc, relocs, kept, maxP, minP, appOp, rowE, fits, oneF, sealArg, seal1, pureV, scalV, isOwn, hasOwn, bldOf, fillP, litOf, mkM, upM, dlM, mkS, updM, putM, delM, strikeM, findM, mapOf, keyV, vals, keyEq, keyEqs, keyEq1, shapeV, shapes, KD.of, found, zeroPV, isNilMap, ↓reduceIte, Nat.reduceLT, Nat.reduceLeDiff, Nat.reduceAdd, Nat.reduceSub, Nat.reduceMul, Nat.reducePow, Nat.reduceEqDiff, Nat.reduceBEq, Int.reduceLE, Int.reduceLT, Int.reduceToNat, Int.reduceEq, Int.reduceNeg, reduceCtorEq]
theorem con_boxes (d : Nat) (ks : List GKind) (ls : List GLot) (bs : List GBox) (hk : ls.length < 2 ^ 62) (hl : bs.length < 2 ^ 63) (h : ∀ b ∈ bs, boxOk ls.length b = true) : shFn (X ext0) (d + 4) 28 [pBoxes bs, .clo 29 [.box 1 1 0]] (caught ks ls) = some (bool false, caught ks ls) := by
  rw [enter28 rfl _ _ _ (by simp)]
  have e1 := idx_boxes d ks ls bs hk hl h
  simp only [caught] at e1
  simp -implicitDefEqProofs only [c28, Try.f28, caught, e1, Int.reduceLE, Int.reduceNeg, EVB, STB, TF, Option.isSome_some, Option.isSome_none, asgn, binV, nilV, nilEq, seen, valOp, bin, ibin, resOf, resVar, sealR, seal3, seal2, flat, one, cellsOf, cellsAt, newAt, storeG, rowOf, rd, further, over, natIn, vEq, vEqs, shiftV, argEnv, slotsG, slotIx, noOwn, isRowG, keptV, ownFlat, shiftR, shift1, keepR, reloc, relocs, kept, maxP, minP, appOp, rowE, fits, oneF, sealArg, seal1, pureV, scalV, isOwn, hasOwn, bldOf, fillP, litOf, mkM, upM, dlM, mkS, updM, putM, delM, strikeM, findM, mapOf, keyV, vals, keyEq, keyEqs, keyEq1, shapeV, shapes, KD.of, found, zeroPV, isNilMap, ↓reduceIte, Nat.reduceLT, Nat.reduceLeDiff, Nat.reduceAdd, Nat.reduceSub, Nat.reduceMul, Nat.reducePow, Nat.reduceEqDiff, Nat.reduceBEq, Int.reduceLE, Int.reduceLT, Int.reduceToNat, Int.reduceEq, Int.reduceNeg, reduceCtorEq]
theorem cv_nf : cv Value.nilFunc = .val .nilFunc := rfl
theorem vals_sh (d : Nat) (l : List Int) : shFn (X ext0) (d + 1) 23 [ints l] [] = some (.clo 34 [.at [ints l]], []) := by
  rw [enter23 rfl _ _ _ (by simp)]
  simp -implicitDefEqProofs only [c23, Try.f23, cv_nf, EVB, STB, TF, Option.isSome_some, Option.isSome_none, asgn, binV, nilV, nilEq, seen, valOp, bin, ibin, resOf, resVar, sealR, seal3, seal2, flat, one, cellsOf, cellsAt, newAt, storeG, rowOf, rd, further, over, natIn, vEq, vEqs, shiftV, argEnv, slotsG, slotIx, noOwn, isRowG, keptV, ownFlat, shiftR, shift1, keepR, reloc, relocs, kept, maxP, minP, appOp, rowE, fits, oneF, sealArg, seal1, pureV, scalV, isOwn, hasOwn, bldOf, fillP, litOf, mkM, upM, dlM, mkS, updM, putM, delM, strikeM, findM, mapOf, keyV, vals, keyEq, keyEqs, keyEq1, shapeV, shapes, KD.of, found, zeroPV, isNilMap, ↓reduceIte, Nat.reduceLT, Nat.reduceLeDiff, Nat.reduceAdd, Nat.reduceSub, Nat.reduceMul, Nat.reducePow, Nat.reduceEqDiff, Nat.reduceBEq, Int.reduceLE, Int.reduceLT, Int.reduceToNat, Int.reduceEq, Int.reduceNeg, reduceCtorEq]
theorem coll_sh (d : Nat) (l : List Int) (hl : l.length < 2 ^ 40) (hne : l ≠ []) : shFn (X ext0) (d + 1) 32 [.clo 34 [.at [ints l]]] [] = some (.own 0 1 l.length, [⟨1, .row 1 (l.map fun x => [int x])⟩]) := by
  simp only [shFn, X, ext0, collG, intsOf_map, List.length_map, hl, hne, and_self, if_true, if_false]
theorem sort_no (d : Nat) (l : List (List PV)) : shFn (X ext0) (d + 1) 33 [.row 1 l] [] = none := rfl
theorem sort_sh (d : Nat) (l : List Int) (hl : l.length < 2 ^ 40) : shFn (X ext0) (d + 1) 33 [.own 0 1 l.length] [⟨1, .row 1 (l.map fun x => [int x])⟩] = some (.tup [], [⟨1, .row 1 ((sortInts l).map fun x => [int x])⟩]) := by
  have h1 : l.length < 2 ^ 62 := by omega
  simp only [shFn, X, ext0, sortG, List.getElem?_cons_zero, intsOf_map, List.length_map, h1, and_self, if_true, List.set_cons_zero]
theorem sorted_sh (d : Nat) (l : List Int) (hl : l.length < 2 ^ 40) (hne : l ≠ []) : shFn (X ext0) (d + 2) 22 [.clo 34 [.at [ints l]]] [] = some (ints (sortInts l), []) := by
  rw [enter22 rfl _ _ _ (by simp)]
  have e1 := coll_sh d l hl hne
  have e2 := sort_sh d l hl
  have e3 := sort_no d
  have e4 := sortInts_length l
  simp -implicitDefEqProofs only [c22, Try.f22, e1, e2, e3, e4, EVB, STB, TF, Option.isSome_some, Option.isSome_none, asgn, binV, nilV, nilEq, seen, valOp, bin, ibin, resOf, resVar, sealR, seal3, seal2, flat, one, cellsOf, cellsAt, newAt, storeG, rowOf, rd, further, over, natIn, vEq, vEqs, shiftV, argEnv, slotsG, slotIx, noOwn, isRowG, keptV, ownFlat, shiftR, shift1, keepR, reloc, relocs, kept, maxP, minP, appOp, rowE, fits, oneF, sealArg, seal1, pureV, scalV, isOwn, hasOwn, bldOf, fillP, litOf, mkM, upM, dlM, mkS, updM, putM, delM, strikeM, findM, mapOf, keyV, vals, keyEq, keyEqs, keyEq1, shapeV, shapes, KD.of, found, zeroPV, isNilMap, ↓reduceIte, Nat.reduceLT, Nat.reduceLeDiff, Nat.reduceAdd, Nat.reduceSub, Nat.reduceMul, Nat.reducePow, Nat.reduceEqDiff, Nat.reduceBEq, Int.reduceLE, Int.reduceLT, Int.reduceToNat, Int.reduceEq, Int.reduceNeg, reduceCtorEq]

/-! ### Numbers from 0 on, in some order, sorted -/
theorem perm_of_sub : ∀ {L M : List Int}, L.Nodup → (∀ x ∈ L, x ∈ M) → M.length ≤ L.length → L.Perm M
  | [], M, _, _, hl => by
    have : M = [] := List.eq_nil_of_length_eq_zero (by simpa using hl)
    subst this
    exact .refl _
  | a :: L, M, hn, hs, hl => by
    have ha : a ∈ M := hs a (by simp)
    have hn' := List.nodup_cons.1 hn
    have h2 := List.length_erase_of_mem ha
    have h3 := List.length_pos_of_mem ha
    have h1 : L.Perm (M.erase a) := perm_of_sub hn'.2 (fun x hx => (List.mem_erase_of_ne (fun h : x = a => hn'.1 (h ▸ hx))).2 (hs x (by simp [hx]))) (by simp only [List.length_cons] at hl; omega)
    exact (h1.cons a).trans (List.perm_cons_erase ha).symm
theorem asc_sorted {l : List Int} {n : Nat} (hn : l.length = n) (hb : n < 2 ^ 62) (hd : l.Nodup) (hr : ∀ x ∈ l, 0 ≤ x ∧ x < n) : ascB (sortInts l) n = true := by
  have hp : (sortInts l).Perm l := List.mergeSort_perm _ _
  have hs : (sortInts l).Pairwise (fun a b => decide (a ≤ b) = true) := List.pairwise_mergeSort (fun a b c h1 h2 => by simp only [decide_eq_true_eq] at *; omega) (fun a b => by simp only [Bool.or_eq_true, decide_eq_true_eq]; omega) l
  have hd2 : (sortInts l).Nodup := hp.nodup_iff.2 hd
  have w1 : IntKind.i64.wrap ((n : Int) - 1) = n - 1 := i64_id (by omega) (by omega)
  unfold ascB
  simp only [List.all_eq_true, List.mem_range]
  intro i hi
  have hx := hr _ (hp.mem_iff.1 (List.getElem_mem hi))
  have hgi : (sortInts l)[i]? = some (sortInts l)[i] := List.getElem?_eq_getElem hi
  have e1 : decide (0 ≤ (sortInts l)[i]) = true := decide_eq_true hx.1
  have e2 : decide ((sortInts l)[i] ≤ (n : Int) - 1) = true := decide_eq_true (by omega)
  unfold ascAt
  simp only [List.getD_eq_getElem?_getD, hgi, Option.getD_some, w1, e1, e2, Bool.and_self, Bool.not_true, Bool.false_or, Bool.not_eq_true', Bool.and_eq_false_iff, decide_eq_false_iff_not]
  by_cases h0 : 0 < i
  · right
    have hj : i - 1 < (sortInts l).length := by omega
    have hgj : (sortInts l)[i - 1]? = some (sortInts l)[i - 1] := List.getElem?_eq_getElem hj
    have h1 := List.pairwise_iff_getElem.1 hs (i - 1) i hj hi (by omega)
    have h2 : (sortInts l)[i - 1] ≠ (sortInts l)[i] := fun h => by
      have := (List.getElem_inj hd2).1 h
      omega
    simp only [decide_eq_true_eq] at h1
    simp only [hgj, Option.getD_some]
    omega
  · exact .inl h0
theorem truth2_sh (d : Nat) (ks : List GKind) (ls : List GLot) (p : List Int) (bs : List GBox) (hne : p ≠ []) (hp : p.length < 2 ^ 40) (hlen : p.length = bs.length) (hk : ks.length < 2 ^ 40) (hl : ls.length < 2 ^ 40)
    (hd : p.Nodup) (hr : ∀ x ∈ p, 0 ≤ x ∧ x < p.length) (h1 : ∀ k ∈ ks, kindOk k = true) (h2 : ∀ l ∈ ls, lotOk ks.length l = true) (h3 : ∀ b ∈ bs, boxOk ls.length b = true) :
    shFn (X ext0) (d + 5) 13 [pKinds ks, pLots ls, ints p, pBoxes bs] [] = some (bool true, []) := by
  rw [enter13 rfl _ _ _ (by simp)]
  have a1 := vals_sh (d + 3) p
  have a2 := sorted_sh (d + 2) p hp hne
  have a3 := ascends_sh (d + 2) (sortInts p) bs.length (by rw [sortInts_length]; omega)
  rw [← hlen, asc_sorted rfl (by omega) hd hr, hlen] at a3
  have a4 := con_kinds d ks (by omega) h1
  have a5 := con_lots d ks ls (by omega) (by omega) h2
  have a6 := con_boxes d ks ls bs (by omega) (by omega) h3
  have hlen2 : (p.length : Int) = bs.length := by omega
  simp only [caught] at a5 a6
  simp -implicitDefEqProofs only [c13, Try.f13, a1, a2, a3, a4, a5, a6, hlen2, EVB, STB, TF, Option.isSome_some, Option.isSome_none, asgn, binV, nilV, nilEq, seen, valOp, bin, ibin, resOf, resVar, sealR, seal3, seal2, flat, one, cellsOf, cellsAt, newAt, storeG, rowOf, rd, further, over, natIn, vEq, vEqs, shiftV, argEnv, slotsG, slotIx, noOwn, isRowG, keptV, ownFlat, shiftR, shift1, keepR, reloc, relocs, kept, maxP, minP, appOp, rowE, fits, oneF, sealArg, seal1, pureV, scalV, isOwn, hasOwn, bldOf, fillP, litOf, mkM, upM, dlM, mkS, updM, putM, delM, strikeM, findM, mapOf, keyV, vals, keyEq, keyEqs, keyEq1, shapeV, shapes, KD.of, found, zeroPV, isNilMap, ↓reduceIte, Nat.reduceLT, Nat.reduceLeDiff, Nat.reduceAdd, Nat.reduceSub, Nat.reduceMul, Nat.reducePow, Nat.reduceEqDiff, Nat.reduceBEq, Int.reduceLE, Int.reduceLT, Int.reduceToNat, Int.reduceEq, Int.reduceNeg, reduceCtorEq]
end Go.Proofs.Ythmlfonbfnmalaa.Sh
