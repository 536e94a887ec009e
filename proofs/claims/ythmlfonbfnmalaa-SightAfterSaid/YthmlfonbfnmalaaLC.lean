/- After of sight, by the shadow run. No condition. -/
import Derived.Test.YthmlfonbfnmalaaLB
namespace Go.Proofs.Ythmlfonbfnmalaa.Sh
open Go.RowKit
set_option maxRecDepth 100000
set_option maxHeartbeats 2000000
set_option linter.unusedSimpArgs false
set_option linter.unusedVariables false
def afterP (perm : List Int) (s : GSight) (done : Int) : List Int := if s.kind = 4 ∧ done = 1 then (perm.set s.a.toNat (perm.getD s.b.toNat 0)).set s.b.toNat (perm.getD s.a.toNat 0) else perm
def afterL (bs : List GBox) (id : Int) (b : GBox) (s : GSight) (done : Int) : List GBox := if s.kind = 2 then bs.set id.toNat { b with count := w64 (b.count - done) } else bs
theorem after_no (d : Nat) (c : GSenses) (ks : List GKind) (ls : List GLot) (perm : List Int) (bs : List GBox) (s : GSight) (done : Int) (id : Int) (b : GBox)
    (h0 : 0 ≤ s.a) (h1 : s.a < perm.length) (h2 : perm[s.a.toNat]? = some id) (h3 : 0 ≤ id) (h4 : id < bs.length) (h5 : bs[id.toNat]? = some b) (h6 : s.ids.length < 2 ^ 63) (h7 : b.lot < ls.length) (h8 : ∀ l ∈ ls, 0 ≤ l.kind ∧ l.kind < ks.length)
    (hc : ((agreesAt c ks ls id b s).2 && canB c b s done) = false) :
    shFn (X ext0) (d + 4) 11 [c.enc, pKinds ks, pLots ls, ints perm, pBoxes bs, s.enc, int done] [] = some (.tup [.emp, .emp, bool false], []) := by
  rw [enter11 rfl _ _ _ (by simp)]
  have e1 := agrees_sh d c ks ls perm bs s id b h0 h1 h2 h3 h4 h5 h6 h7 h8
  have e2 := can_sh (d + 1) c b s done
  cases ho : (agreesAt c ks ls id b s).2 with
  | false => simp -implicitDefEqProofs only [c11, Try.f11, h0, h1, h2, h3, h4, h5, e1, e2, ho, opD, isMasked, isMasked2, guardD, freeSlot, boxesOf, boxC, isElt, hideRows, hideC, blank, List.contains_cons, List.contains_nil, List.length_set, List.getElem?_set, EVB, STB, TF, Option.isSome_some, Option.isSome_none, asgn, binV, nilV, nilEq, seen, valOp, bin, ibin, resOf, resVar, sealR, seal3, seal2, flat, one, cellsOf, cellsAt, newAt, storeG, rowOf, rd, further, over, natIn, vEq, vEqs, shiftV, argEnv, slotsG, slotIx, noOwn, isRowG, keptV, ownFlat, shiftR, shift1, keepR, reloc, relocs, kept, maxP, minP, appOp, rowE, fits, oneF, sealArg, seal1, pureV, scalV, isOwn, hasOwn, bldOf, fillP, litOf, mkM, upM, dlM, mkS, updM, putM, delM, strikeM, findM, mapOf, keyV, vals, keyEq, keyEqs, keyEq1, shapeV, shapes, KD.of, found, zeroPV, isNilMap, ↓reduceIte, Nat.reduceLT, Nat.reduceLeDiff, Nat.reduceAdd, Nat.reduceSub, Nat.reduceMul, Nat.reducePow, Nat.reduceEqDiff, Nat.reduceBEq, Int.reduceLE, Int.reduceLT, Int.reduceToNat, Int.reduceEq, Int.reduceNeg, reduceCtorEq]
  | true =>
    have hc' : canB c b s done = false := by simpa [ho] using hc
    simp -implicitDefEqProofs only [c11, Try.f11, h0, h1, h2, h3, h4, h5, e1, e2, ho, hc', opD, isMasked, isMasked2, guardD, freeSlot, boxesOf, boxC, isElt, hideRows, hideC, blank, List.contains_cons, List.contains_nil, List.length_set, List.getElem?_set, EVB, STB, TF, Option.isSome_some, Option.isSome_none, asgn, binV, nilV, nilEq, seen, valOp, bin, ibin, resOf, resVar, sealR, seal3, seal2, flat, one, cellsOf, cellsAt, newAt, storeG, rowOf, rd, further, over, natIn, vEq, vEqs, shiftV, argEnv, slotsG, slotIx, noOwn, isRowG, keptV, ownFlat, shiftR, shift1, keepR, reloc, relocs, kept, maxP, minP, appOp, rowE, fits, oneF, sealArg, seal1, pureV, scalV, isOwn, hasOwn, bldOf, fillP, litOf, mkM, upM, dlM, mkS, updM, putM, delM, strikeM, findM, mapOf, keyV, vals, keyEq, keyEqs, keyEq1, shapeV, shapes, KD.of, found, zeroPV, isNilMap, ↓reduceIte, Nat.reduceLT, Nat.reduceLeDiff, Nat.reduceAdd, Nat.reduceSub, Nat.reduceMul, Nat.reducePow, Nat.reduceEqDiff, Nat.reduceBEq, Int.reduceLE, Int.reduceLT, Int.reduceToNat, Int.reduceEq, Int.reduceNeg, reduceCtorEq]
theorem after_yes (d : Nat) (c : GSenses) (ks : List GKind) (ls : List GLot) (perm : List Int) (bs : List GBox) (s : GSight) (done : Int) (id : Int) (b : GBox)
    (h0 : 0 ≤ s.a) (h1 : s.a < perm.length) (h2 : perm[s.a.toNat]? = some id) (h3 : 0 ≤ id) (h4 : id < bs.length) (h5 : bs[id.toNat]? = some b) (h6 : s.ids.length < 2 ^ 63) (h7 : b.lot < ls.length) (h8 : ∀ l ∈ ls, 0 ≤ l.kind ∧ l.kind < ks.length)
    (h9 : s.kind = 4 → s.a < s.b ∧ s.b < perm.length) (hp : perm.length < 2 ^ 40) (hb : bs.length < 2 ^ 40)
    (hc : ((agreesAt c ks ls id b s).2 && canB c b s done) = true) :
    shFn (X ext0) (d + 4) 11 [c.enc, pKinds ks, pLots ls, ints perm, pBoxes bs, s.enc, int done] [] = some (.tup [ints (afterP perm s done), pBoxes (afterL bs id b s done), bool true], []) := by
  rw [enter11 rfl _ _ _ (by simp)]
  have e1 := agrees_sh d c ks ls perm bs s id b h0 h1 h2 h3 h4 h5 h6 h7 h8
  have e2 := can_sh (d + 1) c b s done
  simp only [Bool.and_eq_true] at hc
  have ho := hc.1
  have hc' := hc.2
  have f1 : fits perm.length 8 = true := by simp [fits]; omega
  have f2 : fits bs.length 24 = true := by simp [fits]; omega
  have c1 : shFn (X ext0) (d + 3) 20 [ints perm] [] = some (.own 0 1 perm.length, [⟨1, .row 1 (perm.map fun x => [int x])⟩]) := by
    simp [shFn, X, ext0, cloneG, rowE, rowOf, f1, oneF]
  have c2 : shFn (X ext0) (d + 3) 21 [pBoxes bs] [] = some (.own 0 1 bs.length, [⟨1, .row 3 (bs.map GBox.cells)⟩]) := by
    simp [shFn, X, ext0, cloneG, rowE, rowOf, f2, oneF]
  unfold afterP afterL
  by_cases k2 : s.kind = 2
  · have k4 : ¬ s.kind = 4 := by omega
    have k2 := eq_true k2
    simp -implicitDefEqProofs only [c11, Try.f11, h0, h1, h2, h3, h4, h5, e1, e2, ho, hc', c1, c2, k2, k4, Int.reduceEq, opD, isMasked, isMasked2, guardD, freeSlot, boxesOf, boxC, isElt, hideRows, hideC, blank, List.contains_cons, List.contains_nil, List.length_set, List.getElem?_set, EVB, STB, TF, Option.isSome_some, Option.isSome_none, asgn, binV, nilV, nilEq, seen, valOp, bin, ibin, resOf, resVar, sealR, seal3, seal2, flat, one, cellsOf, cellsAt, newAt, storeG, rowOf, rd, further, over, natIn, vEq, vEqs, shiftV, argEnv, slotsG, slotIx, noOwn, isRowG, keptV, ownFlat, shiftR, shift1, keepR, reloc, relocs, kept, maxP, minP, appOp, rowE, fits, oneF, sealArg, seal1, pureV, scalV, isOwn, hasOwn, bldOf, fillP, litOf, mkM, upM, dlM, mkS, updM, putM, delM, strikeM, findM, mapOf, keyV, vals, keyEq, keyEqs, keyEq1, shapeV, shapes, KD.of, found, zeroPV, isNilMap, ↓reduceIte, Nat.reduceLT, Nat.reduceLeDiff, Nat.reduceAdd, Nat.reduceSub, Nat.reduceMul, Nat.reducePow, Nat.reduceEqDiff, Nat.reduceBEq, Int.reduceLE, Int.reduceLT, Int.reduceToNat, Int.reduceEq, Int.reduceNeg, reduceCtorEq]
    simp [List.map_set]
  by_cases k4 : s.kind = 4 ∧ done = 1
  · obtain ⟨h10, h11⟩ := h9 k4.1
    obtain ⟨pb, hpb⟩ : ∃ x, perm[s.b.toNat]? = some x := ⟨_, List.getElem?_eq_getElem (by omega)⟩
    have h12 : 0 ≤ s.b := by omega
    have hne : ¬ s.a.toNat = s.b.toNat := by omega
    have k5 := eq_true k4.1
    have k6 := eq_true k4.2
    simp -implicitDefEqProofs only [c11, Try.f11, h0, h1, h2, h3, h4, h5, e1, e2, ho, hc', c1, c2, k2, k5, k6, h10, h11, hpb, h12, hne, Int.reduceEq, opD, isMasked, isMasked2, guardD, freeSlot, boxesOf, boxC, isElt, hideRows, hideC, blank, List.contains_cons, List.contains_nil, List.length_set, List.getElem?_set, EVB, STB, TF, Option.isSome_some, Option.isSome_none, asgn, binV, nilV, nilEq, seen, valOp, bin, ibin, resOf, resVar, sealR, seal3, seal2, flat, one, cellsOf, cellsAt, newAt, storeG, rowOf, rd, further, over, natIn, vEq, vEqs, shiftV, argEnv, slotsG, slotIx, noOwn, isRowG, keptV, ownFlat, shiftR, shift1, keepR, reloc, relocs, kept, maxP, minP, appOp, rowE, fits, oneF, sealArg, seal1, pureV, scalV, isOwn, hasOwn, bldOf, fillP, litOf, mkM, upM, dlM, mkS, updM, putM, delM, strikeM, findM, mapOf, keyV, vals, keyEq, keyEqs, keyEq1, shapeV, shapes, KD.of, found, zeroPV, isNilMap, ↓reduceIte, Nat.reduceLT, Nat.reduceLeDiff, Nat.reduceAdd, Nat.reduceSub, Nat.reduceMul, Nat.reducePow, Nat.reduceEqDiff, Nat.reduceBEq, Int.reduceLE, Int.reduceLT, Int.reduceToNat, Int.reduceEq, Int.reduceNeg, reduceCtorEq]
    simp [List.map_set, List.getD_eq_getElem?_getD, h2, hpb]
  · by_cases k5 : s.kind = 4
    · have k6 : ¬ done = 1 := fun h => k4 ⟨k5, h⟩
      have k5 := eq_true k5
      simp -implicitDefEqProofs only [c11, Try.f11, h0, h1, h2, h3, h4, h5, e1, e2, ho, hc', c1, c2, k2, k5, k6, Int.reduceEq, opD, isMasked, isMasked2, guardD, freeSlot, boxesOf, boxC, isElt, hideRows, hideC, blank, List.contains_cons, List.contains_nil, List.length_set, List.getElem?_set, EVB, STB, TF, Option.isSome_some, Option.isSome_none, asgn, binV, nilV, nilEq, seen, valOp, bin, ibin, resOf, resVar, sealR, seal3, seal2, flat, one, cellsOf, cellsAt, newAt, storeG, rowOf, rd, further, over, natIn, vEq, vEqs, shiftV, argEnv, slotsG, slotIx, noOwn, isRowG, keptV, ownFlat, shiftR, shift1, keepR, reloc, relocs, kept, maxP, minP, appOp, rowE, fits, oneF, sealArg, seal1, pureV, scalV, isOwn, hasOwn, bldOf, fillP, litOf, mkM, upM, dlM, mkS, updM, putM, delM, strikeM, findM, mapOf, keyV, vals, keyEq, keyEqs, keyEq1, shapeV, shapes, KD.of, found, zeroPV, isNilMap, ↓reduceIte, Nat.reduceLT, Nat.reduceLeDiff, Nat.reduceAdd, Nat.reduceSub, Nat.reduceMul, Nat.reducePow, Nat.reduceEqDiff, Nat.reduceBEq, Int.reduceLE, Int.reduceLT, Int.reduceToNat, Int.reduceEq, Int.reduceNeg, reduceCtorEq]
    · simp -implicitDefEqProofs only [c11, Try.f11, h0, h1, h2, h3, h4, h5, e1, e2, ho, hc', c1, c2, k2, k5, Int.reduceEq, opD, isMasked, isMasked2, guardD, freeSlot, boxesOf, boxC, isElt, hideRows, hideC, blank, List.contains_cons, List.contains_nil, List.length_set, List.getElem?_set, EVB, STB, TF, Option.isSome_some, Option.isSome_none, asgn, binV, nilV, nilEq, seen, valOp, bin, ibin, resOf, resVar, sealR, seal3, seal2, flat, one, cellsOf, cellsAt, newAt, storeG, rowOf, rd, further, over, natIn, vEq, vEqs, shiftV, argEnv, slotsG, slotIx, noOwn, isRowG, keptV, ownFlat, shiftR, shift1, keepR, reloc, relocs, kept, maxP, minP, appOp, rowE, fits, oneF, sealArg, seal1, pureV, scalV, isOwn, hasOwn, bldOf, fillP, litOf, mkM, upM, dlM, mkS, updM, putM, delM, strikeM, findM, mapOf, keyV, vals, keyEq, keyEqs, keyEq1, shapeV, shapes, KD.of, found, zeroPV, isNilMap, ↓reduceIte, Nat.reduceLT, Nat.reduceLeDiff, Nat.reduceAdd, Nat.reduceSub, Nat.reduceMul, Nat.reducePow, Nat.reduceEqDiff, Nat.reduceBEq, Int.reduceLE, Int.reduceLT, Int.reduceToNat, Int.reduceEq, Int.reduceNeg, reduceCtorEq]
end Go.Proofs.Ythmlfonbfnmalaa.Sh
