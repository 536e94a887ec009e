/- SightTrue by the shadow run. No condition. -/
import Derived.Test.YthmlfonbfnmalaaLD
namespace Go.Proofs.Ythmlfonbfnmalaa.Sh
open Go.RowKit
set_option maxRecDepth 100000
set_option maxHeartbeats 4000000
set_option linter.unusedSimpArgs false
set_option linter.unusedVariables false
def onRound (r : Option (Ex × LS)) (f : LS → Option (Ex × LS)) : Option (Ex × LS) :=
  match r with
  | some (.nrm, s') => f s'
  | r => r
theorem onRound_nrm (s : LS) (f : LS → Option (Ex × LS)) : onRound (some (.nrm, s)) f = f s := rfl
theorem onRound_ext (k : Nat) (s : LS) (f : LS → Option (Ex × LS)) : onRound (some (.ext k, s)) f = some (.ext k, s) := rfl
theorem onRound_ret (s : LS) (f : LS → Option (Ex × LS)) : onRound (some (.ret, s)) f = some (.ret, s) := rfl
theorem ev_round {F : LS → Option (Ex × LS)} {n : Nat} {s : LS} (h : 0 < n) : shLoop F n s = onRound (F s) (shLoop F (n - 1)) := by
  cases n with
  | zero => exact absurd h (Nat.lt_irrefl _)
  | succ n =>
    simp only [shLoop, Nat.add_sub_cancel]
    unfold onRound
    cases F s with
    | none => rfl
    | some q => obtain ⟨x, s'⟩ := q; cases x <;> rfl
/-- Evidence without identities. -/
abbrev bare (k a n : Int) : PV := .agg [int k, int a, int 0, int n, .emp]
theorem agrees_bare (d : Nat) (c : GSenses) (ks : List GKind) (ls : List GLot) (perm : List Int) (bs : List GBox) (k a n : Int) (id : Int) (b : GBox)
    (h0 : 0 ≤ a) (h1 : a < perm.length) (h2 : perm[a.toNat]? = some id) (h3 : 0 ≤ id) (h4 : id < bs.length) (h5 : bs[id.toNat]? = some b) (h7 : b.lot < ls.length) (h8 : ∀ l ∈ ls, 0 ≤ l.kind ∧ l.kind < ks.length) (hk : ¬ k = 0) :
    shFn (X ext0) (d + 3) 10 [c.enc, pKinds ks, pLots ls, ints perm, pBoxes bs, bare k a n] [] = some (.tup [int (agreesAt c ks ls id b ⟨k, a, 0, n, []⟩).1, bool (agreesAt c ks ls id b ⟨k, a, 0, n, []⟩).2], []) := by
  rw [enter10 rfl _ _ _ (by simp)]
  have e2 := unit_sh (d + 1) ks ls b.lot h7 h8
  unfold agreesAt inB
  by_cases k1 : k = 1
  · simp -implicitDefEqProofs only [c10, Try.f10, h0, h1, h2, h3, h4, h5, e2, hk, k1, within_sh, Int.reduceEq, EVB, STB, TF, Option.isSome_some, Option.isSome_none, asgn, binV, nilV, nilEq, seen, valOp, bin, ibin, resOf, resVar, sealR, seal3, seal2, flat, one, cellsOf, cellsAt, newAt, storeG, rowOf, rd, further, over, natIn, vEq, vEqs, shiftV, argEnv, slotsG, slotIx, noOwn, isRowG, keptV, ownFlat, shiftR, shift1, keepR, reloc, relocs, kept, maxP, minP, appOp, rowE, fits, oneF, sealArg, seal1, pureV, scalV, isOwn, hasOwn, bldOf, fillP, litOf, mkM, upM, dlM, mkS, updM, putM, delM, strikeM, findM, mapOf, keyV, vals, keyEq, keyEqs, keyEq1, shapeV, shapes, KD.of, found, zeroPV, isNilMap, ↓reduceIte, Nat.reduceLT, Nat.reduceLeDiff, Nat.reduceAdd, Nat.reduceSub, Nat.reduceMul, Nat.reducePow, Nat.reduceEqDiff, Nat.reduceBEq, Int.reduceLE, Int.reduceLT, Int.reduceToNat, Int.reduceEq, Int.reduceNeg, reduceCtorEq]
  by_cases k2 : k = 2
  · simp -implicitDefEqProofs only [c10, Try.f10, h0, h1, h2, h3, h4, h5, e2, hk, k1, k2, within_sh, Int.reduceEq, EVB, STB, TF, Option.isSome_some, Option.isSome_none, asgn, binV, nilV, nilEq, seen, valOp, bin, ibin, resOf, resVar, sealR, seal3, seal2, flat, one, cellsOf, cellsAt, newAt, storeG, rowOf, rd, further, over, natIn, vEq, vEqs, shiftV, argEnv, slotsG, slotIx, noOwn, isRowG, keptV, ownFlat, shiftR, shift1, keepR, reloc, relocs, kept, maxP, minP, appOp, rowE, fits, oneF, sealArg, seal1, pureV, scalV, isOwn, hasOwn, bldOf, fillP, litOf, mkM, upM, dlM, mkS, updM, putM, delM, strikeM, findM, mapOf, keyV, vals, keyEq, keyEqs, keyEq1, shapeV, shapes, KD.of, found, zeroPV, isNilMap, ↓reduceIte, Nat.reduceLT, Nat.reduceLeDiff, Nat.reduceAdd, Nat.reduceSub, Nat.reduceMul, Nat.reducePow, Nat.reduceEqDiff, Nat.reduceBEq, Int.reduceLE, Int.reduceLT, Int.reduceToNat, Int.reduceEq, Int.reduceNeg, reduceCtorEq]
  by_cases k3 : k = 3
  · simp -implicitDefEqProofs only [c10, Try.f10, h0, h1, h2, h3, h4, h5, e2, hk, k1, k2, k3, within_sh, Int.reduceEq, EVB, STB, TF, Option.isSome_some, Option.isSome_none, asgn, binV, nilV, nilEq, seen, valOp, bin, ibin, resOf, resVar, sealR, seal3, seal2, flat, one, cellsOf, cellsAt, newAt, storeG, rowOf, rd, further, over, natIn, vEq, vEqs, shiftV, argEnv, slotsG, slotIx, noOwn, isRowG, keptV, ownFlat, shiftR, shift1, keepR, reloc, relocs, kept, maxP, minP, appOp, rowE, fits, oneF, sealArg, seal1, pureV, scalV, isOwn, hasOwn, bldOf, fillP, litOf, mkM, upM, dlM, mkS, updM, putM, delM, strikeM, findM, mapOf, keyV, vals, keyEq, keyEqs, keyEq1, shapeV, shapes, KD.of, found, zeroPV, isNilMap, ↓reduceIte, Nat.reduceLT, Nat.reduceLeDiff, Nat.reduceAdd, Nat.reduceSub, Nat.reduceMul, Nat.reducePow, Nat.reduceEqDiff, Nat.reduceBEq, Int.reduceLE, Int.reduceLT, Int.reduceToNat, Int.reduceEq, Int.reduceNeg, reduceCtorEq]
  by_cases k5 : k = 5
  · simp -implicitDefEqProofs only [c10, Try.f10, h0, h1, h2, h3, h4, h5, e2, hk, k1, k2, k3, k5, within_sh, Int.reduceEq, EVB, STB, TF, Option.isSome_some, Option.isSome_none, asgn, binV, nilV, nilEq, seen, valOp, bin, ibin, resOf, resVar, sealR, seal3, seal2, flat, one, cellsOf, cellsAt, newAt, storeG, rowOf, rd, further, over, natIn, vEq, vEqs, shiftV, argEnv, slotsG, slotIx, noOwn, isRowG, keptV, ownFlat, shiftR, shift1, keepR, reloc, relocs, kept, maxP, minP, appOp, rowE, fits, oneF, sealArg, seal1, pureV, scalV, isOwn, hasOwn, bldOf, fillP, litOf, mkM, upM, dlM, mkS, updM, putM, delM, strikeM, findM, mapOf, keyV, vals, keyEq, keyEqs, keyEq1, shapeV, shapes, KD.of, found, zeroPV, isNilMap, ↓reduceIte, Nat.reduceLT, Nat.reduceLeDiff, Nat.reduceAdd, Nat.reduceSub, Nat.reduceMul, Nat.reducePow, Nat.reduceEqDiff, Nat.reduceBEq, Int.reduceLE, Int.reduceLT, Int.reduceToNat, Int.reduceEq, Int.reduceNeg, reduceCtorEq]
  simp -implicitDefEqProofs only [c10, Try.f10, h0, h1, h2, h3, h4, h5, e2, hk, k1, k2, k3, k5, within_sh, Int.reduceEq, EVB, STB, TF, Option.isSome_some, Option.isSome_none, asgn, binV, nilV, nilEq, seen, valOp, bin, ibin, resOf, resVar, sealR, seal3, seal2, flat, one, cellsOf, cellsAt, newAt, storeG, rowOf, rd, further, over, natIn, vEq, vEqs, shiftV, argEnv, slotsG, slotIx, noOwn, isRowG, keptV, ownFlat, shiftR, shift1, keepR, reloc, relocs, kept, maxP, minP, appOp, rowE, fits, oneF, sealArg, seal1, pureV, scalV, isOwn, hasOwn, bldOf, fillP, litOf, mkM, upM, dlM, mkS, updM, putM, delM, strikeM, findM, mapOf, keyV, vals, keyEq, keyEqs, keyEq1, shapeV, shapes, KD.of, found, zeroPV, isNilMap, ↓reduceIte, Nat.reduceLT, Nat.reduceLeDiff, Nat.reduceAdd, Nat.reduceSub, Nat.reduceMul, Nat.reducePow, Nat.reduceEqDiff, Nat.reduceBEq, Int.reduceLE, Int.reduceLT, Int.reduceToNat, Int.reduceEq, Int.reduceNeg, reduceCtorEq]
theorem right_bare (d : Nat) (m k a n : Int) (hk : k = 1 ∨ k = 2 ∨ k = 3 ∨ k = 5) : shFn (X ext0) (d + 3) 9 [int m, bare k a n] [] = some (bool (rightB m ⟨k, a, 0, n, []⟩), []) := by
  rw [enter9 rfl _ _ _ (by simp)]
  unfold rightB inB
  by_cases h0 : m < 1
  · simp -implicitDefEqProofs only [c9, Try.f9, h0, EVB, STB, TF, Option.isSome_some, Option.isSome_none, asgn, binV, nilV, nilEq, seen, valOp, bin, ibin, resOf, resVar, sealR, seal3, seal2, flat, one, cellsOf, cellsAt, newAt, storeG, rowOf, rd, further, over, natIn, vEq, vEqs, shiftV, argEnv, slotsG, slotIx, noOwn, isRowG, keptV, ownFlat, shiftR, shift1, keepR, reloc, relocs, kept, maxP, minP, appOp, rowE, fits, oneF, sealArg, seal1, pureV, scalV, isOwn, hasOwn, bldOf, fillP, litOf, mkM, upM, dlM, mkS, updM, putM, delM, strikeM, findM, mapOf, keyV, vals, keyEq, keyEqs, keyEq1, shapeV, shapes, KD.of, found, zeroPV, isNilMap, ↓reduceIte, Nat.reduceLT, Nat.reduceLeDiff, Nat.reduceAdd, Nat.reduceSub, Nat.reduceMul, Nat.reducePow, Nat.reduceEqDiff, Nat.reduceBEq, Int.reduceLE, Int.reduceLT, Int.reduceToNat, Int.reduceEq, Int.reduceNeg, reduceCtorEq]
  by_cases h1 : 0 ≤ a ∧ a ≤ IntKind.i64.wrap (m - 1)
  case neg =>
    have h2 : (decide (0 ≤ a) && decide (a ≤ IntKind.i64.wrap (m - 1))) = false := by simpa using h1
    simp -implicitDefEqProofs only [c9, Try.f9, h0, h1, h2, within_sh, EVB, STB, TF, Option.isSome_some, Option.isSome_none, asgn, binV, nilV, nilEq, seen, valOp, bin, ibin, resOf, resVar, sealR, seal3, seal2, flat, one, cellsOf, cellsAt, newAt, storeG, rowOf, rd, further, over, natIn, vEq, vEqs, shiftV, argEnv, slotsG, slotIx, noOwn, isRowG, keptV, ownFlat, shiftR, shift1, keepR, reloc, relocs, kept, maxP, minP, appOp, rowE, fits, oneF, sealArg, seal1, pureV, scalV, isOwn, hasOwn, bldOf, fillP, litOf, mkM, upM, dlM, mkS, updM, putM, delM, strikeM, findM, mapOf, keyV, vals, keyEq, keyEqs, keyEq1, shapeV, shapes, KD.of, found, zeroPV, isNilMap, ↓reduceIte, Nat.reduceLT, Nat.reduceLeDiff, Nat.reduceAdd, Nat.reduceSub, Nat.reduceMul, Nat.reducePow, Nat.reduceEqDiff, Nat.reduceBEq, Int.reduceLE, Int.reduceLT, Int.reduceToNat, Int.reduceEq, Int.reduceNeg, reduceCtorEq]
  rcases hk with rfl | rfl | rfl | rfl <;> simp -implicitDefEqProofs only [c9, Try.f9, h0, h1, within_sh, Int.reduceEq, Int.natCast_zero, Int.lt_irrefl, EVB, STB, TF, Option.isSome_some, Option.isSome_none, asgn, binV, nilV, nilEq, seen, valOp, bin, ibin, resOf, resVar, sealR, seal3, seal2, flat, one, cellsOf, cellsAt, newAt, storeG, rowOf, rd, further, over, natIn, vEq, vEqs, shiftV, argEnv, slotsG, slotIx, noOwn, isRowG, keptV, ownFlat, shiftR, shift1, keepR, reloc, relocs, kept, maxP, minP, appOp, rowE, fits, oneF, sealArg, seal1, pureV, scalV, isOwn, hasOwn, bldOf, fillP, litOf, mkM, upM, dlM, mkS, updM, putM, delM, strikeM, findM, mapOf, keyV, vals, keyEq, keyEqs, keyEq1, shapeV, shapes, KD.of, found, zeroPV, isNilMap, ↓reduceIte, Nat.reduceLT, Nat.reduceLeDiff, Nat.reduceAdd, Nat.reduceSub, Nat.reduceMul, Nat.reducePow, Nat.reduceEqDiff, Nat.reduceBEq, Int.reduceLE, Int.reduceLT, Int.reduceToNat, Int.reduceEq, Int.reduceNeg, reduceCtorEq]
theorem wrap_lit {n : Int} (h1 : -9223372036854775808 ≤ n) (h2 : n < 9223372036854775808) : IntKind.i64.wrap n = n := i64_id (by omega) (by omega)
theorem unit_range {x : GStore} {c : GSenses} {m : Int} (R : RightStore x c m) (lot : Int) : 0 ≤ unitOf x.kinds x.lots lot ∧ unitOf x.kinds x.lots lot ≤ 1048576 := by
  unfold unitOf
  split
  · omega
  · split
    · rename_i l hl
      split
      · rename_i k hk
        exact R.kinds k (List.mem_of_getElem? hk)
      · omega
    · omega
theorem tag_of (c : GSenses) (ks : List GKind) (ls : List GLot) (id : Int) (b : GBox) (body : Int) (h : 0 ≤ c.strays) : agreesAt c ks ls id b ⟨0, body, 0, 0, [id]⟩ = (0, true) := by
  have h1 : w64 (((([id] : List Int).length : Nat) : Int) - 1) = 0 := rfl
  unfold agreesAt
  simp only [if_true, h1, List.contains_cons, beq_self_eq_true, Bool.true_or]
  rw [if_neg (by omega)]
theorem true_run (x : GStore) (c : GSenses) (body other : Int) : shFn (X ext0) 13 4 [x.enc, c.enc, int body, int other] [] = some (bool true, []) := by
  rw [enter4 rfl _ _ _ (by simp)]
  have e0 := small_sh
  have e1 := fits_sh 9 x c 8 (by omega)
  simp only [Nat.reduceAdd] at e1
  cases hf : fitsB x c 8 with
  | false =>
    rw [hf] at e1
    simp -implicitDefEqProofs only [c4, Try.f4, e0, e1, EVB, STB, TF, Option.isSome_some, Option.isSome_none, asgn, binV, nilV, nilEq, seen, valOp, bin, ibin, resOf, resVar, sealR, seal3, seal2, flat, one, cellsOf, cellsAt, newAt, storeG, rowOf, rd, further, over, natIn, vEq, vEqs, shiftV, argEnv, slotsG, slotIx, noOwn, isRowG, keptV, ownFlat, shiftR, shift1, keepR, reloc, relocs, kept, maxP, minP, appOp, rowE, fits, oneF, sealArg, seal1, pureV, scalV, isOwn, hasOwn, bldOf, fillP, litOf, mkM, upM, dlM, mkS, updM, putM, delM, strikeM, findM, mapOf, keyV, vals, keyEq, keyEqs, keyEq1, shapeV, shapes, KD.of, found, zeroPV, isNilMap, ↓reduceIte, Nat.reduceLT, Nat.reduceLeDiff, Nat.reduceAdd, Nat.reduceSub, Nat.reduceMul, Nat.reducePow, Nat.reduceEqDiff, Nat.reduceBEq, Int.reduceLE, Int.reduceLT, Int.reduceToNat, Int.reduceEq, Int.reduceNeg, reduceCtorEq]
  | true =>
  rw [hf] at e1
  by_cases hb0 : body < 0
  · simp -implicitDefEqProofs only [c4, Try.f4, e0, e1, hb0, EVB, STB, TF, Option.isSome_some, Option.isSome_none, asgn, binV, nilV, nilEq, seen, valOp, bin, ibin, resOf, resVar, sealR, seal3, seal2, flat, one, cellsOf, cellsAt, newAt, storeG, rowOf, rd, further, over, natIn, vEq, vEqs, shiftV, argEnv, slotsG, slotIx, noOwn, isRowG, keptV, ownFlat, shiftR, shift1, keepR, reloc, relocs, kept, maxP, minP, appOp, rowE, fits, oneF, sealArg, seal1, pureV, scalV, isOwn, hasOwn, bldOf, fillP, litOf, mkM, upM, dlM, mkS, updM, putM, delM, strikeM, findM, mapOf, keyV, vals, keyEq, keyEqs, keyEq1, shapeV, shapes, KD.of, found, zeroPV, isNilMap, ↓reduceIte, Nat.reduceLT, Nat.reduceLeDiff, Nat.reduceAdd, Nat.reduceSub, Nat.reduceMul, Nat.reducePow, Nat.reduceEqDiff, Nat.reduceBEq, Int.reduceLE, Int.reduceLT, Int.reduceToNat, Int.reduceEq, Int.reduceNeg, reduceCtorEq]
  by_cases hb1 : (x.perm.length : Int) ≤ body
  · simp -implicitDefEqProofs only [c4, Try.f4, e0, e1, hb0, hb1, EVB, STB, TF, Option.isSome_some, Option.isSome_none, asgn, binV, nilV, nilEq, seen, valOp, bin, ibin, resOf, resVar, sealR, seal3, seal2, flat, one, cellsOf, cellsAt, newAt, storeG, rowOf, rd, further, over, natIn, vEq, vEqs, shiftV, argEnv, slotsG, slotIx, noOwn, isRowG, keptV, ownFlat, shiftR, shift1, keepR, reloc, relocs, kept, maxP, minP, appOp, rowE, fits, oneF, sealArg, seal1, pureV, scalV, isOwn, hasOwn, bldOf, fillP, litOf, mkM, upM, dlM, mkS, updM, putM, delM, strikeM, findM, mapOf, keyV, vals, keyEq, keyEqs, keyEq1, shapeV, shapes, KD.of, found, zeroPV, isNilMap, ↓reduceIte, Nat.reduceLT, Nat.reduceLeDiff, Nat.reduceAdd, Nat.reduceSub, Nat.reduceMul, Nat.reducePow, Nat.reduceEqDiff, Nat.reduceBEq, Int.reduceLE, Int.reduceLT, Int.reduceToNat, Int.reduceEq, Int.reduceNeg, reduceCtorEq]
  have R := right_of hf
  have hone := R.one
  have hmost := R.most
  have hsame := R.same
  have hge : 0 ≤ body := by omega
  have hlt : body < x.perm.length := by omega
  obtain ⟨id, b, g1, g2, g3, g4, g5⟩ := at_of R hge hlt
  have hb := R.boxes b g5
  have hu := unit_range R b.lot
  have hc := sens_of R.sens
  have e2 := unit_sh 11 x.kinds x.lots b.lot hb.2.1 R.lots
  have hm : 0 ≤ b.count * unitOf x.kinds x.lots b.lot ∧ b.count * unitOf x.kinds x.lots b.lot ≤ 20000 * 1048576 := ⟨Int.mul_nonneg hb.2.2.1 hu.1, Int.mul_le_mul hb.2.2.2.1 hu.2 hu.1 (by omega)⟩
  have w1 : IntKind.i64.wrap (b.count * unitOf x.kinds x.lots b.lot) = b.count * unitOf x.kinds x.lots b.lot := i64_id (by omega) (by omega)
  have w2 : IntKind.i64.wrap (b.tare + b.count * unitOf x.kinds x.lots b.lot) = b.tare + b.count * unitOf x.kinds x.lots b.lot := i64_id (by omega) (by omega)
  have a0 := agrees_sh 9 c x.kinds x.lots x.perm x.boxes ⟨0, body, 0, 0, [id]⟩ id b hge hlt g1 g2 g3 g4 (by simp) hb.2.1 R.lots
  rw [tag_of c _ _ _ _ _ hc.2.1.1] at a0
  have aB := fun k n => agrees_bare 9 c x.kinds x.lots x.perm x.boxes k body n id b hge hlt g1 g2 g3 g4 hb.2.1 R.lots
  have r0 := right_sh 9 x.perm.length ⟨0, body, 0, 0, [id]⟩ (by simp)
  have rB := fun k n => right_bare 9 x.perm.length k body n
  have wn : w64 ((x.perm.length : Int) - 1) = x.perm.length - 1 := i64_id (by omega) (by omega)
  have r0' : rightB x.perm.length ⟨0, body, 0, 0, [id]⟩ = true := by
    unfold rightB
    have hn : ¬ ((x.perm.length : Int) < 1 ∨ ¬ (0 ≤ body ∧ body ≤ w64 ((x.perm.length : Int) - 1)) ∨ (¬ (0 : Int) = 0 ∧ 0 < (([id] : List Int).length : Int)) ∨ ¬ (0 : Int) = 4 ∧ ¬ (0 : Int) = 0) := by rw [wn]; omega
    rw [if_neg hn]
    have : ascB [id] x.perm.length = true := by
      simp only [ascB, List.length_cons, List.length_nil, Nat.zero_add, List.range_one, List.all_cons, List.all_nil, Bool.and_true, ascAt, List.getD_cons_zero]
      rw [show IntKind.i64.wrap ((x.perm.length : Int) - 1) = x.perm.length - 1 from wn]
      have : 0 ≤ id ∧ id ≤ (x.perm.length : Int) - 1 := by omega
      simp [this]
    simp [this]
  have rr : ∀ (k n : Int), (k = 1 ∨ k = 2 ∨ k = 3 ∨ k = 5) → 0 ≤ n → (k = 5 → n < x.perm.length) → n ≤ 1099511627776 → rightB x.perm.length ⟨k, body, 0, n, []⟩ = true := fun k n hk h1 h2 h3 => by
    unfold rightB inB
    rw [wn]
    have hn : ¬ ((x.perm.length : Int) < 1 ∨ ¬ (0 ≤ body ∧ body ≤ (x.perm.length : Int) - 1) ∨ (¬ k = 0 ∧ 0 < (([] : List Int).length : Int)) ∨ ¬ k = 4 ∧ ¬ (0 : Int) = 0) := by
      rintro (h | h | h | h)
      · omega
      · exact h ⟨hge, by omega⟩
      · simp at h
      · exact h.2 rfl
    rw [if_neg hn]
    rcases hk with rfl | rfl | rfl | rfl
    · simp; omega
    · simp; omega
    · simp; omega
    · have := h2 rfl; simp; omega
  rw [r0'] at r0
  have a1 := aB 1 (b.tare + b.count * unitOf x.kinds x.lots b.lot) (by decide)
  have a2 := aB 3 b.count (by decide)
  have a3 := aB 5 id (by decide)
  have a4 := aB 2 b.count (by decide)
  have a5 := aB 5 other (by decide)
  have a6 := aB 3 other (by decide)
  have r1 := rB 1 (b.tare + b.count * unitOf x.kinds x.lots b.lot) (by decide)
  have r2 := rB 3 b.count (by decide)
  have r3 := rB 5 id (by decide)
  have r4 := rB 2 b.count (by decide)
  rw [rr _ _ (by decide) (by omega) (by omega) (by omega)] at r1
  rw [rr _ _ (by decide) (by omega) (by omega) (by omega)] at r2
  rw [rr _ _ (by decide) (by omega) (by omega) (by omega)] at r3
  rw [rr _ _ (by decide) (by omega) (by omega) (by omega)] at r4
  have v1 : agreesAt c x.kinds x.lots id b ⟨1, body, 0, b.tare + b.count * unitOf x.kinds x.lots b.lot, []⟩ = (0, true) := by
    simp only [agreesAt, inB, Int.reduceEq, if_false, if_true]
    rw [show w64 (b.count * unitOf x.kinds x.lots b.lot) = b.count * unitOf x.kinds x.lots b.lot from w1, show w64 (b.tare + b.count * unitOf x.kinds x.lots b.lot) = _ from w2]
    rw [show w64 (b.tare + b.count * unitOf x.kinds x.lots b.lot - c.error) = b.tare + b.count * unitOf x.kinds x.lots b.lot - c.error from i64_id (by omega) (by omega), show w64 (b.tare + b.count * unitOf x.kinds x.lots b.lot + c.error) = b.tare + b.count * unitOf x.kinds x.lots b.lot + c.error from i64_id (by omega) (by omega)]
    simp only [Prod.mk.injEq, true_and, Bool.and_eq_true, decide_eq_true_eq]
    omega
  have v2 : agreesAt c x.kinds x.lots id b ⟨3, body, 0, b.count, []⟩ = (0, true) := by simp [agreesAt]
  have v3 : agreesAt c x.kinds x.lots id b ⟨5, body, 0, id, []⟩ = (0, true) := by simp [agreesAt]
  have v4 : agreesAt c x.kinds x.lots id b ⟨2, body, 0, b.count, []⟩ = (0, true) := by
    have : w64 (b.count - c.slip) = b.count - c.slip := i64_id (by omega) (by omega)
    simp [agreesAt, this]; omega
  have v5 : agreesAt c x.kinds x.lots id b ⟨5, body, 0, other, []⟩ = (0, decide (other = id)) := by simp [agreesAt]
  have v6 : agreesAt c x.kinds x.lots id b ⟨3, body, 0, other, []⟩ = (0, decide (other = b.count)) := by simp [agreesAt]
  rw [v1] at a1
  rw [v2] at a2
  rw [v3] at a3
  rw [v4] at a4
  rw [v5] at a5
  rw [v6] at a6
  simp only [GSight.enc, GSight.cells, List.map_cons, List.map_nil] at a0 r0
  simp only [Nat.reduceAdd] at a0 a1 a2 a3 a4 a5 a6 r0 r1 r2 r3 r4 e2
  by_cases ho : other < 0
  · simp -implicitDefEqProofs only [c4, Try.f4, e0, e1, hb0, hb1, hge, hlt, g1, g2, g3, g4, e2, w1, w2, a0, a1, a2, a3, a4, r0, r1, r2, r3, r4, ev_loop, ev_round, onRound_nrm, onRound_ext, onRound_ret, ho, wrap_lit, Nat.reduceSub, Int.reduceAdd, Int.cast_ofNat_Int, EVB, STB, TF, Option.isSome_some, Option.isSome_none, asgn, binV, nilV, nilEq, seen, valOp, bin, ibin, resOf, resVar, sealR, seal3, seal2, flat, one, cellsOf, cellsAt, newAt, storeG, rowOf, rd, further, over, natIn, vEq, vEqs, shiftV, argEnv, slotsG, slotIx, noOwn, isRowG, keptV, ownFlat, shiftR, shift1, keepR, reloc, relocs, kept, maxP, minP, appOp, rowE, fits, oneF, sealArg, seal1, pureV, scalV, isOwn, hasOwn, bldOf, fillP, litOf, mkM, upM, dlM, mkS, updM, putM, delM, strikeM, findM, mapOf, keyV, vals, keyEq, keyEqs, keyEq1, shapeV, shapes, KD.of, found, zeroPV, isNilMap, ↓reduceIte, Nat.reduceLT, Nat.reduceLeDiff, Nat.reduceAdd, Nat.reduceSub, Nat.reduceMul, Nat.reducePow, Nat.reduceEqDiff, Nat.reduceBEq, Int.reduceLE, Int.reduceLT, Int.reduceToNat, Int.reduceEq, Int.reduceNeg, reduceCtorEq]
  by_cases ho2 : (x.perm.length : Int) ≤ other
  · simp -implicitDefEqProofs only [c4, Try.f4, e0, e1, hb0, hb1, hge, hlt, g1, g2, g3, g4, e2, w1, w2, a0, a1, a2, a3, a4, r0, r1, r2, r3, r4, ev_loop, ev_round, onRound_nrm, onRound_ext, onRound_ret, ho, ho2, wrap_lit, Nat.reduceSub, Int.reduceAdd, Int.cast_ofNat_Int, EVB, STB, TF, Option.isSome_some, Option.isSome_none, asgn, binV, nilV, nilEq, seen, valOp, bin, ibin, resOf, resVar, sealR, seal3, seal2, flat, one, cellsOf, cellsAt, newAt, storeG, rowOf, rd, further, over, natIn, vEq, vEqs, shiftV, argEnv, slotsG, slotIx, noOwn, isRowG, keptV, ownFlat, shiftR, shift1, keepR, reloc, relocs, kept, maxP, minP, appOp, rowE, fits, oneF, sealArg, seal1, pureV, scalV, isOwn, hasOwn, bldOf, fillP, litOf, mkM, upM, dlM, mkS, updM, putM, delM, strikeM, findM, mapOf, keyV, vals, keyEq, keyEqs, keyEq1, shapeV, shapes, KD.of, found, zeroPV, isNilMap, ↓reduceIte, Nat.reduceLT, Nat.reduceLeDiff, Nat.reduceAdd, Nat.reduceSub, Nat.reduceMul, Nat.reducePow, Nat.reduceEqDiff, Nat.reduceBEq, Int.reduceLE, Int.reduceLT, Int.reduceToNat, Int.reduceEq, Int.reduceNeg, reduceCtorEq]
  simp -implicitDefEqProofs only [c4, Try.f4, e0, e1, hb0, hb1, hge, hlt, g1, g2, g3, g4, e2, w1, w2, a0, a1, a2, a3, a4, a5, a6, r0, r1, r2, r3, r4, ev_loop, ev_round, onRound_nrm, onRound_ext, onRound_ret, ho, ho2, wrap_lit, Nat.reduceSub, Int.reduceAdd, Int.cast_ofNat_Int, EVB, STB, TF, Option.isSome_some, Option.isSome_none, asgn, binV, nilV, nilEq, seen, valOp, bin, ibin, resOf, resVar, sealR, seal3, seal2, flat, one, cellsOf, cellsAt, newAt, storeG, rowOf, rd, further, over, natIn, vEq, vEqs, shiftV, argEnv, slotsG, slotIx, noOwn, isRowG, keptV, ownFlat, shiftR, shift1, keepR, reloc, relocs, kept, maxP, minP, appOp, rowE, fits, oneF, sealArg, seal1, pureV, scalV, isOwn, hasOwn, bldOf, fillP, litOf, mkM, upM, dlM, mkS, updM, putM, delM, strikeM, findM, mapOf, keyV, vals, keyEq, keyEqs, keyEq1, shapeV, shapes, KD.of, found, zeroPV, isNilMap, ↓reduceIte, Nat.reduceLT, Nat.reduceLeDiff, Nat.reduceAdd, Nat.reduceSub, Nat.reduceMul, Nat.reducePow, Nat.reduceEqDiff, Nat.reduceBEq, Int.reduceLE, Int.reduceLT, Int.reduceToNat, Int.reduceEq, Int.reduceNeg, reduceCtorEq]
theorem SightTrue_sh (x : GStore) (c : GSenses) (body other : Int) (h0 : x.Ok) (h1 : c.Ok) (h2 : (Lit.int .i64 body).wf = true) (h3 : (Lit.int .i64 other).wf = true) : shFn (X ext0) 13 4 [x.enc, c.enc, int body, int other] [] = some (bool true, []) := true_run x c body other
end Go.Proofs.Ythmlfonbfnmalaa.Sh
