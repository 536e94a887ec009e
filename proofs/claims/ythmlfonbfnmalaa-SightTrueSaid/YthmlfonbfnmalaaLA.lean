/- Functions of sight and of its reference, by the shadow run. No condition. -/
import Derived.Test.YthmlfonbfnmalaaShT
namespace Go.Proofs.Ythmlfonbfnmalaa.Sh
open Go.RowKit
set_option maxRecDepth 100000
set_option maxHeartbeats 1000000
set_option linter.unusedSimpArgs false
set_option linter.unusedVariables false
def indexFrom (l : List Int) (v : Int) (i : Nat) : Int := match (l.drop i).idxOf? v with | some j => (i + j : Nat) | none => -1
theorem index_sh (d : Nat) (l : List Int) (v : Int) (hl : l.length < 2 ^ 63) : shFn (X ext0) (d + 1) 31 [ints l, int v] [] = some (int (indexFrom l v 0), []) := by
  rw [enter31 rfl _ _ _ (by simp)]
  simp -implicitDefEqProofs only [c31, Try.f31, Option.getD_some, ev_loop, EVB, STB, TF, asgn, binV, nilV, nilEq, seen, valOp, bin, ibin, resOf, resVar, sealR, seal3, seal2, flat, one, cellsOf, cellsAt, newAt, storeG, rowOf, rd, further, over, natIn, eqKinds, argEnv, slotsG, slotIx, noOwn, isRowG, keptV, ownFlat, shiftR, shift1, keepR, reloc, relocs, kept, maxP, minP, appOp, rowE, fits, oneF, sealArg, seal1, pureV, scalV, isOwn, hasOwn, bldOf, fillP, litOf, ↓reduceIte, Nat.reduceLT, Nat.reduceLeDiff, Nat.reduceAdd, Nat.reduceSub, Nat.reduceMul, Nat.reducePow, Nat.reduceEqDiff, Nat.reduceBEq, Int.reduceLE, Int.reduceLT, Int.reduceToNat, Int.reduceEq, Int.reduceNeg, reduceCtorEq]
  generalize hF : shCode _ _ _ _ _ = F
  generalize hL : shLoop F _ _ = r
  obtain ⟨x, ⟨env', G'⟩, h1, h2, h3, h4⟩ := loop_from hL (fun i s => s.2 = [] ∧ look s.1 0 = .row 1 (l.map fun x => [int x]) ∧ look s.1 1 = int v ∧ look s.1 7 = int l.length ∧ look s.1 8 = int i ∧ indexFrom l v i = indexFrom l v 0) l.length
    (fun x s => s.2 = [] ∧ ((x = .ret ∧ look s.1 4 = int (indexFrom l v 0)) ∨ (x = .ext 0 ∧ indexFrom l v 0 = -1))) ⟨rfl, rfl, rfl, rfl, rfl, rfl⟩ (by omega)
    (fun i hi s ⟨h1, h2, h3, h4, h5, h6⟩ => by
      obtain ⟨env, G⟩ := s
      simp only at h1 h2 h3 h4 h5
      subst h1
      subst hF
      have hlt : (i : Int) < l.length := by omega
      have h0 : (0 : Int) ≤ i := by omega
      have hget : l[i]? = some l[i] := List.getElem?_eq_getElem hi
      have hdrop : l.drop i = l[i] :: l.drop (i + 1) := List.drop_eq_getElem_cons hi
      by_cases hv : v = l[i]
      · right
        refine ⟨.ret, ?_⟩
        simp -implicitDefEqProofs only [h2, h3, h4, h5, hlt, h0, hget, hv, Int.toNat_natCast, EVB, STB, TF, asgn, binV, nilV, nilEq, seen, valOp, bin, ibin, resOf, resVar, sealR, seal3, seal2, flat, one, cellsOf, cellsAt, newAt, storeG, rowOf, rd, further, over, natIn, eqKinds, argEnv, slotsG, slotIx, noOwn, isRowG, keptV, ownFlat, shiftR, shift1, keepR, reloc, relocs, kept, maxP, minP, appOp, rowE, fits, oneF, sealArg, seal1, pureV, scalV, isOwn, hasOwn, bldOf, fillP, litOf, ↓reduceIte, Nat.reduceLT, Nat.reduceLeDiff, Nat.reduceAdd, Nat.reduceSub, Nat.reduceMul, Nat.reducePow, Nat.reduceEqDiff, Nat.reduceBEq, Int.reduceLE, Int.reduceLT, Int.reduceToNat, Int.reduceEq, Int.reduceNeg, reduceCtorEq]
        refine ⟨_, rfl, rfl, ?_⟩
        rw [← hv, ← h6]
        simp only [indexFrom, hdrop, List.idxOf?, List.findIdx?_cons, hv, beq_self_eq_true, if_true, Nat.add_zero, look]
        rfl
      · left
        have hne : ¬ v = l[i] := hv
        simp -implicitDefEqProofs only [h2, h3, h4, h5, hlt, h0, hget, hne, Int.toNat_natCast, i64_succ (show i < 2 ^ 63 - 1 by omega), EVB, STB, TF, asgn, binV, nilV, nilEq, seen, valOp, bin, ibin, resOf, resVar, sealR, seal3, seal2, flat, one, cellsOf, cellsAt, newAt, storeG, rowOf, rd, further, over, natIn, eqKinds, argEnv, slotsG, slotIx, noOwn, isRowG, keptV, ownFlat, shiftR, shift1, keepR, reloc, relocs, kept, maxP, minP, appOp, rowE, fits, oneF, sealArg, seal1, pureV, scalV, isOwn, hasOwn, bldOf, fillP, litOf, ↓reduceIte, Nat.reduceLT, Nat.reduceLeDiff, Nat.reduceAdd, Nat.reduceSub, Nat.reduceMul, Nat.reducePow, Nat.reduceEqDiff, Nat.reduceBEq, Int.reduceLE, Int.reduceLT, Int.reduceToNat, Int.reduceEq, Int.reduceNeg, reduceCtorEq]
        refine ⟨_, rfl, rfl, rfl, rfl, rfl, rfl, ?_⟩
        rw [← h6]
        have hne2 : ¬ l[i] = v := fun h => hv h.symm
        simp only [indexFrom, hdrop, List.idxOf?, List.findIdx?_cons, beq_iff_eq, hne2, if_false]
        cases List.findIdx? (fun x => x == v) (l.drop (i + 1)) <;> simp <;> omega)
    (fun s ⟨h1, h2, h3, h4, h5, h6⟩ => by
      obtain ⟨env, G⟩ := s
      simp only at h1 h2 h3 h4 h5
      subst h1
      subst hF
      refine ⟨.ext 0, ?_⟩
      simp -implicitDefEqProofs only [h2, h3, h4, h5, Int.lt_irrefl, EVB, STB, TF, asgn, binV, nilV, nilEq, seen, valOp, bin, ibin, resOf, resVar, sealR, seal3, seal2, flat, one, cellsOf, cellsAt, newAt, storeG, rowOf, rd, further, over, natIn, eqKinds, argEnv, slotsG, slotIx, noOwn, isRowG, keptV, ownFlat, shiftR, shift1, keepR, reloc, relocs, kept, maxP, minP, appOp, rowE, fits, oneF, sealArg, seal1, pureV, scalV, isOwn, hasOwn, bldOf, fillP, litOf, ↓reduceIte, Nat.reduceLT, Nat.reduceLeDiff, Nat.reduceAdd, Nat.reduceSub, Nat.reduceMul, Nat.reducePow, Nat.reduceEqDiff, Nat.reduceBEq, Int.reduceLE, Int.reduceLT, Int.reduceToNat, Int.reduceEq, Int.reduceNeg, reduceCtorEq]
      refine ⟨_, rfl, rfl, ?_⟩
      rw [← h6]
      simp [indexFrom])
  rw [h2]
  simp only at h3
  subst h3
  rcases h4 with ⟨rfl, h5⟩ | ⟨rfl, h5⟩
  · simp only at h5
    simp -implicitDefEqProofs only [h5, EVB, STB, TF, asgn, binV, nilV, nilEq, seen, valOp, bin, ibin, resOf, resVar, sealR, seal3, seal2, flat, one, cellsOf, cellsAt, newAt, storeG, rowOf, rd, further, over, natIn, eqKinds, argEnv, slotsG, slotIx, noOwn, isRowG, keptV, ownFlat, shiftR, shift1, keepR, reloc, relocs, kept, maxP, minP, appOp, rowE, fits, oneF, sealArg, seal1, pureV, scalV, isOwn, hasOwn, bldOf, fillP, litOf, ↓reduceIte, Nat.reduceLT, Nat.reduceLeDiff, Nat.reduceAdd, Nat.reduceSub, Nat.reduceMul, Nat.reducePow, Nat.reduceEqDiff, Nat.reduceBEq, Int.reduceLE, Int.reduceLT, Int.reduceToNat, Int.reduceEq, Int.reduceNeg, reduceCtorEq]
  · simp -implicitDefEqProofs only [h5, EVB, STB, TF, asgn, binV, nilV, nilEq, seen, valOp, bin, ibin, resOf, resVar, sealR, seal3, seal2, flat, one, cellsOf, cellsAt, newAt, storeG, rowOf, rd, further, over, natIn, eqKinds, argEnv, slotsG, slotIx, noOwn, isRowG, keptV, ownFlat, shiftR, shift1, keepR, reloc, relocs, kept, maxP, minP, appOp, rowE, fits, oneF, sealArg, seal1, pureV, scalV, isOwn, hasOwn, bldOf, fillP, litOf, ↓reduceIte, Nat.reduceLT, Nat.reduceLeDiff, Nat.reduceAdd, Nat.reduceSub, Nat.reduceMul, Nat.reducePow, Nat.reduceEqDiff, Nat.reduceBEq, Int.reduceLE, Int.reduceLT, Int.reduceToNat, Int.reduceEq, Int.reduceNeg, reduceCtorEq]
theorem indexFrom_nonneg (l : List Int) (v : Int) : decide (0 ≤ indexFrom l v 0) = l.contains v := by
  unfold indexFrom
  rw [List.drop_zero]
  cases h : l.idxOf? v with
  | none =>
    have : v ∉ l := by simpa [List.idxOf?_eq_none_iff] using h
    simp [this]
  | some j =>
    have : v ∈ l := by
      refine Classical.byContradiction fun hn => ?_
      rw [List.idxOf?_eq_none_iff.2 hn] at h
      cases h
    simp [this]
theorem contains_sh (d : Nat) (l : List Int) (v : Int) (hl : l.length < 2 ^ 63) : shFn (X ext0) (d + 2) 18 [ints l, int v] [] = some (bool (l.contains v), []) := by
  rw [enter18 rfl _ _ _ (by simp), ← indexFrom_nonneg]
  have h1 := index_sh d l v hl
  simp only [ints] at h1
  simp -implicitDefEqProofs only [c18, Try.f18, h1, EVB, STB, TF, asgn, binV, nilV, nilEq, seen, valOp, bin, ibin, resOf, resVar, sealR, seal3, seal2, flat, one, cellsOf, cellsAt, newAt, storeG, rowOf, rd, further, over, natIn, eqKinds, argEnv, slotsG, slotIx, noOwn, isRowG, keptV, ownFlat, shiftR, shift1, keepR, reloc, relocs, kept, maxP, minP, appOp, rowE, fits, oneF, sealArg, seal1, pureV, scalV, isOwn, hasOwn, bldOf, fillP, litOf, ↓reduceIte, Nat.reduceLT, Nat.reduceLeDiff, Nat.reduceAdd, Nat.reduceSub, Nat.reduceMul, Nat.reducePow, Nat.reduceEqDiff, Nat.reduceBEq, Int.reduceLE, Int.reduceLT, Int.reduceToNat, Int.reduceEq, Int.reduceNeg, reduceCtorEq]
abbrev pKinds (l : List GKind) : PV := .row 2 (l.map GKind.cells)
abbrev pLots (l : List GLot) : PV := .row 3 (l.map GLot.cells)
abbrev pBoxes (l : List GBox) : PV := .row 3 (l.map GBox.cells)
theorem within_sh (d : Nat) (n a b : Int) : shFn (X ext0) (d + 1) 16 [int n, int a, int b] [] = some (bool (decide (a ≤ n) && decide (n ≤ b)), []) := by
  rw [enter16 rfl d _ _ (by simp)]
  by_cases h1 : a ≤ n <;> by_cases h2 : n ≤ b <;> simp -implicitDefEqProofs only [c16, Try.f16, h1, h2, EVB, STB, TF, asgn, binV, nilV, nilEq, seen, valOp, bin, ibin, resOf, resVar, sealR, seal3, seal2, flat, one, cellsOf, cellsAt, newAt, storeG, rowOf, rd, further, over, natIn, eqKinds, argEnv, slotsG, slotIx, noOwn, isRowG, keptV, ownFlat, shiftR, shift1, keepR, reloc, relocs, kept, maxP, minP, appOp, rowE, fits, oneF, sealArg, seal1, pureV, scalV, isOwn, hasOwn, bldOf, fillP, litOf, ↓reduceIte, Nat.reduceLT, Nat.reduceLeDiff, Nat.reduceAdd, Nat.reduceSub, Nat.reduceMul, Nat.reducePow, Nat.reduceEqDiff, Nat.reduceBEq, Int.reduceLE, Int.reduceLT, Int.reduceToNat, Int.reduceEq, Int.reduceNeg, reduceCtorEq]
/-- The weight of a unit. -/
def unitOf (ks : List GKind) (ls : List GLot) (lot : Int) : Int := if lot < 0 then 0 else match ls[lot.toNat]? with | some l => (match ks[l.kind.toNat]? with | some k => k.weight | none => 0) | none => 0
theorem unit_sh (d : Nat) (ks : List GKind) (ls : List GLot) (lot : Int) (h1 : lot < ls.length) (h2 : ∀ l ∈ ls, 0 ≤ l.kind ∧ l.kind < ks.length) : shFn (X ext0) (d + 1) 12 [pKinds ks, pLots ls, int lot] [] = some (int (unitOf ks ls lot), []) := by
  rw [enter12 rfl d _ _ (by simp)]
  by_cases h : lot < 0
  · simp -implicitDefEqProofs only [c12, Try.f12, unitOf, h, EVB, STB, TF, asgn, binV, nilV, nilEq, seen, valOp, bin, ibin, resOf, resVar, sealR, seal3, seal2, flat, one, cellsOf, cellsAt, newAt, storeG, rowOf, rd, further, over, natIn, eqKinds, argEnv, slotsG, slotIx, noOwn, isRowG, keptV, ownFlat, shiftR, shift1, keepR, reloc, relocs, kept, maxP, minP, appOp, rowE, fits, oneF, sealArg, seal1, pureV, scalV, isOwn, hasOwn, bldOf, fillP, litOf, ↓reduceIte, Nat.reduceLT, Nat.reduceLeDiff, Nat.reduceAdd, Nat.reduceSub, Nat.reduceMul, Nat.reducePow, Nat.reduceEqDiff, Nat.reduceBEq, Int.reduceLE, Int.reduceLT, Int.reduceToNat, Int.reduceEq, Int.reduceNeg, reduceCtorEq]
  · have h0 : 0 ≤ lot := by omega
    have hlt : lot.toNat < ls.length := by omega
    have hg : ls[lot.toNat]? = some ls[lot.toNat] := List.getElem?_eq_getElem hlt
    have hk := h2 _ (List.getElem_mem hlt)
    have hlt2 : ls[lot.toNat].kind.toNat < ks.length := by omega
    have hg2 : ks[ls[lot.toNat].kind.toNat]? = some ks[ls[lot.toNat].kind.toNat] := List.getElem?_eq_getElem hlt2
    simp -implicitDefEqProofs only [c12, Try.f12, unitOf, h, h0, h1, hg, hk, hg2, EVB, STB, TF, asgn, binV, nilV, nilEq, seen, valOp, bin, ibin, resOf, resVar, sealR, seal3, seal2, flat, one, cellsOf, cellsAt, newAt, storeG, rowOf, rd, further, over, natIn, eqKinds, argEnv, slotsG, slotIx, noOwn, isRowG, keptV, ownFlat, shiftR, shift1, keepR, reloc, relocs, kept, maxP, minP, appOp, rowE, fits, oneF, sealArg, seal1, pureV, scalV, isOwn, hasOwn, bldOf, fillP, litOf, ↓reduceIte, Nat.reduceLT, Nat.reduceLeDiff, Nat.reduceAdd, Nat.reduceSub, Nat.reduceMul, Nat.reducePow, Nat.reduceEqDiff, Nat.reduceBEq, Int.reduceLE, Int.reduceLT, Int.reduceToNat, Int.reduceEq, Int.reduceNeg, reduceCtorEq]
/-- Whether something can have been done. -/
def canB (c : GSenses) (b : GBox) (s : GSight) (done : Int) : Bool :=
  if s.kind = 2 then (decide (0 ≤ done) && decide (done ≤ b.count)) && (decide (IntKind.i64.wrap (s.n - c.slip) ≤ done) && decide (done ≤ IntKind.i64.wrap (s.n + c.slip)))
  else if s.kind = 4 then decide (done = 0) || decide (done = 1) else decide (done = 0)
/-- Whether a number of a list that ascends strictly from 0 to less than n may stand at its place. -/
def ascAt (l : List Int) (n : Int) (i : Nat) : Bool := !(!(decide (0 ≤ l.getD i 0) && decide (l.getD i 0 ≤ IntKind.i64.wrap (n - 1))) || (decide (0 < i) && decide (l.getD i 0 ≤ l.getD (i - 1) 0)))
def ascB (l : List Int) (n : Int) : Bool := (List.range l.length).all (ascAt l n)
theorem has_sh (d : Nat) (l : List Int) (v : Int) (hl : l.length < 2 ^ 63) : shFn (X ext0) (d + 1) 30 [ints l, int v] [] = some (bool (!l.all (fun y => !decide (y = v))), []) := by
  rw [enter30 rfl _ _ _ (by simp)]
  simp -implicitDefEqProofs only [c30, Try.f30, ev_loop, EVB, STB, TF, asgn, binV, nilV, nilEq, seen, valOp, bin, ibin, resOf, resVar, sealR, seal3, seal2, flat, one, cellsOf, cellsAt, newAt, storeG, rowOf, rd, further, over, natIn, eqKinds, argEnv, slotsG, slotIx, noOwn, isRowG, keptV, ownFlat, shiftR, shift1, keepR, reloc, relocs, kept, maxP, minP, appOp, rowE, fits, oneF, sealArg, seal1, pureV, scalV, isOwn, hasOwn, bldOf, fillP, litOf, ↓reduceIte, Nat.reduceLT, Nat.reduceLeDiff, Nat.reduceAdd, Nat.reduceSub, Nat.reduceMul, Nat.reducePow, Nat.reduceEqDiff, Nat.reduceBEq, Int.reduceLE, Int.reduceLT, Int.reduceToNat, Int.reduceEq, Int.reduceNeg, reduceCtorEq]
  generalize hF : shCode _ _ _ _ _ = F
  generalize hL : shLoop F _ _ = r
  rcases loop_all hL (l) (fun y => !decide (y = v)) (fun i s => ∃ j4 j9 j17, s = ([(0, .row 1 (l.map fun x => [int x])), (1, int v), (4, j4), (5, int i), (9, j9), (17, j17)], [])) (.ret) (.ext 0)
    (fun s => ∃ j0 j1 j5 j9 j17, s = ([(0, j0), (1, j1), (4, bool true), (5, j5), (9, j9), (17, j17)], [])) (fun s => ∃ j0 j1 j4 j5 j9 j17, s = ([(0, j0), (1, j1), (4, j4), (5, j5), (9, j9), (17, j17)], [])) (by simp) (by simp) (by exact ⟨_, _, _, rfl⟩) (by omega)
    (fun i hi hg hp s ⟨j4, j9, j17, hs⟩ => by
        have hlt : (i : Int) < (l).length := by omega
        have h0 : (0 : Int) ≤ i := by omega
        have hp : ¬ l[i] = v := by simpa using hp
        clear hL
        subst hs hF
        simp -implicitDefEqProofs only [hlt, h0, hg, hp, Int.toNat_natCast, i64_succ (show i < 2 ^ 63 - 1 by omega), EVB, STB, TF, asgn, binV, nilV, nilEq, seen, valOp, bin, ibin, resOf, resVar, sealR, seal3, seal2, flat, one, cellsOf, cellsAt, newAt, storeG, rowOf, rd, further, over, natIn, eqKinds, argEnv, slotsG, slotIx, noOwn, isRowG, keptV, ownFlat, shiftR, shift1, keepR, reloc, relocs, kept, maxP, minP, appOp, rowE, fits, oneF, sealArg, seal1, pureV, scalV, isOwn, hasOwn, bldOf, fillP, litOf, ↓reduceIte, Nat.reduceLT, Nat.reduceLeDiff, Nat.reduceAdd, Nat.reduceSub, Nat.reduceMul, Nat.reducePow, Nat.reduceEqDiff, Nat.reduceBEq, Int.reduceLE, Int.reduceLT, Int.reduceToNat, Int.reduceEq, Int.reduceNeg, reduceCtorEq]
        exact ⟨_, rfl, _, _, _, rfl⟩)
    (fun i hi hg hp _ s ⟨j4, j9, j17, hs⟩ => by
        have hlt : (i : Int) < (l).length := by omega
        have h0 : (0 : Int) ≤ i := by omega
        have hp : l[i] = v := by simpa using hp
        clear hL
        subst hs hF
        simp -implicitDefEqProofs only [hlt, h0, hg, hp, Int.toNat_natCast, i64_succ (show i < 2 ^ 63 - 1 by omega), EVB, STB, TF, asgn, binV, nilV, nilEq, seen, valOp, bin, ibin, resOf, resVar, sealR, seal3, seal2, flat, one, cellsOf, cellsAt, newAt, storeG, rowOf, rd, further, over, natIn, eqKinds, argEnv, slotsG, slotIx, noOwn, isRowG, keptV, ownFlat, shiftR, shift1, keepR, reloc, relocs, kept, maxP, minP, appOp, rowE, fits, oneF, sealArg, seal1, pureV, scalV, isOwn, hasOwn, bldOf, fillP, litOf, ↓reduceIte, Nat.reduceLT, Nat.reduceLeDiff, Nat.reduceAdd, Nat.reduceSub, Nat.reduceMul, Nat.reducePow, Nat.reduceEqDiff, Nat.reduceBEq, Int.reduceLE, Int.reduceLT, Int.reduceToNat, Int.reduceEq, Int.reduceNeg, reduceCtorEq]
        exact ⟨_, rfl, _, _, _, _, _, rfl⟩)
    (fun ha s ⟨j4, j9, j17, hs⟩ => by
        clear hL
        subst hs hF
        simp -implicitDefEqProofs only [Int.lt_irrefl, EVB, STB, TF, asgn, binV, nilV, nilEq, seen, valOp, bin, ibin, resOf, resVar, sealR, seal3, seal2, flat, one, cellsOf, cellsAt, newAt, storeG, rowOf, rd, further, over, natIn, eqKinds, argEnv, slotsG, slotIx, noOwn, isRowG, keptV, ownFlat, shiftR, shift1, keepR, reloc, relocs, kept, maxP, minP, appOp, rowE, fits, oneF, sealArg, seal1, pureV, scalV, isOwn, hasOwn, bldOf, fillP, litOf, ↓reduceIte, Nat.reduceLT, Nat.reduceLeDiff, Nat.reduceAdd, Nat.reduceSub, Nat.reduceMul, Nat.reducePow, Nat.reduceEqDiff, Nat.reduceBEq, Int.reduceLE, Int.reduceLT, Int.reduceToNat, Int.reduceEq, Int.reduceNeg, reduceCtorEq]
        exact ⟨_, rfl, _, _, _, _, _, _, rfl⟩) with ⟨ha, s', hr, j0, j1, j5, j9, j17, rfl⟩ | ⟨ha, s', hr, j0, j1, j4, j5, j9, j17, rfl⟩
  · rw [hr]
    simp -implicitDefEqProofs only [ha, EVB, STB, TF, asgn, binV, nilV, nilEq, seen, valOp, bin, ibin, resOf, resVar, sealR, seal3, seal2, flat, one, cellsOf, cellsAt, newAt, storeG, rowOf, rd, further, over, natIn, eqKinds, argEnv, slotsG, slotIx, noOwn, isRowG, keptV, ownFlat, shiftR, shift1, keepR, reloc, relocs, kept, maxP, minP, appOp, rowE, fits, oneF, sealArg, seal1, pureV, scalV, isOwn, hasOwn, bldOf, fillP, litOf, ↓reduceIte, Nat.reduceLT, Nat.reduceLeDiff, Nat.reduceAdd, Nat.reduceSub, Nat.reduceMul, Nat.reducePow, Nat.reduceEqDiff, Nat.reduceBEq, Int.reduceLE, Int.reduceLT, Int.reduceToNat, Int.reduceEq, Int.reduceNeg, reduceCtorEq]
  · rw [hr]
    simp -implicitDefEqProofs only [ha, EVB, STB, TF, asgn, binV, nilV, nilEq, seen, valOp, bin, ibin, resOf, resVar, sealR, seal3, seal2, flat, one, cellsOf, cellsAt, newAt, storeG, rowOf, rd, further, over, natIn, eqKinds, argEnv, slotsG, slotIx, noOwn, isRowG, keptV, ownFlat, shiftR, shift1, keepR, reloc, relocs, kept, maxP, minP, appOp, rowE, fits, oneF, sealArg, seal1, pureV, scalV, isOwn, hasOwn, bldOf, fillP, litOf, ↓reduceIte, Nat.reduceLT, Nat.reduceLeDiff, Nat.reduceAdd, Nat.reduceSub, Nat.reduceMul, Nat.reducePow, Nat.reduceEqDiff, Nat.reduceBEq, Int.reduceLE, Int.reduceLT, Int.reduceToNat, Int.reduceEq, Int.reduceNeg, reduceCtorEq]
def GSenses.ok (c : GSenses) : Bool := decide (0 ≤ min (min (min c.misses c.strays) c.error) c.slip) && decide (max (max (max c.misses c.strays) c.error) c.slip ≤ 1048576)
theorem min_if (a b : Int) : (if b < a then b else a) = min a b := by omega
theorem max_if (a b : Int) : (if a < b then b else a) = max a b := by omega
theorem senses_sh (d : Nat) (c : GSenses) : shFn (X ext0) (d + 1) 8 [c.enc] [] = some (bool c.ok, []) := by
  rw [enter8 rfl _ _ _ (by simp)]
  simp -implicitDefEqProofs only [c8, Try.f8, GSenses.ok, min_if, max_if, EVB, STB, TF, asgn, binV, nilV, nilEq, seen, valOp, bin, ibin, resOf, resVar, sealR, seal3, seal2, flat, one, cellsOf, cellsAt, newAt, storeG, rowOf, rd, further, over, natIn, eqKinds, argEnv, slotsG, slotIx, noOwn, isRowG, keptV, ownFlat, shiftR, shift1, keepR, reloc, relocs, kept, maxP, minP, appOp, rowE, fits, oneF, sealArg, seal1, pureV, scalV, isOwn, hasOwn, bldOf, fillP, litOf, ↓reduceIte, Nat.reduceLT, Nat.reduceLeDiff, Nat.reduceAdd, Nat.reduceSub, Nat.reduceMul, Nat.reducePow, Nat.reduceEqDiff, Nat.reduceBEq, Int.reduceLE, Int.reduceLT, Int.reduceToNat, Int.reduceEq, Int.reduceNeg, reduceCtorEq]
  repeat' (split <;> rename_i hsp <;> (try simp -implicitDefEqProofs only [Classical.not_not] at hsp) <;> simp -implicitDefEqProofs only [hsp, min_if, max_if, EVB, STB, TF, asgn, binV, nilV, nilEq, seen, valOp, bin, ibin, resOf, resVar, sealR, seal3, seal2, flat, one, cellsOf, cellsAt, newAt, storeG, rowOf, rd, further, over, natIn, eqKinds, argEnv, slotsG, slotIx, noOwn, isRowG, keptV, ownFlat, shiftR, shift1, keepR, reloc, relocs, kept, maxP, minP, appOp, rowE, fits, oneF, sealArg, seal1, pureV, scalV, isOwn, hasOwn, bldOf, fillP, litOf, ↓reduceIte, Nat.reduceLT, Nat.reduceLeDiff, Nat.reduceAdd, Nat.reduceSub, Nat.reduceMul, Nat.reducePow, Nat.reduceEqDiff, Nat.reduceBEq, Int.reduceLE, Int.reduceLT, Int.reduceToNat, Int.reduceEq, Int.reduceNeg, reduceCtorEq])
theorem can_sh (d : Nat) (c : GSenses) (b : GBox) (s : GSight) (done : Int) : shFn (X ext0) (d + 2) 19 [c.enc, .agg b.cells, s.enc, int done] [] = some (bool (canB c b s done), []) := by
  rw [enter19 rfl _ _ _ (by simp)]
  unfold canB
  simp -implicitDefEqProofs only [c19, Try.f19, within_sh, EVB, STB, TF, asgn, binV, nilV, nilEq, seen, valOp, bin, ibin, resOf, resVar, sealR, seal3, seal2, flat, one, cellsOf, cellsAt, newAt, storeG, rowOf, rd, further, over, natIn, eqKinds, argEnv, slotsG, slotIx, noOwn, isRowG, keptV, ownFlat, shiftR, shift1, keepR, reloc, relocs, kept, maxP, minP, appOp, rowE, fits, oneF, sealArg, seal1, pureV, scalV, isOwn, hasOwn, bldOf, fillP, litOf, ↓reduceIte, Nat.reduceLT, Nat.reduceLeDiff, Nat.reduceAdd, Nat.reduceSub, Nat.reduceMul, Nat.reducePow, Nat.reduceEqDiff, Nat.reduceBEq, Int.reduceLE, Int.reduceLT, Int.reduceToNat, Int.reduceEq, Int.reduceNeg, reduceCtorEq]
  repeat' (split <;> rename_i hsp <;> (try simp -implicitDefEqProofs only [Classical.not_not] at hsp) <;> simp -implicitDefEqProofs only [hsp, within_sh, EVB, STB, TF, asgn, binV, nilV, nilEq, seen, valOp, bin, ibin, resOf, resVar, sealR, seal3, seal2, flat, one, cellsOf, cellsAt, newAt, storeG, rowOf, rd, further, over, natIn, eqKinds, argEnv, slotsG, slotIx, noOwn, isRowG, keptV, ownFlat, shiftR, shift1, keepR, reloc, relocs, kept, maxP, minP, appOp, rowE, fits, oneF, sealArg, seal1, pureV, scalV, isOwn, hasOwn, bldOf, fillP, litOf, ↓reduceIte, Nat.reduceLT, Nat.reduceLeDiff, Nat.reduceAdd, Nat.reduceSub, Nat.reduceMul, Nat.reducePow, Nat.reduceEqDiff, Nat.reduceBEq, Int.reduceLE, Int.reduceLT, Int.reduceToNat, Int.reduceEq, Int.reduceNeg, reduceCtorEq])
  all_goals (simp_all; try (intros; omega))
def kindOk (k : GKind) : Bool := !(decide (k.weight < 0) || decide (1048576 < k.weight))
def lotOk (nk : Nat) (l : GLot) : Bool := !(decide (l.kind < 0) || decide ((nk : Int) ≤ l.kind))
def boxOk (nl : Nat) (b : GBox) : Bool := !(decide (b.lot < -1) || decide ((nl : Int) ≤ b.lot) || decide (b.count < 0) || decide (20000 < b.count) || (decide (b.lot = -1) && !decide (b.count = 0)) || decide (b.tare < 0) || decide (1073741824 < b.tare))
def truthB (ks : List GKind) (ls : List GLot) (perm : List Int) (bs : List GBox) : Bool :=
  decide (perm.length = bs.length) && (List.range perm.length).all (fun i => !perm.all fun y => !decide (y = (i : Int))) && ks.all kindOk && ls.all (lotOk ks.length) && bs.all (boxOk ls.length)
theorem truth_sh (d : Nat) (ks : List GKind) (ls : List GLot) (perm : List Int) (bs : List GBox) (h1 : ks.length < 2 ^ 63) (h2 : ls.length < 2 ^ 63) (h3 : perm.length < 2 ^ 63) (h4 : bs.length < 2 ^ 63) :
    shFn (X ext0) (d + 2) 15 [pKinds ks, pLots ls, ints perm, pBoxes bs] [] = some (bool (truthB ks ls perm bs), []) := by
  rw [enter15 rfl _ _ _ (by simp)]
  unfold truthB
  by_cases hlen : perm.length = bs.length
  case neg =>
    have hlen2 : ¬ (perm.length : Int) = bs.length := by omega
    simp -implicitDefEqProofs only [c15, Try.f15, hlen, hlen2, EVB, STB, TF, asgn, binV, nilV, nilEq, seen, valOp, bin, ibin, resOf, resVar, sealR, seal3, seal2, flat, one, cellsOf, cellsAt, newAt, storeG, rowOf, rd, further, over, natIn, eqKinds, argEnv, slotsG, slotIx, noOwn, isRowG, keptV, ownFlat, shiftR, shift1, keepR, reloc, relocs, kept, maxP, minP, appOp, rowE, fits, oneF, sealArg, seal1, pureV, scalV, isOwn, hasOwn, bldOf, fillP, litOf, ↓reduceIte, Nat.reduceLT, Nat.reduceLeDiff, Nat.reduceAdd, Nat.reduceSub, Nat.reduceMul, Nat.reducePow, Nat.reduceEqDiff, Nat.reduceBEq, Int.reduceLE, Int.reduceLT, Int.reduceToNat, Int.reduceEq, Int.reduceNeg, reduceCtorEq]
  have hlen2 : (perm.length : Int) = bs.length := by omega
  have has1 := fun v => has_sh d perm v h3
  simp -implicitDefEqProofs only [c15, Try.f15, hlen, hlen2, ev_loop, EVB, STB, TF, asgn, binV, nilV, nilEq, seen, valOp, bin, ibin, resOf, resVar, sealR, seal3, seal2, flat, one, cellsOf, cellsAt, newAt, storeG, rowOf, rd, further, over, natIn, eqKinds, argEnv, slotsG, slotIx, noOwn, isRowG, keptV, ownFlat, shiftR, shift1, keepR, reloc, relocs, kept, maxP, minP, appOp, rowE, fits, oneF, sealArg, seal1, pureV, scalV, isOwn, hasOwn, bldOf, fillP, litOf, ↓reduceIte, Nat.reduceLT, Nat.reduceLeDiff, Nat.reduceAdd, Nat.reduceSub, Nat.reduceMul, Nat.reducePow, Nat.reduceEqDiff, Nat.reduceBEq, Int.reduceLE, Int.reduceLT, Int.reduceToNat, Int.reduceEq, Int.reduceNeg, reduceCtorEq]
  generalize hF : shCode _ _ _ _ _ = F
  generalize hL : shLoop F _ _ = r
  rcases loop_all hL (List.range perm.length) (fun i => !perm.all fun y => !decide (y = (i : Int))) (fun i s => ∃ j8 j10 j11 j12 j13 j18 j22 j28 j32 j48 j52 j70 j74 j120 g, s = ([(0, pKinds ks), (1, pLots ls), (2, ints perm), (3, pBoxes bs), (8, j8), (9, int i), (10, j10), (11, j11), (12, j12), (13, j13), (18, j18), (22, j22), (28, j28), (32, j32), (48, j48), (52, j52), (70, j70), (74, j74), (120, j120)], [g])) (.ret) (.ext 0)
    (fun s => ∃ j0 j1 j2 j3 j9 j10 j11 j12 j13 j18 j22 j28 j32 j48 j52 j70 j74 j120 g, s = ([(0, j0), (1, j1), (2, j2), (3, j3), (8, bool false), (9, j9), (10, j10), (11, j11), (12, j12), (13, j13), (18, j18), (22, j22), (28, j28), (32, j32), (48, j48), (52, j52), (70, j70), (74, j74), (120, j120)], [g])) (fun s => ∃ j8 j9 j10 j11 j12 j13 j18 j22 j28 j32 j48 j52 j70 j74 j120 g, s = ([(0, pKinds ks), (1, pLots ls), (2, ints perm), (3, pBoxes bs), (8, j8), (9, j9), (10, j10), (11, j11), (12, j12), (13, j13), (18, j18), (22, j22), (28, j28), (32, j32), (48, j48), (52, j52), (70, j70), (74, j74), (120, j120)], [g])) (by simp) (by simp) (by exact ⟨_, _, _, _, _, _, _, _, _, _, _, _, _, _, _, rfl⟩) (by simp only [List.length_range]; omega)
    (fun i hi hg hp s ⟨j8, j10, j11, j12, j13, j18, j22, j28, j32, j48, j52, j70, j74, j120, g, hs⟩ => by
        have hlt : (i : Int) < (List.range perm.length).length := by omega
        have h0 : (0 : Int) ≤ i := by omega
        simp only [List.length_range] at hi hlt; simp only [List.getElem_range] at hp hg
        clear hL
        subst hs hF
        simp -implicitDefEqProofs only [hlt, h0, hg, hp, has1, Int.toNat_natCast, i64_succ (show i < 2 ^ 63 - 1 by omega), EVB, STB, TF, asgn, binV, nilV, nilEq, seen, valOp, bin, ibin, resOf, resVar, sealR, seal3, seal2, flat, one, cellsOf, cellsAt, newAt, storeG, rowOf, rd, further, over, natIn, eqKinds, argEnv, slotsG, slotIx, noOwn, isRowG, keptV, ownFlat, shiftR, shift1, keepR, reloc, relocs, kept, maxP, minP, appOp, rowE, fits, oneF, sealArg, seal1, pureV, scalV, isOwn, hasOwn, bldOf, fillP, litOf, ↓reduceIte, Nat.reduceLT, Nat.reduceLeDiff, Nat.reduceAdd, Nat.reduceSub, Nat.reduceMul, Nat.reducePow, Nat.reduceEqDiff, Nat.reduceBEq, Int.reduceLE, Int.reduceLT, Int.reduceToNat, Int.reduceEq, Int.reduceNeg, reduceCtorEq]
        exact ⟨_, rfl, _, _, _, _, _, _, _, _, _, _, _, _, _, _, _, rfl⟩)
    (fun i hi hg hp _ s ⟨j8, j10, j11, j12, j13, j18, j22, j28, j32, j48, j52, j70, j74, j120, g, hs⟩ => by
        have hlt : (i : Int) < (List.range perm.length).length := by omega
        have h0 : (0 : Int) ≤ i := by omega
        simp only [List.length_range] at hi hlt; simp only [List.getElem_range] at hp hg
        clear hL
        subst hs hF
        simp -implicitDefEqProofs only [hlt, h0, hg, hp, has1, Int.toNat_natCast, i64_succ (show i < 2 ^ 63 - 1 by omega), EVB, STB, TF, asgn, binV, nilV, nilEq, seen, valOp, bin, ibin, resOf, resVar, sealR, seal3, seal2, flat, one, cellsOf, cellsAt, newAt, storeG, rowOf, rd, further, over, natIn, eqKinds, argEnv, slotsG, slotIx, noOwn, isRowG, keptV, ownFlat, shiftR, shift1, keepR, reloc, relocs, kept, maxP, minP, appOp, rowE, fits, oneF, sealArg, seal1, pureV, scalV, isOwn, hasOwn, bldOf, fillP, litOf, ↓reduceIte, Nat.reduceLT, Nat.reduceLeDiff, Nat.reduceAdd, Nat.reduceSub, Nat.reduceMul, Nat.reducePow, Nat.reduceEqDiff, Nat.reduceBEq, Int.reduceLE, Int.reduceLT, Int.reduceToNat, Int.reduceEq, Int.reduceNeg, reduceCtorEq]
        exact ⟨_, rfl, _, _, _, _, _, _, _, _, _, _, _, _, _, _, _, _, _, _, _, rfl⟩)
    (fun ha s ⟨j8, j10, j11, j12, j13, j18, j22, j28, j32, j48, j52, j70, j74, j120, g, hs⟩ => by
        clear hL
        subst hs hF
        simp -implicitDefEqProofs only [Int.lt_irrefl, List.length_range, EVB, STB, TF, asgn, binV, nilV, nilEq, seen, valOp, bin, ibin, resOf, resVar, sealR, seal3, seal2, flat, one, cellsOf, cellsAt, newAt, storeG, rowOf, rd, further, over, natIn, eqKinds, argEnv, slotsG, slotIx, noOwn, isRowG, keptV, ownFlat, shiftR, shift1, keepR, reloc, relocs, kept, maxP, minP, appOp, rowE, fits, oneF, sealArg, seal1, pureV, scalV, isOwn, hasOwn, bldOf, fillP, litOf, ↓reduceIte, Nat.reduceLT, Nat.reduceLeDiff, Nat.reduceAdd, Nat.reduceSub, Nat.reduceMul, Nat.reducePow, Nat.reduceEqDiff, Nat.reduceBEq, Int.reduceLE, Int.reduceLT, Int.reduceToNat, Int.reduceEq, Int.reduceNeg, reduceCtorEq]
        exact ⟨_, rfl, _, _, _, _, _, _, _, _, _, _, _, _, _, _, _, _, rfl⟩) with ⟨ha, s', hr, j0, j1, j2, j3, j9, j10, j11, j12, j13, j18, j22, j28, j32, j48, j52, j70, j74, j120, g, rfl⟩ | ⟨ha, s', hr, j8, j9, j10, j11, j12, j13, j18, j22, j28, j32, j48, j52, j70, j74, j120, g, rfl⟩
  · rw [hr]
    simp only [hlen] at ha
    simp -implicitDefEqProofs only [ha, EVB, STB, TF, asgn, binV, nilV, nilEq, seen, valOp, bin, ibin, resOf, resVar, sealR, seal3, seal2, flat, one, cellsOf, cellsAt, newAt, storeG, rowOf, rd, further, over, natIn, eqKinds, argEnv, slotsG, slotIx, noOwn, isRowG, keptV, ownFlat, shiftR, shift1, keepR, reloc, relocs, kept, maxP, minP, appOp, rowE, fits, oneF, sealArg, seal1, pureV, scalV, isOwn, hasOwn, bldOf, fillP, litOf, ↓reduceIte, Nat.reduceLT, Nat.reduceLeDiff, Nat.reduceAdd, Nat.reduceSub, Nat.reduceMul, Nat.reducePow, Nat.reduceEqDiff, Nat.reduceBEq, Int.reduceLE, Int.reduceLT, Int.reduceToNat, Int.reduceEq, Int.reduceNeg, reduceCtorEq]
  rw [hr]
  simp only [hlen] at ha
  simp -implicitDefEqProofs only [ha, ev_loop, EVB, STB, TF, asgn, binV, nilV, nilEq, seen, valOp, bin, ibin, resOf, resVar, sealR, seal3, seal2, flat, one, cellsOf, cellsAt, newAt, storeG, rowOf, rd, further, over, natIn, eqKinds, argEnv, slotsG, slotIx, noOwn, isRowG, keptV, ownFlat, shiftR, shift1, keepR, reloc, relocs, kept, maxP, minP, appOp, rowE, fits, oneF, sealArg, seal1, pureV, scalV, isOwn, hasOwn, bldOf, fillP, litOf, ↓reduceIte, Nat.reduceLT, Nat.reduceLeDiff, Nat.reduceAdd, Nat.reduceSub, Nat.reduceMul, Nat.reducePow, Nat.reduceEqDiff, Nat.reduceBEq, Int.reduceLE, Int.reduceLT, Int.reduceToNat, Int.reduceEq, Int.reduceNeg, reduceCtorEq]
  clear hL hr hF
  generalize hF : shCode _ _ _ _ _ = F
  generalize hL : shLoop F _ _ = r
  clear ha
  rcases loop_all hL (ks) (kindOk) (fun i s => ∃ j8 j9 j11 j12 j13 j18 j22 j28 j32 j48 j52 j70 j74 j120 g, s = ([(0, pKinds ks), (1, pLots ls), (2, ints perm), (3, pBoxes bs), (8, j8), (9, j9), (10, int i), (11, j11), (12, j12), (13, j13), (18, j18), (22, j22), (28, j28), (32, j32), (48, j48), (52, j52), (70, j70), (74, j74), (120, j120)], [g])) (.ret) (.ext 2)
    (fun s => ∃ j0 j1 j2 j3 j9 j10 j11 j12 j13 j18 j22 j28 j32 j48 j52 j70 j74 j120 g, s = ([(0, j0), (1, j1), (2, j2), (3, j3), (8, bool false), (9, j9), (10, j10), (11, j11), (12, j12), (13, j13), (18, j18), (22, j22), (28, j28), (32, j32), (48, j48), (52, j52), (70, j70), (74, j74), (120, j120)], [g])) (fun s => ∃ j8 j9 j10 j11 j12 j13 j18 j22 j28 j32 j48 j52 j70 j74 j120 g, s = ([(0, pKinds ks), (1, pLots ls), (2, ints perm), (3, pBoxes bs), (8, j8), (9, j9), (10, j10), (11, j11), (12, j12), (13, j13), (18, j18), (22, j22), (28, j28), (32, j32), (48, j48), (52, j52), (70, j70), (74, j74), (120, j120)], [g])) (by simp) (by simp) (by exact ⟨_, _, _, _, _, _, _, _, _, _, _, _, _, _, _, rfl⟩) (by omega)
    (fun i hi hg hp s ⟨j8, j9, j11, j12, j13, j18, j22, j28, j32, j48, j52, j70, j74, j120, g, hs⟩ => by
        have hlt : (i : Int) < (ks).length := by omega
        have h0 : (0 : Int) ≤ i := by omega
        simp only [kindOk, Bool.not_eq_true', Bool.or_eq_false_iff, decide_eq_false_iff_not] at hp
        clear hL
        subst hs hF
        simp -implicitDefEqProofs only [hlt, h0, hg, hp, Int.toNat_natCast, i64_succ (show i < 2 ^ 63 - 1 by omega), EVB, STB, TF, asgn, binV, nilV, nilEq, seen, valOp, bin, ibin, resOf, resVar, sealR, seal3, seal2, flat, one, cellsOf, cellsAt, newAt, storeG, rowOf, rd, further, over, natIn, eqKinds, argEnv, slotsG, slotIx, noOwn, isRowG, keptV, ownFlat, shiftR, shift1, keepR, reloc, relocs, kept, maxP, minP, appOp, rowE, fits, oneF, sealArg, seal1, pureV, scalV, isOwn, hasOwn, bldOf, fillP, litOf, ↓reduceIte, Nat.reduceLT, Nat.reduceLeDiff, Nat.reduceAdd, Nat.reduceSub, Nat.reduceMul, Nat.reducePow, Nat.reduceEqDiff, Nat.reduceBEq, Int.reduceLE, Int.reduceLT, Int.reduceToNat, Int.reduceEq, Int.reduceNeg, reduceCtorEq]
        exact ⟨_, rfl, _, _, _, _, _, _, _, _, _, _, _, _, _, _, _, rfl⟩)
    (fun i hi hg hp _ s ⟨j8, j9, j11, j12, j13, j18, j22, j28, j32, j48, j52, j70, j74, j120, g, hs⟩ => by
        have hlt : (i : Int) < (ks).length := by omega
        have h0 : (0 : Int) ≤ i := by omega
        simp only [kindOk, Bool.not_eq_false', Bool.or_eq_true, decide_eq_true_eq] at hp
        clear hL
        subst hs hF
        simp -implicitDefEqProofs only [hlt, h0, hg, Int.toNat_natCast, i64_succ (show i < 2 ^ 63 - 1 by omega), EVB, STB, TF, asgn, binV, nilV, nilEq, seen, valOp, bin, ibin, resOf, resVar, sealR, seal3, seal2, flat, one, cellsOf, cellsAt, newAt, storeG, rowOf, rd, further, over, natIn, eqKinds, argEnv, slotsG, slotIx, noOwn, isRowG, keptV, ownFlat, shiftR, shift1, keepR, reloc, relocs, kept, maxP, minP, appOp, rowE, fits, oneF, sealArg, seal1, pureV, scalV, isOwn, hasOwn, bldOf, fillP, litOf, ↓reduceIte, Nat.reduceLT, Nat.reduceLeDiff, Nat.reduceAdd, Nat.reduceSub, Nat.reduceMul, Nat.reducePow, Nat.reduceEqDiff, Nat.reduceBEq, Int.reduceLE, Int.reduceLT, Int.reduceToNat, Int.reduceEq, Int.reduceNeg, reduceCtorEq]
        repeat' (split <;> rename_i hsp <;> (try simp -implicitDefEqProofs only [Classical.not_not] at hsp) <;> simp -implicitDefEqProofs only [hsp, hlt, h0, hg, Int.toNat_natCast, i64_succ (show i < 2 ^ 63 - 1 by omega), EVB, STB, TF, asgn, binV, nilV, nilEq, seen, valOp, bin, ibin, resOf, resVar, sealR, seal3, seal2, flat, one, cellsOf, cellsAt, newAt, storeG, rowOf, rd, further, over, natIn, eqKinds, argEnv, slotsG, slotIx, noOwn, isRowG, keptV, ownFlat, shiftR, shift1, keepR, reloc, relocs, kept, maxP, minP, appOp, rowE, fits, oneF, sealArg, seal1, pureV, scalV, isOwn, hasOwn, bldOf, fillP, litOf, ↓reduceIte, Nat.reduceLT, Nat.reduceLeDiff, Nat.reduceAdd, Nat.reduceSub, Nat.reduceMul, Nat.reducePow, Nat.reduceEqDiff, Nat.reduceBEq, Int.reduceLE, Int.reduceLT, Int.reduceToNat, Int.reduceEq, Int.reduceNeg, reduceCtorEq])
        all_goals first | (exact ⟨_, rfl, _, _, _, _, _, _, _, _, _, _, _, _, _, _, _, _, _, _, _, rfl⟩) | (exfalso; omega))
    (fun ha s ⟨j8, j9, j11, j12, j13, j18, j22, j28, j32, j48, j52, j70, j74, j120, g, hs⟩ => by
        clear hL
        subst hs hF
        simp -implicitDefEqProofs only [Int.lt_irrefl, EVB, STB, TF, asgn, binV, nilV, nilEq, seen, valOp, bin, ibin, resOf, resVar, sealR, seal3, seal2, flat, one, cellsOf, cellsAt, newAt, storeG, rowOf, rd, further, over, natIn, eqKinds, argEnv, slotsG, slotIx, noOwn, isRowG, keptV, ownFlat, shiftR, shift1, keepR, reloc, relocs, kept, maxP, minP, appOp, rowE, fits, oneF, sealArg, seal1, pureV, scalV, isOwn, hasOwn, bldOf, fillP, litOf, ↓reduceIte, Nat.reduceLT, Nat.reduceLeDiff, Nat.reduceAdd, Nat.reduceSub, Nat.reduceMul, Nat.reducePow, Nat.reduceEqDiff, Nat.reduceBEq, Int.reduceLE, Int.reduceLT, Int.reduceToNat, Int.reduceEq, Int.reduceNeg, reduceCtorEq]
        exact ⟨_, rfl, _, _, _, _, _, _, _, _, _, _, _, _, _, _, _, _, rfl⟩) with ⟨ha, s', hr, j0, j1, j2, j3, j9, j10, j11, j12, j13, j18, j22, j28, j32, j48, j52, j70, j74, j120, g, rfl⟩ | ⟨ha, s', hr, j8, j9, j10, j11, j12, j13, j18, j22, j28, j32, j48, j52, j70, j74, j120, g, rfl⟩
  · rw [hr]
    simp -implicitDefEqProofs only [ha, EVB, STB, TF, asgn, binV, nilV, nilEq, seen, valOp, bin, ibin, resOf, resVar, sealR, seal3, seal2, flat, one, cellsOf, cellsAt, newAt, storeG, rowOf, rd, further, over, natIn, eqKinds, argEnv, slotsG, slotIx, noOwn, isRowG, keptV, ownFlat, shiftR, shift1, keepR, reloc, relocs, kept, maxP, minP, appOp, rowE, fits, oneF, sealArg, seal1, pureV, scalV, isOwn, hasOwn, bldOf, fillP, litOf, ↓reduceIte, Nat.reduceLT, Nat.reduceLeDiff, Nat.reduceAdd, Nat.reduceSub, Nat.reduceMul, Nat.reducePow, Nat.reduceEqDiff, Nat.reduceBEq, Int.reduceLE, Int.reduceLT, Int.reduceToNat, Int.reduceEq, Int.reduceNeg, reduceCtorEq]
  rw [hr]
  simp -implicitDefEqProofs only [ha, ev_loop, EVB, STB, TF, asgn, binV, nilV, nilEq, seen, valOp, bin, ibin, resOf, resVar, sealR, seal3, seal2, flat, one, cellsOf, cellsAt, newAt, storeG, rowOf, rd, further, over, natIn, eqKinds, argEnv, slotsG, slotIx, noOwn, isRowG, keptV, ownFlat, shiftR, shift1, keepR, reloc, relocs, kept, maxP, minP, appOp, rowE, fits, oneF, sealArg, seal1, pureV, scalV, isOwn, hasOwn, bldOf, fillP, litOf, ↓reduceIte, Nat.reduceLT, Nat.reduceLeDiff, Nat.reduceAdd, Nat.reduceSub, Nat.reduceMul, Nat.reducePow, Nat.reduceEqDiff, Nat.reduceBEq, Int.reduceLE, Int.reduceLT, Int.reduceToNat, Int.reduceEq, Int.reduceNeg, reduceCtorEq]
  clear hL hr hF
  generalize hF : shCode _ _ _ _ _ = F
  generalize hL : shLoop F _ _ = r
  clear ha
  rcases loop_all hL (ls) (lotOk ks.length) (fun i s => ∃ j8 j9 j10 j12 j13 j18 j22 j28 j32 j48 j52 j70 j74 j120 g, s = ([(0, pKinds ks), (1, pLots ls), (2, ints perm), (3, pBoxes bs), (8, j8), (9, j9), (10, j10), (11, int i), (12, j12), (13, j13), (18, j18), (22, j22), (28, j28), (32, j32), (48, j48), (52, j52), (70, j70), (74, j74), (120, j120)], [g])) (.ret) (.ext 4)
    (fun s => ∃ j0 j1 j2 j3 j9 j10 j11 j12 j13 j18 j22 j28 j32 j48 j52 j70 j74 j120 g, s = ([(0, j0), (1, j1), (2, j2), (3, j3), (8, bool false), (9, j9), (10, j10), (11, j11), (12, j12), (13, j13), (18, j18), (22, j22), (28, j28), (32, j32), (48, j48), (52, j52), (70, j70), (74, j74), (120, j120)], [g])) (fun s => ∃ j8 j9 j10 j11 j12 j13 j18 j22 j28 j32 j48 j52 j70 j74 j120 g, s = ([(0, pKinds ks), (1, pLots ls), (2, ints perm), (3, pBoxes bs), (8, j8), (9, j9), (10, j10), (11, j11), (12, j12), (13, j13), (18, j18), (22, j22), (28, j28), (32, j32), (48, j48), (52, j52), (70, j70), (74, j74), (120, j120)], [g])) (by simp) (by simp) (by exact ⟨_, _, _, _, _, _, _, _, _, _, _, _, _, _, _, rfl⟩) (by omega)
    (fun i hi hg hp s ⟨j8, j9, j10, j12, j13, j18, j22, j28, j32, j48, j52, j70, j74, j120, g, hs⟩ => by
        have hlt : (i : Int) < (ls).length := by omega
        have h0 : (0 : Int) ≤ i := by omega
        simp only [lotOk, Bool.not_eq_true', Bool.or_eq_false_iff, decide_eq_false_iff_not] at hp
        clear hL
        subst hs hF
        simp -implicitDefEqProofs only [hlt, h0, hg, hp, Int.toNat_natCast, i64_succ (show i < 2 ^ 63 - 1 by omega), EVB, STB, TF, asgn, binV, nilV, nilEq, seen, valOp, bin, ibin, resOf, resVar, sealR, seal3, seal2, flat, one, cellsOf, cellsAt, newAt, storeG, rowOf, rd, further, over, natIn, eqKinds, argEnv, slotsG, slotIx, noOwn, isRowG, keptV, ownFlat, shiftR, shift1, keepR, reloc, relocs, kept, maxP, minP, appOp, rowE, fits, oneF, sealArg, seal1, pureV, scalV, isOwn, hasOwn, bldOf, fillP, litOf, ↓reduceIte, Nat.reduceLT, Nat.reduceLeDiff, Nat.reduceAdd, Nat.reduceSub, Nat.reduceMul, Nat.reducePow, Nat.reduceEqDiff, Nat.reduceBEq, Int.reduceLE, Int.reduceLT, Int.reduceToNat, Int.reduceEq, Int.reduceNeg, reduceCtorEq]
        exact ⟨_, rfl, _, _, _, _, _, _, _, _, _, _, _, _, _, _, _, rfl⟩)
    (fun i hi hg hp _ s ⟨j8, j9, j10, j12, j13, j18, j22, j28, j32, j48, j52, j70, j74, j120, g, hs⟩ => by
        have hlt : (i : Int) < (ls).length := by omega
        have h0 : (0 : Int) ≤ i := by omega
        simp only [lotOk, Bool.not_eq_false', Bool.or_eq_true, decide_eq_true_eq] at hp
        clear hL
        subst hs hF
        simp -implicitDefEqProofs only [hlt, h0, hg, Int.toNat_natCast, i64_succ (show i < 2 ^ 63 - 1 by omega), EVB, STB, TF, asgn, binV, nilV, nilEq, seen, valOp, bin, ibin, resOf, resVar, sealR, seal3, seal2, flat, one, cellsOf, cellsAt, newAt, storeG, rowOf, rd, further, over, natIn, eqKinds, argEnv, slotsG, slotIx, noOwn, isRowG, keptV, ownFlat, shiftR, shift1, keepR, reloc, relocs, kept, maxP, minP, appOp, rowE, fits, oneF, sealArg, seal1, pureV, scalV, isOwn, hasOwn, bldOf, fillP, litOf, ↓reduceIte, Nat.reduceLT, Nat.reduceLeDiff, Nat.reduceAdd, Nat.reduceSub, Nat.reduceMul, Nat.reducePow, Nat.reduceEqDiff, Nat.reduceBEq, Int.reduceLE, Int.reduceLT, Int.reduceToNat, Int.reduceEq, Int.reduceNeg, reduceCtorEq]
        repeat' (split <;> rename_i hsp <;> (try simp -implicitDefEqProofs only [Classical.not_not] at hsp) <;> simp -implicitDefEqProofs only [hsp, hlt, h0, hg, Int.toNat_natCast, i64_succ (show i < 2 ^ 63 - 1 by omega), EVB, STB, TF, asgn, binV, nilV, nilEq, seen, valOp, bin, ibin, resOf, resVar, sealR, seal3, seal2, flat, one, cellsOf, cellsAt, newAt, storeG, rowOf, rd, further, over, natIn, eqKinds, argEnv, slotsG, slotIx, noOwn, isRowG, keptV, ownFlat, shiftR, shift1, keepR, reloc, relocs, kept, maxP, minP, appOp, rowE, fits, oneF, sealArg, seal1, pureV, scalV, isOwn, hasOwn, bldOf, fillP, litOf, ↓reduceIte, Nat.reduceLT, Nat.reduceLeDiff, Nat.reduceAdd, Nat.reduceSub, Nat.reduceMul, Nat.reducePow, Nat.reduceEqDiff, Nat.reduceBEq, Int.reduceLE, Int.reduceLT, Int.reduceToNat, Int.reduceEq, Int.reduceNeg, reduceCtorEq])
        all_goals first | (exact ⟨_, rfl, _, _, _, _, _, _, _, _, _, _, _, _, _, _, _, _, _, _, _, rfl⟩) | (exfalso; omega))
    (fun ha s ⟨j8, j9, j10, j12, j13, j18, j22, j28, j32, j48, j52, j70, j74, j120, g, hs⟩ => by
        clear hL
        subst hs hF
        simp -implicitDefEqProofs only [Int.lt_irrefl, EVB, STB, TF, asgn, binV, nilV, nilEq, seen, valOp, bin, ibin, resOf, resVar, sealR, seal3, seal2, flat, one, cellsOf, cellsAt, newAt, storeG, rowOf, rd, further, over, natIn, eqKinds, argEnv, slotsG, slotIx, noOwn, isRowG, keptV, ownFlat, shiftR, shift1, keepR, reloc, relocs, kept, maxP, minP, appOp, rowE, fits, oneF, sealArg, seal1, pureV, scalV, isOwn, hasOwn, bldOf, fillP, litOf, ↓reduceIte, Nat.reduceLT, Nat.reduceLeDiff, Nat.reduceAdd, Nat.reduceSub, Nat.reduceMul, Nat.reducePow, Nat.reduceEqDiff, Nat.reduceBEq, Int.reduceLE, Int.reduceLT, Int.reduceToNat, Int.reduceEq, Int.reduceNeg, reduceCtorEq]
        exact ⟨_, rfl, _, _, _, _, _, _, _, _, _, _, _, _, _, _, _, _, rfl⟩) with ⟨ha, s', hr, j0, j1, j2, j3, j9, j10, j11, j12, j13, j18, j22, j28, j32, j48, j52, j70, j74, j120, g, rfl⟩ | ⟨ha, s', hr, j8, j9, j10, j11, j12, j13, j18, j22, j28, j32, j48, j52, j70, j74, j120, g, rfl⟩
  · rw [hr]
    simp -implicitDefEqProofs only [ha, EVB, STB, TF, asgn, binV, nilV, nilEq, seen, valOp, bin, ibin, resOf, resVar, sealR, seal3, seal2, flat, one, cellsOf, cellsAt, newAt, storeG, rowOf, rd, further, over, natIn, eqKinds, argEnv, slotsG, slotIx, noOwn, isRowG, keptV, ownFlat, shiftR, shift1, keepR, reloc, relocs, kept, maxP, minP, appOp, rowE, fits, oneF, sealArg, seal1, pureV, scalV, isOwn, hasOwn, bldOf, fillP, litOf, ↓reduceIte, Nat.reduceLT, Nat.reduceLeDiff, Nat.reduceAdd, Nat.reduceSub, Nat.reduceMul, Nat.reducePow, Nat.reduceEqDiff, Nat.reduceBEq, Int.reduceLE, Int.reduceLT, Int.reduceToNat, Int.reduceEq, Int.reduceNeg, reduceCtorEq]
  rw [hr]
  simp -implicitDefEqProofs only [ha, ev_loop, EVB, STB, TF, asgn, binV, nilV, nilEq, seen, valOp, bin, ibin, resOf, resVar, sealR, seal3, seal2, flat, one, cellsOf, cellsAt, newAt, storeG, rowOf, rd, further, over, natIn, eqKinds, argEnv, slotsG, slotIx, noOwn, isRowG, keptV, ownFlat, shiftR, shift1, keepR, reloc, relocs, kept, maxP, minP, appOp, rowE, fits, oneF, sealArg, seal1, pureV, scalV, isOwn, hasOwn, bldOf, fillP, litOf, ↓reduceIte, Nat.reduceLT, Nat.reduceLeDiff, Nat.reduceAdd, Nat.reduceSub, Nat.reduceMul, Nat.reducePow, Nat.reduceEqDiff, Nat.reduceBEq, Int.reduceLE, Int.reduceLT, Int.reduceToNat, Int.reduceEq, Int.reduceNeg, reduceCtorEq]
  clear hL hr hF
  generalize hF : shCode _ _ _ _ _ = F
  generalize hL : shLoop F _ _ = r
  clear ha
  rcases loop_all hL (bs) (boxOk ls.length) (fun i s => ∃ j8 j9 j10 j11 j13 j18 j22 j28 j32 j48 j52 j70 j74 j120 g, s = ([(0, pKinds ks), (1, pLots ls), (2, ints perm), (3, pBoxes bs), (8, j8), (9, j9), (10, j10), (11, j11), (12, int i), (13, j13), (18, j18), (22, j22), (28, j28), (32, j32), (48, j48), (52, j52), (70, j70), (74, j74), (120, j120)], [g])) (.ret) (.ext 6)
    (fun s => ∃ j0 j1 j2 j3 j9 j10 j11 j12 j13 j18 j22 j28 j32 j48 j52 j70 j74 j120 g, s = ([(0, j0), (1, j1), (2, j2), (3, j3), (8, bool false), (9, j9), (10, j10), (11, j11), (12, j12), (13, j13), (18, j18), (22, j22), (28, j28), (32, j32), (48, j48), (52, j52), (70, j70), (74, j74), (120, j120)], [g])) (fun s => ∃ j8 j9 j10 j11 j12 j13 j18 j22 j28 j32 j48 j52 j70 j74 j120 g, s = ([(0, pKinds ks), (1, pLots ls), (2, ints perm), (3, pBoxes bs), (8, j8), (9, j9), (10, j10), (11, j11), (12, j12), (13, j13), (18, j18), (22, j22), (28, j28), (32, j32), (48, j48), (52, j52), (70, j70), (74, j74), (120, j120)], [g])) (by simp) (by simp) (by exact ⟨_, _, _, _, _, _, _, _, _, _, _, _, _, _, _, rfl⟩) (by omega)
    (fun i hi hg hp s ⟨j8, j9, j10, j11, j13, j18, j22, j28, j32, j48, j52, j70, j74, j120, g, hs⟩ => by
        have hlt : (i : Int) < (bs).length := by omega
        have h0 : (0 : Int) ≤ i := by omega
        simp only [boxOk, Bool.not_eq_true', Bool.or_eq_false_iff, Bool.and_eq_false_iff, Bool.not_eq_false', decide_eq_true_eq, decide_eq_false_iff_not] at hp
        clear hL
        subst hs hF
        simp -implicitDefEqProofs only [hlt, h0, hg, Int.toNat_natCast, i64_succ (show i < 2 ^ 63 - 1 by omega), EVB, STB, TF, asgn, binV, nilV, nilEq, seen, valOp, bin, ibin, resOf, resVar, sealR, seal3, seal2, flat, one, cellsOf, cellsAt, newAt, storeG, rowOf, rd, further, over, natIn, eqKinds, argEnv, slotsG, slotIx, noOwn, isRowG, keptV, ownFlat, shiftR, shift1, keepR, reloc, relocs, kept, maxP, minP, appOp, rowE, fits, oneF, sealArg, seal1, pureV, scalV, isOwn, hasOwn, bldOf, fillP, litOf, ↓reduceIte, Nat.reduceLT, Nat.reduceLeDiff, Nat.reduceAdd, Nat.reduceSub, Nat.reduceMul, Nat.reducePow, Nat.reduceEqDiff, Nat.reduceBEq, Int.reduceLE, Int.reduceLT, Int.reduceToNat, Int.reduceEq, Int.reduceNeg, reduceCtorEq]
        repeat' (split <;> rename_i hsp <;> (try simp -implicitDefEqProofs only [Classical.not_not] at hsp) <;> simp -implicitDefEqProofs only [hsp, hlt, h0, hg, Int.toNat_natCast, i64_succ (show i < 2 ^ 63 - 1 by omega), EVB, STB, TF, asgn, binV, nilV, nilEq, seen, valOp, bin, ibin, resOf, resVar, sealR, seal3, seal2, flat, one, cellsOf, cellsAt, newAt, storeG, rowOf, rd, further, over, natIn, eqKinds, argEnv, slotsG, slotIx, noOwn, isRowG, keptV, ownFlat, shiftR, shift1, keepR, reloc, relocs, kept, maxP, minP, appOp, rowE, fits, oneF, sealArg, seal1, pureV, scalV, isOwn, hasOwn, bldOf, fillP, litOf, ↓reduceIte, Nat.reduceLT, Nat.reduceLeDiff, Nat.reduceAdd, Nat.reduceSub, Nat.reduceMul, Nat.reducePow, Nat.reduceEqDiff, Nat.reduceBEq, Int.reduceLE, Int.reduceLT, Int.reduceToNat, Int.reduceEq, Int.reduceNeg, reduceCtorEq])
        all_goals first | (exact ⟨_, rfl, _, _, _, _, _, _, _, _, _, _, _, _, _, _, _, rfl⟩) | (exfalso; omega))
    (fun i hi hg hp _ s ⟨j8, j9, j10, j11, j13, j18, j22, j28, j32, j48, j52, j70, j74, j120, g, hs⟩ => by
        have hlt : (i : Int) < (bs).length := by omega
        have h0 : (0 : Int) ≤ i := by omega
        simp only [boxOk, Bool.not_eq_false', Bool.or_eq_true, Bool.and_eq_true, Bool.not_eq_true', decide_eq_false_iff_not, decide_eq_true_eq] at hp
        clear hL
        subst hs hF
        simp -implicitDefEqProofs only [hlt, h0, hg, Int.toNat_natCast, i64_succ (show i < 2 ^ 63 - 1 by omega), EVB, STB, TF, asgn, binV, nilV, nilEq, seen, valOp, bin, ibin, resOf, resVar, sealR, seal3, seal2, flat, one, cellsOf, cellsAt, newAt, storeG, rowOf, rd, further, over, natIn, eqKinds, argEnv, slotsG, slotIx, noOwn, isRowG, keptV, ownFlat, shiftR, shift1, keepR, reloc, relocs, kept, maxP, minP, appOp, rowE, fits, oneF, sealArg, seal1, pureV, scalV, isOwn, hasOwn, bldOf, fillP, litOf, ↓reduceIte, Nat.reduceLT, Nat.reduceLeDiff, Nat.reduceAdd, Nat.reduceSub, Nat.reduceMul, Nat.reducePow, Nat.reduceEqDiff, Nat.reduceBEq, Int.reduceLE, Int.reduceLT, Int.reduceToNat, Int.reduceEq, Int.reduceNeg, reduceCtorEq]
        repeat' (split <;> rename_i hsp <;> (try simp -implicitDefEqProofs only [Classical.not_not] at hsp) <;> simp -implicitDefEqProofs only [hsp, hlt, h0, hg, Int.toNat_natCast, i64_succ (show i < 2 ^ 63 - 1 by omega), EVB, STB, TF, asgn, binV, nilV, nilEq, seen, valOp, bin, ibin, resOf, resVar, sealR, seal3, seal2, flat, one, cellsOf, cellsAt, newAt, storeG, rowOf, rd, further, over, natIn, eqKinds, argEnv, slotsG, slotIx, noOwn, isRowG, keptV, ownFlat, shiftR, shift1, keepR, reloc, relocs, kept, maxP, minP, appOp, rowE, fits, oneF, sealArg, seal1, pureV, scalV, isOwn, hasOwn, bldOf, fillP, litOf, ↓reduceIte, Nat.reduceLT, Nat.reduceLeDiff, Nat.reduceAdd, Nat.reduceSub, Nat.reduceMul, Nat.reducePow, Nat.reduceEqDiff, Nat.reduceBEq, Int.reduceLE, Int.reduceLT, Int.reduceToNat, Int.reduceEq, Int.reduceNeg, reduceCtorEq])
        all_goals first | (exact ⟨_, rfl, _, _, _, _, _, _, _, _, _, _, _, _, _, _, _, _, _, _, _, rfl⟩) | (exfalso; omega))
    (fun ha s ⟨j8, j9, j10, j11, j13, j18, j22, j28, j32, j48, j52, j70, j74, j120, g, hs⟩ => by
        clear hL
        subst hs hF
        simp -implicitDefEqProofs only [Int.lt_irrefl, EVB, STB, TF, asgn, binV, nilV, nilEq, seen, valOp, bin, ibin, resOf, resVar, sealR, seal3, seal2, flat, one, cellsOf, cellsAt, newAt, storeG, rowOf, rd, further, over, natIn, eqKinds, argEnv, slotsG, slotIx, noOwn, isRowG, keptV, ownFlat, shiftR, shift1, keepR, reloc, relocs, kept, maxP, minP, appOp, rowE, fits, oneF, sealArg, seal1, pureV, scalV, isOwn, hasOwn, bldOf, fillP, litOf, ↓reduceIte, Nat.reduceLT, Nat.reduceLeDiff, Nat.reduceAdd, Nat.reduceSub, Nat.reduceMul, Nat.reducePow, Nat.reduceEqDiff, Nat.reduceBEq, Int.reduceLE, Int.reduceLT, Int.reduceToNat, Int.reduceEq, Int.reduceNeg, reduceCtorEq]
        exact ⟨_, rfl, _, _, _, _, _, _, _, _, _, _, _, _, _, _, _, _, rfl⟩) with ⟨ha, s', hr, j0, j1, j2, j3, j9, j10, j11, j12, j13, j18, j22, j28, j32, j48, j52, j70, j74, j120, g, rfl⟩ | ⟨ha, s', hr, j8, j9, j10, j11, j12, j13, j18, j22, j28, j32, j48, j52, j70, j74, j120, g, rfl⟩
  · rw [hr]
    simp -implicitDefEqProofs only [ha, EVB, STB, TF, asgn, binV, nilV, nilEq, seen, valOp, bin, ibin, resOf, resVar, sealR, seal3, seal2, flat, one, cellsOf, cellsAt, newAt, storeG, rowOf, rd, further, over, natIn, eqKinds, argEnv, slotsG, slotIx, noOwn, isRowG, keptV, ownFlat, shiftR, shift1, keepR, reloc, relocs, kept, maxP, minP, appOp, rowE, fits, oneF, sealArg, seal1, pureV, scalV, isOwn, hasOwn, bldOf, fillP, litOf, ↓reduceIte, Nat.reduceLT, Nat.reduceLeDiff, Nat.reduceAdd, Nat.reduceSub, Nat.reduceMul, Nat.reducePow, Nat.reduceEqDiff, Nat.reduceBEq, Int.reduceLE, Int.reduceLT, Int.reduceToNat, Int.reduceEq, Int.reduceNeg, reduceCtorEq]
  rw [hr]
  simp -implicitDefEqProofs only [ha, EVB, STB, TF, asgn, binV, nilV, nilEq, seen, valOp, bin, ibin, resOf, resVar, sealR, seal3, seal2, flat, one, cellsOf, cellsAt, newAt, storeG, rowOf, rd, further, over, natIn, eqKinds, argEnv, slotsG, slotIx, noOwn, isRowG, keptV, ownFlat, shiftR, shift1, keepR, reloc, relocs, kept, maxP, minP, appOp, rowE, fits, oneF, sealArg, seal1, pureV, scalV, isOwn, hasOwn, bldOf, fillP, litOf, ↓reduceIte, Nat.reduceLT, Nat.reduceLeDiff, Nat.reduceAdd, Nat.reduceSub, Nat.reduceMul, Nat.reducePow, Nat.reduceEqDiff, Nat.reduceBEq, Int.reduceLE, Int.reduceLT, Int.reduceToNat, Int.reduceEq, Int.reduceNeg, reduceCtorEq]
def fitsB (x : GStore) (c : GSenses) (most : Int) : Bool :=
  decide (1 ≤ (x.perm.length : Int)) && decide ((x.perm.length : Int) ≤ most) && decide ((x.boxes.length : Int) ≤ most) && decide ((x.kinds.length : Int) ≤ 10) && decide ((x.lots.length : Int) ≤ 10) && c.ok && truthB x.kinds x.lots x.perm x.boxes
theorem fits_sh (d : Nat) (x : GStore) (c : GSenses) (most : Int) (hm : most < 2 ^ 63) : shFn (X ext0) (d + 3) 7 [x.enc, c.enc, int most] [] = some (bool (fitsB x c most), []) := by
  rw [enter7 rfl _ _ _ (by simp)]
  unfold fitsB
  by_cases h1 : 1 ≤ (x.perm.length : Int)
  case neg => simp -implicitDefEqProofs only [c7, Try.f7, h1, EVB, STB, TF, asgn, binV, nilV, nilEq, seen, valOp, bin, ibin, resOf, resVar, sealR, seal3, seal2, flat, one, cellsOf, cellsAt, newAt, storeG, rowOf, rd, further, over, natIn, eqKinds, argEnv, slotsG, slotIx, noOwn, isRowG, keptV, ownFlat, shiftR, shift1, keepR, reloc, relocs, kept, maxP, minP, appOp, rowE, fits, oneF, sealArg, seal1, pureV, scalV, isOwn, hasOwn, bldOf, fillP, litOf, ↓reduceIte, Nat.reduceLT, Nat.reduceLeDiff, Nat.reduceAdd, Nat.reduceSub, Nat.reduceMul, Nat.reducePow, Nat.reduceEqDiff, Nat.reduceBEq, Int.reduceLE, Int.reduceLT, Int.reduceToNat, Int.reduceEq, Int.reduceNeg, reduceCtorEq]
  by_cases h2 : (x.perm.length : Int) ≤ most
  case neg => simp -implicitDefEqProofs only [c7, Try.f7, h1, h2, EVB, STB, TF, asgn, binV, nilV, nilEq, seen, valOp, bin, ibin, resOf, resVar, sealR, seal3, seal2, flat, one, cellsOf, cellsAt, newAt, storeG, rowOf, rd, further, over, natIn, eqKinds, argEnv, slotsG, slotIx, noOwn, isRowG, keptV, ownFlat, shiftR, shift1, keepR, reloc, relocs, kept, maxP, minP, appOp, rowE, fits, oneF, sealArg, seal1, pureV, scalV, isOwn, hasOwn, bldOf, fillP, litOf, ↓reduceIte, Nat.reduceLT, Nat.reduceLeDiff, Nat.reduceAdd, Nat.reduceSub, Nat.reduceMul, Nat.reducePow, Nat.reduceEqDiff, Nat.reduceBEq, Int.reduceLE, Int.reduceLT, Int.reduceToNat, Int.reduceEq, Int.reduceNeg, reduceCtorEq]
  by_cases h3 : (x.boxes.length : Int) ≤ most
  case neg => simp -implicitDefEqProofs only [c7, Try.f7, h1, h2, h3, EVB, STB, TF, asgn, binV, nilV, nilEq, seen, valOp, bin, ibin, resOf, resVar, sealR, seal3, seal2, flat, one, cellsOf, cellsAt, newAt, storeG, rowOf, rd, further, over, natIn, eqKinds, argEnv, slotsG, slotIx, noOwn, isRowG, keptV, ownFlat, shiftR, shift1, keepR, reloc, relocs, kept, maxP, minP, appOp, rowE, fits, oneF, sealArg, seal1, pureV, scalV, isOwn, hasOwn, bldOf, fillP, litOf, ↓reduceIte, Nat.reduceLT, Nat.reduceLeDiff, Nat.reduceAdd, Nat.reduceSub, Nat.reduceMul, Nat.reducePow, Nat.reduceEqDiff, Nat.reduceBEq, Int.reduceLE, Int.reduceLT, Int.reduceToNat, Int.reduceEq, Int.reduceNeg, reduceCtorEq]
  by_cases h4 : (x.kinds.length : Int) ≤ 10
  case neg => simp -implicitDefEqProofs only [c7, Try.f7, h1, h2, h3, h4, EVB, STB, TF, asgn, binV, nilV, nilEq, seen, valOp, bin, ibin, resOf, resVar, sealR, seal3, seal2, flat, one, cellsOf, cellsAt, newAt, storeG, rowOf, rd, further, over, natIn, eqKinds, argEnv, slotsG, slotIx, noOwn, isRowG, keptV, ownFlat, shiftR, shift1, keepR, reloc, relocs, kept, maxP, minP, appOp, rowE, fits, oneF, sealArg, seal1, pureV, scalV, isOwn, hasOwn, bldOf, fillP, litOf, ↓reduceIte, Nat.reduceLT, Nat.reduceLeDiff, Nat.reduceAdd, Nat.reduceSub, Nat.reduceMul, Nat.reducePow, Nat.reduceEqDiff, Nat.reduceBEq, Int.reduceLE, Int.reduceLT, Int.reduceToNat, Int.reduceEq, Int.reduceNeg, reduceCtorEq]
  by_cases h5 : (x.lots.length : Int) ≤ 10
  case neg => simp -implicitDefEqProofs only [c7, Try.f7, h1, h2, h3, h4, h5, EVB, STB, TF, asgn, binV, nilV, nilEq, seen, valOp, bin, ibin, resOf, resVar, sealR, seal3, seal2, flat, one, cellsOf, cellsAt, newAt, storeG, rowOf, rd, further, over, natIn, eqKinds, argEnv, slotsG, slotIx, noOwn, isRowG, keptV, ownFlat, shiftR, shift1, keepR, reloc, relocs, kept, maxP, minP, appOp, rowE, fits, oneF, sealArg, seal1, pureV, scalV, isOwn, hasOwn, bldOf, fillP, litOf, ↓reduceIte, Nat.reduceLT, Nat.reduceLeDiff, Nat.reduceAdd, Nat.reduceSub, Nat.reduceMul, Nat.reducePow, Nat.reduceEqDiff, Nat.reduceBEq, Int.reduceLE, Int.reduceLT, Int.reduceToNat, Int.reduceEq, Int.reduceNeg, reduceCtorEq]
  have h6 := senses_sh (d + 1) c
  have h7 := truth_sh d x.kinds x.lots x.perm x.boxes (by omega) (by omega) (by omega) (by omega)
  cases h8 : c.ok <;> rw [h8] at h6 <;> simp -implicitDefEqProofs only [c7, Try.f7, h1, h2, h3, h4, h5, h6, h7, EVB, STB, TF, asgn, binV, nilV, nilEq, seen, valOp, bin, ibin, resOf, resVar, sealR, seal3, seal2, flat, one, cellsOf, cellsAt, newAt, storeG, rowOf, rd, further, over, natIn, eqKinds, argEnv, slotsG, slotIx, noOwn, isRowG, keptV, ownFlat, shiftR, shift1, keepR, reloc, relocs, kept, maxP, minP, appOp, rowE, fits, oneF, sealArg, seal1, pureV, scalV, isOwn, hasOwn, bldOf, fillP, litOf, ↓reduceIte, Nat.reduceLT, Nat.reduceLeDiff, Nat.reduceAdd, Nat.reduceSub, Nat.reduceMul, Nat.reducePow, Nat.reduceEqDiff, Nat.reduceBEq, Int.reduceLE, Int.reduceLT, Int.reduceToNat, Int.reduceEq, Int.reduceNeg, reduceCtorEq]
theorem ascends_sh (d : Nat) (l : List Int) (n : Int) (hl : l.length < 2 ^ 63) : shFn (X ext0) (d + 2) 17 [ints l, int n] [] = some (bool (ascB l n), []) := by
  rw [enter17 rfl _ _ _ (by simp)]
  unfold ascB
  simp -implicitDefEqProofs only [c17, Try.f17, ev_loop, EVB, STB, TF, asgn, binV, nilV, nilEq, seen, valOp, bin, ibin, resOf, resVar, sealR, seal3, seal2, flat, one, cellsOf, cellsAt, newAt, storeG, rowOf, rd, further, over, natIn, eqKinds, argEnv, slotsG, slotIx, noOwn, isRowG, keptV, ownFlat, shiftR, shift1, keepR, reloc, relocs, kept, maxP, minP, appOp, rowE, fits, oneF, sealArg, seal1, pureV, scalV, isOwn, hasOwn, bldOf, fillP, litOf, ↓reduceIte, Nat.reduceLT, Nat.reduceLeDiff, Nat.reduceAdd, Nat.reduceSub, Nat.reduceMul, Nat.reducePow, Nat.reduceEqDiff, Nat.reduceBEq, Int.reduceLE, Int.reduceLT, Int.reduceToNat, Int.reduceEq, Int.reduceNeg, reduceCtorEq]
  generalize hF : shCode _ _ _ _ _ = F
  generalize hL : shLoop F _ _ = r
  rcases loop_all hL (List.range l.length) (fun i => ascAt l n i) (fun i s => ∃ j4 j5 j6 j10 j31, s = ([(0, ints l), (1, int n), (4, j4), (5, j5), (6, j6), (7, ints l), (8, int l.length), (9, int i), (10, j10), (31, j31)], [])) (.ret) (.ext 0)
    (fun s => ∃ j0 j1 j5 j6 j7 j8 j9 j10 j31, s = ([(0, j0), (1, j1), (4, bool false), (5, j5), (6, j6), (7, j7), (8, j8), (9, j9), (10, j10), (31, j31)], [])) (fun s => ∃ j0 j1 j4 j5 j6 j7 j8 j9 j10 j31, s = ([(0, j0), (1, j1), (4, j4), (5, j5), (6, j6), (7, j7), (8, j8), (9, j9), (10, j10), (31, j31)], [])) (by simp) (by simp) (by exact ⟨_, _, _, _, _, rfl⟩) (by simp only [List.length_range]; omega)
    (fun i hi hg hp s ⟨j4, j5, j6, j10, j31, hs⟩ => by
        have hlt : (i : Int) < (List.range l.length).length := by omega
        have h0 : (0 : Int) ≤ i := by omega
        simp only [List.length_range] at hi hlt
        simp only [List.getElem_range] at hp hg
        have hi1 : IntKind.i64.wrap ((i : Int) - 1) = (i : Int) - 1 := i64_id (by omega) (by omega)
        have hgi : l[i]? = some l[i] := List.getElem?_eq_getElem hi
        have hgj : l[i - 1]? = some l[i - 1] := List.getElem?_eq_getElem (by omega)
        have e1 : ((i : Int) - 1).toNat = i - 1 := by omega
        have e2 : (i : Int) - 1 < l.length := by omega
        have e3 : (0 ≤ (i : Int) - 1) = (0 < i) := propext (by omega)
        simp only [ascAt, List.getD_eq_getElem?_getD, hgi, hgj, Option.getD_some] at hp
        clear hL
        subst hs hF
        simp -implicitDefEqProofs only [hlt, h0, hg, hi1, hgi, hgj, e1, e2, e3, within_sh, Int.natCast_pos, Int.toNat_natCast, i64_succ (show i < 2 ^ 63 - 1 by omega), EVB, STB, TF, asgn, binV, nilV, nilEq, seen, valOp, bin, ibin, resOf, resVar, sealR, seal3, seal2, flat, one, cellsOf, cellsAt, newAt, storeG, rowOf, rd, further, over, natIn, eqKinds, argEnv, slotsG, slotIx, noOwn, isRowG, keptV, ownFlat, shiftR, shift1, keepR, reloc, relocs, kept, maxP, minP, appOp, rowE, fits, oneF, sealArg, seal1, pureV, scalV, isOwn, hasOwn, bldOf, fillP, litOf, ↓reduceIte, Nat.reduceLT, Nat.reduceLeDiff, Nat.reduceAdd, Nat.reduceSub, Nat.reduceMul, Nat.reducePow, Nat.reduceEqDiff, Nat.reduceBEq, Int.reduceLE, Int.reduceLT, Int.reduceToNat, Int.reduceEq, Int.reduceNeg, reduceCtorEq]
        repeat' (split <;> rename_i hsp <;> (try simp -implicitDefEqProofs only [Classical.not_not] at hsp) <;> simp -implicitDefEqProofs only [hsp, hlt, h0, hg, hi1, hgi, hgj, e1, e2, e3, within_sh, Int.natCast_pos, Int.toNat_natCast, i64_succ (show i < 2 ^ 63 - 1 by omega), EVB, STB, TF, asgn, binV, nilV, nilEq, seen, valOp, bin, ibin, resOf, resVar, sealR, seal3, seal2, flat, one, cellsOf, cellsAt, newAt, storeG, rowOf, rd, further, over, natIn, eqKinds, argEnv, slotsG, slotIx, noOwn, isRowG, keptV, ownFlat, shiftR, shift1, keepR, reloc, relocs, kept, maxP, minP, appOp, rowE, fits, oneF, sealArg, seal1, pureV, scalV, isOwn, hasOwn, bldOf, fillP, litOf, ↓reduceIte, Nat.reduceLT, Nat.reduceLeDiff, Nat.reduceAdd, Nat.reduceSub, Nat.reduceMul, Nat.reducePow, Nat.reduceEqDiff, Nat.reduceBEq, Int.reduceLE, Int.reduceLT, Int.reduceToNat, Int.reduceEq, Int.reduceNeg, reduceCtorEq])
        all_goals first | (exact ⟨_, rfl, _, _, _, _, _, rfl⟩) | (exfalso; simp_all; try omega))
    (fun i hi hg hp _ s ⟨j4, j5, j6, j10, j31, hs⟩ => by
        have hlt : (i : Int) < (List.range l.length).length := by omega
        have h0 : (0 : Int) ≤ i := by omega
        simp only [List.length_range] at hi hlt
        simp only [List.getElem_range] at hp hg
        have hi1 : IntKind.i64.wrap ((i : Int) - 1) = (i : Int) - 1 := i64_id (by omega) (by omega)
        have hgi : l[i]? = some l[i] := List.getElem?_eq_getElem hi
        have hgj : l[i - 1]? = some l[i - 1] := List.getElem?_eq_getElem (by omega)
        have e1 : ((i : Int) - 1).toNat = i - 1 := by omega
        have e2 : (i : Int) - 1 < l.length := by omega
        have e3 : (0 ≤ (i : Int) - 1) = (0 < i) := propext (by omega)
        simp only [ascAt, List.getD_eq_getElem?_getD, hgi, hgj, Option.getD_some] at hp
        clear hL
        subst hs hF
        simp -implicitDefEqProofs only [hlt, h0, hg, hi1, hgi, hgj, e1, e2, e3, within_sh, Int.natCast_pos, Int.toNat_natCast, i64_succ (show i < 2 ^ 63 - 1 by omega), EVB, STB, TF, asgn, binV, nilV, nilEq, seen, valOp, bin, ibin, resOf, resVar, sealR, seal3, seal2, flat, one, cellsOf, cellsAt, newAt, storeG, rowOf, rd, further, over, natIn, eqKinds, argEnv, slotsG, slotIx, noOwn, isRowG, keptV, ownFlat, shiftR, shift1, keepR, reloc, relocs, kept, maxP, minP, appOp, rowE, fits, oneF, sealArg, seal1, pureV, scalV, isOwn, hasOwn, bldOf, fillP, litOf, ↓reduceIte, Nat.reduceLT, Nat.reduceLeDiff, Nat.reduceAdd, Nat.reduceSub, Nat.reduceMul, Nat.reducePow, Nat.reduceEqDiff, Nat.reduceBEq, Int.reduceLE, Int.reduceLT, Int.reduceToNat, Int.reduceEq, Int.reduceNeg, reduceCtorEq]
        repeat' (split <;> rename_i hsp <;> (try simp -implicitDefEqProofs only [Classical.not_not] at hsp) <;> simp -implicitDefEqProofs only [hsp, hlt, h0, hg, hi1, hgi, hgj, e1, e2, e3, within_sh, Int.natCast_pos, Int.toNat_natCast, i64_succ (show i < 2 ^ 63 - 1 by omega), EVB, STB, TF, asgn, binV, nilV, nilEq, seen, valOp, bin, ibin, resOf, resVar, sealR, seal3, seal2, flat, one, cellsOf, cellsAt, newAt, storeG, rowOf, rd, further, over, natIn, eqKinds, argEnv, slotsG, slotIx, noOwn, isRowG, keptV, ownFlat, shiftR, shift1, keepR, reloc, relocs, kept, maxP, minP, appOp, rowE, fits, oneF, sealArg, seal1, pureV, scalV, isOwn, hasOwn, bldOf, fillP, litOf, ↓reduceIte, Nat.reduceLT, Nat.reduceLeDiff, Nat.reduceAdd, Nat.reduceSub, Nat.reduceMul, Nat.reducePow, Nat.reduceEqDiff, Nat.reduceBEq, Int.reduceLE, Int.reduceLT, Int.reduceToNat, Int.reduceEq, Int.reduceNeg, reduceCtorEq])
        all_goals first | (exact ⟨_, rfl, _, _, _, _, _, _, _, _, _, rfl⟩) | (exfalso; simp_all; try omega))
    (fun ha s ⟨j4, j5, j6, j10, j31, hs⟩ => by
        clear hL
        subst hs hF
        simp -implicitDefEqProofs only [Int.lt_irrefl, List.length_range, EVB, STB, TF, asgn, binV, nilV, nilEq, seen, valOp, bin, ibin, resOf, resVar, sealR, seal3, seal2, flat, one, cellsOf, cellsAt, newAt, storeG, rowOf, rd, further, over, natIn, eqKinds, argEnv, slotsG, slotIx, noOwn, isRowG, keptV, ownFlat, shiftR, shift1, keepR, reloc, relocs, kept, maxP, minP, appOp, rowE, fits, oneF, sealArg, seal1, pureV, scalV, isOwn, hasOwn, bldOf, fillP, litOf, ↓reduceIte, Nat.reduceLT, Nat.reduceLeDiff, Nat.reduceAdd, Nat.reduceSub, Nat.reduceMul, Nat.reducePow, Nat.reduceEqDiff, Nat.reduceBEq, Int.reduceLE, Int.reduceLT, Int.reduceToNat, Int.reduceEq, Int.reduceNeg, reduceCtorEq]
        exact ⟨_, rfl, _, _, _, _, _, _, _, _, _, _, rfl⟩) with ⟨ha, s', hr, j0, j1, j5, j6, j7, j8, j9, j10, j31, rfl⟩ | ⟨ha, s', hr, j0, j1, j4, j5, j6, j7, j8, j9, j10, j31, rfl⟩
  · rw [hr]
    simp -implicitDefEqProofs only [ha, EVB, STB, TF, asgn, binV, nilV, nilEq, seen, valOp, bin, ibin, resOf, resVar, sealR, seal3, seal2, flat, one, cellsOf, cellsAt, newAt, storeG, rowOf, rd, further, over, natIn, eqKinds, argEnv, slotsG, slotIx, noOwn, isRowG, keptV, ownFlat, shiftR, shift1, keepR, reloc, relocs, kept, maxP, minP, appOp, rowE, fits, oneF, sealArg, seal1, pureV, scalV, isOwn, hasOwn, bldOf, fillP, litOf, ↓reduceIte, Nat.reduceLT, Nat.reduceLeDiff, Nat.reduceAdd, Nat.reduceSub, Nat.reduceMul, Nat.reducePow, Nat.reduceEqDiff, Nat.reduceBEq, Int.reduceLE, Int.reduceLT, Int.reduceToNat, Int.reduceEq, Int.reduceNeg, reduceCtorEq]
  · rw [hr]
    simp -implicitDefEqProofs only [ha, EVB, STB, TF, asgn, binV, nilV, nilEq, seen, valOp, bin, ibin, resOf, resVar, sealR, seal3, seal2, flat, one, cellsOf, cellsAt, newAt, storeG, rowOf, rd, further, over, natIn, eqKinds, argEnv, slotsG, slotIx, noOwn, isRowG, keptV, ownFlat, shiftR, shift1, keepR, reloc, relocs, kept, maxP, minP, appOp, rowE, fits, oneF, sealArg, seal1, pureV, scalV, isOwn, hasOwn, bldOf, fillP, litOf, ↓reduceIte, Nat.reduceLT, Nat.reduceLeDiff, Nat.reduceAdd, Nat.reduceSub, Nat.reduceMul, Nat.reducePow, Nat.reduceEqDiff, Nat.reduceBEq, Int.reduceLE, Int.reduceLT, Int.reduceToNat, Int.reduceEq, Int.reduceNeg, reduceCtorEq]
theorem small_sh : shFn (X ext0) 12 6 [] [] = some (bool true, []) := by kernel_rfl
end Go.Proofs.Ythmlfonbfnmalaa.Sh
