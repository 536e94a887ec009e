/- SightAfter by the shadow run. No condition. -/
import Derived.Test.YthmlfonbfnmalaaLF
namespace Go.Proofs.Ythmlfonbfnmalaa.Sh
open Go.RowKit
set_option maxRecDepth 100000
set_option maxHeartbeats 8000000
set_option linter.unusedSimpArgs false
set_option linter.unusedVariables false
theorem perm_nodup {x : GStore} {c : GSenses} {m : Int} (R : RightStore x c m) : x.perm.Nodup := by
  have h1 := perm_of_sub (range_nodup x.perm.length) (M := x.perm) (fun y hy => by
    obtain ⟨i, hi, rfl⟩ := List.mem_map.1 hy
    exact R.all i (List.mem_range.1 hi)) (by simp)
  exact h1.nodup_iff.1 (range_nodup _)
theorem afterP_perm (perm : List Int) (s : GSight) (done : Int) (h : s.kind = 4 → 0 ≤ s.a ∧ s.a < perm.length ∧ 0 ≤ s.b ∧ s.b < perm.length) : (afterP perm s done).Perm perm := by
  unfold afterP
  split
  · rename_i hk
    obtain ⟨h1, h2, h3, h4⟩ := h hk.1
    have ha : s.a.toNat < perm.length := by omega
    have hb : s.b.toNat < perm.length := by omega
    simp only [List.getD_eq_getElem?_getD, List.getElem?_eq_getElem ha, List.getElem?_eq_getElem hb, Option.getD_some]
    exact List.set_set_perm ha hb
  · exact .refl _
theorem afterP_get (perm : List Int) (s : GSight) (done : Int) (h : s.kind = 4 → 0 ≤ s.a ∧ s.a < s.b ∧ s.b < perm.length) (i : Nat) (hi : i < perm.length) :
    (afterP perm s done)[i]? = some (if s.kind = 4 ∧ done = 1 ∧ (i : Int) = s.a then perm.getD s.b.toNat 0 else if s.kind = 4 ∧ done = 1 ∧ (i : Int) = s.b then perm.getD s.a.toNat 0 else perm[i]) := by
  unfold afterP
  by_cases hk : s.kind = 4 ∧ done = 1
  · obtain ⟨h1, h2, h3⟩ := h hk.1
    rw [if_pos hk]
    simp only [hk.1, hk.2, true_and]
    by_cases h4 : (i : Int) = s.a
    · have h5 : s.a.toNat = i := by omega
      have h6 : ¬ s.b.toNat = i := by omega
      rw [if_pos h4, List.getElem?_set, if_neg h6, List.getElem?_set, if_pos h5, if_pos (by omega)]
    · by_cases h5 : (i : Int) = s.b
      · have h6 : s.b.toNat = i := by omega
        rw [if_neg h4, if_pos h5, List.getElem?_set, if_pos h6, if_pos (by simp; omega)]
      · have h6 : ¬ s.b.toNat = i := by omega
        have h7 : ¬ s.a.toNat = i := by omega
        rw [if_neg h4, if_neg h5, List.getElem?_set, if_neg h6, List.getElem?_set, if_neg h7, List.getElem?_eq_getElem hi]
  · rw [if_neg hk, if_neg (fun h => hk ⟨h.1, h.2.1⟩), if_neg (fun h => hk ⟨h.1, h.2.1⟩), List.getElem?_eq_getElem hi]
theorem afterL_get (bs : List GBox) (id : Int) (b : GBox) (s : GSight) (done : Int) (h0 : 0 ≤ id) (hb : bs[id.toNat]? = some b) (i : Nat) (hi : i < bs.length) :
    (afterL bs id b s done)[i]? = some (if s.kind = 2 ∧ (i : Int) = id then GBox.mk bs[i].lot (w64 (bs[i].count - done)) bs[i].tare else bs[i]) := by
  unfold afterL
  by_cases hk : s.kind = 2
  · rw [if_pos hk]
    by_cases h4 : (i : Int) = id
    · have h5 : id.toNat = i := by omega
      have h6 : b = bs[i] := by rw [h5, List.getElem?_eq_getElem hi] at hb; exact (Option.some.inj hb).symm
      rw [if_pos ⟨hk, h4⟩, List.getElem?_set, if_pos h5, if_pos (by omega), h6]
    · have h5 : ¬ id.toNat = i := by omega
      rw [if_neg (fun h => h4 h.2), List.getElem?_set, if_neg h5, List.getElem?_eq_getElem hi]
  · rw [if_neg hk, if_neg (fun h => hk h.1), List.getElem?_eq_getElem hi]
theorem afterL_length (bs : List GBox) (id : Int) (b : GBox) (s : GSight) (done : Int) : (afterL bs id b s done).length = bs.length := by unfold afterL; split <;> simp
theorem afterP_length (perm : List Int) (s : GSight) (done : Int) : (afterP perm s done).length = perm.length := by unfold afterP; split <;> simp
theorem afterL_ok {nl : Nat} {bs : List GBox} {id : Int} {b : GBox} {s : GSight} {done : Int} {c : GSenses} (h : ∀ b ∈ bs, boxOk nl b = true) (hb : b ∈ bs) (hc : canB c b s done = true) : ∀ y ∈ afterL bs id b s done, boxOk nl y = true := by
  unfold afterL
  intro y hy
  split at hy
  · rename_i hk
    rcases List.mem_or_eq_of_mem_set hy with h1 | h1
    · exact h y h1
    · subst h1
      have hb2 := h b hb
      unfold canB at hc
      rw [if_pos hk] at hc
      simp only [Bool.and_eq_true, decide_eq_true_eq] at hc
      simp only [boxOk, Bool.not_eq_true', Bool.or_eq_false_iff, Bool.and_eq_false_iff, Bool.not_eq_false', decide_eq_true_eq, decide_eq_false_iff_not] at hb2 ⊢
      have hw : w64 (b.count - done) = b.count - done := i64_id (by omega) (by omega)
      rw [hw]
      omega
  · exact h y hy
theorem after_run (x : GStore) (c : GSenses) (y : GSight) (done : Int) (hl : y.ids.length < 2 ^ 63) : shFn (X ext0) 13 5 [x.enc, c.enc, y.enc, int done] [] = some (bool true, []) := by
  rw [enter5 rfl _ _ _ (by simp)]
  have e0 := small_sh
  have e1 := fits_sh 9 x c 8 (by omega)
  have e3 := right_sh 9 x.perm.length y hl
  simp only [Nat.reduceAdd] at e1 e3
  cases hf : fitsB x c 8 with
  | false =>
    rw [hf] at e1
    simp -implicitDefEqProofs only [c5, Try.f5, e0, e1, EVB, STB, TF, Option.isSome_some, Option.isSome_none, asgn, binV, nilV, nilEq, seen, valOp, bin, ibin, resOf, resVar, sealR, seal3, seal2, flat, one, cellsOf, cellsAt, newAt, storeG, rowOf, rd, further, over, natIn, vEq, vEqs, shiftV, argEnv, slotsG, slotIx, noOwn, isRowG, keptV, ownFlat, shiftR, shift1, keepR, reloc, relocs, kept, maxP, minP, appOp, rowE, fits, oneF, sealArg, seal1, pureV, scalV, isOwn, hasOwn, bldOf, fillP, litOf, mkM, upM, dlM, mkS, updM, putM, delM, strikeM, findM, mapOf, keyV, vals, keyEq, keyEqs, keyEq1, shapeV, shapes, KD.of, found, zeroPV, isNilMap, ↓reduceIte, Nat.reduceLT, Nat.reduceLeDiff, Nat.reduceAdd, Nat.reduceSub, Nat.reduceMul, Nat.reducePow, Nat.reduceEqDiff, Nat.reduceBEq, Int.reduceLE, Int.reduceLT, Int.reduceToNat, Int.reduceEq, Int.reduceNeg, reduceCtorEq]
  | true =>
  rw [hf] at e1
  cases hr : rightB x.perm.length y with
  | false =>
    rw [hr] at e3
    simp -implicitDefEqProofs only [c5, Try.f5, e0, e1, e3, EVB, STB, TF, Option.isSome_some, Option.isSome_none, asgn, binV, nilV, nilEq, seen, valOp, bin, ibin, resOf, resVar, sealR, seal3, seal2, flat, one, cellsOf, cellsAt, newAt, storeG, rowOf, rd, further, over, natIn, vEq, vEqs, shiftV, argEnv, slotsG, slotIx, noOwn, isRowG, keptV, ownFlat, shiftR, shift1, keepR, reloc, relocs, kept, maxP, minP, appOp, rowE, fits, oneF, sealArg, seal1, pureV, scalV, isOwn, hasOwn, bldOf, fillP, litOf, mkM, upM, dlM, mkS, updM, putM, delM, strikeM, findM, mapOf, keyV, vals, keyEq, keyEqs, keyEq1, shapeV, shapes, KD.of, found, zeroPV, isNilMap, ↓reduceIte, Nat.reduceLT, Nat.reduceLeDiff, Nat.reduceAdd, Nat.reduceSub, Nat.reduceMul, Nat.reducePow, Nat.reduceEqDiff, Nat.reduceBEq, Int.reduceLE, Int.reduceLT, Int.reduceToNat, Int.reduceEq, Int.reduceNeg, reduceCtorEq]
  | true =>
  rw [hr] at e3
  have R := right_of hf
  have hone := R.one
  have hmost := R.most
  have hsame := R.same
  have E := evid_of (n := x.perm.length) (by omega) (by omega) hr
  obtain ⟨id, b, g1, g2, g3, g4, g5⟩ := at_of R E.1 E.2.1
  have hb := R.boxes b g5
  have hc := sens_of R.sens
  have a1 := agrees_sh 9 c x.kinds x.lots x.perm x.boxes y id b E.1 E.2.1 g1 g2 g3 g4 hl hb.2.1 R.lots
  have bn := fun dn => after_no 8 c x.kinds x.lots x.perm x.boxes y dn id b E.1 E.2.1 g1 g2 g3 g4 hl hb.2.1 R.lots
  have by_ := fun dn => after_yes 8 c x.kinds x.lots x.perm x.boxes y dn id b E.1 E.2.1 g1 g2 g3 g4 hl hb.2.1 R.lots E.2.2.1 (by omega) (by omega)
  simp only [Nat.reduceAdd] at a1 bn by_
  have hkk : ∀ k ∈ x.kinds, kindOk k = true := fun k hk => by
    have := R.kinds k hk
    simp only [kindOk, Bool.not_eq_true', Bool.or_eq_false_iff, decide_eq_false_iff_not]
    omega
  have hll : ∀ l ∈ x.lots, lotOk x.kinds.length l = true := fun l hl => by
    have := R.lots l hl
    simp only [lotOk, Bool.not_eq_true', Bool.or_eq_false_iff, decide_eq_false_iff_not]
    omega
  have hbb : ∀ b ∈ x.boxes, boxOk x.lots.length b = true := fun b hb => by
    have := R.boxes b hb
    simp only [boxOk, Bool.not_eq_true', Bool.or_eq_false_iff, Bool.and_eq_false_iff, Bool.not_eq_false', decide_eq_true_eq, decide_eq_false_iff_not]
    omega
  have hw1 : IntKind.i64.wrap (y.n - c.slip) = y.n - c.slip ∨ ¬ y.kind = 2 := by
    by_cases k2 : y.kind = 2
    · have := E.2.2.2.1 (.inr (.inl k2)); exact .inl (i64_id (by omega) (by omega))
    · exact .inr k2
  by_cases k2 : y.kind = 2
  · have En := E.2.2.2.1 (.inr (.inl k2))
    have w1 : IntKind.i64.wrap (y.n - c.slip) = y.n - c.slip := i64_id (by omega) (by omega)
    have w2 : IntKind.i64.wrap (y.n + c.slip) = y.n + c.slip := i64_id (by omega) (by omega)
    have w3 : IntKind.i64.wrap (min b.count (y.n + c.slip) + 1) = min b.count (y.n + c.slip) + 1 := i64_id (by omega) (by omega)
    have hag : agreesAt c x.kinds x.lots id b y = (0, decide (y.n - c.slip ≤ b.count)) := by
      unfold agreesAt
      rw [if_neg (by omega), if_neg (by omega), if_pos k2, show w64 (y.n - c.slip) = y.n - c.slip from w1]
    have k4 : ¬ y.kind = 4 := by omega
    have hcan : ∀ dn, canB c b y dn = (decide (0 ≤ dn) && decide (dn ≤ b.count) && (decide (y.n - c.slip ≤ dn) && decide (dn ≤ y.n + c.slip))) := fun dn => by
      unfold canB
      rw [if_pos k2, w1, w2]
    have k2' := eq_true k2
    rw [hag] at a1 bn by_
    by_cases ho : y.n - c.slip ≤ b.count
    case neg =>
      have ho1 : decide (y.n - c.slip ≤ b.count) = false := decide_eq_false ho
      rw [ho1] at a1 bn by_
      have b1 := bn (max 0 (y.n - c.slip)) rfl
      have b2 := bn (min b.count (y.n + c.slip)) rfl
      have b3 := bn (min b.count (y.n + c.slip) + 1) rfl
      have b4 := bn done rfl
      have hle : ¬ max 0 (y.n - c.slip) ≤ min b.count (y.n + c.slip) := by omega
      simp -implicitDefEqProofs only [c5, Try.f5, e0, e1, e3, a1, b1, b2, b3, b4, k2', E.1, E.2.1, g1, g2, g3, g4, w1, w2, w3, hle, max_if, min_if, Int.reduceEq, Int.lt_irrefl, Int.natCast_zero, EVB, STB, TF, Option.isSome_some, Option.isSome_none, asgn, binV, nilV, nilEq, seen, valOp, bin, ibin, resOf, resVar, sealR, seal3, seal2, flat, one, cellsOf, cellsAt, newAt, storeG, rowOf, rd, further, over, natIn, vEq, vEqs, shiftV, argEnv, slotsG, slotIx, noOwn, isRowG, keptV, ownFlat, shiftR, shift1, keepR, reloc, relocs, kept, maxP, minP, appOp, rowE, fits, oneF, sealArg, seal1, pureV, scalV, isOwn, hasOwn, bldOf, fillP, litOf, mkM, upM, dlM, mkS, updM, putM, delM, strikeM, findM, mapOf, keyV, vals, keyEq, keyEqs, keyEq1, shapeV, shapes, KD.of, found, zeroPV, isNilMap, ↓reduceIte, Nat.reduceLT, Nat.reduceLeDiff, Nat.reduceAdd, Nat.reduceSub, Nat.reduceMul, Nat.reducePow, Nat.reduceEqDiff, Nat.reduceBEq, Int.reduceLE, Int.reduceLT, Int.reduceToNat, Int.reduceEq, Int.reduceNeg, reduceCtorEq]
    have ho1 : decide (y.n - c.slip ≤ b.count) = true := decide_eq_true ho
    rw [ho1] at a1 bn by_
    have b1 := by_ (max 0 (y.n - c.slip)) (by rw [hcan]; simp; omega)
    have b2 := by_ (min b.count (y.n + c.slip)) (by rw [hcan]; simp; omega)
    have b3 := bn (min b.count (y.n + c.slip) + 1) (by rw [hcan]; simp; omega)
    have hle : max 0 (y.n - c.slip) ≤ min b.count (y.n + c.slip) := by omega
    cases hd : canB c b y done with
    | false =>
      have b4 := bn done (by rw [hd]; rfl)
      by_cases hdn : done = 0
      · have hdn := eq_true hdn
        simp -implicitDefEqProofs only [c5, Try.f5, e0, e1, e3, a1, b1, b2, b3, b4, k2', hdn, E.1, E.2.1, g1, g2, g3, g4, w1, w2, w3, hle, max_if, min_if, Int.reduceEq, Int.lt_irrefl, Int.natCast_zero, EVB, STB, TF, Option.isSome_some, Option.isSome_none, asgn, binV, nilV, nilEq, seen, valOp, bin, ibin, resOf, resVar, sealR, seal3, seal2, flat, one, cellsOf, cellsAt, newAt, storeG, rowOf, rd, further, over, natIn, vEq, vEqs, shiftV, argEnv, slotsG, slotIx, noOwn, isRowG, keptV, ownFlat, shiftR, shift1, keepR, reloc, relocs, kept, maxP, minP, appOp, rowE, fits, oneF, sealArg, seal1, pureV, scalV, isOwn, hasOwn, bldOf, fillP, litOf, mkM, upM, dlM, mkS, updM, putM, delM, strikeM, findM, mapOf, keyV, vals, keyEq, keyEqs, keyEq1, shapeV, shapes, KD.of, found, zeroPV, isNilMap, ↓reduceIte, Nat.reduceLT, Nat.reduceLeDiff, Nat.reduceAdd, Nat.reduceSub, Nat.reduceMul, Nat.reducePow, Nat.reduceEqDiff, Nat.reduceBEq, Int.reduceLE, Int.reduceLT, Int.reduceToNat, Int.reduceEq, Int.reduceNeg, reduceCtorEq]
      · simp -implicitDefEqProofs only [c5, Try.f5, e0, e1, e3, a1, b1, b2, b3, b4, k2', hdn, E.1, E.2.1, g1, g2, g3, g4, w1, w2, w3, hle, max_if, min_if, Int.reduceEq, Int.lt_irrefl, Int.natCast_zero, EVB, STB, TF, Option.isSome_some, Option.isSome_none, asgn, binV, nilV, nilEq, seen, valOp, bin, ibin, resOf, resVar, sealR, seal3, seal2, flat, one, cellsOf, cellsAt, newAt, storeG, rowOf, rd, further, over, natIn, vEq, vEqs, shiftV, argEnv, slotsG, slotIx, noOwn, isRowG, keptV, ownFlat, shiftR, shift1, keepR, reloc, relocs, kept, maxP, minP, appOp, rowE, fits, oneF, sealArg, seal1, pureV, scalV, isOwn, hasOwn, bldOf, fillP, litOf, mkM, upM, dlM, mkS, updM, putM, delM, strikeM, findM, mapOf, keyV, vals, keyEq, keyEqs, keyEq1, shapeV, shapes, KD.of, found, zeroPV, isNilMap, ↓reduceIte, Nat.reduceLT, Nat.reduceLeDiff, Nat.reduceAdd, Nat.reduceSub, Nat.reduceMul, Nat.reducePow, Nat.reduceEqDiff, Nat.reduceBEq, Int.reduceLE, Int.reduceLT, Int.reduceToNat, Int.reduceEq, Int.reduceNeg, reduceCtorEq]
    | true =>
      have b4 := by_ done (by rw [hd]; rfl)
      have ap : ∀ dn, afterP x.perm y dn = x.perm := fun dn => by unfold afterP; rw [if_neg (fun h => k4 h.1)]
      simp only [ap] at b1 b2 b4
      have t1 := truth2_sh 7 x.kinds x.lots x.perm (afterL x.boxes id b y done) (by intro h; rw [h] at hone; simp at hone) (by omega) (by rw [afterL_length]; exact hsame) (by have := R.nk; omega) (by have := R.nl; omega) (perm_nodup R) R.perm hkk hll (afterL_ok hbb g5 hd)
      simp only [Nat.reduceAdd] at t1
      have al := afterL_length x.boxes id b y done
      have al2 := afterL_get x.boxes id b y done g2 g4
      generalize afterL x.boxes id b y done = L at b4 t1 al al2
      simp -implicitDefEqProofs only [c5, Try.f5, e0, e1, e3, a1, b1, b2, b3, b4, t1, al, k2', E.1, E.2.1, g1, g2, g3, g4, w1, w2, w3, hle, max_if, min_if, Int.reduceEq, Int.lt_irrefl, Int.natCast_zero, ev_loop, EVB, STB, TF, Option.isSome_some, Option.isSome_none, asgn, binV, nilV, nilEq, seen, valOp, bin, ibin, resOf, resVar, sealR, seal3, seal2, flat, one, cellsOf, cellsAt, newAt, storeG, rowOf, rd, further, over, natIn, vEq, vEqs, shiftV, argEnv, slotsG, slotIx, noOwn, isRowG, keptV, ownFlat, shiftR, shift1, keepR, reloc, relocs, kept, maxP, minP, appOp, rowE, fits, oneF, sealArg, seal1, pureV, scalV, isOwn, hasOwn, bldOf, fillP, litOf, mkM, upM, dlM, mkS, updM, putM, delM, strikeM, findM, mapOf, keyV, vals, keyEq, keyEqs, keyEq1, shapeV, shapes, KD.of, found, zeroPV, isNilMap, ↓reduceIte, Nat.reduceLT, Nat.reduceLeDiff, Nat.reduceAdd, Nat.reduceSub, Nat.reduceMul, Nat.reducePow, Nat.reduceEqDiff, Nat.reduceBEq, Int.reduceLE, Int.reduceLT, Int.reduceToNat, Int.reduceEq, Int.reduceNeg, reduceCtorEq]
      generalize hF : shCode _ _ _ _ _ = F
      generalize hL : shLoop F _ _ = r
      obtain ⟨s', hr, j0, j1, j2, j3, j4, j5, j6, j8, j11, j12, j13, j16, j19, j22, j23, j24, j25, j26, j27, j28, j41, j59, j149, j167, j219, j223, j243, j262, j286, j305, g, rfl⟩ := loop_to hL (x.perm.length) (fun i s => ∃ j0 j1 j2 j8 j11 j12 j13 j16 j19 j22 j25 j27 j28 j41 j59 j149 j167 j219 j223 j243 j262 j286 j305 g, s = ([(0, j0), (1, j1), (2, j2), (3, int done), (4, .box 0 1 0), (5, .box 1 1 0), (6, .box 2 1 0), (8, j8), (9, bool true), (11, j11), (12, j12), (13, j13), (16, j16), (19, j19), (22, j22), (23, ints x.perm), (24, pBoxes L), (25, j25), (26, int i), (27, j27), (28, j28), (41, j41), (59, j59), (149, j149), (167, j167), (219, j219), (223, j223), (243, j243), (262, j262), (286, j286), (305, j305)], [⟨1, .box [pKinds x.kinds, pLots x.lots, ints x.perm, pBoxes x.boxes]⟩, ⟨1, .box [int c.misses, int c.strays, int c.error, int c.slip]⟩, ⟨1, .box [int y.kind, int y.a, int y.b, int y.n, ints y.ids]⟩, g])) (.ext 0)
        (fun s => ∃ j0 j1 j2 j3 j4 j5 j6 j8 j11 j12 j13 j16 j19 j22 j23 j24 j25 j26 j27 j28 j41 j59 j149 j167 j219 j223 j243 j262 j286 j305 g, s = ([(0, j0), (1, j1), (2, j2), (3, j3), (4, j4), (5, j5), (6, j6), (8, j8), (9, bool true), (11, j11), (12, j12), (13, j13), (16, j16), (19, j19), (22, j22), (23, j23), (24, j24), (25, j25), (26, j26), (27, j27), (28, j28), (41, j41), (59, j59), (149, j149), (167, j167), (219, j219), (223, j223), (243, j243), (262, j262), (286, j286), (305, j305)], [⟨1, .box [pKinds x.kinds, pLots x.lots, ints x.perm, pBoxes x.boxes]⟩, ⟨1, .box [int c.misses, int c.strays, int c.error, int c.slip]⟩, ⟨1, .box [int y.kind, int y.a, int y.b, int y.n, ints y.ids]⟩, g])) (by simp) (by exact ⟨_, _, _, _, _, _, _, _, _, _, _, _, _, _, _, _, _, _, _, _, _, _, _, _, rfl⟩) (by omega)
        (fun i hi s ⟨j0, j1, j2, j8, j11, j12, j13, j16, j19, j22, j25, j27, j28, j41, j59, j149, j167, j219, j223, j243, j262, j286, j305, g, hs⟩ => by
            have hlt : (i : Int) < (x.perm.length : Nat) := by omega
            have h0 : (0 : Int) ≤ i := by omega
            have hib : i < x.boxes.length := by omega
            have hlb : (i : Int) < x.boxes.length := by omega
            have q1 : x.perm[i]? = some x.perm[i] := List.getElem?_eq_getElem hi
            have q2 : x.boxes[i]? = some x.boxes[i] := List.getElem?_eq_getElem hib
            have q3 := al2 i hib
            clear hL
            subst hs hF
            simp -implicitDefEqProofs only [hlt, h0, hlb, q1, q2, k2', k4, E.1, E.2.1, g1, g2, g3, g4, al, Int.reduceEq, Int.toNat_natCast, i64_succ (show i < 2 ^ 63 - 1 by omega), EVB, STB, TF, Option.isSome_some, Option.isSome_none, asgn, binV, nilV, nilEq, seen, valOp, bin, ibin, resOf, resVar, sealR, seal3, seal2, flat, one, cellsOf, cellsAt, newAt, storeG, rowOf, rd, further, over, natIn, vEq, vEqs, shiftV, argEnv, slotsG, slotIx, noOwn, isRowG, keptV, ownFlat, shiftR, shift1, keepR, reloc, relocs, kept, maxP, minP, appOp, rowE, fits, oneF, sealArg, seal1, pureV, scalV, isOwn, hasOwn, bldOf, fillP, litOf, mkM, upM, dlM, mkS, updM, putM, delM, strikeM, findM, mapOf, keyV, vals, keyEq, keyEqs, keyEq1, shapeV, shapes, KD.of, found, zeroPV, isNilMap, ↓reduceIte, Nat.reduceLT, Nat.reduceLeDiff, Nat.reduceAdd, Nat.reduceSub, Nat.reduceMul, Nat.reducePow, Nat.reduceEqDiff, Nat.reduceBEq, Int.reduceLE, Int.reduceLT, Int.reduceToNat, Int.reduceEq, Int.reduceNeg, reduceCtorEq]
            by_cases hid : (i : Int) = id; (have q4 := q3; rw [if_pos ⟨k2, hid⟩] at q4; have hid := eq_true hid; simp -implicitDefEqProofs only [hid, q4, hlb, q1, q2, al, h0, hlt, Int.toNat_natCast, i64_succ (show i < 2 ^ 63 - 1 by omega), EVB, STB, TF, Option.isSome_some, Option.isSome_none, asgn, binV, nilV, nilEq, seen, valOp, bin, ibin, resOf, resVar, sealR, seal3, seal2, flat, one, cellsOf, cellsAt, newAt, storeG, rowOf, rd, further, over, natIn, vEq, vEqs, shiftV, argEnv, slotsG, slotIx, noOwn, isRowG, keptV, ownFlat, shiftR, shift1, keepR, reloc, relocs, kept, maxP, minP, appOp, rowE, fits, oneF, sealArg, seal1, pureV, scalV, isOwn, hasOwn, bldOf, fillP, litOf, mkM, upM, dlM, mkS, updM, putM, delM, strikeM, findM, mapOf, keyV, vals, keyEq, keyEqs, keyEq1, shapeV, shapes, KD.of, found, zeroPV, isNilMap, ↓reduceIte, Nat.reduceLT, Nat.reduceLeDiff, Nat.reduceAdd, Nat.reduceSub, Nat.reduceMul, Nat.reducePow, Nat.reduceEqDiff, Nat.reduceBEq, Int.reduceLE, Int.reduceLT, Int.reduceToNat, Int.reduceEq, Int.reduceNeg, reduceCtorEq]; exact ⟨_, rfl, _, _, _, _, _, _, _, _, _, _, _, _, _, _, _, _, _, _, _, _, _, _, _, _, rfl⟩); (have q4 := q3; rw [if_neg (fun h => hid h.2)] at q4; simp -implicitDefEqProofs only [hid, q4, hlb, q1, q2, al, h0, hlt, Int.toNat_natCast, i64_succ (show i < 2 ^ 63 - 1 by omega), EVB, STB, TF, Option.isSome_some, Option.isSome_none, asgn, binV, nilV, nilEq, seen, valOp, bin, ibin, resOf, resVar, sealR, seal3, seal2, flat, one, cellsOf, cellsAt, newAt, storeG, rowOf, rd, further, over, natIn, vEq, vEqs, shiftV, argEnv, slotsG, slotIx, noOwn, isRowG, keptV, ownFlat, shiftR, shift1, keepR, reloc, relocs, kept, maxP, minP, appOp, rowE, fits, oneF, sealArg, seal1, pureV, scalV, isOwn, hasOwn, bldOf, fillP, litOf, mkM, upM, dlM, mkS, updM, putM, delM, strikeM, findM, mapOf, keyV, vals, keyEq, keyEqs, keyEq1, shapeV, shapes, KD.of, found, zeroPV, isNilMap, ↓reduceIte, Nat.reduceLT, Nat.reduceLeDiff, Nat.reduceAdd, Nat.reduceSub, Nat.reduceMul, Nat.reducePow, Nat.reduceEqDiff, Nat.reduceBEq, Int.reduceLE, Int.reduceLT, Int.reduceToNat, Int.reduceEq, Int.reduceNeg, reduceCtorEq]; exact ⟨_, rfl, _, _, _, _, _, _, _, _, _, _, _, _, _, _, _, _, _, _, _, _, _, _, _, _, rfl⟩))
        (fun s ⟨j0, j1, j2, j8, j11, j12, j13, j16, j19, j22, j25, j27, j28, j41, j59, j149, j167, j219, j223, j243, j262, j286, j305, g, hs⟩ => by
            clear hL
            subst hs hF
            simp -implicitDefEqProofs only [Int.lt_irrefl, EVB, STB, TF, Option.isSome_some, Option.isSome_none, asgn, binV, nilV, nilEq, seen, valOp, bin, ibin, resOf, resVar, sealR, seal3, seal2, flat, one, cellsOf, cellsAt, newAt, storeG, rowOf, rd, further, over, natIn, vEq, vEqs, shiftV, argEnv, slotsG, slotIx, noOwn, isRowG, keptV, ownFlat, shiftR, shift1, keepR, reloc, relocs, kept, maxP, minP, appOp, rowE, fits, oneF, sealArg, seal1, pureV, scalV, isOwn, hasOwn, bldOf, fillP, litOf, mkM, upM, dlM, mkS, updM, putM, delM, strikeM, findM, mapOf, keyV, vals, keyEq, keyEqs, keyEq1, shapeV, shapes, KD.of, found, zeroPV, isNilMap, ↓reduceIte, Nat.reduceLT, Nat.reduceLeDiff, Nat.reduceAdd, Nat.reduceSub, Nat.reduceMul, Nat.reducePow, Nat.reduceEqDiff, Nat.reduceBEq, Int.reduceLE, Int.reduceLT, Int.reduceToNat, Int.reduceEq, Int.reduceNeg, reduceCtorEq]
            exact ⟨_, rfl, _, _, _, _, _, _, _, _, _, _, _, _, _, _, _, _, _, _, _, _, _, _, _, _, _, _, _, _, _, _, _, rfl⟩)
      rw [hr]
      simp -implicitDefEqProofs only [EVB, STB, TF, Option.isSome_some, Option.isSome_none, asgn, binV, nilV, nilEq, seen, valOp, bin, ibin, resOf, resVar, sealR, seal3, seal2, flat, one, cellsOf, cellsAt, newAt, storeG, rowOf, rd, further, over, natIn, vEq, vEqs, shiftV, argEnv, slotsG, slotIx, noOwn, isRowG, keptV, ownFlat, shiftR, shift1, keepR, reloc, relocs, kept, maxP, minP, appOp, rowE, fits, oneF, sealArg, seal1, pureV, scalV, isOwn, hasOwn, bldOf, fillP, litOf, mkM, upM, dlM, mkS, updM, putM, delM, strikeM, findM, mapOf, keyV, vals, keyEq, keyEqs, keyEq1, shapeV, shapes, KD.of, found, zeroPV, isNilMap, ↓reduceIte, Nat.reduceLT, Nat.reduceLeDiff, Nat.reduceAdd, Nat.reduceSub, Nat.reduceMul, Nat.reducePow, Nat.reduceEqDiff, Nat.reduceBEq, Int.reduceLE, Int.reduceLT, Int.reduceToNat, Int.reduceEq, Int.reduceNeg, reduceCtorEq]

  have al0 : ∀ dn, afterL x.boxes id b y dn = x.boxes := fun dn => by unfold afterL; rw [if_neg k2]
  simp only [al0] at by_
  generalize hu : agreesAt c x.kinds x.lots id b y = u at a1 bn by_
  obtain ⟨n1, o1⟩ := u
  simp only at a1 bn by_
  cases hcn : (o1 && canB c b y done) with
  | false =>
    have b4 := bn done hcn
    cases ho : o1 with
    | false =>
      rw [ho] at a1
      simp -implicitDefEqProofs only [c5, Try.f5, e0, e1, e3, a1, b4, k2, E.1, E.2.1, g1, g2, g3, g4, Int.reduceEq, Int.lt_irrefl, Int.natCast_zero, EVB, STB, TF, Option.isSome_some, Option.isSome_none, asgn, binV, nilV, nilEq, seen, valOp, bin, ibin, resOf, resVar, sealR, seal3, seal2, flat, one, cellsOf, cellsAt, newAt, storeG, rowOf, rd, further, over, natIn, vEq, vEqs, shiftV, argEnv, slotsG, slotIx, noOwn, isRowG, keptV, ownFlat, shiftR, shift1, keepR, reloc, relocs, kept, maxP, minP, appOp, rowE, fits, oneF, sealArg, seal1, pureV, scalV, isOwn, hasOwn, bldOf, fillP, litOf, mkM, upM, dlM, mkS, updM, putM, delM, strikeM, findM, mapOf, keyV, vals, keyEq, keyEqs, keyEq1, shapeV, shapes, KD.of, found, zeroPV, isNilMap, ↓reduceIte, Nat.reduceLT, Nat.reduceLeDiff, Nat.reduceAdd, Nat.reduceSub, Nat.reduceMul, Nat.reducePow, Nat.reduceEqDiff, Nat.reduceBEq, Int.reduceLE, Int.reduceLT, Int.reduceToNat, Int.reduceEq, Int.reduceNeg, reduceCtorEq]
    | true =>
      rw [ho] at a1 hcn
      have hdn : ¬ done = 0 := fun h => by
        unfold canB at hcn
        rw [if_neg k2, h] at hcn
        by_cases k4 : y.kind = 4
        · rw [if_pos k4] at hcn; simp at hcn
        · rw [if_neg k4] at hcn; simp at hcn
      simp -implicitDefEqProofs only [c5, Try.f5, e0, e1, e3, a1, b4, k2, E.1, E.2.1, g1, g2, g3, g4, Int.reduceEq, Int.lt_irrefl, Int.natCast_zero, hdn, EVB, STB, TF, Option.isSome_some, Option.isSome_none, asgn, binV, nilV, nilEq, seen, valOp, bin, ibin, resOf, resVar, sealR, seal3, seal2, flat, one, cellsOf, cellsAt, newAt, storeG, rowOf, rd, further, over, natIn, vEq, vEqs, shiftV, argEnv, slotsG, slotIx, noOwn, isRowG, keptV, ownFlat, shiftR, shift1, keepR, reloc, relocs, kept, maxP, minP, appOp, rowE, fits, oneF, sealArg, seal1, pureV, scalV, isOwn, hasOwn, bldOf, fillP, litOf, mkM, upM, dlM, mkS, updM, putM, delM, strikeM, findM, mapOf, keyV, vals, keyEq, keyEqs, keyEq1, shapeV, shapes, KD.of, found, zeroPV, isNilMap, ↓reduceIte, Nat.reduceLT, Nat.reduceLeDiff, Nat.reduceAdd, Nat.reduceSub, Nat.reduceMul, Nat.reducePow, Nat.reduceEqDiff, Nat.reduceBEq, Int.reduceLE, Int.reduceLT, Int.reduceToNat, Int.reduceEq, Int.reduceNeg, reduceCtorEq]
  | true =>
    have b4 := by_ done hcn
    simp only [Bool.and_eq_true] at hcn
    obtain ⟨ho, hd⟩ := hcn
    rw [ho] at a1
    have hP := afterP_perm x.perm y done (fun k => by have := E.2.2.1 k; omega)
    have hPl := afterP_length x.perm y done
    have t1 := truth2_sh 7 x.kinds x.lots (afterP x.perm y done) x.boxes (by intro h; rw [h] at hPl; simp at hPl; omega) (by omega) (by omega) (by have := R.nk; omega) (by have := R.nl; omega) (hP.nodup_iff.2 (perm_nodup R)) (fun z hz => by rw [hPl]; exact R.perm z (hP.mem_iff.1 hz)) hkk hll hbb
    simp only [Nat.reduceAdd] at t1
    by_cases k4 : y.kind = 4
    case neg =>
      have ap : afterP x.perm y done = x.perm := by unfold afterP; rw [if_neg (fun h => k4 h.1)]
      rw [ap] at b4 t1
      simp -implicitDefEqProofs only [c5, Try.f5, e0, e1, e3, a1, b4, k2, E.1, E.2.1, g1, g2, g3, g4, Int.reduceEq, Int.lt_irrefl, Int.natCast_zero, t1, k4, ev_loop, EVB, STB, TF, Option.isSome_some, Option.isSome_none, asgn, binV, nilV, nilEq, seen, valOp, bin, ibin, resOf, resVar, sealR, seal3, seal2, flat, one, cellsOf, cellsAt, newAt, storeG, rowOf, rd, further, over, natIn, vEq, vEqs, shiftV, argEnv, slotsG, slotIx, noOwn, isRowG, keptV, ownFlat, shiftR, shift1, keepR, reloc, relocs, kept, maxP, minP, appOp, rowE, fits, oneF, sealArg, seal1, pureV, scalV, isOwn, hasOwn, bldOf, fillP, litOf, mkM, upM, dlM, mkS, updM, putM, delM, strikeM, findM, mapOf, keyV, vals, keyEq, keyEqs, keyEq1, shapeV, shapes, KD.of, found, zeroPV, isNilMap, ↓reduceIte, Nat.reduceLT, Nat.reduceLeDiff, Nat.reduceAdd, Nat.reduceSub, Nat.reduceMul, Nat.reducePow, Nat.reduceEqDiff, Nat.reduceBEq, Int.reduceLE, Int.reduceLT, Int.reduceToNat, Int.reduceEq, Int.reduceNeg, reduceCtorEq]
      generalize hF : shCode _ _ _ _ _ = F
      generalize hL : shLoop F _ _ = r
      obtain ⟨s', hr, j0, j1, j2, j3, j4, j5, j6, j8, j11, j12, j13, j16, j19, j22, j23, j24, j25, j26, j27, j28, j41, j59, j149, j167, j219, j223, j243, j262, j286, j305, g, rfl⟩ := loop_to hL (x.perm.length) (fun i s => ∃ j0 j1 j2 j8 j11 j12 j13 j16 j19 j22 j25 j27 j28 j41 j59 j149 j167 j219 j223 j243 j262 j286 j305 g, s = ([(0, j0), (1, j1), (2, j2), (3, int done), (4, .box 0 1 0), (5, .box 1 1 0), (6, .box 2 1 0), (8, j8), (9, bool true), (11, j11), (12, j12), (13, j13), (16, j16), (19, j19), (22, j22), (23, ints x.perm), (24, pBoxes x.boxes), (25, j25), (26, int i), (27, j27), (28, j28), (41, j41), (59, j59), (149, j149), (167, j167), (219, j219), (223, j223), (243, j243), (262, j262), (286, j286), (305, j305)], [⟨1, .box [pKinds x.kinds, pLots x.lots, ints x.perm, pBoxes x.boxes]⟩, ⟨1, .box [int c.misses, int c.strays, int c.error, int c.slip]⟩, ⟨1, .box [int y.kind, int y.a, int y.b, int y.n, ints y.ids]⟩, g])) (.ext 0)
        (fun s => ∃ j0 j1 j2 j3 j4 j5 j6 j8 j11 j12 j13 j16 j19 j22 j23 j24 j25 j26 j27 j28 j41 j59 j149 j167 j219 j223 j243 j262 j286 j305 g, s = ([(0, j0), (1, j1), (2, j2), (3, j3), (4, j4), (5, j5), (6, j6), (8, j8), (9, bool true), (11, j11), (12, j12), (13, j13), (16, j16), (19, j19), (22, j22), (23, j23), (24, j24), (25, j25), (26, j26), (27, j27), (28, j28), (41, j41), (59, j59), (149, j149), (167, j167), (219, j219), (223, j223), (243, j243), (262, j262), (286, j286), (305, j305)], [⟨1, .box [pKinds x.kinds, pLots x.lots, ints x.perm, pBoxes x.boxes]⟩, ⟨1, .box [int c.misses, int c.strays, int c.error, int c.slip]⟩, ⟨1, .box [int y.kind, int y.a, int y.b, int y.n, ints y.ids]⟩, g])) (by simp) (by exact ⟨_, _, _, _, _, _, _, _, _, _, _, _, _, _, _, _, _, _, _, _, _, _, _, _, rfl⟩) (by omega)
        (fun i hi s ⟨j0, j1, j2, j8, j11, j12, j13, j16, j19, j22, j25, j27, j28, j41, j59, j149, j167, j219, j223, j243, j262, j286, j305, g, hs⟩ => by
            have hlt : (i : Int) < (x.perm.length : Nat) := by omega
            have h0 : (0 : Int) ≤ i := by omega
            have hib : i < x.boxes.length := by omega
            have hlb : (i : Int) < x.boxes.length := by omega
            have q1 : x.perm[i]? = some x.perm[i] := List.getElem?_eq_getElem hi
            have q2 : x.boxes[i]? = some x.boxes[i] := List.getElem?_eq_getElem hib
            clear hL
            subst hs hF
            simp -implicitDefEqProofs only [hlt, h0, hlb, q1, q2, k2, E.1, E.2.1, g1, g2, g3, g4, k4, Int.reduceEq, Int.toNat_natCast, i64_succ (show i < 2 ^ 63 - 1 by omega), EVB, STB, TF, Option.isSome_some, Option.isSome_none, asgn, binV, nilV, nilEq, seen, valOp, bin, ibin, resOf, resVar, sealR, seal3, seal2, flat, one, cellsOf, cellsAt, newAt, storeG, rowOf, rd, further, over, natIn, vEq, vEqs, shiftV, argEnv, slotsG, slotIx, noOwn, isRowG, keptV, ownFlat, shiftR, shift1, keepR, reloc, relocs, kept, maxP, minP, appOp, rowE, fits, oneF, sealArg, seal1, pureV, scalV, isOwn, hasOwn, bldOf, fillP, litOf, mkM, upM, dlM, mkS, updM, putM, delM, strikeM, findM, mapOf, keyV, vals, keyEq, keyEqs, keyEq1, shapeV, shapes, KD.of, found, zeroPV, isNilMap, ↓reduceIte, Nat.reduceLT, Nat.reduceLeDiff, Nat.reduceAdd, Nat.reduceSub, Nat.reduceMul, Nat.reducePow, Nat.reduceEqDiff, Nat.reduceBEq, Int.reduceLE, Int.reduceLT, Int.reduceToNat, Int.reduceEq, Int.reduceNeg, reduceCtorEq]
            exact ⟨_, rfl, _, _, _, _, _, _, _, _, _, _, _, _, _, _, _, _, _, _, _, _, _, _, _, _, rfl⟩)
        (fun s ⟨j0, j1, j2, j8, j11, j12, j13, j16, j19, j22, j25, j27, j28, j41, j59, j149, j167, j219, j223, j243, j262, j286, j305, g, hs⟩ => by
            clear hL
            subst hs hF
            simp -implicitDefEqProofs only [Int.lt_irrefl, EVB, STB, TF, Option.isSome_some, Option.isSome_none, asgn, binV, nilV, nilEq, seen, valOp, bin, ibin, resOf, resVar, sealR, seal3, seal2, flat, one, cellsOf, cellsAt, newAt, storeG, rowOf, rd, further, over, natIn, vEq, vEqs, shiftV, argEnv, slotsG, slotIx, noOwn, isRowG, keptV, ownFlat, shiftR, shift1, keepR, reloc, relocs, kept, maxP, minP, appOp, rowE, fits, oneF, sealArg, seal1, pureV, scalV, isOwn, hasOwn, bldOf, fillP, litOf, mkM, upM, dlM, mkS, updM, putM, delM, strikeM, findM, mapOf, keyV, vals, keyEq, keyEqs, keyEq1, shapeV, shapes, KD.of, found, zeroPV, isNilMap, ↓reduceIte, Nat.reduceLT, Nat.reduceLeDiff, Nat.reduceAdd, Nat.reduceSub, Nat.reduceMul, Nat.reducePow, Nat.reduceEqDiff, Nat.reduceBEq, Int.reduceLE, Int.reduceLT, Int.reduceToNat, Int.reduceEq, Int.reduceNeg, reduceCtorEq]
            exact ⟨_, rfl, _, _, _, _, _, _, _, _, _, _, _, _, _, _, _, _, _, _, _, _, _, _, _, _, _, _, _, _, _, _, _, rfl⟩)
      rw [hr]
      simp -implicitDefEqProofs only [EVB, STB, TF, Option.isSome_some, Option.isSome_none, asgn, binV, nilV, nilEq, seen, valOp, bin, ibin, resOf, resVar, sealR, seal3, seal2, flat, one, cellsOf, cellsAt, newAt, storeG, rowOf, rd, further, over, natIn, vEq, vEqs, shiftV, argEnv, slotsG, slotIx, noOwn, isRowG, keptV, ownFlat, shiftR, shift1, keepR, reloc, relocs, kept, maxP, minP, appOp, rowE, fits, oneF, sealArg, seal1, pureV, scalV, isOwn, hasOwn, bldOf, fillP, litOf, mkM, upM, dlM, mkS, updM, putM, delM, strikeM, findM, mapOf, keyV, vals, keyEq, keyEqs, keyEq1, shapeV, shapes, KD.of, found, zeroPV, isNilMap, ↓reduceIte, Nat.reduceLT, Nat.reduceLeDiff, Nat.reduceAdd, Nat.reduceSub, Nat.reduceMul, Nat.reducePow, Nat.reduceEqDiff, Nat.reduceBEq, Int.reduceLE, Int.reduceLT, Int.reduceToNat, Int.reduceEq, Int.reduceNeg, reduceCtorEq]

    by_cases hdn : done = 1
    case neg =>
      have ap : afterP x.perm y done = x.perm := by unfold afterP; rw [if_neg (fun h => hdn h.2)]
      rw [ap] at b4 t1
      have k4' := eq_true k4
      simp -implicitDefEqProofs only [c5, Try.f5, e0, e1, e3, a1, b4, k2, E.1, E.2.1, g1, g2, g3, g4, Int.reduceEq, Int.lt_irrefl, Int.natCast_zero, t1, k4', hdn, ev_loop, EVB, STB, TF, Option.isSome_some, Option.isSome_none, asgn, binV, nilV, nilEq, seen, valOp, bin, ibin, resOf, resVar, sealR, seal3, seal2, flat, one, cellsOf, cellsAt, newAt, storeG, rowOf, rd, further, over, natIn, vEq, vEqs, shiftV, argEnv, slotsG, slotIx, noOwn, isRowG, keptV, ownFlat, shiftR, shift1, keepR, reloc, relocs, kept, maxP, minP, appOp, rowE, fits, oneF, sealArg, seal1, pureV, scalV, isOwn, hasOwn, bldOf, fillP, litOf, mkM, upM, dlM, mkS, updM, putM, delM, strikeM, findM, mapOf, keyV, vals, keyEq, keyEqs, keyEq1, shapeV, shapes, KD.of, found, zeroPV, isNilMap, ↓reduceIte, Nat.reduceLT, Nat.reduceLeDiff, Nat.reduceAdd, Nat.reduceSub, Nat.reduceMul, Nat.reducePow, Nat.reduceEqDiff, Nat.reduceBEq, Int.reduceLE, Int.reduceLT, Int.reduceToNat, Int.reduceEq, Int.reduceNeg, reduceCtorEq]
      generalize hF : shCode _ _ _ _ _ = F
      generalize hL : shLoop F _ _ = r
      obtain ⟨s', hr, j0, j1, j2, j3, j4, j5, j6, j8, j11, j12, j13, j16, j19, j22, j23, j24, j25, j26, j27, j28, j41, j59, j149, j167, j219, j223, j243, j262, j286, j305, g, rfl⟩ := loop_to hL (x.perm.length) (fun i s => ∃ j0 j1 j2 j8 j11 j12 j13 j16 j19 j22 j25 j27 j28 j41 j59 j149 j167 j219 j223 j243 j262 j286 j305 g, s = ([(0, j0), (1, j1), (2, j2), (3, int done), (4, .box 0 1 0), (5, .box 1 1 0), (6, .box 2 1 0), (8, j8), (9, bool true), (11, j11), (12, j12), (13, j13), (16, j16), (19, j19), (22, j22), (23, ints x.perm), (24, pBoxes x.boxes), (25, j25), (26, int i), (27, j27), (28, j28), (41, j41), (59, j59), (149, j149), (167, j167), (219, j219), (223, j223), (243, j243), (262, j262), (286, j286), (305, j305)], [⟨1, .box [pKinds x.kinds, pLots x.lots, ints x.perm, pBoxes x.boxes]⟩, ⟨1, .box [int c.misses, int c.strays, int c.error, int c.slip]⟩, ⟨1, .box [int y.kind, int y.a, int y.b, int y.n, ints y.ids]⟩, g])) (.ext 0)
        (fun s => ∃ j0 j1 j2 j3 j4 j5 j6 j8 j11 j12 j13 j16 j19 j22 j23 j24 j25 j26 j27 j28 j41 j59 j149 j167 j219 j223 j243 j262 j286 j305 g, s = ([(0, j0), (1, j1), (2, j2), (3, j3), (4, j4), (5, j5), (6, j6), (8, j8), (9, bool true), (11, j11), (12, j12), (13, j13), (16, j16), (19, j19), (22, j22), (23, j23), (24, j24), (25, j25), (26, j26), (27, j27), (28, j28), (41, j41), (59, j59), (149, j149), (167, j167), (219, j219), (223, j223), (243, j243), (262, j262), (286, j286), (305, j305)], [⟨1, .box [pKinds x.kinds, pLots x.lots, ints x.perm, pBoxes x.boxes]⟩, ⟨1, .box [int c.misses, int c.strays, int c.error, int c.slip]⟩, ⟨1, .box [int y.kind, int y.a, int y.b, int y.n, ints y.ids]⟩, g])) (by simp) (by exact ⟨_, _, _, _, _, _, _, _, _, _, _, _, _, _, _, _, _, _, _, _, _, _, _, _, rfl⟩) (by omega)
        (fun i hi s ⟨j0, j1, j2, j8, j11, j12, j13, j16, j19, j22, j25, j27, j28, j41, j59, j149, j167, j219, j223, j243, j262, j286, j305, g, hs⟩ => by
            have hlt : (i : Int) < (x.perm.length : Nat) := by omega
            have h0 : (0 : Int) ≤ i := by omega
            have hib : i < x.boxes.length := by omega
            have hlb : (i : Int) < x.boxes.length := by omega
            have q1 : x.perm[i]? = some x.perm[i] := List.getElem?_eq_getElem hi
            have q2 : x.boxes[i]? = some x.boxes[i] := List.getElem?_eq_getElem hib
            clear hL
            subst hs hF
            simp -implicitDefEqProofs only [hlt, h0, hlb, q1, q2, k2, E.1, E.2.1, g1, g2, g3, g4, k4', hdn, Int.reduceEq, Int.toNat_natCast, i64_succ (show i < 2 ^ 63 - 1 by omega), EVB, STB, TF, Option.isSome_some, Option.isSome_none, asgn, binV, nilV, nilEq, seen, valOp, bin, ibin, resOf, resVar, sealR, seal3, seal2, flat, one, cellsOf, cellsAt, newAt, storeG, rowOf, rd, further, over, natIn, vEq, vEqs, shiftV, argEnv, slotsG, slotIx, noOwn, isRowG, keptV, ownFlat, shiftR, shift1, keepR, reloc, relocs, kept, maxP, minP, appOp, rowE, fits, oneF, sealArg, seal1, pureV, scalV, isOwn, hasOwn, bldOf, fillP, litOf, mkM, upM, dlM, mkS, updM, putM, delM, strikeM, findM, mapOf, keyV, vals, keyEq, keyEqs, keyEq1, shapeV, shapes, KD.of, found, zeroPV, isNilMap, ↓reduceIte, Nat.reduceLT, Nat.reduceLeDiff, Nat.reduceAdd, Nat.reduceSub, Nat.reduceMul, Nat.reducePow, Nat.reduceEqDiff, Nat.reduceBEq, Int.reduceLE, Int.reduceLT, Int.reduceToNat, Int.reduceEq, Int.reduceNeg, reduceCtorEq]
            exact ⟨_, rfl, _, _, _, _, _, _, _, _, _, _, _, _, _, _, _, _, _, _, _, _, _, _, _, _, rfl⟩)
        (fun s ⟨j0, j1, j2, j8, j11, j12, j13, j16, j19, j22, j25, j27, j28, j41, j59, j149, j167, j219, j223, j243, j262, j286, j305, g, hs⟩ => by
            clear hL
            subst hs hF
            simp -implicitDefEqProofs only [Int.lt_irrefl, EVB, STB, TF, Option.isSome_some, Option.isSome_none, asgn, binV, nilV, nilEq, seen, valOp, bin, ibin, resOf, resVar, sealR, seal3, seal2, flat, one, cellsOf, cellsAt, newAt, storeG, rowOf, rd, further, over, natIn, vEq, vEqs, shiftV, argEnv, slotsG, slotIx, noOwn, isRowG, keptV, ownFlat, shiftR, shift1, keepR, reloc, relocs, kept, maxP, minP, appOp, rowE, fits, oneF, sealArg, seal1, pureV, scalV, isOwn, hasOwn, bldOf, fillP, litOf, mkM, upM, dlM, mkS, updM, putM, delM, strikeM, findM, mapOf, keyV, vals, keyEq, keyEqs, keyEq1, shapeV, shapes, KD.of, found, zeroPV, isNilMap, ↓reduceIte, Nat.reduceLT, Nat.reduceLeDiff, Nat.reduceAdd, Nat.reduceSub, Nat.reduceMul, Nat.reducePow, Nat.reduceEqDiff, Nat.reduceBEq, Int.reduceLE, Int.reduceLT, Int.reduceToNat, Int.reduceEq, Int.reduceNeg, reduceCtorEq]
            exact ⟨_, rfl, _, _, _, _, _, _, _, _, _, _, _, _, _, _, _, _, _, _, _, _, _, _, _, _, _, _, _, _, _, _, _, rfl⟩)
      rw [hr]
      simp -implicitDefEqProofs only [EVB, STB, TF, Option.isSome_some, Option.isSome_none, asgn, binV, nilV, nilEq, seen, valOp, bin, ibin, resOf, resVar, sealR, seal3, seal2, flat, one, cellsOf, cellsAt, newAt, storeG, rowOf, rd, further, over, natIn, vEq, vEqs, shiftV, argEnv, slotsG, slotIx, noOwn, isRowG, keptV, ownFlat, shiftR, shift1, keepR, reloc, relocs, kept, maxP, minP, appOp, rowE, fits, oneF, sealArg, seal1, pureV, scalV, isOwn, hasOwn, bldOf, fillP, litOf, mkM, upM, dlM, mkS, updM, putM, delM, strikeM, findM, mapOf, keyV, vals, keyEq, keyEqs, keyEq1, shapeV, shapes, KD.of, found, zeroPV, isNilMap, ↓reduceIte, Nat.reduceLT, Nat.reduceLeDiff, Nat.reduceAdd, Nat.reduceSub, Nat.reduceMul, Nat.reducePow, Nat.reduceEqDiff, Nat.reduceBEq, Int.reduceLE, Int.reduceLT, Int.reduceToNat, Int.reduceEq, Int.reduceNeg, reduceCtorEq]

    have E4 := E.2.2.1 k4
    have k4' := eq_true k4
    have hd1 := eq_true hdn
    have pg := afterP_get x.perm y done (fun _ => by omega)
    have hbl : y.b.toNat < x.perm.length := by omega
    have g6 : x.perm[y.b.toNat]? = some x.perm[y.b.toNat] := List.getElem?_eq_getElem hbl
    have hb0 : 0 ≤ y.b := by omega
    have hb1 : y.b < x.perm.length := E4.2
    have pd : x.perm.getD y.b.toNat 0 = x.perm[y.b.toNat] := by rw [List.getD_eq_getElem?_getD, g6]; rfl
    have pd2 : x.perm.getD y.a.toNat 0 = id := by rw [List.getD_eq_getElem?_getD, g1]; rfl
    rw [pd, pd2] at pg
    generalize afterP x.perm y done = Q at b4 t1 pg hPl
    simp -implicitDefEqProofs only [c5, Try.f5, e0, e1, e3, a1, b4, k2, E.1, E.2.1, g1, g2, g3, g4, Int.reduceEq, Int.lt_irrefl, Int.natCast_zero, t1, k4', hd1, hPl, ev_loop, EVB, STB, TF, Option.isSome_some, Option.isSome_none, asgn, binV, nilV, nilEq, seen, valOp, bin, ibin, resOf, resVar, sealR, seal3, seal2, flat, one, cellsOf, cellsAt, newAt, storeG, rowOf, rd, further, over, natIn, vEq, vEqs, shiftV, argEnv, slotsG, slotIx, noOwn, isRowG, keptV, ownFlat, shiftR, shift1, keepR, reloc, relocs, kept, maxP, minP, appOp, rowE, fits, oneF, sealArg, seal1, pureV, scalV, isOwn, hasOwn, bldOf, fillP, litOf, mkM, upM, dlM, mkS, updM, putM, delM, strikeM, findM, mapOf, keyV, vals, keyEq, keyEqs, keyEq1, shapeV, shapes, KD.of, found, zeroPV, isNilMap, ↓reduceIte, Nat.reduceLT, Nat.reduceLeDiff, Nat.reduceAdd, Nat.reduceSub, Nat.reduceMul, Nat.reducePow, Nat.reduceEqDiff, Nat.reduceBEq, Int.reduceLE, Int.reduceLT, Int.reduceToNat, Int.reduceEq, Int.reduceNeg, reduceCtorEq]
    generalize hF : shCode _ _ _ _ _ = F
    generalize hL : shLoop F _ _ = r
    obtain ⟨s', hr, j0, j1, j2, j3, j4, j5, j6, j8, j11, j12, j13, j16, j19, j22, j23, j24, j25, j26, j27, j28, j41, j59, j149, j167, j219, j223, j243, j262, j286, j305, g, rfl⟩ := loop_to hL (x.perm.length) (fun i s => ∃ j0 j1 j2 j8 j11 j12 j13 j16 j19 j22 j25 j27 j28 j41 j59 j149 j167 j219 j223 j243 j262 j286 j305 g, s = ([(0, j0), (1, j1), (2, j2), (3, int done), (4, .box 0 1 0), (5, .box 1 1 0), (6, .box 2 1 0), (8, j8), (9, bool true), (11, j11), (12, j12), (13, j13), (16, j16), (19, j19), (22, j22), (23, ints Q), (24, pBoxes x.boxes), (25, j25), (26, int i), (27, j27), (28, j28), (41, j41), (59, j59), (149, j149), (167, j167), (219, j219), (223, j223), (243, j243), (262, j262), (286, j286), (305, j305)], [⟨1, .box [pKinds x.kinds, pLots x.lots, ints x.perm, pBoxes x.boxes]⟩, ⟨1, .box [int c.misses, int c.strays, int c.error, int c.slip]⟩, ⟨1, .box [int y.kind, int y.a, int y.b, int y.n, ints y.ids]⟩, g])) (.ext 0)
      (fun s => ∃ j0 j1 j2 j3 j4 j5 j6 j8 j11 j12 j13 j16 j19 j22 j23 j24 j25 j26 j27 j28 j41 j59 j149 j167 j219 j223 j243 j262 j286 j305 g, s = ([(0, j0), (1, j1), (2, j2), (3, j3), (4, j4), (5, j5), (6, j6), (8, j8), (9, bool true), (11, j11), (12, j12), (13, j13), (16, j16), (19, j19), (22, j22), (23, j23), (24, j24), (25, j25), (26, j26), (27, j27), (28, j28), (41, j41), (59, j59), (149, j149), (167, j167), (219, j219), (223, j223), (243, j243), (262, j262), (286, j286), (305, j305)], [⟨1, .box [pKinds x.kinds, pLots x.lots, ints x.perm, pBoxes x.boxes]⟩, ⟨1, .box [int c.misses, int c.strays, int c.error, int c.slip]⟩, ⟨1, .box [int y.kind, int y.a, int y.b, int y.n, ints y.ids]⟩, g])) (by simp) (by exact ⟨_, _, _, _, _, _, _, _, _, _, _, _, _, _, _, _, _, _, _, _, _, _, _, _, rfl⟩) (by omega)
      (fun i hi s ⟨j0, j1, j2, j8, j11, j12, j13, j16, j19, j22, j25, j27, j28, j41, j59, j149, j167, j219, j223, j243, j262, j286, j305, g, hs⟩ => by
          have hlt : (i : Int) < (x.perm.length : Nat) := by omega
          have h0 : (0 : Int) ≤ i := by omega
          have hib : i < x.boxes.length := by omega
          have hlb : (i : Int) < x.boxes.length := by omega
          have q1 : x.perm[i]? = some x.perm[i] := List.getElem?_eq_getElem hi
          have q2 : x.boxes[i]? = some x.boxes[i] := List.getElem?_eq_getElem hib
          have q3 := pg i hi
          clear hL
          subst hs hF
          simp -implicitDefEqProofs only [hlt, h0, hlb, q1, q2, k2, E.1, E.2.1, g1, g2, g3, g4, k4', hd1, hPl, Int.reduceEq, Int.toNat_natCast, i64_succ (show i < 2 ^ 63 - 1 by omega), EVB, STB, TF, Option.isSome_some, Option.isSome_none, asgn, binV, nilV, nilEq, seen, valOp, bin, ibin, resOf, resVar, sealR, seal3, seal2, flat, one, cellsOf, cellsAt, newAt, storeG, rowOf, rd, further, over, natIn, vEq, vEqs, shiftV, argEnv, slotsG, slotIx, noOwn, isRowG, keptV, ownFlat, shiftR, shift1, keepR, reloc, relocs, kept, maxP, minP, appOp, rowE, fits, oneF, sealArg, seal1, pureV, scalV, isOwn, hasOwn, bldOf, fillP, litOf, mkM, upM, dlM, mkS, updM, putM, delM, strikeM, findM, mapOf, keyV, vals, keyEq, keyEqs, keyEq1, shapeV, shapes, KD.of, found, zeroPV, isNilMap, ↓reduceIte, Nat.reduceLT, Nat.reduceLeDiff, Nat.reduceAdd, Nat.reduceSub, Nat.reduceMul, Nat.reducePow, Nat.reduceEqDiff, Nat.reduceBEq, Int.reduceLE, Int.reduceLT, Int.reduceToNat, Int.reduceEq, Int.reduceNeg, reduceCtorEq]
          by_cases ia : (i : Int) = y.a; (have q4 : Q[i]? = some x.perm[y.b.toNat] := by rw [q3, if_pos ⟨k4, hdn, ia⟩]); (have ia := eq_true ia; simp -implicitDefEqProofs only [ia, k2, k4', hd1, Int.reduceEq, q4, g6, hb0, hb1, hPl, hlb, q1, q2, h0, hlt, Int.toNat_natCast, i64_succ (show i < 2 ^ 63 - 1 by omega), EVB, STB, TF, Option.isSome_some, Option.isSome_none, asgn, binV, nilV, nilEq, seen, valOp, bin, ibin, resOf, resVar, sealR, seal3, seal2, flat, one, cellsOf, cellsAt, newAt, storeG, rowOf, rd, further, over, natIn, vEq, vEqs, shiftV, argEnv, slotsG, slotIx, noOwn, isRowG, keptV, ownFlat, shiftR, shift1, keepR, reloc, relocs, kept, maxP, minP, appOp, rowE, fits, oneF, sealArg, seal1, pureV, scalV, isOwn, hasOwn, bldOf, fillP, litOf, mkM, upM, dlM, mkS, updM, putM, delM, strikeM, findM, mapOf, keyV, vals, keyEq, keyEqs, keyEq1, shapeV, shapes, KD.of, found, zeroPV, isNilMap, ↓reduceIte, Nat.reduceLT, Nat.reduceLeDiff, Nat.reduceAdd, Nat.reduceSub, Nat.reduceMul, Nat.reducePow, Nat.reduceEqDiff, Nat.reduceBEq, Int.reduceLE, Int.reduceLT, Int.reduceToNat, Int.reduceEq, Int.reduceNeg, reduceCtorEq]; exact ⟨_, rfl, _, _, _, _, _, _, _, _, _, _, _, _, _, _, _, _, _, _, _, _, _, _, _, _, rfl⟩); (by_cases ib : (i : Int) = y.b; (have q4 : Q[i]? = some id := by rw [q3, if_neg (fun h => ia h.2.2), if_pos ⟨k4, hdn, ib⟩]); (have ib := eq_true ib; simp -implicitDefEqProofs only [ia, ib, k2, k4', hd1, q4, g1, hPl, E.1, E.2.1, Int.reduceEq, hlb, q1, q2, h0, hlt, Int.toNat_natCast, i64_succ (show i < 2 ^ 63 - 1 by omega), EVB, STB, TF, Option.isSome_some, Option.isSome_none, asgn, binV, nilV, nilEq, seen, valOp, bin, ibin, resOf, resVar, sealR, seal3, seal2, flat, one, cellsOf, cellsAt, newAt, storeG, rowOf, rd, further, over, natIn, vEq, vEqs, shiftV, argEnv, slotsG, slotIx, noOwn, isRowG, keptV, ownFlat, shiftR, shift1, keepR, reloc, relocs, kept, maxP, minP, appOp, rowE, fits, oneF, sealArg, seal1, pureV, scalV, isOwn, hasOwn, bldOf, fillP, litOf, mkM, upM, dlM, mkS, updM, putM, delM, strikeM, findM, mapOf, keyV, vals, keyEq, keyEqs, keyEq1, shapeV, shapes, KD.of, found, zeroPV, isNilMap, ↓reduceIte, Nat.reduceLT, Nat.reduceLeDiff, Nat.reduceAdd, Nat.reduceSub, Nat.reduceMul, Nat.reducePow, Nat.reduceEqDiff, Nat.reduceBEq, Int.reduceLE, Int.reduceLT, Int.reduceToNat, Int.reduceEq, Int.reduceNeg, reduceCtorEq]; exact ⟨_, rfl, _, _, _, _, _, _, _, _, _, _, _, _, _, _, _, _, _, _, _, _, _, _, _, _, rfl⟩); (have q4 : Q[i]? = some x.perm[i] := by rw [q3, if_neg (fun h => ia h.2.2), if_neg (fun h => ib h.2.2)]); (simp -implicitDefEqProofs only [ia, ib, k2, k4', hd1, q4, hPl, Int.reduceEq, hlb, q1, q2, h0, hlt, Int.toNat_natCast, i64_succ (show i < 2 ^ 63 - 1 by omega), EVB, STB, TF, Option.isSome_some, Option.isSome_none, asgn, binV, nilV, nilEq, seen, valOp, bin, ibin, resOf, resVar, sealR, seal3, seal2, flat, one, cellsOf, cellsAt, newAt, storeG, rowOf, rd, further, over, natIn, vEq, vEqs, shiftV, argEnv, slotsG, slotIx, noOwn, isRowG, keptV, ownFlat, shiftR, shift1, keepR, reloc, relocs, kept, maxP, minP, appOp, rowE, fits, oneF, sealArg, seal1, pureV, scalV, isOwn, hasOwn, bldOf, fillP, litOf, mkM, upM, dlM, mkS, updM, putM, delM, strikeM, findM, mapOf, keyV, vals, keyEq, keyEqs, keyEq1, shapeV, shapes, KD.of, found, zeroPV, isNilMap, ↓reduceIte, Nat.reduceLT, Nat.reduceLeDiff, Nat.reduceAdd, Nat.reduceSub, Nat.reduceMul, Nat.reducePow, Nat.reduceEqDiff, Nat.reduceBEq, Int.reduceLE, Int.reduceLT, Int.reduceToNat, Int.reduceEq, Int.reduceNeg, reduceCtorEq]; exact ⟨_, rfl, _, _, _, _, _, _, _, _, _, _, _, _, _, _, _, _, _, _, _, _, _, _, _, _, rfl⟩)))
      (fun s ⟨j0, j1, j2, j8, j11, j12, j13, j16, j19, j22, j25, j27, j28, j41, j59, j149, j167, j219, j223, j243, j262, j286, j305, g, hs⟩ => by
          clear hL
          subst hs hF
          simp -implicitDefEqProofs only [Int.lt_irrefl, hPl, EVB, STB, TF, Option.isSome_some, Option.isSome_none, asgn, binV, nilV, nilEq, seen, valOp, bin, ibin, resOf, resVar, sealR, seal3, seal2, flat, one, cellsOf, cellsAt, newAt, storeG, rowOf, rd, further, over, natIn, vEq, vEqs, shiftV, argEnv, slotsG, slotIx, noOwn, isRowG, keptV, ownFlat, shiftR, shift1, keepR, reloc, relocs, kept, maxP, minP, appOp, rowE, fits, oneF, sealArg, seal1, pureV, scalV, isOwn, hasOwn, bldOf, fillP, litOf, mkM, upM, dlM, mkS, updM, putM, delM, strikeM, findM, mapOf, keyV, vals, keyEq, keyEqs, keyEq1, shapeV, shapes, KD.of, found, zeroPV, isNilMap, ↓reduceIte, Nat.reduceLT, Nat.reduceLeDiff, Nat.reduceAdd, Nat.reduceSub, Nat.reduceMul, Nat.reducePow, Nat.reduceEqDiff, Nat.reduceBEq, Int.reduceLE, Int.reduceLT, Int.reduceToNat, Int.reduceEq, Int.reduceNeg, reduceCtorEq]
          exact ⟨_, rfl, _, _, _, _, _, _, _, _, _, _, _, _, _, _, _, _, _, _, _, _, _, _, _, _, _, _, _, _, _, _, _, rfl⟩)
    rw [hr]
    simp -implicitDefEqProofs only [EVB, STB, TF, Option.isSome_some, Option.isSome_none, asgn, binV, nilV, nilEq, seen, valOp, bin, ibin, resOf, resVar, sealR, seal3, seal2, flat, one, cellsOf, cellsAt, newAt, storeG, rowOf, rd, further, over, natIn, vEq, vEqs, shiftV, argEnv, slotsG, slotIx, noOwn, isRowG, keptV, ownFlat, shiftR, shift1, keepR, reloc, relocs, kept, maxP, minP, appOp, rowE, fits, oneF, sealArg, seal1, pureV, scalV, isOwn, hasOwn, bldOf, fillP, litOf, mkM, upM, dlM, mkS, updM, putM, delM, strikeM, findM, mapOf, keyV, vals, keyEq, keyEqs, keyEq1, shapeV, shapes, KD.of, found, zeroPV, isNilMap, ↓reduceIte, Nat.reduceLT, Nat.reduceLeDiff, Nat.reduceAdd, Nat.reduceSub, Nat.reduceMul, Nat.reducePow, Nat.reduceEqDiff, Nat.reduceBEq, Int.reduceLE, Int.reduceLT, Int.reduceToNat, Int.reduceEq, Int.reduceNeg, reduceCtorEq]
theorem SightAfter_sh (x : GStore) (c : GSenses) (y : GSight) (done : Int) (h0 : x.Ok) (h1 : c.Ok) (h3 : y.Ok) (h4 : (Lit.int .i64 done).wf = true) : shFn (X ext0) 13 5 [x.enc, c.enc, y.enc, int done] [] = some (bool true, []) :=
  after_run x c y done (by have := h3.2.2.2.2.1; omega)
end Go.Proofs.Ythmlfonbfnmalaa.Sh
