/- What right truths are like, and SightGrows by the shadow run. No condition. -/
import Derived.Test.YthmlfonbfnmalaaLC
namespace Go.Proofs.Ythmlfonbfnmalaa.Sh
open Go.RowKit
set_option maxRecDepth 100000
set_option maxHeartbeats 2000000
set_option linter.unusedSimpArgs false
set_option linter.unusedVariables false
theorem len_le_of_sub : ∀ {L M : List Int}, L.Nodup → (∀ x ∈ L, x ∈ M) → L.length ≤ M.length
  | [], M, _, _ => Nat.zero_le _
  | a :: L, M, hn, hs => by
    have ha : a ∈ M := hs a (by simp)
    have hn' := List.nodup_cons.1 hn
    have h1 : L.length ≤ (M.erase a).length := len_le_of_sub hn'.2 fun x hx => (List.mem_erase_of_ne (fun h : x = a => hn'.1 (h ▸ hx))).2 (hs x (by simp [hx]))
    have h2 := List.length_erase_of_mem ha
    have h3 := List.length_pos_of_mem ha
    simp only [List.length_cons]
    omega
theorem range_nodup (n : Nat) : ((List.range n).map fun i : Nat => (i : Int)).Nodup := by
  refine List.Pairwise.map _ (fun a b h => ?_) List.nodup_range
  omega
/-- A list with all numbers below its length has no others. -/
theorem perm_range {l : List Int} (h : ∀ i < l.length, (i : Int) ∈ l) : ∀ x ∈ l, 0 ≤ x ∧ x < l.length := by
  intro x hx
  refine Classical.byContradiction fun hn => ?_
  have h1 : ((List.range l.length).map fun i : Nat => (i : Int)).length ≤ (l.erase x).length := len_le_of_sub (range_nodup _) fun y hy => by
    obtain ⟨i, hi, rfl⟩ := List.mem_map.1 hy
    have hi := List.mem_range.1 hi
    exact (List.mem_erase_of_ne (fun e => hn (by omega))).2 (h i hi)
  have h2 := List.length_erase_of_mem hx
  have h3 := List.length_pos_of_mem hx
  simp only [List.length_map, List.length_range] at h1
  omega
structure RightStore (x : GStore) (c : GSenses) (most : Int) : Prop where
  one : 1 ≤ x.perm.length
  most : x.perm.length ≤ most
  same : x.perm.length = x.boxes.length
  nk : x.kinds.length ≤ 10
  nl : x.lots.length ≤ 10
  sens : c.ok = true
  perm : ∀ y ∈ x.perm, 0 ≤ y ∧ y < x.perm.length
  all : ∀ i < x.perm.length, (i : Int) ∈ x.perm
  kinds : ∀ k ∈ x.kinds, 0 ≤ k.weight ∧ k.weight ≤ 1048576
  lots : ∀ l ∈ x.lots, 0 ≤ l.kind ∧ l.kind < x.kinds.length
  boxes : ∀ b ∈ x.boxes, -1 ≤ b.lot ∧ b.lot < x.lots.length ∧ 0 ≤ b.count ∧ b.count ≤ 20000 ∧ (b.lot = -1 → b.count = 0) ∧ 0 ≤ b.tare ∧ b.tare ≤ 1073741824
theorem right_of {x : GStore} {c : GSenses} {m : Int} (h : fitsB x c m = true) : RightStore x c m := by
  simp only [fitsB, truthB, Bool.and_eq_true, decide_eq_true_eq, List.all_eq_true, List.mem_range] at h
  obtain ⟨⟨⟨⟨⟨⟨h1, h2⟩, h3⟩, h4⟩, h5⟩, h6⟩, ⟨⟨⟨h7, h8⟩, h9⟩, h10⟩, h11⟩ := h
  have hall : ∀ i < x.perm.length, (i : Int) ∈ x.perm := fun i hi => by
    have := h8 i hi
    simpa using this
  refine ⟨by omega, h2, h7, by omega, by omega, h6, perm_range hall, hall, fun k hk => ?_, fun l hl => ?_, fun b hb => ?_⟩
  · have := h9 k hk
    simp only [kindOk, Bool.not_eq_true', Bool.or_eq_false_iff, decide_eq_false_iff_not] at this
    omega
  · have := h10 l hl
    simp only [lotOk, Bool.not_eq_true', Bool.or_eq_false_iff, decide_eq_false_iff_not] at this
    omega
  · have := h11 b hb
    simp only [boxOk, Bool.not_eq_true', Bool.or_eq_false_iff, Bool.and_eq_false_iff, Bool.not_eq_false', decide_eq_true_eq, decide_eq_false_iff_not] at this
    omega
theorem sens_of {c : GSenses} (h : c.ok = true) : (0 ≤ c.misses ∧ c.misses ≤ 1048576) ∧ (0 ≤ c.strays ∧ c.strays ≤ 1048576) ∧ (0 ≤ c.error ∧ c.error ≤ 1048576) ∧ 0 ≤ c.slip ∧ c.slip ≤ 1048576 := by
  simp only [GSenses.ok, Bool.and_eq_true, decide_eq_true_eq] at h
  omega
/-- The identity and the box of a body. -/
theorem at_of {x : GStore} {c : GSenses} {m : Int} (h : RightStore x c m) {a : Int} (h0 : 0 ≤ a) (h1 : a < x.perm.length) :
    ∃ id b, x.perm[a.toNat]? = some id ∧ 0 ≤ id ∧ id < x.boxes.length ∧ x.boxes[id.toNat]? = some b ∧ b ∈ x.boxes := by
  have ha : a.toNat < x.perm.length := by omega
  have hp := h.perm _ (List.getElem_mem ha)
  have hs := h.same
  have hb : x.perm[a.toNat].toNat < x.boxes.length := by omega
  exact ⟨x.perm[a.toNat], x.boxes[x.perm[a.toNat].toNat], List.getElem?_eq_getElem ha, hp.1, by omega, List.getElem?_eq_getElem hb, List.getElem_mem hb⟩
theorem evid_of {n : Int} {s : GSight} (hn : 1 ≤ n) (hn2 : n ≤ 2 ^ 40) (h : rightB n s = true) : 0 ≤ s.a ∧ s.a < n ∧ (s.kind = 4 → s.a < s.b ∧ s.b < n) ∧ (s.kind = 1 ∨ s.kind = 2 ∨ s.kind = 3 → 0 ≤ s.n ∧ s.n ≤ 1099511627776) ∧ (s.kind = 5 → 0 ≤ s.n ∧ s.n < n) := by
  unfold rightB at h
  have hw : w64 (n - 1) = n - 1 := i64_id (by omega) (by omega)
  rw [hw] at h
  split at h
  · cases h
  · rename_i h1
    have h2 : 0 ≤ s.a ∧ s.a ≤ n - 1 := Classical.byContradiction fun hc => h1 (.inr (.inl hc))
    have hw2 : w64 (s.a + 1) = s.a + 1 := i64_id (by omega) (by omega)
    rw [hw2] at h
    simp only [inB] at h
    refine ⟨h2.1, by omega, fun k => ?_, fun k => ?_, fun k => ?_⟩
    · simp [k] at h; omega
    · rcases k with k | k | k <;> · simp [k] at h; omega
    · simp [k] at h; omega
/-- GSenses at least as good as both. -/
def GSenses.both (c d : GSenses) : GSenses := ⟨max c.misses d.misses, max c.strays d.strays, max c.error d.error, max c.slip d.slip⟩
theorem agrees_grows {c d e : GSenses} (hc : c.ok = true) (hd : d.ok = true) (e1 : e.strays = max c.strays d.strays) (e2 : e.error = max c.error d.error) (e3 : e.slip = max c.slip d.slip) {n : Int} {ks : List GKind} {ls : List GLot} {id : Int} {b : GBox} {s : GSight} (hn : 1 ≤ n) (hn2 : n ≤ 2 ^ 40) (hs : rightB n s = true)
    (h : (agreesAt c ks ls id b s).2 = true) : (agreesAt e ks ls id b s).2 = true ∧ (agreesAt c ks ls id b s).1 = (agreesAt e ks ls id b s).1 := by
  have hc := sens_of hc
  have hd := sens_of hd
  have he := evid_of hn hn2 hs
  unfold agreesAt at h ⊢
  by_cases k0 : s.kind = 0
  · rw [if_pos k0] at h ⊢
    rw [if_pos k0]
    by_cases hi : s.ids.contains id = true
    · rw [if_pos hi] at h ⊢
      rw [if_pos hi]
      by_cases hw : c.strays < w64 ((s.ids.length : Int) - 1)
      · rw [if_pos hw] at h; cases h
      · rw [if_neg hw, if_neg (by omega)]; exact ⟨rfl, rfl⟩
    · rw [if_neg hi] at h ⊢
      rw [if_neg hi]
      by_cases hw : c.strays < (s.ids.length : Int)
      · rw [if_pos hw] at h; cases h
      · rw [if_neg hw, if_neg (by omega)]; exact ⟨rfl, rfl⟩
  by_cases k1 : s.kind = 1
  · have := he.2.2.2.1 (.inl k1)
    rw [if_neg k0, if_pos k1] at h ⊢
    rw [if_neg k0, if_pos k1]
    simp only [inB, Bool.and_eq_true, decide_eq_true_eq] at h ⊢
    rw [show w64 (s.n - c.error) = s.n - c.error from i64_id (by omega) (by omega), show w64 (s.n + c.error) = s.n + c.error from i64_id (by omega) (by omega)] at h
    rw [show w64 (s.n - e.error) = s.n - e.error from i64_id (by omega) (by omega), show w64 (s.n + e.error) = s.n + e.error from i64_id (by omega) (by omega)]
    refine ⟨⟨by omega, by omega⟩, trivial⟩
  by_cases k2 : s.kind = 2
  · have := he.2.2.2.1 (.inr (.inl k2))
    rw [if_neg k0, if_neg k1, if_pos k2] at h ⊢
    rw [if_neg k0, if_neg k1, if_pos k2]
    simp only [decide_eq_true_eq] at h ⊢
    rw [show w64 (s.n - c.slip) = s.n - c.slip from i64_id (by omega) (by omega)] at h
    rw [show w64 (s.n - e.slip) = s.n - e.slip from i64_id (by omega) (by omega)]
    exact ⟨by omega, trivial⟩
  rw [if_neg k0, if_neg k1, if_neg k2] at h ⊢
  rw [if_neg k0, if_neg k1, if_neg k2]
  exact ⟨h, rfl⟩
theorem can_grows {c d e : GSenses} (hc : c.ok = true) (hd : d.ok = true) (e3 : e.slip = max c.slip d.slip) {n : Int} {b : GBox} {s : GSight} {done : Int} (hn : 1 ≤ n) (hn2 : n ≤ 2 ^ 40) (hs : rightB n s = true) (h : canB c b s done = true) : canB e b s done = true := by
  have hc := sens_of hc
  have hd := sens_of hd
  have he := evid_of hn hn2 hs
  unfold canB at h ⊢
  by_cases k2 : s.kind = 2
  · have := he.2.2.2.1 (.inr (.inl k2))
    rw [if_pos k2] at h ⊢
    simp only [Bool.and_eq_true, decide_eq_true_eq] at h ⊢
    rw [show IntKind.i64.wrap (s.n - c.slip) = s.n - c.slip from i64_id (by omega) (by omega), show IntKind.i64.wrap (s.n + c.slip) = s.n + c.slip from i64_id (by omega) (by omega)] at h
    rw [show IntKind.i64.wrap (s.n - e.slip) = s.n - e.slip from i64_id (by omega) (by omega), show IntKind.i64.wrap (s.n + e.slip) = s.n + e.slip from i64_id (by omega) (by omega)]
    omega
  · rw [if_neg k2] at h ⊢
    exact h
/-- What After hands back: whether something can have been done. -/
theorem after_tells (d : Nat) (c : GSenses) (ks : List GKind) (ls : List GLot) (perm : List Int) (bs : List GBox) (s : GSight) (done : Int) (id : Int) (b : GBox)
    (h0 : 0 ≤ s.a) (h1 : s.a < perm.length) (h2 : perm[s.a.toNat]? = some id) (h3 : 0 ≤ id) (h4 : id < bs.length) (h5 : bs[id.toNat]? = some b) (h6 : s.ids.length < 2 ^ 63) (h7 : b.lot < ls.length) (h8 : ∀ l ∈ ls, 0 ≤ l.kind ∧ l.kind < ks.length)
    (h9 : s.kind = 4 → s.a < s.b ∧ s.b < perm.length) (hp : perm.length < 2 ^ 40) (hb : bs.length < 2 ^ 40) :
    ∃ p l, (((agreesAt c ks ls id b s).2 && canB c b s done) = false ∧ p = .emp ∧ l = .emp ∨ ((agreesAt c ks ls id b s).2 && canB c b s done) = true ∧ ∃ q q', p = .row 1 q ∧ l = .row 3 q') ∧ shFn (X ext0) (d + 4) 11 [c.enc, pKinds ks, pLots ls, ints perm, pBoxes bs, s.enc, int done] [] = some (.tup [p, l, bool ((agreesAt c ks ls id b s).2 && canB c b s done)], []) := by
  cases hc : (agreesAt c ks ls id b s).2 && canB c b s done with
  | false => exact ⟨_, _, .inl ⟨rfl, rfl, rfl⟩, after_no d c ks ls perm bs s done id b h0 h1 h2 h3 h4 h5 h6 h7 h8 hc⟩
  | true => exact ⟨_, _, .inr ⟨rfl, _, _, rfl, rfl⟩, after_yes d c ks ls perm bs s done id b h0 h1 h2 h3 h4 h5 h6 h7 h8 h9 hp hb hc⟩
theorem grows_run (x : GStore) (c more : GSenses) (s : GSight) (done : Int) (hl : s.ids.length < 2 ^ 63) : shFn (X ext0) 13 3 [x.enc, c.enc, more.enc, s.enc, int done] [] = some (bool true, []) := by
  rw [enter3 rfl _ _ _ (by simp)]
  have e0 := small_sh
  have e1 := fits_sh 9 x c 8 (by omega)
  have e2 := senses_sh 11 more
  have e3 := right_sh 9 x.perm.length s hl
  simp only [Nat.reduceAdd] at e1 e2 e3
  cases hf : fitsB x c 8 with
  | false =>
    rw [hf] at e1
    simp -implicitDefEqProofs only [c3, Try.f3, e0, e1, EVB, STB, TF, Option.isSome_some, Option.isSome_none, asgn, binV, nilV, nilEq, seen, valOp, bin, ibin, resOf, resVar, sealR, seal3, seal2, flat, one, cellsOf, cellsAt, newAt, storeG, rowOf, rd, further, over, natIn, vEq, vEqs, shiftV, argEnv, slotsG, slotIx, noOwn, isRowG, keptV, ownFlat, shiftR, shift1, keepR, reloc, relocs, kept, maxP, minP, appOp, rowE, fits, oneF, sealArg, seal1, pureV, scalV, isOwn, hasOwn, bldOf, fillP, litOf, mkM, upM, dlM, mkS, updM, putM, delM, strikeM, findM, mapOf, keyV, vals, keyEq, keyEqs, keyEq1, shapeV, shapes, KD.of, found, zeroPV, isNilMap, ↓reduceIte, Nat.reduceLT, Nat.reduceLeDiff, Nat.reduceAdd, Nat.reduceSub, Nat.reduceMul, Nat.reducePow, Nat.reduceEqDiff, Nat.reduceBEq, Int.reduceLE, Int.reduceLT, Int.reduceToNat, Int.reduceEq, Int.reduceNeg, reduceCtorEq]
  | true =>
  rw [hf] at e1
  cases hm : more.ok with
  | false =>
    rw [hm] at e2
    simp -implicitDefEqProofs only [c3, Try.f3, e0, e1, e2, EVB, STB, TF, Option.isSome_some, Option.isSome_none, asgn, binV, nilV, nilEq, seen, valOp, bin, ibin, resOf, resVar, sealR, seal3, seal2, flat, one, cellsOf, cellsAt, newAt, storeG, rowOf, rd, further, over, natIn, vEq, vEqs, shiftV, argEnv, slotsG, slotIx, noOwn, isRowG, keptV, ownFlat, shiftR, shift1, keepR, reloc, relocs, kept, maxP, minP, appOp, rowE, fits, oneF, sealArg, seal1, pureV, scalV, isOwn, hasOwn, bldOf, fillP, litOf, mkM, upM, dlM, mkS, updM, putM, delM, strikeM, findM, mapOf, keyV, vals, keyEq, keyEqs, keyEq1, shapeV, shapes, KD.of, found, zeroPV, isNilMap, ↓reduceIte, Nat.reduceLT, Nat.reduceLeDiff, Nat.reduceAdd, Nat.reduceSub, Nat.reduceMul, Nat.reducePow, Nat.reduceEqDiff, Nat.reduceBEq, Int.reduceLE, Int.reduceLT, Int.reduceToNat, Int.reduceEq, Int.reduceNeg, reduceCtorEq]
  | true =>
  rw [hm] at e2
  cases hr : rightB x.perm.length s with
  | false =>
    rw [hr] at e3
    simp -implicitDefEqProofs only [c3, Try.f3, e0, e1, e2, e3, EVB, STB, TF, Option.isSome_some, Option.isSome_none, asgn, binV, nilV, nilEq, seen, valOp, bin, ibin, resOf, resVar, sealR, seal3, seal2, flat, one, cellsOf, cellsAt, newAt, storeG, rowOf, rd, further, over, natIn, vEq, vEqs, shiftV, argEnv, slotsG, slotIx, noOwn, isRowG, keptV, ownFlat, shiftR, shift1, keepR, reloc, relocs, kept, maxP, minP, appOp, rowE, fits, oneF, sealArg, seal1, pureV, scalV, isOwn, hasOwn, bldOf, fillP, litOf, mkM, upM, dlM, mkS, updM, putM, delM, strikeM, findM, mapOf, keyV, vals, keyEq, keyEqs, keyEq1, shapeV, shapes, KD.of, found, zeroPV, isNilMap, ↓reduceIte, Nat.reduceLT, Nat.reduceLeDiff, Nat.reduceAdd, Nat.reduceSub, Nat.reduceMul, Nat.reducePow, Nat.reduceEqDiff, Nat.reduceBEq, Int.reduceLE, Int.reduceLT, Int.reduceToNat, Int.reduceEq, Int.reduceNeg, reduceCtorEq]
  | true =>
  rw [hr] at e3
  have R := right_of hf
  have hone := R.one
  have hmost := R.most
  have hsame := R.same
  have E := evid_of (n := x.perm.length) (by omega) (by omega) hr
  obtain ⟨id, b, g1, g2, g3, g4, g5⟩ := at_of R E.1 E.2.1
  have hb := R.boxes b g5
  have a1 := agrees_sh 9 c x.kinds x.lots x.perm x.boxes s id b E.1 E.2.1 g1 g2 g3 g4 hl hb.2.1 R.lots
  have a2 := agrees_sh 9 (c.both more) x.kinds x.lots x.perm x.boxes s id b E.1 E.2.1 g1 g2 g3 g4 hl hb.2.1 R.lots
  obtain ⟨p1, l1, hp1, b1⟩ := after_tells 8 c x.kinds x.lots x.perm x.boxes s done id b E.1 E.2.1 g1 g2 g3 g4 hl hb.2.1 R.lots E.2.2.1 (by omega) (by omega)
  obtain ⟨p2, l2, hp2, b2⟩ := after_tells 8 (c.both more) x.kinds x.lots x.perm x.boxes s done id b E.1 E.2.1 g1 g2 g3 g4 hl hb.2.1 R.lots E.2.2.1 (by omega) (by omega)
  have m1 : (agreesAt c x.kinds x.lots id b s).2 = true → _ := agrees_grows R.sens hm (e := c.both more) rfl rfl rfl (n := x.perm.length) (by omega) (by omega) hr
  have m2 : canB c b s done = true → _ := can_grows R.sens hm (e := c.both more) rfl (n := x.perm.length) (by omega) (by omega) hr
  have m3 : ((agreesAt c x.kinds x.lots id b s).2 && canB c b s done) = true → ((agreesAt (c.both more) x.kinds x.lots id b s).2 && canB (c.both more) b s done) = true := fun h => by
    simp only [Bool.and_eq_true] at h ⊢
    exact ⟨(m1 h.1).1, m2 h.2⟩
  clear m2
  generalize ((agreesAt c x.kinds x.lots id b s).2 && canB c b s done) = v1 at *
  generalize ((agreesAt (c.both more) x.kinds x.lots id b s).2 && canB (c.both more) b s done) = v2 at *
  generalize agreesAt c x.kinds x.lots id b s = u1 at *
  generalize agreesAt (c.both more) x.kinds x.lots id b s = u2 at *
  simp only [GSenses.both, Nat.reduceAdd] at a1 a2 b1 b2
  obtain ⟨n1, o1⟩ := u1
  obtain ⟨n2, o2⟩ := u2
  simp only at a1 a2 b1 b2 m1
  have fin : ∀ {o1 o2 : Bool}, shFn (X ext0) 12 10 [c.enc, pKinds x.kinds, pLots x.lots, ints x.perm, pBoxes x.boxes, s.enc] [] = some (.tup [int n1, bool o1], []) →
      shFn (X ext0) 12 10 [PV.agg [int (max c.misses more.misses), int (max c.strays more.strays), int (max c.error more.error), int (max c.slip more.slip)], pKinds x.kinds, pLots x.lots, ints x.perm, pBoxes x.boxes, s.enc] [] = some (.tup [int n2, bool o2], []) →
      shFn (X ext0) 12 11 [c.enc, pKinds x.kinds, pLots x.lots, ints x.perm, pBoxes x.boxes, s.enc, int done] [] = some (.tup [p1, l1, bool v1], []) →
      shFn (X ext0) 12 11 [PV.agg [int (max c.misses more.misses), int (max c.strays more.strays), int (max c.error more.error), int (max c.slip more.slip)], pKinds x.kinds, pLots x.lots, ints x.perm, pBoxes x.boxes, s.enc, int done] [] = some (.tup [p2, l2, bool v2], []) →
      (o1 = true → o2 = true ∧ n1 = n2) → (v1 = true → v2 = true) → fin Try.prog Try.f3 false 0 (shCode ⟨Try.prog, eqKinds, 0, [5, 6, 7, 8, 12], shFn (X ext0) 12, []⟩ 143 (annOf 3).1 (2 ^ 64) c3 (argEnv [x.enc, c.enc, more.enc, s.enc, int done] 0, slotsG [5, 6, 7, 8, 12])) = some (bool true, []) := fun {o1 o2} a1 a2 b1 b2 m1 m2 => by
    cases o1 with
    | true =>
      obtain ⟨rfl, rfl⟩ := m1 rfl
      rcases hp1 with ⟨rfl, rfl, rfl⟩ | ⟨rfl, q, q', rfl, rfl⟩
      · rcases hp2 with ⟨rfl, rfl, rfl⟩ | ⟨rfl, r, r', rfl, rfl⟩ <;> simp -implicitDefEqProofs only [c3, Try.f3, annOf, e0, e1, e2, e3, a1, a2, b1, b2, max_if, EVB, STB, TF, Option.isSome_some, Option.isSome_none, asgn, binV, nilV, nilEq, seen, valOp, bin, ibin, resOf, resVar, sealR, seal3, seal2, flat, one, cellsOf, cellsAt, newAt, storeG, rowOf, rd, further, over, natIn, vEq, vEqs, shiftV, argEnv, slotsG, slotIx, noOwn, isRowG, keptV, ownFlat, shiftR, shift1, keepR, reloc, relocs, kept, maxP, minP, appOp, rowE, fits, oneF, sealArg, seal1, pureV, scalV, isOwn, hasOwn, bldOf, fillP, litOf, mkM, upM, dlM, mkS, updM, putM, delM, strikeM, findM, mapOf, keyV, vals, keyEq, keyEqs, keyEq1, shapeV, shapes, KD.of, found, zeroPV, isNilMap, ↓reduceIte, Nat.reduceLT, Nat.reduceLeDiff, Nat.reduceAdd, Nat.reduceSub, Nat.reduceMul, Nat.reducePow, Nat.reduceEqDiff, Nat.reduceBEq, Int.reduceLE, Int.reduceLT, Int.reduceToNat, Int.reduceEq, Int.reduceNeg, reduceCtorEq]
      · obtain rfl := m2 rfl
        rcases hp2 with ⟨h, rfl, rfl⟩ | ⟨_, r, r', rfl, rfl⟩
        · cases h
        · simp -implicitDefEqProofs only [c3, Try.f3, annOf, e0, e1, e2, e3, a1, a2, b1, b2, max_if, EVB, STB, TF, Option.isSome_some, Option.isSome_none, asgn, binV, nilV, nilEq, seen, valOp, bin, ibin, resOf, resVar, sealR, seal3, seal2, flat, one, cellsOf, cellsAt, newAt, storeG, rowOf, rd, further, over, natIn, vEq, vEqs, shiftV, argEnv, slotsG, slotIx, noOwn, isRowG, keptV, ownFlat, shiftR, shift1, keepR, reloc, relocs, kept, maxP, minP, appOp, rowE, fits, oneF, sealArg, seal1, pureV, scalV, isOwn, hasOwn, bldOf, fillP, litOf, mkM, upM, dlM, mkS, updM, putM, delM, strikeM, findM, mapOf, keyV, vals, keyEq, keyEqs, keyEq1, shapeV, shapes, KD.of, found, zeroPV, isNilMap, ↓reduceIte, Nat.reduceLT, Nat.reduceLeDiff, Nat.reduceAdd, Nat.reduceSub, Nat.reduceMul, Nat.reducePow, Nat.reduceEqDiff, Nat.reduceBEq, Int.reduceLE, Int.reduceLT, Int.reduceToNat, Int.reduceEq, Int.reduceNeg, reduceCtorEq]
    | false =>
      rcases hp1 with ⟨rfl, rfl, rfl⟩ | ⟨rfl, q, q', rfl, rfl⟩
      · rcases hp2 with ⟨rfl, rfl, rfl⟩ | ⟨rfl, r, r', rfl, rfl⟩ <;> simp -implicitDefEqProofs only [c3, Try.f3, annOf, e0, e1, e2, e3, a1, a2, b1, b2, max_if, EVB, STB, TF, Option.isSome_some, Option.isSome_none, asgn, binV, nilV, nilEq, seen, valOp, bin, ibin, resOf, resVar, sealR, seal3, seal2, flat, one, cellsOf, cellsAt, newAt, storeG, rowOf, rd, further, over, natIn, vEq, vEqs, shiftV, argEnv, slotsG, slotIx, noOwn, isRowG, keptV, ownFlat, shiftR, shift1, keepR, reloc, relocs, kept, maxP, minP, appOp, rowE, fits, oneF, sealArg, seal1, pureV, scalV, isOwn, hasOwn, bldOf, fillP, litOf, mkM, upM, dlM, mkS, updM, putM, delM, strikeM, findM, mapOf, keyV, vals, keyEq, keyEqs, keyEq1, shapeV, shapes, KD.of, found, zeroPV, isNilMap, ↓reduceIte, Nat.reduceLT, Nat.reduceLeDiff, Nat.reduceAdd, Nat.reduceSub, Nat.reduceMul, Nat.reducePow, Nat.reduceEqDiff, Nat.reduceBEq, Int.reduceLE, Int.reduceLT, Int.reduceToNat, Int.reduceEq, Int.reduceNeg, reduceCtorEq]
      · obtain rfl := m2 rfl
        rcases hp2 with ⟨h, rfl, rfl⟩ | ⟨_, r, r', rfl, rfl⟩
        · cases h
        · simp -implicitDefEqProofs only [c3, Try.f3, annOf, e0, e1, e2, e3, a1, a2, b1, b2, max_if, EVB, STB, TF, Option.isSome_some, Option.isSome_none, asgn, binV, nilV, nilEq, seen, valOp, bin, ibin, resOf, resVar, sealR, seal3, seal2, flat, one, cellsOf, cellsAt, newAt, storeG, rowOf, rd, further, over, natIn, vEq, vEqs, shiftV, argEnv, slotsG, slotIx, noOwn, isRowG, keptV, ownFlat, shiftR, shift1, keepR, reloc, relocs, kept, maxP, minP, appOp, rowE, fits, oneF, sealArg, seal1, pureV, scalV, isOwn, hasOwn, bldOf, fillP, litOf, mkM, upM, dlM, mkS, updM, putM, delM, strikeM, findM, mapOf, keyV, vals, keyEq, keyEqs, keyEq1, shapeV, shapes, KD.of, found, zeroPV, isNilMap, ↓reduceIte, Nat.reduceLT, Nat.reduceLeDiff, Nat.reduceAdd, Nat.reduceSub, Nat.reduceMul, Nat.reducePow, Nat.reduceEqDiff, Nat.reduceBEq, Int.reduceLE, Int.reduceLT, Int.reduceToNat, Int.reduceEq, Int.reduceNeg, reduceCtorEq]
  exact fin a1 a2 b1 b2 m1 m3
theorem SightGrows_sh (x : GStore) (c more : GSenses) (s : GSight) (done : Int) (h0 : x.Ok) (h1 : c.Ok) (h2 : more.Ok) (h3 : s.Ok) (h4 : (Lit.int .i64 done).wf = true) : shFn (X ext0) 13 3 [x.enc, c.enc, more.enc, s.enc, int done] [] = some (bool true, []) :=
  grows_run x c more s done (by have := h3.2.2.2.2.1; omega)
end Go.Proofs.Ythmlfonbfnmalaa.Sh
