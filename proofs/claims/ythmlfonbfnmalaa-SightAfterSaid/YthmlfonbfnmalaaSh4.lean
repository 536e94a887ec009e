/- A run of the program over values without memory, and that what it says holds of the program's own run. No condition. -/
import Derived.Test.YthmlfonbfnmalaaSh3
namespace Go.Proofs.Ythmlfonbfnmalaa.Sh
open Go.RowKit
set_option linter.unusedVariables false
set_option linter.unusedSimpArgs false
section
variable {P : Program} {E : TypeId → Option (List Nat)} {N0 : Nat → Prop} {lv : List Nat} {ρ : List RR} {G : List GO} {w : World} {e : Operand → PV} {σ : Operand → Value} {o : Oper} {pv : PV}

theorem addr_add (b o j : Nat) : (⟨b, o, none⟩ : Addr).add j = ⟨b, o + j, none⟩ := by unfold Addr.add; split <;> simp_all
theorem rd_sim {n : Nat} {t : TypeId} {d : TypeDesc} (hd : P.underlying t = some d) (hn : szOf P t = some n) {cs : List PV} {b off : Nat} {f : Nat → Value} (h : rd n (aggOf P t) cs = some pv)
    (hc : CellsAre (Pr N0 ρ) w ρ cs b off f) : ∃ v, (loadVar t ⟨b, off, none⟩).run P w = .ok v w ∧ RV (Pr N0 ρ) w ρ pv v := by
  unfold rd at h
  by_cases ha : aggOf P t = true
  · rw [if_pos ha] at h
    split at h
    · rename_i hle
      simp only [Option.some.injEq] at h
      subst h
      have hl : (loadCells ⟨b, off, none⟩ n).run P w = .ok ((List.range n).map f).toArray w :=
        run_loadCells w ⟨b, off, none⟩ n f (fun j hj => by rw [addr_add]; exact hc.cell j (by omega))
      refine ⟨.agg ((List.range n).map f).toArray, ?_, .agg (by simp; omega) fun j pv hj => ?_⟩
      · simp [loadVar, run_agg hd, ha, run_size hn, hl]
      · rw [List.getElem?_take] at hj
        split at hj
        · rename_i hjn
          have := hc.el j pv hj
          simpa [hjn] using this
        · cases hj
    · cases h
  · rw [if_neg ha] at h
    have h0 : 0 < cs.length := (List.getElem?_eq_some_iff.1 h).1
    refine ⟨f 0, ?_, hc.el 0 pv h⟩
    have := hc.cell 0 h0
    simp only [Nat.add_zero] at this
    simp [loadVar, run_agg hd, ha, this]

theorem natIn_sim {x : Option Operand} {dflt m r : Nat} (h : natIn (x.map e) dflt m = some r) (he : ∀ x, RV (Pr N0 ρ) w ρ (e x) (σ x)) (hd : dflt ≤ m) :
    r ≤ m ∧ ((x = none ∧ r = dflt) ∨ ∃ y k, x = some y ∧ σ y = .int k r) := by
  cases x with
  | none =>
    simp only [Option.map_none, natIn, Option.some.injEq] at h
    subst h
    exact ⟨hd, .inl ⟨rfl, rfl⟩⟩
  | some y =>
    simp only [Option.map_some] at h
    have hy := he y
    generalize hg : e y = q at h hy
    unfold natIn at h
    split at h
    · rename_i hh
      cases hh
    · rename_i k i hh
      cases hh
      split at h
      · rename_i hb
        simp only [Option.some.injEq] at h
        subst h
        generalize hs : σ y = u at hy
        cases hy
        refine ⟨by omega, .inr ⟨y, k, rfl, ?_⟩⟩
        rw [hs]
        congr 1
        omega
      · cases h
    · cases h

theorem sim_load {t : TypeId} {x : Operand} (H : HRel N0 lv ρ G w) (he : ∀ x, RV (Pr N0 ρ) w ρ (e x) (σ x)) (ho : o.op = .load t x)
    (h : valOp P E e G (.load t x) = some pv) : Gets P N0 ρ w o σ pv := by
  simp only [valOp] at h
  split at h
  · rename_i d n cs hd hn hc
    obtain ⟨b, off, f, hv, hC⟩ := cellsAt_sim H hc (he x)
    obtain ⟨v, hr, hrv⟩ := rd_sim hd hn h hC
    refine Gets.still (v := v) ?_ hrv
    unfold execOp
    simp [ho, hv, Instr.loadAt, Instr.sureAddr, hr]
  · cases h
theorem further_sim (H : HRel N0 lv ρ G w) {q : PV} {v : Value} {cs : List PV} {n : Nat} (h : cellsAt G q = some cs) (hv : RV (Pr N0 ρ) w ρ q v) (hn : n ≤ cs.length) {b off : Nat} (hp : v = .pointer (some ⟨b, off, none⟩)) :
    RV (Pr N0 ρ) w ρ (further n q) (.pointer (some ⟨b, off + n, none⟩)) := by
  subst hp
  cases q with
  | «at» cs' =>
    simp only [cellsAt, Option.some.injEq] at h
    subst h
    cases hv with
    | «at» _ _ f hN hb hc he =>
      refine .at b (off + n) (fun j => f (n + j)) hN hb (fun j hj => ?_) fun j pv hj => ?_
      · rw [List.length_drop] at hj
        rw [Nat.add_assoc]
        exact hc _ (by omega)
      · rw [List.getElem?_drop] at hj
        exact he _ _ hj
  | box g gen o1 =>
    cases hv with
    | box e1 h1 h2 h3 =>
      refine .box e1 h1 h2 fun q1 q2 => ?_
      obtain ⟨b', hb, hv⟩ := h3 q1 q2
      cases hv
      exact ⟨b, hb, rfl⟩
  | elt g gen n1 sz i k =>
    cases hv with
    | elt e1 h1 h2 h4 h3 =>
      refine .elt e1 h1 h2 h4 fun q1 q2 => ?_
      obtain ⟨b', hb, hv⟩ := h3 q1 q2
      cases hv
      exact ⟨b, hb, by rw [Nat.add_assoc]⟩
  | _ => simp [cellsAt] at h
theorem sim_fieldAddr {t : TypeId} {x : Operand} {f : Nat} (H : HRel N0 lv ρ G w) (he : ∀ x, RV (Pr N0 ρ) w ρ (e x) (σ x)) (ho : o.op = .fieldAddr t x f)
    (h : valOp P E e G (.fieldAddr t x f) = some pv) : Gets P N0 ρ w o σ pv := by
  simp only [valOp] at h
  split at h
  · rename_i off n ag hf
    split at h
    · cases h
    · rename_i hn0
      split at h
      · rename_i cs hc
        split at h
        · rename_i hle
          simp only [Option.some.injEq] at h
          subst h
          obtain ⟨b, o1, f1, hv, hC⟩ := cellsAt_sim H hc (he x)
          refine Gets.still (v := .pointer (some ⟨b, o1 + off, none⟩)) ?_ (further_sim H hc (he x) hle hv)
          unfold fldOf at hf
          split at hf
          · rename_i fs hfs
            split at hf
            · rename_i fd hfd
              split at hf
              · rename_i m hm
                by_cases hund : (P.underlying fd.type).isSome = true
                case neg => rw [if_neg hund] at hf; cases hf
                rw [if_pos hund] at hf
                simp only [Option.some.injEq, Prod.mk.injEq] at hf
                obtain ⟨rfl, rfl, rfl⟩ := hf
                unfold execOp
                simp [ho, hv, Instr.fieldAt, Instr.sureAddr, run_underlying hfs, hfd, fieldPlace, run_size hm, hn0, addr_add]
              · cases hf
            · cases hf
          · cases hf
        · cases h
      · cases h
  · cases h

theorem sim_indexAddr {t : TypeId} {x i : Operand} (H : HRel N0 lv ρ G w) (he : ∀ x, RV (Pr N0 ρ) w ρ (e x) (σ x)) (ho : o.op = .indexAddr t x i)
    (h : valOp P E e G (.indexAddr t x i) = some pv) : Gets P N0 ρ w o σ pv := by
  simp only [valOp] at h
  split at h
  · rename_i el k z hu hz
    split at h
    · rename_i n sz l hn hrow
      split at h
      · rename_i hc
        obtain ⟨rfl, h0, hlt⟩ := hc
        have hi := he i
        rw [hz] at hi
        generalize hs : σ i = u at hi
        cases hi
        obtain ⟨A, c, f, hv, hR⟩ := rowOf_sim H hrow (he x)
        have hne : l ≠ [] := fun e => by subst e; simp at hlt; omega
        obtain ⟨b, o1, rfl, hb, hcell⟩ := hR.cell hne
        have hzn : z.toNat < l.length := by omega
        have hrun : (execOp σ o).run P w = .ok (.value (.pointer (some ⟨b, o1 + z.toNat * n, none⟩))) w := by
          unfold execOp
          simp [ho, hv, hs, Instr.indexAt, asIntOf, run_underlying hu, run_size hn, h0, hlt, addr_add]
        refine Gets.still hrun ?_
        have hx := he x
        rw [hv] at hx
        generalize hq : e x = q at *
        cases q with
        | own g gen m =>
          simp only [Option.some.injEq] at h
          subst h
          cases hx with
          | own e1 h1 h2 h3 h4 =>
            refine .elt e1 h1 h2 h3 fun q1 q2 => ?_
            have h5 := h4 q1 q2
            simp only [Value.slice.injEq] at h5
            simp only [rowOf] at hrow
            split at hrow
            · rename_i gen' sz2 l2 hg
              split at hrow
              · simp only [Option.some.injEq, Prod.mk.injEq] at hrow
                obtain ⟨rfl, rfl⟩ := hrow
                obtain ⟨_, _, _, _, k5, k6⟩ := H.at hg h1
                cases hb1 : e1.blk with
                | none =>
                  have := k5 hb1
                  have := hR.cap
                  rw [← h5.2.2] at *
                  omega
                | some b1 =>
                  have had := (k6 b1 hb1).1
                  rw [had] at h5
                  have h6 := h5.1
                  simp at h6
                  obtain ⟨rfl, rfl⟩ := h6
                  exact ⟨_, rfl, by simp⟩
              · cases hrow
            · cases hrow
        | row sz' l' =>
          simp only [rowOf, Option.some.injEq, Prod.mk.injEq] at hrow
          obtain ⟨rfl, rfl⟩ := hrow
          simp only [Option.map_eq_some_iff] at h
          obtain ⟨y, hy, rfl⟩ := h
          cases hx with
          | row A' c' f' hc' hs' hA' he' =>
            obtain ⟨b', o', hbo, hN, hb', hcell'⟩ := hA' hne
            cases hbo
            have hys : y.length = sz' := hs' y (List.mem_of_getElem? hy)
            exact .at b _ (fun j => f' z.toNat j) hN hb' (fun j hj => by rw [Nat.add_assoc]; exact hcell' _ _ hzn (by rw [hys] at hj; exact hj)) fun j pv hj => he' _ _ y pv hy hj
        | _ => simp [rowOf] at hrow
      · cases h
    · cases h
  · rename_i n el k z hu hz
    split at h
    · rename_i sz cs hsz hcs
      split at h
      · rename_i hc
        obtain ⟨h0, h1, h2⟩ := hc
        simp only [Option.some.injEq] at h
        subst h
        have hi := he i
        rw [hz] at hi
        generalize hs : σ i = u at hi
        cases hi
        obtain ⟨b, off, f, hp, hC⟩ := cellsAt_sim H hcs (he x)
        have hrun : (execOp σ o).run P w = .ok (.value (.pointer (some ⟨b, off + z.toNat * sz, none⟩))) w := by
          unfold execOp
          simp [ho, hp, hs, Instr.indexAt, Instr.sureAddr, asIntOf, run_underlying hu, run_size hsz, h0, h1, addr_add]
        exact Gets.still hrun (further_sim H hcs (he x) h2 hp)
      · cases h
    · cases h
  · cases h

theorem part_sim {t : TypeId} {m off : Nat} {vs : Array Value} {cs : List PV} (hund : (P.underlying t).isSome = true) (hm : szOf P t = some m) (hl : vs.size = cs.length) (hel : ∀ (j : Nat) (pv : PV), cs[j]? = some pv → RV (Pr N0 ρ) w ρ pv (vs.getD j undef))
    (h : rd m (aggOf P t) (cs.drop off) = some pv) : ∃ v, (part t vs off).run P w = .ok v w ∧ RV (Pr N0 ρ) w ρ pv v := by
  obtain ⟨d, hd⟩ := Option.isSome_iff_exists.1 hund
  unfold rd at h
  by_cases ha : aggOf P t = true
  · rw [if_pos ha] at h
    split at h
    · rename_i hle
      rw [List.length_drop] at hle
      simp only [Option.some.injEq] at h
      subst h
      refine ⟨.agg (vs.extract off (off + m)), ?_, ?_⟩
      · simp [part, run_agg hd, ha, run_size hm]
      · by_cases hm0 : m = 0
        · subst hm0
          refine .agg (by simp; omega) fun j pv hj => ?_
          simp at hj
        · refine .agg (by simp; omega) fun j pv hj => ?_
          rw [List.getElem?_take] at hj
          split at hj
          · rename_i hjn
            rw [List.getElem?_drop] at hj
            have h3 := hel _ pv hj
            have h4 : off + j < vs.size := by rw [hl]; exact (List.getElem?_eq_some_iff.1 hj).1
            have h5 : (vs.extract off (off + m)).getD j undef = vs.getD (off + j) undef := by
              simp [Array.getElem?_extract]
              rw [if_pos (by omega)]
            rw [h5]
            exact h3
          · cases hj
    · cases h
  · rw [if_neg ha] at h
    rw [List.getElem?_drop, Nat.add_zero] at h
    have h4 : off < vs.size := by rw [hl]; exact (List.getElem?_eq_some_iff.1 h).1
    refine ⟨vs.getD off undef, ?_, hel _ pv h⟩
    simp [part, run_agg hd, ha, h4]
theorem sim_index {t : TypeId} {x i : Operand} (he : ∀ x, RV (Pr N0 ρ) w ρ (e x) (σ x)) (ho : o.op = .index t x i)
    (h : valOp P E e G (.index t x i) = some pv) : Gets P N0 ρ w o σ pv := by
  simp only [valOp] at h
  split at h
  · rename_i s k z hu hx hz
    split at h
    · rename_i h0
      simp only [Option.map_eq_some_iff] at h
      obtain ⟨b, hb, rfl⟩ := h
      have hi := he i
      rw [hz] at hi
      generalize hs : σ i = u at hi
      cases hi
      have hx' := he x
      rw [hx] at hx'
      generalize hs' : σ x = u at hx'
      cases hx'
      refine Gets.still (v := .int .u8 b.toNat) ?_ .val
      unfold execOp
      simp [ho, hs, hs', Instr.index, asIntOf, run_underlying hu, h0, hb]
    · cases h
  · rename_i n el cs k z hu hx hz
    split at h
    · rename_i sz hsz
      split at h
      · rename_i hc
        obtain ⟨h0, h1, hund⟩ := hc
        have hi := he i
        rw [hz] at hi
        generalize hs : σ i = u at hi
        cases hi
        have hx' := he x
        rw [hx] at hx'
        generalize hs' : σ x = u at hx'
        cases hx' with
        | agg hl hel =>
          rename_i vs
          obtain ⟨v, hv, hr⟩ := part_sim hund hsz hl hel h
          refine Gets.still (v := v) ?_ hr
          unfold execOp
          simp [ho, hs, hs', Instr.index, asIntOf, run_underlying hu, h0, h1, run_size hsz, hv]
      · cases h
    · cases h
  · cases h

theorem sim_nilCheck {x : Operand} (H : HRel N0 lv ρ G w) (he : ∀ x, RV (Pr N0 ρ) w ρ (e x) (σ x)) (ho : o.op = .nilCheck x)
    (h : valOp P E e G (.nilCheck x) = some pv) : Gets P N0 ρ w o σ pv := by
  simp only [valOp] at h
  split at h
  · rename_i cs hc
    simp only [Option.some.injEq] at h
    subst h
    obtain ⟨b, o1, f1, hv, hC⟩ := cellsAt_sim H hc (he x)
    refine Gets.still (v := .pointer (some ⟨b, o1, none⟩)) ?_ (hv ▸ he x)
    unfold execOp
    simp [ho, hv]
  · split at h
    · rename_i f cs hx
      simp only [Option.some.injEq] at h
      subst h
      have hx' := he x
      rw [hx] at hx'
      generalize hs' : σ x = u at hx'
      refine Gets.still (v := u) ?_ hx'
      cases hx'
      unfold execOp
      simp [ho, hs']
    · cases h

theorem sim_move {x : Operand} (he : ∀ x, RV (Pr N0 ρ) w ρ (e x) (σ x)) (ho : o.op = .move x ∨ o.op = .assign x) : Gets P N0 ρ w o σ (e x) := by
  refine Gets.still (v := σ x) ?_ (he x)
  unfold execOp
  rcases ho with ho | ho <;> simp [ho]

theorem sim_pick {c a b : Operand} (he : ∀ x, RV (Pr N0 ρ) w ρ (e x) (σ x)) (ho : o.op = .pick c a b) (h : valOp P E e G (.pick c a b) = some pv) : Gets P N0 ρ w o σ pv := by
  simp only [valOp] at h
  split at h
  · rename_i t hc
    simp only [Option.some.injEq] at h
    subst h
    have hc' := he c
    rw [hc] at hc'
    generalize hs' : σ c = u at hc'
    cases hc'
    refine Gets.still (v := if t then σ a else σ b) ?_ (by cases t <;> simp [he])
    unfold execOp
    cases t <;> simp [ho, hs', asBool]
  · cases h

theorem sim_binOp (hσ : ∀ v, σ (.const v) = v) (hE : EqOk P E) {op : BinOp} {t t' : TypeId} {x y : Operand} (he : ∀ x, RV (Pr N0 ρ) w ρ (e x) (σ x)) (ho : o.op = .binOp op t x y t') (h : valOp P E e G (.binOp op t x y t') = some pv) : Gets P N0 ρ w o σ pv := by
  simp only [valOp] at h
  have key : ∃ v, ((do eqGuard op t x y (σ x) (σ y); binOp op t (σ x) (σ y) : Sem Value).run P w) = .ok v w ∧ pv = .val v := by
    unfold binV at h
    split at h
    · rename_i n c
      split at h
      case h_2 => cases h
      rename_i el hu
      have hy : σ (.const (.slice none n c)) = .slice none n c := hσ _
      rw [hy]
      have hx := he x
      generalize e x = q at h hx
      generalize σ x = u at hx
      have hg : ∀ A m k, ((do eqGuard .eql t x (.const (.slice none n c)) (.slice A m k) (.slice none n c); binOp .eql t (.slice A m k) (.slice none n c) : Sem Value).run P w) = .ok (.bool A.isNone) w ∧
          ((do eqGuard .neq t x (.const (.slice none n c)) (.slice A m k) (.slice none n c); binOp .neq t (.slice A m k) (.slice none n c) : Sem Value).run P w) = .ok (.bool !A.isNone) w := fun A m k => by
        have h1 : (Op.equal t (.slice A m k) (.slice none n c)).run P w = .ok A.isNone w := Lib.run_equalIn_slice_nil w 9999 t el A m k n c hu
        constructor
        · show ((do let r ← Op.equal t (.slice A m k) (.slice none n c); pure (.bool r) : Sem Value).run P w) = _
          rw [Sem.run_bind, h1]
          rfl
        · show ((do let r ← Op.equal t (.slice A m k) (.slice none n c); pure (.bool (!r)) : Sem Value).run P w) = _
          rw [Sem.run_bind, h1]
          rfl
      have fin : ∀ {A m k}, nilV op (some A.isNone) = some pv → ∃ v, ((do eqGuard op t x (.const (.slice none n c)) (.slice A m k) (.slice none n c); binOp op t (.slice A m k) (.slice none n c) : Sem Value).run P w) = .ok v w ∧ pv = .val v := fun {A m k} h => by
        cases op <;> simp only [nilV, Option.some.injEq, reduceCtorEq] at h
        · exact ⟨_, (hg A m k).1, h.symm⟩
        · exact ⟨_, (hg A m k).2, h.symm⟩
      cases hx with
      | nil A k => exact fin h
      | row A k f hcap hs hA _ =>
        rename_i l _
        cases l with
        | nil => cases op <;> simp [nilEq, nilV] at h
        | cons a l =>
          obtain ⟨b, o', rfl, _⟩ := hA (by simp)
          exact fin h
      | _ => cases op <;> simp [nilEq, nilV] at h
    · exact bin_run hE h (he x) (he y) x y
  obtain ⟨v, hr, rfl⟩ := key
  refine Gets.still (v := v) ?_ .val
  unfold execOp
  simp only [ho]
  rw [Sem.run_bind, hr]
  rfl

theorem sim_unOp {op : UnOp} {t : TypeId} {x : Operand} (he : ∀ x, RV (Pr N0 ρ) w ρ (e x) (σ x)) (ho : o.op = .unOp op t x) (h : valOp P E e G (.unOp op t x) = some pv) : Gets P N0 ρ w o σ pv := by
  simp only [valOp] at h
  have hx := he x
  split at h
  · rename_i b hx'
    simp only [Option.some.injEq] at h
    subst h
    rw [hx'] at hx
    generalize hs' : σ x = u at hx
    cases hx
    exact Gets.still (v := .bool !b) (by unfold execOp; simp [ho, hs', Op.unary]) .val
  · rename_i k n hx'
    simp only [Option.some.injEq] at h
    subst h
    rw [hx'] at hx
    generalize hs' : σ x = u at hx
    cases hx
    exact Gets.still (v := .int k (k.wrap (0 - n))) (by unfold execOp; simp [ho, hs', Op.unary, Op.intArith]) .val
  · cases h

theorem sim_convert {s d : TypeId} {x : Operand} (he : ∀ x, RV (Pr N0 ρ) w ρ (e x) (σ x)) (ho : o.op = .convert s d x) (h : valOp P E e G (.convert s d x) = some pv) : Gets P N0 ρ w o σ pv := by
  simp only [valOp] at h
  have hx := he x
  split at h
  · rename_i ds k k' n h1 h2 hx'
    simp only [Option.some.injEq] at h
    subst h
    rw [hx'] at hx
    generalize hs' : σ x = u at hx
    cases hx
    refine Gets.still (v := .int k (k.wrap n)) ?_ .val
    unfold execOp
    simp only [ho, hs']
    rw [Sem.run_bind]
    unfold convert
    rw [Sem.run_bind, run_underlying h1, Result.andThen_ok, Sem.run_bind, run_underlying h2, Result.andThen_ok]
    rfl
  · cases h

theorem sim_extract {x : Operand} {i : Nat} (he : ∀ x, RV (Pr N0 ρ) w ρ (e x) (σ x)) (ho : o.op = .extract x i) (h : valOp P E e G (.extract x i) = some pv) : Gets P N0 ρ w o σ pv := by
  simp only [valOp] at h
  have hx := he x
  split at h
  · rename_i vs hx'
    rw [hx'] at hx
    generalize hs' : σ x = u at hx
    cases hx with
    | tup hl hel =>
      rename_i us
      have hi : i < us.size := by rw [hl]; exact (List.getElem?_eq_some_iff.1 h).1
      refine Gets.still (v := us.getD i undef) ?_ (hel i pv h)
      unfold execOp
      simp [ho, hs', Instr.extract, hi]
  · cases h

theorem sim_field {t : TypeId} {x : Operand} {f : Nat} (he : ∀ x, RV (Pr N0 ρ) w ρ (e x) (σ x)) (ho : o.op = .field t x f) (h : valOp P E e G (.field t x f) = some pv) : Gets P N0 ρ w o σ pv := by
  simp only [valOp] at h
  have hx := he x
  split at h
  · rename_i off n ag cs hf hx'
    rw [hx'] at hx
    generalize hs' : σ x = u at hx
    cases hx with
    | agg hl hel =>
      rename_i vs
      unfold fldOf at hf
      split at hf
      · rename_i fs hfs
        split at hf
        · rename_i fd hfd
          split at hf
          · rename_i m hm
            by_cases hund : (P.underlying fd.type).isSome = true
            case neg => rw [if_neg hund] at hf; cases hf
            rw [if_pos hund] at hf
            simp only [Option.some.injEq, Prod.mk.injEq] at hf
            obtain ⟨rfl, rfl, rfl⟩ := hf
            unfold rd at h
            by_cases ha : aggOf P fd.type = true
            · rw [if_pos ha] at h
              split at h
              · rename_i hle
                rw [List.length_drop] at hle
                simp only [Option.some.injEq] at h
                subst h
                obtain ⟨d, hd⟩ := Option.isSome_iff_exists.1 hund
                refine Gets.still (v := .agg (vs.extract fd.offset (fd.offset + m))) ?_ ?_
                · unfold execOp
                  simp [ho, hs', Instr.field, run_underlying hfs, hfd, asAgg, part, run_agg hd, ha, run_size hm]
                · by_cases hm0 : m = 0
                  · subst hm0
                    refine .agg (by simp; omega) fun j pv hj => ?_
                    simp at hj
                  · refine .agg (by simp; omega) fun j pv hj => ?_
                    rw [List.getElem?_take] at hj
                    split at hj
                    · rename_i hjn
                      rw [List.getElem?_drop] at hj
                      have h3 := hel _ pv hj
                      have h4 : fd.offset + j < vs.size := by rw [hl]; exact (List.getElem?_eq_some_iff.1 hj).1
                      have h5 : (vs.extract fd.offset (fd.offset + m)).getD j undef = vs.getD (fd.offset + j) undef := by
                        simp [Array.getElem?_extract]
                        rw [if_pos (by omega)]
                      rw [h5]
                      exact h3
                    · cases hj
              · cases h
            · rw [if_neg ha] at h
              rw [List.getElem?_drop, Nat.add_zero] at h
              have h4 : fd.offset < vs.size := by rw [hl]; exact (List.getElem?_eq_some_iff.1 h).1
              obtain ⟨d, hd⟩ := Option.isSome_iff_exists.1 hund
              refine Gets.still (v := vs.getD fd.offset undef) ?_ (hel _ pv h)
              unfold execOp
              simp [ho, hs', Instr.field, run_underlying hfs, hfd, asAgg, part, run_agg hd, ha, h4]
          · cases hf
        · cases hf
      · cases hf
  · cases h

theorem sim_slice {t : TypeId} {x : Operand} {lo hi : Option Operand} (H : HRel N0 lv ρ G w) (he : ∀ x, RV (Pr N0 ρ) w ρ (e x) (σ x)) (ho : o.op = .slice t x lo hi none)
    (h : valOp P E e G (.slice t x lo hi none) = some pv) : Gets P N0 ρ w o σ pv := by
  simp only [valOp] at h
  have hx := he x
  split at h
  · rename_i el sz l hu hx'
    rw [hx'] at hx
    split at h
    · rename_i m hm
      split at h
      · rename_i k hk
        split at h
        · rename_i hsz
          simp only [Option.some.injEq] at h
          subst h
          obtain ⟨hm1, hm2⟩ := natIn_sim hm he (Nat.le_refl _)
          obtain ⟨hk1, hk2⟩ := natIn_sim hk he (Nat.zero_le _)
          generalize hs' : σ x = u at hx
          cases hx with
          | row A c f hc hs hA hel =>
            have hb : (Instr.sliceBounds true l.length c (lo.map σ) (hi.map σ) none).run P w = .ok (k, m, c) w := by
              unfold Instr.sliceBounds Instr.sliceBound
              rcases hm2 with ⟨rfl, rfl⟩ | ⟨y, q, rfl, hy⟩ <;> rcases hk2 with ⟨rfl, rfl⟩ | ⟨y', q', rfl, hy'⟩ <;> simp [*, asIntOf] <;> omega
            refine Gets.still (v := .slice (if c = k then A else A.map (·.add (k * sz))) (m - k) (c - k)) ?_ ?_
            · unfold execOp
              simp [ho, hs', Instr.sliceAt, run_underlying hu, Instr.slice, hb, run_size hsz]
            · have hlen : ((l.take m).drop k).length = m - k := by simp; omega
              rw [← hlen]
              refine .row _ _ (fun i j => f (k + i) j) (by omega) (fun y hy => hs y (List.mem_of_mem_take (List.mem_of_mem_drop hy))) (fun hne => ?_) fun i j y pv hi hj => ?_
              · have hl0 : l ≠ [] := fun e => by subst e; simp at hne
                obtain ⟨b, o1, rfl, hN, hb1, hcell⟩ := hA hl0
                have hkm : k < m := by
                  rcases Nat.lt_or_ge k m with h1 | h1
                  · exact h1
                  · exact absurd (List.eq_nil_of_length_eq_zero (by omega)) hne
                have hck : c ≠ k := by omega
                refine ⟨b, o1 + k * sz, by simp [hck, addr_add], hN, hb1, fun i j hi hj => ?_⟩
                rw [hlen] at hi
                have := hcell (k + i) j (by omega) hj
                rw [Nat.add_mul] at this
                rw [show o1 + k * sz + (i * sz + j) = o1 + (k * sz + i * sz + j) by omega]
                exact this
              · rw [List.getElem?_drop, List.getElem?_take] at hi
                split at hi
                · exact hel _ j y pv hi hj
                · cases hi
        · cases h
      · cases h
    · cases h
  · rename_i s hu hx'
    rw [hx'] at hx
    split at h
    · rename_i m hm
      split at h
      · rename_i k hk
        simp only [Option.some.injEq] at h
        subst h
        obtain ⟨hm1, hm2⟩ := natIn_sim hm he (Nat.le_refl _)
        obtain ⟨hk1, hk2⟩ := natIn_sim hk he (Nat.zero_le _)
        generalize hs' : σ x = u at hx
        cases hx
        have hb : (Instr.sliceBounds false s.size s.size (lo.map σ) (hi.map σ) none).run P w = .ok (k, m, s.size) w := by
          unfold Instr.sliceBounds Instr.sliceBound
          rcases hm2 with ⟨rfl, rfl⟩ | ⟨y, q, rfl, hy⟩ <;> rcases hk2 with ⟨rfl, rfl⟩ | ⟨y', q', rfl, hy'⟩ <;> simp [*, asIntOf] <;> omega
        refine Gets.still (v := .string (s.extract k m)) ?_ .val
        unfold execOp
        simp [ho, hs', Instr.sliceAt, run_underlying hu, Instr.slice, hb]
      · cases h
    · cases h
  · cases h

theorem sim_makeFunc {f : FuncId} {first caps : Array Operand} (he : ∀ x, RV (Pr N0 ρ) w ρ (e x) (σ x)) (ho : o.op = .makeFunc (.func f) first caps) (h : valOp P E e G (.makeFunc (.func f) first caps) = some pv) :
    Gets P N0 ρ w o σ pv := by
  simp only [valOp] at h
  split at h
  · rename_i hf
    subst hf
    simp only [Option.some.injEq] at h
    subst h
    refine Gets.still (v := .func (.func f) #[] (caps.map σ)) ?_ (.clo (by simp) fun j pv hj => ?_)
    · unfold execOp
      simp [ho, Instr.makeFunc]
    · simp only [List.getElem?_map, Option.map_eq_some_iff] at hj
      obtain ⟨x, hx, rfl⟩ := hj
      have : caps[j]? = some x := by simpa using hx
      simp [this, he]
  · cases h

theorem RV.ofCv {N : Nat → Prop} {ρ : List RR} (v : Value) : RV N w ρ (cv v) v := by
  unfold cv
  split
  · exact .emp none
  · exact .val

theorem nil_map {q : PV} {v : Value} (h : isNilMap q = true) (hv : RV (Pr N0 ρ) w ρ q v) : v = .map none := by
  unfold isNilMap at h
  split at h
  · cases hv; rfl
  · cases h
theorem mapOf_sim (H : HRel N0 lv ρ G w) {pv : PV} {v : Value} {s : KS} {l : List (Value × PV)} (h : mapOf G pv = some (s, l)) (hv : RV (Pr N0 ρ) w ρ pv v) :
    ∃ b es clock kvs, v = .map (some b) ∧ w.heap[b]? = some (.map es clock) ∧ MapC es clock kvs ∧ (∀ x ∈ kvs, shapeV x.1 = some s) ∧ kvs.map (·.1) = l.map (·.1) ∧
      ∀ (i : Nat) (k k' : Value) (pv : PV) (v : Value), l[i]? = some (k, pv) → kvs[i]? = some (k', v) → RV (Pr N0 ρ) w ρ pv v := by
  cases pv with
  | mpv s' l' =>
    simp only [mapOf, Option.some.injEq, Prod.mk.injEq] at h
    obtain ⟨rfl, rfl⟩ := h
    cases hv with
    | mpv b es clock kvs hN hb hM hs hl hel => exact ⟨b, es, clock, kvs, rfl, hb, hM, hs, hl, fun i k k' pv v h1 h2 => (hel i k k' pv v h1 h2).weak _⟩
  | mp g gen =>
    simp only [mapOf] at h
    split at h
    · rename_i gen' s' l' hg
      split at h
      · rename_i hgen
        subst hgen
        simp only [Option.some.injEq, Prod.mk.injEq] at h
        obtain ⟨rfl, rfl⟩ := h
        cases hv with
        | mp e he hge hval =>
          obtain ⟨h1, h2, b, es, clock, kvs, h3, h4, h5, h6, h7, h8⟩ := H.at hg he
          obtain ⟨b', hb', rfl⟩ := hval h1.symm h2
          rw [h3] at hb'
          cases hb'
          exact ⟨b, es, clock, kvs, rfl, h4, h5, h6, h7, h8⟩
      · cases h
    · cases h
  | _ => simp [mapOf] at h
theorem keyEq1_iff {a b : Value} {d : KD} (ha : KD.of a = some d) (hb : KD.of b = some d) : keyEq1 a b = true ↔ a = b := by
  cases a <;> simp only [KD.of, Option.some.injEq, reduceCtorEq] at ha <;> subst ha <;> cases b <;> simp only [KD.of, Option.some.injEq, reduceCtorEq, KD.int.injEq] at hb
  all_goals first
    | (subst hb; simp [keyEq1]; done)
    | (simp [keyEq1]; done)
    | (rename_i a b
       simp only [keyEq1, beq_iff_eq, Value.string.injEq]
       constructor
       · intro h; exact ByteArray.ext (Array.toList_inj.1 (by simpa [ByteArray.toList_eq] using h))
       · rintro rfl; rfl)
theorem keyEqs_iff : ∀ {xs ys : List Value} {ds : List KD}, shapes xs = some ds → shapes ys = some ds → (keyEqs xs ys = true ↔ xs = ys)
  | [], [], ds, _, _ => by simp [keyEqs]
  | [], b :: ys, ds, h1, h2 => by simp only [shapes, Option.some.injEq] at h1; subst h1; simp only [shapes] at h2; split at h2 <;> cases h2
  | a :: xs, [], ds, h1, h2 => by simp only [shapes, Option.some.injEq] at h2; subst h2; simp only [shapes] at h1; split at h1 <;> cases h1
  | a :: xs, b :: ys, ds, h1, h2 => by
    simp only [shapes] at h1 h2
    split at h1
    · rename_i d1 ds1 k1 k2
      cases h1
      split at h2
      · rename_i d2 ds2 k3 k4
        cases h2
        simp only [keyEqs, Bool.and_eq_true, keyEq1_iff k1 k3, keyEqs_iff k2 k4, List.cons.injEq]
      · cases h2
    · cases h1
theorem keyEq_iff {a b : Value} {s : KS} (ha : shapeV a = some s) (hb : shapeV b = some s) : keyEq a b = true ↔ a = b := by
  cases s with
  | one d =>
    have h1 := shapeV_one ha
    have h2 := shapeV_one hb
    have : keyEq a b = keyEq1 a b := by
      cases a <;> first | rfl | (simp [KD.of] at h1)
    rw [this]
    exact keyEq1_iff h1 h2
  | many ds =>
    obtain ⟨xs, rfl, h1⟩ := shapeV_many ha
    obtain ⟨ys, rfl, h2⟩ := shapeV_many hb
    simp only [keyEq, keyEqs_iff h1 h2, Value.agg.injEq, Array.toList_inj]
theorem nodup_fst : ∀ {l : List (Value × Value)} {k v v' : Value}, (l.map (·.1)).Nodup → (k, v) ∈ l → (k, v') ∈ l → v = v'
  | [], _, _, _, _, h, _ => by simp at h
  | (a, b) :: l, k, v, v', hn, h1, h2 => by
    simp only [List.map_cons, List.nodup_cons, List.mem_map, not_exists, not_and] at hn
    rcases List.mem_cons.1 h1 with e1 | e1 <;> rcases List.mem_cons.1 h2 with e2 | e2
    · cases e1; cases e2; rfl
    · cases e1; exact (hn.1 _ e2 rfl).elim
    · cases e2; exact (hn.1 _ e1 rfl).elim
    · exact nodup_fst hn.2 e1 e2
theorem MapC.keys {es : Array MapEntry} {clock : Nat} {kvs : List (Value × Value)} (h : MapC es clock kvs) : (kvs.map (·.1)).Nodup := by
  have h1 := (h.2.map (·.1)).nodup_iff.1
  refine h1 ?_
  have := h.1.2.2
  simpa [List.map_map, Function.comp_def] using this
theorem keyV_sim {q : PV} {v k : Value} (h : keyV q = some k) (hv : RV (Pr N0 ρ) w ρ q v) : v = k := by
  cases q with
  | val u => simp only [keyV, Option.some.injEq] at h; subst h; cases hv; rfl
  | agg cs =>
    simp only [keyV] at h
    split at h
    · rename_i vs hvs
      simp only [Option.some.injEq] at h
      subst h
      have : cs = vs.map .val := by
        clear hv
        induction cs generalizing vs with
        | nil => simp only [vals, Option.some.injEq] at hvs; subst hvs; rfl
        | cons c cs ih =>
          cases c with
          | val u =>
            simp only [vals] at hvs
            split at hvs
            · rename_i us hus
              simp only [Option.some.injEq] at hvs
              subst hvs
              rw [ih _ hus]; rfl
            · cases hvs
          | _ => simp [vals] at hvs
      subst this
      exact agg_vals hv
    · cases h
  | _ => simp [keyV] at h
theorem zeroPV_sim {t : TypeId} {z : PV} (h : zeroPV P t = some z) : ∃ v, zeroOf P t = some v ∧ RV (Pr N0 ρ) w ρ z v := by
  unfold zeroPV at h
  split at h
  · rename_i zs hz
    simp only [Option.some.injEq] at h
    subst h
    refine ⟨_, hz, .agg (by simp) fun j pv hj => ?_⟩
    simp only [List.getElem?_map, Option.map_eq_some_iff] at hj
    obtain ⟨u, hu, rfl⟩ := hj
    have : zs.getD j undef = u := by
      have : zs[j]? = some u := by simpa using hu
      simp [this]
    rw [this]
    exact RV.ofCv u
  · rename_i v hne hz
    simp only [Option.some.injEq] at h
    subst h
    exact ⟨v, hz, RV.ofCv v⟩
  · cases h
theorem mem_keys {es : Array MapEntry} {clock : Nat} {kvs : List (Value × Value)} {s : KS} (hM : MapC es clock kvs) (hs : ∀ x ∈ kvs, shapeV x.1 = some s) : ∀ e ∈ es.toList, shapeV e.key = some s := fun e he =>
  hs (e.key, e.val) (hM.2.mem_iff.1 (List.mem_map.2 ⟨e, he, rfl⟩))
/-- What a look-up in a map finds. -/
theorem find_sim {kt : TypeId} {s : KS} {k : Value} {es : Array MapEntry} {clock : Nat} {kvs : List (Value × Value)} {l : List (Value × PV)} (hT : shapeT P kt = some s) (hk : shapeV k = some s) (hM : MapC es clock kvs) (hs : ∀ x ∈ kvs, shapeV x.1 = some s) (hl : kvs.map (·.1) = l.map (·.1)) (w : World) :
    (findM k l = none ∧ (Instr.findKey kt k es.toList).run P w = .ok none w ∧ (∀ e ∈ es.toList, e.key ≠ k) ∧ ∀ x ∈ kvs, x.1 ≠ k) ∨
    ∃ (i j : Nat) (pv : PV) (v : Value), findM k l = some pv ∧ l[j]? = some (k, pv) ∧ kvs[j]? = some (k, v) ∧ (Instr.findKey kt k es.toList).run P w = .ok (some (i, v)) w ∧ ∃ e, es.toList[i]? = some e ∧ e.key = k ∧ e.val = v := by
  have hmk := mem_keys hM hs
  cases hf : findM k l with
  | none =>
    left
    simp only [findM, Option.map_eq_none_iff, List.find?_eq_none] at hf
    have h1 : ∀ x ∈ kvs, x.1 ≠ k := fun x hx he => by
      have : x.1 ∈ l.map (·.1) := by rw [← hl]; exact List.mem_map.2 ⟨x, hx, rfl⟩
      obtain ⟨y, hy, hyx⟩ := List.mem_map.1 this
      have h2 := hf y hy
      exact h2 ((keyEq_iff hk (by rw [hyx]; exact hs x hx)).2 (by rw [hyx, he]))
    have h2 : ∀ e ∈ es.toList, e.key ≠ k := fun e he => h1 (e.key, e.val) (hM.2.mem_iff.1 (List.mem_map.2 ⟨e, he, rfl⟩))
    rcases key_find hT hk w es.toList hmk with ⟨h3, _⟩ | ⟨i, e, _, h4, h5⟩
    · exact ⟨rfl, h3, h2, h1⟩
    · exact (h2 e (List.mem_of_getElem? h4) h5).elim
  | some pv =>
    right
    simp only [findM, Option.map_eq_some_iff] at hf
    obtain ⟨⟨k', pv'⟩, h1, rfl⟩ := hf
    have h2 := List.find?_some h1
    have h3 := List.mem_of_find?_eq_some h1
    obtain ⟨j, hj⟩ := List.getElem?_of_mem h3
    have h4 : (kvs.map (·.1))[j]? = some k' := by rw [hl, List.getElem?_map, hj]; rfl
    rw [List.getElem?_map, Option.map_eq_some_iff] at h4
    obtain ⟨⟨k2, v⟩, h5, h6⟩ := h4
    simp only at h6
    subst h6
    have h7 := hs _ (List.mem_of_getElem? h5)
    have h8 : k = k2 := (keyEq_iff hk h7).1 h2
    subst h8
    rcases key_find hT hk w es.toList hmk with ⟨_, h9⟩ | ⟨i, e, h9, h10, h11⟩
    · have : (k, v) ∈ es.toList.map fun e => (e.key, e.val) := hM.2.mem_iff.2 (List.mem_of_getElem? h5)
      obtain ⟨e, he, hek⟩ := List.mem_map.1 this
      cases hek
      exact (h9 e he rfl).elim
    · have h12 : (k, e.val) ∈ kvs := hM.2.mem_iff.1 (List.mem_map.2 ⟨e, List.mem_of_getElem? h10, by rw [h11]⟩)
      have h13 := nodup_fst hM.keys h12 (List.mem_of_getElem? h5)
      exact ⟨i, j, pv', v, rfl, hj, h5, by rw [h9, h13], e, h10, h11, h13⟩
theorem found_sim {ok : Bool} {z pv : PV} {r : Option PV} {v : Value} {b : Bool} (hb : b = r.isSome) (hz : RV (Pr N0 ρ) w ρ (r.getD z) v) (h : found ok z r = pv) : RV (Pr N0 ρ) w ρ pv (if ok then .tuple #[v, .bool b] else v) := by
  subst hb
  cases ok with
  | false => simp only [found] at h; subst h; simpa using hz
  | true =>
    simp only [found, if_true] at h
    subst h
    refine .tup rfl fun j q hj => ?_
    match j with
    | 0 => simp at hj; subst hj; simpa using hz
    | 1 => simp at hj; subst hj; exact .val
    | j + 2 => simp at hj
theorem sim_lookup {t : TypeId} {x k : Operand} {ok : Bool} (H : HRel N0 lv ρ G w) (he : ∀ x, RV (Pr N0 ρ) w ρ (e x) (σ x)) (ho : o.op = .lookup t x k ok) (h : valOp P E e G (.lookup t x k ok) = some pv) : Gets P N0 ρ w o σ pv := by
  simp only [valOp] at h
  split at h
  case h_2 => cases h
  rename_i kt et hu
  split at h
  case h_2 => cases h
  rename_i kv z hk hz
  split at h
  case h_2 => cases h
  rename_i s hT
  split at h
  case isFalse => cases h
  rename_i hsv
  have hkv := keyV_sim hk (he k)
  obtain ⟨zv, hz1, hz2⟩ := zeroPV_sim (N0 := N0) (ρ := ρ) (w := w) hz
  have hzr : (zeroValue et).run P w = .ok zv w := by
    unfold zeroOf at hz1
    cases hi : P.info? et with
    | none => simp [hi] at hz1
    | some i =>
      simp only [hi, Option.bind_some] at hz1
      simp [zeroValue, typeInfo, program, Sem.run, hi, hz1]
  split at h
  · rename_i hn
    simp only [Option.some.injEq] at h
    have hx := nil_map hn (he x)
    refine Gets.still (v := if ok then .tuple #[zv, .bool false] else zv) ?_ (found_sim (r := none) rfl hz2 h)
    have hc := key_check hT hsv (P := P) true w
    unfold execOp
    simp only [ho, hx, hkv]
    have hf : (Instr.findKey kt kv []).run P w = .ok none w := by
      obtain ⟨d, hd⟩ := shapeT_under hT
      simp [Instr.findKey, run_underlying hd, Instr.findNow]
    simp [Instr.lookup, run_underlying hu, hc, hf, hzr]
  · split at h
    · rename_i s' l hm
      split at h
      · rename_i hss
        subst hss
        simp only [Option.some.injEq] at h
        obtain ⟨b, es, clock, kvs, hv, hb, hM, hs, hl, hel⟩ := mapOf_sim H hm (he x)
        have hc := key_check hT hsv (P := P) es.isEmpty w
        rcases find_sim hT hsv hM hs hl w with ⟨h1, h2, _⟩ | ⟨i, j, pv', v, h1, h2, h3, h4, _⟩
        · rw [h1] at h
          refine Gets.still (v := if ok then .tuple #[zv, .bool false] else zv) ?_ (found_sim (r := none) rfl hz2 h)
          unfold execOp
          simp only [ho, hv, hkv]
          simp [Instr.lookup, run_underlying hu, hc, MapKept.run_getObj_map hb, h2, hzr]
        · rw [h1] at h
          refine Gets.still (v := if ok then .tuple #[v, .bool true] else v) ?_ (found_sim (r := some pv') rfl (hel j _ _ pv' v h2 h3) h)
          unfold execOp
          simp only [ho, hv, hkv]
          simp [Instr.lookup, run_underlying hu, hc, MapKept.run_getObj_map hb, h4]
      · cases h
    · cases h
theorem sim_len {args : Array Operand} {ts : Array TypeId} (H : HRel N0 lv ρ G w) (he : ∀ x, RV (Pr N0 ρ) w ρ (e x) (σ x)) (ho : o.op = .call ⟨.builtin .len, args, ts⟩) (h : valOp P E e G (.call ⟨.builtin .len, args, ts⟩) = some pv) :
    Gets P N0 ρ w o σ pv := by
  simp only [valOp] at h
  split at h
  · rename_i x t ha ht
    obtain rfl : args = #[x] := by rw [← Array.toList_inj]; simpa using ha
    obtain rfl : ts = #[t] := by rw [← Array.toList_inj]; simpa using ht
    have hx := he x
    split at h
    · rename_i s hu hx'
      simp only [Option.some.injEq] at h
      subst h
      rw [hx'] at hx
      generalize hs' : σ x = u at hx
      cases hx
      refine Gets.still (v := .int .i64 s.size) ?_ .val
      unfold execOp
      simp [ho, hs', resolve, invoke, builtin, Builtin.len_, run_underlying hu, goInt]
    · rename_i d hu hx'
      simp only [Option.some.injEq] at h
      subst h
      rw [hx'] at hx
      generalize hs' : σ x = u at hx
      cases hx
      refine Gets.still (v := .int .i64 0) ?_ .val
      unfold execOp
      simp [ho, hs', resolve, invoke, builtin, Builtin.len_, run_underlying hu, goInt]
    · rename_i d hu hx'
      simp only [Option.some.injEq] at h
      subst h
      rw [hx'] at hx
      generalize hs' : σ x = u at hx
      cases hx
      refine Gets.still (v := .int .i64 0) ?_ .val
      unfold execOp
      simp [ho, hs', resolve, invoke, builtin, Builtin.len_, run_underlying hu, goInt]
    · rename_i d q1 hu q2 q3
      simp only [Option.map_eq_some_iff] at h
      obtain ⟨⟨sz, l⟩, hr, rfl⟩ := h
      obtain ⟨A, c, f, hv, hR⟩ := rowOf_sim H hr hx
      refine Gets.still (v := .int .i64 l.length) ?_ .val
      unfold execOp
      simp [ho, hv, resolve, invoke, builtin, Builtin.len_, run_underlying hu, goInt]
    · rename_i o1 o2 kt et hu
      split at h
      · rename_i hn
        simp only [Option.some.injEq] at h
        subst h
        have hx' := nil_map hn hx
        refine Gets.still (v := .int .i64 0) ?_ .val
        unfold execOp
        simp [ho, hx', resolve, invoke, builtin, Builtin.len_, run_underlying hu, goInt]
      · simp only [Option.map_eq_some_iff] at h
        obtain ⟨⟨s, l⟩, hr, rfl⟩ := h
        obtain ⟨b, es, clock, kvs, hv, hb, hM, _, hl, _⟩ := mapOf_sim H hr hx
        refine Gets.still (v := .int .i64 l.length) ?_ .val
        have hlen : es.size = l.length := by
          have h1 := hM.2.length_eq
          have h2 := congrArg List.length hl
          simp at h1 h2
          omega
        unfold execOp
        simp [ho, hv, resolve, invoke, builtin, Builtin.len_, run_underlying hu, goInt, MapKept.run_getObj_map hb, hlen]
    · cases h
  · cases h

/-- What stands in one cell. -/
theorem one_sim (H : HRel N0 lv ρ G w) {q : PV} {v : Value} (h : one G q = true) (hv : RV (Pr N0 ρ) w ρ q v) : v.oneCell' = true := by
  cases hv with
  | bad => simp [one] at h
  | val =>
    cases v <;> first | rfl | simp [one] at h
  | agg => simp [one] at h
  | tup => simp [one] at h
  | row => rfl
  | «at» => rfl
  | emp => rfl
  | nil => rfl
  | mpv => rfl
  | mp er her hg hval =>
    simp only [one] at h
    split at h
    · rename_i gen' s l hG
      obtain ⟨h1, h2⟩ := H.at hG her
      have hgen : er.gen = _ := h1.symm.trans (by simpa using h)
      obtain ⟨b, _, rfl⟩ := hval hgen h2.1
      rfl
    · cases h
  | clo => rfl
  | box e1 h1 h2 h3 =>
    simp only [one] at h
    split at h
    · rename_i gen' cs hg
      have hO := H.at hg h1
      obtain ⟨b, hb, rfl⟩ := h3 (by rw [← hO.1]; exact eq_of_beq h) hO.2.1
      rfl
    · cases h
  | own e1 h1 h2 h4 h3 =>
    simp only [one] at h
    split at h
    · rename_i gen' sz' l hg
      have hO := H.at hg h1
      simp only [Bool.and_eq_true, beq_iff_eq] at h
      rw [h3 (by rw [← hO.1]; exact h.1) (by rw [hO.2.1]; exact h.2)]
      rfl
    · cases h
  | elt e1 h1 h2 h4 h3 =>
    simp only [one] at h
    split at h
    · rename_i gen' sz' l hg
      have hO := H.at hg h1
      simp only [Bool.and_eq_true, beq_iff_eq] at h
      obtain ⟨b, hb, rfl⟩ := h3 (by rw [← hO.1]; exact h.1) (by rw [hO.2.1]; exact h.2)
      rfl
    · cases h
theorem one_cells {v : Value} (h : v.oneCell' = true) : v.cells = #[v] := by
  cases v <;> first | rfl | simp [Value.oneCell'] at h
theorem cellsOf_sim (H : HRel N0 lv ρ G w) {q : PV} {v : Value} {xs : List PV} (h : cellsOf G q = some xs) (hv : RV (Pr N0 ρ) w ρ q v) :
    v.cells.size = xs.length ∧ (∀ u ∈ v.cells, u.oneCell' = true) ∧ ∀ (j : Nat) (pv : PV), xs[j]? = some pv → RV (Pr N0 ρ) w ρ pv (v.cells.getD j undef) := by
  unfold cellsOf at h
  split at h
  · rename_i cs
    split at h
    · rename_i hall
      simp only [Option.some.injEq] at h
      subst h
      cases hv with
      | agg hl he =>
        rename_i vs
        refine ⟨hl, fun u hu => ?_, he⟩
        obtain ⟨j, hj, rfl⟩ := Array.mem_iff_getElem.1 hu
        simp only [Value.cells] at hj ⊢
        have hj2 : j < cs.length := by omega
        have h2 := he j cs[j] (List.getElem?_eq_getElem hj2)
        have h3 := one_sim H (List.all_eq_true.1 hall _ (List.getElem_mem hj2)) h2
        simpa [hj] using h3
    · cases h
  · split at h
    · rename_i h1
      simp only [Option.some.injEq] at h
      subst h
      have h2 := one_sim H h1 hv
      rw [one_cells h2]
      refine ⟨rfl, fun u hu => ?_, fun j pv hj => ?_⟩
      · simp at hu; subst hu; exact h2
      · match j, hj with
        | 0, hj => simp at hj; subst hj; simpa using hv
    · cases h

theorem fold_set (off : Nat) : ∀ (xs : List Value) (k : Nat) (vs : Array Value), off + k + xs.length ≤ vs.size →
    (xs.zipIdx k).foldl (fun cs (x : Value × Nat) => cs.setIfInBounds (off + x.2) x.1) vs = (vs.toList.take (off + k) ++ xs ++ vs.toList.drop (off + k + xs.length)).toArray
  | [], k, vs, h => by simp
  | x :: xs, k, vs, h => by
    simp only [List.zipIdx_cons, List.foldl_cons, List.length_cons] at h ⊢
    rw [fold_set off xs (k + 1) _ (by simp; omega)]
    congr 1
    have h1 : off + k < vs.toList.length := by simp; omega
    apply List.ext_getElem?
    intro j
    simp only [Array.toList_setIfInBounds, List.append_assoc, List.cons_append]
    rcases Nat.lt_trichotomy j (off + k) with hj | hj | hj
    · rw [List.getElem?_append_left (by simp; omega), List.getElem?_append_left (by simp; omega), List.getElem?_take_of_lt (by omega), List.getElem?_take_of_lt hj, List.getElem?_set_ne (by omega)]
    · subst hj
      rw [List.getElem?_append_left (by simp; omega), List.getElem?_append_right (by simp; omega), List.getElem?_take_of_lt (by omega)]
      simp at h1
      simp [h1, Nat.min_eq_left (Nat.le_of_lt h1)]
    · have e1 : (List.take (off + (k + 1)) (vs.toList.set (off + k) x)).length = off + (k + 1) := by simp; omega
      have e2 : (List.take (off + k) vs.toList).length = off + k := by simp; omega
      obtain ⟨m, rfl⟩ : ∃ m, j = off + k + 1 + m := ⟨j - (off + k + 1), by omega⟩
      have hL := List.getElem?_append_right (l₁ := List.take (off + (k + 1)) (vs.toList.set (off + k) x)) (l₂ := xs ++ List.drop (off + (k + 1) + xs.length) (vs.toList.set (off + k) x)) (i := off + k + 1 + m) (by omega)
      have hR := List.getElem?_append_right (l₁ := List.take (off + k) vs.toList) (l₂ := x :: (xs ++ List.drop (off + k + (xs.length + 1)) vs.toList)) (i := off + k + 1 + m) (by omega)
      rw [hL, hR, e1, e2, show off + k + 1 + m - (off + (k + 1)) = m by omega, show off + k + 1 + m - (off + k) = m + 1 by omega, List.getElem?_cons_succ]
      rcases Nat.lt_or_ge m xs.length with hm | hm
      · rw [List.getElem?_append_left hm, List.getElem?_append_left hm]
      · rw [List.getElem?_append_right hm, List.getElem?_append_right hm, List.getElem?_drop, List.getElem?_drop, List.getElem?_set_ne (by omega)]
        congr 1
        omega

theorem fill_sim (H : HRel N0 lv ρ G w) {place place' : Nat → Option (Nat × Nat)} (hpp : ∀ i x, place i = some x → place' i = some x) : ∀ {ps : List (Nat × PV)} {qs : List (Nat × Value)} {cs cs' : List PV} {vs : Array Value}, fillP G place cs ps = some cs' →
    (ps.length = qs.length ∧ ∀ (j : Nat) (i : Nat) (p : PV), ps[j]? = some (i, p) → ∃ v, qs[j]? = some (i, v) ∧ RV (Pr N0 ρ) w ρ p v) → vs.size = cs.length → (∀ (j : Nat) (pv : PV), cs[j]? = some pv → RV (Pr N0 ρ) w ρ pv (vs.getD j undef)) →
    ∃ vs', Instr.fill place' vs qs = some vs' ∧ vs'.size = cs'.length ∧ ∀ (j : Nat) (pv : PV), cs'[j]? = some pv → RV (Pr N0 ρ) w ρ pv (vs'.getD j undef)
  | [], [], cs, cs', vs, h, _, hl, hv => by
    simp only [fillP, Option.some.injEq] at h
    subst h
    exact ⟨vs, rfl, hl, hv⟩
  | (i, p) :: ps, q :: qs, cs, cs', vs, h, hq, hl, hv => by
    obtain ⟨v, hqv, hpv⟩ := hq.2 0 i p rfl
    simp only [List.getElem?_cons_zero, Option.some.injEq] at hqv
    subst hqv
    simp only [fillP] at h
    split at h
    · rename_i off n xs hp hx
      split at h
      · rename_i hc
        obtain ⟨hs, h1, hr⟩ := cellsOf_sim H hx hpv
        have hfold := fold_set off v.cells.toList 0 vs (by simp; omega)
        have hf2 : v.cells.zipIdx.foldl (fun cs (x : Value × Nat) => cs.setIfInBounds (off + x.2) x.1) vs = (vs.toList.take off ++ v.cells.toList ++ vs.toList.drop (off + xs.length)).toArray := by
          rw [← Array.foldl_toList, Array.toList_zipIdx, hfold]
          simp [hs]
        obtain ⟨vs', h3, h4, h5⟩ := fill_sim H hpp h ⟨by have := hq.1; simp at this; omega, fun j i p hj => hq.2 (j + 1) i p hj⟩ (vs := (vs.toList.take off ++ v.cells.toList ++ vs.toList.drop (off + xs.length)).toArray)
          (by simp [over]; omega) (fun j pv hj => by
            unfold over at hj
            rcases Nat.lt_or_ge j off with hj1 | hj1
            · rw [List.append_assoc, List.getElem?_append_left (by simp; omega), List.getElem?_take_of_lt hj1] at hj
              have := hv j pv hj
              have hjs : j < vs.size := by omega
              have e : ((vs.toList.take off ++ v.cells.toList ++ vs.toList.drop (off + xs.length)).toArray).getD j undef = vs.getD j undef := by
                simp only [Array.getD_eq_getD_getElem?, List.getElem?_toArray, List.append_assoc]
                rw [List.getElem?_append_left (by simp; omega), List.getElem?_take_of_lt hj1]
                simp
              rw [e]; exact this
            · rw [List.append_assoc, List.getElem?_append_right (by simp; omega)] at hj
              have e0 : ((vs.toList.take off ++ v.cells.toList ++ vs.toList.drop (off + xs.length)).toArray).getD j undef = ((v.cells.toList ++ vs.toList.drop (off + xs.length))[j - off]?).getD undef := by
                simp only [Array.getD_eq_getD_getElem?, List.getElem?_toArray, List.append_assoc]
                rw [List.getElem?_append_right (by simp; omega)]
                have : min off vs.toList.length = off := by simp; omega
                simp only [List.length_take, this]
              rw [e0]
              have e1 : min off cs.length = off := by omega
              simp only [List.length_take, e1] at hj
              rcases Nat.lt_or_ge (j - off) xs.length with hj2 | hj2
              · rw [List.getElem?_append_left hj2] at hj
                rw [List.getElem?_append_left (by simp; omega)]
                have := hr _ pv hj
                simpa using this
              · rw [List.getElem?_append_right hj2, List.getElem?_drop] at hj
                rw [List.getElem?_append_right (by simp; omega), List.getElem?_drop]
                have := hv _ pv hj
                simp only [Array.length_toList, hs]
                simpa using this)
        refine ⟨vs', ?_, h4, h5⟩
        unfold Instr.fill
        simp only [hpp _ _ hp]
        rw [if_neg (by simp; omega), hf2]
        exact h3
      · cases h
    · cases h
  | [], _ :: _, _, _, _, _, hq, _, _ => by simp at hq
  | _ :: _, [], _, _, _, _, hq, _, _ => by simp at hq

theorem sim_build {t : TypeId} {parts : Array (Nat × Operand)} (H : HRel N0 lv ρ G w) (he : ∀ x, RV (Pr N0 ρ) w ρ (e x) (σ x)) (ho : o.op = .build t parts) (h : valOp P E e G (.build t parts) = some pv) :
    Gets P N0 ρ w o σ pv := by
  simp only [valOp, bldOf] at h
  split at h
  · rename_i zs pl hz hpl
    simp only [Option.map_eq_some_iff] at h
    obtain ⟨cs, hf, rfl⟩ := h
    have key : ∀ place' : Nat → Option (Nat × Nat), (∀ i x, pl[i]? = some x → place' i = some x) → ∃ vs', Instr.fill place' zs (parts.toList.map fun (i, x) => (i, σ x)) = some vs' ∧ vs'.size = cs.length ∧ ∀ (j : Nat) (pv : PV), cs[j]? = some pv → RV (Pr N0 ρ) w ρ pv (vs'.getD j undef) := fun place' hpp =>
      fill_sim H hpp (qs := parts.toList.map fun (i, x) => (i, σ x)) hf ⟨by simp, fun j i p hj => by
        simp only [List.getElem?_map, Option.map_eq_some_iff] at hj
        obtain ⟨⟨i', x⟩, hx, hh⟩ := hj
        cases hh
        exact ⟨σ x, by simp [hx], he x⟩⟩ (vs := zs) (by simp) (fun j pv hj => by
          simp only [List.getElem?_map, Option.map_eq_some_iff] at hj
          obtain ⟨u, hu, rfl⟩ := hj
          have : zs.getD j undef = u := by simp at hu; simp [hu]
          rw [this]
          exact .ofCv u)
    have hb : ∃ vs, P.built t (parts.map fun (i, x) => (i, σ x)).toList = some vs ∧ vs.size = cs.length ∧ ∀ (j : Nat) (pv : PV), cs[j]? = some pv → RV (Pr N0 ρ) w ρ pv (vs.getD j undef) := by
      unfold zeroOf at hz
      unfold placesOf at hpl
      cases hi : P.info? t with
      | none => simp [hi] at hz
      | some it =>
        simp only [hi, Option.bind_some] at hz
        unfold Program.built
        split at hpl
        · rename_i fs hfs
          simp only [hi, hfs, hz, hpl, Value.cells]
          simpa using key (pl[·]?) (fun _ _ h => h)
        · rename_i n el hel
          simp only [Option.map_eq_some_iff] at hpl
          obtain ⟨ie, hie, rfl⟩ := hpl
          simp only [hi, hel, hz, hie, Value.cells]
          simpa using key (fun i => some (i * ie.size, ie.size)) (fun i x hx => by
            simp only [List.getElem?_map, Option.map_eq_some_iff] at hx
            obtain ⟨k, hk, rfl⟩ := hx
            rw [List.getElem?_range (by rcases Nat.lt_or_ge i n with h | h; exact h; simp [List.getElem?_eq_none (l := List.range n) (by simpa using h)] at hk)] at hk
            cases hk
            rfl)
        · cases hpl
    obtain ⟨vs, hb, h2, h3⟩ := hb
    refine Gets.still (v := .agg vs) ?_ (.agg h2 h3)
    unfold execOp
    simp only [ho, Sem.run_bind, run_build w t _ vs hb, Result.andThen_ok]
    rfl
  · cases h

theorem flat_weak {N : Nat → Prop} {ρ : List RR} {q : PV} {v : Value} (hf : flat q = true) (h : RV N w ρ q v) : RV N w [] q v := by
  cases h with
  | bad => exact .bad
  | val => exact .val
  | row A c f hc hz hA h => exact .row A c f hc hz hA h
  | «at» b o f hN hb hc h => exact .at b o f hN hb hc h
  | emp A => exact .emp A
  | nil A c => exact .nil A c
  | mpv b es clock kvs h1 h2 h3 h4 h5 h6 => exact .mpv b es clock kvs h1 h2 h3 h4 h5 h6
  | _ => simp [flat] at hf

theorem flatten_get : ∀ {l : List (List PV)} {sz : Nat}, (∀ x ∈ l, x.length = sz) → ∀ {i j : Nat} {x : List PV} {q : PV}, l[i]? = some x → x[j]? = some q → l.flatten[i * sz + j]? = some q
  | y :: l, sz, hs, 0, j, x, q, hi, hj => by
    simp at hi
    subst hi
    rw [List.flatten_cons, List.getElem?_append_left (by have := (List.getElem?_eq_some_iff.1 hj).1; omega)]
    simpa using hj
  | y :: l, sz, hs, i + 1, j, x, q, hi, hj => by
    have hy : y.length = sz := hs y (by simp)
    rw [List.flatten_cons, List.getElem?_append_right (by rw [Nat.add_mul]; omega)]
    rw [show (i + 1) * sz + j - y.length = i * sz + j by rw [Nat.add_mul]; omega]
    exact flatten_get (fun z hz => hs z (by simp [hz])) (by simpa using hi) hj
  | [], _, _, _, _, _, _, hi, _ => by simp at hi

theorem flatten_len : ∀ {l : List (List PV)} {sz : Nat}, (∀ x ∈ l, x.length = sz) → l.flatten.length = l.length * sz
  | [], sz, _ => by simp
  | y :: l, sz, hs => by
    rw [List.flatten_cons, List.length_append, flatten_len (fun z hz => hs z (by simp [hz])), hs y (by simp), List.length_cons, Nat.add_mul]
    omega

theorem litOf_spec {sz : Nat} : ∀ {ps : List (Nat × PV)} {k : Nat} {l : List (List PV)}, litOf G sz k ps = some l → l.length = ps.length ∧ (∀ x ∈ l, x.length = sz ∧ x.all flat = true) ∧
    ∀ (pre : List PV) (suf : List PV), pre.length = k * sz → l.length * sz ≤ suf.length → fillP G (fun i => some (i * sz, sz)) (pre ++ suf) ps = some (pre ++ l.flatten ++ suf.drop (l.length * sz))
  | [], k, l, h => by
    simp only [litOf, Option.some.injEq] at h
    subst h
    exact ⟨rfl, by simp, fun pre suf _ _ => by simp [fillP]⟩
  | (i, q) :: ps, k, l, h => by
    simp only [litOf] at h
    split at h
    · rename_i xs r hx hr
      split at h
      · rename_i hc
        obtain ⟨rfl, hl, hf⟩ := hc
        simp only [Option.some.injEq] at h
        subst h
        obtain ⟨h1, h2, h3⟩ := litOf_spec hr
        refine ⟨by simp [h1], fun x hxm => ?_, fun pre suf hp hs => ?_⟩
        · simp only [List.mem_cons] at hxm
          rcases hxm with rfl | hxm
          · exact ⟨hl, hf⟩
          · exact h2 x hxm
        · simp only [List.length_cons, Nat.add_mul, Nat.one_mul] at hs
          simp only [fillP, hx]
          rw [if_pos ⟨hl, by simp; omega⟩]
          have e : over (pre ++ suf) (i * sz) xs = (pre ++ xs) ++ suf.drop sz := by
            unfold over
            rw [← hp, List.take_left', hl, List.drop_append]
            simp [List.drop_eq_nil_of_le]
            rfl
          rw [e, h3 (pre ++ xs) (suf.drop sz) (by simp [hp, hl, Nat.add_mul]) (by simp; omega)]
          simp [List.drop_drop, Nat.add_mul, Nat.add_comm]
      · cases h
    · cases h

theorem heap_new (w : World) (o : Obj) : (w.alloc o).heap[w.heap.size]? = some o := by
  show (w.heap.push o)[w.heap.size]? = _
  simp

theorem HRel.fresh (H : HRel N0 lv ρ G w) : ¬ Pr N0 ρ w.heap.size := fun h => Nat.lt_irrefl _ (H.bnd _ h)

theorem sim_buildSlice {t : TypeId} {n : Nat} {parts : Array (Nat × Operand)} (H : HRel N0 lv ρ G w) (he : ∀ x, RV (Pr N0 ρ) w ρ (e x) (σ x)) (ho : o.op = .buildSlice t n parts)
    (h : valOp P E e G (.buildSlice t n parts) = some pv) : Gets P N0 ρ w o σ pv := by
  simp only [valOp] at h
  split at h
  · rename_i el hu
    split at h
    · rename_i sz hsz
      split at h
      · rename_i hn
        subst hn
        split at h
        · rename_i hp
          subst hp
          simp only [Option.some.injEq] at h
          subst h
          refine ⟨.slice (some ⟨w.heap.size, 0, none⟩) 0 0, w.alloc (.cells ((Array.range 0).map fun _ => default) el), ?_, (Below.refl _ _).alloc (Nat.le_refl _) _, .emp _⟩
          unfold execOp
          simp [ho, Instr.buildSlice, run_underlying hu, run_size hsz, Instr.fill, newRow, newObj, Sem.run]
        · cases h
      · split at h
        · rename_i hc
          obtain ⟨rfl, hs0, hle, hzs⟩ := hc
          simp only [Option.map_eq_some_iff] at h
          obtain ⟨l, hl, rfl⟩ := h
          obtain ⟨h1, h2, h3⟩ := litOf_spec hl
          obtain ⟨z, hz⟩ := Option.isSome_iff_exists.1 hzs
          have hl2 : l.length = parts.size := by rw [h1]; simp
          have h4 := h3 [] (List.replicate (parts.size * sz) .bad) (by simp) (by simp [hl2])
          simp only [List.nil_append, hl2, List.drop_replicate, Nat.sub_self, List.replicate_zero, List.append_nil] at h4
          obtain ⟨vs, h5, h6, h7⟩ := fill_sim H (place' := fun i => some (i * sz, sz)) (fun _ _ h => h) (qs := parts.toList.map fun (i, x) => (i, σ x)) h4 ⟨by simp, fun j i p hj => by
            simp only [List.getElem?_map, Option.map_eq_some_iff] at hj
            obtain ⟨⟨i', x⟩, hx, hh⟩ := hj
            cases hh
            exact ⟨σ x, by simp [hx], he x⟩⟩ (vs := (Array.range (parts.size * sz)).map (z.cells[· % z.cells.size]!)) (by simp) (fun j pv hj => by
              rw [List.getElem?_replicate] at hj
              split at hj
              · cases hj; exact .bad
              · cases hj)
          have hB : Below w.heap.size w (w.alloc (.cells vs el)) := (Below.refl _ _).alloc (Nat.le_refl _) _
          have hzr : (zeroValue el).run P w = .ok z w := by
            unfold zeroOf at hz
            cases hi : P.info? el with
            | none => simp [hi] at hz
            | some i =>
              simp only [hi, Option.bind_some] at hz
              simp [zeroValue, typeInfo, program, Sem.run, hi, hz]
          refine ⟨.slice (some ⟨w.heap.size, 0, none⟩) parts.size parts.size, w.alloc (.cells vs el), ?_, hB, ?_⟩
          · unfold execOp
            have hne : parts.size * sz ≠ 0 := by
              intro h0
              rcases Nat.mul_eq_zero.1 h0 with h0 | h0 <;> omega
            have hno : ¬ parts.size * sz > 2 ^ 24 := by omega
            simp only [ho, Instr.buildSlice, Sem.run_bind, run_underlying hu, Result.andThen_ok, run_size hsz, if_neg hno, if_neg hne, hzr, Sem.run_pure, Array.toList_map, h5]
            simp [newRow, newObj, Sem.run]
          · rw [← hl2]
            have hsz2 : ∀ x ∈ l, x.length = sz := fun x hx => (h2 x hx).1
            have hvl : vs.size = l.length * sz := by rw [h6, flatten_len hsz2]
            refine .row _ _ (fun i j => vs.getD (i * sz + j) undef) (Nat.le_refl _) hsz2 (fun _ => ⟨w.heap.size, 0, rfl, H.fresh, by simp, fun i j hi hj => ?_⟩) fun i j x q hi hj => ?_
            · rw [Nat.zero_add]
              exact cell_of (w := w.alloc (.cells vs el)) (el := el) (fr := (0, 0)) (heap_new w _) (idx_lt hi hj (Nat.le_refl _) (by omega))
            · have hq := h7 _ q (flatten_get hsz2 hi hj)
              have hfl : flat q = true := List.all_eq_true.1 (h2 x (List.mem_of_getElem? hi)).2 q (List.mem_of_getElem? hj)
              exact (flat_weak hfl hq).step (Step.below hB) (.nil _)
        · cases h
    · cases h
  · cases h

theorem maxP_sim {k : IntKind} : ∀ {l : List Operand} {x : Int} {q : PV}, maxP k x (l.map e) = some q → (∀ x, RV (Pr N0 ρ) w ρ (e x) (σ x)) → ∃ z, q = .val (.int k z) ∧ ((l.map σ).foldlM Builtin.max2 (.int k x)).run P w = .ok (.int k z) w
  | [], x, q, h, _ => by
    simp only [List.map_nil, maxP, Option.some.injEq] at h
    exact ⟨x, h.symm, rfl⟩
  | o :: l, x, q, h, he => by
    simp only [List.map_cons] at h
    have ho := he o
    generalize hq : e o = p at h ho
    unfold maxP at h
    split at h
    · rename_i hh; cases hh
    · rename_i k' y r hh
      cases hh
      split at h
      · rename_i hk
        subst hk
        obtain ⟨z, h1, h2⟩ := maxP_sim h he
        generalize hs : σ o = u at ho
        cases ho
        refine ⟨z, h1, ?_⟩
        rw [List.map_cons, List.foldlM_cons, hs, Sem.run_bind]
        exact h2
      · cases h
    · cases h
theorem minP_sim {k : IntKind} : ∀ {l : List Operand} {x : Int} {q : PV}, minP k x (l.map e) = some q → (∀ x, RV (Pr N0 ρ) w ρ (e x) (σ x)) → ∃ z, q = .val (.int k z) ∧ ((l.map σ).foldlM Builtin.min2 (.int k x)).run P w = .ok (.int k z) w
  | [], x, q, h, _ => by
    simp only [List.map_nil, minP, Option.some.injEq] at h
    exact ⟨x, h.symm, rfl⟩
  | o :: l, x, q, h, he => by
    simp only [List.map_cons] at h
    have ho := he o
    generalize hq : e o = p at h ho
    unfold minP at h
    split at h
    · rename_i hh; cases hh
    · rename_i k' y r hh
      cases hh
      split at h
      · rename_i hk
        subst hk
        obtain ⟨z, h1, h2⟩ := minP_sim h he
        generalize hs : σ o = u at ho
        cases ho
        refine ⟨z, h1, ?_⟩
        rw [List.map_cons, List.foldlM_cons, hs, Sem.run_bind]
        exact h2
      · cases h
    · cases h

theorem sim_max {args : Array Operand} {ts : Array TypeId} (he : ∀ x, RV (Pr N0 ρ) w ρ (e x) (σ x)) (ho : o.op = .call ⟨.builtin .max, args, ts⟩) (h : valOp P E e G (.call ⟨.builtin .max, args, ts⟩) = some pv) :
    Gets P N0 ρ w o σ pv := by
  simp only [valOp] at h
  split at h
  · rename_i k x r ha
    obtain ⟨l⟩ := args
    cases l with
    | nil => simp at ha
    | cons ox l =>
      simp only [List.map_cons, List.cons.injEq] at ha
      obtain ⟨hx, rfl⟩ := ha
      obtain ⟨z, rfl, hz⟩ := maxP_sim (P := P) h he
      have h1 := he ox
      rw [hx] at h1
      generalize hs : σ ox = u at h1
      cases h1
      refine Gets.still (v := .int k z) ?_ .val
      unfold execOp
      simp [ho, hs, resolve, invoke, builtin, Builtin.max_, hz]
  · cases h
theorem sim_min {args : Array Operand} {ts : Array TypeId} (he : ∀ x, RV (Pr N0 ρ) w ρ (e x) (σ x)) (ho : o.op = .call ⟨.builtin .min, args, ts⟩) (h : valOp P E e G (.call ⟨.builtin .min, args, ts⟩) = some pv) :
    Gets P N0 ρ w o σ pv := by
  simp only [valOp] at h
  split at h
  · rename_i k x r ha
    obtain ⟨l⟩ := args
    cases l with
    | nil => simp at ha
    | cons ox l =>
      simp only [List.map_cons, List.cons.injEq] at ha
      obtain ⟨hx, rfl⟩ := ha
      obtain ⟨z, rfl, hz⟩ := minP_sim (P := P) h he
      have h1 := he ox
      rw [hx] at h1
      generalize hs : σ ox = u at h1
      cases h1
      refine Gets.still (v := .int k z) ?_ .val
      unfold execOp
      simp [ho, hs, resolve, invoke, builtin, Builtin.min_, hz]
  · cases h

theorem valOp_sim (hσ : ∀ v, σ (.const v) = v) (hE : EqOk P E) (H : HRel N0 lv ρ G w) (he : ∀ x, RV (Pr N0 ρ) w ρ (e x) (σ x)) {op : Op} (ho : o.op = op) (h : valOp P E e G op = some pv) : Gets P N0 ρ w o σ pv := by
  cases op with
  | move x => simp only [valOp, Option.some.injEq] at h; subst h; exact sim_move he (.inl ho)
  | assign x => simp only [valOp, Option.some.injEq] at h; subst h; exact sim_move he (.inr ho)
  | pick c a b => exact sim_pick he ho h
  | binOp op t x y t' => exact sim_binOp hσ hE he ho h
  | unOp op t x => exact sim_unOp he ho h
  | convert s d x => exact sim_convert he ho h
  | extract x i => exact sim_extract he ho h
  | field t x f => exact sim_field he ho h
  | fieldAddr t x f => exact sim_fieldAddr H he ho h
  | indexAddr t x i => exact sim_indexAddr H he ho h
  | index t x i => exact sim_index he ho h
  | load t x => exact sim_load H he ho h
  | nilCheck x => exact sim_nilCheck H he ho h
  | build t ps => exact sim_build H he ho h
  | buildSlice t n ps => exact sim_buildSlice H he ho h
  | slice t x lo hi mx =>
    cases mx with
    | none => exact sim_slice H he ho h
    | some _ => simp [valOp] at h
  | makeFunc fn first caps =>
    cases fn with
    | func f => exact sim_makeFunc he ho h
    | _ => simp [valOp] at h
  | lookup t x k ok => exact sim_lookup H he ho h
  | call c =>
    obtain ⟨callee, args, ts⟩ := c
    cases callee with
    | builtin b =>
      cases b with
      | len => exact sim_len H he ho h
      | max => exact sim_max he ho h
      | min => exact sim_min he ho h
      | _ => simp [valOp] at h
    | _ => simp [valOp] at h
  | _ => simp [valOp] at h
end
end Go.Proofs.Ythmlfonbfnmalaa.Sh
