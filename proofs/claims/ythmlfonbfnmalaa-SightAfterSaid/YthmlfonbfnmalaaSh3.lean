/- A run of the program over values without memory, and that what it says holds of the program's own run. No condition. -/
import Derived.Test.YthmlfonbfnmalaaSh2
import Derived.MapKept
import Derived.WideKeyRuns
import Derived.Laws.StructEq
namespace Go.Proofs.Ythmlfonbfnmalaa.Sh
open Go.RowKit
set_option linter.unusedVariables false
set_option linter.unusedSimpArgs false
section
variable {P : Program} {N0 : Nat → Prop} {lv : List Nat} {ρ : List RR} {G : List GO} {w : World}

theorem run_size {t : TypeId} {n : Nat} (h : szOf P t = some n) (w : World) : (sizeOf t).run P w = .ok n w := by
  unfold szOf at h
  cases hi : P.info? t with
  | none => simp [hi] at h
  | some i =>
    simp [hi] at h
    subst h
    simp [sizeOf, typeInfo, program, Sem.run, hi]
theorem run_agg {t : TypeId} {d : TypeDesc} (h : P.underlying t = some d) (w : World) : (isAgg t).run P w = .ok (aggOf P t) w := by
  unfold isAgg aggOf
  rw [Sem.run_bind, run_underlying h]
  simp only [h]
  cases d <;> rfl

theorem ibin_run {op : BinOp} {k : IntKind} {a b : Int} {v : Value} (h : ibin op k a b = some v) (xt : TypeId) (w : World) : (binOp op xt (.int k a) (.int k b)).run P w = .ok v w := by
  cases op <;> simp only [ibin, Option.some.injEq, reduceCtorEq] at h
  all_goals first | (subst h; simp [binOp, Op.intArith, Op.intBits, Op.intCmp]; done) | skip
  all_goals
    by_cases hb : b = 0
    · rw [if_pos hb] at h; cases h
    · rw [if_neg hb] at h; simp only [Option.some.injEq] at h; subst h; simp [binOp, Op.intDiv, hb]

/-- What an operation that makes and writes nothing is shown to do. -/
def Gets (P : Program) (N0 : Nat → Prop) (ρ : List RR) (w : World) (o : Oper) (σ : Operand → Value) (pv : PV) : Prop :=
  ∃ v w', (execOp σ o).run P w = .ok (.value v) w' ∧ Below w.heap.size w w' ∧ RV (Pr N0 ρ) w' ρ pv v

theorem Gets.still {o : Oper} {σ : Operand → Value} {pv : PV} {v : Value} (h : (execOp σ o).run P w = .ok (.value v) w) (hv : RV (Pr N0 ρ) w ρ pv v) : Gets P N0 ρ w o σ pv :=
  ⟨v, w, h, Below.refl _ _, hv⟩

/-- The kinds of cells by which values of a type are compared are right. -/
def EqOk (P : Program) (E : TypeId → Option (List Nat)) : Prop :=
  (∀ t, E t = some [9] → P.underlying t = some .bool) ∧
  ∀ t ks, E t = some ks → ks ≠ [9] → ∀ (xs ys : Array Value) (b : Bool) (ox oy : Operand) (w : World), vEqs ks (xs.toList.map .val) (ys.toList.map .val) = some b →
    (do eqGuard .eql t ox oy (.agg xs) (.agg ys); binOp .eql t (.agg xs) (.agg ys) : Sem Value).run P w = .ok (.bool b) w ∧
    (do eqGuard .neq t ox oy (.agg xs) (.agg ys); binOp .neq t (.agg xs) (.agg ys) : Sem Value).run P w = .ok (.bool !b) w

theorem vEqs_vals : ∀ {ks : List Nat} {xs ys : List PV} {b : Bool}, vEqs ks xs ys = some b → (∃ vs : List Value, xs = vs.map .val) ∧ ∃ vs : List Value, ys = vs.map .val
  | [], [], [], _, _ => ⟨⟨[], rfl⟩, ⟨[], rfl⟩⟩
  | k :: ks, x :: xs, y :: ys, b, h => by
    simp only [vEqs] at h
    split at h
    · rename_i a c h1 h2
      obtain ⟨⟨vs, rfl⟩, ⟨us, rfl⟩⟩ := vEqs_vals h2
      unfold vEq at h1
      split at h1
      · exact ⟨⟨_ :: vs, rfl⟩, ⟨_ :: us, rfl⟩⟩
      · exact ⟨⟨_ :: vs, rfl⟩, ⟨_ :: us, rfl⟩⟩
      · exact ⟨⟨_ :: vs, rfl⟩, ⟨_ :: us, rfl⟩⟩
      · cases h1
    · cases h
  | [], _ :: _, _, _, h => by simp [vEqs] at h
  | [], [], _ :: _, _, h => by simp [vEqs] at h
  | _ :: _, [], _, _, h => by simp [vEqs] at h
  | _ :: _, _ :: _, [], _, h => by simp [vEqs] at h

theorem vEqs_nine : ∀ {xs ys : List PV} {b : Bool}, vEqs [9] xs ys = some b → False
  | [], _, _, h => by simp [vEqs] at h
  | _ :: _, [], _, h => by simp [vEqs] at h
  | x :: xs, y :: ys, b, h => by simp [vEqs, vEq] at h

theorem agg_vals {vs : List Value} {v : Value} (h : RV (Pr N0 ρ) w ρ (.agg (vs.map .val)) v) : v = .agg vs.toArray := by
  cases h with
  | agg hl he =>
    rename_i us
    congr 1
    apply Array.ext
    · simpa using hl
    · intro i h1 h2
      have h3 : i < vs.length := by simpa using h2
      have h4 := he i (.val vs[i]) (by simp [List.getElem?_eq_getElem h3])
      generalize hg : us.getD i undef = u at h4
      cases h4
      simp [h1] at hg
      simpa using hg

theorem run_eql_bool (op : BinOp) (t : TypeId) (a b : Bool) (ox oy : Operand) (h : P.underlying t = some .bool) :
    ((do eqGuard .eql t ox oy (.bool a) (.bool b); binOp .eql t (.bool a) (.bool b) : Sem Value).run P w) = .ok (.bool (a == b)) w ∧
    ((do eqGuard .neq t ox oy (.bool a) (.bool b); binOp .neq t (.bool a) (.bool b) : Sem Value).run P w) = .ok (.bool (!(a == b))) w := by
  have h1 : (Op.equal t (.bool a) (.bool b)).run P w = .ok (a == b) w := run_equalIn_bool' w 9999 t a b h
  constructor
  · show ((do let r ← Op.equal t (.bool a) (.bool b); pure (.bool r) : Sem Value).run P w) = _
    rw [Sem.run_bind, h1]
    rfl
  · show ((do let r ← Op.equal t (.bool a) (.bool b); pure (.bool (!r)) : Sem Value).run P w) = _
    rw [Sem.run_bind, h1]
    rfl

theorem bin_run {E : TypeId → Option (List Nat)} (hE : EqOk P E) {op : BinOp} {t : TypeId} {x y : PV} {r : PV} {vx vy : Value} (h : bin (E t) op x y = some r) (hx : RV (Pr N0 ρ) w ρ x vx)
    (hy : RV (Pr N0 ρ) w ρ y vy) (ox oy : Operand) :
    ∃ v, ((do eqGuard op t ox oy vx vy; binOp op t vx vy : Sem Value).run P w) = .ok v w ∧ r = .val v := by
  unfold bin at h
  split at h
  · rename_i k a k' b
    split at h
    · rename_i q hq
      cases hx; cases hy
      have hg : (eqGuard op t ox oy (.int k a) (.int k' b)).run P w = .ok () w := by
        unfold eqGuard; split <;> simp
      cases op <;> simp only [shiftV, Option.some.injEq, reduceCtorEq] at hq
      all_goals
        subst hq
        split at h
        · rename_i hb
          simp only [Option.some.injEq] at h
          have hb' : ¬ b < 0 := by omega
          refine ⟨_, ?_, h.symm⟩
          simp only [Sem.run_bind, hg, Result.andThen_ok]
          simp [binOp, Op.shift, hb']
        · cases h
    split at h
    · rename_i hk
      subst hk
      cases hx; cases hy
      simp only [Option.map_eq_some_iff] at h
      obtain ⟨v, hv, rfl⟩ := h
      refine ⟨v, ?_, rfl⟩
      have := ibin_run (P := P) hv t w
      have hg : (eqGuard op t ox oy (.int k a) (.int k b)).run P w = .ok () w := by
        unfold eqGuard; split <;> simp
      simp only [Sem.run_bind, hg, Result.andThen_ok, this]
    · cases h
  · rename_i a b
    cases hx; cases hy
    have hg : (eqGuard op t ox oy (.string a) (.string b)).run P w = .ok () w := by
      unfold eqGuard; split <;> simp
    cases op <;> simp only [Option.some.injEq, reduceCtorEq] at h
    case add =>
      split at h
      · rename_i hl
        simp only [Option.some.injEq] at h
        refine ⟨_, ?_, h.symm⟩
        have hl' : ¬ (((a.size + b.size : Nat) : Int) > IntKind.i64.max) := by
          have : IntKind.i64.max = 9223372036854775807 := rfl
          omega
        simp only [Sem.run_bind, hg, Result.andThen_ok]
        show (Op.stringOp .add a b).run P w = _
        unfold Op.stringOp
        simp only [hl', if_false]
        rfl
      · cases h
    all_goals
      subst h
      exact ⟨_, by simp only [Sem.run_bind, hg, Result.andThen_ok]; rfl, rfl⟩
  · rename_i a b
    cases hx; cases hy
    split at h
    · cases h
    · rename_i hk
      have hu := hE.1 t (by simpa using hk)
      have h1 := run_eql_bool (w := w) op t a b ox oy hu
      cases op <;> simp only [Option.some.injEq, reduceCtorEq] at h
      · exact ⟨_, h1.1, h.symm⟩
      · exact ⟨_, h1.2, h.symm⟩
  · rename_i xs ys
    split at h
    · rename_i ks hk
      have key : ∀ b, vEqs ks xs ys = some b →
          ((do eqGuard .eql t ox oy vx vy; binOp .eql t vx vy : Sem Value).run P w) = .ok (.bool b) w ∧ ((do eqGuard .neq t ox oy vx vy; binOp .neq t vx vy : Sem Value).run P w) = .ok (.bool !b) w := fun b hb => by
        obtain ⟨⟨vs, rfl⟩, ⟨us, rfl⟩⟩ := vEqs_vals hb
        obtain rfl := agg_vals hx
        obtain rfl := agg_vals hy
        by_cases h2 : ks = [9]
        · subst h2
          exact (vEqs_nine hb).elim
        · exact hE.2 t ks hk h2 _ _ b ox oy w (by simpa using hb)
      cases op <;> simp only [Option.map_eq_some_iff, reduceCtorEq] at h
      · obtain ⟨b, hb, rfl⟩ := h
        exact ⟨_, (key b hb).1, rfl⟩
      · obtain ⟨b, hb, rfl⟩ := h
        exact ⟨_, (key b hb).2, rfl⟩
    · cases h
  · cases h
/-! ### Structs of whole numbers, bools and strings: how they are compared -/
def kdOf (P : Program) (t : TypeId) : Option Nat :=
  match P.underlying t with
  | some (.int _) => some 1
  | some .bool => some 2
  | some .string => some 3
  | _ => none
def flatFields (P : Program) : Nat → List Field → Option (List Nat)
  | _, [] => some []
  | i, f :: fs => if f.name ≠ "_" ∧ f.offset = i then (match kdOf P f.type, flatFields P (i + 1) fs with
    | some k, some ks => some (k :: ks)
    | _, _ => none) else none
/-- The kinds of a struct's cells; of a bool: [9]. -/
def flatKinds (P : Program) (t : TypeId) : Option (List Nat) :=
  match P.underlying t with
  | some .bool => some [9]
  | some (.struct fs) => if P.stoodInHeld t = false ∧ P.eqGuardType P.depth t = false then flatFields P 0 fs.toList else none
  | _ => none
theorem kd_equal {d : Nat} {t : TypeId} {k : Nat} {a b : Value} {r : Bool} (hk : kdOf P t = some k) (h : vEq k (.val a) (.val b) = some r) (w : World) : (Op.equalIn (d + 1) t a b).run P w = .ok r w := by
  unfold kdOf at hk
  split at hk
  · rename_i k' hu
    cases hk
    cases a <;> cases b <;> simp only [vEq, reduceCtorEq] at h
    split at h
    · rename_i h1; subst h1; cases h; exact run_equalIn_int w d t _ _ _ _ hu
    · cases h
  · rename_i hu
    cases hk
    cases a <;> cases b <;> simp only [vEq, reduceCtorEq, Option.some.injEq] at h
    subst h
    exact run_equalIn_bool' w d t _ _ hu
  · rename_i hu
    cases hk
    cases a <;> cases b <;> simp only [vEq, reduceCtorEq, Option.some.injEq] at h
    subst h
    exact run_equalIn_string w d t _ _ hu
  · cases hk
theorem kd_agg {t : TypeId} {k : Nat} (hk : kdOf P t = some k) : (P.underlying t).isSome = true ∧ aggOf P t = false := by
  unfold kdOf at hk
  unfold aggOf
  split at hk <;> first | (rename_i hu; simp [hu]; done) | cases hk
theorem part_one {t : TypeId} {k off : Nat} {xs : Array Value} (hk : kdOf P t = some k) (h : off < xs.size) (w : World) : (part t xs off).run P w = .ok (xs.getD off undef) w := by
  obtain ⟨h1, h2⟩ := kd_agg hk
  obtain ⟨d, hd⟩ := Option.isSome_iff_exists.1 h1
  simp [part, run_agg hd, h2, h]
theorem flat_fields {d : Nat} {xs ys : Array Value} (w : World) : ∀ {fs : List Field} {i : Nat} {ks : List Nat} {b : Bool}, flatFields P i fs = some ks → vEqs ks ((xs.toList.drop i).map .val) ((ys.toList.drop i).map .val) = some b →
    (Op.eqFields (d + 1) xs ys fs).run P w = .ok b w
  | [], i, ks, b, hf, h => by
    simp only [flatFields, Option.some.injEq] at hf
    subst hf
    generalize (xs.toList.drop i).map PV.val = as at h
    generalize (ys.toList.drop i).map PV.val = bs at h
    cases as <;> cases bs <;> simp only [vEqs, reduceCtorEq, Option.some.injEq] at h
    subst h
    simp [Op.eqFields]
  | f :: fs, i, ks, b, hf, h => by
    simp only [flatFields] at hf
    split at hf
    case isFalse => cases hf
    rename_i hn0
    obtain ⟨hn, rfl⟩ := hn0
    split at hf
    case h_2 => cases hf
    rename_i k ks' hk hks
    cases hf
    generalize hi : f.offset = i at *
    rcases Nat.lt_or_ge i xs.toList.length with hx | hx
    case inr => rw [List.drop_eq_nil_of_le hx] at h; simp [vEqs] at h
    rcases Nat.lt_or_ge i ys.toList.length with hy | hy
    case inr => rw [List.drop_eq_nil_of_le hy, List.drop_eq_getElem_cons hx] at h; simp [vEqs] at h
    rw [List.drop_eq_getElem_cons hx, List.drop_eq_getElem_cons hy] at h
    simp only [List.map_cons, vEqs] at h
    split at h
    case h_2 => cases h
    rename_i a' b' h1 h2
    cases h
    have p1 := part_one hk (xs := xs) (off := i) (by simpa using hx) w
    have p2 := part_one hk (xs := ys) (off := i) (by simpa using hy) w
    have e1 : xs.getD i undef = xs.toList[i] := by simp [Array.getElem?_eq_getElem (show i < xs.size by simpa using hx)]
    have e2 : ys.getD i undef = ys.toList[i] := by simp [Array.getElem?_eq_getElem (show i < ys.size by simpa using hy)]
    rw [e1] at p1
    rw [e2] at p2
    have p3 := kd_equal (d := d) hk h1 w
    have ih := flat_fields w hks h2 (d := d)
    simp only [Op.eqFields, hn, hi, ne_eq, not_false_eq_true, if_true, Sem.run_bind, p1, p2, Result.andThen_ok, p3]
    cases a' with
    | true => simpa using ih
    | false => simp
theorem eqOk_flat : EqOk P (flatKinds P) := by
  refine ⟨fun t h => ?_, fun t ks h hne xs ys b ox oy w hb => ?_⟩
  · unfold flatKinds at h
    split at h
    · assumption
    · rename_i fs hu
      split at h
      · exfalso
        have key : ∀ {fs : List Field} {i : Nat} {ks : List Nat}, flatFields P i fs = some ks → 9 ∉ ks := fun {fs} => by
          induction fs with
          | nil => intro i ks h; simp only [flatFields, Option.some.injEq] at h; subst h; simp
          | cons f fs ih =>
            intro i ks h
            simp only [flatFields] at h
            split at h
            case isFalse => cases h
            split at h
            case h_2 => cases h
            rename_i k ks' hk hks
            cases h
            have := ih hks
            unfold kdOf at hk
            split at hk <;> cases hk <;> simp [this]
        exact key h (by simp)
      · cases h
    · cases h
  · unfold flatKinds at h
    split at h
    · cases h; exact absurd rfl hne
    · rename_i fs hu
      split at h
      case isFalse => cases h
      rename_i hc
      have hfs : P.fieldsOf t = fs := by simp [Program.fieldsOf, hu]
      have h1 : (Op.equal t (.agg xs) (.agg ys)).run P w = .ok b w := by
        show (Op.equalIn (9999 + 1) t _ _).run P w = _
        rw [run_equalIn_struct w 9999 t xs ys (by rw [hfs]; exact hu) hc.1, hfs]
        exact flat_fields w h (by simpa using hb)
      have hg : ∀ op, (eqGuard op t ox oy (.agg xs) (.agg ys)).run P w = .ok () w := fun op => run_eqGuard_agg w op t ox oy xs ys hc.2
      constructor
      · rw [Sem.run_bind, hg]
        show ((do let r ← Op.equal t (.agg xs) (.agg ys); pure (.bool r) : Sem Value).run P w) = _
        rw [Sem.run_bind, h1]
        rfl
      · rw [Sem.run_bind, hg]
        show ((do let r ← Op.equal t (.agg xs) (.agg ys); pure (.bool (!r)) : Sem Value).run P w) = _
        rw [Sem.run_bind, h1]
        rfl
    · cases h
end
/-! ### Keys of maps, as the program tells of them -/
def KD.desc : KD → TypeDesc
  | .int k => .int k
  | .bool => .bool
  | .str => .string
section
variable {P : Program} {w : World}
theorem kdT_desc {t : TypeId} {d : KD} (h : kdT P t = some d) : P.underlying t = some d.desc := by
  unfold kdT at h
  split at h <;> first | (cases h; assumption) | cases h
theorem isKey_of {v : Value} {d : KD} (h : KD.of v = some d) : MapKept.IsKey d.desc v := by
  cases v <;> simp only [KD.of, Option.some.injEq, reduceCtorEq] at h <;> subst h <;> first | rfl | trivial
theorem shapeV_one {v : Value} {d : KD} (h : shapeV v = some (.one d)) : KD.of v = some d := by
  cases v with
  | agg xs => simp only [shapeV, Option.map_eq_some_iff] at h; obtain ⟨_, _, h⟩ := h; cases h
  | _ => simp only [shapeV, Option.map_eq_some_iff] at h; obtain ⟨_, h1, h⟩ := h; cases h; exact h1
theorem shapeV_many {v : Value} {ds : List KD} (h : shapeV v = some (.many ds)) : ∃ xs, v = .agg xs ∧ shapes xs.toList = some ds := by
  cases v with
  | agg xs => simp only [shapeV, Option.map_eq_some_iff] at h; obtain ⟨_, h1, h⟩ := h; cases h; exact ⟨xs, rfl, h1⟩
  | _ => simp only [shapeV, Option.map_eq_some_iff] at h; obtain ⟨_, _, h⟩ := h; cases h
theorem shapeT_cases {t : TypeId} {s : KS} (h : shapeT P t = some s) : (∃ d, s = .one d ∧ P.underlying t = some d.desc) ∨ ∃ fs ds, s = .many ds ∧ P.underlying t = some (.struct fs) ∧ P.stoodInHeld t = false ∧ shapeF P 0 fs.toList = some ds := by
  unfold shapeT at h
  split at h
  · rename_i fs hu
    split at h
    · rename_i h1
      simp only [Option.map_eq_some_iff] at h
      obtain ⟨ds, h2, rfl⟩ := h
      exact .inr ⟨fs, ds, rfl, hu, h1, h2⟩
    · cases h
  · simp only [Option.map_eq_some_iff] at h
    obtain ⟨d, h2, rfl⟩ := h
    exact .inl ⟨d, rfl, kdT_desc h2⟩
theorem shapeT_under {t : TypeId} {s : KS} (h : shapeT P t = some s) : ∃ d, P.underlying t = some d := by
  rcases shapeT_cases h with ⟨d, _, hu⟩ | ⟨fs, _, _, hu, _⟩ <;> exact ⟨_, hu⟩
theorem part_kd {t : TypeId} {d : KD} {off : Nat} {xs : Array Value} (hk : kdT P t = some d) (h : off < xs.size) (w : World) : (part t xs off).run P w = .ok (xs.getD off undef) w := by
  have hu := kdT_desc hk
  have ha : aggOf P t = false := by unfold aggOf; cases d <;> simp [hu, KD.desc]
  simp [part, run_agg hu, ha, h]
theorem fields_step {i : Nat} {f : Field} {fs : List Field} {ds : List KD} (hf : shapeF P i (f :: fs) = some ds) : ∃ d ds', ds = d :: ds' ∧ f.name ≠ "_" ∧ f.offset = i ∧ kdT P f.type = some d ∧ shapeF P (i + 1) fs = some ds' := by
  simp only [shapeF] at hf
  split at hf
  case isFalse => cases hf
  rename_i hn
  split at hf
  case h_2 => cases hf
  rename_i k ks' hk hks
  cases hf
  exact ⟨k, ks', rfl, hn.1, hn.2, hk, hks⟩
theorem shapes_step {l : List Value} {i : Nat} {d : KD} {ds : List KD} (h : shapes (l.drop i) = some (d :: ds)) : ∃ h : i < l.length, KD.of l[i] = some d ∧ shapes (l.drop (i + 1)) = some ds := by
  rcases Nat.lt_or_ge i l.length with hi | hi
  · rw [List.drop_eq_getElem_cons hi] at h
    simp only [shapes] at h
    split at h
    · rename_i h1 h2; cases h; exact ⟨hi, h1, h2⟩
    · cases h
  · rw [List.drop_eq_nil_of_le hi] at h; simp [shapes] at h
theorem getD_list {xs : Array Value} {i : Nat} (h : i < xs.toList.length) : i < xs.size ∧ xs.getD i undef = xs.toList[i] := by
  have h1 : i < xs.size := by simpa using h
  exact ⟨h1, by simp [Array.getElem?_eq_getElem h1]⟩
theorem key_check {kt : TypeId} {s : KS} {k : Value} (hs : shapeT P kt = some s) (hk : shapeV k = some s) (em : Bool) (w : World) : (Instr.checkKey em 10000 kt k).run P w = .ok () w := by
  rcases shapeT_cases hs with ⟨d, rfl, hu⟩ | ⟨fs, ds, rfl, hu, _, hf⟩
  · exact MapKept.run_checkKey hu (isKey_of (shapeV_one hk)) em 9999
  · obtain ⟨xs, rfl, hx⟩ := shapeV_many hk
    unfold Instr.checkKey
    simp only [Sem.run_bind, run_underlying hu, Result.andThen_ok]
    rw [← Array.forIn_toList]
    have hx' : shapes (xs.toList.drop 0) = some ds := by simpa using hx
    clear hu hk hx hs
    revert hf hx'
    generalize fs.toList = l
    generalize (0 : Nat) = i
    induction l generalizing i ds with
    | nil => intro _ _; simp
    | cons f fs ih =>
      intro hf hx
      obtain ⟨d, ds', rfl, h1, h2, h3, h4⟩ := fields_step hf
      obtain ⟨hi, h5, h6⟩ := shapes_step hx
      obtain ⟨g1, g2⟩ := getD_list hi
      have p1 := part_kd h3 g1 w
      rw [g2] at p1
      have p2 := MapKept.run_checkKey (w := w) (kdT_desc h3) (isKey_of h5) em 9998
      have := ih ds' (i + 1) h4 h6
      simp only [List.forIn_cons, h1, h2, ne_eq, not_false_eq_true, if_true, Sem.run_bind, p1, Result.andThen_ok, p2, Sem.run_pure] at this ⊢
      exact this
theorem key_equal {kt : TypeId} {ds : List KD} {fs : Array Field} {xs ys : Array Value} (hu : P.underlying kt = some (.struct fs)) (hh : P.stoodInHeld kt = false) (hf : shapeF P 0 fs.toList = some ds) (hx : shapes xs.toList = some ds) (hy : shapes ys.toList = some ds) (w : World) :
    ∃ r, (Op.equal kt (.agg xs) (.agg ys)).run P w = .ok r w ∧ (r = true ↔ xs = ys) := by
  have one : ∀ {t : TypeId} {d : KD} {a b : Value}, kdT P t = some d → KD.of a = some d → KD.of b = some d → ∃ r, (Op.equalIn 9999 t a b).run P w = .ok r w ∧ (r = true ↔ a = b) := fun {t d a b} h1 h2 h3 => by
    have hu := kdT_desc h1
    cases d with
    | int k =>
      cases a <;> simp only [KD.of, Option.some.injEq, reduceCtorEq] at h2
      cases b <;> simp only [KD.of, Option.some.injEq, reduceCtorEq] at h3
      cases h2; cases h3
      exact ⟨_, run_equalIn_int w 9998 t _ _ _ _ hu, by simp⟩
    | bool =>
      cases a <;> simp only [KD.of, Option.some.injEq, reduceCtorEq] at h2
      cases b <;> simp only [KD.of, Option.some.injEq, reduceCtorEq] at h3
      exact ⟨_, run_equalIn_bool' w 9998 t _ _ hu, by simp⟩
    | str =>
      cases a <;> simp only [KD.of, Option.some.injEq, reduceCtorEq] at h2
      cases b <;> simp only [KD.of, Option.some.injEq, reduceCtorEq] at h3
      rename_i a b
      refine ⟨_, run_equalIn_string w 9998 t a b hu, ?_⟩
      have := MapKept.bytes_beq a b
      simp only [beq_iff_eq, Value.string.injEq]
      constructor
      · intro h; exact ByteArray.ext (Array.toList_inj.1 (by simpa [ByteArray.toList_eq] using h))
      · rintro rfl; rfl
  have key : ∀ {fs : List Field} {i : Nat} {ds : List KD}, shapeF P i fs = some ds → shapes (xs.toList.drop i) = some ds → shapes (ys.toList.drop i) = some ds → ∃ r, (Op.eqFields 9999 xs ys fs).run P w = .ok r w ∧ (r = true ↔ xs.toList.drop i = ys.toList.drop i) := fun {fs} => by
    induction fs with
    | nil =>
      intro i ds hf hx hy
      simp only [shapeF, Option.some.injEq] at hf
      subst hf
      have nil : ∀ {l : List Value}, shapes l = some [] → l = [] := fun {l} h => by
        cases l with
        | nil => rfl
        | cons a l => simp only [shapes] at h; split at h <;> cases h
      exact ⟨true, by simp [Op.eqFields], by simp [nil hx, nil hy]⟩
    | cons f fs ih =>
      intro i ds hf hx hy
      obtain ⟨d, ds', rfl, h1, h2, h3, h4⟩ := fields_step hf
      obtain ⟨hi, h5, h6⟩ := shapes_step hx
      obtain ⟨hj, h7, h8⟩ := shapes_step hy
      obtain ⟨g1, g2⟩ := getD_list hi
      obtain ⟨g3, g4⟩ := getD_list hj
      have p1 := part_kd h3 g1 w
      have p2 := part_kd h3 g3 w
      rw [g2] at p1
      rw [g4] at p2
      obtain ⟨r, hr, hi1⟩ := one h3 h5 h7
      obtain ⟨r', hr', hi2⟩ := ih h4 h6 h8
      rw [List.drop_eq_getElem_cons hi, List.drop_eq_getElem_cons hj]
      cases r with
      | true =>
        refine ⟨r', ?_, ?_⟩
        · simp only [Op.eqFields, h1, h2, ne_eq, not_false_eq_true, if_true, Sem.run_bind, p1, p2, Result.andThen_ok, hr]
          simpa using hr'
        · rw [List.cons.injEq, hi2]; simp [hi1.1 rfl]
      | false =>
        refine ⟨false, ?_, ?_⟩
        · simp only [Op.eqFields, h1, h2, ne_eq, not_false_eq_true, if_true, Sem.run_bind, p1, p2, Result.andThen_ok, hr]
          simp
        · have : ¬ xs.toList[i] = ys.toList[i] := fun h => by simpa using hi1.2 h
          rw [List.cons.injEq]
          exact ⟨fun h => (Bool.false_ne_true h).elim, fun h => (this h.1).elim⟩
  have hfs : P.fieldsOf kt = fs := by simp [Program.fieldsOf, hu]
  obtain ⟨r, h1, h2⟩ := key hf (i := 0) (by simpa using hx) (by simpa using hy)
  refine ⟨r, ?_, by rw [h2]; simp [Array.toList_inj]⟩
  show (Op.equalIn (9999 + 1) kt _ _).run P w = _
  rw [run_equalIn_struct w 9999 kt xs ys (by rw [hfs]; exact hu) hh, hfs]
  exact h1
theorem key_find {kt : TypeId} {s : KS} {k : Value} (hs : shapeT P kt = some s) (hk : shapeV k = some s) (w : World) (es : List MapEntry) (he : ∀ e ∈ es, shapeV e.key = some s) :
    ((Instr.findKey kt k es).run P w = .ok none w ∧ ∀ e ∈ es, e.key ≠ k) ∨ ∃ i e, (Instr.findKey kt k es).run P w = .ok (some (i, e.val)) w ∧ es[i]? = some e ∧ e.key = k := by
  rcases shapeT_cases hs with ⟨d, rfl, hu⟩ | ⟨fs, ds, rfl, hu, hh, hf⟩
  · rcases MapKept.findNow_spec (isKey_of (shapeV_one hk)) es 0 (fun e h => isKey_of (shapeV_one (he e h))) with ⟨h1, h2⟩ | ⟨j, e, h1, h2, h3⟩
    · exact .inl ⟨MapKept.run_findKey hu h1, h2⟩
    · exact .inr ⟨j, e, by rw [Nat.zero_add] at h1; exact MapKept.run_findKey hu h1, h2, h3⟩
  · obtain ⟨xs, rfl, hx⟩ := shapeV_many hk
    rw [run_findKey_eq w (by simp [hu])]
    have key : ∀ (es : List MapEntry) (i : Nat), (∀ e ∈ es, shapeV e.key = some (.many ds)) →
        ((Instr.findAsking kt (.agg xs) es i).run P w = .ok none w ∧ ∀ e ∈ es, e.key ≠ .agg xs) ∨ ∃ j e, (Instr.findAsking kt (.agg xs) es i).run P w = .ok (some (i + j, e.val)) w ∧ es[j]? = some e ∧ e.key = .agg xs := by
      intro es
      induction es with
      | nil => intro i _; exact .inl ⟨by simp [Instr.findAsking], by simp⟩
      | cons e es ih =>
        intro i he
        obtain ⟨ys, hy, hys⟩ := shapeV_many (he e (by simp))
        obtain ⟨r, h1, h2⟩ := key_equal hu hh hf hx hys w
        rw [← hy] at h1
        cases r with
        | true => exact .inr ⟨0, e, by simp [Instr.findAsking, h1], rfl, by rw [hy, h2.1 rfl]⟩
        | false =>
          have hne : ¬ xs = ys := fun h => by simpa using h2.2 h
          rcases ih (i + 1) (fun e h => he e (by simp [h])) with ⟨h3, h4⟩ | ⟨j, e', h3, h4, h5⟩
          · refine .inl ⟨by simp [Instr.findAsking, h1, h3], fun y hy' => ?_⟩
            rcases List.mem_cons.1 hy' with rfl | h
            · rw [hy]; intro h; exact hne (by simpa using h.symm)
            · exact h4 y h
          · exact .inr ⟨j + 1, e', by simp [Instr.findAsking, h1, h3, Nat.add_assoc, Nat.add_comm 1 j], by simpa using h4, h5⟩
    rcases key es 0 he with h | ⟨j, e, h1, h2⟩
    · exact .inl h
    · exact .inr ⟨j, e, by rw [Nat.zero_add] at h1; exact h1, h2⟩
theorem bits_one {v : Value} {d : KD} (h : KD.of v = some d) (n : Nat) : Instr.sameBits n v v = true := MapKept.sameBits_self (isKey_of h) n
theorem key_stays {s : KS} {k : Value} (hk : shapeV k = some s) (w : World) : (Instr.keyThatStays k k).run P w = .ok k w := by
  have h : Instr.sameBits 10000 k k = true := by
    cases s with
    | one d => exact bits_one (shapeV_one hk) _
    | many ds =>
      obtain ⟨xs, rfl, hx⟩ := shapeV_many hk
      have key : ∀ (l : List Value) (ds : List KD), shapes l = some ds → ((l.zip l).all fun (x, y) => Instr.sameBits 9999 x y) = true := by
        intro l
        induction l with
        | nil => intro ds _; rfl
        | cons a l ih =>
          intro ds h
          simp only [shapes] at h
          split at h
          · rename_i h1 h2
            simp [bits_one h1, ih _ h2]
          · cases h
      simp only [Instr.sameBits, beq_self_eq_true, Bool.true_and]
      exact key _ _ hx
  simp [Instr.keyThatStays, h]
end
end Go.Proofs.Ythmlfonbfnmalaa.Sh
