/- A run of the program over values without memory, and that what it says holds of the program's own run. No condition. -/
import Derived.Test.YthmlfonbfnmalaaSh2
import Derived.Laws.StructEq
namespace Go.Proofs.Ythmlfonbfnmalaa.Sh
open Go.RowKit
set_option linter.unusedVariables false
set_option linter.unusedSimpArgs false
section
variable {P : Program} {N0 : Nat → Prop} {lv : List Nat} {ρ : List RR} {G : List GO} {w : World}

theorem run_size {t : TypeId} {n : Nat} (h : szOf P t = some n) (w : World) : (sizeOf t).run P w = .ok n w := by
  unfold szOf at h
  cases hi : P.info? t with
  | none => simp [hi] at h
  | some i =>
    simp [hi] at h
    subst h
    simp [sizeOf, typeInfo, program, Sem.run, hi]
theorem run_agg {t : TypeId} {d : TypeDesc} (h : P.underlying t = some d) (w : World) : (isAgg t).run P w = .ok (aggOf P t) w := by
  unfold isAgg aggOf
  rw [Sem.run_bind, run_underlying h]
  simp only [h]
  cases d <;> rfl

theorem ibin_run {op : BinOp} {k : IntKind} {a b : Int} {v : Value} (h : ibin op k a b = some v) (xt : TypeId) (w : World) : (binOp op xt (.int k a) (.int k b)).run P w = .ok v w := by
  cases op <;> simp only [ibin, Option.some.injEq, reduceCtorEq] at h
  all_goals first | (subst h; simp [binOp, Op.intArith, Op.intBits, Op.intCmp]; done) | skip
  all_goals
    by_cases hb : b = 0
    · rw [if_pos hb] at h; cases h
    · rw [if_neg hb] at h; simp only [Option.some.injEq] at h; subst h; simp [binOp, Op.intDiv, hb]

/-- What an operation that makes and writes nothing is shown to do. -/
def Gets (P : Program) (N0 : Nat → Prop) (ρ : List RR) (w : World) (o : Oper) (σ : Operand → Value) (pv : PV) : Prop :=
  ∃ v w', (execOp σ o).run P w = .ok (.value v) w' ∧ Below w.heap.size w w' ∧ RV (Pr N0 ρ) w' ρ pv v

theorem Gets.still {o : Oper} {σ : Operand → Value} {pv : PV} {v : Value} (h : (execOp σ o).run P w = .ok (.value v) w) (hv : RV (Pr N0 ρ) w ρ pv v) : Gets P N0 ρ w o σ pv :=
  ⟨v, w, h, Below.refl _ _, hv⟩

/-- The kinds of cells by which values of a type are compared are right. -/
def EqOk (P : Program) (E : TypeId → Option (List Nat)) : Prop :=
  (∀ t, E t = some [9] → P.underlying t = some .bool) ∧
  ∀ t ks, E t = some ks → ks ≠ [9] → ∀ (xs ys : Array Value) (b : Bool) (ox oy : Operand) (w : World), vEqs ks (xs.toList.map .val) (ys.toList.map .val) = some b →
    (do eqGuard .eql t ox oy (.agg xs) (.agg ys); binOp .eql t (.agg xs) (.agg ys) : Sem Value).run P w = .ok (.bool b) w ∧
    (do eqGuard .neq t ox oy (.agg xs) (.agg ys); binOp .neq t (.agg xs) (.agg ys) : Sem Value).run P w = .ok (.bool !b) w

theorem vEqs_vals : ∀ {ks : List Nat} {xs ys : List PV} {b : Bool}, vEqs ks xs ys = some b → (∃ vs : List Value, xs = vs.map .val) ∧ ∃ vs : List Value, ys = vs.map .val
  | [], [], [], _, _ => ⟨⟨[], rfl⟩, ⟨[], rfl⟩⟩
  | k :: ks, x :: xs, y :: ys, b, h => by
    simp only [vEqs] at h
    split at h
    · rename_i a c h1 h2
      obtain ⟨⟨vs, rfl⟩, ⟨us, rfl⟩⟩ := vEqs_vals h2
      unfold vEq at h1
      split at h1
      · exact ⟨⟨_ :: vs, rfl⟩, ⟨_ :: us, rfl⟩⟩
      · exact ⟨⟨_ :: vs, rfl⟩, ⟨_ :: us, rfl⟩⟩
      · exact ⟨⟨_ :: vs, rfl⟩, ⟨_ :: us, rfl⟩⟩
      · cases h1
    · cases h
  | [], _ :: _, _, _, h => by simp [vEqs] at h
  | [], [], _ :: _, _, h => by simp [vEqs] at h
  | _ :: _, [], _, _, h => by simp [vEqs] at h
  | _ :: _, _ :: _, [], _, h => by simp [vEqs] at h

theorem vEqs_nine : ∀ {xs ys : List PV} {b : Bool}, vEqs [9] xs ys = some b → False
  | [], _, _, h => by simp [vEqs] at h
  | _ :: _, [], _, h => by simp [vEqs] at h
  | x :: xs, y :: ys, b, h => by simp [vEqs, vEq] at h

theorem agg_vals {vs : List Value} {v : Value} (h : RV (Pr N0 ρ) w ρ (.agg (vs.map .val)) v) : v = .agg vs.toArray := by
  cases h with
  | agg hl he =>
    rename_i us
    congr 1
    apply Array.ext
    · simpa using hl
    · intro i h1 h2
      have h3 : i < vs.length := by simpa using h2
      have h4 := he i (.val vs[i]) (by simp [List.getElem?_eq_getElem h3])
      generalize hg : us.getD i undef = u at h4
      cases h4
      simp [h1] at hg
      simpa using hg

theorem run_eql_bool (op : BinOp) (t : TypeId) (a b : Bool) (ox oy : Operand) (h : P.underlying t = some .bool) :
    ((do eqGuard .eql t ox oy (.bool a) (.bool b); binOp .eql t (.bool a) (.bool b) : Sem Value).run P w) = .ok (.bool (a == b)) w ∧
    ((do eqGuard .neq t ox oy (.bool a) (.bool b); binOp .neq t (.bool a) (.bool b) : Sem Value).run P w) = .ok (.bool (!(a == b))) w := by
  have h1 : (Op.equal t (.bool a) (.bool b)).run P w = .ok (a == b) w := run_equalIn_bool' w 9999 t a b h
  constructor
  · show ((do let r ← Op.equal t (.bool a) (.bool b); pure (.bool r) : Sem Value).run P w) = _
    rw [Sem.run_bind, h1]
    rfl
  · show ((do let r ← Op.equal t (.bool a) (.bool b); pure (.bool (!r)) : Sem Value).run P w) = _
    rw [Sem.run_bind, h1]
    rfl

theorem bin_run {E : TypeId → Option (List Nat)} (hE : EqOk P E) {op : BinOp} {t : TypeId} {x y : PV} {r : PV} {vx vy : Value} (h : bin (E t) op x y = some r) (hx : RV (Pr N0 ρ) w ρ x vx)
    (hy : RV (Pr N0 ρ) w ρ y vy) (ox oy : Operand) :
    ∃ v, ((do eqGuard op t ox oy vx vy; binOp op t vx vy : Sem Value).run P w) = .ok v w ∧ r = .val v := by
  unfold bin at h
  split at h
  · rename_i k a k' b
    split at h
    · rename_i hk
      subst hk
      cases hx; cases hy
      simp only [Option.map_eq_some_iff] at h
      obtain ⟨v, hv, rfl⟩ := h
      refine ⟨v, ?_, rfl⟩
      have := ibin_run (P := P) hv t w
      have hg : (eqGuard op t ox oy (.int k a) (.int k b)).run P w = .ok () w := by
        unfold eqGuard; split <;> simp
      simp only [Sem.run_bind, hg, Result.andThen_ok, this]
    · cases h
  · rename_i a b
    cases hx; cases hy
    have hg : (eqGuard op t ox oy (.string a) (.string b)).run P w = .ok () w := by
      unfold eqGuard; split <;> simp
    cases op <;> simp only [Option.some.injEq, reduceCtorEq] at h
    all_goals
      subst h
      exact ⟨_, by simp only [Sem.run_bind, hg, Result.andThen_ok]; rfl, rfl⟩
  · rename_i a b
    cases hx; cases hy
    split at h
    · cases h
    · rename_i hk
      have hu := hE.1 t (by simpa using hk)
      have h1 := run_eql_bool (w := w) op t a b ox oy hu
      cases op <;> simp only [Option.some.injEq, reduceCtorEq] at h
      · exact ⟨_, h1.1, h.symm⟩
      · exact ⟨_, h1.2, h.symm⟩
  · rename_i xs ys
    split at h
    · rename_i ks hk
      have key : ∀ b, vEqs ks xs ys = some b →
          ((do eqGuard .eql t ox oy vx vy; binOp .eql t vx vy : Sem Value).run P w) = .ok (.bool b) w ∧ ((do eqGuard .neq t ox oy vx vy; binOp .neq t vx vy : Sem Value).run P w) = .ok (.bool !b) w := fun b hb => by
        obtain ⟨⟨vs, rfl⟩, ⟨us, rfl⟩⟩ := vEqs_vals hb
        obtain rfl := agg_vals hx
        obtain rfl := agg_vals hy
        by_cases h2 : ks = [9]
        · subst h2
          exact (vEqs_nine hb).elim
        · exact hE.2 t ks hk h2 _ _ b ox oy w (by simpa using hb)
      cases op <;> simp only [Option.map_eq_some_iff, reduceCtorEq] at h
      · obtain ⟨b, hb, rfl⟩ := h
        exact ⟨_, (key b hb).1, rfl⟩
      · obtain ⟨b, hb, rfl⟩ := h
        exact ⟨_, (key b hb).2, rfl⟩
    · cases h
  · cases h
end
end Go.Proofs.Ythmlfonbfnmalaa.Sh
