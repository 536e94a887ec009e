/- A run of the program over values without memory, and that what it says holds of the program's own run. No condition. -/
import Derived.Test.YthmlfonbfnmalaaSh13
namespace Go.Proofs.Ythmlfonbfnmalaa.Sh
open Go.RowKit
set_option linter.unusedVariables false
set_option linter.unusedSimpArgs false

/-! ### Loops over a list: what holds at their head, and what they end in -/
theorem take_all_succ {α : Type} {l : List α} {p : α → Bool} {i : Nat} (hi : i < l.length) (h : (l.take i).all p = true) (hp : p l[i] = true) : (l.take (i + 1)).all p = true := by
  rw [List.take_add_one, List.getElem?_eq_getElem hi]
  simp only [List.all_append, h, Option.toList, List.all_cons, hp, List.all_nil, Bool.and_self]
theorem all_not {α : Type} {l : List α} {p : α → Bool} {i : Nat} (hi : i < l.length) (hp : p l[i] = false) : l.all p = false := by
  cases h : l.all p with
  | false => rfl
  | true =>
    have := List.all_eq_true.1 h l[i] (List.getElem_mem hi)
    rw [hp] at this
    cases this
/-- A loop that ends early, by 'xb', at the first element that lacks 'p', and else by 'xe'. -/
theorem loop_all {α : Type} {F : LS → Option (Ex × LS)} {m : Nat} {s : LS} {r : Option (Ex × LS)} (hL : shLoop F m s = r) (l : List α) (p : α → Bool) (St : Nat → LS → Prop) (xb xe : Ex) (B E : LS → Prop) (hb : xb ≠ .nrm) (he : xe ≠ .nrm)
    (h0 : St 0 s) (hn : l.length < m)
    (good : ∀ i (h : i < l.length), l[i]? = some l[i] → p l[i] = true → ∀ s, St i s → ∃ s', F s = some (.nrm, s') ∧ St (i + 1) s')
    (bad : ∀ i (h : i < l.length), l[i]? = some l[i] → p l[i] = false → (l.take i).all p = true → ∀ s, St i s → ∃ s', F s = some (xb, s') ∧ B s')
    (stop : l.all p = true → ∀ s, St l.length s → ∃ s', F s = some (xe, s') ∧ E s') : (l.all p = false ∧ ∃ s', r = some (xb, s') ∧ B s') ∨ (l.all p = true ∧ ∃ s', r = some (xe, s') ∧ E s') := by
  have key := loop_from hL (fun i s => St i s ∧ (l.take i).all p = true) l.length (fun x s' => (l.all p = false ∧ x = xb ∧ B s') ∨ (l.all p = true ∧ x = xe ∧ E s')) ⟨h0, by simp⟩ hn (fun i hi s ⟨h1, h2⟩ => by
      cases hp : p l[i] with
      | true =>
        obtain ⟨s', h3, h4⟩ := good i hi (List.getElem?_eq_getElem hi) hp s h1
        exact .inl ⟨s', h3, h4, take_all_succ hi h2 hp⟩
      | false =>
        obtain ⟨s', h3, h4⟩ := bad i hi (List.getElem?_eq_getElem hi) hp h2 s h1
        exact .inr ⟨xb, s', hb, h3, .inl ⟨all_not hi hp, rfl, h4⟩⟩) (fun s ⟨h1, h2⟩ => by
      rw [List.take_length] at h2
      obtain ⟨s', h3, h4⟩ := stop h2 s h1
      exact ⟨xe, s', he, h3, .inr ⟨h2, rfl, h4⟩⟩)
  obtain ⟨x, s', _, h1, ⟨h2, rfl, h3⟩ | ⟨h2, rfl, h3⟩⟩ := key
  · exact .inl ⟨h2, s', h1, h3⟩
  · exact .inr ⟨h2, s', h1, h3⟩
/-- A loop of n rounds that ends by 'xe'. -/
theorem loop_to {F : LS → Option (Ex × LS)} {m : Nat} {s : LS} {r : Option (Ex × LS)} (hL : shLoop F m s = r) (n : Nat) (St : Nat → LS → Prop) (xe : Ex) (E : LS → Prop) (he : xe ≠ .nrm) (h0 : St 0 s) (hn : n < m)
    (step : ∀ i, i < n → ∀ s, St i s → ∃ s', F s = some (.nrm, s') ∧ St (i + 1) s') (stop : ∀ s, St n s → ∃ s', F s = some (xe, s') ∧ E s') : ∃ s', r = some (xe, s') ∧ E s' := by
  obtain ⟨x, s', _, h1, rfl, h2⟩ := loop_from hL St n (fun x s' => x = xe ∧ E s') h0 hn (fun i hi s h => .inl (step i hi s h)) (fun s h => let ⟨s', h1, h2⟩ := stop s h; ⟨xe, s', he, h1, rfl, h2⟩)
  exact ⟨s', h1, h2⟩
theorem i64_succ {i : Nat} (h : i < 2 ^ 63 - 1) : IntKind.i64.wrap ((i : Int) + 1) = ((i + 1 : Nat) : Int) := by
  rw [IntKind.wrap_i64]; omega
theorem i64_id {n : Int} (h1 : -2 ^ 63 ≤ n) (h2 : n < 2 ^ 63) : IntKind.i64.wrap n = n := by
  rw [IntKind.wrap_i64]; omega
theorem beqI (a b : Int) : (a == b) = decide (a = b) := by by_cases h : a = b <;> simp [h]
theorem bneI (a b : Int) : (a != b) = !decide (a = b) := by by_cases h : a = b <;> simp [h]
theorem fin_ret (P : Program) (fn : Func) (kp : Bool) (base : Nat) (env : Env) (G : List GO) : fin P fn kp base (some (.ret, (env, G))) = (match resOf P fn env G with
    | some r => if kp = true then keepR base G r else (sealR base G r).map fun r' => (r', G.take base)
    | none => none) := by cases kp <;> rfl
theorem fin_nrm (P : Program) (fn : Func) (kp : Bool) (base : Nat) (env : Env) (G : List GO) : fin P fn kp base (some (.nrm, (env, G))) = (match resOf P fn env G with
    | some r => if kp = true then keepR base G r else (sealR base G r).map fun r' => (r', G.take base)
    | none => none) := by cases kp <;> rfl
abbrev int (n : Int) : PV := .val (.int .i64 n)
abbrev bool (b : Bool) : PV := .val (.bool b)
abbrev ints (l : List Int) : PV := .row 1 (l.map fun x => [int x])
end Go.Proofs.Ythmlfonbfnmalaa.Sh
