/- A run of the program over values without memory, and that what it says holds of the program's own run. No condition. -/
import Derived.Test.YthmlfonbfnmalaaSh12
namespace Go.Proofs.Ythmlfonbfnmalaa.Sh
open Go.RowKit
set_option linter.unusedVariables false
set_option linter.unusedSimpArgs false

/-! ### slices.Clone: a row of the caller's own, whether nil or not -/
def cloneG (sz by_ : Nat) : List PV → List GO → Option (PV × List GO)
  | [v], [] => match rowE sz [] v with
    | some l => if (l.all (·.all oneF) && fits l.length by_) = true then some (.own 0 1 l.length, [⟨1, .row sz l⟩]) else none
    | none => none
  | _, _ => none

section
variable {P : Program} {N0 : Nat → Prop} {lv : List Nat} {ρ : List RR} {G : List GO} {w : World}
theorem HRel.fewer {m : Nat} (H : HRel N0 (m :: lv) ρ G w) : HRel N0 lv ρ G w :=
  ⟨H.len, H.inj, H.bnd, H.dis, fun k hk => H.lvl k (by simp [hk]), fun k hk => H.obj k (hk.imp id fun h => by simp [h])⟩

/-- A row without elements behind all ghosts. -/
theorem HRel.addNone (P : Program) (H : HRel N0 lv ρ [] w) (sz : Nat) (A : Option Addr) :
    ∃ ρ', Step ρ w ρ' w ∧ LLe ρ ρ' ∧ HRel N0 lv ρ' [⟨1, .row sz []⟩] w ∧ ρ'[0]? = some ⟨1, 0, none, A, 0⟩ := by
  have h1 := H.enter 1
  have hl : ρ = [] := List.eq_nil_of_length_eq_zero H.len
  subst hl
  have hlv0 : ∀ m ∈ (([] : List GO).length :: lv), m ≤ 0 := fun m hm => by
    rcases List.mem_cons.1 hm with rfl | h
    · simp
    · simpa using H.lvl m h
  have hnew : newAt ⟨P, fun _ => none, 0, [0], fun _ _ _ => none, []⟩ ([] ++ List.replicate 1 ⟨0, .none⟩) (some 0) (.row sz []) = some (0, 1, [⟨1, .row sz []⟩]) := rfl
  obtain ⟨ρ', s1, l1, h2, h3⟩ := HRel.newNone (cx := ⟨P, fun _ => none, 0, [0], fun _ _ _ => none, []⟩) h1 hlv0 hnew A
  have s0 : Step [] w ([] ++ List.replicate 1 rr0) w := ⟨rfl, rfl, rfl, Nat.le_refl _, fun _ _ _ => rfl, fun b hb => .inl (own_nil.1 hb)⟩
  exact ⟨ρ', s0.trans s1, .nil _, h2.fewer, h3⟩

theorem clone_ok {X : Aux} (hP : X.P = P) (hE : EqOk P X.E) (hX : ExtOk P X.ext) (hm : P.follows .mixedOrders = true) {f sz by_ : Nat}
    (hrow : ∀ l, nilEq (.row sz l) = some false → l.all (·.all oneF) = true → fits l.length by_ = true → shFn X 1 f [.row sz l] [] = some (.own 0 1 l.length, [⟨1, .row sz l⟩]))
    (hnil : shFn X 1 f [.nil true] [] = some (.emp, [])) (hnon : shFn X 1 f [.nil false] [] = some (.own 0 1 0, [⟨1, .row sz []⟩])) :
    CallOk P (fun f' args G => if f' = f then cloneG sz by_ args G else none) := by
  intro f' args G r G' h
  have ok := shFn_ok hP hE hX hm 1
  dsimp only at h
  by_cases hf : f' = f
  case neg => rw [if_neg hf] at h; cases h
  rw [if_pos hf] at h
  subst hf
  unfold cloneG at h
  split at h
  case h_2 => cases h
  rename_i v
  cases hv : rowE sz [] v with
  | none => rw [hv] at h; cases h
  | some l =>
  rw [hv] at h
  simp only at h
  by_cases hl : (l.all (·.all oneF) && fits l.length by_) = true
  case neg => rw [if_neg hl] at h; cases h
  rw [if_pos hl] at h
  simp only [Option.some.injEq, Prod.mk.injEq] at h
  obtain ⟨rfl, rfl⟩ := h
  refine ⟨(ok _ _ _ _ _ hnil).1, fun N0 lv ρ w vs H hs ha => ?_⟩
  have hv0 := ha 0 v rfl
  have one : ∀ {q : PV}, RV (Pr N0 ρ) w ρ q (vs.getD 0 undef) → ∀ (j : Nat) (pv : PV), [q][j]? = some pv → RV (Pr N0 ρ) w ρ pv (vs.getD j undef) := fun {q} hq j pv hj => by
    cases j with
    | zero => simp only [List.getElem?_cons_zero, Option.some.injEq] at hj; subst hj; exact hq
    | succ j => simp at hj
  cases l with
  | cons a l =>
    have hr : v = .row sz (a :: l) := by
      cases v with
      | row sz' l' =>
        simp only [rowE, rowOf] at hv
        split at hv
        · rename_i h1; subst h1; cases hv; rfl
        · cases hv
      | own g gen n => simp [rowE, rowOf] at hv
      | _ => simp [rowE, rowOf] at hv
    subst hr
    exact (ok _ _ _ _ _ (hrow (a :: l) rfl (Bool.and_eq_true _ _ ▸ hl).1 (Bool.and_eq_true _ _ ▸ hl).2)).2 N0 lv ρ w vs H (by simpa using hs) (one hv0)
  | nil =>
    obtain ⟨A, c, f', hvv, _⟩ := rowE_sim H hv hv0
    have hq : RV (Pr N0 ρ) w ρ (.nil A.isNone) (vs.getD 0 undef) := by rw [hvv]; exact .nil A c
    cases A with
    | some a => exact (ok _ _ _ _ _ hnon).2 N0 lv ρ w vs H (by simpa using hs) (one hq)
    | none =>
      refine Calls.mono ((ok _ _ _ _ _ hnil).2 N0 lv ρ w vs H (by simpa using hs) (one hq)) fun en w' ⟨v', ρ', e1, e2, e3, e4, e5⟩ => ?_
      cases e5 with
      | emp A' =>
        obtain ⟨ρ2, s2, l2, H2, g2⟩ := HRel.addNone P e4 sz A'
        exact ⟨_, ρ2, e1, e2.trans s2, e3.trans l2, H2, .own _ g2 (Nat.le_refl _) (fun _ => Nat.le_refl _) fun _ _ => rfl⟩
end
end Go.Proofs.Ythmlfonbfnmalaa.Sh
