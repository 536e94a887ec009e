/- A run of the program over values without memory, and that what it says holds of the program's own run. No condition. -/
import Derived.Test.YthmlfonbfnmalaaSh10
namespace Go.Proofs.Ythmlfonbfnmalaa.Sh
open Go.RowKit
set_option linter.unusedVariables false
set_option linter.unusedSimpArgs false

/-- What a function whose contract is shown elsewhere must do. -/
def ExtOk (P : Program) (ext : FuncId → Option (List PV → List GO → Option (PV × List GO))) : Prop :=
  ∀ f g, ext f = some g → CallOk P (fun f' args G => if f' = f then g args G else none)

abbrev rr0 : RR := ⟨0, 0, none, none, 0⟩

section
variable {P : Program} {N0 : Nat → Prop} {lv : List Nat} {nt : Nat} {ρ : List RR} {w : World} {a : Act} {G : List GO}

theorem own_nil {ρ : List RR} {K : Nat} {b : Nat} : Own (ρ ++ List.replicate K rr0) b ↔ Own ρ b := by
  constructor
  · rintro ⟨e, he, hb⟩
    rcases List.mem_append.1 he with h | h
    · exact ⟨e, h, hb⟩
    · rw [List.eq_of_mem_replicate h] at hb; cases hb
  · rintro ⟨e, he, hb⟩
    exact ⟨e, List.mem_append_left _ he, hb⟩
theorem own_take {ρ : List RR} {m b : Nat} (h : Own (ρ.take m) b) : Own ρ b := let ⟨e, he, hb⟩ := h; ⟨e, List.mem_of_mem_take he, hb⟩

theorem LLe.append (ρ ρ' : List RR) : LLe ρ (ρ ++ ρ') := fun g e he => ⟨e, by rw [List.getElem?_append_left (List.getElem?_eq_some_iff.1 he).1]; exact he, .refl _⟩

/-- A function is entered. -/
theorem HRel.enter (H : HRel N0 lv ρ G w) (K : Nat) : HRel N0 (G.length :: lv) (ρ ++ List.replicate K rr0) (G ++ List.replicate K ⟨0, .none⟩) w := by
  have hN : ∀ b, Pr N0 (ρ ++ List.replicate K rr0) b → Pr N0 ρ b := fun b hb => hb.imp id own_nil.1
  have hst : Step ρ w (ρ ++ List.replicate K rr0) w := ⟨rfl, rfl, rfl, Nat.le_refl _, fun _ _ _ => rfl, fun b hb => .inl (own_nil.1 hb)⟩
  refine ⟨by simp [H.len], ?_, fun b hb => H.bnd b (hN b hb), fun b hb ho => H.dis b hb (own_nil.1 ho), ?_, ?_⟩
  · intro g g' e e' b h1 h2 h3 h4
    have key : ∀ {g : Nat} {e : RR}, (ρ ++ List.replicate K rr0)[g]? = some e → e.blk = some b → ρ[g]? = some e := fun {g e} h hb => by
      rcases Nat.lt_or_ge g ρ.length with h5 | h5
      · rwa [List.getElem?_append_left h5] at h
      · rw [List.getElem?_append_right h5] at h
        rw [List.eq_of_mem_replicate (List.mem_of_getElem? h)] at hb
        cases hb
    exact H.inj g g' e e' b (key h1 h3) (key h2 h4) h3 h4
  · intro m hm
    simp only [List.mem_cons] at hm
    rcases hm with rfl | hm
    · simp
    · have := H.lvl m hm
      simp; omega
  · intro m hm g o e hg ho he
    have old : g < G.length → G[g]? = some o ∧ ρ[g]? = some e := fun h => by
      rw [List.getElem?_append_left h] at ho
      rw [List.getElem?_append_left (by rw [H.len]; exact h)] at he
      exact ⟨ho, he⟩
    have keep : ∀ m', ObjR (Pr N0 ρ) w (ρ.take m') o e → LLe (ρ.take m') ((ρ ++ List.replicate K rr0).take m) → ObjR (Pr N0 (ρ ++ List.replicate K rr0)) w ((ρ ++ List.replicate K rr0).take m) o e :=
      fun m' h hL => h.step hst hL fun _ _ => rfl
    by_cases hgl : g < G.length
    · obtain ⟨h1, h2⟩ := old hgl
      rcases hm with rfl | hm
      · refine keep G.length (H.obj G.length (.inl rfl) g o e hgl h1 h2) ?_
        rw [← H.len, List.take_length]
        rw [List.take_of_length_le (by simp [H.len])]
        exact .append _ _
      · simp only [List.mem_cons] at hm
        rcases hm with rfl | hm
        · refine keep G.length (H.obj G.length (.inl rfl) g o e hgl h1 h2) ((LLe.append _ _).take _)
        · exact keep m (H.obj m (.inr hm) g o e hg h1 h2) ((LLe.append _ _).take _)
    · rcases hm with rfl | hm
      · rw [List.getElem?_append_right (by omega)] at ho
        rw [List.getElem?_append_right (by rw [H.len]; omega)] at he
        rw [List.eq_of_mem_replicate (List.mem_of_getElem? ho), List.eq_of_mem_replicate (List.mem_of_getElem? he)]
        exact ⟨rfl, trivial⟩
      · simp only [List.mem_cons] at hm
        rcases hm with rfl | hm
        · omega
        · have := H.lvl m hm
          omega

/-- A function is left. -/
theorem HRel.leave {base : Nat} (H : HRel N0 (base :: lv) ρ G w) (hlv : ∀ m ∈ lv, m ≤ base) : HRel N0 lv (ρ.take base) (G.take base) w := by
  have hb : base ≤ G.length := H.lvl base (by simp)
  have hst : Step ρ w (ρ.take base) w := ⟨rfl, rfl, rfl, Nat.le_refl _, fun _ _ _ => rfl, fun b hb => .inl (own_take hb)⟩
  have hl : (G.take base).length = base := by simp; omega
  have get : ∀ {α : Type} {l : List α} {g : Nat} {x : α}, (l.take base)[g]? = some x → g < base ∧ l[g]? = some x := fun {α l g x} h => by
    rw [List.getElem?_take] at h
    split at h
    · exact ⟨by assumption, h⟩
    · cases h
  refine ⟨by simp [H.len], fun g g' e e' b h1 h2 h3 h4 => H.inj g g' e e' b (get h1).2 (get h2).2 h3 h4, fun b hb => H.bnd b (hb.imp id own_take), fun b hb ho => H.dis b hb (own_take ho), fun m hm => by rw [hl]; exact hlv m hm, ?_⟩
  intro m hm g o e hg ho he
  rw [hl] at hm
  have hmb : m ≤ base := by rcases hm with rfl | hm; exact Nat.le_refl _; exact hlv m hm
  have h1 := H.obj m (.inr (by rcases hm with rfl | hm; simp; simp [hm])) g o e hg (get ho).2 (get he).2
  rw [List.take_take, Nat.min_eq_left hmb]
  exact h1.step hst (.refl _) fun _ _ => rfl

/-- What leaves a function. -/
theorem RV.leave {base : Nat} {q : PV} {v : Value} (h : RV (Pr N0 ρ) w [] q v) : RV (Pr N0 (ρ.take base)) w (ρ.take base) q v :=
  (h.mono fun b hb => hb.imp id own_take).weak _

theorem seal2_sim {base : Nat} (H : HRel N0 (base :: lv) ρ G w) {q q' : PV} {v : Value} (h : seal2 base G q = some q') (hv : RV (Pr N0 ρ) w ρ q v) : RV (Pr N0 (ρ.take base)) w (ρ.take base) q' v := by
  have low : ∀ {g : Nat} {e : RR}, g < base → ρ[g]? = some e → (ρ.take base)[g]? = some e := fun {g e} hg he => by rw [List.getElem?_take, if_pos hg]; exact he
  have fl : flat q = true → q' = q → RV (Pr N0 (ρ.take base)) w (ρ.take base) q' v := fun hf hq => by
    subst hq
    exact RV.leave (flat_weak hf hv)
  cases q with
  | own g gen n =>
    simp only [seal2] at h
    split at h
    · rename_i hg
      simp only [Option.some.injEq] at h
      subst h
      cases hv with
      | own e h1 h2 h3 h4 => exact .own e (low hg h1) h2 h3 h4
    · rename_i hg
      simp only [Option.map_eq_some_iff] at h
      obtain ⟨⟨sz, l⟩, hr, rfl⟩ := h
      obtain ⟨A, c, f, rfl, hR⟩ := rowOf_sim H hr hv
      refine .row A c f hR.cap hR.szs (fun hne => ?_) fun i j x pv hi hj => (hR.el i j x pv hi hj).mono fun b hb => hb.imp id own_take
      obtain ⟨b, o, h1, h3, h4⟩ := hR.cell hne
      refine ⟨b, o, h1, fun hp => ?_, h3, h4⟩
      -- the block is the ghost's own
      simp only [rowOf] at hr
      split at hr
      · rename_i gen' sz2 l2 hgo
        split at hr
        · rename_i hc
          obtain ⟨rfl, rfl⟩ := hc
          simp only [Option.some.injEq, Prod.mk.injEq] at hr
          obtain ⟨rfl, rfl⟩ := hr
          cases hv with
          | own e k1 k2 k3 k4 =>
            obtain ⟨q1, q2, q3, q4, q5, q6⟩ := H.at hgo k1
            have hsl := k4 q1.symm q2
            simp only [Value.slice.injEq] at hsl
            cases hbk : e.blk with
            | none =>
              have := q5 hbk
              have h9 : l2.length = 0 := by omega
              exact hne (List.eq_nil_of_length_eq_zero h9)
            | some b1 =>
              have had := (q6 b1 hbk).1
              rw [had] at hsl
              have hbb := hsl.1
              rw [h1] at hbb
              simp at hbb
              obtain ⟨rfl, _⟩ := hbb
              rcases hp with hp | ⟨e2, he2, hb2⟩
              · exact H.dis b hp (own_of k1 hbk)
              · obtain ⟨g2, hg2⟩ := List.getElem?_of_mem he2
                rw [List.getElem?_take] at hg2
                split at hg2
                · rename_i hg3
                  have := H.inj g2 g e2 e b hg2 k1 hb2 hbk
                  omega
                · cases hg2
        · cases hr
      · cases hr
  | box g gen off =>
    simp only [seal2] at h
    split at h
    · rename_i hg
      simp only [Option.some.injEq] at h
      subst h
      cases hv with
      | box e h1 h2 h3 => exact .box e (low hg h1) h2 h3
    · rename_i hg
      split at h
      · rename_i cs hcs
        split at h
        · rename_i hf
          simp only [Option.some.injEq] at h
          subst h
          obtain ⟨b, o, f, rfl, hC⟩ := cellsAt_sim H hcs hv
          refine .at b o f (fun hp => ?_) hC.blk hC.cell fun j pv hj => (flat_weak (List.all_eq_true.1 hf pv (List.mem_of_getElem? hj)) (hC.el j pv hj)).mono fun b hb => hb.imp id own_take
          -- the block is the ghost's own
          simp only [cellsAt] at hcs
          split at hcs
          · rename_i gen' cs2 hgo
            split at hcs
            · rename_i hc
              subst hc
              cases hv with
              | box e k1 k2 k3 =>
                obtain ⟨q1, q2, b1, vs, el, q3, _⟩ := H.at hgo k1
                obtain ⟨b2, hb2, hb3⟩ := k3 q1.symm q2
                simp only [Value.pointer.injEq, Option.some.injEq, Addr.mk.injEq, and_true] at hb3
                obtain ⟨rfl, _⟩ := hb3
                rcases hp with hp | ⟨e2, he2, hb4⟩
                · exact H.dis b hp (own_of k1 hb2)
                · obtain ⟨g2, hg2⟩ := List.getElem?_of_mem he2
                  rw [List.getElem?_take] at hg2
                  split at hg2
                  · rename_i hg3
                    have := H.inj g2 g e2 e b hg2 k1 hb4 hb2
                    omega
                  · cases hg2
            · cases hcs
          · cases hcs
        · cases h
      · cases h
  | elt g gen n sz i k =>
    simp only [seal2] at h
    split at h
    · rename_i hg
      simp only [Option.some.injEq] at h
      subst h
      cases hv with
      | elt e h1 h2 h3 h4 => exact .elt e (low hg h1) h2 h3 h4
    · cases h
  | _ =>
    simp only [seal2] at h
    split at h
    · rename_i hf
      simp only [Option.some.injEq] at h
      exact fl hf h.symm
    · cases h

theorem seal3_sim {base : Nat} (H : HRel N0 (base :: lv) ρ G w) {q q' : PV} {v : Value} (h : seal3 base G q = some q') (hv : RV (Pr N0 ρ) w ρ q v) : RV (Pr N0 (ρ.take base)) w (ρ.take base) q' v := by
  cases q with
  | agg cs =>
    simp only [seal3, Option.map_eq_some_iff] at h
    obtain ⟨cs', h1, rfl⟩ := h
    obtain ⟨h2, h3⟩ := mapM_get h1
    cases hv with
    | agg hl he =>
      refine .agg (by rw [hl, h2]) fun j pv hj => ?_
      obtain ⟨x, hx, hs⟩ := h3 j pv hj
      exact seal2_sim H hs (he j x hx)
  | clo f cs =>
    simp only [seal3, Option.map_eq_some_iff] at h
    obtain ⟨cs', h1, rfl⟩ := h
    obtain ⟨h2, h3⟩ := mapM_get h1
    cases hv with
    | clo hl he =>
      refine .clo (by rw [hl, h2]) fun j pv hj => ?_
      obtain ⟨x, hx, hs⟩ := h3 j pv hj
      exact seal2_sim H hs (he j x hx)
  | _ => simp only [seal3] at h; exact seal2_sim H h hv

theorem sealR_sim {base : Nat} (H : HRel N0 (base :: lv) ρ G w) {q q' : PV} {v : Value} (h : sealR base G q = some q') (hv : RV (Pr N0 ρ) w ρ q v) : RV (Pr N0 (ρ.take base)) w (ρ.take base) q' v := by
  cases q with
  | tup cs =>
    simp only [sealR, Option.map_eq_some_iff] at h
    obtain ⟨cs', h1, rfl⟩ := h
    obtain ⟨h2, h3⟩ := mapM_get h1
    cases hv with
    | tup hl he =>
      refine .tup (by rw [hl, h2]) fun j pv hj => ?_
      obtain ⟨x, hx, hs⟩ := h3 j pv hj
      exact seal3_sim H hs (he j x hx)
  | _ => simp only [sealR] at h; exact seal3_sim H h hv

section
variable {base : Nat}
def keptR (base : Nat) (ρ : List RR) (ids : List Nat) : List RR := ρ.take base ++ ids.map fun g => ρ.getD g default

theorem own_kept {ids : List Nat} (hids : ∀ g ∈ ids, g < ρ.length) {b : Nat} (h : Own (keptR base ρ ids) b) : Own ρ b := by
  obtain ⟨e, he, hb⟩ := h
  rcases List.mem_append.1 he with h1 | h1
  · exact ⟨e, List.mem_of_mem_take h1, hb⟩
  · obtain ⟨g, hg, rfl⟩ := List.mem_map.1 h1
    have := hids g hg
    refine ⟨ρ.getD g default, ?_, hb⟩
    rw [List.getD_eq_getElem?_getD, List.getElem?_eq_getElem this]
    exact List.getElem_mem this

/-- What is known of the numbers moved so far. -/
structure Moved (base : Nat) (G : List GO) (ids : List Nat) : Prop where
  nodup : ids.Nodup
  ge : ∀ g ∈ ids, base ≤ g ∧ ∃ gen sz l, G[g]? = some ⟨gen, .row sz l⟩

theorem reloc_moved {ids ids' : List Nat} {q q' : PV} (hm : Moved base G ids) (h : reloc base G ids q = some (q', ids')) : Moved base G ids' ∧ ∃ r, ids' = ids ++ r := by
  have other : ∀ {x : Option PV}, (x.map fun v => (v, ids)) = some (q', ids') → Moved base G ids' ∧ ∃ r, ids' = ids ++ r := fun {x} h => by
    simp only [Option.map_eq_some_iff] at h
    obtain ⟨v, _, hh⟩ := h
    cases hh
    exact ⟨hm, [], by simp⟩
  cases q with
  | own g gen n =>
    simp only [reloc] at h
    split at h
    · cases h; exact ⟨hm, [], by simp⟩
    · rename_i hg
      split at h
      · cases h
      · rename_i hmem
        simp only [Option.map_eq_some_iff] at h
        obtain ⟨r, hr, hh⟩ := h
        cases hh
        refine ⟨⟨?_, fun k hk => ?_⟩, [g], rfl⟩
        · rw [List.nodup_append]
          exact ⟨hm.nodup, by simp, fun a ha b hb hab => by simp at hb; subst hb; subst hab; exact hmem ha⟩
        · rcases List.mem_append.1 hk with h1 | h1
          · exact hm.ge k h1
          · simp at h1
            subst h1
            refine ⟨by omega, ?_⟩
            simp only [rowOf] at hr
            split at hr
            · exact ⟨_, _, _, by assumption⟩
            · cases hr
  | box g gen off =>
    simp only [reloc] at h
    split at h
    · cases h; exact ⟨hm, [], by simp⟩
    · cases h
  | _ => simp only [reloc] at h; exact other h

theorem relocs_moved : ∀ {qs qs' : List PV} {ids ids' : List Nat}, Moved base G ids → relocs base G ids qs = some (qs', ids') → Moved base G ids' ∧ ∃ r, ids' = ids ++ r
  | [], qs', ids, ids', hm, h => by
    simp only [relocs, Option.some.injEq, Prod.mk.injEq] at h
    obtain ⟨_, rfl⟩ := h
    exact ⟨hm, [], by simp⟩
  | q :: qs, qs', ids, ids', hm, h => by
    simp only [relocs] at h
    split at h
    · rename_i v' ids1 h1
      split at h
      · rename_i r' ids2 h2
        cases h
        obtain ⟨m1, r1, rfl⟩ := reloc_moved hm h1
        obtain ⟨m2, r2, rfl⟩ := relocs_moved m1 h2
        exact ⟨m2, r1 ++ r2, by simp⟩
      · cases h
    · cases h

theorem Moved.nil : Moved base G [] := ⟨by simp, by simp⟩

/-- The ghost heap that the caller gets. -/
theorem HRel.keep (H : HRel N0 (base :: lv) ρ G w) (hlv : ∀ m ∈ lv, m ≤ base) {ids : List Nat} (hm : Moved base G ids) : HRel N0 lv (keptR base ρ ids) (kept base G ids) w := by
  have hb : base ≤ G.length := H.lvl base (by simp)
  have hlt : ∀ g ∈ ids, g < ρ.length := fun g hg => by
    obtain ⟨_, _, _, _, h⟩ := hm.ge g hg
    rw [H.len]
    exact (List.getElem?_eq_some_iff.1 h).1
  have hst : Step ρ w (keptR base ρ ids) w := ⟨rfl, rfl, rfl, Nat.le_refl _, fun _ _ _ => rfl, fun b hb => .inl (own_kept hlt hb)⟩
  have hl1 : (ρ.take base).length = base := by rw [List.length_take, H.len]; omega
  have hl2 : (G.take base).length = base := by rw [List.length_take]; omega
  -- where an entry comes from
  have from_ : ∀ {k : Nat} {e : RR}, (keptR base ρ ids)[k]? = some e → ∃ g, ρ[g]? = some e ∧ ((k < base ∧ g = k) ∨ (base ≤ k ∧ ids[k - base]? = some g)) := fun {k e} h => by
    unfold keptR at h
    rcases Nat.lt_or_ge k base with h1 | h1
    · rw [List.getElem?_append_left (by omega), List.getElem?_take, if_pos h1] at h
      exact ⟨k, h, .inl ⟨h1, rfl⟩⟩
    · rw [List.getElem?_append_right (by omega), hl1, List.getElem?_map, Option.map_eq_some_iff] at h
      obtain ⟨g, hg, rfl⟩ := h
      have h2 := hlt g (List.mem_of_getElem? hg)
      exact ⟨g, by rw [List.getD_eq_getElem?_getD, List.getElem?_eq_getElem h2]; rfl, .inr ⟨h1, hg⟩⟩
  have fromG : ∀ {k : Nat} {o : GO}, (kept base G ids)[k]? = some o → ∃ g, G[g]? = some o ∧ ((k < base ∧ g = k) ∨ (base ≤ k ∧ ids[k - base]? = some g)) := fun {k o} h => by
    unfold kept at h
    rcases Nat.lt_or_ge k base with h1 | h1
    · rw [List.getElem?_append_left (by omega), List.getElem?_take, if_pos h1] at h
      exact ⟨k, h, .inl ⟨h1, rfl⟩⟩
    · rw [List.getElem?_append_right (by omega), hl2, List.getElem?_map, Option.map_eq_some_iff] at h
      obtain ⟨g, hg, rfl⟩ := h
      have h2 : g < G.length := by rw [← H.len]; exact hlt g (List.mem_of_getElem? hg)
      exact ⟨g, by rw [List.getD_eq_getElem?_getD, List.getElem?_eq_getElem h2]; rfl, .inr ⟨h1, hg⟩⟩
  refine ⟨by simp [keptR, kept, H.len], ?_, fun b hb => H.bnd b (hb.imp id (own_kept hlt)), fun b hb ho => H.dis b hb (own_kept hlt ho), fun m hmm => ?_, ?_⟩
  · intro k k' e e' b h1 h2 h3 h4
    obtain ⟨g, q1, q2⟩ := from_ h1
    obtain ⟨g', q3, q4⟩ := from_ h2
    have hgg := H.inj g g' e e' b q1 q3 h3 h4
    subst hgg
    rcases q2 with ⟨a1, a2⟩ | ⟨a1, a2⟩ <;> rcases q4 with ⟨b1, b2⟩ | ⟨b1, b2⟩
    · omega
    · have := (hm.ge g (List.mem_of_getElem? b2)).1; omega
    · have := (hm.ge g (List.mem_of_getElem? a2)).1; omega
    · have hi : k - base < ids.length := (List.getElem?_eq_some_iff.1 a2).1
      have := (List.getElem?_inj hi hm.nodup).1 (a2.trans b2.symm)
      omega
  · have := hlv m hmm
    simp only [kept, List.length_append, hl2]
    omega
  · intro m hmm k o e hk ho he
    obtain ⟨g, q1, q2⟩ := from_ he
    obtain ⟨g', q3, q4⟩ := fromG ho
    have hgg : g = g' := by
      rcases q2 with ⟨a1, a2⟩ | ⟨a1, a2⟩ <;> rcases q4 with ⟨b1, b2⟩ | ⟨b1, b2⟩
      · omega
      · omega
      · omega
      · rw [a2] at b2; cases b2; rfl
    subst hgg
    rcases q2 with ⟨a1, rfl⟩ | ⟨a1, a2⟩
    · rcases hmm with rfl | hmm
      · have h9 := H.obj base (.inr (by simp)) g o e a1 q3 q1
        refine h9.step hst ?_ fun _ _ => rfl
        have e1 : (keptR base ρ ids).take (kept base G ids).length = keptR base ρ ids := List.take_of_length_le (by
          rw [keptR, kept]
          simp only [List.length_append, List.length_map, hl1, hl2]
          exact Nat.le_refl _)
        rw [e1]
        unfold keptR
        exact LLe.append _ _
      · have h9 := H.obj m (.inr (by simp [hmm])) g o e hk q3 q1
        refine h9.step hst ?_ fun _ _ => rfl
        have := hlv m hmm
        unfold keptR
        rw [List.take_append_of_le_length (by omega), List.take_take, Nat.min_eq_left this]
        exact .refl _
    · obtain ⟨_, gen, sz, l, hg⟩ := hm.ge g (List.mem_of_getElem? a2)
      rw [hg] at q3
      cases q3
      obtain ⟨p1, p2, p3, p4, p5, p6⟩ := H.at hg q1
      refine ⟨p1, p2, p3, p4, p5, fun b hb => ?_⟩
      obtain ⟨had, vs, el, r1, r2, r3⟩ := p6 b hb
      exact ⟨had, vs, el, r1, r2, fun i j x pv hi hj => (r3 i j x pv hi hj).step hst (.nil _)⟩

theorem kept_low {ids : List Nat} (hb : base ≤ ρ.length) {g : Nat} {e : RR} (hg : g < base) (he : ρ[g]? = some e) : (keptR base ρ ids)[g]? = some e := by
  unfold keptR
  rw [List.getElem?_append_left (by rw [List.length_take]; omega), List.getElem?_take, if_pos hg]
  exact he
theorem kept_high {ids r : List Nat} (hb : base ≤ ρ.length) {g : Nat} {e : RR} (he : ρ[g]? = some e) : (keptR base ρ (ids ++ [g] ++ r))[base + ids.length]? = some e := by
  have hl1 : (ρ.take base).length = base := by rw [List.length_take]; omega
  unfold keptR
  rw [List.getElem?_append_right (by omega), hl1, show base + ids.length - base = ids.length by omega, List.getElem?_map, List.append_assoc, List.getElem?_append_right (Nat.le_refl _)]
  simp [he]

theorem reloc_sim (H : HRel N0 (base :: lv) ρ G w) {ids ids' all : List Nat} (hall : Moved base G all) (hpre : ∃ r, all = ids' ++ r) {q q' : PV} {v : Value} (h : reloc base G ids q = some (q', ids')) (hv : RV (Pr N0 ρ) w ρ q v) :
    RV (Pr N0 (keptR base ρ all)) w (keptR base ρ all) q' v := by
  have hb : base ≤ ρ.length := by rw [H.len]; exact H.lvl base (by simp)
  have hlt : ∀ g ∈ all, g < ρ.length := fun g hg => by
    obtain ⟨_, _, _, _, h⟩ := hall.ge g hg
    rw [H.len]
    exact (List.getElem?_eq_some_iff.1 h).1
  have hN : ∀ b, Pr N0 (keptR base ρ all) b → Pr N0 ρ b := fun b hb => hb.imp id (own_kept hlt)
  have fl : ∀ {q q' : PV}, flat q = true → q' = q → RV (Pr N0 ρ) w ρ q v → RV (Pr N0 (keptR base ρ all)) w (keptR base ρ all) q' v := fun hf hq hv => by
    subst hq
    exact ((flat_weak hf hv).mono hN).weak _
  cases q with
  | own g gen n =>
    simp only [reloc] at h
    split at h
    · rename_i hg
      cases h
      cases hv with
      | own e h1 h2 h3 h4 => exact .own e (kept_low hb hg h1) h2 h3 h4
    · split at h
      · cases h
      · simp only [Option.map_eq_some_iff] at h
        obtain ⟨x, _, hh⟩ := h
        cases hh
        obtain ⟨r, rfl⟩ := hpre
        cases hv with
        | own e h1 h2 h3 h4 => exact .own e (kept_high hb h1) h2 h3 h4
  | box g gen off =>
    simp only [reloc] at h
    split at h
    · rename_i hg
      simp only [Option.some.injEq, Prod.mk.injEq] at h
      obtain ⟨rfl, rfl⟩ := h
      cases hv with
      | box e h1 h2 h3 => exact .box e (kept_low hb hg h1) h2 h3
    · cases h
  | elt g gen n sz i k =>
    simp only [reloc, seal2] at h
    split at h
    · rename_i hg
      simp only [Option.map_some, Option.some.injEq, Prod.mk.injEq] at h
      obtain ⟨rfl, rfl⟩ := h
      cases hv with
      | elt e h1 h2 h3 h4 => exact .elt e (kept_low hb hg h1) h2 h3 h4
    · cases h
  | _ =>
    simp only [reloc, seal2] at h
    split at h
    · rename_i hf
      simp only [Option.map_some, Option.some.injEq, Prod.mk.injEq] at h
      obtain ⟨rfl, rfl⟩ := h
      exact fl hf rfl hv
    · cases h

theorem relocs_sim (H : HRel N0 (base :: lv) ρ G w) {all : List Nat} (hall : Moved base G all) : ∀ {qs qs' : List PV} {ids ids' : List Nat}, Moved base G ids → (∃ r, all = ids' ++ r) → relocs base G ids qs = some (qs', ids') →
    qs'.length = qs.length ∧ ∀ (f : Nat → Value), (∀ (j : Nat) (q : PV), qs[j]? = some q → RV (Pr N0 ρ) w ρ q (f j)) → ∀ (j : Nat) (q : PV), qs'[j]? = some q → RV (Pr N0 (keptR base ρ all)) w (keptR base ρ all) q (f j)
  | [], qs', ids, ids', _, _, h => by
    simp only [relocs, Option.some.injEq, Prod.mk.injEq] at h
    obtain ⟨rfl, _⟩ := h
    exact ⟨rfl, fun f _ j q hj => by simp at hj⟩
  | q :: qs, qs', ids, ids', hm, hpre, h => by
    simp only [relocs] at h
    split at h
    · rename_i v' ids1 h1
      split at h
      · rename_i r' ids2 h2
        cases h
        obtain ⟨m1, _⟩ := reloc_moved hm h1
        obtain ⟨_, r2, e2⟩ := relocs_moved m1 h2
        obtain ⟨k1, k2⟩ := relocs_sim H hall m1 hpre h2
        refine ⟨by simp [k1], fun f hf j q0 hj => ?_⟩
        cases j with
        | zero =>
          simp at hj
          subst hj
          exact reloc_sim H hall (by obtain ⟨r, hr⟩ := hpre; exact ⟨r2 ++ r, by rw [hr, e2, List.append_assoc]⟩) h1 (hf 0 q rfl)
        | succ j => exact k2 (fun j => f (j + 1)) (fun j q hq => hf (j + 1) q hq) j q0 (by simpa using hj)
      · cases h
    · cases h

theorem keepR_sim (H : HRel N0 (base :: lv) ρ G w) (hlv : ∀ m ∈ lv, m ≤ base) {q q' : PV} {G' : List GO} {v : Value} (h : keepR base G q = some (q', G')) (hv : RV (Pr N0 ρ) w ρ q v) :
    ∃ ids, Moved base G ids ∧ HRel N0 lv (keptR base ρ ids) G' w ∧ RV (Pr N0 (keptR base ρ ids)) w (keptR base ρ ids) q' v := by
  cases q with
  | agg cs =>
    simp only [keepR] at h
    split at h
    · rename_i cs' ids h1
      cases h
      obtain ⟨m1, _⟩ := relocs_moved .nil h1
      obtain ⟨k1, k2⟩ := relocs_sim H m1 .nil ⟨[], by simp⟩ h1
      cases hv with
      | agg hl he => exact ⟨ids, m1, H.keep hlv m1, .agg (by rw [hl, k1]) (k2 _ he)⟩
    · cases h
  | tup cs =>
    simp only [keepR] at h
    split at h
    · rename_i cs' ids h1
      cases h
      obtain ⟨m1, _⟩ := relocs_moved .nil h1
      obtain ⟨k1, k2⟩ := relocs_sim H m1 .nil ⟨[], by simp⟩ h1
      cases hv with
      | tup hl he => exact ⟨ids, m1, H.keep hlv m1, .tup (by rw [hl, k1]) (k2 _ he)⟩
    · cases h
  | _ =>
    simp only [keepR] at h
    split at h
    · rename_i v' ids h1
      cases h
      obtain ⟨m1, _⟩ := reloc_moved .nil h1
      exact ⟨ids, m1, H.keep hlv m1, reloc_sim H m1 ⟨[], by simp⟩ h1 hv⟩
    · cases h
end

/-- What a result is read by. -/
def resSem (tmps : Array Value) : ResultVar → Sem Value
  | .tmp t => pure (tmps.getD t undef)
  | .cell a t => do loadVar t (← asAddr (tmps.getD a undef))
theorem results_eq (fn : Func) (tmps : Array Value) : results fn tmps = (do let vs ← fn.results.mapM (resSem tmps); pure (if h : vs.size = 1 then vs[0] else .tuple vs)) := by
  unfold results
  congr 1
  try (congr 1; funext r; cases r <;> rfl)

theorem resVar_sim (H : HRel N0 lv ρ G w) {env : Env} {tmps : Array Value} (he : ∀ t, RV (Pr N0 ρ) w ρ (look env t) (tmps.getD t undef)) {r : ResultVar} {q : PV} (h : resVar P env G r = some q) :
    ∃ v, (resSem tmps r).run P w = .ok v w ∧ RV (Pr N0 ρ) w ρ q v := by
  cases r with
  | tmp t =>
    simp only [resVar, Option.some.injEq] at h
    subst h
    exact ⟨_, rfl, he t⟩
  | cell ad t =>
    simp only [resVar] at h
    split at h
    · rename_i d n cs hd hn hc
      obtain ⟨b, off, f, hv, hC⟩ := cellsAt_sim H hc (he ad)
      obtain ⟨v, h1, h2⟩ := rd_sim hd hn h hC
      refine ⟨v, ?_, h2⟩
      simp only [resSem, hv]
      rw [Sem.run_bind]
      simp only [asAddr, Sem.run_pure, Result.andThen_ok, h1]
    · cases h

theorem mapM_run {α : Type} {g : α → Sem Value} : ∀ {l : List α} {vs : List Value}, vs.length = l.length → (∀ (j : Nat) (x : α) (v : Value), l[j]? = some x → vs[j]? = some v → (g x).run P w = .ok v w) → (l.mapM g).run P w = .ok vs w
  | [], [], _, _ => by simp
  | x :: l, v :: vs, hl, h => by
    have h1 := h 0 x v rfl rfl
    have h2 := mapM_run (l := l) (vs := vs) (by simpa using hl) fun j x v hx hv => h (j + 1) x v hx hv
    simp [List.mapM_cons, h1, h2]
  | [], _ :: _, hl, _ => by simp at hl
  | _ :: _, [], hl, _ => by simp at hl

theorem choose_list {R : PV → Value → Prop} {f : ResultVar → Option PV} {g : ResultVar → Sem Value} (hfg : ∀ r q, f r = some q → ∃ v, (g r).run P w = .ok v w ∧ R q v) : ∀ {rs : List ResultVar} {qs : List PV}, rs.mapM f = some qs →
    ∃ vs : List Value, vs.length = qs.length ∧ (∀ (j : Nat) (q : PV), qs[j]? = some q → R q (vs.getD j undef)) ∧ vs.length = rs.length ∧ ∀ (j : Nat) (x : ResultVar) (v : Value), rs[j]? = some x → vs[j]? = some v → (g x).run P w = .ok v w
  | [], qs, h => by
    simp at h
    subst h
    exact ⟨[], rfl, fun j q hj => by simp at hj, rfl, fun j x v hj => by simp at hj⟩
  | r :: rs, qs, h => by
    simp only [List.mapM_cons, Option.bind_eq_bind, Option.pure_def, Option.bind_eq_some_iff, Option.some.injEq] at h
    obtain ⟨q, hq, qs', hqs, rfl⟩ := h
    obtain ⟨v, h1, h2⟩ := hfg r q hq
    obtain ⟨vs, k1, k2, k3, k4⟩ := choose_list hfg hqs
    refine ⟨v :: vs, by simp [k1], fun j q' hj => ?_, by simp [k3], fun j x u hx hu => ?_⟩
    · cases j with
      | zero => simp at hj; subst hj; simpa using h2
      | succ j => have := k2 j q' (by simpa using hj); simpa using this
    · cases j with
      | zero => simp at hx hu; subst hx hu; exact h1
      | succ j => exact k4 j x u (by simpa using hx) (by simpa using hu)

theorem resOf_sim (H : HRel N0 lv ρ G w) {env : Env} {tmps : Array Value} (he : ∀ t, RV (Pr N0 ρ) w ρ (look env t) (tmps.getD t undef)) {fn : Func} {q : PV} (h : resOf P fn env G = some q) : ∃ v, (results fn tmps).run P w = .ok v w ∧ RV (Pr N0 ρ) w ρ q v := by
  unfold resOf at h
  split at h
  · rename_i r hr
    obtain ⟨v, h1, h2⟩ := resVar_sim (P := P) H he h
    refine ⟨v, ?_, h2⟩
    have hfn : fn.results = #[r] := by rw [← Array.toList_inj]; simpa using hr
    rw [results_eq, Sem.run_bind, Array.mapM_eq_mapM_toList, hfn]
    simp [h1]
  · rename_i hne
    simp only [Option.map_eq_some_iff] at h
    obtain ⟨qs, hqs, rfl⟩ := h
    obtain ⟨vs, k1, k2, k3, k4⟩ := choose_list (P := P) (w := w) (R := RV (Pr N0 ρ) w ρ) (g := resSem tmps) (fun r q hq => resVar_sim (P := P) H he hq) hqs
    have hlen : vs.length ≠ 1 := fun h1 => by
      rw [k3] at h1
      obtain ⟨r, hr⟩ := List.length_eq_one_iff.1 h1
      exact hne r hr
    refine ⟨.tuple vs.toArray, ?_, .tup (by simpa using k1) fun j q hj => by simpa using k2 j q hj⟩
    have hm := mapM_run (P := P) (w := w) (l := fn.results.toList) (vs := vs) k3 k4
    rw [results_eq, Sem.run_bind, Array.mapM_eq_mapM_toList, Sem.run_map, hm]
    simp [hlen]

theorem look_args (args : List PV) (t : Nat) : look (argEnv args 0) t = (args[t]?).getD .bad := by
  have key : ∀ (l : List PV) (k : Nat), look (argEnv l k) t = if k ≤ t then (l[t - k]?).getD .bad else .bad := by
    intro l
    induction l with
    | nil => intro k; simp [look, argEnv]
    | cons x l ih =>
      intro k
      simp only [argEnv, look]
      by_cases h : k = t
      · subst h; simp
      · rw [if_neg h, ih]
        by_cases h2 : k ≤ t
        · rw [if_pos (by omega), if_pos h2, show t - k = (t - (k + 1)) + 1 by omega, List.getElem?_cons_succ]
        · rw [if_neg (by omega), if_neg h2]
  simpa using key args 0

theorem enter_env {K : Nat} (H : HRel N0 lv ρ G w) {args : List PV} {vs : Array Value} {nt : Nat} (hl : vs.size = args.length) (hle : args.length ≤ nt) (hv : ∀ (j : Nat) (pv : PV), args[j]? = some pv → RV (Pr N0 ρ) w ρ pv (vs.getD j undef)) :
    Rel N0 (G.length :: lv) nt (ρ ++ List.replicate K rr0) (look (argEnv args 0), G ++ List.replicate K ⟨0, .none⟩) ⟨vs ++ Array.replicate (nt - vs.size) undef, []⟩ w where
  defs := rfl
  nt := by simp; omega
  env := fun t => by
    have hst : Step ρ w (ρ ++ List.replicate K rr0) w := ⟨rfl, rfl, rfl, Nat.le_refl _, fun _ _ _ => rfl, fun b hb => .inl (own_nil.1 hb)⟩
    show RV _ _ _ (look (argEnv args 0) t) _
    rw [look_args]
    cases ht : args[t]? with
    | none => exact .bad
    | some q =>
      have hlt : t < vs.size := by rw [hl]; exact (List.getElem?_eq_some_iff.1 ht).1
      have := (hv t q ht).step hst (.append ρ (List.replicate K rr0))
      have e : (vs ++ Array.replicate (nt - vs.size) undef).getD t undef = vs.getD t undef := by
        simp only [Array.getD_eq_getD_getElem?]
        rw [Array.getElem?_append_left hlt]
      simp only [Option.getD_some]
      rw [e]
      exact this
  heap := H.enter K

theorem fnRun_sim {X : Aux} (hP : X.P = P) (hE : EqOk P X.E) {call : FuncId → List PV → List GO → Option (PV × List GO)} (hC : CallOk P call) (hm : P.follows .mixedOrders = true) {f : FuncId} {fn : Func} {c : Code} (hf : P.funcs[f]? = some fn) (hb : fn.body = some c)
    {args : List PV} {r : PV} {G' : List GO} (h : fnRun X call f fn c args G = some (r, G')) :
    (∃ fn, P.funcs[f]? = some fn ∧ (fn.name == "runtime.NumGoroutine") = false ∧ fn.body.isNone = false) ∧
    ∀ (N0 : Nat → Prop) (lv : List Nat) (ρ : List RR) (w : World) (vs : Array Value), HRel N0 lv ρ G w → vs.size = args.length → (∀ (j : Nat) (pv : PV), args[j]? = some pv → RV (Pr N0 ρ) w ρ pv (vs.getD j undef)) →
      Calls P f vs w fun en w' => ∃ v ρ', en = .returned v ∧ Step ρ w ρ' w' ∧ LLe ρ ρ' ∧ HRel N0 lv ρ' G' w' ∧ RV (Pr N0 ρ') w' ρ' r v := by
  subst hP
  unfold fnRun at h
  split at h
  · cases h
  · rename_i hno
    refine ⟨⟨fn, hf, by simpa using (fun h => hno (.inl h)), by rw [hb]; rfl⟩, fun N0 lv ρ w vs H hl hv => ?_⟩
    rw [slotsG_eq] at h
    have hrel := enter_env (K := (X.ann f).2.length) (nt := fn.ntmps) H hl (by have := fun h => hno (.inr (.inl h)); omega) hv
    have hlv : ∀ m ∈ G.length :: lv, m ≤ G.length := fun m hm => by
      simp only [List.mem_cons] at hm
      rcases hm with rfl | hm
      · exact Nat.le_refl _
      · exact H.lvl m hm
    have main : ∀ (x : Ex) (env : Env) (G2 : List GO), shCode ⟨X.P, X.E, G.length, (X.ann f).2, call, X.mask f⟩ fn.ntmps (X.ann f).1 X.n c (argEnv args 0, G ++ List.replicate (X.ann f).2.length ⟨0, .none⟩) = some (x, (env, G2)) → (x = .nrm ∨ x = .ret) →
        ∀ q, resOf X.P fn env G2 = some q → ∀ q' G3, (if X.keep f = true then keepR G.length G2 q else (sealR G.length G2 q).map fun r' => (r', G2.take G.length)) = some (q', G3) →
        Calls X.P f vs w fun en w' => ∃ v ρ', en = .returned v ∧ Step ρ w ρ' w' ∧ LLe ρ ρ' ∧ HRel N0 lv ρ' G3 w' ∧ RV (Pr N0 ρ') w' ρ' q' v := by
      intro x env G2 hs hx q hq q' G3 hq'
      refine calls_of_wp hf hb (wp_mono (code_sim (cx := ⟨X.P, X.E, G.length, (X.ann f).2, call, X.mask f⟩) rfl hE hC hlv hm c _ _ _ w x (env, G2) (by cases hq9 : drawsOk (X.ann f).2 (X.mask f) c with | true => rfl | false => exact (hno (.inr (.inr hq9))).elim) hrel hs) fun en a' w' hd => ?_)
      obtain ⟨rfl, ρ', k1, k2, k3⟩ := hd
      obtain ⟨v, hv1, hv2⟩ := resOf_sim (P := X.P) k3.heap k3.env hq
      have hlen : ρ.length = G.length := H.len
      have hbase : G.length ≤ ρ'.length := by rw [k3.heap.len]; exact k3.heap.lvl _ (by simp)
      have hLL : LLe ρ (ρ'.take G.length) := by
        have := (LLe.append ρ (List.replicate (X.ann f).2.length rr0)).trans k2
        have h9 := this.take G.length
        rwa [← hlen, List.take_length, hlen] at h9
      have hend : ∃ ρ'', Step ρ w ρ'' w' ∧ LLe ρ ρ'' ∧ HRel N0 lv ρ'' G3 w' ∧ RV (Pr N0 ρ'') w' ρ'' q' v := by
        split at hq'
        · obtain ⟨ids, m1, m2, m3⟩ := keepR_sim k3.heap H.lvl hq' hv2
          have hlt : ∀ g ∈ ids, g < ρ'.length := fun g hg => by
            obtain ⟨_, _, _, _, h⟩ := m1.ge g hg
            rw [k3.heap.len]
            exact (List.getElem?_eq_some_iff.1 h).1
          refine ⟨_, ⟨k1.os, k1.tape, k1.output, k1.size, fun b hb hn => k1.keep b hb fun ho => hn (own_nil.1 ho), fun b ho => ?_⟩, hLL.trans (.append _ _), m2, m3⟩
          rcases k1.new b (own_kept hlt ho) with h9 | h9
          · exact .inl (own_nil.1 h9)
          · exact .inr h9
        · simp only [Option.map_eq_some_iff] at hq'
          obtain ⟨q2, hq2, hh⟩ := hq'
          cases hh
          refine ⟨ρ'.take G.length, ⟨k1.os, k1.tape, k1.output, k1.size, fun b hb hn => k1.keep b hb fun ho => hn (own_nil.1 ho), fun b ho => ?_⟩, hLL, k3.heap.leave H.lvl, sealR_sim k3.heap hq2 hv2⟩
          rcases k1.new b (own_take ho) with h9 | h9
          · exact .inl (own_nil.1 h9)
          · exact .inr h9
      obtain ⟨ρ'', e1, e2, e3, e4⟩ := hend
      have hR : a'.defers = [] ∧ ∃ v, (results fn a'.tmps).run X.P w' = .ok v w' ∧ ∃ v_1 ρ', Ending.returned v = .returned v_1 ∧ Step ρ w ρ' w' ∧ LLe ρ ρ' ∧ HRel N0 lv ρ' G3 w' ∧ RV (Pr N0 ρ') w' ρ' q' v_1 :=
        ⟨k3.defs, v, hv1, v, ρ'', rfl, e1, e2, e3, e4⟩
      rcases hx with rfl | rfl
      · exact hR
      · exact hR
    split at h
    · cases h
    · cases h
    · rename_i x env G2 hne hs
      split at h
      · rename_i q hq
        refine main x env G2 hs ?_ q hq _ _ h
        cases x with
        | nrm => exact .inl rfl
        | ret => exact .inr rfl
        | ext id => exact (hne id rfl).elim
      · cases h

/-- **WHAT THE SHADOW RUN SAYS HOLDS.** -/
theorem shFn_ok {X : Aux} (hP : X.P = P) (hE : EqOk P X.E) (hX : ExtOk P X.ext) (hm : P.follows .mixedOrders = true) : ∀ d, CallOk P (shFn X d)
  | 0 => fun f args G r G' h => by simp [shFn] at h
  | d + 1 => fun f args G r G' h => by
    simp only [shFn] at h
    split at h
    · rename_i g hg
      exact hX f g hg f args G r G' (by simpa using h)
    · split at h
      · rename_i fn hfn
        split at h
        · rename_i c hc
          exact fnRun_sim hP hE (shFn_ok hP hE hX hm d) hm (by rw [← hP]; exact hfn) hc h
        · cases h
      · cases h

/-- What a function's end makes of its body's. -/
def fin (P : Program) (fn : Func) (kp : Bool) (base : Nat) (r : Option (Ex × LS)) : Option (PV × List GO) :=
  match r with
  | some (.ext _, _) | none => none
  | some (_, (env, G')) => match resOf P fn env G' with
    | some r => if kp = true then keepR base G' r else (sealR base G' r).map fun r' => (r', G'.take base)
    | none => none
theorem shFn_run {X : Aux} {d : Nat} {f : FuncId} {fn : Func} {c : Code} {keep slots : List Nat} {nt : Nat} {args : List PV} {G : List GO} (h1 : X.ext f = none) (h2 : X.P.funcs[f]? = some fn) (h3 : fn.body = some c)
    (h4 : (fn.name == "runtime.NumGoroutine") = false) (h5 : X.ann f = (keep, slots)) (h6 : drawsOk slots (X.mask f) c = true) (h7 : fn.ntmps = nt) (h8 : args.length ≤ nt) :
    shFn X (d + 1) f args G = fin X.P fn (X.keep f) G.length (shCode ⟨X.P, X.E, G.length, slots, shFn X d, X.mask f⟩ nt keep X.n c (argEnv args 0, G ++ slotsG slots)) := by
  subst h7
  simp only [shFn, h1, h2, h3]
  unfold fnRun fin
  rw [h4, h5, h6]
  rw [if_neg (by simp; omega)]
  rfl
end
end Go.Proofs.Ythmlfonbfnmalaa.Sh
