/- A run of the program over values without memory, and that what it says holds of the program's own run. No condition. -/
import Derived.Test.YthmlfonbfnmalaaSh1
namespace Go.Proofs.Ythmlfonbfnmalaa.Sh
open Go.RowKit
set_option linter.unusedVariables false
set_option linter.unusedSimpArgs false

/-- What the memory holds for a ghost block. -/
def ObjR (N : Nat → Prop) (w : World) (ρ : List RR) (o : GO) (e : RR) : Prop :=
  o.gen = e.gen ∧ match o.c with
  | .none => True
  | .box cs => e.len = 0 ∧ ∃ b vs el, e.blk = some b ∧ w.heap[b]? = some (.cells vs el (0, 0)) ∧ vs.size = cs.length ∧ ∀ (j : Nat) (pv : PV), cs[j]? = some pv → RV N w ρ pv (vs.getD j undef)
  | .row sz l => e.len = l.length ∧ l.length ≤ e.cap ∧ (∀ x ∈ l, x.length = sz) ∧ (e.blk = none → e.cap = 0) ∧
      ∀ b, e.blk = some b → e.ad = some ⟨b, 0, none⟩ ∧ ∃ vs el, w.heap[b]? = some (.cells vs el (0, 0)) ∧ e.cap * sz ≤ vs.size ∧
        ∀ (i j : Nat) (x : List PV) (pv : PV), l[i]? = some x → x[j]? = some pv → RV N w [] pv (vs.getD (i * sz + j) undef)
  | .map s l => e.len = 0 ∧ ∃ b es clock kvs, e.blk = some b ∧ w.heap[b]? = some (.map es clock) ∧ MapC es clock kvs ∧ (∀ x ∈ kvs, shapeV x.1 = some s) ∧ kvs.map (·.1) = l.map (·.1) ∧
      ∀ (i : Nat) (k k' : Value) (pv : PV) (v : Value), l[i]? = some (k, pv) → kvs[i]? = some (k', v) → RV N w ρ pv v

theorem ObjR.step {N0 : Nat → Prop} {ρ₀ ρ₁ : List RR} {w w' : World} (hs : Step ρ₀ w ρ₁ w') {ρ ρ' : List RR} {o : GO} {e : RR} (h : ObjR (Pr N0 ρ₀) w ρ o e) (hL : LLe ρ ρ')
    (hk : ∀ b, e.blk = some b → w'.heap[b]? = w.heap[b]?) : ObjR (Pr N0 ρ₁) w' ρ' o e := by
  refine ⟨h.1, ?_⟩
  have h2 := h.2
  revert h2
  cases o.c with
  | none => exact fun _ => trivial
  | box cs =>
    rintro ⟨h0, b, vs, el, hb, hh, hz, hr⟩
    exact ⟨h0, b, vs, el, hb, (hk b hb).trans hh, hz, fun j pv hj => (hr j pv hj).step hs hL⟩
  | row sz l =>
    rintro ⟨h0, h1, h3, h4, h5⟩
    refine ⟨h0, h1, h3, h4, fun b hb => ?_⟩
    obtain ⟨had, vs, el, hh, hz, hr⟩ := h5 b hb
    exact ⟨had, vs, el, (hk b hb).trans hh, hz, fun i j x pv hi hj => (hr i j x pv hi hj).step hs (.nil _)⟩
  | map s l =>
    rintro ⟨h0, b, es, clock, kvs, h1, h2, h3, h4, h5, h6⟩
    exact ⟨h0, b, es, clock, kvs, h1, (hk b h1).trans h2, h3, h4, h5, fun i k k' pv v hi hj => (h6 i k k' pv v hi hj).step hs hL⟩

structure HRel (N0 : Nat → Prop) (lv : List Nat) (ρ : List RR) (G : List GO) (w : World) : Prop where
  len : ρ.length = G.length
  inj : ∀ (g g' : Nat) (e e' : RR) (b : Nat), ρ[g]? = some e → ρ[g']? = some e' → e.blk = some b → e'.blk = some b → g = g'
  bnd : ∀ b, Pr N0 ρ b → b < w.heap.size
  dis : ∀ b, N0 b → ¬ Own ρ b
  lvl : ∀ m ∈ lv, m ≤ G.length
  obj : ∀ m, (m = G.length ∨ m ∈ lv) → ∀ (g : Nat) (o : GO) (e : RR), g < m → G[g]? = some o → ρ[g]? = some e → ObjR (Pr N0 ρ) w (ρ.take m) o e

section
variable {N0 : Nat → Prop} {lv : List Nat} {ρ : List RR} {G : List GO} {w : World}

theorem HRel.at (H : HRel N0 lv ρ G w) {g : Nat} {o : GO} {e : RR} (ho : G[g]? = some o) (he : ρ[g]? = some e) : ObjR (Pr N0 ρ) w ρ o e := by
  have hg : g < G.length := (List.getElem?_eq_some_iff.1 ho).1
  have := H.obj G.length (.inl rfl) g o e hg ho he
  rwa [← H.len, List.take_length] at this

theorem own_of {g : Nat} {e : RR} {b : Nat} (he : ρ[g]? = some e) (hb : e.blk = some b) : Own ρ b := ⟨e, List.mem_of_getElem? he, hb⟩

/-- What is told of a row's elements. -/
structure RowIs (N : Nat → Prop) (w : World) (sz : Nat) (l : List (List PV)) (A : Option Addr) (c : Nat) (f : Nat → Nat → Value) : Prop where
  cap : l.length ≤ c
  szs : ∀ x ∈ l, x.length = sz
  cell : l ≠ [] → ∃ b o, A = some ⟨b, o, none⟩ ∧ b < w.heap.size ∧ ∀ i j, i < l.length → j < sz → w.cell? ⟨b, o + (i * sz + j), none⟩ = some (f i j)
  el : ∀ (i j : Nat) (x : List PV) (pv : PV), l[i]? = some x → x[j]? = some pv → RV N w [] pv (f i j)

theorem cell_of {b off : Nat} {vs : Array Value} {el : TypeId} {fr : Nat × Nat} (h : w.heap[b]? = some (.cells vs el fr)) (hj : off < vs.size) : w.cell? ⟨b, off, none⟩ = some (vs.getD off undef) := by
  simp [World.cell?, h, hj]

theorem idx_lt {i j n sz c m : Nat} (hi : i < n) (hj : j < sz) (hn : n ≤ c) (hc : c * sz ≤ m) : i * sz + j < m := by
  have h1 : (i + 1) * sz ≤ c * sz := Nat.mul_le_mul_right _ (by omega)
  rw [Nat.add_mul, Nat.one_mul] at h1
  omega

theorem rowOf_sim (H : HRel N0 lv ρ G w) {pv : PV} {v : Value} {sz : Nat} {l : List (List PV)} (h : rowOf G pv = some (sz, l)) (hv : RV (Pr N0 ρ) w ρ pv v) :
    ∃ A c f, v = .slice A l.length c ∧ RowIs (Pr N0 ρ) w sz l A c f := by
  cases pv with
  | row sz' l' =>
    simp only [rowOf, Option.some.injEq, Prod.mk.injEq] at h
    obtain ⟨rfl, rfl⟩ := h
    cases hv with
    | row A c f hc hs hA he =>
      exact ⟨A, c, f, rfl, hc, hs, fun hne => let ⟨b, o, h1, _, h3, h4⟩ := hA hne; ⟨b, o, h1, h3, h4⟩, he⟩
  | own g gen n =>
    simp only [rowOf] at h
    split at h
    · rename_i gen' sz' l' hg
      split at h
      · rename_i hc
        simp only [Option.some.injEq, Prod.mk.injEq] at h
        obtain ⟨rfl, rfl⟩ := h
        obtain ⟨rfl, rfl⟩ := hc
        cases hv with
        | own e he hgen hn hval =>
          obtain ⟨h1, h2, h3, h4, h5, h6⟩ := H.at hg he
          have hv2 := hval h1.symm h2
          refine ⟨_, e.cap, fun i j => (match e.blk with | some b => (match w.heap[b]? with | some (.cells vs _ _) => vs.getD (i * sz' + j) undef | _ => undef) | none => undef), hv2, h3, h4, fun hne => ?_, fun i j x pv hi hj => ?_⟩
          · cases hb : e.blk with
            | none =>
              have := h5 hb
              have : l'.length = 0 := by omega
              exact absurd (List.eq_nil_of_length_eq_zero this) hne
            | some b =>
              obtain ⟨had, vs, el, hh, hz, hr⟩ := h6 b hb
              refine ⟨b, 0, had, H.bnd b (.inr (own_of he hb)), fun i j hi hj => ?_⟩
              simp only [hh, Nat.zero_add]
              exact cell_of hh (idx_lt hi hj h3 hz)
          · cases hb : e.blk with
            | none =>
              have := h5 hb
              have : i < l'.length := (List.getElem?_eq_some_iff.1 hi).1
              omega
            | some b =>
              obtain ⟨had, vs, el, hh, hz, hr⟩ := h6 b hb
              simp only [hh]
              exact hr i j x pv hi hj
      · cases h
    · cases h
  | _ => simp [rowOf] at h

/-- What is told of the cells behind an address. -/
structure CellsAre (N : Nat → Prop) (w : World) (ρ : List RR) (cs : List PV) (b o : Nat) (f : Nat → Value) : Prop where
  blk : b < w.heap.size
  cell : ∀ j, j < cs.length → w.cell? ⟨b, o + j, none⟩ = some (f j)
  el : ∀ (j : Nat) (pv : PV), cs[j]? = some pv → RV N w ρ pv (f j)

theorem RV.weak {N : Nat → Prop} {pv : PV} {v : Value} (h : RV N w [] pv v) (ρ : List RR) : RV N w ρ pv v := by
  have key : ∀ {ρ1 : List RR} {pv : PV} {v : Value}, RV N w ρ1 pv v → ρ1 = [] → RV N w ρ pv v := by
    intro ρ1 pv v h
    induction h with
    | bad => exact fun _ => .bad
    | val => exact fun _ => .val
    | agg hl _ ih => exact fun e => .agg hl fun j pv hj => ih j pv hj e
    | tup hl _ ih => exact fun e => .tup hl fun j pv hj => ih j pv hj e
    | clo hl _ ih => exact fun e => .clo hl fun j pv hj => ih j pv hj e
    | row A c f hc hz hA h _ => exact fun _ => .row A c f hc hz hA h
    | «at» b o f hN hb hc h _ => exact fun _ => .at b o f hN hb hc h
    | emp A => exact fun _ => .emp A
    | mp e he => rintro rfl; simp at he
    | mpv b es clock kvs h1 h2 h3 h4 h5 h6 _ => exact fun _ => .mpv b es clock kvs h1 h2 h3 h4 h5 h6
    | nil A c => exact fun _ => .nil A c
    | box e he _ _ => intro hh; subst hh; simp at he
    | own e he _ _ _ => intro hh; subst hh; simp at he
    | elt e he _ _ _ => intro hh; subst hh; simp at he
  exact key h rfl

theorem cellsAt_sim (H : HRel N0 lv ρ G w) {pv : PV} {v : Value} {cs : List PV} (h : cellsAt G pv = some cs) (hv : RV (Pr N0 ρ) w ρ pv v) :
    ∃ b o f, v = .pointer (some ⟨b, o, none⟩) ∧ CellsAre (Pr N0 ρ) w ρ cs b o f := by
  cases pv with
  | «at» cs' =>
    simp only [cellsAt, Option.some.injEq] at h
    subst h
    cases hv with
    | «at» b o f hN hb hc he => exact ⟨b, o, f, rfl, hb, hc, fun j pv hj => (he j pv hj).weak _⟩
  | box g gen off =>
    simp only [cellsAt] at h
    split at h
    · rename_i gen' cs' hg
      split at h
      · rename_i hc
        subst hc
        simp only [Option.some.injEq] at h
        subst h
        cases hv with
        | box e he hgen hval =>
          obtain ⟨h1, h2, b, vs, el, hb, hh, hz, hr⟩ := H.at hg he
          obtain ⟨b', hb', rfl⟩ := hval h1.symm h2
          rw [hb] at hb'
          cases hb'
          refine ⟨b, off, fun j => vs.getD (off + j) undef, rfl, H.bnd b (.inr (own_of he hb)), fun j hj => ?_, fun j pv hj => ?_⟩
          · rw [List.length_drop] at hj
            exact cell_of hh (by omega)
          · rw [List.getElem?_drop] at hj
            exact hr _ _ hj
      · cases h
    · cases h
  | elt g gen n sz i k =>
    simp only [cellsAt] at h
    split at h
    · rename_i gen' sz' l hg
      split at h
      · rename_i hc
        obtain ⟨rfl, rfl, rfl⟩ := hc
        simp only [Option.map_eq_some_iff] at h
        obtain ⟨x, hx, rfl⟩ := h
        cases hv with
        | elt e he hgen hn hval =>
          obtain ⟨h1, h2, h3, h4, h5, h6⟩ := H.at hg he
          obtain ⟨b, hb, rfl⟩ := hval h1.symm h2
          obtain ⟨had, vs, el, hh, hz, hr⟩ := h6 b hb
          have hi : i < l.length := (List.getElem?_eq_some_iff.1 hx).1
          have hxs : x.length = sz' := h4 x (List.mem_of_getElem? hx)
          refine ⟨b, _, fun j => vs.getD (i * sz' + (k + j)) undef, rfl, H.bnd b (.inr (own_of he hb)), fun j hj => ?_, fun j pv hj => ?_⟩
          · rw [List.length_drop] at hj
            rw [Nat.add_assoc]
            exact cell_of hh (idx_lt hi (by omega) h3 hz)
          · rw [List.getElem?_drop] at hj
            exact (hr i (k + j) x pv hx hj).weak _
      · cases h
    · cases h
  | _ => simp [cellsAt] at h
end
end Go.Proofs.Ythmlfonbfnmalaa.Sh
