/- A run of the program over values without memory, and that what it says holds of the program's own run. No condition. -/
import Derived.Test.YthmlfonbfnmalaaSh15
import Derived.ProofKit
import Derived.OpenShut
namespace Go.Proofs.Ythmlfonbfnmalaa.Sh
open Go.RowKit Go.ChangeShapes Go.WideShapes
set_option linter.unusedVariables false
set_option linter.unusedSimpArgs false

/-! ### What can be read as data, as the shadow run sees it -/
abbrev N00 : Nat → Prop := fun _ => False
/-- What is read as data of type t is, cell by cell, what 'enc' says of an a, and Ok. -/
def OpensV (P : Program) (t : TypeId) {α : Type} (enc : α → List PV) (Ok : α → Prop) : Prop :=
  ∀ (H : Type) (en : TypeId × Value → H) (w : World) (spare : Nat → Bool) (held : Bool) (fuel : Nat) (cs : List Value) (x : DataW H × List MemPlace),
    DataW.trod en P w 0 spare held fuel t cs = some x → ∃ a : α, Ok a ∧ (enc a).length = cs.length ∧ ∀ (j : Nat) (pv : PV), (enc a)[j]? = some pv → RV N00 w [] pv (cs.getD j undef)
def OpensF (P : Program) (fs : List Field) (off n : Nat) {α : Type} (enc : α → List PV) (Ok : α → Prop) : Prop :=
  ∀ (H : Type) (en : TypeId × Value → H) (w : World) (spare : Nat → Bool) (held : Bool) (fuel : Nat) (cs : List Value),
    cs.length = off + n → (∀ (i : Nat) (f : Field), fs[i]? = some f → ∃ x, DataW.trod en P w 0 spare held fuel f.type ((cs.drop f.offset).take (P.cellsOf f.type)) = some x) →
    ∃ a : α, Ok a ∧ (enc a).length = n ∧ ∀ (j : Nat) (pv : PV), (enc a)[j]? = some pv → RV N00 w [] pv (cs.getD (off + j) undef)

section
variable {P : Program} {t e : TypeId}
theorem one_cell {w : World} {q : PV} {v : Value} (h : RV N00 w [] q v) (j : Nat) (pv : PV) (hj : [q][j]? = some pv) : RV N00 w [] pv ([v].getD j undef) := by
  cases j with
  | zero => simp only [List.getElem?_cons_zero, Option.some.injEq] at hj; subst hj; exact h
  | succ j => simp at hj
theorem OpensV.int {k : IntKind} (hu : P.underlying t = some (.int k)) : OpensV P t (fun n : Int => [PV.val (.int k n)]) (fun n => (Lit.int k n).wf = true) := by
  intro H en w spare held fuel cs x h
  obtain ⟨n, rfl, _, hw⟩ := DataW.trod_int hu h
  exact ⟨n, hw, rfl, one_cell .val⟩
theorem OpensV.bool (hu : P.underlying t = some .bool) : OpensV P t (fun b : Bool => [PV.val (.bool b)]) (fun _ => True) := by
  intro H en w spare held fuel cs x h
  obtain ⟨b, rfl, _⟩ := DataW.trod_bool hu h
  exact ⟨b, trivial, rfl, one_cell .val⟩
theorem OpensV.string (hu : P.underlying t = some .string) : OpensV P t (fun s : ByteArray => [PV.val (.string s)]) (fun s => s.size ≤ 9223372036854775807) := by
  intro H en w spare held fuel cs x h
  obtain ⟨s, rfl, _, hs⟩ := DataW.trod_string hu h
  exact ⟨s, by unfold maxLen at hs; omega, rfl, one_cell .val⟩
theorem add_plain {b o : Nat} (k : Nat) : (⟨b, o, none⟩ : Addr).add k = ⟨b, o + k, none⟩ := addr_add b o k
theorem list_of {α : Type} (len : Nat) (Q : Nat → α → Prop) (h : ∀ i, i < len → ∃ b, Q i b) : ∃ xs : List α, xs.length = len ∧ ∀ j p, xs[j]? = some p → Q j p := by
  induction len with
  | zero => exact ⟨[], rfl, fun j p hp => by simp at hp⟩
  | succ n ih =>
    obtain ⟨xs, hl, hx⟩ := ih (fun i hi => h i (by omega))
    obtain ⟨b, hb⟩ := h n (by omega)
    refine ⟨xs ++ [b], by simp [hl], fun j p hp => ?_⟩
    rcases Nat.lt_or_ge j xs.length with hj | hj
    · rw [List.getElem?_append_left hj] at hp
      exact hx j p hp
    · rw [List.getElem?_append_right hj] at hp
      have h0 : j - xs.length = 0 := by
        have := (List.getElem?_eq_some_iff.1 hp).1
        simp at this
        omega
      rw [h0] at hp
      have hj' : j = n := by omega
      subst hj'
      simp at hp
      subst hp
      exact hb
theorem OpensV.slice {α : Type} {enc : α → List PV} {Ok : α → Prop} {sz : Nat} (hu : P.underlying t = some (.slice e)) (hc : P.cellsOf e = sz) (hz : 0 < sz) (h : OpensV P e enc Ok) :
    OpensV P t (fun l : List α => [PV.row sz (l.map enc)]) (fun xs => xs.length ≤ 9223372036854775807 ∧ ∀ x ∈ xs, Ok x) := by
  subst hc
  intro H en w spare held fuel cs x hx
  rcases DataW.trod_slice hu hx with ⟨rfl, _⟩ | ⟨a, len, cap, elems, rest, n, _, rfl, _, _, hl, hm, hlen, hel, _, _⟩
  · exact ⟨[], by simp, rfl, one_cell (.row (l := []) none 0 (fun _ _ => undef) (Nat.zero_le _) (by simp) (fun h => absurd rfl h) (fun i j x pv hi _ => by simp at hi))⟩
  · have each : ∀ i, i < len → ∃ b : α, ∃ c : List Value, w.cells? 0 (a.add (i * P.cellsOf e)) (P.cellsOf e) = some c ∧ (Ok b ∧ (enc b).length = c.length ∧ ∀ (j : Nat) (pv : PV), (enc b)[j]? = some pv → RV N00 w [] pv (c.getD j undef)) := by
      intro i hi
      have h1 := hel i hi
      rw [List.getElem?_eq_getElem (by omega), Option.bind_eq_some_iff] at h1
      obtain ⟨c, h2, h3⟩ := h1
      obtain ⟨b, h4⟩ := h _ en w spare held n c _ h3
      exact ⟨b, c, h2, h4⟩
    obtain ⟨xs, hxl, hxs⟩ := list_of len _ each
    have hmm : cap ≤ 9223372036854775807 := by unfold maxLen at hm; omega
    subst hxl
    refine ⟨xs, ⟨by omega, fun p hp => ?_⟩, rfl, one_cell ?_⟩
    · obtain ⟨j, hj⟩ := List.getElem?_of_mem hp
      obtain ⟨_, _, h5, _⟩ := hxs j p hj
      exact h5
    · have key : ∀ (i : Nat) (p : α), xs[i]? = some p → ∀ j, j < P.cellsOf e → ∃ v, w.cell? ((a.add (i * P.cellsOf e)).add j) = some v ∧ (enc p).length = P.cellsOf e ∧ ∀ pv, (enc p)[j]? = some pv → RV N00 w [] pv v := fun i p hp j hj => by
        obtain ⟨c, h2, _, h4, h5⟩ := hxs i p hp
        obtain ⟨h6, h7, h8⟩ := World.cells?_some h2
        have hj' : j < c.length := by omega
        refine ⟨c[j], ?_, by omega, fun pv hpv => ?_⟩
        · rw [h8 j hj]; exact List.getElem?_eq_getElem hj'
        · have := h5 j pv hpv
          simpa [List.getD_eq_getElem?_getD, List.getElem?_eq_getElem hj'] using this
      have hA : xs ≠ [] → ∃ b o, a = ⟨b, o, none⟩ ∧ b < w.heap.size := fun hne => by
        have h0 : 0 < xs.length := List.length_pos_iff.2 hne
        obtain ⟨v, hv, _⟩ := key 0 xs[0] (List.getElem?_eq_getElem h0) 0 hz
        obtain ⟨b, o, sp⟩ := a
        have e0 : ((⟨b, o, sp⟩ : Addr).add (0 * P.cellsOf e)).add 0 = ⟨b, o, sp⟩ := by simp [Addr.add]
        rw [e0] at hv
        unfold World.cell? at hv
        split at hv
        · rename_i c el fr hb
          split at hv
          · cases hv
          · rename_i hs
            cases sp with
            | none => exact ⟨b, o, rfl, (Array.getElem?_eq_some_iff.1 hb).1⟩
            | some _ => simp at hs
        · cases hv
      have hlen2 : xs.length = (xs.map enc).length := by simp
      show RV N00 w [] (.row (P.cellsOf e) (xs.map enc)) (.slice (some a) xs.length cap)
      rw [hlen2]
      refine .row (some a) cap (fun i j => (w.cell? ((a.add (i * P.cellsOf e)).add j)).getD undef) (by simpa using hl) (fun x hx => ?_) (fun hne => ?_) (fun i j x pv hi hj => ?_)
      · obtain ⟨p, hp, rfl⟩ := List.mem_map.1 hx
        obtain ⟨i, hi⟩ := List.getElem?_of_mem hp
        exact (key i p hi 0 hz).choose_spec.2.1
      · have hne' : xs ≠ [] := fun h => hne (by simp [h])
        obtain ⟨b, o, rfl, hb⟩ := hA hne'
        refine ⟨b, o, rfl, fun h => h, hb, fun i j hi hj => ?_⟩
        have hi' : i < xs.length := by simpa using hi
        obtain ⟨v, hv, _⟩ := key i xs[i] (List.getElem?_eq_getElem hi') j hj
        simp only [add_plain, Nat.add_assoc] at hv ⊢
        rw [hv]; rfl
      · rw [List.getElem?_map, Option.map_eq_some_iff] at hi
        obtain ⟨p, hp, rfl⟩ := hi
        have hj' : j < P.cellsOf e := by
          have := (key i p hp 0 hz).choose_spec.2.1
          have := (List.getElem?_eq_some_iff.1 hj).1
          omega
        obtain ⟨v, hv, _, h9⟩ := key i p hp j hj'
        rw [hv]
        exact h9 pv hj
theorem OpensF.one {f : Field} {off n : Nat} {α : Type} {enc : α → List PV} {Ok : α → Prop} (ho : f.offset = off) (hc : P.cellsOf f.type = n) (h : OpensV P f.type enc Ok) : OpensF P [f] off n enc Ok := by
  intro H en w spare held fuel cs hl hx
  obtain ⟨x, hx⟩ := hx 0 f rfl
  rw [ho, hc, List.take_of_length_le (by rw [List.length_drop]; omega)] at hx
  obtain ⟨a, h1, h2, h3⟩ := h _ en w spare held fuel _ x hx
  refine ⟨a, h1, by rw [h2, List.length_drop]; omega, fun j pv hj => ?_⟩
  have := h3 j pv hj
  rwa [List.getD_eq_getElem?_getD, List.getElem?_drop, ← List.getD_eq_getElem?_getD] at this
theorem OpensF.cons {f : Field} {fs : List Field} {off n m : Nat} {α β : Type} {enc : α → List PV} {enc1 : β → List PV} {Ok : α → Prop} {Ok1 : β → Prop} (ho : f.offset = off) (hc : P.cellsOf f.type = n) (h : OpensV P f.type enc Ok)
    (h1 : OpensF P fs (off + n) m enc1 Ok1) : OpensF P (f :: fs) off (n + m) (fun p : α × β => enc p.1 ++ enc1 p.2) (fun p => Ok p.1 ∧ Ok1 p.2) := by
  intro H en w spare held fuel cs hl hx
  obtain ⟨x, hx0⟩ := hx 0 f rfl
  rw [ho, hc] at hx0
  obtain ⟨a, ha, hal, hav⟩ := h _ en w spare held fuel _ x hx0
  obtain ⟨b, hb, hbl, hbv⟩ := h1 _ en w spare held fuel cs (by omega) (fun i g hg => hx (i + 1) g (by simpa using hg))
  have hal' : (enc a).length = n := by rw [hal, List.length_take, List.length_drop]; omega
  refine ⟨(a, b), ⟨ha, hb⟩, by simp [hal', hbl], fun j pv hj0 => ?_⟩
  have hj : (enc a ++ enc1 b)[j]? = some pv := hj0
  rcases Nat.lt_or_ge j n with hjn | hjn
  · rw [List.getElem?_append_left (by omega)] at hj
    have := hav j pv hj
    rwa [List.getD_eq_getElem?_getD, List.getElem?_take, if_pos hjn, List.getElem?_drop, ← List.getD_eq_getElem?_getD] at this
  · rw [List.getElem?_append_right (by omega), hal'] at hj
    have := hbv (j - n) pv hj
    rwa [show off + n + (j - n) = off + j by omega] at this
theorem OpensV.struct {fs : Array Field} {n : Nat} {α β : Type} {enc : α → List PV} {enc' : β → List PV} {Ok : α → Prop} {Ok' : β → Prop} (g : α → β) (he : ∀ a, enc' (g a) = enc a) (hok : ∀ a, Ok a → Ok' (g a))
    (hu : P.underlying t = some (.struct fs)) (hc : P.cellsOf t = n) (h : OpensF P fs.toList 0 n enc Ok) : OpensV P t enc' Ok' := by
  intro H en w spare held fuel cs x hx
  obtain ⟨xs, k, _, _, hl, hlen, hf⟩ := DataW.trod_struct hu hx
  obtain ⟨a, h1, h2, h3⟩ := h _ en w spare held k cs (by omega) (fun i f hi => by
    have hi' : fs[i]? = some f := by simpa using hi
    have hlt : i < fs.size := (Array.getElem?_eq_some_iff.1 hi').1
    exact ⟨xs[i]'(by omega), by rw [hf i f hi', List.getElem?_eq_getElem]⟩)
  exact ⟨g a, hok a h1, by rw [he, h2]; omega, fun j pv hj => by rw [he] at hj; simpa using h3 j pv hj⟩
end

theorem rvs_nil {W : World} : ∀ (j : Nat) (pv : PV), ([] : List PV)[j]? = some pv → RV N00 W [] pv (([] : List Value).getD j undef) := fun j pv h => by simp at h
theorem rvs_cons {W : World} {a : PV} {v : Value} {as : List PV} {vs : List Value} (h : RV N00 W [] a v) (k : ∀ (j : Nat) (pv : PV), as[j]? = some pv → RV N00 W [] pv (vs.getD j undef)) :
    ∀ (j : Nat) (pv : PV), (a :: as)[j]? = some pv → RV N00 W [] pv ((v :: vs).getD j undef) := fun j pv hj => by
  cases j with
  | zero => simp only [List.getElem?_cons_zero, Option.some.injEq] at hj; subst hj; exact h
  | succ j => exact k j pv (by simpa using hj)
theorem rvs_arr {W : World} {as : List PV} {vs : List Value} (k : ∀ (j : Nat) (pv : PV), as[j]? = some pv → RV N00 W [] pv (vs.getD j undef)) : ∀ (j : Nat) (pv : PV), as[j]? = some pv → RV N00 W [] pv (vs.toArray.getD j undef) := fun j pv hj => by
  have := k j pv hj
  simpa using this
/-- A law: what the shadow run says of a call with nothing but what can be read. -/
theorem law_calls {X : Aux} {P : Program} (hP : X.P = P) (hE : EqOk P X.E) (hX : ExtOk P X.ext) (hm : P.follows .mixedOrders = true) {d : Nat} {f : FuncId} {args : List PV} (h : shFn X d f args [] = some (.val (.bool true), [])) (W : World) (vs : Array Value)
    (hs : vs.size = args.length) (ha : ∀ (j : Nat) (pv : PV), args[j]? = some pv → RV N00 W [] pv (vs.getD j undef)) : Calls P f vs W fun e W' => e = .returned (.bool true) ∧ Below W.heap.size W W' := by
  have own0 : ∀ b, ¬ Own [] b := fun b ⟨e, he, _⟩ => by simp at he
  have H : HRel N00 [] [] [] W := ⟨rfl, fun g g' e e' b h1 => by simp at h1, fun b hb => by rcases hb with h | h; exact h.elim; exact (own0 b h).elim, fun b hb => hb.elim, fun m hm => by simp at hm, fun m _ g o e _ hg => by simp at hg⟩
  refine Calls.mono ((shFn_ok hP hE hX hm d f args [] _ _ h).2 N00 [] [] W vs H hs fun j pv hj => (ha j pv hj).mono fun b hb => by rcases hb with h | h; exact h; exact (own0 b h).elim) fun e W' ⟨v, ρ', h1, h2, _, _, h5⟩ => ?_
  cases h5
  exact ⟨h1, ⟨h2.os, h2.tape, h2.output, h2.size, fun b hb => h2.keep b hb (own0 b)⟩⟩
end Go.Proofs.Ythmlfonbfnmalaa.Sh
