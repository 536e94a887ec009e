/- A run of the program over values without memory, and that what it says holds of the program's own run. No condition. -/
import Derived.Test.YthmlfonbfnmalaaSh16
import Derived.Sort.Grow
namespace Go.Proofs.Ythmlfonbfnmalaa.Sh
open Go.RowKit
set_option linter.unusedVariables false
set_option linter.unusedSimpArgs false

/-! ### Contracts of the library: a row of whole numbers, sorted in its place; collected out of an iterator -/
abbrev rowI (zs : List Int) : List (List PV) := zs.map fun x => [.val (.int .i64 x)]
def intsOf : List (List PV) → Option (List Int)
  | [] => some []
  | [.val (.int .i64 x)] :: r => (intsOf r).map (x :: ·)
  | _ => none
theorem intsOf_map : ∀ zs : List Int, intsOf (zs.map fun x => [.val (.int .i64 x)]) = some zs
  | [] => rfl
  | x :: r => by simp only [List.map_cons, intsOf, intsOf_map r, Option.map_some]
theorem intsOf_spec : ∀ {l : List (List PV)} {zs : List Int}, intsOf l = some zs → l = rowI zs
  | [], zs, h => by simp only [intsOf, Option.some.injEq] at h; subst h; rfl
  | c :: r, zs, h => by
    unfold intsOf at h
    split at h
    · rename_i h1; cases h1
    · rename_i x r' h1
      simp only [List.cons.injEq] at h1
      obtain ⟨rfl, rfl⟩ := h1
      simp only [Option.map_eq_some_iff] at h
      obtain ⟨zs', h1, rfl⟩ := h
      rw [intsOf_spec h1]
      rfl
    · cases h
theorem rowI_get {zs : List Int} {i j : Nat} {x : List PV} {pv : PV} (hi : (rowI zs)[i]? = some x) (hj : x[j]? = some pv) : j = 0 ∧ ∃ z, zs[i]? = some z ∧ pv = .val (.int .i64 z) := by
  rw [List.getElem?_map, Option.map_eq_some_iff] at hi
  obtain ⟨z, hz, rfl⟩ := hi
  cases j with
  | zero => simp only [List.getElem?_cons_zero, Option.some.injEq] at hj; exact ⟨rfl, z, hz, hj.symm⟩
  | succ j => simp at hj
def sortInts (zs : List Int) : List Int := zs.mergeSort fun x y => decide (x ≤ y)
theorem sortInts_length (zs : List Int) : (sortInts zs).length = zs.length := by simp [sortInts]
/-- slices.Sort of a row of the caller's own. -/
def sortG : List PV → List GO → Option (PV × List GO)
  | [.own g gen n], G => match G[g]? with
    | some ⟨gen', .row 1 l⟩ => if gen' = gen ∧ l.length = n ∧ n < 2 ^ 62 then (match intsOf l with
      | some zs => some (.tup [], G.set g ⟨gen, .row 1 (rowI (sortInts zs))⟩)
      | none => none) else none
    | _ => none
  | [.emp], G => some (.tup [], G)
  | [.nil _], G => some (.tup [], G)
  | _, _ => none
/-- slices.Collect of what slices.Values hands back. -/
def collG (it : FuncId) : List PV → List GO → Option (PV × List GO)
  | [.clo it' [.at [.row 1 l]]], [] => if it' = it ∧ l.length < 2 ^ 40 then (match intsOf l with
    | some zs => if zs = [] then some (.emp, []) else some (.own 0 1 l.length, [⟨1, .row 1 l⟩])
    | none => none) else none
  | _, _ => none

section
variable {P : Program} {N0 : Nat → Prop} {lv : List Nat} {ρ : List RR} {G : List GO} {w : World}
/-- A ghost row has been written all over. -/
theorem HRel.setRow (H : HRel N0 lv ρ G w) {g gen sz : Nat} {l l' : List (List PV)} {er : RR} {b : Nat} {w' : World} {vs : Array Value} {el : TypeId} (hg : G[g]? = some ⟨gen, .row sz l⟩) (her : ρ[g]? = some er) (hb : er.blk = some b)
    (hs : Step ρ w ρ w') (hoth : ∀ b', b' < w.heap.size → b' ≠ b → w'.heap[b']? = w.heap[b']?) (hh : w'.heap[b]? = some (.cells vs el (0, 0))) (hl : l'.length = l.length) (hsz : ∀ x ∈ l', x.length = sz) (hcap : er.cap * sz ≤ vs.size)
    (hel : ∀ (N : Nat → Prop) (i j : Nat) (x : List PV) (pv : PV), l'[i]? = some x → x[j]? = some pv → RV N w' [] pv (vs.getD (i * sz + j) undef)) : HRel N0 lv ρ (G.set g ⟨gen, .row sz l'⟩) w' := by
  have hown : Own ρ b := own_of her hb
  obtain ⟨h0, h1, h2, h3, h4, h5⟩ := H.at hg her
  have hU := H.upd hg her (.refl _) (o' := ⟨gen, .row sz l'⟩) (w' := w') (by rw [set_same her]; exact hs)
    (fun g' e1 b1 hne h4 h5 => hoth b1 (H.bnd b1 (.inr (own_of h4 h5))) (fun hbb => hne (H.inj g' g e1 er b h4 her (hbb ▸ h5) hb)))
    (fun b1 hb1 => by
      rw [hb] at hb1
      cases hb1
      exact ⟨Nat.lt_of_lt_of_le (H.bnd b (.inr hown)) hs.size, fun hN => H.dis b hN hown, fun g' e1 hne h4 h5 => hne (H.inj g' g e1 er b h4 her h5 hb)⟩)
    (fun m hm hgm => by
      rw [set_same her]
      refine ⟨h0, by rw [hl]; exact h1, by rw [hl]; exact h2, hsz, h4, fun b1 hb1 => ?_⟩
      obtain ⟨q1, _⟩ := h5 b1 hb1
      have hbb : b1 = b := by rw [hb] at hb1; exact (Option.some.inj hb1).symm
      subst hbb
      exact ⟨q1, vs, el, hh, hcap, fun i j x pv hi hj => hel _ i j x pv hi hj⟩)
  rwa [set_same her] at hU

/-- A callee's one new row. -/
theorem HRel.row1 (H : HRel N0 lv ρ [] w) {w' : World} (hB : Below w.heap.size w w') {b cap sz : Nat} {l : List (List PV)} {vs : Array Value} {el : TypeId} (hb : w.heap.size ≤ b) (hh : w'.heap[b]? = some (.cells vs el (0, 0))) (hc : l.length ≤ cap)
    (hsz : ∀ x ∈ l, x.length = sz) (hcap : cap * sz ≤ vs.size) (hel : ∀ (N : Nat → Prop) (i j : Nat) (x : List PV) (pv : PV), l[i]? = some x → x[j]? = some pv → RV N w' [] pv (vs.getD (i * sz + j) undef)) :
    Step ρ w [⟨1, l.length, some b, some ⟨b, 0, none⟩, cap⟩] w' ∧ LLe ρ [⟨1, l.length, some b, some ⟨b, 0, none⟩, cap⟩] ∧ HRel N0 lv [⟨1, l.length, some b, some ⟨b, 0, none⟩, cap⟩] [⟨1, .row sz l⟩] w' := by
  have hl : ρ = [] := List.eq_nil_of_length_eq_zero H.len
  subst hl
  have hown : ∀ {b'}, Own [⟨1, l.length, some b, some ⟨b, 0, none⟩, cap⟩] b' → b' = b := fun {b'} ⟨e, he, hb'⟩ => by
    simp only [List.mem_cons, List.not_mem_nil, or_false] at he
    subst he
    exact (Option.some.inj hb').symm
  have hlt : b < w'.heap.size := (Array.getElem?_eq_some_iff.1 hh).1
  refine ⟨⟨hB.os, hB.tape, hB.output, hB.size, fun b' hb' _ => hB.block b' hb', fun b' ho => .inr (hown ho ▸ hb)⟩, .nil _, ⟨rfl, ?_, ?_, ?_, ?_, ?_⟩⟩
  · intro g g' e e' b' h1 h2 _ _
    have a1 := (List.getElem?_eq_some_iff.1 h1).1
    have a2 := (List.getElem?_eq_some_iff.1 h2).1
    simp only [List.length_cons, List.length_nil] at a1 a2
    omega
  · intro b' hb'
    rcases hb' with h1 | h1
    · exact Nat.lt_of_lt_of_le (H.bnd b' (.inl h1)) hB.size
    · exact hown h1 ▸ hlt
  · intro b' h1 h2
    have := H.bnd b' (.inl h1)
    have := hown h2
    omega
  · intro m hm
    have := H.lvl m hm
    simp only [List.length_nil, List.length_cons] at *
    omega
  · intro m hm g o e hgm ho he
    have a1 := (List.getElem?_eq_some_iff.1 ho).1
    simp only [List.length_cons, List.length_nil] at a1
    have hg0 : g = 0 := by omega
    subst hg0
    simp only [List.getElem?_cons_zero, Option.some.injEq] at ho he
    subst ho; subst he
    refine ⟨rfl, rfl, hc, hsz, (fun h => by cases h), fun b' hb' => ?_⟩
    cases hb'
    exact ⟨rfl, vs, el, hh, hcap, fun i j x pv hi hj => hel _ i j x pv hi hj⟩

theorem int_of {N : Nat → Prop} {x : Int} {v : Value} (h : RV N w ρ (.val (.int .i64 x)) v) : v = .int .i64 x := by cases h; rfl

theorem sort_ok {f : FuncId} (hfn : ∃ fn, P.funcs[f]? = some fn ∧ (fn.name == "runtime.NumGoroutine") = false ∧ fn.body.isNone = false)
    (hS : ∀ (blk off cap : Nat) (zs : List Int) (w : World), Sort.Holds (Value.int .i64) w blk off zs.toArray → blk < w.heap.size → zs.length < 4611686018427387904 →
      Calls P f #[.slice (some ⟨blk, off, none⟩) zs.length cap] w fun e w' => e = .returned (.tuple #[]) ∧ ∃ n os, w' = Sort.grow (Sort.putRow (Value.int .i64) (Sort.ahead w n) blk off (zs.mergeSort fun x y => decide (x ≤ y)).toArray) os)
    (hN : ∀ (p : Option Addr) (cap : Nat) (w : World), Calls P f #[.slice p 0 cap] w fun e w' => e = .returned (.tuple #[]) ∧ w' = w) :
    CallOk P (fun f' args G => if f' = f then sortG args G else none) := by
  intro f' args G r G' h
  dsimp only at h
  by_cases hf : f' = f
  case neg => rw [if_neg hf] at h; cases h
  rw [if_pos hf] at h
  subst hf
  refine ⟨hfn, fun N0 lv ρ w vs H hsz ha => ?_⟩
  have arr : ∀ {k : Nat}, args.length = k → vs.size = k := fun h => hsz.trans h
  have one : args.length = 1 → vs = #[vs.getD 0 undef] := fun h => by
    have := arr h
    apply Array.ext
    · simpa using this
    · intro i h1 h2
      have : i = 0 := by simp at h2; omega
      subst this
      simp [Array.getD, h1]
  have rt : ∀ {ρ' w'}, RV (Pr N0 ρ') w' ρ' (.tup []) (.tuple #[]) := fun {ρ' w'} => .tup rfl fun j pv hj => by simp at hj
  have none_ : ∀ (p : Option Addr) (cap : Nat), vs = #[.slice p 0 cap] → ∀ {G2}, G2 = G → Calls P f' vs w fun en w' => ∃ v ρ', en = .returned v ∧ Step ρ w ρ' w' ∧ LLe ρ ρ' ∧ HRel N0 lv ρ' G2 w' ∧ RV (Pr N0 ρ') w' ρ' (.tup []) v := fun p cap hv G2 hG => by
    subst hG
    rw [hv]
    refine (hN p cap w).mono fun en w' ⟨h1, h2⟩ => ?_
    subst h2
    exact ⟨_, ρ, h1, .refl _ _, .refl _, H, rt⟩
  unfold sortG at h
  split at h
  · rename_i g gen n
    split at h
    · rename_i gen' l hg
      split at h
      · rename_i hc
        obtain ⟨rfl, rfl, hn⟩ := hc
        split at h
        · rename_i zs hz
          simp only [Option.some.injEq, Prod.mk.injEq] at h
          obtain ⟨rfl, rfl⟩ := h
          obtain rfl := intsOf_spec hz
          have hlen : (rowI zs).length = zs.length := by simp
          have hn2 : zs.length < 2 ^ 62 := hlen ▸ hn
          have h0 := ha 0 _ rfl
          have hone := one rfl
          generalize vs.getD 0 undef = v at h0 hone
          subst hone
          cases h0 with
          | own e he hge hne hv =>
            obtain ⟨q1, q2, q3, q4, q5, q6⟩ := H.at hg he
            have hvv := hv q1.symm q2
            subst hvv
            rw [hlen] at *
            cases hb : e.blk with
            | none =>
              have := q5 hb
              have hz0 : zs = [] := List.eq_nil_of_length_eq_zero (by omega)
              subst hz0
              refine none_ e.ad e.cap rfl ?_
              rw [show rowI (sortInts []) = rowI [] by simp [sortInts]]
              obtain ⟨g1, g2⟩ := List.getElem?_eq_some_iff.1 hg
              rw [← g2]
              exact List.set_getElem_self g1
            | some b =>
              obtain ⟨had, us, el, hh, hcap, hr⟩ := q6 b hb
              rw [had]
              have hbl : b < w.heap.size := (Array.getElem?_eq_some_iff.1 hh).1
              have hcells : ∀ i (hi : i < zs.length), us.getD i undef = .int .i64 zs[i] := fun i hi => by
                have := hr i 0 [.val (.int .i64 zs[i])] _ (by simp [hi]) rfl
                simpa using int_of this
              have hus : zs.length ≤ us.size := by omega
              have hH : Sort.Holds (Value.int .i64) w b 0 zs.toArray := fun j hj => by
                simp only [List.size_toArray] at hj
                have h1 := hcells j hj
                have h2 := cell_of hh (off := j) (by omega)
                rw [h1] at h2
                refine ⟨?_, ?_⟩
                · rw [Nat.zero_add, h2]
                  simp [hj]
                · simp [World.frozen?, hh]
              refine (hS b 0 e.cap zs w hH hbl hn2).mono fun en w' ⟨h1, n, os, h2⟩ => ?_
              have hw : ∀ b', b' < w.heap.size → w'.heap[b']? = (w.heap.modify b (Sort.onCells (Sort.putCells (Value.int .i64) 0 (sortInts zs).toArray)))[b']? := fun b' hb' => by
                rw [h2]
                show ((w.heap.modify b _) ++ os)[b']? = _
                rw [Array.getElem?_append_left (by simpa using hb')]
                rfl
              have hoth : ∀ b', b' < w.heap.size → b' ≠ b → w'.heap[b']? = w.heap[b']? := fun b' hb' hne => by
                rw [hw b' hb', Array.getElem?_modify, if_neg (Ne.symm hne)]
              have hhb : w'.heap[b]? = some (.cells (Sort.putCells (Value.int .i64) 0 (sortInts zs).toArray us) el (0, 0)) := by
                rw [hw b hbl, Array.getElem?_modify, if_pos rfl, hh]
                rfl
              have hst : Step ρ w ρ w' := by
                refine ⟨?_, ?_, ?_, ?_, fun b' hb' hno => hoth b' hb' fun h => hno (h ▸ own_of he hb), fun _ h => .inl h⟩
                · rw [h2]; rfl
                · rw [h2]; rfl
                · rw [h2]; rfl
                · rw [h2]; simp [Sort.ahead]
              refine ⟨_, ρ, h1, hst, .refl _, ?_, rt⟩
              refine H.setRow hg he hb hst hoth hhb (by simp [sortInts]) (fun x hx => ?_) (by simpa [Sort.putCells] using hcap) fun N i j x pv hi hj => ?_
              · obtain ⟨z, _, rfl⟩ := List.mem_map.1 hx
                rfl
              · obtain ⟨rfl, z, hz2, rfl⟩ := rowI_get hi hj
                have hil : i < (sortInts zs).length := (List.getElem?_eq_some_iff.1 hz2).1
                have hil2 : i < zs.length := by simpa [sortInts] using hil
                have hge2 : (sortInts zs)[i] = z := (List.getElem?_eq_some_iff.1 hz2).2
                have : (Sort.putCells (Value.int .i64) 0 (sortInts zs).toArray us).getD (i * 1 + 0) undef = .int .i64 z := by
                  have hsz2 : i < us.size := by omega
                  simp [Sort.putCells, Array.getD, hsz2, hil, hge2]
                rw [this]
                exact .val
        · cases h
      · cases h
    · cases h
  · simp only [Option.some.injEq, Prod.mk.injEq] at h
    obtain ⟨rfl, rfl⟩ := h
    have h0 := ha 0 _ rfl
    have hone := one rfl
    generalize vs.getD 0 undef = v at h0 hone
    cases h0 with
    | emp A => exact none_ A 0 hone rfl
  · simp only [Option.some.injEq, Prod.mk.injEq] at h
    obtain ⟨rfl, rfl⟩ := h
    have h0 := ha 0 _ rfl
    have hone := one rfl
    generalize vs.getD 0 undef = v at h0 hone
    cases h0 with
    | nil A c => exact none_ A c hone rfl
  · cases h

theorem coll_ok {f it : FuncId} {t : TypeId} (hfn : ∃ fn, P.funcs[f]? = some fn ∧ (fn.name == "runtime.NumGoroutine") = false ∧ fn.body.isNone = false)
    (hS : ∀ (b o : Nat) (A : Option Addr) (c : Nat) (zs : List Int) (w : World), b < w.heap.size → w.cell? ⟨b, o, none⟩ = some (.slice A zs.length c) →
      (zs ≠ [] → ∃ b' o', A = some ⟨b', o', none⟩ ∧ b' < w.heap.size ∧ ∀ i, i < zs.length → w.cell? ⟨b', o' + i, none⟩ = some (.int .i64 (zs[i]?.getD 0))) → zs.length * 8 ≤ 140737488351232 →
      Calls P f #[.func (.func it) #[] #[.pointer (some ⟨b, o, none⟩)]] w fun e w' => ∃ v, e = .returned v ∧ w'.ownsRow w.heap.size t 1 v zs.length (zs.map (Value.int .i64)) ∧ (zs = [] → v = .slice none 0 0) ∧ Below w.heap.size w w') :
    CallOk P (fun f' args G => if f' = f then collG it args G else none) := by
  intro f' args G r G' h
  dsimp only at h
  by_cases hf : f' = f
  case neg => rw [if_neg hf] at h; cases h
  rw [if_pos hf] at h
  subst hf
  refine ⟨hfn, fun N0 lv ρ w vs H hsz ha => ?_⟩
  unfold collG at h
  split at h
  case h_2 => cases h
  rename_i it' l
  split at h
  case isFalse => cases h
  rename_i hc
  obtain ⟨rfl, hfit⟩ := hc
  split at h
  case h_2 => cases h
  rename_i zs hz
  obtain rfl := intsOf_spec hz
  have hlen : (rowI zs).length = zs.length := by simp
  rw [hlen] at hfit
  have hone : vs = #[vs.getD 0 undef] := by
    have : vs.size = 1 := hsz
    apply Array.ext
    · simpa using this
    · intro i h1 h2
      have : i = 0 := by simp at h2; omega
      subst this
      simp [Array.getD, h1]
  have h0 := ha 0 _ rfl
  generalize vs.getD 0 undef = v at h0 hone
  subst hone
  cases h0 with
  | @clo _ _ _ us hl he =>
    have h1 := he 0 _ rfl
    have hus : us = #[us.getD 0 undef] := by
      have : us.size = 1 := hl
      apply Array.ext
      · simpa using this
      · intro i h1 h2
        have : i = 0 := by simp at h2; omega
        subst this
        simp [Array.getD, h1]
    generalize us.getD 0 undef = u at h1 hus
    subst hus
    cases h1 with
    | «at» b o f hN hb hcl hr =>
      have h2 := hcl 0 (by simp)
      have h3 := hr 0 _ rfl
      generalize f 0 = sv at h2 h3
      cases h3 with
      | row A c f2 hc2 hs2 hA2 hr2 =>
        rw [hlen] at h2
        refine (hS b o A c zs w hb h2 (fun hne => ?_) (by omega)).mono fun en w' ⟨v, h4, h5, hnil, h6⟩ => ?_
        · obtain ⟨b', o', e1, _, e3, e4⟩ := hA2 (by simpa using hne)
          refine ⟨b', o', e1, e3, fun i hi => ?_⟩
          have h7 := e4 i 0 (by simpa using hi) (by omega)
          have h8 := hr2 i 0 [.val (.int .i64 zs[i])] _ (by simp [hi]) rfl
          rw [Nat.mul_one, Nat.add_zero] at h7
          rw [h7, int_of h8]
          simp [hi]
        · by_cases hz0 : zs = []
          · subst hz0
            rw [if_pos rfl] at h
            simp only [Option.some.injEq, Prod.mk.injEq] at h
            obtain ⟨rfl, rfl⟩ := h
            obtain rfl := hnil rfl
            exact ⟨_, ρ, h4, Step.below h6, .refl _, H.step_same h6, .emp _⟩
          · rw [if_neg hz0] at h
            simp only [Option.some.injEq, Prod.mk.injEq] at h
            obtain ⟨rfl, rfl⟩ := h
            rcases h5.2 with ⟨_, hz1⟩ | ⟨gb, cap, cur, rfl, hbase, hgb, r1, r2, r3, r4⟩
            · exact absurd (List.eq_nil_of_length_eq_zero hz1) hz0
            · have hcz : ∀ i (hi : i < zs.length), cur.getD i undef = .int .i64 zs[i] := fun i hi => by
                have h9 : (cur.toList.take (zs.length * 1))[i]? = some (.int .i64 zs[i]) := by rw [r4]; simp [hi]
                rw [List.getElem?_take, if_pos (by omega)] at h9
                have h10 : i < cur.size := by omega
                simp [Array.getD, h10] at h9 ⊢
                exact h9
              obtain ⟨k1, k2, k3⟩ := H.row1 (l := rowI zs) (sz := 1) h6 hbase hgb (by simpa using r1) (fun x hx => by obtain ⟨z, _, rfl⟩ := List.mem_map.1 hx; rfl) (by omega) fun N i j x pv hi hj => by
                obtain ⟨rfl, z, hz2, rfl⟩ := rowI_get hi hj
                have hil : i < zs.length := (List.getElem?_eq_some_iff.1 hz2).1
                have hge2 : zs[i] = z := (List.getElem?_eq_some_iff.1 hz2).2
                rw [Nat.mul_one, Nat.add_zero, hcz i hil, hge2]
                exact .val
              refine ⟨_, _, h4, k1, k2, k3, .own ⟨1, (rowI zs).length, some gb, some ⟨gb, 0, none⟩, cap⟩ rfl (Nat.le_refl _) (fun _ => Nat.le_refl _) fun _ _ => ?_⟩
              rw [hlen]
end
end Go.Proofs.Ythmlfonbfnmalaa.Sh
