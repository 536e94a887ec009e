/- A run of the program over values without memory, and that what it says holds of the program's own run. No condition. -/
import Derived.Test.YthmlfonbfnmalaaSh6
import Derived.Still
import Derived.Laws.MakeOwn
namespace Go.Proofs.Ythmlfonbfnmalaa.Sh
open Go.RowKit
set_option linter.unusedVariables false
set_option linter.unusedSimpArgs false

/-! ### Calls -/
/-- No rows and no addresses at all. -/
def scalV : PV → Bool
  | .val _ => true
  | .agg cs => cs.all fun c => match c with | .val _ => true | _ => false
  | .tup vs => vs.all fun v => match v with | .val _ => true | _ => false
  | _ => false
/-- A ghost's row as a row; the rest as it is. -/
def seal1 (G : List GO) : PV → Option PV
  | .own g gen n => (rowOf G (.own g gen n)).map fun r => .row r.1 r.2
  | .mp g gen => match mapOf G (.mp g gen) with
    | some (s, l) => if (l.all fun e => pureV e.2) = true then some (.mpv s l) else none
    | none => none
  | v => some v
def sealArg (G : List GO) : PV → Option PV
  | .agg cs => (cs.mapM (seal1 G)).map .agg
  | v => seal1 G v
def isOwn : PV → Bool
  | .own .. => true
  | .mp .. => true
  | _ => false
def hasOwn : PV → Bool
  | .agg cs => cs.any isOwn
  | v => isOwn v

/-- The numbers of ghost blocks, by so many more. -/
def shift1 (k : Nat) : PV → PV
  | .own g gen n => .own (k + g) gen n
  | .mp g gen => .mp (k + g) gen
  | v => v
def shiftR (k : Nat) : PV → PV
  | .agg cs => .agg (cs.map (shift1 k))
  | .tup cs => .tup (cs.map (shift1 k))
  | v => shift1 k v
def ownFlat : PV → Bool
  | .own .. => true
  | .mp .. => true
  | v => flat v
/-- A value out of ghost rows and of what knows no ghost block. -/
def keptV : PV → Bool
  | .agg cs => cs.all ownFlat
  | .tup cs => cs.all ownFlat
  | v => ownFlat v
def isRowG (o : GO) : Bool := match o.c with | .row _ _ => true | .map _ l => l.all (fun e => pureV e.2) | _ => false

def callP (cx : Cx) (dr : Bool) (f : FuncId) (args : List PV) (G : List GO) : Option (PV × List GO) :=
  match args.mapM (sealArg G) with
  | some as' => if as'.all pureV = true then (match cx.call f as' [] with
      | some (r, []) => if pureV r = true ∧ (args.all (fun v => !hasOwn v) = true ∨ scalV r = true) then some (r, G) else none
      | some (r, G2) => if dr = false ∧ keptV r = true ∧ G2.all isRowG = true ∧ args.all (fun v => !hasOwn v) = true then some (shiftR G.length r, G ++ G2) else none
      | none => if dr = true then none else cx.call f args G)
      else if dr = true then none else cx.call f args G
  | none => none

/-- Has its result a ghost block of its own? -/
def slotted (cx : Cx) (d : Option Nat) : Bool := match d with | some t => (slotIx 0 cx.slots t).isSome | none => false
/-- A callee's one ghost block, put into the result's. -/
def putC (cx : Cx) (G : List GO) (d : Option Nat) : Option (PV × List GO) → Option (PV × List GO)
  | some (r, []) => if pureV r = true then some (r, G) else none
  | some (.own 0 gen n, [o]) => if gen = o.gen ∧ isRowG o = true then (match newAt cx G d o.c with
    | some (g, gen', G') => some (.own g gen' n, G')
    | none => none) else none
  | some (.mp 0 gen, [o]) => if gen = o.gen ∧ isRowG o = true then (match newAt cx G d o.c with
    | some (g, gen', G') => some (.mp g gen', G')
    | none => none) else none
  | _ => none
def callS (cx : Cx) (f : FuncId) (args : List PV) (G : List GO) (d : Option Nat) : Option (PV × List GO) :=
  if args.all (fun v => !hasOwn v) = true ∧ args.all pureV = true then putC cx G d (cx.call f args []) else none
def callPS (cx : Cx) (dr : Bool) (f : FuncId) (args : List PV) (G : List GO) (d : Option Nat) : Option (PV × List GO) :=
  if slotted cx d = true then callS cx f args G d else callP cx dr f args G

def opR (cx : Cx) (dr : Bool) (o : Oper) (e : Operand → PV) (G : List GO) : Option (PV × List GO) :=
  match o.op with
  | .box _ x => match cellsOf G (e x) with
    | some xs => match newAt cx G o.dst (.box xs) with
      | some (g, gen, G') => some (.box g gen 0, G')
      | none => none
    | none => none
  | .alloc t => match zeroOf cx.P t with
    | some z => match newAt cx G o.dst (.box (z.cells.toList.map cv)) with
      | some (g, gen, G') => some (.box g gen 0, G')
      | none => none
    | none => none
  | .store t x y => match cellsOf G (e y) with
    | some xs => if szOf cx.P t = some xs.length then (storeG cx.base G (e x) xs).map fun G' => (.val undef, G') else none
    | none => none
  | .assign x => match e x with
    | .emp => match cx.P.underlying o.type with
      | some (.slice el) => match szOf cx.P el with
        | some sz => match newAt cx G o.dst (.row sz []) with
          | some (g, gen, G') => some (.own g gen 0, G')
          | none => some (.emp, G)
        | none => none
      | _ => some (.emp, G)
    | v => some (v, G)
  | .call ⟨.builtin .append, args, ts⟩ => appOp cx G o.dst e args.toList ts.toList
  | .makeMap t none => match cx.P.underlying t with
    | some (.map kt _) => match shapeT cx.P kt with
      | some s => match newAt cx G o.dst (.map s []) with
        | some (g, gen, G') => some (.mp g gen, G')
        | none => none
      | none => none
    | _ => none
  | .mapUpdate t m k x => match cx.P.underlying t with
    | some (.map kt _) => (updM cx.P cx.base kt G (e m) (keyV (e k)) (e x)).map fun G' => (.val undef, G')
    | _ => none
  | .insert t m k x => match cx.P.underlying t with
    | some (.map kt _) => (updM cx.P cx.base kt G (e m) (keyV (e k)) (e x)).map fun G' => (.val undef, G')
    | _ => none
  | .call ⟨.builtin .delete, args, ts⟩ => match args.toList, ts.toList with
    | [m, k], [t, _] => match cx.P.underlying t with
      | some (.map kt _) => (strikeM cx.P kt G (e m) (keyV (e k))).map fun G' => (.tup [], G')
      | _ => none
    | _, _ => none
  | .makeSlice t l c => match cx.P.underlying t, e l, e c with
    | some (.slice el), .val (.int _ n), .val (.int _ n') => match elOf cx.P el with
      | some (sz, by_, zs) => if n = n' ∧ 0 ≤ n ∧ n ≤ 2 ^ 62 ∧ n.toNat * by_ ≤ 2 ^ 47 ∧ 0 < sz then (match newAt cx G o.dst (.row sz (List.replicate n.toNat (zs.map cv))) with
        | some (g, gen, G') => some (.own g gen n.toNat, G')
        | none => none) else none
      | none => none
    | _, _, _ => none
  | .call ⟨.value f, args, _⟩ => match e f with
    | .clo fid cs => callPS cx dr fid (args.toList.map e ++ cs) G o.dst
    | _ => none
  | op => (valOp cx.P cx.E e G op).map fun v => (v, G)

/-- What is asked of the callees. -/
def CallOk (P : Program) (call : FuncId → List PV → List GO → Option (PV × List GO)) : Prop :=
  ∀ (f : FuncId) (args : List PV) (G : List GO) (r : PV) (G' : List GO), call f args G = some (r, G') → (∃ fn, P.funcs[f]? = some fn ∧ (fn.name == "runtime.NumGoroutine") = false ∧ fn.body.isNone = false) ∧
    ∀ (N0 : Nat → Prop) (lv : List Nat) (ρ : List RR) (w : World) (vs : Array Value), HRel N0 lv ρ G w → vs.size = args.length → (∀ (j : Nat) (pv : PV), args[j]? = some pv → RV (Pr N0 ρ) w ρ pv (vs.getD j undef)) →
      Calls P f vs w fun en w' => ∃ v ρ', en = .returned v ∧ Step ρ w ρ' w' ∧ LLe ρ ρ' ∧ HRel N0 lv ρ' G' w' ∧ RV (Pr N0 ρ') w' ρ' r v

section
variable {P : Program} {N0 : Nat → Prop} {lv : List Nat} {ρ : List RR} {G : List GO} {w : World}

theorem RV.mono {N N' : Nat → Prop} (hN : ∀ b, N' b → N b) {ρ : List RR} {q : PV} {v : Value} (h : RV N w ρ q v) : RV N' w ρ q v := by
  induction h with
  | bad => exact .bad
  | val => exact .val
  | agg hl _ ih => exact .agg hl ih
  | tup hl _ ih => exact .tup hl ih
  | clo hl _ ih => exact .clo hl ih
  | row A c f hc hz hA _ ih => exact .row A c f hc hz (fun hne => let ⟨b, o, h1, h2, h3, h4⟩ := hA hne; ⟨b, o, h1, fun h => h2 (hN b h), h3, h4⟩) ih
  | «at» b o f h1 hb hc _ ih => exact .at b o f (fun h => h1 (hN b h)) hb hc ih
  | emp A => exact .emp A
  | nil A c => exact .nil A c
  | mp e h1 h2 h3 => exact .mp e h1 h2 h3
  | mpv b es clock kvs h1 h2 h3 h4 h5 _ ih => exact .mpv b es clock kvs (fun h => h1 (hN b h)) h2 h3 h4 h5 ih
  | box e h1 h2 h3 => exact .box e h1 h2 h3
  | own e h1 h2 h3 h4 => exact .own e h1 h2 h3 h4
  | elt e h1 h2 h3 h4 => exact .elt e h1 h2 h3 h4

theorem scal_any {N N' : Nat → Prop} {w' : World} {ρ ρ' : List RR} {q : PV} {v : Value} (hf : scalV q = true) (h : RV N w ρ q v) : RV N' w' ρ' q v := by
  cases h with
  | val => exact .val
  | agg hl he =>
    refine .agg hl fun j pv hj => ?_
    have h1 := List.all_eq_true.1 hf pv (List.mem_of_getElem? hj)
    have h2 := he j pv hj
    split at h1
    · cases h2; exact .val
    · cases h1
  | tup hl he =>
    refine .tup hl fun j pv hj => ?_
    have h1 := List.all_eq_true.1 hf pv (List.mem_of_getElem? hj)
    have h2 := he j pv hj
    split at h1
    · cases h2; exact .val
    · cases h1
  | _ => simp [scalV] at hf

theorem noOwn_seal1 {q q' : PV} (h : seal1 G q = some q') (ho : isOwn q = false) : q' = q := by
  cases q <;> simp_all [seal1, isOwn]

theorem mapM_same {f : PV → Option PV} {p : PV → Bool} (hp : ∀ {x y : PV}, f x = some y → p x = false → y = x) : ∀ {l l' : List PV}, l.mapM f = some l' → l.any p = false → l' = l
  | [], l', h, _ => by simp at h; exact h.symm ▸ rfl
  | x :: l, l', h, ha => by
    simp only [List.mapM_cons, Option.bind_eq_bind, Option.pure_def, Option.bind_eq_some_iff, Option.some.injEq] at h
    obtain ⟨y, hy, ys, hys, rfl⟩ := h
    simp only [List.any_cons, Bool.or_eq_false_iff] at ha
    rw [hp hy ha.1, mapM_same hp hys ha.2]

theorem noOwn_seal {q q' : PV} (h : sealArg G q = some q') (ho : hasOwn q = false) : q' = q := by
  cases q with
  | agg cs =>
    simp only [sealArg, Option.map_eq_some_iff] at h
    obtain ⟨cs', h1, rfl⟩ := h
    rw [mapM_same (p := isOwn) (fun h1 h2 => noOwn_seal1 h1 h2) h1 ho]
  | _ => simp only [sealArg] at h; exact noOwn_seal1 (G := G) h ho

theorem mapM_get {f : PV → Option PV} : ∀ {l l' : List PV}, l.mapM f = some l' → l'.length = l.length ∧ ∀ (j : Nat) (y : PV), l'[j]? = some y → ∃ x, l[j]? = some x ∧ f x = some y
  | [], l', h => by simp at h; subst h; exact ⟨rfl, fun j y hj => by simp at hj⟩
  | x :: l, l', h => by
    simp only [List.mapM_cons, Option.bind_eq_bind, Option.pure_def, Option.bind_eq_some_iff, Option.some.injEq] at h
    obtain ⟨y, hy, ys, hys, rfl⟩ := h
    obtain ⟨h1, h2⟩ := mapM_get hys
    refine ⟨by simp [h1], fun j z hj => ?_⟩
    cases j with
    | zero => simp at hj; subst hj; exact ⟨x, rfl, hy⟩
    | succ j => exact h2 j z (by simpa using hj)

theorem seal1_sim (H : HRel N0 lv ρ G w) {q q' : PV} {v : Value} (h : seal1 G q = some q') (hv : RV (Pr N0 ρ) w ρ q v) : RV (fun _ => False) w ρ q' v := by
  have h2 := hv.mono (N' := fun _ => False) (fun _ h => h.elim)
  cases q with
  | own g gen n =>
    simp only [seal1, Option.map_eq_some_iff] at h
    obtain ⟨⟨sz, l⟩, hr, rfl⟩ := h
    obtain ⟨A, c, f, rfl, hR⟩ := rowOf_sim H hr hv
    exact .row A c f hR.cap hR.szs (fun hne => let ⟨b, o, h1, h3, h4⟩ := hR.cell hne; ⟨b, o, h1, fun h => h, h3, h4⟩) fun i j x pv hi hj => (hR.el i j x pv hi hj).mono (fun _ h => h.elim)
  | mp g gen =>
    simp only [seal1] at h
    split at h
    · rename_i s l hm
      split at h
      · rename_i hf
        simp only [Option.some.injEq] at h
        subst h
        obtain ⟨b, es, clock, kvs, rfl, h3, h4, h5, h6, h7⟩ := mapOf_sim H hm hv
        exact .mpv b es clock kvs (fun h => h) h3 h4 h5 h6 fun i k k' pv v hi hk => (pure_weak (List.all_eq_true.1 hf (k, pv) (List.mem_of_getElem? hi)) (h7 i k k' pv v hi hk)).mono (fun _ h => h.elim)
      · cases h
    · cases h
  | _ => simp only [seal1, Option.some.injEq] at h; subst h; exact h2

theorem sealArg_sim (H : HRel N0 lv ρ G w) {q q' : PV} {v : Value} (h : sealArg G q = some q') (hv : RV (Pr N0 ρ) w ρ q v) : RV (fun _ => False) w ρ q' v := by
  cases q with
  | agg cs =>
    simp only [sealArg, Option.map_eq_some_iff] at h
    obtain ⟨cs', h1, rfl⟩ := h
    obtain ⟨h2, h3⟩ := mapM_get h1
    cases hv with
    | agg hl he =>
      refine .agg (by rw [hl, h2]) fun j pv hj => ?_
      obtain ⟨x, hx, hs⟩ := h3 j pv hj
      exact seal1_sim H hs (he j x hx)
  | _ => simp only [sealArg] at h; exact seal1_sim H h hv

theorem HRel.nothing (N : Nat → Prop) (h : ∀ b, N b → b < w.heap.size) : HRel N [] [] [] w where
  len := rfl
  inj := fun g g' e e' b h => by simp at h
  bnd := fun b hb => hb.elim (h b) fun ⟨e, he, _⟩ => by simp at he
  dis := fun b _ ⟨e, he, _⟩ => by simp at he
  lvl := fun m hm => by simp at hm
  obj := fun m _ g o e _ h1 _ => by simp at h1

theorem own_app {ρ ρ2 : List RR} {b : Nat} : Own (ρ ++ ρ2) b ↔ Own ρ b ∨ Own ρ2 b := by
  constructor
  · rintro ⟨e, he, hb⟩
    rcases List.mem_append.1 he with h | h
    · exact .inl ⟨e, h, hb⟩
    · exact .inr ⟨e, h, hb⟩
  · rintro (⟨e, he, hb⟩ | ⟨e, he, hb⟩)
    · exact ⟨e, List.mem_append_left _ he, hb⟩
    · exact ⟨e, List.mem_append_right _ he, hb⟩
theorem LLe.app (ρ ρ' : List RR) : LLe ρ (ρ ++ ρ') := fun g e he => ⟨e, by rw [List.getElem?_append_left (List.getElem?_eq_some_iff.1 he).1]; exact he, .refl _⟩

/-- Ghost rows that a callee hands over. -/
theorem HRel.join (H : HRel N0 lv ρ G w) {ρ2 : List RR} {G2 : List GO} {w' : World} (hs : Step [] w ρ2 w') (H2 : HRel (Pr N0 ρ) [] ρ2 G2 w') (hr : G2.all isRowG = true) :
    Step ρ w (ρ ++ ρ2) w' ∧ HRel N0 lv (ρ ++ ρ2) (G ++ G2) w' := by
  have hB : Below w.heap.size w w' := ⟨hs.os, hs.tape, hs.output, hs.size, fun b hb => hs.keep b hb (fun ⟨e, he, _⟩ => by simp at he)⟩
  have hst : Step ρ w (ρ ++ ρ2) w' := ⟨hs.os, hs.tape, hs.output, hs.size, fun b hb _ => hB.block b hb, fun b hb => by
    rcases own_app.1 hb with h | h
    · exact .inl h
    · rcases hs.new b h with ⟨e, he, _⟩ | h
      · simp at he
      · exact .inr h⟩
  have hP : ∀ b, Pr N0 (ρ ++ ρ2) b ↔ Pr (Pr N0 ρ) ρ2 b := fun b => by
    unfold Pr
    rw [own_app]
    constructor
    · rintro (h | h | h)
      · exact .inl (.inl h)
      · exact .inl (.inr h)
      · exact .inr h
    · rintro ((h | h) | h)
      · exact .inl h
      · exact .inr (.inl h)
      · exact .inr (.inr h)
  refine ⟨hst, by simp [H.len, H2.len], ?_, fun b hb => H2.bnd b ((hP b).1 hb), fun b hb ho => ?_, fun m hm => ?_, ?_⟩
  · intro g g' e e' b h1 h2 h3 h4
    rcases Nat.lt_or_ge g ρ.length with k1 | k1 <;> rcases Nat.lt_or_ge g' ρ.length with k2 | k2
    · rw [List.getElem?_append_left k1] at h1
      rw [List.getElem?_append_left k2] at h2
      exact H.inj g g' e e' b h1 h2 h3 h4
    · rw [List.getElem?_append_left k1] at h1
      rw [List.getElem?_append_right k2] at h2
      exact absurd (own_of h2 h4) (H2.dis b (.inr (own_of h1 h3)))
    · rw [List.getElem?_append_right k1] at h1
      rw [List.getElem?_append_left k2] at h2
      exact absurd (own_of h1 h3) (H2.dis b (.inr (own_of h2 h4)))
    · rw [List.getElem?_append_right k1] at h1
      rw [List.getElem?_append_right k2] at h2
      have := H2.inj _ _ e e' b h1 h2 h3 h4
      omega
  · rcases own_app.1 ho with h | h
    · exact H.dis b hb h
    · exact H2.dis b (.inl hb) h
  · have := H.lvl m hm
    rw [List.length_append]
    omega
  · intro m hm g o e hg ho he
    rcases Nat.lt_or_ge g G.length with k1 | k1
    · have k2 : g < ρ.length := by rw [H.len]; exact k1
      rw [List.getElem?_append_left k1] at ho
      rw [List.getElem?_append_left k2] at he
      rcases hm with rfl | hm
      · have h9 := H.obj G.length (.inl rfl) g o e k1 ho he
        refine h9.step hst ?_ fun b hb => hB.block b (H.bnd b (.inr (own_of he hb)))
        rw [← H.len, List.take_length, List.take_of_length_le (by simp [H.len, H2.len])]
        exact .app _ _
      · have h9 := H.obj m (.inr hm) g o e hg ho he
        refine h9.step hst ?_ fun b hb => hB.block b (H.bnd b (.inr (own_of he hb)))
        have := H.lvl m hm
        rw [List.take_append_of_le_length (by rw [H.len]; exact this)]
        exact .refl _
    · rcases hm with rfl | hm
      · rw [List.getElem?_append_right k1] at ho
        rw [List.getElem?_append_right (by rw [H.len]; exact k1), H.len] at he
        have h9 := H2.at ho he
        have hrow := List.all_eq_true.1 hr o (List.mem_of_getElem? ho)
        obtain ⟨p1, p2⟩ := h9
        refine ⟨p1, ?_⟩
        unfold isRowG at hrow
        revert p2 hrow
        cases o.c with
        | none => intro h; cases h
        | box cs => intro h; cases h
        | row sz l =>
          rintro _ ⟨q1, q2, q3, q4, q5⟩
          refine ⟨q1, q2, q3, q4, fun b hb => ?_⟩
          obtain ⟨had, vs, el, r1, r2, r3⟩ := q5 b hb
          exact ⟨had, vs, el, r1, r2, fun i j x pv hi hj => (r3 i j x pv hi hj).mono fun b hb => (hP b).1 hb⟩
        | map s l =>
          rintro hrow ⟨q1, b, es, clock, kvs, q2, q3, q4, q5, q6, q7⟩
          exact ⟨q1, b, es, clock, kvs, q2, q3, q4, q5, q6, fun i k k' pv v hi hk => ((pure_weak (List.all_eq_true.1 hrow (k, pv) (List.mem_of_getElem? hi)) (q7 i k k' pv v hi hk)).mono fun b hb => (hP b).1 hb).weak _⟩
      · have := H.lvl m hm
        omega

theorem shift1_sim {ρ2 : List RR} {w' : World} {q : PV} {v : Value} (hf : ownFlat q = true) (h : RV (Pr (Pr N0 ρ) ρ2) w' ρ2 q v) : RV (Pr N0 (ρ ++ ρ2)) w' (ρ ++ ρ2) (shift1 ρ.length q) v := by
  have hP : ∀ b, Pr N0 (ρ ++ ρ2) b → Pr (Pr N0 ρ) ρ2 b := fun b hb => by
    unfold Pr at *
    rw [own_app] at hb
    rcases hb with h | h | h
    · exact .inl (.inl h)
    · exact .inl (.inr h)
    · exact .inr h
  cases h with
  | own e h1 h2 h3 h4 => exact .own e (by rw [List.getElem?_append_right (by omega)]; simpa using h1) h2 h3 h4
  | mp e h1 h2 h3 => exact .mp e (by rw [List.getElem?_append_right (by omega)]; simpa using h1) h2 h3
  | mpv b es clock kvs h1 h2 h3 h4 h5 h6 => exact ((RV.mpv b es clock kvs h1 h2 h3 h4 h5 h6 : RV (Pr (Pr N0 ρ) ρ2) w' [] _ _).mono hP).weak _
  | bad => exact .bad
  | val => exact .val
  | emp A => exact .emp A
  | nil A c => exact .nil A c
  | row A c f hc hz hA h => exact ((RV.row A c f hc hz hA h : RV (Pr (Pr N0 ρ) ρ2) w' [] _ _).mono hP).weak _
  | «at» b o f hN hb hc h => exact ((RV.at b o f hN hb hc h : RV (Pr (Pr N0 ρ) ρ2) w' [] _ _).mono hP).weak _
  | _ => simp [ownFlat, flat] at hf

theorem shiftR_sim {ρ2 : List RR} {w' : World} {q : PV} {v : Value} (hf : keptV q = true) (h : RV (Pr (Pr N0 ρ) ρ2) w' ρ2 q v) : RV (Pr N0 (ρ ++ ρ2)) w' (ρ ++ ρ2) (shiftR ρ.length q) v := by
  cases q with
  | agg cs =>
    cases h with
    | agg hl he =>
      refine .agg (by simp [hl]) fun j pv hj => ?_
      simp only [List.getElem?_map, Option.map_eq_some_iff] at hj
      obtain ⟨x, hx, rfl⟩ := hj
      exact shift1_sim (List.all_eq_true.1 hf x (List.mem_of_getElem? hx)) (he j x hx)
  | tup cs =>
    cases h with
    | tup hl he =>
      refine .tup (by simp [hl]) fun j pv hj => ?_
      simp only [List.getElem?_map, Option.map_eq_some_iff] at hj
      obtain ⟨x, hx, rfl⟩ := hj
      exact shift1_sim (List.all_eq_true.1 hf x (List.mem_of_getElem? hx)) (he j x hx)
  | _ => simp only [keptV] at hf; simp only [shiftR]; exact shift1_sim hf h

/-- A callee's one row or map, put into a ghost block of the caller. -/
theorem HRel.put {cx : Cx} (H : HRel N0 lv ρ G w) (hlv : ∀ m ∈ lv, m ≤ cx.base) {ρ2 : List RR} {o2 : GO} {w' : World} (hs : Step [] w ρ2 w') (H2 : HRel (Pr N0 ρ) [] ρ2 [o2] w') (hr : isRowG o2 = true)
    {d : Option Nat} {g gen : Nat} {G' : List GO} (h : newAt cx G d o2.c = some (g, gen, G')) : ∃ e2 ρ', ρ2 = [e2] ∧ o2.gen = e2.gen ∧ Step ρ w ρ' w' ∧ LLe ρ ρ' ∧ HRel N0 lv ρ' G' w' ∧ ρ'[g]? = some ⟨gen, e2.len, e2.blk, e2.ad, e2.cap⟩ := by
  have hB : Below w.heap.size w w' := ⟨hs.os, hs.tape, hs.output, hs.size, fun b hb => hs.keep b hb (fun ⟨e, he, _⟩ => by simp at he)⟩
  obtain ⟨e2, rfl⟩ : ∃ e2, ρ2 = [e2] := by
    have := H2.len
    match ρ2, this with
    | [e2], _ => exact ⟨e2, rfl⟩
  obtain ⟨hg2, p2⟩ := H2.at (g := 0) rfl rfl
  have hO2 : ∀ b, e2.blk = some b → Own [e2] b := fun b hb => ⟨e2, by simp, hb⟩
  have hnew : ∀ b, e2.blk = some b → w.heap.size ≤ b := fun b hb => by
    rcases hs.new b (hO2 b hb) with ⟨e, he, _⟩ | h9
    · simp at he
    · exact h9
  unfold newAt at h
  split at h
  · rename_i t
    split at h
    · rename_i k hk
      split at h
      · rename_i ob hob
        simp only [Option.some.injEq, Prod.mk.injEq] at h
        obtain ⟨rfl, rfl, rfl⟩ := h
        have hgl : cx.base + k < ρ.length := by rw [H.len]; exact (List.getElem?_eq_some_iff.1 hob).1
        have he := List.getElem?_eq_getElem hgl
        have hgen := (H.at hob he).1
        have hle : RLe ρ[cx.base + k] ⟨ob.gen + 1, e2.len, e2.blk, e2.ad, e2.cap⟩ := .inl (by simp; omega)
        have hs' : Step ρ w (ρ.set (cx.base + k) ⟨ob.gen + 1, e2.len, e2.blk, e2.ad, e2.cap⟩) w' := (Step.below hB).set fun b hb => .inr (hnew b hb)
        have hP : ∀ b, Pr N0 (ρ.set (cx.base + k) ⟨ob.gen + 1, e2.len, e2.blk, e2.ad, e2.cap⟩) b → Pr (Pr N0 ρ) [e2] b := fun b hb => by
          rcases hb with hb | hb
          · exact .inl (.inl hb)
          · rcases own_set hb with h9 | h9
            · exact .inl (.inr h9)
            · exact .inr (hO2 b h9)
        refine ⟨e2, _, rfl, hg2, hs', .set he hle, ?_, by rw [List.getElem?_set_self hgl]⟩
        refine H.upd hob he hle hs' (fun g' e1 b _ h1 h2 => hB.block b (H.bnd b (.inr (own_of h1 h2)))) (fun b hb => ?_) fun m hm hgm => ?_
        · exact ⟨H2.bnd b (.inr (hO2 b hb)), fun hn => H2.dis b (.inl hn) (hO2 b hb), fun g' e1 _ h1 h2 => H2.dis b (.inr (own_of h1 h2)) (hO2 b hb)⟩
        · refine ⟨rfl, ?_⟩
          unfold isRowG at hr
          revert p2 hr
          cases o2.c with
          | none => intro h; cases h
          | box cs => intro h; cases h
          | row sz l =>
            rintro _ ⟨q1, q2, q3, q4, q5⟩
            refine ⟨q1, q2, q3, q4, fun b hb => ?_⟩
            obtain ⟨had, vs, el, r1, r2, r3⟩ := q5 b hb
            exact ⟨had, vs, el, r1, r2, fun i j x pv hi hj => (r3 i j x pv hi hj).mono hP⟩
          | map s l =>
            rintro hrow ⟨q1, b, es, clock, kvs, q2, q3, q4, q5, q6, q7⟩
            exact ⟨q1, b, es, clock, kvs, q2, q3, q4, q5, q6, fun i k k' pv v hi hk => ((pure_weak (List.all_eq_true.1 hrow (k, pv) (List.mem_of_getElem? hi)) (q7 i k k' pv v hi hk)).mono hP).weak _⟩
      · cases h
    · cases h
  · cases h

/-- What a callee that knows no ghost block does, as its caller sees it. -/
theorem callP_sim {cx : Cx} {dr : Bool} (hC : CallOk P cx.call) (H : HRel N0 lv ρ G w) {f : FuncId} {args : List PV} {r : PV} {G' : List GO} (h : callP cx dr f args G = some (r, G')) {vs : Array Value}
    (hl : vs.size = args.length) (hv : ∀ (j : Nat) (pv : PV), args[j]? = some pv → RV (Pr N0 ρ) w ρ pv (vs.getD j undef)) :
    (∃ fn, P.funcs[f]? = some fn ∧ (fn.name == "runtime.NumGoroutine") = false ∧ fn.body.isNone = false) ∧
    Calls P f vs w fun en w' => ∃ v ρ', en = .returned v ∧ Step ρ w ρ' w' ∧ LLe ρ ρ' ∧ HRel N0 lv ρ' G' w' ∧ RV (Pr N0 ρ') w' ρ' r v := by
  unfold callP at h
  split at h
  · rename_i as' has
    obtain ⟨k1, k2⟩ := mapM_get has
    split at h
    · rename_i hpure
      split at h
      · rename_i r1 hcall
        split at h
        · rename_i hc
          simp only [Option.some.injEq, Prod.mk.injEq] at h
          obtain ⟨rfl, rfl⟩ := h
          obtain ⟨hfn, hC1⟩ := hC f as' [] r1 [] hcall
          refine ⟨hfn, ?_⟩
          obtain ⟨hpr, hcase⟩ := hc
          have below : ∀ {ρ' : List RR} {w' : World}, Step [] w ρ' w' → Below w.heap.size w w' := fun hs =>
            ⟨hs.os, hs.tape, hs.output, hs.size, fun b hb => hs.keep b hb (fun ⟨e, he, _⟩ => by simp at he)⟩
          by_cases hno : args.all (fun v => !hasOwn v) = true
          · have hsame : as' = args := mapM_same (p := hasOwn) (fun h1 h2 => noOwn_seal h1 h2) has (by
              rw [Bool.eq_false_iff]
              intro h9
              obtain ⟨x, hx, hx2⟩ := List.any_eq_true.1 h9
              have := List.all_eq_true.1 hno x hx
              simp [hx2] at this)
            subst hsame
            have := hC1 (Pr N0 ρ) [] [] w vs (HRel.nothing _ H.bnd) hl (fun j pv hj =>
              ((pure_weak (List.all_eq_true.1 hpure pv (List.mem_of_getElem? hj)) (hv j pv hj))).mono fun b hb => hb.elim id fun ⟨e, he, _⟩ => by simp at he)
            refine this.mono fun en w' ⟨v, ρ', he, hs, _, hH, hr⟩ => ?_
            have hB := below hs
            have hρ : ρ' = [] := List.eq_nil_of_length_eq_zero hH.len
            subst hρ
            exact ⟨v, ρ, he, Step.below hB, .refl _, H.step_same hB, ((hr.weak ρ)).mono fun b hb => .inl hb⟩
          · have hsc : scalV r1 = true := by rcases hcase with h9 | h9; exact absurd h9 hno; exact h9
            have := hC1 (fun _ => False) [] [] w vs (HRel.nothing _ (fun b hb => hb.elim)) (by rw [hl, k1]) (fun j pv hj => by
              obtain ⟨x, hx, hsx⟩ := k2 j pv hj
              exact ((pure_weak (List.all_eq_true.1 hpure pv (List.mem_of_getElem? hj)) (sealArg_sim H hsx (hv j x hx)))).mono fun b hb => hb.elim id fun ⟨e, he, _⟩ => by simp at he)
            refine this.mono fun en w' ⟨v, ρ', he, hs, _, hH, hr⟩ => ?_
            have hB := below hs
            exact ⟨v, ρ, he, Step.below hB, .refl _, H.step_same hB, scal_any hsc hr⟩
        · cases h
      · rename_i r1 G2 hne hcall
        split at h
        · rename_i hc
          simp only [Option.some.injEq, Prod.mk.injEq] at h
          obtain ⟨rfl, rfl⟩ := h
          obtain ⟨hfn, hC1⟩ := hC f as' [] r1 G2 hcall
          refine ⟨hfn, ?_⟩
          obtain ⟨_, hpr, hrows, hno⟩ := hc
          have hsame : as' = args := mapM_same (p := hasOwn) (fun h1 h2 => noOwn_seal h1 h2) has (by
            rw [Bool.eq_false_iff]
            intro h9
            obtain ⟨x, hx, hx2⟩ := List.any_eq_true.1 h9
            have := List.all_eq_true.1 hno x hx
            simp [hx2] at this)
          subst hsame
          have := hC1 (Pr N0 ρ) [] [] w vs (HRel.nothing _ H.bnd) hl (fun j pv hj =>
            ((pure_weak (List.all_eq_true.1 hpure pv (List.mem_of_getElem? hj)) (hv j pv hj))).mono fun b hb => hb.elim id fun ⟨e, he, _⟩ => by simp at he)
          refine this.mono fun en w' ⟨v, ρ2, he, hs, _, hH, hr⟩ => ?_
          obtain ⟨k1, k2⟩ := H.join hs hH hrows
          refine ⟨v, ρ ++ ρ2, he, k1, .app _ _, k2, ?_⟩
          rw [← H.len]
          exact shiftR_sim hpr hr
        · cases h
      · split at h
        · cases h
        · obtain ⟨hfn, hC1⟩ := hC f args G r G' h
          exact ⟨hfn, hC1 N0 lv ρ w vs H hl hv⟩
    · split at h
      · cases h
      · obtain ⟨hfn, hC1⟩ := hC f args G r G' h
        exact ⟨hfn, hC1 N0 lv ρ w vs H hl hv⟩
  · cases h

theorem callS_sim {cx : Cx} (hC : CallOk P cx.call) (H : HRel N0 lv ρ G w) (hlv : ∀ m ∈ lv, m ≤ cx.base) {f : FuncId} {args : List PV} {d : Option Nat} {r : PV} {G' : List GO} (h : callS cx f args G d = some (r, G')) {vs : Array Value}
    (hl : vs.size = args.length) (hv : ∀ (j : Nat) (pv : PV), args[j]? = some pv → RV (Pr N0 ρ) w ρ pv (vs.getD j undef)) :
    (∃ fn, P.funcs[f]? = some fn ∧ (fn.name == "runtime.NumGoroutine") = false ∧ fn.body.isNone = false) ∧
    Calls P f vs w fun en w' => ∃ v ρ', en = .returned v ∧ Step ρ w ρ' w' ∧ LLe ρ ρ' ∧ HRel N0 lv ρ' G' w' ∧ RV (Pr N0 ρ') w' ρ' r v := by
  unfold callS at h
  split at h
  · rename_i hc
    obtain ⟨_, hpure⟩ := hc
    have call : ∀ {r1 : PV} {G2 : List GO}, cx.call f args [] = some (r1, G2) → (∃ fn, P.funcs[f]? = some fn ∧ (fn.name == "runtime.NumGoroutine") = false ∧ fn.body.isNone = false) ∧
        Calls P f vs w fun en w' => ∃ v ρ2, en = .returned v ∧ Step [] w ρ2 w' ∧ LLe [] ρ2 ∧ HRel (Pr N0 ρ) [] ρ2 G2 w' ∧ RV (Pr (Pr N0 ρ) ρ2) w' ρ2 r1 v := fun hcall => by
      obtain ⟨hfn, hC1⟩ := hC f args [] _ _ hcall
      exact ⟨hfn, hC1 (Pr N0 ρ) [] [] w vs (HRel.nothing _ H.bnd) hl (fun j pv hj =>
        ((pure_weak (List.all_eq_true.1 hpure pv (List.mem_of_getElem? hj)) (hv j pv hj))).mono fun b hb => hb.elim id fun ⟨e, he, _⟩ => by simp at he)⟩
    generalize hq : cx.call f args [] = q at h
    unfold putC at h
    split at h
    · split at h
      · rename_i hp
        simp only [Option.some.injEq, Prod.mk.injEq] at h
        obtain ⟨rfl, rfl⟩ := h
        obtain ⟨hfn, hC1⟩ := call hq
        refine ⟨hfn, hC1.mono fun en w' ⟨v, ρ', he, hs, _, hH, hr⟩ => ?_⟩
        have hB : Below w.heap.size w w' := ⟨hs.os, hs.tape, hs.output, hs.size, fun b hb => hs.keep b hb (fun ⟨e, he, _⟩ => by simp at he)⟩
        have hρ : ρ' = [] := List.eq_nil_of_length_eq_zero hH.len
        subst hρ
        exact ⟨v, ρ, he, Step.below hB, .refl _, H.step_same hB, (hr.weak ρ).mono fun b hb => .inl hb⟩
      · cases h
    · split at h
      · rename_i hp
        split at h
        · rename_i g gen' G2 hn
          simp only [Option.some.injEq, Prod.mk.injEq] at h
          obtain ⟨rfl, rfl⟩ := h
          obtain ⟨hfn, hC1⟩ := call hq
          refine ⟨hfn, hC1.mono fun en w' ⟨v, ρ2, he, hs, _, hH, hr⟩ => ?_⟩
          obtain ⟨e2, ρ', h2, hg, k1, k2, k3, k4⟩ := H.put hlv hs hH hp.2 hn
          subst h2
          refine ⟨v, ρ', he, k1, k2, k3, ?_⟩
          cases hr with
          | own e h1 h3 h5 h6 =>
            simp only [List.getElem?_cons_zero, Option.some.injEq] at h1
            subst h1
            have hgg := hg.symm.trans hp.1.symm
            exact .own _ k4 (Nat.le_refl _) (fun _ => h5 hgg) (fun _ hn2 => h6 hgg hn2)
        · cases h
      · cases h
    · split at h
      · rename_i hp
        split at h
        · rename_i g gen' G2 hn
          simp only [Option.some.injEq, Prod.mk.injEq] at h
          obtain ⟨rfl, rfl⟩ := h
          obtain ⟨hfn, hC1⟩ := call hq
          refine ⟨hfn, hC1.mono fun en w' ⟨v, ρ2, he, hs, _, hH, hr⟩ => ?_⟩
          obtain ⟨e2, ρ', h2, hg, k1, k2, k3, k4⟩ := H.put hlv hs hH hp.2 hn
          subst h2
          refine ⟨v, ρ', he, k1, k2, k3, ?_⟩
          cases hr with
          | mp e h1 h3 h5 =>
            simp only [List.getElem?_cons_zero, Option.some.injEq] at h1
            subst h1
            have hgg := hg.symm.trans hp.1.symm
            exact .mp _ k4 (Nat.le_refl _) (fun _ hn2 => h5 hgg hn2)
        · cases h
      · cases h
    · cases h
  · cases h
theorem callPS_sim {cx : Cx} {dr : Bool} (hC : CallOk P cx.call) (H : HRel N0 lv ρ G w) (hlv : ∀ m ∈ lv, m ≤ cx.base) {f : FuncId} {args : List PV} {d : Option Nat} {r : PV} {G' : List GO} (h : callPS cx dr f args G d = some (r, G')) {vs : Array Value}
    (hl : vs.size = args.length) (hv : ∀ (j : Nat) (pv : PV), args[j]? = some pv → RV (Pr N0 ρ) w ρ pv (vs.getD j undef)) :
    (∃ fn, P.funcs[f]? = some fn ∧ (fn.name == "runtime.NumGoroutine") = false ∧ fn.body.isNone = false) ∧
    Calls P f vs w fun en w' => ∃ v ρ', en = .returned v ∧ Step ρ w ρ' w' ∧ LLe ρ ρ' ∧ HRel N0 lv ρ' G' w' ∧ RV (Pr N0 ρ') w' ρ' r v := by
  unfold callPS at h
  split at h
  · exact callS_sim hC H hlv h hl hv
  · exact callP_sim hC H h hl hv

theorem wrap_val {o : Oper} {a : Act} {pv : PV} (h : Gets P N0 ρ w o a.eval pv) (H : HRel N0 lv ρ G w) : OpSim P N0 lv ρ w o a pv G := OpSim.gets H h

theorem sim_makeSlice {cx : Cx} (H : HRel N0 lv ρ G w) (hlv : ∀ m ∈ lv, m ≤ cx.base) {o : Oper} {a : Act} {t el : TypeId} {l c : Operand} {k k' : IntKind} {n : Int} {sz by_ : Nat} {zs : List Value} (ho : o.op = .makeSlice t l c) (hu : P.underlying t = some (.slice el)) (hel : elOf P el = some (sz, by_, zs))
    (hl : a.eval l = .int k n) (hc : a.eval c = .int k' n) (h0 : 0 ≤ n) (h1 : n ≤ 2 ^ 62) (h2 : n.toNat * by_ ≤ 2 ^ 47) (h3 : 0 < sz) {g gen : Nat} {G' : List GO} (h : newAt cx G o.dst (.row sz (List.replicate n.toNat (zs.map cv))) = some (g, gen, G')) :
    OpSim P N0 lv ρ w o a (.own g gen n.toNat) G' := by
  obtain ⟨i, z, hi, hs, hb, hz, hzs, hzl⟩ := elOf_spec hel
  have hsz : zs.length = sz := by rw [← hzl, Array.length_toList, hzs]
  have hsize : (madeCells z.cells (n.toNat * i.size)).size = n.toNat * sz := by simp [madeCells, hs]
  obtain ⟨ρ', hst, hl', hH, hg⟩ := H.new hlv h (w' := w.alloc (.cells (madeCells z.cells (n.toNat * i.size)) el)) (nb := .cells (madeCells z.cells (n.toNat * i.size)) el) (len := n.toNat) (cap := n.toNat) (ad := some ⟨w.heap.size, 0, none⟩) rfl rfl rfl rfl (fun ρ' hs' hl => by
    refine ⟨rfl, by simp, by simp, (fun x hx => by rw [List.eq_of_mem_replicate hx]; simp [hsz]), (fun h => by cases h), fun b hb => ?_⟩
    cases hb
    refine ⟨rfl, madeCells z.cells (n.toNat * i.size), el, heap_new w _, Nat.le_of_eq hsize.symm, fun i' j x pv hi hj => ?_⟩
    obtain ⟨hin, hx⟩ := List.getElem?_eq_some_iff.1 hi
    simp only [List.length_replicate] at hin
    rw [List.getElem_replicate] at hx
    subst hx
    simp only [List.getElem?_map, Option.map_eq_some_iff] at hj
    obtain ⟨u, hu', rfl⟩ := hj
    have hjs : j < sz := by rw [← hsz]; exact (List.getElem?_eq_some_iff.1 hu').1
    have hlt : i' * sz + j < n.toNat * sz := idx_lt hin hjs (Nat.le_refl _) (Nat.le_refl _)
    have hmod : (i' * sz + j) % sz = j := by rw [Nat.mul_comm, Nat.mul_add_mod, Nat.mod_eq_of_lt hjs]
    have hu2 : z.cells[j]? = some u := by rw [← hzl] at hu'; simpa using hu'
    have : (madeCells z.cells (n.toNat * i.size)).getD (i' * sz + j) undef = u := by
      simp only [madeCells, hs, Array.getD_eq_getD_getElem?, Array.getElem?_map]
      rw [Array.getElem?_eq_getElem (by simpa using hlt)]
      simp only [Array.getElem_range, Option.map_some, Option.getD_some]
      rw [hzs, hmod, getElem!_def, hu2]
    rw [this]
    exact RV.ofCv u)
  have hbn : (i.bytes : Int) * n ≤ 281474976710656 := by
    have h4 : ((n.toNat * i.bytes : Nat) : Int) ≤ 2 ^ 47 := by rw [hb]; exact_mod_cast h2
    have h5 : ((n.toNat : Nat) : Int) = n := Int.toNat_of_nonneg h0
    rw [Int.natCast_mul, h5, Int.mul_comm] at h4
    omega
  refine OpSim.run (n := .value (.slice (some ⟨w.heap.size, 0, none⟩) n.toNat n.toNat)) (v := .slice (some ⟨w.heap.size, 0, none⟩) n.toNat n.toNat) ?_ (.inl rfl) hst hl' hH (.own _ hg (Nat.le_refl _) (fun _ => Nat.le_refl _) fun _ _ => rfl)
  unfold execOp
  simp only [ho, hl, hc]
  rw [Sem.run_bind, run_make w t el i z hu hi hz k k' n n h0 (Int.le_refl _) hbn (by omega)]
  rfl
theorem opR_sim {cx : Cx} {dr : Bool} (hP : cx.P = P) (hE : EqOk P cx.E) (hC : CallOk P cx.call) (H : HRel N0 lv ρ G w) (hlv : ∀ m ∈ lv, m ≤ cx.base) {o : Oper} {a : Act} {e : Operand → PV}
    (he : ∀ x, RV (Pr N0 ρ) w ρ (e x) (a.eval x)) {r : PV} {G' : List GO} (h : opR cx dr o e G = some (r, G')) : OpSim P N0 lv ρ w o a r G' := by
  subst hP
  unfold opR at h
  split at h
  · rename_i t x ho
    split at h
    · rename_i xs hx
      split at h
      · rename_i g gen G2 hn
        simp only [Option.some.injEq, Prod.mk.injEq] at h
        obtain ⟨rfl, rfl⟩ := h
        exact sim_box H hlv he ho hx hn
      · cases h
    · cases h
  · rename_i t ho
    split at h
    · rename_i z hz
      split at h
      · rename_i g gen G2 hn
        simp only [Option.some.injEq, Prod.mk.injEq] at h
        obtain ⟨rfl, rfl⟩ := h
        exact sim_alloc H hlv ho hz hn
      · cases h
    · cases h
  · rename_i t x y ho
    split at h
    · rename_i xs hx
      split at h
      · rename_i hs
        simp only [Option.map_eq_some_iff] at h
        obtain ⟨G2, hst, hh⟩ := h
        cases hh
        exact sim_store H hlv he ho hx hs hst
      · cases h
    · cases h
  · rename_i x ho
    have hmv : OpSim cx.P N0 lv ρ w o a (e x) G := OpSim.gets H (sim_move he (.inr ho))
    split at h
    · rename_i hx
      split at h
      · rename_i el hu
        split at h
        · rename_i sz hsz
          split at h
          · rename_i g gen G2 hn
            simp only [Option.some.injEq, Prod.mk.injEq] at h
            obtain ⟨rfl, rfl⟩ := h
            have hv := he x
            rw [hx] at hv
            generalize hs : a.eval x = u at hv
            cases hv
            rename_i A
            obtain ⟨ρ', hst, hl, hH, hg⟩ := H.newNone hlv hn A
            refine OpSim.run (n := .value (.slice A 0 0)) (v := .slice A 0 0) ?_ (.inl rfl) hst hl hH (.own _ hg (Nat.le_refl _) (fun _ => Nat.le_refl _) fun _ _ => rfl)
            unfold execOp
            simp [ho, hs]
          · simp only [Option.some.injEq, Prod.mk.injEq] at h
            obtain ⟨rfl, rfl⟩ := h
            rw [hx] at hmv
            exact hmv
        · cases h
      · simp only [Option.some.injEq, Prod.mk.injEq] at h
        obtain ⟨rfl, rfl⟩ := h
        rw [hx] at hmv
        exact hmv
    · simp only [Option.some.injEq, Prod.mk.injEq] at h
      obtain ⟨rfl, rfl⟩ := h
      exact hmv
  · rename_i args ts ho
    exact sim_app rfl H hlv he ho h
  · rename_i t ho
    split at h
    · split at h
      · split at h
        · rename_i hn
          simp only [Option.some.injEq, Prod.mk.injEq] at h
          obtain ⟨rfl, rfl⟩ := h
          exact sim_makeMap H hlv ho hn
        · cases h
      · cases h
    · cases h
  · rename_i t m k x ho
    split at h
    · rename_i kt et hu
      simp only [Option.map_eq_some_iff] at h
      obtain ⟨G2, h1, hh⟩ := h
      cases hh
      exact sim_mapUpdate H hlv he (.inl ho) hu h1
    · cases h
  · rename_i t m k x ho
    split at h
    · rename_i kt et hu
      simp only [Option.map_eq_some_iff] at h
      obtain ⟨G2, h1, hh⟩ := h
      cases hh
      exact sim_mapUpdate H hlv he (.inr ho) hu h1
    · cases h
  · rename_i args ts ho
    split at h
    · rename_i m k t tk ha ht
      split at h
      · rename_i kt et hu
        simp only [Option.map_eq_some_iff] at h
        obtain ⟨G2, h1, hh⟩ := h
        cases hh
        obtain rfl : args = #[m, k] := by rw [← Array.toList_inj]; simpa using ha
        obtain rfl : ts = #[t, tk] := by rw [← Array.toList_inj]; simpa using ht
        exact sim_delete H he ho hu h1
      · cases h
    · cases h
  · rename_i t l c ho
    split at h
    · rename_i el k n k' n' hu hl hc
      split at h
      · rename_i sz by_ zs hel
        split at h
        · rename_i hcnd
          obtain ⟨rfl, h0, h1, h2, h3⟩ := hcnd
          split at h
          · rename_i g gen G2 hn
            simp only [Option.some.injEq, Prod.mk.injEq] at h
            obtain ⟨rfl, rfl⟩ := h
            have hlv' := he l
            have hcv' := he c
            rw [hl] at hlv'
            rw [hc] at hcv'
            generalize hq1 : a.eval l = u1 at hlv'
            generalize hq2 : a.eval c = u2 at hcv'
            cases hlv'
            cases hcv'
            exact sim_makeSlice H hlv ho hu hel hq1 hq2 h0 h1 h2 h3 hn
          · cases h
        · cases h
      · cases h
    · cases h
  · rename_i f args ts ho
    split at h
    · rename_i fid cs hf
      have hfv := he f
      rw [hf] at hfv
      generalize hs : a.eval f = u at hfv
      cases hfv with
      | clo hl hcs =>
        rename_i vs
        obtain ⟨⟨fn, hfn, hname, hbody⟩, hcall⟩ := callPS_sim hC H hlv h (vs := args.map a.eval ++ vs) (by simp [hl]) (fun j pv hj => by
          rcases Nat.lt_or_ge j args.size with h1 | h1
          · rw [List.getElem?_append_left (by simpa using h1)] at hj
            simp only [List.getElem?_map, Option.map_eq_some_iff] at hj
            obtain ⟨x, hx, rfl⟩ := hj
            have hx2 : args[j]? = some x := by simpa using hx
            have : (args.map a.eval ++ vs).getD j undef = a.eval x := by
              simp only [Array.getD_eq_getD_getElem?]
              rw [Array.getElem?_append_left (by simpa using h1)]
              simp [hx2]
            rw [this]
            exact he x
          · rw [List.getElem?_append_right (by simpa using h1)] at hj
            have : (args.map a.eval ++ vs).getD j undef = vs.getD (j - args.size) undef := by
              simp only [Array.getD_eq_getD_getElem?]
              rw [Array.getElem?_append_right (by simpa using h1)]
              simp
            rw [this]
            exact hcs _ pv (by simpa using hj))
        intro K Q hK
        unfold Oper.wp
        have hrun : (execOp a.eval o).run cx.P w = .ok (.enter fid (args.map a.eval ++ vs)) w := by
          unfold execOp
          simp [ho, resolve, hs, Deferred.ofValue, invoke, callFunc, program, Sem.run, hfn]
          rw [if_neg (by simpa using hname), if_neg (fun hh => by rw [hh] at hbody; cases hbody)]
        rw [hrun, Oper.upon_enter]
        refine hcall.mono fun en w' ⟨v, ρ', hen, h1, h2, h3, h4⟩ => ?_
        subst hen
        exact hK v w' ρ' h1 h2 h3 h4
    · cases h
  · rename_i op h1 h2 h3 h4 h5 h6 h7 h8 h9 h10 h11
    simp only [Option.map_eq_some_iff] at h
    obtain ⟨v, hv, hh⟩ := h
    cases hh
    exact OpSim.gets H (valOp_sim (fun _ => rfl) hE H he rfl hv)
end
end Go.Proofs.Ythmlfonbfnmalaa.Sh
