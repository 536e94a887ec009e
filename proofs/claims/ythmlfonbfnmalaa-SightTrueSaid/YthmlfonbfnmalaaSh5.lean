/- A run of the program over values without memory, and that what it says holds of the program's own run. No condition. -/
import Derived.Test.YthmlfonbfnmalaaSh4
import Derived.Deep.AppendSrc
import Derived.Laws.CopyRow
namespace Go.Proofs.Ythmlfonbfnmalaa.Sh
open Go.RowKit
set_option linter.unusedVariables false
set_option linter.unusedSimpArgs false

/-! ### Operations that make or write memory -/
/-- What a function's run is told. -/
structure Cx where
  P : Program
  E : TypeId → Option (List Nat)
  base : Nat
  slots : List Nat
  call : FuncId → List PV → List GO → Option (PV × List GO)
  mask : List Nat

/-- The place of a number in a list. -/
def slotIx : Nat → List Nat → Nat → Option Nat
  | _, [], _ => none
  | k, x :: r, t => if x = t then some k else slotIx (k + 1) r t
def newAt (cx : Cx) (G : List GO) (d : Option Nat) (c : GC) : Option (Nat × Nat × List GO) :=
  match d with
  | some t => match slotIx 0 cx.slots t with
    | some k => match G[cx.base + k]? with
      | some o => some (cx.base + k, o.gen + 1, G.set (cx.base + k) ⟨o.gen + 1, c⟩)
      | none => none
    | none => none
  | none => none

def storeG (base : Nat) (G : List GO) (a : PV) (xs : List PV) : Option (List GO) :=
  match a with
  | .box g gen off => match G[g]? with
    | some ⟨gen', .box cs⟩ => if gen' = gen ∧ off + xs.length ≤ cs.length ∧ (base ≤ g ∨ xs.all flat = true) then some (G.set g ⟨gen, .box (over cs off xs)⟩) else none
    | _ => none
  | .elt g gen n sz i k => match G[g]? with
    | some ⟨gen', .row sz' l⟩ => if gen' = gen ∧ l.length = n ∧ sz' = sz ∧ xs.all flat = true then
        (match l[i]? with
          | some y => if k + xs.length ≤ y.length then some (G.set g ⟨gen, .row sz (l.set i (over y k xs))⟩) else none
          | none => none) else none
    | _ => none
  | _ => none

section
variable {P : Program} {E : TypeId → Option (List Nat)} {N0 : Nat → Prop} {lv : List Nat} {ρ : List RR} {G : List GO} {w : World}

theorem own_set {g : Nat} {e' : RR} {b : Nat} (h : Own (ρ.set g e') b) : Own ρ b ∨ e'.blk = some b := by
  obtain ⟨e, he, hb⟩ := h
  rcases List.mem_or_eq_of_mem_set he with h1 | h1
  · exact .inl ⟨e, h1, hb⟩
  · subst h1; exact .inr hb

theorem Step.set {w' : World} (h : Step ρ w ρ w') {g : Nat} {e' : RR} (hb : ∀ b, e'.blk = some b → Own ρ b ∨ w.heap.size ≤ b) : Step ρ w (ρ.set g e') w' :=
  ⟨h.os, h.tape, h.output, h.size, h.keep, fun b ho => (own_set ho).elim .inl (hb b)⟩

theorem LLe.set {g : Nat} {e e' : RR} (he : ρ[g]? = some e) (h : RLe e e') : LLe ρ (ρ.set g e') := fun k x hx => by
  by_cases hk : k = g
  · subst hk
    rw [he] at hx
    cases hx
    exact ⟨e', by rw [List.getElem?_set_self (List.getElem?_eq_some_iff.1 he).1], h⟩
  · exact ⟨x, by rw [List.getElem?_set_ne (Ne.symm hk)]; exact hx, .refl _⟩

theorem LLe.take {ρ' : List RR} (h : LLe ρ ρ') (m : Nat) : LLe (ρ.take m) (ρ'.take m) := fun g e he => by
  rw [List.getElem?_take] at he
  split at he
  · rename_i hg
    obtain ⟨e', h1, h2⟩ := h g e he
    exact ⟨e', by rw [List.getElem?_take, if_pos hg]; exact h1, h2⟩
  · cases he

/-- One ghost block has changed. -/
theorem HRel.upd (H : HRel N0 lv ρ G w) {g : Nat} {o o' : GO} {e e' : RR} {w' : World} (hg : G[g]? = some o) (he : ρ[g]? = some e) (hle : RLe e e') (hs : Step ρ w (ρ.set g e') w')
    (hk : ∀ g' e1 b, g' ≠ g → ρ[g']? = some e1 → e1.blk = some b → w'.heap[b]? = w.heap[b]?)
    (hn : ∀ b, e'.blk = some b → b < w'.heap.size ∧ ¬ N0 b ∧ ∀ g' e1, g' ≠ g → ρ[g']? = some e1 → e1.blk ≠ some b)
    (ho : ∀ m, (m = G.length ∨ m ∈ lv) → g < m → ObjR (Pr N0 (ρ.set g e')) w' ((ρ.set g e').take m) o' e') : HRel N0 lv (ρ.set g e') (G.set g o') w' where
  len := by simp [H.len]
  inj := fun a a' x x' b h1 h2 h3 h4 => by
    have hgl : g < ρ.length := (List.getElem?_eq_some_iff.1 he).1
    by_cases h5 : a = g <;> by_cases h6 : a' = g
    · rw [h5, h6]
    · subst h5
      rw [List.getElem?_set_self hgl] at h1
      rw [List.getElem?_set_ne (Ne.symm h6)] at h2
      cases h1
      exact absurd h4 ((hn b h3).2.2 a' x' h6 h2)
    · subst h6
      rw [List.getElem?_set_self hgl] at h2
      rw [List.getElem?_set_ne (Ne.symm h5)] at h1
      cases h2
      exact absurd h3 ((hn b h4).2.2 a x h5 h1)
    · rw [List.getElem?_set_ne (Ne.symm h5)] at h1
      rw [List.getElem?_set_ne (Ne.symm h6)] at h2
      exact H.inj a a' x x' b h1 h2 h3 h4
  bnd := fun b hb => by
    rcases hb with hb | hb
    · exact Nat.lt_of_lt_of_le (H.bnd b (.inl hb)) hs.size
    · rcases own_set hb with h1 | h1
      · exact Nat.lt_of_lt_of_le (H.bnd b (.inr h1)) hs.size
      · exact (hn b h1).1
  dis := fun b hb ho' => by
    rcases own_set ho' with h1 | h1
    · exact H.dis b hb h1
    · exact (hn b h1).2.1 hb
  lvl := by simpa using H.lvl
  obj := fun m hm a x y ha hx hy => by
    have hgl : g < ρ.length := (List.getElem?_eq_some_iff.1 he).1
    have hgG : g < G.length := (List.getElem?_eq_some_iff.1 hg).1
    rw [List.length_set] at hm
    by_cases h5 : a = g
    · subst h5
      rw [List.getElem?_set_self hgG] at hx
      rw [List.getElem?_set_self hgl] at hy
      cases hx; cases hy
      exact ho m hm ha
    · rw [List.getElem?_set_ne (Ne.symm h5)] at hx
      rw [List.getElem?_set_ne (Ne.symm h5)] at hy
      exact (H.obj m hm a x y ha hx hy).step hs ((LLe.set he hle).take m) fun b hb => hk a y b h5 hy hb

/-- What an operation is shown to do. -/
def OpSim (P : Program) (N0 : Nat → Prop) (lv : List Nat) (ρ : List RR) (w : World) (o : Oper) (a : Act) (pv : PV) (G' : List GO) : Prop :=
  ∀ (K : Act → World → Prop) (Q : Exit → Act → World → Prop), (∀ v w' ρ', Step ρ w ρ' w' → LLe ρ ρ' → HRel N0 lv ρ' G' w' → RV (Pr N0 ρ') w' ρ' pv v → K (a.put o.dst v) w') → o.wp P a w K Q

theorem OpSim.run {o : Oper} {a : Act} {pv : PV} {G' : List GO} {n : Next} {v : Value} {w' : World} {ρ' : List RR} (hr : (execOp a.eval o).run P w = .ok n w') (hn : n = .value v ∨ (n = .skip ∧ v = undef))
    (hs : Step ρ w ρ' w') (hl : LLe ρ ρ') (hh : HRel N0 lv ρ' G' w') (hv : RV (Pr N0 ρ') w' ρ' pv v) : OpSim P N0 lv ρ w o a pv G' := fun K Q hK => by
  unfold Oper.wp
  rw [hr]
  rcases hn with rfl | ⟨rfl, rfl⟩
  · exact hK v w' ρ' hs hl hh hv
  · exact hK undef w' ρ' hs hl hh hv

theorem HRel.step_same (H : HRel N0 lv ρ G w) {w' : World} (hb : Below w.heap.size w w') : HRel N0 lv ρ G w' where
  len := H.len
  inj := H.inj
  bnd := fun b h => Nat.lt_of_lt_of_le (H.bnd b h) hb.size
  dis := H.dis
  lvl := H.lvl
  obj := fun m hm g o e h1 h2 h3 => (H.obj m hm g o e h1 h2 h3).step (Step.below hb) (.refl _) fun b hb' => hb.block b (H.bnd b (.inr (own_of h3 hb')))

theorem OpSim.gets (H : HRel N0 lv ρ G w) {o : Oper} {a : Act} {pv : PV} (h : Gets P N0 ρ w o a.eval pv) : OpSim P N0 lv ρ w o a pv G := by
  obtain ⟨v, w', hr, hb, hv⟩ := h
  exact OpSim.run hr (.inl rfl) (Step.below hb) (.refl _) (H.step_same hb) hv

/-- A new block for a ghost slot. -/
theorem HRel.new {cx : Cx} (H : HRel N0 lv ρ G w) (hlv : ∀ m ∈ lv, m ≤ cx.base) {d : Option Nat} {c : GC} {g gen : Nat} {G' : List GO} (h : newAt cx G d c = some (g, gen, G')) {vs : Array Value} {el : TypeId} {len cap : Nat} {ad : Option Addr} {w' : World}
    (hw : w'.heap = (w.alloc (.cells vs el)).heap) (hos : w'.os = w.os) (hta : w'.tape = w.tape) (hou : w'.output = w.output)
    (ho : ∀ ρ', Step ρ w ρ' w' → LLe ρ ρ' → ObjR (Pr N0 ρ') w' ρ' ⟨gen, c⟩ ⟨gen, len, some w.heap.size, ad, cap⟩) :
    ∃ ρ', Step ρ w ρ' w' ∧ LLe ρ ρ' ∧ HRel N0 lv ρ' G' w' ∧ ρ'[g]? = some ⟨gen, len, some w.heap.size, ad, cap⟩ := by
  unfold newAt at h
  split at h
  · rename_i t
    split at h
    · rename_i k hk
      split at h
      · rename_i ob hob
        simp only [Option.some.injEq, Prod.mk.injEq] at h
        obtain ⟨rfl, rfl, rfl⟩ := h
        have hgl : cx.base + k < ρ.length := by rw [H.len]; exact (List.getElem?_eq_some_iff.1 hob).1
        have he := List.getElem?_eq_getElem hgl
        have hgen := (H.at hob he).1
        have hsz : w'.heap.size = w.heap.size + 1 := by rw [hw]; simp
        have hB : Below w.heap.size w w' := ⟨hos, hta, hou, by omega, fun b hb => by rw [hw]; exact Below.heap_alloc w _ b hb⟩
        have hle : RLe ρ[cx.base + k] ⟨ob.gen + 1, len, some w.heap.size, ad, cap⟩ := .inl (by simp; omega)
        have hs : Step ρ w (ρ.set (cx.base + k) ⟨ob.gen + 1, len, some w.heap.size, ad, cap⟩) w' := (Step.below hB).set fun b hb => by cases hb; exact .inr (Nat.le_refl _)
        refine ⟨_, hs, .set he hle, ?_, by rw [List.getElem?_set_self hgl]⟩
        refine H.upd hob he hle hs (fun g' e1 b _ h1 h2 => hB.block b (H.bnd b (.inr (own_of h1 h2)))) (fun b hb => ?_) fun m hm hgm => ?_
        · cases hb
          exact ⟨by omega, fun hn => H.fresh (.inl hn), fun g' e1 _ h1 h2 => H.fresh (.inr (own_of h1 h2))⟩
        · rcases hm with rfl | hm
          · rw [← H.len, show ρ.length = (ρ.set (cx.base + k) ⟨ob.gen + 1, len, some w.heap.size, ad, cap⟩).length by simp, List.take_length]
            exact ho _ hs (.set he hle)
          · have := hlv m hm
            omega
      · cases h
    · cases h
  · cases h

theorem sim_box {cx : Cx} (H : HRel N0 lv ρ G w) (hlv : ∀ m ∈ lv, m ≤ cx.base) {o : Oper} {a : Act} {e : Operand → PV} (he : ∀ x, RV (Pr N0 ρ) w ρ (e x) (a.eval x)) {t : TypeId} {x : Operand} (ho : o.op = .box t x)
    {xs : List PV} (hx : cellsOf G (e x) = some xs) {g gen : Nat} {G' : List GO} (h : newAt cx G o.dst (.box xs) = some (g, gen, G')) : OpSim P N0 lv ρ w o a (.box g gen 0) G' := by
  obtain ⟨h1, h2, h3⟩ := cellsOf_sim H hx (he x)
  obtain ⟨ρ', hs, hl, hH, hg⟩ := H.new hlv h (w' := w.alloc (.cells (a.eval x).cells t)) (vs := (a.eval x).cells) (el := t) (len := 0) (cap := 0) (ad := none) rfl rfl rfl rfl (fun ρ' hs hl =>
    ⟨rfl, rfl, w.heap.size, _, t, rfl, heap_new w _, h1, fun j pv hj => (h3 j pv hj).step hs hl⟩)
  refine OpSim.run (n := .value (.pointer (some ⟨w.heap.size, 0, none⟩))) (v := .pointer (some ⟨w.heap.size, 0, none⟩)) ?_ (.inl rfl) hs hl hH (.box _ hg (Nat.le_refl _) fun _ _ => ⟨_, rfl, rfl⟩)
  unfold execOp
  simp [ho, Instr.box, newVar, newRow, newObj, Sem.run]

theorem zero_run {t : TypeId} {z : Value} (hz : zeroOf P t = some z) (w : World) : (zeroValue t).run P w = .ok z w := by
  unfold zeroOf at hz
  cases hi : P.info? t with
  | none => simp [hi] at hz
  | some i =>
    simp only [hi, Option.bind_some] at hz
    simp [zeroValue, typeInfo, program, Sem.run, hi, hz]

theorem sim_alloc {cx : Cx} (H : HRel N0 lv ρ G w) (hlv : ∀ m ∈ lv, m ≤ cx.base) {o : Oper} {a : Act} {t : TypeId} {z : Value} (ho : o.op = .alloc t) (hz : zeroOf P t = some z)
    {g gen : Nat} {G' : List GO} (h : newAt cx G o.dst (.box (z.cells.toList.map cv)) = some (g, gen, G')) : OpSim P N0 lv ρ w o a (.box g gen 0) G' := by
  obtain ⟨ρ', hs, hl, hH, hg⟩ := H.new hlv h (w' := w.alloc (.cells z.cells t)) (vs := z.cells) (el := t) (len := 0) (cap := 0) (ad := none) rfl rfl rfl rfl (fun ρ' hs hl =>
    ⟨rfl, rfl, w.heap.size, _, t, rfl, heap_new w _, by simp, fun j pv hj => by
      simp only [List.getElem?_map, Option.map_eq_some_iff] at hj
      obtain ⟨u, hu, rfl⟩ := hj
      have : z.cells.getD j undef = u := by simp at hu; simp [hu]
      rw [this]
      exact .ofCv u⟩)
  refine OpSim.run (n := .value (.pointer (some ⟨w.heap.size, 0, none⟩))) (v := .pointer (some ⟨w.heap.size, 0, none⟩)) ?_ (.inl rfl) hs hl hH (.box _ hg (Nat.le_refl _) fun _ _ => ⟨_, rfl, rfl⟩)
  unfold execOp
  simp [ho, Instr.alloc, zero_run hz, newVar, newRow, newObj, Sem.run]

/-- Cells written over others. -/
theorem over_sim {R : PV → Value → Prop} {cs xs : List PV} {vs us : Array Value} {off : Nat} (hl : vs.size = cs.length) (hu : us.size = xs.length) (hoff : off + xs.length ≤ cs.length)
    (hv : ∀ (j : Nat) (pv : PV), cs[j]? = some pv → R pv (vs.getD j undef)) (hx : ∀ (j : Nat) (pv : PV), xs[j]? = some pv → R pv (us.getD j undef)) :
    (vs.toList.take off ++ us.toList ++ vs.toList.drop (off + us.toList.length)).toArray.size = (over cs off xs).length ∧
    ∀ (j : Nat) (pv : PV), (over cs off xs)[j]? = some pv → R pv ((vs.toList.take off ++ us.toList ++ vs.toList.drop (off + us.toList.length)).toArray.getD j undef) := by
  refine ⟨by simp [over]; omega, fun j pv hj => ?_⟩
  unfold over at hj
  rcases Nat.lt_or_ge j off with hj1 | hj1
  · rw [List.append_assoc, List.getElem?_append_left (by simp; omega), List.getElem?_take_of_lt hj1] at hj
    have := hv j pv hj
    have e : ((vs.toList.take off ++ us.toList ++ vs.toList.drop (off + us.toList.length)).toArray).getD j undef = vs.getD j undef := by
      simp only [Array.getD_eq_getD_getElem?, List.getElem?_toArray, List.append_assoc]
      rw [List.getElem?_append_left (by simp; omega), List.getElem?_take_of_lt hj1]
      simp
    rw [e]; exact this
  · rw [List.append_assoc, List.getElem?_append_right (by simp; omega)] at hj
    have e0 : ((vs.toList.take off ++ us.toList ++ vs.toList.drop (off + us.toList.length)).toArray).getD j undef = ((us.toList ++ vs.toList.drop (off + us.toList.length))[j - off]?).getD undef := by
      simp only [Array.getD_eq_getD_getElem?, List.getElem?_toArray, List.append_assoc]
      rw [List.getElem?_append_right (by simp; omega)]
      have : min off vs.toList.length = off := by simp; omega
      simp only [List.length_take, this]
    rw [e0]
    have e1 : min off cs.length = off := by omega
    simp only [List.length_take, e1] at hj
    rcases Nat.lt_or_ge (j - off) xs.length with hj2 | hj2
    · rw [List.getElem?_append_left hj2] at hj
      rw [List.getElem?_append_left (by simp; omega)]
      have := hx _ pv hj
      simpa using this
    · rw [List.getElem?_append_right hj2, List.getElem?_drop] at hj
      rw [List.getElem?_append_right (by simp; omega), List.getElem?_drop]
      have := hv _ pv hj
      simp only [Array.length_toList, hu]
      simpa using this

theorem set_same {g : Nat} {e : RR} (he : ρ[g]? = some e) : ρ.set g e = ρ := by
  apply List.ext_getElem?
  intro k
  by_cases hk : k = g
  · subst hk
    rw [List.getElem?_set_self (List.getElem?_eq_some_iff.1 he).1, he]
  · rw [List.getElem?_set_ne (Ne.symm hk)]

theorem setRow_step (H : HRel N0 lv ρ G w) {b : Nat} (hb : Own ρ b) (cs : Array Value) : Step ρ w ρ (w.setRow b cs) :=
  ⟨rfl, rfl, rfl, by simp, fun k hk hn => setRow_other w b k cs (fun h => hn (h ▸ hb)), fun _ h => .inl h⟩

theorem run_storeAt {t : TypeId} {b off : Nat} {vs : Array Value} {el : TypeId} {v : Value} (hh : w.heap[b]? = some (.cells vs el (0, 0))) (hn : szOf P t = some v.cells.size) (hle : off + v.cells.size ≤ vs.size)
    (h1 : ∀ u ∈ v.cells, u.oneCell' = true) :
    (Instr.storeAt t (.pointer (some ⟨b, off, none⟩)) v).run P w = .ok () (w.setRow b (vs.toList.take off ++ v.cells.toList ++ vs.toList.drop (off + v.cells.toList.length)).toArray) := by
  have := run_storeCells_at P b off el v.cells.toList 0 vs w hh (by simpa using hle) (by simpa using h1)
  simp only [Nat.add_zero] at this
  simp [Instr.storeAt, Instr.sureAddr, storeVar, run_size hn, this]

theorem sim_store {base : Nat} (H : HRel N0 lv ρ G w) (hlv : ∀ m ∈ lv, m ≤ base) {o : Oper} {a : Act} {e : Operand → PV} (he : ∀ x, RV (Pr N0 ρ) w ρ (e x) (a.eval x)) {t : TypeId} {x y : Operand} (ho : o.op = .store t x y)
    {xs : List PV} (hx : cellsOf G (e y) = some xs) (hn : szOf P t = some xs.length) {G' : List GO} (h : storeG base G (e x) xs = some G') : OpSim P N0 lv ρ w o a (.val undef) G' := by
  obtain ⟨h1, h2, h3⟩ := cellsOf_sim H hx (he y)
  have hn' : szOf P t = some (a.eval y).cells.size := by rw [h1]; exact hn
  have hax := he x
  generalize hq : e x = q at *
  unfold storeG at h
  split at h
  · rename_i g gen off
    split at h
    · rename_i gen' cs hg
      split at h
      · rename_i hc
        obtain ⟨rfl, hoff, hfl⟩ := hc
        simp only [Option.some.injEq] at h
        subst h
        cases hax with
        | box er her hgen hval =>
          have hO := H.at hg her
          obtain ⟨hO1, hO2, b, vs, el, hb, hh, hz, hr⟩ := hO
          obtain ⟨b', hb', hax⟩ := hval hO1.symm hO2
          rw [hb] at hb'
          cases hb'
          have hown : Own ρ b := own_of her hb
          have hs := setRow_step H hown (vs.toList.take off ++ (a.eval y).cells.toList ++ vs.toList.drop (off + (a.eval y).cells.toList.length)).toArray
          have hU := H.upd hg her (.refl _) (o' := ⟨gen', .box (over cs off xs)⟩) (w' := w.setRow b (vs.toList.take off ++ (a.eval y).cells.toList ++ vs.toList.drop (off + (a.eval y).cells.toList.length)).toArray)
            (by rw [set_same her]; exact hs) (fun g' e1 b1 hne h4 h5 => setRow_other w b b1 _ (fun hbb => hne (H.inj g' g e1 er b h4 her (hbb ▸ h5) hb)))
            (fun b1 hb1 => by
              rw [hb] at hb1
              cases hb1
              exact ⟨by simpa using H.bnd b (.inr hown), fun hN => H.dis b hN hown, fun g' e1 hne h4 h5 => hne (H.inj g' g e1 er b h4 her h5 hb)⟩)
            (fun m hm hgm => by
              rw [set_same her]
              obtain ⟨_, _, b2, vs2, el2, hb2, hh2, hz2, hr2⟩ := H.obj m hm g _ er hgm hg her
              rw [hb] at hb2
              cases hb2
              rw [hh] at hh2
              cases hh2
              have hxs : ∀ (j : Nat) (pv : PV), xs[j]? = some pv → RV (Pr N0 ρ) w (ρ.take m) pv ((a.eval y).cells.getD j undef) := fun j pv hj => by
                rcases hm with rfl | hm
                · rw [← H.len, List.take_length]
                  exact h3 j pv hj
                · have h7 := hlv m hm
                  have h8 : xs.all flat = true := by rcases hfl with h9 | h9; omega; exact h9
                  exact (flat_weak (List.all_eq_true.1 h8 pv (List.mem_of_getElem? hj)) (h3 j pv hj)).weak _
              obtain ⟨k1, k2⟩ := over_sim (R := RV (Pr N0 ρ) w (ρ.take m)) hz h1 hoff hr2 hxs
              exact ⟨hO1, hO2, b, _, el, hb, setRow_heap w b vs _ el _ hh, k1, fun j pv hj => (k2 j pv hj).step hs (.refl _)⟩)
          rw [set_same her] at hU
          refine OpSim.run (n := .skip) (v := undef) ?_ (.inr ⟨rfl, rfl⟩) hs (.refl _) hU .val
          unfold execOp
          simp only [ho, hax]
          rw [Sem.run_bind, run_storeAt hh hn' (by omega) h2]
          rfl
      · cases h
    · cases h
  · rename_i g gen n sz i k
    split at h
    · rename_i gen' sz' l hg
      split at h
      · rename_i hc
        obtain ⟨rfl, rfl, rfl, hfl⟩ := hc
        split at h
        · rename_i yc hy
          split at h
          · rename_i hk
            simp only [Option.some.injEq] at h
            subst h
            cases hax with
            | elt er her hgen hnn hval =>
              obtain ⟨hO1, hO2, hO3, hO4, hO5, hO6⟩ := H.at hg her
              obtain ⟨b, hb, hax⟩ := hval hO1.symm hO2
              obtain ⟨had, vs, el, hh, hz, hr⟩ := hO6 b hb
              have hown : Own ρ b := own_of her hb
              have hil : i < l.length := (List.getElem?_eq_some_iff.1 hy).1
              have hys : yc.length = sz' := hO4 yc (List.mem_of_getElem? hy)
              have hroom : (i + 1) * sz' ≤ vs.size := Nat.le_trans (Nat.mul_le_mul_right _ (by omega)) hz
              rw [Nat.add_mul, Nat.one_mul] at hroom
              generalize hcv : (a.eval y).cells = us at *
              have hvs' : ∀ j, (vs.toList.take (i * sz' + k) ++ us.toList ++ vs.toList.drop (i * sz' + k + us.toList.length)).toArray.getD j undef =
                  if j < i * sz' + k then vs.getD j undef else if j < i * sz' + k + xs.length then us.getD (j - (i * sz' + k)) undef else vs.getD j undef := fun j => by
                simp only [Array.getD_eq_getD_getElem?, List.getElem?_toArray, List.append_assoc]
                split
                · rw [List.getElem?_append_left (by simp; omega), List.getElem?_take_of_lt (by assumption)]; simp
                · rw [List.getElem?_append_right (by simp; omega)]
                  have : min (i * sz' + k) vs.toList.length = i * sz' + k := by simp; omega
                  simp only [List.length_take, this]
                  split
                  · rw [List.getElem?_append_left (by simp; omega)]; simp
                  · rw [List.getElem?_append_right (by simp; omega), List.getElem?_drop]
                    simp only [Array.length_toList, h1]
                    rw [show i * sz' + k + xs.length + (j - (i * sz' + k) - xs.length) = j by omega]
                    simp
              have hs := setRow_step H hown (vs.toList.take (i * sz' + k) ++ us.toList ++ vs.toList.drop (i * sz' + k + us.toList.length)).toArray
              have hU := H.upd hg her (.refl _) (o' := ⟨gen', .row sz' (l.set i (over yc k xs))⟩) (w' := w.setRow b (vs.toList.take (i * sz' + k) ++ us.toList ++ vs.toList.drop (i * sz' + k + us.toList.length)).toArray)
                (by rw [set_same her]; exact hs) (fun g' e1 b1 hne h4 h5 => setRow_other w b b1 _ (fun hbb => hne (H.inj g' g e1 er b h4 her (hbb ▸ h5) hb)))
                (fun b1 hb1 => by
                  rw [hb] at hb1
                  cases hb1
                  exact ⟨by simpa using H.bnd b (.inr hown), fun hN => H.dis b hN hown, fun g' e1 hne h4 h5 => hne (H.inj g' g e1 er b h4 her h5 hb)⟩)
                (fun m hm hgm => by
                  rw [set_same her]
                  refine ⟨hO1, by simpa using hO2, by simpa using hO3, fun x hx => ?_, hO5, fun b1 hb1 => ?_⟩
                  · rcases List.mem_or_eq_of_mem_set hx with h9 | h9
                    · exact hO4 x h9
                    · subst h9
                      simp [over]; omega
                  · rw [hb] at hb1
                    cases hb1
                    refine ⟨had, _, el, setRow_heap w b vs _ el _ hh, by simp; omega, fun i1 j1 x pv hi1 hj1 => ?_⟩
                    rw [hvs']
                    have hii : i1 < l.length := by
                      have := (List.getElem?_eq_some_iff.1 hi1).1
                      simpa using this
                    by_cases hie : i1 = i
                    · subst hie
                      rw [List.getElem?_set_self hil] at hi1
                      cases hi1
                      unfold over at hj1
                      rcases Nat.lt_or_ge j1 k with hj2 | hj2
                      · rw [List.append_assoc, List.getElem?_append_left (by simp; omega), List.getElem?_take_of_lt hj2] at hj1
                        rw [if_pos (by omega)]
                        exact (hr i1 j1 yc pv hy hj1).step hs (.nil _)
                      · rw [List.append_assoc, List.getElem?_append_right (by simp; omega)] at hj1
                        have e1 : min k yc.length = k := by omega
                        simp only [List.length_take, e1] at hj1
                        rw [if_neg (by omega)]
                        rcases Nat.lt_or_ge (j1 - k) xs.length with hj3 | hj3
                        · rw [List.getElem?_append_left hj3] at hj1
                          rw [if_pos (by omega), show i1 * sz' + j1 - (i1 * sz' + k) = j1 - k by omega]
                          exact (flat_weak (List.all_eq_true.1 hfl pv (List.mem_of_getElem? hj1)) (h3 _ pv hj1)).step hs (.nil _)
                        · rw [List.getElem?_append_right hj3, List.getElem?_drop, show k + xs.length + (j1 - k - xs.length) = j1 by omega] at hj1
                          rw [if_neg (by omega)]
                          exact (hr i1 j1 yc pv hy hj1).step hs (.nil _)
                    · rw [List.getElem?_set_ne (Ne.symm hie)] at hi1
                      have hxl : x.length = sz' := hO4 x (List.mem_of_getElem? hi1)
                      have hj1l : j1 < sz' := by have := (List.getElem?_eq_some_iff.1 hj1).1; omega
                      have hcase : i1 * sz' + j1 < i * sz' + k ∨ i * sz' + k + xs.length ≤ i1 * sz' + j1 := by
                        rcases Nat.lt_or_gt_of_ne hie with h9 | h9
                        · left
                          have : (i1 + 1) * sz' ≤ i * sz' := Nat.mul_le_mul_right _ (by omega)
                          rw [Nat.add_mul, Nat.one_mul] at this
                          omega
                        · right
                          have : (i + 1) * sz' ≤ i1 * sz' := Nat.mul_le_mul_right _ (by omega)
                          rw [Nat.add_mul, Nat.one_mul] at this
                          omega
                      rcases hcase with h9 | h9
                      · rw [if_pos h9]
                        exact (hr i1 j1 x pv hi1 hj1).step hs (.nil _)
                      · rw [if_neg (by omega), if_neg (by omega)]
                        exact (hr i1 j1 x pv hi1 hj1).step hs (.nil _))
              rw [set_same her] at hU
              refine OpSim.run (n := .skip) (v := undef) ?_ (.inr ⟨rfl, rfl⟩) hs (.refl _) hU .val
              unfold execOp
              simp only [ho, hax]
              have := run_storeAt (P := P) (t := t) (off := i * sz' + k) (v := a.eval y) hh (by rw [hcv]; exact hn') (by rw [hcv]; omega) (by rw [hcv]; exact h2)
              rw [hcv] at this
              rw [Sem.run_bind, this]
              rfl
          · cases h
        · cases h
      · cases h
    · cases h
  · cases h
end
end Go.Proofs.Ythmlfonbfnmalaa.Sh
