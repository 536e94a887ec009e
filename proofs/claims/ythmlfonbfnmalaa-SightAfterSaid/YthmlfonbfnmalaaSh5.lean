/- A run of the program over values without memory, and that what it says holds of the program's own run. No condition. -/
import Derived.Test.YthmlfonbfnmalaaSh4
import Derived.Deep.AppendSrc
import Derived.Laws.CopyRow
namespace Go.Proofs.Ythmlfonbfnmalaa.Sh
open Go.RowKit
set_option linter.unusedVariables false
set_option linter.unusedSimpArgs false

/-! ### Operations that make or write memory -/
/-- What a function's run is told. -/
structure Cx where
  P : Program
  E : TypeId → Option (List Nat)
  base : Nat
  slots : List Nat
  call : FuncId → List PV → List GO → Option (PV × List GO)
  mask : List Nat

/-- A value that can be handed to a callee that knows no ghost block. -/
def pureV : PV → Bool
  | .agg cs => cs.all flat
  | .tup vs => vs.all fun v => match v with | .agg cs => cs.all flat | v => flat v
  | .clo _ cs => cs.all flat
  | v => flat v
/-- The place of a number in a list. -/
def slotIx : Nat → List Nat → Nat → Option Nat
  | _, [], _ => none
  | k, x :: r, t => if x = t then some k else slotIx (k + 1) r t
def newAt (cx : Cx) (G : List GO) (d : Option Nat) (c : GC) : Option (Nat × Nat × List GO) :=
  match d with
  | some t => match slotIx 0 cx.slots t with
    | some k => match G[cx.base + k]? with
      | some o => some (cx.base + k, o.gen + 1, G.set (cx.base + k) ⟨o.gen + 1, c⟩)
      | none => none
    | none => none
  | none => none

def storeG (base : Nat) (G : List GO) (a : PV) (xs : List PV) : Option (List GO) :=
  match a with
  | .box g gen off => match G[g]? with
    | some ⟨gen', .box cs⟩ => if gen' = gen ∧ off + xs.length ≤ cs.length ∧ (base ≤ g ∨ xs.all flat = true) then some (G.set g ⟨gen, .box (over cs off xs)⟩) else none
    | _ => none
  | .elt g gen n sz i k => match G[g]? with
    | some ⟨gen', .row sz' l⟩ => if gen' = gen ∧ l.length = n ∧ sz' = sz ∧ xs.all flat = true then
        (match l[i]? with
          | some y => if k + xs.length ≤ y.length then some (G.set g ⟨gen, .row sz (l.set i (over y k xs))⟩) else none
          | none => none) else none
    | _ => none
  | _ => none

section
variable {P : Program} {E : TypeId → Option (List Nat)} {N0 : Nat → Prop} {lv : List Nat} {ρ : List RR} {G : List GO} {w : World}

theorem all_weak {N : Nat → Prop} {cs : List PV} {vs : Array Value} (hf : cs.all flat = true) (h : ∀ (j : Nat) (pv : PV), cs[j]? = some pv → RV N w ρ pv (vs.getD j undef)) (j : Nat) (pv : PV) (hj : cs[j]? = some pv) :
    RV N w [] pv (vs.getD j undef) := flat_weak (List.all_eq_true.1 hf pv (List.mem_of_getElem? hj)) (h j pv hj)

theorem pure_weak {N : Nat → Prop} {ρ : List RR} {q : PV} {v : Value} (hf : pureV q = true) (h : RV N w ρ q v) : RV N w [] q v := by
  cases h with
  | bad => exact .bad
  | val => exact .val
  | agg hl he => exact .agg hl (all_weak hf he)
  | clo hl he => exact .clo hl (all_weak hf he)
  | tup hl he =>
    refine .tup hl fun j pv hj => ?_
    have h1 := List.all_eq_true.1 hf pv (List.mem_of_getElem? hj)
    have h2 := he j pv hj
    split at h1
    · generalize hv : (Array.getD _ j undef) = u at h2
      cases h2 with
      | agg hl2 he2 => exact .agg hl2 (all_weak h1 he2)
    · exact flat_weak h1 h2
  | row A c f hc hz hA h => exact .row A c f hc hz hA h
  | «at» b o f hN hb hc h => exact .at b o f hN hb hc h
  | emp A => exact .emp A
  | nil A c => exact .nil A c
  | mpv b es clock kvs h1 h2 h3 h4 h5 h6 => exact .mpv b es clock kvs h1 h2 h3 h4 h5 h6
  | _ => simp [pureV, flat] at hf

theorem own_set {g : Nat} {e' : RR} {b : Nat} (h : Own (ρ.set g e') b) : Own ρ b ∨ e'.blk = some b := by
  obtain ⟨e, he, hb⟩ := h
  rcases List.mem_or_eq_of_mem_set he with h1 | h1
  · exact .inl ⟨e, h1, hb⟩
  · subst h1; exact .inr hb

theorem Step.set {w' : World} (h : Step ρ w ρ w') {g : Nat} {e' : RR} (hb : ∀ b, e'.blk = some b → Own ρ b ∨ w.heap.size ≤ b) : Step ρ w (ρ.set g e') w' :=
  ⟨h.os, h.tape, h.output, h.size, h.keep, fun b ho => (own_set ho).elim .inl (hb b)⟩

theorem LLe.set {g : Nat} {e e' : RR} (he : ρ[g]? = some e) (h : RLe e e') : LLe ρ (ρ.set g e') := fun k x hx => by
  by_cases hk : k = g
  · subst hk
    rw [he] at hx
    cases hx
    exact ⟨e', by rw [List.getElem?_set_self (List.getElem?_eq_some_iff.1 he).1], h⟩
  · exact ⟨x, by rw [List.getElem?_set_ne (Ne.symm hk)]; exact hx, .refl _⟩

theorem LLe.take {ρ' : List RR} (h : LLe ρ ρ') (m : Nat) : LLe (ρ.take m) (ρ'.take m) := fun g e he => by
  rw [List.getElem?_take] at he
  split at he
  · rename_i hg
    obtain ⟨e', h1, h2⟩ := h g e he
    exact ⟨e', by rw [List.getElem?_take, if_pos hg]; exact h1, h2⟩
  · cases he

/-- One ghost block has changed. -/
theorem HRel.upd (H : HRel N0 lv ρ G w) {g : Nat} {o o' : GO} {e e' : RR} {w' : World} (hg : G[g]? = some o) (he : ρ[g]? = some e) (hle : RLe e e') (hs : Step ρ w (ρ.set g e') w')
    (hk : ∀ g' e1 b, g' ≠ g → ρ[g']? = some e1 → e1.blk = some b → w'.heap[b]? = w.heap[b]?)
    (hn : ∀ b, e'.blk = some b → b < w'.heap.size ∧ ¬ N0 b ∧ ∀ g' e1, g' ≠ g → ρ[g']? = some e1 → e1.blk ≠ some b)
    (ho : ∀ m, (m = G.length ∨ m ∈ lv) → g < m → ObjR (Pr N0 (ρ.set g e')) w' ((ρ.set g e').take m) o' e') : HRel N0 lv (ρ.set g e') (G.set g o') w' where
  len := by simp [H.len]
  inj := fun a a' x x' b h1 h2 h3 h4 => by
    have hgl : g < ρ.length := (List.getElem?_eq_some_iff.1 he).1
    by_cases h5 : a = g <;> by_cases h6 : a' = g
    · rw [h5, h6]
    · subst h5
      rw [List.getElem?_set_self hgl] at h1
      rw [List.getElem?_set_ne (Ne.symm h6)] at h2
      cases h1
      exact absurd h4 ((hn b h3).2.2 a' x' h6 h2)
    · subst h6
      rw [List.getElem?_set_self hgl] at h2
      rw [List.getElem?_set_ne (Ne.symm h5)] at h1
      cases h2
      exact absurd h3 ((hn b h4).2.2 a x h5 h1)
    · rw [List.getElem?_set_ne (Ne.symm h5)] at h1
      rw [List.getElem?_set_ne (Ne.symm h6)] at h2
      exact H.inj a a' x x' b h1 h2 h3 h4
  bnd := fun b hb => by
    rcases hb with hb | hb
    · exact Nat.lt_of_lt_of_le (H.bnd b (.inl hb)) hs.size
    · rcases own_set hb with h1 | h1
      · exact Nat.lt_of_lt_of_le (H.bnd b (.inr h1)) hs.size
      · exact (hn b h1).1
  dis := fun b hb ho' => by
    rcases own_set ho' with h1 | h1
    · exact H.dis b hb h1
    · exact (hn b h1).2.1 hb
  lvl := by simpa using H.lvl
  obj := fun m hm a x y ha hx hy => by
    have hgl : g < ρ.length := (List.getElem?_eq_some_iff.1 he).1
    have hgG : g < G.length := (List.getElem?_eq_some_iff.1 hg).1
    rw [List.length_set] at hm
    by_cases h5 : a = g
    · subst h5
      rw [List.getElem?_set_self hgG] at hx
      rw [List.getElem?_set_self hgl] at hy
      cases hx; cases hy
      exact ho m hm ha
    · rw [List.getElem?_set_ne (Ne.symm h5)] at hx
      rw [List.getElem?_set_ne (Ne.symm h5)] at hy
      exact (H.obj m hm a x y ha hx hy).step hs ((LLe.set he hle).take m) fun b hb => hk a y b h5 hy hb

/-- What an operation is shown to do. -/
def OpSim (P : Program) (N0 : Nat → Prop) (lv : List Nat) (ρ : List RR) (w : World) (o : Oper) (a : Act) (pv : PV) (G' : List GO) : Prop :=
  ∀ (K : Act → World → Prop) (Q : Exit → Act → World → Prop), (∀ v w' ρ', Step ρ w ρ' w' → LLe ρ ρ' → HRel N0 lv ρ' G' w' → RV (Pr N0 ρ') w' ρ' pv v → K (a.put o.dst v) w') → o.wp P a w K Q

theorem OpSim.run {o : Oper} {a : Act} {pv : PV} {G' : List GO} {n : Next} {v : Value} {w' : World} {ρ' : List RR} (hr : (execOp a.eval o).run P w = .ok n w') (hn : n = .value v ∨ (n = .skip ∧ v = undef))
    (hs : Step ρ w ρ' w') (hl : LLe ρ ρ') (hh : HRel N0 lv ρ' G' w') (hv : RV (Pr N0 ρ') w' ρ' pv v) : OpSim P N0 lv ρ w o a pv G' := fun K Q hK => by
  unfold Oper.wp
  rw [hr]
  rcases hn with rfl | ⟨rfl, rfl⟩
  · exact hK v w' ρ' hs hl hh hv
  · exact hK undef w' ρ' hs hl hh hv

theorem HRel.step_same (H : HRel N0 lv ρ G w) {w' : World} (hb : Below w.heap.size w w') : HRel N0 lv ρ G w' where
  len := H.len
  inj := H.inj
  bnd := fun b h => Nat.lt_of_lt_of_le (H.bnd b h) hb.size
  dis := H.dis
  lvl := H.lvl
  obj := fun m hm g o e h1 h2 h3 => (H.obj m hm g o e h1 h2 h3).step (Step.below hb) (.refl _) fun b hb' => hb.block b (H.bnd b (.inr (own_of h3 hb')))

theorem OpSim.gets (H : HRel N0 lv ρ G w) {o : Oper} {a : Act} {pv : PV} (h : Gets P N0 ρ w o a.eval pv) : OpSim P N0 lv ρ w o a pv G := by
  obtain ⟨v, w', hr, hb, hv⟩ := h
  exact OpSim.run hr (.inl rfl) (Step.below hb) (.refl _) (H.step_same hb) hv

/-- A new block for a ghost slot. -/
theorem HRel.new {cx : Cx} (H : HRel N0 lv ρ G w) (hlv : ∀ m ∈ lv, m ≤ cx.base) {d : Option Nat} {c : GC} {g gen : Nat} {G' : List GO} (h : newAt cx G d c = some (g, gen, G')) {nb : Obj} {len cap : Nat} {ad : Option Addr} {w' : World}
    (hw : w'.heap = (w.alloc nb).heap) (hos : w'.os = w.os) (hta : w'.tape = w.tape) (hou : w'.output = w.output)
    (ho : ∀ ρ', Step ρ w ρ' w' → LLe ρ ρ' → ObjR (Pr N0 ρ') w' ρ' ⟨gen, c⟩ ⟨gen, len, some w.heap.size, ad, cap⟩) :
    ∃ ρ', Step ρ w ρ' w' ∧ LLe ρ ρ' ∧ HRel N0 lv ρ' G' w' ∧ ρ'[g]? = some ⟨gen, len, some w.heap.size, ad, cap⟩ := by
  unfold newAt at h
  split at h
  · rename_i t
    split at h
    · rename_i k hk
      split at h
      · rename_i ob hob
        simp only [Option.some.injEq, Prod.mk.injEq] at h
        obtain ⟨rfl, rfl, rfl⟩ := h
        have hgl : cx.base + k < ρ.length := by rw [H.len]; exact (List.getElem?_eq_some_iff.1 hob).1
        have he := List.getElem?_eq_getElem hgl
        have hgen := (H.at hob he).1
        have hsz : w'.heap.size = w.heap.size + 1 := by rw [hw]; simp
        have hB : Below w.heap.size w w' := ⟨hos, hta, hou, by omega, fun b hb => by rw [hw]; exact Below.heap_alloc w _ b hb⟩
        have hle : RLe ρ[cx.base + k] ⟨ob.gen + 1, len, some w.heap.size, ad, cap⟩ := .inl (by simp; omega)
        have hs : Step ρ w (ρ.set (cx.base + k) ⟨ob.gen + 1, len, some w.heap.size, ad, cap⟩) w' := (Step.below hB).set fun b hb => by cases hb; exact .inr (Nat.le_refl _)
        refine ⟨_, hs, .set he hle, ?_, by rw [List.getElem?_set_self hgl]⟩
        refine H.upd hob he hle hs (fun g' e1 b _ h1 h2 => hB.block b (H.bnd b (.inr (own_of h1 h2)))) (fun b hb => ?_) fun m hm hgm => ?_
        · cases hb
          exact ⟨by omega, fun hn => H.fresh (.inl hn), fun g' e1 _ h1 h2 => H.fresh (.inr (own_of h1 h2))⟩
        · rcases hm with rfl | hm
          · rw [← H.len, show ρ.length = (ρ.set (cx.base + k) ⟨ob.gen + 1, len, some w.heap.size, ad, cap⟩).length by simp, List.take_length]
            exact ho _ hs (.set he hle)
          · have := hlv m hm
            omega
      · cases h
    · cases h
  · cases h

theorem sim_box {cx : Cx} (H : HRel N0 lv ρ G w) (hlv : ∀ m ∈ lv, m ≤ cx.base) {o : Oper} {a : Act} {e : Operand → PV} (he : ∀ x, RV (Pr N0 ρ) w ρ (e x) (a.eval x)) {t : TypeId} {x : Operand} (ho : o.op = .box t x)
    {xs : List PV} (hx : cellsOf G (e x) = some xs) {g gen : Nat} {G' : List GO} (h : newAt cx G o.dst (.box xs) = some (g, gen, G')) : OpSim P N0 lv ρ w o a (.box g gen 0) G' := by
  obtain ⟨h1, h2, h3⟩ := cellsOf_sim H hx (he x)
  obtain ⟨ρ', hs, hl, hH, hg⟩ := H.new hlv h (w' := w.alloc (.cells (a.eval x).cells t)) (nb := .cells ((a.eval x).cells) t) (len := 0) (cap := 0) (ad := none) rfl rfl rfl rfl (fun ρ' hs hl =>
    ⟨rfl, rfl, w.heap.size, _, t, rfl, heap_new w _, h1, fun j pv hj => (h3 j pv hj).step hs hl⟩)
  refine OpSim.run (n := .value (.pointer (some ⟨w.heap.size, 0, none⟩))) (v := .pointer (some ⟨w.heap.size, 0, none⟩)) ?_ (.inl rfl) hs hl hH (.box _ hg (Nat.le_refl _) fun _ _ => ⟨_, rfl, rfl⟩)
  unfold execOp
  simp [ho, Instr.box, newVar, newRow, newObj, Sem.run]

theorem zero_run {t : TypeId} {z : Value} (hz : zeroOf P t = some z) (w : World) : (zeroValue t).run P w = .ok z w := by
  unfold zeroOf at hz
  cases hi : P.info? t with
  | none => simp [hi] at hz
  | some i =>
    simp only [hi, Option.bind_some] at hz
    simp [zeroValue, typeInfo, program, Sem.run, hi, hz]

theorem sim_alloc {cx : Cx} (H : HRel N0 lv ρ G w) (hlv : ∀ m ∈ lv, m ≤ cx.base) {o : Oper} {a : Act} {t : TypeId} {z : Value} (ho : o.op = .alloc t) (hz : zeroOf P t = some z)
    {g gen : Nat} {G' : List GO} (h : newAt cx G o.dst (.box (z.cells.toList.map cv)) = some (g, gen, G')) : OpSim P N0 lv ρ w o a (.box g gen 0) G' := by
  obtain ⟨ρ', hs, hl, hH, hg⟩ := H.new hlv h (w' := w.alloc (.cells z.cells t)) (nb := .cells (z.cells) t) (len := 0) (cap := 0) (ad := none) rfl rfl rfl rfl (fun ρ' hs hl =>
    ⟨rfl, rfl, w.heap.size, _, t, rfl, heap_new w _, by simp, fun j pv hj => by
      simp only [List.getElem?_map, Option.map_eq_some_iff] at hj
      obtain ⟨u, hu, rfl⟩ := hj
      have : z.cells.getD j undef = u := by simp at hu; simp [hu]
      rw [this]
      exact .ofCv u⟩)
  refine OpSim.run (n := .value (.pointer (some ⟨w.heap.size, 0, none⟩))) (v := .pointer (some ⟨w.heap.size, 0, none⟩)) ?_ (.inl rfl) hs hl hH (.box _ hg (Nat.le_refl _) fun _ _ => ⟨_, rfl, rfl⟩)
  unfold execOp
  simp [ho, Instr.alloc, zero_run hz, newVar, newRow, newObj, Sem.run]

/-- Cells written over others. -/
theorem over_sim {R : PV → Value → Prop} {cs xs : List PV} {vs us : Array Value} {off : Nat} (hl : vs.size = cs.length) (hu : us.size = xs.length) (hoff : off + xs.length ≤ cs.length)
    (hv : ∀ (j : Nat) (pv : PV), cs[j]? = some pv → R pv (vs.getD j undef)) (hx : ∀ (j : Nat) (pv : PV), xs[j]? = some pv → R pv (us.getD j undef)) :
    (vs.toList.take off ++ us.toList ++ vs.toList.drop (off + us.toList.length)).toArray.size = (over cs off xs).length ∧
    ∀ (j : Nat) (pv : PV), (over cs off xs)[j]? = some pv → R pv ((vs.toList.take off ++ us.toList ++ vs.toList.drop (off + us.toList.length)).toArray.getD j undef) := by
  refine ⟨by simp [over]; omega, fun j pv hj => ?_⟩
  unfold over at hj
  rcases Nat.lt_or_ge j off with hj1 | hj1
  · rw [List.append_assoc, List.getElem?_append_left (by simp; omega), List.getElem?_take_of_lt hj1] at hj
    have := hv j pv hj
    have e : ((vs.toList.take off ++ us.toList ++ vs.toList.drop (off + us.toList.length)).toArray).getD j undef = vs.getD j undef := by
      simp only [Array.getD_eq_getD_getElem?, List.getElem?_toArray, List.append_assoc]
      rw [List.getElem?_append_left (by simp; omega), List.getElem?_take_of_lt hj1]
      simp
    rw [e]; exact this
  · rw [List.append_assoc, List.getElem?_append_right (by simp; omega)] at hj
    have e0 : ((vs.toList.take off ++ us.toList ++ vs.toList.drop (off + us.toList.length)).toArray).getD j undef = ((us.toList ++ vs.toList.drop (off + us.toList.length))[j - off]?).getD undef := by
      simp only [Array.getD_eq_getD_getElem?, List.getElem?_toArray, List.append_assoc]
      rw [List.getElem?_append_right (by simp; omega)]
      have : min off vs.toList.length = off := by simp; omega
      simp only [List.length_take, this]
    rw [e0]
    have e1 : min off cs.length = off := by omega
    simp only [List.length_take, e1] at hj
    rcases Nat.lt_or_ge (j - off) xs.length with hj2 | hj2
    · rw [List.getElem?_append_left hj2] at hj
      rw [List.getElem?_append_left (by simp; omega)]
      have := hx _ pv hj
      simpa using this
    · rw [List.getElem?_append_right hj2, List.getElem?_drop] at hj
      rw [List.getElem?_append_right (by simp; omega), List.getElem?_drop]
      have := hv _ pv hj
      simp only [Array.length_toList, hu]
      simpa using this

theorem set_same {g : Nat} {e : RR} (he : ρ[g]? = some e) : ρ.set g e = ρ := by
  apply List.ext_getElem?
  intro k
  by_cases hk : k = g
  · subst hk
    rw [List.getElem?_set_self (List.getElem?_eq_some_iff.1 he).1, he]
  · rw [List.getElem?_set_ne (Ne.symm hk)]

theorem setRow_step (H : HRel N0 lv ρ G w) {b : Nat} (hb : Own ρ b) (cs : Array Value) : Step ρ w ρ (w.setRow b cs) :=
  ⟨rfl, rfl, rfl, by simp, fun k hk hn => setRow_other w b k cs (fun h => hn (h ▸ hb)), fun _ h => .inl h⟩

theorem run_storeAt {t : TypeId} {b off : Nat} {vs : Array Value} {el : TypeId} {v : Value} (hh : w.heap[b]? = some (.cells vs el (0, 0))) (hn : szOf P t = some v.cells.size) (hle : off + v.cells.size ≤ vs.size)
    (h1 : ∀ u ∈ v.cells, u.oneCell' = true) :
    (Instr.storeAt t (.pointer (some ⟨b, off, none⟩)) v).run P w = .ok () (w.setRow b (vs.toList.take off ++ v.cells.toList ++ vs.toList.drop (off + v.cells.toList.length)).toArray) := by
  have := run_storeCells_at P b off el v.cells.toList 0 vs w hh (by simpa using hle) (by simpa using h1)
  simp only [Nat.add_zero] at this
  simp [Instr.storeAt, Instr.sureAddr, storeVar, run_size hn, this]

theorem sim_store {base : Nat} (H : HRel N0 lv ρ G w) (hlv : ∀ m ∈ lv, m ≤ base) {o : Oper} {a : Act} {e : Operand → PV} (he : ∀ x, RV (Pr N0 ρ) w ρ (e x) (a.eval x)) {t : TypeId} {x y : Operand} (ho : o.op = .store t x y)
    {xs : List PV} (hx : cellsOf G (e y) = some xs) (hn : szOf P t = some xs.length) {G' : List GO} (h : storeG base G (e x) xs = some G') : OpSim P N0 lv ρ w o a (.val undef) G' := by
  obtain ⟨h1, h2, h3⟩ := cellsOf_sim H hx (he y)
  have hn' : szOf P t = some (a.eval y).cells.size := by rw [h1]; exact hn
  have hax := he x
  generalize hq : e x = q at *
  unfold storeG at h
  split at h
  · rename_i g gen off
    split at h
    · rename_i gen' cs hg
      split at h
      · rename_i hc
        obtain ⟨rfl, hoff, hfl⟩ := hc
        simp only [Option.some.injEq] at h
        subst h
        cases hax with
        | box er her hgen hval =>
          have hO := H.at hg her
          obtain ⟨hO1, hO2, b, vs, el, hb, hh, hz, hr⟩ := hO
          obtain ⟨b', hb', hax⟩ := hval hO1.symm hO2
          rw [hb] at hb'
          cases hb'
          have hown : Own ρ b := own_of her hb
          have hs := setRow_step H hown (vs.toList.take off ++ (a.eval y).cells.toList ++ vs.toList.drop (off + (a.eval y).cells.toList.length)).toArray
          have hU := H.upd hg her (.refl _) (o' := ⟨gen', .box (over cs off xs)⟩) (w' := w.setRow b (vs.toList.take off ++ (a.eval y).cells.toList ++ vs.toList.drop (off + (a.eval y).cells.toList.length)).toArray)
            (by rw [set_same her]; exact hs) (fun g' e1 b1 hne h4 h5 => setRow_other w b b1 _ (fun hbb => hne (H.inj g' g e1 er b h4 her (hbb ▸ h5) hb)))
            (fun b1 hb1 => by
              rw [hb] at hb1
              cases hb1
              exact ⟨by simpa using H.bnd b (.inr hown), fun hN => H.dis b hN hown, fun g' e1 hne h4 h5 => hne (H.inj g' g e1 er b h4 her h5 hb)⟩)
            (fun m hm hgm => by
              rw [set_same her]
              obtain ⟨_, _, b2, vs2, el2, hb2, hh2, hz2, hr2⟩ := H.obj m hm g _ er hgm hg her
              rw [hb] at hb2
              cases hb2
              rw [hh] at hh2
              cases hh2
              have hxs : ∀ (j : Nat) (pv : PV), xs[j]? = some pv → RV (Pr N0 ρ) w (ρ.take m) pv ((a.eval y).cells.getD j undef) := fun j pv hj => by
                rcases hm with rfl | hm
                · rw [← H.len, List.take_length]
                  exact h3 j pv hj
                · have h7 := hlv m hm
                  have h8 : xs.all flat = true := by rcases hfl with h9 | h9; omega; exact h9
                  exact (flat_weak (List.all_eq_true.1 h8 pv (List.mem_of_getElem? hj)) (h3 j pv hj)).weak _
              obtain ⟨k1, k2⟩ := over_sim (R := RV (Pr N0 ρ) w (ρ.take m)) hz h1 hoff hr2 hxs
              exact ⟨hO1, hO2, b, _, el, hb, setRow_heap w b vs _ el _ hh, k1, fun j pv hj => (k2 j pv hj).step hs (.refl _)⟩)
          rw [set_same her] at hU
          refine OpSim.run (n := .skip) (v := undef) ?_ (.inr ⟨rfl, rfl⟩) hs (.refl _) hU .val
          unfold execOp
          simp only [ho, hax]
          rw [Sem.run_bind, run_storeAt hh hn' (by omega) h2]
          rfl
      · cases h
    · cases h
  · rename_i g gen n sz i k
    split at h
    · rename_i gen' sz' l hg
      split at h
      · rename_i hc
        obtain ⟨rfl, rfl, rfl, hfl⟩ := hc
        split at h
        · rename_i yc hy
          split at h
          · rename_i hk
            simp only [Option.some.injEq] at h
            subst h
            cases hax with
            | elt er her hgen hnn hval =>
              obtain ⟨hO1, hO2, hO3, hO4, hO5, hO6⟩ := H.at hg her
              obtain ⟨b, hb, hax⟩ := hval hO1.symm hO2
              obtain ⟨had, vs, el, hh, hz, hr⟩ := hO6 b hb
              have hown : Own ρ b := own_of her hb
              have hil : i < l.length := (List.getElem?_eq_some_iff.1 hy).1
              have hys : yc.length = sz' := hO4 yc (List.mem_of_getElem? hy)
              have hroom : (i + 1) * sz' ≤ vs.size := Nat.le_trans (Nat.mul_le_mul_right _ (by omega)) hz
              rw [Nat.add_mul, Nat.one_mul] at hroom
              generalize hcv : (a.eval y).cells = us at *
              have hvs' : ∀ j, (vs.toList.take (i * sz' + k) ++ us.toList ++ vs.toList.drop (i * sz' + k + us.toList.length)).toArray.getD j undef =
                  if j < i * sz' + k then vs.getD j undef else if j < i * sz' + k + xs.length then us.getD (j - (i * sz' + k)) undef else vs.getD j undef := fun j => by
                simp only [Array.getD_eq_getD_getElem?, List.getElem?_toArray, List.append_assoc]
                split
                · rw [List.getElem?_append_left (by simp; omega), List.getElem?_take_of_lt (by assumption)]; simp
                · rw [List.getElem?_append_right (by simp; omega)]
                  have : min (i * sz' + k) vs.toList.length = i * sz' + k := by simp; omega
                  simp only [List.length_take, this]
                  split
                  · rw [List.getElem?_append_left (by simp; omega)]; simp
                  · rw [List.getElem?_append_right (by simp; omega), List.getElem?_drop]
                    simp only [Array.length_toList, h1]
                    rw [show i * sz' + k + xs.length + (j - (i * sz' + k) - xs.length) = j by omega]
                    simp
              have hs := setRow_step H hown (vs.toList.take (i * sz' + k) ++ us.toList ++ vs.toList.drop (i * sz' + k + us.toList.length)).toArray
              have hU := H.upd hg her (.refl _) (o' := ⟨gen', .row sz' (l.set i (over yc k xs))⟩) (w' := w.setRow b (vs.toList.take (i * sz' + k) ++ us.toList ++ vs.toList.drop (i * sz' + k + us.toList.length)).toArray)
                (by rw [set_same her]; exact hs) (fun g' e1 b1 hne h4 h5 => setRow_other w b b1 _ (fun hbb => hne (H.inj g' g e1 er b h4 her (hbb ▸ h5) hb)))
                (fun b1 hb1 => by
                  rw [hb] at hb1
                  cases hb1
                  exact ⟨by simpa using H.bnd b (.inr hown), fun hN => H.dis b hN hown, fun g' e1 hne h4 h5 => hne (H.inj g' g e1 er b h4 her h5 hb)⟩)
                (fun m hm hgm => by
                  rw [set_same her]
                  refine ⟨hO1, by simpa using hO2, by simpa using hO3, fun x hx => ?_, hO5, fun b1 hb1 => ?_⟩
                  · rcases List.mem_or_eq_of_mem_set hx with h9 | h9
                    · exact hO4 x h9
                    · subst h9
                      simp [over]; omega
                  · rw [hb] at hb1
                    cases hb1
                    refine ⟨had, _, el, setRow_heap w b vs _ el _ hh, by simp; omega, fun i1 j1 x pv hi1 hj1 => ?_⟩
                    rw [hvs']
                    have hii : i1 < l.length := by
                      have := (List.getElem?_eq_some_iff.1 hi1).1
                      simpa using this
                    by_cases hie : i1 = i
                    · subst hie
                      rw [List.getElem?_set_self hil] at hi1
                      cases hi1
                      unfold over at hj1
                      rcases Nat.lt_or_ge j1 k with hj2 | hj2
                      · rw [List.append_assoc, List.getElem?_append_left (by simp; omega), List.getElem?_take_of_lt hj2] at hj1
                        rw [if_pos (by omega)]
                        exact (hr i1 j1 yc pv hy hj1).step hs (.nil _)
                      · rw [List.append_assoc, List.getElem?_append_right (by simp; omega)] at hj1
                        have e1 : min k yc.length = k := by omega
                        simp only [List.length_take, e1] at hj1
                        rw [if_neg (by omega)]
                        rcases Nat.lt_or_ge (j1 - k) xs.length with hj3 | hj3
                        · rw [List.getElem?_append_left hj3] at hj1
                          rw [if_pos (by omega), show i1 * sz' + j1 - (i1 * sz' + k) = j1 - k by omega]
                          exact (flat_weak (List.all_eq_true.1 hfl pv (List.mem_of_getElem? hj1)) (h3 _ pv hj1)).step hs (.nil _)
                        · rw [List.getElem?_append_right hj3, List.getElem?_drop, show k + xs.length + (j1 - k - xs.length) = j1 by omega] at hj1
                          rw [if_neg (by omega)]
                          exact (hr i1 j1 yc pv hy hj1).step hs (.nil _)
                    · rw [List.getElem?_set_ne (Ne.symm hie)] at hi1
                      have hxl : x.length = sz' := hO4 x (List.mem_of_getElem? hi1)
                      have hj1l : j1 < sz' := by have := (List.getElem?_eq_some_iff.1 hj1).1; omega
                      have hcase : i1 * sz' + j1 < i * sz' + k ∨ i * sz' + k + xs.length ≤ i1 * sz' + j1 := by
                        rcases Nat.lt_or_gt_of_ne hie with h9 | h9
                        · left
                          have : (i1 + 1) * sz' ≤ i * sz' := Nat.mul_le_mul_right _ (by omega)
                          rw [Nat.add_mul, Nat.one_mul] at this
                          omega
                        · right
                          have : (i + 1) * sz' ≤ i1 * sz' := Nat.mul_le_mul_right _ (by omega)
                          rw [Nat.add_mul, Nat.one_mul] at this
                          omega
                      rcases hcase with h9 | h9
                      · rw [if_pos h9]
                        exact (hr i1 j1 x pv hi1 hj1).step hs (.nil _)
                      · rw [if_neg (by omega), if_neg (by omega)]
                        exact (hr i1 j1 x pv hi1 hj1).step hs (.nil _))
              rw [set_same her] at hU
              refine OpSim.run (n := .skip) (v := undef) ?_ (.inr ⟨rfl, rfl⟩) hs (.refl _) hU .val
              unfold execOp
              simp only [ho, hax]
              have := run_storeAt (P := P) (t := t) (off := i * sz' + k) (v := a.eval y) hh (by rw [hcv]; exact hn') (by rw [hcv]; omega) (by rw [hcv]; exact h2)
              rw [hcv] at this
              rw [Sem.run_bind, this]
              rfl
          · cases h
        · cases h
      · cases h
    · cases h
  · cases h
end
/-! ### Maps: made, written, struck -/
/-- A map with a key's value set. -/
def putM (k : Value) (v : PV) (l : List (Value × PV)) : List (Value × PV) :=
  match findM k l with
  | some _ => l.map fun e => if keyEq k e.1 = true then (e.1, v) else e
  | none => l ++ [(k, v)]
def delM (k : Value) (l : List (Value × PV)) : List (Value × PV) := l.filter fun e => !keyEq k e.1
def updM (P : Program) (base : Nat) (kt : TypeId) (G : List GO) (m : PV) (k : Option Value) (v : PV) : Option (List GO) :=
  match m, k, shapeT P kt with
  | .mp g gen, some kv, some s => match G[g]? with
    | some ⟨gen', .map s' l⟩ => if gen' = gen ∧ s' = s ∧ shapeV kv = some s ∧ (base ≤ g ∨ pureV v = true) then some (G.set g ⟨gen, .map s (putM kv v l)⟩) else none
    | _ => none
  | _, _, _ => none
def strikeM (P : Program) (kt : TypeId) (G : List GO) (m : PV) (k : Option Value) : Option (List GO) :=
  match m, k, shapeT P kt with
  | .mp g gen, some kv, some s => match G[g]? with
    | some ⟨gen', .map s' l⟩ => if gen' = gen ∧ s' = s ∧ shapeV kv = some s then some (G.set g ⟨gen, .map s (delM kv l)⟩) else none
    | _ => none
  | _, _, _ => none
section
variable {P : Program} {N0 : Nat → Prop} {lv : List Nat} {ρ : List RR} {G : List GO} {w : World}
def setObjW (w : World) (b : Nat) (o : Obj) : World := { w with heap := w.heap.setIfInBounds b o }
theorem setObjW_heap {b : Nat} {o o' : Obj} (h : w.heap[b]? = some o) : (setObjW w b o').heap[b]? = some o' := (MapKept.heap_set h).1
theorem setObjW_other (b b' : Nat) (o : Obj) (hne : b' ≠ b) : (setObjW w b o).heap[b']? = w.heap[b']? := by
  unfold setObjW
  simp [Ne.symm hne]
theorem setObjW_step {b : Nat} (o : Obj) (ho : Own ρ b) : Step ρ w ρ (setObjW w b o) :=
  ⟨rfl, rfl, rfl, by simp [setObjW], fun b' _ hn => setObjW_other b b' o (fun h => hn (h ▸ ho)), fun _ h => .inl h⟩
theorem putM_keys {k : Value} {v : PV} {l : List (Value × PV)} : (putM k v l).map (·.1) = match findM k l with | some _ => l.map (·.1) | none => l.map (·.1) ++ [k] := by
  unfold putM
  cases findM k l with
  | none => simp
  | some _ =>
    simp only [List.map_map]
    congr 1
    funext e
    simp only [Function.comp]
    split <;> rfl
/-- A ghost map has been written. -/
theorem HRel.setMap (H : HRel N0 lv ρ G w) {g : Nat} {gen : Nat} {s : KS} {l l' : List (Value × PV)} {er : RR} {b : Nat} {es es' : Array MapEntry} {clock clock' : Nat} {kvs' : List (Value × Value)} (hg : G[g]? = some ⟨gen, .map s l⟩) (her : ρ[g]? = some er)
    (hb : er.blk = some b) (hh : w.heap[b]? = some (.map es clock)) (hM : MapC es' clock' kvs') (hs : ∀ x ∈ kvs', shapeV x.1 = some s) (hl : kvs'.map (·.1) = l'.map (·.1))
    (hel : ∀ m, (m = G.length ∨ m ∈ lv) → g < m → ∀ (i : Nat) (k k' : Value) (pv : PV) (v : Value), l'[i]? = some (k, pv) → kvs'[i]? = some (k', v) → RV (Pr N0 ρ) w (ρ.take m) pv v) :
    Step ρ w ρ (setObjW w b (.map es' clock')) ∧ HRel N0 lv ρ (G.set g ⟨gen, .map s l'⟩) (setObjW w b (.map es' clock')) := by
  have hown : Own ρ b := own_of her hb
  have hst := setObjW_step (w := w) (.map es' clock') hown
  have hO := H.at hg her
  refine ⟨hst, ?_⟩
  have hU := H.upd hg her (.refl _) (o' := ⟨gen, .map s l'⟩) (w' := setObjW w b (.map es' clock')) (by rw [set_same her]; exact hst)
    (fun g' e1 b1 hne h4 h5 => setObjW_other b b1 _ (fun hbb => hne (H.inj g' g e1 er b h4 her (hbb ▸ h5) hb)))
    (fun b1 hb1 => by
      rw [hb] at hb1
      cases hb1
      exact ⟨by simpa [setObjW] using H.bnd b (.inr hown), fun hN => H.dis b hN hown, fun g' e1 hne h4 h5 => hne (H.inj g' g e1 er b h4 her h5 hb)⟩)
    (fun m hm hgm => by
      rw [set_same her]
      refine ⟨hO.1, hO.2.1, b, es', clock', kvs', hb, setObjW_heap hh, hM, hs, hl, fun i k k' pv v hi hk => (hel m hm hgm i k k' pv v hi hk).step hst (.refl _)⟩)
  rwa [set_same her] at hU
theorem MapC.put {es : Array MapEntry} {clock : Nat} {kvs : List (Value × Value)} {s : KS} {k v : Value} {i : Nat} {e : MapEntry} (hM : MapC es clock kvs) (hs : ∀ x ∈ kvs, shapeV x.1 = some s) (hk : shapeV k = some s) (he : es.toList[i]? = some e) (hek : e.key = k) :
    MapC (es.modify i fun e => { e with key := k, val := v }) clock (kvs.map fun x => if keyEq k x.1 = true then (x.1, v) else x) := by
  have hmk := mem_keys hM hs
  have hstm := hM.1
  refine ⟨MapKept.stamped_modify hstm i _ (fun _ _ => rfl) (fun e' h1 h2 => ?_), ?_⟩
  · have : es[i]? = some e := by simpa using he
    rw [this] at h2
    cases h2
    exact hek.symm
  · have : ((es.modify i fun e => { e with key := k, val := v }).toList.map fun e => (e.key, e.val)) = (es.toList.map fun e => (e.key, e.val)).map fun x => if keyEq k x.1 = true then (x.1, v) else x := by
      apply List.ext_getElem?
      intro j
      simp only [List.getElem?_map, Array.getElem?_toList, Array.getElem?_modify]
      have hnd := ((MapKept.stamped_iff es clock).1 hstm).2.2
      by_cases hij : i = j
      · subst hij
        have : es[i]? = some e := by simpa using he
        simp only [this, if_true, Option.map_some]
        have : keyEq k e.key = true := (keyEq_iff hk (hmk e (List.mem_of_getElem? he))).2 hek.symm
        rw [hek] at this
        simp [this, hek]
      · simp only [hij, if_false]
        cases hj : es[j]? with
        | none => simp
        | some e' =>
          simp only [Option.map_some]
          have hj' : es.toList[j]? = some e' := by simpa using hj
          have hne : ¬ keyEq k e'.key = true := fun h => by
            have h1 := (keyEq_iff hk (hmk e' (List.mem_of_getElem? hj'))).1 h
            have h2 := hstm.2.2
            have h3 : (es.toList.map (·.key))[i]? = some k := by rw [List.getElem?_map, he]; simp [hek]
            have h4 : (es.toList.map (·.key))[j]? = some k := by rw [List.getElem?_map, hj']; simp [h1]
            have h5 := (List.getElem?_inj (List.getElem?_eq_some_iff.1 h3).1 h2).1 (h3.trans h4.symm)
            exact hij h5
          simp [hne]
    rw [this]
    exact hM.2.map _
theorem MapC.add {es : Array MapEntry} {clock : Nat} {kvs : List (Value × Value)} {k v : Value} (hM : MapC es clock kvs) (hk : ∀ e ∈ es.toList, e.key ≠ k) : MapC (es.push { key := k, val := v, born := clock }) (clock + 1) (kvs ++ [(k, v)]) :=
  ⟨MapKept.stamped_push hM.1 hk, by simpa using hM.2.append_right [(k, v)]⟩
theorem erase_filter {α : Type} {f : α → Value} {k : Value} : ∀ {l : List α} {i : Nat} {e : α} {p : α → Bool}, (l.map f).Nodup → (∀ x ∈ l, p x = true ↔ f x ≠ k) → l[i]? = some e → f e = k → l.eraseIdx i = l.filter p
  | [], _, _, _, _, _, h, _ => by simp at h
  | a :: l, 0, e, p, hn, hp, h, he => by
    simp only [List.getElem?_cons_zero, Option.some.injEq] at h
    subst h
    simp only [List.map_cons, List.nodup_cons, List.mem_map, not_exists, not_and] at hn
    have h1 : p a = false := by
      cases hpa : p a with
      | false => rfl
      | true => exact absurd he ((hp a (by simp)).1 hpa)
    rw [List.eraseIdx_cons_zero, List.filter_cons, h1]
    simp only [Bool.false_eq_true, if_false]
    exact (List.filter_eq_self.2 fun x hx => (hp x (by simp [hx])).2 fun h => hn.1 x hx (by rw [h, he])).symm
  | a :: l, i + 1, e, p, hn, hp, h, he => by
    simp only [List.getElem?_cons_succ] at h
    simp only [List.map_cons, List.nodup_cons, List.mem_map, not_exists, not_and] at hn
    have h1 : p a = true := (hp a (by simp)).2 fun h2 => hn.1 e (List.mem_of_getElem? h) (by rw [h2, he])
    rw [List.eraseIdx_cons_succ, List.filter_cons, h1]
    simp only [if_true]
    rw [erase_filter hn.2 (fun x hx => hp x (by simp [hx])) h he]
theorem MapC.strike {es : Array MapEntry} {clock : Nat} {kvs : List (Value × Value)} {s : KS} {k : Value} {i : Nat} {e : MapEntry} (hM : MapC es clock kvs) (hs : ∀ x ∈ kvs, shapeV x.1 = some s) (hk : shapeV k = some s) (he : es.toList[i]? = some e) (hek : e.key = k) :
    MapC (es.eraseIdxIfInBounds i) clock (kvs.filter fun x => !keyEq k x.1) := by
  have hmk := mem_keys hM hs
  refine ⟨MapKept.stamped_erase hM.1 i, ?_⟩
  have h1 : (es.eraseIdxIfInBounds i).toList = es.toList.eraseIdx i := by
    have hi : i < es.size := by have := (List.getElem?_eq_some_iff.1 he).1; simpa using this
    simp [Array.eraseIdxIfInBounds, hi]
  rw [h1, erase_filter (f := (·.key)) (k := k) (p := fun e => !keyEq k e.key) hM.1.2.2 (fun x hx => by
    have := keyEq_iff hk (hmk x hx)
    cases hq : keyEq k x.key with
    | true => simp [this.1 hq]
    | false =>
      simp only [Bool.not_false, true_iff]
      intro h
      rw [this.2 h.symm] at hq
      cases hq) he hek]
  have h2 : (es.toList.filter fun e => !keyEq k e.key).map (fun e => (e.key, e.val)) = (es.toList.map fun e => (e.key, e.val)).filter fun x => !keyEq k x.1 := by
    rw [List.filter_map]; rfl
  rw [h2]
  exact hM.2.filter _
theorem sim_mapUpdate {base : Nat} (H : HRel N0 lv ρ G w) (hlv : ∀ m ∈ lv, m ≤ base) {o : Oper} {a : Act} {e : Operand → PV} (he : ∀ x, RV (Pr N0 ρ) w ρ (e x) (a.eval x)) {t kt et : TypeId} {m k x : Operand} (ho : o.op = .mapUpdate t m k x ∨ o.op = .insert t m k x)
    (hu : P.underlying t = some (.map kt et)) {G' : List GO} (h : updM P base kt G (e m) (keyV (e k)) (e x) = some G') : OpSim P N0 lv ρ w o a (.val undef) G' := by
  have ham := he m
  have hax := he x
  unfold updM at h
  split at h
  case h_2 => cases h
  rename_i g gen kv s hm hk hT
  split at h
  case h_2 => cases h
  rename_i gen' s' l hg
  split at h
  case isFalse => cases h
  rename_i hc
  obtain ⟨rfl, rfl, hsk, hfl⟩ := hc
  simp only [Option.some.injEq] at h
  subst h
  have hkv := keyV_sim hk (he k)
  rw [hm] at ham
  generalize hmv : a.eval m = mv at ham
  cases ham with
  | mp er her hgen hval =>
    obtain ⟨q1, q2, b, es, clock, kvs, q3, q4, q5, q6, q7, q8⟩ := H.at hg her
    obtain ⟨b', hb', rfl⟩ := hval q1.symm q2
    rw [q3] at hb'
    cases hb'
    have hc := key_check hT hsk (P := P) false w
    have hst := key_stays hsk w (P := P)
    have hx : ∀ m, (m = G.length ∨ m ∈ lv) → g < m → RV (Pr N0 ρ) w (ρ.take m) (e x) (a.eval x) := fun m hm hgm => by
      rcases hm with rfl | hm
      · rw [← H.len, List.take_length]; exact hax
      · have h7 := hlv m hm
        rcases hfl with h9 | h9
        · omega
        · exact (pure_weak h9 hax).weak _
    have hold : ∀ m, (m = G.length ∨ m ∈ lv) → g < m → ∀ (i : Nat) (k k' : Value) (pv : PV) (v : Value), l[i]? = some (k, pv) → kvs[i]? = some (k', v) → RV (Pr N0 ρ) w (ρ.take m) pv v := fun m hm hgm => by
      obtain ⟨_, _, b2, es2, clock2, kvs2, r3, r4, r5, r6, r7, r8⟩ := H.obj m hm g _ er hgm hg her
      rw [q3] at r3
      cases r3
      rw [q4] at r4
      cases r4
      intro i k0 k' pv v hi hkk
      -- the two readings have the same entries
      have h10 : (kvs2.map (·.1))[i]? = some k0 := by rw [r7, List.getElem?_map, hi]; rfl
      rw [List.getElem?_map, Option.map_eq_some_iff] at h10
      obtain ⟨⟨k2, v2⟩, h11, h12⟩ := h10
      simp only at h12
      subst h12
      have h13 : (kvs.map (·.1))[i]? = some k2 := by rw [q7, List.getElem?_map, hi]; rfl
      rw [List.getElem?_map, hkk] at h13
      simp only [Option.map_some, Option.some.injEq] at h13
      subst h13
      have h14 : (k', v2) ∈ kvs := q5.2.mem_iff.1 (r5.2.mem_iff.2 (List.mem_of_getElem? h11))
      have h15 := nodup_fst q5.keys h14 (List.mem_of_getElem? hkk)
      subst h15
      exact r8 i k' k' pv v2 hi h11
    rcases find_sim hT hsk q5 q6 q7 w with ⟨f1, f2, f3, f4⟩ | ⟨i, j, pv', v, f1, f2, f3, f4, e', f5, f6, f7⟩
    · have hputl : putM kv (e x) l = l ++ [(kv, e x)] := by unfold putM; rw [f1]
      have hkl := congrArg List.length q7
      simp only [List.length_map] at hkl
      obtain ⟨s1, s2⟩ := H.setMap hg her q3 q4 (l' := putM kv (e x) l) (q5.add (v := a.eval x) f3)
        (fun y hy => by rcases List.mem_append.1 hy with h | h; exact q6 y h; simp at h; subst h; exact hsk)
        (by rw [hputl]; simp [q7])
        (fun m hm hgm i0 k0 k' pv v hi hkk => by
          rw [hputl] at hi
          rcases Nat.lt_or_ge i0 l.length with hlt | hlt
          · rw [List.getElem?_append_left hlt] at hi
            rw [List.getElem?_append_left (by omega)] at hkk
            exact hold m hm hgm i0 k0 k' pv v hi hkk
          · rw [List.getElem?_append_right hlt] at hi
            rw [List.getElem?_append_right (by omega)] at hkk
            have : i0 - l.length = 0 := by have := (List.getElem?_eq_some_iff.1 hi).1; simp at this; omega
            rw [this] at hi
            rw [show i0 - kvs.length = 0 by omega] at hkk
            simp at hi hkk
            rw [← hi.2, ← hkk.2]
            exact hx m hm hgm)
      refine OpSim.run (n := .skip) (v := undef) ?_ (.inr ⟨rfl, rfl⟩) s1 (.refl _) s2 .val
      unfold execOp
      rcases ho with ho | ho <;> simp only [ho, hmv, hkv] <;>
      simp [Instr.mapUpdate, run_underlying hu, MapKept.run_getObj_map q4, hc, f2, MapKept.run_setObj_map _ q4, setObjW]
    · have hputl : putM kv (e x) l = l.map fun y => if keyEq kv y.1 = true then (y.1, e x) else y := by unfold putM; rw [f1]
      obtain ⟨s1, s2⟩ := H.setMap hg her q3 q4 (l' := putM kv (e x) l) (q5.put (v := a.eval x) q6 hsk f5 f6)
        (fun y hy => by
          obtain ⟨z, hz, rfl⟩ := List.mem_map.1 hy
          split
          · exact q6 z hz
          · exact q6 z hz)
        (by
          rw [hputl]
          have e1 : ∀ {β : Type} (u : List (Value × β)) (y : β), (u.map fun z => if keyEq kv z.1 = true then (z.1, y) else z).map (·.1) = u.map (·.1) := fun u y => by
            rw [List.map_map]; congr 1; funext z; simp only [Function.comp]; split <;> rfl
          rw [e1, e1, q7])
        (fun m hm hgm i0 k0 k' pv v hi hkk => by
          rw [hputl, List.getElem?_map, Option.map_eq_some_iff] at hi
          rw [List.getElem?_map, Option.map_eq_some_iff] at hkk
          obtain ⟨⟨k1, p1⟩, h10, h11⟩ := hi
          obtain ⟨⟨k2, v2⟩, h12, h13⟩ := hkk
          have h14 : (kvs.map (·.1))[i0]? = some k1 := by rw [q7, List.getElem?_map, h10]; rfl
          rw [List.getElem?_map, h12] at h14
          simp only [Option.map_some, Option.some.injEq] at h14
          subst h14
          by_cases hq : keyEq kv k2 = true
          · simp only [hq, if_true, Prod.mk.injEq] at h11 h13
            rw [← h11.2, ← h13.2]
            exact hx m hm hgm
          · rw [if_neg hq] at h11 h13
            simp only [Prod.mk.injEq] at h11 h13
            rw [← h11.2, ← h13.2]
            exact hold m hm hgm i0 k2 k2 p1 v2 h10 h12)
      refine OpSim.run (n := .skip) (v := undef) ?_ (.inr ⟨rfl, rfl⟩) s1 (.refl _) s2 .val
      have f5' : es[i]? = some e' := by simpa using f5
      unfold execOp
      rcases ho with ho | ho <;> simp only [ho, hmv, hkv] <;>
      simp [Instr.mapUpdate, run_underlying hu, MapKept.run_getObj_map q4, hc, f4, f5', f6, hst, MapKept.run_setObj_map _ q4, setObjW]
/-- The entries that are left, in both readings. -/
theorem left_sim {R : PV → Value → Prop} (kv : Value) : ∀ {kvs : List (Value × Value)} {l : List (Value × PV)}, kvs.map (·.1) = l.map (·.1) → (∀ (i : Nat) (k k' : Value) (pv : PV) (v : Value), l[i]? = some (k, pv) → kvs[i]? = some (k', v) → R pv v) →
    (kvs.filter fun x => !keyEq kv x.1).map (·.1) = (delM kv l).map (·.1) ∧ ∀ (i : Nat) (k k' : Value) (pv : PV) (v : Value), (delM kv l)[i]? = some (k, pv) → (kvs.filter fun x => !keyEq kv x.1)[i]? = some (k', v) → R pv v
  | [], [], _, _ => ⟨rfl, fun i k k' pv v h => by simp [delM] at h⟩
  | [], x :: l, h1, _ => by simp at h1
  | y :: ys, [], h1, _ => by simp at h1
  | (y1, y2) :: ys, (x1, x2) :: l, h1, h2 => by
    simp only [List.map_cons, List.cons.injEq] at h1
    obtain ⟨rfl, h1'⟩ := h1
    obtain ⟨i1, i2⟩ := left_sim kv h1' fun i k k' pv v e1 e2 => h2 (i + 1) k k' pv v (by simpa using e1) (by simpa using e2)
    unfold delM at i1 i2 ⊢
    cases hq : keyEq kv y1 with
    | true => simp only [List.filter_cons, hq, Bool.not_true, Bool.false_eq_true, if_false]; exact ⟨i1, i2⟩
    | false =>
      simp only [List.filter_cons, hq, Bool.not_false, if_true, List.map_cons]
      refine ⟨by rw [i1], fun i k k' pv v e1 e2 => ?_⟩
      cases i with
      | zero => simp at e1 e2; rw [← e1.2, ← e2.2]; exact h2 0 y1 y1 x2 y2 rfl rfl
      | succ i => exact i2 i k k' pv v (by simpa using e1) (by simpa using e2)
theorem sim_delete (H : HRel N0 lv ρ G w) {o : Oper} {a : Act} {e : Operand → PV} (he : ∀ x, RV (Pr N0 ρ) w ρ (e x) (a.eval x)) {t kt et tk : TypeId} {m k : Operand} (ho : o.op = .call ⟨.builtin .delete, #[m, k], #[t, tk]⟩)
    (hu : P.underlying t = some (.map kt et)) {G' : List GO} (h : strikeM P kt G (e m) (keyV (e k)) = some G') : OpSim P N0 lv ρ w o a (.tup []) G' := by
  have ham := he m
  unfold strikeM at h
  split at h
  case h_2 => cases h
  rename_i g gen kv s hm hk hT
  split at h
  case h_2 => cases h
  rename_i gen' s' l hg
  split at h
  case isFalse => cases h
  rename_i hc
  obtain ⟨rfl, rfl, hsk⟩ := hc
  simp only [Option.some.injEq] at h
  subst h
  have hkv := keyV_sim hk (he k)
  rw [hm] at ham
  generalize hmv : a.eval m = mv at ham
  cases ham with
  | mp er her hgen hval =>
    obtain ⟨q1, q2, b, es, clock, kvs, q3, q4, q5, q6, q7, q8⟩ := H.at hg her
    obtain ⟨b', hb', rfl⟩ := hval q1.symm q2
    rw [q3] at hb'
    cases hb'
    have hc := key_check hT hsk (P := P) es.isEmpty w
    have tup0 : ∀ {w' : World}, RV (Pr N0 ρ) w' ρ (.tup []) (.tuple #[]) := fun {w'} => .tup rfl fun j pv hj => by simp at hj
    have hkk : ∀ {x : Value × Value}, x ∈ kvs → (keyEq kv x.1 = true ↔ kv = x.1) := fun {x} hx => keyEq_iff hsk (q6 x hx)
    have hflt : ∀ {kvs2 : List (Value × Value)} (m : Nat), kvs2.map (·.1) = l.map (·.1) → (∀ (i : Nat) (k k' : Value) (pv : PV) (v : Value), l[i]? = some (k, pv) → kvs2[i]? = some (k', v) → RV (Pr N0 ρ) w (ρ.take m) pv v) →
        (kvs2.filter fun x => !keyEq kv x.1).map (·.1) = (delM kv l).map (·.1) ∧ ∀ (i : Nat) (k k' : Value) (pv : PV) (v : Value), (delM kv l)[i]? = some (k, pv) → (kvs2.filter fun x => !keyEq kv x.1)[i]? = some (k', v) → RV (Pr N0 ρ) w (ρ.take m) pv v := fun {kvs2} m h1 h2 =>
      left_sim kv h1 h2
    have hold : ∀ m, (m = G.length ∨ m ∈ lv) → g < m → ∀ (i : Nat) (k k' : Value) (pv : PV) (v : Value), l[i]? = some (k, pv) → kvs[i]? = some (k', v) → RV (Pr N0 ρ) w (ρ.take m) pv v := fun m hm hgm => by
      obtain ⟨_, _, b2, es2, clock2, kvs2, r3, r4, r5, r6, r7, r8⟩ := H.obj m hm g _ er hgm hg her
      rw [q3] at r3
      cases r3
      rw [q4] at r4
      cases r4
      intro i k0 k' pv v hi hkk
      have h10 : (kvs2.map (·.1))[i]? = some k0 := by rw [r7, List.getElem?_map, hi]; rfl
      rw [List.getElem?_map, Option.map_eq_some_iff] at h10
      obtain ⟨⟨k2, v2⟩, h11, h12⟩ := h10
      simp only at h12
      subst h12
      have h13 : (kvs.map (·.1))[i]? = some k2 := by rw [q7, List.getElem?_map, hi]; rfl
      rw [List.getElem?_map, hkk] at h13
      simp only [Option.map_some, Option.some.injEq] at h13
      subst h13
      have h14 : (k', v2) ∈ kvs := q5.2.mem_iff.1 (r5.2.mem_iff.2 (List.mem_of_getElem? h11))
      have h15 := nodup_fst q5.keys h14 (List.mem_of_getElem? hkk)
      subst h15
      exact r8 i k' k' pv v2 hi h11
    have hshape : ∀ x ∈ kvs.filter (fun x => !keyEq kv x.1), shapeV x.1 = some s' := fun x hx => q6 x (List.mem_filter.1 hx).1
    rcases find_sim hT hsk q5 q6 q7 w with ⟨f1, f2, f3, f4⟩ | ⟨i, j, pv', v, f1, f2, f3, f4, e', f5, f6, f7⟩
    · have hsame : kvs.filter (fun x => !keyEq kv x.1) = kvs := List.filter_eq_self.2 fun x hx => by
        cases hq : keyEq kv x.1 with
        | true => exact absurd ((hkk hx).1 hq).symm (f4 x hx)
        | false => rfl
      have hM : MapC es clock (kvs.filter fun x => !keyEq kv x.1) := by rw [hsame]; exact q5
      obtain ⟨s1, s2⟩ := H.setMap hg her q3 q4 (l' := delM kv l) hM hshape ((hflt G.length q7 (hold G.length (.inl rfl) (List.getElem?_eq_some_iff.1 hg).1)).1)
        (fun m hm hgm => (hflt m q7 (hold m hm hgm)).2)
      refine OpSim.run (n := .value (.tuple #[])) (v := .tuple #[]) ?_ (.inl rfl) s1 (.refl _) s2 tup0
      unfold execOp
      simp only [ho, List.map_toArray, List.map_cons, List.map_nil, hmv, hkv]
      simp [resolve, invoke, builtin, Builtin.delete_, run_underlying hu, MapKept.run_getObj_map q4, hc, f2, MapKept.run_setObj_map _ q4, setObjW, hmv, hkv]
    · obtain ⟨s1, s2⟩ := H.setMap hg her q3 q4 (l' := delM kv l) (q5.strike q6 hsk f5 f6) hshape ((hflt G.length q7 (hold G.length (.inl rfl) (List.getElem?_eq_some_iff.1 hg).1)).1)
        (fun m hm hgm => (hflt m q7 (hold m hm hgm)).2)
      refine OpSim.run (n := .value (.tuple #[])) (v := .tuple #[]) ?_ (.inl rfl) s1 (.refl _) s2 tup0
      unfold execOp
      simp only [ho, List.map_toArray, List.map_cons, List.map_nil, hmv, hkv]
      simp [resolve, invoke, builtin, Builtin.delete_, run_underlying hu, MapKept.run_getObj_map q4, hc, f4, MapKept.run_setObj_map _ q4, setObjW, hmv, hkv]
theorem sim_makeMap {cx : Cx} (H : HRel N0 lv ρ G w) (hlv : ∀ m ∈ lv, m ≤ cx.base) {o : Oper} {a : Act} {t : TypeId} {s : KS} (ho : o.op = .makeMap t none) {g gen : Nat} {G' : List GO} (h : newAt cx G o.dst (.map s []) = some (g, gen, G')) :
    OpSim P N0 lv ρ w o a (.mp g gen) G' := by
  obtain ⟨ρ', hs, hl, hH, hg⟩ := H.new hlv h (w' := w.alloc (.map #[] 0)) (nb := .map #[] 0) (len := 0) (cap := 0) (ad := none) rfl rfl rfl rfl (fun ρ' hs hl =>
    ⟨rfl, rfl, w.heap.size, #[], 0, [], rfl, heap_new w _, ⟨MapKept.stamped_empty 0, by simp⟩, by simp, rfl, fun i k k' pv v hi => by simp at hi⟩)
  refine OpSim.run (n := .value (.map (some w.heap.size))) (v := .map (some w.heap.size)) ?_ (.inl rfl) hs hl hH (.mp _ hg (Nat.le_refl _) fun _ _ => ⟨_, rfl, rfl⟩)
  unfold execOp
  simp [ho, Instr.makeMap]
end
end Go.Proofs.Ythmlfonbfnmalaa.Sh
