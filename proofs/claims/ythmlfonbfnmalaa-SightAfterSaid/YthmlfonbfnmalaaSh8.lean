/- A run of the program over values without memory, and that what it says holds of the program's own run. No condition. -/
import Derived.Test.YthmlfonbfnmalaaSh7
namespace Go.Proofs.Ythmlfonbfnmalaa.Sh
open Go.RowKit
set_option linter.unusedVariables false
set_option linter.unusedSimpArgs false

/-! ### Regions -/
def upd (e : Nat → PV) (d : Option Nat) (v : PV) : Nat → PV := match d with | some t => fun k => if k = t then v else e k | none => e
def wantedP (ops : Array Oper) (o : Oper) (e : Nat → PV) : Option Bool :=
  match o.guard with
  | none => some true
  | some (j, want) => match (ops[j]?).bind (·.dst) with
    | some t => match e t with
      | .val (.bool b) => some (b == want)
      | .val (.tuple _) => some false
      | _ => none
    | none => some false
/-- What the ghost rows hold, out of sight. -/
def blank (x : List PV) : List PV := x.map fun _ => .bad
def hideC : GC → GC
  | .row sz l => .row sz (l.map blank)
  | c => c
def hideRows (G : List GO) : List GO := G.map fun o => ⟨o.gen, hideC o.c⟩
def isStore (o : Oper) : Bool := match o.op with | .store .. => true | _ => false
def isMasked (mask : List Nat) (o : Oper) : Bool :=
  match o.op with
  | .fieldAddr .. | .indexAddr .. | .load .. | .nilCheck _ => (match o.dst with | some t => mask.contains t | none => false)
  | _ => false
def isElt : PV → Bool
  | .elt .. => true
  | _ => false
/-- The ghosts' boxes alone. -/
def boxC : GC → GC
  | .box cs => .box cs
  | _ => .none
def boxesOf (G : List GO) : List GO := G.map fun o => ⟨o.gen, boxC o.c⟩
/-- Operations that look at boxes alone (numbered from a million on in the mask). -/
def isMasked2 (mask : List Nat) (o : Oper) : Bool :=
  match o.op with
  | .fieldAddr .. | .indexAddr .. | .load .. | .nilCheck _ => (match o.dst with | some t => mask.contains (t + 1000000) && !mask.contains t | none => false)
  | _ => false
/-- Operations that turn no box. -/
def keepsBoxes (o : Oper) : Bool :=
  match o.op with
  | .store .. | .mapUpdate .. | .insert .. | .makeMap .. | .makeSlice .. => true
  | .call ⟨.value _, _, _⟩ => true
  | .call ⟨.builtin .append, _, _⟩ => true
  | .call ⟨.builtin .delete, _, _⟩ => true
  | _ => false
def freeSlot (cx : Cx) (G : List GO) (d : Option Nat) : Bool :=
  match d with
  | some t => match slotIx 0 cx.slots t with
    | some k => match G[cx.base + k]? with
      | some ⟨_, .box _⟩ => false
      | _ => true
    | none => true
  | none => true
def guardD (cx : Cx) (o : Oper) (e : Operand → PV) (G : List GO) : Bool :=
  match o.op with
  | .store _ x _ => isElt (e x)
  | .call ⟨.builtin .append, _, _⟩ => freeSlot cx G o.dst
  | .call ⟨.value _, _, _⟩ => freeSlot cx G o.dst
  | .makeMap .. | .makeSlice .. => freeSlot cx G o.dst
  | _ => true
/-- Where the order is drawn: some operations are carried out with the ghost rows out of sight, some with the boxes alone in sight; then stores go into ghost rows alone, and appends turn no box. -/
def opD (cx : Cx) (dr : Bool) (o : Oper) (e : Operand → PV) (G : List GO) : Option (PV × List GO) :=
  if dr = false ∨ cx.mask = [] then opR cx dr o e G
  else if isMasked cx.mask o = true then (valOp cx.P cx.E e (hideRows G) o.op).map fun v => (v, G)
  else if isMasked2 cx.mask o = true then (valOp cx.P cx.E e (boxesOf G) o.op).map fun v => (v, G)
  else if guardD cx o e G = true then opR cx dr o e G else none
/-- Neither makes nor writes ghost blocks. -/
def isStill (slots : List Nat) (o : Oper) : Bool :=
  match o.op with
  | .call ⟨.value _, _, _⟩ => (match o.dst with | some t => (slotIx 0 slots t).isNone | none => true)
  | .box .. | .alloc _ | .store .. | .assign _ => false
  | .call ⟨.builtin .append, _, _⟩ => false
  | .makeMap .. | .mapUpdate .. | .insert .. | .makeSlice .. => false
  | .call ⟨.builtin .delete, _, _⟩ => false
  | _ => true
/-- Looks at no ghost block. -/
def isBlind (slots : List Nat) (o : Oper) : Bool :=
  match o.op with
  | .move _ | .pick .. | .binOp .. | .unOp .. | .convert .. | .extract .. | .field .. | .index .. => true
  | .assign _ => match o.dst with | some t => (slotIx 0 slots t).isNone | none => true
  | .buildSlice _ n _ => n == 0
  | _ => false
def heapOk (slots mask : List Nat) (i j : Oper) : Bool := (isStill slots i && isStill slots j) || isBlind slots i || isBlind slots j || (isStore i && isMasked mask j) || (isMasked mask i && isStore j) || (keepsBoxes i && isMasked2 mask j) || (isMasked2 mask i && keepsBoxes j)
/-- What comes behind the i-th operation, over any number of edges. -/
def reachB (ops : Array Oper) (i : Nat) (acc : List Nat) (j : Nat) : Bool :=
  decide (i < j) && (match ops[j]? with | some o => o.after.any (fun x => Region.binds .any x && (x.on == i || acc.contains x.on)) | none => false)
def reachF (ops : Array Oper) (i : Nat) (acc : List Nat) (j : Nat) : List Nat := if reachB ops i acc j = true then j :: acc else acc
def reach (ops : Array Oper) (i : Nat) : List Nat := (List.range ops.size).foldl (reachF ops i) []
/-- The region may be walked in the text's order, whatever order is drawn. -/
def lexOk (slots mask : List Nat) (ops : Array Oper) : Bool :=
  Region.lexB .any ops && (List.range ops.size).all fun i => (List.range ops.size).all fun j => match ops[i]?, ops[j]? with
    | some a, some b => decide (j ≤ i) || b.after.any (fun x => Region.binds .any x && x.on == i) || heapOk slots mask a b || (reach ops i).contains j
    | _, _ => true

abbrev St := (Nat → PV) × List GO
def step1 (cx : Cx) (nt : Nat) (dr : Bool) (ops : Array Oper) (o : Oper) (s : St) : Option St :=
  match wantedP ops o s.1 with
  | some true => match opD cx dr o (evl s.1) s.2 with
    | some (v, G') => if o.dst.all (· < nt) = true then some (upd s.1 o.dst v, G') else none
    | none => none
  | some false => if o.dst.all (· < nt) = true then some (upd s.1 o.dst (.val undef), s.2) else none
  | none => none
def steps (cx : Cx) (nt : Nat) (dr : Bool) (ops : Array Oper) : List Oper → St → Option St
  | [], s => some s
  | o :: r, s => (step1 cx nt dr ops o s).bind (steps cx nt dr ops r)

structure Rel (N0 : Nat → Prop) (lv : List Nat) (nt : Nat) (ρ : List RR) (s : St) (a : Act) (w : World) : Prop where
  defs : a.defers = []
  nt : a.tmps.size = nt
  env : ∀ t, RV (Pr N0 ρ) w ρ (s.1 t) (a.tmps.getD t undef)
  heap : HRel N0 lv ρ s.2 w

section
variable {P : Program} {N0 : Nat → Prop} {lv : List Nat} {nt : Nat} {ρ : List RR} {w : World} {s : St} {a : Act} {cx : Cx} {ops : Array Oper}

theorem Rel.ev (h : Rel N0 lv nt ρ s a w) (x : Operand) : RV (Pr N0 ρ) w ρ (evl s.1 x) (a.eval x) := by
  cases x with
  | tmp t => exact h.env t
  | const v => exact .ofCv v
  | func f => exact .clo rfl fun j pv hj => by simp at hj
  | global g => exact .bad

theorem Rel.put (h : Rel N0 lv nt ρ s a w) {w' : World} {ρ' : List RR} {G' : List GO} {d : Option Nat} {pv : PV} {v : Value} (hs : Step ρ w ρ' w') (hl : LLe ρ ρ') (hH : HRel N0 lv ρ' G' w') (hv : RV (Pr N0 ρ') w' ρ' pv v)
    (hd : d.all (· < nt) = true) : Rel N0 lv nt ρ' (upd s.1 d pv, G') (a.put d v) w' where
  defs := by cases d <;> exact h.defs
  nt := by cases d <;> simp [Act.put, h.nt]
  env := fun t => by
    cases d with
    | none => exact (h.env t).step hs hl
    | some k =>
      have hk : k < a.tmps.size := by rw [h.nt]; simpa using hd
      by_cases ht : t = k
      · subst ht
        simp [upd, Act.put, hk]
        exact hv
      · have h1 := (h.env t).step hs hl
        simp only [upd, if_neg ht, Act.put]
        have : (a.tmps.setIfInBounds k v).getD t undef = a.tmps.getD t undef := by
          simp [Array.getElem?_setIfInBounds_ne (Ne.symm ht)]
        rw [this]
        exact h1
  heap := hH

theorem wanted_sim (h : Rel N0 lv nt ρ s a w) {o : Oper} {b : Bool} (hw : wantedP ops o s.1 = some b) : Region.wanted o (yielded ops a.tmps) = b := by
  unfold wantedP at hw
  unfold Region.wanted
  split at hw
  · rename_i hg
    simp only [Option.some.injEq] at hw
    subst hw
    simp [hg]
  · rename_i j want hg
    simp only [hg]
    split at hw
    · rename_i t ht
      have ht2 := h.env t
      unfold yielded
      rw [ht]
      simp only [Option.bind_some]
      have hget : a.tmps[t]? = some (a.tmps.getD t undef) ∨ (a.tmps[t]? = none ∧ a.tmps.getD t undef = undef) := by
        rcases Nat.lt_or_ge t a.tmps.size with h1 | h1
        · left; simp [h1]
        · right; simp [h1, Array.getElem?_eq_none h1]
      split at hw
      · rename_i b' he
        rw [he] at ht2
        simp only [Option.some.injEq] at hw
        subst hw
        generalize hv : a.tmps.getD t undef = v at *
        cases ht2
        rcases hget with h2 | ⟨h2, h3⟩
        · rw [h2]; rfl
        · cases h3
      · rename_i q he
        rw [he] at ht2
        simp only [Option.some.injEq] at hw
        subst hw
        generalize hv : a.tmps.getD t undef = v at *
        cases ht2
        rcases hget with h2 | ⟨h2, h3⟩
        · rw [h2]; rfl
        · rw [h2]; rfl
      · cases hw
    · rename_i ht
      simp only [Option.some.injEq] at hw
      subst hw
      unfold yielded
      rw [ht]
      rfl

theorem hideRows_get {G : List GO} {g : Nat} {o : GO} (h : (hideRows G)[g]? = some o) : ∃ o', G[g]? = some o' ∧ o = ⟨o'.gen, hideC o'.c⟩ := by
  simp only [hideRows, List.getElem?_map, Option.map_eq_some_iff] at h
  obtain ⟨o', h1, rfl⟩ := h
  exact ⟨o', h1, rfl⟩

theorem HRel.hide {G : List GO} (H : HRel N0 lv ρ G w) : HRel N0 lv ρ (hideRows G) w where
  len := by simp [hideRows, H.len]
  inj := H.inj
  bnd := H.bnd
  dis := H.dis
  lvl := by simpa [hideRows] using H.lvl
  obj := fun m hm g o e hg ho he => by
    obtain ⟨o', h1, rfl⟩ := hideRows_get ho
    have hl : (hideRows G).length = G.length := by simp [hideRows]
    rw [hl] at hm
    obtain ⟨h2, h3⟩ := H.obj m hm g o' e hg h1 he
    refine ⟨h2, ?_⟩
    revert h3
    cases o'.c with
    | none => exact id
    | box cs => exact id
    | map s l => exact id
    | row sz l =>
      rintro ⟨q1, q2, q3, q4, q5⟩
      refine ⟨by simpa using q1, by simpa using q2, fun x hx => ?_, q4, fun b hb => ?_⟩
      · obtain ⟨y, hy, rfl⟩ := List.mem_map.1 hx
        simpa [blank] using q3 y hy
      · obtain ⟨had, vs, el, r1, r2, r3⟩ := q5 b hb
        refine ⟨had, vs, el, r1, r2, fun i j x pv hi hj => ?_⟩
        simp only [List.getElem?_map, Option.map_eq_some_iff] at hi
        obtain ⟨y, _, rfl⟩ := hi
        simp only [blank, List.getElem?_map, Option.map_eq_some_iff] at hj
        obtain ⟨_, _, rfl⟩ := hj
        exact .bad

theorem boxesOf_get {G : List GO} {g : Nat} {o : GO} (h : (boxesOf G)[g]? = some o) : ∃ o', G[g]? = some o' ∧ o = ⟨o'.gen, boxC o'.c⟩ := by
  simp only [boxesOf, List.getElem?_map, Option.map_eq_some_iff] at h
  obtain ⟨o', h1, h2⟩ := h
  exact ⟨o', h1, h2.symm⟩
theorem HRel.boxes {G : List GO} (H : HRel N0 lv ρ G w) : HRel N0 lv ρ (boxesOf G) w where
  len := by simp [boxesOf, H.len]
  inj := H.inj
  bnd := H.bnd
  dis := H.dis
  lvl := by simpa [boxesOf] using H.lvl
  obj := fun m hm g o e hg ho he => by
    obtain ⟨o', h1, rfl⟩ := boxesOf_get ho
    have hl : (boxesOf G).length = G.length := by simp [boxesOf]
    rw [hl] at hm
    obtain ⟨h2, h3⟩ := H.obj m hm g o' e hg h1 he
    refine ⟨h2, ?_⟩
    revert h3
    cases o'.c with
    | box cs => exact id
    | none => exact fun _ => trivial
    | row sz l => exact fun _ => trivial
    | map s l => exact fun _ => trivial
theorem opD_sim {dr : Bool} {G : List GO} (hP : cx.P = P) (hE : EqOk P cx.E) (hC : CallOk P cx.call) (H : HRel N0 lv ρ G w) (hlv : ∀ m ∈ lv, m ≤ cx.base) {o : Oper} {a : Act} {e : Operand → PV}
    (he : ∀ x, RV (Pr N0 ρ) w ρ (e x) (a.eval x)) {r : PV} {G' : List GO} (h : opD cx dr o e G = some (r, G')) : OpSim P N0 lv ρ w o a r G' := by
  unfold opD at h
  split at h
  · exact opR_sim hP hE hC H hlv he h
  · split at h
    · simp only [Option.map_eq_some_iff] at h
      obtain ⟨v, hv, hh⟩ := h
      cases hh
      subst hP
      exact OpSim.gets H (valOp_sim (fun _ => rfl) hE H.hide he rfl hv)
    · split at h
      · simp only [Option.map_eq_some_iff] at h
        obtain ⟨v, hv, hh⟩ := h
        cases hh
        subst hP
        exact OpSim.gets H (valOp_sim (fun _ => rfl) hE H.boxes he rfl hv)
      · split at h
        · exact opR_sim hP hE hC H hlv he h
        · cases h

/-- The operations in the text's order. -/
theorem step1_sim (hP : cx.P = P) (hE : EqOk P cx.E) (hC : CallOk P cx.call) (hlv : ∀ m ∈ lv, m ≤ cx.base) {dr : Bool} (h : Rel N0 lv nt ρ s a w) {o : Oper} {s' : St} (hs : step1 cx nt dr ops o s = some s') {K : Act → World → Prop} {Q : Exit → Act → World → Prop}
    (hK : ∀ ρ' a' w', Step ρ w ρ' w' → LLe ρ ρ' → Rel N0 lv nt ρ' s' a' w' → K a' w') :
    (Region.wanted o (yielded ops a.tmps) = true ∧ o.wp P a w K Q) ∨ (Region.wanted o (yielded ops a.tmps) = false ∧ K (a.put o.dst undef) w) := by
  unfold step1 at hs
  split at hs
  · rename_i hw
    left
    refine ⟨wanted_sim h hw, ?_⟩
    split at hs
    · rename_i v G' hr
      split at hs
      · rename_i hd
        simp only [Option.some.injEq] at hs
        subst hs
        exact opD_sim hP hE hC h.heap hlv h.ev hr K Q fun v' w' ρ' h1 h2 h3 h4 => hK ρ' _ w' h1 h2 (h.put h1 h2 h3 h4 hd)
      · cases hs
    · cases hs
  · rename_i hw
    right
    refine ⟨wanted_sim h hw, ?_⟩
    split at hs
    · rename_i hd
      simp only [Option.some.injEq] at hs
      subst hs
      exact hK ρ _ w (.refl _ _) (.refl _) (h.put (.refl _ _) (.refl _) h.heap .val hd)
    · cases hs
  · cases hs

theorem steps_sim (hP : cx.P = P) (hE : EqOk P cx.E) (hC : CallOk P cx.call) (hlv : ∀ m ∈ lv, m ≤ cx.base) {dr : Bool} {Q : Exit → Act → World → Prop} : ∀ (l : List Oper) (k : Nat) (ρ : List RR) (s s' : St) (a : Act) (w : World), (∀ j, l[j]? = ops[k + j]?) →
    Rel N0 lv nt ρ s a w → steps cx nt dr ops l s = some s' → (∀ ρ' a' w', Step ρ w ρ' w' → LLe ρ ρ' → Rel N0 lv nt ρ' s' a' w' → Q .normal a' w') → wpOps P ops Q ((List.range' k l.length)) a w
  | [], k, ρ, s, s', a, w, _, h, hs, hQ => by
    simp only [steps, Option.some.injEq] at hs
    subst hs
    exact hQ ρ a w (.refl _ _) (.refl _) h
  | o :: l, k, ρ, s, s', a, w, hl, h, hs, hQ => by
    have h0 : ops[k]? = some o := by simpa using (hl 0).symm
    simp only [steps, Option.bind_eq_some_iff] at hs
    obtain ⟨s1, hs1, hs2⟩ := hs
    have hl' : ∀ j, l[j]? = ops[k + 1 + j]? := fun j => by have := hl (j + 1); simpa [Nat.add_assoc, Nat.add_comm 1 j] using this
    have := step1_sim (Q := Q) hP hE hC hlv h hs1 (K := wpOps P ops Q (List.range' (k + 1) l.length)) fun ρ' a' w' h1 h2 h3 =>
      steps_sim hP hE hC hlv l (k + 1) ρ' s1 s' a' w' hl' h3 hs2 fun ρ2 a2 w2 k1 k2 k3 => hQ ρ2 a2 w2 (h1.trans k1) (h2.trans k2) k3
    rw [List.length_cons, List.range'_succ]
    simp only [wpOps, h0]
    rcases this with ⟨h1, h2⟩ | ⟨h1, h2⟩
    · rw [if_pos h1]; exact .inl h2
    · rw [if_neg (by rw [h1]; exact Bool.false_ne_true)]; exact h2

theorem region_sim (hP : cx.P = P) (hE : EqOk P cx.E) (hC : CallOk P cx.call) (hlv : ∀ m ∈ lv, m ≤ cx.base) {dr : Bool} (h : Rel N0 lv nt ρ s a w) {s' : St} (hs : steps cx nt dr ops ops.toList s = some s') {id : Nat} {Q : Exit → Act → World → Prop}
    (hQ : ∀ ρ' a' w', Step ρ w ρ' w' → LLe ρ ρ' → Rel N0 lv nt ρ' s' a' w' → Q .normal a' w') : (Code.region id ops false).wp P Q a w := by
  refine wp_region ?_
  have := steps_sim (ops := ops) hP hE hC hlv ops.toList 0 ρ s s' a w (fun j => by simp) h hs hQ
  simpa [List.range_eq_range'] using this
end
end Go.Proofs.Ythmlfonbfnmalaa.Sh
