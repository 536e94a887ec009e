/- A run of the program over values without memory, and that what it says holds of the program's own run. No condition. -/
import Derived.Test.YthmlfonbfnmalaaSh8
namespace Go.Proofs.Ythmlfonbfnmalaa.Sh
open Go.RowKit
set_option linter.unusedVariables false
set_option linter.unusedSimpArgs false

theorem valOp_congr {P : Program} {E : TypeId → Option (List Nat)} {e e' : Operand → PV} {G : List GO} (op : Op) (h : ∀ x ∈ op.operands, e x = e' x) : valOp P E e G op = valOp P E e' G op := by
  have pairs : ∀ ps : Array (Nat × Operand), (∀ x ∈ (ps.toList.map (·.2)).toArray, e x = e' x) →
      (ps.toList.map fun (i, x) => (i, e x)) = (ps.toList.map fun (i, x) => (i, e' x)) := fun ps hp =>
    List.map_congr_left fun p hm => by
      obtain ⟨i, x⟩ := p
      simp only [hp x (by simp; exact ⟨i, by simpa using hm⟩)]
  cases op <;> simp only [Op.operands] at h <;> simp only [valOp]
  case build t ps => rw [pairs ps h]
  case buildSlice t n ps => rw [pairs ps h]
  case slice t x lo hi mx =>
    cases mx <;> simp only [valOp]
    cases lo <;> cases hi <;> simp_all
  case makeFunc fn first captured =>
    cases fn <;> simp only [valOp]
    have : captured.toList.map e = captured.toList.map e' := List.map_congr_left fun x hx => h x (by simp at hx; simp [hx])
    rw [this]
  case call c =>
    obtain ⟨callee, args, ts⟩ := c
    have ha : args.toList.map e = args.toList.map e' := List.map_congr_left fun x hx => h x (by simp at hx; simp [Call.operands, hx])
    cases callee with
    | builtin b =>
      cases b <;> simp only [valOp, ha]
      case len =>
        split
        · rename_i x t h1 h2
          have hx : e x = e' x := h x (by
            have : x ∈ args.toList := by rw [h1]; simp
            simp at this
            simp [Call.operands, this])
          rw [hx]
        · rfl
    | _ => rfl
  all_goals (first | rfl | (simp_all; done))

theorem appOp_congr {cx : Cx} {G : List GO} {d : Option Nat} {e e' : Operand → PV} {args : List Operand} {ts : List TypeId} (h : ∀ x ∈ args, e x = e' x) : appOp cx G d e args ts = appOp cx G d e' args ts := by
  unfold appOp
  split
  · rename_i s x t tx
    rw [h s (by simp), h x (by simp)]
  · rfl

theorem opR_congr {cx : Cx} {dr : Bool} {o : Oper} {e e' : Operand → PV} {G : List GO} (h : ∀ x ∈ o.op.operands, e x = e' x) : opR cx dr o e G = opR cx dr o e' G := by
  obtain ⟨dst, op, type, pos, after, guard⟩ := o
  simp only at h
  cases op
  case box t x => simp only [opR]; rw [h x (by simp [Op.operands])]
  case alloc t => simp only [opR]
  case store t x y => simp only [opR]; rw [h x (by simp [Op.operands]), h y (by simp [Op.operands])]
  case assign x => simp only [opR]; rw [h x (by simp [Op.operands])]
  case makeMap t r => cases r <;> simp only [opR] <;> rfl
  case mapUpdate t m k x => simp only [opR]; rw [h m (by simp [Op.operands]), h k (by simp [Op.operands]), h x (by simp [Op.operands])]
  case insert t m k x => simp only [opR]; rw [h m (by simp [Op.operands]), h k (by simp [Op.operands]), h x (by simp [Op.operands])]
  case makeSlice t l c => simp only [opR]; rw [h l (by simp [Op.operands]), h c (by simp [Op.operands])]
  case call c =>
    obtain ⟨callee, args, ts⟩ := c
    have ha : ∀ x ∈ args, e x = e' x := fun x hx => h x (by simp [Op.operands, Call.operands, hx])
    cases callee with
    | value f =>
      simp only [opR]
      have hf : e f = e' f := h f (by simp [Op.operands, Call.operands])
      have hm : args.toList.map e = args.toList.map e' := List.map_congr_left fun x hx => ha x (by simpa using hx)
      rw [hf, hm]
    | builtin b =>
      by_cases hb : b = .append
      · subst hb
        simp only [opR]
        exact appOp_congr fun x hx => ha x (by simpa using hx)
      by_cases hb2 : b = .delete
      · subst hb2
        simp only [opR]
        split
        · rename_i m k t tk h1 h2
          have e1 : e m = e' m := ha m (by have : m ∈ args.toList := by rw [h1]; simp
                                           simpa using this)
          have e2 : e k = e' k := ha k (by have : k ∈ args.toList := by rw [h1]; simp
                                           simpa using this)
          rw [e1, e2]
        · rfl
      · have h1 : ∀ e : Operand → PV, opR cx dr ⟨dst, .call ⟨.builtin b, args, ts⟩, type, pos, after, guard⟩ e G = (valOp cx.P cx.E e G (.call ⟨.builtin b, args, ts⟩)).map fun v => (v, G) := fun e => by
          cases b <;> first | rfl | exact absurd rfl hb | exact absurd rfl hb2
        rw [h1, h1, valOp_congr _ h]
    | invoke r m => simp only [opR]; rw [valOp_congr _ h]
  all_goals (simp only [opR]; rw [valOp_congr _ h])

theorem callP_still {cx : Cx} {f : FuncId} {args : List PV} {G : List GO} {r : PV} {G' : List GO} (h : callP cx true f args G = some (r, G')) : G' = G := by
  unfold callP at h
  split at h
  · split at h
    · split at h
      · split at h
        · cases h; rfl
        · cases h
      · simp at h
      · simp at h
    · simp at h
  · cases h

theorem not_slotted {cx : Cx} {d : Option Nat} (h : (match d with | some t => (slotIx 0 cx.slots t).isNone | none => true) = true) : slotted cx d = false := by
  unfold slotted
  cases d with
  | none => rfl
  | some t => simp only at h ⊢; cases hx : slotIx 0 cx.slots t <;> simp_all
theorem opR_still {cx : Cx} {o : Oper} {e : Operand → PV} {G : List GO} {r : PV} {G' : List GO} (hst : isStill cx.slots o = true) (h : opR cx true o e G = some (r, G')) : G' = G := by
  unfold opR at h
  unfold isStill at hst
  split at h
  · simp_all
  · simp_all
  · simp_all
  · simp_all
  · simp_all
  · simp_all
  · simp_all
  · simp_all
  · simp_all
  · simp_all
  · rename_i f args ts ho
    simp only [ho] at hst
    split at h
    · unfold callPS at h
      rw [if_neg (by rw [not_slotted hst]; exact Bool.false_ne_true)] at h
      exact callP_still h
    · cases h
  · simp only [Option.map_eq_some_iff] at h
    obtain ⟨v, _, hh⟩ := h
    cases hh
    rfl

theorem opD_congr {cx : Cx} {dr : Bool} {o : Oper} {e e' : Operand → PV} {G : List GO} (h : ∀ x ∈ o.op.operands, e x = e' x) : opD cx dr o e G = opD cx dr o e' G := by
  unfold opD
  rw [opR_congr h, valOp_congr o.op h]
  split
  · rfl
  · split
    · rfl
    · split
      · rw [valOp_congr o.op h]
      · have : guardD cx o e G = guardD cx o e' G := by
          unfold guardD
          split
          · rename_i t x y ho
            rw [h x (by rw [ho]; simp [Op.operands])]
          all_goals rfl
        rw [this]
theorem opD_still {cx : Cx} {o : Oper} {e : Operand → PV} {G : List GO} {r : PV} {G' : List GO} (hst : isStill cx.slots o = true) (h : opD cx true o e G = some (r, G')) : G' = G := by
  unfold opD at h
  split at h
  · exact opR_still hst h
  · split at h
    · simp only [Option.map_eq_some_iff] at h
      obtain ⟨v, _, hh⟩ := h
      cases hh
      rfl
    · split at h
      · simp only [Option.map_eq_some_iff] at h
        obtain ⟨v, _, hh⟩ := h
        cases hh
        rfl
      · split at h
        · exact opR_still hst h
        · cases h

theorem newAt_none {cx : Cx} {G : List GO} {d : Option Nat} {c : GC} (h : (match d with | some t => (slotIx 0 cx.slots t).isNone | none => true) = true) : newAt cx G d c = none := by
  unfold newAt
  cases d with
  | none => rfl
  | some t =>
    cases hi : slotIx 0 cx.slots t with
    | none => simp [hi]
    | some k => simp [hi] at h

theorem opR_blind {cx : Cx} {dr : Bool} {o : Oper} {e : Operand → PV} {G : List GO} {r : PV} {G' : List GO} (hb : isBlind cx.slots o = true) (h : opR cx dr o e G = some (r, G')) : G' = G ∧ ∀ G2, opR cx dr o e G2 = some (r, G2) := by
  obtain ⟨dst, op, type, pos, after, guard⟩ := o
  unfold isBlind at hb
  cases op <;> simp only at hb <;> try (cases hb; done)
  case assign x =>
    simp only [opR] at h ⊢
    generalize e x = q at *
    cases q with
    | emp =>
      simp only at h ⊢
      split at h
      · rename_i el hu
        try simp only [hu]
        split at h
        · rename_i sz hsz
          try simp only [hsz]
          have hn : ∀ G2, newAt cx G2 dst (.row sz []) = none := fun G2 => newAt_none hb
          rw [hn] at h
          simp only [Option.some.injEq, Prod.mk.injEq] at h
          obtain ⟨rfl, rfl⟩ := h
          exact ⟨rfl, fun G2 => by rw [hn]⟩
        · cases h
      · rename_i hu
        simp only [Option.some.injEq, Prod.mk.injEq] at h
        obtain ⟨rfl, rfl⟩ := h
        refine ⟨rfl, fun G2 => ?_⟩
        rfl
    | _ => simp only [Option.some.injEq, Prod.mk.injEq] at h; obtain ⟨rfl, rfl⟩ := h; exact ⟨rfl, fun G2 => rfl⟩
  case buildSlice t n ps =>
    have hn : n = 0 := by simpa using hb
    subst hn
    have key : ∀ G2, valOp cx.P cx.E e G2 (.buildSlice t 0 ps) = valOp cx.P cx.E e G (.buildSlice t 0 ps) := fun G2 => by
      simp only [valOp, if_true]
    simp only [opR, Option.map_eq_some_iff] at h ⊢
    obtain ⟨v, hv, hh⟩ := h
    cases hh
    exact ⟨rfl, fun G2 => ⟨_, (key G2).trans hv, rfl⟩⟩
  all_goals
    simp only [opR, valOp, Option.map_eq_some_iff] at h ⊢
    obtain ⟨v, hv, hh⟩ := h
    cases hh
    exact ⟨rfl, fun G2 => ⟨_, hv, rfl⟩⟩

theorem opD_blind {cx : Cx} {dr : Bool} {o : Oper} {e : Operand → PV} {G : List GO} {r : PV} {G' : List GO} (hb : isBlind cx.slots o = true) (h : opD cx dr o e G = some (r, G')) : G' = G ∧ ∀ G2, opD cx dr o e G2 = some (r, G2) := by
  have hm : isMasked cx.mask o = false := by
    unfold isBlind at hb
    unfold isMasked
    cases ho : o.op <;> simp [ho] at hb ⊢
  have hm2 : isMasked2 cx.mask o = false := by
    unfold isBlind at hb
    unfold isMasked2
    cases ho : o.op <;> simp [ho] at hb ⊢
  have hgd : ∀ G2, guardD cx o e G2 = true := fun G2 => by
    unfold isBlind at hb
    unfold guardD
    cases ho : o.op <;> simp [ho] at hb ⊢
  have key : ∀ G2, opD cx dr o e G2 = opR cx dr o e G2 := fun G2 => by
    unfold opD
    rw [hm, hm2, hgd]
    simp
  rw [key] at h
  obtain ⟨h1, h2⟩ := opR_blind hb h
  exact ⟨h1, fun G2 => by rw [key]; exact h2 G2⟩

theorem blank_over {y xs : List PV} {k : Nat} (h : k + xs.length ≤ y.length) : blank (over y k xs) = blank y := by
  apply List.ext_getElem?
  intro j
  simp only [blank, List.getElem?_map]
  have hl : (over y k xs).length = y.length := by simp [over]; omega
  rcases Nat.lt_or_ge j y.length with h1 | h1
  · rw [List.getElem?_eq_getElem h1, List.getElem?_eq_getElem (by omega)]
    rfl
  · rw [List.getElem?_eq_none h1, List.getElem?_eq_none (by omega)]
theorem hide_set {G : List GO} {g gen sz i k : Nat} {l : List (List PV)} {y xs : List PV} (h : G[g]? = some ⟨gen, .row sz l⟩) (hi : l[i]? = some y) (hk : k + xs.length ≤ y.length) :
    hideRows (G.set g ⟨gen, .row sz (l.set i (over y k xs))⟩) = hideRows G := by
  have hl : (l.set i (over y k xs)).map blank = l.map blank := by
    apply List.ext_getElem?
    intro j
    rw [List.getElem?_map, List.getElem?_map]
    by_cases hj : j = i
    · subst hj
      rw [List.getElem?_set_self (List.getElem?_eq_some_iff.1 hi).1, hi]
      simp [blank_over hk]
    · rw [List.getElem?_set_ne (Ne.symm hj)]
  unfold hideRows
  apply List.ext_getElem?
  intro j
  rw [List.getElem?_map, List.getElem?_map]
  by_cases hj : j = g
  · subst hj
    rw [List.getElem?_set_self (List.getElem?_eq_some_iff.1 h).1, h]
    simp [hideC, hl]
  · rw [List.getElem?_set_ne (Ne.symm hj)]

/-- A store where some operations are carried out with the ghost rows out of sight. -/
theorem opD_guard {cx : Cx} {o : Oper} {e : Operand → PV} {G : List GO} {r : PV × List GO} (hm : cx.mask ≠ []) (h1 : isMasked cx.mask o = false) (h2 : isMasked2 cx.mask o = false) (h : opD cx true o e G = some r) : guardD cx o e G = true ∧ opR cx true o e G = some r := by
  unfold opD at h
  rw [if_neg (by simp [hm]), if_neg (by simp [h1]), if_neg (by simp [h2])] at h
  cases hg : guardD cx o e G with
  | true => rw [hg] at h; exact ⟨rfl, h⟩
  | false => rw [hg] at h; cases h
theorem store_hide {cx : Cx} {o : Oper} {e : Operand → PV} {G : List GO} {r : PV} {G' : List GO} (hs : isStore o = true) (hm : cx.mask ≠ []) (h : opD cx true o e G = some (r, G')) : hideRows G' = hideRows G := by
  obtain ⟨dst, op, type, pos, after, guard⟩ := o
  cases op <;> simp only [isStore] at hs <;> try (cases hs; done)
  rename_i t x y
  obtain ⟨he, h⟩ := opD_guard hm rfl rfl h
  · have he : isElt (e x) = true := he
    simp only [opR] at h
    split at h
    · rename_i xs hx
      split at h
      · simp only [Option.map_eq_some_iff] at h
        obtain ⟨G2, hst, hh⟩ := h
        cases hh
        generalize e x = q at *
        cases q with
        | elt g gen n sz i k =>
          simp only [storeG] at hst
          split at hst
          · rename_i gen' sz' l hg
            split at hst
            · rename_i hc
              obtain ⟨rfl, _, rfl, _⟩ := hc
              split at hst
              · rename_i y hy
                split at hst
                · rename_i hk
                  cases hst
                  exact hide_set hg hy hk
                · cases hst
              · cases hst
            · cases hst
          · cases hst
        | _ => simp [isElt] at he
      · cases h
    · cases h

theorem masked_hide {cx : Cx} {o : Oper} {e : Operand → PV} {G G2 : List GO} {r : PV} {G' : List GO} (hk : isMasked cx.mask o = true) (hm : cx.mask ≠ []) (h : opD cx true o e G = some (r, G')) (hh : hideRows G2 = hideRows G) : G' = G ∧ opD cx true o e G2 = some (r, G2) := by
  unfold opD at h ⊢
  rw [if_neg (by simp [hm]), if_pos hk] at h
  rw [if_neg (by simp [hm]), if_pos hk, hh]
  simp only [Option.map_eq_some_iff] at h ⊢
  obtain ⟨v, h1, h2⟩ := h
  cases h2
  exact ⟨rfl, _, h1, rfl⟩

theorem masked_ne {mask : List Nat} {o : Oper} (h : isMasked mask o = true) : mask ≠ [] := fun e => by
  subst e
  unfold isMasked at h
  split at h
  all_goals first | (split at h <;> simp at h) | simp at h

/-! ### Operations that look at boxes alone, beside those that turn none -/
def boxAt (G : List GO) (g : Nat) : Option GO :=
  match G[g]? with
  | some ⟨gen, .box cs⟩ => some ⟨gen, .box cs⟩
  | _ => none
def boxLike (G G2 : List GO) : Prop := ∀ g, boxAt G g = boxAt G2 g
theorem cells_boxes {G G2 : List GO} (h : boxLike G G2) (v : PV) : cellsAt (boxesOf G) v = cellsAt (boxesOf G2) v := by
  have key : ∀ (G : List GO) (v : PV), cellsAt (boxesOf G) v = match v with
      | .at cs => some cs
      | .box g gen off => (match boxAt G g with
        | some ⟨gen', .box cs⟩ => if gen' = gen then some (cs.drop off) else none
        | _ => none)
      | _ => none := fun G v => by
    cases v <;> simp only [cellsAt]
    case box g gen off =>
      simp only [boxesOf, List.getElem?_map, boxAt]
      cases G[g]? with
      | none => rfl
      | some o =>
        obtain ⟨gn, c⟩ := o
        cases c <;> rfl
    case elt g gen n sz i k =>
      simp only [boxesOf, List.getElem?_map]
      cases G[g]? with
      | none => rfl
      | some o =>
        obtain ⟨gn, c⟩ := o
        cases c <;> rfl
  rw [key, key]
  cases v <;> first | rfl | (simp only [h _])
theorem rows_boxes (G : List GO) (v : PV) : rowOf (boxesOf G) v = match v with | .row sz l => some (sz, l) | _ => none := by
  cases v <;> simp only [rowOf]
  case own g gen n =>
    simp only [boxesOf, List.getElem?_map]
    cases G[g]? with
    | none => rfl
    | some o =>
      obtain ⟨gn, c⟩ := o
      cases c <;> rfl
theorem masked2_boxes {cx : Cx} {o : Oper} {e : Operand → PV} {G G2 : List GO} {r : PV} {G' : List GO} (hk : isMasked2 cx.mask o = true) (hm : cx.mask ≠ []) (h : opD cx true o e G = some (r, G')) (hh : boxLike G G2) : G' = G ∧ opD cx true o e G2 = some (r, G2) := by
  have hn : isMasked cx.mask o = false := by
    obtain ⟨dst, op, type, pos, after, guard⟩ := o
    cases op <;> first | rfl | (cases dst <;> simp_all [isMasked, isMasked2])
  unfold opD at h ⊢
  rw [if_neg (by simp [hm]), if_neg (by simp [hn]), if_pos hk] at h
  rw [if_neg (by simp [hm]), if_neg (by simp [hn]), if_pos hk]
  have hv : valOp cx.P cx.E e (boxesOf G) o.op = valOp cx.P cx.E e (boxesOf G2) o.op := by
    unfold isMasked2 at hk
    split at hk
    all_goals first | (rename_i ho; rw [ho]; simp only [valOp, cells_boxes hh, rows_boxes]; done) | cases hk
  rw [← hv]
  simp only [Option.map_eq_some_iff] at h ⊢
  obtain ⟨v, h1, h2⟩ := h
  cases h2
  exact ⟨rfl, _, h1, rfl⟩
theorem masked2_ne {mask : List Nat} {o : Oper} (h : isMasked2 mask o = true) : mask ≠ [] := fun e => by
  subst e
  unfold isMasked2 at h
  split at h
  all_goals first | (split at h <;> simp at h) | simp at h
theorem box_set {G : List GO} {g : Nat} {o o' : GO} (h : G[g]? = some o) (h1 : ∀ gen cs, o ≠ ⟨gen, .box cs⟩) (h2 : ∀ gen cs, o' ≠ ⟨gen, .box cs⟩) : boxLike (G.set g o') G := fun k => by
  unfold boxAt
  by_cases hk : k = g
  · subst hk
    rw [List.getElem?_set_self (List.getElem?_eq_some_iff.1 h).1, h]
    obtain ⟨a, c⟩ := o
    obtain ⟨a', c'⟩ := o'
    cases c <;> cases c' <;> first | rfl | exact absurd rfl (h1 _ _) | exact absurd rfl (h2 _ _)
  · rw [List.getElem?_set_ne (Ne.symm hk)]
theorem newAt_box {cx : Cx} {G : List GO} {d : Option Nat} {c : GC} {g gen : Nat} {G' : List GO} (hf : freeSlot cx G d = true) (hn : newAt cx G d c = some (g, gen, G')) (hc : ∀ cs, c ≠ .box cs) : boxLike G' G := by
  unfold newAt at hn
  unfold freeSlot at hf
  split at hn
  · rename_i t
    simp only at hf
    split at hn
    · rename_i k hk
      rw [hk] at hf
      simp only at hf
      split at hn
      · rename_i ob hob
        simp only [Option.some.injEq, Prod.mk.injEq] at hn
        obtain ⟨_, _, rfl⟩ := hn
        rw [hob] at hf
        refine box_set hob (fun gn cs hbx => ?_) (fun _ _ h => by cases h; exact hc _ rfl)
        subst hbx
        simp at hf
      · cases hn
    · cases hn
  · cases hn
theorem callS_box {cx : Cx} {f : FuncId} {args : List PV} {G : List GO} {d : Option Nat} {r : PV} {G' : List GO} (hf : freeSlot cx G d = true) (h : callS cx f args G d = some (r, G')) : boxLike G' G := by
  unfold callS at h
  split at h
  · unfold putC at h
    split at h
    · split at h
      · cases h
        exact fun _ => rfl
      · cases h
    · split at h
      · rename_i hp
        split at h
        · rename_i hn
          cases h
          exact newAt_box hf hn (fun cs hcs => by have := hp.2; unfold isRowG at this; rw [hcs] at this; cases this)
        · cases h
      · cases h
    · split at h
      · rename_i hp
        split at h
        · rename_i hn
          cases h
          exact newAt_box hf hn (fun cs hcs => by have := hp.2; unfold isRowG at this; rw [hcs] at this; cases this)
        · cases h
      · cases h
    · cases h
  · cases h
theorem keeps_boxes {cx : Cx} {o : Oper} {e : Operand → PV} {G : List GO} {r : PV} {G' : List GO} (hs : keepsBoxes o = true) (hm : cx.mask ≠ []) (h : opD cx true o e G = some (r, G')) : boxLike G' G := by
  obtain ⟨dst, op, type, pos, after, guard⟩ := o
  cases op <;> simp only [keepsBoxes] at hs <;> try (cases hs; done)
  case store t x y =>
    obtain ⟨he, h⟩ := opD_guard hm rfl rfl h
    · have he : isElt (e x) = true := he
      simp only [opR] at h
      split at h
      · split at h
        · simp only [Option.map_eq_some_iff] at h
          obtain ⟨G2, hst, hh⟩ := h
          cases hh
          generalize e x = q at *
          cases q with
          | elt g gen n sz i k =>
            simp only [storeG] at hst
            split at hst
            · rename_i gen' sz' l hg
              split at hst
              · split at hst
                · split at hst
                  · cases hst
                    exact box_set hg (fun _ _ h => by cases h) (fun _ _ h => by cases h)
                  · cases hst
                · cases hst
              · cases hst
            · cases hst
          | _ => simp [isElt] at he
        · cases h
      · cases h
  case makeMap t c =>
    obtain ⟨hf, h⟩ := opD_guard hm rfl rfl h
    have hf : freeSlot cx G dst = true := hf
    cases c with
    | some c => simp [opR, valOp] at h
    | none =>
      simp only [opR] at h
      split at h
      · split at h
        · split at h
          · rename_i hn
            cases h
            exact newAt_box hf hn (fun cs h => by cases h)
          · cases h
        · cases h
      · cases h
  case makeSlice t l c =>
    obtain ⟨hf, h⟩ := opD_guard hm rfl rfl h
    have hf : freeSlot cx G dst = true := hf
    simp only [opR] at h
    split at h
    · split at h
      · split at h
        · split at h
          · rename_i hn
            cases h
            exact newAt_box hf hn (fun cs h => by cases h)
          · cases h
        · cases h
      · cases h
    · cases h
  case mapUpdate t m k x =>
    obtain ⟨_, h⟩ := opD_guard hm rfl rfl h
    simp only [opR] at h
    split at h
    · simp only [Option.map_eq_some_iff] at h
      obtain ⟨G2, hst, hh⟩ := h
      cases hh
      unfold updM at hst
      split at hst
      · split at hst
        · rename_i hg
          split at hst
          · cases hst
            exact box_set hg (fun _ _ h => by cases h) (fun _ _ h => by cases h)
          · cases hst
        · cases hst
      · cases hst
    · cases h
  case insert t m k x =>
    obtain ⟨_, h⟩ := opD_guard hm rfl rfl h
    simp only [opR] at h
    split at h
    · simp only [Option.map_eq_some_iff] at h
      obtain ⟨G2, hst, hh⟩ := h
      cases hh
      unfold updM at hst
      split at hst
      · split at hst
        · rename_i hg
          split at hst
          · cases hst
            exact box_set hg (fun _ _ h => by cases h) (fun _ _ h => by cases h)
          · cases hst
        · cases hst
      · cases hst
    · cases h
  case call c =>
    obtain ⟨callee, args, ts⟩ := c
    cases callee with
    | value f =>
      obtain ⟨hf, h⟩ := opD_guard hm rfl rfl h
      have hf : freeSlot cx G dst = true := hf
      simp only [opR] at h
      split at h
      · unfold callPS at h
        split at h
        · exact callS_box hf h
        · have := callP_still h
          subst this
          exact fun _ => rfl
      · cases h
    | invoke a b => simp at hs
    | builtin b =>
      by_cases hb : b = .append
      · subst hb
        obtain ⟨hf, h⟩ := opD_guard hm rfl rfl h
        · have hf : freeSlot cx G dst = true := hf
          simp only [opR] at h
          unfold appOp at h
          split at h
          · split at h
            · split at h
              · split at h
                · split at h
                  · split at h
                    · split at h
                      · split at h
                        · rename_i g gen G2 hn
                          simp only [Option.some.injEq, Prod.mk.injEq] at h
                          obtain ⟨_, rfl⟩ := h
                          unfold newAt at hn
                          unfold freeSlot at hf
                          split at hn
                          · rename_i t hd
                            simp only at hf
                            split at hn
                            · rename_i k hk
                              rw [hk] at hf
                              simp only at hf
                              split at hn
                              · rename_i ob hob
                                simp only [Option.some.injEq, Prod.mk.injEq] at hn
                                obtain ⟨_, _, rfl⟩ := hn
                                rw [hob] at hf
                                refine box_set hob (fun gn cs hbx => ?_) (fun _ _ h => by cases h)
                                subst hbx
                                simp at hf
                              · cases hn
                            · cases hn
                          · cases hn
                        · simp only [Option.some.injEq, Prod.mk.injEq] at h
                          obtain ⟨_, rfl⟩ := h
                          exact fun _ => rfl
                      · cases h
                    · split at h
                      · rename_i hg
                        split at h
                        · simp only [Option.some.injEq, Prod.mk.injEq] at h
                          obtain ⟨_, rfl⟩ := h
                          exact box_set hg (fun _ _ h => by cases h) (fun _ _ h => by cases h)
                        · cases h
                      · cases h
                    · cases h
                  · cases h
                · cases h
              · cases h
            · cases h
          · cases h
      by_cases hb2 : b = .delete
      · subst hb2
        obtain ⟨_, h⟩ := opD_guard hm rfl rfl h
        simp only [opR] at h
        split at h
        · split at h
          · simp only [Option.map_eq_some_iff] at h
            obtain ⟨G2, hst, hh⟩ := h
            cases hh
            unfold strikeM at hst
            split at hst
            · split at hst
              · rename_i hg
                split at hst
                · cases hst
                  exact box_set hg (fun _ _ h => by cases h) (fun _ _ h => by cases h)
                · cases hst
              · cases hst
            · cases hst
          · cases h
        · cases h
      · cases b <;> simp at hs hb hb2
theorem upd_comm {e : Nat → PV} {d d' : Option Nat} {v v' : PV} (h : ∀ t, d = some t → d' ≠ some t) : upd (upd e d v) d' v' = upd (upd e d' v') d v := by
  cases d with
  | none => cases d' <;> rfl
  | some t =>
    cases d' with
    | none => rfl
    | some t' =>
      have hne : t ≠ t' := fun hh => h t rfl (by rw [hh])
      funext k
      simp only [upd]
      by_cases h1 : k = t
      · subst h1; simp [hne]
      · simp [h1]

theorem evl_upd {ops : Array Oper} {o : Oper} {e : Nat → PV} {d : Option Nat} {v : PV} (h : ∀ t, d = some t → t ∉ o.looksAt ops) (x : Operand) (hx : x ∈ o.op.operands) : evl (upd e d v) x = evl e x := by
  cases d with
  | none => rfl
  | some t =>
    cases x with
    | tmp k =>
      have : t ≠ k := fun hh => h t rfl (by
        subst hh
        exact List.mem_append_left _ (List.mem_filterMap.2 ⟨.tmp t, by simpa using hx, rfl⟩))
      simp [evl, upd, Ne.symm this]
    | _ => rfl

theorem wantedP_upd {ops : Array Oper} {o : Oper} {e : Nat → PV} {d : Option Nat} {v : PV} (h : ∀ t, d = some t → t ∉ o.looksAt ops) : wantedP ops o (upd e d v) = wantedP ops o e := by
  cases d with
  | none => rfl
  | some t =>
    unfold wantedP
    cases hg : o.guard with
    | none => rfl
    | some gw =>
      obtain ⟨j, want⟩ := gw
      simp only
      cases ht : (ops[j]?).bind (·.dst) with
      | none => rfl
      | some k =>
        have hne : t ≠ k := fun hh => h t rfl (by subst hh; simp [Oper.looksAt, hg, ht])
        simp [upd, Ne.symm hne]

/-- Two operations that have nothing to do with each other may change places. -/
theorem step1_swap {cx : Cx} {nt : Nat} {ops : Array Oper} {oi oj : Oper} (hap : oi.apart ops oj = true) (hh : heapOk cx.slots cx.mask oi oj = true) {s s1 s2 : St} (h1 : step1 cx nt true ops oi s = some s1) (h2 : step1 cx nt true ops oj s1 = some s2) :
    ∃ s1', step1 cx nt true ops oj s = some s1' ∧ step1 cx nt true ops oi s1' = some s2 := by
  obtain ⟨a1, a2, a3⟩ := Oper.apart_spec hap
  obtain ⟨e, G⟩ := s
  -- what each does
  have one : ∀ {o : Oper} {s s' : St}, step1 cx nt true ops o s = some s' → o.dst.all (· < nt) = true ∧ ((∃ v G', wantedP ops o s.1 = some true ∧ opD cx true o (evl s.1) s.2 = some (v, G') ∧ s' = (upd s.1 o.dst v, G')) ∨
      (wantedP ops o s.1 = some false ∧ s' = (upd s.1 o.dst (.val undef), s.2))) := fun {o s s'} h => by
    unfold step1 at h
    split at h
    · rename_i hw
      split at h
      · rename_i v G' hr
        split at h
        · rename_i hd
          cases h
          exact ⟨hd, .inl ⟨v, G', hw, hr, rfl⟩⟩
        · cases h
      · cases h
    · rename_i hw
      split at h
      · rename_i hd
        cases h
        exact ⟨hd, .inr ⟨hw, rfl⟩⟩
      · cases h
    · cases h
  have mk : ∀ {o : Oper} {s : St} {v : PV} {G' : List GO}, o.dst.all (· < nt) = true → wantedP ops o s.1 = some true → opD cx true o (evl s.1) s.2 = some (v, G') → step1 cx nt true ops o s = some (upd s.1 o.dst v, G') := fun hd hw hr => by
    unfold step1; rw [hw]; simp only; rw [hr]; simp only; rw [if_pos hd]
  have mkF : ∀ {o : Oper} {s : St}, o.dst.all (· < nt) = true → wantedP ops o s.1 = some false → step1 cx nt true ops o s = some (upd s.1 o.dst (.val undef), s.2) := fun hd hw => by
    unfold step1; rw [hw]; simp only; rw [if_pos hd]
  obtain ⟨di, hi⟩ := one h1
  obtain ⟨dj, hj⟩ := one h2
  have wj : ∀ v, wantedP ops oj (upd e oi.dst v) = wantedP ops oj e := fun v => wantedP_upd a1
  have wi : ∀ v, wantedP ops oi (upd e oj.dst v) = wantedP ops oi e := fun v => wantedP_upd a3
  have ej : ∀ v G, opD cx true oj (evl (upd e oi.dst v)) G = opD cx true oj (evl e) G := fun v G => opD_congr fun x hx => evl_upd a1 x hx
  have ei : ∀ v G, opD cx true oi (evl (upd e oj.dst v)) G = opD cx true oi (evl e) G := fun v G => opD_congr fun x hx => evl_upd a3 x hx
  rcases hi with ⟨v, G1, hw1, hr1, rfl⟩ | ⟨hw1, rfl⟩ <;> rcases hj with ⟨u, G2, hw2, hr2, rfl⟩ | ⟨hw2, rfl⟩
  · simp only [wj] at hw2
    simp only [ej] at hr2
    simp only at hw1 hr1
    have key : ∃ Gj, opD cx true oj (evl e) G = some (u, Gj) ∧ opD cx true oi (evl e) Gj = some (v, G2) := by
      unfold heapOk at hh
      simp only [Bool.or_eq_true, Bool.and_eq_true] at hh
      rcases hh with (((((⟨si, sj⟩ | bi) | bj) | ⟨sti, mkj⟩) | ⟨mki, stj⟩) | ⟨kbi, m2j⟩) | ⟨m2i, kbj⟩
      · have e1 := opD_still si hr1
        subst e1
        have e2 := opD_still sj hr2
        subst e2
        exact ⟨_, hr2, hr1⟩
      · obtain ⟨rfl, hall⟩ := opD_blind bi hr1
        exact ⟨_, hr2, hall _⟩
      · obtain ⟨rfl, hall⟩ := opD_blind bj hr2
        exact ⟨_, hall _, hr1⟩
      · have hne := masked_ne mkj
        have hhide := store_hide sti hne hr1
        obtain ⟨rfl, h9⟩ := masked_hide mkj hne hr2 hhide.symm
        exact ⟨_, h9, hr1⟩
      · have hne := masked_ne mki
        have h8 := masked_hide mki hne hr1 rfl
        obtain ⟨rfl, _⟩ := h8
        have hhide := store_hide stj hne hr2
        obtain ⟨_, h9⟩ := masked_hide mki hne hr1 hhide
        exact ⟨_, hr2, h9⟩
      · have hne := masked2_ne m2j
        obtain ⟨rfl, h9⟩ := masked2_boxes m2j hne hr2 (keeps_boxes kbi hne hr1)
        exact ⟨_, h9, hr1⟩
      · have hne := masked2_ne m2i
        have h8 := masked2_boxes m2i hne hr1 (fun _ => rfl)
        obtain ⟨rfl, _⟩ := h8
        have hkb := keeps_boxes kbj hne hr2
        obtain ⟨_, h9⟩ := masked2_boxes m2i hne hr1 (fun g => (hkb g).symm)
        exact ⟨_, hr2, h9⟩
    obtain ⟨Gj, k1, k2⟩ := key
    refine ⟨(upd e oj.dst u, Gj), mk dj hw2 k1, ?_⟩
    rw [mk di (by simp only [wi]; exact hw1) (by simp only [ei]; exact k2)]
    simp only
    rw [upd_comm a2]
  · simp only [wj] at hw2
    simp only at hw1 hr1
    refine ⟨(upd e oj.dst (.val undef), G), mkF dj hw2, ?_⟩
    rw [mk di (by simp only [wi]; exact hw1) (by simp only [ei]; exact hr1)]
    simp only
    rw [upd_comm a2]
  · simp only [wj] at hw2
    simp only [ej] at hr2
    simp only at hw1
    refine ⟨(upd e oj.dst u, G2), mk dj hw2 hr2, ?_⟩
    rw [mkF di (by simp only [wi]; exact hw1)]
    simp only
    rw [upd_comm a2]
  · simp only [wj] at hw2
    simp only at hw1
    refine ⟨(upd e oj.dst (.val undef), G), mkF dj hw2, ?_⟩
    rw [mkF di (by simp only [wi]; exact hw1)]
    simp only
    rw [upd_comm a2]

/-! ### Whatever order is drawn -/
def sOp (cx : Cx) (nt : Nat) (ops : Array Oper) (i : Nat) (K : St → Prop) (s : St) : Prop :=
  match ops[i]? with
  | none => K s
  | some o => ∃ s', step1 cx nt true ops o s = some s' ∧ K s'
def sAny (cx : Cx) (nt : Nat) (ops : Array Oper) (Q : St → Prop) : Nat → Array Bool → St → Prop
  | 0, listed, s => Region.ready .any ops listed = [] ∧ Q s
  | fuel + 1, listed, s => (Region.ready .any ops listed = [] → Q s) ∧ ∀ i ∈ Region.ready .any ops listed, sOp cx nt ops i (sAny cx nt ops Q fuel (listed.setIfInBounds i true)) s

section
variable {P : Program} {N0 : Nat → Prop} {lv : List Nat} {nt : Nat} {ρ : List RR} {w : World} {s : St} {a : Act} {cx : Cx} {ops : Array Oper}

theorem sOp_mono {i : Nat} {K K' : St → Prop} {s : St} (h : ∀ s, K s → K' s) (hh : sOp cx nt ops i K s) : sOp cx nt ops i K' s := by
  unfold sOp at *
  split
  · rename_i h0; simp only [h0] at hh; exact h _ hh
  · rename_i o h0
    simp only [h0] at hh
    obtain ⟨s', h1, h2⟩ := hh
    exact ⟨s', h1, h _ h2⟩

theorem wpAny_of_sAny (hP : cx.P = P) (hE : EqOk P cx.E) (hC : CallOk P cx.call) (hlv : ∀ m ∈ lv, m ≤ cx.base) {Q : Exit → Act → World → Prop} {Q' : St → Prop} : ∀ (fuel : Nat) (listed : Array Bool) (ρ : List RR) (s : St) (a : Act) (w : World), Rel N0 lv nt ρ s a w →
    sAny cx nt ops Q' fuel listed s → (∀ s' ρ' a' w', Q' s' → Step ρ w ρ' w' → LLe ρ ρ' → Rel N0 lv nt ρ' s' a' w' → Q .normal a' w') → wpAny P .any ops Q fuel listed a w
  | 0, listed, ρ, s, a, w, h, hs, hQ => ⟨hs.1, hQ s ρ a w hs.2 (.refl _ _) (.refl _) h⟩
  | fuel + 1, listed, ρ, s, a, w, h, hs, hQ => by
    refine ⟨fun h0 => hQ s ρ a w (hs.1 h0) (.refl _ _) (.refl _) h, fun i hi => ?_⟩
    have h1 := hs.2 i hi
    unfold sOp at h1
    unfold wpOp
    split
    · rename_i h0
      simp only [h0] at h1
      exact wpAny_of_sAny hP hE hC hlv fuel _ ρ s a w h h1 hQ
    · rename_i o h0
      simp only [h0] at h1
      obtain ⟨s', h2, h3⟩ := h1
      have := step1_sim (Q := Q) hP hE hC hlv h h2 (K := wpAny P .any ops Q fuel (listed.setIfInBounds i true)) fun ρ' a' w' k1 k2 k3 =>
        wpAny_of_sAny hP hE hC hlv fuel _ ρ' s' a' w' k3 h3 fun s2 ρ2 a2 w2 q0 q1 q2 q3 => hQ s2 ρ2 a2 w2 q0 (k1.trans q1) (k2.trans q2) q3
      rcases this with ⟨k1, k2⟩ | ⟨k1, k2⟩
      · rw [if_pos k1]; exact .inl k2
      · rw [if_neg (by rw [k1]; exact Bool.false_ne_true)]; exact k2

theorem reach_good (ops : Array Oper) (i : Nat) : ∀ (l acc : List Nat), (∀ j ∈ acc, i < j ∧ ∃ oj, ops[j]? = some oj ∧ ∃ e ∈ oj.after, Region.binds .any e = true ∧ (e.on = i ∨ e.on ∈ acc)) →
    ∀ j ∈ l.foldl (reachF ops i) acc, i < j ∧ ∃ oj, ops[j]? = some oj ∧ ∃ e ∈ oj.after, Region.binds .any e = true ∧ (e.on = i ∨ e.on ∈ l.foldl (reachF ops i) acc)
  | [], _, h => h
  | x :: l, acc, h => by
    refine reach_good ops i l (reachF ops i acc x) fun j hj => ?_
    by_cases hc : reachB ops i acc x = true
    · have hF : reachF ops i acc x = x :: acc := if_pos hc
      rw [hF] at hj ⊢
      unfold reachB at hc
      simp only [Bool.and_eq_true, decide_eq_true_eq] at hc
      obtain ⟨hlt, hc⟩ := hc
      rcases List.mem_cons.1 hj with rfl | hj
      · refine ⟨hlt, ?_⟩
        split at hc
        · rename_i o ho
          obtain ⟨e, he, heb⟩ := Array.any_eq_true'.1 hc
          simp only [Bool.and_eq_true, Bool.or_eq_true, beq_iff_eq, List.contains_iff_mem] at heb
          exact ⟨o, ho, e, he, heb.1, heb.2.imp id (List.mem_cons_of_mem _)⟩
        · cases hc
      · obtain ⟨h1, oj, h2, e, h3, h4, h5⟩ := h j hj
        exact ⟨h1, oj, h2, e, h3, h4, h5.imp id (List.mem_cons_of_mem _)⟩
    · have hF : reachF ops i acc x = acc := if_neg hc
      rw [hF] at hj ⊢
      exact h j hj
theorem reach_spec {ops : Array Oper} {i j : Nat} (h : j ∈ reach ops i) : i < j ∧ ∃ oj, ops[j]? = some oj ∧ ∃ e ∈ oj.after, Region.binds .any e = true ∧ (e.on = i ∨ e.on ∈ reach ops i) :=
  reach_good ops i _ [] (fun _ h => by cases h) j h

theorem sAny_first {Q : St → Prop} {i : Nat} {oi : Oper} (hi : ops[i]? = some oi) {T : Nat → Prop} (hT : ∀ j oj, T j → ops[j]? = some oj → ∃ e ∈ oj.after, Region.binds .any e = true ∧ (e.on = i ∨ T e.on)) : ∀ (fuel : Nat) (listed : Array Bool) (s s1 : St),
    (∀ j, T j → listed.getD j true = false) →
    (∀ j oj, ops[j]? = some oj → j ≠ i → ¬ T j → listed.getD j true = false → (∀ e ∈ oj.after, Region.binds .any e = true → e.on ≠ i) → oi.apart ops oj = true ∧ heapOk cx.slots cx.mask oi oj = true) →
    i ∈ Region.ready .any ops listed → step1 cx nt true ops oi s = some s1 → sAny cx nt ops Q fuel (listed.setIfInBounds i true) s1 → sAny cx nt ops Q (fuel + 1) listed s := by
  intro fuel
  induction fuel with
  | zero =>
    intro listed s s1 _ _ hr hy H
    refine ⟨fun h => (by rw [h] at hr; cases hr), fun j hj => ?_⟩
    by_cases hji : j = i
    · subst hji; unfold sOp; simp only [hi]; exact ⟨s1, hy, H⟩
    · have := ready_mono hj hji
      rw [H.1] at this
      cases this
  | succ fuel ih =>
    intro listed s s1 hun0 hfree hr hy H
    refine ⟨fun h => (by rw [h] at hr; cases hr), fun j hj => ?_⟩
    by_cases hji : j = i
    · subst hji; unfold sOp; simp only [hi]; exact ⟨s1, hy, H⟩
    · have h1 := H.2 j (ready_mono hj hji)
      obtain ⟨hjun, oj, hoj, hall⟩ := mem_ready.1 hj
      have hnot : ∀ e ∈ oj.after, Region.binds .any e = true → e.on ≠ i := fun e he hb heq => by
        have h1 := hall e he hb
        have h0 := (mem_ready.1 hr).1
        rw [heq] at h1
        rcases Nat.lt_or_ge i listed.size with h' | h'
        · simp [h'] at h0 h1; rw [h0] at h1; cases h1
        · simp [Array.getElem?_eq_none h'] at h1
      have hnT : ¬ T j := fun ht => by
        obtain ⟨e, he, hb, h9⟩ := hT j oj ht hoj
        rcases h9 with h9 | h9
        · exact hnot e he hb h9
        · have h2 := hall e he hb
          have h0 := hun0 _ h9
          rcases Nat.lt_or_ge e.on listed.size with h' | h'
          · simp [h'] at h0 h2; rw [h0] at h2; cases h2
          · simp [Array.getElem?_eq_none h'] at h2
      unfold sOp at h1 ⊢
      simp only [hoj] at h1 ⊢
      obtain ⟨s2, k1, k2⟩ := h1
      obtain ⟨hap, hho⟩ := hfree j oj hoj hji hnT hjun hnot
      obtain ⟨s1', q1, q2⟩ := step1_swap hap hho hy k1
      refine ⟨s1', q1, ?_⟩
      have hun' : ∀ k, T k → (listed.setIfInBounds j true).getD k true = false := fun k hk => by
        have hjk : j ≠ k := fun h => hnT (h ▸ hk)
        rw [getD_set_ne true hjk]
        exact hun0 k hk
      have hfree' : ∀ k ok, ops[k]? = some ok → k ≠ i → ¬ T k → (listed.setIfInBounds j true).getD k true = false →
          (∀ e ∈ ok.after, Region.binds .any e = true → e.on ≠ i) → oi.apart ops ok = true ∧ heapOk cx.slots cx.mask oi ok = true := fun k ok hk hki hnk hun hno => by
        refine hfree k ok hk hki hnk ?_ hno
        by_cases hjk : j = k
        · subst hjk; exact hjun
        · rw [getD_set_ne true hjk] at hun; exact hun
      refine ih (listed.setIfInBounds j true) s1' s2 hun' hfree' (ready_mono hr (Ne.symm hji)) q2 ?_
      rw [Array.setIfInBounds_comm _ _ hji]
      exact k2

theorem listed_lt {listed : Array Bool} {k : Nat} (h : ∀ i, i < k → listed.getD i true = true) {j : Nat} (hj : listed.getD j true = false) : k ≤ j := by
  rcases Nat.lt_or_ge j k with h1 | h1
  · rw [h j h1] at hj; cases hj
  · exact h1

theorem sAny_lex {Q : St → Prop} (hH : ∀ i j oi oj, ops[i]? = some oi → ops[j]? = some oj → i < j → (∀ e ∈ oj.after, Region.binds .any e = true → e.on ≠ i) → j ∉ reach ops i → heapOk cx.slots cx.mask oi oj = true) :
    ∀ (l : List Oper) (k : Nat) (listed : Array Bool) (s s' : St), (∀ j, l[j]? = ops[k + j]?) → (∀ i, i < k → listed.getD i true = true) → (∀ i, k ≤ i → i < ops.size → listed.getD i true = false) →
    Region.lexFrom .any ops l.length k listed = true → steps cx nt true ops l s = some s' → Q s' → sAny cx nt ops Q l.length listed s
  | [], _, _, s, s', _, _, _, hB, h, hq => by
    simp only [steps, Option.some.injEq] at h
    subst h
    exact ⟨by simpa [Region.lexFrom] using hB, hq⟩
  | o :: l, k, listed, s, s', hl, hlt, hge, hB, h, hq => by
    have h0 : ops[k]? = some o := by simpa using (hl 0).symm
    simp only [List.length_cons, Region.lexFrom, Bool.and_eq_true] at hB
    obtain ⟨⟨hr, hf⟩, hB'⟩ := hB
    simp only [steps, Option.bind_eq_some_iff] at h
    obtain ⟨s1, hs1, hs2⟩ := h
    refine sAny_first h0 (T := fun j => j ∈ reach ops k) (fun j oj ht hj => by
        obtain ⟨_, oj', h2, e, h3, h4, h5⟩ := reach_spec ht
        rw [hj] at h2
        cases h2
        exact ⟨e, h3, h4, h5⟩) l.length listed s s1 (fun j ht => by
        obtain ⟨h1, oj', h2, _⟩ := reach_spec ht
        exact hge j (by omega) (Array.getElem?_eq_some_iff.1 h2).1) (fun j oj hj hne hnt hun hno => ⟨Region.free_spec h0 hf j oj hj hne hun hno, ?_⟩) (by simpa using hr) hs1
      (sAny_lex hH l (k + 1) _ s1 s' (fun j => by have := hl (j + 1); simpa [Nat.add_assoc, Nat.add_comm 1 j] using this) (fun i hi => ?_) (fun i hi hsz => by rw [getD_set_ne true (by omega)]; exact hge i (by omega) hsz) hB' hs2 hq)
    · have := listed_lt hlt hun
      exact hH k j o oj h0 hj (by omega) hno hnt
    · by_cases hik : i = k
      · subst hik
        rcases Nat.lt_or_ge i listed.size with h' | h'
        · simp [h']
        · simp [Array.getElem?_eq_none, h']
      · rw [getD_set_ne true (Ne.symm hik)]
        exact hlt i (by omega)

theorem lexOk_spec {slots mask : List Nat} (h : lexOk slots mask ops = true) : Region.lexB .any ops = true ∧ ∀ i j oi oj, ops[i]? = some oi → ops[j]? = some oj → i < j → (∀ e ∈ oj.after, Region.binds .any e = true → e.on ≠ i) → j ∉ reach ops i → heapOk slots mask oi oj = true := by
  unfold lexOk at h
  rw [Bool.and_eq_true] at h
  refine ⟨h.1, fun i j oi oj hi hj hlt hno hnr => ?_⟩
  have h1 := List.all_eq_true.1 h.2 i (by simp; exact (Array.getElem?_eq_some_iff.1 hi).1)
  have h2 := List.all_eq_true.1 h1 j (by simp; exact (Array.getElem?_eq_some_iff.1 hj).1)
  simp only [hi, hj, Bool.or_eq_true, decide_eq_true_eq] at h2
  rcases h2 with ((h3 | h3) | h3) | h3
  · omega
  · obtain ⟨e, he, heb⟩ := Array.any_eq_true'.1 h3
    simp only [Bool.and_eq_true, beq_iff_eq] at heb
    exact absurd heb.2 (hno e he heb.1)
  · exact h3
  · exact absurd (List.contains_iff_mem.1 h3) hnr

theorem Rel.drew (h : Rel N0 lv nt ρ s a w) : Rel N0 lv nt ρ s a { w with drawn := w.drawn + 1 } ∧ Step ρ w ρ { w with drawn := w.drawn + 1 } := by
  have hB : Below w.heap.size w { w with drawn := w.drawn + 1 } := ⟨rfl, rfl, rfl, Nat.le_refl _, fun _ _ => rfl⟩
  exact ⟨⟨h.defs, h.nt, fun t => (h.env t).step (Step.below hB) (.refl _), h.heap.step_same hB⟩, Step.below hB⟩

theorem region_draw_sim (hP : cx.P = P) (hE : EqOk P cx.E) (hC : CallOk P cx.call) (hlv : ∀ m ∈ lv, m ≤ cx.base) (hm : P.follows .mixedOrders = true) (hB : lexOk cx.slots cx.mask ops = true) (h : Rel N0 lv nt ρ s a w) {s' : St} (hs : steps cx nt true ops ops.toList s = some s') {id : Nat}
    {Q : Exit → Act → World → Prop} (hQ : ∀ ρ' a' w', Step ρ w ρ' w' → LLe ρ ρ' → Rel N0 lv nt ρ' s' a' w' → Q .normal a' w') : (Code.region id ops true).wp P Q a w := by
  obtain ⟨h1, h2⟩ := lexOk_spec hB
  simp only [Region.lexB, Bool.and_eq_true] at h1
  obtain ⟨hd, hst⟩ := h.drew
  refine wp_region_any hm (wpAny_of_sAny hP hE hC hlv (Q' := fun s2 => s2 = s') ops.size (Array.replicate ops.size false) ρ s a _ hd ?_ fun s2 ρ' a' w' hq k1 k2 k3 => by subst hq; exact hQ ρ' a' w' (hst.trans k1) k2 k3)
  have := sAny_lex (nt := nt) (Q := fun s2 => s2 = s') h2 ops.toList 0 (Array.replicate ops.size false) s s' (by simp) (fun i hi => by omega) (fun i _ hi => by simp [hi]) (by simpa using h1.2) hs rfl
  simpa using this
end
end Go.Proofs.Ythmlfonbfnmalaa.Sh
