/- A run of the program over values without memory, and that what it says holds of the program's own run. No condition. -/
import Derived.Test.YthmlfonbfnmalaaSh5
import Derived.Deep.Upon
namespace Go.Proofs.Ythmlfonbfnmalaa.Sh
open Go.RowKit
set_option linter.unusedVariables false
set_option linter.unusedSimpArgs false

def bytesOf (P : Program) (t : TypeId) : Option Nat := (P.info? t).map (·.bytes)
/-- A cell's value, whatever the memory: no reference to a ghost block. -/
def oneF : PV → Bool
  | .val (.agg _) | .val (.tuple _) => false
  | .val _ | .row _ _ | .at _ | .emp | .nil _ => true
  | _ => false
def rowE (sz : Nat) (G : List GO) (v : PV) : Option (List (List PV)) :=
  match v with
  | .emp => some []
  | .nil _ => some []
  | v => match rowOf G v with
    | some (sz', l) => if sz' = sz then some l else none
    | none => none
/-- A type of elements: cells, bytes, the zero value's cells. -/
def elOf (P : Program) (t : TypeId) : Option (Nat × Nat × List Value) :=
  match szOf P t, bytesOf P t, zeroOf P t with
  | some sz, some by_, some z => if z.cells.size = sz then some (sz, by_, z.cells.toList) else none
  | _, _, _ => none
/-- A number of elements that finds room. -/
def fits (n by_ : Nat) : Bool := decide (2 * n * by_ ≤ 2 ^ 48) && decide (n < 2 ^ 62)

def appOp (cx : Cx) (G : List GO) (d : Option Nat) (e : Operand → PV) (args : List Operand) (ts : List TypeId) : Option (PV × List GO) :=
  match args, ts with
  | [s, x], [t, tx] => match cx.P.underlying t, cx.P.underlying tx with
    | some (.slice el), some (.slice _) => match elOf cx.P el with
      | some (sz, by_, _) => match rowE sz G (e x) with
        | some ys => if ys.all (·.all oneF) = true then (match e s with
            | .emp => if fits ys.length by_ = true then (match newAt cx G d (.row sz ys) with
                | some (g, gen, G') => some (.own g gen ys.length, G')
                | none => some (.row sz ys, G)) else none
            | .own g gen n => match G[g]? with
              | some ⟨gen', .row sz' l⟩ => if gen' = gen ∧ l.length = n ∧ sz' = sz ∧ fits (n + ys.length) by_ = true then some (.own g gen (n + ys.length), G.set g ⟨gen, .row sz (l ++ ys)⟩) else none
              | _ => none
            | _ => none) else none
        | none => none
      | none => none
    | _, _ => none
  | _, _ => none

section
variable {P : Program} {N0 : Nat → Prop} {lv : List Nat} {ρ : List RR} {G : List GO} {w : World}

theorem oneF_sim {q : PV} {v : Value} {N : Nat → Prop} {ρ : List RR} (h : oneF q = true) (hv : RV N w ρ q v) : v.oneCell' = true := by
  cases hv with
  | val => cases v <;> first | rfl | simp [oneF] at h
  | row => rfl
  | «at» => rfl
  | emp => rfl
  | nil => rfl
  | _ => simp [oneF] at h

theorem src_of_row {N : Nat → Prop} {tx e' : TypeId} {sz : Nat} {ys : List (List PV)} {A : Option Addr} {c : Nat} {f : Nat → Nat → Value} (hk : P.underlying tx = some (.slice e')) (h : RowIs N w sz ys A c f)
    (h1 : ys.all (·.all oneF) = true) : ∃ news, Src P sz tx (.slice A ys.length c) ys.length news w ∧ ∀ i j, i < ys.length → j < sz → news[i * sz + j]? = some (f i j) := by
  rcases Nat.eq_zero_or_pos ys.length with h0 | h0
  · rw [h0]
    cases A with
    | none => exact ⟨[], Src.ofNil w hk c, fun i j hi _ => by omega⟩
    | some a => exact ⟨[], Src.ofSlice w hk a 0 c [] (by simp) (by simp) (by simp), fun i j hi _ => by omega⟩
  · obtain ⟨b, o, rfl, hb, hc⟩ := h.cell (fun e => by simp [e] at h0)
    refine ⟨(List.range (ys.length * sz)).map fun q => f (q / sz) (q % sz), Src.ofSlice w hk _ _ c _ (by simp) (fun j u hj => ?_) (fun u hu => ?_), fun i j hi hj => ?_⟩
    · simp only [List.getElem?_map, Option.map_eq_some_iff] at hj
      obtain ⟨q, hq, rfl⟩ := hj
      have hql : j < ys.length * sz := by
        have := (List.getElem?_eq_some_iff.1 hq).1
        simpa using this
      rw [List.getElem?_range hql] at hq
      cases hq
      have hsz : 0 < sz := Nat.pos_of_ne_zero fun e => by subst e; simp at hql
      rw [addr_add]
      have hi : j / sz < ys.length := Nat.div_lt_of_lt_mul (by rw [Nat.mul_comm]; exact hql)
      have := hc (j / sz) (j % sz) hi (Nat.mod_lt _ hsz)
      rw [show j / sz * sz + j % sz = j by rw [Nat.mul_comm]; exact Nat.div_add_mod j sz] at this
      exact this
    · obtain ⟨q, hq, rfl⟩ := List.mem_map.1 hu
      have hql : q < ys.length * sz := by simpa using hq
      have hsz : 0 < sz := Nat.pos_of_ne_zero fun e => by subst e; simp at hql
      have hi : q / sz < ys.length := Nat.div_lt_of_lt_mul (by rw [Nat.mul_comm]; exact hql)
      have hxs := h.szs ys[q / sz] (List.getElem_mem hi)
      have hj : q % sz < ys[q / sz].length := by rw [hxs]; exact Nat.mod_lt _ hsz
      exact oneF_sim (List.all_eq_true.1 (List.all_eq_true.1 h1 _ (List.getElem_mem hi)) _ (List.getElem_mem hj)) (h.el _ _ _ _ (List.getElem?_eq_getElem hi) (List.getElem?_eq_getElem hj))
    · have hlt : i * sz + j < ys.length * sz := idx_lt hi hj (Nat.le_refl _) (Nat.le_refl _)
      have hsz : 0 < sz := by omega
      simp only [List.getElem?_map, List.getElem?_range hlt, Option.map_some]
      rw [show (i * sz + j) / sz = i by rw [Nat.mul_comm, Nat.mul_add_div hsz, Nat.div_eq_of_lt hj]; omega, show (i * sz + j) % sz = j by rw [Nat.mul_comm, Nat.mul_add_mod, Nat.mod_eq_of_lt hj]]

theorem rowE_sim (H : HRel N0 lv ρ G w) {pv : PV} {v : Value} {sz : Nat} {l : List (List PV)} (h : rowE sz G pv = some l) (hv : RV (Pr N0 ρ) w ρ pv v) :
    ∃ A c f, v = .slice A l.length c ∧ RowIs (Pr N0 ρ) w sz l A c f := by
  unfold rowE at h
  split at h
  · simp only [Option.some.injEq] at h
    subst h
    cases hv with
    | emp A => exact ⟨A, 0, fun _ _ => undef, rfl, Nat.le_refl _, by simp, fun h => absurd rfl h, fun i j x pv hi _ => by simp at hi⟩
  · simp only [Option.some.injEq] at h
    subst h
    cases hv with
    | nil A c => exact ⟨A, c, fun _ _ => undef, rfl, Nat.zero_le _, by simp, fun h => absurd rfl h, fun i j x pv hi _ => by simp at hi⟩
  · split at h
    · rename_i sz' l' hr
      split at h
      · rename_i hs
        subst hs
        simp only [Option.some.injEq] at h
        subst h
        exact rowOf_sim H hr hv
      · cases h
    · cases h

theorem elOf_spec {t : TypeId} {sz by_ : Nat} {zs : List Value} (h : elOf P t = some (sz, by_, zs)) : ∃ i z, P.info? t = some i ∧ i.size = sz ∧ i.bytes = by_ ∧ i.zero = some z ∧ z.cells.size = sz ∧ z.cells.toList = zs := by
  unfold elOf at h
  split at h
  · rename_i a b z h1 h2 h3
    split at h
    · rename_i hz
      simp only [Option.some.injEq, Prod.mk.injEq] at h
      obtain ⟨rfl, rfl, rfl⟩ := h
      unfold szOf at h1
      unfold bytesOf at h2
      unfold zeroOf at h3
      cases hi : P.info? t with
      | none => simp [hi] at h1
      | some i =>
        simp [hi] at h1 h2 h3
        exact ⟨i, z, rfl, h1, h2, h3, hz, rfl⟩
    · cases h
  · cases h

theorem fits_spec {n by_ : Nat} (h : fits n by_ = true) : 2 * n * by_ ≤ 2 ^ 48 ∧ n < 2 ^ 62 := by
  simpa [fits] using h

theorem slotsz (z : List Value) (n : Nat) : (Builtin.zeroCells z.toArray n).size = n * z.length := by simp [Builtin.zeroCells]

/-- An append that finds no room: the new block. -/
theorem grow_run {t tx ty el : TypeId} {sz by_ : Nat} {zs : List Value} (hu : P.underlying t = some (.slice el)) (hel : elOf P el = some (sz, by_, zs)) {base : Option Addr} {n c k : Nat} {olds news : List Value} {x : Value}
    (hold : ∀ w' : World, w'.heap = w.heap → (Builtin.firstCells sz n (.slice base n c)).run P w' = .ok olds.toArray w') (hS : Src P sz tx x k news w) (hg : c < n + k) (hf : fits (n + k) by_ = true) :
    (Builtin.append_ #[t, tx] ty #[.slice base n c, x]).run P w = .ok (.slice (some ⟨w.heap.size, 0, none⟩) (n + k) (grownCap w (n + k) c el))
      (w.drew.alloc (.cells ((olds ++ news).toArray ++ Builtin.zeroCells zs.toArray (grownCap w (n + k) c el - (n + k))) el)) := by
  obtain ⟨i, z, h1, rfl, rfl, h4, h5, rfl⟩ := elOf_spec hel
  obtain ⟨h6, h7⟩ := fits_spec hf
  have := run_append_grow_src w t tx ty el i z hu h1 h4 base n c olds (hold w.drew rfl) x k news hS hg (by omega) (Nat.le_trans (Nat.mul_le_mul_right _ (nextslicecap_le hg)) h6)
  rw [this]

theorem exec_append {o : Oper} {σ : Operand → Value} {s x : Operand} {t tx : TypeId} (ho : o.op = .call ⟨.builtin .append, #[s, x], #[t, tx]⟩) {v : Value} {w' : World}
    (h : (Builtin.append_ #[t, tx] o.type #[σ s, σ x]).run P w = .ok v w') : (execOp σ o).run P w = .ok (.value v) w' := by
  unfold execOp
  simp [ho, resolve, invoke, builtin, h]

theorem old_cells {N : Nat → Prop} {sz : Nat} {l : List (List PV)} {A : Option Addr} {c : Nat} {f : Nat → Nat → Value} (h : RowIs N w sz l A c f) :
    ∃ olds : List Value, (∀ w' : World, w'.heap = w.heap → (Builtin.firstCells sz l.length (.slice A l.length c)).run P w' = .ok olds.toArray w') ∧ olds.length = l.length * sz ∧ ∀ i j, i < l.length → j < sz → olds[i * sz + j]? = some (f i j) := by
  rcases Nat.eq_zero_or_pos l.length with h0 | h0
  · rw [h0]
    refine ⟨[], fun w' _ => ?_, by simp, fun i j hi _ => by omega⟩
    cases A <;> simp [Builtin.firstCells, loadCells, loadCellsFrom]
  · obtain ⟨b, o, rfl, hb, hc⟩ := h.cell (fun e => by simp [e] at h0)
    have hget : ∀ i j, i < l.length → j < sz → ((List.range (l.length * sz)).map fun q => f (q / sz) (q % sz))[i * sz + j]? = some (f i j) := fun i j hi hj => by
      have hlt : i * sz + j < l.length * sz := idx_lt hi hj (Nat.le_refl _) (Nat.le_refl _)
      have hsz : 0 < sz := by omega
      simp only [List.getElem?_map, List.getElem?_range hlt, Option.map_some]
      rw [show (i * sz + j) / sz = i by rw [Nat.mul_comm, Nat.mul_add_div hsz, Nat.div_eq_of_lt hj]; omega, show (i * sz + j) % sz = j by rw [Nat.mul_comm, Nat.mul_add_mod, Nat.mod_eq_of_lt hj]]
    refine ⟨(List.range (l.length * sz)).map fun q => f (q / sz) (q % sz), fun w' hw => ?_, by simp, hget⟩
    refine run_firstCells_some w' sz l.length _ l.length c _ (by simp) fun j u hj => ?_
    simp only [List.getElem?_map, Option.map_eq_some_iff] at hj
    obtain ⟨q, hq, rfl⟩ := hj
    have hql : j < l.length * sz := by
      have := (List.getElem?_eq_some_iff.1 hq).1
      simpa using this
    rw [List.getElem?_range hql] at hq
    cases hq
    have hsz : 0 < sz := Nat.pos_of_ne_zero fun e => by subst e; simp at hql
    rw [addr_add]
    have hi : j / sz < l.length := Nat.div_lt_of_lt_mul (by rw [Nat.mul_comm]; exact hql)
    have := hc (j / sz) (j % sz) hi (Nat.mod_lt _ hsz)
    rw [show j / sz * sz + j % sz = j by rw [Nat.mul_comm]; exact Nat.div_add_mod j sz] at this
    rw [cell_heap (w := w) (w' := w') (by rw [hw])]
    exact this

/-- A ghost slot that gets a row with no block. -/
theorem HRel.newNone {cx : Cx} (H : HRel N0 lv ρ G w) (hlv : ∀ m ∈ lv, m ≤ cx.base) {d : Option Nat} {sz g gen : Nat} {G' : List GO} (h : newAt cx G d (.row sz []) = some (g, gen, G')) (A : Option Addr) :
    ∃ ρ', Step ρ w ρ' w ∧ LLe ρ ρ' ∧ HRel N0 lv ρ' G' w ∧ ρ'[g]? = some ⟨gen, 0, none, A, 0⟩ := by
  unfold newAt at h
  split at h
  · rename_i t
    split at h
    · rename_i k hk
      split at h
      · rename_i ob hob
        simp only [Option.some.injEq, Prod.mk.injEq] at h
        obtain ⟨rfl, rfl, rfl⟩ := h
        have hgl : cx.base + k < ρ.length := by rw [H.len]; exact (List.getElem?_eq_some_iff.1 hob).1
        have he := List.getElem?_eq_getElem hgl
        have hgen := (H.at hob he).1
        have hle : RLe ρ[cx.base + k] ⟨ob.gen + 1, 0, none, A, 0⟩ := .inl (by simp; omega)
        have hs : Step ρ w (ρ.set (cx.base + k) ⟨ob.gen + 1, 0, none, A, 0⟩) w := (Step.refl _ _).set fun b hb => by cases hb
        refine ⟨_, hs, .set he hle, ?_, by rw [List.getElem?_set_self hgl]⟩
        exact H.upd hob he hle hs (fun _ _ _ _ _ _ => rfl) (fun b hb => by cases hb) fun m hm hgm => ⟨rfl, rfl, Nat.le_refl _, by simp, fun _ => rfl, fun b hb => by cases hb⟩
      · cases h
    · cases h
  · cases h

theorem drew_alloc_step (H : HRel N0 lv ρ G w) (o : Obj) : Below w.heap.size w (w.drew.alloc o) := (Below.refl _ _).drew.alloc (Nat.le_refl _) o

theorem sim_app {cx : Cx} (hP : cx.P = P) (H : HRel N0 lv ρ G w) (hlv : ∀ m ∈ lv, m ≤ cx.base) {o : Oper} {a : Act} {e : Operand → PV} (he : ∀ x, RV (Pr N0 ρ) w ρ (e x) (a.eval x)) {args : Array Operand} {ts : Array TypeId}
    (ho : o.op = .call ⟨.builtin .append, args, ts⟩) {pv : PV} {G' : List GO} (h : appOp cx G o.dst e args.toList ts.toList = some (pv, G')) : OpSim P N0 lv ρ w o a pv G' := by
  subst hP
  unfold appOp at h
  split at h
  · rename_i s x t tx ha ht
    obtain rfl : args = #[s, x] := by rw [← Array.toList_inj]; simpa using ha
    obtain rfl : ts = #[t, tx] := by rw [← Array.toList_inj]; simpa using ht
    split at h
    · rename_i el el' hu hux
      split at h
      · rename_i sz by_ zs hel
        split at h
        · rename_i ys hys
          split at h
          · rename_i hone
            obtain ⟨A2, c2, f2, hx, hR2⟩ := rowE_sim H hys (he x)
            obtain ⟨news, hS, hnews⟩ := src_of_row (P := cx.P) hux hR2 hone
            obtain ⟨i0, z, hi0, hisz, hiby, hiz, hzs, hzl⟩ := elOf_spec hel
            have hs' := he s
            split at h
            · rename_i hes
              rw [hes] at hs'
              generalize hsv : a.eval s = sv at hs'
              cases hs'
              rename_i A
              split at h
              · rename_i hfit
                have hnothing : ys = [] → (Builtin.append_ #[t, tx] o.type #[a.eval s, a.eval x]).run cx.P w = .ok (.slice A 0 0) w := fun h0 => by
                  subst h0
                  rw [hsv, hx]
                  have h2 : news = [] := List.eq_nil_of_length_eq_zero (by simpa using hS.newsLen)
                  subst h2
                  exact run_append_nothing w t tx o.type el i0 hu hi0 A 0 0 (Nat.le_refl _) _ (by rw [hisz]; exact hS)
                have hgrow : ys ≠ [] → (Builtin.append_ #[t, tx] o.type #[a.eval s, a.eval x]).run cx.P w = .ok (.slice (some ⟨w.heap.size, 0, none⟩) ys.length (grownCap w ys.length 0 el))
                    (w.drew.alloc (.cells (news.toArray ++ Builtin.zeroCells zs.toArray (grownCap w ys.length 0 el - ys.length)) el)) := fun h0 => by
                  rw [hsv, hx]
                  have := grow_run (ty := o.type) hu hel (base := A) (n := 0) (c := 0) (olds := []) (fun w' _ => by cases A <;> simp [Builtin.firstCells, loadCells, loadCellsFrom]) hS (by have := List.length_pos_iff.2 h0; omega) (by simpa using hfit)
                  simpa using this
                have hnl : news.length = ys.length * sz := hS.newsLen
                have hget : ∀ (i j : Nat) (y : List PV) (q : PV), ys[i]? = some y → y[j]? = some q → (news.toArray ++ Builtin.zeroCells zs.toArray (grownCap w ys.length 0 el - ys.length)).getD (i * sz + j) undef = f2 i j := fun i j y q hi hj => by
                  have hil := (List.getElem?_eq_some_iff.1 hi).1
                  have hjl := (List.getElem?_eq_some_iff.1 hj).1
                  rw [hR2.szs y (List.mem_of_getElem? hi)] at hjl
                  have h3 := hnews i j hil hjl
                  have h4 : i * sz + j < news.length := (List.getElem?_eq_some_iff.1 h3).1
                  simp only [Array.getD_eq_getD_getElem?]
                  rw [Array.getElem?_append_left (by simpa using h4)]
                  simp [h3]
                split at h
                · rename_i g gen G2 hnew
                  simp only [Option.some.injEq, Prod.mk.injEq] at h
                  obtain ⟨rfl, rfl⟩ := h
                  by_cases h0 : ys = []
                  · have hrun := hnothing h0
                    subst h0
                    obtain ⟨ρ', hs, hl, hH, hg⟩ := H.newNone hlv hnew A
                    exact OpSim.run (exec_append ho hrun) (.inl rfl) hs hl hH (.own _ hg (Nat.le_refl _) (fun _ => Nat.le_refl _) fun _ _ => rfl)
                  · have hrun := hgrow h0
                    obtain ⟨ρ', hs, hl, hH, hg⟩ := H.new hlv hnew (w' := w.drew.alloc (.cells (news.toArray ++ Builtin.zeroCells zs.toArray (grownCap w ys.length 0 el - ys.length)) el))
                      (nb := .cells (news.toArray ++ Builtin.zeroCells zs.toArray (grownCap w ys.length 0 el - ys.length)) el) (len := ys.length) (cap := grownCap w ys.length 0 el) (ad := some ⟨w.heap.size, 0, none⟩) rfl rfl rfl rfl (fun ρ' hs hl =>
                      by
                        refine ⟨rfl, rfl, grownCap_ge _ _ _ _, hR2.szs, fun h => (by cases h), fun b hb => ?_⟩
                        cases hb
                        refine ⟨rfl, _, el, heap_new w.drew _, ?_, fun i j y q hi hj => ?_⟩
                        · have hge := grownCap_ge w ys.length 0 el
                          have hsz : (news.toArray ++ Builtin.zeroCells zs.toArray (grownCap w ys.length 0 el - ys.length)).size = grownCap w ys.length 0 el * sz := by
                            have h3 : zs.length = sz := by rw [← hzl, Array.length_toList, hzs]
                            rw [Array.size_append, slotsz, h3, List.size_toArray, hnl, ← Nat.add_mul]
                            congr 1
                            omega
                          exact Nat.le_of_eq hsz.symm
                        · rw [hget i j y q hi hj]
                          exact (hR2.el i j y q hi hj).step hs (.nil _))
                    exact OpSim.run (exec_append ho hrun) (.inl rfl) hs hl hH (.own _ hg (Nat.le_refl _) (fun _ => Nat.le_refl _) fun _ _ => rfl)
                · simp only [Option.some.injEq, Prod.mk.injEq] at h
                  obtain ⟨rfl, rfl⟩ := h
                  by_cases h0 : ys = []
                  · have hrun := hnothing h0
                    subst h0
                    exact OpSim.run (exec_append ho hrun) (.inl rfl) (.refl _ _) (.refl _) H (.row A 0 (fun _ _ => undef) (Nat.le_refl _) (by simp) (fun h => absurd rfl h) fun i j x pv hi _ => by simp at hi)
                  · have hrun := hgrow h0
                    have hB := drew_alloc_step H (.cells (news.toArray ++ Builtin.zeroCells zs.toArray (grownCap w ys.length 0 el - ys.length)) el)
                    refine OpSim.run (exec_append ho hrun) (.inl rfl) (Step.below hB) (.refl _) (H.step_same hB) (.row _ _ f2 (grownCap_ge _ _ _ _) hR2.szs (fun _ => ⟨w.heap.size, 0, rfl, H.fresh, by simp, fun i j hi hj => ?_⟩)
                      fun i j y q hi hj => (hR2.el i j y q hi hj).step (Step.below hB) (.nil _))
                    have hn := hnews i j hi hj
                    have h4 : i * sz + j < news.length := (List.getElem?_eq_some_iff.1 hn).1
                    have hnw : (w.drew.alloc (.cells (news.toArray ++ Builtin.zeroCells zs.toArray (grownCap w ys.length 0 el - ys.length)) el)).heap[w.heap.size]? = some (.cells (news.toArray ++ Builtin.zeroCells zs.toArray (grownCap w ys.length 0 el - ys.length)) el) := heap_new w.drew _
                    rw [Nat.zero_add, cell_of hnw (by rw [Array.size_append, List.size_toArray]; omega)]
                    congr 1
                    simp only [Array.getD_eq_getD_getElem?]
                    rw [Array.getElem?_append_left (by simpa using h4)]
                    simp [hn]
              · cases h
            · rename_i g gen n hes
              split at h
              · rename_i gen' sz' l hg
                split at h
                · rename_i hc
                  obtain ⟨rfl, rfl, rfl, hfit⟩ := hc
                  simp only [Option.some.injEq, Prod.mk.injEq] at h
                  obtain ⟨rfl, rfl⟩ := h
                  have hrow : rowOf G (.own g gen' l.length) = some (sz', l) := by simp [rowOf, hg]
                  obtain ⟨A, c, f, hsv, hR⟩ := rowOf_sim H hrow (by rw [← hes]; exact hs')
                  rw [hes] at hs'
                  cases hs' with
                  | own er her hgen hnn hval =>
                    obtain ⟨hO1, hO2, hO3, hO4, hO5, hO6⟩ := H.at hg her
                    have hsv2 := hval hO1.symm hO2
                    rw [hsv] at hsv2
                    simp only [Value.slice.injEq, true_and] at hsv2
                    obtain ⟨rfl, rfl⟩ := hsv2
                    by_cases hroom : l.length + ys.length ≤ er.cap
                    · cases hbk : er.blk with
                      | none =>
                        have h0 := hO5 hbk
                        have hl0 : l = [] := List.eq_nil_of_length_eq_zero (by omega)
                        have hy0 : ys = [] := List.eq_nil_of_length_eq_zero (by omega)
                        subst hl0 hy0
                        have h2 : news = [] := List.eq_nil_of_length_eq_zero (by simpa using hS.newsLen)
                        subst h2
                        have hrun := run_append_nothing (P := cx.P) w t tx o.type el i0 hu hi0 er.ad 0 er.cap (Nat.zero_le _) (a.eval x) (by rw [hisz, hx]; exact hS)
                        refine OpSim.run (exec_append ho (by rw [hsv]; exact hrun)) (.inl rfl) (.refl _ _) (.refl _) ?_ (.own er her hgen hnn hval)
                        have : G.set g ⟨gen', .row sz' ([] ++ [])⟩ = G := by
                          apply List.ext_getElem?
                          intro k
                          by_cases hk : k = g
                          · subst hk; rw [List.getElem?_set_self (List.getElem?_eq_some_iff.1 hg).1, hg]; rfl
                          · rw [List.getElem?_set_ne (Ne.symm hk)]
                        rw [this]
                        exact H
                      | some b =>
                        obtain ⟨had, vs, el2, hh, hz, hr⟩ := hO6 b hbk
                        have hown : Own ρ b := own_of her hbk
                        have hnl : news.length = ys.length * sz' := hS.newsLen
                        have hle : l.length * sz' + news.length ≤ vs.size := by
                          rw [hnl, ← Nat.add_mul]
                          exact Nat.le_trans (Nat.mul_le_mul_right _ hroom) hz
                        have hst := run_storeCells_at cx.P b (l.length * sz') el2 news 0 vs w hh (by simpa using hle) hS.one
                        simp only [Nat.add_zero] at hst
                        have hrun : (Builtin.append_ #[t, tx] o.type #[a.eval s, a.eval x]).run cx.P w = .ok (.slice er.ad (l.length + ys.length) er.cap) (w.setRow b (vs.toList.take (l.length * sz') ++ news ++ vs.toList.drop (l.length * sz' + news.length)).toArray) := by
                          rw [hsv, hx, had]
                          rcases hS.kind with ⟨e', hk⟩ | hk <;> simp [Builtin.append_, run_underlying hu, run_underlying hk, sizeOf, typeInfo, hi0, hisz, hS.len, hroom, hS.cells, addr_add, hst]
                        have hs0 := setRow_step H hown (vs.toList.take (l.length * sz') ++ news ++ vs.toList.drop (l.length * sz' + news.length)).toArray
                        have hle2 : RLe er { er with len := l.length + ys.length } := by
                          rcases Nat.eq_zero_or_pos ys.length with h0 | h0
                          · right
                            refine ⟨rfl, .inr ?_⟩
                            rw [h0, Nat.add_zero, ← hO2]
                          · exact .inr ⟨rfl, .inl (by simp only [hO2]; omega)⟩
                        have hs := hs0.set (g := g) (e' := { er with len := l.length + ys.length }) (fun b1 hb1 => .inl (own_of her hb1))
                        have hvs : ∀ k, (vs.toList.take (l.length * sz') ++ news ++ vs.toList.drop (l.length * sz' + news.length)).toArray.getD k undef = if k < l.length * sz' then vs.getD k undef else if k < l.length * sz' + news.length then (news[k - l.length * sz']?).getD undef else vs.getD k undef := fun k => by
                          simp only [Array.getD_eq_getD_getElem?, List.getElem?_toArray, List.append_assoc]
                          split
                          · rw [List.getElem?_append_left (by simp; omega), List.getElem?_take_of_lt (by assumption)]; simp
                          · rw [List.getElem?_append_right (by simp; omega)]
                            have : min (l.length * sz') vs.toList.length = l.length * sz' := by simp; omega
                            simp only [List.length_take, this]
                            split
                            · rw [List.getElem?_append_left (by omega)]
                            · rw [List.getElem?_append_right (by omega), List.getElem?_drop, show l.length * sz' + news.length + (k - l.length * sz' - news.length) = k by omega]
                              simp
                        have hU := H.upd hg her hle2 (o' := ⟨gen', .row sz' (l ++ ys)⟩) (w' := w.setRow b (vs.toList.take (l.length * sz') ++ news ++ vs.toList.drop (l.length * sz' + news.length)).toArray) hs
                          (fun g' e1 b1 hne h4 h5 => setRow_other w b b1 _ (fun hbb => hne (H.inj g' g e1 er b h4 her (hbb ▸ h5) hbk)))
                          (fun b1 hb1 => by
                            simp only [hbk, Option.some.injEq] at hb1
                            subst hb1
                            exact ⟨by simpa using H.bnd b (.inr hown), fun hN => H.dis b hN hown, fun g' e1 hne h4 h5 => hne (H.inj g' g e1 er b h4 her h5 hbk)⟩)
                          (fun m hm hgm => by
                            refine ⟨hO1, by simp, by simpa using hroom, fun y hy => ?_, fun hb1 => (by simp [hbk] at hb1), fun b1 hb1 => ?_⟩
                            · rcases List.mem_append.1 hy with h9 | h9
                              · exact hO4 y h9
                              · exact hR2.szs y h9
                            · simp only [hbk, Option.some.injEq] at hb1
                              subst hb1
                              refine ⟨had, _, el2, setRow_heap w b vs _ el2 _ hh, by simp; omega, fun i1 j1 y q hi1 hj1 => ?_⟩
                              rw [hvs]
                              rcases Nat.lt_or_ge i1 l.length with h9 | h9
                              · rw [List.getElem?_append_left h9] at hi1
                                have hj2 : j1 < sz' := by have := (List.getElem?_eq_some_iff.1 hj1).1; rw [hO4 y (List.mem_of_getElem? hi1)] at this; exact this
                                rw [if_pos (idx_lt h9 hj2 (Nat.le_refl _) (Nat.le_refl _))]
                                exact (hr i1 j1 y q hi1 hj1).step hs (.nil _)
                              · rw [List.getElem?_append_right h9] at hi1
                                have hil := (List.getElem?_eq_some_iff.1 hi1).1
                                have hj2 : j1 < sz' := by have := (List.getElem?_eq_some_iff.1 hj1).1; rw [hR2.szs y (List.mem_of_getElem? hi1)] at this; exact this
                                have h10 : i1 * sz' = l.length * sz' + (i1 - l.length) * sz' := by rw [← Nat.add_mul]; congr 1; omega
                                have h11 := idx_lt hil hj2 (Nat.le_refl _) (Nat.le_of_eq hnl.symm)
                                rw [if_neg (by omega), if_pos (by omega), show i1 * sz' + j1 - l.length * sz' = (i1 - l.length) * sz' + j1 by omega, hnews _ _ hil hj2]
                                exact (hR2.el _ j1 y q hi1 hj1).step hs (.nil _))
                        refine OpSim.run (exec_append ho hrun) (.inl rfl) hs (.set her hle2) hU (.own _ (List.getElem?_set_self (List.getElem?_eq_some_iff.1 her).1) hgen (fun _ => Nat.le_refl _) fun _ _ => rfl)
                    · obtain ⟨olds, hold, hol, hog⟩ := old_cells (P := cx.P) hR
                      have hrun := grow_run (ty := o.type) hu hel hold hS (by omega) hfit
                      rw [← hx, ← hsv] at hrun
                      have hnl : news.length = ys.length * sz' := hS.newsLen
                      generalize hcp : grownCap w (l.length + ys.length) er.cap el = cp at hrun
                      have hcpge : l.length + ys.length ≤ cp := hcp ▸ grownCap_ge _ _ _ _
                      generalize hvs : (olds ++ news).toArray ++ Builtin.zeroCells zs.toArray (cp - (l.length + ys.length)) = vs at hrun
                      have hvg : ∀ k, k < (l.length + ys.length) * sz' → vs.getD k undef = if k < l.length * sz' then (olds[k]?).getD undef else (news[k - l.length * sz']?).getD undef := fun k hk => by
                        rw [Nat.add_mul] at hk
                        subst hvs
                        simp only [Array.getD_eq_getD_getElem?]
                        rw [Array.getElem?_append_left (by simp; omega)]
                        simp only [List.getElem?_toArray]
                        split
                        · rw [List.getElem?_append_left (by omega)]
                        · rw [List.getElem?_append_right (by omega), hol]
                      have hvsz : cp * sz' ≤ vs.size := by
                        subst hvs
                        have h3 : zs.length = sz' := by rw [← hzl, Array.length_toList, hzs]
                        have h4 : (olds ++ news).toArray.size = (l.length + ys.length) * sz' := by rw [Nat.add_mul]; simp [hol, hnl]
                        rw [Array.size_append, slotsz, h3, h4, ← Nat.add_mul]
                        exact Nat.le_of_eq (by congr 1; omega)
                      have hB := drew_alloc_step H (.cells vs el)
                      have hpos : 0 < ys.length := by have := hO3; omega
                      have hle2 : RLe er ⟨er.gen, l.length + ys.length, some w.heap.size, some ⟨w.heap.size, 0, none⟩, cp⟩ := .inr ⟨rfl, .inl (by simp only [hO2]; omega)⟩
                      have hs : Step ρ w (ρ.set g ⟨er.gen, l.length + ys.length, some w.heap.size, some ⟨w.heap.size, 0, none⟩, cp⟩) (w.drew.alloc (.cells vs el)) := (Step.below hB).set fun b hb => by cases hb; exact .inr (Nat.le_refl _)
                      have hU := H.upd hg her hle2 (o' := ⟨gen', .row sz' (l ++ ys)⟩) hs (fun g' e1 b _ h1 h2 => hB.block b (H.bnd b (.inr (own_of h1 h2))))
                        (fun b hb => by
                          cases hb
                          exact ⟨by simp, fun hn => H.fresh (.inl hn), fun g' e1 _ h1 h2 => H.fresh (.inr (own_of h1 h2))⟩)
                        (fun m hm hgm => by
                          refine ⟨hO1, by simp, by simpa using hcpge, fun y hy => ?_, fun hb1 => (by cases hb1), fun b1 hb1 => ?_⟩
                          · rcases List.mem_append.1 hy with h9 | h9
                            · exact hO4 y h9
                            · exact hR2.szs y h9
                          · cases hb1
                            refine ⟨rfl, vs, el, heap_new w.drew _, hvsz, fun i1 j1 y q hi1 hj1 => ?_⟩
                            have hi2 : i1 < l.length + ys.length := by have := (List.getElem?_eq_some_iff.1 hi1).1; simpa using this
                            rcases Nat.lt_or_ge i1 l.length with h9 | h9
                            · rw [List.getElem?_append_left h9] at hi1
                              have hj2 : j1 < sz' := by have := (List.getElem?_eq_some_iff.1 hj1).1; rw [hO4 y (List.mem_of_getElem? hi1)] at this; exact this
                              rw [hvg _ (idx_lt hi2 hj2 (Nat.le_refl _) (Nat.le_refl _)), if_pos (idx_lt h9 hj2 (Nat.le_refl _) (Nat.le_refl _)), hog i1 j1 h9 hj2]
                              exact (hR.el i1 j1 y q hi1 hj1).step hs (.nil _)
                            · rw [List.getElem?_append_right h9] at hi1
                              have hil := (List.getElem?_eq_some_iff.1 hi1).1
                              have hj2 : j1 < sz' := by have := (List.getElem?_eq_some_iff.1 hj1).1; rw [hR2.szs y (List.mem_of_getElem? hi1)] at this; exact this
                              have h10 : i1 * sz' = l.length * sz' + (i1 - l.length) * sz' := by rw [← Nat.add_mul]; congr 1; omega
                              rw [hvg _ (idx_lt hi2 hj2 (Nat.le_refl _) (Nat.le_refl _)), if_neg (by omega), show i1 * sz' + j1 - l.length * sz' = (i1 - l.length) * sz' + j1 by omega, hnews _ _ hil hj2]
                              exact (hR2.el _ j1 y q hi1 hj1).step hs (.nil _))
                      exact OpSim.run (exec_append ho hrun) (.inl rfl) hs (.set her hle2) hU (.own _ (List.getElem?_set_self (List.getElem?_eq_some_iff.1 her).1) hgen (fun _ => Nat.le_refl _) fun _ _ => rfl)
                · cases h
              · cases h
            · cases h
          · cases h
        · cases h
      · cases h
    · cases h
  · cases h
end
end Go.Proofs.Ythmlfonbfnmalaa.Sh
