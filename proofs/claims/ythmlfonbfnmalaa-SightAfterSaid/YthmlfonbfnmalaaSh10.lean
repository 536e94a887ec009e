/- A run of the program over values without memory, and that what it says holds of the program's own run. No condition. -/
import Derived.Test.YthmlfonbfnmalaaSh9
import Derived.LoopN
namespace Go.Proofs.Ythmlfonbfnmalaa.Sh
open Go.RowKit
set_option linter.unusedVariables false
set_option linter.unusedSimpArgs false

/-! ### Code and functions -/
inductive Ex where
  | nrm
  | ext (id : Nat)
  | ret
def Ex.to : Ex → Exit
  | .nrm => .normal
  | .ext id => .exit id
  | .ret => .ret

abbrev Env := List (Nat × PV)
abbrev LS := Env × List GO
def putL (env : Env) (d : Option Nat) (v : PV) : Env := match d with | some t => (t, v) :: env | none => env
def prune (keep : List Nat) (env : Env) : Env := keep.map fun t => (t, look env t)

def onWant (w : Option Bool) (x y : Option LS) : Option LS :=
  match w with
  | some true => x
  | some false => y
  | none => none
theorem onWant_some (b : Bool) (x y : Option LS) : onWant (some b) x y = if b = true then x else y := by cases b <;> rfl
def putR (ok : Bool) (env : Env) (d : Option Nat) (r : Option (PV × List GO)) : Option LS :=
  match r with
  | some (v, G') => if ok = true then some (putL env d v, G') else none
  | none => none
def dstOk (nt : Nat) : Option Nat → Bool
  | some t => decide (t < nt)
  | none => true
def stepL (cx : Cx) (nt : Nat) (dr : Bool) (ops : Array Oper) (o : Oper) (s : LS) : Option LS :=
  onWant (wantedP ops o (look s.1)) (putR (dstOk nt o.dst) s.1 o.dst (opD cx dr o (evl (look s.1)) s.2)) (putR (dstOk nt o.dst) s.1 o.dst (some (.val undef, s.2)))
def andL (r : Option LS) (f : LS → Option LS) : Option LS :=
  match r with
  | some s => f s
  | none => none
theorem andL_some (s : LS) (f : LS → Option LS) : andL (some s) f = f s := rfl
def stepsL (cx : Cx) (nt : Nat) (dr : Bool) (ops : Array Oper) : List Oper → LS → Option LS
  | [], s => some s
  | o :: r, s => andL (stepL cx nt dr ops o s) (stepsL cx nt dr ops r)
def endR (keep : List Nat) : Option LS → Option (Ex × LS)
  | some (env, G) => some (.nrm, (prune keep env, G))
  | none => none
def shLoop (f : LS → Option (Ex × LS)) : Nat → LS → Option (Ex × LS)
  | 0, _ => none
  | n + 1, s => match f s with
    | some (.nrm, s') => shLoop f n s'
    | r => r
/-- What is handed on behind a piece of code. -/
def thenC (r : Option (Ex × LS)) (f : LS → Option (Ex × LS)) : Option (Ex × LS) :=
  match r with
  | some (.nrm, s) => f s
  | r => r
def outOf (id : Nat) (r : Option (Ex × LS)) : Option (Ex × LS) :=
  match r with
  | some (.ext k, s) => if k = id then some (.nrm, s) else some (.ext k, s)
  | r => r
def onBool (v : PV) (x y : Option (Ex × LS)) : Option (Ex × LS) :=
  match v with
  | .val (.bool true) => x
  | .val (.bool false) => y
  | _ => none
theorem onBool_val (b : Bool) (x y : Option (Ex × LS)) : onBool (.val (.bool b)) x y = if b = true then x else y := by cases b <;> rfl
def shCode (cx : Cx) (nt : Nat) (keep : List Nat) (n : Nat) : Code → LS → Option (Ex × LS)
  | .skip, s => some (.nrm, s)
  | .region _ ops dr, s => endR keep (stepsL cx nt dr ops ops.toList s)
  | .seq a b, s => thenC (shCode cx nt keep n a s) (shCode cx nt keep n b)
  | .cond c t e, s => onBool (evl (look s.1) c) (shCode cx nt keep n t s) (shCode cx nt keep n e s)
  | .block id b, s => outOf id (shCode cx nt keep n b s)
  | .loop b, s => shLoop (shCode cx nt keep n b) n s
  | .exit id, s => some (.ext id, s)
  | .ret, s => some (.ret, s)
  | _, _ => none

/-- Every region that draws its order may be walked in the text's order. -/
def drawsOk (slots mask : List Nat) : Code → Bool
  | .region _ ops dr => !dr || lexOk slots mask ops
  | .seq a b => drawsOk slots mask a && drawsOk slots mask b
  | .cond _ t e => drawsOk slots mask t && drawsOk slots mask e
  | .block _ b => drawsOk slots mask b
  | .loop b => drawsOk slots mask b
  | _ => true
/-- What is told of a program's functions: the temporaries that are looked at beyond their region, those that get ghost blocks; functions whose contracts are shown elsewhere; how many rounds a loop may take. -/
structure Aux where
  P : Program
  E : TypeId → Option (List Nat)
  ann : FuncId → List Nat × List Nat
  ext : FuncId → Option (List PV → List GO → Option (PV × List GO))
  n : Nat
  keep : FuncId → Bool
  mask : FuncId → List Nat

def seal2 (base : Nat) (G : List GO) : PV → Option PV
  | .own g gen n => if g < base then some (.own g gen n) else (rowOf G (.own g gen n)).map fun r => .row r.1 r.2
  | .box g gen off => if g < base then some (.box g gen off) else match cellsAt G (.box g gen off) with
    | some cs => if cs.all flat = true then some (.at cs) else none
    | none => none
  | .elt g gen n sz i k => if g < base then some (.elt g gen n sz i k) else none
  | v => if flat v then some v else none
def seal3 (base : Nat) (G : List GO) : PV → Option PV
  | .agg cs => (cs.mapM (seal2 base G)).map .agg
  | .clo f cs => (cs.mapM (seal2 base G)).map (.clo f)
  | v => seal2 base G v
def sealR (base : Nat) (G : List GO) : PV → Option PV
  | .tup vs => (vs.mapM (seal3 base G)).map .tup
  | v => seal3 base G v

def resVar (P : Program) (env : Env) (G : List GO) : ResultVar → Option PV
  | .tmp t => some (look env t)
  | .cell a t => match P.underlying t, szOf P t, cellsAt G (look env a) with
    | some _, some n, some cs => rd n (aggOf P t) cs
    | _, _, _ => none
def resOf (P : Program) (fn : Func) (env : Env) (G : List GO) : Option PV :=
  match fn.results.toList with
  | [r] => resVar P env G r
  | rs => (rs.mapM (resVar P env G)).map .tup

/-- A result's cell: a ghost row of the function's own gets the next number behind the caller's. -/
def reloc (base : Nat) (G : List GO) (ids : List Nat) : PV → Option (PV × List Nat)
  | .own g gen n => if g < base then some (.own g gen n, ids) else
      if g ∈ ids then none else (rowOf G (.own g gen n)).map fun _ => (.own (base + ids.length) gen n, ids ++ [g])
  | .box g gen off => if g < base then some (.box g gen off, ids) else none
  | v => (seal2 base G v).map fun v => (v, ids)
def relocs (base : Nat) (G : List GO) : List Nat → List PV → Option (List PV × List Nat)
  | ids, [] => some ([], ids)
  | ids, v :: r => match reloc base G ids v with
    | some (v', ids') => match relocs base G ids' r with
      | some (r', ids'') => some (v' :: r', ids'')
      | none => none
    | none => none
/-- The caller's ghost blocks, and those that it gets. -/
def kept (base : Nat) (G : List GO) (ids : List Nat) : List GO := G.take base ++ ids.map fun g => G.getD g default
def keepR (base : Nat) (G : List GO) : PV → Option (PV × List GO)
  | .agg cs => match relocs base G [] cs with
    | some (cs', ids) => some (.agg cs', kept base G ids)
    | none => none
  | .tup cs => match relocs base G [] cs with
    | some (cs', ids) => some (.tup cs', kept base G ids)
    | none => none
  | v => match reloc base G [] v with
    | some (v', ids) => some (v', kept base G ids)
    | none => none

/-- The arguments, numbered. -/
def argEnv : List PV → Nat → Env
  | [], _ => []
  | x :: l, k => (k, x) :: argEnv l (k + 1)
def slotsG : List Nat → List GO
  | [] => []
  | _ :: r => ⟨0, .none⟩ :: slotsG r
theorem slotsG_eq : ∀ l, slotsG l = List.replicate l.length ⟨0, .none⟩
  | [] => rfl
  | _ :: r => by simp [slotsG, slotsG_eq r, List.replicate_succ]

def fnRun (X : Aux) (call : FuncId → List PV → List GO → Option (PV × List GO)) (f : FuncId) (fn : Func) (c : Code) (args : List PV) (G : List GO) : Option (PV × List GO) :=
  if (fn.name == "runtime.NumGoroutine") = true ∨ fn.ntmps < args.length ∨ drawsOk (X.ann f).2 (X.mask f) c = false then none else
  match shCode ⟨X.P, X.E, G.length, (X.ann f).2, call, X.mask f⟩ fn.ntmps (X.ann f).1 X.n c (argEnv args 0, G ++ slotsG (X.ann f).2) with
  | some (.ext _, _) | none => none
  | some (_, (env, G')) => match resOf X.P fn env G' with
    | some r => if X.keep f = true then keepR G.length G' r else (sealR G.length G' r).map fun r' => (r', G'.take G.length)
    | none => none
def shFn (X : Aux) : Nat → FuncId → List PV → List GO → Option (PV × List GO)
  | 0, _, _, _ => none
  | d + 1, f, args, G => match X.ext f with
    | some g => g args G
    | none => match X.P.funcs[f]? with
      | some fn => match fn.body with
        | some c => fnRun X (shFn X d) f fn c args G
        | none => none
      | none => none

section
variable {P : Program} {N0 : Nat → Prop} {lv : List Nat} {nt : Nat} {ρ : List RR} {w : World} {a : Act} {cx : Cx}

theorem look_put (env : Env) (d : Option Nat) (v : PV) : look (putL env d v) = upd (look env) d v := by
  cases d with
  | none => rfl
  | some t =>
    funext k
    simp only [putL, look, upd]
    by_cases h : t = k
    · simp [h]
    · rw [if_neg h, if_neg (Ne.symm h)]

theorem stepsL_steps {dr : Bool} {ops : Array Oper} : ∀ {l : List Oper} {s s' : LS}, stepsL cx nt dr ops l s = some s' → steps cx nt dr ops l (look s.1, s.2) = some (look s'.1, s'.2)
  | [], s, s', h => by
    simp only [stepsL, Option.some.injEq] at h
    subst h
    rfl
  | o :: l, s, s', h => by
    simp only [stepsL] at h
    cases h1 : stepL cx nt dr ops o s with
    | none => rw [h1] at h; cases h
    | some s1 =>
    rw [h1, andL_some] at h
    have h2 := h
    simp only [steps, Option.bind_eq_some_iff]
    refine ⟨(look s1.1, s1.2), ?_, stepsL_steps h2⟩
    unfold stepL at h1
    unfold step1
    have hd : ∀ d, dstOk nt d = d.all (· < nt) := fun d => by cases d <;> rfl
    rw [hd] at h1
    cases hw : wantedP ops o (look s.1) with
    | none => rw [hw] at h1; cases h1
    | some b =>
      rw [hw, onWant_some] at h1
      cases b with
      | true =>
        simp only [if_true] at h1
        simp only
        cases hr : opD cx dr o (evl (look s.1)) s.2 with
        | none => rw [hr] at h1; cases h1
        | some q =>
          obtain ⟨v, G'⟩ := q
          rw [hr] at h1
          simp only [putR] at h1
          simp only
          split at h1
          · rename_i hd
            cases h1
            rw [if_pos hd]
            simp only [look_put]
          · cases h1
      | false =>
        simp only [Bool.false_eq_true, if_false] at h1
        simp only [putR] at h1
        simp only
        split at h1
        · rename_i hd
          cases h1
          rw [if_pos hd]
          simp only [look_put]
        · cases h1

theorem look_prune (keep : List Nat) (env : Env) (t : Nat) : look (prune keep env) t = look env t ∨ look (prune keep env) t = .bad := by
  unfold prune
  induction keep with
  | nil => exact .inr rfl
  | cons k r ih =>
    simp only [List.map_cons, look]
    by_cases h : k = t
    · rw [if_pos h]; subst h; exact .inl rfl
    · rw [if_neg h]; exact ih

theorem Rel.pruned {s : St} {env : Env} {G : List GO} (h : Rel N0 lv nt ρ (look env, G) a w) (keep : List Nat) : Rel N0 lv nt ρ (look (prune keep env), G) a w where
  defs := h.defs
  nt := h.nt
  env := fun t => by
    rcases look_prune keep env t with h1 | h1
    · show RV _ _ _ (look (prune keep env) t) _
      rw [h1]; exact h.env t
    · show RV _ _ _ (look (prune keep env) t) _
      rw [h1]; exact .bad
  heap := h.heap

def Done (N0 : Nat → Prop) (lv : List Nat) (nt : Nat) (ρ : List RR) (w : World) (x : Ex) (s : LS) (en : Exit) (a' : Act) (w' : World) : Prop :=
  en = x.to ∧ ∃ ρ', Step ρ w ρ' w' ∧ LLe ρ ρ' ∧ Rel N0 lv nt ρ' (look s.1, s.2) a' w'

theorem Done.trans {ρ1 : List RR} {w1 : World} {x : Ex} {s : LS} {en : Exit} {a' : Act} {w' : World} (h1 : Step ρ w ρ1 w1) (h2 : LLe ρ ρ1) (h : Done N0 lv nt ρ1 w1 x s en a' w') : Done N0 lv nt ρ w x s en a' w' :=
  let ⟨e, ρ', k1, k2, k3⟩ := h
  ⟨e, ρ', h1.trans k1, h2.trans k2, k3⟩

theorem code_sim (hP : cx.P = P) (hE : EqOk P cx.E) (hC : CallOk P cx.call) (hlv : ∀ m ∈ lv, m ≤ cx.base) (hm : P.follows .mixedOrders = true) {keep : List Nat} {n : Nat} : ∀ (c : Code) (ρ : List RR) (s : LS) (a : Act) (w : World) (x : Ex) (s' : LS),
    drawsOk cx.slots cx.mask c = true → Rel N0 lv nt ρ (look s.1, s.2) a w → shCode cx nt keep n c s = some (x, s') → c.wp P (Done N0 lv nt ρ w x s') a w := by
  intro c
  induction c with
  | skip =>
    intro ρ s a w x s' hdr h hs
    simp only [shCode, Option.some.injEq, Prod.mk.injEq] at hs
    obtain ⟨rfl, rfl⟩ := hs
    exact wp_skip ⟨rfl, ρ, .refl _ _, .refl _, h⟩
  | region id ops dr =>
    intro ρ s a w x s' hdr h hs
    simp only [shCode] at hs
    · cases h1 : stepsL cx nt dr ops ops.toList s with
      | none => rw [h1] at hs; cases hs
      | some s1 =>
      rw [h1] at hs
      cases hs
      have h2 := stepsL_steps h1
      cases dr with
      | false => exact region_sim hP hE hC hlv h h2 fun ρ' a' w' k1 k2 k3 => ⟨rfl, ρ', k1, k2, k3.pruned (s := (look s1.1, s1.2)) keep⟩
      | true =>
        have hl : lexOk cx.slots cx.mask ops = true := by simpa [drawsOk] using hdr
        exact region_draw_sim hP hE hC hlv hm hl h h2 fun ρ' a' w' k1 k2 k3 => ⟨rfl, ρ', k1, k2, k3.pruned (s := (look s1.1, s1.2)) keep⟩
  | seq p q ihp ihq =>
    intro ρ s a w x s' hdr h hs
    simp only [shCode] at hs
    unfold thenC at hs
    simp only [drawsOk, Bool.and_eq_true] at hdr
    split at hs
    · rename_i s1 h1
      refine wp_seq (wp_mono (ihp ρ s a w .nrm s1 hdr.1 h h1) fun en a1 w1 hd => ?_)
      obtain ⟨rfl, ρ1, k1, k2, k3⟩ := hd
      exact wp_mono (ihq ρ1 s1 a1 w1 x s' hdr.2 k3 hs) fun en a2 w2 hd2 => hd2.trans k1 k2
    · rename_i hne
      refine wp_seq (wp_mono (ihp ρ s a w x s' hdr.1 h hs) fun en a1 w1 hd => ?_)
      cases x with
      | nrm => exact (hne _ hs).elim
      | ext id => obtain ⟨rfl, hr⟩ := hd; exact ⟨rfl, hr⟩
      | ret => obtain ⟨rfl, hr⟩ := hd; exact ⟨rfl, hr⟩
  | cond c t e iht ihe =>
    intro ρ s a w x s' hdr h hs
    simp only [shCode] at hs
    simp only [drawsOk, Bool.and_eq_true] at hdr
    have hc := h.ev c
    unfold onBool at hs
    split at hs
    · rename_i hb
      rw [hb] at hc
      generalize hv : a.eval c = v at hc
      cases hc
      exact wp_cond_true hv (iht ρ s a w x s' hdr.1 h hs)
    · rename_i hb
      rw [hb] at hc
      generalize hv : a.eval c = v at hc
      cases hc
      exact wp_cond_false hv (ihe ρ s a w x s' hdr.2 h hs)
    · cases hs
  | block id b ih =>
    intro ρ s a w x s' hdr h hs
    simp only [shCode] at hs
    unfold outOf at hs
    refine wp_block ?_
    split at hs
    · rename_i k s1 h1
      refine wp_mono (ih ρ s a w (.ext k) s1 hdr h h1) fun en a1 w1 hd => ?_
      obtain ⟨rfl, hr⟩ := hd
      show if k = id then _ else _
      split at hs
      · rename_i hk
        cases hs
        rw [if_pos hk]
        exact ⟨rfl, hr⟩
      · rename_i hk
        cases hs
        rw [if_neg hk]
        exact ⟨rfl, hr⟩
    · rename_i hne
      refine wp_mono (ih ρ s a w x s' hdr h hs) fun en a1 w1 hd => ?_
      cases x with
      | nrm => obtain ⟨rfl, hr⟩ := hd; exact ⟨rfl, hr⟩
      | ext k => exact (hne _ _ hs).elim
      | ret => obtain ⟨rfl, hr⟩ := hd; exact ⟨rfl, hr⟩
  | loop b ih =>
    intro ρ s a w x s' hdr h hs
    simp only [shCode] at hs
    refine wp_loop_rounds n ?_
    generalize hf : shCode cx nt keep n b = f at hs
    have key : ∀ (m : Nat) (ρ : List RR) (s : LS) (a : Act) (w : World), Rel N0 lv nt ρ (look s.1, s.2) a w → shLoop f m s = some (x, s') → Code.rounds P b (Done N0 lv nt ρ w x s') m a w := by
      intro m
      induction m with
      | zero => intro ρ s a w _ hs; simp [shLoop] at hs
      | succ m ihm =>
        intro ρ s a w h hs
        simp only [shLoop] at hs
        rw [rounds_succ]
        split at hs
        · rename_i s1 h1
          refine wp_mono (ih ρ s a w .nrm s1 hdr h (by rw [hf]; exact h1)) fun en a1 w1 hd => ?_
          obtain ⟨rfl, ρ1, k1, k2, k3⟩ := hd
          have := ihm ρ1 s1 a1 w1 k3 hs
          show Code.rounds P b _ m a1 w1
          have mono : ∀ (m : Nat) (a : Act) (w' : World), Code.rounds P b (Done N0 lv nt ρ1 w1 x s') m a w' → Code.rounds P b (Done N0 lv nt ρ w x s') m a w' := by
            intro m
            induction m with
            | zero => intro a w' hh; exact hh.elim
            | succ m ih2 =>
              intro a w' hh
              refine wp_mono hh fun en a2 w2 h2 => ?_
              cases en with
              | normal => exact ih2 a2 w2 h2
              | _ => exact Done.trans k1 k2 h2
          exact mono m a1 w1 this
        · rename_i hne
          refine wp_mono (ih ρ s a w x s' hdr h (by rw [hf]; exact hs)) fun en a1 w1 hd => ?_
          cases x with
          | nrm => exact (hne _ hs).elim
          | ext k => obtain ⟨rfl, hr⟩ := hd; exact ⟨rfl, hr⟩
          | ret => obtain ⟨rfl, hr⟩ := hd; exact ⟨rfl, hr⟩
    exact key n ρ s a w h hs
  | exit id =>
    intro ρ s a w x s' hdr h hs
    simp only [shCode, Option.some.injEq, Prod.mk.injEq] at hs
    obtain ⟨rfl, rfl⟩ := hs
    exact wp_exit ⟨rfl, ρ, .refl _ _, .refl _, h⟩
  | ret =>
    intro ρ s a w x s' hdr h hs
    simp only [shCode, Option.some.injEq, Prod.mk.injEq] at hs
    obtain ⟨rfl, rfl⟩ := hs
    exact wp_ret ⟨rfl, ρ, .refl _ _, .refl _, h⟩
  | _ => intro ρ s a w x s' hdr h hs; simp [shCode] at hs
end
end Go.Proofs.Ythmlfonbfnmalaa.Sh
