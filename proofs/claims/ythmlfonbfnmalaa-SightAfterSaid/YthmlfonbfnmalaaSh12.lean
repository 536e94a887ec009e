/- A run of the program over values without memory, and that what it says holds of the program's own run. No condition. -/
import Derived.Test.YthmlfonbfnmalaaSh11
namespace Go.Proofs.Ythmlfonbfnmalaa.Sh
open Go.RowKit
set_option linter.unusedVariables false
set_option linter.unusedSimpArgs false

/-! ### The shadow run, step by step: what 'simp only' walks by -/
section
variable {cx : Cx} {nt : Nat} {keep : List Nat} {n : Nat} {dr : Bool} {ops : Array Oper} {s : LS} {env : Env} {G : List GO} {e : Operand → PV} {d : Option Nat} {ty : TypeId} {p : String} {af : Array Edge} {g : Option (Nat × Bool)}

def pairG (r : Option PV) (G : List GO) : Option (PV × List GO) :=
  match r with
  | some v => some (v, G)
  | none => none
theorem pairG_some (v : PV) (G : List GO) : pairG (some v) G = some (v, G) := rfl
theorem pairG_eq (r : Option PV) (G : List GO) : r.map (fun v => (v, G)) = pairG r G := by cases r <;> rfl
def boxG (r : Option (Nat × Nat × List GO)) : Option (PV × List GO) :=
  match r with
  | some (g, gen, G') => some (.box g gen 0, G')
  | none => none
theorem boxG_some (g gen : Nat) (G' : List GO) : boxG (some (g, gen, G')) = some (.box g gen 0, G') := rfl

theorem ev_nil : stepsL cx nt dr ops [] s = some s := rfl
theorem ev_cons (o : Oper) (r : List Oper) : stepsL cx nt dr ops (o :: r) s = andL (stepL cx nt dr ops o s) (stepsL cx nt dr ops r) := rfl
theorem ev_step (op : Op) : stepL cx nt dr ops ⟨d, op, ty, p, af, none⟩ (env, G) = putR (dstOk nt d) env d (opD cx dr ⟨d, op, ty, p, af, none⟩ (evl (look env)) G) := rfl
theorem opD_f (o : Oper) : opD cx false o e G = opR cx false o e G := if_pos (.inl rfl)
theorem opD_nil (P : Program) (E : TypeId → Option (List Nat)) (b : Nat) (sl : List Nat) (c : FuncId → List PV → List GO → Option (PV × List GO)) (o : Oper) : opD ⟨P, E, b, sl, c, []⟩ dr o e G = opR ⟨P, E, b, sl, c, []⟩ dr o e G := if_pos (.inr rfl)
/-- What a guard sees. -/
def seen (ops : Array Oper) (j : Nat) (env : Env) : PV :=
  match (ops[j]?).bind (·.dst) with
  | some t => look env t
  | none => .val undef
def wantV (w : Bool) (v : PV) : Option Bool :=
  match v with
  | .val (.bool b) => some (b == w)
  | .val (.tuple _) => some false
  | _ => none
theorem wantV_bool (w b : Bool) : wantV w (.val (.bool b)) = some (b == w) := rfl
theorem wantV_t (b : Bool) : wantV true (.val (.bool b)) = some b := by cases b <;> rfl
theorem wantV_f (b : Bool) : wantV false (.val (.bool b)) = some (!b) := by cases b <;> rfl
theorem wantV_undef (w : Bool) : wantV w (.val undef) = some false := rfl
theorem ev_stepG (op : Op) (j : Nat) (w : Bool) : stepL cx nt dr ops ⟨d, op, ty, p, af, some (j, w)⟩ (env, G) =
    onWant (wantV w (seen ops j env)) (putR (dstOk nt d) env d (opD cx dr ⟨d, op, ty, p, af, some (j, w)⟩ (evl (look env)) G)) (putR (dstOk nt d) env d (some (.val undef, G))) := by
  unfold stepL
  congr 1
  simp only [wantedP, seen, wantV]
  cases (ops[j]?).bind (·.dst) <;> rfl
theorem putR_some (env : Env) (t : Nat) (v : PV) (G : List GO) : putR true env (some t) (some (v, G)) = some ((t, v) :: env, G) := rfl
theorem putR_none (env : Env) (v : PV) (G : List GO) : putR true env none (some (v, G)) = some (env, G) := rfl
theorem dstOk_some (nt t : Nat) : dstOk nt (some t) = decide (t < nt) := rfl
theorem dstOk_none (nt : Nat) : dstOk nt none = true := rfl
theorem endR_some (env : Env) (G : List GO) : endR keep (some (env, G)) = some (.nrm, (prune keep env, G)) := rfl
theorem prune_nil (env : Env) : prune [] env = [] := rfl
theorem prune_cons (t : Nat) (r : List Nat) (env : Env) : prune (t :: r) env = (t, look env t) :: prune r env := rfl
theorem look_cons (t k : Nat) (v : PV) (r : Env) : look ((t, v) :: r) k = if t = k then v else look r k := rfl
theorem look_nil (k : Nat) : look [] k = .bad := rfl

theorem ev_skip : shCode cx nt keep n .skip s = some (.nrm, s) := rfl
theorem ev_region (id : Nat) : shCode cx nt keep n (.region id ops dr) s = endR keep (stepsL cx nt dr ops ops.toList s) := rfl
theorem ev_seq (a b : Code) : shCode cx nt keep n (.seq a b) s = thenC (shCode cx nt keep n a s) (shCode cx nt keep n b) := rfl
theorem ev_cond (c : Operand) (t f : Code) : shCode cx nt keep n (.cond c t f) s = onBool (evl (look s.1) c) (shCode cx nt keep n t s) (shCode cx nt keep n f s) := rfl
theorem ev_block (id : Nat) (b : Code) : shCode cx nt keep n (.block id b) s = outOf id (shCode cx nt keep n b s) := rfl
theorem ev_loop (b : Code) : shCode cx nt keep n (.loop b) s = shLoop (shCode cx nt keep n b) n s := rfl
theorem ev_exit (id : Nat) : shCode cx nt keep n (.exit id) s = some (.ext id, s) := rfl
theorem ev_ret : shCode cx nt keep n .ret s = some (.ret, s) := rfl
theorem thenC_nrm (s : LS) (f : LS → Option (Ex × LS)) : thenC (some (.nrm, s)) f = f s := rfl
theorem thenC_ext (k : Nat) (s : LS) (f : LS → Option (Ex × LS)) : thenC (some (.ext k, s)) f = some (.ext k, s) := rfl
theorem thenC_ret (s : LS) (f : LS → Option (Ex × LS)) : thenC (some (.ret, s)) f = some (.ret, s) := rfl
theorem outOf_nrm (id : Nat) (s : LS) : outOf id (some (.nrm, s)) = some (.nrm, s) := rfl
theorem outOf_ret (id : Nat) (s : LS) : outOf id (some (.ret, s)) = some (.ret, s) := rfl
theorem outOf_ext (id k : Nat) (s : LS) : outOf id (some (.ext k, s)) = if k = id then some (.nrm, s) else some (.ext k, s) := rfl
theorem evl_tmp (f : Nat → PV) (t : Nat) : evl f (.tmp t) = f t := rfl
theorem evl_const (f : Nat → PV) (v : Value) : evl f (.const v) = cv v := rfl
theorem evl_func (f : Nat → PV) (i : FuncId) : evl f (.func i) = .clo i [] := rfl
theorem cv_int (k : IntKind) (i : Int) : cv (.int k i) = .val (.int k i) := rfl
theorem cv_bool (b : Bool) : cv (.bool b) = .val (.bool b) := rfl
theorem cv_string (b : ByteArray) : cv (.string b) = .val (.string b) := rfl
theorem cv_nil : cv (.slice none 0 0) = .emp := rfl

theorem op_move (x : Operand) : opR cx dr ⟨d, .move x, ty, p, af, g⟩ e G = some (e x, G) := rfl
def asgn (cx : Cx) (ty : TypeId) (d : Option Nat) (G : List GO) : Option (PV × List GO) :=
  match cx.P.underlying ty with
  | some (.slice el) => match szOf cx.P el with
    | some sz => match newAt cx G d (.row sz []) with
      | some (g, gen, G') => some (.own g gen 0, G')
      | none => some (.emp, G)
    | none => none
  | _ => some (.emp, G)
def asg (cx : Cx) (ty : TypeId) (d : Option Nat) (G : List GO) (v : PV) : Option (PV × List GO) :=
  match v with
  | .emp => asgn cx ty d G
  | v => some (v, G)
theorem op_assign (x : Operand) : opR cx dr ⟨d, .assign x, ty, p, af, g⟩ e G = asg cx ty d G (e x) := by
  simp only [opR, asg, asgn]
  cases e x <;> rfl
theorem asg_val (v : Value) : asg cx ty d G (.val v) = some (.val v, G) := rfl
theorem asg_row (sz : Nat) (l : List (List PV)) : asg cx ty d G (.row sz l) = some (.row sz l, G) := rfl
theorem asg_own (a b c : Nat) : asg cx ty d G (.own a b c) = some (.own a b c, G) := rfl
theorem asg_box (a b c : Nat) : asg cx ty d G (.box a b c) = some (.box a b c, G) := rfl
theorem asg_elt (a b c x y z : Nat) : asg cx ty d G (.elt a b c x y z) = some (.elt a b c x y z, G) := rfl
theorem asg_at (l : List PV) : asg cx ty d G (.at l) = some (.at l, G) := rfl
theorem asg_clo (f : FuncId) (l : List PV) : asg cx ty d G (.clo f l) = some (.clo f l, G) := rfl
theorem asg_agg (l : List PV) : asg cx ty d G (.agg l) = some (.agg l, G) := rfl
theorem asg_nil (b : Bool) : asg cx ty d G (.nil b) = some (.nil b, G) := rfl
theorem asg_emp : asg cx ty d G .emp = asgn cx ty d G := rfl
theorem op_pick (c a b : Operand) : opR cx dr ⟨d, .pick c a b, ty, p, af, g⟩ e G = pairG (valOp cx.P cx.E e G (.pick c a b)) G := pairG_eq _ _
theorem v_pick (P : Program) (E : TypeId → Option (List Nat)) (c a b : Operand) : valOp P E e G (.pick c a b) = match e c with | .val (.bool t) => some (if t then e a else e b) | _ => none := rfl
theorem op_binOp (op : BinOp) (t : TypeId) (x y : Operand) (t' : TypeId) : opR cx dr ⟨d, .binOp op t x y t', ty, p, af, g⟩ e G = pairG (binV (cx.P.underlying t) (cx.E t) op y (e x) (e y)) G := pairG_eq _ _
theorem op_unOp (op : UnOp) (t : TypeId) (x : Operand) : opR cx dr ⟨d, .unOp op t x, ty, p, af, g⟩ e G = pairG (valOp cx.P cx.E e G (.unOp op t x)) G := pairG_eq _ _
def notV : PV → Option PV
  | .val (.bool b) => some (.val (.bool !b))
  | _ => none
theorem v_not (P : Program) (E : TypeId → Option (List Nat)) (t : TypeId) (x : Operand) : valOp P E e G (.unOp .not t x) = notV (e x) := by
  simp only [valOp, notV]
  cases e x <;> first | rfl | (rename_i v; cases v <;> rfl)
theorem notV_bool (b : Bool) : notV (.val (.bool b)) = some (.val (.bool !b)) := rfl
theorem op_fieldAddr (t : TypeId) (x : Operand) (f : Nat) : opR cx dr ⟨d, .fieldAddr t x f, ty, p, af, g⟩ e G = pairG (valOp cx.P cx.E e G (.fieldAddr t x f)) G := pairG_eq _ _
theorem op_field (t : TypeId) (x : Operand) (f : Nat) : opR cx dr ⟨d, .field t x f, ty, p, af, g⟩ e G = pairG (valOp cx.P cx.E e G (.field t x f)) G := pairG_eq _ _
theorem op_indexAddr (t : TypeId) (x i : Operand) : opR cx dr ⟨d, .indexAddr t x i, ty, p, af, g⟩ e G = pairG (valOp cx.P cx.E e G (.indexAddr t x i)) G := pairG_eq _ _
theorem op_index (t : TypeId) (x i : Operand) : opR cx dr ⟨d, .index t x i, ty, p, af, g⟩ e G = pairG (valOp cx.P cx.E e G (.index t x i)) G := pairG_eq _ _
theorem op_load (t : TypeId) (x : Operand) : opR cx dr ⟨d, .load t x, ty, p, af, g⟩ e G = pairG (valOp cx.P cx.E e G (.load t x)) G := pairG_eq _ _
theorem op_nilCheck (x : Operand) : opR cx dr ⟨d, .nilCheck x, ty, p, af, g⟩ e G = pairG (valOp cx.P cx.E e G (.nilCheck x)) G := pairG_eq _ _
theorem op_extract (x : Operand) (i : Nat) : opR cx dr ⟨d, .extract x i, ty, p, af, g⟩ e G = pairG (valOp cx.P cx.E e G (.extract x i)) G := pairG_eq _ _
theorem op_convert (t u : TypeId) (x : Operand) : opR cx dr ⟨d, .convert t u x, ty, p, af, g⟩ e G = pairG (valOp cx.P cx.E e G (.convert t u x)) G := pairG_eq _ _
theorem op_build (t : TypeId) (ps : Array (Nat × Operand)) : opR cx dr ⟨d, .build t ps, ty, p, af, g⟩ e G = pairG (bldOf cx.P G t (ps.toList.map fun (i, x) => (i, e x))) G := pairG_eq _ _
theorem op_buildSlice (t : TypeId) (k : Nat) (ps : Array (Nat × Operand)) : opR cx dr ⟨d, .buildSlice t k ps, ty, p, af, g⟩ e G = pairG (valOp cx.P cx.E e G (.buildSlice t k ps)) G := pairG_eq _ _
theorem op_slice (t : TypeId) (x : Operand) (lo hi mx : Option Operand) : opR cx dr ⟨d, .slice t x lo hi mx, ty, p, af, g⟩ e G = pairG (valOp cx.P cx.E e G (.slice t x lo hi mx)) G := pairG_eq _ _
theorem op_makeFunc (f : Fn) (a b : Array Operand) : opR cx dr ⟨d, .makeFunc f a b, ty, p, af, g⟩ e G = pairG (valOp cx.P cx.E e G (.makeFunc f a b)) G := pairG_eq _ _
theorem op_len (as : Array Operand) (ts : Array TypeId) : opR cx dr ⟨d, .call ⟨.builtin .len, as, ts⟩, ty, p, af, g⟩ e G = pairG (valOp cx.P cx.E e G (.call ⟨.builtin .len, as, ts⟩)) G := pairG_eq _ _
theorem op_max (as : Array Operand) (ts : Array TypeId) : opR cx dr ⟨d, .call ⟨.builtin .max, as, ts⟩, ty, p, af, g⟩ e G = pairG (valOp cx.P cx.E e G (.call ⟨.builtin .max, as, ts⟩)) G := pairG_eq _ _
theorem op_min (as : Array Operand) (ts : Array TypeId) : opR cx dr ⟨d, .call ⟨.builtin .min, as, ts⟩, ty, p, af, g⟩ e G = pairG (valOp cx.P cx.E e G (.call ⟨.builtin .min, as, ts⟩)) G := pairG_eq _ _
theorem op_append (as : Array Operand) (ts : Array TypeId) : opR cx dr ⟨d, .call ⟨.builtin .append, as, ts⟩, ty, p, af, g⟩ e G = appOp cx G d e as.toList ts.toList := rfl
theorem op_lookup (t : TypeId) (x k : Operand) (ok : Bool) : opR cx dr ⟨d, .lookup t x k ok, ty, p, af, g⟩ e G = pairG (valOp cx.P cx.E e G (.lookup t x k ok)) G := pairG_eq _ _
def mapG (r : Option (Nat × Nat × List GO)) : Option (PV × List GO) :=
  match r with
  | some (g, gen, G') => some (.mp g gen, G')
  | none => none
theorem mapG_some (g gen : Nat) (G' : List GO) : mapG (some (g, gen, G')) = some (.mp g gen, G') := rfl
def mkM (cx : Cx) (t : TypeId) (d : Option Nat) (G : List GO) : Option (PV × List GO) :=
  match cx.P.underlying t with
  | some (.map kt _) => match shapeT cx.P kt with
    | some s => mapG (newAt cx G d (.map s []))
    | none => none
  | _ => none
theorem op_makeMap (t : TypeId) : opR cx dr ⟨d, .makeMap t none, ty, p, af, g⟩ e G = mkM cx t d G := rfl
def upG (v : PV) (r : Option (List GO)) : Option (PV × List GO) :=
  match r with
  | some G' => some (v, G')
  | none => none
theorem upG_some (v : PV) (G' : List GO) : upG v (some G') = some (v, G') := rfl
theorem upG_eq (v : PV) (r : Option (List GO)) : r.map (fun G' => (v, G')) = upG v r := by cases r <;> rfl
def upM (cx : Cx) (t : TypeId) (G : List GO) (m k v : PV) : Option (PV × List GO) :=
  match cx.P.underlying t with
  | some (.map kt _) => upG (.val undef) (updM cx.P cx.base kt G m (keyV k) v)
  | _ => none
theorem op_mapUpdate (t : TypeId) (m k x : Operand) : opR cx dr ⟨d, .mapUpdate t m k x, ty, p, af, g⟩ e G = upM cx t G (e m) (e k) (e x) := by
  simp only [opR, upM, ← upG_eq]
  rfl
theorem op_insert (t : TypeId) (m k x : Operand) : opR cx dr ⟨d, .insert t m k x, ty, p, af, g⟩ e G = upM cx t G (e m) (e k) (e x) := by
  simp only [opR, upM, ← upG_eq]
  rfl
def dlM (cx : Cx) (t : TypeId) (G : List GO) (m k : PV) : Option (PV × List GO) :=
  match cx.P.underlying t with
  | some (.map kt _) => upG (.tup []) (strikeM cx.P kt G m (keyV k))
  | _ => none
theorem op_delete (m k : Operand) (t tk : TypeId) : opR cx dr ⟨d, .call ⟨.builtin .delete, #[m, k], #[t, tk]⟩, ty, p, af, g⟩ e G = dlM cx t G (e m) (e k) := by
  simp only [opR, dlM, ← upG_eq]
  rfl
def mkS (cx : Cx) (t : TypeId) (d : Option Nat) (G : List GO) (l c : PV) : Option (PV × List GO) :=
  match cx.P.underlying t, l, c with
  | some (.slice el), .val (.int _ n), .val (.int _ n') => match elOf cx.P el with
    | some (sz, by_, zs) => if n = n' ∧ 0 ≤ n ∧ n ≤ 2 ^ 62 ∧ n.toNat * by_ ≤ 2 ^ 47 ∧ 0 < sz then (match newAt cx G d (.row sz (List.replicate n.toNat (zs.map cv))) with
      | some (g, gen, G') => some (.own g gen n.toNat, G')
      | none => none) else none
    | none => none
  | _, _, _ => none
theorem op_makeSlice (t : TypeId) (l c : Operand) : opR cx dr ⟨d, .makeSlice t l c, ty, p, af, g⟩ e G = mkS cx t d G (e l) (e c) := rfl
def newBox (cx : Cx) (G : List GO) (d : Option Nat) (c : Option (List PV)) : Option (PV × List GO) :=
  match c with
  | some xs => boxG (newAt cx G d (.box xs))
  | none => none
theorem newBox_some (xs : List PV) : newBox cx G d (some xs) = boxG (newAt cx G d (.box xs)) := rfl
theorem op_box (t : TypeId) (x : Operand) : opR cx dr ⟨d, .box t x, ty, p, af, g⟩ e G = newBox cx G d (cellsOf G (e x)) := by
  simp only [opR]
  cases cellsOf G (e x) <;> rfl
theorem op_alloc (t : TypeId) : opR cx dr ⟨d, .alloc t, ty, p, af, g⟩ e G = newBox cx G d ((zeroOf cx.P t).map fun z => z.cells.toList.map cv) := by
  simp only [opR]
  cases zeroOf cx.P t <;> rfl
def storeR (cx : Cx) (t : TypeId) (G : List GO) (a : PV) (xs : Option (List PV)) : Option (PV × List GO) :=
  match xs with
  | some xs => if szOf cx.P t = some xs.length then (match storeG cx.base G a xs with | some G' => some (.val undef, G') | none => none) else none
  | none => none
theorem storeR_some (t : TypeId) (a : PV) (xs : List PV) : storeR cx t G a (some xs) = if szOf cx.P t = some xs.length then (match storeG cx.base G a xs with | some G' => some (.val undef, G') | none => none) else none := rfl
theorem op_store (t : TypeId) (x y : Operand) : opR cx dr ⟨d, .store t x y, ty, p, af, g⟩ e G = storeR cx t G (e x) (cellsOf G (e y)) := by
  simp only [opR, storeR]
  cases cellsOf G (e y) with
  | none => rfl
  | some xs =>
    simp only
    split
    · cases storeG cx.base G (e x) xs <;> rfl
    · rfl
def pickC (cx : Cx) (dr : Bool) (f : FuncId) (args : List PV) (G : List GO) (d : Option Nat) : Bool → Option (PV × List GO)
  | true => callS cx f args G d
  | false => callP cx dr f args G
theorem pickC_t (f : FuncId) (args : List PV) : pickC cx dr f args G d true = callS cx f args G d := rfl
theorem pickC_f (f : FuncId) (args : List PV) : pickC cx dr f args G d false = callP cx dr f args G := rfl
theorem slot_none : slotted cx none = false := rfl
theorem slot_some (t : Nat) : slotted cx (some t) = (slotIx 0 cx.slots t).isSome := rfl
def callV (cx : Cx) (dr : Bool) (G : List GO) (as : List PV) (d : Option Nat) (f : PV) : Option (PV × List GO) :=
  match f with
  | .clo fid cs => callPS cx dr fid (as ++ cs) G d
  | _ => none
theorem callV_clo (as : List PV) (fid : FuncId) (cs : List PV) : callV cx dr G as d (.clo fid cs) = pickC cx dr fid (as ++ cs) G d (slotted cx d) := by
  unfold callV callPS pickC
  cases slotted cx d <;> rfl
theorem op_call (f : Operand) (as : Array Operand) (ts : Array TypeId) : opR cx dr ⟨d, .call ⟨.value f, as, ts⟩, ty, p, af, g⟩ e G = callV cx dr G (as.toList.map e) d (e f) := by
  simp only [opR]
  cases e f <;> rfl
/-! ### A call, in the same way -/
def sealL.consO : Option PV → Option (List PV) → Option (List PV)
  | some v, some r => some (v :: r)
  | _, _ => none
def sealL (G : List GO) : List PV → Option (List PV)
  | [] => some []
  | v :: r => sealL.consO (sealArg G v) (sealL G r)
theorem sealL_nil : sealL G [] = some [] := rfl
theorem sealL_cons (v : PV) (r : List PV) : sealL G (v :: r) = sealL.consO (sealArg G v) (sealL G r) := rfl
theorem consO_some (v : PV) (r : List PV) : sealL.consO (some v) (some r) = some (v :: r) := rfl
theorem sealL_eq : ∀ l, sealL G l = l.mapM (sealArg G)
  | [] => rfl
  | v :: r => by
    rw [sealL, sealL_eq r, List.mapM_cons]
    cases sealArg G v with
    | none => rfl
    | some x => cases List.mapM (sealArg G) r <;> rfl
def allP (p : PV → Bool) : List PV → Bool
  | [] => true
  | v :: r => p v && allP p r
theorem allP_nil (p : PV → Bool) : allP p [] = true := rfl
theorem allP_cons (p : PV → Bool) (v : PV) (r : List PV) : allP p (v :: r) = (p v && allP p r) := rfl
theorem allP_eq (p : PV → Bool) : ∀ l, allP p l = l.all p
  | [] => rfl
  | v :: r => by rw [allP, allP_eq p r]; rfl
def noOwn (v : PV) : Bool := !hasOwn v
def allG : List GO → Bool
  | [] => true
  | o :: r => isRowG o && allG r
theorem allG_eq : ∀ l, allG l = l.all isRowG
  | [] => rfl
  | o :: r => by rw [allG, allG_eq r]; rfl
theorem allG_nil : allG [] = true := rfl
theorem allG_cons (o : GO) (r : List GO) : allG (o :: r) = (isRowG o && allG r) := rfl
def goCall (pure no : Bool) (dr : Bool) (r1 r2 : Option (PV × List GO)) (G : List GO) : Option (PV × List GO) :=
  match pure with
  | true => (match r1 with
    | some (r, []) => if (pureV r && (no || scalV r)) = true then some (r, G) else none
    | some (r, G2) => if (!dr && keptV r && allG G2 && no) = true then some (shiftR G.length r, G ++ G2) else none
    | none => if dr = true then none else r2)
  | false => if dr = true then none else r2
theorem goCall_pure (no dr : Bool) (r : PV) (r2 : Option (PV × List GO)) : goCall true no dr (some (r, [])) r2 G = if (pureV r && (no || scalV r)) = true then some (r, G) else none := rfl
theorem goCall_kept (no dr : Bool) (r : PV) (o : GO) (G3 : List GO) (r2 : Option (PV × List GO)) : goCall true no dr (some (r, o :: G3)) r2 G = if (!dr && keptV r && allG (o :: G3) && no) = true then some (shiftR G.length r, G ++ (o :: G3)) else none := rfl
theorem goCall_none (no : Bool) (r2 : Option (PV × List GO)) : goCall true no false none r2 G = r2 := rfl
theorem goCall_raw (no : Bool) (r1 r2 : Option (PV × List GO)) : goCall false no false r1 r2 G = r2 := rfl
/-! ### A call whose result has its own slot -/
def onS : Bool → Option (PV × List GO) → Option (PV × List GO)
  | true, r => r
  | false, _ => none
theorem onS_t (r : Option (PV × List GO)) : onS true r = r := rfl
def ownG (n : Nat) : Option (Nat × Nat × List GO) → Option (PV × List GO)
  | some (g, gen, G') => some (.own g gen n, G')
  | none => none
theorem ownG_some (n g gen : Nat) (G' : List GO) : ownG n (some (g, gen, G')) = some (.own g gen n, G') := rfl
theorem ev_callS (f : FuncId) (args : List PV) : callS cx f args G d = onS (allP noOwn args && allP pureV args) (putC cx G d (cx.call f args [])) := by
  unfold callS
  rw [allP_eq, allP_eq]
  have hno : args.all noOwn = args.all (fun v => !hasOwn v) := rfl
  rw [hno]
  cases args.all (fun v => !hasOwn v) <;> cases args.all pureV <;> rfl
theorem putC_pure (r : PV) : putC cx G d (some (r, [])) = onS (pureV r) (some (r, G)) := by
  cases h : pureV r <;> simp [putC, onS, h]
theorem putC_own (gen n : Nat) (o : GO) : putC cx G d (some (.own 0 gen n, [o])) = onS (decide (gen = o.gen) && isRowG o) (ownG n (newAt cx G d o.c)) := by
  unfold putC
  by_cases h1 : gen = o.gen <;> cases h2 : isRowG o <;> simp [h1, h2, onS, ownG] <;> first | done | rfl
theorem putC_mp (gen : Nat) (o : GO) : putC cx G d (some (.mp 0 gen, [o])) = onS (decide (gen = o.gen) && isRowG o) (mapG (newAt cx G d o.c)) := by
  unfold putC
  by_cases h1 : gen = o.gen <;> cases h2 : isRowG o <;> simp [h1, h2, onS, mapG] <;> first | done | rfl
def onSeal (cx : Cx) (dr : Bool) (f : FuncId) (args : List PV) (G : List GO) (as' : Option (List PV)) : Option (PV × List GO) :=
  match as' with
  | some as' => goCall (allP pureV as') (allP noOwn args) dr (cx.call f as' []) (cx.call f args G) G
  | none => none
theorem onSeal_some (f : FuncId) (args as' : List PV) : onSeal cx dr f args G (some as') = goCall (allP pureV as') (allP noOwn args) dr (cx.call f as' []) (cx.call f args G) G := rfl
theorem ev_callP (f : FuncId) (args : List PV) : callP cx dr f args G = onSeal cx dr f args G (sealL G args) := by
  unfold callP onSeal
  rw [sealL_eq]
  cases args.mapM (sealArg G) with
  | none => rfl
  | some as' =>
    simp only
    rw [allP_eq, allP_eq]
    unfold goCall
    have hno : args.all noOwn = args.all (fun v => !hasOwn v) := rfl
    cases hp : as'.all pureV with
    | true =>
      simp only [if_true]
      cases hc : cx.call f as' [] with
      | none => rfl
      | some q =>
        obtain ⟨r, G2⟩ := q
        cases G2 with
        | cons o G3 =>
          simp only
          rw [hno, allG_eq]
          have : (dr = false ∧ keptV r = true ∧ (o :: G3).all isRowG = true ∧ args.all (fun v => !hasOwn v) = true) ↔ (!dr && keptV r && (o :: G3).all isRowG && args.all (fun v => !hasOwn v)) = true := by
            simp only [Bool.and_eq_true, Bool.not_eq_true']
            constructor
            · rintro ⟨a, b, c, d⟩; exact ⟨⟨⟨a, b⟩, c⟩, d⟩
            · rintro ⟨⟨⟨a, b⟩, c⟩, d⟩; exact ⟨a, b, c, d⟩
          split <;> rename_i h9
          · rw [if_pos (this.1 h9)]
          · rw [if_neg (fun h => h9 (this.2 h))]
        | nil =>
          simp only
          rw [hno]
          have : (pureV r = true ∧ (args.all (fun v => !hasOwn v) = true ∨ scalV r = true)) ↔ (pureV r && (args.all (fun v => !hasOwn v) || scalV r)) = true := by
            rw [Bool.and_eq_true, Bool.or_eq_true]
          split <;> rename_i h9
          · rw [if_pos (this.1 h9)]
          · rw [if_neg (fun h => h9 (this.2 h))]
    | false => simp only [Bool.false_eq_true, if_false]
theorem cells_agg (cs : Array Value) : (Value.agg cs).cells = cs := rfl
theorem cells_int (k : IntKind) (i : Int) : (Value.int k i).cells = #[.int k i] := rfl
theorem cells_bool (b : Bool) : (Value.bool b).cells = #[.bool b] := rfl
theorem cells_slice (a : Option Addr) (n c : Nat) : (Value.slice a n c).cells = #[.slice a n c] := rfl
theorem cells_string (b : ByteArray) : (Value.string b).cells = #[.string b] := rfl

/-- A loop over numbers from i on, below n: what holds at its head, and what it ends in. -/
theorem loop_index {F : LS → Option (Ex × LS)} (St : Nat → LS → Prop) (n : Nat) (post : Ex → LS → Prop)
    (step : ∀ i, i < n → ∀ s, St i s → (∃ s', F s = some (.nrm, s') ∧ St (i + 1) s') ∨ (∃ x s', x ≠ .nrm ∧ F s = some (x, s') ∧ post x s'))
    (stop : ∀ s, St n s → ∃ x s', x ≠ .nrm ∧ F s = some (x, s') ∧ post x s') : ∀ (m i : Nat) (s : LS), i ≤ n → n - i < m → St i s → ∃ x s', x ≠ .nrm ∧ shLoop F m s = some (x, s') ∧ post x s'
  | 0, i, s, _, h, _ => absurd h (Nat.not_lt_zero _)
  | m + 1, i, s, hi, hm, hs => by
    have fin : (∃ x s', x ≠ .nrm ∧ F s = some (x, s') ∧ post x s') → ∃ x s', x ≠ .nrm ∧ shLoop F (m + 1) s = some (x, s') ∧ post x s' := fun ⟨x, s', h1, h2, h3⟩ => by
      refine ⟨x, s', h1, ?_, h3⟩
      simp only [shLoop, h2]
      cases x with
      | nrm => exact absurd rfl h1
      | ext k => rfl
      | ret => rfl
    rcases Nat.lt_or_ge i n with h | h
    · rcases step i h s hs with ⟨s', h1, h2⟩ | h1
      · obtain ⟨x, s2, h3, h4, h5⟩ := loop_index St n post step stop m (i + 1) s' h (by omega) h2
        exact ⟨x, s2, h3, by simp only [shLoop, h1, h4], h5⟩
      · exact fin h1
    · have : i = n := by omega
      subst this
      exact fin (stop s hs)
theorem loop_from {F : LS → Option (Ex × LS)} {m : Nat} {s : LS} {r : Option (Ex × LS)} (hL : shLoop F m s = r) (St : Nat → LS → Prop) (n : Nat) (post : Ex → LS → Prop) (h0 : St 0 s) (hn : n < m)
    (step : ∀ i, i < n → ∀ s, St i s → (∃ s', F s = some (.nrm, s') ∧ St (i + 1) s') ∨ (∃ x s', x ≠ .nrm ∧ F s = some (x, s') ∧ post x s'))
    (stop : ∀ s, St n s → ∃ x s', x ≠ .nrm ∧ F s = some (x, s') ∧ post x s') : ∃ x s', x ≠ .nrm ∧ r = some (x, s') ∧ post x s' := by
  obtain ⟨x, s', h1, h2, h3⟩ := loop_index St n post step stop m 0 s (Nat.zero_le _) (by omega) h0
  exact ⟨x, s', h1, hL.symm.trans h2, h3⟩
end
end Go.Proofs.Ythmlfonbfnmalaa.Sh
