/- A run of the program over values without memory, and that what it says holds of the program's own run. No condition. -/
import Derived.BigQuiet
import Derived.Below
import Derived.Lib.SliceRun
import Derived.MapKept
namespace Go.Proofs.Ythmlfonbfnmalaa.Sh
open Go.RowKit
set_option linter.unusedVariables false
set_option linter.unusedSimpArgs false

/-! ### Keys of maps: whole numbers, bools, strings, and structs of such -/
inductive KD where
  | int (k : IntKind)
  | bool
  | str
  deriving DecidableEq
inductive KS where
  | one (d : KD)
  | many (ds : List KD)
  deriving DecidableEq
def KD.of : Value → Option KD
  | .int k _ => some (.int k)
  | .bool _ => some .bool
  | .string _ => some .str
  | _ => none
def shapes : List Value → Option (List KD)
  | [] => some []
  | v :: r => match KD.of v, shapes r with
    | some d, some ds => some (d :: ds)
    | _, _ => none
def shapeV : Value → Option KS
  | .agg xs => (shapes xs.toList).map .many
  | v => (KD.of v).map .one
/-- Whether two keys of one shape are equal. -/
def keyEq1 : Value → Value → Bool
  | .int _ a, .int _ b => a == b
  | .bool a, .bool b => a == b
  | .string a, .string b => a.toList == b.toList
  | _, _ => false
def keyEqs : List Value → List Value → Bool
  | [], [] => true
  | a :: as, b :: bs => keyEq1 a b && keyEqs as bs
  | _, _ => false
def keyEq : Value → Value → Bool
  | .agg xs, .agg ys => keyEqs xs.toList ys.toList
  | a, b => keyEq1 a b

/-- A value as the shadow run sees it. -/
inductive PV where
  | val (v : Value)
  | agg (cs : List PV)
  | row (sz : Nat) (l : List (List PV))
  | at (cs : List PV)
  | emp
  | nil (b : Bool)
  | box (g gen off : Nat)
  | own (g gen n : Nat)
  | elt (g gen n sz i k : Nat)
  | tup (vs : List PV)
  | clo (f : FuncId) (caps : List PV)
  | mp (g gen : Nat)
  | mpv (s : KS) (l : List (Value × PV))
  | bad
  deriving Inhabited

inductive GC where
  | none
  | box (cs : List PV)
  | row (sz : Nat) (l : List (List PV))
  | map (s : KS) (l : List (Value × PV))
  deriving Inhabited
structure GO where
  gen : Nat
  c : GC
  deriving Inhabited
/-- What stands for a ghost block in the memory. -/
structure RR where
  gen : Nat
  len : Nat
  blk : Option Nat
  ad : Option Addr
  cap : Nat
  deriving Inhabited

def Own (ρ : List RR) (b : Nat) : Prop := ∃ e ∈ ρ, e.blk = some b

def RLe (e e' : RR) : Prop := e.gen < e'.gen ∨ (e.gen = e'.gen ∧ (e.len < e'.len ∨ e = e'))
theorem RLe.refl (e : RR) : RLe e e := .inr ⟨rfl, .inr rfl⟩
theorem RLe.trans {a b c : RR} (h : RLe a b) (k : RLe b c) : RLe a c := by
  unfold RLe at *
  rcases h with h | ⟨h1, h2 | rfl⟩ <;> rcases k with k | ⟨k1, k2 | rfl⟩
  all_goals first | (left; omega) | (right; refine ⟨by omega, ?_⟩; first | (left; omega) | (right; rfl)) | skip
def LLe (ρ ρ' : List RR) : Prop := ∀ (g : Nat) (e : RR), ρ[g]? = some e → ∃ e', ρ'[g]? = some e' ∧ RLe e e'
theorem LLe.refl (ρ : List RR) : LLe ρ ρ := fun _ e h => ⟨e, h, .refl _⟩
theorem LLe.nil (ρ : List RR) : LLe [] ρ := fun _ _ h => by simp at h
theorem LLe.trans {a b c : List RR} (h : LLe a b) (k : LLe b c) : LLe a c := fun g e he =>
  let ⟨e1, h1, r1⟩ := h g e he
  let ⟨e2, h2, r2⟩ := k g e1 h1
  ⟨e2, h2, r1.trans r2⟩

/-- What a map's entries are, whatever their order. -/
def MapC (es : Array MapEntry) (clock : Nat) (kvs : List (Value × Value)) : Prop := MapKept.Stamped es clock ∧ (es.toList.map fun e => (e.key, e.val)).Perm kvs

inductive RV (N : Nat → Prop) (w : World) : List RR → PV → Value → Prop
  | bad {ρ v} : RV N w ρ .bad v
  | val {ρ v} : RV N w ρ (.val v) v
  | agg {ρ} {cs : List PV} {vs : Array Value} (hl : vs.size = cs.length) (h : ∀ (j : Nat) (pv : PV), cs[j]? = some pv → RV N w ρ pv (vs.getD j undef)) : RV N w ρ (.agg cs) (.agg vs)
  | tup {ρ} {cs : List PV} {vs : Array Value} (hl : vs.size = cs.length) (h : ∀ (j : Nat) (pv : PV), cs[j]? = some pv → RV N w ρ pv (vs.getD j undef)) : RV N w ρ (.tup cs) (.tuple vs)
  | row {ρ} {sz : Nat} {l : List (List PV)} (A : Option Addr) (c : Nat) (f : Nat → Nat → Value) (hc : l.length ≤ c) (hs : ∀ x ∈ l, x.length = sz)
      (hA : l ≠ [] → ∃ b o, A = some ⟨b, o, none⟩ ∧ ¬ N b ∧ b < w.heap.size ∧ ∀ i j, i < l.length → j < sz → w.cell? ⟨b, o + (i * sz + j), none⟩ = some (f i j))
      (h : ∀ (i j : Nat) (x : List PV) (pv : PV), l[i]? = some x → x[j]? = some pv → RV N w [] pv (f i j)) : RV N w ρ (.row sz l) (.slice A l.length c)
  | at {ρ} {cs : List PV} (b o : Nat) (f : Nat → Value) (hN : ¬ N b) (hb : b < w.heap.size) (hc : ∀ j, j < cs.length → w.cell? ⟨b, o + j, none⟩ = some (f j))
      (h : ∀ (j : Nat) (pv : PV), cs[j]? = some pv → RV N w [] pv (f j)) : RV N w ρ (.at cs) (.pointer (some ⟨b, o, none⟩))
  | emp {ρ} (A : Option Addr) : RV N w ρ .emp (.slice A 0 0)
  | nil {ρ} (A : Option Addr) (c : Nat) : RV N w ρ (.nil A.isNone) (.slice A 0 c)
  | box {ρ} {g gen off : Nat} {v : Value} (e : RR) (he : ρ[g]? = some e) (hg : gen ≤ e.gen) (hv : e.gen = gen → e.len = 0 → ∃ b, e.blk = some b ∧ v = .pointer (some ⟨b, off, none⟩)) : RV N w ρ (.box g gen off) v
  | own {ρ} {g gen n : Nat} {v : Value} (e : RR) (he : ρ[g]? = some e) (hg : gen ≤ e.gen) (hn : e.gen = gen → n ≤ e.len)
      (hv : e.gen = gen → e.len = n → v = .slice e.ad n e.cap) : RV N w ρ (.own g gen n) v
  | elt {ρ} {g gen n sz i k : Nat} {v : Value} (e : RR) (he : ρ[g]? = some e) (hg : gen ≤ e.gen) (hn : e.gen = gen → n ≤ e.len)
      (hv : e.gen = gen → e.len = n → ∃ b, e.blk = some b ∧ v = .pointer (some ⟨b, i * sz + k, none⟩)) : RV N w ρ (.elt g gen n sz i k) v
  | clo {ρ} {f : FuncId} {cs : List PV} {vs : Array Value} (hl : vs.size = cs.length) (h : ∀ (j : Nat) (pv : PV), cs[j]? = some pv → RV N w ρ pv (vs.getD j undef)) : RV N w ρ (.clo f cs) (.func (.func f) #[] vs)

  | mp {ρ} {g gen : Nat} {v : Value} (e : RR) (he : ρ[g]? = some e) (hg : gen ≤ e.gen) (hv : e.gen = gen → e.len = 0 → ∃ b, e.blk = some b ∧ v = .map (some b)) : RV N w ρ (.mp g gen) v
  | mpv {ρ} {s : KS} {l : List (Value × PV)} (b : Nat) (es : Array MapEntry) (clock : Nat) (kvs : List (Value × Value)) (hN : ¬ N b) (hb : w.heap[b]? = some (.map es clock)) (hM : MapC es clock kvs) (hs : ∀ x ∈ kvs, shapeV x.1 = some s) (hl : kvs.map (·.1) = l.map (·.1))
      (h : ∀ (i : Nat) (k k' : Value) (pv : PV) (v : Value), l[i]? = some (k, pv) → kvs[i]? = some (k', v) → RV N w [] pv v) : RV N w ρ (.mpv s l) (.map (some b))

/-- What a step may do to the memory. -/
structure Step (ρ : List RR) (w : World) (ρ' : List RR) (w' : World) : Prop where
  os : w'.os = w.os
  tape : w'.tape = w.tape
  output : w'.output = w.output
  size : w.heap.size ≤ w'.heap.size
  keep : ∀ b, b < w.heap.size → ¬ Own ρ b → w'.heap[b]? = w.heap[b]?
  new : ∀ b, Own ρ' b → Own ρ b ∨ w.heap.size ≤ b
theorem Step.refl (ρ : List RR) (w : World) : Step ρ w ρ w := ⟨rfl, rfl, rfl, Nat.le_refl _, fun _ _ _ => rfl, fun _ h => .inl h⟩
theorem Step.trans {ρ ρ1 ρ2 : List RR} {w w1 w2 : World} (h : Step ρ w ρ1 w1) (k : Step ρ1 w1 ρ2 w2) : Step ρ w ρ2 w2 where
  os := k.os.trans h.os
  tape := k.tape.trans h.tape
  output := k.output.trans h.output
  size := Nat.le_trans h.size k.size
  keep b hb hn := by
    have h1 : ¬ Own ρ1 b := fun ho => by rcases h.new b ho with h2 | h2; exact hn h2; omega
    exact (k.keep b (Nat.lt_of_lt_of_le hb h.size) h1).trans (h.keep b hb hn)
  new b ho := by
    rcases k.new b ho with h1 | h1
    · exact h.new b h1
    · exact .inr (Nat.le_trans h.size h1)
theorem Step.below {ρ : List RR} {w w' : World} (h : Below w.heap.size w w') : Step ρ w ρ w' :=
  ⟨h.os, h.tape, h.output, h.size, fun b hb _ => h.block b hb, fun _ h => .inl h⟩

theorem cell_heap {w w' : World} {a : Addr} (h : w'.heap[a.block]? = w.heap[a.block]?) : w'.cell? a = w.cell? a := by
  unfold World.cell?
  rw [h]

/-- The blocks that no row told of may lie in: those that must not be touched, and the ghosts' own. -/
def Pr (N0 : Nat → Prop) (ρ : List RR) (b : Nat) : Prop := N0 b ∨ Own ρ b
/-- What is told of a value holds on behind a step. -/
theorem RV.step {N0 : Nat → Prop} {ρ₀ ρ₁ : List RR} {w w' : World} (hs : Step ρ₀ w ρ₁ w') {ρ : List RR} {pv : PV} {v : Value} (h : RV (Pr N0 ρ₀) w ρ pv v) :
    ∀ {ρ' : List RR}, LLe ρ ρ' → RV (Pr N0 ρ₁) w' ρ' pv v := by
  induction h with
  | bad => exact fun _ => .bad
  | val => exact fun _ => .val
  | agg hl _ ih => exact fun hL => .agg hl fun j pv hj => ih j pv hj hL
  | tup hl _ ih => exact fun hL => .tup hl fun j pv hj => ih j pv hj hL
  | clo hl _ ih => exact fun hL => .clo hl fun j pv hj => ih j pv hj hL
  | row A c f hc hz hA _ ih =>
    refine fun hL => .row A c f hc hz (fun hne => ?_) fun i j x pv hi hj => ih i j x pv hi hj (.nil _)
    obtain ⟨b, o, hA1, hN, hb, hcell⟩ := hA hne
    refine ⟨b, o, hA1, fun ho => ?_, Nat.lt_of_lt_of_le hb hs.size, fun i j hi hj => ?_⟩
    · rcases ho with ho | ho
      · exact hN (.inl ho)
      · rcases hs.new b ho with h2 | h2
        · exact hN (.inr h2)
        · omega
    · rw [← hcell i j hi hj]
      exact cell_heap (hs.keep b hb fun ho => hN (.inr ho))
  | «at» b o f hN hb hc _ ih =>
    refine fun hL => .at b o f (fun ho => ?_) (Nat.lt_of_lt_of_le hb hs.size) (fun j hj => ?_) fun j pv hj => ih j pv hj (.nil _)
    · rcases ho with ho | ho
      · exact hN (.inl ho)
      · rcases hs.new b ho with h2 | h2
        · exact hN (.inr h2)
        · omega
    · rw [← hc j hj]
      exact cell_heap (hs.keep b hb fun ho => hN (.inr ho))
  | mp e he hg hv =>
    intro ρ' hL
    obtain ⟨e', he', hr⟩ := hL _ _ he
    refine .mp e' he' ?_ fun h h' => ?_
    · rcases hr with h | ⟨h, _⟩ <;> omega
    · rcases hr with h1 | ⟨h1, h2 | rfl⟩
      · omega
      · omega
      · exact hv h h'
  | mpv b es clock kvs hN hb hM hs0 hl _ ih =>
    refine fun hL => .mpv b es clock kvs (fun ho => ?_) ?_ hM hs0 hl fun i k k' pv v hi hk => ih i k k' pv v hi hk (.nil _)
    · have hbs : b < w.heap.size := (Array.getElem?_eq_some_iff.1 hb).1
      rcases ho with ho | ho
      · exact hN (.inl ho)
      · rcases hs.new b ho with h2 | h2
        · exact hN (.inr h2)
        · omega
    · rw [hs.keep b (Array.getElem?_eq_some_iff.1 hb).1 fun ho => hN (.inr ho)]
      exact hb
  | emp A => exact fun _ => .emp A
  | nil A c => exact fun _ => .nil A c
  | box e he hg hv =>
    intro ρ' hL
    obtain ⟨e', he', hr⟩ := hL _ _ he
    refine .box e' he' ?_ fun h h' => ?_
    · rcases hr with h | ⟨h, _⟩ <;> omega
    · rcases hr with h1 | ⟨h1, h2 | rfl⟩
      · omega
      · omega
      · exact hv h h'
  | own e he hg hn hv =>
    intro ρ' hL
    obtain ⟨e', he', hr⟩ := hL _ _ he
    refine .own e' he' ?_ (fun h => ?_) fun h h' => ?_
    · rcases hr with h | ⟨h, _⟩ <;> omega
    · rcases hr with h1 | ⟨h1, h2 | rfl⟩
      · omega
      · have := hn (by omega); omega
      · exact hn h
    · rcases hr with h1 | ⟨h1, h2 | rfl⟩
      · omega
      · have := hn (by omega); omega
      · exact hv h h'
  | elt e he hg hn hv =>
    intro ρ' hL
    obtain ⟨e', he', hr⟩ := hL _ _ he
    refine .elt e' he' ?_ (fun h => ?_) fun h h' => ?_
    · rcases hr with h | ⟨h, _⟩ <;> omega
    · rcases hr with h1 | ⟨h1, h2 | rfl⟩
      · omega
      · have := hn (by omega); omega
      · exact hn h
    · rcases hr with h1 | ⟨h1, h2 | rfl⟩
      · omega
      · have := hn (by omega); omega
      · exact hv h h'

/-! ### The shadow run -/
def szOf (P : Program) (t : TypeId) : Option Nat := (P.info? t).map (·.size)
def aggOf (P : Program) (t : TypeId) : Bool := match P.underlying t with | some (.struct _) | some (.array _ _) => true | _ => false
def zeroOf (P : Program) (t : TypeId) : Option Value := (P.info? t).bind (·.zero)
/-- A field's offset, its type's size, and whether it is a struct or an array. -/
def fldOf (P : Program) (t : TypeId) (f : Nat) : Option (Nat × Nat × Bool) :=
  match P.underlying t with
  | some (.struct fs) => match fs[f]? with
    | some fd => match szOf P fd.type with
      | some n => if (P.underlying fd.type).isSome then some (fd.offset, n, aggOf P fd.type) else none
      | none => none
    | none => none
  | _ => none

def cv : Value → PV
  | .slice none 0 0 => .emp
  | v => .val v
def look : List (Nat × PV) → Nat → PV
  | [], _ => .bad
  | (t, v) :: r, n => if t = n then v else look r n
def evl (e : Nat → PV) : Operand → PV
  | .tmp t => e t
  | .const v => cv v
  | .func f => .clo f []
  | .global _ => .bad

/-- No reference to a ghost block. -/
def flat : PV → Bool
  | .val _ | .row _ _ | .at _ | .emp | .nil _ | .mpv _ _ | .bad => true
  | _ => false
/-- The value of one cell, as it stands now. -/
def one (G : List GO) : PV → Bool
  | .val (.agg _) | .val (.tuple _) => false
  | .val _ | .row _ _ | .at _ | .emp | .nil _ | .mpv _ _ | .clo _ _ => true
  | .mp g gen => match G[g]? with
    | some ⟨gen', .map _ _⟩ => gen' == gen
    | _ => false
  | .box g gen _ => match G[g]? with
    | some ⟨gen', .box _⟩ => gen' == gen
    | _ => false
  | .own g gen n => match G[g]? with
    | some ⟨gen', .row _ l⟩ => gen' == gen && l.length == n
    | _ => false
  | .elt g gen n _ _ _ => match G[g]? with
    | some ⟨gen', .row _ l⟩ => gen' == gen && l.length == n
    | _ => false
  | _ => false
/-- The cells of a value. -/
def cellsOf (G : List GO) : PV → Option (List PV)
  | .agg cs => if cs.all (one G) then some cs else none
  | v => if one G v then some [v] else none
/-- A value of a type out of the cells from there on. -/
def rd (n : Nat) (ag : Bool) (cs : List PV) : Option PV := if ag then (if n ≤ cs.length then some (.agg (cs.take n)) else none) else cs[0]?

def ibin (op : BinOp) (k : IntKind) (a b : Int) : Option Value :=
  match op with
  | .add => some (.int k (k.wrap (a + b)))
  | .sub => some (.int k (k.wrap (a - b)))
  | .mul => some (.int k (k.wrap (a * b)))
  | .quo => if b = 0 then none else some (.int k (k.wrap (a.tdiv b)))
  | .rem => if b = 0 then none else some (.int k (a.tmod b))
  | .and => some (.int k (k.wrap (BitVec.ofInt k.bits a &&& BitVec.ofInt k.bits b).toNat))
  | .or => some (.int k (k.wrap (BitVec.ofInt k.bits a ||| BitVec.ofInt k.bits b).toNat))
  | .xor => some (.int k (k.wrap (BitVec.ofInt k.bits a ^^^ BitVec.ofInt k.bits b).toNat))
  | .andNot => some (.int k (k.wrap (BitVec.ofInt k.bits a &&& ~~~BitVec.ofInt k.bits b).toNat))
  | .eql => some (.bool (a == b))
  | .neq => some (.bool (a != b))
  | .lss => some (.bool (a < b))
  | .leq => some (.bool (a ≤ b))
  | .gtr => some (.bool (a > b))
  | .geq => some (.bool (a ≥ b))
  | _ => none

/-- Two cells' equality, by the kind of cell: 1 a whole number, 2 a bool, 3 a string. -/
def vEq : Nat → PV → PV → Option Bool
  | 1, .val (.int k a), .val (.int k' b) => if k = k' then some (a == b) else none
  | 2, .val (.bool a), .val (.bool b) => some (a == b)
  | 3, .val (.string a), .val (.string b) => some (a.toList == b.toList)
  | _, _, _ => none
def vEqs : List Nat → List PV → List PV → Option Bool
  | [], [], [] => some true
  | k :: ks, x :: xs, y :: ys => match vEq k x y, vEqs ks xs ys with
    | some a, some b => some (a && b)
    | _, _ => none
  | _, _, _ => none

/-- Shifts: the counts may be of another kind. -/
def shiftV (op : BinOp) (k : IntKind) (a b : Int) : Option (Option PV) :=
  match op with
  | .shl => some (if 0 ≤ b then some (.val (.int k (k.wrap (a * 2 ^ min b.toNat k.bits)))) else none)
  | .shr => some (if 0 ≤ b then some (.val (.int k (a.fdiv (2 ^ min b.toNat k.bits)))) else none)
  | _ => none
def bin (ek : Option (List Nat)) (op : BinOp) : PV → PV → Option PV
  | .val (.int k a), .val (.int k' b) => match shiftV op k a b with
    | some r => r
    | none => if k = k' then (ibin op k a b).map .val else none
  | .val (.string a), .val (.string b) => match op with
    | .add => if a.size + b.size ≤ 9223372036854775807 then some (.val (.string (a ++ b))) else none
    | .eql => some (.val (.bool (a.toList == b.toList)))
    | .neq => some (.val (.bool (!(a.toList == b.toList))))
    | .lss => some (.val (.bool (Op.bytesLess a.toList b.toList)))
    | .leq => some (.val (.bool (Op.bytesLess a.toList b.toList || a.toList == b.toList)))
    | .gtr => some (.val (.bool (!(Op.bytesLess a.toList b.toList || a.toList == b.toList))))
    | .geq => some (.val (.bool (!(Op.bytesLess a.toList b.toList))))
    | _ => none
  | .val (.bool a), .val (.bool b) => if ek ≠ some [9] then none else match op with
    | .eql => some (.val (.bool (a == b)))
    | .neq => some (.val (.bool (!(a == b))))
    | _ => none
  | .agg xs, .agg ys => match ek with
    | some ks => match op with
      | .eql => (vEqs ks xs ys).map fun b => .val (.bool b)
      | .neq => (vEqs ks xs ys).map fun b => .val (.bool (!b))
      | _ => none
    | none => none
  | _, _ => none

def kdT (P : Program) (t : TypeId) : Option KD :=
  match P.underlying t with
  | some (.int k) => some (.int k)
  | some .bool => some .bool
  | some .string => some .str
  | _ => none
def shapeF (P : Program) : Nat → List Field → Option (List KD)
  | _, [] => some []
  | i, f :: fs => if f.name ≠ "_" ∧ f.offset = i then (match kdT P f.type, shapeF P (i + 1) fs with
    | some k, some ks => some (k :: ks)
    | _, _ => none) else none
/-- The shape of a key type's values. -/
def shapeT (P : Program) (t : TypeId) : Option KS :=
  match P.underlying t with
  | some (.struct fs) => if P.stoodInHeld t = false then (shapeF P 0 fs.toList).map .many else none
  | _ => (kdT P t).map .one
def zeroPV (P : Program) (t : TypeId) : Option PV :=
  match zeroOf P t with
  | some (.agg zs) => some (.agg (zs.toList.map cv))
  | some v => some (cv v)
  | none => none
/-- A map's entries, as they stand now. -/
def mapOf (G : List GO) : PV → Option (KS × List (Value × PV))
  | .mpv s l => some (s, l)
  | .mp g gen => match G[g]? with
    | some ⟨gen', .map s l⟩ => if gen' = gen then some (s, l) else none
    | _ => none
  | _ => none
def vals : List PV → Option (List Value)
  | [] => some []
  | .val v :: r => match vals r with
    | some vs => some (v :: vs)
    | none => none
  | _ => none
/-- A key. -/
def keyV : PV → Option Value
  | .val v => some v
  | .agg cs => match vals cs with
    | some vs => some (.agg vs.toArray)
    | none => none
  | _ => none
def findM (k : Value) (l : List (Value × PV)) : Option PV := (l.find? fun e => keyEq k e.1).map (·.2)
def isNilMap : PV → Bool
  | .val (.map none) => true
  | _ => false
/-- What a look-up gives. -/
def found (ok : Bool) (z : PV) (r : Option PV) : PV := if ok then .tup [r.getD z, .val (.bool r.isSome)] else r.getD z
/-- A row's elements, as they stand now. -/
def rowOf (G : List GO) : PV → Option (Nat × List (List PV))
  | .row sz l => some (sz, l)
  | .own g gen n => match G[g]? with
    | some ⟨gen', .row sz l⟩ => if gen' = gen ∧ l.length = n then some (sz, l) else none
    | _ => none
  | _ => none
/-- Whether a slice is nil. -/
def nilEq : PV → Option Bool
  | .nil b => some b
  | .row _ (_ :: _) => some false
  | _ => none
def nilV (op : BinOp) (b : Option Bool) : Option PV :=
  match op, b with
  | .eql, some b => some (.val (.bool b))
  | .neq, some b => some (.val (.bool !b))
  | _, _ => none
def binV (ud : Option TypeDesc) (ek : Option (List Nat)) (op : BinOp) (y : Operand) (a b : PV) : Option PV :=
  match y with
  | .const (.slice none _ _) => (match ud with
    | some (.slice _) => nilV op (nilEq a)
    | _ => none)
  | _ => bin ek op a b
/-- The cells behind an address, as they stand now. -/
def cellsAt (G : List GO) : PV → Option (List PV)
  | .at cs => some cs
  | .box g gen off => match G[g]? with
    | some ⟨gen', .box cs⟩ => if gen' = gen then some (cs.drop off) else none
    | _ => none
  | .elt g gen n sz i k => match G[g]? with
    | some ⟨gen', .row sz' l⟩ => if gen' = gen ∧ l.length = n ∧ sz' = sz then (l[i]?).map (·.drop k) else none
    | _ => none
  | _ => none
/-- The address some cells further on. -/
def further (n : Nat) : PV → PV
  | .at cs => .at (cs.drop n)
  | .box g gen off => .box g gen (off + n)
  | .elt g gen m sz i k => .elt g gen m sz i (k + n)
  | v => v
/-- Other cells in the place of some. -/
def over (cs : List PV) (off : Nat) (xs : List PV) : List PV := cs.take off ++ xs ++ cs.drop (off + xs.length)
def fillP (G : List GO) (place : Nat → Option (Nat × Nat)) (cs : List PV) : List (Nat × PV) → Option (List PV)
  | [] => some cs
  | (i, v) :: rest => match place i, cellsOf G v with
    | some (off, n), some xs => if xs.length = n ∧ off + n ≤ cs.length then fillP G place (over cs off xs) rest else none
    | _, _ => none
/-- Where the parts of a struct or an array lie, and how many cells they have. -/
def placesOf (P : Program) (t : TypeId) : Option (List (Nat × Nat)) :=
  match P.underlying t with
  | some (.struct fs) => fs.toList.mapM (fun f => (P.info? f.type).map fun i => (f.offset, i.size))
  | some (.array n e) => (P.info? e).map fun i => (List.range n).map fun k => (k * i.size, i.size)
  | _ => none
def bldOf (P : Program) (G : List GO) (t : TypeId) (parts : List (Nat × PV)) : Option PV :=
  match zeroOf P t, placesOf P t with
  | some (.agg zs), some pl => (fillP G (pl[·]?) (zs.toList.map cv) parts).map .agg
  | _, _ => none
/-- The parts of a slice's literal, in order. -/
def litOf (G : List GO) (n : Nat) : Nat → List (Nat × PV) → Option (List (List PV))
  | _, [] => some []
  | k, (i, v) :: rest => match cellsOf G v, litOf G n (k + 1) rest with
    | some xs, some r => if i = k ∧ xs.length = n ∧ xs.all flat then some (xs :: r) else none
    | _, _ => none
def natIn (v : Option PV) (d m : Nat) : Option Nat :=
  match v with
  | none => some d
  | some (.val (.int _ i)) => if 0 ≤ i ∧ i ≤ m then some i.toNat else none
  | some _ => none

def maxP (k : IntKind) (x : Int) : List PV → Option PV
  | [] => some (.val (.int k x))
  | .val (.int k' y) :: r => if k = k' then maxP k (if y > x then y else x) r else none
  | _ => none
def minP (k : IntKind) (x : Int) : List PV → Option PV
  | [] => some (.val (.int k x))
  | .val (.int k' y) :: r => if k = k' then minP k (if y < x then y else x) r else none
  | _ => none
/-- An operation that makes and writes nothing. -/
def valOp (P : Program) (E : TypeId → Option (List Nat)) (e : Operand → PV) (G : List GO) : Op → Option PV
  | .move x | .assign x => some (e x)
  | .pick c a b => match e c with
    | .val (.bool t) => some (if t then e a else e b)
    | _ => none
  | .binOp op t x y _ => binV (P.underlying t) (E t) op y (e x) (e y)
  | .unOp op _ x => match op, e x with
    | .not, .val (.bool b) => some (.val (.bool !b))
    | .neg, .val (.int k n) => some (.val (.int k (k.wrap (0 - n))))
    | _, _ => none
  | .convert s d x => match P.underlying s, P.underlying d, e x with
    | some _, some (.int k), .val (.int _ n) => some (.val (.int k (k.wrap n)))
    | _, _, _ => none
  | .extract x i => match e x with
    | .tup vs => vs[i]?
    | _ => none
  | .field t x f => match fldOf P t f, e x with
    | some (off, n, ag), .agg cs => rd n ag (cs.drop off)
    | _, _ => none
  | .fieldAddr t x f => match fldOf P t f with
    | some (off, n, _) => if n = 0 then none else match cellsAt G (e x) with
      | some cs => if off ≤ cs.length then some (further off (e x)) else none
      | none => none
    | none => none
  | .indexAddr t x i => match P.underlying t, e i with
    | some (.slice el), .val (.int _ i) => match szOf P el, rowOf G (e x) with
      | some n, some (sz, l) => if n = sz ∧ 0 ≤ i ∧ i < l.length then (match e x with
          | .own g gen m => some (.elt g gen m sz i.toNat 0)
          | _ => (l[i.toNat]?).map .at) else none
      | _, _ => none
    | some (.array n el), .val (.int _ i) => match szOf P el, cellsAt G (e x) with
      | some sz, some cs => if 0 ≤ i ∧ i < n ∧ i.toNat * sz ≤ cs.length then some (further (i.toNat * sz) (e x)) else none
      | _, _ => none
    | _, _ => none
  | .index t x i => match P.underlying t, e x, e i with
    | some .string, .val (.string s), .val (.int _ i) => if 0 ≤ i then (s[i.toNat]?).map fun b => .val (.int .u8 b.toNat) else none
    | some (.array n el), .agg cs, .val (.int _ i) => match szOf P el with
      | some sz => if 0 ≤ i ∧ i < n ∧ (P.underlying el).isSome = true then rd sz (aggOf P el) (cs.drop (i.toNat * sz)) else none
      | none => none
    | _, _, _ => none
  | .load t x => match P.underlying t, szOf P t, cellsAt G (e x) with
    | some _, some n, some cs => rd n (aggOf P t) cs
    | _, _, _ => none
  | .nilCheck x => match cellsAt G (e x) with
    | some _ => some (e x)
    | none => match e x with
      | .clo f cs => some (.clo f cs)
      | _ => none
  | .build t parts => bldOf P G t (parts.toList.map fun (i, x) => (i, e x))
  | .buildSlice t n parts => match P.underlying t with
    | some (.slice el) => match szOf P el with
      | some sz => if n = 0 then (if parts = #[] then some .emp else none) else if n = parts.size ∧ 0 < sz ∧ n * sz ≤ 2 ^ 20 ∧ (zeroOf P el).isSome then (litOf G sz 0 (parts.toList.map fun (i, x) => (i, e x))).map (.row sz) else none
      | none => none
    | _ => none
  | .slice t x lo hi none => match P.underlying t, e x with
    | some (.slice el), .row sz l => match natIn (hi.map e) l.length l.length with
      | some h => match natIn (lo.map e) 0 h with
        | some k => if szOf P el = some sz then some (.row sz ((l.take h).drop k)) else none
        | none => none
      | none => none
    | some .string, .val (.string s) => match natIn (hi.map e) s.size s.size with
      | some h => match natIn (lo.map e) 0 h with
        | some k => some (.val (.string (s.extract k h)))
        | none => none
      | none => none
    | _, _ => none
  | .makeFunc (.func f) first caps => if first = #[] then some (.clo f (caps.toList.map e)) else none
  | .lookup t x k ok => match P.underlying t with
    | some (.map kt et) => match keyV (e k), zeroPV P et with
      | some kv, some z => match shapeT P kt with
        | some s => if shapeV kv = some s then (if isNilMap (e x) = true then some (found ok z none) else match mapOf G (e x) with
          | some (s', l) => if s' = s then some (found ok z (findM kv l)) else none
          | none => none) else none
        | none => none
      | _, _ => none
    | _ => none
  | .call ⟨.builtin .len, args, ts⟩ => match args.toList, ts.toList with
    | [x], [t] => match P.underlying t, e x with
      | some .string, .val (.string s) => some (.val (.int .i64 s.size))
      | some (.slice _), .emp => some (.val (.int .i64 0))
      | some (.slice _), .nil _ => some (.val (.int .i64 0))
      | some (.slice _), v => (rowOf G v).map fun r => .val (.int .i64 r.2.length)
      | some (.map _ _), v => if isNilMap v = true then some (.val (.int .i64 0)) else (mapOf G v).map fun r => .val (.int .i64 r.2.length)
      | _, _ => none
    | _, _ => none
  | .call ⟨.builtin .max, args, _⟩ => match args.toList.map e with
    | .val (.int k x) :: r => maxP k x r
    | _ => none
  | .call ⟨.builtin .min, args, _⟩ => match args.toList.map e with
    | .val (.int k x) :: r => minP k x r
    | _ => none
  | _ => none
end Go.Proofs.Ythmlfonbfnmalaa.Sh
