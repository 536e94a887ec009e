/- The structs of the laws' arguments, as they are read. No condition. -/
import Derived.Test.YthmlfonbfnmalaaShP
namespace Go.Proofs.Ythmlfonbfnmalaa.Sh
open Go.RowKit
set_option linter.unusedVariables false
structure GKind where
  name : ByteArray
  weight : Int
abbrev GKind.cells (x : GKind) : List PV := [.val (.string x.name), int x.weight]
abbrev GKind.enc (x : GKind) : PV := .agg x.cells
def GKind.Ok (x : GKind) : Prop := (x.name.size ≤ 9223372036854775807) ∧ ((Lit.int .i64 x.weight).wf = true)
theorem opens49 : OpensV Try.prog 49 GKind.cells GKind.Ok :=
  OpensV.struct (fun (p : ByteArray × Int) => (⟨p.1, p.2⟩ : GKind)) (fun _ => rfl) (fun _ h => h) Try.underlying49 (by kernel_rfl) (OpensF.cons (n := 1) rfl (by kernel_rfl) (OpensV.string Try.underlying9) (OpensF.one (n := 1) rfl (by kernel_rfl) (OpensV.int Try.underlying3)))
structure GLot where
  kind : Int
  expiry : Int
  frozen : Bool
abbrev GLot.cells (x : GLot) : List PV := [int x.kind, int x.expiry, bool x.frozen]
abbrev GLot.enc (x : GLot) : PV := .agg x.cells
def GLot.Ok (x : GLot) : Prop := ((Lit.int .i64 x.kind).wf = true) ∧ ((Lit.int .i64 x.expiry).wf = true) ∧ (True)
theorem opens52 : OpensV Try.prog 52 GLot.cells GLot.Ok :=
  OpensV.struct (fun (p : Int × Int × Bool) => (⟨p.1, p.2.1, p.2.2⟩ : GLot)) (fun _ => rfl) (fun _ h => h) Try.underlying52 (by kernel_rfl) (OpensF.cons (n := 1) rfl (by kernel_rfl) (OpensV.int Try.underlying3) (OpensF.cons (n := 1) rfl (by kernel_rfl) (OpensV.int Try.underlying3) (OpensF.one (n := 1) rfl (by kernel_rfl) (OpensV.bool Try.underlying4))))
structure GBox where
  lot : Int
  count : Int
  tare : Int
abbrev GBox.cells (x : GBox) : List PV := [int x.lot, int x.count, int x.tare]
abbrev GBox.enc (x : GBox) : PV := .agg x.cells
def GBox.Ok (x : GBox) : Prop := ((Lit.int .i64 x.lot).wf = true) ∧ ((Lit.int .i64 x.count).wf = true) ∧ ((Lit.int .i64 x.tare).wf = true)
theorem opens42 : OpensV Try.prog 42 GBox.cells GBox.Ok :=
  OpensV.struct (fun (p : Int × Int × Int) => (⟨p.1, p.2.1, p.2.2⟩ : GBox)) (fun _ => rfl) (fun _ h => h) Try.underlying42 (by kernel_rfl) (OpensF.cons (n := 1) rfl (by kernel_rfl) (OpensV.int Try.underlying3) (OpensF.cons (n := 1) rfl (by kernel_rfl) (OpensV.int Try.underlying3) (OpensF.one (n := 1) rfl (by kernel_rfl) (OpensV.int Try.underlying3))))
structure GStore where
  kinds : (List GKind)
  lots : (List GLot)
  perm : (List Int)
  boxes : (List GBox)
abbrev GStore.cells (x : GStore) : List PV := [.row 2 (x.kinds.map GKind.cells), .row 3 (x.lots.map GLot.cells), .row 1 (x.perm.map fun y => [int y]), .row 3 (x.boxes.map GBox.cells)]
abbrev GStore.enc (x : GStore) : PV := .agg x.cells
def GStore.Ok (x : GStore) : Prop := (x.kinds.length ≤ 9223372036854775807 ∧ ∀ y ∈ x.kinds, GKind.Ok y) ∧ (x.lots.length ≤ 9223372036854775807 ∧ ∀ y ∈ x.lots, GLot.Ok y) ∧ (x.perm.length ≤ 9223372036854775807 ∧ ∀ y ∈ x.perm, (Lit.int .i64 y).wf = true) ∧ (x.boxes.length ≤ 9223372036854775807 ∧ ∀ y ∈ x.boxes, GBox.Ok y)
theorem opens27 : OpensV Try.prog 27 GStore.cells GStore.Ok :=
  OpensV.struct (fun (p : (List GKind) × (List GLot) × (List Int) × (List GBox)) => (⟨p.1, p.2.1, p.2.2.1, p.2.2.2⟩ : GStore)) (fun _ => rfl) (fun _ h => h) Try.underlying27 (by kernel_rfl) (OpensF.cons (n := 1) rfl (by kernel_rfl) (OpensV.slice (sz := 2) Try.underlying22 (by kernel_rfl) (by decide) opens49) (OpensF.cons (n := 1) rfl (by kernel_rfl) (OpensV.slice (sz := 3) Try.underlying23 (by kernel_rfl) (by decide) opens52) (OpensF.cons (n := 1) rfl (by kernel_rfl) (OpensV.slice (sz := 1) Try.underlying24 (by kernel_rfl) (by decide) (OpensV.int Try.underlying3)) (OpensF.one (n := 1) rfl (by kernel_rfl) (OpensV.slice (sz := 3) Try.underlying25 (by kernel_rfl) (by decide) opens42)))))
structure GSenses where
  misses : Int
  strays : Int
  error : Int
  slip : Int
abbrev GSenses.cells (x : GSenses) : List PV := [int x.misses, int x.strays, int x.error, int x.slip]
abbrev GSenses.enc (x : GSenses) : PV := .agg x.cells
def GSenses.Ok (x : GSenses) : Prop := ((Lit.int .i64 x.misses).wf = true) ∧ ((Lit.int .i64 x.strays).wf = true) ∧ ((Lit.int .i64 x.error).wf = true) ∧ ((Lit.int .i64 x.slip).wf = true)
theorem opens29 : OpensV Try.prog 29 GSenses.cells GSenses.Ok :=
  OpensV.struct (fun (p : Int × Int × Int × Int) => (⟨p.1, p.2.1, p.2.2.1, p.2.2.2⟩ : GSenses)) (fun _ => rfl) (fun _ h => h) Try.underlying29 (by kernel_rfl) (OpensF.cons (n := 1) rfl (by kernel_rfl) (OpensV.int Try.underlying3) (OpensF.cons (n := 1) rfl (by kernel_rfl) (OpensV.int Try.underlying3) (OpensF.cons (n := 1) rfl (by kernel_rfl) (OpensV.int Try.underlying3) (OpensF.one (n := 1) rfl (by kernel_rfl) (OpensV.int Try.underlying3)))))
structure GSight where
  kind : Int
  a : Int
  b : Int
  n : Int
  ids : (List Int)
abbrev GSight.cells (x : GSight) : List PV := [int x.kind, int x.a, int x.b, int x.n, .row 1 (x.ids.map fun y => [int y])]
abbrev GSight.enc (x : GSight) : PV := .agg x.cells
def GSight.Ok (x : GSight) : Prop := ((Lit.int .i64 x.kind).wf = true) ∧ ((Lit.int .i64 x.a).wf = true) ∧ ((Lit.int .i64 x.b).wf = true) ∧ ((Lit.int .i64 x.n).wf = true) ∧ (x.ids.length ≤ 9223372036854775807 ∧ ∀ y ∈ x.ids, (Lit.int .i64 y).wf = true)
theorem opens31 : OpensV Try.prog 31 GSight.cells GSight.Ok :=
  OpensV.struct (fun (p : Int × Int × Int × Int × (List Int)) => (⟨p.1, p.2.1, p.2.2.1, p.2.2.2.1, p.2.2.2.2⟩ : GSight)) (fun _ => rfl) (fun _ h => h) Try.underlying31 (by kernel_rfl) (OpensF.cons (n := 1) rfl (by kernel_rfl) (OpensV.int Try.underlying3) (OpensF.cons (n := 1) rfl (by kernel_rfl) (OpensV.int Try.underlying3) (OpensF.cons (n := 1) rfl (by kernel_rfl) (OpensV.int Try.underlying3) (OpensF.cons (n := 1) rfl (by kernel_rfl) (OpensV.int Try.underlying3) (OpensF.one (n := 1) rfl (by kernel_rfl) (OpensV.slice (sz := 1) Try.underlying24 (by kernel_rfl) (by decide) (OpensV.int Try.underlying3)))))))
end Go.Proofs.Ythmlfonbfnmalaa.Sh
