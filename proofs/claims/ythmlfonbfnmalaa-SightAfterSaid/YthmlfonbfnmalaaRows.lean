/-
  No cell of these rows narrows 'for every input' (looked for: loops, veiled, ifaces, maps, wideKeys, modest, calm, conditions, laid).
  DERIVED. THE GIVEN ROWS OF THIS SEAT. 3 by the template 'for every input the law returns true; each argument reads behind the call as it read before'; 0 by the template 'total and deterministic' (their statements: YthmlfonbfnmalaaTotals.lean).
  GIVEN WITH THE SEED: the statements are not yours to turn. If you find one false, say at which input.
  Laid BY PROGRAM, IN A SANDBOX (cutbox-rows.mjs): the forced cells as the released guide's own fill.sh prints them over the translation 2a8c8cc25f343294… (all of the seat's roots in one cut). By AI agents, Wed Nov 11 2026. No macro, syntax, notation, axiom, sorry.
-/
import Derived.Test.YthmlfonbfnmalaaChecked
import GoSem.Claim
import GoSem.ClaimJoined
import GoSem.ClaimMapViews
import Derived.JoinedTies
import Derived.KernelRfl
namespace Go.Proofs.Ythmlfonbfnmalaa
/- THE CELL 'sum', in the pinned program and in every row, IS THE sha256 OF THE DUMP (.gsa) THAT YthmlfonbfnmalaaProg.lean LOADS. Nothing in Lean hashes anything: it is a label: what it is worth is what the hold of that sum in a sandbox is worth. -/
noncomputable def Try.pinned : Pinned := { name := "ythmlfonbfnmalaa", sum := "2a8c8cc25f34329405a10f436b6914e9f310dd9bd91ebaa1db4ab93f62a11a8d", checked := Try.checked }
namespace Rows
def none {H : Type} : Left H := { results := [], args := [] }

/-- 'taquinlaw36.SightGrows': WHATEVER THE INPUT: true; the input reads as it did. -/
def sightGrowsSpec : ChangeSpec := { name := "sightGrows", fn := fun _ => fun
  | [d1, d2, d3, d4, d5] => { results := [.lit (.bool true)], args := [d1, d2, d3, d4, d5] }
  | _ => none }
def sightGrowsRow : OpenClaim := { program := "ythmlfonbfnmalaa", sum := "2a8c8cc25f34329405a10f436b6914e9f310dd9bd91ebaa1db4ab93f62a11a8d", func := "taquin/taquinlaw36.SightGrows", spec := "sightGrows", apart := false }
def SightGrowsSaid : Prop := sightGrowsRow.holds Try.pinned (OpenSpec.ofChange sightGrowsSpec)

/-- ITS FALSE NEIGHBOUR: 'it returns false'. Refute it at one input. -/
def sightGrowsWrong : ChangeSpec := { name := "sightGrows", fn := fun _ => fun
  | [d1, d2, d3, d4, d5] => { results := [.lit (.bool false)], args := [d1, d2, d3, d4, d5] }
  | _ => none }
def SightGrowsWrongFalsely : Prop := sightGrowsRow.holds Try.pinned (OpenSpec.ofChange sightGrowsWrong)

/-- 'taquinlaw36.SightTrue': WHATEVER THE INPUT: true; the input reads as it did. -/
def sightTrueSpec : ChangeSpec := { name := "sightTrue", fn := fun _ => fun
  | [d1, d2, d3, d4] => { results := [.lit (.bool true)], args := [d1, d2, d3, d4] }
  | _ => none }
def sightTrueRow : OpenClaim := { program := "ythmlfonbfnmalaa", sum := "2a8c8cc25f34329405a10f436b6914e9f310dd9bd91ebaa1db4ab93f62a11a8d", func := "taquin/taquinlaw36.SightTrue", spec := "sightTrue", apart := false }
def SightTrueSaid : Prop := sightTrueRow.holds Try.pinned (OpenSpec.ofChange sightTrueSpec)

/-- ITS FALSE NEIGHBOUR: 'it returns false'. Refute it at one input. -/
def sightTrueWrong : ChangeSpec := { name := "sightTrue", fn := fun _ => fun
  | [d1, d2, d3, d4] => { results := [.lit (.bool false)], args := [d1, d2, d3, d4] }
  | _ => none }
def SightTrueWrongFalsely : Prop := sightTrueRow.holds Try.pinned (OpenSpec.ofChange sightTrueWrong)

/-- 'taquinlaw36.SightAfter': WHATEVER THE INPUT: true; the input reads as it did. -/
def sightAfterSpec : ChangeSpec := { name := "sightAfter", fn := fun _ => fun
  | [d1, d2, d3, d4] => { results := [.lit (.bool true)], args := [d1, d2, d3, d4] }
  | _ => none }
def sightAfterRow : OpenClaim := { program := "ythmlfonbfnmalaa", sum := "2a8c8cc25f34329405a10f436b6914e9f310dd9bd91ebaa1db4ab93f62a11a8d", func := "taquin/taquinlaw36.SightAfter", spec := "sightAfter", unfollowed := true, recurses := true, apart := false }
def SightAfterSaid : Prop := sightAfterRow.holds Try.pinned (OpenSpec.ofChange sightAfterSpec)

/-- ITS FALSE NEIGHBOUR: 'it returns false'. Refute it at one input. -/
def sightAfterWrong : ChangeSpec := { name := "sightAfter", fn := fun _ => fun
  | [d1, d2, d3, d4] => { results := [.lit (.bool false)], args := [d1, d2, d3, d4] }
  | _ => none }
def SightAfterWrongFalsely : Prop := sightAfterRow.holds Try.pinned (OpenSpec.ofChange sightAfterWrong)

/- THE SECOND FORM. 'bulk': how many values and letters a reading holds, each counted each time it is reached (what is shared counts as often as it is met; a slice's spare places count too). A statement '..UptoSaid' is the law's where the arguments, and the package variables that the reading takes, are together of bulk at most 1048576: NARROWER than '..Said'. Prove '..Said' where nothing that the law and all that it calls make is longer than what came in: it says more and counts as full. Else prove '..UptoSaid'. A law counts once. -/
mutual
def uptoBulk {H : Type} : DataW H → Nat
  | .lit (.string bytes) => bytes.length + 1
  | .lit _ => 1
  | .nil => 1
  | .ptr d => uptoBulk d + 1
  | .slice elems spare => uptoBulkAll elems + uptoBulkAll spare + 1
  | .agg parts => uptoBulkAll parts + 1
  | .iface _ d => uptoBulk d + 1
  | .map entries => uptoBulkEntries entries + 1
  | .held _ => 1
def uptoBulkAll {H : Type} : List (DataW H) → Nat
  | [] => 0
  | d :: r => uptoBulk d + uptoBulkAll r
def uptoBulkEntries {H : Type} : List (Lit × DataW H) → Nat
  | [] => 0
  | x :: r => uptoBulkEntry x + uptoBulkEntries r
def uptoBulkEntry {H : Type} : Lit × DataW H → Nat
  | (.string bytes, d) => bytes.length + uptoBulk d + 1
  | (_, d) => uptoBulk d + 1
 end
def uptoSmall : (H : Type) → List (DataW H) → Bool := fun _ ds => decide (uptoBulkAll ds ≤ 1048576)
def OpenSpec.upto (s : _root_.Go.ChangeSpec) : _root_.Go.OpenSpec := { _root_.Go.OpenSpec.ofChange s with cond := some uptoSmall }

/-- 'taquinlaw36.SightGrows', WHERE WHAT IT READS IS OF BULK AT MOST 1048576: true; the input reads as it did. -/
def sightGrowsUptoRow : OpenClaim := { program := "ythmlfonbfnmalaa", sum := "2a8c8cc25f34329405a10f436b6914e9f310dd9bd91ebaa1db4ab93f62a11a8d", func := "taquin/taquinlaw36.SightGrows", spec := "sightGrows", apart := false, narrowed := true }
def SightGrowsUptoSaid : Prop := sightGrowsUptoRow.holds Try.pinned (OpenSpec.upto sightGrowsSpec)

/-- 'taquinlaw36.SightTrue', WHERE WHAT IT READS IS OF BULK AT MOST 1048576: true; the input reads as it did. -/
def sightTrueUptoRow : OpenClaim := { program := "ythmlfonbfnmalaa", sum := "2a8c8cc25f34329405a10f436b6914e9f310dd9bd91ebaa1db4ab93f62a11a8d", func := "taquin/taquinlaw36.SightTrue", spec := "sightTrue", apart := false, narrowed := true }
def SightTrueUptoSaid : Prop := sightTrueUptoRow.holds Try.pinned (OpenSpec.upto sightTrueSpec)

/-- 'taquinlaw36.SightAfter', WHERE WHAT IT READS IS OF BULK AT MOST 1048576: true; the input reads as it did. -/
def sightAfterUptoRow : OpenClaim := { program := "ythmlfonbfnmalaa", sum := "2a8c8cc25f34329405a10f436b6914e9f310dd9bd91ebaa1db4ab93f62a11a8d", func := "taquin/taquinlaw36.SightAfter", spec := "sightAfter", unfollowed := true, recurses := true, apart := false, narrowed := true }
def SightAfterUptoSaid : Prop := sightAfterUptoRow.holds Try.pinned (OpenSpec.upto sightAfterSpec)

end Rows
end Go.Proofs.Ythmlfonbfnmalaa
