/-
  No cell of these rows narrows 'for every input' (looked for: loops, veiled, ifaces, maps, wideKeys, modest, calm, conditions, laid).
  DERIVED. THE GIVEN ROWS OF THIS SEAT. 2 by the template 'for every input the law returns true; each argument reads behind the call as it read before'; 0 by the template 'total and deterministic' (their statements: YtjdcemmodkdajaaTotals.lean).
  GIVEN WITH THE SEED: the statements are not yours to turn. If you find one false, say at which input.
  Laid BY PROGRAM, IN A SANDBOX (cutbox-rows.mjs): the forced cells as the released guide's own fill.sh prints them over the translation 63a59f258eaf8513… (all of the seat's roots in one cut). By AI agents, Wed Nov 11 2026. No macro, syntax, notation, axiom, sorry.
-/
import Derived.Test.YtjdcemmodkdajaaChecked
import GoSem.Claim
import GoSem.ClaimJoined
import GoSem.ClaimMapViews
import Derived.JoinedTies
import Derived.KernelRfl
namespace Go.Proofs.Ytjdcemmodkdajaa
/- THE CELL 'sum', in the pinned program and in every row, IS THE sha256 OF THE DUMP (.gsa) THAT YtjdcemmodkdajaaProg.lean LOADS. Nothing in Lean hashes anything: it is a label: what it is worth is what the hold of that sum in a sandbox is worth. -/
noncomputable def Try.pinned : Pinned := { name := "ytjdcemmodkdajaa", sum := "63a59f258eaf85132414d2357d53ec42aed954a752d202a63f0ca5ad30196083", checked := Try.checked }
namespace Rows
def none {H : Type} : Left H := { results := [], args := [] }

/-- 'waywiserlaw23.BktreeNodes': WHATEVER THE INPUT: true; the input reads as it did. -/
def bktreeNodesSpec : ChangeSpec := { name := "bktreeNodes", fn := fun _ => fun
  | [d] => { results := [.lit (.bool true)], args := [d] }
  | _ => none }
def bktreeNodesRow : OpenClaim := { program := "ytjdcemmodkdajaa", sum := "63a59f258eaf85132414d2357d53ec42aed954a752d202a63f0ca5ad30196083", func := "waywiser/waywiserlaw23.BktreeNodes", spec := "bktreeNodes", unfollowed := true, recurses := true, apart := false }
def BktreeNodesSaid : Prop := bktreeNodesRow.holds Try.pinned (OpenSpec.ofChange bktreeNodesSpec)

/-- ITS FALSE NEIGHBOUR: 'it returns false'. Refute it at one input. -/
def bktreeNodesWrong : ChangeSpec := { name := "bktreeNodes", fn := fun _ => fun
  | [d] => { results := [.lit (.bool false)], args := [d] }
  | _ => none }
def BktreeNodesWrongFalsely : Prop := bktreeNodesRow.holds Try.pinned (OpenSpec.ofChange bktreeNodesWrong)

/-- 'waywiserlaw23.BktreeNone': WHATEVER THE INPUT: true; the input reads as it did. -/
def bktreeNoneSpec : ChangeSpec := { name := "bktreeNone", fn := fun _ => fun
  | [d1, d2] => { results := [.lit (.bool true)], args := [d1, d2] }
  | _ => none }
def bktreeNoneRow : OpenClaim := { program := "ytjdcemmodkdajaa", sum := "63a59f258eaf85132414d2357d53ec42aed954a752d202a63f0ca5ad30196083", func := "waywiser/waywiserlaw23.BktreeNone", spec := "bktreeNone", unfollowed := true, recurses := true, apart := false }
def BktreeNoneSaid : Prop := bktreeNoneRow.holds Try.pinned (OpenSpec.ofChange bktreeNoneSpec)

/-- ITS FALSE NEIGHBOUR: 'it returns false'. Refute it at one input. -/
def bktreeNoneWrong : ChangeSpec := { name := "bktreeNone", fn := fun _ => fun
  | [d1, d2] => { results := [.lit (.bool false)], args := [d1, d2] }
  | _ => none }
def BktreeNoneWrongFalsely : Prop := bktreeNoneRow.holds Try.pinned (OpenSpec.ofChange bktreeNoneWrong)

/- THE SECOND FORM. 'bulk': how many values and letters a reading holds, each counted each time it is reached (what is shared counts as often as it is met; a slice's spare places count too). A statement '..UptoSaid' is the law's where the arguments, and the package variables that the reading takes, are together of bulk at most 1048576: NARROWER than '..Said'. Prove '..Said' where nothing that the law and all that it calls make is longer than what came in: it says more and counts as full. Else prove '..UptoSaid'. A law counts once. -/
mutual
def uptoBulk {H : Type} : DataW H → Nat
  | .lit (.string bytes) => bytes.length + 1
  | .lit _ => 1
  | .nil => 1
  | .ptr d => uptoBulk d + 1
  | .slice elems spare => uptoBulkAll elems + uptoBulkAll spare + 1
  | .agg parts => uptoBulkAll parts + 1
  | .iface _ d => uptoBulk d + 1
  | .map entries => uptoBulkEntries entries + 1
  | .held _ => 1
def uptoBulkAll {H : Type} : List (DataW H) → Nat
  | [] => 0
  | d :: r => uptoBulk d + uptoBulkAll r
def uptoBulkEntries {H : Type} : List (Lit × DataW H) → Nat
  | [] => 0
  | x :: r => uptoBulkEntry x + uptoBulkEntries r
def uptoBulkEntry {H : Type} : Lit × DataW H → Nat
  | (.string bytes, d) => bytes.length + uptoBulk d + 1
  | (_, d) => uptoBulk d + 1
 end
def uptoSmall : (H : Type) → List (DataW H) → Bool := fun _ ds => decide (uptoBulkAll ds ≤ 1048576)
def OpenSpec.upto (s : _root_.Go.ChangeSpec) : _root_.Go.OpenSpec := { _root_.Go.OpenSpec.ofChange s with cond := some uptoSmall }

/-- 'waywiserlaw23.BktreeNodes', WHERE WHAT IT READS IS OF BULK AT MOST 1048576: true; the input reads as it did. -/
def bktreeNodesUptoRow : OpenClaim := { program := "ytjdcemmodkdajaa", sum := "63a59f258eaf85132414d2357d53ec42aed954a752d202a63f0ca5ad30196083", func := "waywiser/waywiserlaw23.BktreeNodes", spec := "bktreeNodes", unfollowed := true, recurses := true, apart := false, narrowed := true }
def BktreeNodesUptoSaid : Prop := bktreeNodesUptoRow.holds Try.pinned (OpenSpec.upto bktreeNodesSpec)

/-- 'waywiserlaw23.BktreeNone', WHERE WHAT IT READS IS OF BULK AT MOST 1048576: true; the input reads as it did. -/
def bktreeNoneUptoRow : OpenClaim := { program := "ytjdcemmodkdajaa", sum := "63a59f258eaf85132414d2357d53ec42aed954a752d202a63f0ca5ad30196083", func := "waywiser/waywiserlaw23.BktreeNone", spec := "bktreeNone", unfollowed := true, recurses := true, apart := false, narrowed := true }
def BktreeNoneUptoSaid : Prop := bktreeNoneUptoRow.holds Try.pinned (OpenSpec.upto bktreeNoneSpec)

end Rows
end Go.Proofs.Ytjdcemmodkdajaa
