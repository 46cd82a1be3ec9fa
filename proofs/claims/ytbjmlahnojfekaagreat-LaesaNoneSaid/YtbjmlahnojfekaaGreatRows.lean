/-
  No cell of these rows narrows 'for every input' (looked for: loops, veiled, ifaces, maps, wideKeys, modest, calm, conditions, laid).
  DERIVED. THE GIVEN ROWS OF THIS SEAT. 3 by the template 'for every input the law returns true; each argument reads behind the call as it read before'; 0 by the template 'total and deterministic' (their statements: YtbjmlahnojfekaaGreatTotals.lean).
  GIVEN WITH THE SEED: the statements are not yours to turn. If you find one false, say at which input.
  Laid BY PROGRAM, IN A SANDBOX (cutbox-rows.mjs): the forced cells as the released guide's own fill.sh prints them over the translation bb7823845ac2b4b3… (all of the seat's roots in one cut). By AI agents, Wed Nov 11 2026. No macro, syntax, notation, axiom, sorry.
-/
import Derived.Test.YtbjmlahnojfekaaGreatChecked
import GoSem.Claim
import GoSem.ClaimJoined
import GoSem.ClaimMapViews
import Derived.JoinedTies
import Derived.KernelRfl
namespace Go.Proofs.YtbjmlahnojfekaaGreat
/- THE CELL 'sum', in the pinned program and in every row, IS THE sha256 OF THE DUMP (.gsa) THAT YtbjmlahnojfekaaGreatProg.lean LOADS. Nothing in Lean hashes anything: it is a label: what it is worth is what the hold of that sum in a sandbox is worth. -/
noncomputable def Tryz.pinned : Pinned := { name := "ytbjmlahnojfekaagreat", sum := "bb7823845ac2b4b314ddfa8a12a8033af68b3970648344c4f4c27b8ee9cd6b8c", checked := Tryz.checked }
namespace Rows
def none {H : Type} : Left H := { results := [], args := [] }

/-- 'waywiserlaw22.LaesaPivots': WHATEVER THE INPUT: true; the input reads as it did. -/
def laesaPivotsSpec : ChangeSpec := { name := "laesaPivots", fn := fun _ => fun
  | [d1, d2, d3] => { results := [.lit (.bool true)], args := [d1, d2, d3] }
  | _ => none }
def laesaPivotsRow : OpenClaim := { program := "ytbjmlahnojfekaagreat", sum := "bb7823845ac2b4b314ddfa8a12a8033af68b3970648344c4f4c27b8ee9cd6b8c", func := "waywiser/waywiserlaw22.LaesaPivots", spec := "laesaPivots", inPlace := ["slices.overlaps[waywiser/api.Lr]"], unfollowed := true, recurses := true, apart := false }
def LaesaPivotsSaid : Prop := laesaPivotsRow.holds Tryz.pinned (OpenSpec.ofChange laesaPivotsSpec)

/-- ITS FALSE NEIGHBOUR: 'it returns false'. Refute it at one input. -/
def laesaPivotsWrong : ChangeSpec := { name := "laesaPivots", fn := fun _ => fun
  | [d1, d2, d3] => { results := [.lit (.bool false)], args := [d1, d2, d3] }
  | _ => none }
def LaesaPivotsWrongFalsely : Prop := laesaPivotsRow.holds Tryz.pinned (OpenSpec.ofChange laesaPivotsWrong)

/-- 'waywiserlaw22.LaesaLoads': WHATEVER THE INPUT: true; the input reads as it did. -/
def laesaLoadsSpec : ChangeSpec := { name := "laesaLoads", fn := fun _ => fun
  | [d1, d2, d3] => { results := [.lit (.bool true)], args := [d1, d2, d3] }
  | _ => none }
def laesaLoadsRow : OpenClaim := { program := "ytbjmlahnojfekaagreat", sum := "bb7823845ac2b4b314ddfa8a12a8033af68b3970648344c4f4c27b8ee9cd6b8c", func := "waywiser/waywiserlaw22.LaesaLoads", spec := "laesaLoads", inPlace := ["slices.overlaps[waywiser/api.Lr]"], unfollowed := true, recurses := true, apart := false }
def LaesaLoadsSaid : Prop := laesaLoadsRow.holds Tryz.pinned (OpenSpec.ofChange laesaLoadsSpec)

/-- ITS FALSE NEIGHBOUR: 'it returns false'. Refute it at one input. -/
def laesaLoadsWrong : ChangeSpec := { name := "laesaLoads", fn := fun _ => fun
  | [d1, d2, d3] => { results := [.lit (.bool false)], args := [d1, d2, d3] }
  | _ => none }
def LaesaLoadsWrongFalsely : Prop := laesaLoadsRow.holds Tryz.pinned (OpenSpec.ofChange laesaLoadsWrong)

/-- 'waywiserlaw22.LaesaNone': WHATEVER THE INPUT: true; the input reads as it did. -/
def laesaNoneSpec : ChangeSpec := { name := "laesaNone", fn := fun _ => fun
  | [d1, d2] => { results := [.lit (.bool true)], args := [d1, d2] }
  | _ => none }
def laesaNoneRow : OpenClaim := { program := "ytbjmlahnojfekaagreat", sum := "bb7823845ac2b4b314ddfa8a12a8033af68b3970648344c4f4c27b8ee9cd6b8c", func := "waywiser/waywiserlaw22.LaesaNone", spec := "laesaNone", inPlace := ["slices.overlaps[waywiser/api.Lr]"], unfollowed := true, recurses := true, apart := false }
def LaesaNoneSaid : Prop := laesaNoneRow.holds Tryz.pinned (OpenSpec.ofChange laesaNoneSpec)

/-- ITS FALSE NEIGHBOUR: 'it returns false'. Refute it at one input. -/
def laesaNoneWrong : ChangeSpec := { name := "laesaNone", fn := fun _ => fun
  | [d1, d2] => { results := [.lit (.bool false)], args := [d1, d2] }
  | _ => none }
def LaesaNoneWrongFalsely : Prop := laesaNoneRow.holds Tryz.pinned (OpenSpec.ofChange laesaNoneWrong)

/- THE SECOND FORM. 'bulk': how many values and letters a reading holds, each counted each time it is reached (what is shared counts as often as it is met; a slice's spare places count too). A statement '..UptoSaid' is the law's where the arguments, and the package variables that the reading takes, are together of bulk at most 1048576: NARROWER than '..Said'. Prove '..Said' where nothing that the law and all that it calls make is longer than what came in: it says more and counts as full. Else prove '..UptoSaid'. A law counts once. -/
mutual
def uptoBulk {H : Type} : DataW H → Nat
  | .lit (.string bytes) => bytes.length + 1
  | .lit _ => 1
  | .nil => 1
  | .ptr d => uptoBulk d + 1
  | .slice elems spare => uptoBulkAll elems + uptoBulkAll spare + 1
  | .agg parts => uptoBulkAll parts + 1
  | .iface _ d => uptoBulk d + 1
  | .map entries => uptoBulkEntries entries + 1
  | .held _ => 1
def uptoBulkAll {H : Type} : List (DataW H) → Nat
  | [] => 0
  | d :: r => uptoBulk d + uptoBulkAll r
def uptoBulkEntries {H : Type} : List (Lit × DataW H) → Nat
  | [] => 0
  | x :: r => uptoBulkEntry x + uptoBulkEntries r
def uptoBulkEntry {H : Type} : Lit × DataW H → Nat
  | (.string bytes, d) => bytes.length + uptoBulk d + 1
  | (_, d) => uptoBulk d + 1
 end
def uptoSmall : (H : Type) → List (DataW H) → Bool := fun _ ds => decide (uptoBulkAll ds ≤ 1048576)
def OpenSpec.upto (s : _root_.Go.ChangeSpec) : _root_.Go.OpenSpec := { _root_.Go.OpenSpec.ofChange s with cond := some uptoSmall }

/-- 'waywiserlaw22.LaesaPivots', WHERE WHAT IT READS IS OF BULK AT MOST 1048576: true; the input reads as it did. -/
def laesaPivotsUptoRow : OpenClaim := { program := "ytbjmlahnojfekaagreat", sum := "bb7823845ac2b4b314ddfa8a12a8033af68b3970648344c4f4c27b8ee9cd6b8c", func := "waywiser/waywiserlaw22.LaesaPivots", spec := "laesaPivots", inPlace := ["slices.overlaps[waywiser/api.Lr]"], unfollowed := true, recurses := true, apart := false, narrowed := true }
def LaesaPivotsUptoSaid : Prop := laesaPivotsUptoRow.holds Tryz.pinned (OpenSpec.upto laesaPivotsSpec)

/-- 'waywiserlaw22.LaesaLoads', WHERE WHAT IT READS IS OF BULK AT MOST 1048576: true; the input reads as it did. -/
def laesaLoadsUptoRow : OpenClaim := { program := "ytbjmlahnojfekaagreat", sum := "bb7823845ac2b4b314ddfa8a12a8033af68b3970648344c4f4c27b8ee9cd6b8c", func := "waywiser/waywiserlaw22.LaesaLoads", spec := "laesaLoads", inPlace := ["slices.overlaps[waywiser/api.Lr]"], unfollowed := true, recurses := true, apart := false, narrowed := true }
def LaesaLoadsUptoSaid : Prop := laesaLoadsUptoRow.holds Tryz.pinned (OpenSpec.upto laesaLoadsSpec)

/-- 'waywiserlaw22.LaesaNone', WHERE WHAT IT READS IS OF BULK AT MOST 1048576: true; the input reads as it did. -/
def laesaNoneUptoRow : OpenClaim := { program := "ytbjmlahnojfekaagreat", sum := "bb7823845ac2b4b314ddfa8a12a8033af68b3970648344c4f4c27b8ee9cd6b8c", func := "waywiser/waywiserlaw22.LaesaNone", spec := "laesaNone", inPlace := ["slices.overlaps[waywiser/api.Lr]"], unfollowed := true, recurses := true, apart := false, narrowed := true }
def LaesaNoneUptoSaid : Prop := laesaNoneUptoRow.holds Tryz.pinned (OpenSpec.upto laesaNoneSpec)

end Rows
end Go.Proofs.YtbjmlahnojfekaaGreat
