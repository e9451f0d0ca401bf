/-
  No cell of these rows narrows 'for every input' (looked for: loops, veiled, ifaces, maps, wideKeys, modest, calm, conditions, laid).
  DERIVED. THE GIVEN ROWS OF THIS SEAT. 3 by the template 'for every input the law returns true; each argument reads behind the call as it read before'; 0 by the template 'total and deterministic' (their statements: YtgkmpgfmhjbcjaaGreatTotals.lean).
  GIVEN WITH THE SEED: the statements are not yours to turn. If you find one false, say at which input.
  Laid BY PROGRAM, IN A SANDBOX (cutbox-rows.mjs): the forced cells as the released guide's own fill.sh prints them over the translation cd0dcbd4b8ef7006… (all of the seat's roots in one cut). By AI agents, Wed Nov 11 2026. No macro, syntax, notation, axiom, sorry.
-/
import Derived.Test.YtgkmpgfmhjbcjaaGreatChecked
import GoSem.Claim
import GoSem.ClaimJoined
import GoSem.ClaimMapViews
import Derived.JoinedTies
import Derived.KernelRfl
namespace Go.Proofs.YtgkmpgfmhjbcjaaGreat
/- THE CELL 'sum', in the pinned program and in every row, IS THE sha256 OF THE DUMP (.gsa) THAT YtgkmpgfmhjbcjaaGreatProg.lean LOADS. Nothing in Lean hashes anything: it is a label: what it is worth is what the hold of that sum in a sandbox is worth. -/
noncomputable def Tryz.pinned : Pinned := { name := "ytgkmpgfmhjbcjaagreat", sum := "cd0dcbd4b8ef7006c2ade184bb891971a1b4d93b82f150b4b733e5ff439c9b5f", checked := Tryz.checked }
namespace Rows
def none {H : Type} : Left H := { results := [], args := [] }

/-- 'wristbandlaw22.IssuerRight': WHATEVER THE INPUT: true; the input reads as it did. -/
def issuerRightSpec : ChangeSpec := { name := "issuerRight", fn := fun _ => fun
  | [d1, d2, d3, d4, d5] => { results := [.lit (.bool true)], args := [d1, d2, d3, d4, d5] }
  | _ => none }
def issuerRightRow : OpenClaim := { program := "ytgkmpgfmhjbcjaagreat", sum := "cd0dcbd4b8ef7006c2ade184bb891971a1b4d93b82f150b4b733e5ff439c9b5f", func := "wristband/wristbandlaw22.IssuerRight", spec := "issuerRight", inPlace := ["slices.overlaps[wristband/api.Holder]", "slices.overlaps[wristband/api.Gone]"], unfollowed := true, recurses := true, plainKeys := false, apart := false }
def IssuerRightSaid : Prop := issuerRightRow.holds Tryz.pinned (OpenSpec.ofChange issuerRightSpec)

/-- ITS FALSE NEIGHBOUR: 'it returns false'. Refute it at one input. -/
def issuerRightWrong : ChangeSpec := { name := "issuerRight", fn := fun _ => fun
  | [d1, d2, d3, d4, d5] => { results := [.lit (.bool false)], args := [d1, d2, d3, d4, d5] }
  | _ => none }
def IssuerRightWrongFalsely : Prop := issuerRightRow.holds Tryz.pinned (OpenSpec.ofChange issuerRightWrong)

/-- 'wristbandlaw22.IssuerEpochs': WHATEVER THE INPUT: true; the input reads as it did. -/
def issuerEpochsSpec : ChangeSpec := { name := "issuerEpochs", fn := fun _ => fun
  | [d1, d2, d3, d4, d5, d6, d7] => { results := [.lit (.bool true)], args := [d1, d2, d3, d4, d5, d6, d7] }
  | _ => none }
def issuerEpochsRow : OpenClaim := { program := "ytgkmpgfmhjbcjaagreat", sum := "cd0dcbd4b8ef7006c2ade184bb891971a1b4d93b82f150b4b733e5ff439c9b5f", func := "wristband/wristbandlaw22.IssuerEpochs", spec := "issuerEpochs", inPlace := ["slices.overlaps[wristband/api.Holder]", "slices.overlaps[wristband/api.Gone]"], unfollowed := true, recurses := true, plainKeys := false, apart := false }
def IssuerEpochsSaid : Prop := issuerEpochsRow.holds Tryz.pinned (OpenSpec.ofChange issuerEpochsSpec)

/-- ITS FALSE NEIGHBOUR: 'it returns false'. Refute it at one input. -/
def issuerEpochsWrong : ChangeSpec := { name := "issuerEpochs", fn := fun _ => fun
  | [d1, d2, d3, d4, d5, d6, d7] => { results := [.lit (.bool false)], args := [d1, d2, d3, d4, d5, d6, d7] }
  | _ => none }
def IssuerEpochsWrongFalsely : Prop := issuerEpochsRow.holds Tryz.pinned (OpenSpec.ofChange issuerEpochsWrong)

/-- 'wristbandlaw22.IssuerBuilds': WHATEVER THE INPUT: true; the input reads as it did. -/
def issuerBuildsSpec : ChangeSpec := { name := "issuerBuilds", fn := fun _ => fun
  | [d1, d2] => { results := [.lit (.bool true)], args := [d1, d2] }
  | _ => none }
def issuerBuildsRow : OpenClaim := { program := "ytgkmpgfmhjbcjaagreat", sum := "cd0dcbd4b8ef7006c2ade184bb891971a1b4d93b82f150b4b733e5ff439c9b5f", func := "wristband/wristbandlaw22.IssuerBuilds", spec := "issuerBuilds", inPlace := ["slices.overlaps[wristband/api.Holder]", "slices.overlaps[wristband/api.Gone]"], unfollowed := true, recurses := true, plainKeys := false, apart := false }
def IssuerBuildsSaid : Prop := issuerBuildsRow.holds Tryz.pinned (OpenSpec.ofChange issuerBuildsSpec)

/-- ITS FALSE NEIGHBOUR: 'it returns false'. Refute it at one input. -/
def issuerBuildsWrong : ChangeSpec := { name := "issuerBuilds", fn := fun _ => fun
  | [d1, d2] => { results := [.lit (.bool false)], args := [d1, d2] }
  | _ => none }
def IssuerBuildsWrongFalsely : Prop := issuerBuildsRow.holds Tryz.pinned (OpenSpec.ofChange issuerBuildsWrong)

/- THE SECOND FORM. 'bulk': how many values and letters a reading holds, each counted each time it is reached (what is shared counts as often as it is met; a slice's spare places count too). A statement '..UptoSaid' is the law's where the arguments, and the package variables that the reading takes, are together of bulk at most 1048576: NARROWER than '..Said'. Prove '..Said' where nothing that the law and all that it calls make is longer than what came in: it says more and counts as full. Else prove '..UptoSaid'. A law counts once. -/
mutual
def uptoBulk {H : Type} : DataW H → Nat
  | .lit (.string bytes) => bytes.length + 1
  | .lit _ => 1
  | .nil => 1
  | .ptr d => uptoBulk d + 1
  | .slice elems spare => uptoBulkAll elems + uptoBulkAll spare + 1
  | .agg parts => uptoBulkAll parts + 1
  | .iface _ d => uptoBulk d + 1
  | .map entries => uptoBulkEntries entries + 1
  | .held _ => 1
def uptoBulkAll {H : Type} : List (DataW H) → Nat
  | [] => 0
  | d :: r => uptoBulk d + uptoBulkAll r
def uptoBulkEntries {H : Type} : List (Lit × DataW H) → Nat
  | [] => 0
  | x :: r => uptoBulkEntry x + uptoBulkEntries r
def uptoBulkEntry {H : Type} : Lit × DataW H → Nat
  | (.string bytes, d) => bytes.length + uptoBulk d + 1
  | (_, d) => uptoBulk d + 1
 end
def uptoSmall : (H : Type) → List (DataW H) → Bool := fun _ ds => decide (uptoBulkAll ds ≤ 1048576)
def OpenSpec.upto (s : _root_.Go.ChangeSpec) : _root_.Go.OpenSpec := { _root_.Go.OpenSpec.ofChange s with cond := some uptoSmall }

/-- 'wristbandlaw22.IssuerRight', WHERE WHAT IT READS IS OF BULK AT MOST 1048576: true; the input reads as it did. -/
def issuerRightUptoRow : OpenClaim := { program := "ytgkmpgfmhjbcjaagreat", sum := "cd0dcbd4b8ef7006c2ade184bb891971a1b4d93b82f150b4b733e5ff439c9b5f", func := "wristband/wristbandlaw22.IssuerRight", spec := "issuerRight", inPlace := ["slices.overlaps[wristband/api.Holder]", "slices.overlaps[wristband/api.Gone]"], unfollowed := true, recurses := true, plainKeys := false, apart := false, narrowed := true }
def IssuerRightUptoSaid : Prop := issuerRightUptoRow.holds Tryz.pinned (OpenSpec.upto issuerRightSpec)

/-- 'wristbandlaw22.IssuerEpochs', WHERE WHAT IT READS IS OF BULK AT MOST 1048576: true; the input reads as it did. -/
def issuerEpochsUptoRow : OpenClaim := { program := "ytgkmpgfmhjbcjaagreat", sum := "cd0dcbd4b8ef7006c2ade184bb891971a1b4d93b82f150b4b733e5ff439c9b5f", func := "wristband/wristbandlaw22.IssuerEpochs", spec := "issuerEpochs", inPlace := ["slices.overlaps[wristband/api.Holder]", "slices.overlaps[wristband/api.Gone]"], unfollowed := true, recurses := true, plainKeys := false, apart := false, narrowed := true }
def IssuerEpochsUptoSaid : Prop := issuerEpochsUptoRow.holds Tryz.pinned (OpenSpec.upto issuerEpochsSpec)

/-- 'wristbandlaw22.IssuerBuilds', WHERE WHAT IT READS IS OF BULK AT MOST 1048576: true; the input reads as it did. -/
def issuerBuildsUptoRow : OpenClaim := { program := "ytgkmpgfmhjbcjaagreat", sum := "cd0dcbd4b8ef7006c2ade184bb891971a1b4d93b82f150b4b733e5ff439c9b5f", func := "wristband/wristbandlaw22.IssuerBuilds", spec := "issuerBuilds", inPlace := ["slices.overlaps[wristband/api.Holder]", "slices.overlaps[wristband/api.Gone]"], unfollowed := true, recurses := true, plainKeys := false, apart := false, narrowed := true }
def IssuerBuildsUptoSaid : Prop := issuerBuildsUptoRow.holds Tryz.pinned (OpenSpec.upto issuerBuildsSpec)

end Rows
end Go.Proofs.YtgkmpgfmhjbcjaaGreat
