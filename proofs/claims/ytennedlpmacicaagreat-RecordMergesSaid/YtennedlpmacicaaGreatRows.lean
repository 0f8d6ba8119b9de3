/-
  No cell of these rows narrows 'for every input' (looked for: loops, veiled, ifaces, maps, wideKeys, modest, calm, conditions, laid).
  DERIVED. THE GIVEN ROWS OF THIS SEAT. 4 by the template 'for every input the law returns true; each argument reads behind the call as it read before'; 0 by the template 'total and deterministic' (their statements: YtennedlpmacicaaGreatTotals.lean).
  GIVEN WITH THE SEED: the statements are not yours to turn. If you find one false, say at which input.
  Laid BY PROGRAM, IN A SANDBOX (cutbox-rows.mjs): the forced cells as the released guide's own fill.sh prints them over the translation 7cd1024b8f437c32… (all of the seat's roots in one cut). By AI agents, Wed Nov 11 2026. No macro, syntax, notation, axiom, sorry.
-/
import Derived.Test.YtennedlpmacicaaGreatChecked
import GoSem.Claim
import GoSem.ClaimJoined
import GoSem.ClaimMapViews
import Derived.JoinedTies
import Derived.KernelRfl
namespace Go.Proofs.YtennedlpmacicaaGreat
/- THE CELL 'sum', in the pinned program and in every row, IS THE sha256 OF THE DUMP (.gsa) THAT YtennedlpmacicaaGreatProg.lean LOADS. Nothing in Lean hashes anything: it is a label: what it is worth is what the hold of that sum in a sandbox is worth. -/
noncomputable def Tryz.pinned : Pinned := { name := "ytennedlpmacicaagreat", sum := "7cd1024b8f437c32be1d203f17b5d9f109125b1e9ef306669808d19aa0d635d7", checked := Tryz.checked }
namespace Rows
def none {H : Type} : Left H := { results := [], args := [] }

/-- 'palinodelaw29.PeerPlays': WHATEVER THE INPUT: true; the input reads as it did. -/
def peerPlaysSpec : ChangeSpec := { name := "peerPlays", fn := fun _ => fun
  | [d1, d2, d3] => { results := [.lit (.bool true)], args := [d1, d2, d3] }
  | _ => none }
def peerPlaysRow : OpenClaim := { program := "ytennedlpmacicaagreat", sum := "7cd1024b8f437c32be1d203f17b5d9f109125b1e9ef306669808d19aa0d635d7", func := "palinode/palinodelaw29.PeerPlays", spec := "peerPlays", unfollowed := true, recurses := true, apart := false }
def PeerPlaysSaid : Prop := peerPlaysRow.holds Tryz.pinned (OpenSpec.ofChange peerPlaysSpec)

/-- ITS FALSE NEIGHBOUR: 'it returns false'. Refute it at one input. -/
def peerPlaysWrong : ChangeSpec := { name := "peerPlays", fn := fun _ => fun
  | [d1, d2, d3] => { results := [.lit (.bool false)], args := [d1, d2, d3] }
  | _ => none }
def PeerPlaysWrongFalsely : Prop := peerPlaysRow.holds Tryz.pinned (OpenSpec.ofChange peerPlaysWrong)

/-- 'palinodelaw29.PeerGrows': WHATEVER THE INPUT: true; the input reads as it did. -/
def peerGrowsSpec : ChangeSpec := { name := "peerGrows", fn := fun _ => fun
  | [d1, d2, d3, d4] => { results := [.lit (.bool true)], args := [d1, d2, d3, d4] }
  | _ => none }
def peerGrowsRow : OpenClaim := { program := "ytennedlpmacicaagreat", sum := "7cd1024b8f437c32be1d203f17b5d9f109125b1e9ef306669808d19aa0d635d7", func := "palinode/palinodelaw29.PeerGrows", spec := "peerGrows", unfollowed := true, recurses := true, apart := false }
def PeerGrowsSaid : Prop := peerGrowsRow.holds Tryz.pinned (OpenSpec.ofChange peerGrowsSpec)

/-- ITS FALSE NEIGHBOUR: 'it returns false'. Refute it at one input. -/
def peerGrowsWrong : ChangeSpec := { name := "peerGrows", fn := fun _ => fun
  | [d1, d2, d3, d4] => { results := [.lit (.bool false)], args := [d1, d2, d3, d4] }
  | _ => none }
def PeerGrowsWrongFalsely : Prop := peerGrowsRow.holds Tryz.pinned (OpenSpec.ofChange peerGrowsWrong)

/-- 'palinodelaw29.PeerMatrix': WHATEVER THE INPUT: true; the input reads as it did. -/
def peerMatrixSpec : ChangeSpec := { name := "peerMatrix", fn := fun _ => fun
  | [d1, d2, d3, d4, d5] => { results := [.lit (.bool true)], args := [d1, d2, d3, d4, d5] }
  | _ => none }
def peerMatrixRow : OpenClaim := { program := "ytennedlpmacicaagreat", sum := "7cd1024b8f437c32be1d203f17b5d9f109125b1e9ef306669808d19aa0d635d7", func := "palinode/palinodelaw29.PeerMatrix", spec := "peerMatrix", unfollowed := true, recurses := true, apart := false }
def PeerMatrixSaid : Prop := peerMatrixRow.holds Tryz.pinned (OpenSpec.ofChange peerMatrixSpec)

/-- ITS FALSE NEIGHBOUR: 'it returns false'. Refute it at one input. -/
def peerMatrixWrong : ChangeSpec := { name := "peerMatrix", fn := fun _ => fun
  | [d1, d2, d3, d4, d5] => { results := [.lit (.bool false)], args := [d1, d2, d3, d4, d5] }
  | _ => none }
def PeerMatrixWrongFalsely : Prop := peerMatrixRow.holds Tryz.pinned (OpenSpec.ofChange peerMatrixWrong)

/-- 'palinodelaw23.RecordMerges': WHATEVER THE INPUT: true; the input reads as it did. -/
def recordMergesSpec : ChangeSpec := { name := "recordMerges", fn := fun _ => fun
  | [d1, d2, d3] => { results := [.lit (.bool true)], args := [d1, d2, d3] }
  | _ => none }
def recordMergesRow : OpenClaim := { program := "ytennedlpmacicaagreat", sum := "7cd1024b8f437c32be1d203f17b5d9f109125b1e9ef306669808d19aa0d635d7", func := "palinode/palinodelaw23.RecordMerges", spec := "recordMerges", inPlace := ["slices.overlaps[palinode/api.Txn]", "slices.overlaps[palinode/api.Dot]"], unfollowed := true, recurses := true, apart := false }
def RecordMergesSaid : Prop := recordMergesRow.holds Tryz.pinned (OpenSpec.ofChange recordMergesSpec)

/-- ITS FALSE NEIGHBOUR: 'it returns false'. Refute it at one input. -/
def recordMergesWrong : ChangeSpec := { name := "recordMerges", fn := fun _ => fun
  | [d1, d2, d3] => { results := [.lit (.bool false)], args := [d1, d2, d3] }
  | _ => none }
def RecordMergesWrongFalsely : Prop := recordMergesRow.holds Tryz.pinned (OpenSpec.ofChange recordMergesWrong)

/- THE SECOND FORM. 'bulk': how many values and letters a reading holds, each counted each time it is reached (what is shared counts as often as it is met; a slice's spare places count too). A statement '..UptoSaid' is the law's where the arguments, and the package variables that the reading takes, are together of bulk at most 1048576: NARROWER than '..Said'. Prove '..Said' where nothing that the law and all that it calls make is longer than what came in: it says more and counts as full. Else prove '..UptoSaid'. A law counts once. -/
mutual
def uptoBulk {H : Type} : DataW H → Nat
  | .lit (.string bytes) => bytes.length + 1
  | .lit _ => 1
  | .nil => 1
  | .ptr d => uptoBulk d + 1
  | .slice elems spare => uptoBulkAll elems + uptoBulkAll spare + 1
  | .agg parts => uptoBulkAll parts + 1
  | .iface _ d => uptoBulk d + 1
  | .map entries => uptoBulkEntries entries + 1
  | .held _ => 1
def uptoBulkAll {H : Type} : List (DataW H) → Nat
  | [] => 0
  | d :: r => uptoBulk d + uptoBulkAll r
def uptoBulkEntries {H : Type} : List (Lit × DataW H) → Nat
  | [] => 0
  | x :: r => uptoBulkEntry x + uptoBulkEntries r
def uptoBulkEntry {H : Type} : Lit × DataW H → Nat
  | (.string bytes, d) => bytes.length + uptoBulk d + 1
  | (_, d) => uptoBulk d + 1
 end
def uptoSmall : (H : Type) → List (DataW H) → Bool := fun _ ds => decide (uptoBulkAll ds ≤ 1048576)
def OpenSpec.upto (s : _root_.Go.ChangeSpec) : _root_.Go.OpenSpec := { _root_.Go.OpenSpec.ofChange s with cond := some uptoSmall }

/-- 'palinodelaw29.PeerPlays', WHERE WHAT IT READS IS OF BULK AT MOST 1048576: true; the input reads as it did. -/
def peerPlaysUptoRow : OpenClaim := { program := "ytennedlpmacicaagreat", sum := "7cd1024b8f437c32be1d203f17b5d9f109125b1e9ef306669808d19aa0d635d7", func := "palinode/palinodelaw29.PeerPlays", spec := "peerPlays", unfollowed := true, recurses := true, apart := false, narrowed := true }
def PeerPlaysUptoSaid : Prop := peerPlaysUptoRow.holds Tryz.pinned (OpenSpec.upto peerPlaysSpec)

/-- 'palinodelaw29.PeerGrows', WHERE WHAT IT READS IS OF BULK AT MOST 1048576: true; the input reads as it did. -/
def peerGrowsUptoRow : OpenClaim := { program := "ytennedlpmacicaagreat", sum := "7cd1024b8f437c32be1d203f17b5d9f109125b1e9ef306669808d19aa0d635d7", func := "palinode/palinodelaw29.PeerGrows", spec := "peerGrows", unfollowed := true, recurses := true, apart := false, narrowed := true }
def PeerGrowsUptoSaid : Prop := peerGrowsUptoRow.holds Tryz.pinned (OpenSpec.upto peerGrowsSpec)

/-- 'palinodelaw29.PeerMatrix', WHERE WHAT IT READS IS OF BULK AT MOST 1048576: true; the input reads as it did. -/
def peerMatrixUptoRow : OpenClaim := { program := "ytennedlpmacicaagreat", sum := "7cd1024b8f437c32be1d203f17b5d9f109125b1e9ef306669808d19aa0d635d7", func := "palinode/palinodelaw29.PeerMatrix", spec := "peerMatrix", unfollowed := true, recurses := true, apart := false, narrowed := true }
def PeerMatrixUptoSaid : Prop := peerMatrixUptoRow.holds Tryz.pinned (OpenSpec.upto peerMatrixSpec)

/-- 'palinodelaw23.RecordMerges', WHERE WHAT IT READS IS OF BULK AT MOST 1048576: true; the input reads as it did. -/
def recordMergesUptoRow : OpenClaim := { program := "ytennedlpmacicaagreat", sum := "7cd1024b8f437c32be1d203f17b5d9f109125b1e9ef306669808d19aa0d635d7", func := "palinode/palinodelaw23.RecordMerges", spec := "recordMerges", inPlace := ["slices.overlaps[palinode/api.Txn]", "slices.overlaps[palinode/api.Dot]"], unfollowed := true, recurses := true, apart := false, narrowed := true }
def RecordMergesUptoSaid : Prop := recordMergesUptoRow.holds Tryz.pinned (OpenSpec.upto recordMergesSpec)

end Rows
end Go.Proofs.YtennedlpmacicaaGreat
