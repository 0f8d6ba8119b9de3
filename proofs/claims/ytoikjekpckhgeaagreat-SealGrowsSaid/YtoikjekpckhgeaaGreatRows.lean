/-
  No cell of these rows narrows 'for every input' (looked for: loops, veiled, ifaces, maps, wideKeys, modest, calm, conditions, laid).
  DERIVED. THE GIVEN ROWS OF THIS SEAT. 9 by the template 'for every input the law returns true; each argument reads behind the call as it read before'; 0 by the template 'total and deterministic' (their statements: YtoikjekpckhgeaaGreatTotals.lean).
  GIVEN WITH THE SEED: the statements are not yours to turn. If you find one false, say at which input.
  Laid BY PROGRAM, IN A SANDBOX (cutbox-rows.mjs): the forced cells as the released guide's own fill.sh prints them over the translation 4ef4f3606c66285b… (all of the seat's roots in one cut). By AI agents, Wed Nov 11 2026. No macro, syntax, notation, axiom, sorry.
-/
import Derived.Test.YtoikjekpckhgeaaGreatChecked
import GoSem.Claim
import GoSem.ClaimJoined
import GoSem.ClaimMapViews
import Derived.JoinedTies
import Derived.KernelRfl
namespace Go.Proofs.YtoikjekpckhgeaaGreat
/- THE CELL 'sum', in the pinned program and in every row, IS THE sha256 OF THE DUMP (.gsa) THAT YtoikjekpckhgeaaGreatProg.lean LOADS. Nothing in Lean hashes anything: it is a label: what it is worth is what the hold of that sum in a sandbox is worth. -/
noncomputable def Tryz.pinned : Pinned := { name := "ytoikjekpckhgeaagreat", sum := "4ef4f3606c66285b5ad972f638c3d30fc118497c0955d75d9224e75baf687cbe", checked := Tryz.checked }
namespace Rows
def none {H : Type} : Left H := { results := [], args := [] }

/-- 'palinodelaw29.PeerPlays': WHATEVER THE INPUT: true; the input reads as it did. -/
def peerPlaysSpec : ChangeSpec := { name := "peerPlays", fn := fun _ => fun
  | [d1, d2, d3] => { results := [.lit (.bool true)], args := [d1, d2, d3] }
  | _ => none }
def peerPlaysRow : OpenClaim := { program := "ytoikjekpckhgeaagreat", sum := "4ef4f3606c66285b5ad972f638c3d30fc118497c0955d75d9224e75baf687cbe", func := "palinode/palinodelaw29.PeerPlays", spec := "peerPlays", unfollowed := true, recurses := true, plainKeys := false, apart := false }
def PeerPlaysSaid : Prop := peerPlaysRow.holds Tryz.pinned (OpenSpec.ofChange peerPlaysSpec)

/-- ITS FALSE NEIGHBOUR: 'it returns false'. Refute it at one input. -/
def peerPlaysWrong : ChangeSpec := { name := "peerPlays", fn := fun _ => fun
  | [d1, d2, d3] => { results := [.lit (.bool false)], args := [d1, d2, d3] }
  | _ => none }
def PeerPlaysWrongFalsely : Prop := peerPlaysRow.holds Tryz.pinned (OpenSpec.ofChange peerPlaysWrong)

/-- 'palinodelaw29.PeerGrows': WHATEVER THE INPUT: true; the input reads as it did. -/
def peerGrowsSpec : ChangeSpec := { name := "peerGrows", fn := fun _ => fun
  | [d1, d2, d3, d4] => { results := [.lit (.bool true)], args := [d1, d2, d3, d4] }
  | _ => none }
def peerGrowsRow : OpenClaim := { program := "ytoikjekpckhgeaagreat", sum := "4ef4f3606c66285b5ad972f638c3d30fc118497c0955d75d9224e75baf687cbe", func := "palinode/palinodelaw29.PeerGrows", spec := "peerGrows", unfollowed := true, recurses := true, plainKeys := false, apart := false }
def PeerGrowsSaid : Prop := peerGrowsRow.holds Tryz.pinned (OpenSpec.ofChange peerGrowsSpec)

/-- ITS FALSE NEIGHBOUR: 'it returns false'. Refute it at one input. -/
def peerGrowsWrong : ChangeSpec := { name := "peerGrows", fn := fun _ => fun
  | [d1, d2, d3, d4] => { results := [.lit (.bool false)], args := [d1, d2, d3, d4] }
  | _ => none }
def PeerGrowsWrongFalsely : Prop := peerGrowsRow.holds Tryz.pinned (OpenSpec.ofChange peerGrowsWrong)

/-- 'palinodelaw29.PeerMatrix': WHATEVER THE INPUT: true; the input reads as it did. -/
def peerMatrixSpec : ChangeSpec := { name := "peerMatrix", fn := fun _ => fun
  | [d1, d2, d3, d4, d5] => { results := [.lit (.bool true)], args := [d1, d2, d3, d4, d5] }
  | _ => none }
def peerMatrixRow : OpenClaim := { program := "ytoikjekpckhgeaagreat", sum := "4ef4f3606c66285b5ad972f638c3d30fc118497c0955d75d9224e75baf687cbe", func := "palinode/palinodelaw29.PeerMatrix", spec := "peerMatrix", unfollowed := true, recurses := true, plainKeys := false, apart := false }
def PeerMatrixSaid : Prop := peerMatrixRow.holds Tryz.pinned (OpenSpec.ofChange peerMatrixSpec)

/-- ITS FALSE NEIGHBOUR: 'it returns false'. Refute it at one input. -/
def peerMatrixWrong : ChangeSpec := { name := "peerMatrix", fn := fun _ => fun
  | [d1, d2, d3, d4, d5] => { results := [.lit (.bool false)], args := [d1, d2, d3, d4, d5] }
  | _ => none }
def PeerMatrixWrongFalsely : Prop := peerMatrixRow.holds Tryz.pinned (OpenSpec.ofChange peerMatrixWrong)

/-- 'palinodelaw29.PeerSettles': WHATEVER THE INPUT: true; the input reads as it did. -/
def peerSettlesSpec : ChangeSpec := { name := "peerSettles", fn := fun _ => fun
  | [d1, d2, d3] => { results := [.lit (.bool true)], args := [d1, d2, d3] }
  | _ => none }
def peerSettlesRow : OpenClaim := { program := "ytoikjekpckhgeaagreat", sum := "4ef4f3606c66285b5ad972f638c3d30fc118497c0955d75d9224e75baf687cbe", func := "palinode/palinodelaw29.PeerSettles", spec := "peerSettles", inPlace := ["slices.overlaps[palinode/api.Txn]", "slices.overlaps[palinode/api.Dot]"], unfollowed := true, recurses := true, plainKeys := false, apart := false }
def PeerSettlesSaid : Prop := peerSettlesRow.holds Tryz.pinned (OpenSpec.ofChange peerSettlesSpec)

/-- ITS FALSE NEIGHBOUR: 'it returns false'. Refute it at one input. -/
def peerSettlesWrong : ChangeSpec := { name := "peerSettles", fn := fun _ => fun
  | [d1, d2, d3] => { results := [.lit (.bool false)], args := [d1, d2, d3] }
  | _ => none }
def PeerSettlesWrongFalsely : Prop := peerSettlesRow.holds Tryz.pinned (OpenSpec.ofChange peerSettlesWrong)

/-- 'palinodelaw30.SealTells': WHATEVER THE INPUT: true; the input reads as it did. -/
def sealTellsSpec : ChangeSpec := { name := "sealTells", fn := fun _ => fun
  | [d1, d2, d3, d4, d5] => { results := [.lit (.bool true)], args := [d1, d2, d3, d4, d5] }
  | _ => none }
def sealTellsRow : OpenClaim := { program := "ytoikjekpckhgeaagreat", sum := "4ef4f3606c66285b5ad972f638c3d30fc118497c0955d75d9224e75baf687cbe", func := "palinode/palinodelaw30.SealTells", spec := "sealTells", inPlace := ["slices.overlaps[palinode/api.Txn]", "slices.overlaps[palinode/api.Dot]"], unfollowed := true, recurses := true, plainKeys := false, apart := false }
def SealTellsSaid : Prop := sealTellsRow.holds Tryz.pinned (OpenSpec.ofChange sealTellsSpec)

/-- ITS FALSE NEIGHBOUR: 'it returns false'. Refute it at one input. -/
def sealTellsWrong : ChangeSpec := { name := "sealTells", fn := fun _ => fun
  | [d1, d2, d3, d4, d5] => { results := [.lit (.bool false)], args := [d1, d2, d3, d4, d5] }
  | _ => none }
def SealTellsWrongFalsely : Prop := sealTellsRow.holds Tryz.pinned (OpenSpec.ofChange sealTellsWrong)

/-- 'palinodelaw30.SealReady': WHATEVER THE INPUT: true; the input reads as it did. -/
def sealReadySpec : ChangeSpec := { name := "sealReady", fn := fun _ => fun
  | [d1, d2, d3, d4] => { results := [.lit (.bool true)], args := [d1, d2, d3, d4] }
  | _ => none }
def sealReadyRow : OpenClaim := { program := "ytoikjekpckhgeaagreat", sum := "4ef4f3606c66285b5ad972f638c3d30fc118497c0955d75d9224e75baf687cbe", func := "palinode/palinodelaw30.SealReady", spec := "sealReady", inPlace := ["slices.overlaps[palinode/api.Txn]", "slices.overlaps[palinode/api.Dot]"], unfollowed := true, recurses := true, plainKeys := false, apart := false }
def SealReadySaid : Prop := sealReadyRow.holds Tryz.pinned (OpenSpec.ofChange sealReadySpec)

/-- ITS FALSE NEIGHBOUR: 'it returns false'. Refute it at one input. -/
def sealReadyWrong : ChangeSpec := { name := "sealReady", fn := fun _ => fun
  | [d1, d2, d3, d4] => { results := [.lit (.bool false)], args := [d1, d2, d3, d4] }
  | _ => none }
def SealReadyWrongFalsely : Prop := sealReadyRow.holds Tryz.pinned (OpenSpec.ofChange sealReadyWrong)

/-- 'palinodelaw30.SealGrows': WHATEVER THE INPUT: true; the input reads as it did. -/
def sealGrowsSpec : ChangeSpec := { name := "sealGrows", fn := fun _ => fun
  | [d1, d2, d3, d4, d5, d6] => { results := [.lit (.bool true)], args := [d1, d2, d3, d4, d5, d6] }
  | _ => none }
def sealGrowsRow : OpenClaim := { program := "ytoikjekpckhgeaagreat", sum := "4ef4f3606c66285b5ad972f638c3d30fc118497c0955d75d9224e75baf687cbe", func := "palinode/palinodelaw30.SealGrows", spec := "sealGrows", inPlace := ["slices.overlaps[palinode/api.Txn]", "slices.overlaps[palinode/api.Dot]"], unfollowed := true, recurses := true, plainKeys := false, apart := false }
def SealGrowsSaid : Prop := sealGrowsRow.holds Tryz.pinned (OpenSpec.ofChange sealGrowsSpec)

/-- ITS FALSE NEIGHBOUR: 'it returns false'. Refute it at one input. -/
def sealGrowsWrong : ChangeSpec := { name := "sealGrows", fn := fun _ => fun
  | [d1, d2, d3, d4, d5, d6] => { results := [.lit (.bool false)], args := [d1, d2, d3, d4, d5, d6] }
  | _ => none }
def SealGrowsWrongFalsely : Prop := sealGrowsRow.holds Tryz.pinned (OpenSpec.ofChange sealGrowsWrong)

/-- 'palinodelaw30.SealFuture': WHATEVER THE INPUT: true; the input reads as it did. -/
def sealFutureSpec : ChangeSpec := { name := "sealFuture", fn := fun _ => fun
  | [d1, d2, d3, d4, d5] => { results := [.lit (.bool true)], args := [d1, d2, d3, d4, d5] }
  | _ => none }
def sealFutureRow : OpenClaim := { program := "ytoikjekpckhgeaagreat", sum := "4ef4f3606c66285b5ad972f638c3d30fc118497c0955d75d9224e75baf687cbe", func := "palinode/palinodelaw30.SealFuture", spec := "sealFuture", inPlace := ["slices.overlaps[palinode/api.Txn]", "slices.overlaps[palinode/api.Dot]"], unfollowed := true, recurses := true, plainKeys := false, apart := false }
def SealFutureSaid : Prop := sealFutureRow.holds Tryz.pinned (OpenSpec.ofChange sealFutureSpec)

/-- ITS FALSE NEIGHBOUR: 'it returns false'. Refute it at one input. -/
def sealFutureWrong : ChangeSpec := { name := "sealFuture", fn := fun _ => fun
  | [d1, d2, d3, d4, d5] => { results := [.lit (.bool false)], args := [d1, d2, d3, d4, d5] }
  | _ => none }
def SealFutureWrongFalsely : Prop := sealFutureRow.holds Tryz.pinned (OpenSpec.ofChange sealFutureWrong)

/-- 'palinodelaw30.SealReads': WHATEVER THE INPUT: true; the input reads as it did. -/
def sealReadsSpec : ChangeSpec := { name := "sealReads", fn := fun _ => fun
  | [d1, d2, d3, d4] => { results := [.lit (.bool true)], args := [d1, d2, d3, d4] }
  | _ => none }
def sealReadsRow : OpenClaim := { program := "ytoikjekpckhgeaagreat", sum := "4ef4f3606c66285b5ad972f638c3d30fc118497c0955d75d9224e75baf687cbe", func := "palinode/palinodelaw30.SealReads", spec := "sealReads", inPlace := ["slices.overlaps[palinode/api.Txn]", "slices.overlaps[palinode/api.Dot]"], unfollowed := true, recurses := true, plainKeys := false, apart := false }
def SealReadsSaid : Prop := sealReadsRow.holds Tryz.pinned (OpenSpec.ofChange sealReadsSpec)

/-- ITS FALSE NEIGHBOUR: 'it returns false'. Refute it at one input. -/
def sealReadsWrong : ChangeSpec := { name := "sealReads", fn := fun _ => fun
  | [d1, d2, d3, d4] => { results := [.lit (.bool false)], args := [d1, d2, d3, d4] }
  | _ => none }
def SealReadsWrongFalsely : Prop := sealReadsRow.holds Tryz.pinned (OpenSpec.ofChange sealReadsWrong)

/- THE SECOND FORM. 'bulk': how many values and letters a reading holds, each counted each time it is reached (what is shared counts as often as it is met; a slice's spare places count too). A statement '..UptoSaid' is the law's where the arguments, and the package variables that the reading takes, are together of bulk at most 1048576: NARROWER than '..Said'. Prove '..Said' where nothing that the law and all that it calls make is longer than what came in: it says more and counts as full. Else prove '..UptoSaid'. A law counts once. -/
mutual
def uptoBulk {H : Type} : DataW H → Nat
  | .lit (.string bytes) => bytes.length + 1
  | .lit _ => 1
  | .nil => 1
  | .ptr d => uptoBulk d + 1
  | .slice elems spare => uptoBulkAll elems + uptoBulkAll spare + 1
  | .agg parts => uptoBulkAll parts + 1
  | .iface _ d => uptoBulk d + 1
  | .map entries => uptoBulkEntries entries + 1
  | .held _ => 1
def uptoBulkAll {H : Type} : List (DataW H) → Nat
  | [] => 0
  | d :: r => uptoBulk d + uptoBulkAll r
def uptoBulkEntries {H : Type} : List (Lit × DataW H) → Nat
  | [] => 0
  | x :: r => uptoBulkEntry x + uptoBulkEntries r
def uptoBulkEntry {H : Type} : Lit × DataW H → Nat
  | (.string bytes, d) => bytes.length + uptoBulk d + 1
  | (_, d) => uptoBulk d + 1
 end
def uptoSmall : (H : Type) → List (DataW H) → Bool := fun _ ds => decide (uptoBulkAll ds ≤ 1048576)
def OpenSpec.upto (s : _root_.Go.ChangeSpec) : _root_.Go.OpenSpec := { _root_.Go.OpenSpec.ofChange s with cond := some uptoSmall }

/-- 'palinodelaw29.PeerPlays', WHERE WHAT IT READS IS OF BULK AT MOST 1048576: true; the input reads as it did. -/
def peerPlaysUptoRow : OpenClaim := { program := "ytoikjekpckhgeaagreat", sum := "4ef4f3606c66285b5ad972f638c3d30fc118497c0955d75d9224e75baf687cbe", func := "palinode/palinodelaw29.PeerPlays", spec := "peerPlays", unfollowed := true, recurses := true, plainKeys := false, apart := false, narrowed := true }
def PeerPlaysUptoSaid : Prop := peerPlaysUptoRow.holds Tryz.pinned (OpenSpec.upto peerPlaysSpec)

/-- 'palinodelaw29.PeerGrows', WHERE WHAT IT READS IS OF BULK AT MOST 1048576: true; the input reads as it did. -/
def peerGrowsUptoRow : OpenClaim := { program := "ytoikjekpckhgeaagreat", sum := "4ef4f3606c66285b5ad972f638c3d30fc118497c0955d75d9224e75baf687cbe", func := "palinode/palinodelaw29.PeerGrows", spec := "peerGrows", unfollowed := true, recurses := true, plainKeys := false, apart := false, narrowed := true }
def PeerGrowsUptoSaid : Prop := peerGrowsUptoRow.holds Tryz.pinned (OpenSpec.upto peerGrowsSpec)

/-- 'palinodelaw29.PeerMatrix', WHERE WHAT IT READS IS OF BULK AT MOST 1048576: true; the input reads as it did. -/
def peerMatrixUptoRow : OpenClaim := { program := "ytoikjekpckhgeaagreat", sum := "4ef4f3606c66285b5ad972f638c3d30fc118497c0955d75d9224e75baf687cbe", func := "palinode/palinodelaw29.PeerMatrix", spec := "peerMatrix", unfollowed := true, recurses := true, plainKeys := false, apart := false, narrowed := true }
def PeerMatrixUptoSaid : Prop := peerMatrixUptoRow.holds Tryz.pinned (OpenSpec.upto peerMatrixSpec)

/-- 'palinodelaw29.PeerSettles', WHERE WHAT IT READS IS OF BULK AT MOST 1048576: true; the input reads as it did. -/
def peerSettlesUptoRow : OpenClaim := { program := "ytoikjekpckhgeaagreat", sum := "4ef4f3606c66285b5ad972f638c3d30fc118497c0955d75d9224e75baf687cbe", func := "palinode/palinodelaw29.PeerSettles", spec := "peerSettles", inPlace := ["slices.overlaps[palinode/api.Txn]", "slices.overlaps[palinode/api.Dot]"], unfollowed := true, recurses := true, plainKeys := false, apart := false, narrowed := true }
def PeerSettlesUptoSaid : Prop := peerSettlesUptoRow.holds Tryz.pinned (OpenSpec.upto peerSettlesSpec)

/-- 'palinodelaw30.SealTells', WHERE WHAT IT READS IS OF BULK AT MOST 1048576: true; the input reads as it did. -/
def sealTellsUptoRow : OpenClaim := { program := "ytoikjekpckhgeaagreat", sum := "4ef4f3606c66285b5ad972f638c3d30fc118497c0955d75d9224e75baf687cbe", func := "palinode/palinodelaw30.SealTells", spec := "sealTells", inPlace := ["slices.overlaps[palinode/api.Txn]", "slices.overlaps[palinode/api.Dot]"], unfollowed := true, recurses := true, plainKeys := false, apart := false, narrowed := true }
def SealTellsUptoSaid : Prop := sealTellsUptoRow.holds Tryz.pinned (OpenSpec.upto sealTellsSpec)

/-- 'palinodelaw30.SealReady', WHERE WHAT IT READS IS OF BULK AT MOST 1048576: true; the input reads as it did. -/
def sealReadyUptoRow : OpenClaim := { program := "ytoikjekpckhgeaagreat", sum := "4ef4f3606c66285b5ad972f638c3d30fc118497c0955d75d9224e75baf687cbe", func := "palinode/palinodelaw30.SealReady", spec := "sealReady", inPlace := ["slices.overlaps[palinode/api.Txn]", "slices.overlaps[palinode/api.Dot]"], unfollowed := true, recurses := true, plainKeys := false, apart := false, narrowed := true }
def SealReadyUptoSaid : Prop := sealReadyUptoRow.holds Tryz.pinned (OpenSpec.upto sealReadySpec)

/-- 'palinodelaw30.SealGrows', WHERE WHAT IT READS IS OF BULK AT MOST 1048576: true; the input reads as it did. -/
def sealGrowsUptoRow : OpenClaim := { program := "ytoikjekpckhgeaagreat", sum := "4ef4f3606c66285b5ad972f638c3d30fc118497c0955d75d9224e75baf687cbe", func := "palinode/palinodelaw30.SealGrows", spec := "sealGrows", inPlace := ["slices.overlaps[palinode/api.Txn]", "slices.overlaps[palinode/api.Dot]"], unfollowed := true, recurses := true, plainKeys := false, apart := false, narrowed := true }
def SealGrowsUptoSaid : Prop := sealGrowsUptoRow.holds Tryz.pinned (OpenSpec.upto sealGrowsSpec)

/-- 'palinodelaw30.SealFuture', WHERE WHAT IT READS IS OF BULK AT MOST 1048576: true; the input reads as it did. -/
def sealFutureUptoRow : OpenClaim := { program := "ytoikjekpckhgeaagreat", sum := "4ef4f3606c66285b5ad972f638c3d30fc118497c0955d75d9224e75baf687cbe", func := "palinode/palinodelaw30.SealFuture", spec := "sealFuture", inPlace := ["slices.overlaps[palinode/api.Txn]", "slices.overlaps[palinode/api.Dot]"], unfollowed := true, recurses := true, plainKeys := false, apart := false, narrowed := true }
def SealFutureUptoSaid : Prop := sealFutureUptoRow.holds Tryz.pinned (OpenSpec.upto sealFutureSpec)

/-- 'palinodelaw30.SealReads', WHERE WHAT IT READS IS OF BULK AT MOST 1048576: true; the input reads as it did. -/
def sealReadsUptoRow : OpenClaim := { program := "ytoikjekpckhgeaagreat", sum := "4ef4f3606c66285b5ad972f638c3d30fc118497c0955d75d9224e75baf687cbe", func := "palinode/palinodelaw30.SealReads", spec := "sealReads", inPlace := ["slices.overlaps[palinode/api.Txn]", "slices.overlaps[palinode/api.Dot]"], unfollowed := true, recurses := true, plainKeys := false, apart := false, narrowed := true }
def SealReadsUptoSaid : Prop := sealReadsUptoRow.holds Tryz.pinned (OpenSpec.upto sealReadsSpec)

end Rows
end Go.Proofs.YtoikjekpckhgeaaGreat
