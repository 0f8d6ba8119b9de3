/-
  No cell of these rows narrows 'for every input' (looked for: loops, veiled, ifaces, maps, wideKeys, modest, calm, conditions, laid).
  DERIVED. THE GIVEN ROWS OF THIS SEAT. 8 by the template 'for every input the law returns true; each argument reads behind the call as it read before'; 0 by the template 'total and deterministic' (their statements: YtennedlpmacicaaTotals.lean).
  GIVEN WITH THE SEED: the statements are not yours to turn. If you find one false, say at which input.
  Laid BY PROGRAM, IN A SANDBOX (cutbox-rows.mjs): the forced cells as the released guide's own fill.sh prints them over the translation be3ade38f9d46a74… (all of the seat's roots in one cut). By AI agents, Wed Nov 11 2026. No macro, syntax, notation, axiom, sorry.
-/
import Derived.Test.YtennedlpmacicaaChecked
import GoSem.Claim
import GoSem.ClaimJoined
import GoSem.ClaimMapViews
import Derived.JoinedTies
import Derived.KernelRfl
namespace Go.Proofs.Ytennedlpmacicaa
/- THE CELL 'sum', in the pinned program and in every row, IS THE sha256 OF THE DUMP (.gsa) THAT YtennedlpmacicaaProg.lean LOADS. Nothing in Lean hashes anything: it is a label: what it is worth is what the hold of that sum in a sandbox is worth. -/
noncomputable def Try.pinned : Pinned := { name := "ytennedlpmacicaa", sum := "be3ade38f9d46a7411fa2bad724050cabe586bae4fe13a0d44537e9d81edbbb5", checked := Try.checked }
namespace Rows
def none {H : Type} : Left H := { results := [], args := [] }

/-- 'palinodelaw42.AuditLikes': WHATEVER THE INPUT: true; the input reads as it did. -/
def auditLikesSpec : ChangeSpec := { name := "auditLikes", fn := fun _ => fun
  | [d1, d2] => { results := [.lit (.bool true)], args := [d1, d2] }
  | _ => none }
def auditLikesRow : OpenClaim := { program := "ytennedlpmacicaa", sum := "be3ade38f9d46a7411fa2bad724050cabe586bae4fe13a0d44537e9d81edbbb5", func := "palinode/palinodelaw42.AuditLikes", spec := "auditLikes", unfollowed := true, recurses := true, apart := false }
def AuditLikesSaid : Prop := auditLikesRow.holds Try.pinned (OpenSpec.ofChange auditLikesSpec)

/-- ITS FALSE NEIGHBOUR: 'it returns false'. Refute it at one input. -/
def auditLikesWrong : ChangeSpec := { name := "auditLikes", fn := fun _ => fun
  | [d1, d2] => { results := [.lit (.bool false)], args := [d1, d2] }
  | _ => none }
def AuditLikesWrongFalsely : Prop := auditLikesRow.holds Try.pinned (OpenSpec.ofChange auditLikesWrong)

/-- 'palinodelaw06.DotsOrder': WHATEVER THE INPUT: true; the input reads as it did. -/
def dotsOrderSpec : ChangeSpec := { name := "dotsOrder", fn := fun _ => fun
  | [d1, d2] => { results := [.lit (.bool true)], args := [d1, d2] }
  | _ => none }
def dotsOrderRow : OpenClaim := { program := "ytennedlpmacicaa", sum := "be3ade38f9d46a7411fa2bad724050cabe586bae4fe13a0d44537e9d81edbbb5", func := "palinode/palinodelaw06.DotsOrder", spec := "dotsOrder", inPlace := ["slices.overlaps[palinode/api.Dot]"], unfollowed := true, recurses := true, apart := false }
def DotsOrderSaid : Prop := dotsOrderRow.holds Try.pinned (OpenSpec.ofChange dotsOrderSpec)

/-- ITS FALSE NEIGHBOUR: 'it returns false'. Refute it at one input. -/
def dotsOrderWrong : ChangeSpec := { name := "dotsOrder", fn := fun _ => fun
  | [d1, d2] => { results := [.lit (.bool false)], args := [d1, d2] }
  | _ => none }
def DotsOrderWrongFalsely : Prop := dotsOrderRow.holds Try.pinned (OpenSpec.ofChange dotsOrderWrong)

/-- 'palinodelaw06.DotsTell': WHATEVER THE INPUT: true; the input reads as it did. -/
def dotsTellSpec : ChangeSpec := { name := "dotsTell", fn := fun _ => fun
  | [d1, d2, d3] => { results := [.lit (.bool true)], args := [d1, d2, d3] }
  | _ => none }
def dotsTellRow : OpenClaim := { program := "ytennedlpmacicaa", sum := "be3ade38f9d46a7411fa2bad724050cabe586bae4fe13a0d44537e9d81edbbb5", func := "palinode/palinodelaw06.DotsTell", spec := "dotsTell", inPlace := ["slices.overlaps[palinode/api.Dot]"], unfollowed := true, recurses := true, apart := false }
def DotsTellSaid : Prop := dotsTellRow.holds Try.pinned (OpenSpec.ofChange dotsTellSpec)

/-- ITS FALSE NEIGHBOUR: 'it returns false'. Refute it at one input. -/
def dotsTellWrong : ChangeSpec := { name := "dotsTell", fn := fun _ => fun
  | [d1, d2, d3] => { results := [.lit (.bool false)], args := [d1, d2, d3] }
  | _ => none }
def DotsTellWrongFalsely : Prop := dotsTellRow.holds Try.pinned (OpenSpec.ofChange dotsTellWrong)

/-- 'palinodelaw06.DotsJoin': WHATEVER THE INPUT: true; the input reads as it did. -/
def dotsJoinSpec : ChangeSpec := { name := "dotsJoin", fn := fun _ => fun
  | [d1, d2] => { results := [.lit (.bool true)], args := [d1, d2] }
  | _ => none }
def dotsJoinRow : OpenClaim := { program := "ytennedlpmacicaa", sum := "be3ade38f9d46a7411fa2bad724050cabe586bae4fe13a0d44537e9d81edbbb5", func := "palinode/palinodelaw06.DotsJoin", spec := "dotsJoin", inPlace := ["slices.overlaps[palinode/api.Dot]"], unfollowed := true, recurses := true, apart := false }
def DotsJoinSaid : Prop := dotsJoinRow.holds Try.pinned (OpenSpec.ofChange dotsJoinSpec)

/-- ITS FALSE NEIGHBOUR: 'it returns false'. Refute it at one input. -/
def dotsJoinWrong : ChangeSpec := { name := "dotsJoin", fn := fun _ => fun
  | [d1, d2] => { results := [.lit (.bool false)], args := [d1, d2] }
  | _ => none }
def DotsJoinWrongFalsely : Prop := dotsJoinRow.holds Try.pinned (OpenSpec.ofChange dotsJoinWrong)

/-- 'palinodelaw06.DotsLattice': WHATEVER THE INPUT: true; the input reads as it did. -/
def dotsLatticeSpec : ChangeSpec := { name := "dotsLattice", fn := fun _ => fun
  | [d1, d2, d3, d4] => { results := [.lit (.bool true)], args := [d1, d2, d3, d4] }
  | _ => none }
def dotsLatticeRow : OpenClaim := { program := "ytennedlpmacicaa", sum := "be3ade38f9d46a7411fa2bad724050cabe586bae4fe13a0d44537e9d81edbbb5", func := "palinode/palinodelaw06.DotsLattice", spec := "dotsLattice", inPlace := ["slices.overlaps[palinode/api.Dot]"], unfollowed := true, recurses := true, apart := false }
def DotsLatticeSaid : Prop := dotsLatticeRow.holds Try.pinned (OpenSpec.ofChange dotsLatticeSpec)

/-- ITS FALSE NEIGHBOUR: 'it returns false'. Refute it at one input. -/
def dotsLatticeWrong : ChangeSpec := { name := "dotsLattice", fn := fun _ => fun
  | [d1, d2, d3, d4] => { results := [.lit (.bool false)], args := [d1, d2, d3, d4] }
  | _ => none }
def DotsLatticeWrongFalsely : Prop := dotsLatticeRow.holds Try.pinned (OpenSpec.ofChange dotsLatticeWrong)

/-- 'palinodelaw24.DeltaJoins': WHATEVER THE INPUT: true; the input reads as it did. -/
def deltaJoinsSpec : ChangeSpec := { name := "deltaJoins", fn := fun _ => fun
  | [d1, d2] => { results := [.lit (.bool true)], args := [d1, d2] }
  | _ => none }
def deltaJoinsRow : OpenClaim := { program := "ytennedlpmacicaa", sum := "be3ade38f9d46a7411fa2bad724050cabe586bae4fe13a0d44537e9d81edbbb5", func := "palinode/palinodelaw24.DeltaJoins", spec := "deltaJoins", inPlace := ["slices.overlaps[palinode/api.Txn]", "slices.overlaps[palinode/api.Dot]"], unfollowed := true, recurses := true, apart := false }
def DeltaJoinsSaid : Prop := deltaJoinsRow.holds Try.pinned (OpenSpec.ofChange deltaJoinsSpec)

/-- ITS FALSE NEIGHBOUR: 'it returns false'. Refute it at one input. -/
def deltaJoinsWrong : ChangeSpec := { name := "deltaJoins", fn := fun _ => fun
  | [d1, d2] => { results := [.lit (.bool false)], args := [d1, d2] }
  | _ => none }
def DeltaJoinsWrongFalsely : Prop := deltaJoinsRow.holds Try.pinned (OpenSpec.ofChange deltaJoinsWrong)

/-- 'palinodelaw24.DeltaLattice': WHATEVER THE INPUT: true; the input reads as it did. -/
def deltaLatticeSpec : ChangeSpec := { name := "deltaLattice", fn := fun _ => fun
  | [d1, d2, d3] => { results := [.lit (.bool true)], args := [d1, d2, d3] }
  | _ => none }
def deltaLatticeRow : OpenClaim := { program := "ytennedlpmacicaa", sum := "be3ade38f9d46a7411fa2bad724050cabe586bae4fe13a0d44537e9d81edbbb5", func := "palinode/palinodelaw24.DeltaLattice", spec := "deltaLattice", inPlace := ["slices.overlaps[palinode/api.Txn]", "slices.overlaps[palinode/api.Dot]"], unfollowed := true, recurses := true, apart := false }
def DeltaLatticeSaid : Prop := deltaLatticeRow.holds Try.pinned (OpenSpec.ofChange deltaLatticeSpec)

/-- ITS FALSE NEIGHBOUR: 'it returns false'. Refute it at one input. -/
def deltaLatticeWrong : ChangeSpec := { name := "deltaLattice", fn := fun _ => fun
  | [d1, d2, d3] => { results := [.lit (.bool false)], args := [d1, d2, d3] }
  | _ => none }
def DeltaLatticeWrongFalsely : Prop := deltaLatticeRow.holds Try.pinned (OpenSpec.ofChange deltaLatticeWrong)

/-- 'palinodelaw06.DotsRead': WHATEVER THE INPUT: true; the input reads as it did. -/
def dotsReadSpec : ChangeSpec := { name := "dotsRead", fn := fun _ => fun
  | [d1, d2] => { results := [.lit (.bool true)], args := [d1, d2] }
  | _ => none }
def dotsReadRow : OpenClaim := { program := "ytennedlpmacicaa", sum := "be3ade38f9d46a7411fa2bad724050cabe586bae4fe13a0d44537e9d81edbbb5", func := "palinode/palinodelaw06.DotsRead", spec := "dotsRead", inPlace := ["slices.overlaps[palinode/api.Dot]"], unfollowed := true, recurses := true, apart := false }
def DotsReadSaid : Prop := dotsReadRow.holds Try.pinned (OpenSpec.ofChange dotsReadSpec)

/-- ITS FALSE NEIGHBOUR: 'it returns false'. Refute it at one input. -/
def dotsReadWrong : ChangeSpec := { name := "dotsRead", fn := fun _ => fun
  | [d1, d2] => { results := [.lit (.bool false)], args := [d1, d2] }
  | _ => none }
def DotsReadWrongFalsely : Prop := dotsReadRow.holds Try.pinned (OpenSpec.ofChange dotsReadWrong)

/- THE SECOND FORM. 'bulk': how many values and letters a reading holds, each counted each time it is reached (what is shared counts as often as it is met; a slice's spare places count too). A statement '..UptoSaid' is the law's where the arguments, and the package variables that the reading takes, are together of bulk at most 1048576: NARROWER than '..Said'. Prove '..Said' where nothing that the law and all that it calls make is longer than what came in: it says more and counts as full. Else prove '..UptoSaid'. A law counts once. -/
mutual
def uptoBulk {H : Type} : DataW H → Nat
  | .lit (.string bytes) => bytes.length + 1
  | .lit _ => 1
  | .nil => 1
  | .ptr d => uptoBulk d + 1
  | .slice elems spare => uptoBulkAll elems + uptoBulkAll spare + 1
  | .agg parts => uptoBulkAll parts + 1
  | .iface _ d => uptoBulk d + 1
  | .map entries => uptoBulkEntries entries + 1
  | .held _ => 1
def uptoBulkAll {H : Type} : List (DataW H) → Nat
  | [] => 0
  | d :: r => uptoBulk d + uptoBulkAll r
def uptoBulkEntries {H : Type} : List (Lit × DataW H) → Nat
  | [] => 0
  | x :: r => uptoBulkEntry x + uptoBulkEntries r
def uptoBulkEntry {H : Type} : Lit × DataW H → Nat
  | (.string bytes, d) => bytes.length + uptoBulk d + 1
  | (_, d) => uptoBulk d + 1
 end
def uptoSmall : (H : Type) → List (DataW H) → Bool := fun _ ds => decide (uptoBulkAll ds ≤ 1048576)
def OpenSpec.upto (s : _root_.Go.ChangeSpec) : _root_.Go.OpenSpec := { _root_.Go.OpenSpec.ofChange s with cond := some uptoSmall }

/-- 'palinodelaw42.AuditLikes', WHERE WHAT IT READS IS OF BULK AT MOST 1048576: true; the input reads as it did. -/
def auditLikesUptoRow : OpenClaim := { program := "ytennedlpmacicaa", sum := "be3ade38f9d46a7411fa2bad724050cabe586bae4fe13a0d44537e9d81edbbb5", func := "palinode/palinodelaw42.AuditLikes", spec := "auditLikes", unfollowed := true, recurses := true, apart := false, narrowed := true }
def AuditLikesUptoSaid : Prop := auditLikesUptoRow.holds Try.pinned (OpenSpec.upto auditLikesSpec)

/-- 'palinodelaw06.DotsOrder', WHERE WHAT IT READS IS OF BULK AT MOST 1048576: true; the input reads as it did. -/
def dotsOrderUptoRow : OpenClaim := { program := "ytennedlpmacicaa", sum := "be3ade38f9d46a7411fa2bad724050cabe586bae4fe13a0d44537e9d81edbbb5", func := "palinode/palinodelaw06.DotsOrder", spec := "dotsOrder", inPlace := ["slices.overlaps[palinode/api.Dot]"], unfollowed := true, recurses := true, apart := false, narrowed := true }
def DotsOrderUptoSaid : Prop := dotsOrderUptoRow.holds Try.pinned (OpenSpec.upto dotsOrderSpec)

/-- 'palinodelaw06.DotsTell', WHERE WHAT IT READS IS OF BULK AT MOST 1048576: true; the input reads as it did. -/
def dotsTellUptoRow : OpenClaim := { program := "ytennedlpmacicaa", sum := "be3ade38f9d46a7411fa2bad724050cabe586bae4fe13a0d44537e9d81edbbb5", func := "palinode/palinodelaw06.DotsTell", spec := "dotsTell", inPlace := ["slices.overlaps[palinode/api.Dot]"], unfollowed := true, recurses := true, apart := false, narrowed := true }
def DotsTellUptoSaid : Prop := dotsTellUptoRow.holds Try.pinned (OpenSpec.upto dotsTellSpec)

/-- 'palinodelaw06.DotsJoin', WHERE WHAT IT READS IS OF BULK AT MOST 1048576: true; the input reads as it did. -/
def dotsJoinUptoRow : OpenClaim := { program := "ytennedlpmacicaa", sum := "be3ade38f9d46a7411fa2bad724050cabe586bae4fe13a0d44537e9d81edbbb5", func := "palinode/palinodelaw06.DotsJoin", spec := "dotsJoin", inPlace := ["slices.overlaps[palinode/api.Dot]"], unfollowed := true, recurses := true, apart := false, narrowed := true }
def DotsJoinUptoSaid : Prop := dotsJoinUptoRow.holds Try.pinned (OpenSpec.upto dotsJoinSpec)

/-- 'palinodelaw06.DotsLattice', WHERE WHAT IT READS IS OF BULK AT MOST 1048576: true; the input reads as it did. -/
def dotsLatticeUptoRow : OpenClaim := { program := "ytennedlpmacicaa", sum := "be3ade38f9d46a7411fa2bad724050cabe586bae4fe13a0d44537e9d81edbbb5", func := "palinode/palinodelaw06.DotsLattice", spec := "dotsLattice", inPlace := ["slices.overlaps[palinode/api.Dot]"], unfollowed := true, recurses := true, apart := false, narrowed := true }
def DotsLatticeUptoSaid : Prop := dotsLatticeUptoRow.holds Try.pinned (OpenSpec.upto dotsLatticeSpec)

/-- 'palinodelaw24.DeltaJoins', WHERE WHAT IT READS IS OF BULK AT MOST 1048576: true; the input reads as it did. -/
def deltaJoinsUptoRow : OpenClaim := { program := "ytennedlpmacicaa", sum := "be3ade38f9d46a7411fa2bad724050cabe586bae4fe13a0d44537e9d81edbbb5", func := "palinode/palinodelaw24.DeltaJoins", spec := "deltaJoins", inPlace := ["slices.overlaps[palinode/api.Txn]", "slices.overlaps[palinode/api.Dot]"], unfollowed := true, recurses := true, apart := false, narrowed := true }
def DeltaJoinsUptoSaid : Prop := deltaJoinsUptoRow.holds Try.pinned (OpenSpec.upto deltaJoinsSpec)

/-- 'palinodelaw24.DeltaLattice', WHERE WHAT IT READS IS OF BULK AT MOST 1048576: true; the input reads as it did. -/
def deltaLatticeUptoRow : OpenClaim := { program := "ytennedlpmacicaa", sum := "be3ade38f9d46a7411fa2bad724050cabe586bae4fe13a0d44537e9d81edbbb5", func := "palinode/palinodelaw24.DeltaLattice", spec := "deltaLattice", inPlace := ["slices.overlaps[palinode/api.Txn]", "slices.overlaps[palinode/api.Dot]"], unfollowed := true, recurses := true, apart := false, narrowed := true }
def DeltaLatticeUptoSaid : Prop := deltaLatticeUptoRow.holds Try.pinned (OpenSpec.upto deltaLatticeSpec)

/-- 'palinodelaw06.DotsRead', WHERE WHAT IT READS IS OF BULK AT MOST 1048576: true; the input reads as it did. -/
def dotsReadUptoRow : OpenClaim := { program := "ytennedlpmacicaa", sum := "be3ade38f9d46a7411fa2bad724050cabe586bae4fe13a0d44537e9d81edbbb5", func := "palinode/palinodelaw06.DotsRead", spec := "dotsRead", inPlace := ["slices.overlaps[palinode/api.Dot]"], unfollowed := true, recurses := true, apart := false, narrowed := true }
def DotsReadUptoSaid : Prop := dotsReadUptoRow.holds Try.pinned (OpenSpec.upto dotsReadSpec)

end Rows
end Go.Proofs.Ytennedlpmacicaa
