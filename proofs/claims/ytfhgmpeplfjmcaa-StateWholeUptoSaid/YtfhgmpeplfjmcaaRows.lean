/-
  No cell of these rows narrows 'for every input' (looked for: loops, veiled, ifaces, maps, wideKeys, modest, calm, conditions, laid).
  DERIVED. THE GIVEN ROWS OF THIS SEAT. 11 by the template 'for every input the law returns true; each argument reads behind the call as it read before'; 0 by the template 'total and deterministic' (their statements: YtfhgmpeplfjmcaaTotals.lean).
  GIVEN WITH THE SEED: the statements are not yours to turn. If you find one false, say at which input.
  Laid BY PROGRAM, IN A SANDBOX (cutbox-rows.mjs): the forced cells as the released guide's own fill.sh prints them over the translation 7df9efdc594ee01e… (all of the seat's roots in one cut). By AI agents, Wed Nov 11 2026. No macro, syntax, notation, axiom, sorry.
-/
import Derived.Test.YtfhgmpeplfjmcaaChecked
import GoSem.Claim
import GoSem.ClaimJoined
import GoSem.ClaimMapViews
import Derived.JoinedTies
import Derived.KernelRfl
namespace Go.Proofs.Ytfhgmpeplfjmcaa
/- THE CELL 'sum', in the pinned program and in every row, IS THE sha256 OF THE DUMP (.gsa) THAT YtfhgmpeplfjmcaaProg.lean LOADS. Nothing in Lean hashes anything: it is a label: what it is worth is what the hold of that sum in a sandbox is worth. -/
noncomputable def Try.pinned : Pinned := { name := "ytfhgmpeplfjmcaa", sum := "7df9efdc594ee01efaa7e9dcfae566aa6a36ed922e5b957f3e0f21f27ea8935c", checked := Try.checked }
namespace Rows
def none {H : Type} : Left H := { results := [], args := [] }

/-- 'comptoirlaw24.StateOnce': WHATEVER THE INPUT: true; the input reads as it did. -/
def stateOnceSpec : ChangeSpec := { name := "stateOnce", fn := fun _ => fun
  | [d1, d2] => { results := [.lit (.bool true)], args := [d1, d2] }
  | _ => none }
def stateOnceRow : OpenClaim := { program := "ytfhgmpeplfjmcaa", sum := "7df9efdc594ee01efaa7e9dcfae566aa6a36ed922e5b957f3e0f21f27ea8935c", func := "comptoir/comptoirlaw24.StateOnce", spec := "stateOnce", unfollowed := true, recurses := true, apart := false }
def StateOnceSaid : Prop := stateOnceRow.holds Try.pinned (OpenSpec.ofChange stateOnceSpec)

/-- ITS FALSE NEIGHBOUR: 'it returns false'. Refute it at one input. -/
def stateOnceWrong : ChangeSpec := { name := "stateOnce", fn := fun _ => fun
  | [d1, d2] => { results := [.lit (.bool false)], args := [d1, d2] }
  | _ => none }
def StateOnceWrongFalsely : Prop := stateOnceRow.holds Try.pinned (OpenSpec.ofChange stateOnceWrong)

/-- 'comptoirlaw24.StateWhole': WHATEVER THE INPUT: true; the input reads as it did. -/
def stateWholeSpec : ChangeSpec := { name := "stateWhole", fn := fun _ => fun
  | [d1, d2] => { results := [.lit (.bool true)], args := [d1, d2] }
  | _ => none }
def stateWholeRow : OpenClaim := { program := "ytfhgmpeplfjmcaa", sum := "7df9efdc594ee01efaa7e9dcfae566aa6a36ed922e5b957f3e0f21f27ea8935c", func := "comptoir/comptoirlaw24.StateWhole", spec := "stateWhole", unfollowed := true, recurses := true, apart := false }
def StateWholeSaid : Prop := stateWholeRow.holds Try.pinned (OpenSpec.ofChange stateWholeSpec)

/-- ITS FALSE NEIGHBOUR: 'it returns false'. Refute it at one input. -/
def stateWholeWrong : ChangeSpec := { name := "stateWhole", fn := fun _ => fun
  | [d1, d2] => { results := [.lit (.bool false)], args := [d1, d2] }
  | _ => none }
def StateWholeWrongFalsely : Prop := stateWholeRow.holds Try.pinned (OpenSpec.ofChange stateWholeWrong)

/-- 'comptoirlaw14.TlvTells': WHATEVER THE INPUT: true; the input reads as it did. -/
def tlvTellsSpec : ChangeSpec := { name := "tlvTells", fn := fun _ => fun
  | [d1, d2] => { results := [.lit (.bool true)], args := [d1, d2] }
  | _ => none }
def tlvTellsRow : OpenClaim := { program := "ytfhgmpeplfjmcaa", sum := "7df9efdc594ee01efaa7e9dcfae566aa6a36ed922e5b957f3e0f21f27ea8935c", func := "comptoir/comptoirlaw14.TlvTells", spec := "tlvTells", unfollowed := true, recurses := true, apart := false }
def TlvTellsSaid : Prop := tlvTellsRow.holds Try.pinned (OpenSpec.ofChange tlvTellsSpec)

/-- ITS FALSE NEIGHBOUR: 'it returns false'. Refute it at one input. -/
def tlvTellsWrong : ChangeSpec := { name := "tlvTells", fn := fun _ => fun
  | [d1, d2] => { results := [.lit (.bool false)], args := [d1, d2] }
  | _ => none }
def TlvTellsWrongFalsely : Prop := tlvTellsRow.holds Try.pinned (OpenSpec.ofChange tlvTellsWrong)

/-- 'comptoirlaw14.TlvBack': WHATEVER THE INPUT: true; the input reads as it did. -/
def tlvBackSpec : ChangeSpec := { name := "tlvBack", fn := fun _ => fun
  | [d1, d2, d3] => { results := [.lit (.bool true)], args := [d1, d2, d3] }
  | _ => none }
def tlvBackRow : OpenClaim := { program := "ytfhgmpeplfjmcaa", sum := "7df9efdc594ee01efaa7e9dcfae566aa6a36ed922e5b957f3e0f21f27ea8935c", func := "comptoir/comptoirlaw14.TlvBack", spec := "tlvBack", unfollowed := true, recurses := true, apart := false }
def TlvBackSaid : Prop := tlvBackRow.holds Try.pinned (OpenSpec.ofChange tlvBackSpec)

/-- ITS FALSE NEIGHBOUR: 'it returns false'. Refute it at one input. -/
def tlvBackWrong : ChangeSpec := { name := "tlvBack", fn := fun _ => fun
  | [d1, d2, d3] => { results := [.lit (.bool false)], args := [d1, d2, d3] }
  | _ => none }
def TlvBackWrongFalsely : Prop := tlvBackRow.holds Try.pinned (OpenSpec.ofChange tlvBackWrong)

/-- 'comptoirlaw14.TlvNeeds': WHATEVER THE INPUT: true; the input reads as it did. -/
def tlvNeedsSpec : ChangeSpec := { name := "tlvNeeds", fn := fun _ => fun
  | [d1, d2, d3] => { results := [.lit (.bool true)], args := [d1, d2, d3] }
  | _ => none }
def tlvNeedsRow : OpenClaim := { program := "ytfhgmpeplfjmcaa", sum := "7df9efdc594ee01efaa7e9dcfae566aa6a36ed922e5b957f3e0f21f27ea8935c", func := "comptoir/comptoirlaw14.TlvNeeds", spec := "tlvNeeds", unfollowed := true, recurses := true, apart := false }
def TlvNeedsSaid : Prop := tlvNeedsRow.holds Try.pinned (OpenSpec.ofChange tlvNeedsSpec)

/-- ITS FALSE NEIGHBOUR: 'it returns false'. Refute it at one input. -/
def tlvNeedsWrong : ChangeSpec := { name := "tlvNeeds", fn := fun _ => fun
  | [d1, d2, d3] => { results := [.lit (.bool false)], args := [d1, d2, d3] }
  | _ => none }
def TlvNeedsWrongFalsely : Prop := tlvNeedsRow.holds Try.pinned (OpenSpec.ofChange tlvNeedsWrong)

/-- 'comptoirlaw14.TlvLengths': WHATEVER THE INPUT: true; the input reads as it did. -/
def tlvLengthsSpec : ChangeSpec := { name := "tlvLengths", fn := fun _ => fun
  | [d1, d2] => { results := [.lit (.bool true)], args := [d1, d2] }
  | _ => none }
def tlvLengthsRow : OpenClaim := { program := "ytfhgmpeplfjmcaa", sum := "7df9efdc594ee01efaa7e9dcfae566aa6a36ed922e5b957f3e0f21f27ea8935c", func := "comptoir/comptoirlaw14.TlvLengths", spec := "tlvLengths", unfollowed := true, recurses := true, apart := false }
def TlvLengthsSaid : Prop := tlvLengthsRow.holds Try.pinned (OpenSpec.ofChange tlvLengthsSpec)

/-- ITS FALSE NEIGHBOUR: 'it returns false'. Refute it at one input. -/
def tlvLengthsWrong : ChangeSpec := { name := "tlvLengths", fn := fun _ => fun
  | [d1, d2] => { results := [.lit (.bool false)], args := [d1, d2] }
  | _ => none }
def TlvLengthsWrongFalsely : Prop := tlvLengthsRow.holds Try.pinned (OpenSpec.ofChange tlvLengthsWrong)

/-- 'comptoirlaw21.PackTells': WHATEVER THE INPUT: true; the input reads as it did. -/
def packTellsSpec : ChangeSpec := { name := "packTells", fn := fun _ => fun
  | [d1, d2] => { results := [.lit (.bool true)], args := [d1, d2] }
  | _ => none }
def packTellsRow : OpenClaim := { program := "ytfhgmpeplfjmcaa", sum := "7df9efdc594ee01efaa7e9dcfae566aa6a36ed922e5b957f3e0f21f27ea8935c", func := "comptoir/comptoirlaw21.PackTells", spec := "packTells", unfollowed := true, recurses := true, apart := false }
def PackTellsSaid : Prop := packTellsRow.holds Try.pinned (OpenSpec.ofChange packTellsSpec)

/-- ITS FALSE NEIGHBOUR: 'it returns false'. Refute it at one input. -/
def packTellsWrong : ChangeSpec := { name := "packTells", fn := fun _ => fun
  | [d1, d2] => { results := [.lit (.bool false)], args := [d1, d2] }
  | _ => none }
def PackTellsWrongFalsely : Prop := packTellsRow.holds Try.pinned (OpenSpec.ofChange packTellsWrong)

/-- 'comptoirlaw21.PackBack': WHATEVER THE INPUT: true; the input reads as it did. -/
def packBackSpec : ChangeSpec := { name := "packBack", fn := fun _ => fun
  | [d1, d2] => { results := [.lit (.bool true)], args := [d1, d2] }
  | _ => none }
def packBackRow : OpenClaim := { program := "ytfhgmpeplfjmcaa", sum := "7df9efdc594ee01efaa7e9dcfae566aa6a36ed922e5b957f3e0f21f27ea8935c", func := "comptoir/comptoirlaw21.PackBack", spec := "packBack", unfollowed := true, recurses := true, apart := false }
def PackBackSaid : Prop := packBackRow.holds Try.pinned (OpenSpec.ofChange packBackSpec)

/-- ITS FALSE NEIGHBOUR: 'it returns false'. Refute it at one input. -/
def packBackWrong : ChangeSpec := { name := "packBack", fn := fun _ => fun
  | [d1, d2] => { results := [.lit (.bool false)], args := [d1, d2] }
  | _ => none }
def PackBackWrongFalsely : Prop := packBackRow.holds Try.pinned (OpenSpec.ofChange packBackWrong)

/-- 'comptoirlaw21.PackKinds': WHATEVER THE INPUT: true; the input reads as it did. -/
def packKindsSpec : ChangeSpec := { name := "packKinds", fn := fun _ => fun
  | [d1, d2] => { results := [.lit (.bool true)], args := [d1, d2] }
  | _ => none }
def packKindsRow : OpenClaim := { program := "ytfhgmpeplfjmcaa", sum := "7df9efdc594ee01efaa7e9dcfae566aa6a36ed922e5b957f3e0f21f27ea8935c", func := "comptoir/comptoirlaw21.PackKinds", spec := "packKinds", unfollowed := true, recurses := true, apart := false }
def PackKindsSaid : Prop := packKindsRow.holds Try.pinned (OpenSpec.ofChange packKindsSpec)

/-- ITS FALSE NEIGHBOUR: 'it returns false'. Refute it at one input. -/
def packKindsWrong : ChangeSpec := { name := "packKinds", fn := fun _ => fun
  | [d1, d2] => { results := [.lit (.bool false)], args := [d1, d2] }
  | _ => none }
def PackKindsWrongFalsely : Prop := packKindsRow.holds Try.pinned (OpenSpec.ofChange packKindsWrong)

/-- 'comptoirlaw21.PackJoins': WHATEVER THE INPUT: true; the input reads as it did. -/
def packJoinsSpec : ChangeSpec := { name := "packJoins", fn := fun _ => fun
  | [d1, d2] => { results := [.lit (.bool true)], args := [d1, d2] }
  | _ => none }
def packJoinsRow : OpenClaim := { program := "ytfhgmpeplfjmcaa", sum := "7df9efdc594ee01efaa7e9dcfae566aa6a36ed922e5b957f3e0f21f27ea8935c", func := "comptoir/comptoirlaw21.PackJoins", spec := "packJoins", unfollowed := true, recurses := true, apart := false }
def PackJoinsSaid : Prop := packJoinsRow.holds Try.pinned (OpenSpec.ofChange packJoinsSpec)

/-- ITS FALSE NEIGHBOUR: 'it returns false'. Refute it at one input. -/
def packJoinsWrong : ChangeSpec := { name := "packJoins", fn := fun _ => fun
  | [d1, d2] => { results := [.lit (.bool false)], args := [d1, d2] }
  | _ => none }
def PackJoinsWrongFalsely : Prop := packJoinsRow.holds Try.pinned (OpenSpec.ofChange packJoinsWrong)

/-- 'comptoirlaw21.PackLists': WHATEVER THE INPUT: true; the input reads as it did. -/
def packListsSpec : ChangeSpec := { name := "packLists", fn := fun _ => fun
  | [d1, d2] => { results := [.lit (.bool true)], args := [d1, d2] }
  | _ => none }
def packListsRow : OpenClaim := { program := "ytfhgmpeplfjmcaa", sum := "7df9efdc594ee01efaa7e9dcfae566aa6a36ed922e5b957f3e0f21f27ea8935c", func := "comptoir/comptoirlaw21.PackLists", spec := "packLists", unfollowed := true, recurses := true, apart := false }
def PackListsSaid : Prop := packListsRow.holds Try.pinned (OpenSpec.ofChange packListsSpec)

/-- ITS FALSE NEIGHBOUR: 'it returns false'. Refute it at one input. -/
def packListsWrong : ChangeSpec := { name := "packLists", fn := fun _ => fun
  | [d1, d2] => { results := [.lit (.bool false)], args := [d1, d2] }
  | _ => none }
def PackListsWrongFalsely : Prop := packListsRow.holds Try.pinned (OpenSpec.ofChange packListsWrong)

/- THE SECOND FORM. 'bulk': how many values and letters a reading holds, each counted each time it is reached (what is shared counts as often as it is met; a slice's spare places count too). A statement '..UptoSaid' is the law's where the arguments, and the package variables that the reading takes, are together of bulk at most 1048576: NARROWER than '..Said'. Prove '..Said' where nothing that the law and all that it calls make is longer than what came in: it says more and counts as full. Else prove '..UptoSaid'. A law counts once. -/
mutual
def uptoBulk {H : Type} : DataW H → Nat
  | .lit (.string bytes) => bytes.length + 1
  | .lit _ => 1
  | .nil => 1
  | .ptr d => uptoBulk d + 1
  | .slice elems spare => uptoBulkAll elems + uptoBulkAll spare + 1
  | .agg parts => uptoBulkAll parts + 1
  | .iface _ d => uptoBulk d + 1
  | .map entries => uptoBulkEntries entries + 1
  | .held _ => 1
def uptoBulkAll {H : Type} : List (DataW H) → Nat
  | [] => 0
  | d :: r => uptoBulk d + uptoBulkAll r
def uptoBulkEntries {H : Type} : List (Lit × DataW H) → Nat
  | [] => 0
  | x :: r => uptoBulkEntry x + uptoBulkEntries r
def uptoBulkEntry {H : Type} : Lit × DataW H → Nat
  | (.string bytes, d) => bytes.length + uptoBulk d + 1
  | (_, d) => uptoBulk d + 1
 end
def uptoSmall : (H : Type) → List (DataW H) → Bool := fun _ ds => decide (uptoBulkAll ds ≤ 1048576)
def OpenSpec.upto (s : _root_.Go.ChangeSpec) : _root_.Go.OpenSpec := { _root_.Go.OpenSpec.ofChange s with cond := some uptoSmall }

/-- 'comptoirlaw24.StateOnce', WHERE WHAT IT READS IS OF BULK AT MOST 1048576: true; the input reads as it did. -/
def stateOnceUptoRow : OpenClaim := { program := "ytfhgmpeplfjmcaa", sum := "7df9efdc594ee01efaa7e9dcfae566aa6a36ed922e5b957f3e0f21f27ea8935c", func := "comptoir/comptoirlaw24.StateOnce", spec := "stateOnce", unfollowed := true, recurses := true, apart := false, narrowed := true }
def StateOnceUptoSaid : Prop := stateOnceUptoRow.holds Try.pinned (OpenSpec.upto stateOnceSpec)

/-- 'comptoirlaw24.StateWhole', WHERE WHAT IT READS IS OF BULK AT MOST 1048576: true; the input reads as it did. -/
def stateWholeUptoRow : OpenClaim := { program := "ytfhgmpeplfjmcaa", sum := "7df9efdc594ee01efaa7e9dcfae566aa6a36ed922e5b957f3e0f21f27ea8935c", func := "comptoir/comptoirlaw24.StateWhole", spec := "stateWhole", unfollowed := true, recurses := true, apart := false, narrowed := true }
def StateWholeUptoSaid : Prop := stateWholeUptoRow.holds Try.pinned (OpenSpec.upto stateWholeSpec)

/-- 'comptoirlaw14.TlvTells', WHERE WHAT IT READS IS OF BULK AT MOST 1048576: true; the input reads as it did. -/
def tlvTellsUptoRow : OpenClaim := { program := "ytfhgmpeplfjmcaa", sum := "7df9efdc594ee01efaa7e9dcfae566aa6a36ed922e5b957f3e0f21f27ea8935c", func := "comptoir/comptoirlaw14.TlvTells", spec := "tlvTells", unfollowed := true, recurses := true, apart := false, narrowed := true }
def TlvTellsUptoSaid : Prop := tlvTellsUptoRow.holds Try.pinned (OpenSpec.upto tlvTellsSpec)

/-- 'comptoirlaw14.TlvBack', WHERE WHAT IT READS IS OF BULK AT MOST 1048576: true; the input reads as it did. -/
def tlvBackUptoRow : OpenClaim := { program := "ytfhgmpeplfjmcaa", sum := "7df9efdc594ee01efaa7e9dcfae566aa6a36ed922e5b957f3e0f21f27ea8935c", func := "comptoir/comptoirlaw14.TlvBack", spec := "tlvBack", unfollowed := true, recurses := true, apart := false, narrowed := true }
def TlvBackUptoSaid : Prop := tlvBackUptoRow.holds Try.pinned (OpenSpec.upto tlvBackSpec)

/-- 'comptoirlaw14.TlvNeeds', WHERE WHAT IT READS IS OF BULK AT MOST 1048576: true; the input reads as it did. -/
def tlvNeedsUptoRow : OpenClaim := { program := "ytfhgmpeplfjmcaa", sum := "7df9efdc594ee01efaa7e9dcfae566aa6a36ed922e5b957f3e0f21f27ea8935c", func := "comptoir/comptoirlaw14.TlvNeeds", spec := "tlvNeeds", unfollowed := true, recurses := true, apart := false, narrowed := true }
def TlvNeedsUptoSaid : Prop := tlvNeedsUptoRow.holds Try.pinned (OpenSpec.upto tlvNeedsSpec)

/-- 'comptoirlaw14.TlvLengths', WHERE WHAT IT READS IS OF BULK AT MOST 1048576: true; the input reads as it did. -/
def tlvLengthsUptoRow : OpenClaim := { program := "ytfhgmpeplfjmcaa", sum := "7df9efdc594ee01efaa7e9dcfae566aa6a36ed922e5b957f3e0f21f27ea8935c", func := "comptoir/comptoirlaw14.TlvLengths", spec := "tlvLengths", unfollowed := true, recurses := true, apart := false, narrowed := true }
def TlvLengthsUptoSaid : Prop := tlvLengthsUptoRow.holds Try.pinned (OpenSpec.upto tlvLengthsSpec)

/-- 'comptoirlaw21.PackTells', WHERE WHAT IT READS IS OF BULK AT MOST 1048576: true; the input reads as it did. -/
def packTellsUptoRow : OpenClaim := { program := "ytfhgmpeplfjmcaa", sum := "7df9efdc594ee01efaa7e9dcfae566aa6a36ed922e5b957f3e0f21f27ea8935c", func := "comptoir/comptoirlaw21.PackTells", spec := "packTells", unfollowed := true, recurses := true, apart := false, narrowed := true }
def PackTellsUptoSaid : Prop := packTellsUptoRow.holds Try.pinned (OpenSpec.upto packTellsSpec)

/-- 'comptoirlaw21.PackBack', WHERE WHAT IT READS IS OF BULK AT MOST 1048576: true; the input reads as it did. -/
def packBackUptoRow : OpenClaim := { program := "ytfhgmpeplfjmcaa", sum := "7df9efdc594ee01efaa7e9dcfae566aa6a36ed922e5b957f3e0f21f27ea8935c", func := "comptoir/comptoirlaw21.PackBack", spec := "packBack", unfollowed := true, recurses := true, apart := false, narrowed := true }
def PackBackUptoSaid : Prop := packBackUptoRow.holds Try.pinned (OpenSpec.upto packBackSpec)

/-- 'comptoirlaw21.PackKinds', WHERE WHAT IT READS IS OF BULK AT MOST 1048576: true; the input reads as it did. -/
def packKindsUptoRow : OpenClaim := { program := "ytfhgmpeplfjmcaa", sum := "7df9efdc594ee01efaa7e9dcfae566aa6a36ed922e5b957f3e0f21f27ea8935c", func := "comptoir/comptoirlaw21.PackKinds", spec := "packKinds", unfollowed := true, recurses := true, apart := false, narrowed := true }
def PackKindsUptoSaid : Prop := packKindsUptoRow.holds Try.pinned (OpenSpec.upto packKindsSpec)

/-- 'comptoirlaw21.PackJoins', WHERE WHAT IT READS IS OF BULK AT MOST 1048576: true; the input reads as it did. -/
def packJoinsUptoRow : OpenClaim := { program := "ytfhgmpeplfjmcaa", sum := "7df9efdc594ee01efaa7e9dcfae566aa6a36ed922e5b957f3e0f21f27ea8935c", func := "comptoir/comptoirlaw21.PackJoins", spec := "packJoins", unfollowed := true, recurses := true, apart := false, narrowed := true }
def PackJoinsUptoSaid : Prop := packJoinsUptoRow.holds Try.pinned (OpenSpec.upto packJoinsSpec)

/-- 'comptoirlaw21.PackLists', WHERE WHAT IT READS IS OF BULK AT MOST 1048576: true; the input reads as it did. -/
def packListsUptoRow : OpenClaim := { program := "ytfhgmpeplfjmcaa", sum := "7df9efdc594ee01efaa7e9dcfae566aa6a36ed922e5b957f3e0f21f27ea8935c", func := "comptoir/comptoirlaw21.PackLists", spec := "packLists", unfollowed := true, recurses := true, apart := false, narrowed := true }
def PackListsUptoSaid : Prop := packListsUptoRow.holds Try.pinned (OpenSpec.upto packListsSpec)

end Rows
end Go.Proofs.Ytfhgmpeplfjmcaa
