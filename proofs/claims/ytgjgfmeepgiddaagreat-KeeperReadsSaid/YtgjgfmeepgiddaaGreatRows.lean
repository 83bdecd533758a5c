/-
  No cell of these rows narrows 'for every input' (looked for: loops, veiled, ifaces, maps, wideKeys, modest, calm, conditions, laid).
  DERIVED. THE GIVEN ROWS OF THIS SEAT. 4 by the template 'for every input the law returns true; each argument reads behind the call as it read before'; 0 by the template 'total and deterministic' (their statements: YtgjgfmeepgiddaaGreatTotals.lean).
  GIVEN WITH THE SEED: the statements are not yours to turn. If you find one false, say at which input.
  Laid BY PROGRAM, IN A SANDBOX (cutbox-rows.mjs): the forced cells as the released guide's own fill.sh prints them over the translation ce200b332c533a4f… (all of the seat's roots in one cut). By AI agents, Wed Nov 11 2026. No macro, syntax, notation, axiom, sorry.
-/
import Derived.Test.YtgjgfmeepgiddaaGreatChecked
import GoSem.Claim
import GoSem.ClaimJoined
import GoSem.ClaimMapViews
import Derived.JoinedTies
import Derived.KernelRfl
namespace Go.Proofs.YtgjgfmeepgiddaaGreat
/- THE CELL 'sum', in the pinned program and in every row, IS THE sha256 OF THE DUMP (.gsa) THAT YtgjgfmeepgiddaaGreatProg.lean LOADS. Nothing in Lean hashes anything: it is a label: what it is worth is what the hold of that sum in a sandbox is worth. -/
noncomputable def Tryz.pinned : Pinned := { name := "ytgjgfmeepgiddaagreat", sum := "ce200b332c533a4fd20777832f84ae69f879825a43a900c282bae16b55e5c0b2", checked := Tryz.checked }
namespace Rows
def none {H : Type} : Left H := { results := [], args := [] }

/-- 'comptoirlaw25.KeeperBounds': WHATEVER THE INPUT: true; the input reads as it did. -/
def keeperBoundsSpec : ChangeSpec := { name := "keeperBounds", fn := fun _ => fun
  | [d1, d2] => { results := [.lit (.bool true)], args := [d1, d2] }
  | _ => none }
def keeperBoundsRow : OpenClaim := { program := "ytgjgfmeepgiddaagreat", sum := "ce200b332c533a4fd20777832f84ae69f879825a43a900c282bae16b55e5c0b2", func := "comptoir/comptoirlaw25.KeeperBounds", spec := "keeperBounds", unfollowed := true, recurses := true, apart := false }
def KeeperBoundsSaid : Prop := keeperBoundsRow.holds Tryz.pinned (OpenSpec.ofChange keeperBoundsSpec)

/-- ITS FALSE NEIGHBOUR: 'it returns false'. Refute it at one input. -/
def keeperBoundsWrong : ChangeSpec := { name := "keeperBounds", fn := fun _ => fun
  | [d1, d2] => { results := [.lit (.bool false)], args := [d1, d2] }
  | _ => none }
def KeeperBoundsWrongFalsely : Prop := keeperBoundsRow.holds Tryz.pinned (OpenSpec.ofChange keeperBoundsWrong)

/-- 'comptoirlaw25.KeeperNil': WHATEVER THE INPUT: true; the input reads as it did. -/
def keeperNilSpec : ChangeSpec := { name := "keeperNil", fn := fun _ => fun
  | [d] => { results := [.lit (.bool true)], args := [d] }
  | _ => none }
def keeperNilRow : OpenClaim := { program := "ytgjgfmeepgiddaagreat", sum := "ce200b332c533a4fd20777832f84ae69f879825a43a900c282bae16b55e5c0b2", func := "comptoir/comptoirlaw25.KeeperNil", spec := "keeperNil", unfollowed := true, recurses := true, apart := false }
def KeeperNilSaid : Prop := keeperNilRow.holds Tryz.pinned (OpenSpec.ofChange keeperNilSpec)

/-- ITS FALSE NEIGHBOUR: 'it returns false'. Refute it at one input. -/
def keeperNilWrong : ChangeSpec := { name := "keeperNil", fn := fun _ => fun
  | [d] => { results := [.lit (.bool false)], args := [d] }
  | _ => none }
def KeeperNilWrongFalsely : Prop := keeperNilRow.holds Tryz.pinned (OpenSpec.ofChange keeperNilWrong)

/-- 'comptoirlaw25.KeeperReads': WHATEVER THE INPUT: true; the input reads as it did. -/
def keeperReadsSpec : ChangeSpec := { name := "keeperReads", fn := fun _ => fun
  | [d1, d2, d3, d4] => { results := [.lit (.bool true)], args := [d1, d2, d3, d4] }
  | _ => none }
def keeperReadsRow : OpenClaim := { program := "ytgjgfmeepgiddaagreat", sum := "ce200b332c533a4fd20777832f84ae69f879825a43a900c282bae16b55e5c0b2", func := "comptoir/comptoirlaw25.KeeperReads", spec := "keeperReads", unfollowed := true, recurses := true, apart := false }
def KeeperReadsSaid : Prop := keeperReadsRow.holds Tryz.pinned (OpenSpec.ofChange keeperReadsSpec)

/-- ITS FALSE NEIGHBOUR: 'it returns false'. Refute it at one input. -/
def keeperReadsWrong : ChangeSpec := { name := "keeperReads", fn := fun _ => fun
  | [d1, d2, d3, d4] => { results := [.lit (.bool false)], args := [d1, d2, d3, d4] }
  | _ => none }
def KeeperReadsWrongFalsely : Prop := keeperReadsRow.holds Tryz.pinned (OpenSpec.ofChange keeperReadsWrong)

/-- 'comptoirlaw25.KeeperPlays': WHATEVER THE INPUT: true; the input reads as it did. -/
def keeperPlaysSpec : ChangeSpec := { name := "keeperPlays", fn := fun _ => fun
  | [d] => { results := [.lit (.bool true)], args := [d] }
  | _ => none }
def keeperPlaysRow : OpenClaim := { program := "ytgjgfmeepgiddaagreat", sum := "ce200b332c533a4fd20777832f84ae69f879825a43a900c282bae16b55e5c0b2", func := "comptoir/comptoirlaw25.KeeperPlays", spec := "keeperPlays", unfollowed := true, recurses := true, apart := false }
def KeeperPlaysSaid : Prop := keeperPlaysRow.holds Tryz.pinned (OpenSpec.ofChange keeperPlaysSpec)

/-- ITS FALSE NEIGHBOUR: 'it returns false'. Refute it at one input. -/
def keeperPlaysWrong : ChangeSpec := { name := "keeperPlays", fn := fun _ => fun
  | [d] => { results := [.lit (.bool false)], args := [d] }
  | _ => none }
def KeeperPlaysWrongFalsely : Prop := keeperPlaysRow.holds Tryz.pinned (OpenSpec.ofChange keeperPlaysWrong)

/- THE SECOND FORM. 'bulk': how many values and letters a reading holds, each counted each time it is reached (what is shared counts as often as it is met; a slice's spare places count too). A statement '..UptoSaid' is the law's where the arguments, and the package variables that the reading takes, are together of bulk at most 1048576: NARROWER than '..Said'. Prove '..Said' where nothing that the law and all that it calls make is longer than what came in: it says more and counts as full. Else prove '..UptoSaid'. A law counts once. -/
mutual
def uptoBulk {H : Type} : DataW H → Nat
  | .lit (.string bytes) => bytes.length + 1
  | .lit _ => 1
  | .nil => 1
  | .ptr d => uptoBulk d + 1
  | .slice elems spare => uptoBulkAll elems + uptoBulkAll spare + 1
  | .agg parts => uptoBulkAll parts + 1
  | .iface _ d => uptoBulk d + 1
  | .map entries => uptoBulkEntries entries + 1
  | .held _ => 1
def uptoBulkAll {H : Type} : List (DataW H) → Nat
  | [] => 0
  | d :: r => uptoBulk d + uptoBulkAll r
def uptoBulkEntries {H : Type} : List (Lit × DataW H) → Nat
  | [] => 0
  | x :: r => uptoBulkEntry x + uptoBulkEntries r
def uptoBulkEntry {H : Type} : Lit × DataW H → Nat
  | (.string bytes, d) => bytes.length + uptoBulk d + 1
  | (_, d) => uptoBulk d + 1
 end
def uptoSmall : (H : Type) → List (DataW H) → Bool := fun _ ds => decide (uptoBulkAll ds ≤ 1048576)
def OpenSpec.upto (s : _root_.Go.ChangeSpec) : _root_.Go.OpenSpec := { _root_.Go.OpenSpec.ofChange s with cond := some uptoSmall }

/-- 'comptoirlaw25.KeeperBounds', WHERE WHAT IT READS IS OF BULK AT MOST 1048576: true; the input reads as it did. -/
def keeperBoundsUptoRow : OpenClaim := { program := "ytgjgfmeepgiddaagreat", sum := "ce200b332c533a4fd20777832f84ae69f879825a43a900c282bae16b55e5c0b2", func := "comptoir/comptoirlaw25.KeeperBounds", spec := "keeperBounds", unfollowed := true, recurses := true, apart := false, narrowed := true }
def KeeperBoundsUptoSaid : Prop := keeperBoundsUptoRow.holds Tryz.pinned (OpenSpec.upto keeperBoundsSpec)

/-- 'comptoirlaw25.KeeperNil', WHERE WHAT IT READS IS OF BULK AT MOST 1048576: true; the input reads as it did. -/
def keeperNilUptoRow : OpenClaim := { program := "ytgjgfmeepgiddaagreat", sum := "ce200b332c533a4fd20777832f84ae69f879825a43a900c282bae16b55e5c0b2", func := "comptoir/comptoirlaw25.KeeperNil", spec := "keeperNil", unfollowed := true, recurses := true, apart := false, narrowed := true }
def KeeperNilUptoSaid : Prop := keeperNilUptoRow.holds Tryz.pinned (OpenSpec.upto keeperNilSpec)

/-- 'comptoirlaw25.KeeperReads', WHERE WHAT IT READS IS OF BULK AT MOST 1048576: true; the input reads as it did. -/
def keeperReadsUptoRow : OpenClaim := { program := "ytgjgfmeepgiddaagreat", sum := "ce200b332c533a4fd20777832f84ae69f879825a43a900c282bae16b55e5c0b2", func := "comptoir/comptoirlaw25.KeeperReads", spec := "keeperReads", unfollowed := true, recurses := true, apart := false, narrowed := true }
def KeeperReadsUptoSaid : Prop := keeperReadsUptoRow.holds Tryz.pinned (OpenSpec.upto keeperReadsSpec)

/-- 'comptoirlaw25.KeeperPlays', WHERE WHAT IT READS IS OF BULK AT MOST 1048576: true; the input reads as it did. -/
def keeperPlaysUptoRow : OpenClaim := { program := "ytgjgfmeepgiddaagreat", sum := "ce200b332c533a4fd20777832f84ae69f879825a43a900c282bae16b55e5c0b2", func := "comptoir/comptoirlaw25.KeeperPlays", spec := "keeperPlays", unfollowed := true, recurses := true, apart := false, narrowed := true }
def KeeperPlaysUptoSaid : Prop := keeperPlaysUptoRow.holds Tryz.pinned (OpenSpec.upto keeperPlaysSpec)

end Rows
end Go.Proofs.YtgjgfmeepgiddaaGreat
