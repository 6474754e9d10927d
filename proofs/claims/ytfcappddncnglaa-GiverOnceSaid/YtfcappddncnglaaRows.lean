/-
  No cell of these rows narrows 'for every input' (looked for: loops, veiled, ifaces, maps, wideKeys, modest, calm, conditions, laid).
  DERIVED. THE GIVEN ROWS OF THIS SEAT. 10 by the template 'for every input the law returns true; each argument reads behind the call as it read before'; 0 by the template 'total and deterministic' (their statements: YtfcappddncnglaaTotals.lean).
  GIVEN WITH THE SEED: the statements are not yours to turn. If you find one false, say at which input.
  Laid BY PROGRAM, IN A SANDBOX (cutbox-rows.mjs): the forced cells as the released guide's own fill.sh prints them over the translation 4e7dff2b3d81603e… (all of the seat's roots in one cut). By AI agents, Wed Nov 11 2026. No macro, syntax, notation, axiom, sorry.
-/
import Derived.Test.YtfcappddncnglaaChecked
import GoSem.Claim
import GoSem.ClaimJoined
import GoSem.ClaimMapViews
import Derived.JoinedTies
import Derived.KernelRfl
namespace Go.Proofs.Ytfcappddncnglaa
/- THE CELL 'sum', in the pinned program and in every row, IS THE sha256 OF THE DUMP (.gsa) THAT YtfcappddncnglaaProg.lean LOADS. Nothing in Lean hashes anything: it is a label: what it is worth is what the hold of that sum in a sandbox is worth. -/
noncomputable def Try.pinned : Pinned := { name := "ytfcappddncnglaa", sum := "4e7dff2b3d81603e19c801da6ea318d250a7b85109c712054f1ca4b72c60ce7b", checked := Try.checked }
namespace Rows
def none {H : Type} : Left H := { results := [], args := [] }

/-- 'kedgelaw19.QueueDoes': WHATEVER THE INPUT: true; the input reads as it did. -/
def queueDoesSpec : ChangeSpec := { name := "queueDoes", fn := fun _ => fun
  | [d1, d2, d3] => { results := [.lit (.bool true)], args := [d1, d2, d3] }
  | _ => none }
def queueDoesRow : OpenClaim := { program := "ytfcappddncnglaa", sum := "4e7dff2b3d81603e19c801da6ea318d250a7b85109c712054f1ca4b72c60ce7b", func := "kedge/kedgelaw19.QueueDoes", spec := "queueDoes", apart := false }
def QueueDoesSaid : Prop := queueDoesRow.holds Try.pinned (OpenSpec.ofChange queueDoesSpec)

/-- ITS FALSE NEIGHBOUR: 'it returns false'. Refute it at one input. -/
def queueDoesWrong : ChangeSpec := { name := "queueDoes", fn := fun _ => fun
  | [d1, d2, d3] => { results := [.lit (.bool false)], args := [d1, d2, d3] }
  | _ => none }
def QueueDoesWrongFalsely : Prop := queueDoesRow.holds Try.pinned (OpenSpec.ofChange queueDoesWrong)

/-- 'kedgelaw19.QueueOrder': WHATEVER THE INPUT: true; the input reads as it did. -/
def queueOrderSpec : ChangeSpec := { name := "queueOrder", fn := fun _ => fun
  | [d1, d2] => { results := [.lit (.bool true)], args := [d1, d2] }
  | _ => none }
def queueOrderRow : OpenClaim := { program := "ytfcappddncnglaa", sum := "4e7dff2b3d81603e19c801da6ea318d250a7b85109c712054f1ca4b72c60ce7b", func := "kedge/kedgelaw19.QueueOrder", spec := "queueOrder", apart := false }
def QueueOrderSaid : Prop := queueOrderRow.holds Try.pinned (OpenSpec.ofChange queueOrderSpec)

/-- ITS FALSE NEIGHBOUR: 'it returns false'. Refute it at one input. -/
def queueOrderWrong : ChangeSpec := { name := "queueOrder", fn := fun _ => fun
  | [d1, d2] => { results := [.lit (.bool false)], args := [d1, d2] }
  | _ => none }
def QueueOrderWrongFalsely : Prop := queueOrderRow.holds Try.pinned (OpenSpec.ofChange queueOrderWrong)

/-- 'kedgelaw19.QueueApart': WHATEVER THE INPUT: true; the input reads as it did. -/
def queueApartSpec : ChangeSpec := { name := "queueApart", fn := fun _ => fun
  | [d] => { results := [.lit (.bool true)], args := [d] }
  | _ => none }
def queueApartRow : OpenClaim := { program := "ytfcappddncnglaa", sum := "4e7dff2b3d81603e19c801da6ea318d250a7b85109c712054f1ca4b72c60ce7b", func := "kedge/kedgelaw19.QueueApart", spec := "queueApart", apart := false }
def QueueApartSaid : Prop := queueApartRow.holds Try.pinned (OpenSpec.ofChange queueApartSpec)

/-- ITS FALSE NEIGHBOUR: 'it returns false'. Refute it at one input. -/
def queueApartWrong : ChangeSpec := { name := "queueApart", fn := fun _ => fun
  | [d] => { results := [.lit (.bool false)], args := [d] }
  | _ => none }
def QueueApartWrongFalsely : Prop := queueApartRow.holds Try.pinned (OpenSpec.ofChange queueApartWrong)

/-- 'kedgelaw40.MuxTurns': WHATEVER THE INPUT: true; the input reads as it did. -/
def muxTurnsSpec : ChangeSpec := { name := "muxTurns", fn := fun _ => fun
  | [d1, d2] => { results := [.lit (.bool true)], args := [d1, d2] }
  | _ => none }
def muxTurnsRow : OpenClaim := { program := "ytfcappddncnglaa", sum := "4e7dff2b3d81603e19c801da6ea318d250a7b85109c712054f1ca4b72c60ce7b", func := "kedge/kedgelaw40.MuxTurns", spec := "muxTurns", apart := false }
def MuxTurnsSaid : Prop := muxTurnsRow.holds Try.pinned (OpenSpec.ofChange muxTurnsSpec)

/-- ITS FALSE NEIGHBOUR: 'it returns false'. Refute it at one input. -/
def muxTurnsWrong : ChangeSpec := { name := "muxTurns", fn := fun _ => fun
  | [d1, d2] => { results := [.lit (.bool false)], args := [d1, d2] }
  | _ => none }
def MuxTurnsWrongFalsely : Prop := muxTurnsRow.holds Try.pinned (OpenSpec.ofChange muxTurnsWrong)

/-- 'kedgelaw40.MuxPuts': WHATEVER THE INPUT: true; the input reads as it did. -/
def muxPutsSpec : ChangeSpec := { name := "muxPuts", fn := fun _ => fun
  | [d1, d2, d3] => { results := [.lit (.bool true)], args := [d1, d2, d3] }
  | _ => none }
def muxPutsRow : OpenClaim := { program := "ytfcappddncnglaa", sum := "4e7dff2b3d81603e19c801da6ea318d250a7b85109c712054f1ca4b72c60ce7b", func := "kedge/kedgelaw40.MuxPuts", spec := "muxPuts", apart := false }
def MuxPutsSaid : Prop := muxPutsRow.holds Try.pinned (OpenSpec.ofChange muxPutsSpec)

/-- ITS FALSE NEIGHBOUR: 'it returns false'. Refute it at one input. -/
def muxPutsWrong : ChangeSpec := { name := "muxPuts", fn := fun _ => fun
  | [d1, d2, d3] => { results := [.lit (.bool false)], args := [d1, d2, d3] }
  | _ => none }
def MuxPutsWrongFalsely : Prop := muxPutsRow.holds Try.pinned (OpenSpec.ofChange muxPutsWrong)

/-- 'kedgelaw40.MuxDoes': WHATEVER THE INPUT: true; the input reads as it did. -/
def muxDoesSpec : ChangeSpec := { name := "muxDoes", fn := fun _ => fun
  | [d1, d2] => { results := [.lit (.bool true)], args := [d1, d2] }
  | _ => none }
def muxDoesRow : OpenClaim := { program := "ytfcappddncnglaa", sum := "4e7dff2b3d81603e19c801da6ea318d250a7b85109c712054f1ca4b72c60ce7b", func := "kedge/kedgelaw40.MuxDoes", spec := "muxDoes", apart := false }
def MuxDoesSaid : Prop := muxDoesRow.holds Try.pinned (OpenSpec.ofChange muxDoesSpec)

/-- ITS FALSE NEIGHBOUR: 'it returns false'. Refute it at one input. -/
def muxDoesWrong : ChangeSpec := { name := "muxDoes", fn := fun _ => fun
  | [d1, d2] => { results := [.lit (.bool false)], args := [d1, d2] }
  | _ => none }
def MuxDoesWrongFalsely : Prop := muxDoesRow.holds Try.pinned (OpenSpec.ofChange muxDoesWrong)

/-- 'kedgelaw40.MuxOver': WHATEVER THE INPUT: true; the input reads as it did. -/
def muxOverSpec : ChangeSpec := { name := "muxOver", fn := fun _ => fun
  | [d] => { results := [.lit (.bool true)], args := [d] }
  | _ => none }
def muxOverRow : OpenClaim := { program := "ytfcappddncnglaa", sum := "4e7dff2b3d81603e19c801da6ea318d250a7b85109c712054f1ca4b72c60ce7b", func := "kedge/kedgelaw40.MuxOver", spec := "muxOver", apart := false }
def MuxOverSaid : Prop := muxOverRow.holds Try.pinned (OpenSpec.ofChange muxOverSpec)

/-- ITS FALSE NEIGHBOUR: 'it returns false'. Refute it at one input. -/
def muxOverWrong : ChangeSpec := { name := "muxOver", fn := fun _ => fun
  | [d] => { results := [.lit (.bool false)], args := [d] }
  | _ => none }
def MuxOverWrongFalsely : Prop := muxOverRow.holds Try.pinned (OpenSpec.ofChange muxOverWrong)

/-- 'kedgelaw28.GiverDoes': WHATEVER THE INPUT: true; the input reads as it did. -/
def giverDoesSpec : ChangeSpec := { name := "giverDoes", fn := fun _ => fun
  | [d1, d2, d3] => { results := [.lit (.bool true)], args := [d1, d2, d3] }
  | _ => none }
def giverDoesRow : OpenClaim := { program := "ytfcappddncnglaa", sum := "4e7dff2b3d81603e19c801da6ea318d250a7b85109c712054f1ca4b72c60ce7b", func := "kedge/kedgelaw28.GiverDoes", spec := "giverDoes", apart := false }
def GiverDoesSaid : Prop := giverDoesRow.holds Try.pinned (OpenSpec.ofChange giverDoesSpec)

/-- ITS FALSE NEIGHBOUR: 'it returns false'. Refute it at one input. -/
def giverDoesWrong : ChangeSpec := { name := "giverDoes", fn := fun _ => fun
  | [d1, d2, d3] => { results := [.lit (.bool false)], args := [d1, d2, d3] }
  | _ => none }
def GiverDoesWrongFalsely : Prop := giverDoesRow.holds Try.pinned (OpenSpec.ofChange giverDoesWrong)

/-- 'kedgelaw28.GiverNil': WHATEVER THE INPUT: true; the input reads as it did. -/
def giverNilSpec : ChangeSpec := { name := "giverNil", fn := fun _ => fun
  | [d1, d2] => { results := [.lit (.bool true)], args := [d1, d2] }
  | _ => none }
def giverNilRow : OpenClaim := { program := "ytfcappddncnglaa", sum := "4e7dff2b3d81603e19c801da6ea318d250a7b85109c712054f1ca4b72c60ce7b", func := "kedge/kedgelaw28.GiverNil", spec := "giverNil", apart := false }
def GiverNilSaid : Prop := giverNilRow.holds Try.pinned (OpenSpec.ofChange giverNilSpec)

/-- ITS FALSE NEIGHBOUR: 'it returns false'. Refute it at one input. -/
def giverNilWrong : ChangeSpec := { name := "giverNil", fn := fun _ => fun
  | [d1, d2] => { results := [.lit (.bool false)], args := [d1, d2] }
  | _ => none }
def GiverNilWrongFalsely : Prop := giverNilRow.holds Try.pinned (OpenSpec.ofChange giverNilWrong)

/-- 'kedgelaw28.GiverOnce': WHATEVER THE INPUT: true; the input reads as it did. -/
def giverOnceSpec : ChangeSpec := { name := "giverOnce", fn := fun _ => fun
  | [d1, d2] => { results := [.lit (.bool true)], args := [d1, d2] }
  | _ => none }
def giverOnceRow : OpenClaim := { program := "ytfcappddncnglaa", sum := "4e7dff2b3d81603e19c801da6ea318d250a7b85109c712054f1ca4b72c60ce7b", func := "kedge/kedgelaw28.GiverOnce", spec := "giverOnce", apart := false }
def GiverOnceSaid : Prop := giverOnceRow.holds Try.pinned (OpenSpec.ofChange giverOnceSpec)

/-- ITS FALSE NEIGHBOUR: 'it returns false'. Refute it at one input. -/
def giverOnceWrong : ChangeSpec := { name := "giverOnce", fn := fun _ => fun
  | [d1, d2] => { results := [.lit (.bool false)], args := [d1, d2] }
  | _ => none }
def GiverOnceWrongFalsely : Prop := giverOnceRow.holds Try.pinned (OpenSpec.ofChange giverOnceWrong)

/- THE SECOND FORM. 'bulk': how many values and letters a reading holds, each counted each time it is reached (what is shared counts as often as it is met; a slice's spare places count too). A statement '..UptoSaid' is the law's where the arguments, and the package variables that the reading takes, are together of bulk at most 1048576: NARROWER than '..Said'. Prove '..Said' where nothing that the law and all that it calls make is longer than what came in: it says more and counts as full. Else prove '..UptoSaid'. A law counts once. -/
mutual
def uptoBulk {H : Type} : DataW H → Nat
  | .lit (.string bytes) => bytes.length + 1
  | .lit _ => 1
  | .nil => 1
  | .ptr d => uptoBulk d + 1
  | .slice elems spare => uptoBulkAll elems + uptoBulkAll spare + 1
  | .agg parts => uptoBulkAll parts + 1
  | .iface _ d => uptoBulk d + 1
  | .map entries => uptoBulkEntries entries + 1
  | .held _ => 1
def uptoBulkAll {H : Type} : List (DataW H) → Nat
  | [] => 0
  | d :: r => uptoBulk d + uptoBulkAll r
def uptoBulkEntries {H : Type} : List (Lit × DataW H) → Nat
  | [] => 0
  | x :: r => uptoBulkEntry x + uptoBulkEntries r
def uptoBulkEntry {H : Type} : Lit × DataW H → Nat
  | (.string bytes, d) => bytes.length + uptoBulk d + 1
  | (_, d) => uptoBulk d + 1
 end
def uptoSmall : (H : Type) → List (DataW H) → Bool := fun _ ds => decide (uptoBulkAll ds ≤ 1048576)
def OpenSpec.upto (s : _root_.Go.ChangeSpec) : _root_.Go.OpenSpec := { _root_.Go.OpenSpec.ofChange s with cond := some uptoSmall }

/-- 'kedgelaw19.QueueDoes', WHERE WHAT IT READS IS OF BULK AT MOST 1048576: true; the input reads as it did. -/
def queueDoesUptoRow : OpenClaim := { program := "ytfcappddncnglaa", sum := "4e7dff2b3d81603e19c801da6ea318d250a7b85109c712054f1ca4b72c60ce7b", func := "kedge/kedgelaw19.QueueDoes", spec := "queueDoes", apart := false, narrowed := true }
def QueueDoesUptoSaid : Prop := queueDoesUptoRow.holds Try.pinned (OpenSpec.upto queueDoesSpec)

/-- 'kedgelaw19.QueueOrder', WHERE WHAT IT READS IS OF BULK AT MOST 1048576: true; the input reads as it did. -/
def queueOrderUptoRow : OpenClaim := { program := "ytfcappddncnglaa", sum := "4e7dff2b3d81603e19c801da6ea318d250a7b85109c712054f1ca4b72c60ce7b", func := "kedge/kedgelaw19.QueueOrder", spec := "queueOrder", apart := false, narrowed := true }
def QueueOrderUptoSaid : Prop := queueOrderUptoRow.holds Try.pinned (OpenSpec.upto queueOrderSpec)

/-- 'kedgelaw19.QueueApart', WHERE WHAT IT READS IS OF BULK AT MOST 1048576: true; the input reads as it did. -/
def queueApartUptoRow : OpenClaim := { program := "ytfcappddncnglaa", sum := "4e7dff2b3d81603e19c801da6ea318d250a7b85109c712054f1ca4b72c60ce7b", func := "kedge/kedgelaw19.QueueApart", spec := "queueApart", apart := false, narrowed := true }
def QueueApartUptoSaid : Prop := queueApartUptoRow.holds Try.pinned (OpenSpec.upto queueApartSpec)

/-- 'kedgelaw40.MuxTurns', WHERE WHAT IT READS IS OF BULK AT MOST 1048576: true; the input reads as it did. -/
def muxTurnsUptoRow : OpenClaim := { program := "ytfcappddncnglaa", sum := "4e7dff2b3d81603e19c801da6ea318d250a7b85109c712054f1ca4b72c60ce7b", func := "kedge/kedgelaw40.MuxTurns", spec := "muxTurns", apart := false, narrowed := true }
def MuxTurnsUptoSaid : Prop := muxTurnsUptoRow.holds Try.pinned (OpenSpec.upto muxTurnsSpec)

/-- 'kedgelaw40.MuxPuts', WHERE WHAT IT READS IS OF BULK AT MOST 1048576: true; the input reads as it did. -/
def muxPutsUptoRow : OpenClaim := { program := "ytfcappddncnglaa", sum := "4e7dff2b3d81603e19c801da6ea318d250a7b85109c712054f1ca4b72c60ce7b", func := "kedge/kedgelaw40.MuxPuts", spec := "muxPuts", apart := false, narrowed := true }
def MuxPutsUptoSaid : Prop := muxPutsUptoRow.holds Try.pinned (OpenSpec.upto muxPutsSpec)

/-- 'kedgelaw40.MuxDoes', WHERE WHAT IT READS IS OF BULK AT MOST 1048576: true; the input reads as it did. -/
def muxDoesUptoRow : OpenClaim := { program := "ytfcappddncnglaa", sum := "4e7dff2b3d81603e19c801da6ea318d250a7b85109c712054f1ca4b72c60ce7b", func := "kedge/kedgelaw40.MuxDoes", spec := "muxDoes", apart := false, narrowed := true }
def MuxDoesUptoSaid : Prop := muxDoesUptoRow.holds Try.pinned (OpenSpec.upto muxDoesSpec)

/-- 'kedgelaw40.MuxOver', WHERE WHAT IT READS IS OF BULK AT MOST 1048576: true; the input reads as it did. -/
def muxOverUptoRow : OpenClaim := { program := "ytfcappddncnglaa", sum := "4e7dff2b3d81603e19c801da6ea318d250a7b85109c712054f1ca4b72c60ce7b", func := "kedge/kedgelaw40.MuxOver", spec := "muxOver", apart := false, narrowed := true }
def MuxOverUptoSaid : Prop := muxOverUptoRow.holds Try.pinned (OpenSpec.upto muxOverSpec)

/-- 'kedgelaw28.GiverDoes', WHERE WHAT IT READS IS OF BULK AT MOST 1048576: true; the input reads as it did. -/
def giverDoesUptoRow : OpenClaim := { program := "ytfcappddncnglaa", sum := "4e7dff2b3d81603e19c801da6ea318d250a7b85109c712054f1ca4b72c60ce7b", func := "kedge/kedgelaw28.GiverDoes", spec := "giverDoes", apart := false, narrowed := true }
def GiverDoesUptoSaid : Prop := giverDoesUptoRow.holds Try.pinned (OpenSpec.upto giverDoesSpec)

/-- 'kedgelaw28.GiverNil', WHERE WHAT IT READS IS OF BULK AT MOST 1048576: true; the input reads as it did. -/
def giverNilUptoRow : OpenClaim := { program := "ytfcappddncnglaa", sum := "4e7dff2b3d81603e19c801da6ea318d250a7b85109c712054f1ca4b72c60ce7b", func := "kedge/kedgelaw28.GiverNil", spec := "giverNil", apart := false, narrowed := true }
def GiverNilUptoSaid : Prop := giverNilUptoRow.holds Try.pinned (OpenSpec.upto giverNilSpec)

/-- 'kedgelaw28.GiverOnce', WHERE WHAT IT READS IS OF BULK AT MOST 1048576: true; the input reads as it did. -/
def giverOnceUptoRow : OpenClaim := { program := "ytfcappddncnglaa", sum := "4e7dff2b3d81603e19c801da6ea318d250a7b85109c712054f1ca4b72c60ce7b", func := "kedge/kedgelaw28.GiverOnce", spec := "giverOnce", apart := false, narrowed := true }
def GiverOnceUptoSaid : Prop := giverOnceUptoRow.holds Try.pinned (OpenSpec.upto giverOnceSpec)

end Rows
end Go.Proofs.Ytfcappddncnglaa
