/-
  No cell of these rows narrows 'for every input' (looked for: loops, veiled, ifaces, maps, wideKeys, modest, calm, conditions, laid).
  DERIVED. THE GIVEN ROWS OF THIS SEAT. 12 by the template 'for every input the law returns true; each argument reads behind the call as it read before'; 0 by the template 'total and deterministic' (their statements: YtcbbnddhihmafaaTotals.lean).
  GIVEN WITH THE SEED: the statements are not yours to turn. If you find one false, say at which input.
  Laid BY PROGRAM, IN A SANDBOX (cutbox-rows.mjs): the forced cells as the released guide's own fill.sh prints them over the translation 8dd910b192b8ca80… (all of the seat's roots in one cut). By AI agents, Wed Nov 11 2026. No macro, syntax, notation, axiom, sorry.
-/
import Derived.Test.YtcbbnddhihmafaaChecked
import GoSem.Claim
import GoSem.ClaimJoined
import GoSem.ClaimMapViews
import Derived.JoinedTies
import Derived.KernelRfl
namespace Go.Proofs.Ytcbbnddhihmafaa
/- THE CELL 'sum', in the pinned program and in every row, IS THE sha256 OF THE DUMP (.gsa) THAT YtcbbnddhihmafaaProg.lean LOADS. Nothing in Lean hashes anything: it is a label: what it is worth is what the hold of that sum in a sandbox is worth. -/
noncomputable def Try.pinned : Pinned := { name := "ytcbbnddhihmafaa", sum := "8dd910b192b8ca80db4241ad3106cee298141d5792f57e486f0735f6355c0fe5", checked := Try.checked }
namespace Rows
def none {H : Type} : Left H := { results := [], args := [] }

/-- 'kedgelaw09.ScramSteps': WHATEVER THE INPUT: true; the input reads as it did. -/
def scramStepsSpec : ChangeSpec := { name := "scramSteps", fn := fun _ => fun
  | [d1, d2] => { results := [.lit (.bool true)], args := [d1, d2] }
  | _ => none }
def scramStepsRow : OpenClaim := { program := "ytcbbnddhihmafaa", sum := "8dd910b192b8ca80db4241ad3106cee298141d5792f57e486f0735f6355c0fe5", func := "kedge/kedgelaw09.ScramSteps", spec := "scramSteps", apart := false }
def ScramStepsSaid : Prop := scramStepsRow.holds Try.pinned (OpenSpec.ofChange scramStepsSpec)

/-- ITS FALSE NEIGHBOUR: 'it returns false'. Refute it at one input. -/
def scramStepsWrong : ChangeSpec := { name := "scramSteps", fn := fun _ => fun
  | [d1, d2] => { results := [.lit (.bool false)], args := [d1, d2] }
  | _ => none }
def ScramStepsWrongFalsely : Prop := scramStepsRow.holds Try.pinned (OpenSpec.ofChange scramStepsWrong)

/-- 'kedgelaw09.ScramStreams': WHATEVER THE INPUT: true; the input reads as it did. -/
def scramStreamsSpec : ChangeSpec := { name := "scramStreams", fn := fun _ => fun
  | [d1, d2, d3] => { results := [.lit (.bool true)], args := [d1, d2, d3] }
  | _ => none }
def scramStreamsRow : OpenClaim := { program := "ytcbbnddhihmafaa", sum := "8dd910b192b8ca80db4241ad3106cee298141d5792f57e486f0735f6355c0fe5", func := "kedge/kedgelaw09.ScramStreams", spec := "scramStreams", apart := false }
def ScramStreamsSaid : Prop := scramStreamsRow.holds Try.pinned (OpenSpec.ofChange scramStreamsSpec)

/-- ITS FALSE NEIGHBOUR: 'it returns false'. Refute it at one input. -/
def scramStreamsWrong : ChangeSpec := { name := "scramStreams", fn := fun _ => fun
  | [d1, d2, d3] => { results := [.lit (.bool false)], args := [d1, d2, d3] }
  | _ => none }
def ScramStreamsWrongFalsely : Prop := scramStreamsRow.holds Try.pinned (OpenSpec.ofChange scramStreamsWrong)

/-- 'kedgelaw11.WeavePlaces': WHATEVER THE INPUT: true; the input reads as it did. -/
def weavePlacesSpec : ChangeSpec := { name := "weavePlaces", fn := fun _ => fun
  | [d1, d2, d3] => { results := [.lit (.bool true)], args := [d1, d2, d3] }
  | _ => none }
def weavePlacesRow : OpenClaim := { program := "ytcbbnddhihmafaa", sum := "8dd910b192b8ca80db4241ad3106cee298141d5792f57e486f0735f6355c0fe5", func := "kedge/kedgelaw11.WeavePlaces", spec := "weavePlaces", apart := false }
def WeavePlacesSaid : Prop := weavePlacesRow.holds Try.pinned (OpenSpec.ofChange weavePlacesSpec)

/-- ITS FALSE NEIGHBOUR: 'it returns false'. Refute it at one input. -/
def weavePlacesWrong : ChangeSpec := { name := "weavePlaces", fn := fun _ => fun
  | [d1, d2, d3] => { results := [.lit (.bool false)], args := [d1, d2, d3] }
  | _ => none }
def WeavePlacesWrongFalsely : Prop := weavePlacesRow.holds Try.pinned (OpenSpec.ofChange weavePlacesWrong)

/-- 'kedgelaw11.WeaveApart': WHATEVER THE INPUT: true; the input reads as it did. -/
def weaveApartSpec : ChangeSpec := { name := "weaveApart", fn := fun _ => fun
  | [d] => { results := [.lit (.bool true)], args := [d] }
  | _ => none }
def weaveApartRow : OpenClaim := { program := "ytcbbnddhihmafaa", sum := "8dd910b192b8ca80db4241ad3106cee298141d5792f57e486f0735f6355c0fe5", func := "kedge/kedgelaw11.WeaveApart", spec := "weaveApart", apart := false }
def WeaveApartSaid : Prop := weaveApartRow.holds Try.pinned (OpenSpec.ofChange weaveApartSpec)

/-- ITS FALSE NEIGHBOUR: 'it returns false'. Refute it at one input. -/
def weaveApartWrong : ChangeSpec := { name := "weaveApart", fn := fun _ => fun
  | [d] => { results := [.lit (.bool false)], args := [d] }
  | _ => none }
def WeaveApartWrongFalsely : Prop := weaveApartRow.holds Try.pinned (OpenSpec.ofChange weaveApartWrong)

/-- 'kedgelaw17.LedgerDoes': WHATEVER THE INPUT: true; the input reads as it did. -/
def ledgerDoesSpec : ChangeSpec := { name := "ledgerDoes", fn := fun _ => fun
  | [d1, d2, d3] => { results := [.lit (.bool true)], args := [d1, d2, d3] }
  | _ => none }
def ledgerDoesRow : OpenClaim := { program := "ytcbbnddhihmafaa", sum := "8dd910b192b8ca80db4241ad3106cee298141d5792f57e486f0735f6355c0fe5", func := "kedge/kedgelaw17.LedgerDoes", spec := "ledgerDoes", unfollowed := true, recurses := true, apart := false }
def LedgerDoesSaid : Prop := ledgerDoesRow.holds Try.pinned (OpenSpec.ofChange ledgerDoesSpec)

/-- ITS FALSE NEIGHBOUR: 'it returns false'. Refute it at one input. -/
def ledgerDoesWrong : ChangeSpec := { name := "ledgerDoes", fn := fun _ => fun
  | [d1, d2, d3] => { results := [.lit (.bool false)], args := [d1, d2, d3] }
  | _ => none }
def LedgerDoesWrongFalsely : Prop := ledgerDoesRow.holds Try.pinned (OpenSpec.ofChange ledgerDoesWrong)

/-- 'kedgelaw17.LedgerCounts': WHATEVER THE INPUT: true; the input reads as it did. -/
def ledgerCountsSpec : ChangeSpec := { name := "ledgerCounts", fn := fun _ => fun
  | [d1, d2] => { results := [.lit (.bool true)], args := [d1, d2] }
  | _ => none }
def ledgerCountsRow : OpenClaim := { program := "ytcbbnddhihmafaa", sum := "8dd910b192b8ca80db4241ad3106cee298141d5792f57e486f0735f6355c0fe5", func := "kedge/kedgelaw17.LedgerCounts", spec := "ledgerCounts", unfollowed := true, recurses := true, apart := false }
def LedgerCountsSaid : Prop := ledgerCountsRow.holds Try.pinned (OpenSpec.ofChange ledgerCountsSpec)

/-- ITS FALSE NEIGHBOUR: 'it returns false'. Refute it at one input. -/
def ledgerCountsWrong : ChangeSpec := { name := "ledgerCounts", fn := fun _ => fun
  | [d1, d2] => { results := [.lit (.bool false)], args := [d1, d2] }
  | _ => none }
def LedgerCountsWrongFalsely : Prop := ledgerCountsRow.holds Try.pinned (OpenSpec.ofChange ledgerCountsWrong)

/-- 'kedgelaw17.LedgerSpent': WHATEVER THE INPUT: true; the input reads as it did. -/
def ledgerSpentSpec : ChangeSpec := { name := "ledgerSpent", fn := fun _ => fun
  | [d1, d2, d3] => { results := [.lit (.bool true)], args := [d1, d2, d3] }
  | _ => none }
def ledgerSpentRow : OpenClaim := { program := "ytcbbnddhihmafaa", sum := "8dd910b192b8ca80db4241ad3106cee298141d5792f57e486f0735f6355c0fe5", func := "kedge/kedgelaw17.LedgerSpent", spec := "ledgerSpent", unfollowed := true, recurses := true, apart := false }
def LedgerSpentSaid : Prop := ledgerSpentRow.holds Try.pinned (OpenSpec.ofChange ledgerSpentSpec)

/-- ITS FALSE NEIGHBOUR: 'it returns false'. Refute it at one input. -/
def ledgerSpentWrong : ChangeSpec := { name := "ledgerSpent", fn := fun _ => fun
  | [d1, d2, d3] => { results := [.lit (.bool false)], args := [d1, d2, d3] }
  | _ => none }
def LedgerSpentWrongFalsely : Prop := ledgerSpentRow.holds Try.pinned (OpenSpec.ofChange ledgerSpentWrong)

/-- 'kedgelaw11.WeaveDoes': WHATEVER THE INPUT: true; the input reads as it did. -/
def weaveDoesSpec : ChangeSpec := { name := "weaveDoes", fn := fun _ => fun
  | [d1, d2] => { results := [.lit (.bool true)], args := [d1, d2] }
  | _ => none }
def weaveDoesRow : OpenClaim := { program := "ytcbbnddhihmafaa", sum := "8dd910b192b8ca80db4241ad3106cee298141d5792f57e486f0735f6355c0fe5", func := "kedge/kedgelaw11.WeaveDoes", spec := "weaveDoes", apart := false }
def WeaveDoesSaid : Prop := weaveDoesRow.holds Try.pinned (OpenSpec.ofChange weaveDoesSpec)

/-- ITS FALSE NEIGHBOUR: 'it returns false'. Refute it at one input. -/
def weaveDoesWrong : ChangeSpec := { name := "weaveDoes", fn := fun _ => fun
  | [d1, d2] => { results := [.lit (.bool false)], args := [d1, d2] }
  | _ => none }
def WeaveDoesWrongFalsely : Prop := weaveDoesRow.holds Try.pinned (OpenSpec.ofChange weaveDoesWrong)

/-- 'kedgelaw11.WeaveBack': WHATEVER THE INPUT: true; the input reads as it did. -/
def weaveBackSpec : ChangeSpec := { name := "weaveBack", fn := fun _ => fun
  | [d1, d2] => { results := [.lit (.bool true)], args := [d1, d2] }
  | _ => none }
def weaveBackRow : OpenClaim := { program := "ytcbbnddhihmafaa", sum := "8dd910b192b8ca80db4241ad3106cee298141d5792f57e486f0735f6355c0fe5", func := "kedge/kedgelaw11.WeaveBack", spec := "weaveBack", apart := false }
def WeaveBackSaid : Prop := weaveBackRow.holds Try.pinned (OpenSpec.ofChange weaveBackSpec)

/-- ITS FALSE NEIGHBOUR: 'it returns false'. Refute it at one input. -/
def weaveBackWrong : ChangeSpec := { name := "weaveBack", fn := fun _ => fun
  | [d1, d2] => { results := [.lit (.bool false)], args := [d1, d2] }
  | _ => none }
def WeaveBackWrongFalsely : Prop := weaveBackRow.holds Try.pinned (OpenSpec.ofChange weaveBackWrong)

/-- 'kedgelaw09.ScramBack': WHATEVER THE INPUT: true; the input reads as it did. -/
def scramBackSpec : ChangeSpec := { name := "scramBack", fn := fun _ => fun
  | [d1, d2, d3] => { results := [.lit (.bool true)], args := [d1, d2, d3] }
  | _ => none }
def scramBackRow : OpenClaim := { program := "ytcbbnddhihmafaa", sum := "8dd910b192b8ca80db4241ad3106cee298141d5792f57e486f0735f6355c0fe5", func := "kedge/kedgelaw09.ScramBack", spec := "scramBack", apart := false }
def ScramBackSaid : Prop := scramBackRow.holds Try.pinned (OpenSpec.ofChange scramBackSpec)

/-- ITS FALSE NEIGHBOUR: 'it returns false'. Refute it at one input. -/
def scramBackWrong : ChangeSpec := { name := "scramBack", fn := fun _ => fun
  | [d1, d2, d3] => { results := [.lit (.bool false)], args := [d1, d2, d3] }
  | _ => none }
def ScramBackWrongFalsely : Prop := scramBackRow.holds Try.pinned (OpenSpec.ofChange scramBackWrong)

/-- 'kedgelaw26.NonceApart': WHATEVER THE INPUT: true; the input reads as it did. -/
def nonceApartSpec : ChangeSpec := { name := "nonceApart", fn := fun _ => fun
  | [d] => { results := [.lit (.bool true)], args := [d] }
  | _ => none }
def nonceApartRow : OpenClaim := { program := "ytcbbnddhihmafaa", sum := "8dd910b192b8ca80db4241ad3106cee298141d5792f57e486f0735f6355c0fe5", func := "kedge/kedgelaw26.NonceApart", spec := "nonceApart", apart := false }
def NonceApartSaid : Prop := nonceApartRow.holds Try.pinned (OpenSpec.ofChange nonceApartSpec)

/-- ITS FALSE NEIGHBOUR: 'it returns false'. Refute it at one input. -/
def nonceApartWrong : ChangeSpec := { name := "nonceApart", fn := fun _ => fun
  | [d] => { results := [.lit (.bool false)], args := [d] }
  | _ => none }
def NonceApartWrongFalsely : Prop := nonceApartRow.holds Try.pinned (OpenSpec.ofChange nonceApartWrong)

/-- 'kedgelaw26.NonceDraws': WHATEVER THE INPUT: true; the input reads as it did. -/
def nonceDrawsSpec : ChangeSpec := { name := "nonceDraws", fn := fun _ => fun
  | [d1, d2] => { results := [.lit (.bool true)], args := [d1, d2] }
  | _ => none }
def nonceDrawsRow : OpenClaim := { program := "ytcbbnddhihmafaa", sum := "8dd910b192b8ca80db4241ad3106cee298141d5792f57e486f0735f6355c0fe5", func := "kedge/kedgelaw26.NonceDraws", spec := "nonceDraws", apart := false }
def NonceDrawsSaid : Prop := nonceDrawsRow.holds Try.pinned (OpenSpec.ofChange nonceDrawsSpec)

/-- ITS FALSE NEIGHBOUR: 'it returns false'. Refute it at one input. -/
def nonceDrawsWrong : ChangeSpec := { name := "nonceDraws", fn := fun _ => fun
  | [d1, d2] => { results := [.lit (.bool false)], args := [d1, d2] }
  | _ => none }
def NonceDrawsWrongFalsely : Prop := nonceDrawsRow.holds Try.pinned (OpenSpec.ofChange nonceDrawsWrong)

/- THE SECOND FORM. 'bulk': how many values and letters a reading holds, each counted each time it is reached (what is shared counts as often as it is met; a slice's spare places count too). A statement '..UptoSaid' is the law's where the arguments, and the package variables that the reading takes, are together of bulk at most 1048576: NARROWER than '..Said'. Prove '..Said' where nothing that the law and all that it calls make is longer than what came in: it says more and counts as full. Else prove '..UptoSaid'. A law counts once. -/
mutual
def uptoBulk {H : Type} : DataW H → Nat
  | .lit (.string bytes) => bytes.length + 1
  | .lit _ => 1
  | .nil => 1
  | .ptr d => uptoBulk d + 1
  | .slice elems spare => uptoBulkAll elems + uptoBulkAll spare + 1
  | .agg parts => uptoBulkAll parts + 1
  | .iface _ d => uptoBulk d + 1
  | .map entries => uptoBulkEntries entries + 1
  | .held _ => 1
def uptoBulkAll {H : Type} : List (DataW H) → Nat
  | [] => 0
  | d :: r => uptoBulk d + uptoBulkAll r
def uptoBulkEntries {H : Type} : List (Lit × DataW H) → Nat
  | [] => 0
  | x :: r => uptoBulkEntry x + uptoBulkEntries r
def uptoBulkEntry {H : Type} : Lit × DataW H → Nat
  | (.string bytes, d) => bytes.length + uptoBulk d + 1
  | (_, d) => uptoBulk d + 1
 end
def uptoSmall : (H : Type) → List (DataW H) → Bool := fun _ ds => decide (uptoBulkAll ds ≤ 1048576)
def OpenSpec.upto (s : _root_.Go.ChangeSpec) : _root_.Go.OpenSpec := { _root_.Go.OpenSpec.ofChange s with cond := some uptoSmall }

/-- 'kedgelaw09.ScramSteps', WHERE WHAT IT READS IS OF BULK AT MOST 1048576: true; the input reads as it did. -/
def scramStepsUptoRow : OpenClaim := { program := "ytcbbnddhihmafaa", sum := "8dd910b192b8ca80db4241ad3106cee298141d5792f57e486f0735f6355c0fe5", func := "kedge/kedgelaw09.ScramSteps", spec := "scramSteps", apart := false, narrowed := true }
def ScramStepsUptoSaid : Prop := scramStepsUptoRow.holds Try.pinned (OpenSpec.upto scramStepsSpec)

/-- 'kedgelaw09.ScramStreams', WHERE WHAT IT READS IS OF BULK AT MOST 1048576: true; the input reads as it did. -/
def scramStreamsUptoRow : OpenClaim := { program := "ytcbbnddhihmafaa", sum := "8dd910b192b8ca80db4241ad3106cee298141d5792f57e486f0735f6355c0fe5", func := "kedge/kedgelaw09.ScramStreams", spec := "scramStreams", apart := false, narrowed := true }
def ScramStreamsUptoSaid : Prop := scramStreamsUptoRow.holds Try.pinned (OpenSpec.upto scramStreamsSpec)

/-- 'kedgelaw11.WeavePlaces', WHERE WHAT IT READS IS OF BULK AT MOST 1048576: true; the input reads as it did. -/
def weavePlacesUptoRow : OpenClaim := { program := "ytcbbnddhihmafaa", sum := "8dd910b192b8ca80db4241ad3106cee298141d5792f57e486f0735f6355c0fe5", func := "kedge/kedgelaw11.WeavePlaces", spec := "weavePlaces", apart := false, narrowed := true }
def WeavePlacesUptoSaid : Prop := weavePlacesUptoRow.holds Try.pinned (OpenSpec.upto weavePlacesSpec)

/-- 'kedgelaw11.WeaveApart', WHERE WHAT IT READS IS OF BULK AT MOST 1048576: true; the input reads as it did. -/
def weaveApartUptoRow : OpenClaim := { program := "ytcbbnddhihmafaa", sum := "8dd910b192b8ca80db4241ad3106cee298141d5792f57e486f0735f6355c0fe5", func := "kedge/kedgelaw11.WeaveApart", spec := "weaveApart", apart := false, narrowed := true }
def WeaveApartUptoSaid : Prop := weaveApartUptoRow.holds Try.pinned (OpenSpec.upto weaveApartSpec)

/-- 'kedgelaw17.LedgerDoes', WHERE WHAT IT READS IS OF BULK AT MOST 1048576: true; the input reads as it did. -/
def ledgerDoesUptoRow : OpenClaim := { program := "ytcbbnddhihmafaa", sum := "8dd910b192b8ca80db4241ad3106cee298141d5792f57e486f0735f6355c0fe5", func := "kedge/kedgelaw17.LedgerDoes", spec := "ledgerDoes", unfollowed := true, recurses := true, apart := false, narrowed := true }
def LedgerDoesUptoSaid : Prop := ledgerDoesUptoRow.holds Try.pinned (OpenSpec.upto ledgerDoesSpec)

/-- 'kedgelaw17.LedgerCounts', WHERE WHAT IT READS IS OF BULK AT MOST 1048576: true; the input reads as it did. -/
def ledgerCountsUptoRow : OpenClaim := { program := "ytcbbnddhihmafaa", sum := "8dd910b192b8ca80db4241ad3106cee298141d5792f57e486f0735f6355c0fe5", func := "kedge/kedgelaw17.LedgerCounts", spec := "ledgerCounts", unfollowed := true, recurses := true, apart := false, narrowed := true }
def LedgerCountsUptoSaid : Prop := ledgerCountsUptoRow.holds Try.pinned (OpenSpec.upto ledgerCountsSpec)

/-- 'kedgelaw17.LedgerSpent', WHERE WHAT IT READS IS OF BULK AT MOST 1048576: true; the input reads as it did. -/
def ledgerSpentUptoRow : OpenClaim := { program := "ytcbbnddhihmafaa", sum := "8dd910b192b8ca80db4241ad3106cee298141d5792f57e486f0735f6355c0fe5", func := "kedge/kedgelaw17.LedgerSpent", spec := "ledgerSpent", unfollowed := true, recurses := true, apart := false, narrowed := true }
def LedgerSpentUptoSaid : Prop := ledgerSpentUptoRow.holds Try.pinned (OpenSpec.upto ledgerSpentSpec)

/-- 'kedgelaw11.WeaveDoes', WHERE WHAT IT READS IS OF BULK AT MOST 1048576: true; the input reads as it did. -/
def weaveDoesUptoRow : OpenClaim := { program := "ytcbbnddhihmafaa", sum := "8dd910b192b8ca80db4241ad3106cee298141d5792f57e486f0735f6355c0fe5", func := "kedge/kedgelaw11.WeaveDoes", spec := "weaveDoes", apart := false, narrowed := true }
def WeaveDoesUptoSaid : Prop := weaveDoesUptoRow.holds Try.pinned (OpenSpec.upto weaveDoesSpec)

/-- 'kedgelaw11.WeaveBack', WHERE WHAT IT READS IS OF BULK AT MOST 1048576: true; the input reads as it did. -/
def weaveBackUptoRow : OpenClaim := { program := "ytcbbnddhihmafaa", sum := "8dd910b192b8ca80db4241ad3106cee298141d5792f57e486f0735f6355c0fe5", func := "kedge/kedgelaw11.WeaveBack", spec := "weaveBack", apart := false, narrowed := true }
def WeaveBackUptoSaid : Prop := weaveBackUptoRow.holds Try.pinned (OpenSpec.upto weaveBackSpec)

/-- 'kedgelaw09.ScramBack', WHERE WHAT IT READS IS OF BULK AT MOST 1048576: true; the input reads as it did. -/
def scramBackUptoRow : OpenClaim := { program := "ytcbbnddhihmafaa", sum := "8dd910b192b8ca80db4241ad3106cee298141d5792f57e486f0735f6355c0fe5", func := "kedge/kedgelaw09.ScramBack", spec := "scramBack", apart := false, narrowed := true }
def ScramBackUptoSaid : Prop := scramBackUptoRow.holds Try.pinned (OpenSpec.upto scramBackSpec)

/-- 'kedgelaw26.NonceApart', WHERE WHAT IT READS IS OF BULK AT MOST 1048576: true; the input reads as it did. -/
def nonceApartUptoRow : OpenClaim := { program := "ytcbbnddhihmafaa", sum := "8dd910b192b8ca80db4241ad3106cee298141d5792f57e486f0735f6355c0fe5", func := "kedge/kedgelaw26.NonceApart", spec := "nonceApart", apart := false, narrowed := true }
def NonceApartUptoSaid : Prop := nonceApartUptoRow.holds Try.pinned (OpenSpec.upto nonceApartSpec)

/-- 'kedgelaw26.NonceDraws', WHERE WHAT IT READS IS OF BULK AT MOST 1048576: true; the input reads as it did. -/
def nonceDrawsUptoRow : OpenClaim := { program := "ytcbbnddhihmafaa", sum := "8dd910b192b8ca80db4241ad3106cee298141d5792f57e486f0735f6355c0fe5", func := "kedge/kedgelaw26.NonceDraws", spec := "nonceDraws", apart := false, narrowed := true }
def NonceDrawsUptoSaid : Prop := nonceDrawsUptoRow.holds Try.pinned (OpenSpec.upto nonceDrawsSpec)

end Rows
end Go.Proofs.Ytcbbnddhihmafaa
