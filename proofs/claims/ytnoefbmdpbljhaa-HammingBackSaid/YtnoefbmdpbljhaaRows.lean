/-
  No cell of these rows narrows 'for every input' (looked for: loops, veiled, ifaces, maps, wideKeys, modest, calm, conditions, laid).
  DERIVED. THE GIVEN ROWS OF THIS SEAT. 7 by the template 'for every input the law returns true; each argument reads behind the call as it read before'; 0 by the template 'total and deterministic' (their statements: YtnoefbmdpbljhaaTotals.lean).
  GIVEN WITH THE SEED: the statements are not yours to turn. If you find one false, say at which input.
  Laid BY PROGRAM, IN A SANDBOX (cutbox-rows.mjs): the forced cells as the released guide's own fill.sh prints them over the translation 088f23d7472a672d… (all of the seat's roots in one cut). By AI agents, Wed Nov 11 2026. No macro, syntax, notation, axiom, sorry.
-/
import Derived.Test.YtnoefbmdpbljhaaChecked
import GoSem.Claim
import GoSem.ClaimJoined
import GoSem.ClaimMapViews
import Derived.JoinedTies
import Derived.KernelRfl
namespace Go.Proofs.Ytnoefbmdpbljhaa
/- THE CELL 'sum', in the pinned program and in every row, IS THE sha256 OF THE DUMP (.gsa) THAT YtnoefbmdpbljhaaProg.lean LOADS. Nothing in Lean hashes anything: it is a label: what it is worth is what the hold of that sum in a sandbox is worth. -/
noncomputable def Try.pinned : Pinned := { name := "ytnoefbmdpbljhaa", sum := "088f23d7472a672d2b304a59d037f9780a41962b3386ae9dd338ef56a90a1b2c", checked := Try.checked }
namespace Rows
def none {H : Type} : Left H := { results := [], args := [] }

/-- 'kedgelaw10.HammingWords': WHATEVER THE INPUT: true; the input reads as it did. -/
def hammingWordsSpec : ChangeSpec := { name := "hammingWords", fn := fun _ => fun
  | [d1, d2, d3] => { results := [.lit (.bool true)], args := [d1, d2, d3] }
  | _ => none }
def hammingWordsRow : OpenClaim := { program := "ytnoefbmdpbljhaa", sum := "088f23d7472a672d2b304a59d037f9780a41962b3386ae9dd338ef56a90a1b2c", func := "kedge/kedgelaw10.HammingWords", spec := "hammingWords", plainKeys := false, apart := false }
def HammingWordsSaid : Prop := hammingWordsRow.holds Try.pinned (OpenSpec.ofChange hammingWordsSpec)

/-- ITS FALSE NEIGHBOUR: 'it returns false'. Refute it at one input. -/
def hammingWordsWrong : ChangeSpec := { name := "hammingWords", fn := fun _ => fun
  | [d1, d2, d3] => { results := [.lit (.bool false)], args := [d1, d2, d3] }
  | _ => none }
def HammingWordsWrongFalsely : Prop := hammingWordsRow.holds Try.pinned (OpenSpec.ofChange hammingWordsWrong)

/-- 'kedgelaw10.HammingMends': WHATEVER THE INPUT: true; the input reads as it did. -/
def hammingMendsSpec : ChangeSpec := { name := "hammingMends", fn := fun _ => fun
  | [d] => { results := [.lit (.bool true)], args := [d] }
  | _ => none }
def hammingMendsRow : OpenClaim := { program := "ytnoefbmdpbljhaa", sum := "088f23d7472a672d2b304a59d037f9780a41962b3386ae9dd338ef56a90a1b2c", func := "kedge/kedgelaw10.HammingMends", spec := "hammingMends", plainKeys := false, apart := false }
def HammingMendsSaid : Prop := hammingMendsRow.holds Try.pinned (OpenSpec.ofChange hammingMendsSpec)

/-- ITS FALSE NEIGHBOUR: 'it returns false'. Refute it at one input. -/
def hammingMendsWrong : ChangeSpec := { name := "hammingMends", fn := fun _ => fun
  | [d] => { results := [.lit (.bool false)], args := [d] }
  | _ => none }
def HammingMendsWrongFalsely : Prop := hammingMendsRow.holds Try.pinned (OpenSpec.ofChange hammingMendsWrong)

/-- 'kedgelaw10.HammingPacks': WHATEVER THE INPUT: true; the input reads as it did. -/
def hammingPacksSpec : ChangeSpec := { name := "hammingPacks", fn := fun _ => fun
  | [d1, d2] => { results := [.lit (.bool true)], args := [d1, d2] }
  | _ => none }
def hammingPacksRow : OpenClaim := { program := "ytnoefbmdpbljhaa", sum := "088f23d7472a672d2b304a59d037f9780a41962b3386ae9dd338ef56a90a1b2c", func := "kedge/kedgelaw10.HammingPacks", spec := "hammingPacks", plainKeys := false, apart := false }
def HammingPacksSaid : Prop := hammingPacksRow.holds Try.pinned (OpenSpec.ofChange hammingPacksSpec)

/-- ITS FALSE NEIGHBOUR: 'it returns false'. Refute it at one input. -/
def hammingPacksWrong : ChangeSpec := { name := "hammingPacks", fn := fun _ => fun
  | [d1, d2] => { results := [.lit (.bool false)], args := [d1, d2] }
  | _ => none }
def HammingPacksWrongFalsely : Prop := hammingPacksRow.holds Try.pinned (OpenSpec.ofChange hammingPacksWrong)

/-- 'kedgelaw10.HammingBack': WHATEVER THE INPUT: true; the input reads as it did. -/
def hammingBackSpec : ChangeSpec := { name := "hammingBack", fn := fun _ => fun
  | [d1, d2] => { results := [.lit (.bool true)], args := [d1, d2] }
  | _ => none }
def hammingBackRow : OpenClaim := { program := "ytnoefbmdpbljhaa", sum := "088f23d7472a672d2b304a59d037f9780a41962b3386ae9dd338ef56a90a1b2c", func := "kedge/kedgelaw10.HammingBack", spec := "hammingBack", plainKeys := false, apart := false }
def HammingBackSaid : Prop := hammingBackRow.holds Try.pinned (OpenSpec.ofChange hammingBackSpec)

/-- ITS FALSE NEIGHBOUR: 'it returns false'. Refute it at one input. -/
def hammingBackWrong : ChangeSpec := { name := "hammingBack", fn := fun _ => fun
  | [d1, d2] => { results := [.lit (.bool false)], args := [d1, d2] }
  | _ => none }
def HammingBackWrongFalsely : Prop := hammingBackRow.holds Try.pinned (OpenSpec.ofChange hammingBackWrong)

/-- 'kedgelaw18.TallyAdds': WHATEVER THE INPUT: true; the input reads as it did. -/
def tallyAddsSpec : ChangeSpec := { name := "tallyAdds", fn := fun _ => fun
  | [d1, d2, d3] => { results := [.lit (.bool true)], args := [d1, d2, d3] }
  | _ => none }
def tallyAddsRow : OpenClaim := { program := "ytnoefbmdpbljhaa", sum := "088f23d7472a672d2b304a59d037f9780a41962b3386ae9dd338ef56a90a1b2c", func := "kedge/kedgelaw18.TallyAdds", spec := "tallyAdds", plainKeys := false, apart := false }
def TallyAddsSaid : Prop := tallyAddsRow.holds Try.pinned (OpenSpec.ofChange tallyAddsSpec)

/-- ITS FALSE NEIGHBOUR: 'it returns false'. Refute it at one input. -/
def tallyAddsWrong : ChangeSpec := { name := "tallyAdds", fn := fun _ => fun
  | [d1, d2, d3] => { results := [.lit (.bool false)], args := [d1, d2, d3] }
  | _ => none }
def TallyAddsWrongFalsely : Prop := tallyAddsRow.holds Try.pinned (OpenSpec.ofChange tallyAddsWrong)

/-- 'kedgelaw18.TallyCounts': WHATEVER THE INPUT: true; the input reads as it did. -/
def tallyCountsSpec : ChangeSpec := { name := "tallyCounts", fn := fun _ => fun
  | [d] => { results := [.lit (.bool true)], args := [d] }
  | _ => none }
def tallyCountsRow : OpenClaim := { program := "ytnoefbmdpbljhaa", sum := "088f23d7472a672d2b304a59d037f9780a41962b3386ae9dd338ef56a90a1b2c", func := "kedge/kedgelaw18.TallyCounts", spec := "tallyCounts", plainKeys := false, apart := false }
def TallyCountsSaid : Prop := tallyCountsRow.holds Try.pinned (OpenSpec.ofChange tallyCountsSpec)

/-- ITS FALSE NEIGHBOUR: 'it returns false'. Refute it at one input. -/
def tallyCountsWrong : ChangeSpec := { name := "tallyCounts", fn := fun _ => fun
  | [d] => { results := [.lit (.bool false)], args := [d] }
  | _ => none }
def TallyCountsWrongFalsely : Prop := tallyCountsRow.holds Try.pinned (OpenSpec.ofChange tallyCountsWrong)

/-- 'kedgelaw18.TallyApart': WHATEVER THE INPUT: true; the input reads as it did. -/
def tallyApartSpec : ChangeSpec := { name := "tallyApart", fn := fun _ => fun
  | [d1, d2] => { results := [.lit (.bool true)], args := [d1, d2] }
  | _ => none }
def tallyApartRow : OpenClaim := { program := "ytnoefbmdpbljhaa", sum := "088f23d7472a672d2b304a59d037f9780a41962b3386ae9dd338ef56a90a1b2c", func := "kedge/kedgelaw18.TallyApart", spec := "tallyApart", plainKeys := false, apart := false }
def TallyApartSaid : Prop := tallyApartRow.holds Try.pinned (OpenSpec.ofChange tallyApartSpec)

/-- ITS FALSE NEIGHBOUR: 'it returns false'. Refute it at one input. -/
def tallyApartWrong : ChangeSpec := { name := "tallyApart", fn := fun _ => fun
  | [d1, d2] => { results := [.lit (.bool false)], args := [d1, d2] }
  | _ => none }
def TallyApartWrongFalsely : Prop := tallyApartRow.holds Try.pinned (OpenSpec.ofChange tallyApartWrong)

/- THE SECOND FORM. 'bulk': how many values and letters a reading holds, each counted each time it is reached (what is shared counts as often as it is met; a slice's spare places count too). A statement '..UptoSaid' is the law's where the arguments, and the package variables that the reading takes, are together of bulk at most 1048576: NARROWER than '..Said'. Prove '..Said' where nothing that the law and all that it calls make is longer than what came in: it says more and counts as full. Else prove '..UptoSaid'. A law counts once. -/
mutual
def uptoBulk {H : Type} : DataW H → Nat
  | .lit (.string bytes) => bytes.length + 1
  | .lit _ => 1
  | .nil => 1
  | .ptr d => uptoBulk d + 1
  | .slice elems spare => uptoBulkAll elems + uptoBulkAll spare + 1
  | .agg parts => uptoBulkAll parts + 1
  | .iface _ d => uptoBulk d + 1
  | .map entries => uptoBulkEntries entries + 1
  | .held _ => 1
def uptoBulkAll {H : Type} : List (DataW H) → Nat
  | [] => 0
  | d :: r => uptoBulk d + uptoBulkAll r
def uptoBulkEntries {H : Type} : List (Lit × DataW H) → Nat
  | [] => 0
  | x :: r => uptoBulkEntry x + uptoBulkEntries r
def uptoBulkEntry {H : Type} : Lit × DataW H → Nat
  | (.string bytes, d) => bytes.length + uptoBulk d + 1
  | (_, d) => uptoBulk d + 1
 end
def uptoSmall : (H : Type) → List (DataW H) → Bool := fun _ ds => decide (uptoBulkAll ds ≤ 1048576)
def OpenSpec.upto (s : _root_.Go.ChangeSpec) : _root_.Go.OpenSpec := { _root_.Go.OpenSpec.ofChange s with cond := some uptoSmall }

/-- 'kedgelaw10.HammingWords', WHERE WHAT IT READS IS OF BULK AT MOST 1048576: true; the input reads as it did. -/
def hammingWordsUptoRow : OpenClaim := { program := "ytnoefbmdpbljhaa", sum := "088f23d7472a672d2b304a59d037f9780a41962b3386ae9dd338ef56a90a1b2c", func := "kedge/kedgelaw10.HammingWords", spec := "hammingWords", plainKeys := false, apart := false, narrowed := true }
def HammingWordsUptoSaid : Prop := hammingWordsUptoRow.holds Try.pinned (OpenSpec.upto hammingWordsSpec)

/-- 'kedgelaw10.HammingMends', WHERE WHAT IT READS IS OF BULK AT MOST 1048576: true; the input reads as it did. -/
def hammingMendsUptoRow : OpenClaim := { program := "ytnoefbmdpbljhaa", sum := "088f23d7472a672d2b304a59d037f9780a41962b3386ae9dd338ef56a90a1b2c", func := "kedge/kedgelaw10.HammingMends", spec := "hammingMends", plainKeys := false, apart := false, narrowed := true }
def HammingMendsUptoSaid : Prop := hammingMendsUptoRow.holds Try.pinned (OpenSpec.upto hammingMendsSpec)

/-- 'kedgelaw10.HammingPacks', WHERE WHAT IT READS IS OF BULK AT MOST 1048576: true; the input reads as it did. -/
def hammingPacksUptoRow : OpenClaim := { program := "ytnoefbmdpbljhaa", sum := "088f23d7472a672d2b304a59d037f9780a41962b3386ae9dd338ef56a90a1b2c", func := "kedge/kedgelaw10.HammingPacks", spec := "hammingPacks", plainKeys := false, apart := false, narrowed := true }
def HammingPacksUptoSaid : Prop := hammingPacksUptoRow.holds Try.pinned (OpenSpec.upto hammingPacksSpec)

/-- 'kedgelaw10.HammingBack', WHERE WHAT IT READS IS OF BULK AT MOST 1048576: true; the input reads as it did. -/
def hammingBackUptoRow : OpenClaim := { program := "ytnoefbmdpbljhaa", sum := "088f23d7472a672d2b304a59d037f9780a41962b3386ae9dd338ef56a90a1b2c", func := "kedge/kedgelaw10.HammingBack", spec := "hammingBack", plainKeys := false, apart := false, narrowed := true }
def HammingBackUptoSaid : Prop := hammingBackUptoRow.holds Try.pinned (OpenSpec.upto hammingBackSpec)

/-- 'kedgelaw18.TallyAdds', WHERE WHAT IT READS IS OF BULK AT MOST 1048576: true; the input reads as it did. -/
def tallyAddsUptoRow : OpenClaim := { program := "ytnoefbmdpbljhaa", sum := "088f23d7472a672d2b304a59d037f9780a41962b3386ae9dd338ef56a90a1b2c", func := "kedge/kedgelaw18.TallyAdds", spec := "tallyAdds", plainKeys := false, apart := false, narrowed := true }
def TallyAddsUptoSaid : Prop := tallyAddsUptoRow.holds Try.pinned (OpenSpec.upto tallyAddsSpec)

/-- 'kedgelaw18.TallyCounts', WHERE WHAT IT READS IS OF BULK AT MOST 1048576: true; the input reads as it did. -/
def tallyCountsUptoRow : OpenClaim := { program := "ytnoefbmdpbljhaa", sum := "088f23d7472a672d2b304a59d037f9780a41962b3386ae9dd338ef56a90a1b2c", func := "kedge/kedgelaw18.TallyCounts", spec := "tallyCounts", plainKeys := false, apart := false, narrowed := true }
def TallyCountsUptoSaid : Prop := tallyCountsUptoRow.holds Try.pinned (OpenSpec.upto tallyCountsSpec)

/-- 'kedgelaw18.TallyApart', WHERE WHAT IT READS IS OF BULK AT MOST 1048576: true; the input reads as it did. -/
def tallyApartUptoRow : OpenClaim := { program := "ytnoefbmdpbljhaa", sum := "088f23d7472a672d2b304a59d037f9780a41962b3386ae9dd338ef56a90a1b2c", func := "kedge/kedgelaw18.TallyApart", spec := "tallyApart", plainKeys := false, apart := false, narrowed := true }
def TallyApartUptoSaid : Prop := tallyApartUptoRow.holds Try.pinned (OpenSpec.upto tallyApartSpec)

end Rows
end Go.Proofs.Ytnoefbmdpbljhaa
