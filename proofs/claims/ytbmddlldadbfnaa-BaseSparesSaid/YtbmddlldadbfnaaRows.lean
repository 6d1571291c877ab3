/-
  No cell of these rows narrows 'for every input' (looked for: loops, veiled, ifaces, maps, wideKeys, modest, calm, conditions, laid).
  DERIVED. THE GIVEN ROWS OF THIS SEAT. 7 by the template 'for every input the law returns true; each argument reads behind the call as it read before'; 0 by the template 'total and deterministic' (their statements: YtbmddlldadbfnaaTotals.lean).
  GIVEN WITH THE SEED: the statements are not yours to turn. If you find one false, say at which input.
  Laid BY PROGRAM, IN A SANDBOX (cutbox-rows.mjs): the forced cells as the released guide's own fill.sh prints them over the translation f4ec36a3a6a7f804… (all of the seat's roots in one cut). By AI agents, Wed Nov 11 2026. No macro, syntax, notation, axiom, sorry.
-/
import Derived.Test.YtbmddlldadbfnaaChecked
import GoSem.Claim
import GoSem.ClaimJoined
import GoSem.ClaimMapViews
import Derived.JoinedTies
import Derived.KernelRfl
namespace Go.Proofs.Ytbmddlldadbfnaa
/- THE CELL 'sum', in the pinned program and in every row, IS THE sha256 OF THE DUMP (.gsa) THAT YtbmddlldadbfnaaProg.lean LOADS. Nothing in Lean hashes anything: it is a label: what it is worth is what the hold of that sum in a sandbox is worth. -/
noncomputable def Try.pinned : Pinned := { name := "ytbmddlldadbfnaa", sum := "f4ec36a3a6a7f80442f4899899b97af5b06cb15cd230f98299c4f0e2c3451669", checked := Try.checked }
namespace Rows
def none {H : Type} : Left H := { results := [], args := [] }

/-- 'rosettelaw19.BasePrints': WHATEVER THE INPUT: true; the input reads as it did. -/
def basePrintsSpec : ChangeSpec := { name := "basePrints", fn := fun _ => fun
  | [d1, d2] => { results := [.lit (.bool true)], args := [d1, d2] }
  | _ => none }
def basePrintsRow : OpenClaim := { program := "ytbmddlldadbfnaa", sum := "f4ec36a3a6a7f80442f4899899b97af5b06cb15cd230f98299c4f0e2c3451669", func := "rosette/rosettelaw19.BasePrints", spec := "basePrints", inPlace := ["math/bits.Add64"], named := ["math/bits.divideError", "math/bits.overflowError"], apart := false }
def BasePrintsSaid : Prop := basePrintsRow.holds Try.pinned (OpenSpec.ofChange basePrintsSpec)

/-- ITS FALSE NEIGHBOUR: 'it returns false'. Refute it at one input. -/
def basePrintsWrong : ChangeSpec := { name := "basePrints", fn := fun _ => fun
  | [d1, d2] => { results := [.lit (.bool false)], args := [d1, d2] }
  | _ => none }
def BasePrintsWrongFalsely : Prop := basePrintsRow.holds Try.pinned (OpenSpec.ofChange basePrintsWrong)

/-- 'rosettelaw19.BaseParses': WHATEVER THE INPUT: true; the input reads as it did. -/
def baseParsesSpec : ChangeSpec := { name := "baseParses", fn := fun _ => fun
  | [d1, d2] => { results := [.lit (.bool true)], args := [d1, d2] }
  | _ => none }
def baseParsesRow : OpenClaim := { program := "ytbmddlldadbfnaa", sum := "f4ec36a3a6a7f80442f4899899b97af5b06cb15cd230f98299c4f0e2c3451669", func := "rosette/rosettelaw19.BaseParses", spec := "baseParses", inPlace := ["math/bits.Add64"], recurses := true, named := ["math/bits.divideError", "math/bits.overflowError"], apart := false }
def BaseParsesSaid : Prop := baseParsesRow.holds Try.pinned (OpenSpec.ofChange baseParsesSpec)

/-- ITS FALSE NEIGHBOUR: 'it returns false'. Refute it at one input. -/
def baseParsesWrong : ChangeSpec := { name := "baseParses", fn := fun _ => fun
  | [d1, d2] => { results := [.lit (.bool false)], args := [d1, d2] }
  | _ => none }
def BaseParsesWrongFalsely : Prop := baseParsesRow.holds Try.pinned (OpenSpec.ofChange baseParsesWrong)

/-- 'rosettelaw19.BaseBack': WHATEVER THE INPUT: true; the input reads as it did. -/
def baseBackSpec : ChangeSpec := { name := "baseBack", fn := fun _ => fun
  | [d1, d2, d3] => { results := [.lit (.bool true)], args := [d1, d2, d3] }
  | _ => none }
def baseBackRow : OpenClaim := { program := "ytbmddlldadbfnaa", sum := "f4ec36a3a6a7f80442f4899899b97af5b06cb15cd230f98299c4f0e2c3451669", func := "rosette/rosettelaw19.BaseBack", spec := "baseBack", inPlace := ["math/bits.Add64"], named := ["math/bits.divideError", "math/bits.overflowError"], apart := false }
def BaseBackSaid : Prop := baseBackRow.holds Try.pinned (OpenSpec.ofChange baseBackSpec)

/-- ITS FALSE NEIGHBOUR: 'it returns false'. Refute it at one input. -/
def baseBackWrong : ChangeSpec := { name := "baseBack", fn := fun _ => fun
  | [d1, d2, d3] => { results := [.lit (.bool false)], args := [d1, d2, d3] }
  | _ => none }
def BaseBackWrongFalsely : Prop := baseBackRow.holds Try.pinned (OpenSpec.ofChange baseBackWrong)

/-- 'rosettelaw19.BasePlaces': WHATEVER THE INPUT: true; the input reads as it did. -/
def basePlacesSpec : ChangeSpec := { name := "basePlaces", fn := fun _ => fun
  | [d1, d2, d3, d4] => { results := [.lit (.bool true)], args := [d1, d2, d3, d4] }
  | _ => none }
def basePlacesRow : OpenClaim := { program := "ytbmddlldadbfnaa", sum := "f4ec36a3a6a7f80442f4899899b97af5b06cb15cd230f98299c4f0e2c3451669", func := "rosette/rosettelaw19.BasePlaces", spec := "basePlaces", inPlace := ["math/bits.Add64"], recurses := true, named := ["math/bits.divideError", "math/bits.overflowError"], apart := false }
def BasePlacesSaid : Prop := basePlacesRow.holds Try.pinned (OpenSpec.ofChange basePlacesSpec)

/-- ITS FALSE NEIGHBOUR: 'it returns false'. Refute it at one input. -/
def basePlacesWrong : ChangeSpec := { name := "basePlaces", fn := fun _ => fun
  | [d1, d2, d3, d4] => { results := [.lit (.bool false)], args := [d1, d2, d3, d4] }
  | _ => none }
def BasePlacesWrongFalsely : Prop := basePlacesRow.holds Try.pinned (OpenSpec.ofChange basePlacesWrong)

/-- 'rosettelaw19.BaseSpares': WHATEVER THE INPUT: true; the input reads as it did. -/
def baseSparesSpec : ChangeSpec := { name := "baseSpares", fn := fun _ => fun
  | [d1, d2] => { results := [.lit (.bool true)], args := [d1, d2] }
  | _ => none }
def baseSparesRow : OpenClaim := { program := "ytbmddlldadbfnaa", sum := "f4ec36a3a6a7f80442f4899899b97af5b06cb15cd230f98299c4f0e2c3451669", func := "rosette/rosettelaw19.BaseSpares", spec := "baseSpares", inPlace := ["math/bits.Add64"], named := ["math/bits.divideError", "math/bits.overflowError"], apart := false }
def BaseSparesSaid : Prop := baseSparesRow.holds Try.pinned (OpenSpec.ofChange baseSparesSpec)

/-- ITS FALSE NEIGHBOUR: 'it returns false'. Refute it at one input. -/
def baseSparesWrong : ChangeSpec := { name := "baseSpares", fn := fun _ => fun
  | [d1, d2] => { results := [.lit (.bool false)], args := [d1, d2] }
  | _ => none }
def BaseSparesWrongFalsely : Prop := baseSparesRow.holds Try.pinned (OpenSpec.ofChange baseSparesWrong)

/-- 'rosettelaw19.BaseCounts': WHATEVER THE INPUT: true; the input reads as it did. -/
def baseCountsSpec : ChangeSpec := { name := "baseCounts", fn := fun _ => fun
  | [d1, d2] => { results := [.lit (.bool true)], args := [d1, d2] }
  | _ => none }
def baseCountsRow : OpenClaim := { program := "ytbmddlldadbfnaa", sum := "f4ec36a3a6a7f80442f4899899b97af5b06cb15cd230f98299c4f0e2c3451669", func := "rosette/rosettelaw19.BaseCounts", spec := "baseCounts", inPlace := ["math/bits.Add64"], recurses := true, named := ["math/bits.divideError", "math/bits.overflowError"], apart := false }
def BaseCountsSaid : Prop := baseCountsRow.holds Try.pinned (OpenSpec.ofChange baseCountsSpec)

/-- ITS FALSE NEIGHBOUR: 'it returns false'. Refute it at one input. -/
def baseCountsWrong : ChangeSpec := { name := "baseCounts", fn := fun _ => fun
  | [d1, d2] => { results := [.lit (.bool false)], args := [d1, d2] }
  | _ => none }
def BaseCountsWrongFalsely : Prop := baseCountsRow.holds Try.pinned (OpenSpec.ofChange baseCountsWrong)

/-- 'rosettelaw19.BaseNumbers': WHATEVER THE INPUT: true; the input reads as it did. -/
def baseNumbersSpec : ChangeSpec := { name := "baseNumbers", fn := fun _ => fun
  | [] => { results := [.lit (.bool true)], args := [] }
  | _ => none }
def baseNumbersRow : OpenClaim := { program := "ytbmddlldadbfnaa", sum := "f4ec36a3a6a7f80442f4899899b97af5b06cb15cd230f98299c4f0e2c3451669", func := "rosette/rosettelaw19.BaseNumbers", spec := "baseNumbers", inPlace := ["math/bits.Add64", "internal/abi.NoEscape", "internal/bytealg.MakeNoZero"], named := ["math/bits.divideError", "math/bits.overflowError"], apart := false }
def BaseNumbersSaid : Prop := baseNumbersRow.holds Try.pinned (OpenSpec.ofChange baseNumbersSpec)

/-- ITS FALSE NEIGHBOUR: 'it returns false'. Refute it at one input. -/
def baseNumbersWrong : ChangeSpec := { name := "baseNumbers", fn := fun _ => fun
  | [] => { results := [.lit (.bool false)], args := [] }
  | _ => none }
def BaseNumbersWrongFalsely : Prop := baseNumbersRow.holds Try.pinned (OpenSpec.ofChange baseNumbersWrong)

/- THE SECOND FORM. 'bulk': how many values and letters a reading holds, each counted each time it is reached (what is shared counts as often as it is met; a slice's spare places count too). A statement '..UptoSaid' is the law's where the arguments, and the package variables that the reading takes, are together of bulk at most 1048576: NARROWER than '..Said'. Prove '..Said' where nothing that the law and all that it calls make is longer than what came in: it says more and counts as full. Else prove '..UptoSaid'. A law counts once. -/
mutual
def uptoBulk {H : Type} : DataW H → Nat
  | .lit (.string bytes) => bytes.length + 1
  | .lit _ => 1
  | .nil => 1
  | .ptr d => uptoBulk d + 1
  | .slice elems spare => uptoBulkAll elems + uptoBulkAll spare + 1
  | .agg parts => uptoBulkAll parts + 1
  | .iface _ d => uptoBulk d + 1
  | .map entries => uptoBulkEntries entries + 1
  | .held _ => 1
def uptoBulkAll {H : Type} : List (DataW H) → Nat
  | [] => 0
  | d :: r => uptoBulk d + uptoBulkAll r
def uptoBulkEntries {H : Type} : List (Lit × DataW H) → Nat
  | [] => 0
  | x :: r => uptoBulkEntry x + uptoBulkEntries r
def uptoBulkEntry {H : Type} : Lit × DataW H → Nat
  | (.string bytes, d) => bytes.length + uptoBulk d + 1
  | (_, d) => uptoBulk d + 1
 end
def uptoSmall : (H : Type) → List (DataW H) → Bool := fun _ ds => decide (uptoBulkAll ds ≤ 1048576)
def OpenSpec.upto (s : _root_.Go.ChangeSpec) : _root_.Go.OpenSpec := { _root_.Go.OpenSpec.ofChange s with cond := some uptoSmall }

/-- 'rosettelaw19.BasePrints', WHERE WHAT IT READS IS OF BULK AT MOST 1048576: true; the input reads as it did. -/
def basePrintsUptoRow : OpenClaim := { program := "ytbmddlldadbfnaa", sum := "f4ec36a3a6a7f80442f4899899b97af5b06cb15cd230f98299c4f0e2c3451669", func := "rosette/rosettelaw19.BasePrints", spec := "basePrints", inPlace := ["math/bits.Add64"], named := ["math/bits.divideError", "math/bits.overflowError"], apart := false, narrowed := true }
def BasePrintsUptoSaid : Prop := basePrintsUptoRow.holds Try.pinned (OpenSpec.upto basePrintsSpec)

/-- 'rosettelaw19.BaseParses', WHERE WHAT IT READS IS OF BULK AT MOST 1048576: true; the input reads as it did. -/
def baseParsesUptoRow : OpenClaim := { program := "ytbmddlldadbfnaa", sum := "f4ec36a3a6a7f80442f4899899b97af5b06cb15cd230f98299c4f0e2c3451669", func := "rosette/rosettelaw19.BaseParses", spec := "baseParses", inPlace := ["math/bits.Add64"], recurses := true, named := ["math/bits.divideError", "math/bits.overflowError"], apart := false, narrowed := true }
def BaseParsesUptoSaid : Prop := baseParsesUptoRow.holds Try.pinned (OpenSpec.upto baseParsesSpec)

/-- 'rosettelaw19.BaseBack', WHERE WHAT IT READS IS OF BULK AT MOST 1048576: true; the input reads as it did. -/
def baseBackUptoRow : OpenClaim := { program := "ytbmddlldadbfnaa", sum := "f4ec36a3a6a7f80442f4899899b97af5b06cb15cd230f98299c4f0e2c3451669", func := "rosette/rosettelaw19.BaseBack", spec := "baseBack", inPlace := ["math/bits.Add64"], named := ["math/bits.divideError", "math/bits.overflowError"], apart := false, narrowed := true }
def BaseBackUptoSaid : Prop := baseBackUptoRow.holds Try.pinned (OpenSpec.upto baseBackSpec)

/-- 'rosettelaw19.BasePlaces', WHERE WHAT IT READS IS OF BULK AT MOST 1048576: true; the input reads as it did. -/
def basePlacesUptoRow : OpenClaim := { program := "ytbmddlldadbfnaa", sum := "f4ec36a3a6a7f80442f4899899b97af5b06cb15cd230f98299c4f0e2c3451669", func := "rosette/rosettelaw19.BasePlaces", spec := "basePlaces", inPlace := ["math/bits.Add64"], recurses := true, named := ["math/bits.divideError", "math/bits.overflowError"], apart := false, narrowed := true }
def BasePlacesUptoSaid : Prop := basePlacesUptoRow.holds Try.pinned (OpenSpec.upto basePlacesSpec)

/-- 'rosettelaw19.BaseSpares', WHERE WHAT IT READS IS OF BULK AT MOST 1048576: true; the input reads as it did. -/
def baseSparesUptoRow : OpenClaim := { program := "ytbmddlldadbfnaa", sum := "f4ec36a3a6a7f80442f4899899b97af5b06cb15cd230f98299c4f0e2c3451669", func := "rosette/rosettelaw19.BaseSpares", spec := "baseSpares", inPlace := ["math/bits.Add64"], named := ["math/bits.divideError", "math/bits.overflowError"], apart := false, narrowed := true }
def BaseSparesUptoSaid : Prop := baseSparesUptoRow.holds Try.pinned (OpenSpec.upto baseSparesSpec)

/-- 'rosettelaw19.BaseCounts', WHERE WHAT IT READS IS OF BULK AT MOST 1048576: true; the input reads as it did. -/
def baseCountsUptoRow : OpenClaim := { program := "ytbmddlldadbfnaa", sum := "f4ec36a3a6a7f80442f4899899b97af5b06cb15cd230f98299c4f0e2c3451669", func := "rosette/rosettelaw19.BaseCounts", spec := "baseCounts", inPlace := ["math/bits.Add64"], recurses := true, named := ["math/bits.divideError", "math/bits.overflowError"], apart := false, narrowed := true }
def BaseCountsUptoSaid : Prop := baseCountsUptoRow.holds Try.pinned (OpenSpec.upto baseCountsSpec)

/-- 'rosettelaw19.BaseNumbers', WHERE WHAT IT READS IS OF BULK AT MOST 1048576: true; the input reads as it did. -/
def baseNumbersUptoRow : OpenClaim := { program := "ytbmddlldadbfnaa", sum := "f4ec36a3a6a7f80442f4899899b97af5b06cb15cd230f98299c4f0e2c3451669", func := "rosette/rosettelaw19.BaseNumbers", spec := "baseNumbers", inPlace := ["math/bits.Add64", "internal/abi.NoEscape", "internal/bytealg.MakeNoZero"], named := ["math/bits.divideError", "math/bits.overflowError"], apart := false, narrowed := true }
def BaseNumbersUptoSaid : Prop := baseNumbersUptoRow.holds Try.pinned (OpenSpec.upto baseNumbersSpec)

end Rows
end Go.Proofs.Ytbmddlldadbfnaa
