/-
  No cell of these rows narrows 'for every input' (looked for: loops, veiled, ifaces, maps, wideKeys, modest, calm, conditions, laid).
  DERIVED. THE GIVEN ROWS OF THIS SEAT. 7 by the template 'for every input the law returns true; each argument reads behind the call as it read before'; 0 by the template 'total and deterministic' (their statements: YtgkfhppmopmgjaaTotals.lean).
  GIVEN WITH THE SEED: the statements are not yours to turn. If you find one false, say at which input.
  Laid BY PROGRAM, IN A SANDBOX (cutbox-rows.mjs): the forced cells as the released guide's own fill.sh prints them over the translation faa83fae517b50ac… (all of the seat's roots in one cut). By AI agents, Wed Nov 11 2026. No macro, syntax, notation, axiom, sorry.
-/
import Derived.Test.YtgkfhppmopmgjaaChecked
import GoSem.Claim
import GoSem.ClaimJoined
import GoSem.ClaimMapViews
import Derived.JoinedTies
import Derived.KernelRfl
namespace Go.Proofs.Ytgkfhppmopmgjaa
/- THE CELL 'sum', in the pinned program and in every row, IS THE sha256 OF THE DUMP (.gsa) THAT YtgkfhppmopmgjaaProg.lean LOADS. Nothing in Lean hashes anything: it is a label: what it is worth is what the hold of that sum in a sandbox is worth. -/
noncomputable def Try.pinned : Pinned := { name := "ytgkfhppmopmgjaa", sum := "faa83fae517b50accc937f50506452ba7e51bbc8252e61c92e8c9e080cdb1347", checked := Try.checked }
namespace Rows
def none {H : Type} : Left H := { results := [], args := [] }

/-- 'laws.FnExactIsOver': WHATEVER THE INPUT: true; the input reads as it did. -/
def fnExactIsOverSpec : ChangeSpec := { name := "fnExactIsOver", fn := fun _ => fun
  | [d] => { results := [.lit (.bool true)], args := [d] }
  | _ => none }
def fnExactIsOverRow : OpenClaim := { program := "ytgkfhppmopmgjaa", sum := "faa83fae517b50accc937f50506452ba7e51bbc8252e61c92e8c9e080cdb1347", func := "loop.example/g01194/laws.FnExactIsOver", spec := "fnExactIsOver", unfollowed := true, recurses := true, apart := false }
def FnExactIsOverSaid : Prop := fnExactIsOverRow.holds Try.pinned (OpenSpec.ofChange fnExactIsOverSpec)

/-- ITS FALSE NEIGHBOUR: 'it returns false'. Refute it at one input. -/
def fnExactIsOverWrong : ChangeSpec := { name := "fnExactIsOver", fn := fun _ => fun
  | [d] => { results := [.lit (.bool false)], args := [d] }
  | _ => none }
def FnExactIsOverWrongFalsely : Prop := fnExactIsOverRow.holds Try.pinned (OpenSpec.ofChange fnExactIsOverWrong)

/-- 'laws.FnExactFirstForm': WHATEVER THE INPUT: true; the input reads as it did. -/
def fnExactFirstFormSpec : ChangeSpec := { name := "fnExactFirstForm", fn := fun _ => fun
  | [d] => { results := [.lit (.bool true)], args := [d] }
  | _ => none }
def fnExactFirstFormRow : OpenClaim := { program := "ytgkfhppmopmgjaa", sum := "faa83fae517b50accc937f50506452ba7e51bbc8252e61c92e8c9e080cdb1347", func := "loop.example/g01194/laws.FnExactFirstForm", spec := "fnExactFirstForm", unfollowed := true, recurses := true, apart := false }
def FnExactFirstFormSaid : Prop := fnExactFirstFormRow.holds Try.pinned (OpenSpec.ofChange fnExactFirstFormSpec)

/-- ITS FALSE NEIGHBOUR: 'it returns false'. Refute it at one input. -/
def fnExactFirstFormWrong : ChangeSpec := { name := "fnExactFirstForm", fn := fun _ => fun
  | [d] => { results := [.lit (.bool false)], args := [d] }
  | _ => none }
def FnExactFirstFormWrongFalsely : Prop := fnExactFirstFormRow.holds Try.pinned (OpenSpec.ofChange fnExactFirstFormWrong)

/-- 'laws.FnExactMovesOf': WHATEVER THE INPUT: true; the input reads as it did. -/
def fnExactMovesOfSpec : ChangeSpec := { name := "fnExactMovesOf", fn := fun _ => fun
  | [d] => { results := [.lit (.bool true)], args := [d] }
  | _ => none }
def fnExactMovesOfRow : OpenClaim := { program := "ytgkfhppmopmgjaa", sum := "faa83fae517b50accc937f50506452ba7e51bbc8252e61c92e8c9e080cdb1347", func := "loop.example/g01194/laws.FnExactMovesOf", spec := "fnExactMovesOf", unfollowed := true, recurses := true, apart := false }
def FnExactMovesOfSaid : Prop := fnExactMovesOfRow.holds Try.pinned (OpenSpec.ofChange fnExactMovesOfSpec)

/-- ITS FALSE NEIGHBOUR: 'it returns false'. Refute it at one input. -/
def fnExactMovesOfWrong : ChangeSpec := { name := "fnExactMovesOf", fn := fun _ => fun
  | [d] => { results := [.lit (.bool false)], args := [d] }
  | _ => none }
def FnExactMovesOfWrongFalsely : Prop := fnExactMovesOfRow.holds Try.pinned (OpenSpec.ofChange fnExactMovesOfWrong)

/-- 'laws.FnExactCommutingPairs': WHATEVER THE INPUT: true; the input reads as it did. -/
def fnExactCommutingPairsSpec : ChangeSpec := { name := "fnExactCommutingPairs", fn := fun _ => fun
  | [d] => { results := [.lit (.bool true)], args := [d] }
  | _ => none }
def fnExactCommutingPairsRow : OpenClaim := { program := "ytgkfhppmopmgjaa", sum := "faa83fae517b50accc937f50506452ba7e51bbc8252e61c92e8c9e080cdb1347", func := "loop.example/g01194/laws.FnExactCommutingPairs", spec := "fnExactCommutingPairs", unfollowed := true, recurses := true, apart := false }
def FnExactCommutingPairsSaid : Prop := fnExactCommutingPairsRow.holds Try.pinned (OpenSpec.ofChange fnExactCommutingPairsSpec)

/-- ITS FALSE NEIGHBOUR: 'it returns false'. Refute it at one input. -/
def fnExactCommutingPairsWrong : ChangeSpec := { name := "fnExactCommutingPairs", fn := fun _ => fun
  | [d] => { results := [.lit (.bool false)], args := [d] }
  | _ => none }
def FnExactCommutingPairsWrongFalsely : Prop := fnExactCommutingPairsRow.holds Try.pinned (OpenSpec.ofChange fnExactCommutingPairsWrong)

/-- 'laws.FnExactSlideCycle': WHATEVER THE INPUT: true; the input reads as it did. -/
def fnExactSlideCycleSpec : ChangeSpec := { name := "fnExactSlideCycle", fn := fun _ => fun
  | [d1, d2] => { results := [.lit (.bool true)], args := [d1, d2] }
  | _ => none }
def fnExactSlideCycleRow : OpenClaim := { program := "ytgkfhppmopmgjaa", sum := "faa83fae517b50accc937f50506452ba7e51bbc8252e61c92e8c9e080cdb1347", func := "loop.example/g01194/laws.FnExactSlideCycle", spec := "fnExactSlideCycle", unfollowed := true, recurses := true, apart := false }
def FnExactSlideCycleSaid : Prop := fnExactSlideCycleRow.holds Try.pinned (OpenSpec.ofChange fnExactSlideCycleSpec)

/-- ITS FALSE NEIGHBOUR: 'it returns false'. Refute it at one input. -/
def fnExactSlideCycleWrong : ChangeSpec := { name := "fnExactSlideCycle", fn := fun _ => fun
  | [d1, d2] => { results := [.lit (.bool false)], args := [d1, d2] }
  | _ => none }
def FnExactSlideCycleWrongFalsely : Prop := fnExactSlideCycleRow.holds Try.pinned (OpenSpec.ofChange fnExactSlideCycleWrong)

/-- 'laws.FnExactDoSlides': WHATEVER THE INPUT: true; the input reads as it did. -/
def fnExactDoSlidesSpec : ChangeSpec := { name := "fnExactDoSlides", fn := fun _ => fun
  | [d1, d2] => { results := [.lit (.bool true)], args := [d1, d2] }
  | _ => none }
def fnExactDoSlidesRow : OpenClaim := { program := "ytgkfhppmopmgjaa", sum := "faa83fae517b50accc937f50506452ba7e51bbc8252e61c92e8c9e080cdb1347", func := "loop.example/g01194/laws.FnExactDoSlides", spec := "fnExactDoSlides", unfollowed := true, recurses := true, apart := false }
def FnExactDoSlidesSaid : Prop := fnExactDoSlidesRow.holds Try.pinned (OpenSpec.ofChange fnExactDoSlidesSpec)

/-- ITS FALSE NEIGHBOUR: 'it returns false'. Refute it at one input. -/
def fnExactDoSlidesWrong : ChangeSpec := { name := "fnExactDoSlides", fn := fun _ => fun
  | [d1, d2] => { results := [.lit (.bool false)], args := [d1, d2] }
  | _ => none }
def FnExactDoSlidesWrongFalsely : Prop := fnExactDoSlidesRow.holds Try.pinned (OpenSpec.ofChange fnExactDoSlidesWrong)

/-- 'laws.FnExactDistinctMoves': WHATEVER THE INPUT: true; the input reads as it did. -/
def fnExactDistinctMovesSpec : ChangeSpec := { name := "fnExactDistinctMoves", fn := fun _ => fun
  | [d] => { results := [.lit (.bool true)], args := [d] }
  | _ => none }
def fnExactDistinctMovesRow : OpenClaim := { program := "ytgkfhppmopmgjaa", sum := "faa83fae517b50accc937f50506452ba7e51bbc8252e61c92e8c9e080cdb1347", func := "loop.example/g01194/laws.FnExactDistinctMoves", spec := "fnExactDistinctMoves", unfollowed := true, recurses := true, apart := false }
def FnExactDistinctMovesSaid : Prop := fnExactDistinctMovesRow.holds Try.pinned (OpenSpec.ofChange fnExactDistinctMovesSpec)

/-- ITS FALSE NEIGHBOUR: 'it returns false'. Refute it at one input. -/
def fnExactDistinctMovesWrong : ChangeSpec := { name := "fnExactDistinctMoves", fn := fun _ => fun
  | [d] => { results := [.lit (.bool false)], args := [d] }
  | _ => none }
def FnExactDistinctMovesWrongFalsely : Prop := fnExactDistinctMovesRow.holds Try.pinned (OpenSpec.ofChange fnExactDistinctMovesWrong)

/- THE SECOND FORM. 'bulk': how many values and letters a reading holds, each counted each time it is reached (what is shared counts as often as it is met; a slice's spare places count too). A statement '..UptoSaid' is the law's where the arguments, and the package variables that the reading takes, are together of bulk at most 1048576: NARROWER than '..Said'. Prove '..Said' where nothing that the law and all that it calls make is longer than what came in: it says more and counts as full. Else prove '..UptoSaid'. A law counts once. -/
mutual
def uptoBulk {H : Type} : DataW H → Nat
  | .lit (.string bytes) => bytes.length + 1
  | .lit _ => 1
  | .nil => 1
  | .ptr d => uptoBulk d + 1
  | .slice elems spare => uptoBulkAll elems + uptoBulkAll spare + 1
  | .agg parts => uptoBulkAll parts + 1
  | .iface _ d => uptoBulk d + 1
  | .map entries => uptoBulkEntries entries + 1
  | .held _ => 1
def uptoBulkAll {H : Type} : List (DataW H) → Nat
  | [] => 0
  | d :: r => uptoBulk d + uptoBulkAll r
def uptoBulkEntries {H : Type} : List (Lit × DataW H) → Nat
  | [] => 0
  | x :: r => uptoBulkEntry x + uptoBulkEntries r
def uptoBulkEntry {H : Type} : Lit × DataW H → Nat
  | (.string bytes, d) => bytes.length + uptoBulk d + 1
  | (_, d) => uptoBulk d + 1
 end
def uptoSmall : (H : Type) → List (DataW H) → Bool := fun _ ds => decide (uptoBulkAll ds ≤ 1048576)
def OpenSpec.upto (s : _root_.Go.ChangeSpec) : _root_.Go.OpenSpec := { _root_.Go.OpenSpec.ofChange s with cond := some uptoSmall }

/-- 'laws.FnExactIsOver', WHERE WHAT IT READS IS OF BULK AT MOST 1048576: true; the input reads as it did. -/
def fnExactIsOverUptoRow : OpenClaim := { program := "ytgkfhppmopmgjaa", sum := "faa83fae517b50accc937f50506452ba7e51bbc8252e61c92e8c9e080cdb1347", func := "loop.example/g01194/laws.FnExactIsOver", spec := "fnExactIsOver", unfollowed := true, recurses := true, apart := false, narrowed := true }
def FnExactIsOverUptoSaid : Prop := fnExactIsOverUptoRow.holds Try.pinned (OpenSpec.upto fnExactIsOverSpec)

/-- 'laws.FnExactFirstForm', WHERE WHAT IT READS IS OF BULK AT MOST 1048576: true; the input reads as it did. -/
def fnExactFirstFormUptoRow : OpenClaim := { program := "ytgkfhppmopmgjaa", sum := "faa83fae517b50accc937f50506452ba7e51bbc8252e61c92e8c9e080cdb1347", func := "loop.example/g01194/laws.FnExactFirstForm", spec := "fnExactFirstForm", unfollowed := true, recurses := true, apart := false, narrowed := true }
def FnExactFirstFormUptoSaid : Prop := fnExactFirstFormUptoRow.holds Try.pinned (OpenSpec.upto fnExactFirstFormSpec)

/-- 'laws.FnExactMovesOf', WHERE WHAT IT READS IS OF BULK AT MOST 1048576: true; the input reads as it did. -/
def fnExactMovesOfUptoRow : OpenClaim := { program := "ytgkfhppmopmgjaa", sum := "faa83fae517b50accc937f50506452ba7e51bbc8252e61c92e8c9e080cdb1347", func := "loop.example/g01194/laws.FnExactMovesOf", spec := "fnExactMovesOf", unfollowed := true, recurses := true, apart := false, narrowed := true }
def FnExactMovesOfUptoSaid : Prop := fnExactMovesOfUptoRow.holds Try.pinned (OpenSpec.upto fnExactMovesOfSpec)

/-- 'laws.FnExactCommutingPairs', WHERE WHAT IT READS IS OF BULK AT MOST 1048576: true; the input reads as it did. -/
def fnExactCommutingPairsUptoRow : OpenClaim := { program := "ytgkfhppmopmgjaa", sum := "faa83fae517b50accc937f50506452ba7e51bbc8252e61c92e8c9e080cdb1347", func := "loop.example/g01194/laws.FnExactCommutingPairs", spec := "fnExactCommutingPairs", unfollowed := true, recurses := true, apart := false, narrowed := true }
def FnExactCommutingPairsUptoSaid : Prop := fnExactCommutingPairsUptoRow.holds Try.pinned (OpenSpec.upto fnExactCommutingPairsSpec)

/-- 'laws.FnExactSlideCycle', WHERE WHAT IT READS IS OF BULK AT MOST 1048576: true; the input reads as it did. -/
def fnExactSlideCycleUptoRow : OpenClaim := { program := "ytgkfhppmopmgjaa", sum := "faa83fae517b50accc937f50506452ba7e51bbc8252e61c92e8c9e080cdb1347", func := "loop.example/g01194/laws.FnExactSlideCycle", spec := "fnExactSlideCycle", unfollowed := true, recurses := true, apart := false, narrowed := true }
def FnExactSlideCycleUptoSaid : Prop := fnExactSlideCycleUptoRow.holds Try.pinned (OpenSpec.upto fnExactSlideCycleSpec)

/-- 'laws.FnExactDoSlides', WHERE WHAT IT READS IS OF BULK AT MOST 1048576: true; the input reads as it did. -/
def fnExactDoSlidesUptoRow : OpenClaim := { program := "ytgkfhppmopmgjaa", sum := "faa83fae517b50accc937f50506452ba7e51bbc8252e61c92e8c9e080cdb1347", func := "loop.example/g01194/laws.FnExactDoSlides", spec := "fnExactDoSlides", unfollowed := true, recurses := true, apart := false, narrowed := true }
def FnExactDoSlidesUptoSaid : Prop := fnExactDoSlidesUptoRow.holds Try.pinned (OpenSpec.upto fnExactDoSlidesSpec)

/-- 'laws.FnExactDistinctMoves', WHERE WHAT IT READS IS OF BULK AT MOST 1048576: true; the input reads as it did. -/
def fnExactDistinctMovesUptoRow : OpenClaim := { program := "ytgkfhppmopmgjaa", sum := "faa83fae517b50accc937f50506452ba7e51bbc8252e61c92e8c9e080cdb1347", func := "loop.example/g01194/laws.FnExactDistinctMoves", spec := "fnExactDistinctMoves", unfollowed := true, recurses := true, apart := false, narrowed := true }
def FnExactDistinctMovesUptoSaid : Prop := fnExactDistinctMovesUptoRow.holds Try.pinned (OpenSpec.upto fnExactDistinctMovesSpec)

end Rows
end Go.Proofs.Ytgkfhppmopmgjaa
