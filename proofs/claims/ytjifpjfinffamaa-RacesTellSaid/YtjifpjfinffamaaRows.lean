/-
  No cell of these rows narrows 'for every input' (looked for: loops, veiled, ifaces, maps, wideKeys, modest, calm, conditions, laid).
  DERIVED. THE GIVEN ROWS OF THIS SEAT. 8 by the template 'for every input the law returns true; each argument reads behind the call as it read before'; 0 by the template 'total and deterministic' (their statements: YtjifpjfinffamaaTotals.lean).
  GIVEN WITH THE SEED: the statements are not yours to turn. If you find one false, say at which input.
  Laid BY PROGRAM, IN A SANDBOX (cutbox-rows.mjs): the forced cells as the released guide's own fill.sh prints them over the translation 60c091551fc14b9d… (all of the seat's roots in one cut). By AI agents, Wed Nov 11 2026. No macro, syntax, notation, axiom, sorry.
-/
import Derived.Test.YtjifpjfinffamaaChecked
import GoSem.Claim
import GoSem.ClaimJoined
import GoSem.ClaimMapViews
import Derived.JoinedTies
import Derived.KernelRfl
namespace Go.Proofs.Ytjifpjfinffamaa
/- THE CELL 'sum', in the pinned program and in every row, IS THE sha256 OF THE DUMP (.gsa) THAT YtjifpjfinffamaaProg.lean LOADS. Nothing in Lean hashes anything: it is a label: what it is worth is what the hold of that sum in a sandbox is worth. -/
noncomputable def Try.pinned : Pinned := { name := "ytjifpjfinffamaa", sum := "60c091551fc14b9dd7219daeace59a810a0e153098d19749e67bd3a39f5b1f6f", checked := Try.checked }
namespace Rows
def none {H : Type} : Left H := { results := [], args := [] }

/-- 'parleylaw15.WitnessBlocks': WHATEVER THE INPUT: true; the input reads as it did. -/
def witnessBlocksSpec : ChangeSpec := { name := "witnessBlocks", fn := fun _ => fun
  | [d1, d2, d3] => { results := [.lit (.bool true)], args := [d1, d2, d3] }
  | _ => none }
def witnessBlocksRow : OpenClaim := { program := "ytjifpjfinffamaa", sum := "60c091551fc14b9dd7219daeace59a810a0e153098d19749e67bd3a39f5b1f6f", func := "parley/parleylaw15.WitnessBlocks", spec := "witnessBlocks", unfollowed := true, recurses := true, apart := false }
def WitnessBlocksSaid : Prop := witnessBlocksRow.holds Try.pinned (OpenSpec.ofChange witnessBlocksSpec)

/-- ITS FALSE NEIGHBOUR: 'it returns false'. Refute it at one input. -/
def witnessBlocksWrong : ChangeSpec := { name := "witnessBlocks", fn := fun _ => fun
  | [d1, d2, d3] => { results := [.lit (.bool false)], args := [d1, d2, d3] }
  | _ => none }
def WitnessBlocksWrongFalsely : Prop := witnessBlocksRow.holds Try.pinned (OpenSpec.ofChange witnessBlocksWrong)

/-- 'parleylaw17.GraphRounds': WHATEVER THE INPUT: true; the input reads as it did. -/
def graphRoundsSpec : ChangeSpec := { name := "graphRounds", fn := fun _ => fun
  | [d1, d2] => { results := [.lit (.bool true)], args := [d1, d2] }
  | _ => none }
def graphRoundsRow : OpenClaim := { program := "ytjifpjfinffamaa", sum := "60c091551fc14b9dd7219daeace59a810a0e153098d19749e67bd3a39f5b1f6f", func := "parley/parleylaw17.GraphRounds", spec := "graphRounds", unfollowed := true, recurses := true, apart := false }
def GraphRoundsSaid : Prop := graphRoundsRow.holds Try.pinned (OpenSpec.ofChange graphRoundsSpec)

/-- ITS FALSE NEIGHBOUR: 'it returns false'. Refute it at one input. -/
def graphRoundsWrong : ChangeSpec := { name := "graphRounds", fn := fun _ => fun
  | [d1, d2] => { results := [.lit (.bool false)], args := [d1, d2] }
  | _ => none }
def GraphRoundsWrongFalsely : Prop := graphRoundsRow.holds Try.pinned (OpenSpec.ofChange graphRoundsWrong)

/-- 'parleylaw17.GraphKeeps': WHATEVER THE INPUT: true; the input reads as it did. -/
def graphKeepsSpec : ChangeSpec := { name := "graphKeeps", fn := fun _ => fun
  | [d1, d2, d3] => { results := [.lit (.bool true)], args := [d1, d2, d3] }
  | _ => none }
def graphKeepsRow : OpenClaim := { program := "ytjifpjfinffamaa", sum := "60c091551fc14b9dd7219daeace59a810a0e153098d19749e67bd3a39f5b1f6f", func := "parley/parleylaw17.GraphKeeps", spec := "graphKeeps", unfollowed := true, recurses := true, apart := false }
def GraphKeepsSaid : Prop := graphKeepsRow.holds Try.pinned (OpenSpec.ofChange graphKeepsSpec)

/-- ITS FALSE NEIGHBOUR: 'it returns false'. Refute it at one input. -/
def graphKeepsWrong : ChangeSpec := { name := "graphKeeps", fn := fun _ => fun
  | [d1, d2, d3] => { results := [.lit (.bool false)], args := [d1, d2, d3] }
  | _ => none }
def GraphKeepsWrongFalsely : Prop := graphKeepsRow.holds Try.pinned (OpenSpec.ofChange graphKeepsWrong)

/-- 'parleylaw17.GraphReaches': WHATEVER THE INPUT: true; the input reads as it did. -/
def graphReachesSpec : ChangeSpec := { name := "graphReaches", fn := fun _ => fun
  | [d1, d2, d3] => { results := [.lit (.bool true)], args := [d1, d2, d3] }
  | _ => none }
def graphReachesRow : OpenClaim := { program := "ytjifpjfinffamaa", sum := "60c091551fc14b9dd7219daeace59a810a0e153098d19749e67bd3a39f5b1f6f", func := "parley/parleylaw17.GraphReaches", spec := "graphReaches", unfollowed := true, recurses := true, apart := false }
def GraphReachesSaid : Prop := graphReachesRow.holds Try.pinned (OpenSpec.ofChange graphReachesSpec)

/-- ITS FALSE NEIGHBOUR: 'it returns false'. Refute it at one input. -/
def graphReachesWrong : ChangeSpec := { name := "graphReaches", fn := fun _ => fun
  | [d1, d2, d3] => { results := [.lit (.bool false)], args := [d1, d2, d3] }
  | _ => none }
def GraphReachesWrongFalsely : Prop := graphReachesRow.holds Try.pinned (OpenSpec.ofChange graphReachesWrong)

/-- 'parleylaw17.GraphTells': WHATEVER THE INPUT: true; the input reads as it did. -/
def graphTellsSpec : ChangeSpec := { name := "graphTells", fn := fun _ => fun
  | [d1, d2] => { results := [.lit (.bool true)], args := [d1, d2] }
  | _ => none }
def graphTellsRow : OpenClaim := { program := "ytjifpjfinffamaa", sum := "60c091551fc14b9dd7219daeace59a810a0e153098d19749e67bd3a39f5b1f6f", func := "parley/parleylaw17.GraphTells", spec := "graphTells", unfollowed := true, recurses := true, apart := false }
def GraphTellsSaid : Prop := graphTellsRow.holds Try.pinned (OpenSpec.ofChange graphTellsSpec)

/-- ITS FALSE NEIGHBOUR: 'it returns false'. Refute it at one input. -/
def graphTellsWrong : ChangeSpec := { name := "graphTells", fn := fun _ => fun
  | [d1, d2] => { results := [.lit (.bool false)], args := [d1, d2] }
  | _ => none }
def GraphTellsWrongFalsely : Prop := graphTellsRow.holds Try.pinned (OpenSpec.ofChange graphTellsWrong)

/-- 'parleylaw17.GraphOrders': WHATEVER THE INPUT: true; the input reads as it did. -/
def graphOrdersSpec : ChangeSpec := { name := "graphOrders", fn := fun _ => fun
  | [d1, d2] => { results := [.lit (.bool true)], args := [d1, d2] }
  | _ => none }
def graphOrdersRow : OpenClaim := { program := "ytjifpjfinffamaa", sum := "60c091551fc14b9dd7219daeace59a810a0e153098d19749e67bd3a39f5b1f6f", func := "parley/parleylaw17.GraphOrders", spec := "graphOrders", unfollowed := true, recurses := true, apart := false }
def GraphOrdersSaid : Prop := graphOrdersRow.holds Try.pinned (OpenSpec.ofChange graphOrdersSpec)

/-- ITS FALSE NEIGHBOUR: 'it returns false'. Refute it at one input. -/
def graphOrdersWrong : ChangeSpec := { name := "graphOrders", fn := fun _ => fun
  | [d1, d2] => { results := [.lit (.bool false)], args := [d1, d2] }
  | _ => none }
def GraphOrdersWrongFalsely : Prop := graphOrdersRow.holds Try.pinned (OpenSpec.ofChange graphOrdersWrong)

/-- 'parleylaw18.RacesTell': WHATEVER THE INPUT: true; the input reads as it did. -/
def racesTellSpec : ChangeSpec := { name := "racesTell", fn := fun _ => fun
  | [d] => { results := [.lit (.bool true)], args := [d] }
  | _ => none }
def racesTellRow : OpenClaim := { program := "ytjifpjfinffamaa", sum := "60c091551fc14b9dd7219daeace59a810a0e153098d19749e67bd3a39f5b1f6f", func := "parley/parleylaw18.RacesTell", spec := "racesTell", unfollowed := true, recurses := true, apart := false }
def RacesTellSaid : Prop := racesTellRow.holds Try.pinned (OpenSpec.ofChange racesTellSpec)

/-- ITS FALSE NEIGHBOUR: 'it returns false'. Refute it at one input. -/
def racesTellWrong : ChangeSpec := { name := "racesTell", fn := fun _ => fun
  | [d] => { results := [.lit (.bool false)], args := [d] }
  | _ => none }
def RacesTellWrongFalsely : Prop := racesTellRow.holds Try.pinned (OpenSpec.ofChange racesTellWrong)

/-- 'parleylaw18.RacesAhead': WHATEVER THE INPUT: true; the input reads as it did. -/
def racesAheadSpec : ChangeSpec := { name := "racesAhead", fn := fun _ => fun
  | [d1, d2, d3] => { results := [.lit (.bool true)], args := [d1, d2, d3] }
  | _ => none }
def racesAheadRow : OpenClaim := { program := "ytjifpjfinffamaa", sum := "60c091551fc14b9dd7219daeace59a810a0e153098d19749e67bd3a39f5b1f6f", func := "parley/parleylaw18.RacesAhead", spec := "racesAhead", unfollowed := true, recurses := true, apart := false }
def RacesAheadSaid : Prop := racesAheadRow.holds Try.pinned (OpenSpec.ofChange racesAheadSpec)

/-- ITS FALSE NEIGHBOUR: 'it returns false'. Refute it at one input. -/
def racesAheadWrong : ChangeSpec := { name := "racesAhead", fn := fun _ => fun
  | [d1, d2, d3] => { results := [.lit (.bool false)], args := [d1, d2, d3] }
  | _ => none }
def RacesAheadWrongFalsely : Prop := racesAheadRow.holds Try.pinned (OpenSpec.ofChange racesAheadWrong)

/- THE SECOND FORM. 'bulk': how many values and letters a reading holds, each counted each time it is reached (what is shared counts as often as it is met; a slice's spare places count too). A statement '..UptoSaid' is the law's where the arguments, and the package variables that the reading takes, are together of bulk at most 1048576: NARROWER than '..Said'. Prove '..Said' where nothing that the law and all that it calls make is longer than what came in: it says more and counts as full. Else prove '..UptoSaid'. A law counts once. -/
mutual
def uptoBulk {H : Type} : DataW H → Nat
  | .lit (.string bytes) => bytes.length + 1
  | .lit _ => 1
  | .nil => 1
  | .ptr d => uptoBulk d + 1
  | .slice elems spare => uptoBulkAll elems + uptoBulkAll spare + 1
  | .agg parts => uptoBulkAll parts + 1
  | .iface _ d => uptoBulk d + 1
  | .map entries => uptoBulkEntries entries + 1
  | .held _ => 1
def uptoBulkAll {H : Type} : List (DataW H) → Nat
  | [] => 0
  | d :: r => uptoBulk d + uptoBulkAll r
def uptoBulkEntries {H : Type} : List (Lit × DataW H) → Nat
  | [] => 0
  | x :: r => uptoBulkEntry x + uptoBulkEntries r
def uptoBulkEntry {H : Type} : Lit × DataW H → Nat
  | (.string bytes, d) => bytes.length + uptoBulk d + 1
  | (_, d) => uptoBulk d + 1
 end
def uptoSmall : (H : Type) → List (DataW H) → Bool := fun _ ds => decide (uptoBulkAll ds ≤ 1048576)
def OpenSpec.upto (s : _root_.Go.ChangeSpec) : _root_.Go.OpenSpec := { _root_.Go.OpenSpec.ofChange s with cond := some uptoSmall }

/-- 'parleylaw15.WitnessBlocks', WHERE WHAT IT READS IS OF BULK AT MOST 1048576: true; the input reads as it did. -/
def witnessBlocksUptoRow : OpenClaim := { program := "ytjifpjfinffamaa", sum := "60c091551fc14b9dd7219daeace59a810a0e153098d19749e67bd3a39f5b1f6f", func := "parley/parleylaw15.WitnessBlocks", spec := "witnessBlocks", unfollowed := true, recurses := true, apart := false, narrowed := true }
def WitnessBlocksUptoSaid : Prop := witnessBlocksUptoRow.holds Try.pinned (OpenSpec.upto witnessBlocksSpec)

/-- 'parleylaw17.GraphRounds', WHERE WHAT IT READS IS OF BULK AT MOST 1048576: true; the input reads as it did. -/
def graphRoundsUptoRow : OpenClaim := { program := "ytjifpjfinffamaa", sum := "60c091551fc14b9dd7219daeace59a810a0e153098d19749e67bd3a39f5b1f6f", func := "parley/parleylaw17.GraphRounds", spec := "graphRounds", unfollowed := true, recurses := true, apart := false, narrowed := true }
def GraphRoundsUptoSaid : Prop := graphRoundsUptoRow.holds Try.pinned (OpenSpec.upto graphRoundsSpec)

/-- 'parleylaw17.GraphKeeps', WHERE WHAT IT READS IS OF BULK AT MOST 1048576: true; the input reads as it did. -/
def graphKeepsUptoRow : OpenClaim := { program := "ytjifpjfinffamaa", sum := "60c091551fc14b9dd7219daeace59a810a0e153098d19749e67bd3a39f5b1f6f", func := "parley/parleylaw17.GraphKeeps", spec := "graphKeeps", unfollowed := true, recurses := true, apart := false, narrowed := true }
def GraphKeepsUptoSaid : Prop := graphKeepsUptoRow.holds Try.pinned (OpenSpec.upto graphKeepsSpec)

/-- 'parleylaw17.GraphReaches', WHERE WHAT IT READS IS OF BULK AT MOST 1048576: true; the input reads as it did. -/
def graphReachesUptoRow : OpenClaim := { program := "ytjifpjfinffamaa", sum := "60c091551fc14b9dd7219daeace59a810a0e153098d19749e67bd3a39f5b1f6f", func := "parley/parleylaw17.GraphReaches", spec := "graphReaches", unfollowed := true, recurses := true, apart := false, narrowed := true }
def GraphReachesUptoSaid : Prop := graphReachesUptoRow.holds Try.pinned (OpenSpec.upto graphReachesSpec)

/-- 'parleylaw17.GraphTells', WHERE WHAT IT READS IS OF BULK AT MOST 1048576: true; the input reads as it did. -/
def graphTellsUptoRow : OpenClaim := { program := "ytjifpjfinffamaa", sum := "60c091551fc14b9dd7219daeace59a810a0e153098d19749e67bd3a39f5b1f6f", func := "parley/parleylaw17.GraphTells", spec := "graphTells", unfollowed := true, recurses := true, apart := false, narrowed := true }
def GraphTellsUptoSaid : Prop := graphTellsUptoRow.holds Try.pinned (OpenSpec.upto graphTellsSpec)

/-- 'parleylaw17.GraphOrders', WHERE WHAT IT READS IS OF BULK AT MOST 1048576: true; the input reads as it did. -/
def graphOrdersUptoRow : OpenClaim := { program := "ytjifpjfinffamaa", sum := "60c091551fc14b9dd7219daeace59a810a0e153098d19749e67bd3a39f5b1f6f", func := "parley/parleylaw17.GraphOrders", spec := "graphOrders", unfollowed := true, recurses := true, apart := false, narrowed := true }
def GraphOrdersUptoSaid : Prop := graphOrdersUptoRow.holds Try.pinned (OpenSpec.upto graphOrdersSpec)

/-- 'parleylaw18.RacesTell', WHERE WHAT IT READS IS OF BULK AT MOST 1048576: true; the input reads as it did. -/
def racesTellUptoRow : OpenClaim := { program := "ytjifpjfinffamaa", sum := "60c091551fc14b9dd7219daeace59a810a0e153098d19749e67bd3a39f5b1f6f", func := "parley/parleylaw18.RacesTell", spec := "racesTell", unfollowed := true, recurses := true, apart := false, narrowed := true }
def RacesTellUptoSaid : Prop := racesTellUptoRow.holds Try.pinned (OpenSpec.upto racesTellSpec)

/-- 'parleylaw18.RacesAhead', WHERE WHAT IT READS IS OF BULK AT MOST 1048576: true; the input reads as it did. -/
def racesAheadUptoRow : OpenClaim := { program := "ytjifpjfinffamaa", sum := "60c091551fc14b9dd7219daeace59a810a0e153098d19749e67bd3a39f5b1f6f", func := "parley/parleylaw18.RacesAhead", spec := "racesAhead", unfollowed := true, recurses := true, apart := false, narrowed := true }
def RacesAheadUptoSaid : Prop := racesAheadUptoRow.holds Try.pinned (OpenSpec.upto racesAheadSpec)

end Rows
end Go.Proofs.Ytjifpjfinffamaa
