/-
  No cell of these rows narrows 'for every input' (looked for: loops, veiled, ifaces, maps, wideKeys, modest, calm, conditions, laid).
  DERIVED. THE GIVEN ROWS OF THIS SEAT. 12 by the template 'for every input the law returns true; each argument reads behind the call as it read before'; 0 by the template 'total and deterministic' (their statements: YtdjfkehbknbocaaTotals.lean).
  GIVEN WITH THE SEED: the statements are not yours to turn. If you find one false, say at which input.
  Laid BY PROGRAM, IN A SANDBOX (cutbox-rows.mjs): the forced cells as the released guide's own fill.sh prints them over the translation f0240a340269df33… (all of the seat's roots in one cut). By AI agents, Wed Nov 11 2026. No macro, syntax, notation, axiom, sorry.
-/
import Derived.Test.YtdjfkehbknbocaaChecked
import GoSem.Claim
import GoSem.ClaimJoined
import GoSem.ClaimMapViews
import Derived.JoinedTies
import Derived.KernelRfl
namespace Go.Proofs.Ytdjfkehbknbocaa
/- THE CELL 'sum', in the pinned program and in every row, IS THE sha256 OF THE DUMP (.gsa) THAT YtdjfkehbknbocaaProg.lean LOADS. Nothing in Lean hashes anything: it is a label: what it is worth is what the hold of that sum in a sandbox is worth. -/
noncomputable def Try.pinned : Pinned := { name := "ytdjfkehbknbocaa", sum := "f0240a340269df33ebf02acab8544b6d559afc8168f527fa3754fb4df4594103", checked := Try.checked }
namespace Rows
def none {H : Type} : Left H := { results := [], args := [] }

/-- 'decklelaw09.FaultMeets': WHATEVER THE INPUT: true; the input reads as it did. -/
def faultMeetsSpec : ChangeSpec := { name := "faultMeets", fn := fun _ => fun
  | [d1, d2, d3] => { results := [.lit (.bool true)], args := [d1, d2, d3] }
  | _ => none }
def faultMeetsRow : OpenClaim := { program := "ytdjfkehbknbocaa", sum := "f0240a340269df33ebf02acab8544b6d559afc8168f527fa3754fb4df4594103", func := "deckle/decklelaw09.FaultMeets", spec := "faultMeets", unfollowed := true, recurses := true, apart := false }
def FaultMeetsSaid : Prop := faultMeetsRow.holds Try.pinned (OpenSpec.ofChange faultMeetsSpec)

/-- ITS FALSE NEIGHBOUR: 'it returns false'. Refute it at one input. -/
def faultMeetsWrong : ChangeSpec := { name := "faultMeets", fn := fun _ => fun
  | [d1, d2, d3] => { results := [.lit (.bool false)], args := [d1, d2, d3] }
  | _ => none }
def FaultMeetsWrongFalsely : Prop := faultMeetsRow.holds Try.pinned (OpenSpec.ofChange faultMeetsWrong)

/-- 'decklelaw09.FaultTwice': WHATEVER THE INPUT: true; the input reads as it did. -/
def faultTwiceSpec : ChangeSpec := { name := "faultTwice", fn := fun _ => fun
  | [d1, d2] => { results := [.lit (.bool true)], args := [d1, d2] }
  | _ => none }
def faultTwiceRow : OpenClaim := { program := "ytdjfkehbknbocaa", sum := "f0240a340269df33ebf02acab8544b6d559afc8168f527fa3754fb4df4594103", func := "deckle/decklelaw09.FaultTwice", spec := "faultTwice", unfollowed := true, recurses := true, apart := false }
def FaultTwiceSaid : Prop := faultTwiceRow.holds Try.pinned (OpenSpec.ofChange faultTwiceSpec)

/-- ITS FALSE NEIGHBOUR: 'it returns false'. Refute it at one input. -/
def faultTwiceWrong : ChangeSpec := { name := "faultTwice", fn := fun _ => fun
  | [d1, d2] => { results := [.lit (.bool false)], args := [d1, d2] }
  | _ => none }
def FaultTwiceWrongFalsely : Prop := faultTwiceRow.holds Try.pinned (OpenSpec.ofChange faultTwiceWrong)

/-- 'decklelaw40.HealthTells': WHATEVER THE INPUT: true; the input reads as it did. -/
def healthTellsSpec : ChangeSpec := { name := "healthTells", fn := fun _ => fun
  | [d1, d2, d3] => { results := [.lit (.bool true)], args := [d1, d2, d3] }
  | _ => none }
def healthTellsRow : OpenClaim := { program := "ytdjfkehbknbocaa", sum := "f0240a340269df33ebf02acab8544b6d559afc8168f527fa3754fb4df4594103", func := "deckle/decklelaw40.HealthTells", spec := "healthTells", recurses := true, apart := false }
def HealthTellsSaid : Prop := healthTellsRow.holds Try.pinned (OpenSpec.ofChange healthTellsSpec)

/-- ITS FALSE NEIGHBOUR: 'it returns false'. Refute it at one input. -/
def healthTellsWrong : ChangeSpec := { name := "healthTells", fn := fun _ => fun
  | [d1, d2, d3] => { results := [.lit (.bool false)], args := [d1, d2, d3] }
  | _ => none }
def HealthTellsWrongFalsely : Prop := healthTellsRow.holds Try.pinned (OpenSpec.ofChange healthTellsWrong)

/-- 'decklelaw40.HealthBetween': WHATEVER THE INPUT: true; the input reads as it did. -/
def healthBetweenSpec : ChangeSpec := { name := "healthBetween", fn := fun _ => fun
  | [d1, d2, d3] => { results := [.lit (.bool true)], args := [d1, d2, d3] }
  | _ => none }
def healthBetweenRow : OpenClaim := { program := "ytdjfkehbknbocaa", sum := "f0240a340269df33ebf02acab8544b6d559afc8168f527fa3754fb4df4594103", func := "deckle/decklelaw40.HealthBetween", spec := "healthBetween", recurses := true, apart := false }
def HealthBetweenSaid : Prop := healthBetweenRow.holds Try.pinned (OpenSpec.ofChange healthBetweenSpec)

/-- ITS FALSE NEIGHBOUR: 'it returns false'. Refute it at one input. -/
def healthBetweenWrong : ChangeSpec := { name := "healthBetween", fn := fun _ => fun
  | [d1, d2, d3] => { results := [.lit (.bool false)], args := [d1, d2, d3] }
  | _ => none }
def HealthBetweenWrongFalsely : Prop := healthBetweenRow.holds Try.pinned (OpenSpec.ofChange healthBetweenWrong)

/-- 'decklelaw40.HealthFalls': WHATEVER THE INPUT: true; the input reads as it did. -/
def healthFallsSpec : ChangeSpec := { name := "healthFalls", fn := fun _ => fun
  | [d1, d2, d3] => { results := [.lit (.bool true)], args := [d1, d2, d3] }
  | _ => none }
def healthFallsRow : OpenClaim := { program := "ytdjfkehbknbocaa", sum := "f0240a340269df33ebf02acab8544b6d559afc8168f527fa3754fb4df4594103", func := "deckle/decklelaw40.HealthFalls", spec := "healthFalls", recurses := true, apart := false }
def HealthFallsSaid : Prop := healthFallsRow.holds Try.pinned (OpenSpec.ofChange healthFallsSpec)

/-- ITS FALSE NEIGHBOUR: 'it returns false'. Refute it at one input. -/
def healthFallsWrong : ChangeSpec := { name := "healthFalls", fn := fun _ => fun
  | [d1, d2, d3] => { results := [.lit (.bool false)], args := [d1, d2, d3] }
  | _ => none }
def HealthFallsWrongFalsely : Prop := healthFallsRow.holds Try.pinned (OpenSpec.ofChange healthFallsWrong)

/-- 'decklelaw09.FaultFits': WHATEVER THE INPUT: true; the input reads as it did. -/
def faultFitsSpec : ChangeSpec := { name := "faultFits", fn := fun _ => fun
  | [d1, d2, d3] => { results := [.lit (.bool true)], args := [d1, d2, d3] }
  | _ => none }
def faultFitsRow : OpenClaim := { program := "ytdjfkehbknbocaa", sum := "f0240a340269df33ebf02acab8544b6d559afc8168f527fa3754fb4df4594103", func := "deckle/decklelaw09.FaultFits", spec := "faultFits", unfollowed := true, recurses := true, apart := false }
def FaultFitsSaid : Prop := faultFitsRow.holds Try.pinned (OpenSpec.ofChange faultFitsSpec)

/-- ITS FALSE NEIGHBOUR: 'it returns false'. Refute it at one input. -/
def faultFitsWrong : ChangeSpec := { name := "faultFits", fn := fun _ => fun
  | [d1, d2, d3] => { results := [.lit (.bool false)], args := [d1, d2, d3] }
  | _ => none }
def FaultFitsWrongFalsely : Prop := faultFitsRow.holds Try.pinned (OpenSpec.ofChange faultFitsWrong)

/-- 'decklelaw17.BestMaps': WHATEVER THE INPUT: true; the input reads as it did. -/
def bestMapsSpec : ChangeSpec := { name := "bestMaps", fn := fun _ => fun
  | [d1, d2, d3] => { results := [.lit (.bool true)], args := [d1, d2, d3] }
  | _ => none }
def bestMapsRow : OpenClaim := { program := "ytdjfkehbknbocaa", sum := "f0240a340269df33ebf02acab8544b6d559afc8168f527fa3754fb4df4594103", func := "deckle/decklelaw17.BestMaps", spec := "bestMaps", unfollowed := true, recurses := true, apart := false }
def BestMapsSaid : Prop := bestMapsRow.holds Try.pinned (OpenSpec.ofChange bestMapsSpec)

/-- ITS FALSE NEIGHBOUR: 'it returns false'. Refute it at one input. -/
def bestMapsWrong : ChangeSpec := { name := "bestMaps", fn := fun _ => fun
  | [d1, d2, d3] => { results := [.lit (.bool false)], args := [d1, d2, d3] }
  | _ => none }
def BestMapsWrongFalsely : Prop := bestMapsRow.holds Try.pinned (OpenSpec.ofChange bestMapsWrong)

/-- 'decklelaw17.BestGreatest': WHATEVER THE INPUT: true; the input reads as it did. -/
def bestGreatestSpec : ChangeSpec := { name := "bestGreatest", fn := fun _ => fun
  | [d1, d2] => { results := [.lit (.bool true)], args := [d1, d2] }
  | _ => none }
def bestGreatestRow : OpenClaim := { program := "ytdjfkehbknbocaa", sum := "f0240a340269df33ebf02acab8544b6d559afc8168f527fa3754fb4df4594103", func := "deckle/decklelaw17.BestGreatest", spec := "bestGreatest", unfollowed := true, recurses := true, apart := false }
def BestGreatestSaid : Prop := bestGreatestRow.holds Try.pinned (OpenSpec.ofChange bestGreatestSpec)

/-- ITS FALSE NEIGHBOUR: 'it returns false'. Refute it at one input. -/
def bestGreatestWrong : ChangeSpec := { name := "bestGreatest", fn := fun _ => fun
  | [d1, d2] => { results := [.lit (.bool false)], args := [d1, d2] }
  | _ => none }
def BestGreatestWrongFalsely : Prop := bestGreatestRow.holds Try.pinned (OpenSpec.ofChange bestGreatestWrong)

/-- 'decklelaw17.BestFloor': WHATEVER THE INPUT: true; the input reads as it did. -/
def bestFloorSpec : ChangeSpec := { name := "bestFloor", fn := fun _ => fun
  | [d1, d2] => { results := [.lit (.bool true)], args := [d1, d2] }
  | _ => none }
def bestFloorRow : OpenClaim := { program := "ytdjfkehbknbocaa", sum := "f0240a340269df33ebf02acab8544b6d559afc8168f527fa3754fb4df4594103", func := "deckle/decklelaw17.BestFloor", spec := "bestFloor", unfollowed := true, recurses := true, apart := false }
def BestFloorSaid : Prop := bestFloorRow.holds Try.pinned (OpenSpec.ofChange bestFloorSpec)

/-- ITS FALSE NEIGHBOUR: 'it returns false'. Refute it at one input. -/
def bestFloorWrong : ChangeSpec := { name := "bestFloor", fn := fun _ => fun
  | [d1, d2] => { results := [.lit (.bool false)], args := [d1, d2] }
  | _ => none }
def BestFloorWrongFalsely : Prop := bestFloorRow.holds Try.pinned (OpenSpec.ofChange bestFloorWrong)

/-- 'decklelaw17.BestOthers': WHATEVER THE INPUT: true; the input reads as it did. -/
def bestOthersSpec : ChangeSpec := { name := "bestOthers", fn := fun _ => fun
  | [d1, d2] => { results := [.lit (.bool true)], args := [d1, d2] }
  | _ => none }
def bestOthersRow : OpenClaim := { program := "ytdjfkehbknbocaa", sum := "f0240a340269df33ebf02acab8544b6d559afc8168f527fa3754fb4df4594103", func := "deckle/decklelaw17.BestOthers", spec := "bestOthers", unfollowed := true, recurses := true, apart := false }
def BestOthersSaid : Prop := bestOthersRow.holds Try.pinned (OpenSpec.ofChange bestOthersSpec)

/-- ITS FALSE NEIGHBOUR: 'it returns false'. Refute it at one input. -/
def bestOthersWrong : ChangeSpec := { name := "bestOthers", fn := fun _ => fun
  | [d1, d2] => { results := [.lit (.bool false)], args := [d1, d2] }
  | _ => none }
def BestOthersWrongFalsely : Prop := bestOthersRow.holds Try.pinned (OpenSpec.ofChange bestOthersWrong)

/-- 'decklelaw24.VictimChooses': WHATEVER THE INPUT: true; the input reads as it did. -/
def victimChoosesSpec : ChangeSpec := { name := "victimChooses", fn := fun _ => fun
  | [d1, d2, d3] => { results := [.lit (.bool true)], args := [d1, d2, d3] }
  | _ => none }
def victimChoosesRow : OpenClaim := { program := "ytdjfkehbknbocaa", sum := "f0240a340269df33ebf02acab8544b6d559afc8168f527fa3754fb4df4594103", func := "deckle/decklelaw24.VictimChooses", spec := "victimChooses", unfollowed := true, recurses := true, apart := false }
def VictimChoosesSaid : Prop := victimChoosesRow.holds Try.pinned (OpenSpec.ofChange victimChoosesSpec)

/-- ITS FALSE NEIGHBOUR: 'it returns false'. Refute it at one input. -/
def victimChoosesWrong : ChangeSpec := { name := "victimChooses", fn := fun _ => fun
  | [d1, d2, d3] => { results := [.lit (.bool false)], args := [d1, d2, d3] }
  | _ => none }
def VictimChoosesWrongFalsely : Prop := victimChoosesRow.holds Try.pinned (OpenSpec.ofChange victimChoosesWrong)

/-- 'decklelaw24.VictimRoom': WHATEVER THE INPUT: true; the input reads as it did. -/
def victimRoomSpec : ChangeSpec := { name := "victimRoom", fn := fun _ => fun
  | [d1, d2] => { results := [.lit (.bool true)], args := [d1, d2] }
  | _ => none }
def victimRoomRow : OpenClaim := { program := "ytdjfkehbknbocaa", sum := "f0240a340269df33ebf02acab8544b6d559afc8168f527fa3754fb4df4594103", func := "deckle/decklelaw24.VictimRoom", spec := "victimRoom", unfollowed := true, recurses := true, apart := false }
def VictimRoomSaid : Prop := victimRoomRow.holds Try.pinned (OpenSpec.ofChange victimRoomSpec)

/-- ITS FALSE NEIGHBOUR: 'it returns false'. Refute it at one input. -/
def victimRoomWrong : ChangeSpec := { name := "victimRoom", fn := fun _ => fun
  | [d1, d2] => { results := [.lit (.bool false)], args := [d1, d2] }
  | _ => none }
def VictimRoomWrongFalsely : Prop := victimRoomRow.holds Try.pinned (OpenSpec.ofChange victimRoomWrong)

/- THE SECOND FORM. 'bulk': how many values and letters a reading holds, each counted each time it is reached (what is shared counts as often as it is met; a slice's spare places count too). A statement '..UptoSaid' is the law's where the arguments, and the package variables that the reading takes, are together of bulk at most 1048576: NARROWER than '..Said'. Prove '..Said' where nothing that the law and all that it calls make is longer than what came in: it says more and counts as full. Else prove '..UptoSaid'. A law counts once. -/
mutual
def uptoBulk {H : Type} : DataW H → Nat
  | .lit (.string bytes) => bytes.length + 1
  | .lit _ => 1
  | .nil => 1
  | .ptr d => uptoBulk d + 1
  | .slice elems spare => uptoBulkAll elems + uptoBulkAll spare + 1
  | .agg parts => uptoBulkAll parts + 1
  | .iface _ d => uptoBulk d + 1
  | .map entries => uptoBulkEntries entries + 1
  | .held _ => 1
def uptoBulkAll {H : Type} : List (DataW H) → Nat
  | [] => 0
  | d :: r => uptoBulk d + uptoBulkAll r
def uptoBulkEntries {H : Type} : List (Lit × DataW H) → Nat
  | [] => 0
  | x :: r => uptoBulkEntry x + uptoBulkEntries r
def uptoBulkEntry {H : Type} : Lit × DataW H → Nat
  | (.string bytes, d) => bytes.length + uptoBulk d + 1
  | (_, d) => uptoBulk d + 1
 end
def uptoSmall : (H : Type) → List (DataW H) → Bool := fun _ ds => decide (uptoBulkAll ds ≤ 1048576)
def OpenSpec.upto (s : _root_.Go.ChangeSpec) : _root_.Go.OpenSpec := { _root_.Go.OpenSpec.ofChange s with cond := some uptoSmall }

/-- 'decklelaw09.FaultMeets', WHERE WHAT IT READS IS OF BULK AT MOST 1048576: true; the input reads as it did. -/
def faultMeetsUptoRow : OpenClaim := { program := "ytdjfkehbknbocaa", sum := "f0240a340269df33ebf02acab8544b6d559afc8168f527fa3754fb4df4594103", func := "deckle/decklelaw09.FaultMeets", spec := "faultMeets", unfollowed := true, recurses := true, apart := false, narrowed := true }
def FaultMeetsUptoSaid : Prop := faultMeetsUptoRow.holds Try.pinned (OpenSpec.upto faultMeetsSpec)

/-- 'decklelaw09.FaultTwice', WHERE WHAT IT READS IS OF BULK AT MOST 1048576: true; the input reads as it did. -/
def faultTwiceUptoRow : OpenClaim := { program := "ytdjfkehbknbocaa", sum := "f0240a340269df33ebf02acab8544b6d559afc8168f527fa3754fb4df4594103", func := "deckle/decklelaw09.FaultTwice", spec := "faultTwice", unfollowed := true, recurses := true, apart := false, narrowed := true }
def FaultTwiceUptoSaid : Prop := faultTwiceUptoRow.holds Try.pinned (OpenSpec.upto faultTwiceSpec)

/-- 'decklelaw40.HealthTells', WHERE WHAT IT READS IS OF BULK AT MOST 1048576: true; the input reads as it did. -/
def healthTellsUptoRow : OpenClaim := { program := "ytdjfkehbknbocaa", sum := "f0240a340269df33ebf02acab8544b6d559afc8168f527fa3754fb4df4594103", func := "deckle/decklelaw40.HealthTells", spec := "healthTells", recurses := true, apart := false, narrowed := true }
def HealthTellsUptoSaid : Prop := healthTellsUptoRow.holds Try.pinned (OpenSpec.upto healthTellsSpec)

/-- 'decklelaw40.HealthBetween', WHERE WHAT IT READS IS OF BULK AT MOST 1048576: true; the input reads as it did. -/
def healthBetweenUptoRow : OpenClaim := { program := "ytdjfkehbknbocaa", sum := "f0240a340269df33ebf02acab8544b6d559afc8168f527fa3754fb4df4594103", func := "deckle/decklelaw40.HealthBetween", spec := "healthBetween", recurses := true, apart := false, narrowed := true }
def HealthBetweenUptoSaid : Prop := healthBetweenUptoRow.holds Try.pinned (OpenSpec.upto healthBetweenSpec)

/-- 'decklelaw40.HealthFalls', WHERE WHAT IT READS IS OF BULK AT MOST 1048576: true; the input reads as it did. -/
def healthFallsUptoRow : OpenClaim := { program := "ytdjfkehbknbocaa", sum := "f0240a340269df33ebf02acab8544b6d559afc8168f527fa3754fb4df4594103", func := "deckle/decklelaw40.HealthFalls", spec := "healthFalls", recurses := true, apart := false, narrowed := true }
def HealthFallsUptoSaid : Prop := healthFallsUptoRow.holds Try.pinned (OpenSpec.upto healthFallsSpec)

/-- 'decklelaw09.FaultFits', WHERE WHAT IT READS IS OF BULK AT MOST 1048576: true; the input reads as it did. -/
def faultFitsUptoRow : OpenClaim := { program := "ytdjfkehbknbocaa", sum := "f0240a340269df33ebf02acab8544b6d559afc8168f527fa3754fb4df4594103", func := "deckle/decklelaw09.FaultFits", spec := "faultFits", unfollowed := true, recurses := true, apart := false, narrowed := true }
def FaultFitsUptoSaid : Prop := faultFitsUptoRow.holds Try.pinned (OpenSpec.upto faultFitsSpec)

/-- 'decklelaw17.BestMaps', WHERE WHAT IT READS IS OF BULK AT MOST 1048576: true; the input reads as it did. -/
def bestMapsUptoRow : OpenClaim := { program := "ytdjfkehbknbocaa", sum := "f0240a340269df33ebf02acab8544b6d559afc8168f527fa3754fb4df4594103", func := "deckle/decklelaw17.BestMaps", spec := "bestMaps", unfollowed := true, recurses := true, apart := false, narrowed := true }
def BestMapsUptoSaid : Prop := bestMapsUptoRow.holds Try.pinned (OpenSpec.upto bestMapsSpec)

/-- 'decklelaw17.BestGreatest', WHERE WHAT IT READS IS OF BULK AT MOST 1048576: true; the input reads as it did. -/
def bestGreatestUptoRow : OpenClaim := { program := "ytdjfkehbknbocaa", sum := "f0240a340269df33ebf02acab8544b6d559afc8168f527fa3754fb4df4594103", func := "deckle/decklelaw17.BestGreatest", spec := "bestGreatest", unfollowed := true, recurses := true, apart := false, narrowed := true }
def BestGreatestUptoSaid : Prop := bestGreatestUptoRow.holds Try.pinned (OpenSpec.upto bestGreatestSpec)

/-- 'decklelaw17.BestFloor', WHERE WHAT IT READS IS OF BULK AT MOST 1048576: true; the input reads as it did. -/
def bestFloorUptoRow : OpenClaim := { program := "ytdjfkehbknbocaa", sum := "f0240a340269df33ebf02acab8544b6d559afc8168f527fa3754fb4df4594103", func := "deckle/decklelaw17.BestFloor", spec := "bestFloor", unfollowed := true, recurses := true, apart := false, narrowed := true }
def BestFloorUptoSaid : Prop := bestFloorUptoRow.holds Try.pinned (OpenSpec.upto bestFloorSpec)

/-- 'decklelaw17.BestOthers', WHERE WHAT IT READS IS OF BULK AT MOST 1048576: true; the input reads as it did. -/
def bestOthersUptoRow : OpenClaim := { program := "ytdjfkehbknbocaa", sum := "f0240a340269df33ebf02acab8544b6d559afc8168f527fa3754fb4df4594103", func := "deckle/decklelaw17.BestOthers", spec := "bestOthers", unfollowed := true, recurses := true, apart := false, narrowed := true }
def BestOthersUptoSaid : Prop := bestOthersUptoRow.holds Try.pinned (OpenSpec.upto bestOthersSpec)

/-- 'decklelaw24.VictimChooses', WHERE WHAT IT READS IS OF BULK AT MOST 1048576: true; the input reads as it did. -/
def victimChoosesUptoRow : OpenClaim := { program := "ytdjfkehbknbocaa", sum := "f0240a340269df33ebf02acab8544b6d559afc8168f527fa3754fb4df4594103", func := "deckle/decklelaw24.VictimChooses", spec := "victimChooses", unfollowed := true, recurses := true, apart := false, narrowed := true }
def VictimChoosesUptoSaid : Prop := victimChoosesUptoRow.holds Try.pinned (OpenSpec.upto victimChoosesSpec)

/-- 'decklelaw24.VictimRoom', WHERE WHAT IT READS IS OF BULK AT MOST 1048576: true; the input reads as it did. -/
def victimRoomUptoRow : OpenClaim := { program := "ytdjfkehbknbocaa", sum := "f0240a340269df33ebf02acab8544b6d559afc8168f527fa3754fb4df4594103", func := "deckle/decklelaw24.VictimRoom", spec := "victimRoom", unfollowed := true, recurses := true, apart := false, narrowed := true }
def VictimRoomUptoSaid : Prop := victimRoomUptoRow.holds Try.pinned (OpenSpec.upto victimRoomSpec)

end Rows
end Go.Proofs.Ytdjfkehbknbocaa
