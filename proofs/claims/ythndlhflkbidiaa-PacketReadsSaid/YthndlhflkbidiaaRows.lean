/-
  No cell of these rows narrows 'for every input' (looked for: loops, veiled, ifaces, maps, wideKeys, modest, calm, conditions, laid).
  DERIVED. THE GIVEN ROWS OF THIS SEAT. 23 by the template 'for every input the law returns true; each argument reads behind the call as it read before'; 0 by the template 'total and deterministic' (their statements: YthndlhflkbidiaaTotals.lean).
  GIVEN WITH THE SEED: the statements are not yours to turn. If you find one false, say at which input.
  Laid BY PROGRAM, IN A SANDBOX (cutbox-rows.mjs): the forced cells as the released guide's own fill.sh prints them over the translation 7f91e585bfd175bd… (all of the seat's roots in one cut). By AI agents, Wed Nov 11 2026. No macro, syntax, notation, axiom, sorry.
-/
import Derived.Test.YthndlhflkbidiaaChecked
import GoSem.Claim
import GoSem.ClaimJoined
import GoSem.ClaimMapViews
import Derived.JoinedTies
import Derived.KernelRfl
namespace Go.Proofs.Ythndlhflkbidiaa
/- THE CELL 'sum', in the pinned program and in every row, IS THE sha256 OF THE DUMP (.gsa) THAT YthndlhflkbidiaaProg.lean LOADS. Nothing in Lean hashes anything: it is a label: what it is worth is what the hold of that sum in a sandbox is worth. -/
noncomputable def Try.pinned : Pinned := { name := "ythndlhflkbidiaa", sum := "7f91e585bfd175bdd404a44c13bd70b48b16b613a2681fcb4e87438cb190e9f6", checked := Try.checked }
namespace Rows
def none {H : Type} : Left H := { results := [], args := [] }

/-- 'fairleadlaw01.OctetGets': WHATEVER THE INPUT: true; the input reads as it did. -/
def octetGetsSpec : ChangeSpec := { name := "octetGets", fn := fun _ => fun
  | [d1, d2, d3] => { results := [.lit (.bool true)], args := [d1, d2, d3] }
  | _ => none }
def octetGetsRow : OpenClaim := { program := "ythndlhflkbidiaa", sum := "7f91e585bfd175bdd404a44c13bd70b48b16b613a2681fcb4e87438cb190e9f6", func := "fairlead/fairleadlaw01.OctetGets", spec := "octetGets", apart := false }
def OctetGetsSaid : Prop := octetGetsRow.holds Try.pinned (OpenSpec.ofChange octetGetsSpec)

/-- ITS FALSE NEIGHBOUR: 'it returns false'. Refute it at one input. -/
def octetGetsWrong : ChangeSpec := { name := "octetGets", fn := fun _ => fun
  | [d1, d2, d3] => { results := [.lit (.bool false)], args := [d1, d2, d3] }
  | _ => none }
def OctetGetsWrongFalsely : Prop := octetGetsRow.holds Try.pinned (OpenSpec.ofChange octetGetsWrong)

/-- 'fairleadlaw01.OctetPuts': WHATEVER THE INPUT: true; the input reads as it did. -/
def octetPutsSpec : ChangeSpec := { name := "octetPuts", fn := fun _ => fun
  | [d1, d2, d3] => { results := [.lit (.bool true)], args := [d1, d2, d3] }
  | _ => none }
def octetPutsRow : OpenClaim := { program := "ythndlhflkbidiaa", sum := "7f91e585bfd175bdd404a44c13bd70b48b16b613a2681fcb4e87438cb190e9f6", func := "fairlead/fairleadlaw01.OctetPuts", spec := "octetPuts", apart := false }
def OctetPutsSaid : Prop := octetPutsRow.holds Try.pinned (OpenSpec.ofChange octetPutsSpec)

/-- ITS FALSE NEIGHBOUR: 'it returns false'. Refute it at one input. -/
def octetPutsWrong : ChangeSpec := { name := "octetPuts", fn := fun _ => fun
  | [d1, d2, d3] => { results := [.lit (.bool false)], args := [d1, d2, d3] }
  | _ => none }
def OctetPutsWrongFalsely : Prop := octetPutsRow.holds Try.pinned (OpenSpec.ofChange octetPutsWrong)

/-- 'fairleadlaw01.OctetCuts': WHATEVER THE INPUT: true; the input reads as it did. -/
def octetCutsSpec : ChangeSpec := { name := "octetCuts", fn := fun _ => fun
  | [d1, d2, d3] => { results := [.lit (.bool true)], args := [d1, d2, d3] }
  | _ => none }
def octetCutsRow : OpenClaim := { program := "ythndlhflkbidiaa", sum := "7f91e585bfd175bdd404a44c13bd70b48b16b613a2681fcb4e87438cb190e9f6", func := "fairlead/fairleadlaw01.OctetCuts", spec := "octetCuts", apart := false }
def OctetCutsSaid : Prop := octetCutsRow.holds Try.pinned (OpenSpec.ofChange octetCutsSpec)

/-- ITS FALSE NEIGHBOUR: 'it returns false'. Refute it at one input. -/
def octetCutsWrong : ChangeSpec := { name := "octetCuts", fn := fun _ => fun
  | [d1, d2, d3] => { results := [.lit (.bool false)], args := [d1, d2, d3] }
  | _ => none }
def OctetCutsWrongFalsely : Prop := octetCutsRow.holds Try.pinned (OpenSpec.ofChange octetCutsWrong)

/-- 'fairleadlaw01.OctetPads': WHATEVER THE INPUT: true; the input reads as it did. -/
def octetPadsSpec : ChangeSpec := { name := "octetPads", fn := fun _ => fun
  | [d] => { results := [.lit (.bool true)], args := [d] }
  | _ => none }
def octetPadsRow : OpenClaim := { program := "ythndlhflkbidiaa", sum := "7f91e585bfd175bdd404a44c13bd70b48b16b613a2681fcb4e87438cb190e9f6", func := "fairlead/fairleadlaw01.OctetPads", spec := "octetPads", apart := false }
def OctetPadsSaid : Prop := octetPadsRow.holds Try.pinned (OpenSpec.ofChange octetPadsSpec)

/-- ITS FALSE NEIGHBOUR: 'it returns false'. Refute it at one input. -/
def octetPadsWrong : ChangeSpec := { name := "octetPads", fn := fun _ => fun
  | [d] => { results := [.lit (.bool false)], args := [d] }
  | _ => none }
def OctetPadsWrongFalsely : Prop := octetPadsRow.holds Try.pinned (OpenSpec.ofChange octetPadsWrong)

/-- 'fairleadlaw01.OctetRounds': WHATEVER THE INPUT: true; the input reads as it did. -/
def octetRoundsSpec : ChangeSpec := { name := "octetRounds", fn := fun _ => fun
  | [d] => { results := [.lit (.bool true)], args := [d] }
  | _ => none }
def octetRoundsRow : OpenClaim := { program := "ythndlhflkbidiaa", sum := "7f91e585bfd175bdd404a44c13bd70b48b16b613a2681fcb4e87438cb190e9f6", func := "fairlead/fairleadlaw01.OctetRounds", spec := "octetRounds", apart := false }
def OctetRoundsSaid : Prop := octetRoundsRow.holds Try.pinned (OpenSpec.ofChange octetRoundsSpec)

/-- ITS FALSE NEIGHBOUR: 'it returns false'. Refute it at one input. -/
def octetRoundsWrong : ChangeSpec := { name := "octetRounds", fn := fun _ => fun
  | [d] => { results := [.lit (.bool false)], args := [d] }
  | _ => none }
def OctetRoundsWrongFalsely : Prop := octetRoundsRow.holds Try.pinned (OpenSpec.ofChange octetRoundsWrong)

/-- 'fairleadlaw10.PacketFits': WHATEVER THE INPUT: true; the input reads as it did. -/
def packetFitsSpec : ChangeSpec := { name := "packetFits", fn := fun _ => fun
  | [d1, d2, d3] => { results := [.lit (.bool true)], args := [d1, d2, d3] }
  | _ => none }
def packetFitsRow : OpenClaim := { program := "ythndlhflkbidiaa", sum := "7f91e585bfd175bdd404a44c13bd70b48b16b613a2681fcb4e87438cb190e9f6", func := "fairlead/fairleadlaw10.PacketFits", spec := "packetFits", unfollowed := true, recurses := true, apart := false }
def PacketFitsSaid : Prop := packetFitsRow.holds Try.pinned (OpenSpec.ofChange packetFitsSpec)

/-- ITS FALSE NEIGHBOUR: 'it returns false'. Refute it at one input. -/
def packetFitsWrong : ChangeSpec := { name := "packetFits", fn := fun _ => fun
  | [d1, d2, d3] => { results := [.lit (.bool false)], args := [d1, d2, d3] }
  | _ => none }
def PacketFitsWrongFalsely : Prop := packetFitsRow.holds Try.pinned (OpenSpec.ofChange packetFitsWrong)

/-- 'fairleadlaw01.OctetBack': WHATEVER THE INPUT: true; the input reads as it did. -/
def octetBackSpec : ChangeSpec := { name := "octetBack", fn := fun _ => fun
  | [d1, d2] => { results := [.lit (.bool true)], args := [d1, d2] }
  | _ => none }
def octetBackRow : OpenClaim := { program := "ythndlhflkbidiaa", sum := "7f91e585bfd175bdd404a44c13bd70b48b16b613a2681fcb4e87438cb190e9f6", func := "fairlead/fairleadlaw01.OctetBack", spec := "octetBack", apart := false }
def OctetBackSaid : Prop := octetBackRow.holds Try.pinned (OpenSpec.ofChange octetBackSpec)

/-- ITS FALSE NEIGHBOUR: 'it returns false'. Refute it at one input. -/
def octetBackWrong : ChangeSpec := { name := "octetBack", fn := fun _ => fun
  | [d1, d2] => { results := [.lit (.bool false)], args := [d1, d2] }
  | _ => none }
def OctetBackWrongFalsely : Prop := octetBackRow.holds Try.pinned (OpenSpec.ofChange octetBackWrong)

/-- 'fairleadlaw10.PacketAlone': WHATEVER THE INPUT: true; the input reads as it did. -/
def packetAloneSpec : ChangeSpec := { name := "packetAlone", fn := fun _ => fun
  | [d1, d2] => { results := [.lit (.bool true)], args := [d1, d2] }
  | _ => none }
def packetAloneRow : OpenClaim := { program := "ythndlhflkbidiaa", sum := "7f91e585bfd175bdd404a44c13bd70b48b16b613a2681fcb4e87438cb190e9f6", func := "fairlead/fairleadlaw10.PacketAlone", spec := "packetAlone", unfollowed := true, recurses := true, apart := false }
def PacketAloneSaid : Prop := packetAloneRow.holds Try.pinned (OpenSpec.ofChange packetAloneSpec)

/-- ITS FALSE NEIGHBOUR: 'it returns false'. Refute it at one input. -/
def packetAloneWrong : ChangeSpec := { name := "packetAlone", fn := fun _ => fun
  | [d1, d2] => { results := [.lit (.bool false)], args := [d1, d2] }
  | _ => none }
def PacketAloneWrongFalsely : Prop := packetAloneRow.holds Try.pinned (OpenSpec.ofChange packetAloneWrong)

/-- 'fairleadlaw01.OctetOrder': WHATEVER THE INPUT: true; the input reads as it did. -/
def octetOrderSpec : ChangeSpec := { name := "octetOrder", fn := fun _ => fun
  | [d1, d2] => { results := [.lit (.bool true)], args := [d1, d2] }
  | _ => none }
def octetOrderRow : OpenClaim := { program := "ythndlhflkbidiaa", sum := "7f91e585bfd175bdd404a44c13bd70b48b16b613a2681fcb4e87438cb190e9f6", func := "fairlead/fairleadlaw01.OctetOrder", spec := "octetOrder", apart := false }
def OctetOrderSaid : Prop := octetOrderRow.holds Try.pinned (OpenSpec.ofChange octetOrderSpec)

/-- ITS FALSE NEIGHBOUR: 'it returns false'. Refute it at one input. -/
def octetOrderWrong : ChangeSpec := { name := "octetOrder", fn := fun _ => fun
  | [d1, d2] => { results := [.lit (.bool false)], args := [d1, d2] }
  | _ => none }
def OctetOrderWrongFalsely : Prop := octetOrderRow.holds Try.pinned (OpenSpec.ofChange octetOrderWrong)

/-- 'fairleadlaw01.OctetParts': WHATEVER THE INPUT: true; the input reads as it did. -/
def octetPartsSpec : ChangeSpec := { name := "octetParts", fn := fun _ => fun
  | [d] => { results := [.lit (.bool true)], args := [d] }
  | _ => none }
def octetPartsRow : OpenClaim := { program := "ythndlhflkbidiaa", sum := "7f91e585bfd175bdd404a44c13bd70b48b16b613a2681fcb4e87438cb190e9f6", func := "fairlead/fairleadlaw01.OctetParts", spec := "octetParts", apart := false }
def OctetPartsSaid : Prop := octetPartsRow.holds Try.pinned (OpenSpec.ofChange octetPartsSpec)

/-- ITS FALSE NEIGHBOUR: 'it returns false'. Refute it at one input. -/
def octetPartsWrong : ChangeSpec := { name := "octetParts", fn := fun _ => fun
  | [d] => { results := [.lit (.bool false)], args := [d] }
  | _ => none }
def OctetPartsWrongFalsely : Prop := octetPartsRow.holds Try.pinned (OpenSpec.ofChange octetPartsWrong)

/-- 'fairleadlaw08.ChunkWrites': WHATEVER THE INPUT: true; the input reads as it did. -/
def chunkWritesSpec : ChangeSpec := { name := "chunkWrites", fn := fun _ => fun
  | [d] => { results := [.lit (.bool true)], args := [d] }
  | _ => none }
def chunkWritesRow : OpenClaim := { program := "ythndlhflkbidiaa", sum := "7f91e585bfd175bdd404a44c13bd70b48b16b613a2681fcb4e87438cb190e9f6", func := "fairlead/fairleadlaw08.ChunkWrites", spec := "chunkWrites", unfollowed := true, recurses := true, apart := false }
def ChunkWritesSaid : Prop := chunkWritesRow.holds Try.pinned (OpenSpec.ofChange chunkWritesSpec)

/-- ITS FALSE NEIGHBOUR: 'it returns false'. Refute it at one input. -/
def chunkWritesWrong : ChangeSpec := { name := "chunkWrites", fn := fun _ => fun
  | [d] => { results := [.lit (.bool false)], args := [d] }
  | _ => none }
def ChunkWritesWrongFalsely : Prop := chunkWritesRow.holds Try.pinned (OpenSpec.ofChange chunkWritesWrong)

/-- 'fairleadlaw08.ChunkReads': WHATEVER THE INPUT: true; the input reads as it did. -/
def chunkReadsSpec : ChangeSpec := { name := "chunkReads", fn := fun _ => fun
  | [d] => { results := [.lit (.bool true)], args := [d] }
  | _ => none }
def chunkReadsRow : OpenClaim := { program := "ythndlhflkbidiaa", sum := "7f91e585bfd175bdd404a44c13bd70b48b16b613a2681fcb4e87438cb190e9f6", func := "fairlead/fairleadlaw08.ChunkReads", spec := "chunkReads", unfollowed := true, recurses := true, apart := false }
def ChunkReadsSaid : Prop := chunkReadsRow.holds Try.pinned (OpenSpec.ofChange chunkReadsSpec)

/-- ITS FALSE NEIGHBOUR: 'it returns false'. Refute it at one input. -/
def chunkReadsWrong : ChangeSpec := { name := "chunkReads", fn := fun _ => fun
  | [d] => { results := [.lit (.bool false)], args := [d] }
  | _ => none }
def ChunkReadsWrongFalsely : Prop := chunkReadsRow.holds Try.pinned (OpenSpec.ofChange chunkReadsWrong)

/-- 'fairleadlaw08.ChunkBack': WHATEVER THE INPUT: true; the input reads as it did. -/
def chunkBackSpec : ChangeSpec := { name := "chunkBack", fn := fun _ => fun
  | [d1, d2] => { results := [.lit (.bool true)], args := [d1, d2] }
  | _ => none }
def chunkBackRow : OpenClaim := { program := "ythndlhflkbidiaa", sum := "7f91e585bfd175bdd404a44c13bd70b48b16b613a2681fcb4e87438cb190e9f6", func := "fairlead/fairleadlaw08.ChunkBack", spec := "chunkBack", unfollowed := true, recurses := true, apart := false }
def ChunkBackSaid : Prop := chunkBackRow.holds Try.pinned (OpenSpec.ofChange chunkBackSpec)

/-- ITS FALSE NEIGHBOUR: 'it returns false'. Refute it at one input. -/
def chunkBackWrong : ChangeSpec := { name := "chunkBack", fn := fun _ => fun
  | [d1, d2] => { results := [.lit (.bool false)], args := [d1, d2] }
  | _ => none }
def ChunkBackWrongFalsely : Prop := chunkBackRow.holds Try.pinned (OpenSpec.ofChange chunkBackWrong)

/-- 'fairleadlaw08.ChunkRow': WHATEVER THE INPUT: true; the input reads as it did. -/
def chunkRowSpec : ChangeSpec := { name := "chunkRow", fn := fun _ => fun
  | [d] => { results := [.lit (.bool true)], args := [d] }
  | _ => none }
def chunkRowRow : OpenClaim := { program := "ythndlhflkbidiaa", sum := "7f91e585bfd175bdd404a44c13bd70b48b16b613a2681fcb4e87438cb190e9f6", func := "fairlead/fairleadlaw08.ChunkRow", spec := "chunkRow", unfollowed := true, recurses := true, apart := false }
def ChunkRowSaid : Prop := chunkRowRow.holds Try.pinned (OpenSpec.ofChange chunkRowSpec)

/-- ITS FALSE NEIGHBOUR: 'it returns false'. Refute it at one input. -/
def chunkRowWrong : ChangeSpec := { name := "chunkRow", fn := fun _ => fun
  | [d] => { results := [.lit (.bool false)], args := [d] }
  | _ => none }
def ChunkRowWrongFalsely : Prop := chunkRowRow.holds Try.pinned (OpenSpec.ofChange chunkRowWrong)

/-- 'fairleadlaw08.ChunkCuts': WHATEVER THE INPUT: true; the input reads as it did. -/
def chunkCutsSpec : ChangeSpec := { name := "chunkCuts", fn := fun _ => fun
  | [d1, d2] => { results := [.lit (.bool true)], args := [d1, d2] }
  | _ => none }
def chunkCutsRow : OpenClaim := { program := "ythndlhflkbidiaa", sum := "7f91e585bfd175bdd404a44c13bd70b48b16b613a2681fcb4e87438cb190e9f6", func := "fairlead/fairleadlaw08.ChunkCuts", spec := "chunkCuts", unfollowed := true, recurses := true, apart := false }
def ChunkCutsSaid : Prop := chunkCutsRow.holds Try.pinned (OpenSpec.ofChange chunkCutsSpec)

/-- ITS FALSE NEIGHBOUR: 'it returns false'. Refute it at one input. -/
def chunkCutsWrong : ChangeSpec := { name := "chunkCuts", fn := fun _ => fun
  | [d1, d2] => { results := [.lit (.bool false)], args := [d1, d2] }
  | _ => none }
def ChunkCutsWrongFalsely : Prop := chunkCutsRow.holds Try.pinned (OpenSpec.ofChange chunkCutsWrong)

/-- 'fairleadlaw08.ChunkPads': WHATEVER THE INPUT: true; the input reads as it did. -/
def chunkPadsSpec : ChangeSpec := { name := "chunkPads", fn := fun _ => fun
  | [d1, d2, d3] => { results := [.lit (.bool true)], args := [d1, d2, d3] }
  | _ => none }
def chunkPadsRow : OpenClaim := { program := "ythndlhflkbidiaa", sum := "7f91e585bfd175bdd404a44c13bd70b48b16b613a2681fcb4e87438cb190e9f6", func := "fairlead/fairleadlaw08.ChunkPads", spec := "chunkPads", unfollowed := true, recurses := true, apart := false }
def ChunkPadsSaid : Prop := chunkPadsRow.holds Try.pinned (OpenSpec.ofChange chunkPadsSpec)

/-- ITS FALSE NEIGHBOUR: 'it returns false'. Refute it at one input. -/
def chunkPadsWrong : ChangeSpec := { name := "chunkPads", fn := fun _ => fun
  | [d1, d2, d3] => { results := [.lit (.bool false)], args := [d1, d2, d3] }
  | _ => none }
def ChunkPadsWrongFalsely : Prop := chunkPadsRow.holds Try.pinned (OpenSpec.ofChange chunkPadsWrong)

/-- 'fairleadlaw08.ChunkLengths': WHATEVER THE INPUT: true; the input reads as it did. -/
def chunkLengthsSpec : ChangeSpec := { name := "chunkLengths", fn := fun _ => fun
  | [d1, d2, d3] => { results := [.lit (.bool true)], args := [d1, d2, d3] }
  | _ => none }
def chunkLengthsRow : OpenClaim := { program := "ythndlhflkbidiaa", sum := "7f91e585bfd175bdd404a44c13bd70b48b16b613a2681fcb4e87438cb190e9f6", func := "fairlead/fairleadlaw08.ChunkLengths", spec := "chunkLengths", unfollowed := true, recurses := true, apart := false }
def ChunkLengthsSaid : Prop := chunkLengthsRow.holds Try.pinned (OpenSpec.ofChange chunkLengthsSpec)

/-- ITS FALSE NEIGHBOUR: 'it returns false'. Refute it at one input. -/
def chunkLengthsWrong : ChangeSpec := { name := "chunkLengths", fn := fun _ => fun
  | [d1, d2, d3] => { results := [.lit (.bool false)], args := [d1, d2, d3] }
  | _ => none }
def ChunkLengthsWrongFalsely : Prop := chunkLengthsRow.holds Try.pinned (OpenSpec.ofChange chunkLengthsWrong)

/-- 'fairleadlaw10.PacketWrites': WHATEVER THE INPUT: true; the input reads as it did. -/
def packetWritesSpec : ChangeSpec := { name := "packetWrites", fn := fun _ => fun
  | [d] => { results := [.lit (.bool true)], args := [d] }
  | _ => none }
def packetWritesRow : OpenClaim := { program := "ythndlhflkbidiaa", sum := "7f91e585bfd175bdd404a44c13bd70b48b16b613a2681fcb4e87438cb190e9f6", func := "fairlead/fairleadlaw10.PacketWrites", spec := "packetWrites", unfollowed := true, recurses := true, apart := false }
def PacketWritesSaid : Prop := packetWritesRow.holds Try.pinned (OpenSpec.ofChange packetWritesSpec)

/-- ITS FALSE NEIGHBOUR: 'it returns false'. Refute it at one input. -/
def packetWritesWrong : ChangeSpec := { name := "packetWrites", fn := fun _ => fun
  | [d] => { results := [.lit (.bool false)], args := [d] }
  | _ => none }
def PacketWritesWrongFalsely : Prop := packetWritesRow.holds Try.pinned (OpenSpec.ofChange packetWritesWrong)

/-- 'fairleadlaw10.PacketReads': WHATEVER THE INPUT: true; the input reads as it did. -/
def packetReadsSpec : ChangeSpec := { name := "packetReads", fn := fun _ => fun
  | [d] => { results := [.lit (.bool true)], args := [d] }
  | _ => none }
def packetReadsRow : OpenClaim := { program := "ythndlhflkbidiaa", sum := "7f91e585bfd175bdd404a44c13bd70b48b16b613a2681fcb4e87438cb190e9f6", func := "fairlead/fairleadlaw10.PacketReads", spec := "packetReads", unfollowed := true, recurses := true, apart := false }
def PacketReadsSaid : Prop := packetReadsRow.holds Try.pinned (OpenSpec.ofChange packetReadsSpec)

/-- ITS FALSE NEIGHBOUR: 'it returns false'. Refute it at one input. -/
def packetReadsWrong : ChangeSpec := { name := "packetReads", fn := fun _ => fun
  | [d] => { results := [.lit (.bool false)], args := [d] }
  | _ => none }
def PacketReadsWrongFalsely : Prop := packetReadsRow.holds Try.pinned (OpenSpec.ofChange packetReadsWrong)

/-- 'fairleadlaw10.PacketBack': WHATEVER THE INPUT: true; the input reads as it did. -/
def packetBackSpec : ChangeSpec := { name := "packetBack", fn := fun _ => fun
  | [d1, d2] => { results := [.lit (.bool true)], args := [d1, d2] }
  | _ => none }
def packetBackRow : OpenClaim := { program := "ythndlhflkbidiaa", sum := "7f91e585bfd175bdd404a44c13bd70b48b16b613a2681fcb4e87438cb190e9f6", func := "fairlead/fairleadlaw10.PacketBack", spec := "packetBack", unfollowed := true, recurses := true, apart := false }
def PacketBackSaid : Prop := packetBackRow.holds Try.pinned (OpenSpec.ofChange packetBackSpec)

/-- ITS FALSE NEIGHBOUR: 'it returns false'. Refute it at one input. -/
def packetBackWrong : ChangeSpec := { name := "packetBack", fn := fun _ => fun
  | [d1, d2] => { results := [.lit (.bool false)], args := [d1, d2] }
  | _ => none }
def PacketBackWrongFalsely : Prop := packetBackRow.holds Try.pinned (OpenSpec.ofChange packetBackWrong)

/-- 'fairleadlaw10.PacketBursts': WHATEVER THE INPUT: true; the input reads as it did. -/
def packetBurstsSpec : ChangeSpec := { name := "packetBursts", fn := fun _ => fun
  | [d] => { results := [.lit (.bool true)], args := [d] }
  | _ => none }
def packetBurstsRow : OpenClaim := { program := "ythndlhflkbidiaa", sum := "7f91e585bfd175bdd404a44c13bd70b48b16b613a2681fcb4e87438cb190e9f6", func := "fairlead/fairleadlaw10.PacketBursts", spec := "packetBursts", unfollowed := true, recurses := true, apart := false }
def PacketBurstsSaid : Prop := packetBurstsRow.holds Try.pinned (OpenSpec.ofChange packetBurstsSpec)

/-- ITS FALSE NEIGHBOUR: 'it returns false'. Refute it at one input. -/
def packetBurstsWrong : ChangeSpec := { name := "packetBursts", fn := fun _ => fun
  | [d] => { results := [.lit (.bool false)], args := [d] }
  | _ => none }
def PacketBurstsWrongFalsely : Prop := packetBurstsRow.holds Try.pinned (OpenSpec.ofChange packetBurstsWrong)

/-- 'fairleadlaw10.PacketForms': WHATEVER THE INPUT: true; the input reads as it did. -/
def packetFormsSpec : ChangeSpec := { name := "packetForms", fn := fun _ => fun
  | [d] => { results := [.lit (.bool true)], args := [d] }
  | _ => none }
def packetFormsRow : OpenClaim := { program := "ythndlhflkbidiaa", sum := "7f91e585bfd175bdd404a44c13bd70b48b16b613a2681fcb4e87438cb190e9f6", func := "fairlead/fairleadlaw10.PacketForms", spec := "packetForms", unfollowed := true, recurses := true, apart := false }
def PacketFormsSaid : Prop := packetFormsRow.holds Try.pinned (OpenSpec.ofChange packetFormsSpec)

/-- ITS FALSE NEIGHBOUR: 'it returns false'. Refute it at one input. -/
def packetFormsWrong : ChangeSpec := { name := "packetForms", fn := fun _ => fun
  | [d] => { results := [.lit (.bool false)], args := [d] }
  | _ => none }
def PacketFormsWrongFalsely : Prop := packetFormsRow.holds Try.pinned (OpenSpec.ofChange packetFormsWrong)

/-- 'fairleadlaw10.PacketShort': WHATEVER THE INPUT: true; the input reads as it did. -/
def packetShortSpec : ChangeSpec := { name := "packetShort", fn := fun _ => fun
  | [d] => { results := [.lit (.bool true)], args := [d] }
  | _ => none }
def packetShortRow : OpenClaim := { program := "ythndlhflkbidiaa", sum := "7f91e585bfd175bdd404a44c13bd70b48b16b613a2681fcb4e87438cb190e9f6", func := "fairlead/fairleadlaw10.PacketShort", spec := "packetShort", unfollowed := true, recurses := true, apart := false }
def PacketShortSaid : Prop := packetShortRow.holds Try.pinned (OpenSpec.ofChange packetShortSpec)

/-- ITS FALSE NEIGHBOUR: 'it returns false'. Refute it at one input. -/
def packetShortWrong : ChangeSpec := { name := "packetShort", fn := fun _ => fun
  | [d] => { results := [.lit (.bool false)], args := [d] }
  | _ => none }
def PacketShortWrongFalsely : Prop := packetShortRow.holds Try.pinned (OpenSpec.ofChange packetShortWrong)

/- THE SECOND FORM. 'bulk': how many values and letters a reading holds, each counted each time it is reached (what is shared counts as often as it is met; a slice's spare places count too). A statement '..UptoSaid' is the law's where the arguments, and the package variables that the reading takes, are together of bulk at most 1048576: NARROWER than '..Said'. Prove '..Said' where nothing that the law and all that it calls make is longer than what came in: it says more and counts as full. Else prove '..UptoSaid'. A law counts once. -/
mutual
def uptoBulk {H : Type} : DataW H → Nat
  | .lit (.string bytes) => bytes.length + 1
  | .lit _ => 1
  | .nil => 1
  | .ptr d => uptoBulk d + 1
  | .slice elems spare => uptoBulkAll elems + uptoBulkAll spare + 1
  | .agg parts => uptoBulkAll parts + 1
  | .iface _ d => uptoBulk d + 1
  | .map entries => uptoBulkEntries entries + 1
  | .held _ => 1
def uptoBulkAll {H : Type} : List (DataW H) → Nat
  | [] => 0
  | d :: r => uptoBulk d + uptoBulkAll r
def uptoBulkEntries {H : Type} : List (Lit × DataW H) → Nat
  | [] => 0
  | x :: r => uptoBulkEntry x + uptoBulkEntries r
def uptoBulkEntry {H : Type} : Lit × DataW H → Nat
  | (.string bytes, d) => bytes.length + uptoBulk d + 1
  | (_, d) => uptoBulk d + 1
 end
def uptoSmall : (H : Type) → List (DataW H) → Bool := fun _ ds => decide (uptoBulkAll ds ≤ 1048576)
def OpenSpec.upto (s : _root_.Go.ChangeSpec) : _root_.Go.OpenSpec := { _root_.Go.OpenSpec.ofChange s with cond := some uptoSmall }

/-- 'fairleadlaw01.OctetGets', WHERE WHAT IT READS IS OF BULK AT MOST 1048576: true; the input reads as it did. -/
def octetGetsUptoRow : OpenClaim := { program := "ythndlhflkbidiaa", sum := "7f91e585bfd175bdd404a44c13bd70b48b16b613a2681fcb4e87438cb190e9f6", func := "fairlead/fairleadlaw01.OctetGets", spec := "octetGets", apart := false, narrowed := true }
def OctetGetsUptoSaid : Prop := octetGetsUptoRow.holds Try.pinned (OpenSpec.upto octetGetsSpec)

/-- 'fairleadlaw01.OctetPuts', WHERE WHAT IT READS IS OF BULK AT MOST 1048576: true; the input reads as it did. -/
def octetPutsUptoRow : OpenClaim := { program := "ythndlhflkbidiaa", sum := "7f91e585bfd175bdd404a44c13bd70b48b16b613a2681fcb4e87438cb190e9f6", func := "fairlead/fairleadlaw01.OctetPuts", spec := "octetPuts", apart := false, narrowed := true }
def OctetPutsUptoSaid : Prop := octetPutsUptoRow.holds Try.pinned (OpenSpec.upto octetPutsSpec)

/-- 'fairleadlaw01.OctetCuts', WHERE WHAT IT READS IS OF BULK AT MOST 1048576: true; the input reads as it did. -/
def octetCutsUptoRow : OpenClaim := { program := "ythndlhflkbidiaa", sum := "7f91e585bfd175bdd404a44c13bd70b48b16b613a2681fcb4e87438cb190e9f6", func := "fairlead/fairleadlaw01.OctetCuts", spec := "octetCuts", apart := false, narrowed := true }
def OctetCutsUptoSaid : Prop := octetCutsUptoRow.holds Try.pinned (OpenSpec.upto octetCutsSpec)

/-- 'fairleadlaw01.OctetPads', WHERE WHAT IT READS IS OF BULK AT MOST 1048576: true; the input reads as it did. -/
def octetPadsUptoRow : OpenClaim := { program := "ythndlhflkbidiaa", sum := "7f91e585bfd175bdd404a44c13bd70b48b16b613a2681fcb4e87438cb190e9f6", func := "fairlead/fairleadlaw01.OctetPads", spec := "octetPads", apart := false, narrowed := true }
def OctetPadsUptoSaid : Prop := octetPadsUptoRow.holds Try.pinned (OpenSpec.upto octetPadsSpec)

/-- 'fairleadlaw01.OctetRounds', WHERE WHAT IT READS IS OF BULK AT MOST 1048576: true; the input reads as it did. -/
def octetRoundsUptoRow : OpenClaim := { program := "ythndlhflkbidiaa", sum := "7f91e585bfd175bdd404a44c13bd70b48b16b613a2681fcb4e87438cb190e9f6", func := "fairlead/fairleadlaw01.OctetRounds", spec := "octetRounds", apart := false, narrowed := true }
def OctetRoundsUptoSaid : Prop := octetRoundsUptoRow.holds Try.pinned (OpenSpec.upto octetRoundsSpec)

/-- 'fairleadlaw10.PacketFits', WHERE WHAT IT READS IS OF BULK AT MOST 1048576: true; the input reads as it did. -/
def packetFitsUptoRow : OpenClaim := { program := "ythndlhflkbidiaa", sum := "7f91e585bfd175bdd404a44c13bd70b48b16b613a2681fcb4e87438cb190e9f6", func := "fairlead/fairleadlaw10.PacketFits", spec := "packetFits", unfollowed := true, recurses := true, apart := false, narrowed := true }
def PacketFitsUptoSaid : Prop := packetFitsUptoRow.holds Try.pinned (OpenSpec.upto packetFitsSpec)

/-- 'fairleadlaw01.OctetBack', WHERE WHAT IT READS IS OF BULK AT MOST 1048576: true; the input reads as it did. -/
def octetBackUptoRow : OpenClaim := { program := "ythndlhflkbidiaa", sum := "7f91e585bfd175bdd404a44c13bd70b48b16b613a2681fcb4e87438cb190e9f6", func := "fairlead/fairleadlaw01.OctetBack", spec := "octetBack", apart := false, narrowed := true }
def OctetBackUptoSaid : Prop := octetBackUptoRow.holds Try.pinned (OpenSpec.upto octetBackSpec)

/-- 'fairleadlaw10.PacketAlone', WHERE WHAT IT READS IS OF BULK AT MOST 1048576: true; the input reads as it did. -/
def packetAloneUptoRow : OpenClaim := { program := "ythndlhflkbidiaa", sum := "7f91e585bfd175bdd404a44c13bd70b48b16b613a2681fcb4e87438cb190e9f6", func := "fairlead/fairleadlaw10.PacketAlone", spec := "packetAlone", unfollowed := true, recurses := true, apart := false, narrowed := true }
def PacketAloneUptoSaid : Prop := packetAloneUptoRow.holds Try.pinned (OpenSpec.upto packetAloneSpec)

/-- 'fairleadlaw01.OctetOrder', WHERE WHAT IT READS IS OF BULK AT MOST 1048576: true; the input reads as it did. -/
def octetOrderUptoRow : OpenClaim := { program := "ythndlhflkbidiaa", sum := "7f91e585bfd175bdd404a44c13bd70b48b16b613a2681fcb4e87438cb190e9f6", func := "fairlead/fairleadlaw01.OctetOrder", spec := "octetOrder", apart := false, narrowed := true }
def OctetOrderUptoSaid : Prop := octetOrderUptoRow.holds Try.pinned (OpenSpec.upto octetOrderSpec)

/-- 'fairleadlaw01.OctetParts', WHERE WHAT IT READS IS OF BULK AT MOST 1048576: true; the input reads as it did. -/
def octetPartsUptoRow : OpenClaim := { program := "ythndlhflkbidiaa", sum := "7f91e585bfd175bdd404a44c13bd70b48b16b613a2681fcb4e87438cb190e9f6", func := "fairlead/fairleadlaw01.OctetParts", spec := "octetParts", apart := false, narrowed := true }
def OctetPartsUptoSaid : Prop := octetPartsUptoRow.holds Try.pinned (OpenSpec.upto octetPartsSpec)

/-- 'fairleadlaw08.ChunkWrites', WHERE WHAT IT READS IS OF BULK AT MOST 1048576: true; the input reads as it did. -/
def chunkWritesUptoRow : OpenClaim := { program := "ythndlhflkbidiaa", sum := "7f91e585bfd175bdd404a44c13bd70b48b16b613a2681fcb4e87438cb190e9f6", func := "fairlead/fairleadlaw08.ChunkWrites", spec := "chunkWrites", unfollowed := true, recurses := true, apart := false, narrowed := true }
def ChunkWritesUptoSaid : Prop := chunkWritesUptoRow.holds Try.pinned (OpenSpec.upto chunkWritesSpec)

/-- 'fairleadlaw08.ChunkReads', WHERE WHAT IT READS IS OF BULK AT MOST 1048576: true; the input reads as it did. -/
def chunkReadsUptoRow : OpenClaim := { program := "ythndlhflkbidiaa", sum := "7f91e585bfd175bdd404a44c13bd70b48b16b613a2681fcb4e87438cb190e9f6", func := "fairlead/fairleadlaw08.ChunkReads", spec := "chunkReads", unfollowed := true, recurses := true, apart := false, narrowed := true }
def ChunkReadsUptoSaid : Prop := chunkReadsUptoRow.holds Try.pinned (OpenSpec.upto chunkReadsSpec)

/-- 'fairleadlaw08.ChunkBack', WHERE WHAT IT READS IS OF BULK AT MOST 1048576: true; the input reads as it did. -/
def chunkBackUptoRow : OpenClaim := { program := "ythndlhflkbidiaa", sum := "7f91e585bfd175bdd404a44c13bd70b48b16b613a2681fcb4e87438cb190e9f6", func := "fairlead/fairleadlaw08.ChunkBack", spec := "chunkBack", unfollowed := true, recurses := true, apart := false, narrowed := true }
def ChunkBackUptoSaid : Prop := chunkBackUptoRow.holds Try.pinned (OpenSpec.upto chunkBackSpec)

/-- 'fairleadlaw08.ChunkRow', WHERE WHAT IT READS IS OF BULK AT MOST 1048576: true; the input reads as it did. -/
def chunkRowUptoRow : OpenClaim := { program := "ythndlhflkbidiaa", sum := "7f91e585bfd175bdd404a44c13bd70b48b16b613a2681fcb4e87438cb190e9f6", func := "fairlead/fairleadlaw08.ChunkRow", spec := "chunkRow", unfollowed := true, recurses := true, apart := false, narrowed := true }
def ChunkRowUptoSaid : Prop := chunkRowUptoRow.holds Try.pinned (OpenSpec.upto chunkRowSpec)

/-- 'fairleadlaw08.ChunkCuts', WHERE WHAT IT READS IS OF BULK AT MOST 1048576: true; the input reads as it did. -/
def chunkCutsUptoRow : OpenClaim := { program := "ythndlhflkbidiaa", sum := "7f91e585bfd175bdd404a44c13bd70b48b16b613a2681fcb4e87438cb190e9f6", func := "fairlead/fairleadlaw08.ChunkCuts", spec := "chunkCuts", unfollowed := true, recurses := true, apart := false, narrowed := true }
def ChunkCutsUptoSaid : Prop := chunkCutsUptoRow.holds Try.pinned (OpenSpec.upto chunkCutsSpec)

/-- 'fairleadlaw08.ChunkPads', WHERE WHAT IT READS IS OF BULK AT MOST 1048576: true; the input reads as it did. -/
def chunkPadsUptoRow : OpenClaim := { program := "ythndlhflkbidiaa", sum := "7f91e585bfd175bdd404a44c13bd70b48b16b613a2681fcb4e87438cb190e9f6", func := "fairlead/fairleadlaw08.ChunkPads", spec := "chunkPads", unfollowed := true, recurses := true, apart := false, narrowed := true }
def ChunkPadsUptoSaid : Prop := chunkPadsUptoRow.holds Try.pinned (OpenSpec.upto chunkPadsSpec)

/-- 'fairleadlaw08.ChunkLengths', WHERE WHAT IT READS IS OF BULK AT MOST 1048576: true; the input reads as it did. -/
def chunkLengthsUptoRow : OpenClaim := { program := "ythndlhflkbidiaa", sum := "7f91e585bfd175bdd404a44c13bd70b48b16b613a2681fcb4e87438cb190e9f6", func := "fairlead/fairleadlaw08.ChunkLengths", spec := "chunkLengths", unfollowed := true, recurses := true, apart := false, narrowed := true }
def ChunkLengthsUptoSaid : Prop := chunkLengthsUptoRow.holds Try.pinned (OpenSpec.upto chunkLengthsSpec)

/-- 'fairleadlaw10.PacketWrites', WHERE WHAT IT READS IS OF BULK AT MOST 1048576: true; the input reads as it did. -/
def packetWritesUptoRow : OpenClaim := { program := "ythndlhflkbidiaa", sum := "7f91e585bfd175bdd404a44c13bd70b48b16b613a2681fcb4e87438cb190e9f6", func := "fairlead/fairleadlaw10.PacketWrites", spec := "packetWrites", unfollowed := true, recurses := true, apart := false, narrowed := true }
def PacketWritesUptoSaid : Prop := packetWritesUptoRow.holds Try.pinned (OpenSpec.upto packetWritesSpec)

/-- 'fairleadlaw10.PacketReads', WHERE WHAT IT READS IS OF BULK AT MOST 1048576: true; the input reads as it did. -/
def packetReadsUptoRow : OpenClaim := { program := "ythndlhflkbidiaa", sum := "7f91e585bfd175bdd404a44c13bd70b48b16b613a2681fcb4e87438cb190e9f6", func := "fairlead/fairleadlaw10.PacketReads", spec := "packetReads", unfollowed := true, recurses := true, apart := false, narrowed := true }
def PacketReadsUptoSaid : Prop := packetReadsUptoRow.holds Try.pinned (OpenSpec.upto packetReadsSpec)

/-- 'fairleadlaw10.PacketBack', WHERE WHAT IT READS IS OF BULK AT MOST 1048576: true; the input reads as it did. -/
def packetBackUptoRow : OpenClaim := { program := "ythndlhflkbidiaa", sum := "7f91e585bfd175bdd404a44c13bd70b48b16b613a2681fcb4e87438cb190e9f6", func := "fairlead/fairleadlaw10.PacketBack", spec := "packetBack", unfollowed := true, recurses := true, apart := false, narrowed := true }
def PacketBackUptoSaid : Prop := packetBackUptoRow.holds Try.pinned (OpenSpec.upto packetBackSpec)

/-- 'fairleadlaw10.PacketBursts', WHERE WHAT IT READS IS OF BULK AT MOST 1048576: true; the input reads as it did. -/
def packetBurstsUptoRow : OpenClaim := { program := "ythndlhflkbidiaa", sum := "7f91e585bfd175bdd404a44c13bd70b48b16b613a2681fcb4e87438cb190e9f6", func := "fairlead/fairleadlaw10.PacketBursts", spec := "packetBursts", unfollowed := true, recurses := true, apart := false, narrowed := true }
def PacketBurstsUptoSaid : Prop := packetBurstsUptoRow.holds Try.pinned (OpenSpec.upto packetBurstsSpec)

/-- 'fairleadlaw10.PacketForms', WHERE WHAT IT READS IS OF BULK AT MOST 1048576: true; the input reads as it did. -/
def packetFormsUptoRow : OpenClaim := { program := "ythndlhflkbidiaa", sum := "7f91e585bfd175bdd404a44c13bd70b48b16b613a2681fcb4e87438cb190e9f6", func := "fairlead/fairleadlaw10.PacketForms", spec := "packetForms", unfollowed := true, recurses := true, apart := false, narrowed := true }
def PacketFormsUptoSaid : Prop := packetFormsUptoRow.holds Try.pinned (OpenSpec.upto packetFormsSpec)

/-- 'fairleadlaw10.PacketShort', WHERE WHAT IT READS IS OF BULK AT MOST 1048576: true; the input reads as it did. -/
def packetShortUptoRow : OpenClaim := { program := "ythndlhflkbidiaa", sum := "7f91e585bfd175bdd404a44c13bd70b48b16b613a2681fcb4e87438cb190e9f6", func := "fairlead/fairleadlaw10.PacketShort", spec := "packetShort", unfollowed := true, recurses := true, apart := false, narrowed := true }
def PacketShortUptoSaid : Prop := packetShortUptoRow.holds Try.pinned (OpenSpec.upto packetShortSpec)

end Rows
end Go.Proofs.Ythndlhflkbidiaa
