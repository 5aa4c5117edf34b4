/-
  No cell of these rows narrows 'for every input' (looked for: loops, veiled, ifaces, maps, wideKeys, modest, calm, conditions, laid).
  DERIVED. THE GIVEN ROWS OF THIS SEAT. 8 by the template 'for every input the law returns true; each argument reads behind the call as it read before'; 0 by the template 'total and deterministic' (their statements: YtdmpgoaemoiogaaTotals.lean).
  GIVEN WITH THE SEED: the statements are not yours to turn. If you find one false, say at which input.
  Laid BY PROGRAM, IN A SANDBOX (cutbox-rows.mjs): the forced cells as the released guide's own fill.sh prints them over the translation 4de0f6278aac2f10… (all of the seat's roots in one cut). By AI agents, Wed Nov 11 2026. No macro, syntax, notation, axiom, sorry.
-/
import Derived.Test.YtdmpgoaemoiogaaChecked
import GoSem.Claim
import GoSem.ClaimJoined
import GoSem.ClaimMapViews
import Derived.JoinedTies
import Derived.KernelRfl
namespace Go.Proofs.Ytdmpgoaemoiogaa
/- THE CELL 'sum', in the pinned program and in every row, IS THE sha256 OF THE DUMP (.gsa) THAT YtdmpgoaemoiogaaProg.lean LOADS. Nothing in Lean hashes anything: it is a label: what it is worth is what the hold of that sum in a sandbox is worth. -/
noncomputable def Try.pinned : Pinned := { name := "ytdmpgoaemoiogaa", sum := "4de0f6278aac2f10cab8f86bf877ec16157c9c8f4e7c0d8f68d6cb13b78cf6d8", checked := Try.checked }
namespace Rows
def none {H : Type} : Left H := { results := [], args := [] }

/-- 'scholialaw07.BoxFirst': WHATEVER THE INPUT: true; the input reads as it did. -/
def boxFirstSpec : ChangeSpec := { name := "boxFirst", fn := fun _ => fun
  | [d] => { results := [.lit (.bool true)], args := [d] }
  | _ => none }
def boxFirstRow : OpenClaim := { program := "ytdmpgoaemoiogaa", sum := "4de0f6278aac2f10cab8f86bf877ec16157c9c8f4e7c0d8f68d6cb13b78cf6d8", func := "scholia/scholialaw07.BoxFirst", spec := "boxFirst", plainKeys := false, apart := false }
def BoxFirstSaid : Prop := boxFirstRow.holds Try.pinned (OpenSpec.ofChange boxFirstSpec)

/-- ITS FALSE NEIGHBOUR: 'it returns false'. Refute it at one input. -/
def boxFirstWrong : ChangeSpec := { name := "boxFirst", fn := fun _ => fun
  | [d] => { results := [.lit (.bool false)], args := [d] }
  | _ => none }
def BoxFirstWrongFalsely : Prop := boxFirstRow.holds Try.pinned (OpenSpec.ofChange boxFirstWrong)

/-- 'scholialaw07.BoxRooms': WHATEVER THE INPUT: true; the input reads as it did. -/
def boxRoomsSpec : ChangeSpec := { name := "boxRooms", fn := fun _ => fun
  | [d1, d2] => { results := [.lit (.bool true)], args := [d1, d2] }
  | _ => none }
def boxRoomsRow : OpenClaim := { program := "ytdmpgoaemoiogaa", sum := "4de0f6278aac2f10cab8f86bf877ec16157c9c8f4e7c0d8f68d6cb13b78cf6d8", func := "scholia/scholialaw07.BoxRooms", spec := "boxRooms", plainKeys := false, apart := false }
def BoxRoomsSaid : Prop := boxRoomsRow.holds Try.pinned (OpenSpec.ofChange boxRoomsSpec)

/-- ITS FALSE NEIGHBOUR: 'it returns false'. Refute it at one input. -/
def boxRoomsWrong : ChangeSpec := { name := "boxRooms", fn := fun _ => fun
  | [d1, d2] => { results := [.lit (.bool false)], args := [d1, d2] }
  | _ => none }
def BoxRoomsWrongFalsely : Prop := boxRoomsRow.holds Try.pinned (OpenSpec.ofChange boxRoomsWrong)

/-- 'scholialaw07.BoxLives': WHATEVER THE INPUT: true; the input reads as it did. -/
def boxLivesSpec : ChangeSpec := { name := "boxLives", fn := fun _ => fun
  | [d1, d2] => { results := [.lit (.bool true)], args := [d1, d2] }
  | _ => none }
def boxLivesRow : OpenClaim := { program := "ytdmpgoaemoiogaa", sum := "4de0f6278aac2f10cab8f86bf877ec16157c9c8f4e7c0d8f68d6cb13b78cf6d8", func := "scholia/scholialaw07.BoxLives", spec := "boxLives", plainKeys := false, apart := false }
def BoxLivesSaid : Prop := boxLivesRow.holds Try.pinned (OpenSpec.ofChange boxLivesSpec)

/-- ITS FALSE NEIGHBOUR: 'it returns false'. Refute it at one input. -/
def boxLivesWrong : ChangeSpec := { name := "boxLives", fn := fun _ => fun
  | [d1, d2] => { results := [.lit (.bool false)], args := [d1, d2] }
  | _ => none }
def BoxLivesWrongFalsely : Prop := boxLivesRow.holds Try.pinned (OpenSpec.ofChange boxLivesWrong)

/-- 'scholialaw07.BoxPours': WHATEVER THE INPUT: true; the input reads as it did. -/
def boxPoursSpec : ChangeSpec := { name := "boxPours", fn := fun _ => fun
  | [d1, d2, d3, d4] => { results := [.lit (.bool true)], args := [d1, d2, d3, d4] }
  | _ => none }
def boxPoursRow : OpenClaim := { program := "ytdmpgoaemoiogaa", sum := "4de0f6278aac2f10cab8f86bf877ec16157c9c8f4e7c0d8f68d6cb13b78cf6d8", func := "scholia/scholialaw07.BoxPours", spec := "boxPours", plainKeys := false, apart := false }
def BoxPoursSaid : Prop := boxPoursRow.holds Try.pinned (OpenSpec.ofChange boxPoursSpec)

/-- ITS FALSE NEIGHBOUR: 'it returns false'. Refute it at one input. -/
def boxPoursWrong : ChangeSpec := { name := "boxPours", fn := fun _ => fun
  | [d1, d2, d3, d4] => { results := [.lit (.bool false)], args := [d1, d2, d3, d4] }
  | _ => none }
def BoxPoursWrongFalsely : Prop := boxPoursRow.holds Try.pinned (OpenSpec.ofChange boxPoursWrong)

/-- 'scholialaw26.LanesRoom': WHATEVER THE INPUT: true; the input reads as it did. -/
def lanesRoomSpec : ChangeSpec := { name := "lanesRoom", fn := fun _ => fun
  | [d] => { results := [.lit (.bool true)], args := [d] }
  | _ => none }
def lanesRoomRow : OpenClaim := { program := "ytdmpgoaemoiogaa", sum := "4de0f6278aac2f10cab8f86bf877ec16157c9c8f4e7c0d8f68d6cb13b78cf6d8", func := "scholia/scholialaw26.LanesRoom", spec := "lanesRoom", plainKeys := false, apart := false }
def LanesRoomSaid : Prop := lanesRoomRow.holds Try.pinned (OpenSpec.ofChange lanesRoomSpec)

/-- ITS FALSE NEIGHBOUR: 'it returns false'. Refute it at one input. -/
def lanesRoomWrong : ChangeSpec := { name := "lanesRoom", fn := fun _ => fun
  | [d] => { results := [.lit (.bool false)], args := [d] }
  | _ => none }
def LanesRoomWrongFalsely : Prop := lanesRoomRow.holds Try.pinned (OpenSpec.ofChange lanesRoomWrong)

/-- 'scholialaw26.LanesOnce': WHATEVER THE INPUT: true; the input reads as it did. -/
def lanesOnceSpec : ChangeSpec := { name := "lanesOnce", fn := fun _ => fun
  | [d1, d2] => { results := [.lit (.bool true)], args := [d1, d2] }
  | _ => none }
def lanesOnceRow : OpenClaim := { program := "ytdmpgoaemoiogaa", sum := "4de0f6278aac2f10cab8f86bf877ec16157c9c8f4e7c0d8f68d6cb13b78cf6d8", func := "scholia/scholialaw26.LanesOnce", spec := "lanesOnce", plainKeys := false, apart := false }
def LanesOnceSaid : Prop := lanesOnceRow.holds Try.pinned (OpenSpec.ofChange lanesOnceSpec)

/-- ITS FALSE NEIGHBOUR: 'it returns false'. Refute it at one input. -/
def lanesOnceWrong : ChangeSpec := { name := "lanesOnce", fn := fun _ => fun
  | [d1, d2] => { results := [.lit (.bool false)], args := [d1, d2] }
  | _ => none }
def LanesOnceWrongFalsely : Prop := lanesOnceRow.holds Try.pinned (OpenSpec.ofChange lanesOnceWrong)

/-- 'scholialaw26.LanesNobody': WHATEVER THE INPUT: true; the input reads as it did. -/
def lanesNobodySpec : ChangeSpec := { name := "lanesNobody", fn := fun _ => fun
  | [d1, d2, d3, d4] => { results := [.lit (.bool true)], args := [d1, d2, d3, d4] }
  | _ => none }
def lanesNobodyRow : OpenClaim := { program := "ytdmpgoaemoiogaa", sum := "4de0f6278aac2f10cab8f86bf877ec16157c9c8f4e7c0d8f68d6cb13b78cf6d8", func := "scholia/scholialaw26.LanesNobody", spec := "lanesNobody", plainKeys := false, apart := false }
def LanesNobodySaid : Prop := lanesNobodyRow.holds Try.pinned (OpenSpec.ofChange lanesNobodySpec)

/-- ITS FALSE NEIGHBOUR: 'it returns false'. Refute it at one input. -/
def lanesNobodyWrong : ChangeSpec := { name := "lanesNobody", fn := fun _ => fun
  | [d1, d2, d3, d4] => { results := [.lit (.bool false)], args := [d1, d2, d3, d4] }
  | _ => none }
def LanesNobodyWrongFalsely : Prop := lanesNobodyRow.holds Try.pinned (OpenSpec.ofChange lanesNobodyWrong)

/-- 'scholialaw26.LanesPlays': WHATEVER THE INPUT: true; the input reads as it did. -/
def lanesPlaysSpec : ChangeSpec := { name := "lanesPlays", fn := fun _ => fun
  | [d1, d2, d3, d4] => { results := [.lit (.bool true)], args := [d1, d2, d3, d4] }
  | _ => none }
def lanesPlaysRow : OpenClaim := { program := "ytdmpgoaemoiogaa", sum := "4de0f6278aac2f10cab8f86bf877ec16157c9c8f4e7c0d8f68d6cb13b78cf6d8", func := "scholia/scholialaw26.LanesPlays", spec := "lanesPlays", plainKeys := false, apart := false }
def LanesPlaysSaid : Prop := lanesPlaysRow.holds Try.pinned (OpenSpec.ofChange lanesPlaysSpec)

/-- ITS FALSE NEIGHBOUR: 'it returns false'. Refute it at one input. -/
def lanesPlaysWrong : ChangeSpec := { name := "lanesPlays", fn := fun _ => fun
  | [d1, d2, d3, d4] => { results := [.lit (.bool false)], args := [d1, d2, d3, d4] }
  | _ => none }
def LanesPlaysWrongFalsely : Prop := lanesPlaysRow.holds Try.pinned (OpenSpec.ofChange lanesPlaysWrong)

/- THE SECOND FORM. 'bulk': how many values and letters a reading holds, each counted each time it is reached (what is shared counts as often as it is met; a slice's spare places count too). A statement '..UptoSaid' is the law's where the arguments, and the package variables that the reading takes, are together of bulk at most 1048576: NARROWER than '..Said'. Prove '..Said' where nothing that the law and all that it calls make is longer than what came in: it says more and counts as full. Else prove '..UptoSaid'. A law counts once. -/
mutual
def uptoBulk {H : Type} : DataW H → Nat
  | .lit (.string bytes) => bytes.length + 1
  | .lit _ => 1
  | .nil => 1
  | .ptr d => uptoBulk d + 1
  | .slice elems spare => uptoBulkAll elems + uptoBulkAll spare + 1
  | .agg parts => uptoBulkAll parts + 1
  | .iface _ d => uptoBulk d + 1
  | .map entries => uptoBulkEntries entries + 1
  | .held _ => 1
def uptoBulkAll {H : Type} : List (DataW H) → Nat
  | [] => 0
  | d :: r => uptoBulk d + uptoBulkAll r
def uptoBulkEntries {H : Type} : List (Lit × DataW H) → Nat
  | [] => 0
  | x :: r => uptoBulkEntry x + uptoBulkEntries r
def uptoBulkEntry {H : Type} : Lit × DataW H → Nat
  | (.string bytes, d) => bytes.length + uptoBulk d + 1
  | (_, d) => uptoBulk d + 1
 end
def uptoSmall : (H : Type) → List (DataW H) → Bool := fun _ ds => decide (uptoBulkAll ds ≤ 1048576)
def OpenSpec.upto (s : _root_.Go.ChangeSpec) : _root_.Go.OpenSpec := { _root_.Go.OpenSpec.ofChange s with cond := some uptoSmall }

/-- 'scholialaw07.BoxFirst', WHERE WHAT IT READS IS OF BULK AT MOST 1048576: true; the input reads as it did. -/
def boxFirstUptoRow : OpenClaim := { program := "ytdmpgoaemoiogaa", sum := "4de0f6278aac2f10cab8f86bf877ec16157c9c8f4e7c0d8f68d6cb13b78cf6d8", func := "scholia/scholialaw07.BoxFirst", spec := "boxFirst", plainKeys := false, apart := false, narrowed := true }
def BoxFirstUptoSaid : Prop := boxFirstUptoRow.holds Try.pinned (OpenSpec.upto boxFirstSpec)

/-- 'scholialaw07.BoxRooms', WHERE WHAT IT READS IS OF BULK AT MOST 1048576: true; the input reads as it did. -/
def boxRoomsUptoRow : OpenClaim := { program := "ytdmpgoaemoiogaa", sum := "4de0f6278aac2f10cab8f86bf877ec16157c9c8f4e7c0d8f68d6cb13b78cf6d8", func := "scholia/scholialaw07.BoxRooms", spec := "boxRooms", plainKeys := false, apart := false, narrowed := true }
def BoxRoomsUptoSaid : Prop := boxRoomsUptoRow.holds Try.pinned (OpenSpec.upto boxRoomsSpec)

/-- 'scholialaw07.BoxLives', WHERE WHAT IT READS IS OF BULK AT MOST 1048576: true; the input reads as it did. -/
def boxLivesUptoRow : OpenClaim := { program := "ytdmpgoaemoiogaa", sum := "4de0f6278aac2f10cab8f86bf877ec16157c9c8f4e7c0d8f68d6cb13b78cf6d8", func := "scholia/scholialaw07.BoxLives", spec := "boxLives", plainKeys := false, apart := false, narrowed := true }
def BoxLivesUptoSaid : Prop := boxLivesUptoRow.holds Try.pinned (OpenSpec.upto boxLivesSpec)

/-- 'scholialaw07.BoxPours', WHERE WHAT IT READS IS OF BULK AT MOST 1048576: true; the input reads as it did. -/
def boxPoursUptoRow : OpenClaim := { program := "ytdmpgoaemoiogaa", sum := "4de0f6278aac2f10cab8f86bf877ec16157c9c8f4e7c0d8f68d6cb13b78cf6d8", func := "scholia/scholialaw07.BoxPours", spec := "boxPours", plainKeys := false, apart := false, narrowed := true }
def BoxPoursUptoSaid : Prop := boxPoursUptoRow.holds Try.pinned (OpenSpec.upto boxPoursSpec)

/-- 'scholialaw26.LanesRoom', WHERE WHAT IT READS IS OF BULK AT MOST 1048576: true; the input reads as it did. -/
def lanesRoomUptoRow : OpenClaim := { program := "ytdmpgoaemoiogaa", sum := "4de0f6278aac2f10cab8f86bf877ec16157c9c8f4e7c0d8f68d6cb13b78cf6d8", func := "scholia/scholialaw26.LanesRoom", spec := "lanesRoom", plainKeys := false, apart := false, narrowed := true }
def LanesRoomUptoSaid : Prop := lanesRoomUptoRow.holds Try.pinned (OpenSpec.upto lanesRoomSpec)

/-- 'scholialaw26.LanesOnce', WHERE WHAT IT READS IS OF BULK AT MOST 1048576: true; the input reads as it did. -/
def lanesOnceUptoRow : OpenClaim := { program := "ytdmpgoaemoiogaa", sum := "4de0f6278aac2f10cab8f86bf877ec16157c9c8f4e7c0d8f68d6cb13b78cf6d8", func := "scholia/scholialaw26.LanesOnce", spec := "lanesOnce", plainKeys := false, apart := false, narrowed := true }
def LanesOnceUptoSaid : Prop := lanesOnceUptoRow.holds Try.pinned (OpenSpec.upto lanesOnceSpec)

/-- 'scholialaw26.LanesNobody', WHERE WHAT IT READS IS OF BULK AT MOST 1048576: true; the input reads as it did. -/
def lanesNobodyUptoRow : OpenClaim := { program := "ytdmpgoaemoiogaa", sum := "4de0f6278aac2f10cab8f86bf877ec16157c9c8f4e7c0d8f68d6cb13b78cf6d8", func := "scholia/scholialaw26.LanesNobody", spec := "lanesNobody", plainKeys := false, apart := false, narrowed := true }
def LanesNobodyUptoSaid : Prop := lanesNobodyUptoRow.holds Try.pinned (OpenSpec.upto lanesNobodySpec)

/-- 'scholialaw26.LanesPlays', WHERE WHAT IT READS IS OF BULK AT MOST 1048576: true; the input reads as it did. -/
def lanesPlaysUptoRow : OpenClaim := { program := "ytdmpgoaemoiogaa", sum := "4de0f6278aac2f10cab8f86bf877ec16157c9c8f4e7c0d8f68d6cb13b78cf6d8", func := "scholia/scholialaw26.LanesPlays", spec := "lanesPlays", plainKeys := false, apart := false, narrowed := true }
def LanesPlaysUptoSaid : Prop := lanesPlaysUptoRow.holds Try.pinned (OpenSpec.upto lanesPlaysSpec)

end Rows
end Go.Proofs.Ytdmpgoaemoiogaa
