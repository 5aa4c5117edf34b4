/-
  NARROWER THAN 'FOR EVERY INPUT', by the rows' own cells (each row's printed sentence says how): ExportAny: laid · ExportTexts: laid · ExportBack: laid · TermsEach: laid · TermsTexts: laid · TermsCounts: laid · TermsMerge: laid.
  DERIVED. THE GIVEN ROWS OF THIS SEAT. 7 by the template 'for every input the law returns true; each argument reads behind the call as it read before'; 0 by the template 'total and deterministic' (their statements: YtfohollhdaedlaaDoorTotals.lean).
  GIVEN WITH THE SEED: the statements are not yours to turn. If you find one false, say at which input.
  Laid BY PROGRAM, IN A SANDBOX (cutbox-rows.mjs): the forced cells as the released guide's own fill.sh prints them over the translation 99e05c4f0d2950b7… (all of the seat's roots in one cut). By AI agents, Wed Nov 11 2026. No macro, syntax, notation, axiom, sorry.
-/
import Derived.Test.YtfohollhdaedlaaDoorChecked
import GoSem.Claim
import GoSem.ClaimJoined
import GoSem.ClaimMapViews
import Derived.JoinedTies
import Derived.KernelRfl
namespace Go.Proofs.YtfohollhdaedlaaDoor
/- THE CELL 'sum', in the pinned program and in every row, IS THE sha256 OF THE DUMP (.gsa) THAT YtfohollhdaedlaaDoorProg.lean LOADS. Nothing in Lean hashes anything: it is a label: what it is worth is what the hold of that sum in a sandbox is worth. -/
noncomputable def Tryd.pinned : Pinned := { name := "ytfohollhdaedlaadoor", sum := "99e05c4f0d2950b76e2ef03b9b29b6a105576eeec74ec56823b03518021d4eb3", checked := Tryd.checked }
namespace Rows
def none {H : Type} : Left H := { results := [], args := [] }

/- WHAT THE LISTED PACKAGE-LEVEL VARIABLES READ AS WHEN THE CALL BEGINS. Each datum BY PROGRAM (the guide's laid-datum.mjs) off the statement by which the dump's own 'gosem.cut.vars' lays the variable. In a bare row this is a premise. The card (YtfohollhdaedlaaDoorCards.lean) ties it to the program's text. -/
def laid_scholia_export_heads {H : Type} : DataW H := .agg [.lit (.string [116, 105, 116, 108, 101, 32]), .lit (.string [98, 111, 100, 121, 32]), .lit (.string [116, 97, 103, 32]), .lit (.string [110, 111, 116, 101, 32])]
def laid_scholia_fold_rows {H : Type} : DataW H := .agg [.agg [.lit (.int .i64 65), .lit (.int .i64 90), .lit (.int .i64 1), .lit (.int .i64 32)], .agg [.lit (.int .i64 192), .lit (.int .i64 214), .lit (.int .i64 1), .lit (.int .i64 32)], .agg [.lit (.int .i64 216), .lit (.int .i64 222), .lit (.int .i64 1), .lit (.int .i64 32)], .agg [.lit (.int .i64 256), .lit (.int .i64 302), .lit (.int .i64 2), .lit (.int .i64 1)], .agg [.lit (.int .i64 306), .lit (.int .i64 310), .lit (.int .i64 2), .lit (.int .i64 1)], .agg [.lit (.int .i64 313), .lit (.int .i64 327), .lit (.int .i64 2), .lit (.int .i64 1)], .agg [.lit (.int .i64 330), .lit (.int .i64 374), .lit (.int .i64 2), .lit (.int .i64 1)], .agg [.lit (.int .i64 377), .lit (.int .i64 381), .lit (.int .i64 2), .lit (.int .i64 1)], .agg [.lit (.int .i64 913), .lit (.int .i64 929), .lit (.int .i64 1), .lit (.int .i64 32)], .agg [.lit (.int .i64 931), .lit (.int .i64 937), .lit (.int .i64 1), .lit (.int .i64 32)], .agg [.lit (.int .i64 1024), .lit (.int .i64 1039), .lit (.int .i64 1), .lit (.int .i64 80)], .agg [.lit (.int .i64 1040), .lit (.int .i64 1071), .lit (.int .i64 1), .lit (.int .i64 32)], .agg [.lit (.int .i64 1120), .lit (.int .i64 1152), .lit (.int .i64 2), .lit (.int .i64 1)]]
def laid_scholia_stem_short {H : Type} : DataW H := .agg [.lit (.string [97]), .lit (.string [97, 110]), .lit (.string [97, 110, 100]), .lit (.string [97, 115]), .lit (.string [97, 116]), .lit (.string [98, 101]), .lit (.string [98, 121]), .lit (.string [102, 111, 114]), .lit (.string [105, 110]), .lit (.string [105, 115]), .lit (.string [105, 116]), .lit (.string [111, 102]), .lit (.string [111, 110]), .lit (.string [111, 114]), .lit (.string [116, 104, 101]), .lit (.string [116, 111])]
def laid_scholia_stem_ends {H : Type} : DataW H := .agg [.agg [.lit (.string [105, 122, 97, 116, 105, 111, 110]), .lit (.string [105, 122, 101])], .agg [.lit (.string [97, 116, 105, 111, 110]), .lit (.string [97, 116, 101])], .agg [.lit (.string [102, 117, 108, 108, 121]), .lit (.string [102, 117, 108])], .agg [.lit (.string [110, 101, 115, 115]), .lit (.string [])], .agg [.lit (.string [109, 101, 110, 116]), .lit (.string [])], .agg [.lit (.string [97, 108, 108, 121]), .lit (.string [97, 108])], .agg [.lit (.string [108, 121]), .lit (.string [])]]

/-- 'scholialaw35.ExportAny': WHATEVER THE INPUT: true; the input reads as it did. -/
def exportAnySpec : ChangeSpec := { name := "exportAny", fn := fun _ => fun
  | [d] => { results := [.lit (.bool true)], args := [d] }
  | _ => none }
def exportAnyRow : OpenClaim := { program := "ytfohollhdaedlaadoor", sum := "99e05c4f0d2950b76e2ef03b9b29b6a105576eeec74ec56823b03518021d4eb3", func := "scholia/scholialaw35.ExportAny", spec := "exportAny", inPlace := ["internal/abi.NoEscape", "internal/bytealg.IndexByteString"], unfollowed := true, recurses := true, named := ["scholia/export.heads"], apart := false, laid := [("scholia/export.heads", laid_scholia_export_heads)] }
def ExportAnySaid : Prop := exportAnyRow.holds Tryd.pinned (OpenSpec.ofChange exportAnySpec)

/-- ITS FALSE NEIGHBOUR: 'it returns false'. Refute it at one input. -/
def exportAnyWrong : ChangeSpec := { name := "exportAny", fn := fun _ => fun
  | [d] => { results := [.lit (.bool false)], args := [d] }
  | _ => none }
def ExportAnyWrongFalsely : Prop := exportAnyRow.holds Tryd.pinned (OpenSpec.ofChange exportAnyWrong)

/-- 'scholialaw35.ExportTexts': WHATEVER THE INPUT: true; the input reads as it did. -/
def exportTextsSpec : ChangeSpec := { name := "exportTexts", fn := fun _ => fun
  | [d1, d2] => { results := [.lit (.bool true)], args := [d1, d2] }
  | _ => none }
def exportTextsRow : OpenClaim := { program := "ytfohollhdaedlaadoor", sum := "99e05c4f0d2950b76e2ef03b9b29b6a105576eeec74ec56823b03518021d4eb3", func := "scholia/scholialaw35.ExportTexts", spec := "exportTexts", inPlace := ["internal/abi.NoEscape", "internal/bytealg.IndexByteString"], unfollowed := true, recurses := true, named := ["scholia/export.heads"], apart := false, laid := [("scholia/export.heads", laid_scholia_export_heads)] }
def ExportTextsSaid : Prop := exportTextsRow.holds Tryd.pinned (OpenSpec.ofChange exportTextsSpec)

/-- ITS FALSE NEIGHBOUR: 'it returns false'. Refute it at one input. -/
def exportTextsWrong : ChangeSpec := { name := "exportTexts", fn := fun _ => fun
  | [d1, d2] => { results := [.lit (.bool false)], args := [d1, d2] }
  | _ => none }
def ExportTextsWrongFalsely : Prop := exportTextsRow.holds Tryd.pinned (OpenSpec.ofChange exportTextsWrong)

/-- 'scholialaw35.ExportBack': WHATEVER THE INPUT: true; the input reads as it did. -/
def exportBackSpec : ChangeSpec := { name := "exportBack", fn := fun _ => fun
  | [d] => { results := [.lit (.bool true)], args := [d] }
  | _ => none }
def exportBackRow : OpenClaim := { program := "ytfohollhdaedlaadoor", sum := "99e05c4f0d2950b76e2ef03b9b29b6a105576eeec74ec56823b03518021d4eb3", func := "scholia/scholialaw35.ExportBack", spec := "exportBack", inPlace := ["internal/abi.NoEscape", "internal/bytealg.IndexByteString"], unfollowed := true, recurses := true, named := ["scholia/export.heads"], apart := false, laid := [("scholia/export.heads", laid_scholia_export_heads)] }
def ExportBackSaid : Prop := exportBackRow.holds Tryd.pinned (OpenSpec.ofChange exportBackSpec)

/-- ITS FALSE NEIGHBOUR: 'it returns false'. Refute it at one input. -/
def exportBackWrong : ChangeSpec := { name := "exportBack", fn := fun _ => fun
  | [d] => { results := [.lit (.bool false)], args := [d] }
  | _ => none }
def ExportBackWrongFalsely : Prop := exportBackRow.holds Tryd.pinned (OpenSpec.ofChange exportBackWrong)

/-- 'scholialaw17.TermsEach': WHATEVER THE INPUT: true; the input reads as it did. -/
def termsEachSpec : ChangeSpec := { name := "termsEach", fn := fun _ => fun
  | [d] => { results := [.lit (.bool true)], args := [d] }
  | _ => none }
def termsEachRow : OpenClaim := { program := "ytfohollhdaedlaadoor", sum := "99e05c4f0d2950b76e2ef03b9b29b6a105576eeec74ec56823b03518021d4eb3", func := "scholia/scholialaw17.TermsEach", spec := "termsEach", inPlace := ["internal/bytealg.IndexByteString", "slices.overlaps[scholia/sorted.pair[string, []scholia/api.Spot]]"], unfollowed := true, recurses := true, named := ["scholia/fold.rows", "scholia/stem.short", "scholia/stem.ends"], apart := false, laid := [("scholia/fold.rows", laid_scholia_fold_rows), ("scholia/stem.short", laid_scholia_stem_short), ("scholia/stem.ends", laid_scholia_stem_ends)] }
def TermsEachSaid : Prop := termsEachRow.holds Tryd.pinned (OpenSpec.ofChange termsEachSpec)

/-- ITS FALSE NEIGHBOUR: 'it returns false'. Refute it at one input. -/
def termsEachWrong : ChangeSpec := { name := "termsEach", fn := fun _ => fun
  | [d] => { results := [.lit (.bool false)], args := [d] }
  | _ => none }
def TermsEachWrongFalsely : Prop := termsEachRow.holds Tryd.pinned (OpenSpec.ofChange termsEachWrong)

/-- 'scholialaw17.TermsTexts': WHATEVER THE INPUT: true; the input reads as it did. -/
def termsTextsSpec : ChangeSpec := { name := "termsTexts", fn := fun _ => fun
  | [d] => { results := [.lit (.bool true)], args := [d] }
  | _ => none }
def termsTextsRow : OpenClaim := { program := "ytfohollhdaedlaadoor", sum := "99e05c4f0d2950b76e2ef03b9b29b6a105576eeec74ec56823b03518021d4eb3", func := "scholia/scholialaw17.TermsTexts", spec := "termsTexts", inPlace := ["internal/bytealg.IndexByteString", "slices.overlaps[scholia/sorted.pair[string, []scholia/api.Spot]]"], unfollowed := true, recurses := true, named := ["scholia/fold.rows", "scholia/stem.short", "scholia/stem.ends"], apart := false, laid := [("scholia/fold.rows", laid_scholia_fold_rows), ("scholia/stem.short", laid_scholia_stem_short), ("scholia/stem.ends", laid_scholia_stem_ends)] }
def TermsTextsSaid : Prop := termsTextsRow.holds Tryd.pinned (OpenSpec.ofChange termsTextsSpec)

/-- ITS FALSE NEIGHBOUR: 'it returns false'. Refute it at one input. -/
def termsTextsWrong : ChangeSpec := { name := "termsTexts", fn := fun _ => fun
  | [d] => { results := [.lit (.bool false)], args := [d] }
  | _ => none }
def TermsTextsWrongFalsely : Prop := termsTextsRow.holds Tryd.pinned (OpenSpec.ofChange termsTextsWrong)

/-- 'scholialaw17.TermsCounts': WHATEVER THE INPUT: true; the input reads as it did. -/
def termsCountsSpec : ChangeSpec := { name := "termsCounts", fn := fun _ => fun
  | [d1, d2, d3, d4, d5] => { results := [.lit (.bool true)], args := [d1, d2, d3, d4, d5] }
  | _ => none }
def termsCountsRow : OpenClaim := { program := "ytfohollhdaedlaadoor", sum := "99e05c4f0d2950b76e2ef03b9b29b6a105576eeec74ec56823b03518021d4eb3", func := "scholia/scholialaw17.TermsCounts", spec := "termsCounts", inPlace := ["internal/bytealg.IndexByteString", "slices.overlaps[scholia/sorted.pair[string, []scholia/api.Spot]]"], unfollowed := true, recurses := true, named := ["scholia/fold.rows", "scholia/stem.short", "scholia/stem.ends"], apart := false, laid := [("scholia/fold.rows", laid_scholia_fold_rows), ("scholia/stem.short", laid_scholia_stem_short), ("scholia/stem.ends", laid_scholia_stem_ends)] }
def TermsCountsSaid : Prop := termsCountsRow.holds Tryd.pinned (OpenSpec.ofChange termsCountsSpec)

/-- ITS FALSE NEIGHBOUR: 'it returns false'. Refute it at one input. -/
def termsCountsWrong : ChangeSpec := { name := "termsCounts", fn := fun _ => fun
  | [d1, d2, d3, d4, d5] => { results := [.lit (.bool false)], args := [d1, d2, d3, d4, d5] }
  | _ => none }
def TermsCountsWrongFalsely : Prop := termsCountsRow.holds Tryd.pinned (OpenSpec.ofChange termsCountsWrong)

/-- 'scholialaw17.TermsMerge': WHATEVER THE INPUT: true; the input reads as it did. -/
def termsMergeSpec : ChangeSpec := { name := "termsMerge", fn := fun _ => fun
  | [d1, d2] => { results := [.lit (.bool true)], args := [d1, d2] }
  | _ => none }
def termsMergeRow : OpenClaim := { program := "ytfohollhdaedlaadoor", sum := "99e05c4f0d2950b76e2ef03b9b29b6a105576eeec74ec56823b03518021d4eb3", func := "scholia/scholialaw17.TermsMerge", spec := "termsMerge", inPlace := ["internal/bytealg.IndexByteString", "slices.overlaps[scholia/sorted.pair[string, []scholia/api.Spot]]"], unfollowed := true, recurses := true, named := ["scholia/fold.rows", "scholia/stem.short", "scholia/stem.ends"], apart := false, laid := [("scholia/fold.rows", laid_scholia_fold_rows), ("scholia/stem.short", laid_scholia_stem_short), ("scholia/stem.ends", laid_scholia_stem_ends)] }
def TermsMergeSaid : Prop := termsMergeRow.holds Tryd.pinned (OpenSpec.ofChange termsMergeSpec)

/-- ITS FALSE NEIGHBOUR: 'it returns false'. Refute it at one input. -/
def termsMergeWrong : ChangeSpec := { name := "termsMerge", fn := fun _ => fun
  | [d1, d2] => { results := [.lit (.bool false)], args := [d1, d2] }
  | _ => none }
def TermsMergeWrongFalsely : Prop := termsMergeRow.holds Tryd.pinned (OpenSpec.ofChange termsMergeWrong)

/- THE SECOND FORM. 'bulk': how many values and letters a reading holds, each counted each time it is reached (what is shared counts as often as it is met; a slice's spare places count too). A statement '..UptoSaid' is the law's where the arguments, and the package variables that the reading takes, are together of bulk at most 1048576: NARROWER than '..Said'. Prove '..Said' where nothing that the law and all that it calls make is longer than what came in: it says more and counts as full. Else prove '..UptoSaid'. A law counts once. -/
mutual
def uptoBulk {H : Type} : DataW H → Nat
  | .lit (.string bytes) => bytes.length + 1
  | .lit _ => 1
  | .nil => 1
  | .ptr d => uptoBulk d + 1
  | .slice elems spare => uptoBulkAll elems + uptoBulkAll spare + 1
  | .agg parts => uptoBulkAll parts + 1
  | .iface _ d => uptoBulk d + 1
  | .map entries => uptoBulkEntries entries + 1
  | .held _ => 1
def uptoBulkAll {H : Type} : List (DataW H) → Nat
  | [] => 0
  | d :: r => uptoBulk d + uptoBulkAll r
def uptoBulkEntries {H : Type} : List (Lit × DataW H) → Nat
  | [] => 0
  | x :: r => uptoBulkEntry x + uptoBulkEntries r
def uptoBulkEntry {H : Type} : Lit × DataW H → Nat
  | (.string bytes, d) => bytes.length + uptoBulk d + 1
  | (_, d) => uptoBulk d + 1
 end
def uptoSmall : (H : Type) → List (DataW H) → Bool := fun _ ds => decide (uptoBulkAll ds ≤ 1048576)
def OpenSpec.upto (s : _root_.Go.ChangeSpec) : _root_.Go.OpenSpec := { _root_.Go.OpenSpec.ofChange s with cond := some uptoSmall }

/-- 'scholialaw35.ExportAny', WHERE WHAT IT READS IS OF BULK AT MOST 1048576: true; the input reads as it did. -/
def exportAnyUptoRow : OpenClaim := { program := "ytfohollhdaedlaadoor", sum := "99e05c4f0d2950b76e2ef03b9b29b6a105576eeec74ec56823b03518021d4eb3", func := "scholia/scholialaw35.ExportAny", spec := "exportAny", inPlace := ["internal/abi.NoEscape", "internal/bytealg.IndexByteString"], unfollowed := true, recurses := true, named := ["scholia/export.heads"], apart := false, laid := [("scholia/export.heads", laid_scholia_export_heads)], narrowed := true }
def ExportAnyUptoSaid : Prop := exportAnyUptoRow.holds Tryd.pinned (OpenSpec.upto exportAnySpec)

/-- 'scholialaw35.ExportTexts', WHERE WHAT IT READS IS OF BULK AT MOST 1048576: true; the input reads as it did. -/
def exportTextsUptoRow : OpenClaim := { program := "ytfohollhdaedlaadoor", sum := "99e05c4f0d2950b76e2ef03b9b29b6a105576eeec74ec56823b03518021d4eb3", func := "scholia/scholialaw35.ExportTexts", spec := "exportTexts", inPlace := ["internal/abi.NoEscape", "internal/bytealg.IndexByteString"], unfollowed := true, recurses := true, named := ["scholia/export.heads"], apart := false, laid := [("scholia/export.heads", laid_scholia_export_heads)], narrowed := true }
def ExportTextsUptoSaid : Prop := exportTextsUptoRow.holds Tryd.pinned (OpenSpec.upto exportTextsSpec)

/-- 'scholialaw35.ExportBack', WHERE WHAT IT READS IS OF BULK AT MOST 1048576: true; the input reads as it did. -/
def exportBackUptoRow : OpenClaim := { program := "ytfohollhdaedlaadoor", sum := "99e05c4f0d2950b76e2ef03b9b29b6a105576eeec74ec56823b03518021d4eb3", func := "scholia/scholialaw35.ExportBack", spec := "exportBack", inPlace := ["internal/abi.NoEscape", "internal/bytealg.IndexByteString"], unfollowed := true, recurses := true, named := ["scholia/export.heads"], apart := false, laid := [("scholia/export.heads", laid_scholia_export_heads)], narrowed := true }
def ExportBackUptoSaid : Prop := exportBackUptoRow.holds Tryd.pinned (OpenSpec.upto exportBackSpec)

/-- 'scholialaw17.TermsEach', WHERE WHAT IT READS IS OF BULK AT MOST 1048576: true; the input reads as it did. -/
def termsEachUptoRow : OpenClaim := { program := "ytfohollhdaedlaadoor", sum := "99e05c4f0d2950b76e2ef03b9b29b6a105576eeec74ec56823b03518021d4eb3", func := "scholia/scholialaw17.TermsEach", spec := "termsEach", inPlace := ["internal/bytealg.IndexByteString", "slices.overlaps[scholia/sorted.pair[string, []scholia/api.Spot]]"], unfollowed := true, recurses := true, named := ["scholia/fold.rows", "scholia/stem.short", "scholia/stem.ends"], apart := false, laid := [("scholia/fold.rows", laid_scholia_fold_rows), ("scholia/stem.short", laid_scholia_stem_short), ("scholia/stem.ends", laid_scholia_stem_ends)], narrowed := true }
def TermsEachUptoSaid : Prop := termsEachUptoRow.holds Tryd.pinned (OpenSpec.upto termsEachSpec)

/-- 'scholialaw17.TermsTexts', WHERE WHAT IT READS IS OF BULK AT MOST 1048576: true; the input reads as it did. -/
def termsTextsUptoRow : OpenClaim := { program := "ytfohollhdaedlaadoor", sum := "99e05c4f0d2950b76e2ef03b9b29b6a105576eeec74ec56823b03518021d4eb3", func := "scholia/scholialaw17.TermsTexts", spec := "termsTexts", inPlace := ["internal/bytealg.IndexByteString", "slices.overlaps[scholia/sorted.pair[string, []scholia/api.Spot]]"], unfollowed := true, recurses := true, named := ["scholia/fold.rows", "scholia/stem.short", "scholia/stem.ends"], apart := false, laid := [("scholia/fold.rows", laid_scholia_fold_rows), ("scholia/stem.short", laid_scholia_stem_short), ("scholia/stem.ends", laid_scholia_stem_ends)], narrowed := true }
def TermsTextsUptoSaid : Prop := termsTextsUptoRow.holds Tryd.pinned (OpenSpec.upto termsTextsSpec)

/-- 'scholialaw17.TermsCounts', WHERE WHAT IT READS IS OF BULK AT MOST 1048576: true; the input reads as it did. -/
def termsCountsUptoRow : OpenClaim := { program := "ytfohollhdaedlaadoor", sum := "99e05c4f0d2950b76e2ef03b9b29b6a105576eeec74ec56823b03518021d4eb3", func := "scholia/scholialaw17.TermsCounts", spec := "termsCounts", inPlace := ["internal/bytealg.IndexByteString", "slices.overlaps[scholia/sorted.pair[string, []scholia/api.Spot]]"], unfollowed := true, recurses := true, named := ["scholia/fold.rows", "scholia/stem.short", "scholia/stem.ends"], apart := false, laid := [("scholia/fold.rows", laid_scholia_fold_rows), ("scholia/stem.short", laid_scholia_stem_short), ("scholia/stem.ends", laid_scholia_stem_ends)], narrowed := true }
def TermsCountsUptoSaid : Prop := termsCountsUptoRow.holds Tryd.pinned (OpenSpec.upto termsCountsSpec)

/-- 'scholialaw17.TermsMerge', WHERE WHAT IT READS IS OF BULK AT MOST 1048576: true; the input reads as it did. -/
def termsMergeUptoRow : OpenClaim := { program := "ytfohollhdaedlaadoor", sum := "99e05c4f0d2950b76e2ef03b9b29b6a105576eeec74ec56823b03518021d4eb3", func := "scholia/scholialaw17.TermsMerge", spec := "termsMerge", inPlace := ["internal/bytealg.IndexByteString", "slices.overlaps[scholia/sorted.pair[string, []scholia/api.Spot]]"], unfollowed := true, recurses := true, named := ["scholia/fold.rows", "scholia/stem.short", "scholia/stem.ends"], apart := false, laid := [("scholia/fold.rows", laid_scholia_fold_rows), ("scholia/stem.short", laid_scholia_stem_short), ("scholia/stem.ends", laid_scholia_stem_ends)], narrowed := true }
def TermsMergeUptoSaid : Prop := termsMergeUptoRow.holds Tryd.pinned (OpenSpec.upto termsMergeSpec)

end Rows
end Go.Proofs.YtfohollhdaedlaaDoor
