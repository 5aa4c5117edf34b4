/-
  NARROWER THAN 'FOR EVERY INPUT', by the rows' own cells (each row's printed sentence says how): TermsDocs: laid.
  DERIVED. THE GIVEN ROWS OF THIS SEAT. 1 by the template 'for every input the law returns true; each argument reads behind the call as it read before'; 0 by the template 'total and deterministic' (their statements: YtfohollhdaedlaaGreatDoorTotals.lean).
  GIVEN WITH THE SEED: the statements are not yours to turn. If you find one false, say at which input.
  Laid BY PROGRAM, IN A SANDBOX (cutbox-rows.mjs): the forced cells as the released guide's own fill.sh prints them over the translation 0f3f0eee1bb36d33… (all of the seat's roots in one cut). By AI agents, Wed Nov 11 2026. No macro, syntax, notation, axiom, sorry.
-/
import Derived.Test.YtfohollhdaedlaaGreatDoorChecked
import GoSem.Claim
import GoSem.ClaimJoined
import GoSem.ClaimMapViews
import Derived.JoinedTies
import Derived.KernelRfl
namespace Go.Proofs.YtfohollhdaedlaaGreatDoor
/- THE CELL 'sum', in the pinned program and in every row, IS THE sha256 OF THE DUMP (.gsa) THAT YtfohollhdaedlaaGreatDoorProg.lean LOADS. Nothing in Lean hashes anything: it is a label: what it is worth is what the hold of that sum in a sandbox is worth. -/
noncomputable def Tryz.pinned : Pinned := { name := "ytfohollhdaedlaagreatdoor", sum := "0f3f0eee1bb36d33845cdc9e3ef334aee30a7c82395ad1436d716aa088ca67e8", checked := Tryz.checked }
namespace Rows
def none {H : Type} : Left H := { results := [], args := [] }

/- WHAT THE LISTED PACKAGE-LEVEL VARIABLES READ AS WHEN THE CALL BEGINS. Each datum BY PROGRAM (the guide's laid-datum.mjs) off the statement by which the dump's own 'gosem.cut.vars' lays the variable. In a bare row this is a premise. The card (YtfohollhdaedlaaGreatDoorCards.lean) ties it to the program's text. -/
def laid_scholia_fold_rows {H : Type} : DataW H := .agg [.agg [.lit (.int .i64 65), .lit (.int .i64 90), .lit (.int .i64 1), .lit (.int .i64 32)], .agg [.lit (.int .i64 192), .lit (.int .i64 214), .lit (.int .i64 1), .lit (.int .i64 32)], .agg [.lit (.int .i64 216), .lit (.int .i64 222), .lit (.int .i64 1), .lit (.int .i64 32)], .agg [.lit (.int .i64 256), .lit (.int .i64 302), .lit (.int .i64 2), .lit (.int .i64 1)], .agg [.lit (.int .i64 306), .lit (.int .i64 310), .lit (.int .i64 2), .lit (.int .i64 1)], .agg [.lit (.int .i64 313), .lit (.int .i64 327), .lit (.int .i64 2), .lit (.int .i64 1)], .agg [.lit (.int .i64 330), .lit (.int .i64 374), .lit (.int .i64 2), .lit (.int .i64 1)], .agg [.lit (.int .i64 377), .lit (.int .i64 381), .lit (.int .i64 2), .lit (.int .i64 1)], .agg [.lit (.int .i64 913), .lit (.int .i64 929), .lit (.int .i64 1), .lit (.int .i64 32)], .agg [.lit (.int .i64 931), .lit (.int .i64 937), .lit (.int .i64 1), .lit (.int .i64 32)], .agg [.lit (.int .i64 1024), .lit (.int .i64 1039), .lit (.int .i64 1), .lit (.int .i64 80)], .agg [.lit (.int .i64 1040), .lit (.int .i64 1071), .lit (.int .i64 1), .lit (.int .i64 32)], .agg [.lit (.int .i64 1120), .lit (.int .i64 1152), .lit (.int .i64 2), .lit (.int .i64 1)]]
def laid_scholia_stem_short {H : Type} : DataW H := .agg [.lit (.string [97]), .lit (.string [97, 110]), .lit (.string [97, 110, 100]), .lit (.string [97, 115]), .lit (.string [97, 116]), .lit (.string [98, 101]), .lit (.string [98, 121]), .lit (.string [102, 111, 114]), .lit (.string [105, 110]), .lit (.string [105, 115]), .lit (.string [105, 116]), .lit (.string [111, 102]), .lit (.string [111, 110]), .lit (.string [111, 114]), .lit (.string [116, 104, 101]), .lit (.string [116, 111])]
def laid_scholia_stem_ends {H : Type} : DataW H := .agg [.agg [.lit (.string [105, 122, 97, 116, 105, 111, 110]), .lit (.string [105, 122, 101])], .agg [.lit (.string [97, 116, 105, 111, 110]), .lit (.string [97, 116, 101])], .agg [.lit (.string [102, 117, 108, 108, 121]), .lit (.string [102, 117, 108])], .agg [.lit (.string [110, 101, 115, 115]), .lit (.string [])], .agg [.lit (.string [109, 101, 110, 116]), .lit (.string [])], .agg [.lit (.string [97, 108, 108, 121]), .lit (.string [97, 108])], .agg [.lit (.string [108, 121]), .lit (.string [])]]

/-- 'scholialaw17.TermsDocs': WHATEVER THE INPUT: true; the input reads as it did. -/
def termsDocsSpec : ChangeSpec := { name := "termsDocs", fn := fun _ => fun
  | [d1, d2] => { results := [.lit (.bool true)], args := [d1, d2] }
  | _ => none }
def termsDocsRow : OpenClaim := { program := "ytfohollhdaedlaagreatdoor", sum := "0f3f0eee1bb36d33845cdc9e3ef334aee30a7c82395ad1436d716aa088ca67e8", func := "scholia/scholialaw17.TermsDocs", spec := "termsDocs", inPlace := ["internal/bytealg.IndexByteString", "slices.overlaps[scholia/sorted.pair[string, []scholia/api.Spot]]"], unfollowed := true, recurses := true, named := ["scholia/fold.rows", "scholia/stem.short", "scholia/stem.ends"], apart := false, laid := [("scholia/fold.rows", laid_scholia_fold_rows), ("scholia/stem.short", laid_scholia_stem_short), ("scholia/stem.ends", laid_scholia_stem_ends)] }
def TermsDocsSaid : Prop := termsDocsRow.holds Tryz.pinned (OpenSpec.ofChange termsDocsSpec)

/-- ITS FALSE NEIGHBOUR: 'it returns false'. Refute it at one input. -/
def termsDocsWrong : ChangeSpec := { name := "termsDocs", fn := fun _ => fun
  | [d1, d2] => { results := [.lit (.bool false)], args := [d1, d2] }
  | _ => none }
def TermsDocsWrongFalsely : Prop := termsDocsRow.holds Tryz.pinned (OpenSpec.ofChange termsDocsWrong)

/- THE SECOND FORM. 'bulk': how many values and letters a reading holds, each counted each time it is reached (what is shared counts as often as it is met; a slice's spare places count too). A statement '..UptoSaid' is the law's where the arguments, and the package variables that the reading takes, are together of bulk at most 1048576: NARROWER than '..Said'. Prove '..Said' where nothing that the law and all that it calls make is longer than what came in: it says more and counts as full. Else prove '..UptoSaid'. A law counts once. -/
mutual
def uptoBulk {H : Type} : DataW H → Nat
  | .lit (.string bytes) => bytes.length + 1
  | .lit _ => 1
  | .nil => 1
  | .ptr d => uptoBulk d + 1
  | .slice elems spare => uptoBulkAll elems + uptoBulkAll spare + 1
  | .agg parts => uptoBulkAll parts + 1
  | .iface _ d => uptoBulk d + 1
  | .map entries => uptoBulkEntries entries + 1
  | .held _ => 1
def uptoBulkAll {H : Type} : List (DataW H) → Nat
  | [] => 0
  | d :: r => uptoBulk d + uptoBulkAll r
def uptoBulkEntries {H : Type} : List (Lit × DataW H) → Nat
  | [] => 0
  | x :: r => uptoBulkEntry x + uptoBulkEntries r
def uptoBulkEntry {H : Type} : Lit × DataW H → Nat
  | (.string bytes, d) => bytes.length + uptoBulk d + 1
  | (_, d) => uptoBulk d + 1
 end
def uptoSmall : (H : Type) → List (DataW H) → Bool := fun _ ds => decide (uptoBulkAll ds ≤ 1048576)
def OpenSpec.upto (s : _root_.Go.ChangeSpec) : _root_.Go.OpenSpec := { _root_.Go.OpenSpec.ofChange s with cond := some uptoSmall }

/-- 'scholialaw17.TermsDocs', WHERE WHAT IT READS IS OF BULK AT MOST 1048576: true; the input reads as it did. -/
def termsDocsUptoRow : OpenClaim := { program := "ytfohollhdaedlaagreatdoor", sum := "0f3f0eee1bb36d33845cdc9e3ef334aee30a7c82395ad1436d716aa088ca67e8", func := "scholia/scholialaw17.TermsDocs", spec := "termsDocs", inPlace := ["internal/bytealg.IndexByteString", "slices.overlaps[scholia/sorted.pair[string, []scholia/api.Spot]]"], unfollowed := true, recurses := true, named := ["scholia/fold.rows", "scholia/stem.short", "scholia/stem.ends"], apart := false, laid := [("scholia/fold.rows", laid_scholia_fold_rows), ("scholia/stem.short", laid_scholia_stem_short), ("scholia/stem.ends", laid_scholia_stem_ends)], narrowed := true }
def TermsDocsUptoSaid : Prop := termsDocsUptoRow.holds Tryz.pinned (OpenSpec.upto termsDocsSpec)

end Rows
end Go.Proofs.YtfohollhdaedlaaGreatDoor
