/-
  NARROWER THAN 'FOR EVERY INPUT', by the rows' own cells (each row's printed sentence says how): CrcSums: laid · CrcBursts: laid · CrcTexts: laid · CrcJoins: laid · CrcPieces: laid · CrcLinear: laid.
  DERIVED. THE GIVEN ROWS OF THIS SEAT. 6 by the template 'for every input the law returns true; each argument reads behind the call as it read before'; 0 by the template 'total and deterministic' (their statements: YtjdbnobhapfakaaDoorTotals.lean).
  GIVEN WITH THE SEED: the statements are not yours to turn. If you find one false, say at which input.
  Laid BY PROGRAM, IN A SANDBOX (cutbox-rows.mjs): the forced cells as the released guide's own fill.sh prints them over the translation a655ba074d524918… (all of the seat's roots in one cut). By AI agents, Wed Nov 11 2026. No macro, syntax, notation, axiom, sorry.
-/
import Derived.Test.YtjdbnobhapfakaaDoorChecked
import GoSem.Claim
import GoSem.ClaimJoined
import GoSem.ClaimMapViews
import Derived.JoinedTies
import Derived.KernelRfl
namespace Go.Proofs.YtjdbnobhapfakaaDoor
/- THE CELL 'sum', in the pinned program and in every row, IS THE sha256 OF THE DUMP (.gsa) THAT YtjdbnobhapfakaaDoorProg.lean LOADS. Nothing in Lean hashes anything: it is a label: what it is worth is what the hold of that sum in a sandbox is worth. -/
noncomputable def Tryd.pinned : Pinned := { name := "ytjdbnobhapfakaadoor", sum := "a655ba074d52491892dc73245638a352a331641652e979eef44e3665d56dd2d8", checked := Tryd.checked }
namespace Rows
def none {H : Type} : Left H := { results := [], args := [] }

/- WHAT THE LISTED PACKAGE-LEVEL VARIABLES READ AS WHEN THE CALL BEGINS. Each datum BY PROGRAM (the guide's laid-datum.mjs) off the statement by which the dump's own 'gosem.cut.vars' lays the variable. In a bare row this is a premise. The card (YtjdbnobhapfakaaDoorCards.lean) ties it to the program's text. -/
def laid_cistern_crc_table {H : Type} : DataW H := .agg [.lit (.int .u64 0), .lit (.int .u64 9009731685717012353), .lit (.int .u64 18019463371434024706), .lit (.int .u64 9734813498046853251), .lit (.int .u64 16103423924954344815), .lit (.int .u64 11705459643018920686), .lit (.int .u64 2696289253709771373), .lit (.int .u64 6369176129985355244), .lit (.int .u64 10785157014839085493), .lit (.int .u64 16763642538165118516), .lit (.int .u64 8051711962477172407), .lit (.int .u64 1348144626854885686), .lit (.int .u64 5392578507419542746), .lit (.int .u64 4025855981238586203), .lit (.int .u64 12738352259970710488), .lit (.int .u64 14830152191845028953)]

/-- 'cisternlaw01.CrcSums': WHATEVER THE INPUT: true; the input reads as it did. -/
def crcSumsSpec : ChangeSpec := { name := "crcSums", fn := fun _ => fun
  | [d1, d2] => { results := [.lit (.bool true)], args := [d1, d2] }
  | _ => none }
def crcSumsRow : OpenClaim := { program := "ytjdbnobhapfakaadoor", sum := "a655ba074d52491892dc73245638a352a331641652e979eef44e3665d56dd2d8", func := "cistern/cisternlaw01.CrcSums", spec := "crcSums", named := ["cistern/crc.table"], apart := false, laid := [("cistern/crc.table", laid_cistern_crc_table)] }
def CrcSumsSaid : Prop := crcSumsRow.holds Tryd.pinned (OpenSpec.ofChange crcSumsSpec)

/-- ITS FALSE NEIGHBOUR: 'it returns false'. Refute it at one input. -/
def crcSumsWrong : ChangeSpec := { name := "crcSums", fn := fun _ => fun
  | [d1, d2] => { results := [.lit (.bool false)], args := [d1, d2] }
  | _ => none }
def CrcSumsWrongFalsely : Prop := crcSumsRow.holds Tryd.pinned (OpenSpec.ofChange crcSumsWrong)

/-- 'cisternlaw01.CrcBursts': WHATEVER THE INPUT: true; the input reads as it did. -/
def crcBurstsSpec : ChangeSpec := { name := "crcBursts", fn := fun _ => fun
  | [d1, d2, d3] => { results := [.lit (.bool true)], args := [d1, d2, d3] }
  | _ => none }
def crcBurstsRow : OpenClaim := { program := "ytjdbnobhapfakaadoor", sum := "a655ba074d52491892dc73245638a352a331641652e979eef44e3665d56dd2d8", func := "cistern/cisternlaw01.CrcBursts", spec := "crcBursts", named := ["cistern/crc.table"], apart := false, laid := [("cistern/crc.table", laid_cistern_crc_table)] }
def CrcBurstsSaid : Prop := crcBurstsRow.holds Tryd.pinned (OpenSpec.ofChange crcBurstsSpec)

/-- ITS FALSE NEIGHBOUR: 'it returns false'. Refute it at one input. -/
def crcBurstsWrong : ChangeSpec := { name := "crcBursts", fn := fun _ => fun
  | [d1, d2, d3] => { results := [.lit (.bool false)], args := [d1, d2, d3] }
  | _ => none }
def CrcBurstsWrongFalsely : Prop := crcBurstsRow.holds Tryd.pinned (OpenSpec.ofChange crcBurstsWrong)

/-- 'cisternlaw01.CrcTexts': WHATEVER THE INPUT: true; the input reads as it did. -/
def crcTextsSpec : ChangeSpec := { name := "crcTexts", fn := fun _ => fun
  | [d1, d2] => { results := [.lit (.bool true)], args := [d1, d2] }
  | _ => none }
def crcTextsRow : OpenClaim := { program := "ytjdbnobhapfakaadoor", sum := "a655ba074d52491892dc73245638a352a331641652e979eef44e3665d56dd2d8", func := "cistern/cisternlaw01.CrcTexts", spec := "crcTexts", named := ["cistern/crc.table"], apart := false, laid := [("cistern/crc.table", laid_cistern_crc_table)] }
def CrcTextsSaid : Prop := crcTextsRow.holds Tryd.pinned (OpenSpec.ofChange crcTextsSpec)

/-- ITS FALSE NEIGHBOUR: 'it returns false'. Refute it at one input. -/
def crcTextsWrong : ChangeSpec := { name := "crcTexts", fn := fun _ => fun
  | [d1, d2] => { results := [.lit (.bool false)], args := [d1, d2] }
  | _ => none }
def CrcTextsWrongFalsely : Prop := crcTextsRow.holds Tryd.pinned (OpenSpec.ofChange crcTextsWrong)

/-- 'cisternlaw01.CrcJoins': WHATEVER THE INPUT: true; the input reads as it did. -/
def crcJoinsSpec : ChangeSpec := { name := "crcJoins", fn := fun _ => fun
  | [d1, d2, d3] => { results := [.lit (.bool true)], args := [d1, d2, d3] }
  | _ => none }
def crcJoinsRow : OpenClaim := { program := "ytjdbnobhapfakaadoor", sum := "a655ba074d52491892dc73245638a352a331641652e979eef44e3665d56dd2d8", func := "cistern/cisternlaw01.CrcJoins", spec := "crcJoins", named := ["cistern/crc.table"], apart := false, laid := [("cistern/crc.table", laid_cistern_crc_table)] }
def CrcJoinsSaid : Prop := crcJoinsRow.holds Tryd.pinned (OpenSpec.ofChange crcJoinsSpec)

/-- ITS FALSE NEIGHBOUR: 'it returns false'. Refute it at one input. -/
def crcJoinsWrong : ChangeSpec := { name := "crcJoins", fn := fun _ => fun
  | [d1, d2, d3] => { results := [.lit (.bool false)], args := [d1, d2, d3] }
  | _ => none }
def CrcJoinsWrongFalsely : Prop := crcJoinsRow.holds Tryd.pinned (OpenSpec.ofChange crcJoinsWrong)

/-- 'cisternlaw01.CrcPieces': WHATEVER THE INPUT: true; the input reads as it did. -/
def crcPiecesSpec : ChangeSpec := { name := "crcPieces", fn := fun _ => fun
  | [d1, d2] => { results := [.lit (.bool true)], args := [d1, d2] }
  | _ => none }
def crcPiecesRow : OpenClaim := { program := "ytjdbnobhapfakaadoor", sum := "a655ba074d52491892dc73245638a352a331641652e979eef44e3665d56dd2d8", func := "cistern/cisternlaw01.CrcPieces", spec := "crcPieces", named := ["cistern/crc.table"], apart := false, laid := [("cistern/crc.table", laid_cistern_crc_table)] }
def CrcPiecesSaid : Prop := crcPiecesRow.holds Tryd.pinned (OpenSpec.ofChange crcPiecesSpec)

/-- ITS FALSE NEIGHBOUR: 'it returns false'. Refute it at one input. -/
def crcPiecesWrong : ChangeSpec := { name := "crcPieces", fn := fun _ => fun
  | [d1, d2] => { results := [.lit (.bool false)], args := [d1, d2] }
  | _ => none }
def CrcPiecesWrongFalsely : Prop := crcPiecesRow.holds Tryd.pinned (OpenSpec.ofChange crcPiecesWrong)

/-- 'cisternlaw01.CrcLinear': WHATEVER THE INPUT: true; the input reads as it did. -/
def crcLinearSpec : ChangeSpec := { name := "crcLinear", fn := fun _ => fun
  | [d1, d2, d3] => { results := [.lit (.bool true)], args := [d1, d2, d3] }
  | _ => none }
def crcLinearRow : OpenClaim := { program := "ytjdbnobhapfakaadoor", sum := "a655ba074d52491892dc73245638a352a331641652e979eef44e3665d56dd2d8", func := "cistern/cisternlaw01.CrcLinear", spec := "crcLinear", named := ["cistern/crc.table"], apart := false, laid := [("cistern/crc.table", laid_cistern_crc_table)] }
def CrcLinearSaid : Prop := crcLinearRow.holds Tryd.pinned (OpenSpec.ofChange crcLinearSpec)

/-- ITS FALSE NEIGHBOUR: 'it returns false'. Refute it at one input. -/
def crcLinearWrong : ChangeSpec := { name := "crcLinear", fn := fun _ => fun
  | [d1, d2, d3] => { results := [.lit (.bool false)], args := [d1, d2, d3] }
  | _ => none }
def CrcLinearWrongFalsely : Prop := crcLinearRow.holds Tryd.pinned (OpenSpec.ofChange crcLinearWrong)

/- THE SECOND FORM. 'bulk': how many values and letters a reading holds, each counted each time it is reached (what is shared counts as often as it is met; a slice's spare places count too). A statement '..UptoSaid' is the law's where the arguments, and the package variables that the reading takes, are together of bulk at most 1048576: NARROWER than '..Said'. Prove '..Said' where nothing that the law and all that it calls make is longer than what came in: it says more and counts as full. Else prove '..UptoSaid'. A law counts once. -/
mutual
def uptoBulk {H : Type} : DataW H → Nat
  | .lit (.string bytes) => bytes.length + 1
  | .lit _ => 1
  | .nil => 1
  | .ptr d => uptoBulk d + 1
  | .slice elems spare => uptoBulkAll elems + uptoBulkAll spare + 1
  | .agg parts => uptoBulkAll parts + 1
  | .iface _ d => uptoBulk d + 1
  | .map entries => uptoBulkEntries entries + 1
  | .held _ => 1
def uptoBulkAll {H : Type} : List (DataW H) → Nat
  | [] => 0
  | d :: r => uptoBulk d + uptoBulkAll r
def uptoBulkEntries {H : Type} : List (Lit × DataW H) → Nat
  | [] => 0
  | x :: r => uptoBulkEntry x + uptoBulkEntries r
def uptoBulkEntry {H : Type} : Lit × DataW H → Nat
  | (.string bytes, d) => bytes.length + uptoBulk d + 1
  | (_, d) => uptoBulk d + 1
 end
def uptoSmall : (H : Type) → List (DataW H) → Bool := fun _ ds => decide (uptoBulkAll ds ≤ 1048576)
def OpenSpec.upto (s : _root_.Go.ChangeSpec) : _root_.Go.OpenSpec := { _root_.Go.OpenSpec.ofChange s with cond := some uptoSmall }

/-- 'cisternlaw01.CrcSums', WHERE WHAT IT READS IS OF BULK AT MOST 1048576: true; the input reads as it did. -/
def crcSumsUptoRow : OpenClaim := { program := "ytjdbnobhapfakaadoor", sum := "a655ba074d52491892dc73245638a352a331641652e979eef44e3665d56dd2d8", func := "cistern/cisternlaw01.CrcSums", spec := "crcSums", named := ["cistern/crc.table"], apart := false, laid := [("cistern/crc.table", laid_cistern_crc_table)], narrowed := true }
def CrcSumsUptoSaid : Prop := crcSumsUptoRow.holds Tryd.pinned (OpenSpec.upto crcSumsSpec)

/-- 'cisternlaw01.CrcBursts', WHERE WHAT IT READS IS OF BULK AT MOST 1048576: true; the input reads as it did. -/
def crcBurstsUptoRow : OpenClaim := { program := "ytjdbnobhapfakaadoor", sum := "a655ba074d52491892dc73245638a352a331641652e979eef44e3665d56dd2d8", func := "cistern/cisternlaw01.CrcBursts", spec := "crcBursts", named := ["cistern/crc.table"], apart := false, laid := [("cistern/crc.table", laid_cistern_crc_table)], narrowed := true }
def CrcBurstsUptoSaid : Prop := crcBurstsUptoRow.holds Tryd.pinned (OpenSpec.upto crcBurstsSpec)

/-- 'cisternlaw01.CrcTexts', WHERE WHAT IT READS IS OF BULK AT MOST 1048576: true; the input reads as it did. -/
def crcTextsUptoRow : OpenClaim := { program := "ytjdbnobhapfakaadoor", sum := "a655ba074d52491892dc73245638a352a331641652e979eef44e3665d56dd2d8", func := "cistern/cisternlaw01.CrcTexts", spec := "crcTexts", named := ["cistern/crc.table"], apart := false, laid := [("cistern/crc.table", laid_cistern_crc_table)], narrowed := true }
def CrcTextsUptoSaid : Prop := crcTextsUptoRow.holds Tryd.pinned (OpenSpec.upto crcTextsSpec)

/-- 'cisternlaw01.CrcJoins', WHERE WHAT IT READS IS OF BULK AT MOST 1048576: true; the input reads as it did. -/
def crcJoinsUptoRow : OpenClaim := { program := "ytjdbnobhapfakaadoor", sum := "a655ba074d52491892dc73245638a352a331641652e979eef44e3665d56dd2d8", func := "cistern/cisternlaw01.CrcJoins", spec := "crcJoins", named := ["cistern/crc.table"], apart := false, laid := [("cistern/crc.table", laid_cistern_crc_table)], narrowed := true }
def CrcJoinsUptoSaid : Prop := crcJoinsUptoRow.holds Tryd.pinned (OpenSpec.upto crcJoinsSpec)

/-- 'cisternlaw01.CrcPieces', WHERE WHAT IT READS IS OF BULK AT MOST 1048576: true; the input reads as it did. -/
def crcPiecesUptoRow : OpenClaim := { program := "ytjdbnobhapfakaadoor", sum := "a655ba074d52491892dc73245638a352a331641652e979eef44e3665d56dd2d8", func := "cistern/cisternlaw01.CrcPieces", spec := "crcPieces", named := ["cistern/crc.table"], apart := false, laid := [("cistern/crc.table", laid_cistern_crc_table)], narrowed := true }
def CrcPiecesUptoSaid : Prop := crcPiecesUptoRow.holds Tryd.pinned (OpenSpec.upto crcPiecesSpec)

/-- 'cisternlaw01.CrcLinear', WHERE WHAT IT READS IS OF BULK AT MOST 1048576: true; the input reads as it did. -/
def crcLinearUptoRow : OpenClaim := { program := "ytjdbnobhapfakaadoor", sum := "a655ba074d52491892dc73245638a352a331641652e979eef44e3665d56dd2d8", func := "cistern/cisternlaw01.CrcLinear", spec := "crcLinear", named := ["cistern/crc.table"], apart := false, laid := [("cistern/crc.table", laid_cistern_crc_table)], narrowed := true }
def CrcLinearUptoSaid : Prop := crcLinearUptoRow.holds Tryd.pinned (OpenSpec.upto crcLinearSpec)

end Rows
end Go.Proofs.YtjdbnobhapfakaaDoor
