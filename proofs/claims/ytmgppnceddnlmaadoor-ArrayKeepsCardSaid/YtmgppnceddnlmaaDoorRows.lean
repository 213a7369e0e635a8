/-
  NARROWER THAN 'FOR EVERY INPUT', by the rows' own cells (each row's printed sentence says how): ArrayThree: laid · ScrubTwo: laid · ArrayRebuilds: laid · ArrayKeeps: laid · ScrubMends: laid · ArrayPlays: laid · ScrubTells: laid · PlaceTells: laid · TopGrows: laid.
  DERIVED. THE GIVEN ROWS OF THIS SEAT. 9 by the template 'for every input the law returns true; each argument reads behind the call as it read before'; 0 by the template 'total and deterministic' (their statements: YtmgppnceddnlmaaDoorTotals.lean).
  GIVEN WITH THE SEED: the statements are not yours to turn. If you find one false, say at which input.
  Laid BY PROGRAM, IN A SANDBOX (cutbox-rows.mjs): the forced cells as the released guide's own fill.sh prints them over the translation a32f900c5a2fcbe0… (all of the seat's roots in one cut). By AI agents, Wed Nov 11 2026. No macro, syntax, notation, axiom, sorry.
-/
import Derived.Test.YtmgppnceddnlmaaDoorChecked
import GoSem.Claim
import GoSem.ClaimJoined
import GoSem.ClaimMapViews
import Derived.JoinedTies
import Derived.KernelRfl
namespace Go.Proofs.YtmgppnceddnlmaaDoor
/- THE CELL 'sum', in the pinned program and in every row, IS THE sha256 OF THE DUMP (.gsa) THAT YtmgppnceddnlmaaDoorProg.lean LOADS. Nothing in Lean hashes anything: it is a label: what it is worth is what the hold of that sum in a sandbox is worth. -/
noncomputable def Tryd.pinned : Pinned := { name := "ytmgppnceddnlmaadoor", sum := "a32f900c5a2fcbe0973fda4c2f69d20cae1d66fff957810cb041a45c8d633110", checked := Tryd.checked }
namespace Rows
def none {H : Type} : Left H := { results := [], args := [] }

/- WHAT THE LISTED PACKAGE-LEVEL VARIABLES READ AS WHEN THE CALL BEGINS. Each datum BY PROGRAM (the guide's laid-datum.mjs) off the statement by which the dump's own 'gosem.cut.vars' lays the variable. In a bare row this is a premise. The card (YtmgppnceddnlmaaDoorCards.lean) ties it to the program's text. -/
def laid_errors_errorType {H : Type} : DataW H := .iface "internal/reflectlite.rtype" (.agg [.ptr (.lit (.string [101, 114, 114, 111, 114]))])

/-- 'paritylaw4.ArrayThree': WHATEVER THE INPUT: true; the input reads as it did. -/
def arrayThreeSpec : ChangeSpec := { name := "arrayThree", fn := fun _ => fun
  | [d1, d2, d3, d4, d5] => { results := [.lit (.bool true)], args := [d1, d2, d3, d4, d5] }
  | _ => none }
def arrayThreeRow : OpenClaim := { program := "ytmgppnceddnlmaadoor", sum := "a32f900c5a2fcbe0973fda4c2f69d20cae1d66fff957810cb041a45c8d633110", func := "paritymill/paritylaw4.ArrayThree", spec := "arrayThree", inPlace := ["internal/reflectlite.ValueOf", "(internal/reflectlite.Value).Type", "(internal/reflectlite.Value).IsNil", "internal/reflectlite.TypeOf", "(internal/reflectlite.Value).Elem", "(internal/reflectlite.Value).Set"], unfollowed := true, recurses := true, named := ["errors.errorType"], apart := false, laid := [("errors.errorType", laid_errors_errorType)] }
def ArrayThreeSaid : Prop := arrayThreeRow.holds Tryd.pinned (OpenSpec.ofChange arrayThreeSpec)

/-- ITS FALSE NEIGHBOUR: 'it returns false'. Refute it at one input. -/
def arrayThreeWrong : ChangeSpec := { name := "arrayThree", fn := fun _ => fun
  | [d1, d2, d3, d4, d5] => { results := [.lit (.bool false)], args := [d1, d2, d3, d4, d5] }
  | _ => none }
def ArrayThreeWrongFalsely : Prop := arrayThreeRow.holds Tryd.pinned (OpenSpec.ofChange arrayThreeWrong)

/-- 'paritylaw4.ScrubTwo': WHATEVER THE INPUT: true; the input reads as it did. -/
def scrubTwoSpec : ChangeSpec := { name := "scrubTwo", fn := fun _ => fun
  | [d1, d2, d3, d4, d5] => { results := [.lit (.bool true)], args := [d1, d2, d3, d4, d5] }
  | _ => none }
def scrubTwoRow : OpenClaim := { program := "ytmgppnceddnlmaadoor", sum := "a32f900c5a2fcbe0973fda4c2f69d20cae1d66fff957810cb041a45c8d633110", func := "paritymill/paritylaw4.ScrubTwo", spec := "scrubTwo", inPlace := ["internal/reflectlite.ValueOf", "(internal/reflectlite.Value).Type", "(internal/reflectlite.Value).IsNil", "internal/reflectlite.TypeOf", "(internal/reflectlite.Value).Elem", "(internal/reflectlite.Value).Set"], unfollowed := true, recurses := true, named := ["errors.errorType"], apart := false, laid := [("errors.errorType", laid_errors_errorType)] }
def ScrubTwoSaid : Prop := scrubTwoRow.holds Tryd.pinned (OpenSpec.ofChange scrubTwoSpec)

/-- ITS FALSE NEIGHBOUR: 'it returns false'. Refute it at one input. -/
def scrubTwoWrong : ChangeSpec := { name := "scrubTwo", fn := fun _ => fun
  | [d1, d2, d3, d4, d5] => { results := [.lit (.bool false)], args := [d1, d2, d3, d4, d5] }
  | _ => none }
def ScrubTwoWrongFalsely : Prop := scrubTwoRow.holds Tryd.pinned (OpenSpec.ofChange scrubTwoWrong)

/-- 'paritylaw4.ArrayRebuilds': WHATEVER THE INPUT: true; the input reads as it did. -/
def arrayRebuildsSpec : ChangeSpec := { name := "arrayRebuilds", fn := fun _ => fun
  | [d1, d2, d3, d4] => { results := [.lit (.bool true)], args := [d1, d2, d3, d4] }
  | _ => none }
def arrayRebuildsRow : OpenClaim := { program := "ytmgppnceddnlmaadoor", sum := "a32f900c5a2fcbe0973fda4c2f69d20cae1d66fff957810cb041a45c8d633110", func := "paritymill/paritylaw4.ArrayRebuilds", spec := "arrayRebuilds", inPlace := ["internal/reflectlite.ValueOf", "(internal/reflectlite.Value).Type", "(internal/reflectlite.Value).IsNil", "internal/reflectlite.TypeOf", "(internal/reflectlite.Value).Elem", "(internal/reflectlite.Value).Set"], unfollowed := true, recurses := true, named := ["errors.errorType"], apart := false, laid := [("errors.errorType", laid_errors_errorType)] }
def ArrayRebuildsSaid : Prop := arrayRebuildsRow.holds Tryd.pinned (OpenSpec.ofChange arrayRebuildsSpec)

/-- ITS FALSE NEIGHBOUR: 'it returns false'. Refute it at one input. -/
def arrayRebuildsWrong : ChangeSpec := { name := "arrayRebuilds", fn := fun _ => fun
  | [d1, d2, d3, d4] => { results := [.lit (.bool false)], args := [d1, d2, d3, d4] }
  | _ => none }
def ArrayRebuildsWrongFalsely : Prop := arrayRebuildsRow.holds Tryd.pinned (OpenSpec.ofChange arrayRebuildsWrong)

/-- 'paritylaw1.ArrayKeeps': WHATEVER THE INPUT: true; the input reads as it did. -/
def arrayKeepsSpec : ChangeSpec := { name := "arrayKeeps", fn := fun _ => fun
  | [d1, d2, d3, d4] => { results := [.lit (.bool true)], args := [d1, d2, d3, d4] }
  | _ => none }
def arrayKeepsRow : OpenClaim := { program := "ytmgppnceddnlmaadoor", sum := "a32f900c5a2fcbe0973fda4c2f69d20cae1d66fff957810cb041a45c8d633110", func := "paritymill/paritylaw1.ArrayKeeps", spec := "arrayKeeps", inPlace := ["internal/reflectlite.ValueOf", "(internal/reflectlite.Value).Type", "(internal/reflectlite.Value).IsNil", "internal/reflectlite.TypeOf", "(internal/reflectlite.Value).Elem", "(internal/reflectlite.Value).Set"], unfollowed := true, recurses := true, named := ["errors.errorType"], apart := false, laid := [("errors.errorType", laid_errors_errorType)] }
def ArrayKeepsSaid : Prop := arrayKeepsRow.holds Tryd.pinned (OpenSpec.ofChange arrayKeepsSpec)

/-- ITS FALSE NEIGHBOUR: 'it returns false'. Refute it at one input. -/
def arrayKeepsWrong : ChangeSpec := { name := "arrayKeeps", fn := fun _ => fun
  | [d1, d2, d3, d4] => { results := [.lit (.bool false)], args := [d1, d2, d3, d4] }
  | _ => none }
def ArrayKeepsWrongFalsely : Prop := arrayKeepsRow.holds Tryd.pinned (OpenSpec.ofChange arrayKeepsWrong)

/-- 'paritylaw1.ScrubMends': WHATEVER THE INPUT: true; the input reads as it did. -/
def scrubMendsSpec : ChangeSpec := { name := "scrubMends", fn := fun _ => fun
  | [d1, d2, d3, d4, d5] => { results := [.lit (.bool true)], args := [d1, d2, d3, d4, d5] }
  | _ => none }
def scrubMendsRow : OpenClaim := { program := "ytmgppnceddnlmaadoor", sum := "a32f900c5a2fcbe0973fda4c2f69d20cae1d66fff957810cb041a45c8d633110", func := "paritymill/paritylaw1.ScrubMends", spec := "scrubMends", inPlace := ["internal/reflectlite.ValueOf", "(internal/reflectlite.Value).Type", "(internal/reflectlite.Value).IsNil", "internal/reflectlite.TypeOf", "(internal/reflectlite.Value).Elem", "(internal/reflectlite.Value).Set"], unfollowed := true, recurses := true, named := ["errors.errorType"], apart := false, laid := [("errors.errorType", laid_errors_errorType)] }
def ScrubMendsSaid : Prop := scrubMendsRow.holds Tryd.pinned (OpenSpec.ofChange scrubMendsSpec)

/-- ITS FALSE NEIGHBOUR: 'it returns false'. Refute it at one input. -/
def scrubMendsWrong : ChangeSpec := { name := "scrubMends", fn := fun _ => fun
  | [d1, d2, d3, d4, d5] => { results := [.lit (.bool false)], args := [d1, d2, d3, d4, d5] }
  | _ => none }
def ScrubMendsWrongFalsely : Prop := scrubMendsRow.holds Tryd.pinned (OpenSpec.ofChange scrubMendsWrong)

/-- 'paritylaw1.ArrayPlays': WHATEVER THE INPUT: true; the input reads as it did. -/
def arrayPlaysSpec : ChangeSpec := { name := "arrayPlays", fn := fun _ => fun
  | [d1, d2, d3, d4] => { results := [.lit (.bool true)], args := [d1, d2, d3, d4] }
  | _ => none }
def arrayPlaysRow : OpenClaim := { program := "ytmgppnceddnlmaadoor", sum := "a32f900c5a2fcbe0973fda4c2f69d20cae1d66fff957810cb041a45c8d633110", func := "paritymill/paritylaw1.ArrayPlays", spec := "arrayPlays", inPlace := ["internal/reflectlite.ValueOf", "(internal/reflectlite.Value).Type", "(internal/reflectlite.Value).IsNil", "internal/reflectlite.TypeOf", "(internal/reflectlite.Value).Elem", "(internal/reflectlite.Value).Set"], unfollowed := true, recurses := true, named := ["errors.errorType"], apart := false, laid := [("errors.errorType", laid_errors_errorType)] }
def ArrayPlaysSaid : Prop := arrayPlaysRow.holds Tryd.pinned (OpenSpec.ofChange arrayPlaysSpec)

/-- ITS FALSE NEIGHBOUR: 'it returns false'. Refute it at one input. -/
def arrayPlaysWrong : ChangeSpec := { name := "arrayPlays", fn := fun _ => fun
  | [d1, d2, d3, d4] => { results := [.lit (.bool false)], args := [d1, d2, d3, d4] }
  | _ => none }
def ArrayPlaysWrongFalsely : Prop := arrayPlaysRow.holds Tryd.pinned (OpenSpec.ofChange arrayPlaysWrong)

/-- 'paritylaw1.ScrubTells': WHATEVER THE INPUT: true; the input reads as it did. -/
def scrubTellsSpec : ChangeSpec := { name := "scrubTells", fn := fun _ => fun
  | [d1, d2, d3, d4, d5, d6] => { results := [.lit (.bool true)], args := [d1, d2, d3, d4, d5, d6] }
  | _ => none }
def scrubTellsRow : OpenClaim := { program := "ytmgppnceddnlmaadoor", sum := "a32f900c5a2fcbe0973fda4c2f69d20cae1d66fff957810cb041a45c8d633110", func := "paritymill/paritylaw1.ScrubTells", spec := "scrubTells", inPlace := ["internal/reflectlite.ValueOf", "(internal/reflectlite.Value).Type", "(internal/reflectlite.Value).IsNil", "internal/reflectlite.TypeOf", "(internal/reflectlite.Value).Elem", "(internal/reflectlite.Value).Set"], unfollowed := true, recurses := true, named := ["errors.errorType"], apart := false, laid := [("errors.errorType", laid_errors_errorType)] }
def ScrubTellsSaid : Prop := scrubTellsRow.holds Tryd.pinned (OpenSpec.ofChange scrubTellsSpec)

/-- ITS FALSE NEIGHBOUR: 'it returns false'. Refute it at one input. -/
def scrubTellsWrong : ChangeSpec := { name := "scrubTells", fn := fun _ => fun
  | [d1, d2, d3, d4, d5, d6] => { results := [.lit (.bool false)], args := [d1, d2, d3, d4, d5, d6] }
  | _ => none }
def ScrubTellsWrongFalsely : Prop := scrubTellsRow.holds Tryd.pinned (OpenSpec.ofChange scrubTellsWrong)

/-- 'paritylaw2.PlaceTells': WHATEVER THE INPUT: true; the input reads as it did. -/
def placeTellsSpec : ChangeSpec := { name := "placeTells", fn := fun _ => fun
  | [d1, d2, d3, d4, d5] => { results := [.lit (.bool true)], args := [d1, d2, d3, d4, d5] }
  | _ => none }
def placeTellsRow : OpenClaim := { program := "ytmgppnceddnlmaadoor", sum := "a32f900c5a2fcbe0973fda4c2f69d20cae1d66fff957810cb041a45c8d633110", func := "paritymill/paritylaw2.PlaceTells", spec := "placeTells", inPlace := ["internal/reflectlite.ValueOf", "(internal/reflectlite.Value).Type", "(internal/reflectlite.Value).IsNil", "internal/reflectlite.TypeOf", "(internal/reflectlite.Value).Elem", "(internal/reflectlite.Value).Set"], unfollowed := true, recurses := true, named := ["errors.errorType"], apart := false, laid := [("errors.errorType", laid_errors_errorType)] }
def PlaceTellsSaid : Prop := placeTellsRow.holds Tryd.pinned (OpenSpec.ofChange placeTellsSpec)

/-- ITS FALSE NEIGHBOUR: 'it returns false'. Refute it at one input. -/
def placeTellsWrong : ChangeSpec := { name := "placeTells", fn := fun _ => fun
  | [d1, d2, d3, d4, d5] => { results := [.lit (.bool false)], args := [d1, d2, d3, d4, d5] }
  | _ => none }
def PlaceTellsWrongFalsely : Prop := placeTellsRow.holds Tryd.pinned (OpenSpec.ofChange placeTellsWrong)

/-- 'paritytop.TopGrows': WHATEVER THE INPUT: true; the input reads as it did. -/
def topGrowsSpec : ChangeSpec := { name := "topGrows", fn := fun _ => fun
  | [d1, d2, d3, d4] => { results := [.lit (.bool true)], args := [d1, d2, d3, d4] }
  | _ => none }
def topGrowsRow : OpenClaim := { program := "ytmgppnceddnlmaadoor", sum := "a32f900c5a2fcbe0973fda4c2f69d20cae1d66fff957810cb041a45c8d633110", func := "paritymill/paritytop.TopGrows", spec := "topGrows", inPlace := ["internal/reflectlite.ValueOf", "(internal/reflectlite.Value).Type", "(internal/reflectlite.Value).IsNil", "internal/reflectlite.TypeOf", "(internal/reflectlite.Value).Elem", "(internal/reflectlite.Value).Set"], unfollowed := true, recurses := true, named := ["errors.errorType"], apart := false, laid := [("errors.errorType", laid_errors_errorType)] }
def TopGrowsSaid : Prop := topGrowsRow.holds Tryd.pinned (OpenSpec.ofChange topGrowsSpec)

/-- ITS FALSE NEIGHBOUR: 'it returns false'. Refute it at one input. -/
def topGrowsWrong : ChangeSpec := { name := "topGrows", fn := fun _ => fun
  | [d1, d2, d3, d4] => { results := [.lit (.bool false)], args := [d1, d2, d3, d4] }
  | _ => none }
def TopGrowsWrongFalsely : Prop := topGrowsRow.holds Tryd.pinned (OpenSpec.ofChange topGrowsWrong)

/- THE SECOND FORM. 'bulk': how many values and letters a reading holds, each counted each time it is reached (what is shared counts as often as it is met; a slice's spare places count too). A statement '..UptoSaid' is the law's where the arguments, and the package variables that the reading takes, are together of bulk at most 1048576: NARROWER than '..Said'. Prove '..Said' where nothing that the law and all that it calls make is longer than what came in: it says more and counts as full. Else prove '..UptoSaid'. A law counts once. -/
mutual
def uptoBulk {H : Type} : DataW H → Nat
  | .lit (.string bytes) => bytes.length + 1
  | .lit _ => 1
  | .nil => 1
  | .ptr d => uptoBulk d + 1
  | .slice elems spare => uptoBulkAll elems + uptoBulkAll spare + 1
  | .agg parts => uptoBulkAll parts + 1
  | .iface _ d => uptoBulk d + 1
  | .map entries => uptoBulkEntries entries + 1
  | .held _ => 1
def uptoBulkAll {H : Type} : List (DataW H) → Nat
  | [] => 0
  | d :: r => uptoBulk d + uptoBulkAll r
def uptoBulkEntries {H : Type} : List (Lit × DataW H) → Nat
  | [] => 0
  | x :: r => uptoBulkEntry x + uptoBulkEntries r
def uptoBulkEntry {H : Type} : Lit × DataW H → Nat
  | (.string bytes, d) => bytes.length + uptoBulk d + 1
  | (_, d) => uptoBulk d + 1
 end
def uptoSmall : (H : Type) → List (DataW H) → Bool := fun _ ds => decide (uptoBulkAll ds ≤ 1048576)
def OpenSpec.upto (s : _root_.Go.ChangeSpec) : _root_.Go.OpenSpec := { _root_.Go.OpenSpec.ofChange s with cond := some uptoSmall }

/-- 'paritylaw4.ArrayThree', WHERE WHAT IT READS IS OF BULK AT MOST 1048576: true; the input reads as it did. -/
def arrayThreeUptoRow : OpenClaim := { program := "ytmgppnceddnlmaadoor", sum := "a32f900c5a2fcbe0973fda4c2f69d20cae1d66fff957810cb041a45c8d633110", func := "paritymill/paritylaw4.ArrayThree", spec := "arrayThree", inPlace := ["internal/reflectlite.ValueOf", "(internal/reflectlite.Value).Type", "(internal/reflectlite.Value).IsNil", "internal/reflectlite.TypeOf", "(internal/reflectlite.Value).Elem", "(internal/reflectlite.Value).Set"], unfollowed := true, recurses := true, named := ["errors.errorType"], apart := false, laid := [("errors.errorType", laid_errors_errorType)], narrowed := true }
def ArrayThreeUptoSaid : Prop := arrayThreeUptoRow.holds Tryd.pinned (OpenSpec.upto arrayThreeSpec)

/-- 'paritylaw4.ScrubTwo', WHERE WHAT IT READS IS OF BULK AT MOST 1048576: true; the input reads as it did. -/
def scrubTwoUptoRow : OpenClaim := { program := "ytmgppnceddnlmaadoor", sum := "a32f900c5a2fcbe0973fda4c2f69d20cae1d66fff957810cb041a45c8d633110", func := "paritymill/paritylaw4.ScrubTwo", spec := "scrubTwo", inPlace := ["internal/reflectlite.ValueOf", "(internal/reflectlite.Value).Type", "(internal/reflectlite.Value).IsNil", "internal/reflectlite.TypeOf", "(internal/reflectlite.Value).Elem", "(internal/reflectlite.Value).Set"], unfollowed := true, recurses := true, named := ["errors.errorType"], apart := false, laid := [("errors.errorType", laid_errors_errorType)], narrowed := true }
def ScrubTwoUptoSaid : Prop := scrubTwoUptoRow.holds Tryd.pinned (OpenSpec.upto scrubTwoSpec)

/-- 'paritylaw4.ArrayRebuilds', WHERE WHAT IT READS IS OF BULK AT MOST 1048576: true; the input reads as it did. -/
def arrayRebuildsUptoRow : OpenClaim := { program := "ytmgppnceddnlmaadoor", sum := "a32f900c5a2fcbe0973fda4c2f69d20cae1d66fff957810cb041a45c8d633110", func := "paritymill/paritylaw4.ArrayRebuilds", spec := "arrayRebuilds", inPlace := ["internal/reflectlite.ValueOf", "(internal/reflectlite.Value).Type", "(internal/reflectlite.Value).IsNil", "internal/reflectlite.TypeOf", "(internal/reflectlite.Value).Elem", "(internal/reflectlite.Value).Set"], unfollowed := true, recurses := true, named := ["errors.errorType"], apart := false, laid := [("errors.errorType", laid_errors_errorType)], narrowed := true }
def ArrayRebuildsUptoSaid : Prop := arrayRebuildsUptoRow.holds Tryd.pinned (OpenSpec.upto arrayRebuildsSpec)

/-- 'paritylaw1.ArrayKeeps', WHERE WHAT IT READS IS OF BULK AT MOST 1048576: true; the input reads as it did. -/
def arrayKeepsUptoRow : OpenClaim := { program := "ytmgppnceddnlmaadoor", sum := "a32f900c5a2fcbe0973fda4c2f69d20cae1d66fff957810cb041a45c8d633110", func := "paritymill/paritylaw1.ArrayKeeps", spec := "arrayKeeps", inPlace := ["internal/reflectlite.ValueOf", "(internal/reflectlite.Value).Type", "(internal/reflectlite.Value).IsNil", "internal/reflectlite.TypeOf", "(internal/reflectlite.Value).Elem", "(internal/reflectlite.Value).Set"], unfollowed := true, recurses := true, named := ["errors.errorType"], apart := false, laid := [("errors.errorType", laid_errors_errorType)], narrowed := true }
def ArrayKeepsUptoSaid : Prop := arrayKeepsUptoRow.holds Tryd.pinned (OpenSpec.upto arrayKeepsSpec)

/-- 'paritylaw1.ScrubMends', WHERE WHAT IT READS IS OF BULK AT MOST 1048576: true; the input reads as it did. -/
def scrubMendsUptoRow : OpenClaim := { program := "ytmgppnceddnlmaadoor", sum := "a32f900c5a2fcbe0973fda4c2f69d20cae1d66fff957810cb041a45c8d633110", func := "paritymill/paritylaw1.ScrubMends", spec := "scrubMends", inPlace := ["internal/reflectlite.ValueOf", "(internal/reflectlite.Value).Type", "(internal/reflectlite.Value).IsNil", "internal/reflectlite.TypeOf", "(internal/reflectlite.Value).Elem", "(internal/reflectlite.Value).Set"], unfollowed := true, recurses := true, named := ["errors.errorType"], apart := false, laid := [("errors.errorType", laid_errors_errorType)], narrowed := true }
def ScrubMendsUptoSaid : Prop := scrubMendsUptoRow.holds Tryd.pinned (OpenSpec.upto scrubMendsSpec)

/-- 'paritylaw1.ArrayPlays', WHERE WHAT IT READS IS OF BULK AT MOST 1048576: true; the input reads as it did. -/
def arrayPlaysUptoRow : OpenClaim := { program := "ytmgppnceddnlmaadoor", sum := "a32f900c5a2fcbe0973fda4c2f69d20cae1d66fff957810cb041a45c8d633110", func := "paritymill/paritylaw1.ArrayPlays", spec := "arrayPlays", inPlace := ["internal/reflectlite.ValueOf", "(internal/reflectlite.Value).Type", "(internal/reflectlite.Value).IsNil", "internal/reflectlite.TypeOf", "(internal/reflectlite.Value).Elem", "(internal/reflectlite.Value).Set"], unfollowed := true, recurses := true, named := ["errors.errorType"], apart := false, laid := [("errors.errorType", laid_errors_errorType)], narrowed := true }
def ArrayPlaysUptoSaid : Prop := arrayPlaysUptoRow.holds Tryd.pinned (OpenSpec.upto arrayPlaysSpec)

/-- 'paritylaw1.ScrubTells', WHERE WHAT IT READS IS OF BULK AT MOST 1048576: true; the input reads as it did. -/
def scrubTellsUptoRow : OpenClaim := { program := "ytmgppnceddnlmaadoor", sum := "a32f900c5a2fcbe0973fda4c2f69d20cae1d66fff957810cb041a45c8d633110", func := "paritymill/paritylaw1.ScrubTells", spec := "scrubTells", inPlace := ["internal/reflectlite.ValueOf", "(internal/reflectlite.Value).Type", "(internal/reflectlite.Value).IsNil", "internal/reflectlite.TypeOf", "(internal/reflectlite.Value).Elem", "(internal/reflectlite.Value).Set"], unfollowed := true, recurses := true, named := ["errors.errorType"], apart := false, laid := [("errors.errorType", laid_errors_errorType)], narrowed := true }
def ScrubTellsUptoSaid : Prop := scrubTellsUptoRow.holds Tryd.pinned (OpenSpec.upto scrubTellsSpec)

/-- 'paritylaw2.PlaceTells', WHERE WHAT IT READS IS OF BULK AT MOST 1048576: true; the input reads as it did. -/
def placeTellsUptoRow : OpenClaim := { program := "ytmgppnceddnlmaadoor", sum := "a32f900c5a2fcbe0973fda4c2f69d20cae1d66fff957810cb041a45c8d633110", func := "paritymill/paritylaw2.PlaceTells", spec := "placeTells", inPlace := ["internal/reflectlite.ValueOf", "(internal/reflectlite.Value).Type", "(internal/reflectlite.Value).IsNil", "internal/reflectlite.TypeOf", "(internal/reflectlite.Value).Elem", "(internal/reflectlite.Value).Set"], unfollowed := true, recurses := true, named := ["errors.errorType"], apart := false, laid := [("errors.errorType", laid_errors_errorType)], narrowed := true }
def PlaceTellsUptoSaid : Prop := placeTellsUptoRow.holds Tryd.pinned (OpenSpec.upto placeTellsSpec)

/-- 'paritytop.TopGrows', WHERE WHAT IT READS IS OF BULK AT MOST 1048576: true; the input reads as it did. -/
def topGrowsUptoRow : OpenClaim := { program := "ytmgppnceddnlmaadoor", sum := "a32f900c5a2fcbe0973fda4c2f69d20cae1d66fff957810cb041a45c8d633110", func := "paritymill/paritytop.TopGrows", spec := "topGrows", inPlace := ["internal/reflectlite.ValueOf", "(internal/reflectlite.Value).Type", "(internal/reflectlite.Value).IsNil", "internal/reflectlite.TypeOf", "(internal/reflectlite.Value).Elem", "(internal/reflectlite.Value).Set"], unfollowed := true, recurses := true, named := ["errors.errorType"], apart := false, laid := [("errors.errorType", laid_errors_errorType)], narrowed := true }
def TopGrowsUptoSaid : Prop := topGrowsUptoRow.holds Tryd.pinned (OpenSpec.upto topGrowsSpec)

end Rows
end Go.Proofs.YtmgppnceddnlmaaDoor
