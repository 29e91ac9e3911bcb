/-
  NARROWER THAN 'FOR EVERY INPUT', by the rows' own cells (each row's printed sentence says how): LogDone: laid · LogFront: laid · LogAll: laid · LogTwice: laid · TxnApart: laid · TxnAll: laid · ChainLong: laid · ChainReads: laid · ChainWrites: laid · ChainFull: laid · ChainDrops: laid · ChainKeeps: laid.
  DERIVED. THE GIVEN ROWS OF THIS SEAT. 12 by the template 'for every input the law returns true; each argument reads behind the call as it read before'; 0 by the template 'total and deterministic' (their statements: YtonkeialdfofcaaGreatDoorTotals.lean).
  GIVEN WITH THE SEED: the statements are not yours to turn. If you find one false, say at which input.
  Laid BY PROGRAM, IN A SANDBOX (cutbox-rows.mjs): the forced cells as the released guide's own fill.sh prints them over the translation fa709da56bfc7f4a… (all of the seat's roots in one cut). By AI agents, Wed Nov 11 2026. No macro, syntax, notation, axiom, sorry.
-/
import Derived.Test.YtonkeialdfofcaaGreatDoorChecked
import GoSem.Claim
import GoSem.ClaimJoined
import GoSem.ClaimMapViews
import Derived.JoinedTies
import Derived.KernelRfl
namespace Go.Proofs.YtonkeialdfofcaaGreatDoor
/- THE CELL 'sum', in the pinned program and in every row, IS THE sha256 OF THE DUMP (.gsa) THAT YtonkeialdfofcaaGreatDoorProg.lean LOADS. Nothing in Lean hashes anything: it is a label: what it is worth is what the hold of that sum in a sandbox is worth. -/
noncomputable def Tryz.pinned : Pinned := { name := "ytonkeialdfofcaagreatdoor", sum := "fa709da56bfc7f4ae98b84b9c6b275cc95c6d1b9cf9167d4f9d13ff44eed54fb", checked := Tryz.checked }
namespace Rows
def none {H : Type} : Left H := { results := [], args := [] }

/- WHAT THE LISTED PACKAGE-LEVEL VARIABLES READ AS WHEN THE CALL BEGINS. Each datum BY PROGRAM (the guide's laid-datum.mjs) off the statement by which the dump's own 'gosem.cut.vars' lays the variable. In a bare row this is a premise. The card (YtonkeialdfofcaaGreatDoorCards.lean) ties it to the program's text. -/
def laid_errors_errorType {H : Type} : DataW H := .iface "internal/reflectlite.rtype" (.agg [.ptr (.lit (.string [101, 114, 114, 111, 114]))])

/-- 'scriptorylaw18.LogDone': WHATEVER THE INPUT: true; the input reads as it did. -/
def logDoneSpec : ChangeSpec := { name := "logDone", fn := fun _ => fun
  | [d1, d2, d3] => { results := [.lit (.bool true)], args := [d1, d2, d3] }
  | _ => none }
def logDoneRow : OpenClaim := { program := "ytonkeialdfofcaagreatdoor", sum := "fa709da56bfc7f4ae98b84b9c6b275cc95c6d1b9cf9167d4f9d13ff44eed54fb", func := "scriptory/scriptorylaw18.LogDone", spec := "logDone", inPlace := ["internal/reflectlite.ValueOf", "(internal/reflectlite.Value).Type", "(internal/reflectlite.Value).IsNil", "internal/reflectlite.TypeOf", "(internal/reflectlite.Value).Elem", "(internal/reflectlite.Value).Set"], unfollowed := true, recurses := true, named := ["errors.errorType"], apart := false, laid := [("errors.errorType", laid_errors_errorType)] }
def LogDoneSaid : Prop := logDoneRow.holds Tryz.pinned (OpenSpec.ofChange logDoneSpec)

/-- ITS FALSE NEIGHBOUR: 'it returns false'. Refute it at one input. -/
def logDoneWrong : ChangeSpec := { name := "logDone", fn := fun _ => fun
  | [d1, d2, d3] => { results := [.lit (.bool false)], args := [d1, d2, d3] }
  | _ => none }
def LogDoneWrongFalsely : Prop := logDoneRow.holds Tryz.pinned (OpenSpec.ofChange logDoneWrong)

/-- 'scriptorylaw18.LogFront': WHATEVER THE INPUT: true; the input reads as it did. -/
def logFrontSpec : ChangeSpec := { name := "logFront", fn := fun _ => fun
  | [d1, d2, d3, d4, d5] => { results := [.lit (.bool true)], args := [d1, d2, d3, d4, d5] }
  | _ => none }
def logFrontRow : OpenClaim := { program := "ytonkeialdfofcaagreatdoor", sum := "fa709da56bfc7f4ae98b84b9c6b275cc95c6d1b9cf9167d4f9d13ff44eed54fb", func := "scriptory/scriptorylaw18.LogFront", spec := "logFront", inPlace := ["internal/reflectlite.ValueOf", "(internal/reflectlite.Value).Type", "(internal/reflectlite.Value).IsNil", "internal/reflectlite.TypeOf", "(internal/reflectlite.Value).Elem", "(internal/reflectlite.Value).Set"], unfollowed := true, recurses := true, named := ["errors.errorType"], apart := false, laid := [("errors.errorType", laid_errors_errorType)] }
def LogFrontSaid : Prop := logFrontRow.holds Tryz.pinned (OpenSpec.ofChange logFrontSpec)

/-- ITS FALSE NEIGHBOUR: 'it returns false'. Refute it at one input. -/
def logFrontWrong : ChangeSpec := { name := "logFront", fn := fun _ => fun
  | [d1, d2, d3, d4, d5] => { results := [.lit (.bool false)], args := [d1, d2, d3, d4, d5] }
  | _ => none }
def LogFrontWrongFalsely : Prop := logFrontRow.holds Tryz.pinned (OpenSpec.ofChange logFrontWrong)

/-- 'scriptorylaw18.LogAll': WHATEVER THE INPUT: true; the input reads as it did. -/
def logAllSpec : ChangeSpec := { name := "logAll", fn := fun _ => fun
  | [d1, d2, d3] => { results := [.lit (.bool true)], args := [d1, d2, d3] }
  | _ => none }
def logAllRow : OpenClaim := { program := "ytonkeialdfofcaagreatdoor", sum := "fa709da56bfc7f4ae98b84b9c6b275cc95c6d1b9cf9167d4f9d13ff44eed54fb", func := "scriptory/scriptorylaw18.LogAll", spec := "logAll", inPlace := ["internal/reflectlite.ValueOf", "(internal/reflectlite.Value).Type", "(internal/reflectlite.Value).IsNil", "internal/reflectlite.TypeOf", "(internal/reflectlite.Value).Elem", "(internal/reflectlite.Value).Set"], unfollowed := true, recurses := true, named := ["errors.errorType"], apart := false, laid := [("errors.errorType", laid_errors_errorType)] }
def LogAllSaid : Prop := logAllRow.holds Tryz.pinned (OpenSpec.ofChange logAllSpec)

/-- ITS FALSE NEIGHBOUR: 'it returns false'. Refute it at one input. -/
def logAllWrong : ChangeSpec := { name := "logAll", fn := fun _ => fun
  | [d1, d2, d3] => { results := [.lit (.bool false)], args := [d1, d2, d3] }
  | _ => none }
def LogAllWrongFalsely : Prop := logAllRow.holds Tryz.pinned (OpenSpec.ofChange logAllWrong)

/-- 'scriptorylaw18.LogTwice': WHATEVER THE INPUT: true; the input reads as it did. -/
def logTwiceSpec : ChangeSpec := { name := "logTwice", fn := fun _ => fun
  | [d1, d2, d3, d4] => { results := [.lit (.bool true)], args := [d1, d2, d3, d4] }
  | _ => none }
def logTwiceRow : OpenClaim := { program := "ytonkeialdfofcaagreatdoor", sum := "fa709da56bfc7f4ae98b84b9c6b275cc95c6d1b9cf9167d4f9d13ff44eed54fb", func := "scriptory/scriptorylaw18.LogTwice", spec := "logTwice", inPlace := ["internal/reflectlite.ValueOf", "(internal/reflectlite.Value).Type", "(internal/reflectlite.Value).IsNil", "internal/reflectlite.TypeOf", "(internal/reflectlite.Value).Elem", "(internal/reflectlite.Value).Set", "maps.clone"], unfollowed := true, recurses := true, named := ["errors.errorType"], apart := false, laid := [("errors.errorType", laid_errors_errorType)] }
def LogTwiceSaid : Prop := logTwiceRow.holds Tryz.pinned (OpenSpec.ofChange logTwiceSpec)

/-- ITS FALSE NEIGHBOUR: 'it returns false'. Refute it at one input. -/
def logTwiceWrong : ChangeSpec := { name := "logTwice", fn := fun _ => fun
  | [d1, d2, d3, d4] => { results := [.lit (.bool false)], args := [d1, d2, d3, d4] }
  | _ => none }
def LogTwiceWrongFalsely : Prop := logTwiceRow.holds Tryz.pinned (OpenSpec.ofChange logTwiceWrong)

/-- 'scriptorylaw19.TxnApart': WHATEVER THE INPUT: true; the input reads as it did. -/
def txnApartSpec : ChangeSpec := { name := "txnApart", fn := fun _ => fun
  | [d1, d2, d3] => { results := [.lit (.bool true)], args := [d1, d2, d3] }
  | _ => none }
def txnApartRow : OpenClaim := { program := "ytonkeialdfofcaagreatdoor", sum := "fa709da56bfc7f4ae98b84b9c6b275cc95c6d1b9cf9167d4f9d13ff44eed54fb", func := "scriptory/scriptorylaw19.TxnApart", spec := "txnApart", inPlace := ["internal/reflectlite.ValueOf", "(internal/reflectlite.Value).Type", "(internal/reflectlite.Value).IsNil", "internal/reflectlite.TypeOf", "(internal/reflectlite.Value).Elem", "(internal/reflectlite.Value).Set"], unfollowed := true, recurses := true, named := ["errors.errorType"], apart := false, laid := [("errors.errorType", laid_errors_errorType)] }
def TxnApartSaid : Prop := txnApartRow.holds Tryz.pinned (OpenSpec.ofChange txnApartSpec)

/-- ITS FALSE NEIGHBOUR: 'it returns false'. Refute it at one input. -/
def txnApartWrong : ChangeSpec := { name := "txnApart", fn := fun _ => fun
  | [d1, d2, d3] => { results := [.lit (.bool false)], args := [d1, d2, d3] }
  | _ => none }
def TxnApartWrongFalsely : Prop := txnApartRow.holds Tryz.pinned (OpenSpec.ofChange txnApartWrong)

/-- 'scriptorylaw19.TxnAll': WHATEVER THE INPUT: true; the input reads as it did. -/
def txnAllSpec : ChangeSpec := { name := "txnAll", fn := fun _ => fun
  | [d] => { results := [.lit (.bool true)], args := [d] }
  | _ => none }
def txnAllRow : OpenClaim := { program := "ytonkeialdfofcaagreatdoor", sum := "fa709da56bfc7f4ae98b84b9c6b275cc95c6d1b9cf9167d4f9d13ff44eed54fb", func := "scriptory/scriptorylaw19.TxnAll", spec := "txnAll", inPlace := ["internal/reflectlite.ValueOf", "(internal/reflectlite.Value).Type", "(internal/reflectlite.Value).IsNil", "internal/reflectlite.TypeOf", "(internal/reflectlite.Value).Elem", "(internal/reflectlite.Value).Set"], unfollowed := true, recurses := true, named := ["errors.errorType"], apart := false, laid := [("errors.errorType", laid_errors_errorType)] }
def TxnAllSaid : Prop := txnAllRow.holds Tryz.pinned (OpenSpec.ofChange txnAllSpec)

/-- ITS FALSE NEIGHBOUR: 'it returns false'. Refute it at one input. -/
def txnAllWrong : ChangeSpec := { name := "txnAll", fn := fun _ => fun
  | [d] => { results := [.lit (.bool false)], args := [d] }
  | _ => none }
def TxnAllWrongFalsely : Prop := txnAllRow.holds Tryz.pinned (OpenSpec.ofChange txnAllWrong)

/-- 'scriptorylaw22.ChainLong': WHATEVER THE INPUT: true; the input reads as it did. -/
def chainLongSpec : ChangeSpec := { name := "chainLong", fn := fun _ => fun
  | [d] => { results := [.lit (.bool true)], args := [d] }
  | _ => none }
def chainLongRow : OpenClaim := { program := "ytonkeialdfofcaagreatdoor", sum := "fa709da56bfc7f4ae98b84b9c6b275cc95c6d1b9cf9167d4f9d13ff44eed54fb", func := "scriptory/scriptorylaw22.ChainLong", spec := "chainLong", inPlace := ["internal/reflectlite.ValueOf", "(internal/reflectlite.Value).Type", "(internal/reflectlite.Value).IsNil", "internal/reflectlite.TypeOf", "(internal/reflectlite.Value).Elem", "(internal/reflectlite.Value).Set"], unfollowed := true, recurses := true, named := ["errors.errorType"], apart := false, laid := [("errors.errorType", laid_errors_errorType)] }
def ChainLongSaid : Prop := chainLongRow.holds Tryz.pinned (OpenSpec.ofChange chainLongSpec)

/-- ITS FALSE NEIGHBOUR: 'it returns false'. Refute it at one input. -/
def chainLongWrong : ChangeSpec := { name := "chainLong", fn := fun _ => fun
  | [d] => { results := [.lit (.bool false)], args := [d] }
  | _ => none }
def ChainLongWrongFalsely : Prop := chainLongRow.holds Tryz.pinned (OpenSpec.ofChange chainLongWrong)

/-- 'scriptorylaw22.ChainReads': WHATEVER THE INPUT: true; the input reads as it did. -/
def chainReadsSpec : ChangeSpec := { name := "chainReads", fn := fun _ => fun
  | [d1, d2, d3] => { results := [.lit (.bool true)], args := [d1, d2, d3] }
  | _ => none }
def chainReadsRow : OpenClaim := { program := "ytonkeialdfofcaagreatdoor", sum := "fa709da56bfc7f4ae98b84b9c6b275cc95c6d1b9cf9167d4f9d13ff44eed54fb", func := "scriptory/scriptorylaw22.ChainReads", spec := "chainReads", inPlace := ["internal/reflectlite.ValueOf", "(internal/reflectlite.Value).Type", "(internal/reflectlite.Value).IsNil", "internal/reflectlite.TypeOf", "(internal/reflectlite.Value).Elem", "(internal/reflectlite.Value).Set"], unfollowed := true, recurses := true, named := ["errors.errorType"], apart := false, laid := [("errors.errorType", laid_errors_errorType)] }
def ChainReadsSaid : Prop := chainReadsRow.holds Tryz.pinned (OpenSpec.ofChange chainReadsSpec)

/-- ITS FALSE NEIGHBOUR: 'it returns false'. Refute it at one input. -/
def chainReadsWrong : ChangeSpec := { name := "chainReads", fn := fun _ => fun
  | [d1, d2, d3] => { results := [.lit (.bool false)], args := [d1, d2, d3] }
  | _ => none }
def ChainReadsWrongFalsely : Prop := chainReadsRow.holds Tryz.pinned (OpenSpec.ofChange chainReadsWrong)

/-- 'scriptorylaw22.ChainWrites': WHATEVER THE INPUT: true; the input reads as it did. -/
def chainWritesSpec : ChangeSpec := { name := "chainWrites", fn := fun _ => fun
  | [d1, d2] => { results := [.lit (.bool true)], args := [d1, d2] }
  | _ => none }
def chainWritesRow : OpenClaim := { program := "ytonkeialdfofcaagreatdoor", sum := "fa709da56bfc7f4ae98b84b9c6b275cc95c6d1b9cf9167d4f9d13ff44eed54fb", func := "scriptory/scriptorylaw22.ChainWrites", spec := "chainWrites", inPlace := ["internal/reflectlite.ValueOf", "(internal/reflectlite.Value).Type", "(internal/reflectlite.Value).IsNil", "internal/reflectlite.TypeOf", "(internal/reflectlite.Value).Elem", "(internal/reflectlite.Value).Set"], unfollowed := true, recurses := true, named := ["errors.errorType"], apart := false, laid := [("errors.errorType", laid_errors_errorType)] }
def ChainWritesSaid : Prop := chainWritesRow.holds Tryz.pinned (OpenSpec.ofChange chainWritesSpec)

/-- ITS FALSE NEIGHBOUR: 'it returns false'. Refute it at one input. -/
def chainWritesWrong : ChangeSpec := { name := "chainWrites", fn := fun _ => fun
  | [d1, d2] => { results := [.lit (.bool false)], args := [d1, d2] }
  | _ => none }
def ChainWritesWrongFalsely : Prop := chainWritesRow.holds Tryz.pinned (OpenSpec.ofChange chainWritesWrong)

/-- 'scriptorylaw22.ChainFull': WHATEVER THE INPUT: true; the input reads as it did. -/
def chainFullSpec : ChangeSpec := { name := "chainFull", fn := fun _ => fun
  | [d1, d2] => { results := [.lit (.bool true)], args := [d1, d2] }
  | _ => none }
def chainFullRow : OpenClaim := { program := "ytonkeialdfofcaagreatdoor", sum := "fa709da56bfc7f4ae98b84b9c6b275cc95c6d1b9cf9167d4f9d13ff44eed54fb", func := "scriptory/scriptorylaw22.ChainFull", spec := "chainFull", inPlace := ["internal/reflectlite.ValueOf", "(internal/reflectlite.Value).Type", "(internal/reflectlite.Value).IsNil", "internal/reflectlite.TypeOf", "(internal/reflectlite.Value).Elem", "(internal/reflectlite.Value).Set"], unfollowed := true, recurses := true, named := ["errors.errorType"], apart := false, laid := [("errors.errorType", laid_errors_errorType)] }
def ChainFullSaid : Prop := chainFullRow.holds Tryz.pinned (OpenSpec.ofChange chainFullSpec)

/-- ITS FALSE NEIGHBOUR: 'it returns false'. Refute it at one input. -/
def chainFullWrong : ChangeSpec := { name := "chainFull", fn := fun _ => fun
  | [d1, d2] => { results := [.lit (.bool false)], args := [d1, d2] }
  | _ => none }
def ChainFullWrongFalsely : Prop := chainFullRow.holds Tryz.pinned (OpenSpec.ofChange chainFullWrong)

/-- 'scriptorylaw22.ChainDrops': WHATEVER THE INPUT: true; the input reads as it did. -/
def chainDropsSpec : ChangeSpec := { name := "chainDrops", fn := fun _ => fun
  | [d1, d2] => { results := [.lit (.bool true)], args := [d1, d2] }
  | _ => none }
def chainDropsRow : OpenClaim := { program := "ytonkeialdfofcaagreatdoor", sum := "fa709da56bfc7f4ae98b84b9c6b275cc95c6d1b9cf9167d4f9d13ff44eed54fb", func := "scriptory/scriptorylaw22.ChainDrops", spec := "chainDrops", inPlace := ["internal/reflectlite.ValueOf", "(internal/reflectlite.Value).Type", "(internal/reflectlite.Value).IsNil", "internal/reflectlite.TypeOf", "(internal/reflectlite.Value).Elem", "(internal/reflectlite.Value).Set"], unfollowed := true, recurses := true, named := ["errors.errorType"], apart := false, laid := [("errors.errorType", laid_errors_errorType)] }
def ChainDropsSaid : Prop := chainDropsRow.holds Tryz.pinned (OpenSpec.ofChange chainDropsSpec)

/-- ITS FALSE NEIGHBOUR: 'it returns false'. Refute it at one input. -/
def chainDropsWrong : ChangeSpec := { name := "chainDrops", fn := fun _ => fun
  | [d1, d2] => { results := [.lit (.bool false)], args := [d1, d2] }
  | _ => none }
def ChainDropsWrongFalsely : Prop := chainDropsRow.holds Tryz.pinned (OpenSpec.ofChange chainDropsWrong)

/-- 'scriptorylaw22.ChainKeeps': WHATEVER THE INPUT: true; the input reads as it did. -/
def chainKeepsSpec : ChangeSpec := { name := "chainKeeps", fn := fun _ => fun
  | [d1, d2, d3] => { results := [.lit (.bool true)], args := [d1, d2, d3] }
  | _ => none }
def chainKeepsRow : OpenClaim := { program := "ytonkeialdfofcaagreatdoor", sum := "fa709da56bfc7f4ae98b84b9c6b275cc95c6d1b9cf9167d4f9d13ff44eed54fb", func := "scriptory/scriptorylaw22.ChainKeeps", spec := "chainKeeps", inPlace := ["internal/reflectlite.ValueOf", "(internal/reflectlite.Value).Type", "(internal/reflectlite.Value).IsNil", "internal/reflectlite.TypeOf", "(internal/reflectlite.Value).Elem", "(internal/reflectlite.Value).Set"], unfollowed := true, recurses := true, named := ["errors.errorType"], apart := false, laid := [("errors.errorType", laid_errors_errorType)] }
def ChainKeepsSaid : Prop := chainKeepsRow.holds Tryz.pinned (OpenSpec.ofChange chainKeepsSpec)

/-- ITS FALSE NEIGHBOUR: 'it returns false'. Refute it at one input. -/
def chainKeepsWrong : ChangeSpec := { name := "chainKeeps", fn := fun _ => fun
  | [d1, d2, d3] => { results := [.lit (.bool false)], args := [d1, d2, d3] }
  | _ => none }
def ChainKeepsWrongFalsely : Prop := chainKeepsRow.holds Tryz.pinned (OpenSpec.ofChange chainKeepsWrong)

/- THE SECOND FORM. 'bulk': how many values and letters a reading holds, each counted each time it is reached (what is shared counts as often as it is met; a slice's spare places count too). A statement '..UptoSaid' is the law's where the arguments, and the package variables that the reading takes, are together of bulk at most 1048576: NARROWER than '..Said'. Prove '..Said' where nothing that the law and all that it calls make is longer than what came in: it says more and counts as full. Else prove '..UptoSaid'. A law counts once. -/
mutual
def uptoBulk {H : Type} : DataW H → Nat
  | .lit (.string bytes) => bytes.length + 1
  | .lit _ => 1
  | .nil => 1
  | .ptr d => uptoBulk d + 1
  | .slice elems spare => uptoBulkAll elems + uptoBulkAll spare + 1
  | .agg parts => uptoBulkAll parts + 1
  | .iface _ d => uptoBulk d + 1
  | .map entries => uptoBulkEntries entries + 1
  | .held _ => 1
def uptoBulkAll {H : Type} : List (DataW H) → Nat
  | [] => 0
  | d :: r => uptoBulk d + uptoBulkAll r
def uptoBulkEntries {H : Type} : List (Lit × DataW H) → Nat
  | [] => 0
  | x :: r => uptoBulkEntry x + uptoBulkEntries r
def uptoBulkEntry {H : Type} : Lit × DataW H → Nat
  | (.string bytes, d) => bytes.length + uptoBulk d + 1
  | (_, d) => uptoBulk d + 1
 end
def uptoSmall : (H : Type) → List (DataW H) → Bool := fun _ ds => decide (uptoBulkAll ds ≤ 1048576)
def OpenSpec.upto (s : _root_.Go.ChangeSpec) : _root_.Go.OpenSpec := { _root_.Go.OpenSpec.ofChange s with cond := some uptoSmall }

/-- 'scriptorylaw18.LogDone', WHERE WHAT IT READS IS OF BULK AT MOST 1048576: true; the input reads as it did. -/
def logDoneUptoRow : OpenClaim := { program := "ytonkeialdfofcaagreatdoor", sum := "fa709da56bfc7f4ae98b84b9c6b275cc95c6d1b9cf9167d4f9d13ff44eed54fb", func := "scriptory/scriptorylaw18.LogDone", spec := "logDone", inPlace := ["internal/reflectlite.ValueOf", "(internal/reflectlite.Value).Type", "(internal/reflectlite.Value).IsNil", "internal/reflectlite.TypeOf", "(internal/reflectlite.Value).Elem", "(internal/reflectlite.Value).Set"], unfollowed := true, recurses := true, named := ["errors.errorType"], apart := false, laid := [("errors.errorType", laid_errors_errorType)], narrowed := true }
def LogDoneUptoSaid : Prop := logDoneUptoRow.holds Tryz.pinned (OpenSpec.upto logDoneSpec)

/-- 'scriptorylaw18.LogFront', WHERE WHAT IT READS IS OF BULK AT MOST 1048576: true; the input reads as it did. -/
def logFrontUptoRow : OpenClaim := { program := "ytonkeialdfofcaagreatdoor", sum := "fa709da56bfc7f4ae98b84b9c6b275cc95c6d1b9cf9167d4f9d13ff44eed54fb", func := "scriptory/scriptorylaw18.LogFront", spec := "logFront", inPlace := ["internal/reflectlite.ValueOf", "(internal/reflectlite.Value).Type", "(internal/reflectlite.Value).IsNil", "internal/reflectlite.TypeOf", "(internal/reflectlite.Value).Elem", "(internal/reflectlite.Value).Set"], unfollowed := true, recurses := true, named := ["errors.errorType"], apart := false, laid := [("errors.errorType", laid_errors_errorType)], narrowed := true }
def LogFrontUptoSaid : Prop := logFrontUptoRow.holds Tryz.pinned (OpenSpec.upto logFrontSpec)

/-- 'scriptorylaw18.LogAll', WHERE WHAT IT READS IS OF BULK AT MOST 1048576: true; the input reads as it did. -/
def logAllUptoRow : OpenClaim := { program := "ytonkeialdfofcaagreatdoor", sum := "fa709da56bfc7f4ae98b84b9c6b275cc95c6d1b9cf9167d4f9d13ff44eed54fb", func := "scriptory/scriptorylaw18.LogAll", spec := "logAll", inPlace := ["internal/reflectlite.ValueOf", "(internal/reflectlite.Value).Type", "(internal/reflectlite.Value).IsNil", "internal/reflectlite.TypeOf", "(internal/reflectlite.Value).Elem", "(internal/reflectlite.Value).Set"], unfollowed := true, recurses := true, named := ["errors.errorType"], apart := false, laid := [("errors.errorType", laid_errors_errorType)], narrowed := true }
def LogAllUptoSaid : Prop := logAllUptoRow.holds Tryz.pinned (OpenSpec.upto logAllSpec)

/-- 'scriptorylaw18.LogTwice', WHERE WHAT IT READS IS OF BULK AT MOST 1048576: true; the input reads as it did. -/
def logTwiceUptoRow : OpenClaim := { program := "ytonkeialdfofcaagreatdoor", sum := "fa709da56bfc7f4ae98b84b9c6b275cc95c6d1b9cf9167d4f9d13ff44eed54fb", func := "scriptory/scriptorylaw18.LogTwice", spec := "logTwice", inPlace := ["internal/reflectlite.ValueOf", "(internal/reflectlite.Value).Type", "(internal/reflectlite.Value).IsNil", "internal/reflectlite.TypeOf", "(internal/reflectlite.Value).Elem", "(internal/reflectlite.Value).Set", "maps.clone"], unfollowed := true, recurses := true, named := ["errors.errorType"], apart := false, laid := [("errors.errorType", laid_errors_errorType)], narrowed := true }
def LogTwiceUptoSaid : Prop := logTwiceUptoRow.holds Tryz.pinned (OpenSpec.upto logTwiceSpec)

/-- 'scriptorylaw19.TxnApart', WHERE WHAT IT READS IS OF BULK AT MOST 1048576: true; the input reads as it did. -/
def txnApartUptoRow : OpenClaim := { program := "ytonkeialdfofcaagreatdoor", sum := "fa709da56bfc7f4ae98b84b9c6b275cc95c6d1b9cf9167d4f9d13ff44eed54fb", func := "scriptory/scriptorylaw19.TxnApart", spec := "txnApart", inPlace := ["internal/reflectlite.ValueOf", "(internal/reflectlite.Value).Type", "(internal/reflectlite.Value).IsNil", "internal/reflectlite.TypeOf", "(internal/reflectlite.Value).Elem", "(internal/reflectlite.Value).Set"], unfollowed := true, recurses := true, named := ["errors.errorType"], apart := false, laid := [("errors.errorType", laid_errors_errorType)], narrowed := true }
def TxnApartUptoSaid : Prop := txnApartUptoRow.holds Tryz.pinned (OpenSpec.upto txnApartSpec)

/-- 'scriptorylaw19.TxnAll', WHERE WHAT IT READS IS OF BULK AT MOST 1048576: true; the input reads as it did. -/
def txnAllUptoRow : OpenClaim := { program := "ytonkeialdfofcaagreatdoor", sum := "fa709da56bfc7f4ae98b84b9c6b275cc95c6d1b9cf9167d4f9d13ff44eed54fb", func := "scriptory/scriptorylaw19.TxnAll", spec := "txnAll", inPlace := ["internal/reflectlite.ValueOf", "(internal/reflectlite.Value).Type", "(internal/reflectlite.Value).IsNil", "internal/reflectlite.TypeOf", "(internal/reflectlite.Value).Elem", "(internal/reflectlite.Value).Set"], unfollowed := true, recurses := true, named := ["errors.errorType"], apart := false, laid := [("errors.errorType", laid_errors_errorType)], narrowed := true }
def TxnAllUptoSaid : Prop := txnAllUptoRow.holds Tryz.pinned (OpenSpec.upto txnAllSpec)

/-- 'scriptorylaw22.ChainLong', WHERE WHAT IT READS IS OF BULK AT MOST 1048576: true; the input reads as it did. -/
def chainLongUptoRow : OpenClaim := { program := "ytonkeialdfofcaagreatdoor", sum := "fa709da56bfc7f4ae98b84b9c6b275cc95c6d1b9cf9167d4f9d13ff44eed54fb", func := "scriptory/scriptorylaw22.ChainLong", spec := "chainLong", inPlace := ["internal/reflectlite.ValueOf", "(internal/reflectlite.Value).Type", "(internal/reflectlite.Value).IsNil", "internal/reflectlite.TypeOf", "(internal/reflectlite.Value).Elem", "(internal/reflectlite.Value).Set"], unfollowed := true, recurses := true, named := ["errors.errorType"], apart := false, laid := [("errors.errorType", laid_errors_errorType)], narrowed := true }
def ChainLongUptoSaid : Prop := chainLongUptoRow.holds Tryz.pinned (OpenSpec.upto chainLongSpec)

/-- 'scriptorylaw22.ChainReads', WHERE WHAT IT READS IS OF BULK AT MOST 1048576: true; the input reads as it did. -/
def chainReadsUptoRow : OpenClaim := { program := "ytonkeialdfofcaagreatdoor", sum := "fa709da56bfc7f4ae98b84b9c6b275cc95c6d1b9cf9167d4f9d13ff44eed54fb", func := "scriptory/scriptorylaw22.ChainReads", spec := "chainReads", inPlace := ["internal/reflectlite.ValueOf", "(internal/reflectlite.Value).Type", "(internal/reflectlite.Value).IsNil", "internal/reflectlite.TypeOf", "(internal/reflectlite.Value).Elem", "(internal/reflectlite.Value).Set"], unfollowed := true, recurses := true, named := ["errors.errorType"], apart := false, laid := [("errors.errorType", laid_errors_errorType)], narrowed := true }
def ChainReadsUptoSaid : Prop := chainReadsUptoRow.holds Tryz.pinned (OpenSpec.upto chainReadsSpec)

/-- 'scriptorylaw22.ChainWrites', WHERE WHAT IT READS IS OF BULK AT MOST 1048576: true; the input reads as it did. -/
def chainWritesUptoRow : OpenClaim := { program := "ytonkeialdfofcaagreatdoor", sum := "fa709da56bfc7f4ae98b84b9c6b275cc95c6d1b9cf9167d4f9d13ff44eed54fb", func := "scriptory/scriptorylaw22.ChainWrites", spec := "chainWrites", inPlace := ["internal/reflectlite.ValueOf", "(internal/reflectlite.Value).Type", "(internal/reflectlite.Value).IsNil", "internal/reflectlite.TypeOf", "(internal/reflectlite.Value).Elem", "(internal/reflectlite.Value).Set"], unfollowed := true, recurses := true, named := ["errors.errorType"], apart := false, laid := [("errors.errorType", laid_errors_errorType)], narrowed := true }
def ChainWritesUptoSaid : Prop := chainWritesUptoRow.holds Tryz.pinned (OpenSpec.upto chainWritesSpec)

/-- 'scriptorylaw22.ChainFull', WHERE WHAT IT READS IS OF BULK AT MOST 1048576: true; the input reads as it did. -/
def chainFullUptoRow : OpenClaim := { program := "ytonkeialdfofcaagreatdoor", sum := "fa709da56bfc7f4ae98b84b9c6b275cc95c6d1b9cf9167d4f9d13ff44eed54fb", func := "scriptory/scriptorylaw22.ChainFull", spec := "chainFull", inPlace := ["internal/reflectlite.ValueOf", "(internal/reflectlite.Value).Type", "(internal/reflectlite.Value).IsNil", "internal/reflectlite.TypeOf", "(internal/reflectlite.Value).Elem", "(internal/reflectlite.Value).Set"], unfollowed := true, recurses := true, named := ["errors.errorType"], apart := false, laid := [("errors.errorType", laid_errors_errorType)], narrowed := true }
def ChainFullUptoSaid : Prop := chainFullUptoRow.holds Tryz.pinned (OpenSpec.upto chainFullSpec)

/-- 'scriptorylaw22.ChainDrops', WHERE WHAT IT READS IS OF BULK AT MOST 1048576: true; the input reads as it did. -/
def chainDropsUptoRow : OpenClaim := { program := "ytonkeialdfofcaagreatdoor", sum := "fa709da56bfc7f4ae98b84b9c6b275cc95c6d1b9cf9167d4f9d13ff44eed54fb", func := "scriptory/scriptorylaw22.ChainDrops", spec := "chainDrops", inPlace := ["internal/reflectlite.ValueOf", "(internal/reflectlite.Value).Type", "(internal/reflectlite.Value).IsNil", "internal/reflectlite.TypeOf", "(internal/reflectlite.Value).Elem", "(internal/reflectlite.Value).Set"], unfollowed := true, recurses := true, named := ["errors.errorType"], apart := false, laid := [("errors.errorType", laid_errors_errorType)], narrowed := true }
def ChainDropsUptoSaid : Prop := chainDropsUptoRow.holds Tryz.pinned (OpenSpec.upto chainDropsSpec)

/-- 'scriptorylaw22.ChainKeeps', WHERE WHAT IT READS IS OF BULK AT MOST 1048576: true; the input reads as it did. -/
def chainKeepsUptoRow : OpenClaim := { program := "ytonkeialdfofcaagreatdoor", sum := "fa709da56bfc7f4ae98b84b9c6b275cc95c6d1b9cf9167d4f9d13ff44eed54fb", func := "scriptory/scriptorylaw22.ChainKeeps", spec := "chainKeeps", inPlace := ["internal/reflectlite.ValueOf", "(internal/reflectlite.Value).Type", "(internal/reflectlite.Value).IsNil", "internal/reflectlite.TypeOf", "(internal/reflectlite.Value).Elem", "(internal/reflectlite.Value).Set"], unfollowed := true, recurses := true, named := ["errors.errorType"], apart := false, laid := [("errors.errorType", laid_errors_errorType)], narrowed := true }
def ChainKeepsUptoSaid : Prop := chainKeepsUptoRow.holds Tryz.pinned (OpenSpec.upto chainKeepsSpec)

end Rows
end Go.Proofs.YtonkeialdfofcaaGreatDoor
