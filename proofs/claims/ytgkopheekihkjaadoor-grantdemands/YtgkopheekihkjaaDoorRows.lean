/-
  NARROWER THAN 'FOR EVERY INPUT', by the rows' own cells (each row's printed sentence says how): SignalOnce: laid · SignalLeft: laid · GrantDemands: laid · GrantTail: laid · GrantWithout: laid · GrantLines: laid.
  DERIVED. THE GIVEN ROWS OF THIS SEAT. 6 by the template 'for every input the law returns true; each argument reads behind the call as it read before'; 0 by the template 'total and deterministic' (their statements: YtgkopheekihkjaaDoorTotals.lean).
  GIVEN WITH THE SEED: the statements are not yours to turn. If you find one false, say at which input.
  Laid BY PROGRAM, IN A SANDBOX (cutbox-rows.mjs): the forced cells as the released guide's own fill.sh prints them over the translation 3e625df3b3388839… (all of the seat's roots in one cut). By AI agents, Wed Nov 11 2026. No macro, syntax, notation, axiom, sorry.
-/
import Derived.Test.YtgkopheekihkjaaDoorChecked
import GoSem.PinnedTables
import GoSem.Claim
import GoSem.ClaimJoined
import GoSem.ClaimMapViews
import Derived.JoinedTies
import Derived.KernelRfl
namespace Go.Proofs.YtgkopheekihkjaaDoor
/- THE CELL 'sum', in the pinned program and in every row, IS THE sha256 OF THE DUMP (.gsa) THAT YtgkopheekihkjaaDoorProg.lean LOADS. Nothing in Lean hashes anything: it is a label: what it is worth is what the hold of that sum in a sandbox is worth. -/
noncomputable def Tryd.pinned : Pinned := { name := "ytgkopheekihkjaadoor", sum := "3e625df3b33888396bd32dd2f784b4109fc53af068c1bb26141bab5dd6cf02e6", checked := Tryd.checked }
namespace Rows
def none {H : Type} : Left H := { results := [], args := [] }

/- WHAT THE LISTED PACKAGE-LEVEL VARIABLES READ AS WHEN THE CALL BEGINS. Each datum BY PROGRAM (the guide's laid-datum.mjs) off the statement by which the dump's own 'gosem.cut.vars' lays the variable. In a bare row this is a premise. The card (YtgkopheekihkjaaDoorCards.lean) ties it to the program's text. -/
def laid_unicode_utf8_acceptRanges {H : Type} : DataW H := .agg [.agg [.lit (.int .u8 128), .lit (.int .u8 191)], .agg [.lit (.int .u8 160), .lit (.int .u8 191)], .agg [.lit (.int .u8 128), .lit (.int .u8 159)], .agg [.lit (.int .u8 144), .lit (.int .u8 191)], .agg [.lit (.int .u8 128), .lit (.int .u8 143)], .agg [.lit (.int .u8 0), .lit (.int .u8 0)], .agg [.lit (.int .u8 0), .lit (.int .u8 0)], .agg [.lit (.int .u8 0), .lit (.int .u8 0)], .agg [.lit (.int .u8 0), .lit (.int .u8 0)], .agg [.lit (.int .u8 0), .lit (.int .u8 0)], .agg [.lit (.int .u8 0), .lit (.int .u8 0)], .agg [.lit (.int .u8 0), .lit (.int .u8 0)], .agg [.lit (.int .u8 0), .lit (.int .u8 0)], .agg [.lit (.int .u8 0), .lit (.int .u8 0)], .agg [.lit (.int .u8 0), .lit (.int .u8 0)], .agg [.lit (.int .u8 0), .lit (.int .u8 0)]]
/-- One of Go's own tables, pinned by name: the form's constant. -/
def laid_unicode_utf8_first : DataW Unit := Go.Pinned.utf8First

/-- 'parleylaw26.SignalOnce': WHATEVER THE INPUT: true; the input reads as it did. -/
def signalOnceSpec : ChangeSpec := { name := "signalOnce", fn := fun _ => fun
  | [d] => { results := [.lit (.bool true)], args := [d] }
  | _ => none }
def signalOnceRow : OpenClaim := { program := "ytgkopheekihkjaadoor", sum := "3e625df3b33888396bd32dd2f784b4109fc53af068c1bb26141bab5dd6cf02e6", func := "parley/parleylaw26.SignalOnce", spec := "signalOnce", unfollowed := true, recurses := true, named := ["unicode/utf8.first", "unicode/utf8.acceptRanges"], plainKeys := false, apart := false, laid := [("unicode/utf8.acceptRanges", laid_unicode_utf8_acceptRanges), ("unicode/utf8.first", laid_unicode_utf8_first)] }
def SignalOnceSaid : Prop := signalOnceRow.holds Tryd.pinned (OpenSpec.ofChange signalOnceSpec)

/-- ITS FALSE NEIGHBOUR: 'it returns false'. Refute it at one input. -/
def signalOnceWrong : ChangeSpec := { name := "signalOnce", fn := fun _ => fun
  | [d] => { results := [.lit (.bool false)], args := [d] }
  | _ => none }
def SignalOnceWrongFalsely : Prop := signalOnceRow.holds Tryd.pinned (OpenSpec.ofChange signalOnceWrong)

/-- 'parleylaw26.SignalLeft': WHATEVER THE INPUT: true; the input reads as it did. -/
def signalLeftSpec : ChangeSpec := { name := "signalLeft", fn := fun _ => fun
  | [d] => { results := [.lit (.bool true)], args := [d] }
  | _ => none }
def signalLeftRow : OpenClaim := { program := "ytgkopheekihkjaadoor", sum := "3e625df3b33888396bd32dd2f784b4109fc53af068c1bb26141bab5dd6cf02e6", func := "parley/parleylaw26.SignalLeft", spec := "signalLeft", unfollowed := true, recurses := true, named := ["unicode/utf8.first", "unicode/utf8.acceptRanges"], plainKeys := false, apart := false, laid := [("unicode/utf8.acceptRanges", laid_unicode_utf8_acceptRanges), ("unicode/utf8.first", laid_unicode_utf8_first)] }
def SignalLeftSaid : Prop := signalLeftRow.holds Tryd.pinned (OpenSpec.ofChange signalLeftSpec)

/-- ITS FALSE NEIGHBOUR: 'it returns false'. Refute it at one input. -/
def signalLeftWrong : ChangeSpec := { name := "signalLeft", fn := fun _ => fun
  | [d] => { results := [.lit (.bool false)], args := [d] }
  | _ => none }
def SignalLeftWrongFalsely : Prop := signalLeftRow.holds Tryd.pinned (OpenSpec.ofChange signalLeftWrong)

/-- 'parleylaw20.GrantDemands': WHATEVER THE INPUT: true; the input reads as it did. -/
def grantDemandsSpec : ChangeSpec := { name := "grantDemands", fn := fun _ => fun
  | [d1, d2] => { results := [.lit (.bool true)], args := [d1, d2] }
  | _ => none }
def grantDemandsRow : OpenClaim := { program := "ytgkopheekihkjaadoor", sum := "3e625df3b33888396bd32dd2f784b4109fc53af068c1bb26141bab5dd6cf02e6", func := "parley/parleylaw20.GrantDemands", spec := "grantDemands", unfollowed := true, recurses := true, named := ["unicode/utf8.first", "unicode/utf8.acceptRanges"], plainKeys := false, apart := false, laid := [("unicode/utf8.acceptRanges", laid_unicode_utf8_acceptRanges), ("unicode/utf8.first", laid_unicode_utf8_first)] }
def GrantDemandsSaid : Prop := grantDemandsRow.holds Tryd.pinned (OpenSpec.ofChange grantDemandsSpec)

/-- ITS FALSE NEIGHBOUR: 'it returns false'. Refute it at one input. -/
def grantDemandsWrong : ChangeSpec := { name := "grantDemands", fn := fun _ => fun
  | [d1, d2] => { results := [.lit (.bool false)], args := [d1, d2] }
  | _ => none }
def GrantDemandsWrongFalsely : Prop := grantDemandsRow.holds Tryd.pinned (OpenSpec.ofChange grantDemandsWrong)

/-- 'parleylaw20.GrantTail': WHATEVER THE INPUT: true; the input reads as it did. -/
def grantTailSpec : ChangeSpec := { name := "grantTail", fn := fun _ => fun
  | [d1, d2] => { results := [.lit (.bool true)], args := [d1, d2] }
  | _ => none }
def grantTailRow : OpenClaim := { program := "ytgkopheekihkjaadoor", sum := "3e625df3b33888396bd32dd2f784b4109fc53af068c1bb26141bab5dd6cf02e6", func := "parley/parleylaw20.GrantTail", spec := "grantTail", unfollowed := true, recurses := true, named := ["unicode/utf8.first", "unicode/utf8.acceptRanges"], plainKeys := false, apart := false, laid := [("unicode/utf8.acceptRanges", laid_unicode_utf8_acceptRanges), ("unicode/utf8.first", laid_unicode_utf8_first)] }
def GrantTailSaid : Prop := grantTailRow.holds Tryd.pinned (OpenSpec.ofChange grantTailSpec)

/-- ITS FALSE NEIGHBOUR: 'it returns false'. Refute it at one input. -/
def grantTailWrong : ChangeSpec := { name := "grantTail", fn := fun _ => fun
  | [d1, d2] => { results := [.lit (.bool false)], args := [d1, d2] }
  | _ => none }
def GrantTailWrongFalsely : Prop := grantTailRow.holds Tryd.pinned (OpenSpec.ofChange grantTailWrong)

/-- 'parleylaw20.GrantWithout': WHATEVER THE INPUT: true; the input reads as it did. -/
def grantWithoutSpec : ChangeSpec := { name := "grantWithout", fn := fun _ => fun
  | [d] => { results := [.lit (.bool true)], args := [d] }
  | _ => none }
def grantWithoutRow : OpenClaim := { program := "ytgkopheekihkjaadoor", sum := "3e625df3b33888396bd32dd2f784b4109fc53af068c1bb26141bab5dd6cf02e6", func := "parley/parleylaw20.GrantWithout", spec := "grantWithout", unfollowed := true, recurses := true, named := ["unicode/utf8.first", "unicode/utf8.acceptRanges"], plainKeys := false, apart := false, laid := [("unicode/utf8.acceptRanges", laid_unicode_utf8_acceptRanges), ("unicode/utf8.first", laid_unicode_utf8_first)] }
def GrantWithoutSaid : Prop := grantWithoutRow.holds Tryd.pinned (OpenSpec.ofChange grantWithoutSpec)

/-- ITS FALSE NEIGHBOUR: 'it returns false'. Refute it at one input. -/
def grantWithoutWrong : ChangeSpec := { name := "grantWithout", fn := fun _ => fun
  | [d] => { results := [.lit (.bool false)], args := [d] }
  | _ => none }
def GrantWithoutWrongFalsely : Prop := grantWithoutRow.holds Tryd.pinned (OpenSpec.ofChange grantWithoutWrong)

/-- 'parleylaw20.GrantLines': WHATEVER THE INPUT: true; the input reads as it did. -/
def grantLinesSpec : ChangeSpec := { name := "grantLines", fn := fun _ => fun
  | [d1, d2, d3] => { results := [.lit (.bool true)], args := [d1, d2, d3] }
  | _ => none }
def grantLinesRow : OpenClaim := { program := "ytgkopheekihkjaadoor", sum := "3e625df3b33888396bd32dd2f784b4109fc53af068c1bb26141bab5dd6cf02e6", func := "parley/parleylaw20.GrantLines", spec := "grantLines", unfollowed := true, recurses := true, named := ["unicode/utf8.first", "unicode/utf8.acceptRanges"], plainKeys := false, apart := false, laid := [("unicode/utf8.acceptRanges", laid_unicode_utf8_acceptRanges), ("unicode/utf8.first", laid_unicode_utf8_first)] }
def GrantLinesSaid : Prop := grantLinesRow.holds Tryd.pinned (OpenSpec.ofChange grantLinesSpec)

/-- ITS FALSE NEIGHBOUR: 'it returns false'. Refute it at one input. -/
def grantLinesWrong : ChangeSpec := { name := "grantLines", fn := fun _ => fun
  | [d1, d2, d3] => { results := [.lit (.bool false)], args := [d1, d2, d3] }
  | _ => none }
def GrantLinesWrongFalsely : Prop := grantLinesRow.holds Tryd.pinned (OpenSpec.ofChange grantLinesWrong)

/- THE SECOND FORM. 'bulk': how many values and letters a reading holds, each counted each time it is reached (what is shared counts as often as it is met; a slice's spare places count too). A statement '..UptoSaid' is the law's where the arguments, and the package variables that the reading takes, are together of bulk at most 1048576: NARROWER than '..Said'. Prove '..Said' where nothing that the law and all that it calls make is longer than what came in: it says more and counts as full. Else prove '..UptoSaid'. A law counts once. -/
mutual
def uptoBulk {H : Type} : DataW H → Nat
  | .lit (.string bytes) => bytes.length + 1
  | .lit _ => 1
  | .nil => 1
  | .ptr d => uptoBulk d + 1
  | .slice elems spare => uptoBulkAll elems + uptoBulkAll spare + 1
  | .agg parts => uptoBulkAll parts + 1
  | .iface _ d => uptoBulk d + 1
  | .map entries => uptoBulkEntries entries + 1
  | .held _ => 1
def uptoBulkAll {H : Type} : List (DataW H) → Nat
  | [] => 0
  | d :: r => uptoBulk d + uptoBulkAll r
def uptoBulkEntries {H : Type} : List (Lit × DataW H) → Nat
  | [] => 0
  | x :: r => uptoBulkEntry x + uptoBulkEntries r
def uptoBulkEntry {H : Type} : Lit × DataW H → Nat
  | (.string bytes, d) => bytes.length + uptoBulk d + 1
  | (_, d) => uptoBulk d + 1
 end
def uptoSmall : (H : Type) → List (DataW H) → Bool := fun _ ds => decide (uptoBulkAll ds ≤ 1048576)
def OpenSpec.upto (s : _root_.Go.ChangeSpec) : _root_.Go.OpenSpec := { _root_.Go.OpenSpec.ofChange s with cond := some uptoSmall }

/-- 'parleylaw26.SignalOnce', WHERE WHAT IT READS IS OF BULK AT MOST 1048576: true; the input reads as it did. -/
def signalOnceUptoRow : OpenClaim := { program := "ytgkopheekihkjaadoor", sum := "3e625df3b33888396bd32dd2f784b4109fc53af068c1bb26141bab5dd6cf02e6", func := "parley/parleylaw26.SignalOnce", spec := "signalOnce", unfollowed := true, recurses := true, named := ["unicode/utf8.first", "unicode/utf8.acceptRanges"], plainKeys := false, apart := false, laid := [("unicode/utf8.acceptRanges", laid_unicode_utf8_acceptRanges), ("unicode/utf8.first", laid_unicode_utf8_first)], narrowed := true }
def SignalOnceUptoSaid : Prop := signalOnceUptoRow.holds Tryd.pinned (OpenSpec.upto signalOnceSpec)

/-- 'parleylaw26.SignalLeft', WHERE WHAT IT READS IS OF BULK AT MOST 1048576: true; the input reads as it did. -/
def signalLeftUptoRow : OpenClaim := { program := "ytgkopheekihkjaadoor", sum := "3e625df3b33888396bd32dd2f784b4109fc53af068c1bb26141bab5dd6cf02e6", func := "parley/parleylaw26.SignalLeft", spec := "signalLeft", unfollowed := true, recurses := true, named := ["unicode/utf8.first", "unicode/utf8.acceptRanges"], plainKeys := false, apart := false, laid := [("unicode/utf8.acceptRanges", laid_unicode_utf8_acceptRanges), ("unicode/utf8.first", laid_unicode_utf8_first)], narrowed := true }
def SignalLeftUptoSaid : Prop := signalLeftUptoRow.holds Tryd.pinned (OpenSpec.upto signalLeftSpec)

/-- 'parleylaw20.GrantDemands', WHERE WHAT IT READS IS OF BULK AT MOST 1048576: true; the input reads as it did. -/
def grantDemandsUptoRow : OpenClaim := { program := "ytgkopheekihkjaadoor", sum := "3e625df3b33888396bd32dd2f784b4109fc53af068c1bb26141bab5dd6cf02e6", func := "parley/parleylaw20.GrantDemands", spec := "grantDemands", unfollowed := true, recurses := true, named := ["unicode/utf8.first", "unicode/utf8.acceptRanges"], plainKeys := false, apart := false, laid := [("unicode/utf8.acceptRanges", laid_unicode_utf8_acceptRanges), ("unicode/utf8.first", laid_unicode_utf8_first)], narrowed := true }
def GrantDemandsUptoSaid : Prop := grantDemandsUptoRow.holds Tryd.pinned (OpenSpec.upto grantDemandsSpec)

/-- 'parleylaw20.GrantTail', WHERE WHAT IT READS IS OF BULK AT MOST 1048576: true; the input reads as it did. -/
def grantTailUptoRow : OpenClaim := { program := "ytgkopheekihkjaadoor", sum := "3e625df3b33888396bd32dd2f784b4109fc53af068c1bb26141bab5dd6cf02e6", func := "parley/parleylaw20.GrantTail", spec := "grantTail", unfollowed := true, recurses := true, named := ["unicode/utf8.first", "unicode/utf8.acceptRanges"], plainKeys := false, apart := false, laid := [("unicode/utf8.acceptRanges", laid_unicode_utf8_acceptRanges), ("unicode/utf8.first", laid_unicode_utf8_first)], narrowed := true }
def GrantTailUptoSaid : Prop := grantTailUptoRow.holds Tryd.pinned (OpenSpec.upto grantTailSpec)

/-- 'parleylaw20.GrantWithout', WHERE WHAT IT READS IS OF BULK AT MOST 1048576: true; the input reads as it did. -/
def grantWithoutUptoRow : OpenClaim := { program := "ytgkopheekihkjaadoor", sum := "3e625df3b33888396bd32dd2f784b4109fc53af068c1bb26141bab5dd6cf02e6", func := "parley/parleylaw20.GrantWithout", spec := "grantWithout", unfollowed := true, recurses := true, named := ["unicode/utf8.first", "unicode/utf8.acceptRanges"], plainKeys := false, apart := false, laid := [("unicode/utf8.acceptRanges", laid_unicode_utf8_acceptRanges), ("unicode/utf8.first", laid_unicode_utf8_first)], narrowed := true }
def GrantWithoutUptoSaid : Prop := grantWithoutUptoRow.holds Tryd.pinned (OpenSpec.upto grantWithoutSpec)

/-- 'parleylaw20.GrantLines', WHERE WHAT IT READS IS OF BULK AT MOST 1048576: true; the input reads as it did. -/
def grantLinesUptoRow : OpenClaim := { program := "ytgkopheekihkjaadoor", sum := "3e625df3b33888396bd32dd2f784b4109fc53af068c1bb26141bab5dd6cf02e6", func := "parley/parleylaw20.GrantLines", spec := "grantLines", unfollowed := true, recurses := true, named := ["unicode/utf8.first", "unicode/utf8.acceptRanges"], plainKeys := false, apart := false, laid := [("unicode/utf8.acceptRanges", laid_unicode_utf8_acceptRanges), ("unicode/utf8.first", laid_unicode_utf8_first)], narrowed := true }
def GrantLinesUptoSaid : Prop := grantLinesUptoRow.holds Tryd.pinned (OpenSpec.upto grantLinesSpec)

end Rows
end Go.Proofs.YtgkopheekihkjaaDoor
