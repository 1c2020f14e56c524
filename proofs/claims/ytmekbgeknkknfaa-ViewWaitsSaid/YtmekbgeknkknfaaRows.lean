/-
  No cell of these rows narrows 'for every input' (looked for: loops, veiled, ifaces, maps, wideKeys, modest, calm, conditions, laid).
  DERIVED. THE GIVEN ROWS OF THIS SEAT. 18 by the template 'for every input the law returns true; each argument reads behind the call as it read before'; 0 by the template 'total and deterministic' (their statements: YtmekbgeknkknfaaTotals.lean).
  GIVEN WITH THE SEED: the statements are not yours to turn. If you find one false, say at which input.
  Laid BY PROGRAM, IN A SANDBOX (cutbox-rows.mjs): the forced cells as the released guide's own fill.sh prints them over the translation 444f22c0a2f7359c… (all of the seat's roots in one cut). By AI agents, Wed Nov 11 2026. No macro, syntax, notation, axiom, sorry.
-/
import Derived.Test.YtmekbgeknkknfaaChecked
import GoSem.Claim
import GoSem.ClaimJoined
import GoSem.ClaimMapViews
import Derived.JoinedTies
import Derived.KernelRfl
namespace Go.Proofs.Ytmekbgeknkknfaa
/- THE CELL 'sum', in the pinned program and in every row, IS THE sha256 OF THE DUMP (.gsa) THAT YtmekbgeknkknfaaProg.lean LOADS. Nothing in Lean hashes anything: it is a label: what it is worth is what the hold of that sum in a sandbox is worth. -/
noncomputable def Try.pinned : Pinned := { name := "ytmekbgeknkknfaa", sum := "444f22c0a2f7359c6b3b02e0d9db310465c3050b4a1c31fee878c643d0170ccc", checked := Try.checked }
namespace Rows
def none {H : Type} : Left H := { results := [], args := [] }

/-- 'vedettelaw16.DiffFolds': WHATEVER THE INPUT: true; the input reads as it did. -/
def diffFoldsSpec : ChangeSpec := { name := "diffFolds", fn := fun _ => fun
  | [d1, d2, d3, d4] => { results := [.lit (.bool true)], args := [d1, d2, d3, d4] }
  | _ => none }
def diffFoldsRow : OpenClaim := { program := "ytmekbgeknkknfaa", sum := "444f22c0a2f7359c6b3b02e0d9db310465c3050b4a1c31fee878c643d0170ccc", func := "vedette/vedettelaw16.DiffFolds", spec := "diffFolds", inPlace := ["slices.overlaps[vedette/api.Thing]"], unfollowed := true, recurses := true, plainKeys := false, apart := false }
def DiffFoldsSaid : Prop := diffFoldsRow.holds Try.pinned (OpenSpec.ofChange diffFoldsSpec)

/-- ITS FALSE NEIGHBOUR: 'it returns false'. Refute it at one input. -/
def diffFoldsWrong : ChangeSpec := { name := "diffFolds", fn := fun _ => fun
  | [d1, d2, d3, d4] => { results := [.lit (.bool false)], args := [d1, d2, d3, d4] }
  | _ => none }
def DiffFoldsWrongFalsely : Prop := diffFoldsRow.holds Try.pinned (OpenSpec.ofChange diffFoldsWrong)

/-- 'vedettelaw19.ViewPlays': WHATEVER THE INPUT: true; the input reads as it did. -/
def viewPlaysSpec : ChangeSpec := { name := "viewPlays", fn := fun _ => fun
  | [d1, d2, d3, d4] => { results := [.lit (.bool true)], args := [d1, d2, d3, d4] }
  | _ => none }
def viewPlaysRow : OpenClaim := { program := "ytmekbgeknkknfaa", sum := "444f22c0a2f7359c6b3b02e0d9db310465c3050b4a1c31fee878c643d0170ccc", func := "vedette/vedettelaw19.ViewPlays", spec := "viewPlays", inPlace := ["slices.overlaps[vedette/api.Thing]"], unfollowed := true, recurses := true, plainKeys := false, apart := false }
def ViewPlaysSaid : Prop := viewPlaysRow.holds Try.pinned (OpenSpec.ofChange viewPlaysSpec)

/-- ITS FALSE NEIGHBOUR: 'it returns false'. Refute it at one input. -/
def viewPlaysWrong : ChangeSpec := { name := "viewPlays", fn := fun _ => fun
  | [d1, d2, d3, d4] => { results := [.lit (.bool false)], args := [d1, d2, d3, d4] }
  | _ => none }
def ViewPlaysWrongFalsely : Prop := viewPlaysRow.holds Try.pinned (OpenSpec.ofChange viewPlaysWrong)

/-- 'vedettelaw19.ViewOrders': WHATEVER THE INPUT: true; the input reads as it did. -/
def viewOrdersSpec : ChangeSpec := { name := "viewOrders", fn := fun _ => fun
  | [d1, d2, d3, d4] => { results := [.lit (.bool true)], args := [d1, d2, d3, d4] }
  | _ => none }
def viewOrdersRow : OpenClaim := { program := "ytmekbgeknkknfaa", sum := "444f22c0a2f7359c6b3b02e0d9db310465c3050b4a1c31fee878c643d0170ccc", func := "vedette/vedettelaw19.ViewOrders", spec := "viewOrders", inPlace := ["slices.overlaps[vedette/api.Thing]"], unfollowed := true, recurses := true, plainKeys := false, apart := false }
def ViewOrdersSaid : Prop := viewOrdersRow.holds Try.pinned (OpenSpec.ofChange viewOrdersSpec)

/-- ITS FALSE NEIGHBOUR: 'it returns false'. Refute it at one input. -/
def viewOrdersWrong : ChangeSpec := { name := "viewOrders", fn := fun _ => fun
  | [d1, d2, d3, d4] => { results := [.lit (.bool false)], args := [d1, d2, d3, d4] }
  | _ => none }
def ViewOrdersWrongFalsely : Prop := viewOrdersRow.holds Try.pinned (OpenSpec.ofChange viewOrdersWrong)

/-- 'vedettelaw19.ViewWaits': WHATEVER THE INPUT: true; the input reads as it did. -/
def viewWaitsSpec : ChangeSpec := { name := "viewWaits", fn := fun _ => fun
  | [d1, d2, d3] => { results := [.lit (.bool true)], args := [d1, d2, d3] }
  | _ => none }
def viewWaitsRow : OpenClaim := { program := "ytmekbgeknkknfaa", sum := "444f22c0a2f7359c6b3b02e0d9db310465c3050b4a1c31fee878c643d0170ccc", func := "vedette/vedettelaw19.ViewWaits", spec := "viewWaits", inPlace := ["slices.overlaps[vedette/api.Thing]"], unfollowed := true, recurses := true, plainKeys := false, apart := false }
def ViewWaitsSaid : Prop := viewWaitsRow.holds Try.pinned (OpenSpec.ofChange viewWaitsSpec)

/-- ITS FALSE NEIGHBOUR: 'it returns false'. Refute it at one input. -/
def viewWaitsWrong : ChangeSpec := { name := "viewWaits", fn := fun _ => fun
  | [d1, d2, d3] => { results := [.lit (.bool false)], args := [d1, d2, d3] }
  | _ => none }
def ViewWaitsWrongFalsely : Prop := viewWaitsRow.holds Try.pinned (OpenSpec.ofChange viewWaitsWrong)

/-- 'vedettelaw19.ViewRefuses': WHATEVER THE INPUT: true; the input reads as it did. -/
def viewRefusesSpec : ChangeSpec := { name := "viewRefuses", fn := fun _ => fun
  | [d1, d2] => { results := [.lit (.bool true)], args := [d1, d2] }
  | _ => none }
def viewRefusesRow : OpenClaim := { program := "ytmekbgeknkknfaa", sum := "444f22c0a2f7359c6b3b02e0d9db310465c3050b4a1c31fee878c643d0170ccc", func := "vedette/vedettelaw19.ViewRefuses", spec := "viewRefuses", inPlace := ["slices.overlaps[vedette/api.Thing]"], unfollowed := true, recurses := true, plainKeys := false, apart := false }
def ViewRefusesSaid : Prop := viewRefusesRow.holds Try.pinned (OpenSpec.ofChange viewRefusesSpec)

/-- ITS FALSE NEIGHBOUR: 'it returns false'. Refute it at one input. -/
def viewRefusesWrong : ChangeSpec := { name := "viewRefuses", fn := fun _ => fun
  | [d1, d2] => { results := [.lit (.bool false)], args := [d1, d2] }
  | _ => none }
def ViewRefusesWrongFalsely : Prop := viewRefusesRow.holds Try.pinned (OpenSpec.ofChange viewRefusesWrong)

/-- 'vedettelaw19.ViewBad': WHATEVER THE INPUT: true; the input reads as it did. -/
def viewBadSpec : ChangeSpec := { name := "viewBad", fn := fun _ => fun
  | [d1, d2] => { results := [.lit (.bool true)], args := [d1, d2] }
  | _ => none }
def viewBadRow : OpenClaim := { program := "ytmekbgeknkknfaa", sum := "444f22c0a2f7359c6b3b02e0d9db310465c3050b4a1c31fee878c643d0170ccc", func := "vedette/vedettelaw19.ViewBad", spec := "viewBad", inPlace := ["slices.overlaps[vedette/api.Thing]"], unfollowed := true, recurses := true, plainKeys := false, apart := false }
def ViewBadSaid : Prop := viewBadRow.holds Try.pinned (OpenSpec.ofChange viewBadSpec)

/-- ITS FALSE NEIGHBOUR: 'it returns false'. Refute it at one input. -/
def viewBadWrong : ChangeSpec := { name := "viewBad", fn := fun _ => fun
  | [d1, d2] => { results := [.lit (.bool false)], args := [d1, d2] }
  | _ => none }
def ViewBadWrongFalsely : Prop := viewBadRow.holds Try.pinned (OpenSpec.ofChange viewBadWrong)

/-- 'vedettelaw24.ClientBounds': WHATEVER THE INPUT: true; the input reads as it did. -/
def clientBoundsSpec : ChangeSpec := { name := "clientBounds", fn := fun _ => fun
  | [d1, d2, d3] => { results := [.lit (.bool true)], args := [d1, d2, d3] }
  | _ => none }
def clientBoundsRow : OpenClaim := { program := "ytmekbgeknkknfaa", sum := "444f22c0a2f7359c6b3b02e0d9db310465c3050b4a1c31fee878c643d0170ccc", func := "vedette/vedettelaw24.ClientBounds", spec := "clientBounds", inPlace := ["slices.overlaps[vedette/api.Thing]"], unfollowed := true, recurses := true, plainKeys := false, apart := false }
def ClientBoundsSaid : Prop := clientBoundsRow.holds Try.pinned (OpenSpec.ofChange clientBoundsSpec)

/-- ITS FALSE NEIGHBOUR: 'it returns false'. Refute it at one input. -/
def clientBoundsWrong : ChangeSpec := { name := "clientBounds", fn := fun _ => fun
  | [d1, d2, d3] => { results := [.lit (.bool false)], args := [d1, d2, d3] }
  | _ => none }
def ClientBoundsWrongFalsely : Prop := clientBoundsRow.holds Try.pinned (OpenSpec.ofChange clientBoundsWrong)

/-- 'vedettelaw24.ClientPlays': WHATEVER THE INPUT: true; the input reads as it did. -/
def clientPlaysSpec : ChangeSpec := { name := "clientPlays", fn := fun _ => fun
  | [d1, d2, d3] => { results := [.lit (.bool true)], args := [d1, d2, d3] }
  | _ => none }
def clientPlaysRow : OpenClaim := { program := "ytmekbgeknkknfaa", sum := "444f22c0a2f7359c6b3b02e0d9db310465c3050b4a1c31fee878c643d0170ccc", func := "vedette/vedettelaw24.ClientPlays", spec := "clientPlays", inPlace := ["slices.overlaps[vedette/api.Thing]"], unfollowed := true, recurses := true, plainKeys := false, apart := false }
def ClientPlaysSaid : Prop := clientPlaysRow.holds Try.pinned (OpenSpec.ofChange clientPlaysSpec)

/-- ITS FALSE NEIGHBOUR: 'it returns false'. Refute it at one input. -/
def clientPlaysWrong : ChangeSpec := { name := "clientPlays", fn := fun _ => fun
  | [d1, d2, d3] => { results := [.lit (.bool false)], args := [d1, d2, d3] }
  | _ => none }
def ClientPlaysWrongFalsely : Prop := clientPlaysRow.holds Try.pinned (OpenSpec.ofChange clientPlaysWrong)

/-- 'vedettelaw24.ClientResets': WHATEVER THE INPUT: true; the input reads as it did. -/
def clientResetsSpec : ChangeSpec := { name := "clientResets", fn := fun _ => fun
  | [d1, d2] => { results := [.lit (.bool true)], args := [d1, d2] }
  | _ => none }
def clientResetsRow : OpenClaim := { program := "ytmekbgeknkknfaa", sum := "444f22c0a2f7359c6b3b02e0d9db310465c3050b4a1c31fee878c643d0170ccc", func := "vedette/vedettelaw24.ClientResets", spec := "clientResets", inPlace := ["slices.overlaps[vedette/api.Thing]"], unfollowed := true, recurses := true, plainKeys := false, apart := false }
def ClientResetsSaid : Prop := clientResetsRow.holds Try.pinned (OpenSpec.ofChange clientResetsSpec)

/-- ITS FALSE NEIGHBOUR: 'it returns false'. Refute it at one input. -/
def clientResetsWrong : ChangeSpec := { name := "clientResets", fn := fun _ => fun
  | [d1, d2] => { results := [.lit (.bool false)], args := [d1, d2] }
  | _ => none }
def ClientResetsWrongFalsely : Prop := clientResetsRow.holds Try.pinned (OpenSpec.ofChange clientResetsWrong)

/-- 'vedettelaw15.EventTells': WHATEVER THE INPUT: true; the input reads as it did. -/
def eventTellsSpec : ChangeSpec := { name := "eventTells", fn := fun _ => fun
  | [d1, d2, d3] => { results := [.lit (.bool true)], args := [d1, d2, d3] }
  | _ => none }
def eventTellsRow : OpenClaim := { program := "ytmekbgeknkknfaa", sum := "444f22c0a2f7359c6b3b02e0d9db310465c3050b4a1c31fee878c643d0170ccc", func := "vedette/vedettelaw15.EventTells", spec := "eventTells", inPlace := ["internal/abi.NoEscape", "slices.overlaps[vedette/api.Thing]"], unfollowed := true, recurses := true, plainKeys := false, apart := false }
def EventTellsSaid : Prop := eventTellsRow.holds Try.pinned (OpenSpec.ofChange eventTellsSpec)

/-- ITS FALSE NEIGHBOUR: 'it returns false'. Refute it at one input. -/
def eventTellsWrong : ChangeSpec := { name := "eventTells", fn := fun _ => fun
  | [d1, d2, d3] => { results := [.lit (.bool false)], args := [d1, d2, d3] }
  | _ => none }
def EventTellsWrongFalsely : Prop := eventTellsRow.holds Try.pinned (OpenSpec.ofChange eventTellsWrong)

/-- 'vedettelaw15.EventReads': WHATEVER THE INPUT: true; the input reads as it did. -/
def eventReadsSpec : ChangeSpec := { name := "eventReads", fn := fun _ => fun
  | [d] => { results := [.lit (.bool true)], args := [d] }
  | _ => none }
def eventReadsRow : OpenClaim := { program := "ytmekbgeknkknfaa", sum := "444f22c0a2f7359c6b3b02e0d9db310465c3050b4a1c31fee878c643d0170ccc", func := "vedette/vedettelaw15.EventReads", spec := "eventReads", inPlace := ["internal/abi.NoEscape", "slices.overlaps[vedette/api.Thing]"], unfollowed := true, recurses := true, plainKeys := false, apart := false }
def EventReadsSaid : Prop := eventReadsRow.holds Try.pinned (OpenSpec.ofChange eventReadsSpec)

/-- ITS FALSE NEIGHBOUR: 'it returns false'. Refute it at one input. -/
def eventReadsWrong : ChangeSpec := { name := "eventReads", fn := fun _ => fun
  | [d] => { results := [.lit (.bool false)], args := [d] }
  | _ => none }
def EventReadsWrongFalsely : Prop := eventReadsRow.holds Try.pinned (OpenSpec.ofChange eventReadsWrong)

/-- 'vedettelaw15.EventBack': WHATEVER THE INPUT: true; the input reads as it did. -/
def eventBackSpec : ChangeSpec := { name := "eventBack", fn := fun _ => fun
  | [d1, d2, d3] => { results := [.lit (.bool true)], args := [d1, d2, d3] }
  | _ => none }
def eventBackRow : OpenClaim := { program := "ytmekbgeknkknfaa", sum := "444f22c0a2f7359c6b3b02e0d9db310465c3050b4a1c31fee878c643d0170ccc", func := "vedette/vedettelaw15.EventBack", spec := "eventBack", inPlace := ["internal/abi.NoEscape", "slices.overlaps[vedette/api.Thing]"], unfollowed := true, recurses := true, plainKeys := false, apart := false }
def EventBackSaid : Prop := eventBackRow.holds Try.pinned (OpenSpec.ofChange eventBackSpec)

/-- ITS FALSE NEIGHBOUR: 'it returns false'. Refute it at one input. -/
def eventBackWrong : ChangeSpec := { name := "eventBack", fn := fun _ => fun
  | [d1, d2, d3] => { results := [.lit (.bool false)], args := [d1, d2, d3] }
  | _ => none }
def EventBackWrongFalsely : Prop := eventBackRow.holds Try.pinned (OpenSpec.ofChange eventBackWrong)

/-- 'vedettelaw15.EventSpoils': WHATEVER THE INPUT: true; the input reads as it did. -/
def eventSpoilsSpec : ChangeSpec := { name := "eventSpoils", fn := fun _ => fun
  | [d1, d2] => { results := [.lit (.bool true)], args := [d1, d2] }
  | _ => none }
def eventSpoilsRow : OpenClaim := { program := "ytmekbgeknkknfaa", sum := "444f22c0a2f7359c6b3b02e0d9db310465c3050b4a1c31fee878c643d0170ccc", func := "vedette/vedettelaw15.EventSpoils", spec := "eventSpoils", inPlace := ["internal/abi.NoEscape", "slices.overlaps[vedette/api.Thing]"], unfollowed := true, recurses := true, plainKeys := false, apart := false }
def EventSpoilsSaid : Prop := eventSpoilsRow.holds Try.pinned (OpenSpec.ofChange eventSpoilsSpec)

/-- ITS FALSE NEIGHBOUR: 'it returns false'. Refute it at one input. -/
def eventSpoilsWrong : ChangeSpec := { name := "eventSpoils", fn := fun _ => fun
  | [d1, d2] => { results := [.lit (.bool false)], args := [d1, d2] }
  | _ => none }
def EventSpoilsWrongFalsely : Prop := eventSpoilsRow.holds Try.pinned (OpenSpec.ofChange eventSpoilsWrong)

/-- 'vedettelaw15.EventSpan': WHATEVER THE INPUT: true; the input reads as it did. -/
def eventSpanSpec : ChangeSpec := { name := "eventSpan", fn := fun _ => fun
  | [d1, d2] => { results := [.lit (.bool true)], args := [d1, d2] }
  | _ => none }
def eventSpanRow : OpenClaim := { program := "ytmekbgeknkknfaa", sum := "444f22c0a2f7359c6b3b02e0d9db310465c3050b4a1c31fee878c643d0170ccc", func := "vedette/vedettelaw15.EventSpan", spec := "eventSpan", inPlace := ["internal/abi.NoEscape", "slices.overlaps[vedette/api.Thing]"], unfollowed := true, recurses := true, plainKeys := false, apart := false }
def EventSpanSaid : Prop := eventSpanRow.holds Try.pinned (OpenSpec.ofChange eventSpanSpec)

/-- ITS FALSE NEIGHBOUR: 'it returns false'. Refute it at one input. -/
def eventSpanWrong : ChangeSpec := { name := "eventSpan", fn := fun _ => fun
  | [d1, d2] => { results := [.lit (.bool false)], args := [d1, d2] }
  | _ => none }
def EventSpanWrongFalsely : Prop := eventSpanRow.holds Try.pinned (OpenSpec.ofChange eventSpanWrong)

/-- 'vedettelaw17.NoteTells': WHATEVER THE INPUT: true; the input reads as it did. -/
def noteTellsSpec : ChangeSpec := { name := "noteTells", fn := fun _ => fun
  | [d1, d2, d3] => { results := [.lit (.bool true)], args := [d1, d2, d3] }
  | _ => none }
def noteTellsRow : OpenClaim := { program := "ytmekbgeknkknfaa", sum := "444f22c0a2f7359c6b3b02e0d9db310465c3050b4a1c31fee878c643d0170ccc", func := "vedette/vedettelaw17.NoteTells", spec := "noteTells", inPlace := ["internal/abi.NoEscape"], unfollowed := true, recurses := true, plainKeys := false, apart := false }
def NoteTellsSaid : Prop := noteTellsRow.holds Try.pinned (OpenSpec.ofChange noteTellsSpec)

/-- ITS FALSE NEIGHBOUR: 'it returns false'. Refute it at one input. -/
def noteTellsWrong : ChangeSpec := { name := "noteTells", fn := fun _ => fun
  | [d1, d2, d3] => { results := [.lit (.bool false)], args := [d1, d2, d3] }
  | _ => none }
def NoteTellsWrongFalsely : Prop := noteTellsRow.holds Try.pinned (OpenSpec.ofChange noteTellsWrong)

/-- 'vedettelaw17.NoteBack': WHATEVER THE INPUT: true; the input reads as it did. -/
def noteBackSpec : ChangeSpec := { name := "noteBack", fn := fun _ => fun
  | [d1, d2, d3, d4, d5, d6] => { results := [.lit (.bool true)], args := [d1, d2, d3, d4, d5, d6] }
  | _ => none }
def noteBackRow : OpenClaim := { program := "ytmekbgeknkknfaa", sum := "444f22c0a2f7359c6b3b02e0d9db310465c3050b4a1c31fee878c643d0170ccc", func := "vedette/vedettelaw17.NoteBack", spec := "noteBack", inPlace := ["internal/abi.NoEscape"], unfollowed := true, recurses := true, plainKeys := false, apart := false }
def NoteBackSaid : Prop := noteBackRow.holds Try.pinned (OpenSpec.ofChange noteBackSpec)

/-- ITS FALSE NEIGHBOUR: 'it returns false'. Refute it at one input. -/
def noteBackWrong : ChangeSpec := { name := "noteBack", fn := fun _ => fun
  | [d1, d2, d3, d4, d5, d6] => { results := [.lit (.bool false)], args := [d1, d2, d3, d4, d5, d6] }
  | _ => none }
def NoteBackWrongFalsely : Prop := noteBackRow.holds Try.pinned (OpenSpec.ofChange noteBackWrong)

/-- 'vedettelaw17.NoteSpoils': WHATEVER THE INPUT: true; the input reads as it did. -/
def noteSpoilsSpec : ChangeSpec := { name := "noteSpoils", fn := fun _ => fun
  | [d1, d2] => { results := [.lit (.bool true)], args := [d1, d2] }
  | _ => none }
def noteSpoilsRow : OpenClaim := { program := "ytmekbgeknkknfaa", sum := "444f22c0a2f7359c6b3b02e0d9db310465c3050b4a1c31fee878c643d0170ccc", func := "vedette/vedettelaw17.NoteSpoils", spec := "noteSpoils", inPlace := ["internal/abi.NoEscape"], unfollowed := true, recurses := true, plainKeys := false, apart := false }
def NoteSpoilsSaid : Prop := noteSpoilsRow.holds Try.pinned (OpenSpec.ofChange noteSpoilsSpec)

/-- ITS FALSE NEIGHBOUR: 'it returns false'. Refute it at one input. -/
def noteSpoilsWrong : ChangeSpec := { name := "noteSpoils", fn := fun _ => fun
  | [d1, d2] => { results := [.lit (.bool false)], args := [d1, d2] }
  | _ => none }
def NoteSpoilsWrongFalsely : Prop := noteSpoilsRow.holds Try.pinned (OpenSpec.ofChange noteSpoilsWrong)

/-- 'vedettelaw17.NoteCells': WHATEVER THE INPUT: true; the input reads as it did. -/
def noteCellsSpec : ChangeSpec := { name := "noteCells", fn := fun _ => fun
  | [d1, d2, d3, d4] => { results := [.lit (.bool true)], args := [d1, d2, d3, d4] }
  | _ => none }
def noteCellsRow : OpenClaim := { program := "ytmekbgeknkknfaa", sum := "444f22c0a2f7359c6b3b02e0d9db310465c3050b4a1c31fee878c643d0170ccc", func := "vedette/vedettelaw17.NoteCells", spec := "noteCells", inPlace := ["internal/abi.NoEscape"], unfollowed := true, recurses := true, plainKeys := false, apart := false }
def NoteCellsSaid : Prop := noteCellsRow.holds Try.pinned (OpenSpec.ofChange noteCellsSpec)

/-- ITS FALSE NEIGHBOUR: 'it returns false'. Refute it at one input. -/
def noteCellsWrong : ChangeSpec := { name := "noteCells", fn := fun _ => fun
  | [d1, d2, d3, d4] => { results := [.lit (.bool false)], args := [d1, d2, d3, d4] }
  | _ => none }
def NoteCellsWrongFalsely : Prop := noteCellsRow.holds Try.pinned (OpenSpec.ofChange noteCellsWrong)

/- THE SECOND FORM. 'bulk': how many values and letters a reading holds, each counted each time it is reached (what is shared counts as often as it is met; a slice's spare places count too). A statement '..UptoSaid' is the law's where the arguments, and the package variables that the reading takes, are together of bulk at most 1048576: NARROWER than '..Said'. Prove '..Said' where nothing that the law and all that it calls make is longer than what came in: it says more and counts as full. Else prove '..UptoSaid'. A law counts once. -/
mutual
def uptoBulk {H : Type} : DataW H → Nat
  | .lit (.string bytes) => bytes.length + 1
  | .lit _ => 1
  | .nil => 1
  | .ptr d => uptoBulk d + 1
  | .slice elems spare => uptoBulkAll elems + uptoBulkAll spare + 1
  | .agg parts => uptoBulkAll parts + 1
  | .iface _ d => uptoBulk d + 1
  | .map entries => uptoBulkEntries entries + 1
  | .held _ => 1
def uptoBulkAll {H : Type} : List (DataW H) → Nat
  | [] => 0
  | d :: r => uptoBulk d + uptoBulkAll r
def uptoBulkEntries {H : Type} : List (Lit × DataW H) → Nat
  | [] => 0
  | x :: r => uptoBulkEntry x + uptoBulkEntries r
def uptoBulkEntry {H : Type} : Lit × DataW H → Nat
  | (.string bytes, d) => bytes.length + uptoBulk d + 1
  | (_, d) => uptoBulk d + 1
 end
def uptoSmall : (H : Type) → List (DataW H) → Bool := fun _ ds => decide (uptoBulkAll ds ≤ 1048576)
def OpenSpec.upto (s : _root_.Go.ChangeSpec) : _root_.Go.OpenSpec := { _root_.Go.OpenSpec.ofChange s with cond := some uptoSmall }

/-- 'vedettelaw16.DiffFolds', WHERE WHAT IT READS IS OF BULK AT MOST 1048576: true; the input reads as it did. -/
def diffFoldsUptoRow : OpenClaim := { program := "ytmekbgeknkknfaa", sum := "444f22c0a2f7359c6b3b02e0d9db310465c3050b4a1c31fee878c643d0170ccc", func := "vedette/vedettelaw16.DiffFolds", spec := "diffFolds", inPlace := ["slices.overlaps[vedette/api.Thing]"], unfollowed := true, recurses := true, plainKeys := false, apart := false, narrowed := true }
def DiffFoldsUptoSaid : Prop := diffFoldsUptoRow.holds Try.pinned (OpenSpec.upto diffFoldsSpec)

/-- 'vedettelaw19.ViewPlays', WHERE WHAT IT READS IS OF BULK AT MOST 1048576: true; the input reads as it did. -/
def viewPlaysUptoRow : OpenClaim := { program := "ytmekbgeknkknfaa", sum := "444f22c0a2f7359c6b3b02e0d9db310465c3050b4a1c31fee878c643d0170ccc", func := "vedette/vedettelaw19.ViewPlays", spec := "viewPlays", inPlace := ["slices.overlaps[vedette/api.Thing]"], unfollowed := true, recurses := true, plainKeys := false, apart := false, narrowed := true }
def ViewPlaysUptoSaid : Prop := viewPlaysUptoRow.holds Try.pinned (OpenSpec.upto viewPlaysSpec)

/-- 'vedettelaw19.ViewOrders', WHERE WHAT IT READS IS OF BULK AT MOST 1048576: true; the input reads as it did. -/
def viewOrdersUptoRow : OpenClaim := { program := "ytmekbgeknkknfaa", sum := "444f22c0a2f7359c6b3b02e0d9db310465c3050b4a1c31fee878c643d0170ccc", func := "vedette/vedettelaw19.ViewOrders", spec := "viewOrders", inPlace := ["slices.overlaps[vedette/api.Thing]"], unfollowed := true, recurses := true, plainKeys := false, apart := false, narrowed := true }
def ViewOrdersUptoSaid : Prop := viewOrdersUptoRow.holds Try.pinned (OpenSpec.upto viewOrdersSpec)

/-- 'vedettelaw19.ViewWaits', WHERE WHAT IT READS IS OF BULK AT MOST 1048576: true; the input reads as it did. -/
def viewWaitsUptoRow : OpenClaim := { program := "ytmekbgeknkknfaa", sum := "444f22c0a2f7359c6b3b02e0d9db310465c3050b4a1c31fee878c643d0170ccc", func := "vedette/vedettelaw19.ViewWaits", spec := "viewWaits", inPlace := ["slices.overlaps[vedette/api.Thing]"], unfollowed := true, recurses := true, plainKeys := false, apart := false, narrowed := true }
def ViewWaitsUptoSaid : Prop := viewWaitsUptoRow.holds Try.pinned (OpenSpec.upto viewWaitsSpec)

/-- 'vedettelaw19.ViewRefuses', WHERE WHAT IT READS IS OF BULK AT MOST 1048576: true; the input reads as it did. -/
def viewRefusesUptoRow : OpenClaim := { program := "ytmekbgeknkknfaa", sum := "444f22c0a2f7359c6b3b02e0d9db310465c3050b4a1c31fee878c643d0170ccc", func := "vedette/vedettelaw19.ViewRefuses", spec := "viewRefuses", inPlace := ["slices.overlaps[vedette/api.Thing]"], unfollowed := true, recurses := true, plainKeys := false, apart := false, narrowed := true }
def ViewRefusesUptoSaid : Prop := viewRefusesUptoRow.holds Try.pinned (OpenSpec.upto viewRefusesSpec)

/-- 'vedettelaw19.ViewBad', WHERE WHAT IT READS IS OF BULK AT MOST 1048576: true; the input reads as it did. -/
def viewBadUptoRow : OpenClaim := { program := "ytmekbgeknkknfaa", sum := "444f22c0a2f7359c6b3b02e0d9db310465c3050b4a1c31fee878c643d0170ccc", func := "vedette/vedettelaw19.ViewBad", spec := "viewBad", inPlace := ["slices.overlaps[vedette/api.Thing]"], unfollowed := true, recurses := true, plainKeys := false, apart := false, narrowed := true }
def ViewBadUptoSaid : Prop := viewBadUptoRow.holds Try.pinned (OpenSpec.upto viewBadSpec)

/-- 'vedettelaw24.ClientBounds', WHERE WHAT IT READS IS OF BULK AT MOST 1048576: true; the input reads as it did. -/
def clientBoundsUptoRow : OpenClaim := { program := "ytmekbgeknkknfaa", sum := "444f22c0a2f7359c6b3b02e0d9db310465c3050b4a1c31fee878c643d0170ccc", func := "vedette/vedettelaw24.ClientBounds", spec := "clientBounds", inPlace := ["slices.overlaps[vedette/api.Thing]"], unfollowed := true, recurses := true, plainKeys := false, apart := false, narrowed := true }
def ClientBoundsUptoSaid : Prop := clientBoundsUptoRow.holds Try.pinned (OpenSpec.upto clientBoundsSpec)

/-- 'vedettelaw24.ClientPlays', WHERE WHAT IT READS IS OF BULK AT MOST 1048576: true; the input reads as it did. -/
def clientPlaysUptoRow : OpenClaim := { program := "ytmekbgeknkknfaa", sum := "444f22c0a2f7359c6b3b02e0d9db310465c3050b4a1c31fee878c643d0170ccc", func := "vedette/vedettelaw24.ClientPlays", spec := "clientPlays", inPlace := ["slices.overlaps[vedette/api.Thing]"], unfollowed := true, recurses := true, plainKeys := false, apart := false, narrowed := true }
def ClientPlaysUptoSaid : Prop := clientPlaysUptoRow.holds Try.pinned (OpenSpec.upto clientPlaysSpec)

/-- 'vedettelaw24.ClientResets', WHERE WHAT IT READS IS OF BULK AT MOST 1048576: true; the input reads as it did. -/
def clientResetsUptoRow : OpenClaim := { program := "ytmekbgeknkknfaa", sum := "444f22c0a2f7359c6b3b02e0d9db310465c3050b4a1c31fee878c643d0170ccc", func := "vedette/vedettelaw24.ClientResets", spec := "clientResets", inPlace := ["slices.overlaps[vedette/api.Thing]"], unfollowed := true, recurses := true, plainKeys := false, apart := false, narrowed := true }
def ClientResetsUptoSaid : Prop := clientResetsUptoRow.holds Try.pinned (OpenSpec.upto clientResetsSpec)

/-- 'vedettelaw15.EventTells', WHERE WHAT IT READS IS OF BULK AT MOST 1048576: true; the input reads as it did. -/
def eventTellsUptoRow : OpenClaim := { program := "ytmekbgeknkknfaa", sum := "444f22c0a2f7359c6b3b02e0d9db310465c3050b4a1c31fee878c643d0170ccc", func := "vedette/vedettelaw15.EventTells", spec := "eventTells", inPlace := ["internal/abi.NoEscape", "slices.overlaps[vedette/api.Thing]"], unfollowed := true, recurses := true, plainKeys := false, apart := false, narrowed := true }
def EventTellsUptoSaid : Prop := eventTellsUptoRow.holds Try.pinned (OpenSpec.upto eventTellsSpec)

/-- 'vedettelaw15.EventReads', WHERE WHAT IT READS IS OF BULK AT MOST 1048576: true; the input reads as it did. -/
def eventReadsUptoRow : OpenClaim := { program := "ytmekbgeknkknfaa", sum := "444f22c0a2f7359c6b3b02e0d9db310465c3050b4a1c31fee878c643d0170ccc", func := "vedette/vedettelaw15.EventReads", spec := "eventReads", inPlace := ["internal/abi.NoEscape", "slices.overlaps[vedette/api.Thing]"], unfollowed := true, recurses := true, plainKeys := false, apart := false, narrowed := true }
def EventReadsUptoSaid : Prop := eventReadsUptoRow.holds Try.pinned (OpenSpec.upto eventReadsSpec)

/-- 'vedettelaw15.EventBack', WHERE WHAT IT READS IS OF BULK AT MOST 1048576: true; the input reads as it did. -/
def eventBackUptoRow : OpenClaim := { program := "ytmekbgeknkknfaa", sum := "444f22c0a2f7359c6b3b02e0d9db310465c3050b4a1c31fee878c643d0170ccc", func := "vedette/vedettelaw15.EventBack", spec := "eventBack", inPlace := ["internal/abi.NoEscape", "slices.overlaps[vedette/api.Thing]"], unfollowed := true, recurses := true, plainKeys := false, apart := false, narrowed := true }
def EventBackUptoSaid : Prop := eventBackUptoRow.holds Try.pinned (OpenSpec.upto eventBackSpec)

/-- 'vedettelaw15.EventSpoils', WHERE WHAT IT READS IS OF BULK AT MOST 1048576: true; the input reads as it did. -/
def eventSpoilsUptoRow : OpenClaim := { program := "ytmekbgeknkknfaa", sum := "444f22c0a2f7359c6b3b02e0d9db310465c3050b4a1c31fee878c643d0170ccc", func := "vedette/vedettelaw15.EventSpoils", spec := "eventSpoils", inPlace := ["internal/abi.NoEscape", "slices.overlaps[vedette/api.Thing]"], unfollowed := true, recurses := true, plainKeys := false, apart := false, narrowed := true }
def EventSpoilsUptoSaid : Prop := eventSpoilsUptoRow.holds Try.pinned (OpenSpec.upto eventSpoilsSpec)

/-- 'vedettelaw15.EventSpan', WHERE WHAT IT READS IS OF BULK AT MOST 1048576: true; the input reads as it did. -/
def eventSpanUptoRow : OpenClaim := { program := "ytmekbgeknkknfaa", sum := "444f22c0a2f7359c6b3b02e0d9db310465c3050b4a1c31fee878c643d0170ccc", func := "vedette/vedettelaw15.EventSpan", spec := "eventSpan", inPlace := ["internal/abi.NoEscape", "slices.overlaps[vedette/api.Thing]"], unfollowed := true, recurses := true, plainKeys := false, apart := false, narrowed := true }
def EventSpanUptoSaid : Prop := eventSpanUptoRow.holds Try.pinned (OpenSpec.upto eventSpanSpec)

/-- 'vedettelaw17.NoteTells', WHERE WHAT IT READS IS OF BULK AT MOST 1048576: true; the input reads as it did. -/
def noteTellsUptoRow : OpenClaim := { program := "ytmekbgeknkknfaa", sum := "444f22c0a2f7359c6b3b02e0d9db310465c3050b4a1c31fee878c643d0170ccc", func := "vedette/vedettelaw17.NoteTells", spec := "noteTells", inPlace := ["internal/abi.NoEscape"], unfollowed := true, recurses := true, plainKeys := false, apart := false, narrowed := true }
def NoteTellsUptoSaid : Prop := noteTellsUptoRow.holds Try.pinned (OpenSpec.upto noteTellsSpec)

/-- 'vedettelaw17.NoteBack', WHERE WHAT IT READS IS OF BULK AT MOST 1048576: true; the input reads as it did. -/
def noteBackUptoRow : OpenClaim := { program := "ytmekbgeknkknfaa", sum := "444f22c0a2f7359c6b3b02e0d9db310465c3050b4a1c31fee878c643d0170ccc", func := "vedette/vedettelaw17.NoteBack", spec := "noteBack", inPlace := ["internal/abi.NoEscape"], unfollowed := true, recurses := true, plainKeys := false, apart := false, narrowed := true }
def NoteBackUptoSaid : Prop := noteBackUptoRow.holds Try.pinned (OpenSpec.upto noteBackSpec)

/-- 'vedettelaw17.NoteSpoils', WHERE WHAT IT READS IS OF BULK AT MOST 1048576: true; the input reads as it did. -/
def noteSpoilsUptoRow : OpenClaim := { program := "ytmekbgeknkknfaa", sum := "444f22c0a2f7359c6b3b02e0d9db310465c3050b4a1c31fee878c643d0170ccc", func := "vedette/vedettelaw17.NoteSpoils", spec := "noteSpoils", inPlace := ["internal/abi.NoEscape"], unfollowed := true, recurses := true, plainKeys := false, apart := false, narrowed := true }
def NoteSpoilsUptoSaid : Prop := noteSpoilsUptoRow.holds Try.pinned (OpenSpec.upto noteSpoilsSpec)

/-- 'vedettelaw17.NoteCells', WHERE WHAT IT READS IS OF BULK AT MOST 1048576: true; the input reads as it did. -/
def noteCellsUptoRow : OpenClaim := { program := "ytmekbgeknkknfaa", sum := "444f22c0a2f7359c6b3b02e0d9db310465c3050b4a1c31fee878c643d0170ccc", func := "vedette/vedettelaw17.NoteCells", spec := "noteCells", inPlace := ["internal/abi.NoEscape"], unfollowed := true, recurses := true, plainKeys := false, apart := false, narrowed := true }
def NoteCellsUptoSaid : Prop := noteCellsUptoRow.holds Try.pinned (OpenSpec.upto noteCellsSpec)

end Rows
end Go.Proofs.Ytmekbgeknkknfaa
