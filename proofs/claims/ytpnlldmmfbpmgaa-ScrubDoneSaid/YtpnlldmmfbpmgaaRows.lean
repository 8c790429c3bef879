/-
  No cell of these rows narrows 'for every input' (looked for: loops, veiled, ifaces, maps, wideKeys, modest, calm, conditions, laid).
  DERIVED. THE GIVEN ROWS OF THIS SEAT. 11 by the template 'for every input the law returns true; each argument reads behind the call as it read before'; 0 by the template 'total and deterministic' (their statements: YtpnlldmmfbpmgaaTotals.lean).
  GIVEN WITH THE SEED: the statements are not yours to turn. If you find one false, say at which input.
  Laid BY PROGRAM, IN A SANDBOX (cutbox-rows.mjs): the forced cells as the released guide's own fill.sh prints them over the translation 65ca77f050679d83… (all of the seat's roots in one cut). By AI agents, Wed Nov 11 2026. No macro, syntax, notation, axiom, sorry.
-/
import Derived.Test.YtpnlldmmfbpmgaaChecked
import GoSem.Claim
import GoSem.ClaimJoined
import GoSem.ClaimMapViews
import Derived.JoinedTies
import Derived.KernelRfl
namespace Go.Proofs.Ytpnlldmmfbpmgaa
/- THE CELL 'sum', in the pinned program and in every row, IS THE sha256 OF THE DUMP (.gsa) THAT YtpnlldmmfbpmgaaProg.lean LOADS. Nothing in Lean hashes anything: it is a label: what it is worth is what the hold of that sum in a sandbox is worth. -/
noncomputable def Try.pinned : Pinned := { name := "ytpnlldmmfbpmgaa", sum := "65ca77f050679d830b389a0ba12ab333e3121573115426a311e26a18d8be34d1", checked := Try.checked }
namespace Rows
def none {H : Type} : Left H := { results := [], args := [] }

/-- 'copyholdlaw10.BytesHalves': WHATEVER THE INPUT: true; the input reads as it did. -/
def bytesHalvesSpec : ChangeSpec := { name := "bytesHalves", fn := fun _ => fun
  | [d1, d2, d3] => { results := [.lit (.bool true)], args := [d1, d2, d3] }
  | _ => none }
def bytesHalvesRow : OpenClaim := { program := "ytpnlldmmfbpmgaa", sum := "65ca77f050679d830b389a0ba12ab333e3121573115426a311e26a18d8be34d1", func := "copyhold/copyholdlaw10.BytesHalves", spec := "bytesHalves", unfollowed := true, recurses := true, apart := false }
def BytesHalvesSaid : Prop := bytesHalvesRow.holds Try.pinned (OpenSpec.ofChange bytesHalvesSpec)

/-- ITS FALSE NEIGHBOUR: 'it returns false'. Refute it at one input. -/
def bytesHalvesWrong : ChangeSpec := { name := "bytesHalves", fn := fun _ => fun
  | [d1, d2, d3] => { results := [.lit (.bool false)], args := [d1, d2, d3] }
  | _ => none }
def BytesHalvesWrongFalsely : Prop := bytesHalvesRow.holds Try.pinned (OpenSpec.ofChange bytesHalvesWrong)

/-- 'copyholdlaw24.TrimsPlays': WHATEVER THE INPUT: true; the input reads as it did. -/
def trimsPlaysSpec : ChangeSpec := { name := "trimsPlays", fn := fun _ => fun
  | [d1, d2] => { results := [.lit (.bool true)], args := [d1, d2] }
  | _ => none }
def trimsPlaysRow : OpenClaim := { program := "ytpnlldmmfbpmgaa", sum := "65ca77f050679d830b389a0ba12ab333e3121573115426a311e26a18d8be34d1", func := "copyhold/copyholdlaw24.TrimsPlays", spec := "trimsPlays", unfollowed := true, recurses := true, apart := false }
def TrimsPlaysSaid : Prop := trimsPlaysRow.holds Try.pinned (OpenSpec.ofChange trimsPlaysSpec)

/-- ITS FALSE NEIGHBOUR: 'it returns false'. Refute it at one input. -/
def trimsPlaysWrong : ChangeSpec := { name := "trimsPlays", fn := fun _ => fun
  | [d1, d2] => { results := [.lit (.bool false)], args := [d1, d2] }
  | _ => none }
def TrimsPlaysWrongFalsely : Prop := trimsPlaysRow.holds Try.pinned (OpenSpec.ofChange trimsPlaysWrong)

/-- 'copyholdlaw24.TrimsSpread': WHATEVER THE INPUT: true; the input reads as it did. -/
def trimsSpreadSpec : ChangeSpec := { name := "trimsSpread", fn := fun _ => fun
  | [d1, d2] => { results := [.lit (.bool true)], args := [d1, d2] }
  | _ => none }
def trimsSpreadRow : OpenClaim := { program := "ytpnlldmmfbpmgaa", sum := "65ca77f050679d830b389a0ba12ab333e3121573115426a311e26a18d8be34d1", func := "copyhold/copyholdlaw24.TrimsSpread", spec := "trimsSpread", unfollowed := true, recurses := true, apart := false }
def TrimsSpreadSaid : Prop := trimsSpreadRow.holds Try.pinned (OpenSpec.ofChange trimsSpreadSpec)

/-- ITS FALSE NEIGHBOUR: 'it returns false'. Refute it at one input. -/
def trimsSpreadWrong : ChangeSpec := { name := "trimsSpread", fn := fun _ => fun
  | [d1, d2] => { results := [.lit (.bool false)], args := [d1, d2] }
  | _ => none }
def TrimsSpreadWrongFalsely : Prop := trimsSpreadRow.holds Try.pinned (OpenSpec.ofChange trimsSpreadWrong)

/-- 'copyholdlaw03.StackPlays': WHATEVER THE INPUT: true; the input reads as it did. -/
def stackPlaysSpec : ChangeSpec := { name := "stackPlays", fn := fun _ => fun
  | [d1, d2] => { results := [.lit (.bool true)], args := [d1, d2] }
  | _ => none }
def stackPlaysRow : OpenClaim := { program := "ytpnlldmmfbpmgaa", sum := "65ca77f050679d830b389a0ba12ab333e3121573115426a311e26a18d8be34d1", func := "copyhold/copyholdlaw03.StackPlays", spec := "stackPlays", apart := false }
def StackPlaysSaid : Prop := stackPlaysRow.holds Try.pinned (OpenSpec.ofChange stackPlaysSpec)

/-- ITS FALSE NEIGHBOUR: 'it returns false'. Refute it at one input. -/
def stackPlaysWrong : ChangeSpec := { name := "stackPlays", fn := fun _ => fun
  | [d1, d2] => { results := [.lit (.bool false)], args := [d1, d2] }
  | _ => none }
def StackPlaysWrongFalsely : Prop := stackPlaysRow.holds Try.pinned (OpenSpec.ofChange stackPlaysWrong)

/-- 'copyholdlaw03.StackOwn': WHATEVER THE INPUT: true; the input reads as it did. -/
def stackOwnSpec : ChangeSpec := { name := "stackOwn", fn := fun _ => fun
  | [d1, d2] => { results := [.lit (.bool true)], args := [d1, d2] }
  | _ => none }
def stackOwnRow : OpenClaim := { program := "ytpnlldmmfbpmgaa", sum := "65ca77f050679d830b389a0ba12ab333e3121573115426a311e26a18d8be34d1", func := "copyhold/copyholdlaw03.StackOwn", spec := "stackOwn", apart := false }
def StackOwnSaid : Prop := stackOwnRow.holds Try.pinned (OpenSpec.ofChange stackOwnSpec)

/-- ITS FALSE NEIGHBOUR: 'it returns false'. Refute it at one input. -/
def stackOwnWrong : ChangeSpec := { name := "stackOwn", fn := fun _ => fun
  | [d1, d2] => { results := [.lit (.bool false)], args := [d1, d2] }
  | _ => none }
def StackOwnWrongFalsely : Prop := stackOwnRow.holds Try.pinned (OpenSpec.ofChange stackOwnWrong)

/-- 'copyholdlaw03.StackPlaces': WHATEVER THE INPUT: true; the input reads as it did. -/
def stackPlacesSpec : ChangeSpec := { name := "stackPlaces", fn := fun _ => fun
  | [d1, d2] => { results := [.lit (.bool true)], args := [d1, d2] }
  | _ => none }
def stackPlacesRow : OpenClaim := { program := "ytpnlldmmfbpmgaa", sum := "65ca77f050679d830b389a0ba12ab333e3121573115426a311e26a18d8be34d1", func := "copyhold/copyholdlaw03.StackPlaces", spec := "stackPlaces", apart := false }
def StackPlacesSaid : Prop := stackPlacesRow.holds Try.pinned (OpenSpec.ofChange stackPlacesSpec)

/-- ITS FALSE NEIGHBOUR: 'it returns false'. Refute it at one input. -/
def stackPlacesWrong : ChangeSpec := { name := "stackPlaces", fn := fun _ => fun
  | [d1, d2] => { results := [.lit (.bool false)], args := [d1, d2] }
  | _ => none }
def StackPlacesWrongFalsely : Prop := stackPlacesRow.holds Try.pinned (OpenSpec.ofChange stackPlacesWrong)

/-- 'copyholdlaw10.BytesPlays': WHATEVER THE INPUT: true; the input reads as it did. -/
def bytesPlaysSpec : ChangeSpec := { name := "bytesPlays", fn := fun _ => fun
  | [d1, d2] => { results := [.lit (.bool true)], args := [d1, d2] }
  | _ => none }
def bytesPlaysRow : OpenClaim := { program := "ytpnlldmmfbpmgaa", sum := "65ca77f050679d830b389a0ba12ab333e3121573115426a311e26a18d8be34d1", func := "copyhold/copyholdlaw10.BytesPlays", spec := "bytesPlays", unfollowed := true, recurses := true, apart := false }
def BytesPlaysSaid : Prop := bytesPlaysRow.holds Try.pinned (OpenSpec.ofChange bytesPlaysSpec)

/-- ITS FALSE NEIGHBOUR: 'it returns false'. Refute it at one input. -/
def bytesPlaysWrong : ChangeSpec := { name := "bytesPlays", fn := fun _ => fun
  | [d1, d2] => { results := [.lit (.bool false)], args := [d1, d2] }
  | _ => none }
def BytesPlaysWrongFalsely : Prop := bytesPlaysRow.holds Try.pinned (OpenSpec.ofChange bytesPlaysWrong)

/-- 'copyholdlaw10.BytesBack': WHATEVER THE INPUT: true; the input reads as it did. -/
def bytesBackSpec : ChangeSpec := { name := "bytesBack", fn := fun _ => fun
  | [d1, d2, d3] => { results := [.lit (.bool true)], args := [d1, d2, d3] }
  | _ => none }
def bytesBackRow : OpenClaim := { program := "ytpnlldmmfbpmgaa", sum := "65ca77f050679d830b389a0ba12ab333e3121573115426a311e26a18d8be34d1", func := "copyhold/copyholdlaw10.BytesBack", spec := "bytesBack", unfollowed := true, recurses := true, apart := false }
def BytesBackSaid : Prop := bytesBackRow.holds Try.pinned (OpenSpec.ofChange bytesBackSpec)

/-- ITS FALSE NEIGHBOUR: 'it returns false'. Refute it at one input. -/
def bytesBackWrong : ChangeSpec := { name := "bytesBack", fn := fun _ => fun
  | [d1, d2, d3] => { results := [.lit (.bool false)], args := [d1, d2, d3] }
  | _ => none }
def BytesBackWrongFalsely : Prop := bytesBackRow.holds Try.pinned (OpenSpec.ofChange bytesBackWrong)

/-- 'copyholdlaw18.ScrubSteps': WHATEVER THE INPUT: true; the input reads as it did. -/
def scrubStepsSpec : ChangeSpec := { name := "scrubSteps", fn := fun _ => fun
  | [d1, d2, d3] => { results := [.lit (.bool true)], args := [d1, d2, d3] }
  | _ => none }
def scrubStepsRow : OpenClaim := { program := "ytpnlldmmfbpmgaa", sum := "65ca77f050679d830b389a0ba12ab333e3121573115426a311e26a18d8be34d1", func := "copyhold/copyholdlaw18.ScrubSteps", spec := "scrubSteps", inPlace := ["sync/atomic.LoadInt64", "sync/atomic.AddInt64"], unfollowed := true, recurses := true, apart := false }
def ScrubStepsSaid : Prop := scrubStepsRow.holds Try.pinned (OpenSpec.ofChange scrubStepsSpec)

/-- ITS FALSE NEIGHBOUR: 'it returns false'. Refute it at one input. -/
def scrubStepsWrong : ChangeSpec := { name := "scrubSteps", fn := fun _ => fun
  | [d1, d2, d3] => { results := [.lit (.bool false)], args := [d1, d2, d3] }
  | _ => none }
def ScrubStepsWrongFalsely : Prop := scrubStepsRow.holds Try.pinned (OpenSpec.ofChange scrubStepsWrong)

/-- 'copyholdlaw18.ScrubDone': WHATEVER THE INPUT: true; the input reads as it did. -/
def scrubDoneSpec : ChangeSpec := { name := "scrubDone", fn := fun _ => fun
  | [d1, d2, d3] => { results := [.lit (.bool true)], args := [d1, d2, d3] }
  | _ => none }
def scrubDoneRow : OpenClaim := { program := "ytpnlldmmfbpmgaa", sum := "65ca77f050679d830b389a0ba12ab333e3121573115426a311e26a18d8be34d1", func := "copyhold/copyholdlaw18.ScrubDone", spec := "scrubDone", inPlace := ["sync/atomic.LoadInt64", "sync/atomic.AddInt64"], unfollowed := true, recurses := true, apart := false }
def ScrubDoneSaid : Prop := scrubDoneRow.holds Try.pinned (OpenSpec.ofChange scrubDoneSpec)

/-- ITS FALSE NEIGHBOUR: 'it returns false'. Refute it at one input. -/
def scrubDoneWrong : ChangeSpec := { name := "scrubDone", fn := fun _ => fun
  | [d1, d2, d3] => { results := [.lit (.bool false)], args := [d1, d2, d3] }
  | _ => none }
def ScrubDoneWrongFalsely : Prop := scrubDoneRow.holds Try.pinned (OpenSpec.ofChange scrubDoneWrong)

/-- 'copyholdlaw10.BytesCopies': WHATEVER THE INPUT: true; the input reads as it did. -/
def bytesCopiesSpec : ChangeSpec := { name := "bytesCopies", fn := fun _ => fun
  | [d1, d2, d3] => { results := [.lit (.bool true)], args := [d1, d2, d3] }
  | _ => none }
def bytesCopiesRow : OpenClaim := { program := "ytpnlldmmfbpmgaa", sum := "65ca77f050679d830b389a0ba12ab333e3121573115426a311e26a18d8be34d1", func := "copyhold/copyholdlaw10.BytesCopies", spec := "bytesCopies", unfollowed := true, recurses := true, apart := false }
def BytesCopiesSaid : Prop := bytesCopiesRow.holds Try.pinned (OpenSpec.ofChange bytesCopiesSpec)

/-- ITS FALSE NEIGHBOUR: 'it returns false'. Refute it at one input. -/
def bytesCopiesWrong : ChangeSpec := { name := "bytesCopies", fn := fun _ => fun
  | [d1, d2, d3] => { results := [.lit (.bool false)], args := [d1, d2, d3] }
  | _ => none }
def BytesCopiesWrongFalsely : Prop := bytesCopiesRow.holds Try.pinned (OpenSpec.ofChange bytesCopiesWrong)

/- THE SECOND FORM. 'bulk': how many values and letters a reading holds, each counted each time it is reached (what is shared counts as often as it is met; a slice's spare places count too). A statement '..UptoSaid' is the law's where the arguments, and the package variables that the reading takes, are together of bulk at most 1048576: NARROWER than '..Said'. Prove '..Said' where nothing that the law and all that it calls make is longer than what came in: it says more and counts as full. Else prove '..UptoSaid'. A law counts once. -/
mutual
def uptoBulk {H : Type} : DataW H → Nat
  | .lit (.string bytes) => bytes.length + 1
  | .lit _ => 1
  | .nil => 1
  | .ptr d => uptoBulk d + 1
  | .slice elems spare => uptoBulkAll elems + uptoBulkAll spare + 1
  | .agg parts => uptoBulkAll parts + 1
  | .iface _ d => uptoBulk d + 1
  | .map entries => uptoBulkEntries entries + 1
  | .held _ => 1
def uptoBulkAll {H : Type} : List (DataW H) → Nat
  | [] => 0
  | d :: r => uptoBulk d + uptoBulkAll r
def uptoBulkEntries {H : Type} : List (Lit × DataW H) → Nat
  | [] => 0
  | x :: r => uptoBulkEntry x + uptoBulkEntries r
def uptoBulkEntry {H : Type} : Lit × DataW H → Nat
  | (.string bytes, d) => bytes.length + uptoBulk d + 1
  | (_, d) => uptoBulk d + 1
 end
def uptoSmall : (H : Type) → List (DataW H) → Bool := fun _ ds => decide (uptoBulkAll ds ≤ 1048576)
def OpenSpec.upto (s : _root_.Go.ChangeSpec) : _root_.Go.OpenSpec := { _root_.Go.OpenSpec.ofChange s with cond := some uptoSmall }

/-- 'copyholdlaw10.BytesHalves', WHERE WHAT IT READS IS OF BULK AT MOST 1048576: true; the input reads as it did. -/
def bytesHalvesUptoRow : OpenClaim := { program := "ytpnlldmmfbpmgaa", sum := "65ca77f050679d830b389a0ba12ab333e3121573115426a311e26a18d8be34d1", func := "copyhold/copyholdlaw10.BytesHalves", spec := "bytesHalves", unfollowed := true, recurses := true, apart := false, narrowed := true }
def BytesHalvesUptoSaid : Prop := bytesHalvesUptoRow.holds Try.pinned (OpenSpec.upto bytesHalvesSpec)

/-- 'copyholdlaw24.TrimsPlays', WHERE WHAT IT READS IS OF BULK AT MOST 1048576: true; the input reads as it did. -/
def trimsPlaysUptoRow : OpenClaim := { program := "ytpnlldmmfbpmgaa", sum := "65ca77f050679d830b389a0ba12ab333e3121573115426a311e26a18d8be34d1", func := "copyhold/copyholdlaw24.TrimsPlays", spec := "trimsPlays", unfollowed := true, recurses := true, apart := false, narrowed := true }
def TrimsPlaysUptoSaid : Prop := trimsPlaysUptoRow.holds Try.pinned (OpenSpec.upto trimsPlaysSpec)

/-- 'copyholdlaw24.TrimsSpread', WHERE WHAT IT READS IS OF BULK AT MOST 1048576: true; the input reads as it did. -/
def trimsSpreadUptoRow : OpenClaim := { program := "ytpnlldmmfbpmgaa", sum := "65ca77f050679d830b389a0ba12ab333e3121573115426a311e26a18d8be34d1", func := "copyhold/copyholdlaw24.TrimsSpread", spec := "trimsSpread", unfollowed := true, recurses := true, apart := false, narrowed := true }
def TrimsSpreadUptoSaid : Prop := trimsSpreadUptoRow.holds Try.pinned (OpenSpec.upto trimsSpreadSpec)

/-- 'copyholdlaw03.StackPlays', WHERE WHAT IT READS IS OF BULK AT MOST 1048576: true; the input reads as it did. -/
def stackPlaysUptoRow : OpenClaim := { program := "ytpnlldmmfbpmgaa", sum := "65ca77f050679d830b389a0ba12ab333e3121573115426a311e26a18d8be34d1", func := "copyhold/copyholdlaw03.StackPlays", spec := "stackPlays", apart := false, narrowed := true }
def StackPlaysUptoSaid : Prop := stackPlaysUptoRow.holds Try.pinned (OpenSpec.upto stackPlaysSpec)

/-- 'copyholdlaw03.StackOwn', WHERE WHAT IT READS IS OF BULK AT MOST 1048576: true; the input reads as it did. -/
def stackOwnUptoRow : OpenClaim := { program := "ytpnlldmmfbpmgaa", sum := "65ca77f050679d830b389a0ba12ab333e3121573115426a311e26a18d8be34d1", func := "copyhold/copyholdlaw03.StackOwn", spec := "stackOwn", apart := false, narrowed := true }
def StackOwnUptoSaid : Prop := stackOwnUptoRow.holds Try.pinned (OpenSpec.upto stackOwnSpec)

/-- 'copyholdlaw03.StackPlaces', WHERE WHAT IT READS IS OF BULK AT MOST 1048576: true; the input reads as it did. -/
def stackPlacesUptoRow : OpenClaim := { program := "ytpnlldmmfbpmgaa", sum := "65ca77f050679d830b389a0ba12ab333e3121573115426a311e26a18d8be34d1", func := "copyhold/copyholdlaw03.StackPlaces", spec := "stackPlaces", apart := false, narrowed := true }
def StackPlacesUptoSaid : Prop := stackPlacesUptoRow.holds Try.pinned (OpenSpec.upto stackPlacesSpec)

/-- 'copyholdlaw10.BytesPlays', WHERE WHAT IT READS IS OF BULK AT MOST 1048576: true; the input reads as it did. -/
def bytesPlaysUptoRow : OpenClaim := { program := "ytpnlldmmfbpmgaa", sum := "65ca77f050679d830b389a0ba12ab333e3121573115426a311e26a18d8be34d1", func := "copyhold/copyholdlaw10.BytesPlays", spec := "bytesPlays", unfollowed := true, recurses := true, apart := false, narrowed := true }
def BytesPlaysUptoSaid : Prop := bytesPlaysUptoRow.holds Try.pinned (OpenSpec.upto bytesPlaysSpec)

/-- 'copyholdlaw10.BytesBack', WHERE WHAT IT READS IS OF BULK AT MOST 1048576: true; the input reads as it did. -/
def bytesBackUptoRow : OpenClaim := { program := "ytpnlldmmfbpmgaa", sum := "65ca77f050679d830b389a0ba12ab333e3121573115426a311e26a18d8be34d1", func := "copyhold/copyholdlaw10.BytesBack", spec := "bytesBack", unfollowed := true, recurses := true, apart := false, narrowed := true }
def BytesBackUptoSaid : Prop := bytesBackUptoRow.holds Try.pinned (OpenSpec.upto bytesBackSpec)

/-- 'copyholdlaw18.ScrubSteps', WHERE WHAT IT READS IS OF BULK AT MOST 1048576: true; the input reads as it did. -/
def scrubStepsUptoRow : OpenClaim := { program := "ytpnlldmmfbpmgaa", sum := "65ca77f050679d830b389a0ba12ab333e3121573115426a311e26a18d8be34d1", func := "copyhold/copyholdlaw18.ScrubSteps", spec := "scrubSteps", inPlace := ["sync/atomic.LoadInt64", "sync/atomic.AddInt64"], unfollowed := true, recurses := true, apart := false, narrowed := true }
def ScrubStepsUptoSaid : Prop := scrubStepsUptoRow.holds Try.pinned (OpenSpec.upto scrubStepsSpec)

/-- 'copyholdlaw18.ScrubDone', WHERE WHAT IT READS IS OF BULK AT MOST 1048576: true; the input reads as it did. -/
def scrubDoneUptoRow : OpenClaim := { program := "ytpnlldmmfbpmgaa", sum := "65ca77f050679d830b389a0ba12ab333e3121573115426a311e26a18d8be34d1", func := "copyhold/copyholdlaw18.ScrubDone", spec := "scrubDone", inPlace := ["sync/atomic.LoadInt64", "sync/atomic.AddInt64"], unfollowed := true, recurses := true, apart := false, narrowed := true }
def ScrubDoneUptoSaid : Prop := scrubDoneUptoRow.holds Try.pinned (OpenSpec.upto scrubDoneSpec)

/-- 'copyholdlaw10.BytesCopies', WHERE WHAT IT READS IS OF BULK AT MOST 1048576: true; the input reads as it did. -/
def bytesCopiesUptoRow : OpenClaim := { program := "ytpnlldmmfbpmgaa", sum := "65ca77f050679d830b389a0ba12ab333e3121573115426a311e26a18d8be34d1", func := "copyhold/copyholdlaw10.BytesCopies", spec := "bytesCopies", unfollowed := true, recurses := true, apart := false, narrowed := true }
def BytesCopiesUptoSaid : Prop := bytesCopiesUptoRow.holds Try.pinned (OpenSpec.upto bytesCopiesSpec)

end Rows
end Go.Proofs.Ytpnlldmmfbpmgaa
