/-
  No cell of these rows narrows 'for every input' (looked for: loops, veiled, ifaces, maps, wideKeys, modest, calm, conditions, laid).
  DERIVED. THE GIVEN ROWS OF THIS SEAT. 7 by the template 'for every input the law returns true; each argument reads behind the call as it read before'; 0 by the template 'total and deterministic' (their statements: YtjffekopjfchnaaTotals.lean).
  GIVEN WITH THE SEED: the statements are not yours to turn. If you find one false, say at which input.
  Laid BY PROGRAM, IN A SANDBOX (cutbox-rows.mjs): the forced cells as the released guide's own fill.sh prints them over the translation 327598ab88bdcdab… (all of the seat's roots in one cut). By AI agents, Wed Nov 11 2026. No macro, syntax, notation, axiom, sorry.
-/
import Derived.Test.YtjffekopjfchnaaChecked
import GoSem.Claim
import GoSem.ClaimJoined
import GoSem.ClaimMapViews
import Derived.JoinedTies
import Derived.KernelRfl
namespace Go.Proofs.Ytjffekopjfchnaa
/- THE CELL 'sum', in the pinned program and in every row, IS THE sha256 OF THE DUMP (.gsa) THAT YtjffekopjfchnaaProg.lean LOADS. Nothing in Lean hashes anything: it is a label: what it is worth is what the hold of that sum in a sandbox is worth. -/
noncomputable def Try.pinned : Pinned := { name := "ytjffekopjfchnaa", sum := "327598ab88bdcdab03686822c94dc15a215b57ff90666bfc924ea0068251da15", checked := Try.checked }
namespace Rows
def none {H : Type} : Left H := { results := [], args := [] }

/-- 'copyholdlaw13.MarkParts': WHATEVER THE INPUT: true; the input reads as it did. -/
def markPartsSpec : ChangeSpec := { name := "markParts", fn := fun _ => fun
  | [d] => { results := [.lit (.bool true)], args := [d] }
  | _ => none }
def markPartsRow : OpenClaim := { program := "ytjffekopjfchnaa", sum := "327598ab88bdcdab03686822c94dc15a215b57ff90666bfc924ea0068251da15", func := "copyhold/copyholdlaw13.MarkParts", spec := "markParts", inPlace := ["sync/atomic.StoreUint64", "sync/atomic.LoadUint64"], apart := false }
def MarkPartsSaid : Prop := markPartsRow.holds Try.pinned (OpenSpec.ofChange markPartsSpec)

/-- ITS FALSE NEIGHBOUR: 'it returns false'. Refute it at one input. -/
def markPartsWrong : ChangeSpec := { name := "markParts", fn := fun _ => fun
  | [d] => { results := [.lit (.bool false)], args := [d] }
  | _ => none }
def MarkPartsWrongFalsely : Prop := markPartsRow.holds Try.pinned (OpenSpec.ofChange markPartsWrong)

/-- 'copyholdlaw13.MarkOf': WHATEVER THE INPUT: true; the input reads as it did. -/
def markOfSpec : ChangeSpec := { name := "markOf", fn := fun _ => fun
  | [d1, d2] => { results := [.lit (.bool true)], args := [d1, d2] }
  | _ => none }
def markOfRow : OpenClaim := { program := "ytjffekopjfchnaa", sum := "327598ab88bdcdab03686822c94dc15a215b57ff90666bfc924ea0068251da15", func := "copyhold/copyholdlaw13.MarkOf", spec := "markOf", inPlace := ["sync/atomic.StoreUint64", "sync/atomic.LoadUint64"], apart := false }
def MarkOfSaid : Prop := markOfRow.holds Try.pinned (OpenSpec.ofChange markOfSpec)

/-- ITS FALSE NEIGHBOUR: 'it returns false'. Refute it at one input. -/
def markOfWrong : ChangeSpec := { name := "markOf", fn := fun _ => fun
  | [d1, d2] => { results := [.lit (.bool false)], args := [d1, d2] }
  | _ => none }
def MarkOfWrongFalsely : Prop := markOfRow.holds Try.pinned (OpenSpec.ofChange markOfWrong)

/-- 'copyholdlaw31.TicketStays': WHATEVER THE INPUT: true; the input reads as it did. -/
def ticketStaysSpec : ChangeSpec := { name := "ticketStays", fn := fun _ => fun
  | [d1, d2] => { results := [.lit (.bool true)], args := [d1, d2] }
  | _ => none }
def ticketStaysRow : OpenClaim := { program := "ytjffekopjfchnaa", sum := "327598ab88bdcdab03686822c94dc15a215b57ff90666bfc924ea0068251da15", func := "copyhold/copyholdlaw31.TicketStays", spec := "ticketStays", apart := false }
def TicketStaysSaid : Prop := ticketStaysRow.holds Try.pinned (OpenSpec.ofChange ticketStaysSpec)

/-- ITS FALSE NEIGHBOUR: 'it returns false'. Refute it at one input. -/
def ticketStaysWrong : ChangeSpec := { name := "ticketStays", fn := fun _ => fun
  | [d1, d2] => { results := [.lit (.bool false)], args := [d1, d2] }
  | _ => none }
def TicketStaysWrongFalsely : Prop := ticketStaysRow.holds Try.pinned (OpenSpec.ofChange ticketStaysWrong)

/-- 'copyholdlaw31.TicketDoes': WHATEVER THE INPUT: true; the input reads as it did. -/
def ticketDoesSpec : ChangeSpec := { name := "ticketDoes", fn := fun _ => fun
  | [d1, d2] => { results := [.lit (.bool true)], args := [d1, d2] }
  | _ => none }
def ticketDoesRow : OpenClaim := { program := "ytjffekopjfchnaa", sum := "327598ab88bdcdab03686822c94dc15a215b57ff90666bfc924ea0068251da15", func := "copyhold/copyholdlaw31.TicketDoes", spec := "ticketDoes", apart := false }
def TicketDoesSaid : Prop := ticketDoesRow.holds Try.pinned (OpenSpec.ofChange ticketDoesSpec)

/-- ITS FALSE NEIGHBOUR: 'it returns false'. Refute it at one input. -/
def ticketDoesWrong : ChangeSpec := { name := "ticketDoes", fn := fun _ => fun
  | [d1, d2] => { results := [.lit (.bool false)], args := [d1, d2] }
  | _ => none }
def TicketDoesWrongFalsely : Prop := ticketDoesRow.holds Try.pinned (OpenSpec.ofChange ticketDoesWrong)

/-- 'copyholdlaw23.WaterFeeds': WHATEVER THE INPUT: true; the input reads as it did. -/
def waterFeedsSpec : ChangeSpec := { name := "waterFeeds", fn := fun _ => fun
  | [d1, d2] => { results := [.lit (.bool true)], args := [d1, d2] }
  | _ => none }
def waterFeedsRow : OpenClaim := { program := "ytjffekopjfchnaa", sum := "327598ab88bdcdab03686822c94dc15a215b57ff90666bfc924ea0068251da15", func := "copyhold/copyholdlaw23.WaterFeeds", spec := "waterFeeds", apart := false }
def WaterFeedsSaid : Prop := waterFeedsRow.holds Try.pinned (OpenSpec.ofChange waterFeedsSpec)

/-- ITS FALSE NEIGHBOUR: 'it returns false'. Refute it at one input. -/
def waterFeedsWrong : ChangeSpec := { name := "waterFeeds", fn := fun _ => fun
  | [d1, d2] => { results := [.lit (.bool false)], args := [d1, d2] }
  | _ => none }
def WaterFeedsWrongFalsely : Prop := waterFeedsRow.holds Try.pinned (OpenSpec.ofChange waterFeedsWrong)

/-- 'copyholdlaw23.WaterTurns': WHATEVER THE INPUT: true; the input reads as it did. -/
def waterTurnsSpec : ChangeSpec := { name := "waterTurns", fn := fun _ => fun
  | [d1, d2] => { results := [.lit (.bool true)], args := [d1, d2] }
  | _ => none }
def waterTurnsRow : OpenClaim := { program := "ytjffekopjfchnaa", sum := "327598ab88bdcdab03686822c94dc15a215b57ff90666bfc924ea0068251da15", func := "copyhold/copyholdlaw23.WaterTurns", spec := "waterTurns", apart := false }
def WaterTurnsSaid : Prop := waterTurnsRow.holds Try.pinned (OpenSpec.ofChange waterTurnsSpec)

/-- ITS FALSE NEIGHBOUR: 'it returns false'. Refute it at one input. -/
def waterTurnsWrong : ChangeSpec := { name := "waterTurns", fn := fun _ => fun
  | [d1, d2] => { results := [.lit (.bool false)], args := [d1, d2] }
  | _ => none }
def WaterTurnsWrongFalsely : Prop := waterTurnsRow.holds Try.pinned (OpenSpec.ofChange waterTurnsWrong)

/-- 'copyholdlaw23.WaterLack': WHATEVER THE INPUT: true; the input reads as it did. -/
def waterLackSpec : ChangeSpec := { name := "waterLack", fn := fun _ => fun
  | [d1, d2] => { results := [.lit (.bool true)], args := [d1, d2] }
  | _ => none }
def waterLackRow : OpenClaim := { program := "ytjffekopjfchnaa", sum := "327598ab88bdcdab03686822c94dc15a215b57ff90666bfc924ea0068251da15", func := "copyhold/copyholdlaw23.WaterLack", spec := "waterLack", apart := false }
def WaterLackSaid : Prop := waterLackRow.holds Try.pinned (OpenSpec.ofChange waterLackSpec)

/-- ITS FALSE NEIGHBOUR: 'it returns false'. Refute it at one input. -/
def waterLackWrong : ChangeSpec := { name := "waterLack", fn := fun _ => fun
  | [d1, d2] => { results := [.lit (.bool false)], args := [d1, d2] }
  | _ => none }
def WaterLackWrongFalsely : Prop := waterLackRow.holds Try.pinned (OpenSpec.ofChange waterLackWrong)

/- THE SECOND FORM. 'bulk': how many values and letters a reading holds, each counted each time it is reached (what is shared counts as often as it is met; a slice's spare places count too). A statement '..UptoSaid' is the law's where the arguments, and the package variables that the reading takes, are together of bulk at most 1048576: NARROWER than '..Said'. Prove '..Said' where nothing that the law and all that it calls make is longer than what came in: it says more and counts as full. Else prove '..UptoSaid'. A law counts once. -/
mutual
def uptoBulk {H : Type} : DataW H → Nat
  | .lit (.string bytes) => bytes.length + 1
  | .lit _ => 1
  | .nil => 1
  | .ptr d => uptoBulk d + 1
  | .slice elems spare => uptoBulkAll elems + uptoBulkAll spare + 1
  | .agg parts => uptoBulkAll parts + 1
  | .iface _ d => uptoBulk d + 1
  | .map entries => uptoBulkEntries entries + 1
  | .held _ => 1
def uptoBulkAll {H : Type} : List (DataW H) → Nat
  | [] => 0
  | d :: r => uptoBulk d + uptoBulkAll r
def uptoBulkEntries {H : Type} : List (Lit × DataW H) → Nat
  | [] => 0
  | x :: r => uptoBulkEntry x + uptoBulkEntries r
def uptoBulkEntry {H : Type} : Lit × DataW H → Nat
  | (.string bytes, d) => bytes.length + uptoBulk d + 1
  | (_, d) => uptoBulk d + 1
 end
def uptoSmall : (H : Type) → List (DataW H) → Bool := fun _ ds => decide (uptoBulkAll ds ≤ 1048576)
def OpenSpec.upto (s : _root_.Go.ChangeSpec) : _root_.Go.OpenSpec := { _root_.Go.OpenSpec.ofChange s with cond := some uptoSmall }

/-- 'copyholdlaw13.MarkParts', WHERE WHAT IT READS IS OF BULK AT MOST 1048576: true; the input reads as it did. -/
def markPartsUptoRow : OpenClaim := { program := "ytjffekopjfchnaa", sum := "327598ab88bdcdab03686822c94dc15a215b57ff90666bfc924ea0068251da15", func := "copyhold/copyholdlaw13.MarkParts", spec := "markParts", inPlace := ["sync/atomic.StoreUint64", "sync/atomic.LoadUint64"], apart := false, narrowed := true }
def MarkPartsUptoSaid : Prop := markPartsUptoRow.holds Try.pinned (OpenSpec.upto markPartsSpec)

/-- 'copyholdlaw13.MarkOf', WHERE WHAT IT READS IS OF BULK AT MOST 1048576: true; the input reads as it did. -/
def markOfUptoRow : OpenClaim := { program := "ytjffekopjfchnaa", sum := "327598ab88bdcdab03686822c94dc15a215b57ff90666bfc924ea0068251da15", func := "copyhold/copyholdlaw13.MarkOf", spec := "markOf", inPlace := ["sync/atomic.StoreUint64", "sync/atomic.LoadUint64"], apart := false, narrowed := true }
def MarkOfUptoSaid : Prop := markOfUptoRow.holds Try.pinned (OpenSpec.upto markOfSpec)

/-- 'copyholdlaw31.TicketStays', WHERE WHAT IT READS IS OF BULK AT MOST 1048576: true; the input reads as it did. -/
def ticketStaysUptoRow : OpenClaim := { program := "ytjffekopjfchnaa", sum := "327598ab88bdcdab03686822c94dc15a215b57ff90666bfc924ea0068251da15", func := "copyhold/copyholdlaw31.TicketStays", spec := "ticketStays", apart := false, narrowed := true }
def TicketStaysUptoSaid : Prop := ticketStaysUptoRow.holds Try.pinned (OpenSpec.upto ticketStaysSpec)

/-- 'copyholdlaw31.TicketDoes', WHERE WHAT IT READS IS OF BULK AT MOST 1048576: true; the input reads as it did. -/
def ticketDoesUptoRow : OpenClaim := { program := "ytjffekopjfchnaa", sum := "327598ab88bdcdab03686822c94dc15a215b57ff90666bfc924ea0068251da15", func := "copyhold/copyholdlaw31.TicketDoes", spec := "ticketDoes", apart := false, narrowed := true }
def TicketDoesUptoSaid : Prop := ticketDoesUptoRow.holds Try.pinned (OpenSpec.upto ticketDoesSpec)

/-- 'copyholdlaw23.WaterFeeds', WHERE WHAT IT READS IS OF BULK AT MOST 1048576: true; the input reads as it did. -/
def waterFeedsUptoRow : OpenClaim := { program := "ytjffekopjfchnaa", sum := "327598ab88bdcdab03686822c94dc15a215b57ff90666bfc924ea0068251da15", func := "copyhold/copyholdlaw23.WaterFeeds", spec := "waterFeeds", apart := false, narrowed := true }
def WaterFeedsUptoSaid : Prop := waterFeedsUptoRow.holds Try.pinned (OpenSpec.upto waterFeedsSpec)

/-- 'copyholdlaw23.WaterTurns', WHERE WHAT IT READS IS OF BULK AT MOST 1048576: true; the input reads as it did. -/
def waterTurnsUptoRow : OpenClaim := { program := "ytjffekopjfchnaa", sum := "327598ab88bdcdab03686822c94dc15a215b57ff90666bfc924ea0068251da15", func := "copyhold/copyholdlaw23.WaterTurns", spec := "waterTurns", apart := false, narrowed := true }
def WaterTurnsUptoSaid : Prop := waterTurnsUptoRow.holds Try.pinned (OpenSpec.upto waterTurnsSpec)

/-- 'copyholdlaw23.WaterLack', WHERE WHAT IT READS IS OF BULK AT MOST 1048576: true; the input reads as it did. -/
def waterLackUptoRow : OpenClaim := { program := "ytjffekopjfchnaa", sum := "327598ab88bdcdab03686822c94dc15a215b57ff90666bfc924ea0068251da15", func := "copyhold/copyholdlaw23.WaterLack", spec := "waterLack", apart := false, narrowed := true }
def WaterLackUptoSaid : Prop := waterLackUptoRow.holds Try.pinned (OpenSpec.upto waterLackSpec)

end Rows
end Go.Proofs.Ytjffekopjfchnaa
