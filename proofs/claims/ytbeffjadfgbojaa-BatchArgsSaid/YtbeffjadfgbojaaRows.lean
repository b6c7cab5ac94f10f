/-
  No cell of these rows narrows 'for every input' (looked for: loops, veiled, ifaces, maps, wideKeys, modest, calm, conditions, laid).
  DERIVED. THE GIVEN ROWS OF THIS SEAT. 4 by the template 'for every input the law returns true; each argument reads behind the call as it read before'; 0 by the template 'total and deterministic' (their statements: YtbeffjadfgbojaaTotals.lean).
  GIVEN WITH THE SEED: the statements are not yours to turn. If you find one false, say at which input.
  Laid BY PROGRAM, IN A SANDBOX (cutbox-rows.mjs): the forced cells as the released guide's own fill.sh prints them over the translation 279bdca648e54e2a… (all of the seat's roots in one cut). By AI agents, Wed Nov 11 2026. No macro, syntax, notation, axiom, sorry.
-/
import Derived.Test.YtbeffjadfgbojaaChecked
import GoSem.Claim
import GoSem.ClaimJoined
import GoSem.ClaimMapViews
import Derived.JoinedTies
import Derived.KernelRfl
namespace Go.Proofs.Ytbeffjadfgbojaa
/- THE CELL 'sum', in the pinned program and in every row, IS THE sha256 OF THE DUMP (.gsa) THAT YtbeffjadfgbojaaProg.lean LOADS. Nothing in Lean hashes anything: it is a label: what it is worth is what the hold of that sum in a sandbox is worth. -/
noncomputable def Try.pinned : Pinned := { name := "ytbeffjadfgbojaa", sum := "279bdca648e54e2a1b1f68e298a936cb97e33d6d542de0baf7cdbb63327ee1fe", checked := Try.checked }
namespace Rows
def none {H : Type} : Left H := { results := [], args := [] }

/-- 'imageeditorlaw56.BatchFills': WHATEVER THE INPUT: true; the input reads as it did. -/
def batchFillsSpec : ChangeSpec := { name := "batchFills", fn := fun _ => fun
  | [d1, d2] => { results := [.lit (.bool true)], args := [d1, d2] }
  | _ => none }
def batchFillsRow : OpenClaim := { program := "ytbeffjadfgbojaa", sum := "279bdca648e54e2a1b1f68e298a936cb97e33d6d542de0baf7cdbb63327ee1fe", func := "imageeditor/imageeditorlaw56.BatchFills", spec := "batchFills", unfollowed := true, recurses := true, apart := false }
def BatchFillsSaid : Prop := batchFillsRow.holds Try.pinned (OpenSpec.ofChange batchFillsSpec)

/-- ITS FALSE NEIGHBOUR: 'it returns false'. Refute it at one input. -/
def batchFillsWrong : ChangeSpec := { name := "batchFills", fn := fun _ => fun
  | [d1, d2] => { results := [.lit (.bool false)], args := [d1, d2] }
  | _ => none }
def BatchFillsWrongFalsely : Prop := batchFillsRow.holds Try.pinned (OpenSpec.ofChange batchFillsWrong)

/-- 'imageeditorlaw56.BatchRecords': WHATEVER THE INPUT: true; the input reads as it did. -/
def batchRecordsSpec : ChangeSpec := { name := "batchRecords", fn := fun _ => fun
  | [d1, d2] => { results := [.lit (.bool true)], args := [d1, d2] }
  | _ => none }
def batchRecordsRow : OpenClaim := { program := "ytbeffjadfgbojaa", sum := "279bdca648e54e2a1b1f68e298a936cb97e33d6d542de0baf7cdbb63327ee1fe", func := "imageeditor/imageeditorlaw56.BatchRecords", spec := "batchRecords", unfollowed := true, recurses := true, apart := false }
def BatchRecordsSaid : Prop := batchRecordsRow.holds Try.pinned (OpenSpec.ofChange batchRecordsSpec)

/-- ITS FALSE NEIGHBOUR: 'it returns false'. Refute it at one input. -/
def batchRecordsWrong : ChangeSpec := { name := "batchRecords", fn := fun _ => fun
  | [d1, d2] => { results := [.lit (.bool false)], args := [d1, d2] }
  | _ => none }
def BatchRecordsWrongFalsely : Prop := batchRecordsRow.holds Try.pinned (OpenSpec.ofChange batchRecordsWrong)

/-- 'imageeditorlaw56.BatchChecks': WHATEVER THE INPUT: true; the input reads as it did. -/
def batchChecksSpec : ChangeSpec := { name := "batchChecks", fn := fun _ => fun
  | [d] => { results := [.lit (.bool true)], args := [d] }
  | _ => none }
def batchChecksRow : OpenClaim := { program := "ytbeffjadfgbojaa", sum := "279bdca648e54e2a1b1f68e298a936cb97e33d6d542de0baf7cdbb63327ee1fe", func := "imageeditor/imageeditorlaw56.BatchChecks", spec := "batchChecks", unfollowed := true, recurses := true, apart := false }
def BatchChecksSaid : Prop := batchChecksRow.holds Try.pinned (OpenSpec.ofChange batchChecksSpec)

/-- ITS FALSE NEIGHBOUR: 'it returns false'. Refute it at one input. -/
def batchChecksWrong : ChangeSpec := { name := "batchChecks", fn := fun _ => fun
  | [d] => { results := [.lit (.bool false)], args := [d] }
  | _ => none }
def BatchChecksWrongFalsely : Prop := batchChecksRow.holds Try.pinned (OpenSpec.ofChange batchChecksWrong)

/-- 'imageeditorlaw56.BatchArgs': WHATEVER THE INPUT: true; the input reads as it did. -/
def batchArgsSpec : ChangeSpec := { name := "batchArgs", fn := fun _ => fun
  | [d1, d2, d3] => { results := [.lit (.bool true)], args := [d1, d2, d3] }
  | _ => none }
def batchArgsRow : OpenClaim := { program := "ytbeffjadfgbojaa", sum := "279bdca648e54e2a1b1f68e298a936cb97e33d6d542de0baf7cdbb63327ee1fe", func := "imageeditor/imageeditorlaw56.BatchArgs", spec := "batchArgs", unfollowed := true, recurses := true, apart := false }
def BatchArgsSaid : Prop := batchArgsRow.holds Try.pinned (OpenSpec.ofChange batchArgsSpec)

/-- ITS FALSE NEIGHBOUR: 'it returns false'. Refute it at one input. -/
def batchArgsWrong : ChangeSpec := { name := "batchArgs", fn := fun _ => fun
  | [d1, d2, d3] => { results := [.lit (.bool false)], args := [d1, d2, d3] }
  | _ => none }
def BatchArgsWrongFalsely : Prop := batchArgsRow.holds Try.pinned (OpenSpec.ofChange batchArgsWrong)

/- THE SECOND FORM. 'bulk': how many values and letters a reading holds, each counted each time it is reached (what is shared counts as often as it is met; a slice's spare places count too). A statement '..UptoSaid' is the law's where the arguments, and the package variables that the reading takes, are together of bulk at most 1048576: NARROWER than '..Said'. Prove '..Said' where nothing that the law and all that it calls make is longer than what came in: it says more and counts as full. Else prove '..UptoSaid'. A law counts once. -/
mutual
def uptoBulk {H : Type} : DataW H → Nat
  | .lit (.string bytes) => bytes.length + 1
  | .lit _ => 1
  | .nil => 1
  | .ptr d => uptoBulk d + 1
  | .slice elems spare => uptoBulkAll elems + uptoBulkAll spare + 1
  | .agg parts => uptoBulkAll parts + 1
  | .iface _ d => uptoBulk d + 1
  | .map entries => uptoBulkEntries entries + 1
  | .held _ => 1
def uptoBulkAll {H : Type} : List (DataW H) → Nat
  | [] => 0
  | d :: r => uptoBulk d + uptoBulkAll r
def uptoBulkEntries {H : Type} : List (Lit × DataW H) → Nat
  | [] => 0
  | x :: r => uptoBulkEntry x + uptoBulkEntries r
def uptoBulkEntry {H : Type} : Lit × DataW H → Nat
  | (.string bytes, d) => bytes.length + uptoBulk d + 1
  | (_, d) => uptoBulk d + 1
 end
def uptoSmall : (H : Type) → List (DataW H) → Bool := fun _ ds => decide (uptoBulkAll ds ≤ 1048576)
def OpenSpec.upto (s : _root_.Go.ChangeSpec) : _root_.Go.OpenSpec := { _root_.Go.OpenSpec.ofChange s with cond := some uptoSmall }

/-- 'imageeditorlaw56.BatchFills', WHERE WHAT IT READS IS OF BULK AT MOST 1048576: true; the input reads as it did. -/
def batchFillsUptoRow : OpenClaim := { program := "ytbeffjadfgbojaa", sum := "279bdca648e54e2a1b1f68e298a936cb97e33d6d542de0baf7cdbb63327ee1fe", func := "imageeditor/imageeditorlaw56.BatchFills", spec := "batchFills", unfollowed := true, recurses := true, apart := false, narrowed := true }
def BatchFillsUptoSaid : Prop := batchFillsUptoRow.holds Try.pinned (OpenSpec.upto batchFillsSpec)

/-- 'imageeditorlaw56.BatchRecords', WHERE WHAT IT READS IS OF BULK AT MOST 1048576: true; the input reads as it did. -/
def batchRecordsUptoRow : OpenClaim := { program := "ytbeffjadfgbojaa", sum := "279bdca648e54e2a1b1f68e298a936cb97e33d6d542de0baf7cdbb63327ee1fe", func := "imageeditor/imageeditorlaw56.BatchRecords", spec := "batchRecords", unfollowed := true, recurses := true, apart := false, narrowed := true }
def BatchRecordsUptoSaid : Prop := batchRecordsUptoRow.holds Try.pinned (OpenSpec.upto batchRecordsSpec)

/-- 'imageeditorlaw56.BatchChecks', WHERE WHAT IT READS IS OF BULK AT MOST 1048576: true; the input reads as it did. -/
def batchChecksUptoRow : OpenClaim := { program := "ytbeffjadfgbojaa", sum := "279bdca648e54e2a1b1f68e298a936cb97e33d6d542de0baf7cdbb63327ee1fe", func := "imageeditor/imageeditorlaw56.BatchChecks", spec := "batchChecks", unfollowed := true, recurses := true, apart := false, narrowed := true }
def BatchChecksUptoSaid : Prop := batchChecksUptoRow.holds Try.pinned (OpenSpec.upto batchChecksSpec)

/-- 'imageeditorlaw56.BatchArgs', WHERE WHAT IT READS IS OF BULK AT MOST 1048576: true; the input reads as it did. -/
def batchArgsUptoRow : OpenClaim := { program := "ytbeffjadfgbojaa", sum := "279bdca648e54e2a1b1f68e298a936cb97e33d6d542de0baf7cdbb63327ee1fe", func := "imageeditor/imageeditorlaw56.BatchArgs", spec := "batchArgs", unfollowed := true, recurses := true, apart := false, narrowed := true }
def BatchArgsUptoSaid : Prop := batchArgsUptoRow.holds Try.pinned (OpenSpec.upto batchArgsSpec)

end Rows
end Go.Proofs.Ytbeffjadfgbojaa
