/-
  No cell of these rows narrows 'for every input' (looked for: loops, veiled, ifaces, maps, wideKeys, modest, calm, conditions, laid).
  DERIVED. THE GIVEN ROWS OF THIS SEAT. 9 by the template 'for every input the law returns true; each argument reads behind the call as it read before'; 0 by the template 'total and deterministic' (their statements: YtpdfcgkeclocoaaTotals.lean).
  GIVEN WITH THE SEED: the statements are not yours to turn. If you find one false, say at which input.
  Laid BY PROGRAM, IN A SANDBOX (cutbox-rows.mjs): the forced cells as the released guide's own fill.sh prints them over the translation 86cc58bc67bff195… (all of the seat's roots in one cut). By AI agents, Wed Nov 11 2026. No macro, syntax, notation, axiom, sorry.
-/
import Derived.Test.YtpdfcgkeclocoaaChecked
import GoSem.Claim
import GoSem.ClaimJoined
import GoSem.ClaimMapViews
import Derived.JoinedTies
import Derived.KernelRfl
namespace Go.Proofs.Ytpdfcgkeclocoaa
/- THE CELL 'sum', in the pinned program and in every row, IS THE sha256 OF THE DUMP (.gsa) THAT YtpdfcgkeclocoaaProg.lean LOADS. Nothing in Lean hashes anything: it is a label: what it is worth is what the hold of that sum in a sandbox is worth. -/
noncomputable def Try.pinned : Pinned := { name := "ytpdfcgkeclocoaa", sum := "86cc58bc67bff19551e8503dfc39a7ef623cf810bd9efb9df06ed21b5ef214c8", checked := Try.checked }
namespace Rows
def none {H : Type} : Left H := { results := [], args := [] }

/-- 'fountainlaw19.TableSelf': WHATEVER THE INPUT: true; the input reads as it did. -/
def tableSelfSpec : ChangeSpec := { name := "tableSelf", fn := fun _ => fun
  | [d1, d2] => { results := [.lit (.bool true)], args := [d1, d2] }
  | _ => none }
def tableSelfRow : OpenClaim := { program := "ytpdfcgkeclocoaa", sum := "86cc58bc67bff19551e8503dfc39a7ef623cf810bd9efb9df06ed21b5ef214c8", func := "fountain/fountainlaw19.TableSelf", spec := "tableSelf", unfollowed := true, recurses := true, plainKeys := false, apart := false }
def TableSelfSaid : Prop := tableSelfRow.holds Try.pinned (OpenSpec.ofChange tableSelfSpec)

/-- ITS FALSE NEIGHBOUR: 'it returns false'. Refute it at one input. -/
def tableSelfWrong : ChangeSpec := { name := "tableSelf", fn := fun _ => fun
  | [d1, d2] => { results := [.lit (.bool false)], args := [d1, d2] }
  | _ => none }
def TableSelfWrongFalsely : Prop := tableSelfRow.holds Try.pinned (OpenSpec.ofChange tableSelfWrong)

/-- 'fountainlaw13.ObjectDecodes': WHATEVER THE INPUT: true; the input reads as it did. -/
def objectDecodesSpec : ChangeSpec := { name := "objectDecodes", fn := fun _ => fun
  | [d1, d2] => { results := [.lit (.bool true)], args := [d1, d2] }
  | _ => none }
def objectDecodesRow : OpenClaim := { program := "ytpdfcgkeclocoaa", sum := "86cc58bc67bff19551e8503dfc39a7ef623cf810bd9efb9df06ed21b5ef214c8", func := "fountain/fountainlaw13.ObjectDecodes", spec := "objectDecodes", unfollowed := true, recurses := true, plainKeys := false, apart := false }
def ObjectDecodesSaid : Prop := objectDecodesRow.holds Try.pinned (OpenSpec.ofChange objectDecodesSpec)

/-- ITS FALSE NEIGHBOUR: 'it returns false'. Refute it at one input. -/
def objectDecodesWrong : ChangeSpec := { name := "objectDecodes", fn := fun _ => fun
  | [d1, d2] => { results := [.lit (.bool false)], args := [d1, d2] }
  | _ => none }
def ObjectDecodesWrongFalsely : Prop := objectDecodesRow.holds Try.pinned (OpenSpec.ofChange objectDecodesWrong)

/-- 'fountainlaw13.ObjectBack': WHATEVER THE INPUT: true; the input reads as it did. -/
def objectBackSpec : ChangeSpec := { name := "objectBack", fn := fun _ => fun
  | [d1, d2, d3] => { results := [.lit (.bool true)], args := [d1, d2, d3] }
  | _ => none }
def objectBackRow : OpenClaim := { program := "ytpdfcgkeclocoaa", sum := "86cc58bc67bff19551e8503dfc39a7ef623cf810bd9efb9df06ed21b5ef214c8", func := "fountain/fountainlaw13.ObjectBack", spec := "objectBack", unfollowed := true, recurses := true, plainKeys := false, apart := false }
def ObjectBackSaid : Prop := objectBackRow.holds Try.pinned (OpenSpec.ofChange objectBackSpec)

/-- ITS FALSE NEIGHBOUR: 'it returns false'. Refute it at one input. -/
def objectBackWrong : ChangeSpec := { name := "objectBack", fn := fun _ => fun
  | [d1, d2, d3] => { results := [.lit (.bool false)], args := [d1, d2, d3] }
  | _ => none }
def ObjectBackWrongFalsely : Prop := objectBackRow.holds Try.pinned (OpenSpec.ofChange objectBackWrong)

/-- 'fountainlaw13.ObjectRecords': WHATEVER THE INPUT: true; the input reads as it did. -/
def objectRecordsSpec : ChangeSpec := { name := "objectRecords", fn := fun _ => fun
  | [d1, d2, d3, d4, d5] => { results := [.lit (.bool true)], args := [d1, d2, d3, d4, d5] }
  | _ => none }
def objectRecordsRow : OpenClaim := { program := "ytpdfcgkeclocoaa", sum := "86cc58bc67bff19551e8503dfc39a7ef623cf810bd9efb9df06ed21b5ef214c8", func := "fountain/fountainlaw13.ObjectRecords", spec := "objectRecords", unfollowed := true, recurses := true, plainKeys := false, apart := false }
def ObjectRecordsSaid : Prop := objectRecordsRow.holds Try.pinned (OpenSpec.ofChange objectRecordsSpec)

/-- ITS FALSE NEIGHBOUR: 'it returns false'. Refute it at one input. -/
def objectRecordsWrong : ChangeSpec := { name := "objectRecords", fn := fun _ => fun
  | [d1, d2, d3, d4, d5] => { results := [.lit (.bool false)], args := [d1, d2, d3, d4, d5] }
  | _ => none }
def ObjectRecordsWrongFalsely : Prop := objectRecordsRow.holds Try.pinned (OpenSpec.ofChange objectRecordsWrong)

/-- 'fountainlaw24.MintBeyond': WHATEVER THE INPUT: true; the input reads as it did. -/
def mintBeyondSpec : ChangeSpec := { name := "mintBeyond", fn := fun _ => fun
  | [d1, d2] => { results := [.lit (.bool true)], args := [d1, d2] }
  | _ => none }
def mintBeyondRow : OpenClaim := { program := "ytpdfcgkeclocoaa", sum := "86cc58bc67bff19551e8503dfc39a7ef623cf810bd9efb9df06ed21b5ef214c8", func := "fountain/fountainlaw24.MintBeyond", spec := "mintBeyond", unfollowed := true, recurses := true, plainKeys := false, apart := false }
def MintBeyondSaid : Prop := mintBeyondRow.holds Try.pinned (OpenSpec.ofChange mintBeyondSpec)

/-- ITS FALSE NEIGHBOUR: 'it returns false'. Refute it at one input. -/
def mintBeyondWrong : ChangeSpec := { name := "mintBeyond", fn := fun _ => fun
  | [d1, d2] => { results := [.lit (.bool false)], args := [d1, d2] }
  | _ => none }
def MintBeyondWrongFalsely : Prop := mintBeyondRow.holds Try.pinned (OpenSpec.ofChange mintBeyondWrong)

/-- 'fountainlaw16.StoreCrashes': WHATEVER THE INPUT: true; the input reads as it did. -/
def storeCrashesSpec : ChangeSpec := { name := "storeCrashes", fn := fun _ => fun
  | [d1, d2, d3, d4, d5] => { results := [.lit (.bool true)], args := [d1, d2, d3, d4, d5] }
  | _ => none }
def storeCrashesRow : OpenClaim := { program := "ytpdfcgkeclocoaa", sum := "86cc58bc67bff19551e8503dfc39a7ef623cf810bd9efb9df06ed21b5ef214c8", func := "fountain/fountainlaw16.StoreCrashes", spec := "storeCrashes", inPlace := ["slices.overlaps[fountain/api.Record]"], unfollowed := true, recurses := true, plainKeys := false, apart := false }
def StoreCrashesSaid : Prop := storeCrashesRow.holds Try.pinned (OpenSpec.ofChange storeCrashesSpec)

/-- ITS FALSE NEIGHBOUR: 'it returns false'. Refute it at one input. -/
def storeCrashesWrong : ChangeSpec := { name := "storeCrashes", fn := fun _ => fun
  | [d1, d2, d3, d4, d5] => { results := [.lit (.bool false)], args := [d1, d2, d3, d4, d5] }
  | _ => none }
def StoreCrashesWrongFalsely : Prop := storeCrashesRow.holds Try.pinned (OpenSpec.ofChange storeCrashesWrong)

/-- 'fountainlaw16.StorePlays': WHATEVER THE INPUT: true; the input reads as it did. -/
def storePlaysSpec : ChangeSpec := { name := "storePlays", fn := fun _ => fun
  | [d1, d2] => { results := [.lit (.bool true)], args := [d1, d2] }
  | _ => none }
def storePlaysRow : OpenClaim := { program := "ytpdfcgkeclocoaa", sum := "86cc58bc67bff19551e8503dfc39a7ef623cf810bd9efb9df06ed21b5ef214c8", func := "fountain/fountainlaw16.StorePlays", spec := "storePlays", inPlace := ["slices.overlaps[fountain/api.Record]"], unfollowed := true, recurses := true, plainKeys := false, apart := false }
def StorePlaysSaid : Prop := storePlaysRow.holds Try.pinned (OpenSpec.ofChange storePlaysSpec)

/-- ITS FALSE NEIGHBOUR: 'it returns false'. Refute it at one input. -/
def storePlaysWrong : ChangeSpec := { name := "storePlays", fn := fun _ => fun
  | [d1, d2] => { results := [.lit (.bool false)], args := [d1, d2] }
  | _ => none }
def StorePlaysWrongFalsely : Prop := storePlaysRow.holds Try.pinned (OpenSpec.ofChange storePlaysWrong)

/-- 'fountainlaw19.TableNear': WHATEVER THE INPUT: true; the input reads as it did. -/
def tableNearSpec : ChangeSpec := { name := "tableNear", fn := fun _ => fun
  | [d1, d2, d3, d4] => { results := [.lit (.bool true)], args := [d1, d2, d3, d4] }
  | _ => none }
def tableNearRow : OpenClaim := { program := "ytpdfcgkeclocoaa", sum := "86cc58bc67bff19551e8503dfc39a7ef623cf810bd9efb9df06ed21b5ef214c8", func := "fountain/fountainlaw19.TableNear", spec := "tableNear", unfollowed := true, recurses := true, plainKeys := false, apart := false }
def TableNearSaid : Prop := tableNearRow.holds Try.pinned (OpenSpec.ofChange tableNearSpec)

/-- ITS FALSE NEIGHBOUR: 'it returns false'. Refute it at one input. -/
def tableNearWrong : ChangeSpec := { name := "tableNear", fn := fun _ => fun
  | [d1, d2, d3, d4] => { results := [.lit (.bool false)], args := [d1, d2, d3, d4] }
  | _ => none }
def TableNearWrongFalsely : Prop := tableNearRow.holds Try.pinned (OpenSpec.ofChange tableNearWrong)

/-- 'fountainlaw19.TablePlays': WHATEVER THE INPUT: true; the input reads as it did. -/
def tablePlaysSpec : ChangeSpec := { name := "tablePlays", fn := fun _ => fun
  | [d1, d2, d3, d4] => { results := [.lit (.bool true)], args := [d1, d2, d3, d4] }
  | _ => none }
def tablePlaysRow : OpenClaim := { program := "ytpdfcgkeclocoaa", sum := "86cc58bc67bff19551e8503dfc39a7ef623cf810bd9efb9df06ed21b5ef214c8", func := "fountain/fountainlaw19.TablePlays", spec := "tablePlays", unfollowed := true, recurses := true, plainKeys := false, apart := false }
def TablePlaysSaid : Prop := tablePlaysRow.holds Try.pinned (OpenSpec.ofChange tablePlaysSpec)

/-- ITS FALSE NEIGHBOUR: 'it returns false'. Refute it at one input. -/
def tablePlaysWrong : ChangeSpec := { name := "tablePlays", fn := fun _ => fun
  | [d1, d2, d3, d4] => { results := [.lit (.bool false)], args := [d1, d2, d3, d4] }
  | _ => none }
def TablePlaysWrongFalsely : Prop := tablePlaysRow.holds Try.pinned (OpenSpec.ofChange tablePlaysWrong)

/- THE SECOND FORM. 'bulk': how many values and letters a reading holds, each counted each time it is reached (what is shared counts as often as it is met; a slice's spare places count too). A statement '..UptoSaid' is the law's where the arguments, and the package variables that the reading takes, are together of bulk at most 1048576: NARROWER than '..Said'. Prove '..Said' where nothing that the law and all that it calls make is longer than what came in: it says more and counts as full. Else prove '..UptoSaid'. A law counts once. -/
mutual
def uptoBulk {H : Type} : DataW H → Nat
  | .lit (.string bytes) => bytes.length + 1
  | .lit _ => 1
  | .nil => 1
  | .ptr d => uptoBulk d + 1
  | .slice elems spare => uptoBulkAll elems + uptoBulkAll spare + 1
  | .agg parts => uptoBulkAll parts + 1
  | .iface _ d => uptoBulk d + 1
  | .map entries => uptoBulkEntries entries + 1
  | .held _ => 1
def uptoBulkAll {H : Type} : List (DataW H) → Nat
  | [] => 0
  | d :: r => uptoBulk d + uptoBulkAll r
def uptoBulkEntries {H : Type} : List (Lit × DataW H) → Nat
  | [] => 0
  | x :: r => uptoBulkEntry x + uptoBulkEntries r
def uptoBulkEntry {H : Type} : Lit × DataW H → Nat
  | (.string bytes, d) => bytes.length + uptoBulk d + 1
  | (_, d) => uptoBulk d + 1
 end
def uptoSmall : (H : Type) → List (DataW H) → Bool := fun _ ds => decide (uptoBulkAll ds ≤ 1048576)
def OpenSpec.upto (s : _root_.Go.ChangeSpec) : _root_.Go.OpenSpec := { _root_.Go.OpenSpec.ofChange s with cond := some uptoSmall }

/-- 'fountainlaw19.TableSelf', WHERE WHAT IT READS IS OF BULK AT MOST 1048576: true; the input reads as it did. -/
def tableSelfUptoRow : OpenClaim := { program := "ytpdfcgkeclocoaa", sum := "86cc58bc67bff19551e8503dfc39a7ef623cf810bd9efb9df06ed21b5ef214c8", func := "fountain/fountainlaw19.TableSelf", spec := "tableSelf", unfollowed := true, recurses := true, plainKeys := false, apart := false, narrowed := true }
def TableSelfUptoSaid : Prop := tableSelfUptoRow.holds Try.pinned (OpenSpec.upto tableSelfSpec)

/-- 'fountainlaw13.ObjectDecodes', WHERE WHAT IT READS IS OF BULK AT MOST 1048576: true; the input reads as it did. -/
def objectDecodesUptoRow : OpenClaim := { program := "ytpdfcgkeclocoaa", sum := "86cc58bc67bff19551e8503dfc39a7ef623cf810bd9efb9df06ed21b5ef214c8", func := "fountain/fountainlaw13.ObjectDecodes", spec := "objectDecodes", unfollowed := true, recurses := true, plainKeys := false, apart := false, narrowed := true }
def ObjectDecodesUptoSaid : Prop := objectDecodesUptoRow.holds Try.pinned (OpenSpec.upto objectDecodesSpec)

/-- 'fountainlaw13.ObjectBack', WHERE WHAT IT READS IS OF BULK AT MOST 1048576: true; the input reads as it did. -/
def objectBackUptoRow : OpenClaim := { program := "ytpdfcgkeclocoaa", sum := "86cc58bc67bff19551e8503dfc39a7ef623cf810bd9efb9df06ed21b5ef214c8", func := "fountain/fountainlaw13.ObjectBack", spec := "objectBack", unfollowed := true, recurses := true, plainKeys := false, apart := false, narrowed := true }
def ObjectBackUptoSaid : Prop := objectBackUptoRow.holds Try.pinned (OpenSpec.upto objectBackSpec)

/-- 'fountainlaw13.ObjectRecords', WHERE WHAT IT READS IS OF BULK AT MOST 1048576: true; the input reads as it did. -/
def objectRecordsUptoRow : OpenClaim := { program := "ytpdfcgkeclocoaa", sum := "86cc58bc67bff19551e8503dfc39a7ef623cf810bd9efb9df06ed21b5ef214c8", func := "fountain/fountainlaw13.ObjectRecords", spec := "objectRecords", unfollowed := true, recurses := true, plainKeys := false, apart := false, narrowed := true }
def ObjectRecordsUptoSaid : Prop := objectRecordsUptoRow.holds Try.pinned (OpenSpec.upto objectRecordsSpec)

/-- 'fountainlaw24.MintBeyond', WHERE WHAT IT READS IS OF BULK AT MOST 1048576: true; the input reads as it did. -/
def mintBeyondUptoRow : OpenClaim := { program := "ytpdfcgkeclocoaa", sum := "86cc58bc67bff19551e8503dfc39a7ef623cf810bd9efb9df06ed21b5ef214c8", func := "fountain/fountainlaw24.MintBeyond", spec := "mintBeyond", unfollowed := true, recurses := true, plainKeys := false, apart := false, narrowed := true }
def MintBeyondUptoSaid : Prop := mintBeyondUptoRow.holds Try.pinned (OpenSpec.upto mintBeyondSpec)

/-- 'fountainlaw16.StoreCrashes', WHERE WHAT IT READS IS OF BULK AT MOST 1048576: true; the input reads as it did. -/
def storeCrashesUptoRow : OpenClaim := { program := "ytpdfcgkeclocoaa", sum := "86cc58bc67bff19551e8503dfc39a7ef623cf810bd9efb9df06ed21b5ef214c8", func := "fountain/fountainlaw16.StoreCrashes", spec := "storeCrashes", inPlace := ["slices.overlaps[fountain/api.Record]"], unfollowed := true, recurses := true, plainKeys := false, apart := false, narrowed := true }
def StoreCrashesUptoSaid : Prop := storeCrashesUptoRow.holds Try.pinned (OpenSpec.upto storeCrashesSpec)

/-- 'fountainlaw16.StorePlays', WHERE WHAT IT READS IS OF BULK AT MOST 1048576: true; the input reads as it did. -/
def storePlaysUptoRow : OpenClaim := { program := "ytpdfcgkeclocoaa", sum := "86cc58bc67bff19551e8503dfc39a7ef623cf810bd9efb9df06ed21b5ef214c8", func := "fountain/fountainlaw16.StorePlays", spec := "storePlays", inPlace := ["slices.overlaps[fountain/api.Record]"], unfollowed := true, recurses := true, plainKeys := false, apart := false, narrowed := true }
def StorePlaysUptoSaid : Prop := storePlaysUptoRow.holds Try.pinned (OpenSpec.upto storePlaysSpec)

/-- 'fountainlaw19.TableNear', WHERE WHAT IT READS IS OF BULK AT MOST 1048576: true; the input reads as it did. -/
def tableNearUptoRow : OpenClaim := { program := "ytpdfcgkeclocoaa", sum := "86cc58bc67bff19551e8503dfc39a7ef623cf810bd9efb9df06ed21b5ef214c8", func := "fountain/fountainlaw19.TableNear", spec := "tableNear", unfollowed := true, recurses := true, plainKeys := false, apart := false, narrowed := true }
def TableNearUptoSaid : Prop := tableNearUptoRow.holds Try.pinned (OpenSpec.upto tableNearSpec)

/-- 'fountainlaw19.TablePlays', WHERE WHAT IT READS IS OF BULK AT MOST 1048576: true; the input reads as it did. -/
def tablePlaysUptoRow : OpenClaim := { program := "ytpdfcgkeclocoaa", sum := "86cc58bc67bff19551e8503dfc39a7ef623cf810bd9efb9df06ed21b5ef214c8", func := "fountain/fountainlaw19.TablePlays", spec := "tablePlays", unfollowed := true, recurses := true, plainKeys := false, apart := false, narrowed := true }
def TablePlaysUptoSaid : Prop := tablePlaysUptoRow.holds Try.pinned (OpenSpec.upto tablePlaysSpec)

end Rows
end Go.Proofs.Ytpdfcgkeclocoaa
