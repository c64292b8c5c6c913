/-
  No cell of these rows narrows 'for every input' (looked for: loops, veiled, ifaces, maps, wideKeys, modest, calm, conditions, laid).
  DERIVED. THE GIVEN ROWS OF THIS SEAT. 7 by the template 'for every input the law returns true; each argument reads behind the call as it read before'; 0 by the template 'total and deterministic' (their statements: YtjlenocmfeggdaaTotals.lean).
  GIVEN WITH THE SEED: the statements are not yours to turn. If you find one false, say at which input.
  Laid BY PROGRAM, IN A SANDBOX (cutbox-rows.mjs): the forced cells as the released guide's own fill.sh prints them over the translation f70e64d14bc0abae… (all of the seat's roots in one cut). By AI agents, Wed Nov 11 2026. No macro, syntax, notation, axiom, sorry.
-/
import Derived.Test.YtjlenocmfeggdaaChecked
import GoSem.Claim
import GoSem.ClaimJoined
import GoSem.ClaimMapViews
import Derived.JoinedTies
import Derived.KernelRfl
namespace Go.Proofs.Ytjlenocmfeggdaa
/- THE CELL 'sum', in the pinned program and in every row, IS THE sha256 OF THE DUMP (.gsa) THAT YtjlenocmfeggdaaProg.lean LOADS. Nothing in Lean hashes anything: it is a label: what it is worth is what the hold of that sum in a sandbox is worth. -/
noncomputable def Try.pinned : Pinned := { name := "ytjlenocmfeggdaa", sum := "f70e64d14bc0abae6483c96732665434fb130cad240fda2827e9850c93f0ccac", checked := Try.checked }
namespace Rows
def none {H : Type} : Left H := { results := [], args := [] }

/-- 'embrasurelaw08.DevBack': WHATEVER THE INPUT: true; the input reads as it did. -/
def devBackSpec : ChangeSpec := { name := "devBack", fn := fun _ => fun
  | [d1, d2, d3] => { results := [.lit (.bool true)], args := [d1, d2, d3] }
  | _ => none }
def devBackRow : OpenClaim := { program := "ytjlenocmfeggdaa", sum := "f70e64d14bc0abae6483c96732665434fb130cad240fda2827e9850c93f0ccac", func := "embrasure/embrasurelaw08.DevBack", spec := "devBack", unfollowed := true, recurses := true, apart := false }
def DevBackSaid : Prop := devBackRow.holds Try.pinned (OpenSpec.ofChange devBackSpec)

/-- ITS FALSE NEIGHBOUR: 'it returns false'. Refute it at one input. -/
def devBackWrong : ChangeSpec := { name := "devBack", fn := fun _ => fun
  | [d1, d2, d3] => { results := [.lit (.bool false)], args := [d1, d2, d3] }
  | _ => none }
def DevBackWrongFalsely : Prop := devBackRow.holds Try.pinned (OpenSpec.ofChange devBackWrong)

/-- 'embrasurelaw08.DevRises': WHATEVER THE INPUT: true; the input reads as it did. -/
def devRisesSpec : ChangeSpec := { name := "devRises", fn := fun _ => fun
  | [d1, d2] => { results := [.lit (.bool true)], args := [d1, d2] }
  | _ => none }
def devRisesRow : OpenClaim := { program := "ytjlenocmfeggdaa", sum := "f70e64d14bc0abae6483c96732665434fb130cad240fda2827e9850c93f0ccac", func := "embrasure/embrasurelaw08.DevRises", spec := "devRises", unfollowed := true, recurses := true, apart := false }
def DevRisesSaid : Prop := devRisesRow.holds Try.pinned (OpenSpec.ofChange devRisesSpec)

/-- ITS FALSE NEIGHBOUR: 'it returns false'. Refute it at one input. -/
def devRisesWrong : ChangeSpec := { name := "devRises", fn := fun _ => fun
  | [d1, d2] => { results := [.lit (.bool false)], args := [d1, d2] }
  | _ => none }
def DevRisesWrongFalsely : Prop := devRisesRow.holds Try.pinned (OpenSpec.ofChange devRisesWrong)

/-- 'embrasurelaw08.DevCancels': WHATEVER THE INPUT: true; the input reads as it did. -/
def devCancelsSpec : ChangeSpec := { name := "devCancels", fn := fun _ => fun
  | [d1, d2] => { results := [.lit (.bool true)], args := [d1, d2] }
  | _ => none }
def devCancelsRow : OpenClaim := { program := "ytjlenocmfeggdaa", sum := "f70e64d14bc0abae6483c96732665434fb130cad240fda2827e9850c93f0ccac", func := "embrasure/embrasurelaw08.DevCancels", spec := "devCancels", unfollowed := true, recurses := true, apart := false }
def DevCancelsSaid : Prop := devCancelsRow.holds Try.pinned (OpenSpec.ofChange devCancelsSpec)

/-- ITS FALSE NEIGHBOUR: 'it returns false'. Refute it at one input. -/
def devCancelsWrong : ChangeSpec := { name := "devCancels", fn := fun _ => fun
  | [d1, d2] => { results := [.lit (.bool false)], args := [d1, d2] }
  | _ => none }
def DevCancelsWrongFalsely : Prop := devCancelsRow.holds Try.pinned (OpenSpec.ofChange devCancelsWrong)

/-- 'embrasuretop.TopPaged': WHATEVER THE INPUT: true; the input reads as it did. -/
def topPagedSpec : ChangeSpec := { name := "topPaged", fn := fun _ => fun
  | [d1, d2] => { results := [.lit (.bool true)], args := [d1, d2] }
  | _ => none }
def topPagedRow : OpenClaim := { program := "ytjlenocmfeggdaa", sum := "f70e64d14bc0abae6483c96732665434fb130cad240fda2827e9850c93f0ccac", func := "embrasure/embrasuretop.TopPaged", spec := "topPaged", unfollowed := true, recurses := true, apart := false }
def TopPagedSaid : Prop := topPagedRow.holds Try.pinned (OpenSpec.ofChange topPagedSpec)

/-- ITS FALSE NEIGHBOUR: 'it returns false'. Refute it at one input. -/
def topPagedWrong : ChangeSpec := { name := "topPaged", fn := fun _ => fun
  | [d1, d2] => { results := [.lit (.bool false)], args := [d1, d2] }
  | _ => none }
def TopPagedWrongFalsely : Prop := topPagedRow.holds Try.pinned (OpenSpec.ofChange topPagedWrong)

/-- 'embrasurelaw08.DevPlays': WHATEVER THE INPUT: true; the input reads as it did. -/
def devPlaysSpec : ChangeSpec := { name := "devPlays", fn := fun _ => fun
  | [d] => { results := [.lit (.bool true)], args := [d] }
  | _ => none }
def devPlaysRow : OpenClaim := { program := "ytjlenocmfeggdaa", sum := "f70e64d14bc0abae6483c96732665434fb130cad240fda2827e9850c93f0ccac", func := "embrasure/embrasurelaw08.DevPlays", spec := "devPlays", unfollowed := true, recurses := true, apart := false }
def DevPlaysSaid : Prop := devPlaysRow.holds Try.pinned (OpenSpec.ofChange devPlaysSpec)

/-- ITS FALSE NEIGHBOUR: 'it returns false'. Refute it at one input. -/
def devPlaysWrong : ChangeSpec := { name := "devPlays", fn := fun _ => fun
  | [d] => { results := [.lit (.bool false)], args := [d] }
  | _ => none }
def DevPlaysWrongFalsely : Prop := devPlaysRow.holds Try.pinned (OpenSpec.ofChange devPlaysWrong)

/-- 'embrasurelaw08.DevNone': WHATEVER THE INPUT: true; the input reads as it did. -/
def devNoneSpec : ChangeSpec := { name := "devNone", fn := fun _ => fun
  | [d1, d2] => { results := [.lit (.bool true)], args := [d1, d2] }
  | _ => none }
def devNoneRow : OpenClaim := { program := "ytjlenocmfeggdaa", sum := "f70e64d14bc0abae6483c96732665434fb130cad240fda2827e9850c93f0ccac", func := "embrasure/embrasurelaw08.DevNone", spec := "devNone", unfollowed := true, recurses := true, apart := false }
def DevNoneSaid : Prop := devNoneRow.holds Try.pinned (OpenSpec.ofChange devNoneSpec)

/-- ITS FALSE NEIGHBOUR: 'it returns false'. Refute it at one input. -/
def devNoneWrong : ChangeSpec := { name := "devNone", fn := fun _ => fun
  | [d1, d2] => { results := [.lit (.bool false)], args := [d1, d2] }
  | _ => none }
def DevNoneWrongFalsely : Prop := devNoneRow.holds Try.pinned (OpenSpec.ofChange devNoneWrong)

/-- 'embrasurelaw08.DevForks': WHATEVER THE INPUT: true; the input reads as it did. -/
def devForksSpec : ChangeSpec := { name := "devForks", fn := fun _ => fun
  | [d1, d2] => { results := [.lit (.bool true)], args := [d1, d2] }
  | _ => none }
def devForksRow : OpenClaim := { program := "ytjlenocmfeggdaa", sum := "f70e64d14bc0abae6483c96732665434fb130cad240fda2827e9850c93f0ccac", func := "embrasure/embrasurelaw08.DevForks", spec := "devForks", unfollowed := true, recurses := true, apart := false }
def DevForksSaid : Prop := devForksRow.holds Try.pinned (OpenSpec.ofChange devForksSpec)

/-- ITS FALSE NEIGHBOUR: 'it returns false'. Refute it at one input. -/
def devForksWrong : ChangeSpec := { name := "devForks", fn := fun _ => fun
  | [d1, d2] => { results := [.lit (.bool false)], args := [d1, d2] }
  | _ => none }
def DevForksWrongFalsely : Prop := devForksRow.holds Try.pinned (OpenSpec.ofChange devForksWrong)

/- THE SECOND FORM. 'bulk': how many values and letters a reading holds, each counted each time it is reached (what is shared counts as often as it is met; a slice's spare places count too). A statement '..UptoSaid' is the law's where the arguments, and the package variables that the reading takes, are together of bulk at most 1048576: NARROWER than '..Said'. Prove '..Said' where nothing that the law and all that it calls make is longer than what came in: it says more and counts as full. Else prove '..UptoSaid'. A law counts once. -/
mutual
def uptoBulk {H : Type} : DataW H → Nat
  | .lit (.string bytes) => bytes.length + 1
  | .lit _ => 1
  | .nil => 1
  | .ptr d => uptoBulk d + 1
  | .slice elems spare => uptoBulkAll elems + uptoBulkAll spare + 1
  | .agg parts => uptoBulkAll parts + 1
  | .iface _ d => uptoBulk d + 1
  | .map entries => uptoBulkEntries entries + 1
  | .held _ => 1
def uptoBulkAll {H : Type} : List (DataW H) → Nat
  | [] => 0
  | d :: r => uptoBulk d + uptoBulkAll r
def uptoBulkEntries {H : Type} : List (Lit × DataW H) → Nat
  | [] => 0
  | x :: r => uptoBulkEntry x + uptoBulkEntries r
def uptoBulkEntry {H : Type} : Lit × DataW H → Nat
  | (.string bytes, d) => bytes.length + uptoBulk d + 1
  | (_, d) => uptoBulk d + 1
 end
def uptoSmall : (H : Type) → List (DataW H) → Bool := fun _ ds => decide (uptoBulkAll ds ≤ 1048576)
def OpenSpec.upto (s : _root_.Go.ChangeSpec) : _root_.Go.OpenSpec := { _root_.Go.OpenSpec.ofChange s with cond := some uptoSmall }

/-- 'embrasurelaw08.DevBack', WHERE WHAT IT READS IS OF BULK AT MOST 1048576: true; the input reads as it did. -/
def devBackUptoRow : OpenClaim := { program := "ytjlenocmfeggdaa", sum := "f70e64d14bc0abae6483c96732665434fb130cad240fda2827e9850c93f0ccac", func := "embrasure/embrasurelaw08.DevBack", spec := "devBack", unfollowed := true, recurses := true, apart := false, narrowed := true }
def DevBackUptoSaid : Prop := devBackUptoRow.holds Try.pinned (OpenSpec.upto devBackSpec)

/-- 'embrasurelaw08.DevRises', WHERE WHAT IT READS IS OF BULK AT MOST 1048576: true; the input reads as it did. -/
def devRisesUptoRow : OpenClaim := { program := "ytjlenocmfeggdaa", sum := "f70e64d14bc0abae6483c96732665434fb130cad240fda2827e9850c93f0ccac", func := "embrasure/embrasurelaw08.DevRises", spec := "devRises", unfollowed := true, recurses := true, apart := false, narrowed := true }
def DevRisesUptoSaid : Prop := devRisesUptoRow.holds Try.pinned (OpenSpec.upto devRisesSpec)

/-- 'embrasurelaw08.DevCancels', WHERE WHAT IT READS IS OF BULK AT MOST 1048576: true; the input reads as it did. -/
def devCancelsUptoRow : OpenClaim := { program := "ytjlenocmfeggdaa", sum := "f70e64d14bc0abae6483c96732665434fb130cad240fda2827e9850c93f0ccac", func := "embrasure/embrasurelaw08.DevCancels", spec := "devCancels", unfollowed := true, recurses := true, apart := false, narrowed := true }
def DevCancelsUptoSaid : Prop := devCancelsUptoRow.holds Try.pinned (OpenSpec.upto devCancelsSpec)

/-- 'embrasuretop.TopPaged', WHERE WHAT IT READS IS OF BULK AT MOST 1048576: true; the input reads as it did. -/
def topPagedUptoRow : OpenClaim := { program := "ytjlenocmfeggdaa", sum := "f70e64d14bc0abae6483c96732665434fb130cad240fda2827e9850c93f0ccac", func := "embrasure/embrasuretop.TopPaged", spec := "topPaged", unfollowed := true, recurses := true, apart := false, narrowed := true }
def TopPagedUptoSaid : Prop := topPagedUptoRow.holds Try.pinned (OpenSpec.upto topPagedSpec)

/-- 'embrasurelaw08.DevPlays', WHERE WHAT IT READS IS OF BULK AT MOST 1048576: true; the input reads as it did. -/
def devPlaysUptoRow : OpenClaim := { program := "ytjlenocmfeggdaa", sum := "f70e64d14bc0abae6483c96732665434fb130cad240fda2827e9850c93f0ccac", func := "embrasure/embrasurelaw08.DevPlays", spec := "devPlays", unfollowed := true, recurses := true, apart := false, narrowed := true }
def DevPlaysUptoSaid : Prop := devPlaysUptoRow.holds Try.pinned (OpenSpec.upto devPlaysSpec)

/-- 'embrasurelaw08.DevNone', WHERE WHAT IT READS IS OF BULK AT MOST 1048576: true; the input reads as it did. -/
def devNoneUptoRow : OpenClaim := { program := "ytjlenocmfeggdaa", sum := "f70e64d14bc0abae6483c96732665434fb130cad240fda2827e9850c93f0ccac", func := "embrasure/embrasurelaw08.DevNone", spec := "devNone", unfollowed := true, recurses := true, apart := false, narrowed := true }
def DevNoneUptoSaid : Prop := devNoneUptoRow.holds Try.pinned (OpenSpec.upto devNoneSpec)

/-- 'embrasurelaw08.DevForks', WHERE WHAT IT READS IS OF BULK AT MOST 1048576: true; the input reads as it did. -/
def devForksUptoRow : OpenClaim := { program := "ytjlenocmfeggdaa", sum := "f70e64d14bc0abae6483c96732665434fb130cad240fda2827e9850c93f0ccac", func := "embrasure/embrasurelaw08.DevForks", spec := "devForks", unfollowed := true, recurses := true, apart := false, narrowed := true }
def DevForksUptoSaid : Prop := devForksUptoRow.holds Try.pinned (OpenSpec.upto devForksSpec)

end Rows
end Go.Proofs.Ytjlenocmfeggdaa
