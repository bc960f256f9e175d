/-
  No cell of these rows narrows 'for every input' (looked for: loops, veiled, ifaces, maps, wideKeys, modest, calm, conditions, laid).
  DERIVED. THE GIVEN ROWS OF THIS SEAT. 13 by the template 'for every input the law returns true; each argument reads behind the call as it read before'; 0 by the template 'total and deterministic' (their statements: YtkfhljggdcajpaaTotals.lean).
  GIVEN WITH THE SEED: the statements are not yours to turn. If you find one false, say at which input.
  Laid BY PROGRAM, IN A SANDBOX (cutbox-rows.mjs): the forced cells as the released guide's own fill.sh prints them over the translation 8867f9059e534b24… (all of the seat's roots in one cut). By AI agents, Wed Nov 11 2026. No macro, syntax, notation, axiom, sorry.
-/
import Derived.Test.YtkfhljggdcajpaaChecked
import GoSem.Claim
import GoSem.ClaimJoined
import GoSem.ClaimMapViews
import Derived.JoinedTies
import Derived.KernelRfl
namespace Go.Proofs.Ytkfhljggdcajpaa
/- THE CELL 'sum', in the pinned program and in every row, IS THE sha256 OF THE DUMP (.gsa) THAT YtkfhljggdcajpaaProg.lean LOADS. Nothing in Lean hashes anything: it is a label: what it is worth is what the hold of that sum in a sandbox is worth. -/
noncomputable def Try.pinned : Pinned := { name := "ytkfhljggdcajpaa", sum := "8867f9059e534b24317a5f37ab59a19b4188f49fe086153d9936e46f3f23efd3", checked := Try.checked }
namespace Rows
def none {H : Type} : Left H := { results := [], args := [] }

/-- 'satchellaw01.FieldOrder': WHATEVER THE INPUT: true; the input reads as it did. -/
def fieldOrderSpec : ChangeSpec := { name := "fieldOrder", fn := fun _ => fun
  | [d1, d2] => { results := [.lit (.bool true)], args := [d1, d2] }
  | _ => none }
def fieldOrderRow : OpenClaim := { program := "ytkfhljggdcajpaa", sum := "8867f9059e534b24317a5f37ab59a19b4188f49fe086153d9936e46f3f23efd3", func := "satchel/satchellaw01.FieldOrder", spec := "fieldOrder", unfollowed := true, recurses := true, apart := false }
def FieldOrderSaid : Prop := fieldOrderRow.holds Try.pinned (OpenSpec.ofChange fieldOrderSpec)

/-- ITS FALSE NEIGHBOUR: 'it returns false'. Refute it at one input. -/
def fieldOrderWrong : ChangeSpec := { name := "fieldOrder", fn := fun _ => fun
  | [d1, d2] => { results := [.lit (.bool false)], args := [d1, d2] }
  | _ => none }
def FieldOrderWrongFalsely : Prop := fieldOrderRow.holds Try.pinned (OpenSpec.ofChange fieldOrderWrong)

/-- 'satchellaw01.FieldWrites': WHATEVER THE INPUT: true; the input reads as it did. -/
def fieldWritesSpec : ChangeSpec := { name := "fieldWrites", fn := fun _ => fun
  | [d] => { results := [.lit (.bool true)], args := [d] }
  | _ => none }
def fieldWritesRow : OpenClaim := { program := "ytkfhljggdcajpaa", sum := "8867f9059e534b24317a5f37ab59a19b4188f49fe086153d9936e46f3f23efd3", func := "satchel/satchellaw01.FieldWrites", spec := "fieldWrites", unfollowed := true, recurses := true, apart := false }
def FieldWritesSaid : Prop := fieldWritesRow.holds Try.pinned (OpenSpec.ofChange fieldWritesSpec)

/-- ITS FALSE NEIGHBOUR: 'it returns false'. Refute it at one input. -/
def fieldWritesWrong : ChangeSpec := { name := "fieldWrites", fn := fun _ => fun
  | [d] => { results := [.lit (.bool false)], args := [d] }
  | _ => none }
def FieldWritesWrongFalsely : Prop := fieldWritesRow.holds Try.pinned (OpenSpec.ofChange fieldWritesWrong)

/-- 'satchellaw01.FieldCut': WHATEVER THE INPUT: true; the input reads as it did. -/
def fieldCutSpec : ChangeSpec := { name := "fieldCut", fn := fun _ => fun
  | [d1, d2, d3] => { results := [.lit (.bool true)], args := [d1, d2, d3] }
  | _ => none }
def fieldCutRow : OpenClaim := { program := "ytkfhljggdcajpaa", sum := "8867f9059e534b24317a5f37ab59a19b4188f49fe086153d9936e46f3f23efd3", func := "satchel/satchellaw01.FieldCut", spec := "fieldCut", unfollowed := true, recurses := true, apart := false }
def FieldCutSaid : Prop := fieldCutRow.holds Try.pinned (OpenSpec.ofChange fieldCutSpec)

/-- ITS FALSE NEIGHBOUR: 'it returns false'. Refute it at one input. -/
def fieldCutWrong : ChangeSpec := { name := "fieldCut", fn := fun _ => fun
  | [d1, d2, d3] => { results := [.lit (.bool false)], args := [d1, d2, d3] }
  | _ => none }
def FieldCutWrongFalsely : Prop := fieldCutRow.holds Try.pinned (OpenSpec.ofChange fieldCutWrong)

/-- 'satchellaw01.FieldKnown': WHATEVER THE INPUT: true; the input reads as it did. -/
def fieldKnownSpec : ChangeSpec := { name := "fieldKnown", fn := fun _ => fun
  | [] => { results := [.lit (.bool true)], args := [] }
  | _ => none }
def fieldKnownRow : OpenClaim := { program := "ytkfhljggdcajpaa", sum := "8867f9059e534b24317a5f37ab59a19b4188f49fe086153d9936e46f3f23efd3", func := "satchel/satchellaw01.FieldKnown", spec := "fieldKnown", unfollowed := true, recurses := true, apart := false }
def FieldKnownSaid : Prop := fieldKnownRow.holds Try.pinned (OpenSpec.ofChange fieldKnownSpec)

/-- ITS FALSE NEIGHBOUR: 'it returns false'. Refute it at one input. -/
def fieldKnownWrong : ChangeSpec := { name := "fieldKnown", fn := fun _ => fun
  | [] => { results := [.lit (.bool false)], args := [] }
  | _ => none }
def FieldKnownWrongFalsely : Prop := fieldKnownRow.holds Try.pinned (OpenSpec.ofChange fieldKnownWrong)

/-- 'satchellaw01.FieldNone': WHATEVER THE INPUT: true; the input reads as it did. -/
def fieldNoneSpec : ChangeSpec := { name := "fieldNone", fn := fun _ => fun
  | [d1, d2] => { results := [.lit (.bool true)], args := [d1, d2] }
  | _ => none }
def fieldNoneRow : OpenClaim := { program := "ytkfhljggdcajpaa", sum := "8867f9059e534b24317a5f37ab59a19b4188f49fe086153d9936e46f3f23efd3", func := "satchel/satchellaw01.FieldNone", spec := "fieldNone", unfollowed := true, recurses := true, apart := false }
def FieldNoneSaid : Prop := fieldNoneRow.holds Try.pinned (OpenSpec.ofChange fieldNoneSpec)

/-- ITS FALSE NEIGHBOUR: 'it returns false'. Refute it at one input. -/
def fieldNoneWrong : ChangeSpec := { name := "fieldNone", fn := fun _ => fun
  | [d1, d2] => { results := [.lit (.bool false)], args := [d1, d2] }
  | _ => none }
def FieldNoneWrongFalsely : Prop := fieldNoneRow.holds Try.pinned (OpenSpec.ofChange fieldNoneWrong)

/-- 'satchellaw10.NoteWrites': WHATEVER THE INPUT: true; the input reads as it did. -/
def noteWritesSpec : ChangeSpec := { name := "noteWrites", fn := fun _ => fun
  | [d] => { results := [.lit (.bool true)], args := [d] }
  | _ => none }
def noteWritesRow : OpenClaim := { program := "ytkfhljggdcajpaa", sum := "8867f9059e534b24317a5f37ab59a19b4188f49fe086153d9936e46f3f23efd3", func := "satchel/satchellaw10.NoteWrites", spec := "noteWrites", unfollowed := true, recurses := true, apart := false }
def NoteWritesSaid : Prop := noteWritesRow.holds Try.pinned (OpenSpec.ofChange noteWritesSpec)

/-- ITS FALSE NEIGHBOUR: 'it returns false'. Refute it at one input. -/
def noteWritesWrong : ChangeSpec := { name := "noteWrites", fn := fun _ => fun
  | [d] => { results := [.lit (.bool false)], args := [d] }
  | _ => none }
def NoteWritesWrongFalsely : Prop := noteWritesRow.holds Try.pinned (OpenSpec.ofChange noteWritesWrong)

/-- 'satchellaw10.NoteReads': WHATEVER THE INPUT: true; the input reads as it did. -/
def noteReadsSpec : ChangeSpec := { name := "noteReads", fn := fun _ => fun
  | [d] => { results := [.lit (.bool true)], args := [d] }
  | _ => none }
def noteReadsRow : OpenClaim := { program := "ytkfhljggdcajpaa", sum := "8867f9059e534b24317a5f37ab59a19b4188f49fe086153d9936e46f3f23efd3", func := "satchel/satchellaw10.NoteReads", spec := "noteReads", unfollowed := true, recurses := true, apart := false }
def NoteReadsSaid : Prop := noteReadsRow.holds Try.pinned (OpenSpec.ofChange noteReadsSpec)

/-- ITS FALSE NEIGHBOUR: 'it returns false'. Refute it at one input. -/
def noteReadsWrong : ChangeSpec := { name := "noteReads", fn := fun _ => fun
  | [d] => { results := [.lit (.bool false)], args := [d] }
  | _ => none }
def NoteReadsWrongFalsely : Prop := noteReadsRow.holds Try.pinned (OpenSpec.ofChange noteReadsWrong)

/-- 'satchellaw10.NoteBack': WHATEVER THE INPUT: true; the input reads as it did. -/
def noteBackSpec : ChangeSpec := { name := "noteBack", fn := fun _ => fun
  | [d1, d2] => { results := [.lit (.bool true)], args := [d1, d2] }
  | _ => none }
def noteBackRow : OpenClaim := { program := "ytkfhljggdcajpaa", sum := "8867f9059e534b24317a5f37ab59a19b4188f49fe086153d9936e46f3f23efd3", func := "satchel/satchellaw10.NoteBack", spec := "noteBack", unfollowed := true, recurses := true, apart := false }
def NoteBackSaid : Prop := noteBackRow.holds Try.pinned (OpenSpec.ofChange noteBackSpec)

/-- ITS FALSE NEIGHBOUR: 'it returns false'. Refute it at one input. -/
def noteBackWrong : ChangeSpec := { name := "noteBack", fn := fun _ => fun
  | [d1, d2] => { results := [.lit (.bool false)], args := [d1, d2] }
  | _ => none }
def NoteBackWrongFalsely : Prop := noteBackRow.holds Try.pinned (OpenSpec.ofChange noteBackWrong)

/-- 'satchellaw10.NoteCut': WHATEVER THE INPUT: true; the input reads as it did. -/
def noteCutSpec : ChangeSpec := { name := "noteCut", fn := fun _ => fun
  | [d1, d2, d3] => { results := [.lit (.bool true)], args := [d1, d2, d3] }
  | _ => none }
def noteCutRow : OpenClaim := { program := "ytkfhljggdcajpaa", sum := "8867f9059e534b24317a5f37ab59a19b4188f49fe086153d9936e46f3f23efd3", func := "satchel/satchellaw10.NoteCut", spec := "noteCut", unfollowed := true, recurses := true, apart := false }
def NoteCutSaid : Prop := noteCutRow.holds Try.pinned (OpenSpec.ofChange noteCutSpec)

/-- ITS FALSE NEIGHBOUR: 'it returns false'. Refute it at one input. -/
def noteCutWrong : ChangeSpec := { name := "noteCut", fn := fun _ => fun
  | [d1, d2, d3] => { results := [.lit (.bool false)], args := [d1, d2, d3] }
  | _ => none }
def NoteCutWrongFalsely : Prop := noteCutRow.holds Try.pinned (OpenSpec.ofChange noteCutWrong)

/-- 'satchellaw10.NoteShapes': WHATEVER THE INPUT: true; the input reads as it did. -/
def noteShapesSpec : ChangeSpec := { name := "noteShapes", fn := fun _ => fun
  | [d1, d2] => { results := [.lit (.bool true)], args := [d1, d2] }
  | _ => none }
def noteShapesRow : OpenClaim := { program := "ytkfhljggdcajpaa", sum := "8867f9059e534b24317a5f37ab59a19b4188f49fe086153d9936e46f3f23efd3", func := "satchel/satchellaw10.NoteShapes", spec := "noteShapes", unfollowed := true, recurses := true, apart := false }
def NoteShapesSaid : Prop := noteShapesRow.holds Try.pinned (OpenSpec.ofChange noteShapesSpec)

/-- ITS FALSE NEIGHBOUR: 'it returns false'. Refute it at one input. -/
def noteShapesWrong : ChangeSpec := { name := "noteShapes", fn := fun _ => fun
  | [d1, d2] => { results := [.lit (.bool false)], args := [d1, d2] }
  | _ => none }
def NoteShapesWrongFalsely : Prop := noteShapesRow.holds Try.pinned (OpenSpec.ofChange noteShapesWrong)

/-- 'satchellaw10.NoteKinds': WHATEVER THE INPUT: true; the input reads as it did. -/
def noteKindsSpec : ChangeSpec := { name := "noteKinds", fn := fun _ => fun
  | [d] => { results := [.lit (.bool true)], args := [d] }
  | _ => none }
def noteKindsRow : OpenClaim := { program := "ytkfhljggdcajpaa", sum := "8867f9059e534b24317a5f37ab59a19b4188f49fe086153d9936e46f3f23efd3", func := "satchel/satchellaw10.NoteKinds", spec := "noteKinds", unfollowed := true, recurses := true, apart := false }
def NoteKindsSaid : Prop := noteKindsRow.holds Try.pinned (OpenSpec.ofChange noteKindsSpec)

/-- ITS FALSE NEIGHBOUR: 'it returns false'. Refute it at one input. -/
def noteKindsWrong : ChangeSpec := { name := "noteKinds", fn := fun _ => fun
  | [d] => { results := [.lit (.bool false)], args := [d] }
  | _ => none }
def NoteKindsWrongFalsely : Prop := noteKindsRow.holds Try.pinned (OpenSpec.ofChange noteKindsWrong)

/-- 'satchellaw10.NoteNames': WHATEVER THE INPUT: true; the input reads as it did. -/
def noteNamesSpec : ChangeSpec := { name := "noteNames", fn := fun _ => fun
  | [d] => { results := [.lit (.bool true)], args := [d] }
  | _ => none }
def noteNamesRow : OpenClaim := { program := "ytkfhljggdcajpaa", sum := "8867f9059e534b24317a5f37ab59a19b4188f49fe086153d9936e46f3f23efd3", func := "satchel/satchellaw10.NoteNames", spec := "noteNames", unfollowed := true, recurses := true, apart := false }
def NoteNamesSaid : Prop := noteNamesRow.holds Try.pinned (OpenSpec.ofChange noteNamesSpec)

/-- ITS FALSE NEIGHBOUR: 'it returns false'. Refute it at one input. -/
def noteNamesWrong : ChangeSpec := { name := "noteNames", fn := fun _ => fun
  | [d] => { results := [.lit (.bool false)], args := [d] }
  | _ => none }
def NoteNamesWrongFalsely : Prop := noteNamesRow.holds Try.pinned (OpenSpec.ofChange noteNamesWrong)

/-- 'satchellaw10.NoteKnown': WHATEVER THE INPUT: true; the input reads as it did. -/
def noteKnownSpec : ChangeSpec := { name := "noteKnown", fn := fun _ => fun
  | [] => { results := [.lit (.bool true)], args := [] }
  | _ => none }
def noteKnownRow : OpenClaim := { program := "ytkfhljggdcajpaa", sum := "8867f9059e534b24317a5f37ab59a19b4188f49fe086153d9936e46f3f23efd3", func := "satchel/satchellaw10.NoteKnown", spec := "noteKnown", unfollowed := true, recurses := true, apart := false }
def NoteKnownSaid : Prop := noteKnownRow.holds Try.pinned (OpenSpec.ofChange noteKnownSpec)

/-- ITS FALSE NEIGHBOUR: 'it returns false'. Refute it at one input. -/
def noteKnownWrong : ChangeSpec := { name := "noteKnown", fn := fun _ => fun
  | [] => { results := [.lit (.bool false)], args := [] }
  | _ => none }
def NoteKnownWrongFalsely : Prop := noteKnownRow.holds Try.pinned (OpenSpec.ofChange noteKnownWrong)

/- THE SECOND FORM. 'bulk': how many values and letters a reading holds, each counted each time it is reached (what is shared counts as often as it is met; a slice's spare places count too). A statement '..UptoSaid' is the law's where the arguments, and the package variables that the reading takes, are together of bulk at most 1048576: NARROWER than '..Said'. Prove '..Said' where nothing that the law and all that it calls make is longer than what came in: it says more and counts as full. Else prove '..UptoSaid'. A law counts once. -/
mutual
def uptoBulk {H : Type} : DataW H → Nat
  | .lit (.string bytes) => bytes.length + 1
  | .lit _ => 1
  | .nil => 1
  | .ptr d => uptoBulk d + 1
  | .slice elems spare => uptoBulkAll elems + uptoBulkAll spare + 1
  | .agg parts => uptoBulkAll parts + 1
  | .iface _ d => uptoBulk d + 1
  | .map entries => uptoBulkEntries entries + 1
  | .held _ => 1
def uptoBulkAll {H : Type} : List (DataW H) → Nat
  | [] => 0
  | d :: r => uptoBulk d + uptoBulkAll r
def uptoBulkEntries {H : Type} : List (Lit × DataW H) → Nat
  | [] => 0
  | x :: r => uptoBulkEntry x + uptoBulkEntries r
def uptoBulkEntry {H : Type} : Lit × DataW H → Nat
  | (.string bytes, d) => bytes.length + uptoBulk d + 1
  | (_, d) => uptoBulk d + 1
 end
def uptoSmall : (H : Type) → List (DataW H) → Bool := fun _ ds => decide (uptoBulkAll ds ≤ 1048576)
def OpenSpec.upto (s : _root_.Go.ChangeSpec) : _root_.Go.OpenSpec := { _root_.Go.OpenSpec.ofChange s with cond := some uptoSmall }

/-- 'satchellaw01.FieldOrder', WHERE WHAT IT READS IS OF BULK AT MOST 1048576: true; the input reads as it did. -/
def fieldOrderUptoRow : OpenClaim := { program := "ytkfhljggdcajpaa", sum := "8867f9059e534b24317a5f37ab59a19b4188f49fe086153d9936e46f3f23efd3", func := "satchel/satchellaw01.FieldOrder", spec := "fieldOrder", unfollowed := true, recurses := true, apart := false, narrowed := true }
def FieldOrderUptoSaid : Prop := fieldOrderUptoRow.holds Try.pinned (OpenSpec.upto fieldOrderSpec)

/-- 'satchellaw01.FieldWrites', WHERE WHAT IT READS IS OF BULK AT MOST 1048576: true; the input reads as it did. -/
def fieldWritesUptoRow : OpenClaim := { program := "ytkfhljggdcajpaa", sum := "8867f9059e534b24317a5f37ab59a19b4188f49fe086153d9936e46f3f23efd3", func := "satchel/satchellaw01.FieldWrites", spec := "fieldWrites", unfollowed := true, recurses := true, apart := false, narrowed := true }
def FieldWritesUptoSaid : Prop := fieldWritesUptoRow.holds Try.pinned (OpenSpec.upto fieldWritesSpec)

/-- 'satchellaw01.FieldCut', WHERE WHAT IT READS IS OF BULK AT MOST 1048576: true; the input reads as it did. -/
def fieldCutUptoRow : OpenClaim := { program := "ytkfhljggdcajpaa", sum := "8867f9059e534b24317a5f37ab59a19b4188f49fe086153d9936e46f3f23efd3", func := "satchel/satchellaw01.FieldCut", spec := "fieldCut", unfollowed := true, recurses := true, apart := false, narrowed := true }
def FieldCutUptoSaid : Prop := fieldCutUptoRow.holds Try.pinned (OpenSpec.upto fieldCutSpec)

/-- 'satchellaw01.FieldKnown', WHERE WHAT IT READS IS OF BULK AT MOST 1048576: true; the input reads as it did. -/
def fieldKnownUptoRow : OpenClaim := { program := "ytkfhljggdcajpaa", sum := "8867f9059e534b24317a5f37ab59a19b4188f49fe086153d9936e46f3f23efd3", func := "satchel/satchellaw01.FieldKnown", spec := "fieldKnown", unfollowed := true, recurses := true, apart := false, narrowed := true }
def FieldKnownUptoSaid : Prop := fieldKnownUptoRow.holds Try.pinned (OpenSpec.upto fieldKnownSpec)

/-- 'satchellaw01.FieldNone', WHERE WHAT IT READS IS OF BULK AT MOST 1048576: true; the input reads as it did. -/
def fieldNoneUptoRow : OpenClaim := { program := "ytkfhljggdcajpaa", sum := "8867f9059e534b24317a5f37ab59a19b4188f49fe086153d9936e46f3f23efd3", func := "satchel/satchellaw01.FieldNone", spec := "fieldNone", unfollowed := true, recurses := true, apart := false, narrowed := true }
def FieldNoneUptoSaid : Prop := fieldNoneUptoRow.holds Try.pinned (OpenSpec.upto fieldNoneSpec)

/-- 'satchellaw10.NoteWrites', WHERE WHAT IT READS IS OF BULK AT MOST 1048576: true; the input reads as it did. -/
def noteWritesUptoRow : OpenClaim := { program := "ytkfhljggdcajpaa", sum := "8867f9059e534b24317a5f37ab59a19b4188f49fe086153d9936e46f3f23efd3", func := "satchel/satchellaw10.NoteWrites", spec := "noteWrites", unfollowed := true, recurses := true, apart := false, narrowed := true }
def NoteWritesUptoSaid : Prop := noteWritesUptoRow.holds Try.pinned (OpenSpec.upto noteWritesSpec)

/-- 'satchellaw10.NoteReads', WHERE WHAT IT READS IS OF BULK AT MOST 1048576: true; the input reads as it did. -/
def noteReadsUptoRow : OpenClaim := { program := "ytkfhljggdcajpaa", sum := "8867f9059e534b24317a5f37ab59a19b4188f49fe086153d9936e46f3f23efd3", func := "satchel/satchellaw10.NoteReads", spec := "noteReads", unfollowed := true, recurses := true, apart := false, narrowed := true }
def NoteReadsUptoSaid : Prop := noteReadsUptoRow.holds Try.pinned (OpenSpec.upto noteReadsSpec)

/-- 'satchellaw10.NoteBack', WHERE WHAT IT READS IS OF BULK AT MOST 1048576: true; the input reads as it did. -/
def noteBackUptoRow : OpenClaim := { program := "ytkfhljggdcajpaa", sum := "8867f9059e534b24317a5f37ab59a19b4188f49fe086153d9936e46f3f23efd3", func := "satchel/satchellaw10.NoteBack", spec := "noteBack", unfollowed := true, recurses := true, apart := false, narrowed := true }
def NoteBackUptoSaid : Prop := noteBackUptoRow.holds Try.pinned (OpenSpec.upto noteBackSpec)

/-- 'satchellaw10.NoteCut', WHERE WHAT IT READS IS OF BULK AT MOST 1048576: true; the input reads as it did. -/
def noteCutUptoRow : OpenClaim := { program := "ytkfhljggdcajpaa", sum := "8867f9059e534b24317a5f37ab59a19b4188f49fe086153d9936e46f3f23efd3", func := "satchel/satchellaw10.NoteCut", spec := "noteCut", unfollowed := true, recurses := true, apart := false, narrowed := true }
def NoteCutUptoSaid : Prop := noteCutUptoRow.holds Try.pinned (OpenSpec.upto noteCutSpec)

/-- 'satchellaw10.NoteShapes', WHERE WHAT IT READS IS OF BULK AT MOST 1048576: true; the input reads as it did. -/
def noteShapesUptoRow : OpenClaim := { program := "ytkfhljggdcajpaa", sum := "8867f9059e534b24317a5f37ab59a19b4188f49fe086153d9936e46f3f23efd3", func := "satchel/satchellaw10.NoteShapes", spec := "noteShapes", unfollowed := true, recurses := true, apart := false, narrowed := true }
def NoteShapesUptoSaid : Prop := noteShapesUptoRow.holds Try.pinned (OpenSpec.upto noteShapesSpec)

/-- 'satchellaw10.NoteKinds', WHERE WHAT IT READS IS OF BULK AT MOST 1048576: true; the input reads as it did. -/
def noteKindsUptoRow : OpenClaim := { program := "ytkfhljggdcajpaa", sum := "8867f9059e534b24317a5f37ab59a19b4188f49fe086153d9936e46f3f23efd3", func := "satchel/satchellaw10.NoteKinds", spec := "noteKinds", unfollowed := true, recurses := true, apart := false, narrowed := true }
def NoteKindsUptoSaid : Prop := noteKindsUptoRow.holds Try.pinned (OpenSpec.upto noteKindsSpec)

/-- 'satchellaw10.NoteNames', WHERE WHAT IT READS IS OF BULK AT MOST 1048576: true; the input reads as it did. -/
def noteNamesUptoRow : OpenClaim := { program := "ytkfhljggdcajpaa", sum := "8867f9059e534b24317a5f37ab59a19b4188f49fe086153d9936e46f3f23efd3", func := "satchel/satchellaw10.NoteNames", spec := "noteNames", unfollowed := true, recurses := true, apart := false, narrowed := true }
def NoteNamesUptoSaid : Prop := noteNamesUptoRow.holds Try.pinned (OpenSpec.upto noteNamesSpec)

/-- 'satchellaw10.NoteKnown', WHERE WHAT IT READS IS OF BULK AT MOST 1048576: true; the input reads as it did. -/
def noteKnownUptoRow : OpenClaim := { program := "ytkfhljggdcajpaa", sum := "8867f9059e534b24317a5f37ab59a19b4188f49fe086153d9936e46f3f23efd3", func := "satchel/satchellaw10.NoteKnown", spec := "noteKnown", unfollowed := true, recurses := true, apart := false, narrowed := true }
def NoteKnownUptoSaid : Prop := noteKnownUptoRow.holds Try.pinned (OpenSpec.upto noteKnownSpec)

end Rows
end Go.Proofs.Ytkfhljggdcajpaa
