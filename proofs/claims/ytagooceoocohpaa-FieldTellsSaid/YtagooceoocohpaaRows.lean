/-
  No cell of these rows narrows 'for every input' (looked for: loops, veiled, ifaces, maps, wideKeys, modest, calm, conditions, laid).
  DERIVED. THE GIVEN ROWS OF THIS SEAT. 10 by the template 'for every input the law returns true; each argument reads behind the call as it read before'; 0 by the template 'total and deterministic' (their statements: YtagooceoocohpaaTotals.lean).
  GIVEN WITH THE SEED: the statements are not yours to turn. If you find one false, say at which input.
  Laid BY PROGRAM, IN A SANDBOX (cutbox-rows.mjs): the forced cells as the released guide's own fill.sh prints them over the translation 04a4f1078154c1ec… (all of the seat's roots in one cut). By AI agents, Wed Nov 11 2026. No macro, syntax, notation, axiom, sorry.
-/
import Derived.Test.YtagooceoocohpaaChecked
import GoSem.Claim
import GoSem.ClaimJoined
import GoSem.ClaimMapViews
import Derived.JoinedTies
import Derived.KernelRfl
namespace Go.Proofs.Ytagooceoocohpaa
/- THE CELL 'sum', in the pinned program and in every row, IS THE sha256 OF THE DUMP (.gsa) THAT YtagooceoocohpaaProg.lean LOADS. Nothing in Lean hashes anything: it is a label: what it is worth is what the hold of that sum in a sandbox is worth. -/
noncomputable def Try.pinned : Pinned := { name := "ytagooceoocohpaa", sum := "04a4f1078154c1ec34b5345c078046e753290c218c35112993462b9ac90c2d65", checked := Try.checked }
namespace Rows
def none {H : Type} : Left H := { results := [], args := [] }

/-- 'billetlaw04.PolyTells': WHATEVER THE INPUT: true; the input reads as it did. -/
def polyTellsSpec : ChangeSpec := { name := "polyTells", fn := fun _ => fun
  | [d1, d2] => { results := [.lit (.bool true)], args := [d1, d2] }
  | _ => none }
def polyTellsRow : OpenClaim := { program := "ytagooceoocohpaa", sum := "04a4f1078154c1ec34b5345c078046e753290c218c35112993462b9ac90c2d65", func := "billet/billetlaw04.PolyTells", spec := "polyTells", unfollowed := true, recurses := true, apart := false }
def PolyTellsSaid : Prop := polyTellsRow.holds Try.pinned (OpenSpec.ofChange polyTellsSpec)

/-- ITS FALSE NEIGHBOUR: 'it returns false'. Refute it at one input. -/
def polyTellsWrong : ChangeSpec := { name := "polyTells", fn := fun _ => fun
  | [d1, d2] => { results := [.lit (.bool false)], args := [d1, d2] }
  | _ => none }
def PolyTellsWrongFalsely : Prop := polyTellsRow.holds Try.pinned (OpenSpec.ofChange polyTellsWrong)

/-- 'billetlaw04.PolyParts': WHATEVER THE INPUT: true; the input reads as it did. -/
def polyPartsSpec : ChangeSpec := { name := "polyParts", fn := fun _ => fun
  | [d] => { results := [.lit (.bool true)], args := [d] }
  | _ => none }
def polyPartsRow : OpenClaim := { program := "ytagooceoocohpaa", sum := "04a4f1078154c1ec34b5345c078046e753290c218c35112993462b9ac90c2d65", func := "billet/billetlaw04.PolyParts", spec := "polyParts", unfollowed := true, recurses := true, apart := false }
def PolyPartsSaid : Prop := polyPartsRow.holds Try.pinned (OpenSpec.ofChange polyPartsSpec)

/-- ITS FALSE NEIGHBOUR: 'it returns false'. Refute it at one input. -/
def polyPartsWrong : ChangeSpec := { name := "polyParts", fn := fun _ => fun
  | [d] => { results := [.lit (.bool false)], args := [d] }
  | _ => none }
def PolyPartsWrongFalsely : Prop := polyPartsRow.holds Try.pinned (OpenSpec.ofChange polyPartsWrong)

/-- 'billetlaw04.PolyOnes': WHATEVER THE INPUT: true; the input reads as it did. -/
def polyOnesSpec : ChangeSpec := { name := "polyOnes", fn := fun _ => fun
  | [d1, d2] => { results := [.lit (.bool true)], args := [d1, d2] }
  | _ => none }
def polyOnesRow : OpenClaim := { program := "ytagooceoocohpaa", sum := "04a4f1078154c1ec34b5345c078046e753290c218c35112993462b9ac90c2d65", func := "billet/billetlaw04.PolyOnes", spec := "polyOnes", unfollowed := true, recurses := true, apart := false }
def PolyOnesSaid : Prop := polyOnesRow.holds Try.pinned (OpenSpec.ofChange polyOnesSpec)

/-- ITS FALSE NEIGHBOUR: 'it returns false'. Refute it at one input. -/
def polyOnesWrong : ChangeSpec := { name := "polyOnes", fn := fun _ => fun
  | [d1, d2] => { results := [.lit (.bool false)], args := [d1, d2] }
  | _ => none }
def PolyOnesWrongFalsely : Prop := polyOnesRow.holds Try.pinned (OpenSpec.ofChange polyOnesWrong)

/-- 'billetlaw04.PolyBits': WHATEVER THE INPUT: true; the input reads as it did. -/
def polyBitsSpec : ChangeSpec := { name := "polyBits", fn := fun _ => fun
  | [d1, d2, d3] => { results := [.lit (.bool true)], args := [d1, d2, d3] }
  | _ => none }
def polyBitsRow : OpenClaim := { program := "ytagooceoocohpaa", sum := "04a4f1078154c1ec34b5345c078046e753290c218c35112993462b9ac90c2d65", func := "billet/billetlaw04.PolyBits", spec := "polyBits", unfollowed := true, recurses := true, apart := false }
def PolyBitsSaid : Prop := polyBitsRow.holds Try.pinned (OpenSpec.ofChange polyBitsSpec)

/-- ITS FALSE NEIGHBOUR: 'it returns false'. Refute it at one input. -/
def polyBitsWrong : ChangeSpec := { name := "polyBits", fn := fun _ => fun
  | [d1, d2, d3] => { results := [.lit (.bool false)], args := [d1, d2, d3] }
  | _ => none }
def PolyBitsWrongFalsely : Prop := polyBitsRow.holds Try.pinned (OpenSpec.ofChange polyBitsWrong)

/-- 'billetlaw04.PolyEnd': WHATEVER THE INPUT: true; the input reads as it did. -/
def polyEndSpec : ChangeSpec := { name := "polyEnd", fn := fun _ => fun
  | [d1, d2] => { results := [.lit (.bool true)], args := [d1, d2] }
  | _ => none }
def polyEndRow : OpenClaim := { program := "ytagooceoocohpaa", sum := "04a4f1078154c1ec34b5345c078046e753290c218c35112993462b9ac90c2d65", func := "billet/billetlaw04.PolyEnd", spec := "polyEnd", unfollowed := true, recurses := true, apart := false }
def PolyEndSaid : Prop := polyEndRow.holds Try.pinned (OpenSpec.ofChange polyEndSpec)

/-- ITS FALSE NEIGHBOUR: 'it returns false'. Refute it at one input. -/
def polyEndWrong : ChangeSpec := { name := "polyEnd", fn := fun _ => fun
  | [d1, d2] => { results := [.lit (.bool false)], args := [d1, d2] }
  | _ => none }
def PolyEndWrongFalsely : Prop := polyEndRow.holds Try.pinned (OpenSpec.ofChange polyEndWrong)

/-- 'billetlaw01.FieldTells': WHATEVER THE INPUT: true; the input reads as it did. -/
def fieldTellsSpec : ChangeSpec := { name := "fieldTells", fn := fun _ => fun
  | [d] => { results := [.lit (.bool true)], args := [d] }
  | _ => none }
def fieldTellsRow : OpenClaim := { program := "ytagooceoocohpaa", sum := "04a4f1078154c1ec34b5345c078046e753290c218c35112993462b9ac90c2d65", func := "billet/billetlaw01.FieldTells", spec := "fieldTells", inPlace := ["math/bits.Add64"], apart := false }
def FieldTellsSaid : Prop := fieldTellsRow.holds Try.pinned (OpenSpec.ofChange fieldTellsSpec)

/-- ITS FALSE NEIGHBOUR: 'it returns false'. Refute it at one input. -/
def fieldTellsWrong : ChangeSpec := { name := "fieldTells", fn := fun _ => fun
  | [d] => { results := [.lit (.bool false)], args := [d] }
  | _ => none }
def FieldTellsWrongFalsely : Prop := fieldTellsRow.holds Try.pinned (OpenSpec.ofChange fieldTellsWrong)

/-- 'billetlaw01.FieldSums': WHATEVER THE INPUT: true; the input reads as it did. -/
def fieldSumsSpec : ChangeSpec := { name := "fieldSums", fn := fun _ => fun
  | [d] => { results := [.lit (.bool true)], args := [d] }
  | _ => none }
def fieldSumsRow : OpenClaim := { program := "ytagooceoocohpaa", sum := "04a4f1078154c1ec34b5345c078046e753290c218c35112993462b9ac90c2d65", func := "billet/billetlaw01.FieldSums", spec := "fieldSums", inPlace := ["math/bits.Add64"], apart := false }
def FieldSumsSaid : Prop := fieldSumsRow.holds Try.pinned (OpenSpec.ofChange fieldSumsSpec)

/-- ITS FALSE NEIGHBOUR: 'it returns false'. Refute it at one input. -/
def fieldSumsWrong : ChangeSpec := { name := "fieldSums", fn := fun _ => fun
  | [d] => { results := [.lit (.bool false)], args := [d] }
  | _ => none }
def FieldSumsWrongFalsely : Prop := fieldSumsRow.holds Try.pinned (OpenSpec.ofChange fieldSumsWrong)

/-- 'billetlaw01.FieldRing': WHATEVER THE INPUT: true; the input reads as it did. -/
def fieldRingSpec : ChangeSpec := { name := "fieldRing", fn := fun _ => fun
  | [d1, d2, d3] => { results := [.lit (.bool true)], args := [d1, d2, d3] }
  | _ => none }
def fieldRingRow : OpenClaim := { program := "ytagooceoocohpaa", sum := "04a4f1078154c1ec34b5345c078046e753290c218c35112993462b9ac90c2d65", func := "billet/billetlaw01.FieldRing", spec := "fieldRing", inPlace := ["math/bits.Add64"], apart := false }
def FieldRingSaid : Prop := fieldRingRow.holds Try.pinned (OpenSpec.ofChange fieldRingSpec)

/-- ITS FALSE NEIGHBOUR: 'it returns false'. Refute it at one input. -/
def fieldRingWrong : ChangeSpec := { name := "fieldRing", fn := fun _ => fun
  | [d1, d2, d3] => { results := [.lit (.bool false)], args := [d1, d2, d3] }
  | _ => none }
def FieldRingWrongFalsely : Prop := fieldRingRow.holds Try.pinned (OpenSpec.ofChange fieldRingWrong)

/-- 'billetlaw01.FieldInverts': WHATEVER THE INPUT: true; the input reads as it did. -/
def fieldInvertsSpec : ChangeSpec := { name := "fieldInverts", fn := fun _ => fun
  | [d1, d2] => { results := [.lit (.bool true)], args := [d1, d2] }
  | _ => none }
def fieldInvertsRow : OpenClaim := { program := "ytagooceoocohpaa", sum := "04a4f1078154c1ec34b5345c078046e753290c218c35112993462b9ac90c2d65", func := "billet/billetlaw01.FieldInverts", spec := "fieldInverts", inPlace := ["math/bits.Add64"], apart := false }
def FieldInvertsSaid : Prop := fieldInvertsRow.holds Try.pinned (OpenSpec.ofChange fieldInvertsSpec)

/-- ITS FALSE NEIGHBOUR: 'it returns false'. Refute it at one input. -/
def fieldInvertsWrong : ChangeSpec := { name := "fieldInverts", fn := fun _ => fun
  | [d1, d2] => { results := [.lit (.bool false)], args := [d1, d2] }
  | _ => none }
def FieldInvertsWrongFalsely : Prop := fieldInvertsRow.holds Try.pinned (OpenSpec.ofChange fieldInvertsWrong)

/-- 'billetlaw01.FieldBytes': WHATEVER THE INPUT: true; the input reads as it did. -/
def fieldBytesSpec : ChangeSpec := { name := "fieldBytes", fn := fun _ => fun
  | [d1, d2] => { results := [.lit (.bool true)], args := [d1, d2] }
  | _ => none }
def fieldBytesRow : OpenClaim := { program := "ytagooceoocohpaa", sum := "04a4f1078154c1ec34b5345c078046e753290c218c35112993462b9ac90c2d65", func := "billet/billetlaw01.FieldBytes", spec := "fieldBytes", inPlace := ["math/bits.Add64"], apart := false }
def FieldBytesSaid : Prop := fieldBytesRow.holds Try.pinned (OpenSpec.ofChange fieldBytesSpec)

/-- ITS FALSE NEIGHBOUR: 'it returns false'. Refute it at one input. -/
def fieldBytesWrong : ChangeSpec := { name := "fieldBytes", fn := fun _ => fun
  | [d1, d2] => { results := [.lit (.bool false)], args := [d1, d2] }
  | _ => none }
def FieldBytesWrongFalsely : Prop := fieldBytesRow.holds Try.pinned (OpenSpec.ofChange fieldBytesWrong)

/- THE SECOND FORM. 'bulk': how many values and letters a reading holds, each counted each time it is reached (what is shared counts as often as it is met; a slice's spare places count too). A statement '..UptoSaid' is the law's where the arguments, and the package variables that the reading takes, are together of bulk at most 1048576: NARROWER than '..Said'. Prove '..Said' where nothing that the law and all that it calls make is longer than what came in: it says more and counts as full. Else prove '..UptoSaid'. A law counts once. -/
mutual
def uptoBulk {H : Type} : DataW H → Nat
  | .lit (.string bytes) => bytes.length + 1
  | .lit _ => 1
  | .nil => 1
  | .ptr d => uptoBulk d + 1
  | .slice elems spare => uptoBulkAll elems + uptoBulkAll spare + 1
  | .agg parts => uptoBulkAll parts + 1
  | .iface _ d => uptoBulk d + 1
  | .map entries => uptoBulkEntries entries + 1
  | .held _ => 1
def uptoBulkAll {H : Type} : List (DataW H) → Nat
  | [] => 0
  | d :: r => uptoBulk d + uptoBulkAll r
def uptoBulkEntries {H : Type} : List (Lit × DataW H) → Nat
  | [] => 0
  | x :: r => uptoBulkEntry x + uptoBulkEntries r
def uptoBulkEntry {H : Type} : Lit × DataW H → Nat
  | (.string bytes, d) => bytes.length + uptoBulk d + 1
  | (_, d) => uptoBulk d + 1
 end
def uptoSmall : (H : Type) → List (DataW H) → Bool := fun _ ds => decide (uptoBulkAll ds ≤ 1048576)
def OpenSpec.upto (s : _root_.Go.ChangeSpec) : _root_.Go.OpenSpec := { _root_.Go.OpenSpec.ofChange s with cond := some uptoSmall }

/-- 'billetlaw04.PolyTells', WHERE WHAT IT READS IS OF BULK AT MOST 1048576: true; the input reads as it did. -/
def polyTellsUptoRow : OpenClaim := { program := "ytagooceoocohpaa", sum := "04a4f1078154c1ec34b5345c078046e753290c218c35112993462b9ac90c2d65", func := "billet/billetlaw04.PolyTells", spec := "polyTells", unfollowed := true, recurses := true, apart := false, narrowed := true }
def PolyTellsUptoSaid : Prop := polyTellsUptoRow.holds Try.pinned (OpenSpec.upto polyTellsSpec)

/-- 'billetlaw04.PolyParts', WHERE WHAT IT READS IS OF BULK AT MOST 1048576: true; the input reads as it did. -/
def polyPartsUptoRow : OpenClaim := { program := "ytagooceoocohpaa", sum := "04a4f1078154c1ec34b5345c078046e753290c218c35112993462b9ac90c2d65", func := "billet/billetlaw04.PolyParts", spec := "polyParts", unfollowed := true, recurses := true, apart := false, narrowed := true }
def PolyPartsUptoSaid : Prop := polyPartsUptoRow.holds Try.pinned (OpenSpec.upto polyPartsSpec)

/-- 'billetlaw04.PolyOnes', WHERE WHAT IT READS IS OF BULK AT MOST 1048576: true; the input reads as it did. -/
def polyOnesUptoRow : OpenClaim := { program := "ytagooceoocohpaa", sum := "04a4f1078154c1ec34b5345c078046e753290c218c35112993462b9ac90c2d65", func := "billet/billetlaw04.PolyOnes", spec := "polyOnes", unfollowed := true, recurses := true, apart := false, narrowed := true }
def PolyOnesUptoSaid : Prop := polyOnesUptoRow.holds Try.pinned (OpenSpec.upto polyOnesSpec)

/-- 'billetlaw04.PolyBits', WHERE WHAT IT READS IS OF BULK AT MOST 1048576: true; the input reads as it did. -/
def polyBitsUptoRow : OpenClaim := { program := "ytagooceoocohpaa", sum := "04a4f1078154c1ec34b5345c078046e753290c218c35112993462b9ac90c2d65", func := "billet/billetlaw04.PolyBits", spec := "polyBits", unfollowed := true, recurses := true, apart := false, narrowed := true }
def PolyBitsUptoSaid : Prop := polyBitsUptoRow.holds Try.pinned (OpenSpec.upto polyBitsSpec)

/-- 'billetlaw04.PolyEnd', WHERE WHAT IT READS IS OF BULK AT MOST 1048576: true; the input reads as it did. -/
def polyEndUptoRow : OpenClaim := { program := "ytagooceoocohpaa", sum := "04a4f1078154c1ec34b5345c078046e753290c218c35112993462b9ac90c2d65", func := "billet/billetlaw04.PolyEnd", spec := "polyEnd", unfollowed := true, recurses := true, apart := false, narrowed := true }
def PolyEndUptoSaid : Prop := polyEndUptoRow.holds Try.pinned (OpenSpec.upto polyEndSpec)

/-- 'billetlaw01.FieldTells', WHERE WHAT IT READS IS OF BULK AT MOST 1048576: true; the input reads as it did. -/
def fieldTellsUptoRow : OpenClaim := { program := "ytagooceoocohpaa", sum := "04a4f1078154c1ec34b5345c078046e753290c218c35112993462b9ac90c2d65", func := "billet/billetlaw01.FieldTells", spec := "fieldTells", inPlace := ["math/bits.Add64"], apart := false, narrowed := true }
def FieldTellsUptoSaid : Prop := fieldTellsUptoRow.holds Try.pinned (OpenSpec.upto fieldTellsSpec)

/-- 'billetlaw01.FieldSums', WHERE WHAT IT READS IS OF BULK AT MOST 1048576: true; the input reads as it did. -/
def fieldSumsUptoRow : OpenClaim := { program := "ytagooceoocohpaa", sum := "04a4f1078154c1ec34b5345c078046e753290c218c35112993462b9ac90c2d65", func := "billet/billetlaw01.FieldSums", spec := "fieldSums", inPlace := ["math/bits.Add64"], apart := false, narrowed := true }
def FieldSumsUptoSaid : Prop := fieldSumsUptoRow.holds Try.pinned (OpenSpec.upto fieldSumsSpec)

/-- 'billetlaw01.FieldRing', WHERE WHAT IT READS IS OF BULK AT MOST 1048576: true; the input reads as it did. -/
def fieldRingUptoRow : OpenClaim := { program := "ytagooceoocohpaa", sum := "04a4f1078154c1ec34b5345c078046e753290c218c35112993462b9ac90c2d65", func := "billet/billetlaw01.FieldRing", spec := "fieldRing", inPlace := ["math/bits.Add64"], apart := false, narrowed := true }
def FieldRingUptoSaid : Prop := fieldRingUptoRow.holds Try.pinned (OpenSpec.upto fieldRingSpec)

/-- 'billetlaw01.FieldInverts', WHERE WHAT IT READS IS OF BULK AT MOST 1048576: true; the input reads as it did. -/
def fieldInvertsUptoRow : OpenClaim := { program := "ytagooceoocohpaa", sum := "04a4f1078154c1ec34b5345c078046e753290c218c35112993462b9ac90c2d65", func := "billet/billetlaw01.FieldInverts", spec := "fieldInverts", inPlace := ["math/bits.Add64"], apart := false, narrowed := true }
def FieldInvertsUptoSaid : Prop := fieldInvertsUptoRow.holds Try.pinned (OpenSpec.upto fieldInvertsSpec)

/-- 'billetlaw01.FieldBytes', WHERE WHAT IT READS IS OF BULK AT MOST 1048576: true; the input reads as it did. -/
def fieldBytesUptoRow : OpenClaim := { program := "ytagooceoocohpaa", sum := "04a4f1078154c1ec34b5345c078046e753290c218c35112993462b9ac90c2d65", func := "billet/billetlaw01.FieldBytes", spec := "fieldBytes", inPlace := ["math/bits.Add64"], apart := false, narrowed := true }
def FieldBytesUptoSaid : Prop := fieldBytesUptoRow.holds Try.pinned (OpenSpec.upto fieldBytesSpec)

end Rows
end Go.Proofs.Ytagooceoocohpaa
