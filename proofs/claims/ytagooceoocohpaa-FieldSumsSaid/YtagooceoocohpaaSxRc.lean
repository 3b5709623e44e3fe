/-
  FieldSums: for any list of keys, the sum and the product of the numbers that they are are the document's.
  No condition: the statement as it is given. (Walks: the translated functions' contracts; plain laws: what these functions compute.)
-/
import Derived.Test.YtagooceoocohpaaSxOf
import Derived.Test.YtagooceoocohpaaSxLg
import Derived.Test.YtagooceoocohpaaRows
import Derived.WalkKit
import Derived.ProofKit
import Derived.OpenShut
import Derived.ShutString
import Derived.ChangeOld
import Derived.Below
import Derived.SizedLaws
set_option linter.unusedVariables false
namespace Go.Proofs.Ytagooceoocohpaa.fieldSumsDone
open Go.Sx Go.ChangeShapes Go.WideShapes Go.ChangeAt Go.RowKit

theorem ownT : ownKnob Try.prog.godebug = none := by kernel_rfl
theorem laidOutT : laidOutB Try.prog = true := by kernel_rfl

set_option maxRecDepth 100000 in
theorem lifted (os : Os) (started : os.Started) (H : Type) (enc : TypeId × Value → H) :
    ReturnsInHanded {} Try.checked os 9 .any (Rows.fieldSumsSpec.pre6 enc Try.prog Try.f9 Rows.fieldSumsRow.domain false) (Rows.fieldSumsSpec.post enc Try.prog Try.f9 false true false false) := by
  refine returnsInHanded_of_change_sized (C := Try.checked) ownT started (by kernel_rfl) Try.func9
    (ChangeSpec.witness6 (enc := enc) (C := Try.checked) false ⟨#[], #[.slice none 0 0], []⟩ 8 (by kernel_rfl) (by kernel_rfl) (by kernel_rfl) (by kernel_rfl)) ?_
  intro W base args ds gs before hval hW hcnd hsz _
  exact law_calls (bo := boT) (ins := [⟨false, [.list (.arr .u8 32)]⟩]) laidOutT FF_billetlaw01_FieldSums ok_billetlaw01_FieldSums Try.func9 (by kernel_rfl) (by kernel_rfl) (by kernel_rfl) (by kernel_rfl) (tb := 4) (by kernel_rfl) (by kernel_rfl)
    (fun x hx => field_sums fun a ha => bytes_range (hx.2 a ha)) rfl (fun ds h => by match ds, h with | [_], _ => rfl) W base args ds gs before hval hW hsz

theorem over : Rows.fieldSumsRow.holds Try.pinned (OpenSpec.ofChange Rows.fieldSumsSpec) :=
  OpenClaim.holds_of_wide 9 Try.f9 rfl rfl rfl rfl rfl rfl rfl ⟨rfl, rfl, rfl, rfl, rfl⟩ rfl rfl rfl rfl rfl (by kernel_rfl) Try.func9 (by kernel_rfl)
    (of_decide_eq_true (by kernel_rfl)) (by unfold Func.isWrapper; first | (rw [if_pos (by decide +kernel)]; kernel_rfl) | (rw [if_neg (by decide +kernel)]; exact ⟨rfl, rfl⟩))
    (fun os started H enc _ => lifted os started H enc)

theorem proved : Rows.FieldSumsSaid := over
end Go.Proofs.Ytagooceoocohpaa.fieldSumsDone
