/-
  FieldInverts: for any two keys, a number that is not 0 times its inverse is 1, the inverse's inverse is it, and the inverse of a product is the product of inverses.
  No condition: the statement as it is given. (Walks: the translated functions' contracts; plain laws: what these functions compute.)
-/
import Derived.Test.YtagooceoocohpaaSxOf
import Derived.Test.YtagooceoocohpaaSxLh
import Derived.Test.YtagooceoocohpaaRows
import Derived.WalkKit
import Derived.ProofKit
import Derived.OpenShut
import Derived.ShutString
import Derived.ChangeOld
import Derived.Below
import Derived.SizedLaws
set_option linter.unusedVariables false
namespace Go.Proofs.Ytagooceoocohpaa.fieldInvertsDone
open Go.Sx Go.ChangeShapes Go.WideShapes Go.ChangeAt Go.RowKit

theorem ownT : ownKnob Try.prog.godebug = none := by kernel_rfl
theorem laidOutT : laidOutB Try.prog = true := by kernel_rfl

set_option maxRecDepth 100000 in
theorem lifted (os : Os) (started : os.Started) (H : Type) (enc : TypeId × Value → H) :
    ReturnsInHanded {} Try.checked os 11 .any (Rows.fieldInvertsSpec.pre6 enc Try.prog Try.f11 Rows.fieldInvertsRow.domain false) (Rows.fieldInvertsSpec.post enc Try.prog Try.f11 false true false false) := by
  refine returnsInHanded_of_change_sized (C := Try.checked) ownT started (by kernel_rfl) Try.func11
    (ChangeSpec.witness6 (enc := enc) (C := Try.checked) false ⟨#[], #[key0, key0], []⟩ 8 (by kernel_rfl) (by kernel_rfl) (by kernel_rfl) (by kernel_rfl)) ?_
  intro W base args ds gs before hval hW hcnd hsz _
  exact law_calls (bo := boT) (ins := [⟨true, [.ty (.arr .u8 32)]⟩, ⟨true, [.ty (.arr .u8 32)]⟩]) laidOutT FF_billetlaw01_FieldInverts ok_billetlaw01_FieldInverts Try.func11 (by kernel_rfl) (by kernel_rfl) (by kernel_rfl) (by kernel_rfl) (tb := 4) (by kernel_rfl) (by kernel_rfl)
    (fun x hx => field_inverts (bytes_range hx.1) (bytes_range hx.2)) rfl (fun ds h => by match ds, h with | [_, _], _ => rfl) W base args ds gs before hval hW hsz

theorem over : Rows.fieldInvertsRow.holds Try.pinned (OpenSpec.ofChange Rows.fieldInvertsSpec) :=
  OpenClaim.holds_of_wide 11 Try.f11 rfl rfl rfl rfl rfl rfl rfl ⟨rfl, rfl, rfl, rfl, rfl⟩ rfl rfl rfl rfl rfl (by kernel_rfl) Try.func11 (by kernel_rfl)
    (of_decide_eq_true (by kernel_rfl)) (by unfold Func.isWrapper; first | (rw [if_pos (by decide +kernel)]; kernel_rfl) | (rw [if_neg (by decide +kernel)]; exact ⟨rfl, rfl⟩))
    (fun os started H enc _ => lifted os started H enc)

theorem proved : Rows.FieldInvertsSaid := over
end Go.Proofs.Ytagooceoocohpaa.fieldInvertsDone
