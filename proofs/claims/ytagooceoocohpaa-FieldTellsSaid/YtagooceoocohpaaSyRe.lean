/-
  FieldTells: what the program's field makes of any two keys, any number and any choice is what the document's field makes of them.
  No condition: the statement as it is given. (Walks: the translated functions' contracts; plain laws: what these functions compute.)
-/
import Derived.Test.YtagooceoocohpaaSyOt
import Derived.Test.YtagooceoocohpaaSyTl
import Derived.Test.YtagooceoocohpaaRows
import Derived.WalkKit
import Derived.ProofKit
import Derived.OpenShut
import Derived.ShutString
import Derived.ChangeOld
import Derived.Below
import Derived.SizedLaws
set_option linter.unusedVariables false
namespace Go.Proofs.Ytagooceoocohpaa.fieldTellsDone
open Go.Sx Go.ChangeShapes Go.WideShapes Go.ChangeAt Go.RowKit

theorem ownT : ownKnob Try.prog.godebug = none := by kernel_rfl
theorem laidOutT : laidOutB Try.prog = true := by kernel_rfl

set_option maxRecDepth 100000 in
theorem lifted (os : Os) (started : os.Started) (H : Type) (enc : TypeId × Value → H) :
    ReturnsInHanded {} Try.checked os 8 .any (Rows.fieldTellsSpec.pre6 enc Try.prog Try.f8 Rows.fieldTellsRow.domain false) (Rows.fieldTellsSpec.post enc Try.prog Try.f8 false true false false) := by
  refine returnsInHanded_of_change_sized (C := Try.checked) ownT started (by kernel_rfl) Try.func8
    (ChangeSpec.witness6 (enc := enc) (C := Try.checked) false ⟨#[], #[.agg (List.replicate 64 (Value.int .u8 0) ++ [Value.int .u64 0, Value.int .i64 0]).toArray], []⟩ 8 (by kernel_rfl) (by kernel_rfl) (by kernel_rfl) (by kernel_rfl)) ?_
  intro W base args ds gs before hval hW hcnd hsz _
  exact law_calls (bo := boT) (ins := [⟨true, [.ty (.arr .u8 32), .ty (.arr .u8 32), .ty (.int .u64), .ty (.int .i64)]⟩]) laidOutT FF_billetlaw01_FieldTells ok_billetlaw01_FieldTells Try.func8 (by kernel_rfl) (by kernel_rfl) (by kernel_rfl) (by kernel_rfl) (tb := 4) (by kernel_rfl) (by kernel_rfl)
    (fun x hx => field_tells (bytes_range hx.1) (bytes_range hx.2.1) hx.2.2.1.1 (Int.lt_of_le_of_lt hx.2.2.1.2 (by decide))) rfl (fun ds h => by match ds, h with | [_], _ => rfl) W base args ds gs before hval hW hsz

theorem over : Rows.fieldTellsRow.holds Try.pinned (OpenSpec.ofChange Rows.fieldTellsSpec) :=
  OpenClaim.holds_of_wide 8 Try.f8 rfl rfl rfl rfl rfl rfl rfl ⟨rfl, rfl, rfl, rfl, rfl⟩ rfl rfl rfl rfl rfl (by kernel_rfl) Try.func8 (by kernel_rfl)
    (of_decide_eq_true (by kernel_rfl)) (by unfold Func.isWrapper; first | (rw [if_pos (by decide +kernel)]; kernel_rfl) | (rw [if_neg (by decide +kernel)]; exact ⟨rfl, rfl⟩))
    (fun os started H enc _ => lifted os started H enc)

theorem proved : Rows.FieldTellsSaid := over
end Go.Proofs.Ytagooceoocohpaa.fieldTellsDone
