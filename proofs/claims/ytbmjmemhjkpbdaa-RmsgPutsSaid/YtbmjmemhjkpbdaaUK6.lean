/-
  THE LAW RmsgPuts: for every message, the encoding is as specified, and a right message is decoded from it unchanged. For every message that can be read; no condition.
-/
import Derived.Test.YtbmjmemhjkpbdaaRows
import Derived.Test.YtbmjmemhjkpbdaaG7
import Derived.WalkKit
import Derived.ProofKit
import Derived.OpenShut
import Derived.JoinedOf
set_option linter.unusedVariables false
set_option linter.unusedSimpArgs false
namespace Go.Proofs.Ytbmjmemhjkpbdaa.puts
open Go.ChangeShapes Go.WideShapes Go.RowKit
theorem own : ownKnob Try.prog.godebug = none := by kernel_rfl
set_option maxRecDepth 100000 in
theorem lifted (os : Os) (started : os.Started) (H : Type) (enc : TypeId × Value → H) :
    ReturnsInHanded {} Try.checked os 6 .any (Rows.rmsgPutsSpec.pre6 enc Try.prog Try.f6 Rows.rmsgPutsRow.domain false) (Rows.rmsgPutsSpec.post enc Try.prog Try.f6 false true false false) := by
  refine returnsInHanded_of_change (C := Try.checked) own started (by kernel_rfl) Try.func6
    (ChangeSpec.witness6 (enc := enc) (C := Try.checked) false ⟨#[], #[.agg #[.int .i64 0, .int .i64 0, .int .i64 0, .int .i64 0, .int .i64 0, .int .i64 0, .int .i64 0, .int .i64 0, .bool false, .slice none 0 0, .int .i64 0, .int .i64 0, .slice none 0 0]], []⟩ 8 (by kernel_rfl) (by kernel_rfl) (by kernel_rfl) (by kernel_rfl)) ?_
  intro W base args ds gs before hval hW _ _
  refine V.law_ok (tb := 4) (k := 5) (by kernel_rfl) (by kernel_rfl) (by kernel_rfl) (by kernel_rfl) rfl Try.underlying4 rfl ?_ hval hW ?_
  · intro ds hl
    have hl : ds.length = 1 := hl
    obtain ⟨d1, rfl⟩ := V.len_one hl
    rfl
  · intro avs h
    have h : V.All2 (V.TyV Try.prog 5) [27] avs := h
    match avs, h with
    | [v1], ⟨h1, _⟩ =>
      obtain ⟨a, rfl, wa⟩ := V.ty_msg h1
      exact V.law6_c a wa.len
theorem holds : Rows.RmsgPutsSaid :=
  OpenClaim.holds_of_wide 6 Try.f6 rfl rfl rfl rfl rfl rfl rfl ⟨rfl, rfl, rfl, rfl, rfl⟩ rfl rfl rfl rfl rfl (by kernel_rfl) Try.func6 (by kernel_rfl)
    (of_decide_eq_true (by kernel_rfl)) (by unfold Func.isWrapper; first | (rw [if_pos (by decide +kernel)]; kernel_rfl) | (rw [if_neg (by decide +kernel)]; exact ⟨rfl, rfl⟩))
    (fun os started H enc _ => lifted os started H enc)
end Go.Proofs.Ytbmjmemhjkpbdaa.puts
