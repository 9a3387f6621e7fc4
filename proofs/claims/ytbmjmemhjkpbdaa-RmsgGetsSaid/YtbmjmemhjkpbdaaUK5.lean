/-
  THE LAW RmsgGets: for all bytes, a decoded message is right and has exactly these bytes as its encoding, or the decoder is bad. For all bytes that can be read; no condition.
-/
import Derived.Test.YtbmjmemhjkpbdaaRows
import Derived.Test.YtbmjmemhjkpbdaaG3
import Derived.Test.YtbmjmemhjkpbdaaG4
import Derived.WalkKit
import Derived.ProofKit
import Derived.OpenShut
import Derived.JoinedOf
set_option linter.unusedVariables false
set_option linter.unusedSimpArgs false
namespace Go.Proofs.Ytbmjmemhjkpbdaa.gets
open Go.ChangeShapes Go.WideShapes Go.RowKit
theorem own : ownKnob Try.prog.godebug = none := by kernel_rfl
set_option maxRecDepth 100000 in
theorem lifted (os : Os) (started : os.Started) (H : Type) (enc : TypeId × Value → H) :
    ReturnsInHanded {} Try.checked os 5 .any (Rows.rmsgGetsSpec.pre6 enc Try.prog Try.f5 Rows.rmsgGetsRow.domain false) (Rows.rmsgGetsSpec.post enc Try.prog Try.f5 false true false false) := by
  refine returnsInHanded_of_change (C := Try.checked) own started (by kernel_rfl) Try.func5
    (ChangeSpec.witness6 (enc := enc) (C := Try.checked) false ⟨#[], #[.slice none 0 0], []⟩ 8 (by kernel_rfl) (by kernel_rfl) (by kernel_rfl) (by kernel_rfl)) ?_
  intro W base args ds gs before hval hW _ _
  refine V.law_ok (tb := 4) (k := 5) (by kernel_rfl) (by kernel_rfl) (by kernel_rfl) (by kernel_rfl) rfl Try.underlying4 rfl ?_ hval hW ?_
  · intro ds hl
    have hl : ds.length = 1 := hl
    obtain ⟨d1, rfl⟩ := V.len_one hl
    rfl
  · intro avs h
    have h : V.All2 (V.TyV Try.prog 5) [23] avs := h
    obtain ⟨v1, rfl⟩ := V.len_one (V.all2_len h)
    · have h1 : V.Tyf Try.prog 5 23 [v1] := by have := h.1; unfold V.TyV at this; rw [Try.underlying23] at this; exact this
      obtain ⟨b, hb, _⟩ := V.ty_bytes Try.underlying23 Try.underlying5 (by kernel_rfl) h1
      cases hb
      exact V.law5_c b
theorem holds : Rows.RmsgGetsSaid :=
  OpenClaim.holds_of_wide 5 Try.f5 rfl rfl rfl rfl rfl rfl rfl ⟨rfl, rfl, rfl, rfl, rfl⟩ rfl rfl rfl rfl rfl (by kernel_rfl) Try.func5 (by kernel_rfl)
    (of_decide_eq_true (by kernel_rfl)) (by unfold Func.isWrapper; first | (rw [if_pos (by decide +kernel)]; kernel_rfl) | (rw [if_neg (by decide +kernel)]; exact ⟨rfl, rfl⟩))
    (fun os started H enc _ => lifted os started H enc)
end Go.Proofs.Ytbmjmemhjkpbdaa.gets
