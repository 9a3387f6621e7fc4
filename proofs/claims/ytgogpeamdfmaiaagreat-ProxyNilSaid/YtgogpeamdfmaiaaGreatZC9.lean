/-
  THE LAW ProxyNil: a nil proxy does nothing. For every act that can be read; no condition.
-/
import Derived.Test.YtgogpeamdfmaiaaGreatRows
import Derived.Test.YtgogpeamdfmaiaaGreatG5
import Derived.Test.YtgogpeamdfmaiaaGreatG6
import Derived.WalkKit
import Derived.ProofKit
import Derived.OpenShut
import Derived.JoinedOf
import Derived.SizedLaws
set_option linter.unusedVariables false
set_option linter.unusedSimpArgs false
namespace Go.Proofs.YtgogpeamdfmaiaaGreat.proxyNil
open Go.ChangeShapes Go.WideShapes Go.RowKit Go.Proofs.YtgogpeamdfmaiaaGreat.facts Go.Proofs.YtgogpeamdfmaiaaGreat.facts9
set_option maxRecDepth 1000000 in
theorem closed : joinedFacts Tryz.checked.prog 9 Tryz.f9 Rows.proxyNilSpec Rows.proxyNilRow = true := by
  unfold joinedFacts
  exact and2 (and2 (and2 (and2 (and2 (and2 (and2 (and2 (and2 (and2 (and2 (and2 (and2 (and2 (and2 (and2 (and2 (and2 (and2 (and2 (and2 (and2 (and2 (and2 (and2 (and2 (and2 (and2 (and2 (and2 (and2 (q0) p1) p2) q3) q4) q5) p6) q7) p8) q9) q10) q11) q12) q13) q14) q15) q16) q17) q18) q19) q20) q21) q22) q23) p24) p25) q26) q27) q28) q29) q30) q31
theorem own : ownKnob Tryz.prog.godebug = none := by kernel_rfl
theorem slicesOk : ((List.range Tryz.checked.prog.types.size).all fun t => match Tryz.checked.prog.underlying t with | some (.slice e) => decide (0 < Tryz.checked.prog.cellsOf e) | _ => true) = true := by kernel_rfl
set_option maxRecDepth 1000000 in
theorem lifted (os : Os) (started : os.Started) (H : Type) (enc : TypeId × Value → H) :
    ReturnsInHanded {} Tryz.checked os 9 .any (Rows.proxyNilSpec.pre6 enc Tryz.prog Tryz.f9 Rows.proxyNilRow.domain false) (Rows.proxyNilSpec.post enc Tryz.prog Tryz.f9 false true false false) := by
  refine returnsInHanded_of_change_sized (C := Tryz.checked) own started (by kernel_rfl) Tryz.func9
    (ChangeSpec.witness6 (enc := enc) (C := Tryz.checked) false ⟨#[], #[.agg #[.int .u8 0, .bool false, .int .i64 0, .string ⟨#[]⟩, .string ⟨#[]⟩, .string ⟨#[]⟩, .int .i64 0, .int .i64 0, .int .i64 0, .slice none 0 0, .slice none 0 0, .slice none 0 0, .int .i64 0, .int .i64 0, .int .i64 0, .bool false, .slice none 0 0, .slice none 0 0, .slice none 0 0, .string ⟨#[]⟩, .string ⟨#[]⟩, .int .i64 0, .int .i64 0, .int .i64 0, .int .i64 0, .int .i64 0, .int .i64 0, .int .i64 0, .int .i64 0, .int .i64 0, .int .i64 0, .int .i64 0, .int .i64 0, .int .i64 0, .int .i64 0, .bool false, .slice none 0 0, .int .i64 0, .int .i64 0, .slice none 0 0, .int .i64 0, .int .i64 0, .int .i64 0, .string ⟨#[]⟩, .string ⟨#[]⟩, .string ⟨#[]⟩, .int .i64 0, .int .i64 0, .int .i64 0, .slice none 0 0, .slice none 0 0, .slice none 0 0, .int .i64 0, .int .i64 0, .int .i64 0, .bool false, .slice none 0 0, .slice none 0 0, .slice none 0 0, .int .i64 0, .string ⟨#[]⟩, .string ⟨#[]⟩, .int .i64 0, .int .i64 0, .int .i64 0, .int .i64 0, .int .i64 0, .int .i64 0, .bool false, .int .i64 0, .slice none 0 0, .int .i64 0, .int .i64 0, .slice none 0 0, .slice none 0 0, .bool false, .int .i64 0, .int .i64 0, .slice none 0 0, .slice none 0 0, .int .i64 0, .int .i64 0, .int .i64 0, .string ⟨#[]⟩, .string ⟨#[]⟩, .int .i64 0, .string ⟨#[]⟩, .int .i64 0, .int .i64 0, .int .i64 0]], []⟩ 13 (by kernel_rfl) (by kernel_rfl) (by kernel_rfl) (by kernel_rfl)) ?_
  intro W base args ds gs before hval hW _ hsz _
  refine V.law_ok (tb := 4) (k := 11) p1 p2 slicesOk (by kernel_rfl) rfl Tryz.underlying4 rfl ?_ hval hW hsz ?_
  · intro ds hl
    have hl : ds.length = 1 := hl
    obtain ⟨d1, rfl⟩ := V.len_one hl
    rfl
  · intro avs h
    have h : V.All2 (V.TyV Tryz.prog 11) [135] avs := h
    obtain ⟨v1, rfl⟩ := V.len_one (V.all2_len h)
    have h2 := h.1
    obtain ⟨cs, hcs, h3⟩ := V.tyv_struct Tryz.underlying135 h2
    subst hcs
    obtain ⟨m, hm, wm⟩ := V.ty_PAct h3
    subst hm
    exact V.law9_c m wm
theorem holds : Rows.ProxyNilSaid :=
  OpenClaim.holds_of_wide 9 Tryz.f9 rfl rfl rfl rfl rfl rfl rfl ⟨rfl, rfl, rfl, rfl, rfl⟩ rfl rfl rfl rfl rfl (by kernel_rfl) Tryz.func9 closed
    (of_decide_eq_true (by kernel_rfl)) (by unfold Func.isWrapper; first | (rw [if_pos (by decide +kernel)]; kernel_rfl) | (rw [if_neg (by decide +kernel)]; exact ⟨rfl, rfl⟩))
    (fun os started H enc _ => lifted os started H enc)
end Go.Proofs.YtgogpeamdfmaiaaGreat.proxyNil
