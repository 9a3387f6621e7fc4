/- FP: facts of the program, each by itself. Printed by a program (wip/genfacts.py). -/
import Derived.Test.YtgogpeamdfmaiaaGreatChecked
import Derived.JoinedOf
import Derived.Test.YtgogpeamdfmaiaaGreatRows
set_option linter.unusedVariables false
set_option linter.unusedSimpArgs false
namespace Go.Proofs.YtgogpeamdfmaiaaGreat.facts
theorem p1 : (fun (P : Program) => (laidOutB P : Bool)) Tryz.checked.prog = true := by kernel_rfl
theorem p2 : (fun (P : Program) => (mapsRowed P : Bool)) Tryz.checked.prog = true := by kernel_rfl
theorem p6 : (fun (P : Program) => ((P.stops == []) : Bool)) Tryz.checked.prog = true := by kernel_rfl
theorem p8 : (fun (P : Program) => ((P.stopKnobs == []) : Bool)) Tryz.checked.prog = true := by kernel_rfl
theorem p24 : (fun (P : Program) => (P.stopsHeard : Bool)) Tryz.checked.prog = true := by kernel_rfl
theorem p25 : (fun (P : Program) => (P.mayEnter : Bool)) Tryz.checked.prog = true := by kernel_rfl
end Go.Proofs.YtgogpeamdfmaiaaGreat.facts

/- F9: facts of the law ProxyNil, each by itself. Printed by a program (wip/genfacts.py). -/
namespace Go.Proofs.YtgogpeamdfmaiaaGreat.facts9
open Go.Proofs.YtgogpeamdfmaiaaGreat.facts
theorem q0 : (fun (P : Program) (f : FuncId) (fn : Func) (s : ChangeSpec) (c : OpenClaim) => (c.wf (OpenSpec.ofChange s) : Bool)) Tryz.checked.prog 9 Tryz.f9 Rows.proxyNilSpec Rows.proxyNilRow = true := by kernel_rfl
theorem q3 : (fun (P : Program) (f : FuncId) (fn : Func) (s : ChangeSpec) (c : OpenClaim) => (fn.params.all (P.readableRec ·) : Bool)) Tryz.checked.prog 9 Tryz.f9 Rows.proxyNilSpec Rows.proxyNilRow = true := by kernel_rfl
theorem q4 : (fun (P : Program) (f : FuncId) (fn : Func) (s : ChangeSpec) (c : OpenClaim) => (namedTie P c.named s.vars : Bool)) Tryz.checked.prog 9 Tryz.f9 Rows.proxyNilSpec Rows.proxyNilRow = true := by kernel_rfl
theorem q5 : (fun (P : Program) (f : FuncId) (fn : Func) (s : ChangeSpec) (c : OpenClaim) => ((c.stops == []) : Bool)) Tryz.checked.prog 9 Tryz.f9 Rows.proxyNilSpec Rows.proxyNilRow = true := by kernel_rfl
theorem q7 : (fun (P : Program) (f : FuncId) (fn : Func) (s : ChangeSpec) (c : OpenClaim) => ((c.knobs == []) : Bool)) Tryz.checked.prog 9 Tryz.f9 Rows.proxyNilSpec Rows.proxyNilRow = true := by kernel_rfl
theorem q9 : (fun (P : Program) (f : FuncId) (fn : Func) (s : ChangeSpec) (c : OpenClaim) => ((c.inPlace == P.inPlace f) : Bool)) Tryz.checked.prog 9 Tryz.f9 Rows.proxyNilSpec Rows.proxyNilRow = true := by kernel_rfl
theorem q10 : (fun (P : Program) (f : FuncId) (fn : Func) (s : ChangeSpec) (c : OpenClaim) => ((c.unfollowed == P.unfollowed f) : Bool)) Tryz.checked.prog 9 Tryz.f9 Rows.proxyNilSpec Rows.proxyNilRow = true := by kernel_rfl
theorem q11 : (fun (P : Program) (f : FuncId) (fn : Func) (s : ChangeSpec) (c : OpenClaim) => ((c.recurses == P.recurses f) : Bool)) Tryz.checked.prog 9 Tryz.f9 Rows.proxyNilSpec Rows.proxyNilRow = true := by kernel_rfl
theorem q12 : (fun (P : Program) (f : FuncId) (fn : Func) (s : ChangeSpec) (c : OpenClaim) => ((c.named == P.varsNamed f) : Bool)) Tryz.checked.prog 9 Tryz.f9 Rows.proxyNilSpec Rows.proxyNilRow = true := by kernel_rfl
theorem q13 : (fun (P : Program) (f : FuncId) (fn : Func) (s : ChangeSpec) (c : OpenClaim) => ((c.maps == (fn.params.toList ++ s.plain.varTypes P).any (P.mapsRec ·)) : Bool)) Tryz.checked.prog 9 Tryz.f9 Rows.proxyNilSpec Rows.proxyNilRow = true := by kernel_rfl
theorem q14 : (fun (P : Program) (f : FuncId) (fn : Func) (s : ChangeSpec) (c : OpenClaim) => ((c.ifaces == (fn.params.toList ++ s.plain.varTypes P).any (P.ifacesRec ·)) : Bool)) Tryz.checked.prog 9 Tryz.f9 Rows.proxyNilSpec Rows.proxyNilRow = true := by kernel_rfl
theorem q15 : (fun (P : Program) (f : FuncId) (fn : Func) (s : ChangeSpec) (c : OpenClaim) => ((c.mapsOut == P.mapsAmong fn.resultTypes.toList) : Bool)) Tryz.checked.prog 9 Tryz.f9 Rows.proxyNilSpec Rows.proxyNilRow = true := by kernel_rfl
theorem q16 : (fun (P : Program) (f : FuncId) (fn : Func) (s : ChangeSpec) (c : OpenClaim) => ((c.loops == (fn.params.toList ++ s.plain.varTypes P).any (P.loopsFrom ·)) : Bool)) Tryz.checked.prog 9 Tryz.f9 Rows.proxyNilSpec Rows.proxyNilRow = true := by kernel_rfl
theorem q17 : (fun (P : Program) (f : FuncId) (fn : Func) (s : ChangeSpec) (c : OpenClaim) => ((c.wideKeys == (fn.params.toList ++ s.plain.varTypes P ++ fn.resultTypes.toList).any (P.wideKeysFrom ·)) : Bool)) Tryz.checked.prog 9 Tryz.f9 Rows.proxyNilSpec Rows.proxyNilRow = true := by kernel_rfl
theorem q18 : (fun (P : Program) (f : FuncId) (fn : Func) (s : ChangeSpec) (c : OpenClaim) => (s.vars.all (P.varReadable ·) : Bool)) Tryz.checked.prog 9 Tryz.f9 Rows.proxyNilSpec Rows.proxyNilRow = true := by kernel_rfl
theorem q19 : (fun (P : Program) (f : FuncId) (fn : Func) (s : ChangeSpec) (c : OpenClaim) => (fn.resultTypes.all (fun t => P.readableRec t && decide (t < P.types.size)) : Bool)) Tryz.checked.prog 9 Tryz.f9 Rows.proxyNilSpec Rows.proxyNilRow = true := by kernel_rfl
theorem q20 : (fun (P : Program) (f : FuncId) (fn : Func) (s : ChangeSpec) (c : OpenClaim) => ((c.ifacesOut == fn.resultTypes.toList.any (P.ifacesRec ·)) : Bool)) Tryz.checked.prog 9 Tryz.f9 Rows.proxyNilSpec Rows.proxyNilRow = true := by kernel_rfl
theorem q21 : (fun (P : Program) (f : FuncId) (fn : Func) (s : ChangeSpec) (c : OpenClaim) => ((c.loopsOut == fn.resultTypes.toList.any (P.loopsFrom ·)) : Bool)) Tryz.checked.prog 9 Tryz.f9 Rows.proxyNilSpec Rows.proxyNilRow = true := by kernel_rfl
theorem q22 : (fun (P : Program) (f : FuncId) (fn : Func) (s : ChangeSpec) (c : OpenClaim) => ((c.plainKeys == P.plainKeys) : Bool)) Tryz.checked.prog 9 Tryz.f9 Rows.proxyNilSpec Rows.proxyNilRow = true := by kernel_rfl
theorem q23 : (fun (P : Program) (f : FuncId) (fn : Func) (s : ChangeSpec) (c : OpenClaim) => (c.shortTexts.isNone : Bool)) Tryz.checked.prog 9 Tryz.f9 Rows.proxyNilSpec Rows.proxyNilRow = true := by kernel_rfl
theorem q26 : (fun (P : Program) (f : FuncId) (fn : Func) (s : ChangeSpec) (c : OpenClaim) => ((c.lifted == P.liftsFinal) : Bool)) Tryz.checked.prog 9 Tryz.f9 Rows.proxyNilSpec Rows.proxyNilRow = true := by kernel_rfl
theorem q27 : (fun (P : Program) (f : FuncId) (fn : Func) (s : ChangeSpec) (c : OpenClaim) => ((P.make == some c.make) : Bool)) Tryz.checked.prog 9 Tryz.f9 Rows.proxyNilSpec Rows.proxyNilRow = true := by kernel_rfl
theorem q28 : (fun (P : Program) (f : FuncId) (fn : Func) (s : ChangeSpec) (c : OpenClaim) => ((c.kinds == (if c.domain.isEmpty then [] else fn.params.toList.map fun t => match P.underlying t with | some (.int k) => some k | _ => none)) : Bool)) Tryz.checked.prog 9 Tryz.f9 Rows.proxyNilSpec Rows.proxyNilRow = true := by kernel_rfl
theorem q29 : (fun (P : Program) (f : FuncId) (fn : Func) (s : ChangeSpec) (c : OpenClaim) => ((c.pinned == c.pinnedBy) : Bool)) Tryz.checked.prog 9 Tryz.f9 Rows.proxyNilSpec Rows.proxyNilRow = true := by kernel_rfl
theorem q30 : (fun (P : Program) (f : FuncId) (fn : Func) (s : ChangeSpec) (c : OpenClaim) => ((c.veiled == (fn.params.toList ++ s.plain.varTypes P ++ fn.resultTypes.toList).any (P.veiledRec ·)) : Bool)) Tryz.checked.prog 9 Tryz.f9 Rows.proxyNilSpec Rows.proxyNilRow = true := by kernel_rfl
theorem q31 : (fun (P : Program) (f : FuncId) (fn : Func) (s : ChangeSpec) (c : OpenClaim) => (c.veiledFits P fn.params.toList (fn.params.toList ++ s.plain.varTypes P ++ fn.resultTypes.toList) : Bool)) Tryz.checked.prog 9 Tryz.f9 Rows.proxyNilSpec Rows.proxyNilRow = true := by kernel_rfl
theorem and2 {a b : Bool} (h : a = true) (k : b = true) : (a && b) = true := by rw [h, k]; rfl
end Go.Proofs.YtgogpeamdfmaiaaGreat.facts9
