/-
  No cell of these rows narrows 'for every input' (looked for: loops, veiled, ifaces, maps, wideKeys, modest, calm, conditions, laid).
  DERIVED. THE GIVEN ROWS OF THIS SEAT. 12 by the template 'for every input the law returns true; each argument reads behind the call as it read before'; 0 by the template 'total and deterministic' (their statements: YtgogpeamdfmaiaaGreatTotals.lean).
  GIVEN WITH THE SEED: the statements are not yours to turn. If you find one false, say at which input.
  Laid BY PROGRAM, IN A SANDBOX (cutbox-rows.mjs): the forced cells as the released guide's own fill.sh prints them over the translation 3b751abfc48295d2… (all of the seat's roots in one cut). By AI agents, Wed Nov 11 2026. No macro, syntax, notation, axiom, sorry.
-/
import Derived.Test.YtgogpeamdfmaiaaGreatChecked
import GoSem.Claim
import GoSem.ClaimJoined
import GoSem.ClaimMapViews
import Derived.JoinedTies
import Derived.KernelRfl
namespace Go.Proofs.YtgogpeamdfmaiaaGreat
/- THE CELL 'sum', in the pinned program and in every row, IS THE sha256 OF THE DUMP (.gsa) THAT YtgogpeamdfmaiaaGreatProg.lean LOADS. Nothing in Lean hashes anything: it is a label: what it is worth is what the hold of that sum in a sandbox is worth. -/
noncomputable def Tryz.pinned : Pinned := { name := "ytgogpeamdfmaiaagreat", sum := "3b751abfc48295d25597054dac7cfb05c42347a811736dc4e8d81852857e8935", checked := Tryz.checked }
namespace Rows
def none {H : Type} : Left H := { results := [], args := [] }

/-- 'decamplaw24.CallerTurns': WHATEVER THE INPUT: true; the input reads as it did. -/
def callerTurnsSpec : ChangeSpec := { name := "callerTurns", fn := fun _ => fun
  | [d1, d2, d3, d4, d5, d6] => { results := [.lit (.bool true)], args := [d1, d2, d3, d4, d5, d6] }
  | _ => none }
def callerTurnsRow : OpenClaim := { program := "ytgogpeamdfmaiaagreat", sum := "3b751abfc48295d25597054dac7cfb05c42347a811736dc4e8d81852857e8935", func := "decamp/decamplaw24.CallerTurns", spec := "callerTurns", unfollowed := true, recurses := true, apart := false }
def CallerTurnsSaid : Prop := callerTurnsRow.holds Tryz.pinned (OpenSpec.ofChange callerTurnsSpec)

/-- ITS FALSE NEIGHBOUR: 'it returns false'. Refute it at one input. -/
def callerTurnsWrong : ChangeSpec := { name := "callerTurns", fn := fun _ => fun
  | [d1, d2, d3, d4, d5, d6] => { results := [.lit (.bool false)], args := [d1, d2, d3, d4, d5, d6] }
  | _ => none }
def CallerTurnsWrongFalsely : Prop := callerTurnsRow.holds Tryz.pinned (OpenSpec.ofChange callerTurnsWrong)

/-- 'decamplaw24.CallerOnce': WHATEVER THE INPUT: true; the input reads as it did. -/
def callerOnceSpec : ChangeSpec := { name := "callerOnce", fn := fun _ => fun
  | [d1, d2] => { results := [.lit (.bool true)], args := [d1, d2] }
  | _ => none }
def callerOnceRow : OpenClaim := { program := "ytgogpeamdfmaiaagreat", sum := "3b751abfc48295d25597054dac7cfb05c42347a811736dc4e8d81852857e8935", func := "decamp/decamplaw24.CallerOnce", spec := "callerOnce", unfollowed := true, recurses := true, apart := false }
def CallerOnceSaid : Prop := callerOnceRow.holds Tryz.pinned (OpenSpec.ofChange callerOnceSpec)

/-- ITS FALSE NEIGHBOUR: 'it returns false'. Refute it at one input. -/
def callerOnceWrong : ChangeSpec := { name := "callerOnce", fn := fun _ => fun
  | [d1, d2] => { results := [.lit (.bool false)], args := [d1, d2] }
  | _ => none }
def CallerOnceWrongFalsely : Prop := callerOnceRow.holds Tryz.pinned (OpenSpec.ofChange callerOnceWrong)

/-- 'decamplaw24.CallerPlays': WHATEVER THE INPUT: true; the input reads as it did. -/
def callerPlaysSpec : ChangeSpec := { name := "callerPlays", fn := fun _ => fun
  | [d1, d2, d3, d4, d5, d6] => { results := [.lit (.bool true)], args := [d1, d2, d3, d4, d5, d6] }
  | _ => none }
def callerPlaysRow : OpenClaim := { program := "ytgogpeamdfmaiaagreat", sum := "3b751abfc48295d25597054dac7cfb05c42347a811736dc4e8d81852857e8935", func := "decamp/decamplaw24.CallerPlays", spec := "callerPlays", unfollowed := true, recurses := true, apart := false }
def CallerPlaysSaid : Prop := callerPlaysRow.holds Tryz.pinned (OpenSpec.ofChange callerPlaysSpec)

/-- ITS FALSE NEIGHBOUR: 'it returns false'. Refute it at one input. -/
def callerPlaysWrong : ChangeSpec := { name := "callerPlays", fn := fun _ => fun
  | [d1, d2, d3, d4, d5, d6] => { results := [.lit (.bool false)], args := [d1, d2, d3, d4, d5, d6] }
  | _ => none }
def CallerPlaysWrongFalsely : Prop := callerPlaysRow.holds Tryz.pinned (OpenSpec.ofChange callerPlaysWrong)

/-- 'decamplaw24.CallerNil': WHATEVER THE INPUT: true; the input reads as it did. -/
def callerNilSpec : ChangeSpec := { name := "callerNil", fn := fun _ => fun
  | [d1, d2] => { results := [.lit (.bool true)], args := [d1, d2] }
  | _ => none }
def callerNilRow : OpenClaim := { program := "ytgogpeamdfmaiaagreat", sum := "3b751abfc48295d25597054dac7cfb05c42347a811736dc4e8d81852857e8935", func := "decamp/decamplaw24.CallerNil", spec := "callerNil", unfollowed := true, recurses := true, apart := false }
def CallerNilSaid : Prop := callerNilRow.holds Tryz.pinned (OpenSpec.ofChange callerNilSpec)

/-- ITS FALSE NEIGHBOUR: 'it returns false'. Refute it at one input. -/
def callerNilWrong : ChangeSpec := { name := "callerNil", fn := fun _ => fun
  | [d1, d2] => { results := [.lit (.bool false)], args := [d1, d2] }
  | _ => none }
def CallerNilWrongFalsely : Prop := callerNilRow.holds Tryz.pinned (OpenSpec.ofChange callerNilWrong)

/-- 'decamplaw25.MirrorAlone': WHATEVER THE INPUT: true; the input reads as it did. -/
def mirrorAloneSpec : ChangeSpec := { name := "mirrorAlone", fn := fun _ => fun
  | [d1, d2] => { results := [.lit (.bool true)], args := [d1, d2] }
  | _ => none }
def mirrorAloneRow : OpenClaim := { program := "ytgogpeamdfmaiaagreat", sum := "3b751abfc48295d25597054dac7cfb05c42347a811736dc4e8d81852857e8935", func := "decamp/decamplaw25.MirrorAlone", spec := "mirrorAlone", unfollowed := true, recurses := true, apart := false }
def MirrorAloneSaid : Prop := mirrorAloneRow.holds Tryz.pinned (OpenSpec.ofChange mirrorAloneSpec)

/-- ITS FALSE NEIGHBOUR: 'it returns false'. Refute it at one input. -/
def mirrorAloneWrong : ChangeSpec := { name := "mirrorAlone", fn := fun _ => fun
  | [d1, d2] => { results := [.lit (.bool false)], args := [d1, d2] }
  | _ => none }
def MirrorAloneWrongFalsely : Prop := mirrorAloneRow.holds Tryz.pinned (OpenSpec.ofChange mirrorAloneWrong)

/-- 'decamplaw26.ProxyRises': WHATEVER THE INPUT: true; the input reads as it did. -/
def proxyRisesSpec : ChangeSpec := { name := "proxyRises", fn := fun _ => fun
  | [d1, d2, d3] => { results := [.lit (.bool true)], args := [d1, d2, d3] }
  | _ => none }
def proxyRisesRow : OpenClaim := { program := "ytgogpeamdfmaiaagreat", sum := "3b751abfc48295d25597054dac7cfb05c42347a811736dc4e8d81852857e8935", func := "decamp/decamplaw26.ProxyRises", spec := "proxyRises", unfollowed := true, recurses := true, apart := false }
def ProxyRisesSaid : Prop := proxyRisesRow.holds Tryz.pinned (OpenSpec.ofChange proxyRisesSpec)

/-- ITS FALSE NEIGHBOUR: 'it returns false'. Refute it at one input. -/
def proxyRisesWrong : ChangeSpec := { name := "proxyRises", fn := fun _ => fun
  | [d1, d2, d3] => { results := [.lit (.bool false)], args := [d1, d2, d3] }
  | _ => none }
def ProxyRisesWrongFalsely : Prop := proxyRisesRow.holds Tryz.pinned (OpenSpec.ofChange proxyRisesWrong)

/-- 'decamplaw26.ProxyNil': WHATEVER THE INPUT: true; the input reads as it did. -/
def proxyNilSpec : ChangeSpec := { name := "proxyNil", fn := fun _ => fun
  | [d] => { results := [.lit (.bool true)], args := [d] }
  | _ => none }
def proxyNilRow : OpenClaim := { program := "ytgogpeamdfmaiaagreat", sum := "3b751abfc48295d25597054dac7cfb05c42347a811736dc4e8d81852857e8935", func := "decamp/decamplaw26.ProxyNil", spec := "proxyNil", unfollowed := true, recurses := true, apart := false }
def ProxyNilSaid : Prop := proxyNilRow.holds Tryz.pinned (OpenSpec.ofChange proxyNilSpec)

/-- ITS FALSE NEIGHBOUR: 'it returns false'. Refute it at one input. -/
def proxyNilWrong : ChangeSpec := { name := "proxyNil", fn := fun _ => fun
  | [d] => { results := [.lit (.bool false)], args := [d] }
  | _ => none }
def ProxyNilWrongFalsely : Prop := proxyNilRow.holds Tryz.pinned (OpenSpec.ofChange proxyNilWrong)

/-- 'decamplaw26.ProxyOwn': WHATEVER THE INPUT: true; the input reads as it did. -/
def proxyOwnSpec : ChangeSpec := { name := "proxyOwn", fn := fun _ => fun
  | [d1, d2] => { results := [.lit (.bool true)], args := [d1, d2] }
  | _ => none }
def proxyOwnRow : OpenClaim := { program := "ytgogpeamdfmaiaagreat", sum := "3b751abfc48295d25597054dac7cfb05c42347a811736dc4e8d81852857e8935", func := "decamp/decamplaw26.ProxyOwn", spec := "proxyOwn", unfollowed := true, recurses := true, apart := false }
def ProxyOwnSaid : Prop := proxyOwnRow.holds Tryz.pinned (OpenSpec.ofChange proxyOwnSpec)

/-- ITS FALSE NEIGHBOUR: 'it returns false'. Refute it at one input. -/
def proxyOwnWrong : ChangeSpec := { name := "proxyOwn", fn := fun _ => fun
  | [d1, d2] => { results := [.lit (.bool false)], args := [d1, d2] }
  | _ => none }
def ProxyOwnWrongFalsely : Prop := proxyOwnRow.holds Tryz.pinned (OpenSpec.ofChange proxyOwnWrong)

/-- 'decamplaw22.TalkEncodes': WHATEVER THE INPUT: true; the input reads as it did. -/
def talkEncodesSpec : ChangeSpec := { name := "talkEncodes", fn := fun _ => fun
  | [d] => { results := [.lit (.bool true)], args := [d] }
  | _ => none }
def talkEncodesRow : OpenClaim := { program := "ytgogpeamdfmaiaagreat", sum := "3b751abfc48295d25597054dac7cfb05c42347a811736dc4e8d81852857e8935", func := "decamp/decamplaw22.TalkEncodes", spec := "talkEncodes", unfollowed := true, recurses := true, apart := false }
def TalkEncodesSaid : Prop := talkEncodesRow.holds Tryz.pinned (OpenSpec.ofChange talkEncodesSpec)

/-- ITS FALSE NEIGHBOUR: 'it returns false'. Refute it at one input. -/
def talkEncodesWrong : ChangeSpec := { name := "talkEncodes", fn := fun _ => fun
  | [d] => { results := [.lit (.bool false)], args := [d] }
  | _ => none }
def TalkEncodesWrongFalsely : Prop := talkEncodesRow.holds Tryz.pinned (OpenSpec.ofChange talkEncodesWrong)

/-- 'decamplaw22.TalkDecodes': WHATEVER THE INPUT: true; the input reads as it did. -/
def talkDecodesSpec : ChangeSpec := { name := "talkDecodes", fn := fun _ => fun
  | [d] => { results := [.lit (.bool true)], args := [d] }
  | _ => none }
def talkDecodesRow : OpenClaim := { program := "ytgogpeamdfmaiaagreat", sum := "3b751abfc48295d25597054dac7cfb05c42347a811736dc4e8d81852857e8935", func := "decamp/decamplaw22.TalkDecodes", spec := "talkDecodes", unfollowed := true, recurses := true, apart := false }
def TalkDecodesSaid : Prop := talkDecodesRow.holds Tryz.pinned (OpenSpec.ofChange talkDecodesSpec)

/-- ITS FALSE NEIGHBOUR: 'it returns false'. Refute it at one input. -/
def talkDecodesWrong : ChangeSpec := { name := "talkDecodes", fn := fun _ => fun
  | [d] => { results := [.lit (.bool false)], args := [d] }
  | _ => none }
def TalkDecodesWrongFalsely : Prop := talkDecodesRow.holds Tryz.pinned (OpenSpec.ofChange talkDecodesWrong)

/-- 'decamplaw22.TalkRight': WHATEVER THE INPUT: true; the input reads as it did. -/
def talkRightSpec : ChangeSpec := { name := "talkRight", fn := fun _ => fun
  | [d1, d2, d3] => { results := [.lit (.bool true)], args := [d1, d2, d3] }
  | _ => none }
def talkRightRow : OpenClaim := { program := "ytgogpeamdfmaiaagreat", sum := "3b751abfc48295d25597054dac7cfb05c42347a811736dc4e8d81852857e8935", func := "decamp/decamplaw22.TalkRight", spec := "talkRight", unfollowed := true, recurses := true, apart := false }
def TalkRightSaid : Prop := talkRightRow.holds Tryz.pinned (OpenSpec.ofChange talkRightSpec)

/-- ITS FALSE NEIGHBOUR: 'it returns false'. Refute it at one input. -/
def talkRightWrong : ChangeSpec := { name := "talkRight", fn := fun _ => fun
  | [d1, d2, d3] => { results := [.lit (.bool false)], args := [d1, d2, d3] }
  | _ => none }
def TalkRightWrongFalsely : Prop := talkRightRow.holds Tryz.pinned (OpenSpec.ofChange talkRightWrong)

/-- 'decamplaw22.TalkClones': WHATEVER THE INPUT: true; the input reads as it did. -/
def talkClonesSpec : ChangeSpec := { name := "talkClones", fn := fun _ => fun
  | [d] => { results := [.lit (.bool true)], args := [d] }
  | _ => none }
def talkClonesRow : OpenClaim := { program := "ytgogpeamdfmaiaagreat", sum := "3b751abfc48295d25597054dac7cfb05c42347a811736dc4e8d81852857e8935", func := "decamp/decamplaw22.TalkClones", spec := "talkClones", unfollowed := true, recurses := true, apart := false }
def TalkClonesSaid : Prop := talkClonesRow.holds Tryz.pinned (OpenSpec.ofChange talkClonesSpec)

/-- ITS FALSE NEIGHBOUR: 'it returns false'. Refute it at one input. -/
def talkClonesWrong : ChangeSpec := { name := "talkClones", fn := fun _ => fun
  | [d] => { results := [.lit (.bool false)], args := [d] }
  | _ => none }
def TalkClonesWrongFalsely : Prop := talkClonesRow.holds Tryz.pinned (OpenSpec.ofChange talkClonesWrong)

/- THE SECOND FORM. 'bulk': how many values and letters a reading holds, each counted each time it is reached (what is shared counts as often as it is met; a slice's spare places count too). A statement '..UptoSaid' is the law's where the arguments, and the package variables that the reading takes, are together of bulk at most 1048576: NARROWER than '..Said'. Prove '..Said' where nothing that the law and all that it calls make is longer than what came in: it says more and counts as full. Else prove '..UptoSaid'. A law counts once. -/
mutual
def uptoBulk {H : Type} : DataW H → Nat
  | .lit (.string bytes) => bytes.length + 1
  | .lit _ => 1
  | .nil => 1
  | .ptr d => uptoBulk d + 1
  | .slice elems spare => uptoBulkAll elems + uptoBulkAll spare + 1
  | .agg parts => uptoBulkAll parts + 1
  | .iface _ d => uptoBulk d + 1
  | .map entries => uptoBulkEntries entries + 1
  | .held _ => 1
def uptoBulkAll {H : Type} : List (DataW H) → Nat
  | [] => 0
  | d :: r => uptoBulk d + uptoBulkAll r
def uptoBulkEntries {H : Type} : List (Lit × DataW H) → Nat
  | [] => 0
  | x :: r => uptoBulkEntry x + uptoBulkEntries r
def uptoBulkEntry {H : Type} : Lit × DataW H → Nat
  | (.string bytes, d) => bytes.length + uptoBulk d + 1
  | (_, d) => uptoBulk d + 1
 end
def uptoSmall : (H : Type) → List (DataW H) → Bool := fun _ ds => decide (uptoBulkAll ds ≤ 1048576)
def OpenSpec.upto (s : _root_.Go.ChangeSpec) : _root_.Go.OpenSpec := { _root_.Go.OpenSpec.ofChange s with cond := some uptoSmall }

/-- 'decamplaw24.CallerTurns', WHERE WHAT IT READS IS OF BULK AT MOST 1048576: true; the input reads as it did. -/
def callerTurnsUptoRow : OpenClaim := { program := "ytgogpeamdfmaiaagreat", sum := "3b751abfc48295d25597054dac7cfb05c42347a811736dc4e8d81852857e8935", func := "decamp/decamplaw24.CallerTurns", spec := "callerTurns", unfollowed := true, recurses := true, apart := false, narrowed := true }
def CallerTurnsUptoSaid : Prop := callerTurnsUptoRow.holds Tryz.pinned (OpenSpec.upto callerTurnsSpec)

/-- 'decamplaw24.CallerOnce', WHERE WHAT IT READS IS OF BULK AT MOST 1048576: true; the input reads as it did. -/
def callerOnceUptoRow : OpenClaim := { program := "ytgogpeamdfmaiaagreat", sum := "3b751abfc48295d25597054dac7cfb05c42347a811736dc4e8d81852857e8935", func := "decamp/decamplaw24.CallerOnce", spec := "callerOnce", unfollowed := true, recurses := true, apart := false, narrowed := true }
def CallerOnceUptoSaid : Prop := callerOnceUptoRow.holds Tryz.pinned (OpenSpec.upto callerOnceSpec)

/-- 'decamplaw24.CallerPlays', WHERE WHAT IT READS IS OF BULK AT MOST 1048576: true; the input reads as it did. -/
def callerPlaysUptoRow : OpenClaim := { program := "ytgogpeamdfmaiaagreat", sum := "3b751abfc48295d25597054dac7cfb05c42347a811736dc4e8d81852857e8935", func := "decamp/decamplaw24.CallerPlays", spec := "callerPlays", unfollowed := true, recurses := true, apart := false, narrowed := true }
def CallerPlaysUptoSaid : Prop := callerPlaysUptoRow.holds Tryz.pinned (OpenSpec.upto callerPlaysSpec)

/-- 'decamplaw24.CallerNil', WHERE WHAT IT READS IS OF BULK AT MOST 1048576: true; the input reads as it did. -/
def callerNilUptoRow : OpenClaim := { program := "ytgogpeamdfmaiaagreat", sum := "3b751abfc48295d25597054dac7cfb05c42347a811736dc4e8d81852857e8935", func := "decamp/decamplaw24.CallerNil", spec := "callerNil", unfollowed := true, recurses := true, apart := false, narrowed := true }
def CallerNilUptoSaid : Prop := callerNilUptoRow.holds Tryz.pinned (OpenSpec.upto callerNilSpec)

/-- 'decamplaw25.MirrorAlone', WHERE WHAT IT READS IS OF BULK AT MOST 1048576: true; the input reads as it did. -/
def mirrorAloneUptoRow : OpenClaim := { program := "ytgogpeamdfmaiaagreat", sum := "3b751abfc48295d25597054dac7cfb05c42347a811736dc4e8d81852857e8935", func := "decamp/decamplaw25.MirrorAlone", spec := "mirrorAlone", unfollowed := true, recurses := true, apart := false, narrowed := true }
def MirrorAloneUptoSaid : Prop := mirrorAloneUptoRow.holds Tryz.pinned (OpenSpec.upto mirrorAloneSpec)

/-- 'decamplaw26.ProxyRises', WHERE WHAT IT READS IS OF BULK AT MOST 1048576: true; the input reads as it did. -/
def proxyRisesUptoRow : OpenClaim := { program := "ytgogpeamdfmaiaagreat", sum := "3b751abfc48295d25597054dac7cfb05c42347a811736dc4e8d81852857e8935", func := "decamp/decamplaw26.ProxyRises", spec := "proxyRises", unfollowed := true, recurses := true, apart := false, narrowed := true }
def ProxyRisesUptoSaid : Prop := proxyRisesUptoRow.holds Tryz.pinned (OpenSpec.upto proxyRisesSpec)

/-- 'decamplaw26.ProxyNil', WHERE WHAT IT READS IS OF BULK AT MOST 1048576: true; the input reads as it did. -/
def proxyNilUptoRow : OpenClaim := { program := "ytgogpeamdfmaiaagreat", sum := "3b751abfc48295d25597054dac7cfb05c42347a811736dc4e8d81852857e8935", func := "decamp/decamplaw26.ProxyNil", spec := "proxyNil", unfollowed := true, recurses := true, apart := false, narrowed := true }
def ProxyNilUptoSaid : Prop := proxyNilUptoRow.holds Tryz.pinned (OpenSpec.upto proxyNilSpec)

/-- 'decamplaw26.ProxyOwn', WHERE WHAT IT READS IS OF BULK AT MOST 1048576: true; the input reads as it did. -/
def proxyOwnUptoRow : OpenClaim := { program := "ytgogpeamdfmaiaagreat", sum := "3b751abfc48295d25597054dac7cfb05c42347a811736dc4e8d81852857e8935", func := "decamp/decamplaw26.ProxyOwn", spec := "proxyOwn", unfollowed := true, recurses := true, apart := false, narrowed := true }
def ProxyOwnUptoSaid : Prop := proxyOwnUptoRow.holds Tryz.pinned (OpenSpec.upto proxyOwnSpec)

/-- 'decamplaw22.TalkEncodes', WHERE WHAT IT READS IS OF BULK AT MOST 1048576: true; the input reads as it did. -/
def talkEncodesUptoRow : OpenClaim := { program := "ytgogpeamdfmaiaagreat", sum := "3b751abfc48295d25597054dac7cfb05c42347a811736dc4e8d81852857e8935", func := "decamp/decamplaw22.TalkEncodes", spec := "talkEncodes", unfollowed := true, recurses := true, apart := false, narrowed := true }
def TalkEncodesUptoSaid : Prop := talkEncodesUptoRow.holds Tryz.pinned (OpenSpec.upto talkEncodesSpec)

/-- 'decamplaw22.TalkDecodes', WHERE WHAT IT READS IS OF BULK AT MOST 1048576: true; the input reads as it did. -/
def talkDecodesUptoRow : OpenClaim := { program := "ytgogpeamdfmaiaagreat", sum := "3b751abfc48295d25597054dac7cfb05c42347a811736dc4e8d81852857e8935", func := "decamp/decamplaw22.TalkDecodes", spec := "talkDecodes", unfollowed := true, recurses := true, apart := false, narrowed := true }
def TalkDecodesUptoSaid : Prop := talkDecodesUptoRow.holds Tryz.pinned (OpenSpec.upto talkDecodesSpec)

/-- 'decamplaw22.TalkRight', WHERE WHAT IT READS IS OF BULK AT MOST 1048576: true; the input reads as it did. -/
def talkRightUptoRow : OpenClaim := { program := "ytgogpeamdfmaiaagreat", sum := "3b751abfc48295d25597054dac7cfb05c42347a811736dc4e8d81852857e8935", func := "decamp/decamplaw22.TalkRight", spec := "talkRight", unfollowed := true, recurses := true, apart := false, narrowed := true }
def TalkRightUptoSaid : Prop := talkRightUptoRow.holds Tryz.pinned (OpenSpec.upto talkRightSpec)

/-- 'decamplaw22.TalkClones', WHERE WHAT IT READS IS OF BULK AT MOST 1048576: true; the input reads as it did. -/
def talkClonesUptoRow : OpenClaim := { program := "ytgogpeamdfmaiaagreat", sum := "3b751abfc48295d25597054dac7cfb05c42347a811736dc4e8d81852857e8935", func := "decamp/decamplaw22.TalkClones", spec := "talkClones", unfollowed := true, recurses := true, apart := false, narrowed := true }
def TalkClonesUptoSaid : Prop := talkClonesUptoRow.holds Tryz.pinned (OpenSpec.upto talkClonesSpec)

end Rows
end Go.Proofs.YtgogpeamdfmaiaaGreat
