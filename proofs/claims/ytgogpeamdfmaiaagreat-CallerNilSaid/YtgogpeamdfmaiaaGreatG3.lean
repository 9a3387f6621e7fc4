/- S1: copies of slices; the running with them and with talk.Clone pure; what awake comes to. -/
import Derived.Test.YtgogpeamdfmaiaaGreatG2
set_option linter.unusedVariables false
set_option linter.unusedSimpArgs false
namespace Go.V
open Go.Proofs
set_option maxRecDepth 100000
theorem cl128 (t : Bool) (es : List AV) (h : es.length * 56 ≤ 140737488355328) (st : St) : VCalls Tryz.prog 128 [.sl t 5 es] st (fun r st' => r = .sl false 5 es ∧ st' = st) := by
  refine use_row Tryz.func128 (okE [5] [] [] []) tx128 rfl (Nat.le_of_ble_eq_true rfl) fun R hR => ?_
  generalize Tryz.prog = P at *
  generalize hX : std = X at *
  refine ops_use hX fun vv xlt xieq xseq xslt xar xconv xnot xpick xbeq xeqc xlen xslen xget xsget xsub xssub xapp xcat xtoB xofB xrep xrepc xchunks xmx xmn hY arX => ?_
  clear hX
  subst hY
  have hl := arX.lenE es
  cbv
  refine ⟨fun h => ?_, ?_⟩
  · subst h
    cbv
    exact hR _ _ ⟨rfl, rfl⟩
  · cbv
    refine ⟨fun _ => appOkK (N := 0) (arX.lenE _) hl (by omega), ?_⟩
    · refine hR _ _ ⟨?_, rfl⟩
      rw [arX.appE]; rfl
theorem cl129 (t : Bool) (es : List AV) (h : es.length * 64 ≤ 140737488355328) (st : St) : VCalls Tryz.prog 129 [.sl t 5 es] st (fun r st' => r = .sl false 5 es ∧ st' = st) := by
  refine use_row Tryz.func129 (okE [5] [] [] []) tx129 rfl (Nat.le_of_ble_eq_true rfl) fun R hR => ?_
  generalize Tryz.prog = P at *
  generalize hX : std = X at *
  refine ops_use hX fun vv xlt xieq xseq xslt xar xconv xnot xpick xbeq xeqc xlen xslen xget xsget xsub xssub xapp xcat xtoB xofB xrep xrepc xchunks xmx xmn hY arX => ?_
  clear hX
  subst hY
  have hl := arX.lenE es
  cbv
  refine ⟨fun h => ?_, ?_⟩
  · subst h
    cbv
    exact hR _ _ ⟨rfl, rfl⟩
  · cbv
    refine ⟨fun _ => appOkK (N := 0) (arX.lenE _) hl (by omega), ?_⟩
    · refine hR _ _ ⟨?_, rfl⟩
      rw [arX.appE]; rfl
theorem cl136 (t : Bool) (es : List AV) (h : es.length * 80 ≤ 140737488355328) (st : St) : VCalls Tryz.prog 136 [.sl t 8 es] st (fun r st' => r = .sl false 8 es ∧ st' = st) := by
  refine use_row Tryz.func136 (okE [5] [] [] []) tx136 rfl (Nat.le_of_ble_eq_true rfl) fun R hR => ?_
  generalize Tryz.prog = P at *
  generalize hX : std = X at *
  refine ops_use hX fun vv xlt xieq xseq xslt xar xconv xnot xpick xbeq xeqc xlen xslen xget xsget xsub xssub xapp xcat xtoB xofB xrep xrepc xchunks xmx xmn hY arX => ?_
  clear hX
  subst hY
  have hl := arX.lenE es
  cbv
  refine ⟨fun h => ?_, ?_⟩
  · subst h
    cbv
    exact hR _ _ ⟨rfl, rfl⟩
  · cbv
    refine ⟨fun _ => appOkK (N := 0) (arX.lenE _) hl (by omega), ?_⟩
    · refine hR _ _ ⟨?_, rfl⟩
      rw [arX.appE]; rfl
theorem cl140 (t : Bool) (es : List AV) (h : es.length * 32 ≤ 140737488355328) (st : St) : VCalls Tryz.prog 140 [.sl t 2 es] st (fun r st' => r = .sl false 2 es ∧ st' = st) := by
  refine use_row Tryz.func140 (okE [5] [] [] []) tx140 rfl (Nat.le_of_ble_eq_true rfl) fun R hR => ?_
  generalize Tryz.prog = P at *
  generalize hX : std = X at *
  refine ops_use hX fun vv xlt xieq xseq xslt xar xconv xnot xpick xbeq xeqc xlen xslen xget xsget xsub xssub xapp xcat xtoB xofB xrep xrepc xchunks xmx xmn hY arX => ?_
  clear hX
  subst hY
  have hl := arX.lenE es
  cbv
  refine ⟨fun h => ?_, ?_⟩
  · subst h
    cbv
    exact hR _ _ ⟨rfl, rfl⟩
  · cbv
    refine ⟨fun _ => appOkK (N := 0) (arX.lenE _) hl (by omega), ?_⟩
    · refine hR _ _ ⟨?_, rfl⟩
      rw [arX.appE]; rfl
theorem cl142 (t : Bool) (es : List AV) (h : es.length * 24 ≤ 140737488355328) (st : St) : VCalls Tryz.prog 142 [.sl t 3 es] st (fun r st' => r = .sl false 3 es ∧ st' = st) := by
  refine use_row Tryz.func142 (okE [5] [] [] []) tx142 rfl (Nat.le_of_ble_eq_true rfl) fun R hR => ?_
  generalize Tryz.prog = P at *
  generalize hX : std = X at *
  refine ops_use hX fun vv xlt xieq xseq xslt xar xconv xnot xpick xbeq xeqc xlen xslen xget xsget xsub xssub xapp xcat xtoB xofB xrep xrepc xchunks xmx xmn hY arX => ?_
  clear hX
  subst hY
  have hl := arX.lenE es
  cbv
  refine ⟨fun h => ?_, ?_⟩
  · subst h
    cbv
    exact hR _ _ ⟨rfl, rfl⟩
  · cbv
    refine ⟨fun _ => appOkK (N := 0) (arX.lenE _) hl (by omega), ?_⟩
    · refine hR _ _ ⟨?_, rfl⟩
      rw [arX.appE]; rfl
theorem cl217 (t : Bool) (es : List AV) (h : es.length * 40 ≤ 140737488355328) (st : St) : VCalls Tryz.prog 217 [.sl t 3 es] st (fun r st' => r = .sl false 3 es ∧ st' = st) := by
  refine use_row Tryz.func217 (okE [5] [] [] []) tx217 rfl (Nat.le_of_ble_eq_true rfl) fun R hR => ?_
  generalize Tryz.prog = P at *
  generalize hX : std = X at *
  refine ops_use hX fun vv xlt xieq xseq xslt xar xconv xnot xpick xbeq xeqc xlen xslen xget xsget xsub xssub xapp xcat xtoB xofB xrep xrepc xchunks xmx xmn hY arX => ?_
  clear hX
  subst hY
  have hl := arX.lenE es
  cbv
  refine ⟨fun h => ?_, ?_⟩
  · subst h
    cbv
    exact hR _ _ ⟨rfl, rfl⟩
  · cbv
    refine ⟨fun _ => appOkK (N := 0) (arX.lenE _) hl (by omega), ?_⟩
    · refine hR _ _ ⟨?_, rfl⟩
      rw [arX.appE]; rfl
theorem cl218 (t : Bool) (es : List AV) (h : es.length * 1 ≤ 140737488355328) (st : St) : VCalls Tryz.prog 218 [.sl t 1 es] st (fun r st' => r = .sl false 1 es ∧ st' = st) := by
  refine use_row Tryz.func218 (okE [5] [] [] []) tx218 rfl (Nat.le_of_ble_eq_true rfl) fun R hR => ?_
  generalize Tryz.prog = P at *
  generalize hX : std = X at *
  refine ops_use hX fun vv xlt xieq xseq xslt xar xconv xnot xpick xbeq xeqc xlen xslen xget xsget xsub xssub xapp xcat xtoB xofB xrep xrepc xchunks xmx xmn hY arX => ?_
  clear hX
  subst hY
  have hl := arX.lenE es
  cbv
  refine ⟨fun h => ?_, ?_⟩
  · subst h
    cbv
    exact hR _ _ ⟨rfl, rfl⟩
  · cbv
    refine ⟨fun _ => appOkK (N := 0) (arX.lenE _) hl (by omega), ?_⟩
    · refine hR _ _ ⟨?_, rfl⟩
      rw [arX.appE]; rfl
theorem cl219 (t : Bool) (es : List AV) (h : es.length * 88 ≤ 140737488355328) (st : St) : VCalls Tryz.prog 219 [.sl t 9 es] st (fun r st' => r = .sl false 9 es ∧ st' = st) := by
  refine use_row Tryz.func219 (okE [5] [] [] []) tx219 rfl (Nat.le_of_ble_eq_true rfl) fun R hR => ?_
  generalize Tryz.prog = P at *
  generalize hX : std = X at *
  refine ops_use hX fun vv xlt xieq xseq xslt xar xconv xnot xpick xbeq xeqc xlen xslen xget xsget xsub xssub xapp xcat xtoB xofB xrep xrepc xchunks xmx xmn hY arX => ?_
  clear hX
  subst hY
  have hl := arX.lenE es
  cbv
  refine ⟨fun h => ?_, ?_⟩
  · subst h
    cbv
    exact hR _ _ ⟨rfl, rfl⟩
  · cbv
    refine ⟨fun _ => appOkK (N := 0) (arX.lenE _) hl (by omega), ?_⟩
    · refine hR _ _ ⟨?_, rfl⟩
      rw [arX.appE]; rfl
theorem cl234 (t : Bool) (es : List AV) (h : es.length * 1 ≤ 140737488355328) (st : St) : VCalls Tryz.prog 234 [.sl t 1 es] st (fun r st' => r = .sl false 1 es ∧ st' = st) := by
  refine use_row Tryz.func234 (okE [5] [] [] []) tx234 rfl (Nat.le_of_ble_eq_true rfl) fun R hR => ?_
  generalize Tryz.prog = P at *
  generalize hX : std = X at *
  refine ops_use hX fun vv xlt xieq xseq xslt xar xconv xnot xpick xbeq xeqc xlen xslen xget xsget xsub xssub xapp xcat xtoB xofB xrep xrepc xchunks xmx xmn hY arX => ?_
  clear hX
  subst hY
  have hl := arX.lenE es
  cbv
  refine ⟨fun h => ?_, ?_⟩
  · subst h
    cbv
    exact hR _ _ ⟨rfl, rfl⟩
  · cbv
    refine ⟨fun _ => appOkK (N := 0) (arX.lenE _) hl (by omega), ?_⟩
    · refine hR _ _ ⟨?_, rfl⟩
      rw [arX.appE]; rfl
def clT : List (Nat × Nat × Nat) := [(128, 5, 56), (129, 5, 64), (136, 8, 80), (140, 2, 32), (142, 3, 24), (217, 3, 40), (218, 1, 1), (219, 9, 88), (234, 1, 1)]
def clFind (f : Nat) : List (Nat × Nat × Nat) → Option (Nat × Nat)
  | [] => none
  | (g, x) :: r => match Nat.beq f g with | true => some x | false => clFind f r
/-- Copies of slices are known. -/
def knC : Run := fun f args st => match clFind f clT with
  | some (sz, byt) => match args with
    | [.sl _ s es] => match Nat.beq s sz && Nat.ble (es.length * byt) 140737488355328 with
      | true => some (.sl false s es, st)
      | false => none
    | _ => none
  | none => none
def clOk : List (Nat × Nat × Nat) → Prop
  | [] => True
  | (f, sz, byt) :: r => (∀ (t : Bool) (es : List AV), es.length * byt ≤ 140737488355328 → ∀ st, VCalls Tryz.prog f [.sl t sz es] st (fun r st' => r = .sl false sz es ∧ st' = st)) ∧ clOk r
theorem clFind_ok {f : Nat} {x : Nat × Nat} : ∀ {l : List (Nat × Nat × Nat)}, clOk l → clFind f l = some x → ∀ (t : Bool) (es : List AV), es.length * x.2 ≤ 140737488355328 → ∀ st, VCalls Tryz.prog f [.sl t x.1 es] st (fun r st' => r = .sl false x.1 es ∧ st' = st)
  | [], _, h => by cases h
  | (g, y) :: r, ha, h => by
    unfold clFind at h
    split at h
    · next hb => cases h; have := Nat.eq_of_beq_eq_true hb; subst this; exact ha.1
    · exact clFind_ok ha.2 h
theorem clT_ok : clOk clT := ⟨cl128, cl129, cl136, cl140, cl142, cl217, cl218, cl219, cl234, trivial⟩
theorem knC_ok : RunOk Tryz.prog knC := by
  intro f args st r st' h
  unfold knC at h
  split at h
  · next sz byt hf =>
    split at h
    · next t s es =>
      split at h
      · next hb =>
        obtain ⟨h1, h2⟩ := and2 hb
        have := Nat.eq_of_beq_eq_true h1
        subst this
        cases h
        exact clFind_ok clT_ok hf t es (Nat.le_of_ble_eq_true h2) st
      · cases h
    · cases h
  · cases h
/-- The running, no function pure. -/
noncomputable def run0 (n : Nat) : Run := xcall noPb fns0 cf0 knC 1000 n
theorem run0_ok (n : Nat) : RunOk Tryz.prog (run0 n) := xcall_ok (row_fn noPb_ok) knC_ok n
noncomputable def c92 : Cf := { cfX std [] [] [] [(3, 0), (4, 0), (5, 0), (7, 0), (8, 0), (9, 0), (12, 0), (13, 0), (14, 0), (17, 0), (18, 0), (19, 0)] with pf := pureT (run0 60) [66] }
theorem tx92 : bodyOk c92 Tryz.f92 = true := by kernel_rfl
noncomputable def fns1 (f : Nat) : Option Func := match Nat.beq f 92 with
  | true => some Tryz.f92
  | false => fns0 f
noncomputable def cf1 (f : Nat) : Cf := match Nat.beq f 92 with
  | true => c92
  | false => cf0 f
noncomputable def pb1 : Nat → List AV → Bool := pureB (run0 60)
theorem row_fn1 (f : Nat) (fn : Func) (hf : fns1 f = some fn) : FnOk Tryz.prog pb1 (cf1 f) f fn := by
  unfold fns1 at hf
  unfold cf1
  split at hf
  · next hb =>
    have := Nat.eq_of_beq_eq_true hb
    subst this
    cases hf
    obtain ⟨h1, h2⟩ := and2 tx92
    exact ⟨pb_pure _, Tryz.func92, ok_pure (okE _ _ _ _) (run0_ok 60) _, by simpa using h1, fun c hc => by rw [hc] at h2; exact h2⟩
  · exact row_fn (pb0_ok pb1) f fn hf
/-- The running. -/
noncomputable def run1 (n : Nat) : Run := xcall pb1 fns1 cf1 knC 1000 n
theorem run1_ok (n : Nat) : RunOk Tryz.prog (run1 n) := xcall_ok row_fn1 knC_ok n
def isTrue : Option (AV × St) → Bool
  | some (.bool true, _) => true
  | _ => false
theorem true_c {call : Run} (hc : RunOk Tryz.prog call) {f : Nat} (h : isTrue (call f [] []) = true) (st : St) : VCalls Tryz.prog f [] st (fun r st' => r = .bool true ∧ st' = st) := by
  refine VCalls.plain ?_ (fun ρ => by unfold rens; rfl) (fun ρ => by unfold ren; rfl) st
  unfold isTrue at h
  split at h
  · next st' hv => exact (hc _ _ _ _ _ hv).mono fun r s h => h.1
  · cases h
theorem aw15 : isTrue (run1 40 15 [] []) = true := by kernel_rfl
theorem awCaller_c (st : St) : VCalls Tryz.prog 15 [] st (fun r st' => r = .bool true ∧ st' = st) := true_c (run1_ok 40) aw15 st
end Go.V
