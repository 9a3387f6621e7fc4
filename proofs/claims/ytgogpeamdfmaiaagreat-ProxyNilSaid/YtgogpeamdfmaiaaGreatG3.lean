/- S1: copies of slices; the running with them and with talk.Clone pure; what awake comes to. -/
import Derived.Test.YtgogpeamdfmaiaaGreatG2
set_option linter.unusedVariables false
set_option linter.unusedSimpArgs false
namespace Go.V
open Go.Proofs
set_option maxRecDepth 100000
theorem cl128 (t : Bool) (es : List AV) (h : es.length * 56 ≤ 140737488355328) (st : St) : VCalls Tryz.prog 128 [.sl t 5 es] st (fun r st' => r = .sl false 5 es ∧ st' = st) := by
  refine use_row Tryz.func128 (okE [5] [] [] []) tx128 rfl (Nat.le_of_ble_eq_true rfl) fun R hR => ?_
  generalize Tryz.prog = P at *
  generalize hX : std = X at *
  refine ops_use hX fun vv xlt xieq xseq xslt xar xconv xnot xpick xbeq xeqc xlen xslen xget xsget xsub xssub xapp xcat xtoB xofB xrep xrepc xchunks xmx xmn hY arX => ?_
  clear hX
  subst hY
  have hl := arX.lenE es
  cbv
  refine ⟨fun h => ?_, ?_⟩
  · subst h
    cbv
    exact hR _ _ ⟨rfl, rfl⟩
  · cbv
    refine ⟨fun _ => appOkK (N := 0) (arX.lenE _) hl (by omega), ?_⟩
    · refine hR _ _ ⟨?_, rfl⟩
      rw [arX.appE]; rfl
theorem cl129 (t : Bool) (es : List AV) (h : es.length * 64 ≤ 140737488355328) (st : St) : VCalls Tryz.prog 129 [.sl t 5 es] st (fun r st' => r = .sl false 5 es ∧ st' = st) := by
  refine use_row Tryz.func129 (okE [5] [] [] []) tx129 rfl (Nat.le_of_ble_eq_true rfl) fun R hR => ?_
  generalize Tryz.prog = P at *
  generalize hX : std = X at *
  refine ops_use hX fun vv xlt xieq xseq xslt xar xconv xnot xpick xbeq xeqc xlen xslen xget xsget xsub xssub xapp xcat xtoB xofB xrep xrepc xchunks xmx xmn hY arX => ?_
  clear hX
  subst hY
  have hl := arX.lenE es
  cbv
  refine ⟨fun h => ?_, ?_⟩
  · subst h
    cbv
    exact hR _ _ ⟨rfl, rfl⟩
  · cbv
    refine ⟨fun _ => appOkK (N := 0) (arX.lenE _) hl (by omega), ?_⟩
    · refine hR _ _ ⟨?_, rfl⟩
      rw [arX.appE]; rfl
theorem cl136 (t : Bool) (es : List AV) (h : es.length * 80 ≤ 140737488355328) (st : St) : VCalls Tryz.prog 136 [.sl t 8 es] st (fun r st' => r = .sl false 8 es ∧ st' = st) := by
  refine use_row Tryz.func136 (okE [5] [] [] []) tx136 rfl (Nat.le_of_ble_eq_true rfl) fun R hR => ?_
  generalize Tryz.prog = P at *
  generalize hX : std = X at *
  refine ops_use hX fun vv xlt xieq xseq xslt xar xconv xnot xpick xbeq xeqc xlen xslen xget xsget xsub xssub xapp xcat xtoB xofB xrep xrepc xchunks xmx xmn hY arX => ?_
  clear hX
  subst hY
  have hl := arX.lenE es
  cbv
  refine ⟨fun h => ?_, ?_⟩
  · subst h
    cbv
    exact hR _ _ ⟨rfl, rfl⟩
  · cbv
    refine ⟨fun _ => appOkK (N := 0) (arX.lenE _) hl (by omega), ?_⟩
    · refine hR _ _ ⟨?_, rfl⟩
      rw [arX.appE]; rfl
theorem cl140 (t : Bool) (es : List AV) (h : es.length * 32 ≤ 140737488355328) (st : St) : VCalls Tryz.prog 140 [.sl t 2 es] st (fun r st' => r = .sl false 2 es ∧ st' = st) := by
  refine use_row Tryz.func140 (okE [5] [] [] []) tx140 rfl (Nat.le_of_ble_eq_true rfl) fun R hR => ?_
  generalize Tryz.prog = P at *
  generalize hX : std = X at *
  refine ops_use hX fun vv xlt xieq xseq xslt xar xconv xnot xpick xbeq xeqc xlen xslen xget xsget xsub xssub xapp xcat xtoB xofB xrep xrepc xchunks xmx xmn hY arX => ?_
  clear hX
  subst hY
  have hl := arX.lenE es
  cbv
  refine ⟨fun h => ?_, ?_⟩
  · subst h
    cbv
    exact hR _ _ ⟨rfl, rfl⟩
  · cbv
    refine ⟨fun _ => appOkK (N := 0) (arX.lenE _) hl (by omega), ?_⟩
    · refine hR _ _ ⟨?_, rfl⟩
      rw [arX.appE]; rfl
theorem cl142 (t : Bool) (es : List AV) (h : es.length * 24 ≤ 140737488355328) (st : St) : VCalls Tryz.prog 142 [.sl t 3 es] st (fun r st' => r = .sl false 3 es ∧ st' = st) := by
  refine use_row Tryz.func142 (okE [5] [] [] []) tx142 rfl (Nat.le_of_ble_eq_true rfl) fun R hR => ?_
  generalize Tryz.prog = P at *
  generalize hX : std = X at *
  refine ops_use hX fun vv xlt xieq xseq xslt xar xconv xnot xpick xbeq xeqc xlen xslen xget xsget xsub xssub xapp xcat xtoB xofB xrep xrepc xchunks xmx xmn hY arX => ?_
  clear hX
  subst hY
  have hl := arX.lenE es
  cbv
  refine ⟨fun h => ?_, ?_⟩
  · subst h
    cbv
    exact hR _ _ ⟨rfl, rfl⟩
  · cbv
    refine ⟨fun _ => appOkK (N := 0) (arX.lenE _) hl (by omega), ?_⟩
    · refine hR _ _ ⟨?_, rfl⟩
      rw [arX.appE]; rfl
theorem cl217 (t : Bool) (es : List AV) (h : es.length * 40 ≤ 140737488355328) (st : St) : VCalls Tryz.prog 217 [.sl t 3 es] st (fun r st' => r = .sl false 3 es ∧ st' = st) := by
  refine use_row Tryz.func217 (okE [5] [] [] []) tx217 rfl (Nat.le_of_ble_eq_true rfl) fun R hR => ?_
  generalize Tryz.prog = P at *
  generalize hX : std = X at *
  refine ops_use hX fun vv xlt xieq xseq xslt xar xconv xnot xpick xbeq xeqc xlen xslen xget xsget xsub xssub xapp xcat xtoB xofB xrep xrepc xchunks xmx xmn hY arX => ?_
  clear hX
  subst hY
  have hl := arX.lenE es
  cbv
  refine ⟨fun h => ?_, ?_⟩
  · subst h
    cbv
    exact hR _ _ ⟨rfl, rfl⟩
  · cbv
    refine ⟨fun _ => appOkK (N := 0) (arX.lenE _) hl (by omega), ?_⟩
    · refine hR _ _ ⟨?_, rfl⟩
      rw [arX.appE]; rfl
theorem cl218 (t : Bool) (es : List AV) (h : es.length * 1 ≤ 140737488355328) (st : St) : VCalls Tryz.prog 218 [.sl t 1 es] st (fun r st' => r = .sl false 1 es ∧ st' = st) := by
  refine use_row Tryz.func218 (okE [5] [] [] []) tx218 rfl (Nat.le_of_ble_eq_true rfl) fun R hR => ?_
  generalize Tryz.prog = P at *
  generalize hX : std = X at *
  refine ops_use hX fun vv xlt xieq xseq xslt xar xconv xnot xpick xbeq xeqc xlen xslen xget xsget xsub xssub xapp xcat xtoB xofB xrep xrepc xchunks xmx xmn hY arX => ?_
  clear hX
  subst hY
  have hl := arX.lenE es
  cbv
  refine ⟨fun h => ?_, ?_⟩
  · subst h
    cbv
    exact hR _ _ ⟨rfl, rfl⟩
  · cbv
    refine ⟨fun _ => appOkK (N := 0) (arX.lenE _) hl (by omega), ?_⟩
    · refine hR _ _ ⟨?_, rfl⟩
      rw [arX.appE]; rfl
theorem cl219 (t : Bool) (es : List AV) (h : es.length * 88 ≤ 140737488355328) (st : St) : VCalls Tryz.prog 219 [.sl t 9 es] st (fun r st' => r = .sl false 9 es ∧ st' = st) := by
  refine use_row Tryz.func219 (okE [5] [] [] []) tx219 rfl (Nat.le_of_ble_eq_true rfl) fun R hR => ?_
  generalize Tryz.prog = P at *
  generalize hX : std = X at *
  refine ops_use hX fun vv xlt xieq xseq xslt xar xconv xnot xpick xbeq xeqc xlen xslen xget xsget xsub xssub xapp xcat xtoB xofB xrep xrepc xchunks xmx xmn hY arX => ?_
  clear hX
  subst hY
  have hl := arX.lenE es
  cbv
  refine ⟨fun h => ?_, ?_⟩
  · subst h
    cbv
    exact hR _ _ ⟨rfl, rfl⟩
  · cbv
    refine ⟨fun _ => appOkK (N := 0) (arX.lenE _) hl (by omega), ?_⟩
    · refine hR _ _ ⟨?_, rfl⟩
      rw [arX.appE]; rfl
theorem cl234 (t : Bool) (es : List AV) (h : es.length * 1 ≤ 140737488355328) (st : St) : VCalls Tryz.prog 234 [.sl t 1 es] st (fun r st' => r = .sl false 1 es ∧ st' = st) := by
  refine use_row Tryz.func234 (okE [5] [] [] []) tx234 rfl (Nat.le_of_ble_eq_true rfl) fun R hR => ?_
  generalize Tryz.prog = P at *
  generalize hX : std = X at *
  refine ops_use hX fun vv xlt xieq xseq xslt xar xconv xnot xpick xbeq xeqc xlen xslen xget xsget xsub xssub xapp xcat xtoB xofB xrep xrepc xchunks xmx xmn hY arX => ?_
  clear hX
  subst hY
  have hl := arX.lenE es
  cbv
  refine ⟨fun h => ?_, ?_⟩
  · subst h
    cbv
    exact hR _ _ ⟨rfl, rfl⟩
  · cbv
    refine ⟨fun _ => appOkK (N := 0) (arX.lenE _) hl (by omega), ?_⟩
    · refine hR _ _ ⟨?_, rfl⟩
      rw [arX.appE]; rfl
def clT : List (Nat × Nat × Nat) := [(128, 5, 56), (129, 5, 64), (136, 8, 80), (140, 2, 32), (142, 3, 24), (217, 3, 40), (218, 1, 1), (219, 9, 88), (234, 1, 1)]
def clFind (f : Nat) : List (Nat × Nat × Nat) → Option (Nat × Nat)
  | [] => none
  | (g, x) :: r => match Nat.beq f g with | true => some x | false => clFind f r
/-- Copies of slices are known. -/
def knC : Run := fun f args st => match clFind f clT with
  | some (sz, byt) => match args with
    | [.sl _ s es] => match Nat.beq s sz && Nat.ble (es.length * byt) 140737488355328 with
      | true => some (.sl false s es, st)
      | false => none
    | _ => none
  | none => none
def clOk : List (Nat × Nat × Nat) → Prop
  | [] => True
  | (f, sz, byt) :: r => (∀ (t : Bool) (es : List AV), es.length * byt ≤ 140737488355328 → ∀ st, VCalls Tryz.prog f [.sl t sz es] st (fun r st' => r = .sl false sz es ∧ st' = st)) ∧ clOk r
theorem clFind_ok {f : Nat} {x : Nat × Nat} : ∀ {l : List (Nat × Nat × Nat)}, clOk l → clFind f l = some x → ∀ (t : Bool) (es : List AV), es.length * x.2 ≤ 140737488355328 → ∀ st, VCalls Tryz.prog f [.sl t x.1 es] st (fun r st' => r = .sl false x.1 es ∧ st' = st)
  | [], _, h => by cases h
  | (g, y) :: r, ha, h => by
    unfold clFind at h
    split at h
    · next hb => cases h; have := Nat.eq_of_beq_eq_true hb; subst this; exact ha.1
    · exact clFind_ok ha.2 h
theorem clT_ok : clOk clT := ⟨cl128, cl129, cl136, cl140, cl142, cl217, cl218, cl219, cl234, trivial⟩
theorem knC_ok : RunOk Tryz.prog knC := by
  intro f args st r st' h
  unfold knC at h
  split at h
  · next sz byt hf =>
    split at h
    · next t s es =>
      split at h
      · next hb =>
        obtain ⟨h1, h2⟩ := and2 hb
        have := Nat.eq_of_beq_eq_true h1
        subst this
        cases h
        exact clFind_ok clT_ok hf t es (Nat.le_of_ble_eq_true h2) st
      · cases h
    · cases h
  · cases h
/-- The running, no function pure. -/
noncomputable def run0 (n : Nat) : Run := xcall noPb fns0 cf0 knC 1000 n
theorem run0_ok (n : Nat) : RunOk Tryz.prog (run0 n) := xcall_ok (row_fn noPb_ok) knC_ok n
def pu1 : List Nat := [66, 119, 120, 121, 127, 283]
noncomputable def c1_92 : Cf := { cfX std [] [] [] [(3, 0), (4, 0), (5, 0), (7, 0), (8, 0), (9, 0), (12, 0), (13, 0), (14, 0), (17, 0), (18, 0), (19, 0)] with pf := pureT (run0 60) pu1 }
theorem tx1_92 : bodyOk c1_92 Tryz.f92 = true := by kernel_rfl
noncomputable def c1_118 : Cf := { cfX std [] [] [] [(4, 0), (5, 0), (6, 0), (7, 0), (8, 0), (9, 0), (11, 0), (12, 0), (13, 0), (14, 0), (21, 0), (23, 3), (25, 3), (27, 3), (29, 3), (32, 0), (34, 0), (35, 0), (36, 0), (37, 0), (39, 3)] with pf := pureT (run0 60) pu1 }
theorem tx1_118 : bodyOk c1_118 Tryz.f118 = true := by kernel_rfl
noncomputable def c1_206 : Cf := { cfX std [] [] [] [(14, 0), (15, 0), (16, 0), (17, 0), (19, 0), (20, 0), (21, 0), (23, 0), (24, 0), (26, 0), (27, 0), (28, 0), (30, 0), (31, 0), (33, 4), (34, 4), (35, 4), (51, 0), (52, 0), (53, 0), (54, 0), (56, 0), (57, 0), (58, 0), (59, 0), (82, 0), (83, 0), (84, 0), (85, 0), (89, 0), (90, 0), (91, 0), (92, 0), (94, 0), (95, 0), (96, 0), (98, 0), (99, 0), (105, 0), (106, 0), (107, 0), (109, 0), (110, 0), (112, 0), (113, 0), (114, 0), (116, 0), (117, 0), (119, 0), (120, 0), (121, 0), (123, 0), (124, 0), (126, 5), (127, 5), (128, 5), (131, 0), (132, 0), (133, 0), (134, 0), (136, 0), (137, 0), (138, 0), (139, 0), (142, 0), (143, 0), (144, 0), (145, 0)] with pf := pureT (run0 60) pu1 }
theorem tx1_206 : bodyOk c1_206 Tryz.f206 = true := by kernel_rfl
noncomputable def pb1 : Nat → List AV → St → Bool := pureB (run0 60)
noncomputable def fns1 (f : Nat) : Option Func := match Nat.beq f 92 with | true => some Tryz.f92 | false => match Nat.beq f 118 with | true => some Tryz.f118 | false => match Nat.beq f 206 with | true => some Tryz.f206 | false => fns0 f
noncomputable def cf1 (f : Nat) : Cf := match Nat.beq f 92 with | true => c1_92 | false => match Nat.beq f 118 with | true => c1_118 | false => match Nat.beq f 206 with | true => c1_206 | false => cf0 f
theorem fo1_92 : FnOk Tryz.prog pb1 c1_92 92 Tryz.f92 := by
  obtain ⟨h1, h2⟩ := and2 tx1_92
  exact ⟨pb_pure _, Tryz.func92, ok_pure (okE _ _ _ _) (run0_ok 60) _, by simpa using h1, fun c hc => by rw [hc] at h2; exact h2⟩
theorem fo1_118 : FnOk Tryz.prog pb1 c1_118 118 Tryz.f118 := by
  obtain ⟨h1, h2⟩ := and2 tx1_118
  exact ⟨pb_pure _, Tryz.func118, ok_pure (okE _ _ _ _) (run0_ok 60) _, by simpa using h1, fun c hc => by rw [hc] at h2; exact h2⟩
theorem fo1_206 : FnOk Tryz.prog pb1 c1_206 206 Tryz.f206 := by
  obtain ⟨h1, h2⟩ := and2 tx1_206
  exact ⟨pb_pure _, Tryz.func206, ok_pure (okE _ _ _ _) (run0_ok 60) _, by simpa using h1, fun c hc => by rw [hc] at h2; exact h2⟩
theorem row_fn1 (f : Nat) (fn : Func) (hf : fns1 f = some fn) : FnOk Tryz.prog pb1 (cf1 f) f fn := by
  unfold fns1 at hf
  unfold cf1
  split at hf
  · next hb => have := Nat.eq_of_beq_eq_true hb; subst this; cases hf; exact fo1_92
  split at hf
  · next hb => have := Nat.eq_of_beq_eq_true hb; subst this; cases hf; exact fo1_118
  split at hf
  · next hb => have := Nat.eq_of_beq_eq_true hb; subst this; cases hf; exact fo1_206
  exact row_fn (pb0_ok pb1) f fn hf
noncomputable def run1 (n : Nat) : Run := xcall pb1 fns1 cf1 knC 1000 n
theorem run1_ok (n : Nat) : RunOk Tryz.prog (run1 n) := xcall_ok row_fn1 knC_ok n
def pu2 : List Nat := [66, 119, 120, 121, 127, 283, 118]
noncomputable def c2_92 : Cf := { cfX std [] [] [] [(3, 0), (4, 0), (5, 0), (7, 0), (8, 0), (9, 0), (12, 0), (13, 0), (14, 0), (17, 0), (18, 0), (19, 0)] with pf := pureT (run1 60) pu2 }
theorem tx2_92 : bodyOk c2_92 Tryz.f92 = true := by kernel_rfl
noncomputable def c2_118 : Cf := { cfX std [] [] [] [(4, 0), (5, 0), (6, 0), (7, 0), (8, 0), (9, 0), (11, 0), (12, 0), (13, 0), (14, 0), (21, 0), (23, 3), (25, 3), (27, 3), (29, 3), (32, 0), (34, 0), (35, 0), (36, 0), (37, 0), (39, 3)] with pf := pureT (run1 60) pu2 }
theorem tx2_118 : bodyOk c2_118 Tryz.f118 = true := by kernel_rfl
noncomputable def c2_206 : Cf := { cfX std [] [] [] [(14, 0), (15, 0), (16, 0), (17, 0), (19, 0), (20, 0), (21, 0), (23, 0), (24, 0), (26, 0), (27, 0), (28, 0), (30, 0), (31, 0), (33, 4), (34, 4), (35, 4), (51, 0), (52, 0), (53, 0), (54, 0), (56, 0), (57, 0), (58, 0), (59, 0), (82, 0), (83, 0), (84, 0), (85, 0), (89, 0), (90, 0), (91, 0), (92, 0), (94, 0), (95, 0), (96, 0), (98, 0), (99, 0), (105, 0), (106, 0), (107, 0), (109, 0), (110, 0), (112, 0), (113, 0), (114, 0), (116, 0), (117, 0), (119, 0), (120, 0), (121, 0), (123, 0), (124, 0), (126, 5), (127, 5), (128, 5), (131, 0), (132, 0), (133, 0), (134, 0), (136, 0), (137, 0), (138, 0), (139, 0), (142, 0), (143, 0), (144, 0), (145, 0)] with pf := pureT (run1 60) pu2 }
theorem tx2_206 : bodyOk c2_206 Tryz.f206 = true := by kernel_rfl
noncomputable def c2_56 : Cf := { cfX std [3, 24, 38, 52, 92] [] [] [(2, 0), (3, 0), (38, 0), (39, 0), (40, 0), (41, 0), (42, 0), (43, 0), (45, 0), (46, 0), (47, 0), (49, 0), (69, 0), (70, 0), (71, 0), (72, 0), (76, 0), (77, 0), (78, 0), (79, 0), (81, 0), (82, 0), (83, 0), (84, 0), (85, 0), (92, 0), (93, 0), (95, 0), (96, 0), (97, 0), (99, 0), (101, 0), (102, 0), (104, 0), (105, 0), (106, 0), (107, 0)] with pf := pureT (run1 60) pu2 }
theorem tx2_56 : bodyOk c2_56 Tryz.f56 = true := by kernel_rfl
noncomputable def pb2 : Nat → List AV → St → Bool := pureB (run1 60)
noncomputable def fns2 (f : Nat) : Option Func := match Nat.beq f 92 with | true => some Tryz.f92 | false => match Nat.beq f 118 with | true => some Tryz.f118 | false => match Nat.beq f 206 with | true => some Tryz.f206 | false => match Nat.beq f 56 with | true => some Tryz.f56 | false => fns0 f
noncomputable def cf2 (f : Nat) : Cf := match Nat.beq f 92 with | true => c2_92 | false => match Nat.beq f 118 with | true => c2_118 | false => match Nat.beq f 206 with | true => c2_206 | false => match Nat.beq f 56 with | true => c2_56 | false => cf0 f
theorem fo2_92 : FnOk Tryz.prog pb2 c2_92 92 Tryz.f92 := by
  obtain ⟨h1, h2⟩ := and2 tx2_92
  exact ⟨pb_pure _, Tryz.func92, ok_pure (okE _ _ _ _) (run1_ok 60) _, by simpa using h1, fun c hc => by rw [hc] at h2; exact h2⟩
theorem fo2_118 : FnOk Tryz.prog pb2 c2_118 118 Tryz.f118 := by
  obtain ⟨h1, h2⟩ := and2 tx2_118
  exact ⟨pb_pure _, Tryz.func118, ok_pure (okE _ _ _ _) (run1_ok 60) _, by simpa using h1, fun c hc => by rw [hc] at h2; exact h2⟩
theorem fo2_206 : FnOk Tryz.prog pb2 c2_206 206 Tryz.f206 := by
  obtain ⟨h1, h2⟩ := and2 tx2_206
  exact ⟨pb_pure _, Tryz.func206, ok_pure (okE _ _ _ _) (run1_ok 60) _, by simpa using h1, fun c hc => by rw [hc] at h2; exact h2⟩
theorem fo2_56 : FnOk Tryz.prog pb2 c2_56 56 Tryz.f56 := by
  obtain ⟨h1, h2⟩ := and2 tx2_56
  exact ⟨pb_pure _, Tryz.func56, ok_pure (okE _ _ _ _) (run1_ok 60) _, by simpa using h1, fun c hc => by rw [hc] at h2; exact h2⟩
theorem row_fn2 (f : Nat) (fn : Func) (hf : fns2 f = some fn) : FnOk Tryz.prog pb2 (cf2 f) f fn := by
  unfold fns2 at hf
  unfold cf2
  split at hf
  · next hb => have := Nat.eq_of_beq_eq_true hb; subst this; cases hf; exact fo2_92
  split at hf
  · next hb => have := Nat.eq_of_beq_eq_true hb; subst this; cases hf; exact fo2_118
  split at hf
  · next hb => have := Nat.eq_of_beq_eq_true hb; subst this; cases hf; exact fo2_206
  split at hf
  · next hb => have := Nat.eq_of_beq_eq_true hb; subst this; cases hf; exact fo2_56
  exact row_fn (pb0_ok pb2) f fn hf
noncomputable def run2 (n : Nat) : Run := xcall pb2 fns2 cf2 knC 1000 n
theorem run2_ok (n : Nat) : RunOk Tryz.prog (run2 n) := xcall_ok row_fn2 knC_ok n
def isTrue : Option (AV × St) → Bool
  | some (.bool true, _) => true
  | _ => false
theorem true_c {call : Run} (hc : RunOk Tryz.prog call) {f : Nat} (h : isTrue (call f [] []) = true) (st : St) : VCalls Tryz.prog f [] st (fun r st' => r = .bool true ∧ st' = st) := by
  refine VCalls.plain ?_ (fun ρ => by unfold rens; rfl) (fun ρ => by unfold ren; rfl) st
  unfold isTrue at h
  split at h
  · next st' hv => exact (hc _ _ _ _ _ hv).mono fun r s h => h.1
  · cases h
theorem aw15 : isTrue (run1 40 15 [] []) = true := by kernel_rfl
theorem aw36 : isTrue (run2 40 36 [] []) = true := by kernel_rfl
theorem aw49 : isTrue (run2 40 49 [] []) = true := by kernel_rfl
theorem awCaller_c (st : St) : VCalls Tryz.prog 15 [] st (fun r st' => r = .bool true ∧ st' = st) := true_c (run1_ok 40) aw15 st
theorem awMirror_c (st : St) : VCalls Tryz.prog 36 [] st (fun r st' => r = .bool true ∧ st' = st) := true_c (run2_ok 40) aw36 st
theorem awProxy_c (st : St) : VCalls Tryz.prog 49 [] st (fun r st' => r = .bool true ∧ st' = st) := true_c (run2_ok 40) aw49 st
end Go.V
