/- Q1: how few something is: safe, and what it shows. -/
import Derived.Test.YtgogpeamdfmaiaaGreatG3
import Derived.Test.YtgogpeamdfmaiaaGreatG4
set_option linter.unusedVariables false
set_option linter.unusedSimpArgs false
namespace Go.V
open Go.Proofs
set_option maxRecDepth 100000
set_option maxHeartbeats 4000000
theorem few07_c (l : List Ent) (hl : (l.length : Int) ≤ 9223372036854775807) (many : Int) (st : St) : VCalls Tryz.prog 172 [.sl false 3 (l.map Ent.av), .int .i64 many] st (fun r st' => (∃ b, r = .bool b ∧ (b = true → (l.length : Int) ≤ many ∨ l.length = 0)) ∧ st' = st) := by
  have okX : Ok Tryz.prog (cfX std [] [] [] []) := okE [] [] [] []
  refine use_row Tryz.func172 okX tx172 rfl (Nat.le_of_ble_eq_true rfl) fun R hR => ?_
  generalize Tryz.prog = P at *
  generalize hX : std = X at *
  refine ops_use hX fun vv xlt xieq xseq xslt xar xconv xnot xpick xbeq xeqc xlen xslen xget xsget xsub xssub xapp xcat xtoB xofB xrep xrepc xchunks xmx xmn hY arX => ?_
  clear hX
  subst hY
  have lE := arX.lenf Ent.av l
  have gE := fun (j : Nat) (a : Ent) (h : l[j]? = some a) => arX.getf Ent.av h
  generalize hls : l.map Ent.av = ls at *
  cbv
  refine wp_for okX (by kernel_rfl) l.length (fun j (s : Int) => (j : Int) ≤ many ∨ j = 0)
    (fun j s => [(0, .sl false 3 ls), (1, .int .i64 many), (5, .int .i64 s), (8, .int .i64 (vl vv xlen ls)), (9, .int .i64 (j : Int))])
    (fun _ _ => []) 0 (.inr rfl) (fun _ _ => rfl) ⟨rfl, rfl, rfl, rfl, rfl, trivial⟩ trivial ?_
  rintro j s hj hpre K hK hKx
  generalize hjj : (j : Int) = k at *
  cbv
  refine tst (fun h3 => ?_) (fun h3 => ?_)
  · have hjl := arX.inK hjj lE h3
    have ⟨a, ha⟩ := getE (L := l) rfl hjl
    have ga := gE j a ha
    rw [hjj] at ga
    cases a with | mk a1 a2 a3 =>
    unfold Ent.av Ent.cells at ga
    dsimp only at ga
    generalize bs a3 = b3 at *
    cbv
    refine ⟨fun _ => inBK hjj lE hjl, ?_⟩
    simp only [ga]
    cbv
    refine tst (fun h4 => ?_) (fun h4 => ?_)
    · cbv
      refine hKx .ret _ _ _ (by simp) ?_
      clear hKx hK
      cbv
      exact hR _ _ ⟨⟨false, rfl, fun h => by cases h⟩, rfl⟩
    · rw [arX.por, arX.not, arX.lt, arX.lt, Bool.or_eq_false_iff, Bool.not_eq_false', decide_eq_true_eq] at h4
      cbv
      exact hK _ _ _ hjl (.inl (kle hjj h4.1)) ⟨rfl, rfl, rfl, rfl, congrArg (AV.int .i64) (arX.sucK hjj hl hjl), trivial⟩ trivial
  · have hje := arX.outK hjj lE h3 hj
    clear hK
    cbv
    refine hKx (.exit 0) _ _ _ (by simp) ?_
    clear hKx
    cbv
    exact hR _ _ ⟨⟨true, rfl, fun _ => kout hjj hje hpre⟩, rfl⟩
end Go.V

/- Q2: how few a message of Raft's is; how few a command is. -/
namespace Go.V
open Go.Proofs
set_option maxRecDepth 100000
set_option maxHeartbeats 4000000
theorem RMsg.len {m : RMsg} (h : m.wf) : (m.entries.length : Int) ≤ 9223372036854775807 := by
  obtain ⟨_, _, _, _, _, _, _, _, ⟨h, _⟩, _⟩ := h
  rw [reach_eq] at h
  omega
theorem kfew {n : Nat} {m : Nat} (h : (n : Int) ≤ (m : Int) ∨ n = 0) : n ≤ m := by omega
theorem kns {n : Nat} {k : Int} {m : Nat} (h : (n : Int) = k) (h2 : ¬ (m : Int) < k) : n ≤ m := by omega
theorem few11_c (m : RMsg) (hm : m.wf) (st : St) : VCalls Tryz.prog 78 [m.av] st (fun r st' => (∃ b, r = .bool b ∧ (b = true → m.entries.length ≤ 6 ∧ m.snap.data.length ≤ 2000)) ∧ st' = st) := by
  have hf := few07_c m.entries (RMsg.len hm) 6 st
  obtain ⟨m1, m2, m3, m4, m5, m6, m7, m8, m9, mA, mB⟩ := m
  obtain ⟨s1, s2, s3⟩ := mB
  refine use_row Tryz.func78 (okE [] [] [] []) tx78 rfl (Nat.le_of_ble_eq_true rfl) fun R hR => ?_
  clear hm
  dsimp only at *
  unfold RMsg.av RMsg.cells Ent.cells
  dsimp only
  generalize Tryz.prog = P at *
  generalize hX : std = X at *
  refine ops_use hX fun vv xlt xieq xseq xslt xar xconv xnot xpick xbeq xeqc xlen xslen xget xsget xsub xssub xapp xcat xtoB xofB xrep xrepc xchunks xmx xmn hY arX => ?_
  clear hX
  subst hY
  have ls := arX.lenb s3
  generalize hns : (s3.length : Int) = ns at *
  generalize bs s3 = b3 at *
  generalize mA.map Ent.av = mas at *
  cbv
  refine hf.mono ?_
  rintro r st' ⟨⟨b, rfl, hb⟩, rfl⟩
  cbv
  refine hR _ _ ⟨⟨_, rfl, fun h => ?_⟩, rfl⟩
  rw [arX.pand, arX.not, arX.lt, ls, Bool.and_eq_true, Bool.not_eq_true', decide_eq_false_iff_not] at h
  exact ⟨kfew (m := 6) (hb h.1), kns (m := 2000) hns h.2⟩
end Go.V

/- Q3: how few a command is. Printed by a program (wip/genq3.py). -/
namespace Go.V
open Go.Proofs
set_option maxRecDepth 100000
set_option maxHeartbeats 8000000
def Cmd.fewP (c : Cmd) : Prop := c.cmps.length ≤ 10 ∧ c.thn.length ≤ 10 ∧ c.els.length ≤ 10 ∧ c.items.length ≤ 80 ∧ c.sess.length ≤ 20 ∧ c.leases.length ≤ 80
theorem lenB {n b : Nat} (hb : 1 ≤ b) (h : n * b ≤ reachBytes) : (n : Int) ≤ 9223372036854775807 := by
  rw [reach_eq] at h
  have : n * 1 ≤ n * b := Nat.mul_le_mul_left n hb
  omega
structure Cmd.lens (c : Cmd) : Prop where
  z7 : (c.cmps.length : Int) ≤ 9223372036854775807
  z8 : (c.thn.length : Int) ≤ 9223372036854775807
  z9 : (c.els.length : Int) ≤ 9223372036854775807
  z14 : (c.items.length : Int) ≤ 9223372036854775807
  z15 : (c.sess.length : Int) ≤ 9223372036854775807
  each : ∀ s ∈ c.sess, (s.r.items.length : Int) ≤ 9223372036854775807
theorem Reply.lens {r : Reply} (h : r.wf) : (r.items.length : Int) ≤ 9223372036854775807 := by
  obtain ⟨_, _, _, ⟨h, _⟩, _⟩ := h
  exact lenB (by decide) h
theorem Cmd.wf.lens {c : Cmd} (hc : c.wf) : c.lens := by
  obtain ⟨_, _, _, _, _, _, _, ⟨w7, _⟩, ⟨w8, _⟩, ⟨w9, _⟩, _, _, _, ⟨w14, _⟩, ⟨w15, w15e⟩, w16, _⟩ := hc
  exact ⟨lenB (by decide) w7, lenB (by decide) w8, lenB (by decide) w9, lenB (by decide) w14, lenB (by decide) w15, fun s hs => Reply.lens (w15e s hs).2.2⟩
theorem few17_c (c : Cmd) (hc : c.lens) (st : St) : VCalls Tryz.prog 77 [c.av] st (fun r st' => (∃ b, r = .bool b ∧ (b = true → c.fewP)) ∧ st' = st) := by
  obtain ⟨z7, z8, z9, z14, z15, w15e⟩ := hc
  unfold Cmd.fewP
  obtain ⟨c1, c2, c3, c4, c5, c6, c7, cC, cTh, cEl, cE, cT, cO, cD, cI, cS, cL⟩ := c
  have okX : Ok Tryz.prog (cfX std [] [] [] [(62, 1), (70, 1), (107, 1), (120, 1), (143, 1), (151, 1), (159, 1), (175, 1), (183, 1), (191, 1), (207, 1), (215, 1)]) := okE [] [] [] _
  refine use_row Tryz.func77 okX tx77 rfl (Nat.le_of_ble_eq_true rfl) fun R hR => ?_
  dsimp only at *
  unfold Cmd.av Cmd.cells
  dsimp only
  generalize Tryz.prog = P at *
  generalize hX : std = X at *
  refine ops_use hX fun vv xlt xieq xseq xslt xar xconv xnot xpick xbeq xeqc xlen xslen xget xsget xsub xssub xapp xcat xtoB xofB xrep xrepc xchunks xmx xmn hY arX => ?_
  clear hX
  subst hY
  have lC := arX.lenf Cmp.av cC
  have lT := arX.lenf Op.av cTh
  have lE := arX.lenf Op.av cEl
  have lI := arX.lenf Item.av cI
  have lS := arX.lenf Sess.av cS
  have lL := arX.lenf Lease.av cL
  have gC := fun (j : Nat) (a : Cmp) (h : cC[j]? = some a) => arX.getf Cmp.av h
  have gT := fun (j : Nat) (a : Op) (h : cTh[j]? = some a) => arX.getf Op.av h
  have gE := fun (j : Nat) (a : Op) (h : cEl[j]? = some a) => arX.getf Op.av h
  have gI := fun (j : Nat) (a : Item) (h : cI[j]? = some a) => arX.getf Item.av h
  have gS := fun (j : Nat) (a : Sess) (h : cS[j]? = some a) => arX.getf Sess.av h
  have lII := fun (l : List Item) => arX.lenf Item.av l
  have gII := fun (l : List Item) (j : Nat) (a : Item) (h : l[j]? = some a) => arX.getf Item.av h
  generalize hcm : cC.map Cmp.av = cm at *
  generalize hth : cTh.map Op.av = th at *
  generalize hel : cEl.map Op.av = el at *
  generalize hit : cI.map Item.av = it at *
  generalize hse : cS.map Sess.av = se at *
  generalize hle : cL.map Lease.av = le at *
  cbv
  refine tst (fun h => ?_) (fun h => ?_)
  · cbv
    exact hR _ _ ⟨⟨false, rfl, fun h => by cases h⟩, rfl⟩
  · have hP : cC.length ≤ 10 ∧ cTh.length ≤ 10 ∧ cEl.length ≤ 10 ∧ cI.length ≤ 80 ∧ cS.length ≤ 20 ∧ cL.length ≤ 80 := by
      simp only [arX.por, arX.lt, Bool.or_eq_false_iff, decide_eq_false_iff_not] at h
      obtain ⟨⟨⟨⟨⟨h1, h2⟩, h3⟩, h4⟩, h5⟩, h6⟩ := h
      exact ⟨kns (m := 10) lC.symm h1, kns (m := 10) lT.symm h2, kns (m := 10) lE.symm h3, kns (m := 80) lI.symm h4, kns (m := 20) lS.symm h5, kns (m := 80) lL.symm h6⟩
    clear h
    cbv
    refine wp_for okX (by kernel_rfl) cI.length (fun j (s : Int) => True)
      (fun j s => [(1, .lp 1 0), (3, .int .i64 s), (57, .int .i64 (vl vv xlen it)), (58, .int .i64 (j : Int))])
      (fun _ _ => [(1, [.int .i64 c1, .str c2, .str c3, .str c4, .int .i64 c5, .int .i64 c6, .int .i64 c7, .sl false 5 cm, .sl false 5 th, .sl false 5 el, .int .i64 cE, .int .i64 cT, .int .i64 cO, .bool cD, .sl false 8 it, .sl false 9 se, .sl false 3 le])])
      _ trivial (fun _ _ => rfl) ⟨rfl, rfl, rfl, rfl, trivial⟩ ⟨rfl, trivial⟩ ?_
    rintro j s hj _ K hK hKx
    generalize hjj : (j : Int) = k at *
    cbv
    refine tst (fun h3 => ?_) (fun h3 => ?_)
    · have hjl := arX.inK hjj lI h3
      have ⟨a, ha⟩ := getE (L := cI) rfl hjl
      have ga := gI j a ha
      rw [hjj] at ga
      cases a with | mk a1 a2 =>
      cases a2 with | mk v1 v2 v3 v4 v5 v6 v7 =>
      unfold Item.av Item.cells Ver.cells at ga
      dsimp only at ga
      cbv
      refine ⟨fun _ => inBK hjj lI hjl, ?_⟩
      (try simp only [ga])
      cbv
      refine ⟨fun _ => inBK hjj lI hjl, ?_⟩
      (try simp only [ga])
      cbv
      exact hK _ _ _ hjl trivial ⟨rfl, rfl, rfl, congrArg (AV.int .i64) (arX.sucK hjj z14 hjl), trivial⟩ ⟨rfl, trivial⟩
    · clear hK
      cbv
      refine hKx (.exit 0) _ _ _ (by simp) ?_
      clear hKx h3 hjj hj
      cbv
      refine wp_for okX (by kernel_rfl) cS.length (fun j (s : Int) => True)
        (fun j s => [(1, .lp 1 0), (3, .int .i64 s), (82, .int .i64 (vl vv xlen se)), (83, .int .i64 (j : Int))])
        (fun _ _ => [(1, [.int .i64 c1, .str c2, .str c3, .str c4, .int .i64 c5, .int .i64 c6, .int .i64 c7, .sl false 5 cm, .sl false 5 th, .sl false 5 el, .int .i64 cE, .int .i64 cT, .int .i64 cO, .bool cD, .sl false 8 it, .sl false 9 se, .sl false 3 le])])
        s trivial (fun _ _ => rfl) ⟨rfl, rfl, rfl, rfl, trivial⟩ ⟨rfl, trivial⟩ ?_
      rintro j s hj _ K hK hKx
      generalize hjj : (j : Int) = k at *
      cbv
      refine tst (fun h3 => ?_) (fun h3 => ?_)
      · have hjl := arX.inK hjj lS h3
        have ⟨a, ha⟩ := getE (L := cS) rfl hjl
        have ga := gS j a ha
        have zi := w15e a (List.mem_of_getElem? ha)
        rw [hjj] at ga
        cases a with | mk a1 a2 aR =>
        cases aR with | mk r1 r2 r3 r4 rI r6 r7 =>
        unfold Sess.av Sess.cells Reply.cells at ga
        dsimp only at ga zi
        have lJ := lII rI
        have gJ := gII rI
        generalize hri : rI.map Item.av = ri at *
        cbv
        refine ⟨fun _ => inBK hjj lS hjl, ?_⟩
        (try simp only [ga])
        cbv
        refine tst (fun h4 => ?_) (fun h4 => ?_)
        · cbv
          refine hKx .ret _ _ _ (by simp) ?_
          clear hKx hK
          cbv
          exact hR _ _ ⟨⟨false, rfl, fun h => by cases h⟩, rfl⟩
        · cbv
          refine ⟨fun _ => inBK hjj lS hjl, ?_⟩
          (try simp only [ga])
          cbv
          refine wp_for okX (by kernel_rfl) rI.length (fun i (s : Int) => True)
            (fun i s => [(1, .lp 1 0), (3, .int .i64 s), (82, .int .i64 (vl vv xlen se)), (83, .int .i64 k), (5, .int .i64 k), (102, .int .i64 (vl vv xlen ri)), (103, .int .i64 (i : Int))])
            (fun _ _ => [(1, [.int .i64 c1, .str c2, .str c3, .str c4, .int .i64 c5, .int .i64 c6, .int .i64 c7, .sl false 5 cm, .sl false 5 th, .sl false 5 el, .int .i64 cE, .int .i64 cT, .int .i64 cO, .bool cD, .sl false 8 it, .sl false 9 se, .sl false 3 le])])
            s trivial (fun _ _ => rfl) ⟨rfl, rfl, rfl, rfl, rfl, rfl, rfl, trivial⟩ ⟨rfl, trivial⟩ ?_
          rintro i u hi _ K2 hK2 hKx2
          generalize hii : (i : Int) = k2 at *
          cbv
          refine tst (fun h5 => ?_) (fun h5 => ?_)
          · have hil := arX.inK hii lJ h5
            have ⟨b, hb⟩ := getE (L := rI) rfl hil
            have gb := gJ i b hb
            rw [hii] at gb
            cases b with | mk a1 a2 =>
            cases a2 with | mk v1 v2 v3 v4 v5 v6 v7 =>
            unfold Item.av Item.cells Ver.cells at gb
            dsimp only at gb
            cbv
            refine ⟨fun _ => inBK hjj lS hjl, ?_⟩
            (try simp only [ga])
            cbv
            refine ⟨fun _ => inBK hii lJ hil, ?_⟩
            (try simp only [gb])
            cbv
            refine ⟨fun _ => inBK hjj lS hjl, ?_⟩
            (try simp only [ga])
            cbv
            refine ⟨fun _ => inBK hii lJ hil, ?_⟩
            (try simp only [gb])
            cbv
            exact hK2 _ _ _ hil trivial ⟨rfl, rfl, rfl, rfl, rfl, rfl, congrArg (AV.int .i64) (arX.sucK hii zi hil), trivial⟩ ⟨rfl, trivial⟩
          · clear hK2
            cbv
            refine hKx2 (.exit 4) _ _ _ (by simp) ?_
            clear hKx2 h5 hii hi
            cbv
            exact hK _ _ _ hjl trivial ⟨rfl, rfl, rfl, congrArg (AV.int .i64) (arX.sucK hjj z15 hjl), trivial⟩ ⟨rfl, trivial⟩
      · clear hK
        cbv
        refine hKx (.exit 2) _ _ _ (by simp) ?_
        clear hKx h3 hjj hj
        cbv
        refine wp_for okX (by kernel_rfl) cTh.length (fun j (s : Int) => True)
          (fun j s => [(1, .lp 1 0), (3, .int .i64 s), (138, .int .i64 (vl vv xlen th)), (139, .int .i64 (j : Int))])
          (fun _ _ => [(1, [.int .i64 c1, .str c2, .str c3, .str c4, .int .i64 c5, .int .i64 c6, .int .i64 c7, .sl false 5 cm, .sl false 5 th, .sl false 5 el, .int .i64 cE, .int .i64 cT, .int .i64 cO, .bool cD, .sl false 8 it, .sl false 9 se, .sl false 3 le])])
          s trivial (fun _ _ => rfl) ⟨rfl, rfl, rfl, rfl, trivial⟩ ⟨rfl, trivial⟩ ?_
        rintro j s hj _ K hK hKx
        generalize hjj : (j : Int) = k at *
        cbv
        refine tst (fun h3 => ?_) (fun h3 => ?_)
        · have hjl := arX.inK hjj lT h3
          have ⟨a, ha⟩ := getE (L := cTh) rfl hjl
          have ga := gT j a ha
          rw [hjj] at ga
          cases a with | mk a1 a2 a3 a4 a5 =>
          unfold Op.av Op.cells at ga
          dsimp only at ga
          cbv
          refine ⟨fun _ => inBK hjj lT hjl, ?_⟩
          (try simp only [ga])
          cbv
          refine ⟨fun _ => inBK hjj lT hjl, ?_⟩
          (try simp only [ga])
          cbv
          refine ⟨fun _ => inBK hjj lT hjl, ?_⟩
          (try simp only [ga])
          cbv
          exact hK _ _ _ hjl trivial ⟨rfl, rfl, rfl, congrArg (AV.int .i64) (arX.sucK hjj z8 hjl), trivial⟩ ⟨rfl, trivial⟩
        · clear hK
          cbv
          refine hKx (.exit 6) _ _ _ (by simp) ?_
          clear hKx h3 hjj hj
          cbv
          refine wp_for okX (by kernel_rfl) cEl.length (fun j (s : Int) => True)
            (fun j s => [(1, .lp 1 0), (3, .int .i64 s), (170, .int .i64 (vl vv xlen el)), (171, .int .i64 (j : Int))])
            (fun _ _ => [(1, [.int .i64 c1, .str c2, .str c3, .str c4, .int .i64 c5, .int .i64 c6, .int .i64 c7, .sl false 5 cm, .sl false 5 th, .sl false 5 el, .int .i64 cE, .int .i64 cT, .int .i64 cO, .bool cD, .sl false 8 it, .sl false 9 se, .sl false 3 le])])
            s trivial (fun _ _ => rfl) ⟨rfl, rfl, rfl, rfl, trivial⟩ ⟨rfl, trivial⟩ ?_
          rintro j s hj _ K hK hKx
          generalize hjj : (j : Int) = k at *
          cbv
          refine tst (fun h3 => ?_) (fun h3 => ?_)
          · have hjl := arX.inK hjj lE h3
            have ⟨a, ha⟩ := getE (L := cEl) rfl hjl
            have ga := gE j a ha
            rw [hjj] at ga
            cases a with | mk a1 a2 a3 a4 a5 =>
            unfold Op.av Op.cells at ga
            dsimp only at ga
            cbv
            refine ⟨fun _ => inBK hjj lE hjl, ?_⟩
            (try simp only [ga])
            cbv
            refine ⟨fun _ => inBK hjj lE hjl, ?_⟩
            (try simp only [ga])
            cbv
            refine ⟨fun _ => inBK hjj lE hjl, ?_⟩
            (try simp only [ga])
            cbv
            exact hK _ _ _ hjl trivial ⟨rfl, rfl, rfl, congrArg (AV.int .i64) (arX.sucK hjj z9 hjl), trivial⟩ ⟨rfl, trivial⟩
          · clear hK
            cbv
            refine hKx (.exit 8) _ _ _ (by simp) ?_
            clear hKx h3 hjj hj
            cbv
            refine wp_for okX (by kernel_rfl) cC.length (fun j (s : Int) => True)
              (fun j s => [(1, .lp 1 0), (3, .int .i64 s), (202, .int .i64 (vl vv xlen cm)), (203, .int .i64 (j : Int))])
              (fun _ _ => [(1, [.int .i64 c1, .str c2, .str c3, .str c4, .int .i64 c5, .int .i64 c6, .int .i64 c7, .sl false 5 cm, .sl false 5 th, .sl false 5 el, .int .i64 cE, .int .i64 cT, .int .i64 cO, .bool cD, .sl false 8 it, .sl false 9 se, .sl false 3 le])])
              s trivial (fun _ _ => rfl) ⟨rfl, rfl, rfl, rfl, trivial⟩ ⟨rfl, trivial⟩ ?_
            rintro j s hj _ K hK hKx
            generalize hjj : (j : Int) = k at *
            cbv
            refine tst (fun h3 => ?_) (fun h3 => ?_)
            · have hjl := arX.inK hjj lC h3
              have ⟨a, ha⟩ := getE (L := cC) rfl hjl
              have ga := gC j a ha
              rw [hjj] at ga
              cases a with | mk a1 a2 a3 a4 a5 =>
              unfold Cmp.av Cmp.cells at ga
              dsimp only at ga
              cbv
              refine ⟨fun _ => inBK hjj lC hjl, ?_⟩
              (try simp only [ga])
              cbv
              refine ⟨fun _ => inBK hjj lC hjl, ?_⟩
              (try simp only [ga])
              cbv
              exact hK _ _ _ hjl trivial ⟨rfl, rfl, rfl, congrArg (AV.int .i64) (arX.sucK hjj z7 hjl), trivial⟩ ⟨rfl, trivial⟩
            · clear hK
              cbv
              refine hKx (.exit 10) _ _ _ (by simp) ?_
              clear hKx h3 hjj hj
              cbv
              exact hR _ _ ⟨⟨_, rfl, fun _ => hP⟩, rfl⟩
end Go.V

/- Q4: how few a message is. Printed by a program (wip/genq4.py). -/
namespace Go.V
open Go.Proofs
set_option maxRecDepth 100000
set_option maxHeartbeats 8000000
structure TMsg.fewP (m : TMsg) : Prop where
  ents : m.raft.entries.length ≤ 6
  snap : m.raft.snap.data.length ≤ 2000
  cmd : m.job.c.fewP
  items : m.items.length ≤ 80
  sess : m.handed.sess.length ≤ 20
  leases : m.handed.leases.length ≤ 80
  many : m.batches.length ≤ 400
  each : ∀ b ∈ m.batches, b.l.length ≤ 80
theorem few17_items (l : List Item) (h : (l.length : Int) ≤ 9223372036854775807) (st : St) : VCalls Tryz.prog 77 [.agg [.int .i64 0, .str [], .str [], .str [], .int .i64 0, .int .i64 0, .int .i64 0, .sl false 5 [], .sl false 5 [], .sl false 5 [], .int .i64 0, .int .i64 0, .int .i64 0, .bool false, .sl false 8 (l.map Item.av), .sl false 9 [], .sl false 3 []]] st (fun r st' => (∃ b, r = .bool b ∧ (b = true → l.length ≤ 80)) ∧ st' = st) := by
  refine (few17_c ⟨0, [], [], [], 0, 0, 0, [], [], [], 0, 0, 0, false, l, [], []⟩ ⟨by simp, by simp, by simp, h, by simp, by simp⟩ st).mono ?_
  rintro r st' ⟨⟨b, rfl, hb⟩, rfl⟩
  exact ⟨⟨b, rfl, fun h => (hb h).2.2.2.1⟩, rfl⟩
theorem few17_sess (ss : List Sess) (ls : List Lease) (h : (ss.length : Int) ≤ 9223372036854775807) (h2 : ∀ s ∈ ss, (s.r.items.length : Int) ≤ 9223372036854775807) (st : St) : VCalls Tryz.prog 77 [.agg [.int .i64 0, .str [], .str [], .str [], .int .i64 0, .int .i64 0, .int .i64 0, .sl false 5 [], .sl false 5 [], .sl false 5 [], .int .i64 0, .int .i64 0, .int .i64 0, .bool false, .sl false 8 [], .sl false 9 (ss.map Sess.av), .sl false 3 (ls.map Lease.av)]] st (fun r st' => (∃ b, r = .bool b ∧ (b = true → ss.length ≤ 20 ∧ ls.length ≤ 80)) ∧ st' = st) := by
  refine (few17_c ⟨0, [], [], [], 0, 0, 0, [], [], [], 0, 0, 0, false, [], ss, ls⟩ ⟨by simp, by simp, by simp, by simp, h, h2⟩ st).mono ?_
  rintro r st' ⟨⟨b, rfl, hb⟩, rfl⟩
  exact ⟨⟨b, rfl, fun h => ⟨(hb h).2.2.2.2.1, (hb h).2.2.2.2.2⟩⟩, rfl⟩
theorem bstep {j : Nat} {k s n : Int} {N : Nat} (hjj : (j : Int) = k) (hn : n = (N : Int)) (hN : N * 80 ≤ reachBytes) (h0 : k ≤ s) (h1 : s ≤ 400) (hj : 0 ≤ s) : (-9223372036854775808 ≤ s + 1 ∧ s + 1 ≤ 9223372036854775807) ∧ (-9223372036854775808 ≤ s + 1 + n ∧ s + 1 + n ≤ 9223372036854775807) ∧ ((j + 1 : Nat) : Int) ≤ s + 1 + n ∧ 0 ≤ s + 1 + n := by
  rw [reach_eq] at hN
  omega
theorem upto_suc' {α : Type} {L : List α} {p : α → Prop} {j : Nat} {a : α} (ha : L[j]? = some a) (hp : p a) (h : ∀ (i : Nat) (a : α), i < j → L[i]? = some a → p a) : ∀ (i : Nat) (a : α), i < j + 1 → L[i]? = some a → p a := by
  intro i b hi hb
  rcases Nat.lt_or_ge i j with hh | hh
  · exact h i b hh hb
  · obtain rfl : i = j := by omega
    rw [ha] at hb
    obtain rfl := Option.some.inj hb
    exact hp
theorem upto_all {α : Type} {L : List α} {p : α → Prop} {j : Nat} (hj : j = L.length) (h : ∀ (i : Nat) (a : α), i < j → L[i]? = some a → p a) : ∀ a ∈ L, p a := by
  intro a ha
  obtain ⟨i, hi⟩ := List.getElem?_of_mem ha
  exact h i a (by have := (List.getElem?_eq_some_iff.1 hi).1; omega) hi
theorem nlt {a b : Int} (h : ¬ a < b) : b ≤ a := by omega
theorem manyOf {j N : Nat} {k s : Int} (hjj : (j : Int) = k) (hje : j = N) (h0 : k ≤ s) (h1 : s ≤ 400) : N ≤ 400 := by omega
theorem few22_c (m : TMsg) (hm : m.wf) (st : St) : VCalls Tryz.prog 16 [m.av] st (fun r st' => (∃ b, r = .bool b ∧ (b = true → m.fewP)) ∧ st' = st) := by
  obtain ⟨_, _, wR, ⟨_, _, wC⟩, _, wF, wE, _, _, _, _, wRe, ⟨wB, wBe⟩, wI, ⟨_, _, wS, wL⟩, ⟨_, _, _, wM1, wM2, _, wM3, _⟩⟩ := hm
  have h11 := few11_c m.raft wR
  have h17 := few17_c m.job.c wC.lens
  have hIt := few17_items m.items (lenB (by decide) wI.1)
  have hB := fun (b : Batch) (hb : b ∈ m.batches) => few17_items b.l (lenB (by decide) (wBe b hb).2.1)
  have wBl := fun (b : Batch) (hb : b ∈ m.batches) => (wBe b hb).2.1
  have zB := lenB (by decide) wB
  have hSe := few17_sess (⟨0, 0, m.reply⟩ :: m.handed.sess) m.handed.leases
  have hfin := @TMsg.fewP.mk m
  have sz : (1 + m.handed.sess.length) * 88 ≤ 140737488355328 := by have := wS.1; rw [reach_eq] at this; omega
  replace hSe := hSe (by have := lenB (by decide) wS.1; have h := wS.1; rw [reach_eq] at h; rw [List.length_cons]; omega) (by
    intro a ha
    rcases List.mem_cons.1 ha with rfl | ha
    · exact Reply.lens wRe
    · exact Reply.lens (wS.2 a ha).2.2)
  simp only [List.map_cons] at hSe
  unfold TMsg.av TMsg.cells
  obtain ⟨mkind, mrid, ⟨mraft_kind, mraft_frm, mraft_dst, mraft_term, mraft_index, mraft_logTerm, mraft_commit, mraft_ctx, mraft_ok, mraft_entries, ⟨mraft_snap_index, mraft_snap_term, mraft_snap_data⟩⟩, ⟨mjob_client, mjob_sq, ⟨mjob_c_kind, mjob_c_key, mjob_c_fin, mjob_c_value, mjob_c_lease, mjob_c_tTL, mjob_c_rev, mjob_c_cmps, mjob_c_thn, mjob_c_els, mjob_c_epoch, mjob_c_tri, mjob_c_dst, mjob_c_done, mjob_c_items, mjob_c_sess, mjob_c_leases⟩⟩, mclient, mfrm, mfin, mrev, mmost, merr, mhint, ⟨mreply_err, mreply_rev, mreply_ok, mreply_count, mreply_items, mreply_site, mreply_att⟩, mbatches, mitems, mdone, ⟨mhanded_epoch, mhanded_rev, mhanded_sess, mhanded_leases⟩, ⟨mmove_phase, mmove_epoch, mmove_tri, mmove_src, mmove_dst, mmove_pin, mmove_cursor, mmove_ckpt, mmove_frm, mmove_cut⟩⟩ := m
  have okX : Ok Tryz.prog (cfX std [54] [] [] [(2, 0), (35, 1), (38, 0), (39, 1), (40, 1), (44, 0), (45, 1), (50, 0), (51, 1), (55, 1), (56, 1), (59, 1), (60, 1), (65, 0), (66, 1), (69, 1), (73, 1), (74, 1), (78, 1), (79, 1), (83, 1), (84, 1)]) := okE [54] [] [] _
  refine use_row Tryz.func16 okX tx16 rfl (Nat.le_of_ble_eq_true rfl) fun R hR => ?_
  clear wR wC wF wE wRe wB wBe wI wS wL wM1 wM2 wM3
  unfold RMsg.av RMsg.cells Ent.cells at *
  unfold Job.cells Reply.cells Hand.cells Move.cells at *
  unfold Cmd.av Cmd.cells at *
  dsimp only at *
  generalize Tryz.prog = P at *
  generalize hX : std = X at *
  refine ops_use hX fun vv xlt xieq xseq xslt xar xconv xnot xpick xbeq xeqc xlen xslen xget xsget xsub xssub xapp xcat xtoB xofB xrep xrepc xchunks xmx xmn hY arX => ?_
  clear hX
  subst hY
  have lB := arX.lenf Batch.av mbatches
  have gB := fun (j : Nat) (a : Batch) (h : mbatches[j]? = some a) => arX.getf Batch.av h
  have lH := arX.lenf Sess.av mhanded_sess
  have lIt := fun (l : List Item) => arX.lenf Item.av l
  have hadd := @arX.add
  have happ := fun (x : AV) => arX.appE [x] (mhanded_sess.map Sess.av)
  have ptb := arX.pand true
  have pff := arX.pand false
  generalize hmraft_entries_ : mraft_entries.map Ent.av = mraft_entries_ at *
  generalize hmraft_snap_data_ : bs mraft_snap_data = mraft_snap_data_ at *
  generalize hmjob_c_cmps_ : mjob_c_cmps.map Cmp.av = mjob_c_cmps_ at *
  generalize hmjob_c_thn_ : mjob_c_thn.map Op.av = mjob_c_thn_ at *
  generalize hmjob_c_els_ : mjob_c_els.map Op.av = mjob_c_els_ at *
  generalize hmjob_c_items_ : mjob_c_items.map Item.av = mjob_c_items_ at *
  generalize hmjob_c_sess_ : mjob_c_sess.map Sess.av = mjob_c_sess_ at *
  generalize hmjob_c_leases_ : mjob_c_leases.map Lease.av = mjob_c_leases_ at *
  generalize hmreply_items_ : mreply_items.map Item.av = mreply_items_ at *
  generalize hmbatches_ : mbatches.map Batch.av = mbatches_ at *
  generalize hmitems_ : mitems.map Item.av = mitems_ at *
  generalize hmhanded_sess_ : mhanded_sess.map Sess.av = mhanded_sess_ at *
  generalize hmhanded_leases_ : mhanded_leases.map Lease.av = mhanded_leases_ at *
  unfold Sess.av Sess.cells Reply.cells at hSe
  dsimp only at hSe
  simp only [hmreply_items_] at hSe
  cbv
  refine wp_for okX (by kernel_rfl) mbatches.length (fun j (s : Int) => (j : Int) ≤ s ∧ 0 ≤ s ∧ s ≤ 400 ∧ ∀ (i : Nat) (b : Batch), i < j → mbatches[i]? = some b → b.l.length ≤ 80)
    (fun j s => [(1, .lp 1 0), (3, .int .i64 s), (7, .int .i64 (vl vv xlen mbatches_)), (8, .int .i64 (j : Int))])
    (fun _ _ => [(1, [.int .i64 mkind, .int .i64 mrid, .int .i64 mraft_kind, .int .i64 mraft_frm, .int .i64 mraft_dst, .int .i64 mraft_term, .int .i64 mraft_index, .int .i64 mraft_logTerm, .int .i64 mraft_commit, .int .i64 mraft_ctx, .bool mraft_ok, .sl false 3 mraft_entries_, .int .i64 mraft_snap_index, .int .i64 mraft_snap_term, .sl false 1 mraft_snap_data_, .int .i64 mjob_client, .int .i64 mjob_sq, .int .i64 mjob_c_kind, .str mjob_c_key, .str mjob_c_fin, .str mjob_c_value, .int .i64 mjob_c_lease, .int .i64 mjob_c_tTL, .int .i64 mjob_c_rev, .sl false 5 mjob_c_cmps_, .sl false 5 mjob_c_thn_, .sl false 5 mjob_c_els_, .int .i64 mjob_c_epoch, .int .i64 mjob_c_tri, .int .i64 mjob_c_dst, .bool mjob_c_done, .sl false 8 mjob_c_items_, .sl false 9 mjob_c_sess_, .sl false 3 mjob_c_leases_, .int .i64 mclient, .str mfrm, .str mfin, .int .i64 mrev, .int .i64 mmost, .int .i64 merr, .int .i64 mhint, .int .i64 mreply_err, .int .i64 mreply_rev, .bool mreply_ok, .int .i64 mreply_count, .sl false 8 mreply_items_, .int .i64 mreply_site, .int .i64 mreply_att, .sl false 2 mbatches_, .sl false 8 mitems_, .bool mdone, .int .i64 mhanded_epoch, .int .i64 mhanded_rev, .sl false 9 mhanded_sess_, .sl false 3 mhanded_leases_, .int .i64 mmove_phase, .int .i64 mmove_epoch, .int .i64 mmove_tri, .str mmove_src, .str mmove_dst, .int .i64 mmove_pin, .str mmove_cursor, .int .i64 mmove_ckpt, .int .i64 mmove_frm, .int .i64 mmove_cut])]) 0 ⟨by decide, by decide, by decide, fun i b h => absurd h (Nat.not_lt_zero i)⟩ (fun _ _ => rfl) ⟨rfl, rfl, rfl, rfl, trivial⟩ ⟨rfl, trivial⟩ ?_
  rintro j s hj hpre K hK hKx
  have p1 := hpre.1
  have p2 := hpre.2.1
  have p3 := hpre.2.2.1
  have p4 := hpre.2.2.2
  clear hpre
  generalize hjj : (j : Int) = k at *
  cbv
  refine tst (fun h3 => ?_) (fun h3 => ?_)
  · have hjl := arX.inK hjj lB h3
    have ⟨a, ha⟩ := getE (L := mbatches) rfl hjl
    have ga := gB j a ha
    have ham := List.mem_of_getElem? ha
    have hb := hB a ham st
    have hN := wBl a ham
    have p5 := fun (h : a.l.length ≤ 80) => upto_suc' (L := mbatches) (p := fun b => b.l.length ≤ 80) ha h p4
    rw [hjj] at ga
    cases a with | mk a1 a2 =>
    dsimp only at hN p5 hb
    have ln := lIt a2
    have bs' := bstep hjj ln hN p1 p3 p2
    have e1 := hadd (a := s) (b := 1) bs'.1.1 bs'.1.2
    have e2 := hadd (a := s + 1) (b := vl vv xlen (a2.map Item.av)) bs'.2.1.1 bs'.2.1.2
    have q1 := bs'.2.2.1
    have q2 := bs'.2.2.2
    clear bs'
    unfold Batch.av Batch.cells at ga
    dsimp only at ga
    generalize hl2 : a2.map Item.av = l2 at *
    generalize hs2 : s + 1 + vl vv xlen l2 = s2 at *
    cbv
    refine ⟨fun _ => inBK hjj lB hjl, ?_⟩
    simp only [ga]
    cbv
    simp only [e1]
    simp only [e2]
    refine ⟨fun _ => inBK hjj lB hjl, ?_⟩
    (try simp only [ga])
    cbv
    refine tst (fun h4 => ?_) (fun h4 => ?_)
    · rw [arX.not, arX.lt, Bool.not_eq_true', decide_eq_false_iff_not] at h4
      cbv
      refine hb.mono ?_
      rintro r st' ⟨⟨b, rfl, hbb⟩, rfl⟩
      cbv
      refine tst (fun h5 => ?_) (fun h5 => ?_)
      · cbv
        refine hKx .ret _ _ _ (by simp) ?_
        clear hKx hK
        cbv
        exact hR _ _ ⟨⟨false, rfl, fun h => by cases h⟩, rfl⟩
      · rw [arX.por, arX.not, Bool.or_eq_false_iff, Bool.not_eq_false'] at h5
        cbv
        exact hK s2 _ _ hjl ⟨q1, q2, nlt h4, p5 (hbb h5.2)⟩ ⟨rfl, rfl, rfl, congrArg (AV.int .i64) (arX.sucK hjj zB hjl), trivial⟩ ⟨rfl, trivial⟩
    · rw [arX.not, Bool.not_eq_false'] at h4
      have hn := arX.not true
      simp only [h4, hn]
      cbv
      refine ⟨(fun h => by rw [arX.not] at h; cases h), ?_⟩
      refine ⟨fun _ => ⟨rfl⟩, ?_⟩
      refine tstT (arX.por true _) ?_
      cbv
      refine hKx .ret _ _ _ (by simp) ?_
      clear hKx hK
      cbv
      exact hR _ _ ⟨⟨false, rfl, fun h => by cases h⟩, rfl⟩
  · have hje := arX.outK hjj lB h3 hj
    have hmany := manyOf hjj hje p1 p3
    have hall := upto_all hje p4
    clear hK
    cbv
    refine hKx (.exit 0) _ _ _ (by simp) ?_
    clear hKx h3 hjj hj p1 p2 p3 p4
    cbv
    refine (h11 _).mono ?_
    rintro r st' ⟨⟨b1, rfl, hb1⟩, rfl⟩
    cases b1
    · cbv
      repeat (first | (refine ⟨fun _ => ⟨rfl⟩, ?_⟩) | (refine ⟨fun h => absurd h Bool.false_ne_true, ?_⟩) | (simp only [pff, ptb, Bool.false_and, Bool.true_and]; cbv))
      exact hR _ _ ⟨⟨false, rfl, fun h => by cases h⟩, rfl⟩
    cbv
    repeat (first | (refine ⟨fun _ => ⟨rfl⟩, ?_⟩) | (refine ⟨fun h => absurd h Bool.false_ne_true, ?_⟩) | (simp only [pff, ptb, Bool.false_and, Bool.true_and]; cbv))
    refine (h17 _).mono ?_
    rintro r st' ⟨⟨b2, rfl, hb2⟩, rfl⟩
    cases b2
    · cbv
      repeat (first | (refine ⟨fun _ => ⟨rfl⟩, ?_⟩) | (refine ⟨fun h => absurd h Bool.false_ne_true, ?_⟩) | (simp only [pff, ptb, Bool.false_and, Bool.true_and]; cbv))
      exact hR _ _ ⟨⟨false, rfl, fun h => by cases h⟩, rfl⟩
    cbv
    repeat (first | (refine ⟨fun _ => ⟨rfl⟩, ?_⟩) | (refine ⟨fun h => absurd h Bool.false_ne_true, ?_⟩) | (simp only [pff, ptb, Bool.false_and, Bool.true_and]; cbv))
    refine (hIt _).mono ?_
    rintro r st' ⟨⟨b3, rfl, hb3⟩, rfl⟩
    cases b3
    · cbv
      repeat (first | (refine ⟨fun _ => ⟨rfl⟩, ?_⟩) | (refine ⟨fun h => absurd h Bool.false_ne_true, ?_⟩) | (simp only [pff, ptb, Bool.false_and, Bool.true_and]; cbv))
      exact hR _ _ ⟨⟨false, rfl, fun h => by cases h⟩, rfl⟩
    cbv
    repeat (first | (refine ⟨fun _ => ⟨rfl⟩, ?_⟩) | (refine ⟨fun h => absurd h Bool.false_ne_true, ?_⟩) | (simp only [pff, ptb, Bool.false_and, Bool.true_and]; cbv))
    refine ⟨fun _ => appOkK (N := 1) (arX.lenE _) lH (by omega), ?_⟩
    simp only [happ]
    refine (hSe _).mono ?_
    rintro r st' ⟨⟨b4, rfl, hb4⟩, rfl⟩
    cases b4
    · cbv
      repeat (first | (refine ⟨fun _ => ⟨rfl⟩, ?_⟩) | (refine ⟨fun h => absurd h Bool.false_ne_true, ?_⟩) | (simp only [pff, ptb, Bool.false_and, Bool.true_and]; cbv))
      exact hR _ _ ⟨⟨false, rfl, fun h => by cases h⟩, rfl⟩
    cbv
    repeat (first | (refine ⟨fun _ => ⟨rfl⟩, ?_⟩) | (refine ⟨fun h => absurd h Bool.false_ne_true, ?_⟩) | (simp only [pff, ptb, Bool.false_and, Bool.true_and]; cbv))
    refine hR _ _ ⟨⟨_, rfl, fun _ => ?_⟩, rfl⟩
    exact hfin (hb1 rfl).1 (hb1 rfl).2 (hb2 rfl) (hb3 rfl) (Nat.le_trans (Nat.le_succ _) (hb4 rfl).1) (hb4 rfl).2 hmany hall
end Go.V

/- Q7: how few the acts of a proxy are. Printed by a program (wip/genq7.py). -/
namespace Go.V
open Go.Proofs
set_option maxRecDepth 100000
set_option maxHeartbeats 8000000
theorem few26_c (l : List PAct) (hl : (l.length : Int) ≤ 9223372036854775807) (hw : ∀ a ∈ l, a.wf) (many : Int) (st : St) : VCalls Tryz.prog 50 [.sl false 90 (l.map PAct.av), .int .i64 many] st (fun r st' => (∃ b, r = .bool b) ∧ st' = st) := by
  have h22 := fun (a : PAct) (ha : a ∈ l) => few22_c a.m (hw a ha).2.2.2.2
  have h17 := fun (a : PAct) (ha : a ∈ l) => few17_c a.w.c (hw a ha).2.1.1.lens
  clear hw
  have okX : Ok Tryz.prog (cfX std [] [] [] [(22, 0), (28, 0), (29, 0), (37, 0), (38, 0), (47, 0), (48, 0), (55, 0)]) := okE [] [] [] _
  refine use_row Tryz.func50 okX tx50 rfl (Nat.le_of_ble_eq_true rfl) fun R hR => ?_
  generalize Tryz.prog = P at *
  generalize hX : std = X at *
  refine ops_use hX fun vv xlt xieq xseq xslt xar xconv xnot xpick xbeq xeqc xlen xslen xget xsget xsub xssub xapp xcat xtoB xofB xrep xrepc xchunks xmx xmn hY arX => ?_
  clear hX
  subst hY
  have lB := arX.lenf PAct.av l
  have gB := fun (j : Nat) (a : PAct) (h : l[j]? = some a) => arX.getf PAct.av h
  have por0 := arX.por false
  have por1 := arX.por true
  have nt := arX.not true
  have nf := arX.not false
  generalize hls : l.map PAct.av = ls at *
  cbv
  refine wp_for okX (by kernel_rfl) l.length (fun j (s : Int) => True)
    (fun j s => [(0, .sl false 90 ls), (1, .int .i64 many), (5, .int .i64 s), (8, .int .i64 (vl vv xlen ls)), (9, .int .i64 (j : Int))])
    (fun _ _ => []) 0 trivial (fun _ _ => rfl) ⟨rfl, rfl, rfl, rfl, rfl, trivial⟩ trivial ?_
  rintro j s hj _ K hK hKx
  generalize hjj : (j : Int) = k at *
  cbv
  refine tst (fun h3 => ?_) (fun h3 => ?_)
  · have hjl := arX.inK hjj lB h3
    have ⟨a, ha⟩ := getE (L := l) rfl hjl
    have ga := gB j a ha
    have ham := List.mem_of_getElem? ha
    have hb22 := h22 a ham
    have hb17 := h17 a ham
    rw [hjj] at ga
    have hret : ∀ st', R (.bool false) st' = R (.bool false) st' := fun _ => rfl
    clear h22 h17 gB ham
    cases a with | mk akind aw asince afrm am =>
    cases aw with | mk aw_read aw_c aw_frm aw_fin aw_rev aw_most =>
    cases aw_c with | mk aw_c_kind aw_c_key aw_c_fin aw_c_value aw_c_lease aw_c_tTL aw_c_rev aw_c_cmps aw_c_thn aw_c_els aw_c_epoch aw_c_tri aw_c_dst aw_c_done aw_c_items aw_c_sess aw_c_leases =>
    cases am with | mk am_kind am_rid am_raft am_job am_client am_frm am_fin am_rev am_most am_err am_hint am_reply am_batches am_items am_done am_handed am_move =>
    cases am_raft with | mk am_raft_kind am_raft_frm am_raft_dst am_raft_term am_raft_index am_raft_logTerm am_raft_commit am_raft_ctx am_raft_ok am_raft_entries am_raft_snap =>
    cases am_raft_snap with | mk am_raft_snap_index am_raft_snap_term am_raft_snap_data =>
    cases am_job with | mk am_job_client am_job_sq am_job_c =>
    cases am_job_c with | mk am_job_c_kind am_job_c_key am_job_c_fin am_job_c_value am_job_c_lease am_job_c_tTL am_job_c_rev am_job_c_cmps am_job_c_thn am_job_c_els am_job_c_epoch am_job_c_tri am_job_c_dst am_job_c_done am_job_c_items am_job_c_sess am_job_c_leases =>
    cases am_reply with | mk am_reply_err am_reply_rev am_reply_ok am_reply_count am_reply_items am_reply_site am_reply_att =>
    cases am_handed with | mk am_handed_epoch am_handed_rev am_handed_sess am_handed_leases =>
    cases am_move with | mk am_move_phase am_move_epoch am_move_tri am_move_src am_move_dst am_move_pin am_move_cursor am_move_ckpt am_move_frm am_move_cut =>
    unfold PAct.av PAct.cells Want.cells TMsg.cells RMsg.cells Ent.cells Job.cells Cmd.cells Reply.cells Hand.cells Move.cells at ga
    unfold TMsg.av TMsg.cells RMsg.cells Ent.cells Job.cells Cmd.cells Reply.cells Hand.cells Move.cells at hb22
    unfold Cmd.av Cmd.cells at hb17
    dsimp only at ga hb22 hb17
    generalize haw_c_cmps_ : aw_c_cmps.map Cmp.av = aw_c_cmps_ at *
    generalize haw_c_thn_ : aw_c_thn.map Op.av = aw_c_thn_ at *
    generalize haw_c_els_ : aw_c_els.map Op.av = aw_c_els_ at *
    generalize haw_c_items_ : aw_c_items.map Item.av = aw_c_items_ at *
    generalize haw_c_sess_ : aw_c_sess.map Sess.av = aw_c_sess_ at *
    generalize haw_c_leases_ : aw_c_leases.map Lease.av = aw_c_leases_ at *
    generalize ham_raft_entries_ : am_raft_entries.map Ent.av = am_raft_entries_ at *
    generalize ham_raft_snap_data_ : bs am_raft_snap_data = am_raft_snap_data_ at *
    generalize ham_job_c_cmps_ : am_job_c_cmps.map Cmp.av = am_job_c_cmps_ at *
    generalize ham_job_c_thn_ : am_job_c_thn.map Op.av = am_job_c_thn_ at *
    generalize ham_job_c_els_ : am_job_c_els.map Op.av = am_job_c_els_ at *
    generalize ham_job_c_items_ : am_job_c_items.map Item.av = am_job_c_items_ at *
    generalize ham_job_c_sess_ : am_job_c_sess.map Sess.av = am_job_c_sess_ at *
    generalize ham_job_c_leases_ : am_job_c_leases.map Lease.av = am_job_c_leases_ at *
    generalize ham_reply_items_ : am_reply_items.map Item.av = am_reply_items_ at *
    generalize ham_batches_ : am_batches.map Batch.av = am_batches_ at *
    generalize ham_items_ : am_items.map Item.av = am_items_ at *
    generalize ham_handed_sess_ : am_handed_sess.map Sess.av = am_handed_sess_ at *
    generalize ham_handed_leases_ : am_handed_leases.map Lease.av = am_handed_leases_ at *
    cbv
    refine ⟨fun _ => inBK hjj lB hjl, ?_⟩
    simp only [ga]
    cbv
    cases hb1 : vl vv xnot (vl vv xlt k many)
    case true =>
      repeat (first | (refine ⟨fun _ => ⟨rfl⟩, ?_⟩) | (refine ⟨fun h => absurd h Bool.false_ne_true, ?_⟩) | (refine ⟨fun _ => inBK hjj lB hjl, ?_⟩; (try simp only [ga])) | (simp only [ga]; (try cbv)) | (simp only [hb1, por0, por1, nt, nf, Bool.false_or, Bool.true_or, Bool.not_true, Bool.not_false]; cbv))
      refine hKx .ret _ _ _ (by simp) ?_
      clear hKx hK
      cbv
      exact hR _ _ ⟨⟨false, rfl⟩, rfl⟩
    cases hb2 : vl vv xlt 300 (vl vv xar .add .i64 s (vl vv xlen am_batches_))
    case true =>
      repeat (first | (refine ⟨fun _ => ⟨rfl⟩, ?_⟩) | (refine ⟨fun h => absurd h Bool.false_ne_true, ?_⟩) | (refine ⟨fun _ => inBK hjj lB hjl, ?_⟩; (try simp only [ga])) | (simp only [ga]; (try cbv)) | (simp only [hb1, hb2, por0, por1, nt, nf, Bool.false_or, Bool.true_or, Bool.not_true, Bool.not_false]; cbv))
      refine hKx .ret _ _ _ (by simp) ?_
      clear hKx hK
      cbv
      exact hR _ _ ⟨⟨false, rfl⟩, rfl⟩
    repeat (first | (refine ⟨fun _ => ⟨rfl⟩, ?_⟩) | (refine ⟨fun h => absurd h Bool.false_ne_true, ?_⟩) | (refine ⟨fun _ => inBK hjj lB hjl, ?_⟩; (try simp only [ga])) | (simp only [ga]; (try cbv)) | (simp only [hb1, hb2, por0, por1, nt, nf, Bool.false_or, Bool.true_or, Bool.not_true, Bool.not_false]; cbv))
    refine (hb22 _).mono ?_
    rintro r st' ⟨⟨b, rfl, _⟩, rfl⟩
    cases b
    case false =>
      cbv
      repeat (first | (refine ⟨fun _ => ⟨rfl⟩, ?_⟩) | (refine ⟨fun h => absurd h Bool.false_ne_true, ?_⟩) | (refine ⟨fun _ => inBK hjj lB hjl, ?_⟩; (try simp only [ga])) | (simp only [ga]; (try cbv)) | (simp only [hb1, hb2, por0, por1, nt, nf, Bool.false_or, Bool.true_or, Bool.not_true, Bool.not_false]; cbv))
      refine hKx .ret _ _ _ (by simp) ?_
      clear hKx hK
      cbv
      exact hR _ _ ⟨⟨false, rfl⟩, rfl⟩
    cbv
    repeat (first | (refine ⟨fun _ => ⟨rfl⟩, ?_⟩) | (refine ⟨fun h => absurd h Bool.false_ne_true, ?_⟩) | (refine ⟨fun _ => inBK hjj lB hjl, ?_⟩; (try simp only [ga])) | (simp only [ga]; (try cbv)) | (simp only [hb1, hb2, por0, por1, nt, nf, Bool.false_or, Bool.true_or, Bool.not_true, Bool.not_false]; cbv))
    refine (hb17 _).mono ?_
    rintro r st' ⟨⟨b, rfl, _⟩, rfl⟩
    cases b
    case false =>
      cbv
      repeat (first | (refine ⟨fun _ => ⟨rfl⟩, ?_⟩) | (refine ⟨fun h => absurd h Bool.false_ne_true, ?_⟩) | (refine ⟨fun _ => inBK hjj lB hjl, ?_⟩; (try simp only [ga])) | (simp only [ga]; (try cbv)) | (simp only [hb1, hb2, por0, por1, nt, nf, Bool.false_or, Bool.true_or, Bool.not_true, Bool.not_false]; cbv))
      refine hKx .ret _ _ _ (by simp) ?_
      clear hKx hK
      cbv
      exact hR _ _ ⟨⟨false, rfl⟩, rfl⟩
    cbv
    repeat (first | (refine ⟨fun _ => ⟨rfl⟩, ?_⟩) | (refine ⟨fun h => absurd h Bool.false_ne_true, ?_⟩) | (refine ⟨fun _ => inBK hjj lB hjl, ?_⟩; (try simp only [ga])) | (simp only [ga]; (try cbv)) | (simp only [hb1, hb2, por0, por1, nt, nf, Bool.false_or, Bool.true_or, Bool.not_true, Bool.not_false]; cbv))
    refine tst (fun h5 => ?_) (fun h5 => ?_)
    · cbv
      refine hKx .ret _ _ _ (by simp) ?_
      clear hKx hK
      cbv
      exact hR _ _ ⟨⟨false, rfl⟩, rfl⟩
    · cbv
      exact hK _ _ _ hjl trivial ⟨rfl, rfl, rfl, rfl, congrArg (AV.int .i64) (arX.sucK hjj hl hjl), trivial⟩ trivial
  · have hje := arX.outK hjj lB h3 hj
    clear hK
    cbv
    refine hKx (.exit 0) _ _ _ (by simp) ?_
    clear hKx
    cbv
    exact hR _ _ ⟨⟨true, rfl⟩, rfl⟩
end Go.V

/- Q8: a nil proxy. -/
namespace Go.V
open Go.Proofs
set_option maxRecDepth 100000
set_option maxHeartbeats 8000000
theorem run2_c {f : Nat} {args : List AV} {st st' : St} {r : AV} (h : run2 40 f args st = some (r, st')) : VCalls Tryz.prog f args st (fun r2 s2 => r2 = r ∧ s2 = st') := run2_ok 40 _ _ _ _ _ h
theorem to22_c (m : TMsg) (st : St) : VCalls Tryz.prog 21 [m.av] st (fun r s => r = m.av ∧ s = st) := run2_c (by kernel_rfl)
theorem nilBegin_c (w : Want) (st : St) : VCalls Tryz.prog 58 [.nilp, w.av] st (fun r s => r = .tup [.agg [.int .i64 1, .int .i64 0, .bool false, .int .i64 0, .sl false 8 [], .int .i64 0, .int .i64 0], .bool true] ∧ s = st) := run2_c (by kernel_rfl)
theorem nilPHear_c (n : Int) (m : TMsg) (st : St) : VCalls Tryz.prog 62 [.nilp, .int .i64 n, m.av] st (fun r s => r = .tup [.agg [.int .i64 0, .int .i64 0, .bool false, .int .i64 0, .sl false 8 [], .int .i64 0, .int .i64 0], .bool false] ∧ s = st) := run2_c (by kernel_rfl)
theorem nilTold_c (st : St) : VCalls Tryz.prog 64 [.nilp] st (fun r s => r = .tup [.sl false 2 [], .int .i64 1] ∧ s = st) := run2_c (by kernel_rfl)
theorem nilWatch_c (n : Int) (st : St) : VCalls Tryz.prog 55 [.nilp, .int .i64 n] st (fun r s => r = .int .i64 1 ∧ s = st) := run2_c (by kernel_rfl)
theorem nilPTick_c (st : St) : VCalls Tryz.prog 56 [.nilp] st (fun r s => r = .sl false 67 [] ∧ s = st) := run2_c (by kernel_rfl)
theorem nilState_c (st : St) : VCalls Tryz.prog 65 [.nilp] st (fun r s => r = .agg [.int .i64 0, .bool false, .bool false, .int .i64 0, .int .i64 0, .int .i64 0, .int .i64 0] ∧ s = st) := run2_c (by kernel_rfl)
end Go.V

/- Q9: the contract of the law ProxyNil. Printed by a program (wip/genq9.py). -/
namespace Go.V
open Go.Proofs
set_option maxRecDepth 100000
set_option maxHeartbeats 8000000
theorem law9_c (a : PAct) (ha : a.wf) : VCalls Tryz.prog 9 [a.av] [] (fun r _ => r = .bool true) := by
  have haw := awProxy_c
  have hfew := few26_c [a] (by simp) (fun b hb => by rw [List.mem_singleton] at hb; rw [hb]; exact ha) 1
  have hto := to22_c a.m
  have hbe := nilBegin_c a.w
  have hhe := nilPHear_c a.frm a.m
  have hte := nilTold_c
  have hwa := nilWatch_c a.since
  have hti := nilPTick_c
  have hsa := nilState_c
  clear ha
  rw [List.map_cons, List.map_nil] at hfew
  have okX : Ok Tryz.prog (cfX std [] [] [] [(7, 0), (26, 0), (28, 1), (30, 1)]) := okE [] [] [] _
  refine use_row Tryz.func9 okX tx9 rfl (Nat.le_of_ble_eq_true rfl) fun R hR => ?_
  cases a with | mk akind aw asince afrm am =>
  cases aw with | mk aw_read aw_c aw_frm aw_fin aw_rev aw_most =>
  cases aw_c with | mk aw_c_kind aw_c_key aw_c_fin aw_c_value aw_c_lease aw_c_tTL aw_c_rev aw_c_cmps aw_c_thn aw_c_els aw_c_epoch aw_c_tri aw_c_dst aw_c_done aw_c_items aw_c_sess aw_c_leases =>
  cases am with | mk am_kind am_rid am_raft am_job am_client am_frm am_fin am_rev am_most am_err am_hint am_reply am_batches am_items am_done am_handed am_move =>
  cases am_raft with | mk am_raft_kind am_raft_frm am_raft_dst am_raft_term am_raft_index am_raft_logTerm am_raft_commit am_raft_ctx am_raft_ok am_raft_entries am_raft_snap =>
  cases am_raft_snap with | mk am_raft_snap_index am_raft_snap_term am_raft_snap_data =>
  cases am_job with | mk am_job_client am_job_sq am_job_c =>
  cases am_job_c with | mk am_job_c_kind am_job_c_key am_job_c_fin am_job_c_value am_job_c_lease am_job_c_tTL am_job_c_rev am_job_c_cmps am_job_c_thn am_job_c_els am_job_c_epoch am_job_c_tri am_job_c_dst am_job_c_done am_job_c_items am_job_c_sess am_job_c_leases =>
  cases am_reply with | mk am_reply_err am_reply_rev am_reply_ok am_reply_count am_reply_items am_reply_site am_reply_att =>
  cases am_handed with | mk am_handed_epoch am_handed_rev am_handed_sess am_handed_leases =>
  cases am_move with | mk am_move_phase am_move_epoch am_move_tri am_move_src am_move_dst am_move_pin am_move_cursor am_move_ckpt am_move_frm am_move_cut =>
  unfold PAct.av PAct.cells Want.cells TMsg.cells RMsg.cells Ent.cells Job.cells Cmd.cells Reply.cells Hand.cells Move.cells at hfew ⊢
  unfold Want.av Want.cells Cmd.cells at hbe
  unfold TMsg.av TMsg.cells RMsg.cells Ent.cells Job.cells Cmd.cells Reply.cells Hand.cells Move.cells at hto hhe
  dsimp only at *
  generalize Tryz.prog = P at *
  generalize hX : std = X at *
  refine ops_use hX fun vv xlt xieq xseq xslt xar xconv xnot xpick xbeq xeqc xlen xslen xget xsget xsub xssub xapp xcat xtoB xofB xrep xrepc xchunks xmx xmn hY arX => ?_
  clear hX
  subst hY
  have ptb := arX.pand true
  have por := arX.por false
  have nt := arX.not true
  have nf := arX.not false
  have e1 := arX.ieq 1 1
  have e0 := arX.ieq 0 0
  have l0 := arX.lenE []
  have e2 : vl vv xieq (Int.ofNat 0) 0 = true := by rw [arX.ieq]; rfl
  have eqz : vl vv xeqc [.int .i64 0, .bool false, .bool false, .int .i64 0, .int .i64 0, .int .i64 0, .int .i64 0] [.int .i64 0, .bool false, .bool false, .int .i64 0, .int .i64 0, .int .i64 0, .int .i64 0] = true := by rw [arX.eeqc]; rfl
  generalize haw_c_cmps_ : aw_c_cmps.map Cmp.av = aw_c_cmps_ at *
  generalize haw_c_thn_ : aw_c_thn.map Op.av = aw_c_thn_ at *
  generalize haw_c_els_ : aw_c_els.map Op.av = aw_c_els_ at *
  generalize haw_c_items_ : aw_c_items.map Item.av = aw_c_items_ at *
  generalize haw_c_sess_ : aw_c_sess.map Sess.av = aw_c_sess_ at *
  generalize haw_c_leases_ : aw_c_leases.map Lease.av = aw_c_leases_ at *
  generalize ham_raft_entries_ : am_raft_entries.map Ent.av = am_raft_entries_ at *
  generalize ham_raft_snap_data_ : bs am_raft_snap_data = am_raft_snap_data_ at *
  generalize ham_job_c_cmps_ : am_job_c_cmps.map Cmp.av = am_job_c_cmps_ at *
  generalize ham_job_c_thn_ : am_job_c_thn.map Op.av = am_job_c_thn_ at *
  generalize ham_job_c_els_ : am_job_c_els.map Op.av = am_job_c_els_ at *
  generalize ham_job_c_items_ : am_job_c_items.map Item.av = am_job_c_items_ at *
  generalize ham_job_c_sess_ : am_job_c_sess.map Sess.av = am_job_c_sess_ at *
  generalize ham_job_c_leases_ : am_job_c_leases.map Lease.av = am_job_c_leases_ at *
  generalize ham_reply_items_ : am_reply_items.map Item.av = am_reply_items_ at *
  generalize ham_batches_ : am_batches.map Batch.av = am_batches_ at *
  generalize ham_items_ : am_items.map Item.av = am_items_ at *
  generalize ham_handed_sess_ : am_handed_sess.map Sess.av = am_handed_sess_ at *
  generalize ham_handed_leases_ : am_handed_leases.map Lease.av = am_handed_leases_ at *
  cbv
  refine (haw _).mono ?_
  rintro r st' ⟨rfl, rfl⟩
  cbv
  repeat (first | (refine ⟨fun _ => ⟨rfl⟩, ?_⟩) | (refine ⟨fun h => absurd h Bool.false_ne_true, ?_⟩) | (simp only [por, ptb, nt, nf, e1, e0, e2, l0, eqz, decide_true, Bool.not_true, Bool.not_false, Bool.false_or, Bool.true_and]; cbv))
  refine (hfew _).mono ?_
  rintro r st' ⟨⟨b, rfl⟩, rfl⟩
  cases b
  · cbv
    repeat (first | (refine ⟨fun _ => ⟨rfl⟩, ?_⟩) | (refine ⟨fun h => absurd h Bool.false_ne_true, ?_⟩) | (simp only [por, ptb, nt, nf, e1, e0, e2, l0, eqz, decide_true, Bool.not_true, Bool.not_false, Bool.false_or, Bool.true_and]; cbv))
    refine (haw _).mono ?_
    rintro r st' ⟨rfl, rfl⟩
    cbv
    exact hR _ _ rfl
  · cbv
    repeat (first | (refine ⟨fun _ => ⟨rfl⟩, ?_⟩) | (refine ⟨fun h => absurd h Bool.false_ne_true, ?_⟩) | (simp only [por, ptb, nt, nf, e1, e0, e2, l0, eqz, decide_true, Bool.not_true, Bool.not_false, Bool.false_or, Bool.true_and]; cbv))
    refine (hbe _).mono ?_
    rintro r st' ⟨rfl, rfl⟩
    cbv
    refine (hto _).mono ?_
    rintro r st' ⟨rfl, rfl⟩
    cbv
    refine (hhe _).mono ?_
    rintro r st' ⟨rfl, rfl⟩
    cbv
    refine (hte _).mono ?_
    rintro r st' ⟨rfl, rfl⟩
    cbv
    repeat (first | (refine ⟨fun _ => ⟨rfl⟩, ?_⟩) | (refine ⟨fun h => absurd h Bool.false_ne_true, ?_⟩) | (simp only [por, ptb, nt, nf, e1, e0, e2, l0, eqz, decide_true, Bool.not_true, Bool.not_false, Bool.false_or, Bool.true_and]; cbv))
    refine (hwa _).mono ?_
    rintro r st' ⟨rfl, rfl⟩
    cbv
    repeat (first | (refine ⟨fun _ => ⟨rfl⟩, ?_⟩) | (refine ⟨fun h => absurd h Bool.false_ne_true, ?_⟩) | (simp only [por, ptb, nt, nf, e1, e0, e2, l0, eqz, decide_true, Bool.not_true, Bool.not_false, Bool.false_or, Bool.true_and]; cbv))
    refine (hti _).mono ?_
    rintro r st' ⟨rfl, rfl⟩
    cbv
    repeat (first | (refine ⟨fun _ => ⟨rfl⟩, ?_⟩) | (refine ⟨fun h => absurd h Bool.false_ne_true, ?_⟩) | (simp only [por, ptb, nt, nf, e1, e0, e2, l0, eqz, decide_true, Bool.not_true, Bool.not_false, Bool.false_or, Bool.true_and]; cbv))
    refine (hsa _).mono ?_
    rintro r st' ⟨rfl, rfl⟩
    cbv
    repeat (first | (refine ⟨fun _ => ⟨rfl⟩, ?_⟩) | (refine ⟨fun h => absurd h Bool.false_ne_true, ?_⟩) | (simp only [por, ptb, nt, nf, e1, e0, e2, l0, eqz, decide_true, Bool.not_true, Bool.not_false, Bool.false_or, Bool.true_and]; cbv))
    exact hR _ _ rfl
end Go.V
