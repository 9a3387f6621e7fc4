/- U25: the reference's way of taking bytes apart. -/
import Derived.Test.YtbmjmemhjkpbdaaG3
set_option linter.unusedVariables false
set_option linter.unusedSimpArgs false
namespace Go.V
open Go.Proofs
set_option maxRecDepth 100000
def sv (s : S) : AV := .agg [.sl false 1 (bs s.1), .bool s.2]
/-- What is bad has nothing left. -/
def San (s : S) : Prop := s.2 = true → s.1 = []
theorem san_fail : San ([], true) := fun _ => rfl
theorem san_take (n : Int) {s : S} (h : San s) : San (takeS n s).2 := by
  unfold takeS
  split
  · exact h
  · split
    · exact san_fail
    · intro hb; cases hb
theorem bytes79_ok : codeOk Try.f79.ntmps (wRt (Cj [9, 17] [8, 13, 11, 10, 32, 36, 24, 31, 69, 37, 33, 65, 66, 30, 29, 28, 27, 12, 34, 63, 35, 64, 26] std V5.q V5.b) [(16, 2), (20, 2)]) (Try.f79.body.getD .skip) = true := by kernel_rfl
theorem bytes79_c (n : Int) (hn : 0 ≤ n) (s : S) (hs : San s) (st : St) : VCalls Try.prog 79 [sv s, .int .i64 n] st (fun r st' => r = .tup [.sl false 1 (bs (takeS n s).1), sv (takeS n s).2] ∧ st' = st) := by
  obtain ⟨l, bad⟩ := s
  refine VCalls.use (ok_rt ok7 [(16, 2), (20, 2)]) Try.func79 rfl (by rfl) (Nat.le_of_ble_eq_true rfl) bytes79_ok fun R hR => ?_
  have hd : bs (l.drop n.toNat) = (bs l).drop n.toNat := by unfold bs; rw [List.map_drop]
  have ht : bs (l.take n.toNat) = (bs l).take n.toNat := by unfold bs; rw [List.map_take]
  have hvl : (bs l).length = l.length := by simp [bs]
  have hbad : bad = true → l = [] := hs
  unfold takeS at hR
  unfold sv at *
  dsimp only at *
  generalize Try.prog = P at *
  generalize hX : std = X at *
  refine ops_use hX fun vv xlt xieq xseq xslt xar xconv xnot xpick xbeq xeqc xlen xslen xget xsget xsub xssub xapp xcat xtoB xofB xrep xrepc xchunks xmx xmn hY arX => ?_
  clear hX
  subst hY
  generalize hVV : V5.b = VV at *
  refine vl_use vv VV fun V hV => ?_
  clear hVV
  subst hV
  generalize V5.q = Q at *
  have hl := arX.lenb l
  generalize bs l = vs at *
  cbv
  refine tst (fun h => ?_) (fun h => ?_)
  · cbv
    rw [arX.por, arX.lt, hl, Bool.or_eq_true, decide_eq_true_eq] at h
    cases bad
    · have h : (l.length : Int) < n := by
        rcases h with h | h
        · cases h
        · exact h
      rw [if_neg (by decide), if_pos h] at hR
      exact hR _ _ ⟨rfl, rfl⟩
    · rw [if_pos rfl, hbad rfl] at hR
      exact hR _ _ ⟨rfl, rfl⟩
  · cbv
    rw [arX.por, arX.lt, hl, Bool.or_eq_false_iff, decide_eq_false_iff_not] at h
    obtain ⟨rfl, h⟩ := h
    have h : ¬ (l.length : Int) < n := h
    rw [if_neg (by decide), if_neg h] at hR
    refine ⟨fun _ => ⟨by omega, by omega, by rw [hl]; exact Int.not_lt.1 h⟩, ⟨fun _ => ⟨hn, by rw [hl]; exact Int.not_lt.1 h, Int.le_refl _⟩, ?_⟩⟩
    refine hR _ _ ⟨?_, rfl⟩
    rw [hd, ht, arX.subE, arX.subE, hl, show ((l.length : Int)).toNat = vs.length by rw [hvl]; omega, List.take_length]
    rfl
theorem mul_add {v c : Int} (h0 : 0 ≤ v) (h1 : v < 72057594037927936) (h2 : 0 ≤ c) (h3 : c < 256) : arith .add .u64 (arith .mul .u64 v 256) c = v * 256 + c := by
  have e1 : arith .mul .u64 v 256 = v * 256 := wrap_u64 (by omega) (by omega)
  rw [e1]
  exact wrap_u64 (by omega) (by omega)
theorem number72_c (n : Int) (hn : 0 ≤ n) (hn8 : n ≤ 8) (s : S) (hs : San s) (st : St) : VCalls Try.prog 72 [sv s, .int .i64 n] st (fun r st' => r = .tup [.int .u64 (wideS n s).1, sv (wideS n s).2] ∧ st' = st) := by
  have ht := bytes79_c n hn s hs
  have hlen := take_len n hn s
  unfold wideS
  dsimp only
  generalize (takeS n s).1 = L at *
  generalize (takeS n s).2 = s2 at *
  refine VCalls.use ok7 Try.func72 rfl (by rfl) (Nat.le_of_ble_eq_true rfl) (by kernel_rfl) fun R hR => ?_
  have okX := ok7
  have hL8 : L.length ≤ 8 := by omega
  have hL : (L.length : Int) ≤ 9223372036854775807 := by omega
  have hA : ∀ (v : Int) (c : UInt8) (r : List UInt8), beA v (c :: r) = beA (v * 256 + (c.toNat : Int)) r := fun _ _ _ => rfl
  have hA0 : ∀ (v : Int), beA v [] = v := fun _ => rfl
  have hN : beN L = beA 0 L := rfl
  generalize beN L = mr at *
  generalize beA = fA at *
  unfold sv at *
  generalize bs s.1 = b1 at *
  generalize bs s2.1 = b2 at *
  generalize s.2 = d1 at *
  generalize s2.2 = d2 at *
  generalize Try.prog = P at *
  generalize hX : std = X at *
  refine ops_use hX fun vv xlt xieq xseq xslt xar xconv xnot xpick xbeq xeqc xlen xslen xget xsget xsub xssub xapp xcat xtoB xofB xrep xrepc xchunks xmx xmn hY arX => ?_
  clear hX
  subst hY
  generalize hVV : V5.b = VV at *
  refine vl_use vv VV fun V hV => ?_
  clear hVV
  subst hV
  generalize V5.q = Q at *
  have hl := arX.lenf u8 L
  have hg := fun (j : Nat) (a : UInt8) (h : L[j]? = some a) => arX.getf u8 h
  replace hl : vl vv xlen (bs L) = (L.length : Int) := hl
  replace hg : ∀ (j : Nat) (a : UInt8), L[j]? = some a → vl vv xget (bs L) (j : Int) = u8 a := hg
  generalize bs L = ls at *
  cbv
  refine (ht _).mono ?_
  rintro r st' ⟨rfl, rfl⟩
  cbv
  refine wp_for okX (by kernel_rfl) L.length (fun j (v : Int) => mr = fA v (L.drop j) ∧ 0 ≤ v ∧ v < 256 ^ j)
    (fun j v => [(5, .lp 5 0), (6, .sl false 1 ls), (7, .lp 7 0), (8, .int .u64 v), (17, .int .i64 (vl vv xlen ls)), (18, .int .i64 (j : Int))]) (fun _ _ => [(5, [.sl true 1 [], .bool false]), (7, [.sl false 1 b2, .bool d2])]) 0 ⟨hN, Int.le_refl _, by decide⟩ (fun _ _ => rfl) ⟨rfl, rfl, rfl, rfl, rfl, rfl, trivial⟩ ⟨rfl, rfl, trivial⟩ ?_
  rintro j v hj ⟨hpre, hv0, hv1⟩ K hK hKx
  generalize hjj : (j : Int) = k at *
  cbv
  refine tst (fun h3 => ?_) (fun h3 => ?_)
  · have hjl := arX.inK hjj hl h3
    obtain ⟨a, ha⟩ := getE rfl hjl
    have ga := hg j a ha
    rw [hjj] at ga
    have hd : L.drop j = a :: L.drop (j + 1) := by
      rw [List.drop_eq_getElem_cons hjl]
      congr 1
      rw [List.getElem?_eq_getElem hjl] at ha
      exact Option.some.inj ha
    rw [hd, hA] at hpre
    have hv7 : v < 72057594037927936 := by
      refine Int.lt_of_lt_of_le hv1 ?_
      exact Int.le_trans (pow256 (show j ≤ 7 by omega)) (by decide)
    have ha8 := a.toNat_lt
    cbv
    refine ⟨fun _ => inBK hjj hl hjl, ?_⟩
    simp only [ga]
    cbv
    have e1 := arX.convE .u64 (a.toNat : Int)
    refine hK (v * 256 + (a.toNat : Int)) _ _ hjl ⟨hpre, by omega, ?_⟩ ⟨rfl, rfl, rfl, ?_, rfl, congrArg (AV.int .i64) (arX.sucK hjj hL hjl), trivial⟩ ⟨rfl, rfl, trivial⟩
    · rw [Int.pow_succ]; omega
    · refine congrArg (AV.int .u64) ?_
      exact (arX.arE _ _ _ _).trans ((congr (congrArg (arith .add .u64) (arX.arE _ _ _ _)) (e1.trans (wrap_u64 (by omega) (by omega)))).trans (mul_add hv0 hv7 (by omega) (by omega)))
  · have hje := arX.outK hjj hl h3 hj
    cbv
    refine hKx (.exit 0) _ _ _ (by simp) ?_
    cbv
    refine hR _ _ ⟨?_, rfl⟩
    have : v = mr := by rw [hpre, hje, List.drop_length, hA0]
    subst this
    rfl
end Go.V

/- U26: the reference's bytes, numbers, flags, counts and texts. -/
namespace Go.V
open Go.Proofs
set_option maxRecDepth 100000
theorem byte46_c (s : S) (hs : San s) (st : St) : VCalls Try.prog 46 [sv s] st (fun r st' => r = .tup [.int .u8 (wideS 1 s).1, sv (wideS 1 s).2] ∧ st' = st) := by
  have hw := number72_c 1 (by decide) (by decide) s hs
  have hb := wide_bound (n := 1) (k := 1) (by decide) (by decide) s
  have hc := wrap_u8 hb.1 hb.2
  generalize (wideS 1 s).1 = v at *
  generalize (wideS 1 s).2 = s2 at *
  refine VCalls.use ok7 Try.func46 rfl (by rfl) (Nat.le_of_ble_eq_true rfl) (by kernel_rfl) fun R hR => ?_
  unfold sv at *
  generalize bs s.1 = b1 at *
  generalize bs s2.1 = b2 at *
  generalize s.2 = d1 at *
  generalize s2.2 = d2 at *
  generalize Try.prog = P at *
  generalize hX : std = X at *
  refine ops_use hX fun vv xlt xieq xseq xslt xar xconv xnot xpick xbeq xeqc xlen xslen xget xsget xsub xssub xapp xcat xtoB xofB xrep xrepc xchunks xmx xmn hY arX => ?_
  clear hX
  subst hY
  generalize hVV : V5.b = VV at *
  refine vl_use vv VV fun V hV => ?_
  clear hVV
  subst hV
  generalize V5.q = Q at *
  replace hc := (arX.convE .u8 v).trans hc
  cbv
  refine (hw _).mono ?_
  rintro r st' ⟨rfl, rfl⟩
  cbv
  exact hR _ _ ⟨congrArg (fun z => AV.tup [.int .u8 z, .agg [.sl false 1 b2, .bool d2]]) hc, rfl⟩
theorem num47_c (s : S) (hs : San s) (st : St) : VCalls Try.prog 47 [sv s] st (fun r st' => r = .tup [.int .i64 (numS s).1, sv (numS s).2] ∧ st' = st) := by
  have hw := number72_c 8 (by decide) (by decide) s hs
  unfold numS
  dsimp only
  generalize (wideS 8 s).1 = v at *
  generalize (wideS 8 s).2 = s2 at *
  refine VCalls.use ok7 Try.func47 rfl (by rfl) (Nat.le_of_ble_eq_true rfl) (by kernel_rfl) fun R hR => ?_
  unfold sv at *
  generalize bs s.1 = b1 at *
  generalize bs s2.1 = b2 at *
  generalize s.2 = d1 at *
  generalize s2.2 = d2 at *
  generalize Try.prog = P at *
  generalize hX : std = X at *
  refine ops_use hX fun vv xlt xieq xseq xslt xar xconv xnot xpick xbeq xeqc xlen xslen xget xsget xsub xssub xapp xcat xtoB xofB xrep xrepc xchunks xmx xmn hY arX => ?_
  clear hX
  subst hY
  generalize hVV : V5.b = VV at *
  refine vl_use vv VV fun V hV => ?_
  clear hVV
  subst hV
  generalize V5.q = Q at *
  have hc := arX.convE .i64 v
  generalize IntKind.wrap .i64 v = wv at *
  cbv
  refine (hw _).mono ?_
  rintro r st' ⟨rfl, rfl⟩
  cbv
  exact hR _ _ ⟨congrArg (fun z => AV.tup [.int .i64 z, .agg [.sl false 1 b2, .bool d2]]) hc, rfl⟩
theorem flag48_c (s : S) (hs : San s) (st : St) : VCalls Try.prog 48 [sv s] st (fun r st' => r = .tup [.bool (flagS s).1, sv (flagS s).2] ∧ st' = st) := by
  have hw := number72_c 1 (by decide) (by decide) s hs
  unfold flagS
  dsimp only
  generalize (wideS 1 s).1 = v at *
  generalize (wideS 1 s).2 = s2 at *
  generalize hr0 : (if 1 < v then (([], true) : S) else s2) = s3
  refine VCalls.use ok7 Try.func48 rfl (by rfl) (Nat.le_of_ble_eq_true rfl) (by kernel_rfl) fun R hR => ?_
  unfold sv at *
  generalize bs s.1 = b1 at *
  generalize hb2 : bs s2.1 = b2 at *
  generalize s.2 = d1 at *
  generalize hd2 : s2.2 = d2 at *
  generalize Try.prog = P at *
  generalize hX : std = X at *
  refine ops_use hX fun vv xlt xieq xseq xslt xar xconv xnot xpick xbeq xeqc xlen xslen xget xsget xsub xssub xapp xcat xtoB xofB xrep xrepc xchunks xmx xmn hY arX => ?_
  clear hX
  subst hY
  generalize hVV : V5.b = VV at *
  refine vl_use vv VV fun V hV => ?_
  clear hVV
  subst hV
  generalize V5.q = Q at *
  cbv
  refine (hw _).mono ?_
  rintro r st' ⟨rfl, rfl⟩
  cbv
  refine tst (fun h => ?_) (fun h => ?_)
  · cbv
    rw [arX.lt, decide_eq_true_eq] at h
    rw [if_pos h] at hr0
    subst hr0
    refine hR _ _ ⟨?_, rfl⟩
    rw [decide_eq_false (show ¬ v = 1 by omega)]
    rfl
  · cbv
    rw [arX.lt, decide_eq_false_iff_not] at h
    rw [if_neg h] at hr0
    subst hr0
    refine hR _ _ ⟨?_, rfl⟩
    rw [hb2, hd2, ← arX.ieq]
theorem count49_c (most : Int) (h0 : 0 ≤ most) (hm : most ≤ 9223372036854775807) (s : S) (hs : San s) (hl : ((wideS 4 s).2.1.length : Int) ≤ 9223372036854775807) (st : St) : VCalls Try.prog 49 [sv s, .int .i64 most] st (fun r st' => r = .tup [.int .i64 (countS most s).1, sv (countS most s).2] ∧ st' = st) := by
  have hw := number72_c 4 (by decide) (by decide) s hs
  have hb := wide_bound (n := 4) (k := 4) (by decide) (by decide) s
  unfold countS
  generalize wideS 4 s = ws at *
  obtain ⟨v, s2⟩ := ws
  dsimp only at *
  generalize hR0 : (if max most 0 < v ∨ (s2.1.length : Int) < v ∨ most < 0 then ((0, ([], true)) : Int × S) else (v, s2)) = rs
  have hv : v ≤ 9223372036854775807 := by omega
  have hmx : max most 0 = most := by omega
  refine VCalls.use (ok_rt ok7 [(23, 7)]) Try.func49 rfl (by rfl) (Nat.le_of_ble_eq_true rfl) (by kernel_rfl) fun R hR => ?_
  unfold sv at *
  generalize bs s.1 = b1 at *
  generalize s.2 = d1 at *
  generalize Try.prog = P at *
  generalize hX : std = X at *
  refine ops_use hX fun vv xlt xieq xseq xslt xar xconv xnot xpick xbeq xeqc xlen xslen xget xsget xsub xssub xapp xcat xtoB xofB xrep xrepc xchunks xmx xmn hY arX => ?_
  clear hX
  subst hY
  generalize hVV : V5.b = VV at *
  refine vl_use vv VV fun V hV => ?_
  clear hVV
  subst hV
  generalize V5.q = Q at *
  have hlen := arX.lenb s2.1
  generalize hlen2 : (s2.1.length : Int) = len at *
  have e1 := (arX.convE .u64 most).trans (wrap_u64 (n := most) (by omega) (by omega))
  have e2 := (arX.convE .u64 (vl vv xlen (bs s2.1))).trans ((congrArg (IntKind.wrap .u64) hlen).trans (wrap_u64 (n := len) (by omega) (by omega)))
  have e3 := (arX.convE .i64 v).trans (wrap_i64 (by omega) (by omega))
  generalize hb2 : bs s2.1 = b2 at *
  generalize hd2 : s2.2 = d2 at *
  have g1 : ∀ a b : Prop, [Decidable a] → [Decidable b] → (decide a || decide b) = decide (a ∨ b) := fun a b _ _ => (Bool.decide_or a b).symm
  cbv
  refine (hw _).mono ?_
  rintro r st' ⟨rfl, rfl⟩
  cbv
  refine tst (fun h => ?_) (fun h => ?_)
  · cbv
    simp only [arX.por, arX.lt, e1, e2, g1, decide_eq_true_eq] at h
    have hc : max most 0 < v ∨ len < v ∨ most < 0 := by omega
    rw [if_pos hc] at hR0
    subst hR0
    exact hR _ _ ⟨rfl, rfl⟩
  · cbv
    simp only [arX.por, arX.lt, e1, e2, g1, decide_eq_false_iff_not] at h
    have hc : ¬ (max most 0 < v ∨ len < v ∨ most < 0) := by omega
    rw [if_neg hc] at hR0
    subst hR0
    refine hR _ _ ⟨?_, rfl⟩
    rw [hb2, hd2]
    exact congrArg (fun z => AV.tup [.int .i64 z, .agg [.sl false 1 b2, .bool d2]]) e3
theorem san_wide (n : Int) {s : S} (h : San s) : San (wideS n s).2 := san_take n h
theorem san_num {s : S} (h : San s) : San (numS s).2 := san_take 8 h
theorem san_flag {s : S} (h : San s) : San (flagS s).2 := by
  unfold flagS
  dsimp only
  split
  · exact san_fail
  · exact san_take 1 h
theorem san_count (most : Int) {s : S} (h : San s) : San (countS most s).2 := by
  unfold countS
  split
  · exact san_fail
  · exact san_take 4 h
theorem san_bytes (most : Int) {s : S} (h : San s) : San (bytesS most s).2 := san_take _ (san_count most h)
theorem text80_c (most : Int) (h0 : 0 ≤ most) (hm : most ≤ 9223372036854775807) (s : S) (hs : San s) (hl : (s.1.length : Int) ≤ 9223372036854775807) (st : St) : VCalls Try.prog 80 [sv s, .int .i64 most] st (fun r st' => r = .tup [.str (bytesS most s).1, sv (bytesS most s).2] ∧ st' = st) := by
  have hc := count49_c most h0 hm s hs (leK (take_left 4 s) hl)
  have ht := bytes79_c (countS most s).1 (count_range most h0 s).1 (countS most s).2 (san_count most hs)
  unfold bytesS
  generalize (countS most s).1 = n at *
  generalize (countS most s).2 = s2 at *
  generalize hd : (takeS n s2).1 = d at *
  generalize (takeS n s2).2 = s3 at *
  refine VCalls.use ok7 Try.func80 rfl (by rfl) (Nat.le_of_ble_eq_true rfl) (by kernel_rfl) fun R hR => ?_
  have hu := bs_u8 d
  unfold sv at *
  generalize bs s.1 = b1 at *
  generalize s.2 = d1 at *
  generalize bs s2.1 = b2 at *
  generalize s2.2 = d2 at *
  generalize bs s3.1 = b3 at *
  generalize s3.2 = d3 at *
  generalize Try.prog = P at *
  generalize hX : std = X at *
  refine ops_use hX fun vv xlt xieq xseq xslt xar xconv xnot xpick xbeq xeqc xlen xslen xget xsget xsub xssub xapp xcat xtoB xofB xrep xrepc xchunks xmx xmn hY arX => ?_
  clear hX
  subst hY
  generalize hVV : V5.b = VV at *
  refine vl_use vv VV fun V hV => ?_
  clear hVV
  subst hV
  generalize V5.q = Q at *
  have ho := arX.ofb d
  generalize bs d = ds at *
  cbv
  refine (hc _).mono ?_
  rintro r st' ⟨rfl, rfl⟩
  cbv
  refine (ht _).mono ?_
  rintro r st' ⟨rfl, rfl⟩
  cbv
  refine ⟨fun _ => hu, hR _ _ ⟨?_, rfl⟩⟩
  exact congrArg (fun z => AV.tup [.str z, .agg [.sl false 1 b3, .bool d3]]) ho
theorem taken73_c (most : Int) (h0 : 0 ≤ most) (hm : most ≤ 9223372036854775807) (s : S) (hs : San s) (hl : (s.1.length : Int) ≤ 9223372036854775807) (st : St) : VCalls Try.prog 73 [sv s, .int .i64 most] st (fun r st' => r = .tup [.int .i64 (threeS most s).1.x, .int .i64 (threeS most s).1.y, .str (threeS most s).1.v, sv (threeS most s).2] ∧ st' = st) := by
  have h1 := num47_c s hs
  have h2 := num47_c (numS s).2 (san_num hs)
  have h3 := text80_c most h0 hm (numS (numS s).2).2 (san_num (san_num hs)) (leK (Nat.le_trans (num_left _) (num_left _)) hl)
  unfold threeS
  dsimp only
  generalize (numS s).1 = x at *
  generalize (numS s).2 = s1 at *
  generalize (numS s1).1 = y at *
  generalize (numS s1).2 = s2 at *
  generalize (bytesS most s2).1 = d at *
  generalize (bytesS most s2).2 = s3 at *
  refine VCalls.use ok7 Try.func73 rfl (by rfl) (Nat.le_of_ble_eq_true rfl) (by kernel_rfl) fun R hR => ?_
  unfold sv at *
  generalize bs s.1 = b0 at *
  generalize s.2 = d0 at *
  generalize bs s1.1 = b1 at *
  generalize s1.2 = d1 at *
  generalize bs s2.1 = b2 at *
  generalize s2.2 = d2 at *
  generalize bs s3.1 = b3 at *
  generalize s3.2 = d3 at *
  generalize Try.prog = P at *
  generalize hX : std = X at *
  refine ops_use hX fun vv xlt xieq xseq xslt xar xconv xnot xpick xbeq xeqc xlen xslen xget xsget xsub xssub xapp xcat xtoB xofB xrep xrepc xchunks xmx xmn hY arX => ?_
  clear hX
  subst hY
  generalize hVV : V5.b = VV at *
  refine vl_use vv VV fun V hV => ?_
  clear hVV
  subst hV
  generalize V5.q = Q at *
  cbv
  refine (h1 _).mono ?_
  rintro r st' ⟨rfl, rfl⟩
  cbv
  refine (h2 _).mono ?_
  rintro r st' ⟨rfl, rfl⟩
  cbv
  refine (h3 _).mono ?_
  rintro r st' ⟨rfl, rfl⟩
  cbv
  exact hR _ _ ⟨rfl, rfl⟩
end Go.V

/- U27: the reference's entries and snapshots out of bytes. -/
namespace Go.V
open Go.Proofs
set_option maxRecDepth 100000
theorem san_three (most : Int) {s : S} (h : San s) : San (threeS most s).2 := san_bytes most (san_num (san_num h))
theorem san_ent {s : S} (h : San s) : San (entS s).2 := by
  unfold entS
  split
  · exact san_fail
  · exact san_three _ h
theorem from50_ok : codeOk Try.f50.ntmps (wRt (Cj [9, 17] [8, 13, 11, 10, 32, 36, 24, 31, 69, 37, 33, 65, 66, 30, 29, 28, 27, 12, 34, 63, 35, 64, 26] std V5.q V5.b) []) (Try.f50.body.getD .skip) = true := by kernel_rfl
theorem from50_c (s : S) (hs : San s) (hl : (s.1.length : Int) ≤ 9223372036854775807) (st : St) : VCalls Try.prog 50 [sv s] st (fun r st' => r = .tup [(entS s).1.av, sv (entS s).2] ∧ st' = st) := by
  have ht := taken73_c 12000 (by decide) (by decide) s hs hl
  have q65 : V5.q 65 [(threeS 12000 s).1.av] := ⟨(threeS 12000 s).1, rfl⟩
  have b65 : V5.b 65 [(threeS 12000 s).1.av] = (threeS 12000 s).1.right := by
    show (entOf _).right = _
    rw [entOf_av]
  unfold entS
  generalize threeS 12000 s = tt at *
  obtain ⟨⟨x, y, d⟩, s3⟩ := tt
  dsimp only at *
  generalize hrt : Ent.right ⟨x, y, d⟩ = rt at *
  generalize hR0 : (if (s3.2 || !rt) = true then ((Ent.zero, ([], true)) : Ent × S) else (⟨x, y, d⟩, s3)) = rs
  refine VCalls.use ok7 Try.func50 rfl (by rfl) (Nat.le_of_ble_eq_true rfl) (by kernel_rfl) fun R hR => ?_
  unfold sv Ent.av at *
  dsimp only at *
  generalize bs s.1 = b0 at *
  generalize s.2 = d0 at *
  generalize hb3 : bs s3.1 = b3 at *
  generalize hd3 : s3.2 = d3 at *
  generalize Try.prog = P at *
  generalize hX : std = X at *
  refine ops_use hX fun vv xlt xieq xseq xslt xar xconv xnot xpick xbeq xeqc xlen xslen xget xsget xsub xssub xapp xcat xtoB xofB xrep xrepc xchunks xmx xmn hY arX => ?_
  clear hX
  subst hY
  generalize hVV : V5.b = VV at *
  refine vl_use vv VV fun V hV => ?_
  clear hVV
  subst hV
  generalize V5.q = Q at *
  have hto := arX.toBE d
  generalize hds : bs d = ds at *
  cbv
  refine (ht _).mono ?_
  rintro r st' ⟨rfl, rfl⟩
  cbv
  simp only [hto]
  refine ⟨fun _ => q65, ?_⟩
  refine tst (fun h => ?_) (fun h => ?_)
  · cbv
    simp only [arX.por, arX.not, b65] at h
    rw [if_pos h] at hR0
    subst hR0
    exact hR _ _ ⟨rfl, rfl⟩
  · cbv
    simp only [arX.por, arX.not, b65] at h
    rw [if_neg (by rw [h]; decide)] at hR0
    subst hR0
    subst hds hb3 hd3
    exact hR _ _ ⟨rfl, rfl⟩
theorem from51_c (s : S) (hs : San s) (hl : (s.1.length : Int) ≤ 9223372036854775807) (st : St) : VCalls Try.prog 51 [sv s] st (fun r st' => r = .tup [(snapS s).1.av, sv (snapS s).2] ∧ st' = st) := by
  have ht := taken73_c 50000 (by decide) (by decide) s hs hl
  have q33 : V5.q 33 [(threeS 50000 s).1.av] := ⟨_, _, _, rfl⟩
  have b33 : V5.b 33 [(threeS 50000 s).1.av] = snapRight (threeS 50000 s).1.x (threeS 50000 s).1.y (threeS 50000 s).1.v.length := by
    show snapRight _ _ (bs _).length = _
    rw [show (bs (threeS 50000 s).1.v).length = (threeS 50000 s).1.v.length by simp [bs]]; rfl
  unfold snapS
  generalize threeS 50000 s = tt at *
  obtain ⟨⟨x, y, d⟩, s3⟩ := tt
  dsimp only at *
  generalize hrt : snapRight x y (d.length : Int) = rt at *
  generalize hR0 : (if (s3.2 || !rt) = true then ((Ent.zero, ([], true)) : Ent × S) else (⟨x, y, d⟩, s3)) = rs
  refine VCalls.use ok7 Try.func51 rfl (by rfl) (Nat.le_of_ble_eq_true rfl) (by kernel_rfl) fun R hR => ?_
  unfold sv Ent.av at *
  dsimp only at *
  generalize bs s.1 = b0 at *
  generalize s.2 = d0 at *
  generalize hb3 : bs s3.1 = b3 at *
  generalize hd3 : s3.2 = d3 at *
  generalize Try.prog = P at *
  generalize hX : std = X at *
  refine ops_use hX fun vv xlt xieq xseq xslt xar xconv xnot xpick xbeq xeqc xlen xslen xget xsget xsub xssub xapp xcat xtoB xofB xrep xrepc xchunks xmx xmn hY arX => ?_
  clear hX
  subst hY
  generalize hVV : V5.b = VV at *
  refine vl_use vv VV fun V hV => ?_
  clear hVV
  subst hV
  generalize V5.q = Q at *
  have hto := arX.toBE d
  generalize hds : bs d = ds at *
  cbv
  refine (ht _).mono ?_
  rintro r st' ⟨rfl, rfl⟩
  cbv
  simp only [hto]
  refine ⟨fun _ => q33, ?_⟩
  refine tst (fun h => ?_) (fun h => ?_)
  · cbv
    simp only [arX.por, arX.not, b33] at h
    rw [if_pos h] at hR0
    subst hR0
    exact hR _ _ ⟨rfl, rfl⟩
  · cbv
    simp only [arX.por, arX.not, b33] at h
    rw [if_neg (by rw [h]; decide)] at hR0
    subst hR0
    subst hds hb3 hd3
    exact hR _ _ ⟨rfl, rfl⟩
end Go.V

/- U28: the reference's message out of bytes. -/
namespace Go.V
open Go.Proofs
set_option maxRecDepth 100000
def svC (s : S) : List AV := [.sl false 1 (bs s.1), .bool s.2]
def T3 (k f t : Int) (s s1 s2 s3 : S) : Nat → (Int × Int × Int) × S
  | 0 => ((0, 0, 0), s)
  | 1 => ((k, 0, 0), s1)
  | 2 => ((k, f, 0), s2)
  | _ => ((k, f, t), s3)
def T5 (a b c d e : Int) (s0 s1 s2 s3 s4 s5 : S) : Nat → (Int × Int × Int × Int × Int) × S
  | 0 => ((0, 0, 0, 0, 0), s0)
  | 1 => ((a, 0, 0, 0, 0), s1)
  | 2 => ((a, b, 0, 0, 0), s2)
  | 3 => ((a, b, c, 0, 0), s3)
  | 4 => ((a, b, c, d, 0), s4)
  | _ => ((a, b, c, d, e), s5)
theorem from16_ok : codeOk Try.f16.ntmps (wTr (wRt (Cj [9, 17] [8, 13, 11, 10, 32, 36, 24, 31, 69, 37, 33, 65, 66, 30, 29, 28, 27, 12, 34, 63, 35, 64, 26] std V5.q V5.b) []) [75, 78]) (Try.f16.body.getD .skip) = true := by kernel_rfl
theorem from16_c (s : S) (hs : (s.1.length : Int) ≤ 9223372036854775807) (hsan : San s) (st : St) : VCalls Try.prog 16 [sv s] st (fun r st' => r = .tup [(msgS s).1.av, sv (msgS s).2] ∧ st' = st) := by
  have c1 := byte46_c s hsan
  have l1 : (wideS 1 s).2.1.length ≤ s.1.length := take_left 1 s
  have a1 := san_wide 1 hsan
  have b1 := wide_bound (n := 1) (k := 1) (by decide) (by decide) s
  rcases hw1 : wideS 1 s with ⟨k, s1⟩
  rw [hw1] at c1 l1 a1 b1
  dsimp only at c1 l1 a1 b1
  have c2 := byte46_c s1 a1
  have l2 : (wideS 1 s1).2.1.length ≤ s1.1.length := take_left 1 s1
  have a2 := san_wide 1 a1
  have b2 := wide_bound (n := 1) (k := 1) (by decide) (by decide) s1
  rcases hw2 : wideS 1 s1 with ⟨f, s2⟩
  rw [hw2] at c2 l2 a2 b2
  dsimp only at c2 l2 a2 b2
  have c3 := byte46_c s2 a2
  have l3 : (wideS 1 s2).2.1.length ≤ s2.1.length := take_left 1 s2
  have a3 := san_wide 1 a2
  have b3 := wide_bound (n := 1) (k := 1) (by decide) (by decide) s2
  rcases hw3 : wideS 1 s2 with ⟨t, s3⟩
  rw [hw3] at c3 l3 a3 b3
  dsimp only at c3 l3 a3 b3
  have c4 := num47_c s3 a3
  have l4 := num_left s3
  have a4 := san_num a3
  rcases hw4 : numS s3 with ⟨n1, s4⟩
  rw [hw4] at c4 l4 a4
  dsimp only at c4 l4 a4
  have c5 := num47_c s4 a4
  have l5 := num_left s4
  have a5 := san_num a4
  rcases hw5 : numS s4 with ⟨n2, s5⟩
  rw [hw5] at c5 l5 a5
  dsimp only at c5 l5 a5
  have c6 := num47_c s5 a5
  have l6 := num_left s5
  have a6 := san_num a5
  rcases hw6 : numS s5 with ⟨n3, s6⟩
  rw [hw6] at c6 l6 a6
  dsimp only at c6 l6 a6
  have c7 := num47_c s6 a6
  have l7 := num_left s6
  have a7 := san_num a6
  rcases hw7 : numS s6 with ⟨n4, s7⟩
  rw [hw7] at c7 l7 a7
  dsimp only at c7 l7 a7
  have c8 := num47_c s7 a7
  have l8 := num_left s7
  have a8 := san_num a7
  rcases hw8 : numS s7 with ⟨n5, s8⟩
  rw [hw8] at c8 l8 a8
  dsimp only at c8 l8 a8
  have c9 := flag48_c s8 a8
  have l9 := flag_left s8
  have a9 := san_flag a8
  rcases hw9 : flagS s8 with ⟨y, s9⟩
  rw [hw9] at c9 l9 a9
  dsimp only at c9 l9 a9
  have c10 := count49_c 4 (by decide) (by decide) s9 a9 (by have := take_left 4 s9; unfold wideS; dsimp only; omega)
  have r10 := count_range 4 (by decide) s9
  have l10 := count_left 4 s9
  have a10 := san_count 4 a9
  rcases hw10 : countS 4 s9 with ⟨cn, s10⟩
  rw [hw10] at c10 r10 l10 a10
  dsimp only at c10 r10 l10 a10
  obtain ⟨N, rfl⟩ := Int.eq_ofNat_of_zero_le r10.1
  have hmr : msgRaw s = (⟨k, f, t, n1, n2, n3, n4, n5, y, (entsS N s10).1, (cond (decide (k = 7)) (snapS (entsS N s10).2) (Ent.zero, (entsS N s10).2)).1.x, (cond (decide (k = 7)) (snapS (entsS N s10).2) (Ent.zero, (entsS N s10).2)).1.y, (cond (decide (k = 7)) (snapS (entsS N s10).2) (Ent.zero, (entsS N s10).2)).1.v⟩, (cond (decide (k = 7)) (snapS (entsS N s10).2) (Ent.zero, (entsS N s10).2)).2) := by
    unfold msgRaw
    simp only [hw1, hw2, hw3, hw4, hw5, hw6, hw7, hw8, hw9, hw10]
    rfl
  generalize hms : msgS s = ms
  have e1 := wrap_i64 (n := k) (by omega) (by omega)
  have e2 := wrap_i64 (n := f) (by omega) (by omega)
  have e3 := wrap_i64 (n := t) (by omega) (by omega)
  have hent := from50_c
  have hsnap := from51_c
  have q11 : V5.q 11 [(msgRaw s).1.av] := ⟨(msgRaw s).1, by rw [hmr]; dsimp only; rw [ents_len]; omega, rfl⟩
  have b11 : V5.b 11 [(msgRaw s).1.av] = (msgRaw s).1.right := by
    show (msgOf _).right = _
    rw [msgOf_av]
  have hs10 : (s10.1.length : Int) ≤ 9223372036854775807 := leK (by omega) hs
  clear hw1 hw2 hw3 hw4 hw5 hw6 hw7 hw8 hw9 hw10
  refine VCalls.use (ok_tr (ok_rt ok7 []) [75, 78]) Try.func16 rfl (by rfl) (Nat.le_of_ble_eq_true rfl) from16_ok fun R hR => ?_
  have okX := ok_tr (ok_rt ok7 []) [75, 78]
  generalize Try.prog = P at *
  generalize hX : std = X at *
  refine ops_use hX fun vv xlt xieq xseq xslt xar xconv xnot xpick xbeq xeqc xlen xslen xget xsget xsub xssub xapp xcat xtoB xofB xrep xrepc xchunks xmx xmn hY arX => ?_
  clear hX
  subst hY
  generalize hVV : V5.b = VV at *
  refine vl_use vv VV fun V hV => ?_
  clear hVV
  subst hV
  generalize V5.q = Q at *
  replace e1 := (arX.convE .i64 k).trans e1
  replace e2 := (arX.convE .i64 f).trans e2
  replace e3 := (arX.convE .i64 t).trans e3
  unfold sv at c1 c2 c3 c4 c5 c6 c7 c8 c9 c10 ⊢
  generalize hz0 : bs s.1 = z0 at *
  generalize hd0 : s.2 = d0 at *
  generalize hz1 : bs s1.1 = z1 at *
  generalize hd1 : s1.2 = d1 at *
  generalize hz2 : bs s2.1 = z2 at *
  generalize hd2 : s2.2 = d2 at *
  generalize hz3 : bs s3.1 = z3 at *
  generalize hd3 : s3.2 = d3 at *
  generalize hz4 : bs s4.1 = z4 at *
  generalize hd4 : s4.2 = d4 at *
  generalize hz5 : bs s5.1 = z5 at *
  generalize hd5 : s5.2 = d5 at *
  generalize hz6 : bs s6.1 = z6 at *
  generalize hd6 : s6.2 = d6 at *
  generalize hz7 : bs s7.1 = z7 at *
  generalize hd7 : s7.2 = d7 at *
  generalize hz8 : bs s8.1 = z8 at *
  generalize hd8 : s8.2 = d8 at *
  generalize hz9 : bs s9.1 = z9 at *
  generalize hd9 : s9.2 = d9 at *
  generalize hz10 : bs s10.1 = z10 at *
  generalize hd10 : s10.2 = d10 at *
  cbv
  refine wp_for okX (by kernel_rfl) 3 (fun j (p : (Int × Int × Int) × (List AV × Bool)) => (j = 0 → p = ((0, 0, 0), z0, d0)) ∧ (j = 1 → p = ((k, 0, 0), z1, d1)) ∧ (j = 2 → p = ((k, f, 0), z2, d2)) ∧ (j = 3 → p = ((k, f, t), z3, d3)))
    (fun j _ => [(1, .lp 1 0), (2, .lp 2 0), (3, .lp 3 0), (4, .lp 4 0), (12, .int .i64 (j : Int))])
    (fun _ p => [(1, [.sl false 1 p.2.1, .bool p.2.2]), (2, zeroM), (3, [.sl true 1 [], .bool false]), (4, [.int .u8 p.1.1, .int .u8 p.1.2.1, .int .u8 p.1.2.2])]) ((0, 0, 0), z0, d0)
    ⟨fun _ => rfl, fun h => absurd h (by decide), fun h => absurd h (by decide), fun h => absurd h (by decide)⟩ (fun _ _ => rfl) ⟨rfl, rfl, rfl, rfl, rfl, trivial⟩ ⟨rfl, rfl, rfl, rfl, trivial⟩ ?_
  rintro j p hj ⟨h0, h1, h2, h3⟩ K hK hKx
  have hjs : j = 0 ∨ j = 1 ∨ j = 2 ∨ j = 3 := by omega
  rcases hjs with rfl | rfl | rfl | rfl
  · obtain rfl := h0 rfl
    clear h0 h1 h2 h3
    unfold zeroM
    dsimp only
    cbv
    refine tstT (by rw [arX.lt]; rfl) ?_
    cbv
    refine (c1 _).mono ?_
    rintro r st' ⟨rfl, rfl⟩
    cbv
    refine ⟨fun _ => ⟨by decide, by decide⟩, ?_⟩
    exact hK ((k, 0, 0), z1, d1) _ _ (by decide) ⟨fun h => absurd h (by decide), fun _ => rfl, fun h => absurd h (by decide), fun h => absurd h (by decide)⟩ ⟨rfl, rfl, rfl, rfl, congrArg (AV.int .i64) (arX.sucK (j := 0) (N := 3) rfl (by decide) (by decide)), trivial⟩ ⟨rfl, rfl, rfl, rfl, trivial⟩
  · obtain rfl := h1 rfl
    clear h0 h1 h2 h3
    unfold zeroM
    dsimp only
    cbv
    refine tstT (by rw [arX.lt]; rfl) ?_
    cbv
    refine (c2 _).mono ?_
    rintro r st' ⟨rfl, rfl⟩
    cbv
    refine ⟨fun _ => ⟨by decide, by decide⟩, ?_⟩
    exact hK ((k, f, 0), z2, d2) _ _ (by decide) ⟨fun h => absurd h (by decide), fun h => absurd h (by decide), fun _ => rfl, fun h => absurd h (by decide)⟩ ⟨rfl, rfl, rfl, rfl, congrArg (AV.int .i64) (arX.sucK (j := 1) (N := 3) rfl (by decide) (by decide)), trivial⟩ ⟨rfl, rfl, rfl, rfl, trivial⟩
  · obtain rfl := h2 rfl
    clear h0 h1 h2 h3
    unfold zeroM
    dsimp only
    cbv
    refine tstT (by rw [arX.lt]; rfl) ?_
    cbv
    refine (c3 _).mono ?_
    rintro r st' ⟨rfl, rfl⟩
    cbv
    refine ⟨fun _ => ⟨by decide, by decide⟩, ?_⟩
    exact hK ((k, f, t), z3, d3) _ _ (by decide) ⟨fun h => absurd h (by decide), fun h => absurd h (by decide), fun h => absurd h (by decide), fun _ => rfl⟩ ⟨rfl, rfl, rfl, rfl, congrArg (AV.int .i64) (arX.sucK (j := 2) (N := 3) rfl (by decide) (by decide)), trivial⟩ ⟨rfl, rfl, rfl, rfl, trivial⟩
  · obtain rfl := h3 rfl
    clear h0 h1 h2 h3
    unfold zeroM
    dsimp only
    cbv
    refine tstF (by rw [arX.lt]; rfl) ?_
    cbv
    refine hKx (.exit 0) _ _ _ (by simp) ?_
    cbv
    refine wp_for okX (by kernel_rfl) 5 (fun j (p : (Int × Int × Int × Int × Int) × (List AV × Bool)) => (j = 0 → p = ((0, 0, 0, 0, 0), z3, d3)) ∧ (j = 1 → p = ((n1, 0, 0, 0, 0), z4, d4)) ∧ (j = 2 → p = ((n1, n2, 0, 0, 0), z5, d5)) ∧ (j = 3 → p = ((n1, n2, n3, 0, 0), z6, d6)) ∧ (j = 4 → p = ((n1, n2, n3, n4, 0), z7, d7)) ∧ (j = 5 → p = ((n1, n2, n3, n4, n5), z8, d8)))
      (fun j _ => [(1, .lp 1 0), (2, .lp 2 0), (3, .lp 3 0), (4, .lp 4 0), (6, .lp 6 0), (23, .int .i64 (j : Int))])
      (fun _ p => [(1, [.sl false 1 p.2.1, .bool p.2.2]), (2, zeroM), (3, [.sl true 1 [], .bool false]), (4, [.int .u8 k, .int .u8 f, .int .u8 t]), (6, [.int .i64 p.1.1, .int .i64 p.1.2.1, .int .i64 p.1.2.2.1, .int .i64 p.1.2.2.2.1, .int .i64 p.1.2.2.2.2])]) ((0, 0, 0, 0, 0), z3, d3)
      ⟨fun _ => rfl, fun h => absurd h (by decide), fun h => absurd h (by decide), fun h => absurd h (by decide), fun h => absurd h (by decide), fun h => absurd h (by decide)⟩ (fun _ _ => rfl) ⟨rfl, rfl, rfl, rfl, rfl, rfl, trivial⟩ ⟨rfl, rfl, rfl, rfl, rfl, trivial⟩ ?_
    rintro j p hj ⟨h0, h1, h2, h3, h4, h5⟩ K hK hKx
    have hjs : j = 0 ∨ j = 1 ∨ j = 2 ∨ j = 3 ∨ j = 4 ∨ j = 5 := by omega
    rcases hjs with rfl | rfl | rfl | rfl | rfl | rfl
    · obtain rfl := h0 rfl
      clear h0 h1 h2 h3 h4 h5
      unfold zeroM
      dsimp only
      cbv
      refine tstT (by rw [arX.lt]; rfl) ?_
      cbv
      refine (c4 _).mono ?_
      rintro r st' ⟨rfl, rfl⟩
      cbv
      refine ⟨fun _ => ⟨by decide, by decide⟩, ?_⟩
      exact hK ((n1, 0, 0, 0, 0), z4, d4) _ _ (by decide) ⟨fun h => absurd h (by decide), fun _ => rfl, fun h => absurd h (by decide), fun h => absurd h (by decide), fun h => absurd h (by decide), fun h => absurd h (by decide)⟩ ⟨rfl, rfl, rfl, rfl, rfl, congrArg (AV.int .i64) (arX.sucK (j := 0) (N := 5) rfl (by decide) (by decide)), trivial⟩ ⟨rfl, rfl, rfl, rfl, rfl, trivial⟩
    · obtain rfl := h1 rfl
      clear h0 h1 h2 h3 h4 h5
      unfold zeroM
      dsimp only
      cbv
      refine tstT (by rw [arX.lt]; rfl) ?_
      cbv
      refine (c5 _).mono ?_
      rintro r st' ⟨rfl, rfl⟩
      cbv
      refine ⟨fun _ => ⟨by decide, by decide⟩, ?_⟩
      exact hK ((n1, n2, 0, 0, 0), z5, d5) _ _ (by decide) ⟨fun h => absurd h (by decide), fun h => absurd h (by decide), fun _ => rfl, fun h => absurd h (by decide), fun h => absurd h (by decide), fun h => absurd h (by decide)⟩ ⟨rfl, rfl, rfl, rfl, rfl, congrArg (AV.int .i64) (arX.sucK (j := 1) (N := 5) rfl (by decide) (by decide)), trivial⟩ ⟨rfl, rfl, rfl, rfl, rfl, trivial⟩
    · obtain rfl := h2 rfl
      clear h0 h1 h2 h3 h4 h5
      unfold zeroM
      dsimp only
      cbv
      refine tstT (by rw [arX.lt]; rfl) ?_
      cbv
      refine (c6 _).mono ?_
      rintro r st' ⟨rfl, rfl⟩
      cbv
      refine ⟨fun _ => ⟨by decide, by decide⟩, ?_⟩
      exact hK ((n1, n2, n3, 0, 0), z6, d6) _ _ (by decide) ⟨fun h => absurd h (by decide), fun h => absurd h (by decide), fun h => absurd h (by decide), fun _ => rfl, fun h => absurd h (by decide), fun h => absurd h (by decide)⟩ ⟨rfl, rfl, rfl, rfl, rfl, congrArg (AV.int .i64) (arX.sucK (j := 2) (N := 5) rfl (by decide) (by decide)), trivial⟩ ⟨rfl, rfl, rfl, rfl, rfl, trivial⟩
    · obtain rfl := h3 rfl
      clear h0 h1 h2 h3 h4 h5
      unfold zeroM
      dsimp only
      cbv
      refine tstT (by rw [arX.lt]; rfl) ?_
      cbv
      refine (c7 _).mono ?_
      rintro r st' ⟨rfl, rfl⟩
      cbv
      refine ⟨fun _ => ⟨by decide, by decide⟩, ?_⟩
      exact hK ((n1, n2, n3, n4, 0), z7, d7) _ _ (by decide) ⟨fun h => absurd h (by decide), fun h => absurd h (by decide), fun h => absurd h (by decide), fun h => absurd h (by decide), fun _ => rfl, fun h => absurd h (by decide)⟩ ⟨rfl, rfl, rfl, rfl, rfl, congrArg (AV.int .i64) (arX.sucK (j := 3) (N := 5) rfl (by decide) (by decide)), trivial⟩ ⟨rfl, rfl, rfl, rfl, rfl, trivial⟩
    · obtain rfl := h4 rfl
      clear h0 h1 h2 h3 h4 h5
      unfold zeroM
      dsimp only
      cbv
      refine tstT (by rw [arX.lt]; rfl) ?_
      cbv
      refine (c8 _).mono ?_
      rintro r st' ⟨rfl, rfl⟩
      cbv
      refine ⟨fun _ => ⟨by decide, by decide⟩, ?_⟩
      exact hK ((n1, n2, n3, n4, n5), z8, d8) _ _ (by decide) ⟨fun h => absurd h (by decide), fun h => absurd h (by decide), fun h => absurd h (by decide), fun h => absurd h (by decide), fun h => absurd h (by decide), fun _ => rfl⟩ ⟨rfl, rfl, rfl, rfl, rfl, congrArg (AV.int .i64) (arX.sucK (j := 4) (N := 5) rfl (by decide) (by decide)), trivial⟩ ⟨rfl, rfl, rfl, rfl, rfl, trivial⟩
    · obtain rfl := h5 rfl
      clear h0 h1 h2 h3 h4 h5
      unfold zeroM
      dsimp only
      cbv
      refine tstF (by rw [arX.lt]; rfl) ?_
      cbv
      refine hKx (.exit 2) _ _ _ (by simp) ?_
      cbv
      refine (c9 _).mono ?_
      rintro r st' ⟨rfl, rfl⟩
      cbv
      refine (c10 _).mono ?_
      rintro r st' ⟨rfl, rfl⟩
      cbv
      refine ⟨fun _ => ⟨by decide, by decide⟩, ⟨fun _ => ⟨by decide, by decide⟩, ⟨fun _ => ⟨by decide, by decide⟩, ⟨fun _ => ⟨by decide, by decide⟩, ⟨fun _ => ⟨by decide, by decide⟩, ⟨fun _ => ⟨by decide, by decide⟩, ⟨fun _ => ⟨by decide, by decide⟩, ⟨fun _ => ⟨by decide, by decide⟩, ?_⟩⟩⟩⟩⟩⟩⟩⟩
      refine wp_for okX (by kernel_rfl) N (fun j (p : List Ent × S) => p.1.length = j ∧ entsS N s10 = (p.1 ++ (entsS (N - j) p.2).1, (entsS (N - j) p.2).2) ∧ p.2.1.length ≤ s10.1.length ∧ San p.2)
        (fun j _ => [(1, .lp 1 0), (2, .lp 2 0), (3, .lp 3 0), (10, .lp 10 0), (65, .int .i64 (N : Int)), (66, .int .i64 (j : Int))])
        (fun _ p => [(1, [.sl false 1 (bs p.2.1), .bool p.2.2]), (2, zeroM), (3, [.sl true 1 [], .bool false]), (10, boxM (vl vv xconv .i64 k) (vl vv xconv .i64 f) (vl vv xconv .i64 t) n1 n2 n3 n4 n5 y (p.1.map Ent.av))])
        ([], s10) ⟨rfl, by rw [Nat.sub_zero, List.nil_append], Nat.le_refl _, a10⟩ (fun _ _ => rfl) ?_ ?_ ?_
      · exact ⟨rfl, rfl, rfl, rfl, rfl, rfl, trivial⟩
      · refine ⟨?_, rfl, rfl, rfl, trivial⟩
        show _ = some [AV.sl false 1 (bs s10.1), AV.bool s10.2]
        rw [hz10, hd10]
        rfl
      rintro j ⟨A, sj⟩ hj ⟨hA, hpre, hle, hsa⟩ K hK hKx
      replace hA : A.length = j := hA
      replace hsa : San sj := hsa
      have ce := hent sj hsa (leK hle hs10)
      have hlA := arX.lenf Ent.av A
      generalize hjj : (j : Int) = kj at *
      unfold zeroM boxM
      dsimp only
      unfold sv at ce
      generalize hbj : bs sj.1 = bj at *
      generalize hdj : sj.2 = dj at *
      generalize hAm : A.map Ent.av = mas at *
      cbv
      refine tst (fun h3 => ?_) (fun h3 => ?_)
      · have hjl := arX.inK hjj rfl h3
        have hle2 := ent_left sj
        have hsa2 := san_ent hsa
        have hp2 : entsS N s10 = ((A ++ [(entS sj).1]) ++ (entsS (N - (j + 1)) (entS sj).2).1, (entsS (N - (j + 1)) (entS sj).2).2) := by
          rw [hpre, show N - j = (N - (j + 1)) + 1 by omega]
          show (A ++ ((entS sj).1 :: (entsS (N - (j + 1)) (entS sj).2).1), _) = _
          rw [List.append_assoc]
          rfl
        generalize (entS sj).1 = ev at *
        generalize (entS sj).2 = sj2 at *
        have hAm2 : (A ++ [ev]).map Ent.av = mas ++ [ev.av] := by rw [List.map_append, hAm]; rfl
        have hA2 : (A ++ [ev]).length = j + 1 := by rw [List.length_append, hA]; rfl
        generalize hA3 : A ++ [ev] = A2 at *
        obtain ⟨v1, v2, v3⟩ := ev
        unfold Ent.av at ce hAm2
        dsimp only at ce hAm2
        generalize bs v3 = vs at *
        generalize hbj2 : bs sj2.1 = bj2 at *
        generalize hdj2 : sj2.2 = dj2 at *
        cbv
        refine (ce _).mono ?_
        rintro r st' ⟨rfl, rfl⟩
        cbv
        have hN4 : (N : Int) ≤ 9223372036854775807 := leI (M := 4) r10.2 (by decide)
        refine ⟨fun _ => appOkK (N := A.length) (M := 1) hlA (arX.lenE _) (by have := leN (M := 4) r10.2; omega), ?_⟩
        exact hK (A2, sj2) _ _ hjl ⟨hA2, hp2, Nat.le_trans hle2 hle, hsa2⟩ ⟨rfl, rfl, rfl, rfl, rfl, congrArg (AV.int .i64) (arX.sucK hjj hN4 hjl), trivial⟩
          ⟨congr (congrArg (fun a b => some [AV.sl false 1 a, AV.bool b]) hbj2.symm) hdj2.symm, rfl, rfl, congrArg (fun l => some (boxM (vl vv xconv .i64 k) (vl vv xconv .i64 f) (vl vv xconv .i64 t) n1 n2 n3 n4 n5 y l)) ((arX.appE _ _).trans hAm2.symm), trivial⟩
      · have hje := arX.outK hjj rfl h3 hj
        have hfin : entsS N s10 = (A, sj) := by
          rw [hpre, hje, Nat.sub_self]
          show (A ++ [], sj) = _
          rw [List.append_nil]
        rw [hfin] at hmr
        clear hpre
        cbv
        refine hKx (.exit 4) _ _ _ (by simp) ?_
        cbv
        have ed : vl vv xieq (vl vv xconv .i64 k) 7 = decide (k = 7) := (arX.ieq _ _).trans (congrArg (fun z : Int => decide (z = 7)) e1)
        generalize hsn : cond (decide (k = 7)) (snapS sj) (Ent.zero, sj) = sn at hmr
        rw [hmr] at q11 b11
        unfold msgS at hms
        rw [hmr] at hms
        dsimp only at hms
        refine tst (fun h4 => ?_) (fun h4 => ?_)
        · have hk7 : decide (k = 7) = true := ed.symm.trans h4
          rw [hk7] at hsn
          have cs := hsnap sj hsa (leK hle hs10)
          rw [show snapS sj = sn from hsn] at cs
          obtain ⟨⟨g1, g2, g3⟩, s12⟩ := sn
          dsimp only at cs q11 b11 hms
          unfold sv at cs
          rw [hbj, hdj] at cs
          generalize hz12 : bs s12.1 = z12 at *
          generalize hd12 : s12.2 = d12 at *
          generalize hrt : Msg.right _ = rt at hms b11
          unfold Msg.av at q11 b11
          unfold Ent.av at cs
          dsimp only at q11 b11 cs
          generalize hgs : bs g3 = gs at *
          rw [hAm] at q11 b11
          cbv
          refine (cs _).mono ?_
          rintro r st' ⟨rfl, rfl⟩
          cbv
          simp only [e1, e2, e3]
          refine ⟨fun _ => q11, ?_⟩
          refine tst (fun h5 => ?_) (fun h5 => ?_)
          · cbv
            simp only [arX.por, arX.not, b11] at h5
            rw [if_pos h5] at hms
            subst hms
            exact hR _ _ ⟨rfl, rfl⟩
          · cbv
            simp only [arX.por, arX.not, b11] at h5
            rw [if_neg (by rw [h5]; decide)] at hms
            subst hms hAm hgs hz12 hd12
            exact hR _ _ ⟨rfl, rfl⟩
        · have hk7 : decide (k = 7) = false := ed.symm.trans h4
          rw [hk7] at hsn
          obtain rfl : (Ent.zero, sj) = sn := hsn
          dsimp only at q11 b11 hms
          rw [hdj] at hms
          generalize hrt : Msg.right _ = rt at hms b11
          unfold Msg.av Ent.zero at q11 b11
          unfold Ent.zero at hms
          dsimp only at q11 b11 hms
          rw [hAm] at q11 b11
          rw [show bs [] = [] from rfl] at q11 b11
          cbv
          simp only [e1, e2, e3]
          refine ⟨fun _ => q11, ?_⟩
          refine tst (fun h5 => ?_) (fun h5 => ?_)
          · cbv
            simp only [arX.por, arX.not, b11] at h5
            rw [if_pos h5] at hms
            subst hms
            exact hR _ _ ⟨rfl, rfl⟩
          · cbv
            simp only [arX.por, arX.not, b11] at h5
            rw [if_neg (by rw [h5]; decide)] at hms
            subst hms hAm hbj hdj
            exact hR _ _ ⟨rfl, rfl⟩
end Go.V

/- U29: the contract of the law RmsgGets. -/
namespace Go.V
open Go.Proofs
set_option maxRecDepth 100000
def wHp (C : Cf) (l : List Nat) : Cf := { C with hp := memN l }
theorem ok_hp {C : Cf} (h : Ok Try.prog C) (l : List Nat) : Ok Try.prog (wHp C l) := { x := h.x, ti := h.ti, pf := h.pf, eq := h.eq, mixed := h.mixed }
theorem newIn_c (b : List UInt8) (hb : b.length ≤ 140737488355328) : VCalls Try.prog 14 [.sl false 1 (bs b)] [] (fun r st' => r = .ref 0 0 ∧ st' = stS (b, false)) := by
  have hc := clone_c b hb
  refine VCalls.use (ok_hp ok7 [6]) Try.func14 rfl (by rfl) (Nat.le_of_ble_eq_true rfl) (by kernel_rfl) fun R hR => ?_
  unfold stS at hR
  dsimp only at hR
  generalize bs b = vs at *
  generalize Try.prog = P at *
  generalize hX : std = X at *
  refine ops_use hX fun vv xlt xieq xseq xslt xar xconv xnot xpick xbeq xeqc xlen xslen xget xsget xsub xssub xapp xcat xtoB xofB xrep xrepc xchunks xmx xmn hY arX => ?_
  clear hX
  subst hY
  generalize hVV : V5.b = VV at *
  refine vl_use vv VV fun V hV => ?_
  clear hVV
  subst hV
  generalize V5.q = Q at *
  cbv
  refine (hc _).mono ?_
  rintro r st' ⟨rfl, rfl⟩
  cbv
  exact hR _ _ ⟨rfl, rfl⟩
theorem ents4 (s : S) : (((msgS s).1.ents.length : Nat) : Int) ≤ 9223372036854775807 := by
  unfold msgS
  split
  · decide
  · have h4 := count_range 4 (by decide) (flagS (numS (numS (numS (numS (numS (wideS 1 (wideS 1 (wideS 1 s).2).2).2).2).2).2).2).2).2
    have : (msgRaw s).1.ents.length = (countS 4 (flagS (numS (numS (numS (numS (numS (wideS 1 (wideS 1 (wideS 1 s).2).2).2).2).2).2).2).2).2).1.toNat := ents_len _ _
    rw [this]
    omega
theorem msgS_right (s : S) (h : (msgS s).2.2 = false) : (msgS s).1.right = true := by
  unfold msgS at h ⊢
  split at h
  · cases h
  · next hc =>
    rw [if_neg hc]
    cases hr : (msgRaw s).1.right
    · rw [hr] at hc; simp at hc
    · rfl
theorem law5_ok : codeOk Try.f5.ntmps (wRt (Cj [9, 17] [8, 13, 11, 10, 32, 36, 24, 31, 69, 37, 33, 65, 66, 30, 29, 28, 27, 12, 34, 63, 35, 64, 26] std V5.q V5.b) [(32, 6), (39, 6), (45, 6)]) (Try.f5.body.getD .skip) = true := by kernel_rfl
theorem law5_few (b : List UInt8) (hb : b.length ≤ 5000) : VCalls Try.prog 5 [.sl false 1 (bs b)] [] (fun r _ => r = .bool true) := by
  have haw := awake_c
  have hnew := newIn_c b (by omega)
  have hget := get_c (b, false) (by show (b.length : Int) ≤ _; omega)
  have hfrom := from16_c (b, false) (by show (b.length : Int) ≤ _; omega) (fun h => by cases h)
  have hbad := bad_c (msgS (b, false)).2
  have hleft := left_c (msgS (b, false)).2
  have h4 := ents4 (b, false)
  have hri := msgS_right (b, false)
  have q17 : V5.q 17 [(msgS (b, false)).1.av] := ⟨_, rfl⟩
  have q13 : V5.q 13 [(msgS (b, false)).1.av, (msgS (b, false)).1.av] := ⟨_, _, h4, rfl⟩
  have q10 : V5.q 10 [(msgS (b, false)).1.av] := ⟨_, h4, rfl⟩
  have b13 : V5.b 13 [(msgS (b, false)).1.av, (msgS (b, false)).1.av] = true := by
    show decide (_ = _) = true
    exact decide_eq_true rfl
  have b10 : V5.b 10 [(msgS (b, false)).1.av] = (msgS (b, false)).1.right := by
    show (msgOf _).right = _
    rw [msgOf_av]
  refine VCalls.use (ok_rt ok7 [(32, 6), (39, 6), (45, 6)]) Try.func5 rfl (by rfl) (Nat.le_of_ble_eq_true rfl) law5_ok fun R hR => ?_
  have hs0 : sv (b, false) = .agg [.sl false 1 (bs b), .bool false] := rfl
  rw [hs0] at hfrom
  generalize msgS (b, false) = mm at *
  obtain ⟨m, s2⟩ := mm
  dsimp only at *
  generalize m.right = rt at *
  obtain ⟨m1, m2, m3, m4, m5, m6, m7, m8, m9, mA, m11, m12, mV⟩ := m
  unfold sv Msg.av at *
  dsimp only at *
  generalize stS (b, false) = st1 at *
  generalize stS s2 = st2 at *
  generalize Try.prog = P at *
  generalize hX : std = X at *
  refine ops_use hX fun vv xlt xieq xseq xslt xar xconv xnot xpick xbeq xeqc xlen xslen xget xsget xsub xssub xapp xcat xtoB xofB xrep xrepc xchunks xmx xmn hY arX => ?_
  clear hX
  subst hY
  generalize hVV : V5.b = VV at *
  refine vl_use vv VV fun V hV => ?_
  clear hVV
  subst hV
  generalize V5.q = Q at *
  have hl := arX.lenb b
  have hl2 := arX.lenb s2.1
  generalize mA.map Ent.av = mas at *
  generalize bs mV = mvs at *
  generalize bs b = bb at *
  generalize bs s2.1 = b2 at *
  generalize (s2.1.length : Int) = len2 at *
  generalize s2.2 = d2 at *
  cbv
  refine (haw _).mono ?_
  rintro r st' ⟨rfl, rfl⟩
  cbv
  refine tst (fun h => ?_) (fun h => ?_)
  · cbv
    refine (haw _).mono ?_
    rintro r st' ⟨rfl, rfl⟩
    cbv
    exact hR _ _ rfl
  · cbv
    refine hnew.mono ?_
    rintro r st' ⟨rfl, rfl⟩
    cbv
    refine hget.mono ?_
    rintro r st' ⟨rfl, rfl⟩
    cbv
    refine (hfrom _).mono ?_
    rintro r st' ⟨rfl, rfl⟩
    cbv
    refine ⟨fun _ => q17, ⟨fun _ => q13, ?_⟩⟩
    refine tstT b13 ?_
    cbv
    refine hbad.mono ?_
    rintro r st' ⟨rfl, rfl⟩
    cbv
    refine tst (fun h2 => ?_) (fun h2 => ?_)
    · cbv
      refine hleft.mono ?_
      rintro r st' ⟨rfl, rfl⟩
      cbv
      refine ⟨fun _ => q10, hR _ _ ?_⟩
      simp only [arX.pand, arX.por, arX.beq, arX.ieq, b13, b10, hl2, beq_self_eq_true, decide_true, Bool.true_and]
      congr 1
      cases d2
      · rw [hri rfl]; rfl
      · rfl
    · exfalso
      rw [arX.pand, arX.beq, b13] at h2
      simp at h2
theorem law5_long (b : List UInt8) (hb : ¬ b.length ≤ 5000) : VCalls Try.prog 5 [.sl false 1 (bs b)] [] (fun r _ => r = .bool true) := by
  have haw := awake_c
  refine VCalls.use ok7 Try.func5 rfl (by rfl) (Nat.le_of_ble_eq_true rfl) (by kernel_rfl) fun R hR => ?_
  generalize Try.prog = P at *
  generalize hX : std = X at *
  refine ops_use hX fun vv xlt xieq xseq xslt xar xconv xnot xpick xbeq xeqc xlen xslen xget xsget xsub xssub xapp xcat xtoB xofB xrep xrepc xchunks xmx xmn hY arX => ?_
  clear hX
  subst hY
  generalize hVV : V5.b = VV at *
  refine vl_use vv VV fun V hV => ?_
  clear hVV
  subst hV
  generalize V5.q = Q at *
  have hl := arX.lenb b
  generalize hbl : (b.length : Int) = len at *
  generalize bs b = bb at *
  cbv
  refine (haw _).mono ?_
  rintro r st' ⟨rfl, rfl⟩
  cbv
  refine tst (fun h => ?_) (fun h => ?_)
  · cbv
    refine (haw _).mono ?_
    rintro r st' ⟨rfl, rfl⟩
    cbv
    exact hR _ _ rfl
  · exfalso
    rw [arX.por, arX.not, arX.lt, hl] at h
    have h : decide (5000 < len) = false := h
    have := of_decide_eq_false h
    have h2 : len = (b.length : Int) := hbl.symm
    omega
theorem law5_c (b : List UInt8) : VCalls Try.prog 5 [.sl false 1 (bs b)] [] (fun r _ => r = .bool true) := by
  by_cases hb : b.length ≤ 5000
  · exact law5_few b hb
  · exact law5_long b hb
end Go.V
