/- U12: rmsg.Right. -/
import Derived.Test.YtbmjmemhjkpbdaaG1
set_option linter.unusedVariables false
set_option linter.unusedSimpArgs false
namespace Go.V
open Go.Proofs
set_option maxRecDepth 100000
/-- A right message. -/
def Msg.right (m : Msg) : Bool :=
  (keep m).2 && decide ((keep m).1 = m) && (decide (0 ≤ m.frm) && decide (m.frm < 3)) && (decide (0 ≤ m.to) && decide (m.to < 3)) && !decide (m.frm = m.to) && !decide (m.term < 1) && [m.term, m.a, m.b, m.c, m.d].all okNum &&
  !decide (4 < (m.ents.length : Int)) && runOk m.a m.b m.ents && m.ents.all (fun a => !decide (m.term < a.y)) &&
  (!decide (m.kind = 7) || (snapRight m.si m.st m.sv.length && decide (0 < m.si) && !decide (m.term < m.st)))
theorem keep_len (m : Msg) : (keep m).1.ents.length ≤ m.ents.length := by
  unfold keep Msg.bare Msg.zero
  split <;> (try split) <;> (try split) <;> (try split) <;> (try split) <;> simp
theorem right_try (m : Msg) (hm : (m.ents.length : Int) ≤ 9223372036854775807) (st : St) : VCalls Try.prog 10 [m.av] st (fun r st' => r = .bool m.right ∧ st' = st) := by
  have hkeep := keep_c m
  have hkl := keep_len m
  have q12 : V3.q 12 [(keep m).1.av, m.av] := ⟨(keep m).1, m, by omega, rfl⟩
  have b12 : V3.b 12 [(keep m).1.av, m.av] = decide ((keep m).1 = m) := by
    show decide (msgOf _ = msgOf _) = _
    rw [msgOf_av, msgOf_av]
  have q26 : ∀ n, V3.q 26 [.int .i64 n] := fun n => ⟨n, rfl⟩
  have b26 : ∀ n, V3.b 26 [.int .i64 n] = (decide (0 ≤ n) && decide (n < 3)) := fun n => rfl
  have q27 : V3.q 27 [.sl false 1 [.int .i64 m.term, .int .i64 m.a, .int .i64 m.b, .int .i64 m.c, .int .i64 m.d]] := ⟨[m.term, m.a, m.b, m.c, m.d], by simp, rfl⟩
  have b27 : V3.b 27 [.sl false 1 [.int .i64 m.term, .int .i64 m.a, .int .i64 m.b, .int .i64 m.c, .int .i64 m.d]] = [m.term, m.a, m.b, m.c, m.d].all okNum := rfl
  have q28 : V3.q 28 [.int .i64 m.a, .int .i64 m.b, .sl false 3 (m.ents.map Ent.av)] := ⟨m.a, m.b, m.ents, hm, rfl⟩
  have b28 : V3.b 28 [.int .i64 m.a, .int .i64 m.b, .sl false 3 (m.ents.map Ent.av)] = runOk m.a m.b m.ents := by
    show runOk _ _ ((m.ents.map Ent.av).map entOf) = _
    rw [ents_map]; rfl
  have q29 : V3.q 29 [.agg [.int .i64 m.si, .int .i64 m.st, .sl false 1 (bs m.sv)]] := ⟨m.si, m.st, m.sv, rfl⟩
  have b29 : V3.b 29 [.agg [.int .i64 m.si, .int .i64 m.st, .sl false 1 (bs m.sv)]] = snapRight m.si m.st m.sv.length := by
    show snapRight _ _ (bs m.sv).length = _
    rw [show (bs m.sv).length = m.sv.length by simp [bs]]; rfl
  have hR0 : m.right = m.right := rfl
  conv at hR0 => rhs; unfold Msg.right
  generalize hmr : m.right = mr at hR0 ⊢
  have hl := (ar_std).lenf Ent.av m.ents
  have hg := fun (j : Nat) (a : Ent) (h : m.ents[j]? = some a) => (ar_std).getf Ent.av h
  generalize hk : keep m = kk at *
  obtain ⟨m1, m2, m3, m4, m5, m6, m7, m8, m9, mA, m11, m12, mV⟩ := m
  obtain ⟨⟨k1, k2, k3, k4, k5, k6, k7, k8, k9, kA, k11, k12, kV⟩, kb⟩ := kk
  refine VCalls.use ok4 Try.func10 rfl (by rfl) (Nat.le_of_ble_eq_true rfl) (by kernel_rfl) fun R hR => ?_
  unfold Msg.av at *
  dsimp only at *
  have okX := ok4
  have arX := ar_std
  generalize Try.prog = P at *
  generalize std = X at *
  generalize V3.q = Q at *
  generalize V3.b = V at *
  generalize mA.map Ent.av = mas at *
  generalize bs mV = mvs at *
  generalize kA.map Ent.av = kas at *
  generalize bs kV = kvs at *
  replace hm : (mA.length : Int) ≤ 9223372036854775807 := hm
  replace hl : X .len mas = (mA.length : Int) := hl
  cbv
  refine (hkeep st).mono ?_
  rintro r st' ⟨rfl, rfl⟩
  cbv
  refine ⟨fun _ => q12, ⟨fun _ => q26 _, ⟨fun _ => q26 _, ⟨fun _ => q27, ?_⟩⟩⟩⟩
  refine tst (fun h1 => ?_) (fun h1 => ?_)
  · cbv
    refine hR _ _ ⟨?_, rfl⟩
    simp only [arX.por, arX.not, arX.ieq, arX.lt, b12, b26, b27, Bool.or_eq_true, Bool.not_eq_true'] at h1
    rw [hR0]
    congr 1
    rcases h1 with (((((h | h) | h) | h) | h) | h) | h <;> simp only [h, Bool.and_false, Bool.false_and, Bool.not_true]
  · simp only [arX.por, arX.not, arX.ieq, arX.lt, b12, b26, b27, Bool.or_eq_false_iff, Bool.not_eq_false'] at h1
    obtain ⟨⟨⟨⟨⟨⟨t1, t2⟩, t3⟩, t4⟩, t5⟩, t6⟩, t7⟩ := h1
    simp only [t1, t2, t3, t4, t5, t6, t7, Bool.not_false, Bool.true_and, Bool.and_true] at hR0
    clear t1 t2 t3 t4 t5 t6 t7 b12 b26 b27
    cbv
    refine ⟨fun _ => q28, ?_⟩
    refine tst (fun h2 => ?_) (fun h2 => ?_)
    · cbv
      refine hR _ _ ⟨?_, rfl⟩
      simp only [arX.por, arX.not, arX.ieq, arX.lt, b28, hl, Bool.or_eq_true, Bool.not_eq_true'] at h2
      rw [hR0]
      congr 1
      rcases h2 with h | h <;> simp only [h, Bool.and_false, Bool.false_and, Bool.not_true]
    · simp only [arX.por, arX.not, arX.ieq, arX.lt, b28, hl, Bool.or_eq_false_iff, Bool.not_eq_false'] at h2
      simp only [h2.1, h2.2, Bool.not_false, Bool.true_and, Bool.and_true] at hR0
      clear h2 b28
      cbv
      refine wp_for okX (by kernel_rfl) mA.length (fun j (_ : Unit) => ∀ (i : Nat) (a : Ent), i < j → mA[i]? = some a → (!decide (m4 < a.y)) = true)
        (fun j _ => [(1, .lp 1 0), (74, .sl false 3 mas), (75, .int .i64 (X .len mas)), (76, .int .i64 (j : Int))]) (fun _ _ => [(1, [.int .i64 m1, .int .i64 m2, .int .i64 m3, .int .i64 m4, .int .i64 m5, .int .i64 m6, .int .i64 m7, .int .i64 m8, .bool m9, .sl false 3 mas, .int .i64 m11, .int .i64 m12, .sl false 1 mvs])]) () (fun i a h => absurd h (Nat.not_lt_zero _)) (fun _ _ => rfl) ?_ ?_ ?_
      · exact ⟨rfl, rfl, rfl, rfl, trivial⟩
      · exact ⟨rfl, trivial⟩
      · intro j _ hj hpre K hK hKx
        generalize hjj : (j : Int) = k
        cbv
        refine tst (fun h3 => ?_) (fun h3 => ?_)
        · have hjl := arX.inK hjj hl h3
          obtain ⟨a, ha⟩ := getE rfl hjl
          have ga := hg j a ha
          rw [hjj] at ga
          cbv
          refine ⟨fun _ => inBK hjj hl hjl, ?_⟩
          simp only [ga]
          obtain ⟨a1, a2, a3⟩ := a
          unfold Ent.av at ga ⊢
          dsimp only at ga ⊢
          generalize bs a3 = va at *
          cbv
          refine tst (fun h4 => ?_) (fun h4 => ?_)
          · cbv
            refine hKx .ret _ _ _ (by simp) ?_
            cbv
            refine hR _ _ ⟨?_, rfl⟩
            show AV.bool false = AV.bool mr
            rw [arX.lt] at h4
            rw [hR0, all_not ha (by rw [h4]; rfl)]
            simp only [Bool.and_false, Bool.false_and]
          · cbv
            rw [arX.lt] at h4
            refine hK () _ _ hjl (upto_suc ha (by rw [h4]; rfl) hpre) ?_ ⟨rfl, trivial⟩
            refine ⟨rfl, rfl, rfl, ?_, trivial⟩
            show AV.int .i64 (X .ar .add .i64 k 1) = _
            rw [arX.sucK hjj hm hjl]
        · have hje := arX.outK hjj hl h3 hj
          cbv
          refine hKx (.exit 0) _ _ _ (by simp) ?_
          cbv
          refine ⟨fun _ => q29, hR _ _ ⟨?_, rfl⟩⟩
          show AV.bool _ = AV.bool _
          congr 1
          rw [hR0, all_upto hje hpre]
          simp only [arX.por, arX.pand, arX.not, arX.ieq, arX.lt, b29, Bool.true_and]
end Go.V

/- U13: the reference's simple tests. -/
namespace Go.V
open Go.Proofs
set_option maxRecDepth 100000
/-- Few entries: index, sum so far. -/
def fewE (n : Int) : Int → Int → List Ent → Bool
  | _, _, [] => true
  | j, s, a :: r => !(decide (n ≤ j) || decide (40000 < std .ar .add .i64 s (a.v.length : Int))) && fewE n (j + 1) (std .ar .add .i64 s (a.v.length : Int)) r
def Msg.few (m : Msg) : Bool := fewE 6 0 0 m.ents && decide ((m.sv.length : Int) ≤ 2000)
/-- The reference's test that a message has nothing that its kind has not. -/
def Msg.bareB (m : Msg) : Bool :=
  (decide (m.kind = 1) || decide (m.kind = 3) || decide (m.kind = 5) || decide (m.kind = 6) || decide (m.a = 0)) &&
  (decide (m.kind = 1) || decide (m.kind = 3) || decide (m.kind = 5) || decide (m.b = 0)) &&
  (decide (m.kind = 5) || decide (m.c = 0) && decide ((m.ents.length : Int) = 0)) &&
  (decide (m.kind = 5) || decide (m.kind = 6) || decide (m.d = 0)) &&
  (decide (m.kind = 2) || decide (m.kind = 4) || decide (m.kind = 6) || !m.yes) &&
  (decide (m.kind = 7) || decide (m.si = 0) && decide (m.st = 0) && decide ((m.sv.length : Int) = 0))
/-- The meanings, second table. -/
def V4 : Pv where
  q f l := match f with
    | 8 => ∃ m : Msg, (m.ents.length : Int) ≤ 9223372036854775807 ∧ l = [m.av]
    | 10 => ∃ m : Msg, (m.ents.length : Int) ≤ 9223372036854775807 ∧ l = [m.av]
    | 11 => ∃ m : Msg, (m.ents.length : Int) ≤ 9223372036854775807 ∧ l = [m.av]
    | 13 => ∃ m k : Msg, (m.ents.length : Int) ≤ 9223372036854775807 ∧ l = [m.av, k.av]
    | 24 => ∃ (A : List Ent) (n : Int), (A.length : Int) ≤ 9223372036854775807 ∧ l = [.sl false 3 (A.map Ent.av), .int .i64 n]
    | 30 => ∃ n, l = [.int .i64 n]
    | 31 => ∃ m : Msg, l = [m.av]
    | 32 => ∃ (x y : Int) (A : List Ent), (A.length : Int) ≤ 9223372036854775807 ∧ l = [.int .i64 x, .int .i64 y, .sl false 3 (A.map Ent.av)]
    | 33 => ∃ (x y : Int) (v : List UInt8), l = [.agg [.int .i64 x, .int .i64 y, .sl false 1 (bs v)]]
    | 36 => ∃ A B : List Ent, (A.length : Int) ≤ 9223372036854775807 ∧ l = [.sl false 3 (A.map Ent.av), .sl false 3 (B.map Ent.av)]
    | 37 => ∃ a b : Ent, l = [a.av, b.av]
    | 65 => ∃ a : Ent, l = [a.av]
    | 66 => ∃ n, l = [.int .i64 n]
    | 69 => ∃ a b : Ent, l = [a.av, b.av]
    | f => V3.q f l
  b f l := match f, l with
    | 8, [x] => (msgOf x).few
    | 10, [x] => (msgOf x).right
    | 11, [x] => (msgOf x).right
    | 13, [x, y] => decide (msgOf x = msgOf y)
    | 24, [x, n] => fewE (intOf n) 0 0 ((elsOf x).map entOf)
    | 30, [x] => okNum (intOf x)
    | 31, [x] => (msgOf x).bareB
    | 32, [x, y, z] => runOk (intOf x) (intOf y) ((elsOf z).map entOf)
    | 33, [.agg [x, y, z]] => snapRight (intOf x) (intOf y) (elsOf z).length
    | 36, [x, y] => decide ((elsOf x).map entOf = (elsOf y).map entOf)
    | 37, [x, y] => decide (entOf x = entOf y)
    | 65, [x] => (entOf x).right
    | 66, [x] => numB (intOf x)
    | 69, [x, y] => decide (entOf x = entOf y)
    | f, l => V3.b f l
theorem n30_c (n : Int) (st : St) : VCalls Try.prog 30 [.int .i64 n] st (fun r st' => r = .bool (okNum n) ∧ st' = st) := by
  refine VCalls.use ok4 Try.func30 rfl (by rfl) (Nat.le_of_ble_eq_true rfl) (by kernel_rfl) fun R hR => ?_
  have arX := ar_std
  generalize Try.prog = P
  generalize std = X at *
  cbv
  refine hR _ _ ⟨?_, rfl⟩
  simp only [arX.pand, arX.not, arX.lt, not_lt]
  rfl
theorem n66_c (n : Int) (st : St) : VCalls Try.prog 66 [.int .i64 n] st (fun r st' => r = .bool (numB n) ∧ st' = st) := by
  refine VCalls.use ok4 Try.func66 rfl (by rfl) (Nat.le_of_ble_eq_true rfl) (by kernel_rfl) fun R hR => ?_
  have arX := ar_std
  generalize Try.prog = P
  generalize std = X at *
  cbv
  refine hR _ _ ⟨?_, rfl⟩
  simp only [arX.pand, arX.not, arX.lt, not_lt]
  rfl
theorem ok5a : Ok Try.prog (Ci [66, 30, 29, 28, 27, 12, 34, 63, 35, 64, 26] std V4.q V4.b) := by
  refine ok_cons (ok_cons (ok_agree ok4 ?_) ?_) ?_
  · intro g hg
    simp only [List.mem_cons, List.not_mem_nil, or_false] at hg
    rcases hg with rfl | rfl | rfl | rfl | rfl | rfl | rfl | rfl | rfl <;> exact ⟨rfl, rfl⟩
  · rintro l ⟨n, rfl⟩ st; exact n30_c n st
  · rintro l ⟨n, rfl⟩ st; exact n66_c n st
theorem r65_c (a : Ent) (st : St) : VCalls Try.prog 65 [a.av] st (fun r st' => r = .bool a.right ∧ st' = st) := by
  obtain ⟨x, y, v⟩ := a
  refine VCalls.use ok5a Try.func65 rfl (by rfl) (Nat.le_of_ble_eq_true rfl) (by kernel_rfl) fun R hR => ?_
  have q66 : ∀ n, V4.q 66 [.int .i64 n] := fun n => ⟨n, rfl⟩
  have b66 : ∀ n, V4.b 66 [.int .i64 n] = numB n := fun n => rfl
  have arX := ar_std
  have hl := arX.lenb v
  unfold Ent.right Ent.av at *
  dsimp only at hR ⊢
  generalize Try.prog = P
  generalize std = X at *
  generalize V4.q = Q at *
  generalize V4.b = V at *
  generalize bs v = vs at *
  cbv
  refine ⟨fun _ => q66 _, ⟨fun _ => q66 _, hR _ _ ⟨?_, rfl⟩⟩⟩
  simp only [arX.pand, arX.not, arX.lt, not_lt, b66, hl]
theorem s33_c (x y : Int) (v : List UInt8) (st : St) : VCalls Try.prog 33 [.agg [.int .i64 x, .int .i64 y, .sl false 1 (bs v)]] st (fun r st' => r = .bool (snapRight x y v.length) ∧ st' = st) := by
  refine VCalls.use ok5a Try.func33 rfl (by rfl) (Nat.le_of_ble_eq_true rfl) (by kernel_rfl) fun R hR => ?_
  have q66 : ∀ n, V4.q 66 [.int .i64 n] := fun n => ⟨n, rfl⟩
  have b66 : ∀ n, V4.b 66 [.int .i64 n] = numB n := fun n => rfl
  have arX := ar_std
  have hl := arX.lenb v
  generalize Try.prog = P
  generalize std = X at *
  generalize V4.q = Q at *
  generalize V4.b = V at *
  generalize bs v = vs at *
  cbv
  refine tst (fun h => ?_) (fun h => ?_)
  · cbv
    refine hR _ _ ⟨?_, rfl⟩
    rw [arX.pand, arX.ieq, arX.ieq] at h
    unfold snapRight
    rw [if_pos (by simpa using h), arX.ieq, hl]
  · cbv
    refine ⟨fun _ => q66 _, ⟨fun _ => q66 _, hR _ _ ⟨?_, rfl⟩⟩⟩
    rw [arX.pand, arX.ieq, arX.ieq] at h
    unfold snapRight
    rw [if_neg (by simpa using h)]
    simp only [arX.pand, arX.not, arX.lt, not_lt, b66, hl]
theorem o69_c (a b : Ent) (st : St) : VCalls Try.prog 69 [a.av, b.av] st (fun r st' => r = .bool (decide (a = b)) ∧ st' = st) := by
  obtain ⟨a1, a2, a3⟩ := a
  obtain ⟨b1, b2, b3⟩ := b
  refine VCalls.use ok5a Try.func69 rfl (by rfl) (Nat.le_of_ble_eq_true rfl) (by kernel_rfl) fun R hR => ?_
  have arX := ar_std
  have o1 := arX.ofb a3
  have o2 := arX.ofb b3
  have u1 := bs_u8 a3
  have u2 := bs_u8 b3
  unfold Ent.av
  dsimp only
  generalize Try.prog = P
  generalize std = X at *
  generalize bs a3 = xs at *
  generalize bs b3 = ys at *
  cbv
  refine ⟨fun _ => u1, ⟨fun _ => u2, hR _ _ ⟨?_, rfl⟩⟩⟩
  simp only [arX.pand, arX.ieq, arX.seq, o1, o2, Ent.mk.injEq]
  congr 1
  by_cases h1 : a1 = b1 <;> by_cases h2 : a2 = b2 <;> by_cases h3 : a3 = b3 <;> simp [h1, h2, h3]
theorem s37_c (a b : Ent) (st : St) : VCalls Try.prog 37 [a.av, b.av] st (fun r st' => r = .bool (decide (a = b)) ∧ st' = st) := by
  obtain ⟨a1, a2, a3⟩ := a
  obtain ⟨b1, b2, b3⟩ := b
  refine VCalls.use ok5a Try.func37 rfl (by rfl) (Nat.le_of_ble_eq_true rfl) (by kernel_rfl) fun R hR => ?_
  have arX := ar_std
  have o1 := arX.ofb a3
  have o2 := arX.ofb b3
  have u1 := bs_u8 a3
  have u2 := bs_u8 b3
  unfold Ent.av
  dsimp only
  generalize Try.prog = P
  generalize std = X at *
  generalize bs a3 = xs at *
  generalize bs b3 = ys at *
  cbv
  refine ⟨fun _ => u1, ⟨fun _ => u2, hR _ _ ⟨?_, rfl⟩⟩⟩
  simp only [arX.pand, arX.ieq, arX.seq, o1, o2, Ent.mk.injEq]
  congr 1
  by_cases h1 : a1 = b1 <;> by_cases h2 : a2 = b2 <;> by_cases h3 : a3 = b3 <;> simp [h1, h2, h3]
theorem ok5b : Ok Try.prog (Ci [69, 37, 33, 65, 66, 30, 29, 28, 27, 12, 34, 63, 35, 64, 26] std V4.q V4.b) := by
  refine ok_cons (ok_cons (ok_cons (ok_cons ok5a ?_) ?_) ?_) ?_
  · rintro l ⟨a, rfl⟩ st
    refine (r65_c a st).mono ?_
    rintro r st' ⟨rfl, rfl⟩
    refine ⟨?_, rfl⟩
    show _ = AV.bool (entOf a.av).right
    rw [entOf_av]
  · rintro l ⟨x, y, v, rfl⟩ st
    refine (s33_c x y v st).mono ?_
    rintro r st' ⟨rfl, rfl⟩
    refine ⟨?_, rfl⟩
    show _ = AV.bool (snapRight x y (bs v).length)
    rw [show (bs v).length = v.length by simp [bs]]
  · rintro l ⟨a, b, rfl⟩ st
    refine (s37_c a b st).mono ?_
    rintro r st' ⟨rfl, rfl⟩
    refine ⟨?_, rfl⟩
    show _ = AV.bool (decide (entOf a.av = entOf b.av))
    rw [entOf_av, entOf_av]
  · rintro l ⟨a, b, rfl⟩ st
    refine (o69_c a b st).mono ?_
    rintro r st' ⟨rfl, rfl⟩
    refine ⟨?_, rfl⟩
    show _ = AV.bool (decide (entOf a.av = entOf b.av))
    rw [entOf_av, entOf_av]
end Go.V

/- U14: the reference: what a kind has not; few; the same entries. -/
namespace Go.V
open Go.Proofs
set_option maxRecDepth 100000
theorem bare_ok : codeOk Try.f31.ntmps (wRt (Ci [69, 37, 33, 65, 66, 30, 29, 28, 27, 12, 34, 63, 35, 64, 26] std V4.q V4.b) [(24, 1), (27, 1), (30, 1)]) (Try.f31.body.getD .skip) = true := by kernel_rfl
theorem bare_c (m : Msg) (st : St) : VCalls Try.prog 31 [m.av] st (fun r st' => r = .bool m.bareB ∧ st' = st) := by
  obtain ⟨m1, m2, m3, m4, m5, m6, m7, m8, m9, mA, m11, m12, mV⟩ := m
  refine VCalls.use (ok_rt ok5b [(24, 1), (27, 1), (30, 1)]) Try.func31 rfl (by rfl) (Nat.le_of_ble_eq_true rfl) bare_ok fun R hR => ?_
  unfold Msg.bareB Msg.av at *
  dsimp only at hR ⊢
  generalize Try.prog = P
  generalize hX : std = X at *
  refine ops_use hX fun vv xlt xieq xseq xslt xar xconv xnot xpick xbeq xeqc xlen xslen xget xsget xsub xssub xapp xcat xtoB xofB xrep xrepc xchunks xmx xmn hY arX => ?_
  clear hX
  subst hY
  have hl := arX.lenf Ent.av mA
  have hv := arX.lenb mV
  generalize mA.map Ent.av = mas at *
  generalize bs mV = mvs at *
  cbv
  refine hR _ _ ⟨?_, rfl⟩
  simp only [arX.por, arX.pand, arX.not, arX.ieq, hl, hv, Bool.or_assoc, Bool.and_assoc]
theorem few_c (A : List Ent) (n : Int) (hA : (A.length : Int) ≤ 9223372036854775807) (st : St) : VCalls Try.prog 24 [.sl false 3 (A.map Ent.av), .int .i64 n] st (fun r st' => r = .bool (fewE n 0 0 A) ∧ st' = st) := by
  refine VCalls.use ok5b Try.func24 rfl (by rfl) (Nat.le_of_ble_eq_true rfl) (by kernel_rfl) fun R hR => ?_
  have okX := ok5b
  have hf : ∀ (n j s : Int) (a : Ent) (r : List Ent), fewE n j s (a :: r) = (!(decide (n ≤ j) || decide (40000 < std .ar .add .i64 s (a.v.length : Int))) && fewE n (j + 1) (std .ar .add .i64 s (a.v.length : Int)) r) := fun _ _ _ _ _ => rfl
  have hf0 : ∀ (n j s : Int), fewE n j s [] = true := fun _ _ _ => rfl
  generalize fewE = fe at *
  generalize hmr : fe n 0 0 A = mr at *
  generalize Try.prog = P at *
  generalize hX : std = X at *
  refine ops_use hX fun vv xlt xieq xseq xslt xar xconv xnot xpick xbeq xeqc xlen xslen xget xsget xsub xssub xapp xcat xtoB xofB xrep xrepc xchunks xmx xmn hY arX => ?_
  clear hX
  subst hY
  have hl := arX.lenf Ent.av A
  have hg := fun (j : Nat) (a : Ent) (h : A[j]? = some a) => arX.getf Ent.av h
  generalize hVV : V4.b = VV at *
  refine vl_use vv VV fun V hV => ?_
  clear hVV
  subst hV
  generalize V4.q = Q at *
  generalize A.map Ent.av = mas at *
  replace hf : ∀ (n j s : Int) (a : Ent) (r : List Ent), fe n j s (a :: r) = (!(decide (n ≤ j) || decide (40000 < vl vv xar .add .i64 s (a.v.length : Int))) && fe n (j + 1) (vl vv xar .add .i64 s (a.v.length : Int)) r) := hf
  cbv
  refine wp_for okX (by kernel_rfl) A.length (fun j (s : Int) => mr = fe n (j : Int) s (A.drop j))
    (fun j s => [(0, .sl false 3 mas), (1, .int .i64 n), (5, .int .i64 s), (8, .int .i64 (vl vv xlen mas)), (9, .int .i64 (j : Int))]) (fun _ _ => []) 0 (by rw [← hmr]; rfl) (fun _ _ => rfl) ⟨rfl, rfl, rfl, rfl, rfl, trivial⟩ trivial ?_
  intro j s hj hpre K hK hKx
  generalize hjj : (j : Int) = k at *
  cbv
  refine tst (fun h3 => ?_) (fun h3 => ?_)
  · have hjl := arX.inK hjj hl h3
    obtain ⟨a, ha⟩ := getE rfl hjl
    have ga := hg j a ha
    rw [hjj] at ga
    cbv
    refine ⟨fun _ => inBK hjj hl hjl, ?_⟩
    simp only [ga]
    have hlb := arX.lenb a.v
    have hd : A.drop j = a :: A.drop (j + 1) := by
      rw [List.drop_eq_getElem_cons hjl]
      congr 1
      rw [List.getElem?_eq_getElem hjl] at ha
      exact Option.some.inj ha
    rw [hd, hf] at hpre
    obtain ⟨a1, a2, a3⟩ := a
    unfold Ent.av at ga ⊢
    dsimp only at ga hlb hpre ⊢
    generalize bs a3 = va at *
    cbv
    refine tst (fun h4 => ?_) (fun h4 => ?_)
    · cbv
      refine hKx .ret _ _ _ (by simp) ?_
      cbv
      refine hR _ _ ⟨?_, rfl⟩
      show AV.bool false = AV.bool mr
      rw [arX.por, arX.not, arX.lt, arX.lt, hlb, not_lt] at h4
      rw [hpre, h4]
      rfl
    · cbv
      rw [arX.por, arX.not, arX.lt, arX.lt, hlb, not_lt] at h4
      rw [h4, Bool.not_false, Bool.true_and] at hpre
      refine hK (vl vv xar .add .i64 s (a3.length : Int)) _ _ hjl ?_ ?_ trivial
      · rw [hpre, ← hjj]; rfl
      · refine ⟨rfl, rfl, ?_, rfl, ?_, trivial⟩
        · exact congrArg (fun n => AV.int .i64 (vl vv xar .add .i64 s n)) hlb
        · exact congrArg (AV.int .i64) (arX.sucK hjj hA hjl)
  · have hje := arX.outK hjj hl h3 hj
    cbv
    refine hKx (.exit 0) _ _ _ (by simp) ?_
    cbv
    refine hR _ _ ⟨?_, rfl⟩
    show AV.bool true = AV.bool mr
    rw [hpre, hje, List.drop_length, hf0]
theorem same36_c (A B : List Ent) (hA : (A.length : Int) ≤ 9223372036854775807) (st : St) : VCalls Try.prog 36 [.sl false 3 (A.map Ent.av), .sl false 3 (B.map Ent.av)] st (fun r st' => r = .bool (decide (A = B)) ∧ st' = st) := by
  refine VCalls.use ok5b Try.func36 rfl (by rfl) (Nat.le_of_ble_eq_true rfl) (by kernel_rfl) fun R hR => ?_
  have okX := ok5b
  have q69 : ∀ a b : Ent, V4.q 69 [a.av, b.av] := fun a b => ⟨a, b, rfl⟩
  have b69 : ∀ a b : Ent, V4.b 69 [a.av, b.av] = decide (a = b) := fun a b => by
    show decide (entOf a.av = entOf b.av) = _
    rw [entOf_av, entOf_av]
  generalize Try.prog = P at *
  generalize hX : std = X at *
  refine ops_use hX fun vv xlt xieq xseq xslt xar xconv xnot xpick xbeq xeqc xlen xslen xget xsget xsub xssub xapp xcat xtoB xofB xrep xrepc xchunks xmx xmn hY arX => ?_
  clear hX
  subst hY
  have hl := arX.lenf Ent.av A
  have hlB := arX.lenf Ent.av B
  have hg := fun (j : Nat) (a : Ent) (h : A[j]? = some a) => arX.getf Ent.av h
  have hgB := fun (j : Nat) (a : Ent) (h : B[j]? = some a) => arX.getf Ent.av h
  generalize hVV : V4.b = VV at *
  refine vl_use vv VV fun V hV => ?_
  clear hVV
  subst hV
  generalize V4.q = Q at *
  generalize A.map Ent.av = mas at *
  generalize B.map Ent.av = mbs at *
  cbv
  refine tst (fun h1 => ?_) (fun h1 => ?_)
  · cbv
    refine hR _ _ ⟨?_, rfl⟩
    rw [arX.not, arX.ieq, hl, hlB] at h1
    have : ¬ A = B := by
      rintro rfl
      simp at h1
    rw [decide_eq_false this]
  · rw [arX.not, arX.ieq, hl, hlB] at h1
    have hlen : A.length = B.length := by
      have : ((A.length : Int) = B.length) := by simpa using h1
      omega
    cbv
    refine wp_for okX (by kernel_rfl) A.length (fun j (_ : Unit) => ∀ i, i < j → A[i]? = B[i]?)
      (fun j _ => [(0, .sl false 3 mas), (1, .sl false 3 mbs), (12, .int .i64 (vl vv xlen mas)), (13, .int .i64 (j : Int))]) (fun _ _ => []) () (fun i h => absurd h (Nat.not_lt_zero _)) (fun _ _ => rfl) ⟨rfl, rfl, rfl, rfl, trivial⟩ trivial ?_
    intro j _ hj hpre K hK hKx
    generalize hjj : (j : Int) = k at *
    cbv
    refine tst (fun h3 => ?_) (fun h3 => ?_)
    · have hjl := arX.inK hjj hl h3
      obtain ⟨a, ha⟩ := getE rfl hjl
      obtain ⟨b, hb⟩ := getE hlen hjl
      have ga := hg j a ha
      have gb := hgB j b hb
      rw [hjj] at ga gb
      cbv
      refine ⟨fun _ => inBK hjj hl hjl, ?_⟩
      simp only [ga]
      cbv
      refine ⟨fun _ => inBK hjj hlB (by omega), ?_⟩
      simp only [gb]
      have qq := q69 a b
      have bb := b69 a b
      obtain ⟨a1, a2, a3⟩ := a
      obtain ⟨b1, b2, b3⟩ := b
      unfold Ent.av at ga gb qq bb ⊢
      dsimp only at ga gb qq bb ⊢
      generalize bs a3 = va at *
      generalize bs b3 = vb at *
      cbv
      refine ⟨fun _ => qq, ?_⟩
      refine tst (fun h4 => ?_) (fun h4 => ?_)
      · cbv
        refine hKx .ret _ _ _ (by simp) ?_
        cbv
        refine hR _ _ ⟨?_, rfl⟩
        show AV.bool false = _
        rw [arX.not, bb] at h4
        congr 1
        symm
        rw [decide_eq_false_iff_not]
        rintro rfl
        rw [ha] at hb
        rw [Option.some.inj hb] at h4
        simp at h4
      · cbv
        rw [arX.not, bb] at h4
        have hab : (⟨a1, a2, a3⟩ : Ent) = ⟨b1, b2, b3⟩ := by simpa using h4
        refine hK () _ _ hjl ?_ ?_ trivial
        · intro i hi
          rcases Nat.lt_or_ge i j with h | h
          · exact hpre i h
          · obtain rfl : i = j := by omega
            rw [ha, hb, hab]
        · refine ⟨rfl, rfl, rfl, ?_, trivial⟩
          exact congrArg (AV.int .i64) (arX.sucK hjj hA hjl)
    · have hje := arX.outK hjj hl h3 hj
      cbv
      refine hKx (.exit 0) _ _ _ (by simp) ?_
      cbv
      refine hR _ _ ⟨?_, rfl⟩
      show AV.bool true = _
      congr 1
      symm
      rw [decide_eq_true_eq]
      apply List.ext_getElem?
      intro i
      by_cases hi : i < A.length
      · exact hpre i (by omega)
      · rw [List.getElem?_eq_none (by omega), List.getElem?_eq_none (by omega)]
end Go.V

/- U15: the reference's run of entries. -/
namespace Go.V
open Go.Proofs
set_option maxRecDepth 100000
theorem ok5c : Ok Try.prog (Ci [36, 24, 31, 69, 37, 33, 65, 66, 30, 29, 28, 27, 12, 34, 63, 35, 64, 26] std V4.q V4.b) := by
  refine ok_cons (ok_cons (ok_cons ok5b ?_) ?_) ?_
  · rintro l ⟨m, rfl⟩ st
    refine (bare_c m st).mono ?_
    rintro r st' ⟨rfl, rfl⟩
    refine ⟨?_, rfl⟩
    show _ = AV.bool (msgOf m.av).bareB
    rw [msgOf_av]
  · rintro l ⟨A, n, hA, rfl⟩ st
    refine (few_c A n hA st).mono ?_
    rintro r st' ⟨rfl, rfl⟩
    refine ⟨?_, rfl⟩
    show _ = AV.bool (fewE n 0 0 ((A.map Ent.av).map entOf))
    rw [ents_map]
  · rintro l ⟨A, B, hA, rfl⟩ st
    refine (same36_c A B hA st).mono ?_
    rintro r st' ⟨rfl, rfl⟩
    refine ⟨?_, rfl⟩
    show _ = AV.bool (decide ((A.map Ent.av).map entOf = (B.map Ent.av).map entOf))
    rw [ents_map, ents_map]
theorem right_x {a : Ent} (h : a.right = true) : 1 ≤ a.x ∧ a.x ≤ 1099511627776 := by
  unfold Ent.right numB at h
  simp only [Bool.and_eq_true, decide_eq_true_eq] at h
  exact h.1.1
theorem run32_c (x y : Int) (A : List Ent) (hA : (A.length : Int) ≤ 9223372036854775807) (st : St) : VCalls Try.prog 32 [.int .i64 x, .int .i64 y, .sl false 3 (A.map Ent.av)] st (fun r st' => r = .bool (runOk x y A) ∧ st' = st) := by
  refine VCalls.use ok5c Try.func32 rfl (by rfl) (Nat.le_of_ble_eq_true rfl) (by kernel_rfl) fun R hR => ?_
  have okX := ok5c
  have q65 : ∀ a : Ent, V4.q 65 [a.av] := fun a => ⟨a, rfl⟩
  have b65 : ∀ a : Ent, V4.b 65 [a.av] = a.right := fun a => by show (entOf a.av).right = _; rw [entOf_av]
  have hneg : ∀ (a : Ent) (i : Int), i ≤ 0 → A[0]? = some a → std .get (A.map Ent.av) i = a.av := by
    intro a i hi h
    show (A.map Ent.av).getD i.toNat .undef = _
    rw [show i.toNat = 0 by omega]
    simp [List.getD, h]
  generalize Try.prog = P at *
  generalize hX : std = X at *
  refine ops_use hX fun vv xlt xieq xseq xslt xar xconv xnot xpick xbeq xeqc xlen xslen xget xsget xsub xssub xapp xcat xtoB xofB xrep xrepc xchunks xmx xmn hY arX => ?_
  clear hX
  subst hY
  have hl := arX.lenf Ent.av A
  have hg := fun (j : Nat) (a : Ent) (h : A[j]? = some a) => arX.getf Ent.av h
  replace hneg : ∀ (a : Ent) (i : Int), i ≤ 0 → A[0]? = some a → vl vv xget (A.map Ent.av) i = a.av := hneg
  generalize hVV : V4.b = VV at *
  refine vl_use vv VV fun V hV => ?_
  clear hVV
  subst hV
  generalize V4.q = Q at *
  generalize A.map Ent.av = mas at *
  cbv
  refine wp_for okX (by kernel_rfl) A.length (fun j (s : Int × Int) => runOk x y A = runOk s.1 s.2 (A.drop j) ∧ (j = 0 → s.1 = x) ∧ (∀ a, 0 < j → A[j - 1]? = some a → s.1 = a.x ∧ a.right = true))
    (fun j s => [(0, .int .i64 x), (1, .int .i64 s.2), (2, .sl false 3 mas), (9, .int .i64 (vl vv xlen mas)), (10, .int .i64 (j : Int))]) (fun _ _ => []) (x, y) ⟨rfl, fun _ => rfl, fun _ h => absurd h (Nat.lt_irrefl _)⟩ (fun _ _ => rfl) ⟨rfl, rfl, rfl, rfl, rfl, trivial⟩ trivial ?_
  rintro j ⟨x', y'⟩ hj ⟨hpre, hp0, hp1⟩ K hK hKx
  generalize hjj : (j : Int) = k at *
  cbv
  refine tst (fun h3 => ?_) (fun h3 => ?_)
  · have hjl := arX.inK hjj hl h3
    obtain ⟨a, ha⟩ := getE rfl hjl
    have ga := hg j a ha
    rw [hjj] at ga
    obtain ⟨hk0, hkm⟩ := kfacts hjj hA hjl
    have hs1 : vl vv xar .sub .i64 k 1 = k - 1 := arX.subi (by omega) (by omega)
    obtain ⟨b, hb, gb⟩ : ∃ b, (if j = 0 then b = a else A[j - 1]? = some b) ∧ vl vv xget mas (vl vv xar .sub .i64 k 1) = b.av := by
      by_cases h0 : j = 0
      · subst h0
        refine ⟨a, by rw [if_pos rfl], hneg a _ ?_ ha⟩
        have := (kzero hjj).2 rfl
        omega
      · obtain ⟨b, hb⟩ := getE (L := A) (j := j - 1) rfl (by omega)
        refine ⟨b, by rw [if_neg h0]; exact hb, ?_⟩
        have h1 := hg (j - 1) b hb
        rw [← h1]
        exact congrArg _ (hs1.trans (kpred hjj h0).symm)
    have hd : A.drop j = a :: A.drop (j + 1) := by
      rw [List.drop_eq_getElem_cons hjl]
      congr 1
      rw [List.getElem?_eq_getElem hjl] at ha
      exact Option.some.inj ha
    rw [hd] at hpre
    cbv
    refine ⟨fun _ => inBK hjj hl hjl, ?_⟩
    simp only [ga]
    have qq := q65 a
    have bb := b65 a
    obtain ⟨a1, a2, a3⟩ := a
    obtain ⟨b1, b2, b3⟩ := b
    unfold Ent.av at ga gb qq bb ⊢
    dsimp only at ga gb qq bb ⊢
    generalize bs a3 = va at *
    generalize bs b3 = vb at *
    cbv
    refine ⟨fun _ => qq, ⟨fun _ => inBK hjj hl hjl, ?_⟩⟩
    refine tst (fun h4 => ?_) (fun h4 => ?_)
    · cbv
      refine hKx .ret _ _ _ (by simp) ?_
      cbv
      refine hR _ _ ⟨?_, rfl⟩
      show AV.bool false = AV.bool _
      simp only [arX.por, arX.not, arX.lt, bb, Bool.or_eq_true, Bool.not_eq_true', decide_eq_true_eq] at h4
      congr 1
      rw [hpre]
      show _ = (Ent.right ⟨a1, a2, a3⟩ && decide (a1 - 1 = x') && decide (y' ≤ a2) && runOk a1 a2 (A.drop (j + 1)))
      rcases h4 with h4 | h4
      · rw [h4]; simp
      · rw [decide_eq_false (p := y' ≤ a2) (by omega)]; simp
    · simp only [arX.por, arX.not, arX.lt, bb, Bool.or_eq_false_iff, Bool.not_eq_false', decide_eq_false_iff_not] at h4
      obtain ⟨h4, h4y⟩ := h4
      have hax := right_x h4
      dsimp only at hax
      have hex : (0 < j ∧ A[j - 1]? = some ⟨b1, b2, b3⟩ ∧ x' = b1 ∧ 1 ≤ b1 ∧ b1 ≤ 1099511627776) ∨ (j = 0 ∧ x' = x) := by
        by_cases h0 : j = 0
        · exact .inr ⟨h0, hp0 h0⟩
        · rw [if_neg h0] at hb
          have := hp1 _ (by omega) hb
          have h2 := right_x this.2
          exact .inl ⟨by omega, hb, this.1, h2.1, h2.2⟩
      cbv
      refine ⟨fun _ => inBK hjj hl hjl, ?_⟩
      simp only [ga]
      cbv
      refine ⟨fun _ => inBK hjj hl hjl, ⟨fun hw => ?_, ?_⟩⟩
      · simp only [arX.pand, arX.lt, Bool.and_eq_true, decide_eq_true_eq] at hw
        have hj0 := (kpos hjj).1 hw.1
        rw [hs1]
        exact inBK (kpred hjj (by omega)) hl (by omega)
      simp only [gb]
      cbv
      refine tst (fun h5 => ?_) (fun h5 => ?_)
      · cbv
        refine hKx .ret _ _ _ (by simp) ?_
        cbv
        refine hR _ _ ⟨?_, rfl⟩
        show AV.bool false = AV.bool _
        simp only [arX.por, arX.pand, arX.not, arX.ieq, arX.lt] at h5
        congr 1
        rw [hpre]
        show _ = (Ent.right ⟨a1, a2, a3⟩ && decide (a1 - 1 = x') && decide (y' ≤ a2) && runOk a1 a2 (A.drop (j + 1)))
        have hne : ¬ a1 - 1 = x' := by
          intro he
          simp only [Bool.or_eq_true, Bool.and_eq_true, Bool.not_eq_true', decide_eq_true_eq, decide_eq_false_iff_not] at h5
          rcases h5 with ⟨h5, h6⟩ | ⟨h5, h6⟩
          · have hj0 := (kzero hjj).1 h5
            rcases hex with hex | hex
            · omega
            · rcases h6 with (h6 | h6) | h6
              · omega
              · omega
              · refine h6 ((arX.add (by omega) (by omega)).trans ?_).symm
                omega
          · have hj0 := (kpos hjj).1 h5
            rcases hex with ⟨_, _, e1, e2, e3⟩ | hex
            · refine h6 ((arX.add (by omega) (by omega)).trans ?_).symm
              omega
            · omega
        rw [decide_eq_false hne]
        simp
      · cbv
        refine ⟨fun _ => inBK hjj hl hjl, ?_⟩
        simp only [ga]
        cbv
        simp only [arX.por, arX.pand, arX.not, arX.ieq, arX.lt] at h5
        have he : a1 - 1 = x' := by
          simp only [Bool.or_eq_false_iff, Bool.and_eq_false_iff, Bool.not_eq_false', decide_eq_true_eq, decide_eq_false_iff_not] at h5
          rcases hex with ⟨e0, _, e1, e2, e3⟩ | ⟨e0, e1⟩
          · rcases h5.2 with h6 | h6
            · exact absurd ((kpos hjj).2 e0) h6
            · have := h6.trans (arX.add (by omega) (by omega))
              omega
          · rcases h5.1 with h6 | ⟨⟨h6, h7⟩, h8⟩
            · exact absurd ((kzero hjj).2 e0) h6
            · have := h8.trans (arX.add (by omega) (by omega))
              omega
        refine hK (a1, a2) _ _ hjl ⟨?_, fun h => absurd h (by omega), fun c _ hc => ?_⟩ ⟨rfl, rfl, rfl, rfl, congrArg (AV.int .i64) (arX.sucK hjj hA hjl), trivial⟩ trivial
        · rw [hpre]
          show (Ent.right ⟨a1, a2, a3⟩ && decide (a1 - 1 = x') && decide (y' ≤ a2) && runOk a1 a2 (A.drop (j + 1))) = _
          rw [h4, decide_eq_true he, decide_eq_true (by omega)]
          rfl
        · rw [show j + 1 - 1 = j by omega, ha] at hc
          obtain rfl := Option.some.inj hc
          exact ⟨rfl, h4⟩
  · have hje := arX.outK hjj hl h3 hj
    cbv
    refine hKx (.exit 0) _ _ _ (by simp) ?_
    cbv
    refine hR _ _ ⟨?_, rfl⟩
    show AV.bool true = _
    rw [hpre, hje, List.drop_length]
    rfl
end Go.V

/- U16: the reference's Right. -/
namespace Go.V
open Go.Proofs
set_option maxRecDepth 100000
theorem ok5 : Ok Try.prog (Ci [32, 36, 24, 31, 69, 37, 33, 65, 66, 30, 29, 28, 27, 12, 34, 63, 35, 64, 26] std V4.q V4.b) := by
  refine ok_cons ok5c ?_
  rintro l ⟨x, y, A, hA, rfl⟩ st
  refine (run32_c x y A hA st).mono ?_
  rintro r st' ⟨rfl, rfl⟩
  refine ⟨?_, rfl⟩
  show _ = AV.bool (runOk x y ((A.map Ent.av).map entOf))
  rw [ents_map]
/-- The reference's Right, test by test. -/
def Msg.rightR (m : Msg) : Bool :=
  !(decide (m.kind < 1) || decide (7 < m.kind) || decide (m.frm < 0) || decide (2 < m.frm) || decide (m.to < 0) || decide (2 < m.to) || decide (m.frm = m.to) || decide (m.term < 1)) &&
  !(!okNum m.term || !okNum m.a || !okNum m.b || !okNum m.c || !okNum m.d || !m.bareB) &&
  !(decide (4 < (m.ents.length : Int)) || !runOk m.a m.b m.ents) &&
  m.ents.all (fun a => !decide (m.term < a.y)) &&
  (!decide (m.kind = 7) || (snapRight m.si m.st m.sv.length && decide (0 < m.si) && !decide (m.term < m.st)))
theorem right11_ok : codeOk Try.f11.ntmps (wRt (Ci [32, 36, 24, 31, 69, 37, 33, 65, 66, 30, 29, 28, 27, 12, 34, 63, 35, 64, 26] std V4.q V4.b) [(97, 1), (103, 1)]) (Try.f11.body.getD .skip) = true := by kernel_rfl
theorem right11_c (m : Msg) (hm : (m.ents.length : Int) ≤ 9223372036854775807) (st : St) : VCalls Try.prog 11 [m.av] st (fun r st' => r = .bool m.rightR ∧ st' = st) := by
  have q30 : ∀ n, V4.q 30 [.int .i64 n] := fun n => ⟨n, rfl⟩
  have b30 : ∀ n, V4.b 30 [.int .i64 n] = okNum n := fun n => rfl
  have q31 : V4.q 31 [m.av] := ⟨m, rfl⟩
  have b31 : V4.b 31 [m.av] = m.bareB := by
    show (msgOf m.av).bareB = _
    rw [msgOf_av]
  have q32 : V4.q 32 [.int .i64 m.a, .int .i64 m.b, .sl false 3 (m.ents.map Ent.av)] := ⟨m.a, m.b, m.ents, hm, rfl⟩
  have b32 : V4.b 32 [.int .i64 m.a, .int .i64 m.b, .sl false 3 (m.ents.map Ent.av)] = runOk m.a m.b m.ents := by
    show runOk _ _ ((m.ents.map Ent.av).map entOf) = _
    rw [ents_map]; rfl
  have q33 : V4.q 33 [.agg [.int .i64 m.si, .int .i64 m.st, .sl false 1 (bs m.sv)]] := ⟨m.si, m.st, m.sv, rfl⟩
  have b33 : V4.b 33 [.agg [.int .i64 m.si, .int .i64 m.st, .sl false 1 (bs m.sv)]] = snapRight m.si m.st m.sv.length := by
    show snapRight _ _ (bs m.sv).length = _
    rw [show (bs m.sv).length = m.sv.length by simp [bs]]; rfl
  have hR0 : m.rightR = m.rightR := rfl
  conv at hR0 => rhs; unfold Msg.rightR
  generalize hmr : m.rightR = mr at hR0 ⊢
  clear hmr
  obtain ⟨m1, m2, m3, m4, m5, m6, m7, m8, m9, mA, m11, m12, mV⟩ := m
  refine VCalls.use (ok_rt ok5 [(97, 1), (103, 1)]) Try.func11 rfl (by rfl) (Nat.le_of_ble_eq_true rfl) right11_ok fun R hR => ?_
  have okX := ok_rt ok5 [(97, 1), (103, 1)]
  unfold Msg.av at *
  dsimp only at *
  generalize Try.prog = P at *
  generalize hX : std = X at *
  refine ops_use hX fun vv xlt xieq xseq xslt xar xconv xnot xpick xbeq xeqc xlen xslen xget xsget xsub xssub xapp xcat xtoB xofB xrep xrepc xchunks xmx xmn hY arX => ?_
  clear hX
  subst hY
  have hl := arX.lenf Ent.av mA
  have hg := fun (j : Nat) (a : Ent) (h : mA[j]? = some a) => arX.getf Ent.av h
  generalize hVV : V4.b = VV at *
  refine vl_use vv VV fun V hV => ?_
  clear hVV
  subst hV
  generalize V4.q = Q at *
  generalize mA.map Ent.av = mas at *
  generalize bs mV = mvs at *
  cbv
  refine tst (fun h1 => ?_) (fun h1 => ?_)
  · cbv
    refine hR _ _ ⟨?_, rfl⟩
    show AV.bool false = AV.bool _
    simp only [arX.por, arX.not, arX.ieq, arX.lt] at h1
    rw [hR0, h1]
    simp
  · simp only [arX.por, arX.not, arX.ieq, arX.lt] at h1
    rw [h1, Bool.not_false, Bool.true_and] at hR0
    clear h1
    cbv
    refine ⟨fun _ => q30 _, ⟨fun _ => q30 _, ⟨fun _ => q30 _, ⟨fun _ => q30 _, ⟨fun _ => q30 _, ⟨fun _ => q31, ?_⟩⟩⟩⟩⟩⟩
    refine tst (fun h1 => ?_) (fun h1 => ?_)
    · cbv
      refine hR _ _ ⟨?_, rfl⟩
      show AV.bool false = AV.bool _
      simp only [arX.por, arX.not, b30, b31] at h1
      rw [hR0, h1]
      simp
    · simp only [arX.por, arX.not, b30, b31] at h1
      rw [h1, Bool.not_false, Bool.true_and] at hR0
      clear h1
      cbv
      refine ⟨fun _ => q32, ?_⟩
      refine tst (fun h1 => ?_) (fun h1 => ?_)
      · cbv
        refine hR _ _ ⟨?_, rfl⟩
        show AV.bool false = AV.bool _
        simp only [arX.por, arX.not, arX.lt, hl, b32] at h1
        rw [hR0]
        replace h1 : (decide (4 < (mA.length : Int)) || !runOk m5 m6 mA) = true := h1
        rw [h1]
        simp
      · simp only [arX.por, arX.not, arX.lt, hl, b32] at h1
        replace h1 : (decide (4 < (mA.length : Int)) || !runOk m5 m6 mA) = false := h1
        rw [h1, Bool.not_false, Bool.true_and] at hR0
        clear h1
        cbv
        refine wp_for okX (by kernel_rfl) mA.length (fun j (_ : Unit) => ∀ (i : Nat) (a : Ent), i < j → mA[i]? = some a → (!decide (m4 < a.y)) = true)
          (fun j _ => [(1, .lp 1 0), (93, .int .i64 (vl vv xlen mas)), (94, .int .i64 (j : Int))]) (fun _ _ => [(1, [.int .i64 m1, .int .i64 m2, .int .i64 m3, .int .i64 m4, .int .i64 m5, .int .i64 m6, .int .i64 m7, .int .i64 m8, .bool m9, .sl false 3 mas, .int .i64 m11, .int .i64 m12, .sl false 1 mvs])]) () (fun i a h => absurd h (Nat.not_lt_zero _)) (fun _ _ => rfl) ⟨rfl, rfl, rfl, trivial⟩ ⟨rfl, trivial⟩ ?_
        intro j _ hj hpre K hK hKx
        generalize hjj : (j : Int) = k at *
        cbv
        refine tst (fun h3 => ?_) (fun h3 => ?_)
        · have hjl := arX.inK hjj hl h3
          obtain ⟨a, ha⟩ := getE rfl hjl
          have ga := hg j a ha
          rw [hjj] at ga
          cbv
          refine ⟨fun _ => inBK hjj hl hjl, ?_⟩
          simp only [ga]
          obtain ⟨a1, a2, a3⟩ := a
          unfold Ent.av at ga ⊢
          dsimp only at ga ⊢
          generalize bs a3 = va at *
          cbv
          refine tst (fun h4 => ?_) (fun h4 => ?_)
          · cbv
            refine hKx .ret _ _ _ (by simp) ?_
            cbv
            refine hR _ _ ⟨?_, rfl⟩
            show AV.bool false = AV.bool mr
            rw [arX.lt] at h4
            rw [hR0, all_not ha (by rw [h4]; rfl)]
            simp only [Bool.and_false, Bool.false_and]
          · cbv
            rw [arX.lt] at h4
            exact hK () _ _ hjl (upto_suc ha (by rw [h4]; rfl) hpre) ⟨rfl, rfl, congrArg (AV.int .i64) (arX.sucK hjj hm hjl), trivial⟩ ⟨rfl, trivial⟩
        · have hje := arX.outK hjj hl h3 hj
          cbv
          refine hKx (.exit 0) _ _ _ (by simp) ?_
          cbv
          refine ⟨fun _ => q33, hR _ _ ⟨?_, rfl⟩⟩
          show AV.bool _ = AV.bool _
          congr 1
          rw [hR0, all_upto hje hpre]
          simp only [arX.por, arX.pand, arX.not, arX.ieq, arX.lt, b33, Bool.true_and]
end Go.V

/- U17: a message is right as the reference says; Same; Few. -/
namespace Go.V
open Go.Proofs
set_option maxRecDepth 100000
theorem nil_len {α : Type} (l : List α) : ((l.length : Int) = 0) ↔ l = [] := by
  cases l with
  | nil => simp
  | cons a r => simp; omega
theorem pack (nk kp bare nf1 nf2 nt1 nt2 nft ntm n1 n2 n3 n4 n5 l r al la : Bool) (h : ((nk && (nf1 && nf2 && nt1 && nt2 && nft && ntm)) && bare) = (kp && (nf1 && nf2 && nt1 && nt2 && nft && ntm))) :
    ((nk && nf1 && nf2 && nt1 && nt2 && nft && ntm) && (n1 && n2 && n3 && n4 && n5 && bare) && (l && r) && al && la) = (kp && (nf1 && nf2) && (nt1 && nt2) && nft && ntm && (n1 && (n2 && (n3 && (n4 && n5)))) && l && r && al && la) := by
  have e1 : ((nk && nf1 && nf2 && nt1 && nt2 && nft && ntm) && (n1 && n2 && n3 && n4 && n5 && bare) && (l && r) && al && la) = (((nk && (nf1 && nf2 && nt1 && nt2 && nft && ntm)) && bare) && (n1 && n2 && n3 && n4 && n5 && l && r && al && la)) := by ac_rfl
  rw [e1, h]
  ac_rfl
theorem lt3 (n : Int) : decide (n < 3) = !decide (2 < n) := by
  by_cases h : n < 3
  · rw [decide_eq_true h, decide_eq_false (by omega)]; rfl
  · rw [decide_eq_false h, decide_eq_true (by omega)]; rfl
theorem rightR_eq (m : Msg) : m.rightR = m.right := by
  have key : ∀ b : Bool, ((!(decide (m.kind < 1) || decide (7 < m.kind) || b)) && m.bareB) = ((keep m).2 && decide ((keep m).1 = m) && !b) := by
    intro b
    obtain ⟨m1, m2, m3, m4, m5, m6, m7, m8, m9, mA, m11, m12, mV⟩ := m
    have hc : m1 < 1 ∨ 7 < m1 ∨ m1 = 1 ∨ m1 = 2 ∨ m1 = 3 ∨ m1 = 4 ∨ m1 = 5 ∨ m1 = 6 ∨ m1 = 7 := by omega
    unfold Msg.bareB keep Msg.bare
    dsimp only
    rcases hc with h | h | h | h | h | h | h | h | h
    · rw [decide_eq_true h, if_neg (by omega), if_neg (by omega), if_neg (by omega), if_neg (by omega), if_neg (by omega)]
      simp
    · rw [decide_eq_true h, if_neg (by omega), if_neg (by omega), if_neg (by omega), if_neg (by omega), if_neg (by omega)]
      simp
    all_goals
      subst h
      rw [Bool.eq_iff_iff]
      simp [nil_len, @eq_comm Int 0, @eq_comm Bool false, @eq_comm (List _) []]
      try (constructor <;> intro hh <;> simp_all)
  unfold Msg.rightR Msg.right
  have h := key (decide (m.frm < 0) || decide (2 < m.frm) || decide (m.to < 0) || decide (2 < m.to) || decide (m.frm = m.to) || decide (m.term < 1))
  simp only [← not_lt, lt3, Bool.not_or, Bool.not_not, List.all_cons, List.all_nil, Bool.and_true] at h ⊢
  exact pack _ _ _ _ _ _ _ _ _ _ _ _ _ _ _ _ _ _ h
theorem same13_c (m k : Msg) (hm : (m.ents.length : Int) ≤ 9223372036854775807) (st : St) : VCalls Try.prog 13 [m.av, k.av] st (fun r st' => r = .bool (decide (m = k)) ∧ st' = st) := by
  have q36 : V4.q 36 [.sl false 3 (m.ents.map Ent.av), .sl false 3 (k.ents.map Ent.av)] := ⟨m.ents, k.ents, hm, rfl⟩
  have b36 : V4.b 36 [.sl false 3 (m.ents.map Ent.av), .sl false 3 (k.ents.map Ent.av)] = decide (m.ents = k.ents) := by
    show decide ((m.ents.map Ent.av).map entOf = (k.ents.map Ent.av).map entOf) = _
    rw [ents_map, ents_map]
  have q37 : V4.q 37 [.agg [.int .i64 m.si, .int .i64 m.st, .sl false 1 (bs m.sv)], .agg [.int .i64 k.si, .int .i64 k.st, .sl false 1 (bs k.sv)]] := ⟨⟨m.si, m.st, m.sv⟩, ⟨k.si, k.st, k.sv⟩, rfl⟩
  have b37 : V4.b 37 [.agg [.int .i64 m.si, .int .i64 m.st, .sl false 1 (bs m.sv)], .agg [.int .i64 k.si, .int .i64 k.st, .sl false 1 (bs k.sv)]] = decide ((⟨m.si, m.st, m.sv⟩ : Ent) = ⟨k.si, k.st, k.sv⟩) := by
    show decide (entOf (Ent.av ⟨m.si, m.st, m.sv⟩) = entOf (Ent.av ⟨k.si, k.st, k.sv⟩)) = _
    rw [entOf_av, entOf_av]
  obtain ⟨m1, m2, m3, m4, m5, m6, m7, m8, m9, mA, m11, m12, mV⟩ := m
  obtain ⟨k1, k2, k3, k4, k5, k6, k7, k8, k9, kA, k11, k12, kV⟩ := k
  refine VCalls.use ok5 Try.func13 rfl (by rfl) (Nat.le_of_ble_eq_true rfl) (by kernel_rfl) fun R hR => ?_
  unfold Msg.av at *
  dsimp only at *
  generalize Try.prog = P at *
  generalize hX : std = X at *
  refine ops_use hX fun vv xlt xieq xseq xslt xar xconv xnot xpick xbeq xeqc xlen xslen xget xsget xsub xssub xapp xcat xtoB xofB xrep xrepc xchunks xmx xmn hY arX => ?_
  clear hX
  subst hY
  generalize hVV : V4.b = VV at *
  refine vl_use vv VV fun V hV => ?_
  clear hVV
  subst hV
  generalize V4.q = Q at *
  generalize mA.map Ent.av = mas at *
  generalize bs mV = mvs at *
  generalize kA.map Ent.av = kas at *
  generalize bs kV = kvs at *
  cbv
  refine ⟨fun _ => q36, ⟨fun _ => q37, hR _ _ ⟨?_, rfl⟩⟩⟩
  simp only [arX.pand, arX.ieq, arX.beq, b36, b37]
  congr 1
  rw [Bool.eq_iff_iff]
  simp only [Bool.and_eq_true, decide_eq_true_eq, beq_iff_eq, Msg.mk.injEq, Ent.mk.injEq, and_assoc]
end Go.V

/- U18: the law's parts. -/
namespace Go.V
open Go.Proofs
set_option maxRecDepth 100000
theorem ok6a : Ok Try.prog (Ci [13, 11, 10, 32, 36, 24, 31, 69, 37, 33, 65, 66, 30, 29, 28, 27, 12, 34, 63, 35, 64, 26] std V4.q V4.b) := by
  refine ok_cons (ok_cons (ok_cons ok5 ?_) ?_) ?_
  · rintro l ⟨m, hm, rfl⟩ st
    refine (right_try m hm st).mono ?_
    rintro r st' ⟨rfl, rfl⟩
    refine ⟨?_, rfl⟩
    show _ = AV.bool (msgOf m.av).right
    rw [msgOf_av]
  · rintro l ⟨m, hm, rfl⟩ st
    refine (right11_c m hm st).mono ?_
    rintro r st' ⟨rfl, rfl⟩
    refine ⟨?_, rfl⟩
    show _ = AV.bool (msgOf m.av).right
    rw [msgOf_av, rightR_eq]
  · rintro l ⟨m, k, hm, rfl⟩ st
    refine (same13_c m k hm st).mono ?_
    rintro r st' ⟨rfl, rfl⟩
    refine ⟨?_, rfl⟩
    show _ = AV.bool (decide (msgOf m.av = msgOf k.av))
    rw [msgOf_av, msgOf_av]
theorem few8_c (m : Msg) (hm : (m.ents.length : Int) ≤ 9223372036854775807) (st : St) : VCalls Try.prog 8 [m.av] st (fun r st' => r = .bool m.few ∧ st' = st) := by
  have q24 : V4.q 24 [.sl false 3 (m.ents.map Ent.av), .int .i64 6] := ⟨m.ents, 6, hm, rfl⟩
  have b24 : V4.b 24 [.sl false 3 (m.ents.map Ent.av), .int .i64 6] = fewE 6 0 0 m.ents := by
    show fewE 6 0 0 ((m.ents.map Ent.av).map entOf) = _
    rw [ents_map]
  unfold Msg.few
  obtain ⟨m1, m2, m3, m4, m5, m6, m7, m8, m9, mA, m11, m12, mV⟩ := m
  refine VCalls.use ok6a Try.func8 rfl (by rfl) (Nat.le_of_ble_eq_true rfl) (by kernel_rfl) fun R hR => ?_
  unfold Msg.av at *
  dsimp only at *
  generalize fewE 6 0 0 mA = fe at *
  generalize Try.prog = P at *
  generalize hX : std = X at *
  refine ops_use hX fun vv xlt xieq xseq xslt xar xconv xnot xpick xbeq xeqc xlen xslen xget xsget xsub xssub xapp xcat xtoB xofB xrep xrepc xchunks xmx xmn hY arX => ?_
  clear hX
  subst hY
  generalize hVV : V4.b = VV at *
  refine vl_use vv VV fun V hV => ?_
  clear hVV
  subst hV
  generalize V4.q = Q at *
  have hl := arX.lenb mV
  generalize mA.map Ent.av = mas at *
  generalize bs mV = mvs at *
  cbv
  refine ⟨fun _ => q24, hR _ _ ⟨?_, rfl⟩⟩
  simp only [arX.pand, arX.lt, arX.not, b24, hl, not_lt]
theorem to9_c (m : Msg) (st : St) : VCalls Try.prog 9 [m.av] st (fun r st' => r = m.av ∧ st' = st) := by
  obtain ⟨m1, m2, m3, m4, m5, m6, m7, m8, m9, mA, m11, m12, mV⟩ := m
  refine VCalls.use ok6a Try.func9 rfl (by rfl) (Nat.le_of_ble_eq_true rfl) (by kernel_rfl) fun R hR => ?_
  unfold Msg.av at *
  dsimp only at *
  generalize Try.prog = P at *
  generalize hX : std = X at *
  refine ops_use hX fun vv xlt xieq xseq xslt xar xconv xnot xpick xbeq xeqc xlen xslen xget xsget xsub xssub xapp xcat xtoB xofB xrep xrepc xchunks xmx xmn hY arX => ?_
  clear hX
  subst hY
  generalize mA.map Ent.av = mas at *
  generalize bs mV = mvs at *
  cbv
  exact hR _ _ ⟨rfl, rfl⟩
theorem of17_c (m : Msg) (st : St) : VCalls Try.prog 17 [m.av] st (fun r st' => r = m.av ∧ st' = st) := by
  obtain ⟨m1, m2, m3, m4, m5, m6, m7, m8, m9, mA, m11, m12, mV⟩ := m
  refine VCalls.use ok6a Try.func17 rfl (by rfl) (Nat.le_of_ble_eq_true rfl) (by kernel_rfl) fun R hR => ?_
  unfold Msg.av at *
  dsimp only at *
  generalize Try.prog = P at *
  generalize hX : std = X at *
  refine ops_use hX fun vv xlt xieq xseq xslt xar xconv xnot xpick xbeq xeqc xlen xslen xget xsget xsub xssub xapp xcat xtoB xofB xrep xrepc xchunks xmx xmn hY arX => ?_
  clear hX
  subst hY
  generalize mA.map Ent.av = mas at *
  generalize bs mV = mvs at *
  cbv
  exact hR _ _ ⟨rfl, rfl⟩
def Msg.vote : Msg := { Msg.zero with kind := 3, frm := 1, term := 2 }
theorem awake_c (st : St) : VCalls Try.prog 7 [] st (fun r st' => r = .bool true ∧ st' = st) := by
  have q1 : V4.q 10 [.agg [.int .i64 3, .int .i64 1, .int .i64 0, .int .i64 2, .int .i64 0, .int .i64 0, .int .i64 0, .int .i64 0, .bool false, .sl false 3 [], .int .i64 0, .int .i64 0, .sl false 1 []]] := ⟨Msg.vote, by decide, rfl⟩
  have q2 : V4.q 10 [.agg [.int .i64 0, .int .i64 0, .int .i64 0, .int .i64 0, .int .i64 0, .int .i64 0, .int .i64 0, .int .i64 0, .bool false, .sl false 3 [], .int .i64 0, .int .i64 0, .sl false 1 []]] := ⟨Msg.zero, by decide, rfl⟩
  have q3 : V4.q 12 [.agg [.int .i64 3, .int .i64 1, .int .i64 0, .int .i64 2, .int .i64 0, .int .i64 0, .int .i64 0, .int .i64 0, .bool false, .sl false 3 [], .int .i64 0, .int .i64 0, .sl false 1 []], .agg [.int .i64 3, .int .i64 1, .int .i64 0, .int .i64 2, .int .i64 0, .int .i64 0, .int .i64 0, .int .i64 0, .bool false, .sl false 3 [], .int .i64 0, .int .i64 0, .sl false 1 []]] := ⟨Msg.vote, Msg.vote, by decide, rfl⟩
  have b1 : V4.b 10 [.agg [.int .i64 3, .int .i64 1, .int .i64 0, .int .i64 2, .int .i64 0, .int .i64 0, .int .i64 0, .int .i64 0, .bool false, .sl false 3 [], .int .i64 0, .int .i64 0, .sl false 1 []]] = true := by kernel_rfl
  have b2 : V4.b 10 [.agg [.int .i64 0, .int .i64 0, .int .i64 0, .int .i64 0, .int .i64 0, .int .i64 0, .int .i64 0, .int .i64 0, .bool false, .sl false 3 [], .int .i64 0, .int .i64 0, .sl false 1 []]] = false := by kernel_rfl
  have b3 : V4.b 12 [.agg [.int .i64 3, .int .i64 1, .int .i64 0, .int .i64 2, .int .i64 0, .int .i64 0, .int .i64 0, .int .i64 0, .bool false, .sl false 3 [], .int .i64 0, .int .i64 0, .sl false 1 []], .agg [.int .i64 3, .int .i64 1, .int .i64 0, .int .i64 2, .int .i64 0, .int .i64 0, .int .i64 0, .int .i64 0, .bool false, .sl false 3 [], .int .i64 0, .int .i64 0, .sl false 1 []]] = true := by kernel_rfl
  refine VCalls.use ok6a Try.func7 rfl (by rfl) (Nat.le_of_ble_eq_true rfl) (by kernel_rfl) fun R hR => ?_
  generalize Try.prog = P at *
  generalize hX : std = X at *
  refine ops_use hX fun vv xlt xieq xseq xslt xar xconv xnot xpick xbeq xeqc xlen xslen xget xsget xsub xssub xapp xcat xtoB xofB xrep xrepc xchunks xmx xmn hY arX => ?_
  clear hX
  subst hY
  generalize hVV : V4.b = VV at *
  refine vl_use vv VV fun V hV => ?_
  clear hVV
  subst hV
  generalize V4.q = Q at *
  cbv
  refine ⟨fun _ => q1, ⟨fun _ => q3, ⟨fun _ => q2, hR _ _ ⟨?_, rfl⟩⟩⟩⟩
  simp only [arX.pand, arX.not, b1, b2, b3, Bool.and_true, Bool.not_false]
theorem ok6 : Ok Try.prog (Ci [8, 13, 11, 10, 32, 36, 24, 31, 69, 37, 33, 65, 66, 30, 29, 28, 27, 12, 34, 63, 35, 64, 26] std V4.q V4.b) := by
  refine ok_cons ok6a ?_
  rintro l ⟨m, hm, rfl⟩ st
  refine (few8_c m hm st).mono ?_
  rintro r st' ⟨rfl, rfl⟩
  refine ⟨?_, rfl⟩
  show _ = AV.bool (msgOf m.av).few
  rw [msgOf_av]
/-- The law, as a contract. -/
theorem law3_c (a b : Msg) (ha : (a.ents.length : Int) ≤ 9223372036854775807) (hb : (b.ents.length : Int) ≤ 9223372036854775807) (st : St) : VCalls Try.prog 3 [a.av, b.av] st (fun r st' => r = .bool true ∧ st' = st) := by
  have q8a : V4.q 8 [a.av] := ⟨a, ha, rfl⟩
  have q8b : V4.q 8 [b.av] := ⟨b, hb, rfl⟩
  have q10 : V4.q 10 [a.av] := ⟨a, ha, rfl⟩
  have q11 : V4.q 11 [a.av] := ⟨a, ha, rfl⟩
  have q12 : V4.q 12 [a.av, b.av] := ⟨a, b, ha, rfl⟩
  have q12a : V4.q 12 [a.av, a.av] := ⟨a, a, ha, rfl⟩
  have q13 : V4.q 13 [a.av, b.av] := ⟨a, b, ha, rfl⟩
  have b1 : V4.b 10 [a.av] = V4.b 11 [a.av] := rfl
  have b2 : V4.b 12 [a.av, b.av] = V4.b 13 [a.av, b.av] := rfl
  have b3 : V4.b 12 [a.av, a.av] = true := by
    show decide (msgOf a.av = msgOf a.av) = true
    exact decide_eq_true rfl
  have haw := awake_c
  have hta := to9_c a
  have htb := to9_c b
  obtain ⟨m1, m2, m3, m4, m5, m6, m7, m8, m9, mA, m11, m12, mV⟩ := a
  obtain ⟨k1, k2, k3, k4, k5, k6, k7, k8, k9, kA, k11, k12, kV⟩ := b
  refine VCalls.use ok6 Try.func3 rfl (by rfl) (Nat.le_of_ble_eq_true rfl) (by kernel_rfl) fun R hR => ?_
  unfold Msg.av at *
  dsimp only at *
  generalize Try.prog = P at *
  generalize hX : std = X at *
  refine ops_use hX fun vv xlt xieq xseq xslt xar xconv xnot xpick xbeq xeqc xlen xslen xget xsget xsub xssub xapp xcat xtoB xofB xrep xrepc xchunks xmx xmn hY arX => ?_
  clear hX
  subst hY
  generalize hVV : V4.b = VV at *
  refine vl_use vv VV fun V hV => ?_
  clear hVV
  subst hV
  generalize V4.q = Q at *
  generalize mA.map Ent.av = mas at *
  generalize bs mV = mvs at *
  generalize kA.map Ent.av = kas at *
  generalize bs kV = kvs at *
  cbv
  refine (haw st).mono ?_
  rintro r st' ⟨rfl, rfl⟩
  cbv
  refine ⟨fun _ => q8a, ⟨fun _ => q8b, ?_⟩⟩
  refine tst (fun h1 => ?_) (fun h1 => ?_)
  · cbv
    refine (haw _).mono ?_
    rintro r st' ⟨rfl, rfl⟩
    cbv
    exact hR _ _ ⟨rfl, rfl⟩
  · cbv
    refine (hta _).mono ?_
    rintro r st' ⟨rfl, rfl⟩
    cbv
    refine (htb _).mono ?_
    rintro r st' ⟨rfl, rfl⟩
    cbv
    refine ⟨fun _ => q10, ⟨fun _ => q11, ⟨fun _ => q12, ⟨fun _ => q13, ⟨fun _ => q12a, ?_⟩⟩⟩⟩⟩
    refine hR _ _ ⟨?_, rfl⟩
    simp only [arX.pand, arX.beq, b1, b2, b3, beq_self_eq_true, Bool.and_true]
end Go.V

/- U19: pure functions that give back what they take; the contract of the law RmsgBare. -/
namespace Go.V
open Go.Proofs
set_option maxRecDepth 100000
def headAV : List AV → AV | [x] => x | _ => .undef
def pfD (q : Nat → List AV → Prop) (b : Nat → List AV → Bool) (fs : List Nat) (ids : List Nat) (f : Nat) : Option PF := match ids with
  | [] => pfC q b fs f
  | g :: r => match Nat.beq f g with
    | true => some ⟨q g, headAV⟩
    | false => pfD q b fs r f
def Cj (ids fs : List Nat) (X : Ops) (q : Nat → List AV → Prop) (b : Nat → List AV → Bool) : Cf := { C0 X with pf := pfD q b fs ids }
theorem ok_ids {fs : List Nat} {V : Pv} (h : Ok Try.prog (Ci fs std V.q V.b)) : ∀ {ids : List Nat}, (∀ f ∈ ids, ∀ l, V.q f l → ∀ st, VCalls Try.prog f l st (fun r st' => r = headAV l ∧ st' = st)) → Ok Try.prog (Cj ids fs std V.q V.b)
  | [], _ => { x := rfl, ti := h.ti, eq := ok_eq rfl, mixed := h.mixed, pf := fun g p hp args hpre st => h.pf g p hp args hpre st }
  | f :: ids, hf => by
    have ih := ok_ids h (ids := ids) (fun g hg => hf g (by simp [hg]))
    refine { x := rfl, ti := h.ti, eq := ok_eq rfl, mixed := h.mixed, pf := fun g p hp args hpre st => ?_ }
    · have hp : pfD V.q V.b fs (f :: ids) g = some p := hp
      unfold pfD at hp
      split at hp
      · next hb =>
        have := Nat.eq_of_beq_eq_true hb
        subst this
        cases hp
        exact hf g (by simp) args hpre st
      · exact ih.pf g p hp args hpre st
def V5 : Pv where
  q f l := match f with
    | 9 => ∃ m : Msg, l = [m.av]
    | 17 => ∃ m : Msg, l = [m.av]
    | f => V4.q f l
  b f l := V4.b f l
theorem ok7 : Ok Try.prog (Cj [9, 17] [8, 13, 11, 10, 32, 36, 24, 31, 69, 37, 33, 65, 66, 30, 29, 28, 27, 12, 34, 63, 35, 64, 26] std V5.q V5.b) := by
  refine ok_ids (V := V5) (ok_agree ok6 ?_) ?_
  · intro g hg
    simp only [List.mem_cons, List.not_mem_nil, or_false] at hg
    rcases hg with rfl | rfl | rfl | rfl | rfl | rfl | rfl | rfl | rfl | rfl | rfl | rfl | rfl | rfl | rfl | rfl | rfl | rfl | rfl | rfl | rfl | rfl | rfl <;> exact ⟨rfl, rfl⟩
  · intro f hf
    simp only [List.mem_cons, List.not_mem_nil, or_false] at hf
    rcases hf with rfl | rfl
    · rintro l ⟨m, rfl⟩ st; exact to9_c m st
    · rintro l ⟨m, rfl⟩ st; exact of17_c m st
theorem ok_rtj {C : Cf} (h : Ok Try.prog C) (m : List (Nat × Nat)) : Ok Try.prog (wRt C m) := ok_rt h m
theorem law4_c (m : Msg) (f n : Int) (hm : (m.ents.length : Int) ≤ 9223372036854775807) (st : St) : VCalls Try.prog 4 [m.av, .int .u8 f, .int .i64 n] st (fun r st' => r = .bool true ∧ st' = st) := by
  have haw := awake_c
  obtain ⟨m1, m2, m3, m4, m5, m6, m7, m8, m9, mA, m11, m12, mV⟩ := m
  have q8 : ∀ (m1 m2 m3 m4 m5 m6 m7 m8 : Int) (m9 : Bool) (m11 m12 : Int), V5.q 8 [.agg [.int .i64 m1, .int .i64 m2, .int .i64 m3, .int .i64 m4, .int .i64 m5, .int .i64 m6, .int .i64 m7, .int .i64 m8, .bool m9, .sl false 3 (mA.map Ent.av), .int .i64 m11, .int .i64 m12, .sl false 1 (bs mV)]] := fun m1 m2 m3 m4 m5 m6 m7 m8 m9 m11 m12 => ⟨⟨m1, m2, m3, m4, m5, m6, m7, m8, m9, mA, m11, m12, mV⟩, hm, rfl⟩
  have q9 : ∀ (m1 m2 m3 m4 m5 m6 m7 m8 : Int) (m9 : Bool) (m11 m12 : Int), V5.q 9 [.agg [.int .i64 m1, .int .i64 m2, .int .i64 m3, .int .i64 m4, .int .i64 m5, .int .i64 m6, .int .i64 m7, .int .i64 m8, .bool m9, .sl false 3 (mA.map Ent.av), .int .i64 m11, .int .i64 m12, .sl false 1 (bs mV)]] := fun m1 m2 m3 m4 m5 m6 m7 m8 m9 m11 m12 => ⟨⟨m1, m2, m3, m4, m5, m6, m7, m8, m9, mA, m11, m12, mV⟩, rfl⟩
  have q10 : ∀ (m1 m2 m3 m4 m5 m6 m7 m8 : Int) (m9 : Bool) (m11 m12 : Int), V5.q 10 [.agg [.int .i64 m1, .int .i64 m2, .int .i64 m3, .int .i64 m4, .int .i64 m5, .int .i64 m6, .int .i64 m7, .int .i64 m8, .bool m9, .sl false 3 (mA.map Ent.av), .int .i64 m11, .int .i64 m12, .sl false 1 (bs mV)]] := fun m1 m2 m3 m4 m5 m6 m7 m8 m9 m11 m12 => ⟨⟨m1, m2, m3, m4, m5, m6, m7, m8, m9, mA, m11, m12, mV⟩, hm, rfl⟩
  have q11 : ∀ (m1 m2 m3 m4 m5 m6 m7 m8 : Int) (m9 : Bool) (m11 m12 : Int), V5.q 11 [.agg [.int .i64 m1, .int .i64 m2, .int .i64 m3, .int .i64 m4, .int .i64 m5, .int .i64 m6, .int .i64 m7, .int .i64 m8, .bool m9, .sl false 3 (mA.map Ent.av), .int .i64 m11, .int .i64 m12, .sl false 1 (bs mV)]] := fun m1 m2 m3 m4 m5 m6 m7 m8 m9 m11 m12 => ⟨⟨m1, m2, m3, m4, m5, m6, m7, m8, m9, mA, m11, m12, mV⟩, hm, rfl⟩
  have b1 : ∀ x, V5.b 10 [x] = V5.b 11 [x] := fun x => rfl
  refine VCalls.use (ok_rtj ok7 [(35, 7), (39, 7), (43, 7), (47, 7), (50, 7), (53, 7), (28, 7), (29, 7), (30, 7), (31, 7)]) Try.func4 rfl (by rfl) (Nat.le_of_ble_eq_true rfl) (by kernel_rfl) fun R hR => ?_
  unfold Msg.av at *
  dsimp only at *
  generalize Try.prog = P at *
  generalize hX : std = X at *
  refine ops_use hX fun vv xlt xieq xseq xslt xar xconv xnot xpick xbeq xeqc xlen xslen xget xsget xsub xssub xapp xcat xtoB xofB xrep xrepc xchunks xmx xmn hY arX => ?_
  clear hX
  subst hY
  generalize hVV : V5.b = VV at *
  refine vl_use vv VV fun V hV => ?_
  clear hVV
  subst hV
  generalize V5.q = Q at *
  generalize mA.map Ent.av = mas at *
  generalize bs mV = mvs at *
  cbv
  refine (haw st).mono ?_
  rintro r st' ⟨rfl, rfl⟩
  cbv
  refine ⟨fun _ => q8 _ _ _ _ _ _ _ _ _ _ _, ⟨fun _ => q11 _ _ _ _ _ _ _ _ _ _ _, ?_⟩⟩
  refine tst (fun h1 => ?_) (fun h1 => ?_)
  · cbv
    refine (haw _).mono ?_
    rintro r st' ⟨rfl, rfl⟩
    cbv
    exact hR _ _ ⟨rfl, rfl⟩
  · simp only [arX.por, arX.not, Bool.or_eq_false_iff, Bool.not_eq_false'] at h1
    obtain ⟨⟨_, h1⟩, _⟩ := h1
    cbv
    refine ⟨fun _ => ⟨by decide⟩, ?_⟩
    refine tst (fun _ => ?_) (fun _ => ?_)
    · cbv
      refine ⟨fun _ => q9 _ _ _ _ _ _ _ _ _ _ _, ⟨fun _ => q10 _ _ _ _ _ _ _ _ _ _ _, ⟨fun _ => q9 _ _ _ _ _ _ _ _ _ _ _, ⟨fun _ => q10 _ _ _ _ _ _ _ _ _ _ _, ⟨fun _ => q11 _ _ _ _ _ _ _ _ _ _ _, hR _ _ ⟨?_, rfl⟩⟩⟩⟩⟩⟩
      simp only [arX.pand, arX.beq, b1, h1, beq_self_eq_true, Bool.and_true]
    · cbv
      refine tst (fun _ => ?_) (fun _ => ?_)
      · cbv
        refine ⟨fun _ => q9 _ _ _ _ _ _ _ _ _ _ _, ⟨fun _ => q10 _ _ _ _ _ _ _ _ _ _ _, ⟨fun _ => q9 _ _ _ _ _ _ _ _ _ _ _, ⟨fun _ => q10 _ _ _ _ _ _ _ _ _ _ _, ⟨fun _ => q11 _ _ _ _ _ _ _ _ _ _ _, hR _ _ ⟨?_, rfl⟩⟩⟩⟩⟩⟩
        simp only [arX.pand, arX.beq, b1, h1, beq_self_eq_true, Bool.and_true]
      · cbv
        refine tst (fun _ => ?_) (fun _ => ?_)
        · cbv
          refine ⟨fun _ => q9 _ _ _ _ _ _ _ _ _ _ _, ⟨fun _ => q10 _ _ _ _ _ _ _ _ _ _ _, ⟨fun _ => q9 _ _ _ _ _ _ _ _ _ _ _, ⟨fun _ => q10 _ _ _ _ _ _ _ _ _ _ _, ⟨fun _ => q11 _ _ _ _ _ _ _ _ _ _ _, hR _ _ ⟨?_, rfl⟩⟩⟩⟩⟩⟩
          simp only [arX.pand, arX.beq, b1, h1, beq_self_eq_true, Bool.and_true]
        · cbv
          refine tst (fun _ => ?_) (fun _ => ?_)
          · cbv
            refine ⟨fun _ => q9 _ _ _ _ _ _ _ _ _ _ _, ⟨fun _ => q10 _ _ _ _ _ _ _ _ _ _ _, ⟨fun _ => q9 _ _ _ _ _ _ _ _ _ _ _, ⟨fun _ => q10 _ _ _ _ _ _ _ _ _ _ _, ⟨fun _ => q11 _ _ _ _ _ _ _ _ _ _ _, hR _ _ ⟨?_, rfl⟩⟩⟩⟩⟩⟩
            simp only [arX.pand, arX.beq, b1, h1, beq_self_eq_true, Bool.and_true]
          · cbv
            refine tst (fun _ => ?_) (fun _ => ?_)
            · cbv
              refine ⟨fun _ => q9 _ _ _ _ _ _ _ _ _ _ _, ⟨fun _ => q10 _ _ _ _ _ _ _ _ _ _ _, ⟨fun _ => q9 _ _ _ _ _ _ _ _ _ _ _, ⟨fun _ => q10 _ _ _ _ _ _ _ _ _ _ _, ⟨fun _ => q11 _ _ _ _ _ _ _ _ _ _ _, hR _ _ ⟨?_, rfl⟩⟩⟩⟩⟩⟩
              simp only [arX.pand, arX.beq, b1, h1, beq_self_eq_true, Bool.and_true]
            · cbv
              refine ⟨fun _ => q9 _ _ _ _ _ _ _ _ _ _ _, ⟨fun _ => q10 _ _ _ _ _ _ _ _ _ _ _, ⟨fun _ => q9 _ _ _ _ _ _ _ _ _ _ _, ⟨fun _ => q10 _ _ _ _ _ _ _ _ _ _ _, ⟨fun _ => q11 _ _ _ _ _ _ _ _ _ _ _, hR _ _ ⟨?_, rfl⟩⟩⟩⟩⟩⟩
              simp only [arX.pand, arX.beq, b1, h1, beq_self_eq_true, Bool.and_true]
end Go.V
