/- U20: taking bytes apart: the basic steps. -/
import Derived.Test.YtbmjmemhjkpbdaaG2
set_option linter.unusedVariables false
set_option linter.unusedSimpArgs false
namespace Go.V
open Go.Proofs
set_option maxRecDepth 100000
def FS : List Nat := [8, 13, 11, 10, 32, 36, 24, 31, 69, 37, 33, 65, 66, 30, 29, 28, 27, 12, 34, 63, 35, 64, 26]
theorem clone_c (v : List UInt8) (hv : v.length ≤ 140737488355328) (st : St) : VCalls Try.prog 38 [.sl false 1 (bs v)] st (fun r st' => r = .sl false 1 (bs v) ∧ st' = st) := by
  refine VCalls.use ok7 Try.func38 rfl (by rfl) (Nat.le_of_ble_eq_true rfl) (by kernel_rfl) fun R hR => ?_
  generalize Try.prog = P at *
  generalize hX : std = X at *
  refine ops_use hX fun vv xlt xieq xseq xslt xar xconv xnot xpick xbeq xeqc xlen xslen xget xsget xsub xssub xapp xcat xtoB xofB xrep xrepc xchunks xmx xmn hY arX => ?_
  clear hX
  subst hY
  generalize hVV : V5.b = VV at *
  refine vl_use vv VV fun V hV => ?_
  clear hVV
  subst hV
  generalize V5.q = Q at *
  have hl := arX.lenb v
  generalize bs v = vs at *
  cbv
  refine ⟨fun h => ?_, ?_⟩
  · subst h
    cbv
    exact hR _ _ ⟨rfl, rfl⟩
  · cbv
    refine ⟨fun _ => appOkK (N := 0) (arX.lenE _) hl (by omega), ?_⟩
    · refine hR _ _ ⟨?_, rfl⟩
      rw [arX.appE]; rfl
/-- What is left of some bytes, and whether it is bad. -/
abbrev S := List UInt8 × Bool
def stS (s : S) : St := [some [.sl false 1 (bs s.1), .bool s.2]]
def takeS (n : Int) (s : S) : List UInt8 × S := if s.2 then ([], s) else if (s.1.length : Int) < n then ([], ([], true)) else (s.1.take n.toNat, (s.1.drop n.toNat, false))
theorem fail_c (s : S) : VCalls Try.prog 45 [.ref 0 0] (stS s) (fun r st' => r = .tup [] ∧ st' = stS ([], true)) := by
  obtain ⟨l, bad⟩ := s
  refine VCalls.use ok7 Try.func45 rfl (by rfl) (Nat.le_of_ble_eq_true rfl) (by kernel_rfl) fun R hR => ?_
  unfold stS at *
  dsimp only at *
  generalize Try.prog = P at *
  generalize hX : std = X at *
  refine ops_use hX fun vv xlt xieq xseq xslt xar xconv xnot xpick xbeq xeqc xlen xslen xget xsget xsub xssub xapp xcat xtoB xofB xrep xrepc xchunks xmx xmn hY arX => ?_
  clear hX
  subst hY
  generalize hVV : V5.b = VV at *
  refine vl_use vv VV fun V hV => ?_
  clear hVV
  subst hV
  generalize V5.q = Q at *
  generalize bs l = vs at *
  cbv
  exact hR _ _ ⟨rfl, rfl⟩
theorem take_c (n : Int) (hn : 0 ≤ n) (s : S) : VCalls Try.prog 78 [.ref 0 0, .int .i64 n] (stS s) (fun r st' => r = .sl false 1 (bs (takeS n s).1) ∧ st' = stS (takeS n s).2) := by
  have hf := fail_c s
  generalize hsf : stS ([], true) = sf at hf
  obtain ⟨l, bad⟩ := s
  refine VCalls.use ok7 Try.func78 rfl (by rfl) (Nat.le_of_ble_eq_true rfl) (by kernel_rfl) fun R hR => ?_
  unfold takeS at hR
  unfold stS at hf ⊢
  dsimp only at hf hR ⊢
  generalize Try.prog = P at *
  generalize hX : std = X at *
  refine ops_use hX fun vv xlt xieq xseq xslt xar xconv xnot xpick xbeq xeqc xlen xslen xget xsget xsub xssub xapp xcat xtoB xofB xrep xrepc xchunks xmx xmn hY arX => ?_
  clear hX
  subst hY
  generalize hVV : V5.b = VV at *
  refine vl_use vv VV fun V hV => ?_
  clear hVV
  subst hV
  generalize V5.q = Q at *
  have hl := arX.lenb l
  cases bad
  · have hd : bs (l.drop n.toNat) = (bs l).drop n.toNat := by unfold bs; rw [List.map_drop]
    have ht : bs (l.take n.toNat) = (bs l).take n.toNat := by unfold bs; rw [List.map_take]
    have hvl : (bs l).length = l.length := by simp [bs]
    generalize bs l = vs at *
    cbv
    refine tstF (by simp only [arX.por]; rfl) ?_
    cbv
    refine tst (fun h => ?_) (fun h => ?_)
    · cbv
      refine hf.mono ?_
      rintro r st' ⟨rfl, rfl⟩
      cbv
      rw [arX.lt, hl, decide_eq_true_eq] at h
      refine hR _ _ ⟨?_, ?_⟩
      · rw [if_neg (by decide), if_pos h]; rfl
      · rw [if_neg (by decide), if_pos h]; exact hsf.symm
    · cbv
      rw [arX.lt, hl, decide_eq_false_iff_not] at h
      refine ⟨fun _ => ⟨⟨by omega, by omega, by rw [hl]; omega⟩, ⟨rfl⟩⟩, ⟨fun _ => ⟨hn, by rw [hl]; omega, Int.le_refl _⟩, ?_⟩⟩
      refine hR _ _ ⟨?_, ?_⟩
      · rw [if_neg (by decide), if_neg h, arX.subE]
        show _ = AV.sl false 1 (bs (l.take n.toNat))
        rw [ht]; rfl
      · rw [if_neg (by decide), if_neg h, arX.subE, hl]
        show _ = [some [AV.sl false 1 (bs (l.drop n.toNat)), AV.bool false]]
        rw [hd, show ((l.length : Int)).toNat = vs.length by rw [hvl]; omega, List.take_length]
  · rw [if_pos rfl] at hR
    dsimp only at hR
    replace hR : ∀ r st', r = AV.sl false 1 [] ∧ st' = [some [AV.sl false 1 (bs l), .bool true]] → R r st' := hR
    generalize bs l = vs at *
    cbv
    refine tstT (by simp only [arX.por]; rfl) ?_
    cbv
    exact hR _ _ ⟨rfl, rfl⟩
end Go.V

/- U21: taking numbers. -/
namespace Go.V
open Go.Proofs
set_option maxRecDepth 100000
theorem wrap_u64 {n : Int} (h0 : 0 ≤ n) (h1 : n < 18446744073709551616) : IntKind.wrap .u64 n = n := by
  have e2 : (2 : Int) ^ IntKind.u64.bits = 18446744073709551616 := by decide
  have es : IntKind.u64.signed = false := rfl
  unfold IntKind.wrap
  rw [e2, es]
  show (if (false && decide (n % 18446744073709551616 ≥ _)) = true then _ else n % 18446744073709551616) = n
  rw [Bool.false_and, if_neg (by decide)]
  exact Int.emod_eq_of_lt h0 h1
theorem shl_or {v c : Int} (h0 : 0 ≤ v) (h1 : v < 72057594037927936) (h2 : 0 ≤ c) (h3 : c < 256) : arith .or .u64 (arith .shl .u64 v 8) c = v * 256 + c := by
  have e1 : arith .shl .u64 v 8 = v * 256 := by
    show IntKind.wrap .u64 (v * 2 ^ (min (8 : Int).toNat IntKind.u64.bits)) = _
    have : (2 : Int) ^ (min (8 : Int).toNat IntKind.u64.bits) = 256 := by decide
    rw [this]
    exact wrap_u64 (by omega) (by omega)
  rw [e1]
  show IntKind.wrap .u64 (((BitVec.ofInt 64 (v * 256) ||| BitVec.ofInt 64 c).toNat : Nat) : Int) = _
  obtain ⟨m, rfl⟩ := Int.eq_ofNat_of_zero_le h0
  obtain ⟨k, rfl⟩ := Int.eq_ofNat_of_zero_le h2
  have hk : k < 256 := by omega
  have hm : m < 72057594037927936 := by omega
  have a1 : (BitVec.ofInt 64 ((m : Int) * 256)).toNat = 2 ^ 8 * m := by
    have : ((m : Int) * 256) = ((2 ^ 8 * m : Nat) : Int) := by omega
    rw [this, BitVec.ofInt_natCast, BitVec.toNat_ofNat]
    exact Nat.mod_eq_of_lt (by omega)
  have a2 : (BitVec.ofInt 64 (k : Int)).toNat = k := by
    rw [BitVec.ofInt_natCast, BitVec.toNat_ofNat]
    exact Nat.mod_eq_of_lt (by omega)
  rw [BitVec.toNat_or, a1, a2, ← Nat.two_pow_add_eq_or_of_lt (by omega)]
  have : ((2 ^ 8 * m + k : Nat) : Int) = (m : Int) * 256 + (k : Int) := by omega
  rw [this]
  exact wrap_u64 (by omega) (by omega)
theorem pow256 {i j : Nat} (h : i ≤ j) : (256 : Int) ^ i ≤ 256 ^ j := by
  have := Nat.pow_le_pow_right (n := 256) (by decide) h
  have e : ∀ k : Nat, ((256 ^ k : Nat) : Int) = (256 : Int) ^ k := fun k => Int.natCast_pow 256 k
  rw [← e i, ← e j]
  exact Int.ofNat_le.2 this
/-- Bytes as a number, the highest first. -/
def beA (v : Int) : List UInt8 → Int
  | [] => v
  | c :: r => beA (v * 256 + (c.toNat : Int)) r
def beN (l : List UInt8) : Int := beA 0 l
theorem beA_bound : ∀ (l : List UInt8) (v : Int) (j : Nat), 0 ≤ v → v < 256 ^ j → 0 ≤ beA v l ∧ beA v l < 256 ^ (j + l.length)
  | [], v, j, h0, h1 => ⟨h0, h1⟩
  | c :: r, v, j, h0, h1 => by
    have hc := c.toNat_lt
    have := beA_bound r (v * 256 + (c.toNat : Int)) (j + 1) (by omega) (by rw [Int.pow_succ]; omega)
    rw [List.length_cons, show j + (r.length + 1) = j + 1 + r.length by omega]
    exact this
theorem take_len (n : Int) (hn : 0 ≤ n) (s : S) : (((takeS n s).1.length : Nat) : Int) ≤ n := by
  unfold takeS
  split
  · exact hn
  · split
    · exact hn
    · simp only [List.length_take]; omega
theorem beN_bound {l : List UInt8} {n : Nat} (h : l.length ≤ n) : 0 ≤ beN l ∧ beN l < 256 ^ n := by
  have := beA_bound l 0 0 (Int.le_refl _) (by decide)
  refine ⟨this.1, Int.lt_of_lt_of_le this.2 ?_⟩
  rw [Nat.zero_add]
  exact pow256 h
def wideS (n : Int) (s : S) : Int × S := (beN (takeS n s).1, (takeS n s).2)
theorem wide_c (n : Int) (hn : 0 ≤ n) (hn8 : n ≤ 8) (s : S) : VCalls Try.prog 70 [.ref 0 0, .int .i64 n] (stS s) (fun r st' => r = .int .u64 (wideS n s).1 ∧ st' = stS (wideS n s).2) := by
  have ht := take_c n hn s
  have hlen := take_len n hn s
  unfold wideS
  dsimp only
  generalize (takeS n s).1 = L at *
  generalize (takeS n s).2 = s2 at *
  refine VCalls.use ok7 Try.func70 rfl (by rfl) (Nat.le_of_ble_eq_true rfl) (by kernel_rfl) fun R hR => ?_
  have okX := ok7
  have hL8 : L.length ≤ 8 := by omega
  have hL : (L.length : Int) ≤ 9223372036854775807 := by omega
  have hA : ∀ (v : Int) (c : UInt8) (r : List UInt8), beA v (c :: r) = beA (v * 256 + (c.toNat : Int)) r := fun _ _ _ => rfl
  have hA0 : ∀ (v : Int), beA v [] = v := fun _ => rfl
  have hN : beN L = beA 0 L := rfl
  generalize beN L = mr at *
  generalize beA = fA at *
  generalize stS s = st1 at *
  generalize stS s2 = st2 at *
  generalize Try.prog = P at *
  generalize hX : std = X at *
  refine ops_use hX fun vv xlt xieq xseq xslt xar xconv xnot xpick xbeq xeqc xlen xslen xget xsget xsub xssub xapp xcat xtoB xofB xrep xrepc xchunks xmx xmn hY arX => ?_
  clear hX
  subst hY
  generalize hVV : V5.b = VV at *
  refine vl_use vv VV fun V hV => ?_
  clear hVV
  subst hV
  generalize V5.q = Q at *
  have hl := arX.lenf u8 L
  have hg := fun (j : Nat) (a : UInt8) (h : L[j]? = some a) => arX.getf u8 h
  replace hl : vl vv xlen (bs L) = (L.length : Int) := hl
  replace hg : ∀ (j : Nat) (a : UInt8), L[j]? = some a → vl vv xget (bs L) (j : Int) = u8 a := hg
  generalize bs L = ls at *
  cbv
  refine ht.mono ?_
  rintro r st' ⟨rfl, rfl⟩
  cbv
  refine wp_for okX (by kernel_rfl) L.length (fun j (v : Int) => mr = fA v (L.drop j) ∧ 0 ≤ v ∧ v < 256 ^ j)
    (fun j v => [(5, .int .u64 v), (10, .sl false 1 ls), (11, .int .i64 (vl vv xlen ls)), (12, .int .i64 (j : Int))]) (fun _ _ => []) 0 ⟨hN, Int.le_refl _, by decide⟩ (fun _ _ => rfl) ⟨rfl, rfl, rfl, rfl, trivial⟩ trivial ?_
  rintro j v hj ⟨hpre, hv0, hv1⟩ K hK hKx
  generalize hjj : (j : Int) = k at *
  cbv
  refine tst (fun h3 => ?_) (fun h3 => ?_)
  · have hjl := arX.inK hjj hl h3
    obtain ⟨a, ha⟩ := getE rfl hjl
    have ga := hg j a ha
    rw [hjj] at ga
    have hd : L.drop j = a :: L.drop (j + 1) := by
      rw [List.drop_eq_getElem_cons hjl]
      congr 1
      rw [List.getElem?_eq_getElem hjl] at ha
      exact Option.some.inj ha
    rw [hd, hA] at hpre
    have hv7 : v < 72057594037927936 := by
      refine Int.lt_of_lt_of_le hv1 ?_
      exact Int.le_trans (pow256 (show j ≤ 7 by omega)) (by decide)
    have ha8 := a.toNat_lt
    cbv
    refine ⟨fun _ => inBK hjj hl hjl, ?_⟩
    simp only [ga]
    cbv
    refine ⟨fun _ => ⟨by decide⟩, ?_⟩
    have e1 := arX.convE .u64 (a.toNat : Int)
    refine hK (v * 256 + (a.toNat : Int)) _ _ hjl ⟨hpre, by omega, ?_⟩ ⟨?_, rfl, rfl, congrArg (AV.int .i64) (arX.sucK hjj hL hjl), trivial⟩ trivial
    · rw [Int.pow_succ]; omega
    · refine congrArg (AV.int .u64) ?_
      exact (arX.arE _ _ _ _).trans ((congr (congrArg (arith .or .u64) (arX.arE _ _ _ _)) (e1.trans (wrap_u64 (by omega) (by omega)))).trans (shl_or hv0 hv7 (by omega) (by omega)))
  · have hje := arX.outK hjj hl h3 hj
    cbv
    refine hKx (.exit 0) _ _ _ (by simp) ?_
    cbv
    refine hR _ _ ⟨?_, rfl⟩
    show AV.int .u64 v = AV.int .u64 mr
    rw [hpre, hje, List.drop_length, hA0]
end Go.V

/- U22: bytes, numbers, flags and counts. -/
namespace Go.V
open Go.Proofs
set_option maxRecDepth 100000
theorem wrap_u8 {n : Int} (h0 : 0 ≤ n) (h1 : n < 256) : IntKind.wrap .u8 n = n := by
  have e2 : (2 : Int) ^ IntKind.u8.bits = 256 := by decide
  have es : IntKind.u8.signed = false := rfl
  unfold IntKind.wrap
  rw [e2, es]
  show (if (false && decide (n % 256 ≥ _)) = true then _ else n % 256) = n
  rw [Bool.false_and, if_neg (by decide)]
  exact Int.emod_eq_of_lt h0 h1
theorem wide_bound {n : Int} {k : Nat} (hn : 0 ≤ n) (hk : n ≤ (k : Int)) (s : S) : 0 ≤ (wideS n s).1 ∧ (wideS n s).1 < 256 ^ k := by
  have := take_len n hn s
  exact beN_bound (l := (takeS n s).1) (by omega)
theorem bad_c (s : S) : VCalls Try.prog 18 [.ref 0 0] (stS s) (fun r st' => r = .bool s.2 ∧ st' = stS s) := by
  obtain ⟨l, bad⟩ := s
  refine VCalls.use ok7 Try.func18 rfl (by rfl) (Nat.le_of_ble_eq_true rfl) (by kernel_rfl) fun R hR => ?_
  unfold stS at *
  dsimp only at *
  generalize Try.prog = P at *
  generalize hX : std = X at *
  refine ops_use hX fun vv xlt xieq xseq xslt xar xconv xnot xpick xbeq xeqc xlen xslen xget xsget xsub xssub xapp xcat xtoB xofB xrep xrepc xchunks xmx xmn hY arX => ?_
  clear hX
  subst hY
  generalize hVV : V5.b = VV at *
  refine vl_use vv VV fun V hV => ?_
  clear hVV
  subst hV
  generalize V5.q = Q at *
  generalize bs l = vs at *
  cbv
  refine hR _ _ ⟨?_, rfl⟩
  rw [arX.pand]; rfl
theorem left_c (s : S) : VCalls Try.prog 19 [.ref 0 0] (stS s) (fun r st' => r = .int .i64 (s.1.length : Int) ∧ st' = stS s) := by
  obtain ⟨l, bad⟩ := s
  refine VCalls.use ok7 Try.func19 rfl (by rfl) (Nat.le_of_ble_eq_true rfl) (by kernel_rfl) fun R hR => ?_
  unfold stS at *
  dsimp only at *
  generalize Try.prog = P at *
  generalize hX : std = X at *
  refine ops_use hX fun vv xlt xieq xseq xslt xar xconv xnot xpick xbeq xeqc xlen xslen xget xsget xsub xssub xapp xcat xtoB xofB xrep xrepc xchunks xmx xmn hY arX => ?_
  clear hX
  subst hY
  generalize hVV : V5.b = VV at *
  refine vl_use vv VV fun V hV => ?_
  clear hVV
  subst hV
  generalize V5.q = Q at *
  have hl := arX.lenb l
  generalize bs l = vs at *
  cbv
  refine hR _ _ ⟨?_, rfl⟩
  rw [hl]
theorem done_c (s : S) : VCalls Try.prog 23 [.ref 0 0] (stS s) (fun r st' => r = .bool (!s.2 && decide ((s.1.length : Int) = 0)) ∧ st' = stS s) := by
  obtain ⟨l, bad⟩ := s
  refine VCalls.use ok7 Try.func23 rfl (by rfl) (Nat.le_of_ble_eq_true rfl) (by kernel_rfl) fun R hR => ?_
  unfold stS at *
  dsimp only at *
  generalize Try.prog = P at *
  generalize hX : std = X at *
  refine ops_use hX fun vv xlt xieq xseq xslt xar xconv xnot xpick xbeq xeqc xlen xslen xget xsget xsub xssub xapp xcat xtoB xofB xrep xrepc xchunks xmx xmn hY arX => ?_
  clear hX
  subst hY
  generalize hVV : V5.b = VV at *
  refine vl_use vv VV fun V hV => ?_
  clear hVV
  subst hV
  generalize V5.q = Q at *
  have hl := arX.lenb l
  generalize bs l = vs at *
  cbv
  refine hR _ _ ⟨?_, rfl⟩
  rw [arX.pand, arX.pand, arX.not, arX.ieq, hl, Bool.true_and]
theorem byte_c (s : S) : VCalls Try.prog 39 [.ref 0 0] (stS s) (fun r st' => r = .int .u8 (wideS 1 s).1 ∧ st' = stS (wideS 1 s).2) := by
  have hw := wide_c 1 (by decide) (by decide) s
  have hb := wide_bound (n := 1) (k := 1) (by decide) (by decide) s
  have hc := wrap_u8 hb.1 hb.2
  generalize (wideS 1 s).1 = v at *
  generalize stS (wideS 1 s).2 = s2 at *
  unfold stS at *
  generalize some [AV.sl false 1 (bs s.1), AV.bool s.2] = cells at *
  refine VCalls.use ok7 Try.func39 rfl (by rfl) (Nat.le_of_ble_eq_true rfl) (by kernel_rfl) fun R hR => ?_
  generalize Try.prog = P at *
  generalize hX : std = X at *
  refine ops_use hX fun vv xlt xieq xseq xslt xar xconv xnot xpick xbeq xeqc xlen xslen xget xsget xsub xssub xapp xcat xtoB xofB xrep xrepc xchunks xmx xmn hY arX => ?_
  clear hX
  subst hY
  generalize hVV : V5.b = VV at *
  refine vl_use vv VV fun V hV => ?_
  clear hVV
  subst hV
  generalize V5.q = Q at *
  cbv
  refine hw.mono ?_
  rintro r st' ⟨rfl, rfl⟩
  cbv
  exact hR _ _ ⟨congrArg (AV.int .u8) ((arX.convE _ _).trans hc), rfl⟩
def numS (s : S) : Int × S := (IntKind.wrap .i64 (wideS 8 s).1, (wideS 8 s).2)
theorem num_c (s : S) : VCalls Try.prog 40 [.ref 0 0] (stS s) (fun r st' => r = .int .i64 (numS s).1 ∧ st' = stS (numS s).2) := by
  have hw := wide_c 8 (by decide) (by decide) s
  unfold numS
  dsimp only
  generalize (wideS 8 s).1 = v at *
  generalize stS (wideS 8 s).2 = s2 at *
  unfold stS at *
  generalize some [AV.sl false 1 (bs s.1), AV.bool s.2] = cells at *
  refine VCalls.use ok7 Try.func40 rfl (by rfl) (Nat.le_of_ble_eq_true rfl) (by kernel_rfl) fun R hR => ?_
  generalize Try.prog = P at *
  generalize hX : std = X at *
  refine ops_use hX fun vv xlt xieq xseq xslt xar xconv xnot xpick xbeq xeqc xlen xslen xget xsget xsub xssub xapp xcat xtoB xofB xrep xrepc xchunks xmx xmn hY arX => ?_
  clear hX
  subst hY
  generalize hVV : V5.b = VV at *
  refine vl_use vv VV fun V hV => ?_
  clear hVV
  subst hV
  generalize V5.q = Q at *
  have hc := arX.convE .i64 v
  generalize IntKind.wrap .i64 v = wv at *
  cbv
  refine hw.mono ?_
  rintro r st' ⟨rfl, rfl⟩
  cbv
  exact hR _ _ ⟨congrArg (AV.int .i64) hc, rfl⟩
def flagS (s : S) : Bool × S := (decide ((wideS 1 s).1 = 1), if 1 < (wideS 1 s).1 then ([], true) else (wideS 1 s).2)
theorem flag_c (s : S) : VCalls Try.prog 41 [.ref 0 0] (stS s) (fun r st' => r = .bool (flagS s).1 ∧ st' = stS (flagS s).2) := by
  have hw := byte_c s
  have hf := fail_c (wideS 1 s).2
  unfold flagS
  dsimp only
  generalize (wideS 1 s).1 = v at *
  generalize (wideS 1 s).2 = s2 at *
  refine VCalls.use ok7 Try.func41 rfl (by rfl) (Nat.le_of_ble_eq_true rfl) (by kernel_rfl) fun R hR => ?_
  generalize stS s = st1 at *
  generalize hs2 : stS s2 = st2 at *
  generalize hs3 : stS ([], true) = st3 at *
  generalize Try.prog = P at *
  generalize hX : std = X at *
  refine ops_use hX fun vv xlt xieq xseq xslt xar xconv xnot xpick xbeq xeqc xlen xslen xget xsget xsub xssub xapp xcat xtoB xofB xrep xrepc xchunks xmx xmn hY arX => ?_
  clear hX
  subst hY
  generalize hVV : V5.b = VV at *
  refine vl_use vv VV fun V hV => ?_
  clear hVV
  subst hV
  generalize V5.q = Q at *
  cbv
  refine hw.mono ?_
  rintro r st' ⟨rfl, rfl⟩
  cbv
  refine tst (fun h => ?_) (fun h => ?_)
  · cbv
    refine hf.mono ?_
    rintro r st' ⟨rfl, rfl⟩
    cbv
    rw [arX.lt, decide_eq_true_eq] at h
    refine hR _ _ ⟨by rw [arX.ieq], ?_⟩
    rw [if_pos h]; exact hs3.symm
  · cbv
    rw [arX.lt, decide_eq_false_iff_not] at h
    refine hR _ _ ⟨by rw [arX.ieq], ?_⟩
    rw [if_neg h]; exact hs2.symm
def countS (most : Int) (s : S) : Int × S := if max most 0 < (wideS 4 s).1 ∨ ((wideS 4 s).2.1.length : Int) < (wideS 4 s).1 ∨ most < 0 then (0, ([], true)) else wideS 4 s
theorem count_c (most : Int) (h0 : 0 ≤ most) (hm : most ≤ 9223372036854775807) (s : S) (hs : ((wideS 4 s).2.1.length : Int) ≤ 9223372036854775807) : VCalls Try.prog 42 [.ref 0 0, .int .i64 most] (stS s) (fun r st' => r = .int .i64 (countS most s).1 ∧ st' = stS (countS most s).2) := by
  have hw := wide_c 4 (by decide) (by decide) s
  have hb := wide_bound (n := 4) (k := 4) (by decide) (by decide) s
  have hf := fail_c (wideS 4 s).2
  have hlf := left_c (wideS 4 s).2
  unfold countS
  generalize wideS 4 s = ws at *
  obtain ⟨v, s2⟩ := ws
  dsimp only at *
  generalize hR0 : (if max most 0 < v ∨ (s2.1.length : Int) < v ∨ most < 0 then ((0, ([], true)) : Int × S) else (v, s2)) = rs
  refine VCalls.use ok7 Try.func42 rfl (by rfl) (Nat.le_of_ble_eq_true rfl) (by kernel_rfl) fun R hR => ?_
  generalize stS s = st1 at *
  generalize hs2 : stS s2 = st2 at *
  generalize hs3 : stS ([], true) = st3 at *
  have hv : v ≤ 9223372036854775807 := by omega
  have hmx : max most 0 = most := by omega
  generalize hlen : (s2.1.length : Int) = len at *
  generalize Try.prog = P at *
  generalize hX : std = X at *
  refine ops_use hX fun vv xlt xieq xseq xslt xar xconv xnot xpick xbeq xeqc xlen xslen xget xsget xsub xssub xapp xcat xtoB xofB xrep xrepc xchunks xmx xmn hY arX => ?_
  clear hX
  subst hY
  generalize hVV : V5.b = VV at *
  refine vl_use vv VV fun V hV => ?_
  clear hVV
  subst hV
  generalize V5.q = Q at *
  have e1 := (arX.convE .u64 (vl vv xmx most 0)).trans ((congrArg (IntKind.wrap .u64) ((arX.mxE most 0).trans hmx)).trans (wrap_u64 (n := most) (by omega) (by omega)))
  have e2 := (arX.convE .u64 len).trans (wrap_u64 (by omega) (by omega))
  have e3 := (arX.convE .i64 v).trans (wrap_i64 (by omega) (by omega))
  cbv
  refine hw.mono ?_
  rintro r st' ⟨rfl, rfl⟩
  cbv
  have g1 : ∀ a b : Prop, [Decidable a] → [Decidable b] → (decide a || decide b) = decide (a ∨ b) := fun a b _ _ => (Bool.decide_or a b).symm
  refine tst (fun h => ?_) (fun h => ?_)
  · cbv
    refine hlf.mono ?_
    rintro r st' ⟨rfl, rfl⟩
    cbv
    refine tst (fun h2 => ?_) (fun h2 => ?_)
    · cbv
      refine hf.mono ?_
      rintro r st' ⟨rfl, rfl⟩
      cbv
      simp only [arX.por, arX.lt, e1, e2, g1, decide_eq_true_eq] at h2
      have hc : max most 0 < v ∨ len < v ∨ most < 0 := by omega
      rw [if_pos hc] at hR0
      subst hR0
      exact hR _ _ ⟨rfl, hs3.symm⟩
    · cbv
      simp only [arX.por, arX.lt, e1, e2, g1, decide_eq_false_iff_not] at h2
      have hc : ¬ (max most 0 < v ∨ len < v ∨ most < 0) := by omega
      rw [if_neg hc] at hR0
      subst hR0
      exact hR _ _ ⟨congrArg (AV.int .i64) e3, hs2.symm⟩
  · cbv
    have hv2 : most < v := by
      have h' := h
      simp only [arX.not, arX.lt, e1, Bool.not_eq_false', decide_eq_true_eq] at h'
      exact h'
    refine ⟨fun hw => absurd (hw.symm.trans h) (by decide), ⟨fun hw => absurd (hw.symm.trans h) (by decide), ⟨fun _ => ⟨?_⟩, ?_⟩⟩⟩
    · simp only [arX.lt, e1, decide_eq_true hv2]
    · refine tstT (by simp only [arX.por, arX.lt, e1, decide_eq_true hv2, Bool.true_or]) ?_
      cbv
      refine hf.mono ?_
      rintro r st' ⟨rfl, rfl⟩
      cbv
      have hc : max most 0 < v ∨ len < v ∨ most < 0 := by omega
      rw [if_pos hc] at hR0
      subst hR0
      exact hR _ _ ⟨rfl, hs3.symm⟩
theorem count_range (most : Int) (h0 : 0 ≤ most) (s : S) : 0 ≤ (countS most s).1 ∧ (countS most s).1 ≤ most := by
  have hb := wide_bound (n := 4) (k := 4) (by decide) (by decide) s
  unfold countS
  split
  · exact ⟨Int.le_refl _, h0⟩
  · next h => exact ⟨hb.1, by omega⟩
theorem take_left (n : Int) (s : S) : (takeS n s).2.1.length ≤ s.1.length := by
  unfold takeS
  split
  · exact Nat.le_refl _
  · split
    · exact Nat.zero_le _
    · simp only [List.length_drop]; omega
theorem count_left (most : Int) (s : S) : (countS most s).2.1.length ≤ s.1.length := by
  unfold countS
  split
  · exact Nat.zero_le _
  · exact take_left 4 s
def bytesS (most : Int) (s : S) : List UInt8 × S := takeS (countS most s).1 (countS most s).2
theorem bytes_c (most : Int) (h0 : 0 ≤ most) (hm : most ≤ 9223372036854775807) (s : S) (hs : (s.1.length : Int) ≤ 9223372036854775807) : VCalls Try.prog 71 [.ref 0 0, .int .i64 most] (stS s) (fun r st' => r = .sl false 1 (bs (bytesS most s).1) ∧ st' = stS (bytesS most s).2) := by
  have hc := count_c most h0 hm s (by have := take_left 4 s; unfold wideS; dsimp only; omega)
  have ht := take_c (countS most s).1 (count_range most h0 s).1 (countS most s).2
  unfold bytesS
  generalize (countS most s).1 = n at *
  generalize (countS most s).2 = s2 at *
  refine VCalls.use ok7 Try.func71 rfl (by rfl) (Nat.le_of_ble_eq_true rfl) (by kernel_rfl) fun R hR => ?_
  generalize stS s = st1 at *
  generalize stS s2 = st2 at *
  generalize stS (takeS n s2).2 = st3 at *
  generalize bs (takeS n s2).1 = ls at *
  generalize Try.prog = P at *
  generalize hX : std = X at *
  refine ops_use hX fun vv xlt xieq xseq xslt xar xconv xnot xpick xbeq xeqc xlen xslen xget xsget xsub xssub xapp xcat xtoB xofB xrep xrepc xchunks xmx xmn hY arX => ?_
  clear hX
  subst hY
  generalize hVV : V5.b = VV at *
  refine vl_use vv VV fun V hV => ?_
  clear hVV
  subst hV
  generalize V5.q = Q at *
  cbv
  refine hc.mono ?_
  rintro r st' ⟨rfl, rfl⟩
  cbv
  refine ht.mono ?_
  rintro r st' ⟨rfl, rfl⟩
  cbv
  exact hR _ _ ⟨rfl, rfl⟩
end Go.V

/- U23: entries and snapshots out of bytes. -/
namespace Go.V
open Go.Proofs
set_option maxRecDepth 100000
def Ent.zero : Ent := ⟨0, 0, []⟩
/-- An index, a term and data. -/
def threeS (most : Int) (s : S) : Ent × S :=
  (⟨(numS s).1, (numS (numS s).2).1, (bytesS most (numS (numS s).2).2).1⟩, (bytesS most (numS (numS s).2).2).2)
def entS (s : S) : Ent × S := if (threeS 12000 s).2.2 || !(threeS 12000 s).1.right then (Ent.zero, ([], true)) else threeS 12000 s
def snapS (s : S) : Ent × S := if (threeS 50000 s).2.2 || !snapRight (threeS 50000 s).1.x (threeS 50000 s).1.y (threeS 50000 s).1.v.length then (Ent.zero, ([], true)) else threeS 50000 s
theorem num_left (s : S) : (numS s).2.1.length ≤ s.1.length := take_left 8 s
theorem entGet_c (s : S) (hs : (s.1.length : Int) ≤ 9223372036854775807) : VCalls Try.prog 43 [.ref 0 0] (stS s) (fun r st' => r = (entS s).1.av ∧ st' = stS (entS s).2) := by
  have h1 := num_c s
  have h2 := num_c (numS s).2
  have l1 := num_left s
  have l2 := num_left (numS s).2
  have h3 := bytes_c 12000 (by decide) (by decide) (numS (numS s).2).2 (by omega)
  have hbad := bad_c (bytesS 12000 (numS (numS s).2).2).2
  have hfl := fail_c (bytesS 12000 (numS (numS s).2).2).2
  have q63 : V5.q 63 [(threeS 12000 s).1.av] := ⟨(threeS 12000 s).1, rfl⟩
  have b63 : V5.b 63 [(threeS 12000 s).1.av] = (threeS 12000 s).1.right := by
    show (entOf _).right = _
    rw [entOf_av]
  unfold entS
  unfold threeS at *
  dsimp only at *
  generalize (numS s).1 = x at *
  generalize (numS (numS s).2).1 = y at *
  generalize (bytesS 12000 (numS (numS s).2).2).1 = d at *
  generalize (bytesS 12000 (numS (numS s).2).2).2 = s3 at *
  generalize hrt : Ent.right ⟨x, y, d⟩ = rt at *
  generalize hR0 : (if (s3.2 || !rt) = true then ((Ent.zero, ([], true)) : Ent × S) else (⟨x, y, d⟩, s3)) = rs
  refine VCalls.use ok7 Try.func43 rfl (by rfl) (Nat.le_of_ble_eq_true rfl) (by kernel_rfl) fun R hR => ?_
  generalize stS s = st0 at *
  generalize stS (numS s).2 = st1 at *
  generalize stS (numS (numS s).2).2 = st2 at *
  generalize hs3 : stS s3 = st3 at *
  generalize hs4 : stS ([], true) = st4 at *
  generalize s3.2 = bd at *
  unfold Ent.av at q63 b63
  dsimp only at q63 b63
  generalize hds : bs d = ds at *
  generalize Try.prog = P at *
  generalize hX : std = X at *
  refine ops_use hX fun vv xlt xieq xseq xslt xar xconv xnot xpick xbeq xeqc xlen xslen xget xsget xsub xssub xapp xcat xtoB xofB xrep xrepc xchunks xmx xmn hY arX => ?_
  clear hX
  subst hY
  generalize hVV : V5.b = VV at *
  refine vl_use vv VV fun V hV => ?_
  clear hVV
  subst hV
  generalize V5.q = Q at *
  cbv
  refine h1.mono ?_
  rintro r st' ⟨rfl, rfl⟩
  cbv
  refine h2.mono ?_
  rintro r st' ⟨rfl, rfl⟩
  cbv
  refine h3.mono ?_
  rintro r st' ⟨rfl, rfl⟩
  cbv
  refine hbad.mono ?_
  rintro r st' ⟨rfl, rfl⟩
  cbv
  refine ⟨fun _ => q63, ?_⟩
  refine tst (fun h => ?_) (fun h => ?_)
  · cbv
    refine hfl.mono ?_
    rintro r st' ⟨rfl, rfl⟩
    cbv
    simp only [arX.por, arX.not, b63] at h
    rw [if_pos h] at hR0
    subst hR0
    exact hR _ _ ⟨rfl, hs4.symm⟩
  · cbv
    simp only [arX.por, arX.not, b63] at h
    rw [if_neg (by rw [h]; decide)] at hR0
    subst hR0
    subst hds
    exact hR _ _ ⟨rfl, hs3.symm⟩
theorem snapGet_c (s : S) (hs : (s.1.length : Int) ≤ 9223372036854775807) : VCalls Try.prog 44 [.ref 0 0] (stS s) (fun r st' => r = (snapS s).1.av ∧ st' = stS (snapS s).2) := by
  have h1 := num_c s
  have h2 := num_c (numS s).2
  have l1 := num_left s
  have l2 := num_left (numS s).2
  have h3 := bytes_c 50000 (by decide) (by decide) (numS (numS s).2).2 (by omega)
  have hbad := bad_c (bytesS 50000 (numS (numS s).2).2).2
  have hfl := fail_c (bytesS 50000 (numS (numS s).2).2).2
  have q29 : V5.q 29 [(threeS 50000 s).1.av] := ⟨_, _, _, rfl⟩
  have b29 : V5.b 29 [(threeS 50000 s).1.av] = snapRight (threeS 50000 s).1.x (threeS 50000 s).1.y (threeS 50000 s).1.v.length := by
    show snapRight _ _ (bs _).length = _
    rw [show (bs (threeS 50000 s).1.v).length = (threeS 50000 s).1.v.length by simp [bs]]; rfl
  unfold snapS
  unfold threeS at *
  dsimp only at *
  generalize (numS s).1 = x at *
  generalize (numS (numS s).2).1 = y at *
  generalize (bytesS 50000 (numS (numS s).2).2).1 = d at *
  generalize (bytesS 50000 (numS (numS s).2).2).2 = s3 at *
  generalize hrt : snapRight x y (d.length : Int) = rt at *
  generalize hR0 : (if (s3.2 || !rt) = true then ((Ent.zero, ([], true)) : Ent × S) else (⟨x, y, d⟩, s3)) = rs
  refine VCalls.use ok7 Try.func44 rfl (by rfl) (Nat.le_of_ble_eq_true rfl) (by kernel_rfl) fun R hR => ?_
  generalize stS s = st0 at *
  generalize stS (numS s).2 = st1 at *
  generalize stS (numS (numS s).2).2 = st2 at *
  generalize hs3 : stS s3 = st3 at *
  generalize hs4 : stS ([], true) = st4 at *
  generalize s3.2 = bd at *
  unfold Ent.av at q29 b29
  dsimp only at q29 b29
  generalize hds : bs d = ds at *
  generalize Try.prog = P at *
  generalize hX : std = X at *
  refine ops_use hX fun vv xlt xieq xseq xslt xar xconv xnot xpick xbeq xeqc xlen xslen xget xsget xsub xssub xapp xcat xtoB xofB xrep xrepc xchunks xmx xmn hY arX => ?_
  clear hX
  subst hY
  generalize hVV : V5.b = VV at *
  refine vl_use vv VV fun V hV => ?_
  clear hVV
  subst hV
  generalize V5.q = Q at *
  cbv
  refine h1.mono ?_
  rintro r st' ⟨rfl, rfl⟩
  cbv
  refine h2.mono ?_
  rintro r st' ⟨rfl, rfl⟩
  cbv
  refine h3.mono ?_
  rintro r st' ⟨rfl, rfl⟩
  cbv
  refine hbad.mono ?_
  rintro r st' ⟨rfl, rfl⟩
  cbv
  refine ⟨fun _ => q29, ?_⟩
  refine tst (fun h => ?_) (fun h => ?_)
  · cbv
    refine hfl.mono ?_
    rintro r st' ⟨rfl, rfl⟩
    cbv
    simp only [arX.por, arX.not, b29] at h
    rw [if_pos h] at hR0
    subst hR0
    exact hR _ _ ⟨rfl, hs4.symm⟩
  · cbv
    simp only [arX.por, arX.not, b29] at h
    rw [if_neg (by rw [h]; decide)] at hR0
    subst hR0
    subst hds
    exact hR _ _ ⟨rfl, hs3.symm⟩
end Go.V

/- U24: a message out of bytes. -/
namespace Go.V
open Go.Proofs
set_option maxRecDepth 100000
def memN : List Nat → Nat → Bool
  | [], _ => false
  | a :: r, t => Nat.beq t a || memN r t
def wTr (C : Cf) (l : List Nat) : Cf := { C with tr := memN l }
theorem ok_tr {C : Cf} (h : Ok Try.prog C) (l : List Nat) : Ok Try.prog (wTr C l) := { x := h.x, ti := h.ti, pf := h.pf, eq := h.eq, mixed := h.mixed }
def entsS : Nat → S → List Ent × S
  | 0, s => ([], s)
  | n + 1, s => ((entS s).1 :: (entsS n (entS s).2).1, (entsS n (entS s).2).2)
theorem ents_len : ∀ (n : Nat) (s : S), (entsS n s).1.length = n
  | 0, _ => rfl
  | n + 1, s => by
    show ((entS s).1 :: (entsS n (entS s).2).1).length = n + 1
    rw [List.length_cons, ents_len n]
theorem three_left (most : Int) (s : S) : (threeS most s).2.1.length ≤ s.1.length := by
  unfold threeS bytesS
  dsimp only
  have h1 := num_left s
  have h2 := num_left (numS s).2
  have h3 := count_left most (numS (numS s).2).2
  have h4 := take_left (countS most (numS (numS s).2).2).1 (countS most (numS (numS s).2).2).2
  omega
theorem ent_left (s : S) : (entS s).2.1.length ≤ s.1.length := by
  unfold entS
  split
  · exact Nat.zero_le _
  · exact three_left _ _
theorem ents_left : ∀ (n : Nat) (s : S), (entsS n s).2.1.length ≤ s.1.length
  | 0, _ => Nat.le_refl _
  | n + 1, s => Nat.le_trans (ents_left n _) (ent_left s)
theorem flag_left (s : S) : (flagS s).2.1.length ≤ s.1.length := by
  unfold flagS
  dsimp only
  split
  · exact Nat.zero_le _
  · exact take_left 1 s
/-- A message's parts, as they come. -/
def msgRaw (s : S) : Msg × S :=
  let k := wideS 1 s
  let f := wideS 1 k.2
  let t := wideS 1 f.2
  let n1 := numS t.2
  let n2 := numS n1.2
  let n3 := numS n2.2
  let n4 := numS n3.2
  let n5 := numS n4.2
  let y := flagS n5.2
  let c := countS 4 y.2
  let es := entsS c.1.toNat c.2
  let sn := cond (decide (k.1 = 7)) (snapS es.2) (Ent.zero, es.2)
  (⟨k.1, f.1, t.1, n1.1, n2.1, n3.1, n4.1, n5.1, y.1, es.1, sn.1.x, sn.1.y, sn.1.v⟩, sn.2)
def msgS (s : S) : Msg × S := if (msgRaw s).2.2 || !(msgRaw s).1.right then (Msg.zero, ([], true)) else msgRaw s
theorem leI {a : Nat} {M : Nat} {B : Int} (h : (a : Int) ≤ (M : Int)) (hb : (M : Int) ≤ B) : (a : Int) ≤ B := by omega
theorem leN {a M : Nat} (h : (a : Int) ≤ (M : Int)) : a ≤ M := by omega
theorem leK {a b : Nat} {M : Int} (h : a ≤ b) (hb : (b : Int) ≤ M) : (a : Int) ≤ M := by omega
def zeroM : List AV := [.int .i64 0, .int .i64 0, .int .i64 0, .int .i64 0, .int .i64 0, .int .i64 0, .int .i64 0, .int .i64 0, .bool false, .sl true 3 [], .int .i64 0, .int .i64 0, .sl true 1 []]
def boxM (a1 a2 a3 a4 a5 a6 a7 a8 : Int) (y : Bool) (l : List AV) : List AV := [.int .i64 a1, .int .i64 a2, .int .i64 a3, .int .i64 a4, .int .i64 a5, .int .i64 a6, .int .i64 a7, .int .i64 a8, .bool y, .sl true 3 l, .int .i64 0, .int .i64 0, .sl true 1 []]
theorem get_ok : codeOk Try.f15.ntmps (wTr (wRt (Cj [9, 17] [8, 13, 11, 10, 32, 36, 24, 31, 69, 37, 33, 65, 66, 30, 29, 28, 27, 12, 34, 63, 35, 64, 26] std V5.q V5.b) [(36, 3), (42, 3)]) [37, 41]) (Try.f15.body.getD .skip) = true := by kernel_rfl
theorem get_c (s : S) (hs : (s.1.length : Int) ≤ 9223372036854775807) : VCalls Try.prog 15 [.ref 0 0] (stS s) (fun r st' => r = (msgS s).1.av ∧ st' = stS (msgS s).2) := by
  have c1 := byte_c s
  have l1 : (wideS 1 s).2.1.length ≤ s.1.length := take_left 1 s
  have b1 := wide_bound (n := 1) (k := 1) (by decide) (by decide) s
  rcases hw1 : wideS 1 s with ⟨k, s1⟩
  rw [hw1] at c1 l1 b1
  dsimp only at c1 l1 b1
  have c2 := byte_c s1
  have l2 : (wideS 1 s1).2.1.length ≤ s1.1.length := take_left 1 s1
  have b2 := wide_bound (n := 1) (k := 1) (by decide) (by decide) s1
  rcases hw2 : wideS 1 s1 with ⟨f, s2⟩
  rw [hw2] at c2 l2 b2
  dsimp only at c2 l2 b2
  have c3 := byte_c s2
  have l3 : (wideS 1 s2).2.1.length ≤ s2.1.length := take_left 1 s2
  have b3 := wide_bound (n := 1) (k := 1) (by decide) (by decide) s2
  rcases hw3 : wideS 1 s2 with ⟨t, s3⟩
  rw [hw3] at c3 l3 b3
  dsimp only at c3 l3 b3
  have c4 := num_c s3
  have l4 : (numS s3).2.1.length ≤ s3.1.length := num_left s3
  rcases hw4 : numS s3 with ⟨n1, s4⟩
  rw [hw4] at c4 l4
  dsimp only at c4 l4
  have c5 := num_c s4
  have l5 : (numS s4).2.1.length ≤ s4.1.length := num_left s4
  rcases hw5 : numS s4 with ⟨n2, s5⟩
  rw [hw5] at c5 l5
  dsimp only at c5 l5
  have c6 := num_c s5
  have l6 : (numS s5).2.1.length ≤ s5.1.length := num_left s5
  rcases hw6 : numS s5 with ⟨n3, s6⟩
  rw [hw6] at c6 l6
  dsimp only at c6 l6
  have c7 := num_c s6
  have l7 : (numS s6).2.1.length ≤ s6.1.length := num_left s6
  rcases hw7 : numS s6 with ⟨n4, s7⟩
  rw [hw7] at c7 l7
  dsimp only at c7 l7
  have c8 := num_c s7
  have l8 : (numS s7).2.1.length ≤ s7.1.length := num_left s7
  rcases hw8 : numS s7 with ⟨n5, s8⟩
  rw [hw8] at c8 l8
  dsimp only at c8 l8
  have c9 := flag_c s8
  have l9 : (flagS s8).2.1.length ≤ s8.1.length := flag_left s8
  rcases hw9 : flagS s8 with ⟨y, s9⟩
  rw [hw9] at c9 l9
  dsimp only at c9 l9
  have c10 := count_c 4 (by decide) (by decide) s9 (by have := take_left 4 s9; unfold wideS; dsimp only; omega)
  have r10 := count_range 4 (by decide) s9
  have l10 := count_left 4 s9
  rcases hw10 : countS 4 s9 with ⟨cn, s10⟩
  rw [hw10] at c10 r10 l10
  dsimp only at c10 r10 l10
  obtain ⟨N, rfl⟩ := Int.eq_ofNat_of_zero_le r10.1
  have l11 := ents_left N s10
  have hmr : msgRaw s = (⟨k, f, t, n1, n2, n3, n4, n5, y, (entsS N s10).1, (cond (decide (k = 7)) (snapS (entsS N s10).2) (Ent.zero, (entsS N s10).2)).1.x, (cond (decide (k = 7)) (snapS (entsS N s10).2) (Ent.zero, (entsS N s10).2)).1.y, (cond (decide (k = 7)) (snapS (entsS N s10).2) (Ent.zero, (entsS N s10).2)).1.v⟩, (cond (decide (k = 7)) (snapS (entsS N s10).2) (Ent.zero, (entsS N s10).2)).2) := by
    unfold msgRaw
    simp only [hw1, hw2, hw3, hw4, hw5, hw6, hw7, hw8, hw9, hw10]
    rfl
  generalize hms : msgS s = ms
  have e1 := wrap_i64 (n := k) (by omega) (by omega)
  have e2 := wrap_i64 (n := f) (by omega) (by omega)
  have e3 := wrap_i64 (n := t) (by omega) (by omega)
  have hent := entGet_c
  have hsnap := snapGet_c
  have hbadg := bad_c
  have hfailg := fail_c
  have q10 : V5.q 10 [(msgRaw s).1.av] := ⟨(msgRaw s).1, by rw [hmr]; dsimp only; rw [ents_len]; omega, rfl⟩
  have b10 : V5.b 10 [(msgRaw s).1.av] = (msgRaw s).1.right := by
    show (msgOf _).right = _
    rw [msgOf_av]
  refine VCalls.use (ok_tr (ok_rt ok7 [(36, 3), (42, 3)]) [37, 41]) Try.func15 rfl (by rfl) (Nat.le_of_ble_eq_true rfl) get_ok fun R hR => ?_
  have okX := ok_tr (ok_rt ok7 [(36, 3), (42, 3)]) [37, 41]
  generalize stS s = st0 at *
  generalize stS s1 = st1 at *
  generalize stS s2 = st2 at *
  generalize stS s3 = st3 at *
  generalize stS s4 = st4 at *
  generalize stS s5 = st5 at *
  generalize stS s6 = st6 at *
  generalize stS s7 = st7 at *
  generalize stS s8 = st8 at *
  generalize stS s9 = st9 at *
  generalize hs10 : stS s10 = st10 at *
  generalize Try.prog = P at *
  generalize hX : std = X at *
  refine ops_use hX fun vv xlt xieq xseq xslt xar xconv xnot xpick xbeq xeqc xlen xslen xget xsget xsub xssub xapp xcat xtoB xofB xrep xrepc xchunks xmx xmn hY arX => ?_
  clear hX
  subst hY
  generalize hVV : V5.b = VV at *
  refine vl_use vv VV fun V hV => ?_
  clear hVV
  subst hV
  generalize V5.q = Q at *
  replace e1 := (arX.convE .i64 k).trans e1
  replace e2 := (arX.convE .i64 f).trans e2
  replace e3 := (arX.convE .i64 t).trans e3
  cbv
  refine c1.mono ?_
  rintro r st' ⟨rfl, rfl⟩
  cbv
  refine c2.mono ?_
  rintro r st' ⟨rfl, rfl⟩
  cbv
  refine c3.mono ?_
  rintro r st' ⟨rfl, rfl⟩
  cbv
  refine c4.mono ?_
  rintro r st' ⟨rfl, rfl⟩
  cbv
  refine c5.mono ?_
  rintro r st' ⟨rfl, rfl⟩
  cbv
  refine c6.mono ?_
  rintro r st' ⟨rfl, rfl⟩
  cbv
  refine c7.mono ?_
  rintro r st' ⟨rfl, rfl⟩
  cbv
  refine c8.mono ?_
  rintro r st' ⟨rfl, rfl⟩
  cbv
  refine c9.mono ?_
  rintro r st' ⟨rfl, rfl⟩
  cbv
  refine c10.mono ?_
  rintro r st' ⟨rfl, rfl⟩
  cbv
  refine wp_forS okX (by kernel_rfl) N (fun j (p : List Ent × S) => p.1.length = j ∧ entsS N s10 = (p.1 ++ (entsS (N - j) p.2).1, (entsS (N - j) p.2).2) ∧ p.2.1.length ≤ s10.1.length)
    (fun j _ => [(0, .ref 0 0), (2, .lp 2 0), (3, .lp 3 0), (33, .int .i64 (N : Int)), (34, .int .i64 (j : Int))])
    (fun _ p => [(2, zeroM), (3, boxM (vl vv xconv .i64 k) (vl vv xconv .i64 f) (vl vv xconv .i64 t) n1 n2 n3 n4 n5 y (p.1.map Ent.av))])
    (fun _ p => stS p.2) ([], s10) hs10.symm ⟨rfl, by rw [Nat.sub_zero, List.nil_append], Nat.le_refl _⟩ (fun _ _ => rfl) ⟨rfl, rfl, rfl, rfl, rfl, trivial⟩ ⟨rfl, rfl, trivial⟩ ?_
  rintro j ⟨A, sj⟩ hj ⟨hA, hpre, hle⟩ K hK hKx
  replace hA : A.length = j := hA
  have ce := hent sj (leK (Nat.le_trans hle (by omega)) hs)
  have hlA := arX.lenf Ent.av A
  generalize hjj : (j : Int) = kj at *
  unfold zeroM boxM
  dsimp only
  generalize hsj : stS sj = stj at *
  generalize hsj2 : stS (entS sj).2 = stj2 at *
  generalize hAm : A.map Ent.av = mas at *
  cbv
  refine tst (fun h3 => ?_) (fun h3 => ?_)
  · have hjl := arX.inK hjj rfl h3
    have hle2 := ent_left sj
    have hp2 : entsS N s10 = ((A ++ [(entS sj).1]) ++ (entsS (N - (j + 1)) (entS sj).2).1, (entsS (N - (j + 1)) (entS sj).2).2) := by
      rw [hpre, show N - j = (N - (j + 1)) + 1 by omega]
      show (A ++ ((entS sj).1 :: (entsS (N - (j + 1)) (entS sj).2).1), _) = _
      rw [List.append_assoc]
      rfl
    generalize (entS sj).1 = ev at *
    generalize (entS sj).2 = sj2 at *
    have hAm2 : (A ++ [ev]).map Ent.av = mas ++ [ev.av] := by rw [List.map_append, hAm]; rfl
    have hA2 : (A ++ [ev]).length = j + 1 := by rw [List.length_append, hA]; rfl
    generalize hA3 : A ++ [ev] = A2 at *
    obtain ⟨v1, v2, v3⟩ := ev
    unfold Ent.av at ce hAm2
    dsimp only at ce hAm2
    generalize bs v3 = vs at *
    cbv
    refine ce.mono ?_
    rintro r st' ⟨rfl, rfl⟩
    cbv
    have hN4 : (N : Int) ≤ 9223372036854775807 := leI (M := 4) r10.2 (by decide)
    refine ⟨fun _ => appOkK (N := A.length) (M := 1) hlA (arX.lenE _) (by have := leN (M := 4) r10.2; omega), ?_⟩
    exact hK (A2, sj2) _ _ _ hjl ⟨hA2, hp2, Nat.le_trans hle2 hle⟩ ⟨rfl, rfl, rfl, rfl, congrArg (AV.int .i64) (arX.sucK hjj hN4 hjl), trivial⟩
      ⟨rfl, congrArg (fun l => some (boxM (vl vv xconv .i64 k) (vl vv xconv .i64 f) (vl vv xconv .i64 t) n1 n2 n3 n4 n5 y l)) ((arX.appE _ _).trans hAm2.symm), trivial⟩ hsj2.symm
  · have hje := arX.outK hjj rfl h3 hj
    have hfin : entsS N s10 = (A, sj) := by
      rw [hpre, hje, Nat.sub_self]
      show (A ++ [], sj) = _
      rw [List.append_nil]
    rw [hfin] at hmr
    clear hpre
    cbv
    refine hKx (.exit 0) _ _ _ (by simp) ?_
    cbv
    have ed : vl vv xieq (vl vv xconv .i64 k) 7 = decide (k = 7) := (arX.ieq _ _).trans (congrArg (fun z : Int => decide (z = 7)) e1)
    generalize hsn : cond (decide (k = 7)) (snapS sj) (Ent.zero, sj) = sn at hmr
    have q10' := q10
    rw [hmr] at q10 b10
    unfold msgS at hms
    rw [hmr] at hms
    dsimp only at hms
    refine tst (fun h4 => ?_) (fun h4 => ?_)
    · have hk7 : decide (k = 7) = true := ed.symm.trans h4
      rw [hk7] at hsn
      have cs := hsnap sj (leK (Nat.le_trans hle (by omega)) hs)
      rw [show snapS sj = sn from hsn, hsj] at cs
      obtain ⟨⟨g1, g2, g3⟩, s12⟩ := sn
      dsimp only at cs q10 b10 hms
      have cb := hbadg s12
      have cf := hfailg s12
      generalize hs12 : stS s12 = st12 at *
      generalize hrt : Msg.right _ = rt at hms b10
      unfold Msg.av at q10 b10
      unfold Ent.av at cs
      dsimp only at q10 b10 cs
      generalize hgs : bs g3 = gs at *
      rw [hAm] at q10 b10
      cbv
      refine cs.mono ?_
      rintro r st' ⟨rfl, rfl⟩
      cbv
      refine cb.mono ?_
      rintro r st' ⟨rfl, rfl⟩
      cbv
      simp only [e1, e2, e3]
      refine ⟨fun _ => q10, ?_⟩
      refine tst (fun h5 => ?_) (fun h5 => ?_)
      · cbv
        refine cf.mono ?_
        rintro r st' ⟨rfl, rfl⟩
        cbv
        simp only [arX.por, arX.not, b10] at h5
        rw [if_pos h5] at hms
        subst hms
        exact hR _ _ ⟨rfl, rfl⟩
      · cbv
        simp only [arX.por, arX.not, b10] at h5
        rw [if_neg (by rw [h5]; decide)] at hms
        subst hms
        subst hAm
        subst hgs
        exact hR _ _ ⟨rfl, hs12.symm⟩
    · have hk7 : decide (k = 7) = false := ed.symm.trans h4
      rw [hk7] at hsn
      obtain rfl : (Ent.zero, sj) = sn := hsn
      dsimp only at q10 b10 hms
      have cb := hbadg sj
      have cf := hfailg sj
      rw [hsj] at cb cf
      generalize hrt : Msg.right _ = rt at hms b10
      unfold Msg.av Ent.zero at q10 b10
      unfold Ent.zero at hms
      dsimp only at q10 b10 hms
      rw [hAm] at q10 b10
      rw [show bs [] = [] from rfl] at q10 b10
      cbv
      refine cb.mono ?_
      rintro r st' ⟨rfl, rfl⟩
      cbv
      simp only [e1, e2, e3]
      refine ⟨fun _ => q10, ?_⟩
      refine tst (fun h5 => ?_) (fun h5 => ?_)
      · cbv
        refine cf.mono ?_
        rintro r st' ⟨rfl, rfl⟩
        cbv
        simp only [arX.por, arX.not, b10] at h5
        rw [if_pos h5] at hms
        subst hms
        exact hR _ _ ⟨rfl, rfl⟩
      · cbv
        simp only [arX.por, arX.not, b10] at h5
        rw [if_neg (by rw [h5]; decide)] at hms
        subst hms
        subst hAm
        exact hR _ _ ⟨rfl, hsj.symm⟩
end Go.V

/- U25: the reference's way of taking bytes apart. -/
namespace Go.V
open Go.Proofs
set_option maxRecDepth 100000
def sv (s : S) : AV := .agg [.sl false 1 (bs s.1), .bool s.2]
/-- What is bad has nothing left. -/
def San (s : S) : Prop := s.2 = true → s.1 = []
theorem san_fail : San ([], true) := fun _ => rfl
theorem san_take (n : Int) {s : S} (h : San s) : San (takeS n s).2 := by
  unfold takeS
  split
  · exact h
  · split
    · exact san_fail
    · intro hb; cases hb
theorem bytes79_ok : codeOk Try.f79.ntmps (wRt (Cj [9, 17] [8, 13, 11, 10, 32, 36, 24, 31, 69, 37, 33, 65, 66, 30, 29, 28, 27, 12, 34, 63, 35, 64, 26] std V5.q V5.b) [(16, 2), (20, 2)]) (Try.f79.body.getD .skip) = true := by kernel_rfl
theorem bytes79_c (n : Int) (hn : 0 ≤ n) (s : S) (hs : San s) (st : St) : VCalls Try.prog 79 [sv s, .int .i64 n] st (fun r st' => r = .tup [.sl false 1 (bs (takeS n s).1), sv (takeS n s).2] ∧ st' = st) := by
  obtain ⟨l, bad⟩ := s
  refine VCalls.use (ok_rt ok7 [(16, 2), (20, 2)]) Try.func79 rfl (by rfl) (Nat.le_of_ble_eq_true rfl) bytes79_ok fun R hR => ?_
  have hd : bs (l.drop n.toNat) = (bs l).drop n.toNat := by unfold bs; rw [List.map_drop]
  have ht : bs (l.take n.toNat) = (bs l).take n.toNat := by unfold bs; rw [List.map_take]
  have hvl : (bs l).length = l.length := by simp [bs]
  have hbad : bad = true → l = [] := hs
  unfold takeS at hR
  unfold sv at *
  dsimp only at *
  generalize Try.prog = P at *
  generalize hX : std = X at *
  refine ops_use hX fun vv xlt xieq xseq xslt xar xconv xnot xpick xbeq xeqc xlen xslen xget xsget xsub xssub xapp xcat xtoB xofB xrep xrepc xchunks xmx xmn hY arX => ?_
  clear hX
  subst hY
  generalize hVV : V5.b = VV at *
  refine vl_use vv VV fun V hV => ?_
  clear hVV
  subst hV
  generalize V5.q = Q at *
  have hl := arX.lenb l
  generalize bs l = vs at *
  cbv
  refine tst (fun h => ?_) (fun h => ?_)
  · cbv
    rw [arX.por, arX.lt, hl, Bool.or_eq_true, decide_eq_true_eq] at h
    cases bad
    · have h : (l.length : Int) < n := by
        rcases h with h | h
        · cases h
        · exact h
      rw [if_neg (by decide), if_pos h] at hR
      exact hR _ _ ⟨rfl, rfl⟩
    · rw [if_pos rfl, hbad rfl] at hR
      exact hR _ _ ⟨rfl, rfl⟩
  · cbv
    rw [arX.por, arX.lt, hl, Bool.or_eq_false_iff, decide_eq_false_iff_not] at h
    obtain ⟨rfl, h⟩ := h
    have h : ¬ (l.length : Int) < n := h
    rw [if_neg (by decide), if_neg h] at hR
    refine ⟨fun _ => ⟨by omega, by omega, by rw [hl]; exact Int.not_lt.1 h⟩, ⟨fun _ => ⟨hn, by rw [hl]; exact Int.not_lt.1 h, Int.le_refl _⟩, ?_⟩⟩
    refine hR _ _ ⟨?_, rfl⟩
    rw [hd, ht, arX.subE, arX.subE, hl, show ((l.length : Int)).toNat = vs.length by rw [hvl]; omega, List.take_length]
    rfl
theorem mul_add {v c : Int} (h0 : 0 ≤ v) (h1 : v < 72057594037927936) (h2 : 0 ≤ c) (h3 : c < 256) : arith .add .u64 (arith .mul .u64 v 256) c = v * 256 + c := by
  have e1 : arith .mul .u64 v 256 = v * 256 := wrap_u64 (by omega) (by omega)
  rw [e1]
  exact wrap_u64 (by omega) (by omega)
theorem number72_c (n : Int) (hn : 0 ≤ n) (hn8 : n ≤ 8) (s : S) (hs : San s) (st : St) : VCalls Try.prog 72 [sv s, .int .i64 n] st (fun r st' => r = .tup [.int .u64 (wideS n s).1, sv (wideS n s).2] ∧ st' = st) := by
  have ht := bytes79_c n hn s hs
  have hlen := take_len n hn s
  unfold wideS
  dsimp only
  generalize (takeS n s).1 = L at *
  generalize (takeS n s).2 = s2 at *
  refine VCalls.use ok7 Try.func72 rfl (by rfl) (Nat.le_of_ble_eq_true rfl) (by kernel_rfl) fun R hR => ?_
  have okX := ok7
  have hL8 : L.length ≤ 8 := by omega
  have hL : (L.length : Int) ≤ 9223372036854775807 := by omega
  have hA : ∀ (v : Int) (c : UInt8) (r : List UInt8), beA v (c :: r) = beA (v * 256 + (c.toNat : Int)) r := fun _ _ _ => rfl
  have hA0 : ∀ (v : Int), beA v [] = v := fun _ => rfl
  have hN : beN L = beA 0 L := rfl
  generalize beN L = mr at *
  generalize beA = fA at *
  unfold sv at *
  generalize bs s.1 = b1 at *
  generalize bs s2.1 = b2 at *
  generalize s.2 = d1 at *
  generalize s2.2 = d2 at *
  generalize Try.prog = P at *
  generalize hX : std = X at *
  refine ops_use hX fun vv xlt xieq xseq xslt xar xconv xnot xpick xbeq xeqc xlen xslen xget xsget xsub xssub xapp xcat xtoB xofB xrep xrepc xchunks xmx xmn hY arX => ?_
  clear hX
  subst hY
  generalize hVV : V5.b = VV at *
  refine vl_use vv VV fun V hV => ?_
  clear hVV
  subst hV
  generalize V5.q = Q at *
  have hl := arX.lenf u8 L
  have hg := fun (j : Nat) (a : UInt8) (h : L[j]? = some a) => arX.getf u8 h
  replace hl : vl vv xlen (bs L) = (L.length : Int) := hl
  replace hg : ∀ (j : Nat) (a : UInt8), L[j]? = some a → vl vv xget (bs L) (j : Int) = u8 a := hg
  generalize bs L = ls at *
  cbv
  refine (ht _).mono ?_
  rintro r st' ⟨rfl, rfl⟩
  cbv
  refine wp_for okX (by kernel_rfl) L.length (fun j (v : Int) => mr = fA v (L.drop j) ∧ 0 ≤ v ∧ v < 256 ^ j)
    (fun j v => [(5, .lp 5 0), (6, .sl false 1 ls), (7, .lp 7 0), (8, .int .u64 v), (17, .int .i64 (vl vv xlen ls)), (18, .int .i64 (j : Int))]) (fun _ _ => [(5, [.sl true 1 [], .bool false]), (7, [.sl false 1 b2, .bool d2])]) 0 ⟨hN, Int.le_refl _, by decide⟩ (fun _ _ => rfl) ⟨rfl, rfl, rfl, rfl, rfl, rfl, trivial⟩ ⟨rfl, rfl, trivial⟩ ?_
  rintro j v hj ⟨hpre, hv0, hv1⟩ K hK hKx
  generalize hjj : (j : Int) = k at *
  cbv
  refine tst (fun h3 => ?_) (fun h3 => ?_)
  · have hjl := arX.inK hjj hl h3
    obtain ⟨a, ha⟩ := getE rfl hjl
    have ga := hg j a ha
    rw [hjj] at ga
    have hd : L.drop j = a :: L.drop (j + 1) := by
      rw [List.drop_eq_getElem_cons hjl]
      congr 1
      rw [List.getElem?_eq_getElem hjl] at ha
      exact Option.some.inj ha
    rw [hd, hA] at hpre
    have hv7 : v < 72057594037927936 := by
      refine Int.lt_of_lt_of_le hv1 ?_
      exact Int.le_trans (pow256 (show j ≤ 7 by omega)) (by decide)
    have ha8 := a.toNat_lt
    cbv
    refine ⟨fun _ => inBK hjj hl hjl, ?_⟩
    simp only [ga]
    cbv
    have e1 := arX.convE .u64 (a.toNat : Int)
    refine hK (v * 256 + (a.toNat : Int)) _ _ hjl ⟨hpre, by omega, ?_⟩ ⟨rfl, rfl, rfl, ?_, rfl, congrArg (AV.int .i64) (arX.sucK hjj hL hjl), trivial⟩ ⟨rfl, rfl, trivial⟩
    · rw [Int.pow_succ]; omega
    · refine congrArg (AV.int .u64) ?_
      exact (arX.arE _ _ _ _).trans ((congr (congrArg (arith .add .u64) (arX.arE _ _ _ _)) (e1.trans (wrap_u64 (by omega) (by omega)))).trans (mul_add hv0 hv7 (by omega) (by omega)))
  · have hje := arX.outK hjj hl h3 hj
    cbv
    refine hKx (.exit 0) _ _ _ (by simp) ?_
    cbv
    refine hR _ _ ⟨?_, rfl⟩
    have : v = mr := by rw [hpre, hje, List.drop_length, hA0]
    subst this
    rfl
end Go.V

/- U26: the reference's bytes, numbers, flags, counts and texts. -/
namespace Go.V
open Go.Proofs
set_option maxRecDepth 100000
theorem byte46_c (s : S) (hs : San s) (st : St) : VCalls Try.prog 46 [sv s] st (fun r st' => r = .tup [.int .u8 (wideS 1 s).1, sv (wideS 1 s).2] ∧ st' = st) := by
  have hw := number72_c 1 (by decide) (by decide) s hs
  have hb := wide_bound (n := 1) (k := 1) (by decide) (by decide) s
  have hc := wrap_u8 hb.1 hb.2
  generalize (wideS 1 s).1 = v at *
  generalize (wideS 1 s).2 = s2 at *
  refine VCalls.use ok7 Try.func46 rfl (by rfl) (Nat.le_of_ble_eq_true rfl) (by kernel_rfl) fun R hR => ?_
  unfold sv at *
  generalize bs s.1 = b1 at *
  generalize bs s2.1 = b2 at *
  generalize s.2 = d1 at *
  generalize s2.2 = d2 at *
  generalize Try.prog = P at *
  generalize hX : std = X at *
  refine ops_use hX fun vv xlt xieq xseq xslt xar xconv xnot xpick xbeq xeqc xlen xslen xget xsget xsub xssub xapp xcat xtoB xofB xrep xrepc xchunks xmx xmn hY arX => ?_
  clear hX
  subst hY
  generalize hVV : V5.b = VV at *
  refine vl_use vv VV fun V hV => ?_
  clear hVV
  subst hV
  generalize V5.q = Q at *
  replace hc := (arX.convE .u8 v).trans hc
  cbv
  refine (hw _).mono ?_
  rintro r st' ⟨rfl, rfl⟩
  cbv
  exact hR _ _ ⟨congrArg (fun z => AV.tup [.int .u8 z, .agg [.sl false 1 b2, .bool d2]]) hc, rfl⟩
theorem num47_c (s : S) (hs : San s) (st : St) : VCalls Try.prog 47 [sv s] st (fun r st' => r = .tup [.int .i64 (numS s).1, sv (numS s).2] ∧ st' = st) := by
  have hw := number72_c 8 (by decide) (by decide) s hs
  unfold numS
  dsimp only
  generalize (wideS 8 s).1 = v at *
  generalize (wideS 8 s).2 = s2 at *
  refine VCalls.use ok7 Try.func47 rfl (by rfl) (Nat.le_of_ble_eq_true rfl) (by kernel_rfl) fun R hR => ?_
  unfold sv at *
  generalize bs s.1 = b1 at *
  generalize bs s2.1 = b2 at *
  generalize s.2 = d1 at *
  generalize s2.2 = d2 at *
  generalize Try.prog = P at *
  generalize hX : std = X at *
  refine ops_use hX fun vv xlt xieq xseq xslt xar xconv xnot xpick xbeq xeqc xlen xslen xget xsget xsub xssub xapp xcat xtoB xofB xrep xrepc xchunks xmx xmn hY arX => ?_
  clear hX
  subst hY
  generalize hVV : V5.b = VV at *
  refine vl_use vv VV fun V hV => ?_
  clear hVV
  subst hV
  generalize V5.q = Q at *
  have hc := arX.convE .i64 v
  generalize IntKind.wrap .i64 v = wv at *
  cbv
  refine (hw _).mono ?_
  rintro r st' ⟨rfl, rfl⟩
  cbv
  exact hR _ _ ⟨congrArg (fun z => AV.tup [.int .i64 z, .agg [.sl false 1 b2, .bool d2]]) hc, rfl⟩
theorem flag48_c (s : S) (hs : San s) (st : St) : VCalls Try.prog 48 [sv s] st (fun r st' => r = .tup [.bool (flagS s).1, sv (flagS s).2] ∧ st' = st) := by
  have hw := number72_c 1 (by decide) (by decide) s hs
  unfold flagS
  dsimp only
  generalize (wideS 1 s).1 = v at *
  generalize (wideS 1 s).2 = s2 at *
  generalize hr0 : (if 1 < v then (([], true) : S) else s2) = s3
  refine VCalls.use ok7 Try.func48 rfl (by rfl) (Nat.le_of_ble_eq_true rfl) (by kernel_rfl) fun R hR => ?_
  unfold sv at *
  generalize bs s.1 = b1 at *
  generalize hb2 : bs s2.1 = b2 at *
  generalize s.2 = d1 at *
  generalize hd2 : s2.2 = d2 at *
  generalize Try.prog = P at *
  generalize hX : std = X at *
  refine ops_use hX fun vv xlt xieq xseq xslt xar xconv xnot xpick xbeq xeqc xlen xslen xget xsget xsub xssub xapp xcat xtoB xofB xrep xrepc xchunks xmx xmn hY arX => ?_
  clear hX
  subst hY
  generalize hVV : V5.b = VV at *
  refine vl_use vv VV fun V hV => ?_
  clear hVV
  subst hV
  generalize V5.q = Q at *
  cbv
  refine (hw _).mono ?_
  rintro r st' ⟨rfl, rfl⟩
  cbv
  refine tst (fun h => ?_) (fun h => ?_)
  · cbv
    rw [arX.lt, decide_eq_true_eq] at h
    rw [if_pos h] at hr0
    subst hr0
    refine hR _ _ ⟨?_, rfl⟩
    rw [decide_eq_false (show ¬ v = 1 by omega)]
    rfl
  · cbv
    rw [arX.lt, decide_eq_false_iff_not] at h
    rw [if_neg h] at hr0
    subst hr0
    refine hR _ _ ⟨?_, rfl⟩
    rw [hb2, hd2, ← arX.ieq]
theorem count49_c (most : Int) (h0 : 0 ≤ most) (hm : most ≤ 9223372036854775807) (s : S) (hs : San s) (hl : ((wideS 4 s).2.1.length : Int) ≤ 9223372036854775807) (st : St) : VCalls Try.prog 49 [sv s, .int .i64 most] st (fun r st' => r = .tup [.int .i64 (countS most s).1, sv (countS most s).2] ∧ st' = st) := by
  have hw := number72_c 4 (by decide) (by decide) s hs
  have hb := wide_bound (n := 4) (k := 4) (by decide) (by decide) s
  unfold countS
  generalize wideS 4 s = ws at *
  obtain ⟨v, s2⟩ := ws
  dsimp only at *
  generalize hR0 : (if max most 0 < v ∨ (s2.1.length : Int) < v ∨ most < 0 then ((0, ([], true)) : Int × S) else (v, s2)) = rs
  have hv : v ≤ 9223372036854775807 := by omega
  have hmx : max most 0 = most := by omega
  refine VCalls.use (ok_rt ok7 [(23, 7)]) Try.func49 rfl (by rfl) (Nat.le_of_ble_eq_true rfl) (by kernel_rfl) fun R hR => ?_
  unfold sv at *
  generalize bs s.1 = b1 at *
  generalize s.2 = d1 at *
  generalize Try.prog = P at *
  generalize hX : std = X at *
  refine ops_use hX fun vv xlt xieq xseq xslt xar xconv xnot xpick xbeq xeqc xlen xslen xget xsget xsub xssub xapp xcat xtoB xofB xrep xrepc xchunks xmx xmn hY arX => ?_
  clear hX
  subst hY
  generalize hVV : V5.b = VV at *
  refine vl_use vv VV fun V hV => ?_
  clear hVV
  subst hV
  generalize V5.q = Q at *
  have hlen := arX.lenb s2.1
  generalize hlen2 : (s2.1.length : Int) = len at *
  have e1 := (arX.convE .u64 most).trans (wrap_u64 (n := most) (by omega) (by omega))
  have e2 := (arX.convE .u64 (vl vv xlen (bs s2.1))).trans ((congrArg (IntKind.wrap .u64) hlen).trans (wrap_u64 (n := len) (by omega) (by omega)))
  have e3 := (arX.convE .i64 v).trans (wrap_i64 (by omega) (by omega))
  generalize hb2 : bs s2.1 = b2 at *
  generalize hd2 : s2.2 = d2 at *
  have g1 : ∀ a b : Prop, [Decidable a] → [Decidable b] → (decide a || decide b) = decide (a ∨ b) := fun a b _ _ => (Bool.decide_or a b).symm
  cbv
  refine (hw _).mono ?_
  rintro r st' ⟨rfl, rfl⟩
  cbv
  refine tst (fun h => ?_) (fun h => ?_)
  · cbv
    simp only [arX.por, arX.lt, e1, e2, g1, decide_eq_true_eq] at h
    have hc : max most 0 < v ∨ len < v ∨ most < 0 := by omega
    rw [if_pos hc] at hR0
    subst hR0
    exact hR _ _ ⟨rfl, rfl⟩
  · cbv
    simp only [arX.por, arX.lt, e1, e2, g1, decide_eq_false_iff_not] at h
    have hc : ¬ (max most 0 < v ∨ len < v ∨ most < 0) := by omega
    rw [if_neg hc] at hR0
    subst hR0
    refine hR _ _ ⟨?_, rfl⟩
    rw [hb2, hd2]
    exact congrArg (fun z => AV.tup [.int .i64 z, .agg [.sl false 1 b2, .bool d2]]) e3
theorem san_wide (n : Int) {s : S} (h : San s) : San (wideS n s).2 := san_take n h
theorem san_num {s : S} (h : San s) : San (numS s).2 := san_take 8 h
theorem san_flag {s : S} (h : San s) : San (flagS s).2 := by
  unfold flagS
  dsimp only
  split
  · exact san_fail
  · exact san_take 1 h
theorem san_count (most : Int) {s : S} (h : San s) : San (countS most s).2 := by
  unfold countS
  split
  · exact san_fail
  · exact san_take 4 h
theorem san_bytes (most : Int) {s : S} (h : San s) : San (bytesS most s).2 := san_take _ (san_count most h)
theorem text80_c (most : Int) (h0 : 0 ≤ most) (hm : most ≤ 9223372036854775807) (s : S) (hs : San s) (hl : (s.1.length : Int) ≤ 9223372036854775807) (st : St) : VCalls Try.prog 80 [sv s, .int .i64 most] st (fun r st' => r = .tup [.str (bytesS most s).1, sv (bytesS most s).2] ∧ st' = st) := by
  have hc := count49_c most h0 hm s hs (leK (take_left 4 s) hl)
  have ht := bytes79_c (countS most s).1 (count_range most h0 s).1 (countS most s).2 (san_count most hs)
  unfold bytesS
  generalize (countS most s).1 = n at *
  generalize (countS most s).2 = s2 at *
  generalize hd : (takeS n s2).1 = d at *
  generalize (takeS n s2).2 = s3 at *
  refine VCalls.use ok7 Try.func80 rfl (by rfl) (Nat.le_of_ble_eq_true rfl) (by kernel_rfl) fun R hR => ?_
  have hu := bs_u8 d
  unfold sv at *
  generalize bs s.1 = b1 at *
  generalize s.2 = d1 at *
  generalize bs s2.1 = b2 at *
  generalize s2.2 = d2 at *
  generalize bs s3.1 = b3 at *
  generalize s3.2 = d3 at *
  generalize Try.prog = P at *
  generalize hX : std = X at *
  refine ops_use hX fun vv xlt xieq xseq xslt xar xconv xnot xpick xbeq xeqc xlen xslen xget xsget xsub xssub xapp xcat xtoB xofB xrep xrepc xchunks xmx xmn hY arX => ?_
  clear hX
  subst hY
  generalize hVV : V5.b = VV at *
  refine vl_use vv VV fun V hV => ?_
  clear hVV
  subst hV
  generalize V5.q = Q at *
  have ho := arX.ofb d
  generalize bs d = ds at *
  cbv
  refine (hc _).mono ?_
  rintro r st' ⟨rfl, rfl⟩
  cbv
  refine (ht _).mono ?_
  rintro r st' ⟨rfl, rfl⟩
  cbv
  refine ⟨fun _ => hu, hR _ _ ⟨?_, rfl⟩⟩
  exact congrArg (fun z => AV.tup [.str z, .agg [.sl false 1 b3, .bool d3]]) ho
theorem taken73_c (most : Int) (h0 : 0 ≤ most) (hm : most ≤ 9223372036854775807) (s : S) (hs : San s) (hl : (s.1.length : Int) ≤ 9223372036854775807) (st : St) : VCalls Try.prog 73 [sv s, .int .i64 most] st (fun r st' => r = .tup [.int .i64 (threeS most s).1.x, .int .i64 (threeS most s).1.y, .str (threeS most s).1.v, sv (threeS most s).2] ∧ st' = st) := by
  have h1 := num47_c s hs
  have h2 := num47_c (numS s).2 (san_num hs)
  have h3 := text80_c most h0 hm (numS (numS s).2).2 (san_num (san_num hs)) (leK (Nat.le_trans (num_left _) (num_left _)) hl)
  unfold threeS
  dsimp only
  generalize (numS s).1 = x at *
  generalize (numS s).2 = s1 at *
  generalize (numS s1).1 = y at *
  generalize (numS s1).2 = s2 at *
  generalize (bytesS most s2).1 = d at *
  generalize (bytesS most s2).2 = s3 at *
  refine VCalls.use ok7 Try.func73 rfl (by rfl) (Nat.le_of_ble_eq_true rfl) (by kernel_rfl) fun R hR => ?_
  unfold sv at *
  generalize bs s.1 = b0 at *
  generalize s.2 = d0 at *
  generalize bs s1.1 = b1 at *
  generalize s1.2 = d1 at *
  generalize bs s2.1 = b2 at *
  generalize s2.2 = d2 at *
  generalize bs s3.1 = b3 at *
  generalize s3.2 = d3 at *
  generalize Try.prog = P at *
  generalize hX : std = X at *
  refine ops_use hX fun vv xlt xieq xseq xslt xar xconv xnot xpick xbeq xeqc xlen xslen xget xsget xsub xssub xapp xcat xtoB xofB xrep xrepc xchunks xmx xmn hY arX => ?_
  clear hX
  subst hY
  generalize hVV : V5.b = VV at *
  refine vl_use vv VV fun V hV => ?_
  clear hVV
  subst hV
  generalize V5.q = Q at *
  cbv
  refine (h1 _).mono ?_
  rintro r st' ⟨rfl, rfl⟩
  cbv
  refine (h2 _).mono ?_
  rintro r st' ⟨rfl, rfl⟩
  cbv
  refine (h3 _).mono ?_
  rintro r st' ⟨rfl, rfl⟩
  cbv
  exact hR _ _ ⟨rfl, rfl⟩
end Go.V

/- U27: the reference's entries and snapshots out of bytes. -/
namespace Go.V
open Go.Proofs
set_option maxRecDepth 100000
theorem san_three (most : Int) {s : S} (h : San s) : San (threeS most s).2 := san_bytes most (san_num (san_num h))
theorem san_ent {s : S} (h : San s) : San (entS s).2 := by
  unfold entS
  split
  · exact san_fail
  · exact san_three _ h
theorem from50_ok : codeOk Try.f50.ntmps (wRt (Cj [9, 17] [8, 13, 11, 10, 32, 36, 24, 31, 69, 37, 33, 65, 66, 30, 29, 28, 27, 12, 34, 63, 35, 64, 26] std V5.q V5.b) []) (Try.f50.body.getD .skip) = true := by kernel_rfl
theorem from50_c (s : S) (hs : San s) (hl : (s.1.length : Int) ≤ 9223372036854775807) (st : St) : VCalls Try.prog 50 [sv s] st (fun r st' => r = .tup [(entS s).1.av, sv (entS s).2] ∧ st' = st) := by
  have ht := taken73_c 12000 (by decide) (by decide) s hs hl
  have q65 : V5.q 65 [(threeS 12000 s).1.av] := ⟨(threeS 12000 s).1, rfl⟩
  have b65 : V5.b 65 [(threeS 12000 s).1.av] = (threeS 12000 s).1.right := by
    show (entOf _).right = _
    rw [entOf_av]
  unfold entS
  generalize threeS 12000 s = tt at *
  obtain ⟨⟨x, y, d⟩, s3⟩ := tt
  dsimp only at *
  generalize hrt : Ent.right ⟨x, y, d⟩ = rt at *
  generalize hR0 : (if (s3.2 || !rt) = true then ((Ent.zero, ([], true)) : Ent × S) else (⟨x, y, d⟩, s3)) = rs
  refine VCalls.use ok7 Try.func50 rfl (by rfl) (Nat.le_of_ble_eq_true rfl) (by kernel_rfl) fun R hR => ?_
  unfold sv Ent.av at *
  dsimp only at *
  generalize bs s.1 = b0 at *
  generalize s.2 = d0 at *
  generalize hb3 : bs s3.1 = b3 at *
  generalize hd3 : s3.2 = d3 at *
  generalize Try.prog = P at *
  generalize hX : std = X at *
  refine ops_use hX fun vv xlt xieq xseq xslt xar xconv xnot xpick xbeq xeqc xlen xslen xget xsget xsub xssub xapp xcat xtoB xofB xrep xrepc xchunks xmx xmn hY arX => ?_
  clear hX
  subst hY
  generalize hVV : V5.b = VV at *
  refine vl_use vv VV fun V hV => ?_
  clear hVV
  subst hV
  generalize V5.q = Q at *
  have hto := arX.toBE d
  generalize hds : bs d = ds at *
  cbv
  refine (ht _).mono ?_
  rintro r st' ⟨rfl, rfl⟩
  cbv
  simp only [hto]
  refine ⟨fun _ => q65, ?_⟩
  refine tst (fun h => ?_) (fun h => ?_)
  · cbv
    simp only [arX.por, arX.not, b65] at h
    rw [if_pos h] at hR0
    subst hR0
    exact hR _ _ ⟨rfl, rfl⟩
  · cbv
    simp only [arX.por, arX.not, b65] at h
    rw [if_neg (by rw [h]; decide)] at hR0
    subst hR0
    subst hds hb3 hd3
    exact hR _ _ ⟨rfl, rfl⟩
theorem from51_c (s : S) (hs : San s) (hl : (s.1.length : Int) ≤ 9223372036854775807) (st : St) : VCalls Try.prog 51 [sv s] st (fun r st' => r = .tup [(snapS s).1.av, sv (snapS s).2] ∧ st' = st) := by
  have ht := taken73_c 50000 (by decide) (by decide) s hs hl
  have q33 : V5.q 33 [(threeS 50000 s).1.av] := ⟨_, _, _, rfl⟩
  have b33 : V5.b 33 [(threeS 50000 s).1.av] = snapRight (threeS 50000 s).1.x (threeS 50000 s).1.y (threeS 50000 s).1.v.length := by
    show snapRight _ _ (bs _).length = _
    rw [show (bs (threeS 50000 s).1.v).length = (threeS 50000 s).1.v.length by simp [bs]]; rfl
  unfold snapS
  generalize threeS 50000 s = tt at *
  obtain ⟨⟨x, y, d⟩, s3⟩ := tt
  dsimp only at *
  generalize hrt : snapRight x y (d.length : Int) = rt at *
  generalize hR0 : (if (s3.2 || !rt) = true then ((Ent.zero, ([], true)) : Ent × S) else (⟨x, y, d⟩, s3)) = rs
  refine VCalls.use ok7 Try.func51 rfl (by rfl) (Nat.le_of_ble_eq_true rfl) (by kernel_rfl) fun R hR => ?_
  unfold sv Ent.av at *
  dsimp only at *
  generalize bs s.1 = b0 at *
  generalize s.2 = d0 at *
  generalize hb3 : bs s3.1 = b3 at *
  generalize hd3 : s3.2 = d3 at *
  generalize Try.prog = P at *
  generalize hX : std = X at *
  refine ops_use hX fun vv xlt xieq xseq xslt xar xconv xnot xpick xbeq xeqc xlen xslen xget xsget xsub xssub xapp xcat xtoB xofB xrep xrepc xchunks xmx xmn hY arX => ?_
  clear hX
  subst hY
  generalize hVV : V5.b = VV at *
  refine vl_use vv VV fun V hV => ?_
  clear hVV
  subst hV
  generalize V5.q = Q at *
  have hto := arX.toBE d
  generalize hds : bs d = ds at *
  cbv
  refine (ht _).mono ?_
  rintro r st' ⟨rfl, rfl⟩
  cbv
  simp only [hto]
  refine ⟨fun _ => q33, ?_⟩
  refine tst (fun h => ?_) (fun h => ?_)
  · cbv
    simp only [arX.por, arX.not, b33] at h
    rw [if_pos h] at hR0
    subst hR0
    exact hR _ _ ⟨rfl, rfl⟩
  · cbv
    simp only [arX.por, arX.not, b33] at h
    rw [if_neg (by rw [h]; decide)] at hR0
    subst hR0
    subst hds hb3 hd3
    exact hR _ _ ⟨rfl, rfl⟩
end Go.V

/- U28: the reference's message out of bytes. -/
namespace Go.V
open Go.Proofs
set_option maxRecDepth 100000
def svC (s : S) : List AV := [.sl false 1 (bs s.1), .bool s.2]
def T3 (k f t : Int) (s s1 s2 s3 : S) : Nat → (Int × Int × Int) × S
  | 0 => ((0, 0, 0), s)
  | 1 => ((k, 0, 0), s1)
  | 2 => ((k, f, 0), s2)
  | _ => ((k, f, t), s3)
def T5 (a b c d e : Int) (s0 s1 s2 s3 s4 s5 : S) : Nat → (Int × Int × Int × Int × Int) × S
  | 0 => ((0, 0, 0, 0, 0), s0)
  | 1 => ((a, 0, 0, 0, 0), s1)
  | 2 => ((a, b, 0, 0, 0), s2)
  | 3 => ((a, b, c, 0, 0), s3)
  | 4 => ((a, b, c, d, 0), s4)
  | _ => ((a, b, c, d, e), s5)
theorem from16_ok : codeOk Try.f16.ntmps (wTr (wRt (Cj [9, 17] [8, 13, 11, 10, 32, 36, 24, 31, 69, 37, 33, 65, 66, 30, 29, 28, 27, 12, 34, 63, 35, 64, 26] std V5.q V5.b) []) [75, 78]) (Try.f16.body.getD .skip) = true := by kernel_rfl
theorem from16_c (s : S) (hs : (s.1.length : Int) ≤ 9223372036854775807) (hsan : San s) (st : St) : VCalls Try.prog 16 [sv s] st (fun r st' => r = .tup [(msgS s).1.av, sv (msgS s).2] ∧ st' = st) := by
  have c1 := byte46_c s hsan
  have l1 : (wideS 1 s).2.1.length ≤ s.1.length := take_left 1 s
  have a1 := san_wide 1 hsan
  have b1 := wide_bound (n := 1) (k := 1) (by decide) (by decide) s
  rcases hw1 : wideS 1 s with ⟨k, s1⟩
  rw [hw1] at c1 l1 a1 b1
  dsimp only at c1 l1 a1 b1
  have c2 := byte46_c s1 a1
  have l2 : (wideS 1 s1).2.1.length ≤ s1.1.length := take_left 1 s1
  have a2 := san_wide 1 a1
  have b2 := wide_bound (n := 1) (k := 1) (by decide) (by decide) s1
  rcases hw2 : wideS 1 s1 with ⟨f, s2⟩
  rw [hw2] at c2 l2 a2 b2
  dsimp only at c2 l2 a2 b2
  have c3 := byte46_c s2 a2
  have l3 : (wideS 1 s2).2.1.length ≤ s2.1.length := take_left 1 s2
  have a3 := san_wide 1 a2
  have b3 := wide_bound (n := 1) (k := 1) (by decide) (by decide) s2
  rcases hw3 : wideS 1 s2 with ⟨t, s3⟩
  rw [hw3] at c3 l3 a3 b3
  dsimp only at c3 l3 a3 b3
  have c4 := num47_c s3 a3
  have l4 := num_left s3
  have a4 := san_num a3
  rcases hw4 : numS s3 with ⟨n1, s4⟩
  rw [hw4] at c4 l4 a4
  dsimp only at c4 l4 a4
  have c5 := num47_c s4 a4
  have l5 := num_left s4
  have a5 := san_num a4
  rcases hw5 : numS s4 with ⟨n2, s5⟩
  rw [hw5] at c5 l5 a5
  dsimp only at c5 l5 a5
  have c6 := num47_c s5 a5
  have l6 := num_left s5
  have a6 := san_num a5
  rcases hw6 : numS s5 with ⟨n3, s6⟩
  rw [hw6] at c6 l6 a6
  dsimp only at c6 l6 a6
  have c7 := num47_c s6 a6
  have l7 := num_left s6
  have a7 := san_num a6
  rcases hw7 : numS s6 with ⟨n4, s7⟩
  rw [hw7] at c7 l7 a7
  dsimp only at c7 l7 a7
  have c8 := num47_c s7 a7
  have l8 := num_left s7
  have a8 := san_num a7
  rcases hw8 : numS s7 with ⟨n5, s8⟩
  rw [hw8] at c8 l8 a8
  dsimp only at c8 l8 a8
  have c9 := flag48_c s8 a8
  have l9 := flag_left s8
  have a9 := san_flag a8
  rcases hw9 : flagS s8 with ⟨y, s9⟩
  rw [hw9] at c9 l9 a9
  dsimp only at c9 l9 a9
  have c10 := count49_c 4 (by decide) (by decide) s9 a9 (by have := take_left 4 s9; unfold wideS; dsimp only; omega)
  have r10 := count_range 4 (by decide) s9
  have l10 := count_left 4 s9
  have a10 := san_count 4 a9
  rcases hw10 : countS 4 s9 with ⟨cn, s10⟩
  rw [hw10] at c10 r10 l10 a10
  dsimp only at c10 r10 l10 a10
  obtain ⟨N, rfl⟩ := Int.eq_ofNat_of_zero_le r10.1
  have hmr : msgRaw s = (⟨k, f, t, n1, n2, n3, n4, n5, y, (entsS N s10).1, (cond (decide (k = 7)) (snapS (entsS N s10).2) (Ent.zero, (entsS N s10).2)).1.x, (cond (decide (k = 7)) (snapS (entsS N s10).2) (Ent.zero, (entsS N s10).2)).1.y, (cond (decide (k = 7)) (snapS (entsS N s10).2) (Ent.zero, (entsS N s10).2)).1.v⟩, (cond (decide (k = 7)) (snapS (entsS N s10).2) (Ent.zero, (entsS N s10).2)).2) := by
    unfold msgRaw
    simp only [hw1, hw2, hw3, hw4, hw5, hw6, hw7, hw8, hw9, hw10]
    rfl
  generalize hms : msgS s = ms
  have e1 := wrap_i64 (n := k) (by omega) (by omega)
  have e2 := wrap_i64 (n := f) (by omega) (by omega)
  have e3 := wrap_i64 (n := t) (by omega) (by omega)
  have hent := from50_c
  have hsnap := from51_c
  have q11 : V5.q 11 [(msgRaw s).1.av] := ⟨(msgRaw s).1, by rw [hmr]; dsimp only; rw [ents_len]; omega, rfl⟩
  have b11 : V5.b 11 [(msgRaw s).1.av] = (msgRaw s).1.right := by
    show (msgOf _).right = _
    rw [msgOf_av]
  have hs10 : (s10.1.length : Int) ≤ 9223372036854775807 := leK (by omega) hs
  clear hw1 hw2 hw3 hw4 hw5 hw6 hw7 hw8 hw9 hw10
  refine VCalls.use (ok_tr (ok_rt ok7 []) [75, 78]) Try.func16 rfl (by rfl) (Nat.le_of_ble_eq_true rfl) from16_ok fun R hR => ?_
  have okX := ok_tr (ok_rt ok7 []) [75, 78]
  generalize Try.prog = P at *
  generalize hX : std = X at *
  refine ops_use hX fun vv xlt xieq xseq xslt xar xconv xnot xpick xbeq xeqc xlen xslen xget xsget xsub xssub xapp xcat xtoB xofB xrep xrepc xchunks xmx xmn hY arX => ?_
  clear hX
  subst hY
  generalize hVV : V5.b = VV at *
  refine vl_use vv VV fun V hV => ?_
  clear hVV
  subst hV
  generalize V5.q = Q at *
  replace e1 := (arX.convE .i64 k).trans e1
  replace e2 := (arX.convE .i64 f).trans e2
  replace e3 := (arX.convE .i64 t).trans e3
  unfold sv at c1 c2 c3 c4 c5 c6 c7 c8 c9 c10 ⊢
  generalize hz0 : bs s.1 = z0 at *
  generalize hd0 : s.2 = d0 at *
  generalize hz1 : bs s1.1 = z1 at *
  generalize hd1 : s1.2 = d1 at *
  generalize hz2 : bs s2.1 = z2 at *
  generalize hd2 : s2.2 = d2 at *
  generalize hz3 : bs s3.1 = z3 at *
  generalize hd3 : s3.2 = d3 at *
  generalize hz4 : bs s4.1 = z4 at *
  generalize hd4 : s4.2 = d4 at *
  generalize hz5 : bs s5.1 = z5 at *
  generalize hd5 : s5.2 = d5 at *
  generalize hz6 : bs s6.1 = z6 at *
  generalize hd6 : s6.2 = d6 at *
  generalize hz7 : bs s7.1 = z7 at *
  generalize hd7 : s7.2 = d7 at *
  generalize hz8 : bs s8.1 = z8 at *
  generalize hd8 : s8.2 = d8 at *
  generalize hz9 : bs s9.1 = z9 at *
  generalize hd9 : s9.2 = d9 at *
  generalize hz10 : bs s10.1 = z10 at *
  generalize hd10 : s10.2 = d10 at *
  cbv
  refine wp_for okX (by kernel_rfl) 3 (fun j (p : (Int × Int × Int) × (List AV × Bool)) => (j = 0 → p = ((0, 0, 0), z0, d0)) ∧ (j = 1 → p = ((k, 0, 0), z1, d1)) ∧ (j = 2 → p = ((k, f, 0), z2, d2)) ∧ (j = 3 → p = ((k, f, t), z3, d3)))
    (fun j _ => [(1, .lp 1 0), (2, .lp 2 0), (3, .lp 3 0), (4, .lp 4 0), (12, .int .i64 (j : Int))])
    (fun _ p => [(1, [.sl false 1 p.2.1, .bool p.2.2]), (2, zeroM), (3, [.sl true 1 [], .bool false]), (4, [.int .u8 p.1.1, .int .u8 p.1.2.1, .int .u8 p.1.2.2])]) ((0, 0, 0), z0, d0)
    ⟨fun _ => rfl, fun h => absurd h (by decide), fun h => absurd h (by decide), fun h => absurd h (by decide)⟩ (fun _ _ => rfl) ⟨rfl, rfl, rfl, rfl, rfl, trivial⟩ ⟨rfl, rfl, rfl, rfl, trivial⟩ ?_
  rintro j p hj ⟨h0, h1, h2, h3⟩ K hK hKx
  have hjs : j = 0 ∨ j = 1 ∨ j = 2 ∨ j = 3 := by omega
  rcases hjs with rfl | rfl | rfl | rfl
  · obtain rfl := h0 rfl
    clear h0 h1 h2 h3
    unfold zeroM
    dsimp only
    cbv
    refine tstT (by rw [arX.lt]; rfl) ?_
    cbv
    refine (c1 _).mono ?_
    rintro r st' ⟨rfl, rfl⟩
    cbv
    refine ⟨fun _ => ⟨by decide, by decide⟩, ?_⟩
    exact hK ((k, 0, 0), z1, d1) _ _ (by decide) ⟨fun h => absurd h (by decide), fun _ => rfl, fun h => absurd h (by decide), fun h => absurd h (by decide)⟩ ⟨rfl, rfl, rfl, rfl, congrArg (AV.int .i64) (arX.sucK (j := 0) (N := 3) rfl (by decide) (by decide)), trivial⟩ ⟨rfl, rfl, rfl, rfl, trivial⟩
  · obtain rfl := h1 rfl
    clear h0 h1 h2 h3
    unfold zeroM
    dsimp only
    cbv
    refine tstT (by rw [arX.lt]; rfl) ?_
    cbv
    refine (c2 _).mono ?_
    rintro r st' ⟨rfl, rfl⟩
    cbv
    refine ⟨fun _ => ⟨by decide, by decide⟩, ?_⟩
    exact hK ((k, f, 0), z2, d2) _ _ (by decide) ⟨fun h => absurd h (by decide), fun h => absurd h (by decide), fun _ => rfl, fun h => absurd h (by decide)⟩ ⟨rfl, rfl, rfl, rfl, congrArg (AV.int .i64) (arX.sucK (j := 1) (N := 3) rfl (by decide) (by decide)), trivial⟩ ⟨rfl, rfl, rfl, rfl, trivial⟩
  · obtain rfl := h2 rfl
    clear h0 h1 h2 h3
    unfold zeroM
    dsimp only
    cbv
    refine tstT (by rw [arX.lt]; rfl) ?_
    cbv
    refine (c3 _).mono ?_
    rintro r st' ⟨rfl, rfl⟩
    cbv
    refine ⟨fun _ => ⟨by decide, by decide⟩, ?_⟩
    exact hK ((k, f, t), z3, d3) _ _ (by decide) ⟨fun h => absurd h (by decide), fun h => absurd h (by decide), fun h => absurd h (by decide), fun _ => rfl⟩ ⟨rfl, rfl, rfl, rfl, congrArg (AV.int .i64) (arX.sucK (j := 2) (N := 3) rfl (by decide) (by decide)), trivial⟩ ⟨rfl, rfl, rfl, rfl, trivial⟩
  · obtain rfl := h3 rfl
    clear h0 h1 h2 h3
    unfold zeroM
    dsimp only
    cbv
    refine tstF (by rw [arX.lt]; rfl) ?_
    cbv
    refine hKx (.exit 0) _ _ _ (by simp) ?_
    cbv
    refine wp_for okX (by kernel_rfl) 5 (fun j (p : (Int × Int × Int × Int × Int) × (List AV × Bool)) => (j = 0 → p = ((0, 0, 0, 0, 0), z3, d3)) ∧ (j = 1 → p = ((n1, 0, 0, 0, 0), z4, d4)) ∧ (j = 2 → p = ((n1, n2, 0, 0, 0), z5, d5)) ∧ (j = 3 → p = ((n1, n2, n3, 0, 0), z6, d6)) ∧ (j = 4 → p = ((n1, n2, n3, n4, 0), z7, d7)) ∧ (j = 5 → p = ((n1, n2, n3, n4, n5), z8, d8)))
      (fun j _ => [(1, .lp 1 0), (2, .lp 2 0), (3, .lp 3 0), (4, .lp 4 0), (6, .lp 6 0), (23, .int .i64 (j : Int))])
      (fun _ p => [(1, [.sl false 1 p.2.1, .bool p.2.2]), (2, zeroM), (3, [.sl true 1 [], .bool false]), (4, [.int .u8 k, .int .u8 f, .int .u8 t]), (6, [.int .i64 p.1.1, .int .i64 p.1.2.1, .int .i64 p.1.2.2.1, .int .i64 p.1.2.2.2.1, .int .i64 p.1.2.2.2.2])]) ((0, 0, 0, 0, 0), z3, d3)
      ⟨fun _ => rfl, fun h => absurd h (by decide), fun h => absurd h (by decide), fun h => absurd h (by decide), fun h => absurd h (by decide), fun h => absurd h (by decide)⟩ (fun _ _ => rfl) ⟨rfl, rfl, rfl, rfl, rfl, rfl, trivial⟩ ⟨rfl, rfl, rfl, rfl, rfl, trivial⟩ ?_
    rintro j p hj ⟨h0, h1, h2, h3, h4, h5⟩ K hK hKx
    have hjs : j = 0 ∨ j = 1 ∨ j = 2 ∨ j = 3 ∨ j = 4 ∨ j = 5 := by omega
    rcases hjs with rfl | rfl | rfl | rfl | rfl | rfl
    · obtain rfl := h0 rfl
      clear h0 h1 h2 h3 h4 h5
      unfold zeroM
      dsimp only
      cbv
      refine tstT (by rw [arX.lt]; rfl) ?_
      cbv
      refine (c4 _).mono ?_
      rintro r st' ⟨rfl, rfl⟩
      cbv
      refine ⟨fun _ => ⟨by decide, by decide⟩, ?_⟩
      exact hK ((n1, 0, 0, 0, 0), z4, d4) _ _ (by decide) ⟨fun h => absurd h (by decide), fun _ => rfl, fun h => absurd h (by decide), fun h => absurd h (by decide), fun h => absurd h (by decide), fun h => absurd h (by decide)⟩ ⟨rfl, rfl, rfl, rfl, rfl, congrArg (AV.int .i64) (arX.sucK (j := 0) (N := 5) rfl (by decide) (by decide)), trivial⟩ ⟨rfl, rfl, rfl, rfl, rfl, trivial⟩
    · obtain rfl := h1 rfl
      clear h0 h1 h2 h3 h4 h5
      unfold zeroM
      dsimp only
      cbv
      refine tstT (by rw [arX.lt]; rfl) ?_
      cbv
      refine (c5 _).mono ?_
      rintro r st' ⟨rfl, rfl⟩
      cbv
      refine ⟨fun _ => ⟨by decide, by decide⟩, ?_⟩
      exact hK ((n1, n2, 0, 0, 0), z5, d5) _ _ (by decide) ⟨fun h => absurd h (by decide), fun h => absurd h (by decide), fun _ => rfl, fun h => absurd h (by decide), fun h => absurd h (by decide), fun h => absurd h (by decide)⟩ ⟨rfl, rfl, rfl, rfl, rfl, congrArg (AV.int .i64) (arX.sucK (j := 1) (N := 5) rfl (by decide) (by decide)), trivial⟩ ⟨rfl, rfl, rfl, rfl, rfl, trivial⟩
    · obtain rfl := h2 rfl
      clear h0 h1 h2 h3 h4 h5
      unfold zeroM
      dsimp only
      cbv
      refine tstT (by rw [arX.lt]; rfl) ?_
      cbv
      refine (c6 _).mono ?_
      rintro r st' ⟨rfl, rfl⟩
      cbv
      refine ⟨fun _ => ⟨by decide, by decide⟩, ?_⟩
      exact hK ((n1, n2, n3, 0, 0), z6, d6) _ _ (by decide) ⟨fun h => absurd h (by decide), fun h => absurd h (by decide), fun h => absurd h (by decide), fun _ => rfl, fun h => absurd h (by decide), fun h => absurd h (by decide)⟩ ⟨rfl, rfl, rfl, rfl, rfl, congrArg (AV.int .i64) (arX.sucK (j := 2) (N := 5) rfl (by decide) (by decide)), trivial⟩ ⟨rfl, rfl, rfl, rfl, rfl, trivial⟩
    · obtain rfl := h3 rfl
      clear h0 h1 h2 h3 h4 h5
      unfold zeroM
      dsimp only
      cbv
      refine tstT (by rw [arX.lt]; rfl) ?_
      cbv
      refine (c7 _).mono ?_
      rintro r st' ⟨rfl, rfl⟩
      cbv
      refine ⟨fun _ => ⟨by decide, by decide⟩, ?_⟩
      exact hK ((n1, n2, n3, n4, 0), z7, d7) _ _ (by decide) ⟨fun h => absurd h (by decide), fun h => absurd h (by decide), fun h => absurd h (by decide), fun h => absurd h (by decide), fun _ => rfl, fun h => absurd h (by decide)⟩ ⟨rfl, rfl, rfl, rfl, rfl, congrArg (AV.int .i64) (arX.sucK (j := 3) (N := 5) rfl (by decide) (by decide)), trivial⟩ ⟨rfl, rfl, rfl, rfl, rfl, trivial⟩
    · obtain rfl := h4 rfl
      clear h0 h1 h2 h3 h4 h5
      unfold zeroM
      dsimp only
      cbv
      refine tstT (by rw [arX.lt]; rfl) ?_
      cbv
      refine (c8 _).mono ?_
      rintro r st' ⟨rfl, rfl⟩
      cbv
      refine ⟨fun _ => ⟨by decide, by decide⟩, ?_⟩
      exact hK ((n1, n2, n3, n4, n5), z8, d8) _ _ (by decide) ⟨fun h => absurd h (by decide), fun h => absurd h (by decide), fun h => absurd h (by decide), fun h => absurd h (by decide), fun h => absurd h (by decide), fun _ => rfl⟩ ⟨rfl, rfl, rfl, rfl, rfl, congrArg (AV.int .i64) (arX.sucK (j := 4) (N := 5) rfl (by decide) (by decide)), trivial⟩ ⟨rfl, rfl, rfl, rfl, rfl, trivial⟩
    · obtain rfl := h5 rfl
      clear h0 h1 h2 h3 h4 h5
      unfold zeroM
      dsimp only
      cbv
      refine tstF (by rw [arX.lt]; rfl) ?_
      cbv
      refine hKx (.exit 2) _ _ _ (by simp) ?_
      cbv
      refine (c9 _).mono ?_
      rintro r st' ⟨rfl, rfl⟩
      cbv
      refine (c10 _).mono ?_
      rintro r st' ⟨rfl, rfl⟩
      cbv
      refine ⟨fun _ => ⟨by decide, by decide⟩, ⟨fun _ => ⟨by decide, by decide⟩, ⟨fun _ => ⟨by decide, by decide⟩, ⟨fun _ => ⟨by decide, by decide⟩, ⟨fun _ => ⟨by decide, by decide⟩, ⟨fun _ => ⟨by decide, by decide⟩, ⟨fun _ => ⟨by decide, by decide⟩, ⟨fun _ => ⟨by decide, by decide⟩, ?_⟩⟩⟩⟩⟩⟩⟩⟩
      refine wp_for okX (by kernel_rfl) N (fun j (p : List Ent × S) => p.1.length = j ∧ entsS N s10 = (p.1 ++ (entsS (N - j) p.2).1, (entsS (N - j) p.2).2) ∧ p.2.1.length ≤ s10.1.length ∧ San p.2)
        (fun j _ => [(1, .lp 1 0), (2, .lp 2 0), (3, .lp 3 0), (10, .lp 10 0), (65, .int .i64 (N : Int)), (66, .int .i64 (j : Int))])
        (fun _ p => [(1, [.sl false 1 (bs p.2.1), .bool p.2.2]), (2, zeroM), (3, [.sl true 1 [], .bool false]), (10, boxM (vl vv xconv .i64 k) (vl vv xconv .i64 f) (vl vv xconv .i64 t) n1 n2 n3 n4 n5 y (p.1.map Ent.av))])
        ([], s10) ⟨rfl, by rw [Nat.sub_zero, List.nil_append], Nat.le_refl _, a10⟩ (fun _ _ => rfl) ?_ ?_ ?_
      · exact ⟨rfl, rfl, rfl, rfl, rfl, rfl, trivial⟩
      · refine ⟨?_, rfl, rfl, rfl, trivial⟩
        show _ = some [AV.sl false 1 (bs s10.1), AV.bool s10.2]
        rw [hz10, hd10]
        rfl
      rintro j ⟨A, sj⟩ hj ⟨hA, hpre, hle, hsa⟩ K hK hKx
      replace hA : A.length = j := hA
      replace hsa : San sj := hsa
      have ce := hent sj hsa (leK hle hs10)
      have hlA := arX.lenf Ent.av A
      generalize hjj : (j : Int) = kj at *
      unfold zeroM boxM
      dsimp only
      unfold sv at ce
      generalize hbj : bs sj.1 = bj at *
      generalize hdj : sj.2 = dj at *
      generalize hAm : A.map Ent.av = mas at *
      cbv
      refine tst (fun h3 => ?_) (fun h3 => ?_)
      · have hjl := arX.inK hjj rfl h3
        have hle2 := ent_left sj
        have hsa2 := san_ent hsa
        have hp2 : entsS N s10 = ((A ++ [(entS sj).1]) ++ (entsS (N - (j + 1)) (entS sj).2).1, (entsS (N - (j + 1)) (entS sj).2).2) := by
          rw [hpre, show N - j = (N - (j + 1)) + 1 by omega]
          show (A ++ ((entS sj).1 :: (entsS (N - (j + 1)) (entS sj).2).1), _) = _
          rw [List.append_assoc]
          rfl
        generalize (entS sj).1 = ev at *
        generalize (entS sj).2 = sj2 at *
        have hAm2 : (A ++ [ev]).map Ent.av = mas ++ [ev.av] := by rw [List.map_append, hAm]; rfl
        have hA2 : (A ++ [ev]).length = j + 1 := by rw [List.length_append, hA]; rfl
        generalize hA3 : A ++ [ev] = A2 at *
        obtain ⟨v1, v2, v3⟩ := ev
        unfold Ent.av at ce hAm2
        dsimp only at ce hAm2
        generalize bs v3 = vs at *
        generalize hbj2 : bs sj2.1 = bj2 at *
        generalize hdj2 : sj2.2 = dj2 at *
        cbv
        refine (ce _).mono ?_
        rintro r st' ⟨rfl, rfl⟩
        cbv
        have hN4 : (N : Int) ≤ 9223372036854775807 := leI (M := 4) r10.2 (by decide)
        refine ⟨fun _ => appOkK (N := A.length) (M := 1) hlA (arX.lenE _) (by have := leN (M := 4) r10.2; omega), ?_⟩
        exact hK (A2, sj2) _ _ hjl ⟨hA2, hp2, Nat.le_trans hle2 hle, hsa2⟩ ⟨rfl, rfl, rfl, rfl, rfl, congrArg (AV.int .i64) (arX.sucK hjj hN4 hjl), trivial⟩
          ⟨congr (congrArg (fun a b => some [AV.sl false 1 a, AV.bool b]) hbj2.symm) hdj2.symm, rfl, rfl, congrArg (fun l => some (boxM (vl vv xconv .i64 k) (vl vv xconv .i64 f) (vl vv xconv .i64 t) n1 n2 n3 n4 n5 y l)) ((arX.appE _ _).trans hAm2.symm), trivial⟩
      · have hje := arX.outK hjj rfl h3 hj
        have hfin : entsS N s10 = (A, sj) := by
          rw [hpre, hje, Nat.sub_self]
          show (A ++ [], sj) = _
          rw [List.append_nil]
        rw [hfin] at hmr
        clear hpre
        cbv
        refine hKx (.exit 4) _ _ _ (by simp) ?_
        cbv
        have ed : vl vv xieq (vl vv xconv .i64 k) 7 = decide (k = 7) := (arX.ieq _ _).trans (congrArg (fun z : Int => decide (z = 7)) e1)
        generalize hsn : cond (decide (k = 7)) (snapS sj) (Ent.zero, sj) = sn at hmr
        rw [hmr] at q11 b11
        unfold msgS at hms
        rw [hmr] at hms
        dsimp only at hms
        refine tst (fun h4 => ?_) (fun h4 => ?_)
        · have hk7 : decide (k = 7) = true := ed.symm.trans h4
          rw [hk7] at hsn
          have cs := hsnap sj hsa (leK hle hs10)
          rw [show snapS sj = sn from hsn] at cs
          obtain ⟨⟨g1, g2, g3⟩, s12⟩ := sn
          dsimp only at cs q11 b11 hms
          unfold sv at cs
          rw [hbj, hdj] at cs
          generalize hz12 : bs s12.1 = z12 at *
          generalize hd12 : s12.2 = d12 at *
          generalize hrt : Msg.right _ = rt at hms b11
          unfold Msg.av at q11 b11
          unfold Ent.av at cs
          dsimp only at q11 b11 cs
          generalize hgs : bs g3 = gs at *
          rw [hAm] at q11 b11
          cbv
          refine (cs _).mono ?_
          rintro r st' ⟨rfl, rfl⟩
          cbv
          simp only [e1, e2, e3]
          refine ⟨fun _ => q11, ?_⟩
          refine tst (fun h5 => ?_) (fun h5 => ?_)
          · cbv
            simp only [arX.por, arX.not, b11] at h5
            rw [if_pos h5] at hms
            subst hms
            exact hR _ _ ⟨rfl, rfl⟩
          · cbv
            simp only [arX.por, arX.not, b11] at h5
            rw [if_neg (by rw [h5]; decide)] at hms
            subst hms hAm hgs hz12 hd12
            exact hR _ _ ⟨rfl, rfl⟩
        · have hk7 : decide (k = 7) = false := ed.symm.trans h4
          rw [hk7] at hsn
          obtain rfl : (Ent.zero, sj) = sn := hsn
          dsimp only at q11 b11 hms
          rw [hdj] at hms
          generalize hrt : Msg.right _ = rt at hms b11
          unfold Msg.av Ent.zero at q11 b11
          unfold Ent.zero at hms
          dsimp only at q11 b11 hms
          rw [hAm] at q11 b11
          rw [show bs [] = [] from rfl] at q11 b11
          cbv
          simp only [e1, e2, e3]
          refine ⟨fun _ => q11, ?_⟩
          refine tst (fun h5 => ?_) (fun h5 => ?_)
          · cbv
            simp only [arX.por, arX.not, b11] at h5
            rw [if_pos h5] at hms
            subst hms
            exact hR _ _ ⟨rfl, rfl⟩
          · cbv
            simp only [arX.por, arX.not, b11] at h5
            rw [if_neg (by rw [h5]; decide)] at hms
            subst hms hAm hbj hdj
            exact hR _ _ ⟨rfl, rfl⟩
end Go.V

/- U29: the contract of the law RmsgGets. -/
namespace Go.V
open Go.Proofs
set_option maxRecDepth 100000
def wHp (C : Cf) (l : List Nat) : Cf := { C with hp := memN l }
theorem ok_hp {C : Cf} (h : Ok Try.prog C) (l : List Nat) : Ok Try.prog (wHp C l) := { x := h.x, ti := h.ti, pf := h.pf, eq := h.eq, mixed := h.mixed }
theorem newIn_c (b : List UInt8) (hb : b.length ≤ 140737488355328) : VCalls Try.prog 14 [.sl false 1 (bs b)] [] (fun r st' => r = .ref 0 0 ∧ st' = stS (b, false)) := by
  have hc := clone_c b hb
  refine VCalls.use (ok_hp ok7 [6]) Try.func14 rfl (by rfl) (Nat.le_of_ble_eq_true rfl) (by kernel_rfl) fun R hR => ?_
  unfold stS at hR
  dsimp only at hR
  generalize bs b = vs at *
  generalize Try.prog = P at *
  generalize hX : std = X at *
  refine ops_use hX fun vv xlt xieq xseq xslt xar xconv xnot xpick xbeq xeqc xlen xslen xget xsget xsub xssub xapp xcat xtoB xofB xrep xrepc xchunks xmx xmn hY arX => ?_
  clear hX
  subst hY
  generalize hVV : V5.b = VV at *
  refine vl_use vv VV fun V hV => ?_
  clear hVV
  subst hV
  generalize V5.q = Q at *
  cbv
  refine (hc _).mono ?_
  rintro r st' ⟨rfl, rfl⟩
  cbv
  exact hR _ _ ⟨rfl, rfl⟩
theorem ents4 (s : S) : (((msgS s).1.ents.length : Nat) : Int) ≤ 9223372036854775807 := by
  unfold msgS
  split
  · decide
  · have h4 := count_range 4 (by decide) (flagS (numS (numS (numS (numS (numS (wideS 1 (wideS 1 (wideS 1 s).2).2).2).2).2).2).2).2).2
    have : (msgRaw s).1.ents.length = (countS 4 (flagS (numS (numS (numS (numS (numS (wideS 1 (wideS 1 (wideS 1 s).2).2).2).2).2).2).2).2).2).1.toNat := ents_len _ _
    rw [this]
    omega
theorem msgS_right (s : S) (h : (msgS s).2.2 = false) : (msgS s).1.right = true := by
  unfold msgS at h ⊢
  split at h
  · cases h
  · next hc =>
    rw [if_neg hc]
    cases hr : (msgRaw s).1.right
    · rw [hr] at hc; simp at hc
    · rfl
theorem law5_ok : codeOk Try.f5.ntmps (wRt (Cj [9, 17] [8, 13, 11, 10, 32, 36, 24, 31, 69, 37, 33, 65, 66, 30, 29, 28, 27, 12, 34, 63, 35, 64, 26] std V5.q V5.b) [(32, 6), (39, 6), (45, 6)]) (Try.f5.body.getD .skip) = true := by kernel_rfl
theorem law5_few (b : List UInt8) (hb : b.length ≤ 5000) : VCalls Try.prog 5 [.sl false 1 (bs b)] [] (fun r _ => r = .bool true) := by
  have haw := awake_c
  have hnew := newIn_c b (by omega)
  have hget := get_c (b, false) (by show (b.length : Int) ≤ _; omega)
  have hfrom := from16_c (b, false) (by show (b.length : Int) ≤ _; omega) (fun h => by cases h)
  have hbad := bad_c (msgS (b, false)).2
  have hleft := left_c (msgS (b, false)).2
  have h4 := ents4 (b, false)
  have hri := msgS_right (b, false)
  have q17 : V5.q 17 [(msgS (b, false)).1.av] := ⟨_, rfl⟩
  have q13 : V5.q 13 [(msgS (b, false)).1.av, (msgS (b, false)).1.av] := ⟨_, _, h4, rfl⟩
  have q10 : V5.q 10 [(msgS (b, false)).1.av] := ⟨_, h4, rfl⟩
  have b13 : V5.b 13 [(msgS (b, false)).1.av, (msgS (b, false)).1.av] = true := by
    show decide (_ = _) = true
    exact decide_eq_true rfl
  have b10 : V5.b 10 [(msgS (b, false)).1.av] = (msgS (b, false)).1.right := by
    show (msgOf _).right = _
    rw [msgOf_av]
  refine VCalls.use (ok_rt ok7 [(32, 6), (39, 6), (45, 6)]) Try.func5 rfl (by rfl) (Nat.le_of_ble_eq_true rfl) law5_ok fun R hR => ?_
  have hs0 : sv (b, false) = .agg [.sl false 1 (bs b), .bool false] := rfl
  rw [hs0] at hfrom
  generalize msgS (b, false) = mm at *
  obtain ⟨m, s2⟩ := mm
  dsimp only at *
  generalize m.right = rt at *
  obtain ⟨m1, m2, m3, m4, m5, m6, m7, m8, m9, mA, m11, m12, mV⟩ := m
  unfold sv Msg.av at *
  dsimp only at *
  generalize stS (b, false) = st1 at *
  generalize stS s2 = st2 at *
  generalize Try.prog = P at *
  generalize hX : std = X at *
  refine ops_use hX fun vv xlt xieq xseq xslt xar xconv xnot xpick xbeq xeqc xlen xslen xget xsget xsub xssub xapp xcat xtoB xofB xrep xrepc xchunks xmx xmn hY arX => ?_
  clear hX
  subst hY
  generalize hVV : V5.b = VV at *
  refine vl_use vv VV fun V hV => ?_
  clear hVV
  subst hV
  generalize V5.q = Q at *
  have hl := arX.lenb b
  have hl2 := arX.lenb s2.1
  generalize mA.map Ent.av = mas at *
  generalize bs mV = mvs at *
  generalize bs b = bb at *
  generalize bs s2.1 = b2 at *
  generalize (s2.1.length : Int) = len2 at *
  generalize s2.2 = d2 at *
  cbv
  refine (haw _).mono ?_
  rintro r st' ⟨rfl, rfl⟩
  cbv
  refine tst (fun h => ?_) (fun h => ?_)
  · cbv
    refine (haw _).mono ?_
    rintro r st' ⟨rfl, rfl⟩
    cbv
    exact hR _ _ rfl
  · cbv
    refine hnew.mono ?_
    rintro r st' ⟨rfl, rfl⟩
    cbv
    refine hget.mono ?_
    rintro r st' ⟨rfl, rfl⟩
    cbv
    refine (hfrom _).mono ?_
    rintro r st' ⟨rfl, rfl⟩
    cbv
    refine ⟨fun _ => q17, ⟨fun _ => q13, ?_⟩⟩
    refine tstT b13 ?_
    cbv
    refine hbad.mono ?_
    rintro r st' ⟨rfl, rfl⟩
    cbv
    refine tst (fun h2 => ?_) (fun h2 => ?_)
    · cbv
      refine hleft.mono ?_
      rintro r st' ⟨rfl, rfl⟩
      cbv
      refine ⟨fun _ => q10, hR _ _ ?_⟩
      simp only [arX.pand, arX.por, arX.beq, arX.ieq, b13, b10, hl2, beq_self_eq_true, decide_true, Bool.true_and]
      congr 1
      cases d2
      · rw [hri rfl]; rfl
      · rfl
    · exfalso
      rw [arX.pand, arX.beq, b13] at h2
      simp at h2
theorem law5_long (b : List UInt8) (hb : ¬ b.length ≤ 5000) : VCalls Try.prog 5 [.sl false 1 (bs b)] [] (fun r _ => r = .bool true) := by
  have haw := awake_c
  refine VCalls.use ok7 Try.func5 rfl (by rfl) (Nat.le_of_ble_eq_true rfl) (by kernel_rfl) fun R hR => ?_
  generalize Try.prog = P at *
  generalize hX : std = X at *
  refine ops_use hX fun vv xlt xieq xseq xslt xar xconv xnot xpick xbeq xeqc xlen xslen xget xsget xsub xssub xapp xcat xtoB xofB xrep xrepc xchunks xmx xmn hY arX => ?_
  clear hX
  subst hY
  generalize hVV : V5.b = VV at *
  refine vl_use vv VV fun V hV => ?_
  clear hVV
  subst hV
  generalize V5.q = Q at *
  have hl := arX.lenb b
  generalize hbl : (b.length : Int) = len at *
  generalize bs b = bb at *
  cbv
  refine (haw _).mono ?_
  rintro r st' ⟨rfl, rfl⟩
  cbv
  refine tst (fun h => ?_) (fun h => ?_)
  · cbv
    refine (haw _).mono ?_
    rintro r st' ⟨rfl, rfl⟩
    cbv
    exact hR _ _ rfl
  · exfalso
    rw [arX.por, arX.not, arX.lt, hl] at h
    have h : decide (5000 < len) = false := h
    have := of_decide_eq_false h
    have h2 : len = (b.length : Int) := hbl.symm
    omega
theorem law5_c (b : List UInt8) : VCalls Try.prog 5 [.sl false 1 (bs b)] [] (fun r _ => r = .bool true) := by
  by_cases hb : b.length ≤ 5000
  · exact law5_few b hb
  · exact law5_long b hb
end Go.V
