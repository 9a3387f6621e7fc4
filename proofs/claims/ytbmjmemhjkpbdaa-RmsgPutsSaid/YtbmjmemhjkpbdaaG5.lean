/- U30: putting numbers. -/
import Derived.Test.YtbmjmemhjkpbdaaG3
import Derived.Test.YtbmjmemhjkpbdaaG4
set_option linter.unusedVariables false
set_option linter.unusedSimpArgs false
namespace Go.V
open Go.Proofs
set_option maxRecDepth 100000
def byteAt (v : Int) (k : Nat) : UInt8 := UInt8.ofNat ((v / 256 ^ k) % 256).toNat
def beB : Nat → Int → List UInt8
  | 0, _ => []
  | n + 1, v => byteAt v n :: beB n v
theorem beB_len : ∀ (n : Nat) (v : Int), (beB n v).length = n
  | 0, _ => rfl
  | n + 1, v => by show (beB n v).length + 1 = n + 1; rw [beB_len n v]
def stO (l : List UInt8) : St := [some [.sl true 1 (bs l)]]
theorem shr_byte {v : Int} {k : Nat} (h0 : 0 ≤ v) (h1 : v < 18446744073709551616) (hk : k ≤ 7) : IntKind.wrap .u8 (arith .shr .u64 v (8 * (k : Int))) = ((byteAt v k).toNat : Int) := by
  have e1 : arith .shr .u64 v (8 * (k : Int)) = v / 256 ^ k := by
    show v.fdiv (2 ^ (min (8 * (k : Int)).toNat IntKind.u64.bits)) = _
    have hm : min (8 * (k : Int)).toNat IntKind.u64.bits = 8 * k := by
      have : IntKind.u64.bits = 64 := rfl
      omega
    rw [hm, Int.fdiv_eq_ediv_of_nonneg _ (by exact Int.le_of_lt (Int.pow_pos (by decide))), Int.pow_mul]
    rfl
  have hq : 0 ≤ v / 256 ^ k := Int.ediv_nonneg h0 (Int.le_of_lt (Int.pow_pos (by decide)))
  have e2 : (2 : Int) ^ IntKind.u8.bits = 256 := by decide
  have es : IntKind.u8.signed = false := rfl
  rw [e1]
  unfold IntKind.wrap
  rw [e2, es]
  show (if (false && decide ((v / 256 ^ k) % 256 ≥ _)) = true then _ else (v / 256 ^ k) % 256) = _
  rw [Bool.false_and, if_neg (by decide)]
  unfold byteAt
  have h2 := Int.emod_nonneg (v / 256 ^ k) (b := 256) (by decide)
  have h3 := Int.emod_lt_of_pos (v / 256 ^ k) (b := 256) (by decide)
  rw [UInt8.toNat_ofNat', Nat.mod_eq_of_lt (by omega)]
  omega
theorem kdown {n j : Nat} {k : Int} (hk : (n : Int) - 1 - (j : Int) = k) (hn : n ≤ 8) : (j < n → 0 ≤ k ∧ k = ((n - 1 - j : Nat) : Int) ∧ n - 1 - j ≤ 7) ∧ (0 ≤ k → j < n) ∧ (n : Int) - 1 - ((j + 1 : Nat) : Int) = k - 1 ∧ (k - 1 ≤ 9223372036854775807) ∧ (j ≤ n → -9223372036854775808 ≤ k - 1) := by omega
theorem mul8 {k : Int} (h0 : 0 ≤ k) (h1 : k ≤ 7) : arith .mul .i64 8 k = 8 * k := wrap_i64 (by omega) (by omega)
theorem wideO_ok : codeOk Try.f74.ntmps (wTr (wRt (Cj [9, 17] FS std V5.q V5.b) [(18, 0), (28, 0)]) [19, 26]) (Try.f74.body.getD .skip) = true := by kernel_rfl
theorem wideO_c (n : Nat) (hn : n ≤ 8) (v : Int) (h0 : 0 ≤ v) (h1 : v < 18446744073709551616) (l : List UInt8) (hl8 : l.length + 8 ≤ 140737488355328) : VCalls Try.prog 74 [.ref 0 0, .int .u64 v, .int .i64 (n : Int)] (stO l) (fun r st' => r = .tup [] ∧ st' = stO (l ++ beB n v)) := by
  have ok7' : Ok Try.prog (Cj [9, 17] FS std V5.q V5.b) := ok7
  refine VCalls.use (ok_tr (ok_rt ok7' [(18, 0), (28, 0)]) [19, 26]) Try.func74 rfl (by rfl) (Nat.le_of_ble_eq_true rfl) wideO_ok fun R hR => ?_
  have okX := ok_tr (ok_rt ok7' [(18, 0), (28, 0)]) [19, 26]
  have hB : ∀ (k : Nat), beB (k + 1) v = byteAt v k :: beB k v := fun _ => rfl
  have hB0 : beB 0 v = [] := rfl
  have hsh : ∀ k : Nat, k ≤ 7 → IntKind.wrap .u8 (arith .shr .u64 v (8 * (k : Int))) = ((byteAt v k).toNat : Int) := fun k hk => shr_byte h0 h1 hk
  have hbs : ∀ a b : List UInt8, bs (a ++ b) = bs a ++ bs b := fun a b => by unfold bs; rw [List.map_append]
  generalize hbe : beB n v = be at *
  generalize Try.prog = P at *
  generalize hX : std = X at *
  refine ops_use hX fun vv xlt xieq xseq xslt xar xconv xnot xpick xbeq xeqc xlen xslen xget xsget xsub xssub xapp xcat xtoB xofB xrep xrepc xchunks xmx xmn hY arX => ?_
  clear hX
  subst hY
  generalize hVV : V5.b = VV at *
  refine vl_use vv VV fun V hV => ?_
  clear hVV
  subst hV
  generalize V5.q = Q at *
  have hst0 : stO l = [some [.sl true 1 (bs l)]] := rfl
  generalize hs0 : stO l = st0 at *
  have hsub0 : vl vv xar .sub .i64 (n : Int) 1 = (n : Int) - 1 - ((0 : Nat) : Int) := (arX.subi (by omega) (by omega)).trans (by omega)
  cbv
  refine wp_forS okX (by kernel_rfl) n (fun j (L : List UInt8) => l ++ be = L ++ beB (n - j) v ∧ L.length ≤ l.length + j)
    (fun j _ => [(0, .ref 0 0), (1, .int .u64 v), (6, .int .i64 ((n : Int) - 1 - (j : Int)))]) (fun _ _ => []) (fun _ L => stO L) l hs0.symm
    ⟨by rw [← hbe, Nat.sub_zero], Nat.le_refl _⟩ (fun _ _ => rfl) ⟨rfl, rfl, congrArg (AV.int .i64) hsub0, trivial⟩ trivial ?_
  rintro j L hj ⟨hpre, hle⟩ K hK hKx
  have hst1 : stO L = [some [.sl true 1 (bs L)]] := rfl
  have hlL := arX.lenb L
  generalize hkk : (n : Int) - 1 - (j : Int) = k
  have hkd := kdown hkk hn
  rw [hst1]
  generalize hLs : bs L = Ls at *
  cbv
  refine tst (fun h3 => ?_) (fun h3 => ?_)
  · rw [arX.not, arX.lt, Bool.not_eq_true', decide_eq_false_iff_not, Int.not_lt] at h3
    have hjn := hkd.2.1 h3
    obtain ⟨k0, k1, k2⟩ := hkd.1 hjn
    have hmul : vl vv xar .mul .i64 8 k = 8 * k := (arX.arE _ _ _ _).trans (mul8 k0 (by rw [k1]; exact Int.ofNat_le.2 k2))
    have hbyte : vl vv xconv .u8 (vl vv xar .shr .u64 v (vl vv xar .mul .i64 8 k)) = ((byteAt v (n - 1 - j)).toNat : Int) :=
      (arX.convE _ _).trans ((congrArg (IntKind.wrap .u8) ((arX.arE _ _ _ _).trans (congrArg (arith .shr .u64 v) (hmul.trans (congrArg (8 * ·) k1))))).trans (hsh _ k2))
    have hdec : vl vv xar .sub .i64 k 1 = (n : Int) - 1 - ((j + 1 : Nat) : Int) := (arX.subi (hkd.2.2.2.2 (Nat.le_of_lt hjn)) hkd.2.2.2.1).trans hkd.2.2.1.symm
    have hmn : (0 : Int) ≤ vl vv xar .mul .i64 8 k := by rw [hmul]; exact Int.mul_nonneg (by decide) k0
    have hnx : l ++ be = (L ++ [byteAt v (n - 1 - j)]) ++ beB (n - (j + 1)) v := by
      rw [hpre, show n - j = (n - 1 - j) + 1 by omega, hB, show n - (j + 1) = n - 1 - j by omega, List.append_assoc]
      rfl
    have hlx : (L ++ [byteAt v (n - 1 - j)]).length ≤ l.length + (j + 1) := by
      rw [List.length_append]
      show L.length + 1 ≤ _
      omega
    have hroom : L.length + 1 ≤ 140737488355328 := by omega
    have hsx : [some [AV.sl true 1 (vl vv xapp Ls [AV.int .u8 (vl vv xconv .u8 (vl vv xar .shr .u64 v (vl vv xar .mul .i64 8 k)))])]] = stO (L ++ [byteAt v (n - 1 - j)]) :=
      congrArg (fun z => [some [AV.sl true 1 z]]) ((arX.appE _ _).trans ((congrArg (fun z => Ls ++ [AV.int .u8 z]) hbyte).trans (by rw [hbs, hLs]; rfl)))
    generalize L ++ [byteAt v (n - 1 - j)] = L2 at *
    cbv
    refine ⟨fun _ => ⟨hmn⟩, ⟨fun _ => appOkK (M := 1) hlL (arX.lenE _) (Nat.le_trans (Nat.le_of_eq (Nat.mul_one _)) hroom), ?_⟩⟩
    exact hK L2 _ _ _ hjn ⟨hnx, hlx⟩ ⟨rfl, rfl, congrArg (AV.int .i64) hdec, trivial⟩ trivial hsx
  · have hjn : j = n := by
      rw [arX.not, arX.lt, Bool.not_eq_false', decide_eq_true_eq] at h3
      rcases Nat.lt_or_ge j n with h | h
      · have := (hkd.1 h).1
        exact absurd h3 (Int.not_lt.2 this)
      · omega
    cbv
    refine hKx (.exit 0) _ _ _ (by simp) ?_
    cbv
    refine hR _ _ ⟨rfl, ?_⟩
    rw [hpre, hjn, Nat.sub_self, hB0, List.append_nil]
    show _ = [some [AV.sl true 1 (bs L)]]
    rw [hLs]
end Go.V

/- U31: putting bytes, numbers, flags, counts, entries. -/
namespace Go.V
open Go.Proofs
set_option maxRecDepth 100000
theorem wrap_u64_range (n : Int) : 0 ≤ IntKind.wrap .u64 n ∧ IntKind.wrap .u64 n < 18446744073709551616 := by
  have e2 : (2 : Int) ^ IntKind.u64.bits = 18446744073709551616 := by decide
  have es : IntKind.u64.signed = false := rfl
  have : IntKind.wrap .u64 n = n % 18446744073709551616 := by
    unfold IntKind.wrap
    rw [e2, es]
    show (if (false && decide (n % 18446744073709551616 ≥ _)) = true then _ else n % 18446744073709551616) = _
    rw [Bool.false_and, if_neg (by decide)]
  rw [this]
  exact ⟨Int.emod_nonneg _ (by decide), Int.emod_lt_of_pos _ (by decide)⟩
theorem beB_one {c : Int} (h0 : 0 ≤ c) (h1 : c < 256) : beB 1 c = [UInt8.ofNat c.toNat] := by
  show [byteAt c 0] = _
  unfold byteAt
  rw [Int.pow_zero, Int.ediv_one, Int.emod_eq_of_lt h0 h1]
theorem byteO_c (c : Int) (h0 : 0 ≤ c) (h1 : c < 256) (l : List UInt8) (hl : l.length + 8 ≤ 140737488355328) : VCalls Try.prog 52 [.ref 0 0, .int .u8 c] (stO l) (fun r st' => r = .tup [] ∧ st' = stO (l ++ [UInt8.ofNat c.toNat])) := by
  have hw := wideO_c 1 (by decide) c h0 (by omega) l hl
  rw [beB_one h0 h1] at hw
  have hc := wrap_u64 (n := c) h0 (by omega)
  refine VCalls.use ok7 Try.func52 rfl (by rfl) (Nat.le_of_ble_eq_true rfl) (by kernel_rfl) fun R hR => ?_
  generalize stO (l ++ [UInt8.ofNat c.toNat]) = st2 at *
  generalize stO l = st1 at *
  replace hw : VCalls Try.prog 74 [.ref 0 0, .int .u64 c, .int .i64 1] st1 (fun r st' => r = .tup [] ∧ st' = st2) := hw
  generalize Try.prog = P at *
  generalize hX : std = X at *
  refine ops_use hX fun vv xlt xieq xseq xslt xar xconv xnot xpick xbeq xeqc xlen xslen xget xsget xsub xssub xapp xcat xtoB xofB xrep xrepc xchunks xmx xmn hY arX => ?_
  clear hX
  subst hY
  generalize hVV : V5.b = VV at *
  refine vl_use vv VV fun V hV => ?_
  clear hVV
  subst hV
  generalize V5.q = Q at *
  replace hc := (arX.convE .u64 c).trans hc
  cbv
  simp only [hc]
  refine hw.mono ?_
  rintro r st' ⟨rfl, rfl⟩
  cbv
  exact hR _ _ ⟨rfl, rfl⟩
def numB8 (n : Int) : List UInt8 := beB 8 (IntKind.wrap .u64 n)
def cntB (n : Int) : List UInt8 := beB 4 (IntKind.wrap .u64 n)
theorem numO_c (n : Int) (l : List UInt8) (hl : l.length + 8 ≤ 140737488355328) : VCalls Try.prog 53 [.ref 0 0, .int .i64 n] (stO l) (fun r st' => r = .tup [] ∧ st' = stO (l ++ numB8 n)) := by
  have hw := wideO_c 8 (by decide) (IntKind.wrap .u64 n) (wrap_u64_range n).1 (wrap_u64_range n).2 l hl
  refine VCalls.use ok7 Try.func53 rfl (by rfl) (Nat.le_of_ble_eq_true rfl) (by kernel_rfl) fun R hR => ?_
  unfold numB8 at hR
  generalize stO (l ++ beB 8 (IntKind.wrap .u64 n)) = st2 at *
  generalize stO l = st1 at *
  generalize hwn : IntKind.wrap .u64 n = wn at *
  replace hw : VCalls Try.prog 74 [.ref 0 0, .int .u64 wn, .int .i64 8] st1 (fun r st' => r = .tup [] ∧ st' = st2) := hw
  generalize Try.prog = P at *
  generalize hX : std = X at *
  refine ops_use hX fun vv xlt xieq xseq xslt xar xconv xnot xpick xbeq xeqc xlen xslen xget xsget xsub xssub xapp xcat xtoB xofB xrep xrepc xchunks xmx xmn hY arX => ?_
  clear hX
  subst hY
  generalize hVV : V5.b = VV at *
  refine vl_use vv VV fun V hV => ?_
  clear hVV
  subst hV
  generalize V5.q = Q at *
  have hc := (arX.convE .u64 n).trans hwn
  cbv
  simp only [hc]
  refine hw.mono ?_
  rintro r st' ⟨rfl, rfl⟩
  cbv
  exact hR _ _ ⟨rfl, rfl⟩
theorem countO_c (n : Int) (l : List UInt8) (hl : l.length + 8 ≤ 140737488355328) : VCalls Try.prog 55 [.ref 0 0, .int .i64 n] (stO l) (fun r st' => r = .tup [] ∧ st' = stO (l ++ cntB n)) := by
  have hw := wideO_c 4 (by decide) (IntKind.wrap .u64 n) (wrap_u64_range n).1 (wrap_u64_range n).2 l hl
  refine VCalls.use ok7 Try.func55 rfl (by rfl) (Nat.le_of_ble_eq_true rfl) (by kernel_rfl) fun R hR => ?_
  unfold cntB at hR
  generalize stO (l ++ beB 4 (IntKind.wrap .u64 n)) = st2 at *
  generalize stO l = st1 at *
  generalize hwn : IntKind.wrap .u64 n = wn at *
  replace hw : VCalls Try.prog 74 [.ref 0 0, .int .u64 wn, .int .i64 4] st1 (fun r st' => r = .tup [] ∧ st' = st2) := hw
  generalize Try.prog = P at *
  generalize hX : std = X at *
  refine ops_use hX fun vv xlt xieq xseq xslt xar xconv xnot xpick xbeq xeqc xlen xslen xget xsget xsub xssub xapp xcat xtoB xofB xrep xrepc xchunks xmx xmn hY arX => ?_
  clear hX
  subst hY
  generalize hVV : V5.b = VV at *
  refine vl_use vv VV fun V hV => ?_
  clear hVV
  subst hV
  generalize V5.q = Q at *
  have hc := (arX.convE .u64 n).trans hwn
  cbv
  simp only [hc]
  refine hw.mono ?_
  rintro r st' ⟨rfl, rfl⟩
  cbv
  exact hR _ _ ⟨rfl, rfl⟩
def flagB (v : Bool) : List UInt8 := [cond v 1 0]
theorem flagO_c (v : Bool) (l : List UInt8) (hl : l.length + 8 ≤ 140737488355328) : VCalls Try.prog 54 [.ref 0 0, .bool v] (stO l) (fun r st' => r = .tup [] ∧ st' = stO (l ++ flagB v)) := by
  have h1 := byteO_c 1 (by decide) (by decide) l hl
  have h0 := byteO_c 0 (by decide) (by decide) l hl
  replace h1 : VCalls Try.prog 52 [.ref 0 0, .int .u8 1] (stO l) (fun r st' => r = .tup [] ∧ st' = stO (l ++ flagB true)) := h1
  replace h0 : VCalls Try.prog 52 [.ref 0 0, .int .u8 0] (stO l) (fun r st' => r = .tup [] ∧ st' = stO (l ++ flagB false)) := h0
  refine VCalls.use ok7 Try.func54 rfl (by rfl) (Nat.le_of_ble_eq_true rfl) (by kernel_rfl) fun R hR => ?_
  cases v
  · generalize stO (l ++ flagB true) = st3 at *
    generalize stO (l ++ flagB false) = st2 at *
    generalize stO l = st1 at *
    generalize Try.prog = P at *
    generalize std = X
    cbv
    refine h0.mono ?_
    rintro r st' ⟨rfl, rfl⟩
    cbv
    exact hR _ _ ⟨rfl, rfl⟩
  · generalize stO (l ++ flagB true) = st3 at *
    generalize stO (l ++ flagB false) = st2 at *
    generalize stO l = st1 at *
    generalize Try.prog = P at *
    generalize std = X
    cbv
    refine h1.mono ?_
    rintro r st' ⟨rfl, rfl⟩
    cbv
    exact hR _ _ ⟨rfl, rfl⟩
theorem cntB_len (n : Int) : (cntB n).length = 4 := beB_len 4 _
theorem numB8_len (n : Int) : (numB8 n).length = 8 := beB_len 8 _
theorem bytesO_c (d l : List UInt8) (hl : l.length + d.length + 16 ≤ 140737488355328) : VCalls Try.prog 81 [.ref 0 0, .sl false 1 (bs d)] (stO l) (fun r st' => r = .tup [] ∧ st' = stO (l ++ (cntB d.length ++ d))) := by
  have hc := countO_c (d.length : Int) l (by omega)
  have hlen : (l ++ cntB d.length).length = l.length + 4 := by rw [List.length_append, cntB_len]
  refine VCalls.use (ok_tr ok7 [14, 16]) Try.func81 rfl (by rfl) (Nat.le_of_ble_eq_true rfl) (by kernel_rfl) fun R hR => ?_
  rw [← List.append_assoc] at hR
  generalize hm : l ++ cntB d.length = m at *
  have hst2 : stO m = [some [.sl true 1 (bs m)]] := rfl
  have hst3 : stO (m ++ d) = [some [.sl true 1 (bs m ++ bs d)]] := by unfold stO bs; rw [List.map_append]
  rw [hst3] at hR
  rw [hst2] at hc
  generalize stO l = st1 at *
  generalize hdl : (d.length : Int) = dl at *
  generalize Try.prog = P at *
  generalize hX : std = X at *
  refine ops_use hX fun vv xlt xieq xseq xslt xar xconv xnot xpick xbeq xeqc xlen xslen xget xsget xsub xssub xapp xcat xtoB xofB xrep xrepc xchunks xmx xmn hY arX => ?_
  clear hX
  subst hY
  generalize hVV : V5.b = VV at *
  refine vl_use vv VV fun V hV => ?_
  clear hVV
  subst hV
  generalize V5.q = Q at *
  have hlm := arX.lenb m
  have hld := arX.lenb d
  have hld2 := hld.trans hdl
  generalize bs m = ms at *
  generalize bs d = ds at *
  cbv
  simp only [hld2]
  refine hc.mono ?_
  rintro r st' ⟨rfl, rfl⟩
  cbv
  refine ⟨fun _ => appOkK hlm hld (by omega), ?_⟩
  refine hR _ _ ⟨rfl, ?_⟩
  exact congrArg (fun z => [some [AV.sl true 1 z]]) (arX.appE _ _)
def threeB (a : Ent) : List UInt8 := numB8 a.x ++ (numB8 a.y ++ (cntB a.v.length ++ a.v))
theorem putO_c (a : Ent) (l : List UInt8) (hl : l.length + a.v.length + 48 ≤ 140737488355328) : VCalls Try.prog 75 [.ref 0 0, .int .i64 a.x, .int .i64 a.y, .sl false 1 (bs a.v)] (stO l) (fun r st' => r = .tup [] ∧ st' = stO (l ++ threeB a)) := by
  have h1 := numO_c a.x l (by omega)
  have h2 := numO_c a.y (l ++ numB8 a.x) (by rw [List.length_append, numB8_len]; omega)
  have h3 := bytesO_c a.v (l ++ numB8 a.x ++ numB8 a.y) (by rw [List.length_append, List.length_append, numB8_len, numB8_len]; omega)
  have he : l ++ threeB a = l ++ numB8 a.x ++ numB8 a.y ++ (cntB a.v.length ++ a.v) := by
    unfold threeB
    simp only [List.append_assoc]
  rw [he]
  refine VCalls.use ok7 Try.func75 rfl (by rfl) (Nat.le_of_ble_eq_true rfl) (by kernel_rfl) fun R hR => ?_
  generalize stO (l ++ numB8 a.x ++ numB8 a.y ++ (cntB a.v.length ++ a.v)) = st4 at *
  generalize stO (l ++ numB8 a.x ++ numB8 a.y) = st3 at *
  generalize stO (l ++ numB8 a.x) = st2 at *
  generalize stO l = st1 at *
  generalize bs a.v = vs at *
  generalize a.x = x at *
  generalize a.y = y at *
  generalize Try.prog = P at *
  generalize std = X
  cbv
  refine h1.mono ?_
  rintro r st' ⟨rfl, rfl⟩
  cbv
  refine h2.mono ?_
  rintro r st' ⟨rfl, rfl⟩
  cbv
  refine h3.mono ?_
  rintro r st' ⟨rfl, rfl⟩
  cbv
  exact hR _ _ ⟨rfl, rfl⟩
def entB (a : Ent) : List UInt8 := if a.right then threeB a else threeB Ent.zero
def snapB (a : Ent) : List UInt8 := if snapRight a.x a.y a.v.length then threeB a else threeB Ent.zero
theorem entPut_c (a : Ent) (l : List UInt8) (hl : l.length + a.v.length + 48 ≤ 140737488355328) : VCalls Try.prog 56 [.ref 0 0, a.av] (stO l) (fun r st' => r = .tup [] ∧ st' = stO (l ++ entB a)) := by
  have hp := putO_c a l hl
  have hz := putO_c Ent.zero l (by show l.length + 0 + 48 ≤ _; omega)
  have q63 : V5.q 63 [a.av] := ⟨a, rfl⟩
  have b63 : V5.b 63 [a.av] = a.right := by
    show (entOf _).right = _
    rw [entOf_av]
  generalize hst2 : stO (l ++ entB a) = st2
  unfold entB at hst2
  refine VCalls.use ok7 Try.func56 rfl (by rfl) (Nat.le_of_ble_eq_true rfl) (by kernel_rfl) fun R hR => ?_
  generalize a.right = rt at *
  replace hz : VCalls Try.prog 75 [.ref 0 0, .int .i64 0, .int .i64 0, .sl false 1 []] (stO l) (fun r st' => r = .tup [] ∧ st' = stO (l ++ threeB Ent.zero)) := hz
  generalize hsa : stO (l ++ threeB a) = sa at *
  generalize hsz : stO (l ++ threeB Ent.zero) = sz at *
  generalize stO l = st1 at *
  unfold Ent.av at *
  generalize bs a.v = vs at *
  generalize a.x = x at *
  generalize a.y = y at *
  generalize Try.prog = P at *
  generalize hX : std = X at *
  refine ops_use hX fun vv xlt xieq xseq xslt xar xconv xnot xpick xbeq xeqc xlen xslen xget xsget xsub xssub xapp xcat xtoB xofB xrep xrepc xchunks xmx xmn hY arX => ?_
  clear hX
  subst hY
  generalize hVV : V5.b = VV at *
  refine vl_use vv VV fun V hV => ?_
  clear hVV
  subst hV
  generalize V5.q = Q at *
  cbv
  refine ⟨fun _ => q63, ?_⟩
  refine tst (fun h => ?_) (fun h => ?_)
  · rw [arX.not, b63] at h
    cbv
    refine hz.mono ?_
    rintro r st' ⟨rfl, rfl⟩
    cbv
    refine hR _ _ ⟨rfl, ?_⟩
    rw [← hst2, if_neg (by simpa using h)]
    exact hsz.symm
  · rw [arX.not, b63] at h
    cbv
    refine hp.mono ?_
    rintro r st' ⟨rfl, rfl⟩
    cbv
    refine hR _ _ ⟨rfl, ?_⟩
    rw [← hst2, if_pos (by simpa using h)]
    exact hsa.symm
end Go.V

/- U32: putting a message. -/
namespace Go.V
open Go.Proofs
set_option maxRecDepth 100000
theorem snapPut_c (a : Ent) (l : List UInt8) (hl : l.length + a.v.length + 48 ≤ 140737488355328) : VCalls Try.prog 57 [.ref 0 0, a.av] (stO l) (fun r st' => r = .tup [] ∧ st' = stO (l ++ snapB a)) := by
  have hp := putO_c a l hl
  have hz := putO_c Ent.zero l (by show l.length + 0 + 48 ≤ _; omega)
  have q29 : V5.q 29 [a.av] := ⟨_, _, _, rfl⟩
  have b29 : V5.b 29 [a.av] = snapRight a.x a.y a.v.length := by
    show snapRight _ _ (bs _).length = _
    rw [show (bs a.v).length = a.v.length by simp [bs]]; rfl
  generalize hst2 : stO (l ++ snapB a) = st2
  unfold snapB at hst2
  refine VCalls.use ok7 Try.func57 rfl (by rfl) (Nat.le_of_ble_eq_true rfl) (by kernel_rfl) fun R hR => ?_
  generalize snapRight a.x a.y a.v.length = rt at *
  replace hz : VCalls Try.prog 75 [.ref 0 0, .int .i64 0, .int .i64 0, .sl false 1 []] (stO l) (fun r st' => r = .tup [] ∧ st' = stO (l ++ threeB Ent.zero)) := hz
  generalize hsa : stO (l ++ threeB a) = sa at *
  generalize hsz : stO (l ++ threeB Ent.zero) = sz at *
  generalize stO l = st1 at *
  unfold Ent.av at *
  generalize bs a.v = vs at *
  generalize a.x = x at *
  generalize a.y = y at *
  generalize Try.prog = P at *
  generalize hX : std = X at *
  refine ops_use hX fun vv xlt xieq xseq xslt xar xconv xnot xpick xbeq xeqc xlen xslen xget xsget xsub xssub xapp xcat xtoB xofB xrep xrepc xchunks xmx xmn hY arX => ?_
  clear hX
  subst hY
  generalize hVV : V5.b = VV at *
  refine vl_use vv VV fun V hV => ?_
  clear hVV
  subst hV
  generalize V5.q = Q at *
  cbv
  refine ⟨fun _ => q29, ?_⟩
  refine tst (fun h => ?_) (fun h => ?_)
  · rw [arX.not, b29] at h
    cbv
    refine hz.mono ?_
    rintro r st' ⟨rfl, rfl⟩
    cbv
    refine hR _ _ ⟨rfl, ?_⟩
    rw [← hst2, if_neg (by simpa using h)]
    exact hsz.symm
  · rw [arX.not, b29] at h
    cbv
    refine hp.mono ?_
    rintro r st' ⟨rfl, rfl⟩
    cbv
    refine hR _ _ ⟨rfl, ?_⟩
    rw [← hst2, if_pos (by simpa using h)]
    exact hsa.symm
theorem end_c (l : List UInt8) (hl : l.length ≤ 60000) : VCalls Try.prog 21 [.ref 0 0] (stO l) (fun r st' => r = .tup [.sl false 1 (bs l), .int .i64 0] ∧ st' = stO l) := by
  have hc := clone_c l (by omega) (stO l)
  refine VCalls.use ok7 Try.func21 rfl (by rfl) (Nat.le_of_ble_eq_true rfl) (by kernel_rfl) fun R hR => ?_
  have hst1 : stO l = [some [.sl true 1 (bs l)]] := rfl
  rw [hst1] at hc hR ⊢
  generalize Try.prog = P at *
  generalize hX : std = X at *
  refine ops_use hX fun vv xlt xieq xseq xslt xar xconv xnot xpick xbeq xeqc xlen xslen xget xsget xsub xssub xapp xcat xtoB xofB xrep xrepc xchunks xmx xmn hY arX => ?_
  clear hX
  subst hY
  generalize hVV : V5.b = VV at *
  refine vl_use vv VV fun V hV => ?_
  clear hVV
  subst hV
  generalize V5.q = Q at *
  have hll := arX.lenb l
  generalize bs l = ls at *
  have h6 : vl vv xlt 60000 (vl vv xlen ls) = false := by rw [arX.lt, hll, decide_eq_false_iff_not]; omega
  cbv
  refine tstF h6 ?_
  cbv
  refine hc.mono ?_
  rintro r st' ⟨rfl, rfl⟩
  cbv
  exact hR _ _ ⟨rfl, rfl⟩
/-- What is put for each, one behind the other. -/
def cat {α : Type} (g : α → List UInt8) : List α → List UInt8
  | [] => []
  | a :: r => g a ++ cat g r
theorem cat_suc {α : Type} (g : α → List UInt8) : ∀ {L : List α} {j : Nat} {a : α}, L[j]? = some a → cat g (L.take (j + 1)) = cat g (L.take j) ++ g a
  | b :: r, 0, a, h => by
    obtain rfl := Option.some.inj h
    show g b ++ cat g (r.take 0) = [] ++ g b
    rw [List.take_zero]
    show g b ++ [] = _
    rw [List.append_nil]; rfl
  | b :: r, j + 1, a, h => by
    show g b ++ cat g (r.take (j + 1)) = (g b ++ cat g (r.take j)) ++ g a
    rw [cat_suc g (L := r) (j := j) (by simpa using h), List.append_assoc]
theorem cat_len {α : Type} (g : α → List UInt8) (B : Nat) : ∀ (L : List α), (∀ a ∈ L, (g a).length ≤ B) → ∀ j : Nat, (cat g (L.take j)).length ≤ j * B
  | [], _, j => by rw [List.take_nil]; exact Nat.zero_le _
  | b :: r, h, 0 => Nat.zero_le _
  | b :: r, h, j + 1 => by
    show (g b ++ cat g (r.take j)).length ≤ _
    rw [List.length_append, Nat.succ_mul]
    have := cat_len g B r (fun a ha => h a (List.mem_cons_of_mem _ ha)) j
    have := h b List.mem_cons_self
    omega
def byB (n : Int) : List UInt8 := [UInt8.ofNat (IntKind.wrap .u8 n).toNat]
def Msg.snap (m : Msg) : Ent := ⟨m.si, m.st, m.sv⟩
/-- A right message's bytes. -/
def bodyB (m : Msg) : List UInt8 :=
  cat byB [m.kind, m.frm, m.to] ++ (cat numB8 [m.term, m.a, m.b, m.c, m.d] ++ (flagB m.yes ++ (cntB m.ents.length ++ (cat entB m.ents ++ cond (decide (m.kind = 7)) (snapB m.snap) []))))
def msgB (m : Msg) : List UInt8 := if m.right then bodyB m else [0]
theorem right_few {m : Msg} (h : m.right = true) : m.ents.length ≤ 4 ∧ (∀ a ∈ m.ents, a.v.length ≤ 12000) ∧ (m.kind = 7 → m.sv.length ≤ 50000) := by
  unfold Msg.right at h
  simp only [Bool.and_eq_true, Bool.or_eq_true, Bool.not_eq_true', decide_eq_true_eq, decide_eq_false_iff_not] at h
  obtain ⟨⟨⟨⟨⟨_, _⟩, h1⟩, h2⟩, _⟩, h3⟩ := h
  refine ⟨by omega, ?_, ?_⟩
  · have : ∀ (L : List Ent) (x y : Int), runOk x y L = true → ∀ a ∈ L, a.v.length ≤ 12000 := by
      intro L
      induction L with
      | nil => intro x y _ a ha; cases ha
      | cons b r ih =>
        intro x y hr a ha
        unfold runOk at hr
        simp only [Bool.and_eq_true] at hr
        rcases List.mem_cons.1 ha with rfl | ha
        · have := hr.1.1.1
          unfold Ent.right at this
          simp only [Bool.and_eq_true, decide_eq_true_eq] at this
          omega
        · exact ih _ _ hr.2 a ha
    exact this _ _ _ h2
  · intro hk
    rcases h3 with h3 | h3
    · exact absurd hk h3
    · have := h3.1.1
      unfold snapRight at this
      split at this
      · have := of_decide_eq_true this; omega
      · simp only [Bool.and_eq_true, decide_eq_true_eq] at this; omega
theorem threeB_len (a : Ent) : (threeB a).length = a.v.length + 20 := by
  unfold threeB
  simp only [List.length_append, numB8_len, cntB_len]
  omega
theorem entB_len (a : Ent) : (entB a).length ≤ a.v.length + 20 := by
  unfold entB
  split
  · rw [threeB_len]; exact Nat.le_refl _
  · rw [threeB_len]; show 0 + 20 ≤ _; omega
theorem wrap_u8_range (n : Int) : 0 ≤ IntKind.wrap .u8 n ∧ IntKind.wrap .u8 n < 256 := by
  have e2 : (2 : Int) ^ IntKind.u8.bits = 256 := by decide
  have es : IntKind.u8.signed = false := rfl
  have : IntKind.wrap .u8 n = n % 256 := by
    unfold IntKind.wrap
    rw [e2, es]
    show (if (false && decide (n % 256 ≥ _)) = true then _ else n % 256) = _
    rw [Bool.false_and, if_neg (by decide)]
  rw [this]
  exact ⟨Int.emod_nonneg _ (by decide), Int.emod_lt_of_pos _ (by decide)⟩
theorem put_ok : codeOk Try.f20.ntmps (Cj [9, 17] FS std V5.q V5.b) (Try.f20.body.getD .skip) = true := by kernel_rfl
theorem put_c (m : Msg) (hm : (m.ents.length : Int) ≤ 9223372036854775807) (l : List UInt8) (hl : l.length + 1000000 ≤ 140737488355328) : VCalls Try.prog 20 [.ref 0 0, m.av] (stO l) (fun r st' => r = .tup [] ∧ st' = stO (l ++ msgB m)) := by
  have q10 : V5.q 10 [m.av] := ⟨m, hm, rfl⟩
  have b10 : V5.b 10 [m.av] = m.right := by
    show (msgOf _).right = _
    rw [msgOf_av]
  have hfew := @right_few m
  generalize hrt : m.right = rt at hfew b10
  have hout : stO (l ++ msgB m) = stO (l ++ cond rt (bodyB m) [0]) := by
    unfold msgB; rw [hrt]; cases rt <;> rfl
  rw [hout]
  clear hout hrt
  unfold bodyB Msg.snap
  obtain ⟨m1, m2, m3, m4, m5, m6, m7, m8, m9, mA, m11, m12, mV⟩ := m
  dsimp only at hfew hm ⊢
  have h0 := byteO_c 0 (by decide) (by decide) l (by omega)
  replace h0 : VCalls Try.prog 52 [.ref 0 0, .int .u8 0] (stO l) (fun r st' => r = .tup [] ∧ st' = stO (l ++ [0])) := h0
  generalize hs0 : stO (l ++ [0]) = sz at h0
  have hby := byteO_c
  have hnum := numO_c
  have hfl := flagO_c
  have hcn := countO_c
  have hen := entPut_c
  have hsn := snapPut_c
  refine VCalls.use ok7 Try.func20 rfl (by rfl) (Nat.le_of_ble_eq_true rfl) put_ok fun R hR => ?_
  have okX := ok7
  generalize hst0 : stO l = st0 at *
  generalize hks : [m1, m2, m3] = ks at *
  generalize hns : [m4, m5, m6, m7, m8] = ns at *
  generalize Try.prog = P at *
  generalize hX : std = X at *
  refine ops_use hX fun vv xlt xieq xseq xslt xar xconv xnot xpick xbeq xeqc xlen xslen xget xsget xsub xssub xapp xcat xtoB xofB xrep xrepc xchunks xmx xmn hY arX => ?_
  clear hX
  subst hY
  generalize hVV : V5.b = VV at *
  refine vl_use vv VV fun V hV => ?_
  clear hVV
  subst hV
  generalize V5.q = Q at *
  unfold Msg.av at *
  dsimp only at *
  have gk := fun (j : Nat) (a : Int) (h : ks[j]? = some a) => arX.getf (AV.int .i64) h
  have lk := arX.lenf (AV.int .i64) ks
  have gn := fun (j : Nat) (a : Int) (h : ns[j]? = some a) => arX.getf (AV.int .i64) h
  have ln := arX.lenf (AV.int .i64) ns
  rw [← hks] at lk
  rw [← hns] at ln
  replace lk : vl vv xlen [.int .i64 m1, .int .i64 m2, .int .i64 m3] = ((3 : Nat) : Int) := lk
  replace ln : vl vv xlen [.int .i64 m4, .int .i64 m5, .int .i64 m6, .int .i64 m7, .int .i64 m8] = ((5 : Nat) : Int) := ln
  replace gk : ∀ (j : Nat) (a : Int), ks[j]? = some a → vl vv xget [.int .i64 m1, .int .i64 m2, .int .i64 m3] (j : Int) = .int .i64 a := by rw [← hks]; rw [← hks] at gk; exact gk
  replace gn : ∀ (j : Nat) (a : Int), ns[j]? = some a → vl vv xget [.int .i64 m4, .int .i64 m5, .int .i64 m6, .int .i64 m7, .int .i64 m8] (j : Int) = .int .i64 a := by rw [← hns]; rw [← hns] at gn; exact gn
  have lE := arX.lenf Ent.av mA
  have gE := fun (j : Nat) (a : Ent) (h : mA[j]? = some a) => arX.getf Ent.av h
  generalize hmas : mA.map Ent.av = mas at *
  generalize hmvs : bs mV = mvs at *
  cbv
  refine ⟨fun _ => q10, ?_⟩
  refine tst (fun h => ?_) (fun h => ?_)
  · cbv
    refine h0.mono ?_
    rintro r st' ⟨rfl, rfl⟩
    cbv
    rw [arX.not, b10, Bool.not_eq_true'] at h
    subst h
    exact hR _ _ ⟨rfl, hs0.symm⟩
  · rw [arX.not, b10, Bool.not_eq_false'] at h
    subst h
    obtain ⟨hf1, hf2, hf3⟩ := hfew rfl
    have hcE := arX.convE .u8
    cbv
    refine wp_forS okX (by kernel_rfl) 3 (fun j (L : List UInt8) => L = l ++ cat byB (ks.take j))
      (fun j _ => [(0, .ref 0 0), (3, .lp 3 0), (21, .sl true 1 [.int .i64 m1, .int .i64 m2, .int .i64 m3]), (22, .int .i64 (vl vv xlen [.int .i64 m1, .int .i64 m2, .int .i64 m3])), (23, .int .i64 (j : Int))])
      (fun _ _ => [(3, [.int .i64 m1, .int .i64 m2, .int .i64 m3, .int .i64 m4, .int .i64 m5, .int .i64 m6, .int .i64 m7, .int .i64 m8, .bool m9, .sl false 3 mas, .int .i64 m11, .int .i64 m12, .sl false 1 mvs])])
      (fun _ L => stO L) l hst0.symm (List.append_nil l).symm (fun _ _ => rfl) ⟨rfl, rfl, rfl, rfl, rfl, trivial⟩ ⟨rfl, trivial⟩ ?_
    rintro j L hj hpre K hK hKx
    have hll : L.length ≤ l.length + 3 := by
      have := cat_len byB 1 ks (fun _ _ => Nat.le_refl 1) j
      rw [hpre, List.length_append]; omega
    generalize hjj : (j : Int) = k at *
    generalize hsL : stO L = stL at *
    cbv
    refine tst (fun h3 => ?_) (fun h3 => ?_)
    · have hjl := arX.inK hjj lk h3
      obtain ⟨a, ha⟩ := getE (show 3 = ks.length by rw [← hks]; rfl) hjl
      have ga := gk j a ha
      rw [hjj] at ga
      have hc := hcE a
      have hb := hby (IntKind.wrap .u8 a) (wrap_u8_range a).1 (wrap_u8_range a).2 L (by omega)
      have hnx : L ++ byB a = l ++ cat byB (ks.take (j + 1)) := by rw [cat_suc byB ha, hpre, List.append_assoc]
      rw [hsL] at hb
      replace hb : VCalls P 52 [.ref 0 0, .int .u8 (IntKind.wrap .u8 a)] stL (fun r st' => r = .tup [] ∧ st' = stO (L ++ byB a)) := hb
      generalize hs2 : stO (L ++ byB a) = st2 at hb
      generalize IntKind.wrap .u8 a = wa at *
      cbv
      refine ⟨fun _ => inBK hjj lk hjl, ?_⟩
      simp only [ga]
      cbv
      simp only [hc]
      refine hb.mono ?_
      rintro r st' ⟨rfl, rfl⟩
      cbv
      exact hK (L ++ byB a) _ _ _ hjl hnx ⟨rfl, rfl, rfl, rfl, congrArg (AV.int .i64) (arX.sucK hjj (by decide) hjl), trivial⟩ ⟨rfl, trivial⟩ hs2.symm
    · have hje := arX.outK hjj lk h3 hj
      replace hpre : L = l ++ cat byB ks := by
        rw [hpre, hje, List.take_of_length_le]
        rw [← hks]; exact Nat.le_refl 3
      clear hK hjj hj hje
      cbv
      refine hKx (.exit 0) _ _ _ (by simp) ?_
      clear hKx h3
      cbv
      clear hll
      generalize hL1 : L = l1 at *
      clear hL1
      have hl1 : l1.length ≤ l.length + 3 := by
        have := cat_len byB 1 ks (fun _ _ => Nat.le_refl 1) 3
        rw [List.take_of_length_le (by rw [← hks]; exact Nat.le_refl 3)] at this
        rw [hpre, List.length_append]; omega
      refine wp_forS okX (by kernel_rfl) 5 (fun j (L : List UInt8) => L = l1 ++ cat numB8 (ns.take j))
        (fun j _ => [(0, .ref 0 0), (3, .lp 3 0), (42, .sl true 1 [.int .i64 m4, .int .i64 m5, .int .i64 m6, .int .i64 m7, .int .i64 m8]), (43, .int .i64 (vl vv xlen [.int .i64 m4, .int .i64 m5, .int .i64 m6, .int .i64 m7, .int .i64 m8])), (44, .int .i64 (j : Int))])
        (fun _ _ => [(3, [.int .i64 m1, .int .i64 m2, .int .i64 m3, .int .i64 m4, .int .i64 m5, .int .i64 m6, .int .i64 m7, .int .i64 m8, .bool m9, .sl false 3 mas, .int .i64 m11, .int .i64 m12, .sl false 1 mvs])])
        (fun _ L => stO L) l1 hsL.symm (List.append_nil l1).symm (fun _ _ => rfl) ⟨rfl, rfl, rfl, rfl, rfl, trivial⟩ ⟨rfl, trivial⟩ ?_
      rintro j L hj hpre2 K hK hKx
      have hll : L.length ≤ l.length + 43 := by
        have := cat_len numB8 8 ns (fun _ _ => Nat.le_of_eq (numB8_len _)) j
        rw [hpre2, List.length_append]; omega
      generalize hjj : (j : Int) = k at *
      clear hsL
      generalize hsL : stO L = stL at *
      cbv
      refine tst (fun h3 => ?_) (fun h3 => ?_)
      · have hjl := arX.inK hjj ln h3
        obtain ⟨a, ha⟩ := getE (show 5 = ns.length by rw [← hns]; rfl) hjl
        have ga := gn j a ha
        rw [hjj] at ga
        have hb := hnum a L (by omega)
        have hnx : L ++ numB8 a = l1 ++ cat numB8 (ns.take (j + 1)) := by rw [cat_suc numB8 ha, hpre2, List.append_assoc]
        rw [hsL] at hb
        generalize hs2 : stO (L ++ numB8 a) = st2 at hb
        cbv
        refine ⟨fun _ => inBK hjj ln hjl, ?_⟩
        simp only [ga]
        cbv
        refine hb.mono ?_
        rintro r st' ⟨rfl, rfl⟩
        cbv
        exact hK (L ++ numB8 a) _ _ _ hjl hnx ⟨rfl, rfl, rfl, rfl, congrArg (AV.int .i64) (arX.sucK hjj (by decide) hjl), trivial⟩ ⟨rfl, trivial⟩ hs2.symm
      · have hje := arX.outK hjj ln h3 hj
        replace hpre2 : L = l1 ++ cat numB8 ns := by
          rw [hpre2, hje, List.take_of_length_le]
          rw [← hns]; exact Nat.le_refl 5
        clear hK hjj hj hje
        cbv
        refine hKx (.exit 2) _ _ _ (by simp) ?_
        clear hKx h3
        have hfb := hfl m9 L (by omega)
        have hl2 : (L ++ flagB m9).length = L.length + 1 := by rw [List.length_append]; rfl
        generalize hc2 : L ++ flagB m9 = l2 at *
        have hcb := hcn (mA.length : Int) l2 (by omega)
        have hl3 : (l2 ++ cntB (mA.length : Int)).length = L.length + 5 := by rw [List.length_append, cntB_len]; omega
        generalize hc3 : l2 ++ cntB (mA.length : Int) = l3 at *
        generalize hml : (mA.length : Int) = ml at *
        rw [hsL] at hfb
        generalize hs2 : stO l2 = st2 at *
        generalize hs3 : stO l3 = st3 at *
        cbv
        refine hfb.mono ?_
        rintro r st' ⟨rfl, rfl⟩
        cbv
        simp only [lE.trans hml]
        refine hcb.mono ?_
        rintro r st' ⟨rfl, rfl⟩
        cbv
        have hl3' : l3.length ≤ l.length + 48 := by omega
        have hbig : l.length + 1000000 ≤ 140737488355328 := hl
        refine wp_forS okX (by kernel_rfl) mA.length (fun j (L : List UInt8) => L = l3 ++ cat entB (mA.take j))
          (fun j _ => [(0, .ref 0 0), (3, .lp 3 0), (62, .sl false 3 mas), (63, .int .i64 (vl vv xlen mas)), (64, .int .i64 (j : Int))])
          (fun _ _ => [(3, [.int .i64 m1, .int .i64 m2, .int .i64 m3, .int .i64 m4, .int .i64 m5, .int .i64 m6, .int .i64 m7, .int .i64 m8, .bool m9, .sl false 3 mas, .int .i64 m11, .int .i64 m12, .sl false 1 mvs])])
          (fun _ L => stO L) l3 hs3.symm (List.append_nil l3).symm (fun _ _ => rfl) ⟨rfl, rfl, rfl, rfl, rfl, trivial⟩ ⟨rfl, trivial⟩ ?_
        rintro j L4 hj hpre4 K hK hKx
        have hl4 : L4.length ≤ l.length + 48200 := by
          have := cat_len entB 12020 mA (fun a ha => Nat.le_trans (entB_len a) (by have := hf2 a ha; omega)) j
          rw [hpre4, List.length_append]
          have : j * 12020 ≤ 4 * 12020 := Nat.mul_le_mul_right _ (by omega)
          omega
        generalize hjj : (j : Int) = k at *
        generalize hs4 : stO L4 = st4 at *
        cbv
        refine tst (fun h3 => ?_) (fun h3 => ?_)
        · have hjl := arX.inK hjj lE h3
          obtain ⟨a, ha⟩ := getE rfl hjl
          have ga := gE j a ha
          rw [hjj] at ga
          have hav := hf2 a (List.mem_of_getElem? ha)
          have hb := hen a L4 (by omega)
          have hnx : L4 ++ entB a = l3 ++ cat entB (mA.take (j + 1)) := by rw [cat_suc entB ha, hpre4, List.append_assoc]
          rw [hs4] at hb
          generalize hs5 : stO (L4 ++ entB a) = st5 at hb
          generalize hL5 : L4 ++ entB a = L5 at hnx hs5
          obtain ⟨v1, v2, v3⟩ := a
          unfold Ent.av at ga hb
          dsimp only at ga hb
          generalize bs v3 = vs at *
          cbv
          refine ⟨fun _ => inBK hjj lE hjl, ?_⟩
          simp only [ga]
          cbv
          refine hb.mono ?_
          rintro r st' ⟨rfl, rfl⟩
          cbv
          exact hK L5 _ _ _ hjl hnx ⟨rfl, rfl, rfl, rfl, congrArg (AV.int .i64) (arX.sucK hjj hm hjl), trivial⟩ ⟨rfl, trivial⟩ hs5.symm
        · have hje := arX.outK hjj lE h3 hj
          replace hpre4 : L4 = l3 ++ cat entB mA := by rw [hpre4, hje, List.take_length]
          clear hK hjj hj hje
          cbv
          refine hKx (.exit 4) _ _ _ (by simp) ?_
          clear hKx h3
          subst hml
          have hfin : l ++ (cat byB ks ++ (cat numB8 ns ++ (flagB m9 ++ (cntB (mA.length : Int) ++ (cat entB mA ++ cond (decide (m1 = 7)) (snapB ⟨m11, m12, mV⟩) []))))) = L4 ++ cond (decide (m1 = 7)) (snapB ⟨m11, m12, mV⟩) [] := by
            rw [hpre4, ← hc3, ← hc2, hpre2, hpre]
            simp only [List.append_assoc]
          replace hR : ∀ (r : AV) (st' : St), r = .tup [] ∧ st' = stO (l ++ (cat byB ks ++ (cat numB8 ns ++ (flagB m9 ++ (cntB (mA.length : Int) ++ (cat entB mA ++ cond (decide (m1 = 7)) (snapB ⟨m11, m12, mV⟩) [])))))) → R r st' := hR
          rw [hfin] at hR
          have hb := hsn ⟨m11, m12, mV⟩
          have e7 := arX.ieq m1 7
          cbv
          refine tst (fun h3 => ?_) (fun h3 => ?_)
          · rw [e7] at h3
            have hk7 : m1 = 7 := of_decide_eq_true h3
            have hb := hsn ⟨m11, m12, mV⟩ L4 (by have := hf3 hk7; show L4.length + mV.length + 48 ≤ _; omega)
            rw [h3] at hR
            replace hR : ∀ (r : AV) (st' : St), r = .tup [] ∧ st' = stO (L4 ++ snapB ⟨m11, m12, mV⟩) → R r st' := hR
            unfold Ent.av at hb
            dsimp only at hb
            rw [hs4, hmvs] at hb
            generalize stO (L4 ++ snapB ⟨m11, m12, mV⟩) = st6 at *
            cbv
            refine hb.mono ?_
            rintro r st' ⟨rfl, rfl⟩
            cbv
            exact hR _ _ ⟨rfl, rfl⟩
          · rw [e7] at h3
            rw [h3] at hR
            replace hR : ∀ (r : AV) (st' : St), r = .tup [] ∧ st' = stO (L4 ++ []) → R r st' := hR
            rw [List.append_nil, hs4] at hR
            cbv
            exact hR _ _ ⟨rfl, rfl⟩
end Go.V
