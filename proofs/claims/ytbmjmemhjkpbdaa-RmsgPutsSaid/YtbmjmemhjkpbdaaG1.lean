/- U0: this translation's configuration, with no pure function yet. -/
import Derived.Test.YtbmjmemhjkpbdaaVC
import Derived.Test.YtbmjmemhjkpbdaaVT
set_option linter.unusedVariables false
set_option linter.unusedSimpArgs false
namespace Go.V
open Go.Proofs
theorem ti_none (t : Nat) (h : 136 ≤ t) : ti t = none := by
  have hb : ∀ k, k ≤ 136 → Nat.blt t k = false := fun k hk => by
    cases hq : Nat.blt t k with
    | false => rfl
    | true => have : t < k := Nat.le_of_ble_eq_true hq; omega
  have he : Nat.beq t 135 = false := by
    cases hq : Nat.beq t 135 with
    | false => rfl
    | true => have := Nat.eq_of_beq_eq_true hq; omega
  unfold ti
  simp only [hb _ (show 64 ≤ 136 by decide), hb _ (show 135 ≤ 136 by decide)]
  repeat (first | rfl | rw [hb _ (by decide)] | rw [he])
theorem ti_eqf (t : Nat) (i : TInfo) (h : ti t = some i) : i.eqf = false := by
  have hall : ((List.range 136).all fun t => match ti t with | some i => !i.eqf | none => true) = true := by kernel_rfl
  by_cases hlt : t < 136
  · have := List.all_eq_true.1 hall t (List.mem_range.2 hlt)
    rw [h] at this
    simpa using this
  · rw [ti_none t (by omega)] at h; cases h
theorem ok_eq {C : Cf} (h : C.ti = ti) : EqOk Try.prog C := by
  intro t xs ys I σ vs us w op x y hq
  unfold Cf.eqf at hq
  rw [h] at hq
  split at hq
  · next i hi => rw [ti_eqf t i hi] at hq; cases hq
  · cases hq
theorem ok0 : Ok Try.prog (C0 std) where
  x := rfl
  ti := tiok_of 136 (by kernel_rfl) ti_none
  pf f p h := by cases h
  eq := ok_eq rfl
  mixed := by kernel_rfl
end Go.V

/- U1: first contracts. -/
namespace Go.V
open Go.Proofs
set_option maxRecDepth 100000
theorem VCalls.use {P : Program} {C : Cf} (hC : Ok P C) {f : Nat} {fn : Func} {c : Code} {args : List AV} {st : St} {R : AV → St → Prop} (hf : P.funcs[f]? = some fn) (hb : fn.body = some c) (hname : (fn.name == "runtime.NumGoroutine") = false)
    (hn : args.length ≤ fn.ntmps) (hk : codeOk fn.ntmps C c = true) (hv : ∀ R' : AV → St → Prop, (∀ r st, R r st → R' r st) → vfun P C fn args st R') : VCalls P f args st R :=
  VCalls.of_vfun hC hf hb hname hn hk (hv R fun _ _ h => h)
theorem not_lt (a b : Int) : (!decide (a < b)) = decide (b ≤ a) := by
  by_cases h : a < b
  · have : ¬ b ≤ a := by omega
    simp [h, this]
  · have : b ≤ a := by omega
    simp [h, this]
theorem number_c (n : Int) (st : St) : VCalls Try.prog 64 [.int .i64 n] st (fun r st' => r = .bool (decide (1 ≤ n) && decide (n ≤ 1099511627776)) ∧ st' = st) := by
  refine VCalls.use ok0 Try.func64 rfl (by rfl) (Nat.le_of_ble_eq_true rfl) (by kernel_rfl) fun R hR => ?_
  generalize Try.prog = P
  generalize hX : std = X
  cbv
  subst hX
  refine hR _ _ ⟨?_, rfl⟩
  simp only [std, not_lt, cond_eq_ite]
  congr 1
  cases decide (1 ≤ n) <;> simp
theorem node_c (n : Int) (st : St) : VCalls Try.prog 26 [.int .i64 n] st (fun r st' => r = .bool (decide (0 ≤ n) && decide (n < 3)) ∧ st' = st) := by
  refine VCalls.use ok0 Try.func26 rfl (by rfl) (Nat.le_of_ble_eq_true rfl) (by kernel_rfl) fun R hR => ?_
  generalize Try.prog = P
  generalize hX : std = X
  cbv
  subst hX
  refine hR _ _ ⟨?_, rfl⟩
  simp only [std, not_lt, cond_eq_ite]
  congr 1
  cases decide (0 ≤ n) <;> simp
/-- Bytes as a slice's elements. -/
def bs (l : List UInt8) : List AV := l.map u8
theorem bs_u8 (l : List UInt8) : AllU8 (bs l) := ⟨by unfold bs; induction l with | nil => rfl | cons b l ih => simpa only [List.map_cons, List.all_cons, isU8, u8, Bool.true_and] using ih⟩
theorem toU8_u8 (b : UInt8) : toU8 (u8 b) = b := by simp [toU8, u8]
theorem ofB_bs (l : List UInt8) : std .ofB (bs l) = l := by
  show (bs l).map toU8 = l
  unfold bs
  rw [List.map_map]
  conv => rhs; rw [← List.map_id l]
  exact List.map_congr_left fun b _ => toU8_u8 b
theorem len_bs (l : List UInt8) : std .len (bs l) = (l.length : Int) := by
  show ((bs l).length : Int) = l.length
  simp [bs]
theorem bytesEqual_c (a b : List UInt8) (st : St) : VCalls Try.prog 35 [.sl false 1 (bs a), .sl false 1 (bs b)] st (fun r st' => r = .bool (a == b) ∧ st' = st) := by
  refine VCalls.use ok0 Try.func35 rfl (by rfl) (Nat.le_of_ble_eq_true rfl) (by kernel_rfl) fun R hR => ?_
  generalize Try.prog = P
  generalize hX : std = X
  generalize ha : bs a = xs
  generalize hb : bs b = ys
  cbv
  subst hX ha hb
  refine ⟨fun _ => bs_u8 a, ⟨fun _ => bs_u8 b, hR _ _ ⟨?_, rfl⟩⟩⟩
  rw [ofB_bs, ofB_bs]
  rfl
end Go.V

/- U2: pure functions in a table. -/
namespace Go.V
open Go.Proofs
set_option maxRecDepth 100000
/-- What the pure functions of truth values ask and answer, behind names. -/
structure Pv where
  q : Nat → List AV → Prop
  b : Nat → List AV → Bool
def pfB (V : Pv) (fs : List Nat) (f : Nat) : Option PF := match fs with
  | [] => none
  | g :: r => match Nat.beq f g with
    | true => some ⟨V.q g, fun l => .bool (V.b g l)⟩
    | false => pfB V r f
def C1 (X : Ops) (V : Pv) : Cf := { C0 X with pf := pfB V [26, 64, 35] }
def intOf : AV → Int | .int _ n => n | _ => 0
def elsOf : AV → List AV | .sl _ _ es => es | _ => []
def V1 : Pv where
  q f l := match f with
    | 26 => ∃ n, l = [.int .i64 n]
    | 64 => ∃ n, l = [.int .i64 n]
    | 35 => ∃ a b, l = [.sl false 1 (bs a), .sl false 1 (bs b)]
    | _ => False
  b f l := match f, l with
    | 26, [x] => decide (0 ≤ intOf x) && decide (intOf x < 3)
    | 64, [x] => decide (1 ≤ intOf x) && decide (intOf x ≤ 1099511627776)
    | 35, [x, y] => (elsOf x).map toU8 == (elsOf y).map toU8
    | _, _ => false
theorem pfB_spec {V : Pv} : ∀ {fs : List Nat} {f : Nat} {p : PF}, pfB V fs f = some p → f ∈ fs ∧ p = ⟨V.q f, fun l => .bool (V.b f l)⟩
  | [], _, _, h => by cases h
  | g :: r, f, p, h => by
    unfold pfB at h
    split at h
    · next hb =>
      have := Nat.eq_of_beq_eq_true hb
      subst this
      exact ⟨by simp, (Option.some.inj h).symm⟩
    · obtain ⟨h1, h2⟩ := pfB_spec h
      exact ⟨by simp [h1], h2⟩
theorem ok1 : Ok Try.prog (C1 std V1) where
  x := rfl
  ti := ok0.ti
  eq := ok_eq rfl
  mixed := ok0.mixed
  pf f p h args hpre st := by
    obtain ⟨hm, rfl⟩ := pfB_spec h
    simp only [List.mem_cons, List.not_mem_nil, or_false] at hm
    rcases hm with rfl | rfl | rfl
    · obtain ⟨n, rfl⟩ := hpre
      exact node_c n st
    · obtain ⟨n, rfl⟩ := hpre
      exact number_c n st
    · obtain ⟨a, b, rfl⟩ := hpre
      refine (bytesEqual_c a b st).mono ?_
      rintro r st' ⟨rfl, rfl⟩
      refine ⟨?_, rfl⟩
      have ha := ofB_bs a
      have hb := ofB_bs b
      show AV.bool (a == b) = .bool (std .ofB (bs a) == std .ofB (bs b))
      rw [ha, hb]
structure Ent where
  x : Int
  y : Int
  v : List UInt8
  deriving DecidableEq
def Ent.av (t : Ent) : AV := .agg [.int .i64 t.x, .int .i64 t.y, .sl false 1 (bs t.v)]
theorem entSame_c (a b : Ent) (st : St) : VCalls Try.prog 68 [a.av, b.av] st (fun r st' => r = .bool (decide (a = b)) ∧ st' = st) := by
  obtain ⟨a1, a2, a3⟩ := a
  obtain ⟨b1, b2, b3⟩ := b
  refine VCalls.use ok1 Try.func68 rfl (by rfl) (Nat.le_of_ble_eq_true rfl) (by kernel_rfl) fun R hR => ?_
  unfold Ent.av
  dsimp only
  generalize Try.prog = P
  generalize hX : std = X
  generalize hV : V1 = V
  generalize ha : bs a3 = xs
  generalize hb : bs b3 = ys
  cbv
  subst hX hV ha hb
  refine ⟨fun _ => ⟨a3, b3, rfl⟩, hR _ _ ⟨?_, rfl⟩⟩
  have : V1.b 35 [.sl false 1 (bs a3), .sl false 1 (bs b3)] = (a3 == b3) := by
    show (std .ofB (bs a3) == std .ofB (bs b3)) = _
    rw [ofB_bs, ofB_bs]
  show AV.bool (std .pick (std .pick (decide (a1 = b1)) (decide (a2 = b2)) false) (V1.b 35 [.sl false 1 (bs a3), .sl false 1 (bs b3)]) false) = _
  rw [this]
  simp only [std, cond_eq_ite, Ent.mk.injEq]
  congr 1
  by_cases h1 : a1 = b1 <;> by_cases h2 : a2 = b2 <;> by_cases h3 : a3 = b3 <;> simp [h1, h2, h3]
end Go.V

/- U3: the first loop. -/
namespace Go.V
open Go.Proofs
set_option maxRecDepth 100000
def envL : List (Nat × AV) → Env
  | [] => fun _ => .undef
  | (t, v) :: r => upd (envL r) t v
theorem envL_less {e : Env} {bx : Bx} : ∀ {L : List (Nat × AV)}, (∀ p ∈ L, e p.1 = p.2 ∧ noLp p.2 = true) → Less (envL L) e (fun _ => none) bx := by
  intro L h
  have h1 : ∀ t, envL L t = .undef ∨ (envL L t = e t ∧ noLp (e t) = true) := by
    induction L with
    | nil => intro t; exact .inl rfl
    | cons p r ih =>
      intro t
      obtain ⟨u, v⟩ := p
      unfold envL
      by_cases ht : t = u
      · subst ht
        rw [upd_same]
        have := h (t, v) (by simp)
        exact .inr ⟨this.1.symm, by rw [this.1]; exact this.2⟩
      · rw [upd_other _ _ ht]
        exact ih (fun p hp => h p (by simp [hp])) t
  refine ⟨fun t => ?_, fun b => .inl rfl, fun t b o ht => ?_⟩
  · rcases h1 t with h | h
    · exact .inl h
    · exact .inr h.1
  · rcases h1 t with h | ⟨h, h2⟩
    · rw [h] at ht; cases ht
    · rw [← h, ht] at h2; cases h2
theorem len_map (A : List Ent) : std .len (A.map Ent.av) = (A.length : Int) := by
  show ((A.map Ent.av).length : Int) = _
  simp
theorem get_map {A : List Ent} {j : Nat} {a : Ent} (h : A[j]? = some a) : std .get (A.map Ent.av) (j : Int) = a.av := by
  show (A.map Ent.av).getD (j : Int).toNat .undef = _
  simp [List.getD, h]
theorem i64_succ {j : Nat} (h : (j : Int) + 1 ≤ 9223372036854775807) : std .ar .add .i64 (j : Int) 1 = ((j + 1 : Nat) : Int) := by
  show IntKind.wrap .i64 ((j : Int) + 1) = _
  have h1 : (0 : Int) ≤ (j : Int) := by omega
  have : IntKind.i64.wrap ((j : Int) + 1) = (j : Int) + 1 := by
    have e1 : ((j : Int) + 1) % 18446744073709551616 = (j : Int) + 1 := Int.emod_eq_of_lt (by omega) (by omega)
    have e2 : (2 : Int) ^ IntKind.i64.bits = 18446744073709551616 := by decide
    have e3 : (2 : Int) ^ (IntKind.i64.bits - 1) = 9223372036854775808 := by decide
    unfold IntKind.wrap
    rw [e2, e3, e1]
    have e4 : decide ((j : Int) + 1 ≥ 9223372036854775808) = false := decide_eq_false (by omega)
    simp only [e4, Bool.and_false]
    rfl
  rw [this]; omega
theorem equalFunc_c (A B : List Ent) (hA : (A.length : Int) ≤ 9223372036854775807) (st : St) : VCalls Try.prog 67 [.sl false 3 (A.map Ent.av), .sl false 3 (B.map Ent.av), .fn 68 [] []] st (fun r st' => r = .bool (decide (A = B)) ∧ st' = st) := by
  refine VCalls.use ok1 Try.func67 rfl (by rfl) (Nat.le_of_ble_eq_true rfl) (by kernel_rfl) fun R hR => ?_
  have hlA := len_map A
  have hlB := len_map B
  have hgA := fun (j : Nat) (a : Ent) (h : A[j]? = some a) => get_map h
  have hgB := fun (j : Nat) (a : Ent) (h : B[j]? = some a) => get_map h
  have hent := entSame_c
  have hieq : ∀ a b : Int, std .ieq a b = decide (a = b) := fun _ _ => rfl
  have hnot : ∀ a : Bool, std .not a = !a := fun _ => rfl
  have hltx : ∀ a b : Int, std .lt a b = decide (a < b) := fun _ _ => rfl
  have hsuc := @i64_succ
  have okX := ok1
  generalize Try.prog = P at *
  generalize std = X at *
  generalize V1 = V at *
  generalize A.map Ent.av = xs at *
  generalize B.map Ent.av = ys at *
  cbv
  cases hc : X .not (X .ieq (X .len xs) (X .len ys))
  · have hlen : A.length = B.length := by
      rw [hnot, hieq, hlA, hlB] at hc
      have : ((A.length : Int) = B.length) := by simpa using hc
      omega
    cbv
    refine Wp.weaken (e' := envL [(0, .sl false 3 xs), (1, .sl false 3 ys), (2, .fn 68 [] []), (15, .sl false 3 xs), (16, .int .i64 (X .len xs)), (17, .int .i64 0)]) (bx' := fun _ => none) ?_ (envL_less ?_)
    · refine wp_loop_inv (fun m e bx s => ∃ j : Nat, m = A.length - j ∧ j ≤ A.length ∧ (∀ i, i < j → A[i]? = B[i]?) ∧ e = envL [(0, .sl false 3 xs), (1, .sl false 3 ys), (2, .fn 68 [] []), (15, .sl false 3 xs), (16, .int .i64 (X .len xs)), (17, .int .i64 (j : Int))] ∧ bx = (fun _ => none) ∧ s = st) ?_ A.length _ _ _ ⟨0, rfl, Nat.zero_le _, fun i hi => absurd hi (by omega), rfl, rfl, rfl⟩
      rintro m e bx s ⟨j, rfl, hj, hpre, rfl, rfl, rfl⟩
      refine wp_of_vwp (C := C1 X V) okX (by kernel_rfl) ?_
      generalize hjj : (j : Int) = k
      cbv
      cases hk : X .lt k (X .len xs)
      · cbv
        refine hR _ _ ⟨?_, rfl⟩
        rw [hltx, hlA, ← hjj] at hk
        have hje : j = A.length := by
          have : ¬ ((j : Int) < A.length) := by simpa using hk
          omega
        have : A = B := by
          apply List.ext_getElem?
          intro i
          by_cases hi : i < A.length
          · exact hpre i (by omega)
          · rw [List.getElem?_eq_none (by omega), List.getElem?_eq_none (by omega)]
        rw [decide_eq_true this]
      · cbv
        rw [hltx, hlA, ← hjj] at hk
        have hjl : j < A.length := by
          have : ((j : Int) < A.length) := by simpa using hk
          omega
        obtain ⟨a, ha⟩ : ∃ a, A[j]? = some a := ⟨A[j], List.getElem?_eq_getElem hjl⟩
        obtain ⟨b, hb⟩ : ∃ b, B[j]? = some b := ⟨B[j]'(by omega), List.getElem?_eq_getElem (by omega)⟩
        have ga := hgA j a ha
        have gb := hgB j b hb
        rw [hjj] at ga gb
        have hk0 : (0 : Int) ≤ k := by rw [← hjj]; exact Int.natCast_nonneg j
        have hkA : k < (A.length : Int) := by rw [← hjj]; exact Int.ofNat_lt.2 hjl
        have hkB : k < (B.length : Int) := by rw [← hlen]; exact hkA
        refine ⟨fun _ => ⟨hk0, by rw [hlA]; exact hkA⟩, ?_⟩
        simp only [ga]
        obtain ⟨a1, a2, a3⟩ := a
        obtain ⟨b1, b2, b3⟩ := b
        have he := fun st => hent ⟨a1, a2, a3⟩ ⟨b1, b2, b3⟩ st
        unfold Ent.av at ga gb he ⊢
        dsimp only at ga gb he ⊢
        generalize bs a3 = va at *
        generalize bs b3 = vb at *
        cbv
        refine ⟨fun _ => ⟨hk0, by rw [hlB]; exact hkB⟩, ?_⟩
        simp only [gb]
        cbv
        refine (he s).mono ?_
        rintro r st' ⟨rfl, rfl⟩
        generalize hq : decide ((⟨a1, a2, a3⟩ : Ent) = ⟨b1, b2, b3⟩) = qq
        cbv
        cases hn : X .not qq
        · have hab : (⟨a1, a2, a3⟩ : Ent) = ⟨b1, b2, b3⟩ := by
            rw [hnot] at hn
            rw [← hq] at hn
            simpa using hn
          have hs : X .ar .add .i64 k 1 = ((j + 1 : Nat) : Int) := by
            rw [← hjj]
            exact hsuc (by have := hkA; rw [← hjj] at this; omega)
          refine ⟨A.length - (j + 1), envL [(0, .sl false 3 xs), (1, .sl false 3 ys), (2, .fn 68 [] []), (15, .sl false 3 xs), (16, .int .i64 (X .len xs)), (17, .int .i64 ((j + 1 : Nat) : Int))], fun _ => none, by omega, envL_less ?_, j + 1, rfl, by omega, ?_, rfl, rfl, rfl⟩
          · intro p hp
            simp only [List.mem_cons, List.not_mem_nil, or_false] at hp
            rcases hp with rfl | rfl | rfl | rfl | rfl | rfl
            · exact ⟨rfl, rfl⟩
            · exact ⟨rfl, rfl⟩
            · exact ⟨rfl, rfl⟩
            · exact ⟨rfl, rfl⟩
            · exact ⟨rfl, rfl⟩
            · refine ⟨?_, rfl⟩
              show AV.int .i64 (X .ar .add .i64 k 1) = .int .i64 ((j + 1 : Nat) : Int)
              rw [hs]
          · intro i hi
            rcases Nat.lt_or_ge i j with h | h
            · exact hpre i h
            · have : i = j := by omega
              subst this
              rw [ha, hb, hab]
        · cbv
          refine hR _ _ ⟨?_, rfl⟩
          have hne : ¬ A = B := by
            rintro rfl
            rw [ha] at hb
            have := Option.some.inj hb
            rw [hnot, ← hq, this] at hn
            simp at hn
          rw [decide_eq_false hne]
          rfl
    · intro p hp
      simp only [List.mem_cons, List.not_mem_nil, or_false] at hp
      rcases hp with rfl | rfl | rfl | rfl | rfl | rfl <;> exact ⟨rfl, rfl⟩
  · cbv
    refine hR _ _ ⟨?_, rfl⟩
    rw [hnot, hieq, hlA, hlB] at hc
    have : ¬ A = B := by
      rintro rfl
      simp at hc
    rw [decide_eq_false this]
end Go.V

/- U4: equality of entries' lists. -/
namespace Go.V
open Go.Proofs
set_option maxRecDepth 100000
theorem entsSame_c (A B : List Ent) (hA : (A.length : Int) ≤ 9223372036854775807) (st : St) : VCalls Try.prog 34 [.sl false 3 (A.map Ent.av), .sl false 3 (B.map Ent.av)] st (fun r st' => r = .bool (decide (A = B)) ∧ st' = st) := by
  refine VCalls.use ok1 Try.func34 rfl (by rfl) (Nat.le_of_ble_eq_true rfl) (by kernel_rfl) fun R hR => ?_
  have hc := equalFunc_c A B hA
  have okX := ok1
  generalize Try.prog = P at *
  generalize std = X at *
  generalize V1 = V at *
  generalize A.map Ent.av = xs at *
  generalize B.map Ent.av = ys at *
  cbv
  refine (hc st).mono ?_
  rintro r st' ⟨rfl, rfl⟩
  generalize decide (A = B) = q at *
  cbv
  exact hR _ _ ⟨rfl, rfl⟩
end Go.V

/- U5: the table grows: entries. -/
namespace Go.V
open Go.Proofs
set_option maxRecDepth 100000
def entOf : AV → Ent
  | .agg [.int _ x, .int _ y, .sl _ _ es] => ⟨x, y, es.map toU8⟩
  | _ => ⟨0, 0, []⟩
theorem entOf_av (a : Ent) : entOf a.av = a := by
  obtain ⟨x, y, v⟩ := a
  show (⟨x, y, (bs v).map toU8⟩ : Ent) = _
  have := ofB_bs v
  have h : (bs v).map toU8 = v := this
  rw [h]
theorem ents_map (A : List Ent) : (A.map Ent.av).map entOf = A := by
  rw [List.map_map]
  conv => rhs; rw [← List.map_id A]
  exact List.map_congr_left fun a _ => entOf_av a
def numB (n : Int) : Bool := decide (1 ≤ n) && decide (n ≤ 1099511627776)
def Ent.right (a : Ent) : Bool := numB a.x && numB a.y && decide ((a.v.length : Int) ≤ 12000)
def V2 : Pv where
  q f l := match f with
    | 34 => ∃ A B : List Ent, (A.length : Int) ≤ 9223372036854775807 ∧ l = [.sl false 3 (A.map Ent.av), .sl false 3 (B.map Ent.av)]
    | 63 => ∃ a : Ent, l = [a.av]
    | f => V1.q f l
  b f l := match f, l with
    | 34, [x, y] => decide ((elsOf x).map entOf = (elsOf y).map entOf)
    | 63, [x] => (entOf x).right
    | f, l => V1.b f l
def pfC (q : Nat → List AV → Prop) (b : Nat → List AV → Bool) (fs : List Nat) (f : Nat) : Option PF := match fs with
  | [] => none
  | g :: r => match Nat.beq f g with
    | true => some ⟨q g, fun l => .bool (b g l)⟩
    | false => pfC q b r f
def Ci (fs : List Nat) (X : Ops) (q : Nat → List AV → Prop) (b : Nat → List AV → Bool) : Cf := { C0 X with pf := pfC q b fs }
/-- A configuration with one more pure function. -/
theorem ok_cons {fs : List Nat} {V : Pv} {f : Nat} (h : Ok Try.prog (Ci fs std V.q V.b)) (hf : ∀ l, V.q f l → ∀ st, VCalls Try.prog f l st (fun r st' => r = .bool (V.b f l) ∧ st' = st)) : Ok Try.prog (Ci (f :: fs) std V.q V.b) where
  x := rfl
  ti := h.ti
  eq := ok_eq rfl
  mixed := h.mixed
  pf g p hp args hpre st := by
    have hp : pfC V.q V.b (f :: fs) g = some p := hp
    unfold pfC at hp
    split at hp
    · next hb =>
      have := Nat.eq_of_beq_eq_true hb
      subst this
      cases hp
      exact hf args hpre st
    · exact h.pf g p hp args hpre st
theorem ok_nil {V : Pv} : Ok Try.prog (Ci [] std V.q V.b) where
  x := rfl
  ti := ok0.ti
  eq := ok_eq rfl
  mixed := ok0.mixed
  pf g p hp := by cases hp
theorem ok2 : Ok Try.prog (Ci [35, 64, 26] std V2.q V2.b) := by
  refine ok_cons (ok_cons (ok_cons ok_nil ?_) ?_) ?_
  · intro l hl st; obtain ⟨n, rfl⟩ := hl; exact node_c n st
  · intro l hl st; obtain ⟨n, rfl⟩ := hl; exact number_c n st
  · intro l hl st
    exact ok1.pf 35 _ rfl l hl st
theorem entRight_c (a : Ent) (st : St) : VCalls Try.prog 63 [a.av] st (fun r st' => r = .bool a.right ∧ st' = st) := by
  obtain ⟨x, y, v⟩ := a
  refine VCalls.use ok2 Try.func63 rfl (by rfl) (Nat.le_of_ble_eq_true rfl) (by kernel_rfl) fun R hR => ?_
  unfold Ent.av
  dsimp only
  have hlen := len_bs v
  generalize Try.prog = P
  generalize hX : std = X at *
  generalize hq : V2.q = Q
  generalize hV : V2.b = V
  generalize hv : bs v = xs at *
  cbv
  subst hX hV hq
  refine ⟨fun _ => ⟨x, rfl⟩, ⟨fun _ => ⟨y, rfl⟩, hR _ _ ⟨?_, rfl⟩⟩⟩
  rw [hlen]
  show AV.bool (std .pick (std .pick (numB x) (numB y) false) (std .not (std .lt 12000 (v.length : Int))) false) = _
  unfold Ent.right
  simp only [std, not_lt, cond_eq_ite]
  congr 1
  cases numB x <;> cases numB y <;> simp
end Go.V

/- U6: messages of rmsg: equality. -/
namespace Go.V
open Go.Proofs
set_option maxRecDepth 100000
theorem ok3 : Ok Try.prog (Ci [34, 63, 35, 64, 26] std V2.q V2.b) := by
  refine ok_cons (ok_cons ok2 ?_) ?_
  · intro l hl st
    obtain ⟨a, rfl⟩ := hl
    refine (entRight_c a st).mono ?_
    rintro r st' ⟨rfl, rfl⟩
    refine ⟨?_, rfl⟩
    show AV.bool a.right = .bool (entOf a.av).right
    rw [entOf_av]
  · intro l hl st
    obtain ⟨A, B, hA, rfl⟩ := hl
    refine (entsSame_c A B hA st).mono ?_
    rintro r st' ⟨rfl, rfl⟩
    refine ⟨?_, rfl⟩
    show AV.bool (decide (A = B)) = .bool (decide ((A.map Ent.av).map entOf = (B.map Ent.av).map entOf))
    rw [ents_map, ents_map]
/-- A message's fields. -/
structure Msg where
  kind : Int
  frm : Int
  to : Int
  term : Int
  a : Int
  b : Int
  c : Int
  d : Int
  yes : Bool
  ents : List Ent
  si : Int
  st : Int
  sv : List UInt8
  deriving DecidableEq
def Msg.av (m : Msg) : AV := .agg [.int .i64 m.kind, .int .i64 m.frm, .int .i64 m.to, .int .i64 m.term, .int .i64 m.a, .int .i64 m.b, .int .i64 m.c, .int .i64 m.d, .bool m.yes, .sl false 3 (m.ents.map Ent.av), .int .i64 m.si, .int .i64 m.st, .sl false 1 (bs m.sv)]
theorem msgSame_c (m k : Msg) (hm : (m.ents.length : Int) ≤ 9223372036854775807) (st : St) : VCalls Try.prog 12 [m.av, k.av] st (fun r st' => r = .bool (decide (m = k)) ∧ st' = st) := by
  obtain ⟨m1, m2, m3, m4, m5, m6, m7, m8, m9, mA, m11, m12, mV⟩ := m
  obtain ⟨k1, k2, k3, k4, k5, k6, k7, k8, k9, kA, k11, k12, kV⟩ := k
  refine VCalls.use ok3 Try.func12 rfl (by rfl) (Nat.le_of_ble_eq_true rfl) (by kernel_rfl) fun R hR => ?_
  unfold Msg.av
  dsimp only at hm ⊢
  generalize Try.prog = P
  generalize hX : std = X
  generalize hq : V2.q = Q
  generalize hV : V2.b = V
  generalize hme : mA.map Ent.av = mes
  generalize hke : kA.map Ent.av = kes
  generalize hmv : bs mV = mvs
  generalize hkv : bs kV = kvs
  cbv
  subst hX hV hq hme hke hmv hkv
  refine ⟨fun _ => ⟨mA, kA, hm, rfl⟩, ⟨fun _ => ⟨mV, kV, rfl⟩, hR _ _ ⟨?_, rfl⟩⟩⟩
  have e1 : V2.b 34 [.sl false 3 (mA.map Ent.av), .sl false 3 (kA.map Ent.av)] = decide (mA = kA) := by
    show decide ((mA.map Ent.av).map entOf = (kA.map Ent.av).map entOf) = _
    rw [ents_map, ents_map]
  have e2 : V2.b 35 [.sl false 1 (bs mV), .sl false 1 (bs kV)] = decide (mV = kV) := by
    show (std .ofB (bs mV) == std .ofB (bs kV)) = _
    rw [ofB_bs, ofB_bs]
    by_cases h : mV = kV <;> simp [h]
  have pf : ∀ a b : Bool, std .pick a b false = (a && b) := fun a b => by cases a <;> rfl
  have ie : ∀ a b : Int, std .ieq a b = decide (a = b) := fun _ _ => rfl
  have be : ∀ a b : Bool, std .beq a b = decide (a = b) := fun a b => by cases a <;> cases b <;> rfl
  simp only [pf, ie, be]
  rw [e1, e2]
  congr 1
  simp only [Msg.mk.injEq, Bool.decide_and, Bool.and_assoc]
end Go.V

/- U7: snapshots; copies of bytes. -/
namespace Go.V
open Go.Proofs
set_option maxRecDepth 100000
def snapRight (x y : Int) (n : Int) : Bool := if x = 0 ∧ y = 0 then decide (n = 0) else numB x && numB y && decide (n ≤ 50000)
theorem snapRight_c (x y : Int) (v : List UInt8) (st : St) : VCalls Try.prog 29 [.agg [.int .i64 x, .int .i64 y, .sl false 1 (bs v)]] st (fun r st' => r = .bool (snapRight x y v.length) ∧ st' = st) := by
  refine VCalls.use ok3 Try.func29 rfl (by rfl) (Nat.le_of_ble_eq_true rfl) (by kernel_rfl) fun R hR => ?_
  have hlen := len_bs v
  have pf : ∀ a b : Bool, std .pick a b false = (a && b) := fun a b => by cases a <;> rfl
  have ie : ∀ a b : Int, std .ieq a b = decide (a = b) := fun _ _ => rfl
  have nb : ∀ n, V2.b 64 [.int .i64 n] = numB n := fun n => rfl
  have nq : ∀ n, V2.q 64 [.int .i64 n] := fun n => ⟨n, rfl⟩
  have lt : ∀ a b : Int, std .not (std .lt a b) = decide (b ≤ a) := fun a b => not_lt a b
  generalize Try.prog = P
  generalize std = X at *
  generalize V2.q = Q at *
  generalize V2.b = V at *
  generalize bs v = xs at *
  cbv
  cases hc : X .pick (X .ieq x 0) (X .ieq y 0) false
  · cbv
    refine ⟨fun _ => nq x, ⟨fun _ => nq y, hR _ _ ⟨?_, rfl⟩⟩⟩
    rw [pf, ie, ie] at hc
    have hn : ¬ (x = 0 ∧ y = 0) := by
      rintro ⟨rfl, rfl⟩
      simp at hc
    unfold snapRight
    rw [if_neg hn, ← nb x, ← nb y, ← lt, ← pf, ← pf, hlen]
  · cbv
    refine hR _ _ ⟨?_, rfl⟩
    rw [pf, ie, ie] at hc
    have hn : x = 0 ∧ y = 0 := by simpa using hc
    unfold snapRight
    rw [if_pos hn, ← ie, hlen]
end Go.V

/- U8: roots of pointers; runs of entries. -/
namespace Go.V
open Go.Proofs
set_option maxRecDepth 100000
def rtL : List (Nat × Nat) → Nat → Nat
  | [], t => t
  | (a, b) :: r, t => match Nat.beq t a with | true => b | false => rtL r t
def wRt (C : Cf) (m : List (Nat × Nat)) : Cf := { C with rt := rtL m }
theorem ok_rt {C : Cf} (h : Ok Try.prog C) (m : List (Nat × Nat)) : Ok Try.prog (wRt C m) := { x := h.x, ti := h.ti, pf := h.pf, eq := h.eq, mixed := h.mixed }
theorem run_ok : codeOk Try.f28.ntmps (wRt (Ci [34, 63, 35, 64, 26] std V2.q V2.b) [(31, 8), (33, 8)]) (Try.f28.body.getD .skip) = true := by kernel_rfl
theorem keep_ok : codeOk Try.f25.ntmps (wRt (Ci [34, 63, 35, 64, 26] std V2.q V2.b) [(20, 1), (22, 1), (24, 4), (25, 4), (34, 1), (36, 1), (38, 1), (40, 1), (42, 1), (44, 4), (45, 4), (46, 4), (47, 4), (48, 4), (51, 1), (53, 1), (55, 1), (57, 4), (58, 4), (59, 4)]) (Try.f25.body.getD .skip) = true := by kernel_rfl

def Msg.bare (m : Msg) : Msg := { kind := m.kind, frm := m.frm, to := m.to, term := m.term, a := 0, b := 0, c := 0, d := 0, yes := false, ents := [], si := 0, st := 0, sv := [] }
def Msg.zero : Msg := { kind := 0, frm := 0, to := 0, term := 0, a := 0, b := 0, c := 0, d := 0, yes := false, ents := [], si := 0, st := 0, sv := [] }
/-- What a message of its kind has. -/
def keep (m : Msg) : Msg × Bool :=
  if m.kind = 1 ∨ m.kind = 3 then ({ m.bare with a := m.a, b := m.b }, true)
  else if m.kind = 2 ∨ m.kind = 4 then ({ m.bare with yes := m.yes }, true)
  else if m.kind = 5 then ({ m.bare with a := m.a, b := m.b, c := m.c, d := m.d, ents := m.ents }, true)
  else if m.kind = 6 then ({ m.bare with yes := m.yes, a := m.a, d := m.d }, true)
  else if m.kind = 7 then ({ m.bare with si := m.si, st := m.st, sv := m.sv }, true)
  else (Msg.zero, false)
theorem keep_c (m : Msg) (st : St) : VCalls Try.prog 25 [m.av] st (fun r st' => r = .tup [(keep m).1.av, .bool (keep m).2] ∧ st' = st) := by
  obtain ⟨m1, m2, m3, m4, m5, m6, m7, m8, m9, mA, m11, m12, mV⟩ := m
  refine VCalls.use (ok_rt ok3 [(20, 1), (22, 1), (24, 4), (25, 4), (34, 1), (36, 1), (38, 1), (40, 1), (42, 1), (44, 4), (45, 4), (46, 4), (47, 4), (48, 4), (51, 1), (53, 1), (55, 1), (57, 4), (58, 4), (59, 4)]) Try.func25 rfl (by rfl) (Nat.le_of_ble_eq_true rfl) keep_ok fun R hR => ?_
  have ie : ∀ a b : Int, std .ieq a b = decide (a = b) := fun _ _ => rfl
  generalize hk : keep _ = kk at hR
  unfold Msg.av at hR ⊢
  dsimp only at hR ⊢
  unfold keep Msg.bare Msg.zero at hk
  dsimp only at hk
  generalize Try.prog = P
  generalize std = X at *
  generalize V2.q = Q at *
  generalize V2.b = V at *
  have hnil : ([] : List Ent).map Ent.av = [] := rfl
  have hbn : bs [] = [] := rfl
  generalize hma : mA.map Ent.av = mas at *
  generalize hmv : bs mV = mvs at *
  cbv
  cases h1 : X .ieq m1 1
  · cbv
    cases h3 : X .ieq m1 3
    · have n1 : ¬ (m1 = 1 ∨ m1 = 3) := by
        rw [ie] at h1 h3
        have h1 := of_decide_eq_false h1
        have h3 := of_decide_eq_false h3
        exact fun h => h.elim h1 h3
      rw [if_neg n1] at hk
      cbv
      cases h2 : X .ieq m1 2
      · cbv
        cases h4 : X .ieq m1 4
        · have n2 : ¬ (m1 = 2 ∨ m1 = 4) := by
            rw [ie] at h2 h4
            have h1 := of_decide_eq_false h2
            have h3 := of_decide_eq_false h4
            exact fun h => h.elim h1 h3
          rw [if_neg n2] at hk
          cbv
          cases h5 : X .ieq m1 5
          · have n5 : ¬ m1 = 5 := by rw [ie] at h5; exact of_decide_eq_false h5
            rw [if_neg n5] at hk
            cbv
            cases h6 : X .ieq m1 6
            · have n6 : ¬ m1 = 6 := by rw [ie] at h6; exact of_decide_eq_false h6
              rw [if_neg n6] at hk
              cbv
              cases h7 : X .ieq m1 7
              · have n7 : ¬ m1 = 7 := by rw [ie] at h7; exact of_decide_eq_false h7
                rw [if_neg n7] at hk
                cbv
                subst hk hma hmv
                exact hR _ _ ⟨rfl, rfl⟩
              · have n7 : m1 = 7 := by rw [ie] at h7; exact of_decide_eq_true h7
                rw [if_pos n7] at hk
                cbv
                subst hk hma hmv
                exact hR _ _ ⟨rfl, rfl⟩
            · have n6 : m1 = 6 := by rw [ie] at h6; exact of_decide_eq_true h6
              rw [if_pos n6] at hk
              cbv
              subst hk hma hmv
              exact hR _ _ ⟨rfl, rfl⟩
          · have n5 : m1 = 5 := by rw [ie] at h5; exact of_decide_eq_true h5
            rw [if_pos n5] at hk
            cbv
            subst hk hma hmv
            exact hR _ _ ⟨rfl, rfl⟩
        · have n2 : m1 = 2 ∨ m1 = 4 := by rw [ie] at h4; exact .inr (of_decide_eq_true h4)
          rw [if_pos n2] at hk
          cbv
          subst hk hma hmv
          exact hR _ _ ⟨rfl, rfl⟩
      · have n2 : m1 = 2 ∨ m1 = 4 := by rw [ie] at h2; exact .inl (of_decide_eq_true h2)
        rw [if_pos n2] at hk
        cbv
        subst hk hma hmv
        exact hR _ _ ⟨rfl, rfl⟩
    · cbv
      rw [ie] at h3
      have h3 : m1 = 3 := by simpa using h3
      rw [if_pos (.inr h3)] at hk
      subst hk
      exact hR _ _ ⟨rfl, rfl⟩
  · cbv
    rw [ie] at h1
    have h1 : m1 = 1 := by simpa using h1
    rw [if_pos (.inl h1)] at hk
    subst hk
    exact hR _ _ ⟨rfl, rfl⟩
end Go.V

/- U9: numbers in range; runs of entries. -/
namespace Go.V
open Go.Proofs
set_option maxRecDepth 100000
def okNum (n : Int) : Bool := decide (0 ≤ n) && decide (n ≤ 1099511627776)
theorem numbers_c (L : List Int) (hL : (L.length : Int) ≤ 9223372036854775807) (st : St) : VCalls Try.prog 27 [.sl false 1 (L.map (AV.int .i64))] st (fun r st' => r = .bool (L.all okNum) ∧ st' = st) := by
  refine VCalls.use ok3 Try.func27 rfl (by rfl) (Nat.le_of_ble_eq_true rfl) (by kernel_rfl) fun R hR => ?_
  have hlen : std .len (L.map (AV.int .i64)) = (L.length : Int) := by
    show ((L.map (AV.int .i64)).length : Int) = _
    simp
  have hget : ∀ (j : Nat) (a : Int), L[j]? = some a → std .get (L.map (AV.int .i64)) (j : Int) = .int .i64 a := by
    intro j a h
    show (L.map (AV.int .i64)).getD (j : Int).toNat .undef = _
    simp [List.getD, h]
  have hltx : ∀ a b : Int, std .lt a b = decide (a < b) := fun _ _ => rfl
  have hpk : ∀ a b : Bool, std .pick a true b = (a || b) := fun a b => by cases a <;> rfl
  have hsuc := @i64_succ
  have okX := ok3
  generalize Try.prog = P at *
  generalize std = X at *
  generalize V2.q = Q at *
  generalize V2.b = V at *
  generalize L.map (AV.int .i64) = xs at *
  cbv
  refine Wp.weaken (e' := envL [(5, .sl false 1 xs), (6, .int .i64 (X .len xs)), (7, .int .i64 0)]) (bx' := fun _ => none) ?_ (envL_less ?_)
  · refine wp_loop_inv (fun m e bx s => ∃ j : Nat, m = L.length - j ∧ j ≤ L.length ∧ (∀ (i : Nat) (a : Int), i < j → L[i]? = some a → okNum a = true) ∧ e = envL [(5, .sl false 1 xs), (6, .int .i64 (X .len xs)), (7, .int .i64 (j : Int))] ∧ bx = (fun _ => none) ∧ s = st) ?_ L.length _ _ _ ⟨0, rfl, Nat.zero_le _, fun i a hi => absurd hi (by omega), rfl, rfl, rfl⟩
    rintro m e bx s ⟨j, rfl, hj, hpre, rfl, rfl, rfl⟩
    refine wp_of_vwp (C := Ci [34, 63, 35, 64, 26] X Q V) okX (by kernel_rfl) ?_
    generalize hjj : (j : Int) = k
    cbv
    cases hk : X .lt k (X .len xs)
    · cbv
      refine hR _ _ ⟨?_, rfl⟩
      rw [hltx, hlen, ← hjj] at hk
      have hje : j = L.length := by
        have : ¬ ((j : Int) < L.length) := of_decide_eq_false hk
        omega
      congr 1
      symm
      rw [List.all_eq_true]
      intro a ha
      obtain ⟨i, hi⟩ := List.getElem?_of_mem ha
      exact hpre i a (by have := (List.getElem?_eq_some_iff.1 hi).1; omega) hi
    · cbv
      rw [hltx, hlen, ← hjj] at hk
      have hjl : j < L.length := by
        have : ((j : Int) < L.length) := of_decide_eq_true hk
        omega
      have hg := hget j L[j] (List.getElem?_eq_getElem hjl)
      have hgl : L[j]? = some L[j] := List.getElem?_eq_getElem hjl
      generalize L[j] = a at hg hgl
      rw [hjj] at hg
      have hk0 : (0 : Int) ≤ k := by rw [← hjj]; exact Int.natCast_nonneg j
      have hkA : k < (L.length : Int) := by rw [← hjj]; exact Int.ofNat_lt.2 hjl
      refine ⟨fun _ => ⟨hk0, by rw [hlen]; exact hkA⟩, ?_⟩
      simp only [hg]
      cbv
      cases hn : X .pick (X .lt a 0) true (X .lt 1099511627776 a)
      · have hs : X .ar .add .i64 k 1 = ((j + 1 : Nat) : Int) := by
          rw [← hjj]
          exact hsuc (by have := hkA; rw [← hjj] at this; omega)
        refine ⟨L.length - (j + 1), envL [(5, .sl false 1 xs), (6, .int .i64 (X .len xs)), (7, .int .i64 ((j + 1 : Nat) : Int))], fun _ => none, by omega, envL_less ?_, j + 1, rfl, by omega, ?_, rfl, rfl, rfl⟩
        · intro p hp
          simp only [List.mem_cons, List.not_mem_nil, or_false] at hp
          rcases hp with rfl | rfl | rfl
          · exact ⟨rfl, rfl⟩
          · exact ⟨rfl, rfl⟩
          · refine ⟨?_, rfl⟩
            show AV.int .i64 (X .ar .add .i64 k 1) = .int .i64 ((j + 1 : Nat) : Int)
            rw [hs]
        · intro i b hi hb
          rcases Nat.lt_or_ge i j with h | h
          · exact hpre i b h hb
          · have : i = j := by omega
            subst this
            rw [hgl] at hb
            obtain rfl := Option.some.inj hb
            rw [hpk, hltx, hltx, Bool.or_eq_false_iff] at hn
            have n1 := of_decide_eq_false hn.1
            have n2 := of_decide_eq_false hn.2
            unfold okNum
            rw [decide_eq_true (by omega), decide_eq_true (by omega)]
            rfl
      · cbv
        refine hR _ _ ⟨?_, rfl⟩
        rw [hpk, hltx, hltx, Bool.or_eq_true] at hn
        have : L.all okNum = false := by
          rw [List.all_eq_false]
          refine ⟨a, List.mem_of_getElem? hgl, ?_⟩
          unfold okNum
          rcases hn with hn | hn
          · have := of_decide_eq_true hn
            rw [decide_eq_false (by omega)]
            simp
          · have := of_decide_eq_true hn
            rw [decide_eq_false (p := a ≤ 1099511627776) (by omega)]
            simp
        rw [this]
        rfl
  · intro p hp
    simp only [List.mem_cons, List.not_mem_nil, or_false] at hp
    rcases hp with rfl | rfl | rfl <;> exact ⟨rfl, rfl⟩
end Go.V

/- U10: runs of entries. -/
namespace Go.V
open Go.Proofs
set_option maxRecDepth 100000
/-- Entries one behind the other. -/
def runOk (x y : Int) : List Ent → Bool
  | [] => true
  | a :: r => a.right && decide (a.x - 1 = x) && decide (y ≤ a.y) && runOk a.x a.y r
theorem i64_pred {n : Int} (h0 : 1 ≤ n) (h1 : n ≤ 1099511627776) : std .ar .sub .i64 n 1 = n - 1 := by
  show IntKind.wrap .i64 (n - 1) = _
  have e1 : (n - 1) % 18446744073709551616 = n - 1 := Int.emod_eq_of_lt (by omega) (by omega)
  have e2 : (2 : Int) ^ IntKind.i64.bits = 18446744073709551616 := by decide
  have e3 : (2 : Int) ^ (IntKind.i64.bits - 1) = 9223372036854775808 := by decide
  unfold IntKind.wrap
  rw [e2, e3, e1]
  have e4 : decide (n - 1 ≥ 9223372036854775808) = false := decide_eq_false (by omega)
  simp only [e4, Bool.and_false]
  rfl
theorem run_c (x y : Int) (A : List Ent) (hA : (A.length : Int) ≤ 9223372036854775807) (st : St) : VCalls Try.prog 28 [.int .i64 x, .int .i64 y, .sl false 3 (A.map Ent.av)] st (fun r st' => r = .bool (runOk x y A) ∧ st' = st) := by
  refine VCalls.use (ok_rt ok3 [(31, 8), (33, 8)]) Try.func28 rfl (by rfl) (Nat.le_of_ble_eq_true rfl) run_ok fun R hR => ?_
  have hlen := len_map A
  have hget := fun (j : Nat) (a : Ent) (h : A[j]? = some a) => get_map h
  have hltx : ∀ a b : Int, std .lt a b = decide (a < b) := fun _ _ => rfl
  have hie : ∀ a b : Int, std .ieq a b = decide (a = b) := fun _ _ => rfl
  have hnot : ∀ a : Bool, std .not a = !a := fun _ => rfl
  have hpk : ∀ a b : Bool, std .pick a true b = (a || b) := fun a b => by cases a <;> rfl
  have hq : ∀ a : Ent, V2.q 63 [a.av] := fun a => ⟨a, rfl⟩
  have hr : ∀ a : Ent, V2.b 63 [a.av] = a.right := fun a => by show (entOf a.av).right = _; rw [entOf_av]
  have hsuc := @i64_succ
  have hpre1 := @i64_pred
  have okX := ok_rt ok3 [(31, 8), (33, 8)]
  generalize Try.prog = P at *
  generalize std = X at *
  generalize V2.q = Q at *
  generalize V2.b = V at *
  generalize A.map Ent.av = xs at *
  cbv
  refine Wp.weaken (e' := envL [(0, .int .i64 x), (1, .int .i64 y), (9, .sl false 3 xs), (10, .int .i64 (X .len xs)), (11, .int .i64 0)]) (bx' := fun _ => none) ?_ (envL_less ?_)
  · refine wp_loop_inv (fun m e bx s => ∃ (j : Nat) (x' y' : Int), m = A.length - j ∧ j ≤ A.length ∧ runOk x y A = runOk x' y' (A.drop j) ∧ e = envL [(0, .int .i64 x'), (1, .int .i64 y'), (9, .sl false 3 xs), (10, .int .i64 (X .len xs)), (11, .int .i64 (j : Int))] ∧ bx = (fun _ => none) ∧ s = st) ?_ A.length _ _ _ ⟨0, x, y, rfl, Nat.zero_le _, rfl, rfl, rfl, rfl⟩
    rintro m e bx s ⟨j, x', y', rfl, hj, hinv, rfl, rfl, rfl⟩
    refine wp_of_vwp (C := wRt (Ci [34, 63, 35, 64, 26] X Q V) [(31, 8), (33, 8)]) okX (by kernel_rfl) ?_
    generalize hjj : (j : Int) = k
    cbv
    cases hk : X .lt k (X .len xs)
    · cbv
      refine hR _ _ ⟨?_, rfl⟩
      rw [hltx, hlen, ← hjj] at hk
      have hje : j = A.length := by
        have : ¬ ((j : Int) < A.length) := of_decide_eq_false hk
        omega
      rw [hinv, hje, List.drop_length]
      rfl
    · cbv
      rw [hltx, hlen, ← hjj] at hk
      have hjl : j < A.length := by
        have : ((j : Int) < A.length) := of_decide_eq_true hk
        omega
      have hg := hget j A[j] (List.getElem?_eq_getElem hjl)
      rw [List.drop_eq_getElem_cons hjl] at hinv
      generalize A[j] = a at hg hinv
      rw [hjj] at hg
      have hk0 : (0 : Int) ≤ k := by rw [← hjj]; exact Int.natCast_nonneg j
      have hkA : k < (A.length : Int) := by rw [← hjj]; exact Int.ofNat_lt.2 hjl
      refine ⟨fun _ => ⟨hk0, by rw [hlen]; exact hkA⟩, ?_⟩
      simp only [hg]
      have hqa := hq a
      have hra := hr a
      obtain ⟨a1, a2, a3⟩ := a
      unfold Ent.av at hqa hra ⊢
      dsimp only at hqa hra hinv ⊢
      generalize bs a3 = va at hqa hra ⊢
      cbv
      refine ⟨fun _ => hqa, ?_⟩
      have hwr : Ent.right ⟨a1, a2, a3⟩ = true → X .ar .sub .i64 a1 1 = a1 - 1 := by
        intro h
        unfold Ent.right numB at h
        simp only [Bool.and_eq_true, decide_eq_true_eq] at h
        exact hpre1 h.1.1.1 h.1.1.2
      cases hn : X .pick (X .pick (X .not (V 63 [.agg [.int .i64 a1, .int .i64 a2, .sl false 1 va]])) true (X .not (X .ieq (X .ar .sub .i64 a1 1) x'))) true (X .lt a2 y')
      · rw [hpk, hpk, hnot, hra, hnot, hie, hltx] at hn
        simp only [Bool.or_eq_false_iff, Bool.not_eq_false', decide_eq_true_eq, decide_eq_false_iff_not] at hn
        obtain ⟨⟨n1, n2⟩, n3⟩ := hn
        rw [hwr n1] at n2
        have hs : X .ar .add .i64 k 1 = ((j + 1 : Nat) : Int) := by
          rw [← hjj]
          exact hsuc (by have := hkA; rw [← hjj] at this; omega)
        refine ⟨A.length - (j + 1), envL [(0, .int .i64 a1), (1, .int .i64 a2), (9, .sl false 3 xs), (10, .int .i64 (X .len xs)), (11, .int .i64 ((j + 1 : Nat) : Int))], fun _ => none, by omega, envL_less ?_, j + 1, a1, a2, rfl, by omega, ?_, rfl, rfl, rfl⟩
        · intro p hp
          simp only [List.mem_cons, List.not_mem_nil, or_false] at hp
          rcases hp with rfl | rfl | rfl | rfl | rfl
          · exact ⟨rfl, rfl⟩
          · exact ⟨rfl, rfl⟩
          · exact ⟨rfl, rfl⟩
          · exact ⟨rfl, rfl⟩
          · refine ⟨?_, rfl⟩
            show AV.int .i64 (X .ar .add .i64 k 1) = .int .i64 ((j + 1 : Nat) : Int)
            rw [hs]
        · rw [hinv]
          show (Ent.right ⟨a1, a2, a3⟩ && decide (a1 - 1 = x') && decide (y' ≤ a2) && runOk a1 a2 (A.drop (j + 1))) = _
          rw [n1, decide_eq_true n2, decide_eq_true (by omega)]
          rfl
      · cbv
        refine hR _ _ ⟨?_, rfl⟩
        rw [hpk, hpk, hnot, hra, hnot, hie, hltx] at hn
        have hf : runOk x y A = false := by
          rw [hinv]
          show (Ent.right ⟨a1, a2, a3⟩ && decide (a1 - 1 = x') && decide (y' ≤ a2) && runOk a1 a2 (A.drop (j + 1))) = _
          cases hrt : Ent.right ⟨a1, a2, a3⟩ with
          | false => rfl
          | true =>
            rw [hrt, hwr hrt] at hn
            by_cases h2 : a1 - 1 = x'
            · by_cases h3 : a2 < y'
              · rw [decide_eq_false (p := y' ≤ a2) (by omega)]; simp
              · rw [decide_eq_true h2, decide_eq_false h3] at hn
                cases hn
            · rw [decide_eq_false h2]; simp
        rw [hf]
        rfl
  · intro p hp
    simp only [List.mem_cons, List.not_mem_nil, or_false] at hp
    rcases hp with rfl | rfl | rfl | rfl | rfl <;> exact ⟨rfl, rfl⟩
end Go.V

/- U11: the table grows: messages. -/
namespace Go.V
open Go.Proofs
set_option maxRecDepth 100000
theorem pfC_agree {V W : Pv} : ∀ {fs : List Nat}, (∀ g ∈ fs, V.q g = W.q g ∧ V.b g = W.b g) → ∀ f, pfC V.q V.b fs f = pfC W.q W.b fs f
  | [], _, _ => rfl
  | g :: r, h, f => by
    unfold pfC
    rw [(h g (by simp)).1, (h g (by simp)).2, pfC_agree (fun g hg => h g (by simp [hg])) f]
theorem ok_agree {fs : List Nat} {V W : Pv} (h : Ok Try.prog (Ci fs std V.q V.b)) (ha : ∀ g ∈ fs, V.q g = W.q g ∧ V.b g = W.b g) : Ok Try.prog (Ci fs std W.q W.b) := by
  have : Ci fs std V.q V.b = Ci fs std W.q W.b := by
    unfold Ci
    rw [funext (pfC_agree ha)]
  rw [← this]
  exact h
def msgOf : AV → Msg
  | .agg [.int _ m1, .int _ m2, .int _ m3, .int _ m4, .int _ m5, .int _ m6, .int _ m7, .int _ m8, .bool m9, .sl _ _ es, .int _ m11, .int _ m12, .sl _ _ vs] => ⟨m1, m2, m3, m4, m5, m6, m7, m8, m9, es.map entOf, m11, m12, vs.map toU8⟩
  | _ => Msg.zero
theorem msgOf_av (m : Msg) : msgOf m.av = m := by
  obtain ⟨m1, m2, m3, m4, m5, m6, m7, m8, m9, mA, m11, m12, mV⟩ := m
  show (⟨m1, m2, m3, m4, m5, m6, m7, m8, m9, (mA.map Ent.av).map entOf, m11, m12, (bs mV).map toU8⟩ : Msg) = _
  rw [ents_map, show (bs mV).map toU8 = mV from ofB_bs mV]
def V3 : Pv where
  q f l := match f with
    | 12 => ∃ m k : Msg, (m.ents.length : Int) ≤ 9223372036854775807 ∧ l = [m.av, k.av]
    | 27 => ∃ L : List Int, (L.length : Int) ≤ 9223372036854775807 ∧ l = [.sl false 1 (L.map (AV.int .i64))]
    | 28 => ∃ (x y : Int) (A : List Ent), (A.length : Int) ≤ 9223372036854775807 ∧ l = [.int .i64 x, .int .i64 y, .sl false 3 (A.map Ent.av)]
    | 29 => ∃ (x y : Int) (v : List UInt8), l = [.agg [.int .i64 x, .int .i64 y, .sl false 1 (bs v)]]
    | f => V2.q f l
  b f l := match f, l with
    | 12, [x, y] => decide (msgOf x = msgOf y)
    | 27, [x] => ((elsOf x).map intOf).all okNum
    | 28, [x, y, z] => runOk (intOf x) (intOf y) ((elsOf z).map entOf)
    | 29, [.agg [x, y, z]] => snapRight (intOf x) (intOf y) (elsOf z).length
    | f, l => V2.b f l
theorem ok4 : Ok Try.prog (Ci [29, 28, 27, 12, 34, 63, 35, 64, 26] std V3.q V3.b) := by
  have h0 : Ok Try.prog (Ci [34, 63, 35, 64, 26] std V3.q V3.b) := ok_agree ok3 (by
    intro g hg
    simp only [List.mem_cons, List.not_mem_nil, or_false] at hg
    rcases hg with rfl | rfl | rfl | rfl | rfl <;> exact ⟨rfl, rfl⟩)
  refine ok_cons (ok_cons (ok_cons (ok_cons h0 ?_) ?_) ?_) ?_
  · rintro l ⟨m, k, hm, rfl⟩ st
    refine (msgSame_c m k hm st).mono ?_
    rintro r st' ⟨rfl, rfl⟩
    refine ⟨?_, rfl⟩
    show _ = AV.bool (decide (msgOf m.av = msgOf k.av))
    rw [msgOf_av, msgOf_av]
  · rintro l ⟨L, hL, rfl⟩ st
    refine (numbers_c L hL st).mono ?_
    rintro r st' ⟨rfl, rfl⟩
    refine ⟨?_, rfl⟩
    show _ = AV.bool (((L.map (AV.int .i64)).map intOf).all okNum)
    rw [List.map_map, show (intOf ∘ AV.int .i64) = id from rfl, List.map_id]
  · rintro l ⟨x, y, A, hA, rfl⟩ st
    refine (run_c x y A hA st).mono ?_
    rintro r st' ⟨rfl, rfl⟩
    refine ⟨?_, rfl⟩
    show _ = AV.bool (runOk x y ((A.map Ent.av).map entOf))
    rw [ents_map]
  · rintro l ⟨x, y, v, rfl⟩ st
    refine (snapRight_c x y v st).mono ?_
    rintro r st' ⟨rfl, rfl⟩
    refine ⟨?_, rfl⟩
    show _ = AV.bool (snapRight x y (bs v).length)
    rw [show (bs v).length = v.length by simp [bs]]
end Go.V

/- W0: the arithmetic as a bundle, the rule for counted loops, tests. -/
namespace Go.V
open Go.Proofs
set_option maxRecDepth 100000
theorem len_mapf {α : Type} (f : α → AV) (L : List α) : std .len (L.map f) = (L.length : Int) := by
  show ((L.map f).length : Int) = _
  simp
theorem get_mapf {α : Type} (f : α → AV) {L : List α} {j : Nat} {a : α} (h : L[j]? = some a) : std .get (L.map f) (j : Int) = f a := by
  show (L.map f).getD (j : Int).toNat .undef = _
  simp [List.getD, h]
theorem wrap_i64 {n : Int} (h0 : -9223372036854775808 ≤ n) (h1 : n ≤ 9223372036854775807) : IntKind.wrap .i64 n = n := by
  have e2 : (2 : Int) ^ IntKind.i64.bits = 18446744073709551616 := by decide
  have e3 : (2 : Int) ^ (IntKind.i64.bits - 1) = 9223372036854775808 := by decide
  have es : IntKind.i64.signed = true := rfl
  unfold IntKind.wrap
  rw [e2, e3, es]
  show (if (true && decide (n % 18446744073709551616 ≥ 9223372036854775808)) = true then n % 18446744073709551616 - 18446744073709551616 else n % 18446744073709551616) = n
  rcases (show n < 0 ∨ 0 ≤ n by omega) with h | h
  · have e1 : n % 18446744073709551616 = n + 18446744073709551616 := by omega
    rw [e1, Bool.true_and, decide_eq_true (by omega), if_pos rfl]
    omega
  · have e1 : n % 18446744073709551616 = n := Int.emod_eq_of_lt h (by omega)
    rw [e1, Bool.true_and, decide_eq_false (by omega), if_neg (by decide)]
theorem add_i64 {a b : Int} (h0 : -9223372036854775808 ≤ a + b) (h1 : a + b ≤ 9223372036854775807) : std .ar .add .i64 a b = a + b := wrap_i64 h0 h1
theorem sub_i64 {a b : Int} (h0 : -9223372036854775808 ≤ a - b) (h1 : a - b ≤ 9223372036854775807) : std .ar .sub .i64 a b = a - b := wrap_i64 h0 h1
theorem mx_std (a b : Int) : std .mx a b = max a b := by
  show (bif decide (b > a) then b else a) = max a b
  rcases Int.lt_trichotomy a b with h | h | h
  · rw [decide_eq_true (by omega)]; simp only [cond_true]; omega
  · rw [decide_eq_false (by omega)]; simp only [cond_false]; omega
  · rw [decide_eq_false (by omega)]; simp only [cond_false]; omega
theorem mn_std (a b : Int) : std .mn a b = min a b := by
  show (bif decide (b < a) then b else a) = min a b
  rcases Int.lt_trichotomy a b with h | h | h
  · rw [decide_eq_false (by omega)]; simp only [cond_false]; omega
  · rw [decide_eq_false (by omega)]; simp only [cond_false]; omega
  · rw [decide_eq_true (by omega)]; simp only [cond_true]; omega
/-- What an evaluation's arithmetic is. -/
structure Ar (X : Ops) : Prop where
  ieq : ∀ a b : Int, X .ieq a b = decide (a = b)
  lt : ∀ a b : Int, X .lt a b = decide (a < b)
  not : ∀ b : Bool, X .not b = !b
  por : ∀ a b : Bool, X .pick a true b = (a || b)
  pand : ∀ a b : Bool, X .pick a b false = (a && b)
  beq : ∀ a b : Bool, X .beq a b = (a == b)
  seq : ∀ a b : List UInt8, X .seq a b = (a == b)
  lenf : ∀ {α : Type} (f : α → AV) (L : List α), X .len (L.map f) = (L.length : Int)
  getf : ∀ {α : Type} (f : α → AV) {L : List α} {j : Nat} {a : α}, L[j]? = some a → X .get (L.map f) (j : Int) = f a
  suc : ∀ {j : Nat}, (j : Int) + 1 ≤ 9223372036854775807 → X .ar .add .i64 (j : Int) 1 = ((j + 1 : Nat) : Int)
  ofb : ∀ l : List UInt8, X .ofB (bs l) = l
  lenb : ∀ l : List UInt8, X .len (bs l) = (l.length : Int)
theorem ar_std : Ar std where
  ieq _ _ := rfl
  lt _ _ := rfl
  not _ := rfl
  por a b := by cases a <;> rfl
  pand a b := by cases a <;> rfl
  beq _ _ := rfl
  seq _ _ := rfl
  lenf := len_mapf
  getf := get_mapf
  suc := i64_succ
  ofb := ofB_bs
  lenb := len_bs
theorem Ar.inK {X : Ops} (a : Ar X) {j N : Nat} {k n : Int} (hjj : (j : Int) = k) (hn : n = (N : Int)) (h : X .lt k n = true) : j < N := by
  rw [a.lt, hn, ← hjj] at h
  exact Int.ofNat_lt.1 (of_decide_eq_true h)
theorem Ar.outK {X : Ops} (a : Ar X) {j N : Nat} {k n : Int} (hjj : (j : Int) = k) (hn : n = (N : Int)) (h : X .lt k n = false) (hj : j ≤ N) : j = N := by
  rw [a.lt, hn, ← hjj] at h
  have : ¬ j < N := fun hh => of_decide_eq_false h (Int.ofNat_lt.2 hh)
  omega
theorem inBK {j N : Nat} {k n : Int} (hjj : (j : Int) = k) (hn : n = (N : Int)) (h : j < N) : InB k n := ⟨by omega, by omega⟩
theorem Ar.sucK {X : Ops} (a : Ar X) {j N : Nat} {k : Int} (hjj : (j : Int) = k) (hN : (N : Int) ≤ 9223372036854775807) (h : j < N) : X .ar .add .i64 k 1 = ((j + 1 : Nat) : Int) := by
  rw [← hjj]; exact a.suc (by omega)
theorem appOkK {n m : Int} {b N M : Nat} (hn : n = (N : Int)) (hm : m = (M : Int)) (h : (N + M) * b ≤ 140737488355328) : AppOk n m b := by
  subst hn; subst hm
  refine ⟨?_⟩
  have : (((N + M) * b : Nat) : Int) ≤ 140737488355328 := by omega
  rw [Int.natCast_mul, Int.natCast_add] at this
  exact this
theorem kfacts {j N : Nat} {k M : Int} (hjj : (j : Int) = k) (hM : (N : Int) ≤ M) (h : j < N) : 0 ≤ k ∧ k < M := ⟨by omega, by omega⟩
theorem kzero {j : Nat} {k : Int} (hjj : (j : Int) = k) : k = 0 ↔ j = 0 := by omega
theorem kpos {j : Nat} {k : Int} (hjj : (j : Int) = k) : 0 < k ↔ 0 < j := by omega
theorem kpred {j : Nat} {k : Int} (hjj : (j : Int) = k) (h : ¬ j = 0) : ((j - 1 : Nat) : Int) = k - 1 := by omega
theorem all_upto {α : Type} {L : List α} {p : α → Bool} {j : Nat} (hj : j = L.length) (h : ∀ (i : Nat) (a : α), i < j → L[i]? = some a → p a = true) : L.all p = true := by
  rw [List.all_eq_true]
  intro a ha
  obtain ⟨i, hi⟩ := List.getElem?_of_mem ha
  exact h i a (by have := (List.getElem?_eq_some_iff.1 hi).1; omega) hi
theorem all_not {α : Type} {L : List α} {p : α → Bool} {j : Nat} {a : α} (ha : L[j]? = some a) (h : p a = false) : L.all p = false := by
  rw [List.all_eq_false]
  exact ⟨a, List.mem_of_getElem? ha, by rw [h]; simp⟩
theorem upto_suc {α : Type} {L : List α} {p : α → Bool} {j : Nat} {a : α} (ha : L[j]? = some a) (hp : p a = true) (h : ∀ (i : Nat) (a : α), i < j → L[i]? = some a → p a = true) : ∀ (i : Nat) (a : α), i < j + 1 → L[i]? = some a → p a = true := by
  intro i b hi hb
  rcases Nat.lt_or_ge i j with hh | hh
  · exact h i b hh hb
  · obtain rfl : i = j := by omega
    rw [ha] at hb
    obtain rfl := Option.some.inj hb
    exact hp
theorem getE {α : Type} {L : List α} {j N : Nat} (hN : N = L.length) (h : j < N) : ∃ a, L[j]? = some a := ⟨L[j]'(by omega), List.getElem?_eq_getElem (by omega)⟩
/-- The arithmetic out of its parts. -/
def mkOps (xlt : Int → Int → Bool) (xieq : Int → Int → Bool) (xseq : List UInt8 → List UInt8 → Bool) (xslt : List UInt8 → List UInt8 → Bool) (xar : BinOp → IntKind → Int → Int → Int) (xconv : IntKind → Int → Int) (xnot : Bool → Bool) (xpick : Bool → Bool → Bool → Bool) (xbeq : Bool → Bool → Bool) (xeqc : List AV → List AV → Bool) (xlen : List AV → Int) (xslen : List UInt8 → Int) (xget : List AV → Int → AV) (xsget : List UInt8 → Int → Int) (xsub : List AV → Int → Int → List AV) (xssub : List UInt8 → Int → Int → List UInt8) (xapp : List AV → List AV → List AV) (xcat : List UInt8 → List UInt8 → List UInt8) (xtoB : List UInt8 → List AV) (xofB : List AV → List UInt8) (xrep : Int → AV → List AV) (xrepc : Int → List AV → List AV) (xchunks : Nat → Int → List AV → List AV) (xmx : Int → Int → Int) (xmn : Int → Int → Int) : Ops
  | .lt => xlt
  | .ieq => xieq
  | .seq => xseq
  | .slt => xslt
  | .ar => xar
  | .conv => xconv
  | .not => xnot
  | .pick => xpick
  | .beq => xbeq
  | .eqc => xeqc
  | .len => xlen
  | .slen => xslen
  | .get => xget
  | .sget => xsget
  | .sub => xsub
  | .ssub => xssub
  | .app => xapp
  | .cat => xcat
  | .toB => xtoB
  | .ofB => xofB
  | .rep => xrep
  | .repc => xrepc
  | .chunks => xchunks
  | .mx => xmx
  | .mn => xmn
/-- What the parts of the arithmetic are. -/
structure Arf (xlt : Int → Int → Bool) (xieq : Int → Int → Bool) (xseq : List UInt8 → List UInt8 → Bool) (xslt : List UInt8 → List UInt8 → Bool) (xar : BinOp → IntKind → Int → Int → Int) (xconv : IntKind → Int → Int) (xnot : Bool → Bool) (xpick : Bool → Bool → Bool → Bool) (xbeq : Bool → Bool → Bool) (xeqc : List AV → List AV → Bool) (xlen : List AV → Int) (xslen : List UInt8 → Int) (xget : List AV → Int → AV) (xsget : List UInt8 → Int → Int) (xsub : List AV → Int → Int → List AV) (xssub : List UInt8 → Int → Int → List UInt8) (xapp : List AV → List AV → List AV) (xcat : List UInt8 → List UInt8 → List UInt8) (xtoB : List UInt8 → List AV) (xofB : List AV → List UInt8) (xrep : Int → AV → List AV) (xrepc : Int → List AV → List AV) (xchunks : Nat → Int → List AV → List AV) (xmx : Int → Int → Int) (xmn : Int → Int → Int) : Prop where
  ieq : ∀ a b : Int, xieq a b = decide (a = b)
  lt : ∀ a b : Int, xlt a b = decide (a < b)
  not : ∀ b : Bool, xnot b = !b
  por : ∀ a b : Bool, xpick a true b = (a || b)
  pand : ∀ a b : Bool, xpick a b false = (a && b)
  beq : ∀ a b : Bool, xbeq a b = (a == b)
  seq : ∀ a b : List UInt8, xseq a b = (a == b)
  lenf : ∀ {α : Type} (f : α → AV) (L : List α), xlen (L.map f) = (L.length : Int)
  getf : ∀ {α : Type} (f : α → AV) {L : List α} {j : Nat} {a : α}, L[j]? = some a → xget (L.map f) (j : Int) = f a
  suc : ∀ {j : Nat}, (j : Int) + 1 ≤ 9223372036854775807 → xar .add .i64 (j : Int) 1 = ((j + 1 : Nat) : Int)
  add : ∀ {a b : Int}, -9223372036854775808 ≤ a + b → a + b ≤ 9223372036854775807 → xar .add .i64 a b = a + b
  subi : ∀ {a b : Int}, -9223372036854775808 ≤ a - b → a - b ≤ 9223372036854775807 → xar .sub .i64 a b = a - b
  ofb : ∀ l : List UInt8, xofB (bs l) = l
  lenb : ∀ l : List UInt8, xlen (bs l) = (l.length : Int)
  inK : ∀ {j N : Nat} {k n : Int}, (j : Int) = k → n = (N : Int) → xlt k n = true → j < N
  outK : ∀ {j N : Nat} {k n : Int}, (j : Int) = k → n = (N : Int) → xlt k n = false → j ≤ N → j = N
  sucK : ∀ {j N : Nat} {k : Int}, (j : Int) = k → (N : Int) ≤ 9223372036854775807 → j < N → xar .add .i64 k 1 = ((j + 1 : Nat) : Int)
  subE : ∀ (l : List AV) (a b : Int), xsub l a b = (l.take b.toNat).drop a.toNat
  appE : ∀ (a b : List AV), xapp a b = a ++ b
  lenE : ∀ (l : List AV), xlen l = (l.length : Int)
  slenE : ∀ (l : List UInt8), xslen l = (l.length : Int)
  getE : ∀ (l : List AV) (n : Int), xget l n = l.getD n.toNat .undef
  arE : ∀ (op : BinOp) (k : IntKind) (a b : Int), xar op k a b = arith op k a b
  convE : ∀ (k : IntKind) (n : Int), xconv k n = k.wrap n
  mxE : ∀ (a b : Int), xmx a b = max a b
  mnE : ∀ (a b : Int), xmn a b = min a b
  toBE : ∀ (s : List UInt8), xtoB s = bs s
  ofBE : ∀ (l : List AV), xofB l = l.map toU8
  repE : ∀ (n : Int) (v : AV), xrep n v = List.replicate n.toNat v
  elt : xlt = std .lt
  eieq : xieq = std .ieq
  eseq : xseq = std .seq
  eslt : xslt = std .slt
  ear : xar = std .ar
  econv : xconv = std .conv
  enot : xnot = std .not
  epick : xpick = std .pick
  ebeq : xbeq = std .beq
  eeqc : xeqc = std .eqc
  elen : xlen = std .len
  eslen : xslen = std .slen
  eget : xget = std .get
  esget : xsget = std .sget
  esub : xsub = std .sub
  essub : xssub = std .ssub
  eapp : xapp = std .app
  ecat : xcat = std .cat
  etoB : xtoB = std .toB
  eofB : xofB = std .ofB
  erep : xrep = std .rep
  erepc : xrepc = std .repc
  echunks : xchunks = std .chunks
  emx : xmx = std .mx
  emn : xmn = std .mn
/-- A veil: what stands behind it is not evaluated, but its arguments are. -/
inductive Veil where
  | a | b
noncomputable abbrev vl {α : Type} (v : Veil) (f : α) : α := @Veil.rec (fun _ => α) f f v
theorem vl_eq {α : Type} (v : Veil) (f : α) : vl v f = f := by cases v <;> rfl
theorem vl_use {α : Type} (v : Veil) (x : α) {p : Prop} (k : ∀ f, x = vl v f → p) : p := k x (vl_eq v x).symm
theorem ops_split {X : Ops} (h : std = X) : ∃ (v : Veil) (xlt : Int → Int → Bool) (xieq : Int → Int → Bool) (xseq : List UInt8 → List UInt8 → Bool) (xslt : List UInt8 → List UInt8 → Bool) (xar : BinOp → IntKind → Int → Int → Int) (xconv : IntKind → Int → Int) (xnot : Bool → Bool) (xpick : Bool → Bool → Bool → Bool) (xbeq : Bool → Bool → Bool) (xeqc : List AV → List AV → Bool) (xlen : List AV → Int) (xslen : List UInt8 → Int) (xget : List AV → Int → AV) (xsget : List UInt8 → Int → Int) (xsub : List AV → Int → Int → List AV) (xssub : List UInt8 → Int → Int → List UInt8) (xapp : List AV → List AV → List AV) (xcat : List UInt8 → List UInt8 → List UInt8) (xtoB : List UInt8 → List AV) (xofB : List AV → List UInt8) (xrep : Int → AV → List AV) (xrepc : Int → List AV → List AV) (xchunks : Nat → Int → List AV → List AV) (xmx : Int → Int → Int) (xmn : Int → Int → Int), X = mkOps (vl v xlt) (vl v xieq) (vl v xseq) (vl v xslt) (vl v xar) (vl v xconv) (vl v xnot) (vl v xpick) (vl v xbeq) (vl v xeqc) (vl v xlen) (vl v xslen) (vl v xget) (vl v xsget) (vl v xsub) (vl v xssub) (vl v xapp) (vl v xcat) (vl v xtoB) (vl v xofB) (vl v xrep) (vl v xrepc) (vl v xchunks) (vl v xmx) (vl v xmn) ∧ Arf (vl v xlt) (vl v xieq) (vl v xseq) (vl v xslt) (vl v xar) (vl v xconv) (vl v xnot) (vl v xpick) (vl v xbeq) (vl v xeqc) (vl v xlen) (vl v xslen) (vl v xget) (vl v xsget) (vl v xsub) (vl v xssub) (vl v xapp) (vl v xcat) (vl v xtoB) (vl v xofB) (vl v xrep) (vl v xrepc) (vl v xchunks) (vl v xmx) (vl v xmn) := by
  subst h
  refine ⟨.a, std .lt, std .ieq, std .seq, std .slt, std .ar, std .conv, std .not, std .pick, std .beq, std .eqc, std .len, std .slen, std .get, std .sget, std .sub, std .ssub, std .app, std .cat, std .toB, std .ofB, std .rep, std .repc, std .chunks, std .mx, std .mn, ?_, ?_⟩
  · funext s; cases s <;> rfl
  · refine ⟨ar_std.ieq, ar_std.lt, ar_std.not, ar_std.por, ar_std.pand, ar_std.beq, ar_std.seq, ar_std.lenf, ar_std.getf, ar_std.suc, add_i64, sub_i64, ar_std.ofb, ar_std.lenb, ar_std.inK, ar_std.outK, ar_std.sucK, fun _ _ _ => rfl, fun _ _ => rfl, fun _ => rfl, fun _ => rfl, fun _ _ => rfl, fun _ _ _ _ => rfl, fun _ _ => rfl, mx_std, mn_std, fun _ => rfl, fun _ => rfl, fun _ _ => rfl, rfl, rfl, rfl, rfl, rfl, rfl, rfl, rfl, rfl, rfl, rfl, rfl, rfl, rfl, rfl, rfl, rfl, rfl, rfl, rfl, rfl, rfl, rfl, rfl, rfl⟩
theorem ops_use {X : Ops} (h : std = X) {p : Prop} (k : ∀ (v : Veil) (xlt : Int → Int → Bool) (xieq : Int → Int → Bool) (xseq : List UInt8 → List UInt8 → Bool) (xslt : List UInt8 → List UInt8 → Bool) (xar : BinOp → IntKind → Int → Int → Int) (xconv : IntKind → Int → Int) (xnot : Bool → Bool) (xpick : Bool → Bool → Bool → Bool) (xbeq : Bool → Bool → Bool) (xeqc : List AV → List AV → Bool) (xlen : List AV → Int) (xslen : List UInt8 → Int) (xget : List AV → Int → AV) (xsget : List UInt8 → Int → Int) (xsub : List AV → Int → Int → List AV) (xssub : List UInt8 → Int → Int → List UInt8) (xapp : List AV → List AV → List AV) (xcat : List UInt8 → List UInt8 → List UInt8) (xtoB : List UInt8 → List AV) (xofB : List AV → List UInt8) (xrep : Int → AV → List AV) (xrepc : Int → List AV → List AV) (xchunks : Nat → Int → List AV → List AV) (xmx : Int → Int → Int) (xmn : Int → Int → Int), X = mkOps (vl v xlt) (vl v xieq) (vl v xseq) (vl v xslt) (vl v xar) (vl v xconv) (vl v xnot) (vl v xpick) (vl v xbeq) (vl v xeqc) (vl v xlen) (vl v xslen) (vl v xget) (vl v xsget) (vl v xsub) (vl v xssub) (vl v xapp) (vl v xcat) (vl v xtoB) (vl v xofB) (vl v xrep) (vl v xrepc) (vl v xchunks) (vl v xmx) (vl v xmn) → Arf (vl v xlt) (vl v xieq) (vl v xseq) (vl v xslt) (vl v xar) (vl v xconv) (vl v xnot) (vl v xpick) (vl v xbeq) (vl v xeqc) (vl v xlen) (vl v xslen) (vl v xget) (vl v xsget) (vl v xsub) (vl v xssub) (vl v xapp) (vl v xcat) (vl v xtoB) (vl v xofB) (vl v xrep) (vl v xrepc) (vl v xchunks) (vl v xmx) (vl v xmn) → p) : p := by
  obtain ⟨v, xlt, xieq, xseq, xslt, xar, xconv, xnot, xpick, xbeq, xeqc, xlen, xslen, xget, xsget, xsub, xssub, xapp, xcat, xtoB, xofB, xrep, xrepc, xchunks, xmx, xmn, h1, h2⟩ := ops_split h
  exact k v xlt xieq xseq xslt xar xconv xnot xpick xbeq xeqc xlen xslen xget xsget xsub xssub xapp xcat xtoB xofB xrep xrepc xchunks xmx xmn h1 h2
/-- An undecided test. -/
theorem tst {b : Bool} {A B : Prop} : (b = true → A) → (b = false → B) → (match b with | true => A | false => B) := by
  intro h1 h0
  cases b
  · exact h0 rfl
  · exact h1 rfl
theorem tstT {b : Bool} {A B : Prop} : b = true → A → (match b with | true => A | false => B) := by
  intro h a; subst h; exact a
theorem tstF {b : Bool} {A B : Prop} : b = false → B → (match b with | true => A | false => B) := by
  intro h a; subst h; exact a
def bxL : List (Nat × List AV) → Bx
  | [] => fun _ => none
  | (b, c) :: r => upd (bxL r) b (some c)
/-- Temps and boxes are as said. -/
def HasE : List (Nat × AV) → Env → Prop
  | [], _ => True
  | (t, v) :: r, e => e t = v ∧ HasE r e
def HasB : List (Nat × List AV) → Bx → Prop
  | [], _ => True
  | (b, c) :: r, bx => bx b = some c ∧ HasB r bx
def inL : List (Nat × List AV) → Nat → Bool
  | [], _ => false
  | (b, _) :: r, t => Nat.beq t b || inL r t
def lpIn (B : List (Nat × List AV)) : List (Nat × AV) → Bool
  | [] => true
  | (_, .lp b _) :: r => inL B b && lpIn B r
  | _ :: r => lpIn B r
theorem hasE_less {e : Env} : ∀ {E : List (Nat × AV)}, HasE E e → ∀ t, envL E t = .undef ∨ envL E t = e t
  | [], _, t => .inl rfl
  | (u, v) :: r, h, t => by
    unfold envL
    by_cases ht : t = u
    · subst ht; rw [upd_same]; exact .inr h.1.symm
    · rw [upd_other _ _ ht]; exact hasE_less h.2 t
theorem hasB_less {bx : Bx} : ∀ {B : List (Nat × List AV)}, HasB B bx → ∀ b, bxL B b = none ∨ bxL B b = bx b
  | [], _, t => .inl rfl
  | (u, v) :: r, h, t => by
    unfold bxL
    by_cases ht : t = u
    · subst ht; rw [upd_same]; exact .inr h.1.symm
    · rw [upd_other _ _ ht]; exact hasB_less h.2 t
theorem inL_some : ∀ {B : List (Nat × List AV)} {b : Nat}, inL B b = true → ∃ c, bxL B b = some c
  | (u, v) :: r, b, h => by
    unfold bxL
    by_cases ht : b = u
    · subst ht; rw [upd_same]; exact ⟨_, rfl⟩
    · rw [upd_other _ _ ht]
      unfold inL at h
      rcases (Bool.or_eq_true _ _).mp h with h | h
      · exact absurd (Nat.eq_of_beq_eq_true h) ht
      · exact inL_some h
theorem lpIn_some {B : List (Nat × List AV)} {b o : Nat} : ∀ {E : List (Nat × AV)} {t : Nat}, lpIn B E = true → envL E t = .lp b o → inL B b = true
  | [], t, _, h => by cases h
  | (u, v) :: r, t, hl, h => by
    unfold envL at h
    have hr : lpIn B r = true := by
      cases v <;> first | exact hl | exact ((Bool.and_eq_true _ _).mp hl).2
    by_cases ht : t = u
    · subst ht; rw [upd_same] at h; subst h; exact ((Bool.and_eq_true _ _).mp hl).1
    · rw [upd_other _ _ ht] at h; exact lpIn_some hr h
theorem has_less {E : List (Nat × AV)} {B : List (Nat × List AV)} {e : Env} {bx : Bx} (hE : HasE E e) (hB : HasB B bx) (hl : lpIn B E = true) : Less (envL E) e (bxL B) bx := by
  refine ⟨hasE_less hE, hasB_less hB, fun t b o h => ?_⟩
  obtain ⟨c, hc⟩ := inL_some (lpIn_some hl h)
  rcases hasB_less hB b with h | h
  · rw [hc] at h; cases h
  · exact h
/-- COUNTED LOOPS that change the store: round j starts with the temps en j s, the boxes bn j s and the store sn j s. -/
theorem wp_forS {P : Program} {C : Cf} {n : Nat} {c : Code} {Q : Ex → Env → Bx → St → Prop} {e : Env} {bx : Bx} {st : St} (hC : Ok P C) (hk : codeOk n C c = true) {σ : Type} (N : Nat) (inv : Nat → σ → Prop)
    (en : Nat → σ → List (Nat × AV)) (bn : Nat → σ → List (Nat × List AV)) (sn : Nat → σ → St) (s0 : σ) (hst : st = sn 0 s0) (hi : inv 0 s0) (hl : ∀ j s, lpIn (bn j s) (en j s) = true) (hE : HasE (en 0 s0) e) (hB : HasB (bn 0 s0) bx)
    (step : ∀ j s, j ≤ N → inv j s → ∀ K : Ex → Env → Bx → St → Prop, (∀ s' e' bx' st', j < N → inv (j + 1) s' → HasE (en (j + 1) s') e' → HasB (bn (j + 1) s') bx' → st' = sn (j + 1) s' → K .normal e' bx' st') → (∀ x e' bx' st', x ≠ .normal → Q x e' bx' st' → K x e' bx' st') →
      vwp P n C c K (envL (en j s)) (bxL (bn j s)) (sn j s)) : Wp P n (.loop c) Q e bx st := by
  subst hst
  refine Wp.weaken (e' := envL (en 0 s0)) (bx' := bxL (bn 0 s0)) ?_ (has_less hE hB (hl 0 s0))
  refine wp_loop_inv (fun m e bx s => ∃ (j : Nat) (t : σ), m = N - j ∧ j ≤ N ∧ inv j t ∧ e = envL (en j t) ∧ bx = bxL (bn j t) ∧ s = sn j t) ?_ N _ _ _ ⟨0, s0, rfl, Nat.zero_le _, hi, rfl, rfl, rfl⟩
  rintro m e bx s ⟨j, t, rfl, hj, hv, rfl, rfl, rfl⟩
  refine wp_of_vwp hC hk (step j t hj hv _ ?_ ?_)
  · intro s' e' bx' st' hjN hv' hE' hB' hs'
    exact ⟨N - (j + 1), _, _, by omega, has_less hE' hB' (hl _ _), j + 1, s', rfl, by omega, hv', rfl, rfl, hs'⟩
  · intro x e' bx' st' hx hq
    cases x with
    | normal => exact absurd rfl hx
    | _ => exact hq
/-- COUNTED LOOPS: round j starts with the temps en j s and the boxes bn j s. -/
theorem wp_for {P : Program} {C : Cf} {n : Nat} {c : Code} {Q : Ex → Env → Bx → St → Prop} {e : Env} {bx : Bx} {st : St} (hC : Ok P C) (hk : codeOk n C c = true) {σ : Type} (N : Nat) (inv : Nat → σ → Prop)
    (en : Nat → σ → List (Nat × AV)) (bn : Nat → σ → List (Nat × List AV)) (s0 : σ) (hi : inv 0 s0) (hl : ∀ j s, lpIn (bn j s) (en j s) = true) (hE : HasE (en 0 s0) e) (hB : HasB (bn 0 s0) bx)
    (step : ∀ j s, j ≤ N → inv j s → ∀ K : Ex → Env → Bx → St → Prop, (∀ s' e' bx', j < N → inv (j + 1) s' → HasE (en (j + 1) s') e' → HasB (bn (j + 1) s') bx' → K .normal e' bx' st) → (∀ x e' bx' st', x ≠ .normal → Q x e' bx' st' → K x e' bx' st') →
      vwp P n C c K (envL (en j s)) (bxL (bn j s)) st) : Wp P n (.loop c) Q e bx st := by
  refine Wp.weaken (e' := envL (en 0 s0)) (bx' := bxL (bn 0 s0)) ?_ (has_less hE hB (hl 0 s0))
  refine wp_loop_inv (fun m e bx s => ∃ (j : Nat) (t : σ), m = N - j ∧ j ≤ N ∧ inv j t ∧ e = envL (en j t) ∧ bx = bxL (bn j t) ∧ s = st) ?_ N _ _ _ ⟨0, s0, rfl, Nat.zero_le _, hi, rfl, rfl, rfl⟩
  rintro m e bx s ⟨j, t, rfl, hj, hv, rfl, rfl, rfl⟩
  refine wp_of_vwp hC hk (step j t hj hv _ ?_ ?_)
  · intro s' e' bx' hjN hv' hE' hB'
    exact ⟨N - (j + 1), _, _, by omega, has_less hE' hB' (hl _ _), j + 1, s', rfl, by omega, hv', rfl, rfl, rfl⟩
  · intro x e' bx' st' hx hq
    cases x with
    | normal => exact absurd rfl hx
    | _ => exact hq
end Go.V
