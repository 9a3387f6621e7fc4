/- U33: the reference's bytes: numbers. -/
import Derived.Test.YtbmjmemhjkpbdaaG5
set_option linter.unusedVariables false
set_option linter.unusedSimpArgs false
namespace Go.V
open Go.Proofs
set_option maxRecDepth 100000
theorem rens_bs (ρ : Nat → Nat) : ∀ l : List UInt8, rens ρ (bs l) = bs l
  | [] => by show rens ρ [] = []; unfold rens; rfl
  | b :: r => by
    show rens ρ (u8 b :: bs r) = u8 b :: bs r
    unfold rens
    rw [rens_bs ρ r]
    unfold u8 ren
    rfl
theorem ren_bs (ρ : Nat → Nat) (t : Bool) (l : List UInt8) : ren ρ (.sl t 1 (bs l)) = .sl t 1 (bs l) := by
  unfold ren; rw [rens_bs]
def wFz (C : Cf) (l : List Nat) : Cf := { C with fz := memN l }
theorem ok_fz {C : Cf} (h : Ok Try.prog C) (l : List Nat) : Ok Try.prog (wFz C l) := { x := h.x, ti := h.ti, pf := h.pf, eq := h.eq, mixed := h.mixed }
theorem chunk_one : ∀ cs : List AV, chunk 1 cs.length cs = cs
  | [] => rfl
  | c :: r => by
    show c :: chunk 1 r.length r = _
    rw [chunk_one r]
theorem uts_bs (l : List UInt8) : (bs l).map ut = bs l := by
  unfold bs; rw [List.map_map]; rfl
theorem scal_bs : ∀ l : List UInt8, scalAll (bs l) = true
  | [] => rfl
  | b :: r => scal_bs r
theorem quo_u64 {v : Int} (h0 : 0 ≤ v) (h1 : v < 18446744073709551616) : arith .quo .u64 v 256 = v / 256 := by
  show IntKind.wrap .u64 (v.tdiv 256) = _
  rw [Int.tdiv_eq_ediv_of_nonneg h0]
  exact wrap_u64 (Int.ediv_nonneg h0 (by decide)) (by omega)
theorem byte_of {v : Int} (j : Nat) : IntKind.wrap .u8 (v / 256 ^ j) = ((byteAt v j).toNat : Int) := by
  have e2 : (2 : Int) ^ IntKind.u8.bits = 256 := by decide
  have es : IntKind.u8.signed = false := rfl
  unfold IntKind.wrap
  rw [e2, es]
  show (if (false && decide ((v / 256 ^ j) % 256 ≥ _)) = true then _ else (v / 256 ^ j) % 256) = _
  rw [Bool.false_and, if_neg (by decide)]
  unfold byteAt
  have h2 := Int.emod_nonneg (v / 256 ^ j) (b := 256) (by decide)
  have h3 := Int.emod_lt_of_pos (v / 256 ^ j) (b := 256) (by decide)
  rw [UInt8.toNat_ofNat', Nat.mod_eq_of_lt (by omega)]
  omega
theorem div_suc (v : Int) (j : Nat) : v / 256 ^ j / 256 = v / 256 ^ (j + 1) := by
  rw [Int.ediv_ediv_of_nonneg (Int.le_of_lt (Int.pow_pos (by decide))), ← Int.pow_succ]
theorem flat_rep (n : Nat) (a : AV) : (List.replicate n [a]).flatten = List.replicate n a := by
  induction n with
  | zero => rfl
  | succ n ih => rw [List.replicate_succ, List.flatten_cons, ih]; rfl
theorem mk_room {n : Nat} (h : n ≤ 8) : (n : Int) * ((1 : Nat) : Int) ≤ 140737488355328 := by omega
theorem mk_fits {n : Nat} (h : n ≤ 8) : (n : Int) ≤ 9223372036854775807 := by omega
theorem mk_at {n j : Nat} (h : n ≤ 8) (hj : j < n) : n - j = (n - 1 - j) + 1 ∧ n - (j + 1) = n - 1 - j := by omega
theorem mk_ix {n j : Nat} {nn k : Int} (hnn : (n : Int) = nn) (hjj : (j : Int) = k) (hn : n ≤ 8) (hjl : j < n) : -9223372036854775808 ≤ nn - 1 ∧ nn - 1 ≤ 9223372036854775807 ∧ -9223372036854775808 ≤ nn - 1 - k ∧ nn - 1 - k ≤ 9223372036854775807 ∧ nn - 1 - k = ((n - 1 - j : Nat) : Int) := by omega
theorem mk_lt {n j : Nat} (h : j < n) : InB ((n - 1 - j : Nat) : Int) (n : Int) := ⟨by omega, by omega⟩
theorem set_at (x : AV) (a : AV) (r : List AV) : ∀ t : Nat, setCells (List.replicate (t + 1) a ++ r) (0 + t * 1) [x] = List.replicate t a ++ (x :: r)
  | 0 => rfl
  | t + 1 => by
    have ih := set_at x a r t
    unfold setCells at ih ⊢
    rw [Nat.zero_add, Nat.mul_one] at ih ⊢
    exact congrArg (a :: ·) ih
theorem map_ut (l : List AV) : (match l with | [] => [] | a :: r => ut a :: r.map ut) = l.map ut := by cases l <;> rfl
theorem wide76_ok : codeOk Try.f76.ntmps (wTr (wHp (wFz (Cj [9, 17] FS std V5.q V5.b) [24]) [8]) [4, 24]) (Try.f76.body.getD .skip) = true := by kernel_rfl
theorem wide76_0 (n : Nat) (hn : n ≤ 8) (v : Int) (h0 : 0 ≤ v) (h1 : v < 18446744073709551616) : VCalls Try.prog 76 [.int .u64 v, .int .i64 (n : Int)] [] (fun r _ => r = .sl true 1 (bs (beB n v))) := by
  have ok7' : Ok Try.prog (Cj [9, 17] FS std V5.q V5.b) := ok7
  refine VCalls.use (ok_tr (ok_hp (ok_fz ok7' [24]) [8]) [4, 24]) Try.func76 rfl (by rfl) (Nat.le_of_ble_eq_true rfl) wide76_ok fun R hR => ?_
  have okX := ok_tr (ok_hp (ok_fz ok7' [24]) [8]) [4, 24]
  have hbyte : ∀ j : Nat, IntKind.wrap .u8 (v / 256 ^ j) = ((byteAt v j).toNat : Int) := fun j => byte_of j
  have hdiv : ∀ j : Nat, arith .quo .u64 (v / 256 ^ j) 256 = v / 256 ^ (j + 1) := fun j => by
    rw [quo_u64 (Int.ediv_nonneg h0 (Int.le_of_lt (Int.pow_pos (by decide)))) (Int.lt_of_le_of_lt (Int.ediv_le_self _ h0) h1), div_suc]
  have hv0 : v / 256 ^ 0 = v := Int.ediv_one v
  generalize Try.prog = P at *
  generalize hX : std = X at *
  refine ops_use hX fun vv xlt xieq xseq xslt xar xconv xnot xpick xbeq xeqc xlen xslen xget xsget xsub xssub xapp xcat xtoB xofB xrep xrepc xchunks xmx xmn hY arX => ?_
  clear hX
  subst hY
  generalize hVV : V5.b = VV at *
  refine vl_use vv VV fun V hV => ?_
  clear hVV
  subst hV
  generalize V5.q = Q at *
  have hrep : vl vv xrepc (n : Int) [.int .u8 0] = bs (List.replicate n 0) := by
    rw [arX.erepc]
    show (List.replicate n [AV.int .u8 0]).flatten = _
    unfold bs
    rw [List.map_replicate]
    exact flat_rep _ _
  cbv
  refine ⟨fun _ => ⟨Int.natCast_nonneg n, rfl, mk_room hn, mk_fits hn⟩, ?_⟩
  refine wp_forS okX (by kernel_rfl) n (fun j (L : List UInt8) => L = List.replicate (n - j) 0 ++ beB j v)
    (fun j _ => [(0, .int .u64 (v / 256 ^ j)), (1, .int .i64 (n : Int)), (5, .msl 1 0 0 n), (9, .int .i64 (n : Int)), (10, .int .i64 (j : Int))]) (fun _ _ => []) (fun _ L => [some (bs L)]) (List.replicate n 0)
    (congrArg (fun z => [some z]) hrep) (by rw [Nat.sub_zero]; exact (List.append_nil _).symm) (fun _ _ => rfl) ⟨congrArg (AV.int .u64) hv0.symm, rfl, rfl, rfl, rfl, trivial⟩ trivial ?_
  rintro j L hj hpre K hK hKx
  have hLl : (bs L).length = n := by
    rw [hpre]; unfold bs; rw [List.length_map, List.length_append, List.length_replicate, beB_len]; omega
  generalize hvj : v / 256 ^ j = vj at *
  generalize hjj : (j : Int) = k at *
  generalize hLs : bs L = Ls at *
  generalize hnn : (n : Int) = nn at *
  cbv
  refine tst (fun h3 => ?_) (fun h3 => ?_)
  · have hjl := arX.inK hjj hnn.symm h3
    have hkd := mk_at hn hjl
    obtain ⟨b1, b2, b3, b4, b5⟩ := mk_ix hnn hjj hn hjl
    have e1 : vl vv xar .sub .i64 nn 1 = nn - 1 := arX.subi b1 b2
    have e2 : vl vv xar .sub .i64 (vl vv xar .sub .i64 nn 1) k = ((n - 1 - j : Nat) : Int) :=
      (congrArg (fun z => vl vv xar .sub .i64 z k) e1).trans ((arX.subi b3 b4).trans b5)
    have hb := hbyte j
    have hd := hdiv j
    rw [hvj] at hb hd
    have hset : setCells Ls (0 + (n - 1 - j) * 1) [.int .u8 (vl vv xconv .u8 vj)] = bs (List.replicate (n - (j + 1)) 0 ++ beB (j + 1) v) := by
      rw [← hLs, hpre, hkd.1, hkd.2]
      have e3 : bs (List.replicate (n - 1 - j + 1) 0 ++ beB j v) = List.replicate (n - 1 - j + 1) (u8 0) ++ bs (beB j v) := by
        unfold bs; rw [List.map_append, List.map_replicate]
      have e4 : bs (List.replicate (n - 1 - j) 0 ++ beB (j + 1) v) = List.replicate (n - 1 - j) (u8 0) ++ (u8 (byteAt v j) :: bs (beB j v)) := by
        unfold bs; rw [List.map_append, List.map_replicate]; rfl
      have e5 : AV.int .u8 (vl vv xconv .u8 vj) = u8 (byteAt v j) := congrArg (AV.int .u8) ((arX.convE _ _).trans hb)
      rw [e3, e4, e5]
      exact set_at _ _ _ _
    have hle : Nat.ble (0 + (n - 1 - j) * 1 + 1) Ls.length = true := Nat.ble_eq_true_of_le (by rw [hLl]; omega)
    have htn := mk_lt hjl
    have ht8 : n - 1 - j < 8 := by omega
    generalize ht : n - 1 - j = t at *
    generalize List.replicate (n - (j + 1)) 0 ++ beB (j + 1) v = L2 at *
    have go : ∀ (t : Nat) (Ls : List AV) (hle : Nat.ble (0 + t * 1 + 1) Ls.length = true), True := fun _ _ _ => trivial
    clear hLs hpre hLl hkd ht go
    rcases t with _ | _ | _ | _ | _ | _ | _ | _ | t
    · rcases Ls with _ | ⟨c0, Ls⟩
      · exact (Bool.false_ne_true hle).elim
      cbv
      simp only [e2]
      cbv
      refine ⟨fun _ => htn, ?_⟩
      refine ⟨fun _ => ⟨by decide⟩, ?_⟩
      exact hK L2 _ _ _ hjl rfl ⟨congrArg (AV.int .u64) ((arX.arE _ _ _ _).trans hd), rfl, rfl, rfl, congrArg (AV.int .i64) (arX.sucK hjj (mk_fits hn) hjl), trivial⟩ trivial (congrArg (fun z => [some z]) hset)
    · rcases Ls with _ | ⟨c0, Ls⟩
      · exact (Bool.false_ne_true hle).elim
      rcases Ls with _ | ⟨c1, Ls⟩
      · exact (Bool.false_ne_true hle).elim
      cbv
      simp only [e2]
      cbv
      refine ⟨fun _ => htn, ?_⟩
      refine ⟨fun _ => ⟨by decide⟩, ?_⟩
      exact hK L2 _ _ _ hjl rfl ⟨congrArg (AV.int .u64) ((arX.arE _ _ _ _).trans hd), rfl, rfl, rfl, congrArg (AV.int .i64) (arX.sucK hjj (mk_fits hn) hjl), trivial⟩ trivial (congrArg (fun z => [some z]) hset)
    · rcases Ls with _ | ⟨c0, Ls⟩
      · exact (Bool.false_ne_true hle).elim
      rcases Ls with _ | ⟨c1, Ls⟩
      · exact (Bool.false_ne_true hle).elim
      rcases Ls with _ | ⟨c2, Ls⟩
      · exact (Bool.false_ne_true hle).elim
      cbv
      simp only [e2]
      cbv
      refine ⟨fun _ => htn, ?_⟩
      refine ⟨fun _ => ⟨by decide⟩, ?_⟩
      exact hK L2 _ _ _ hjl rfl ⟨congrArg (AV.int .u64) ((arX.arE _ _ _ _).trans hd), rfl, rfl, rfl, congrArg (AV.int .i64) (arX.sucK hjj (mk_fits hn) hjl), trivial⟩ trivial (congrArg (fun z => [some z]) hset)
    · rcases Ls with _ | ⟨c0, Ls⟩
      · exact (Bool.false_ne_true hle).elim
      rcases Ls with _ | ⟨c1, Ls⟩
      · exact (Bool.false_ne_true hle).elim
      rcases Ls with _ | ⟨c2, Ls⟩
      · exact (Bool.false_ne_true hle).elim
      rcases Ls with _ | ⟨c3, Ls⟩
      · exact (Bool.false_ne_true hle).elim
      cbv
      simp only [e2]
      cbv
      refine ⟨fun _ => htn, ?_⟩
      refine ⟨fun _ => ⟨by decide⟩, ?_⟩
      exact hK L2 _ _ _ hjl rfl ⟨congrArg (AV.int .u64) ((arX.arE _ _ _ _).trans hd), rfl, rfl, rfl, congrArg (AV.int .i64) (arX.sucK hjj (mk_fits hn) hjl), trivial⟩ trivial (congrArg (fun z => [some z]) hset)
    · rcases Ls with _ | ⟨c0, Ls⟩
      · exact (Bool.false_ne_true hle).elim
      rcases Ls with _ | ⟨c1, Ls⟩
      · exact (Bool.false_ne_true hle).elim
      rcases Ls with _ | ⟨c2, Ls⟩
      · exact (Bool.false_ne_true hle).elim
      rcases Ls with _ | ⟨c3, Ls⟩
      · exact (Bool.false_ne_true hle).elim
      rcases Ls with _ | ⟨c4, Ls⟩
      · exact (Bool.false_ne_true hle).elim
      cbv
      simp only [e2]
      cbv
      refine ⟨fun _ => htn, ?_⟩
      refine ⟨fun _ => ⟨by decide⟩, ?_⟩
      exact hK L2 _ _ _ hjl rfl ⟨congrArg (AV.int .u64) ((arX.arE _ _ _ _).trans hd), rfl, rfl, rfl, congrArg (AV.int .i64) (arX.sucK hjj (mk_fits hn) hjl), trivial⟩ trivial (congrArg (fun z => [some z]) hset)
    · rcases Ls with _ | ⟨c0, Ls⟩
      · exact (Bool.false_ne_true hle).elim
      rcases Ls with _ | ⟨c1, Ls⟩
      · exact (Bool.false_ne_true hle).elim
      rcases Ls with _ | ⟨c2, Ls⟩
      · exact (Bool.false_ne_true hle).elim
      rcases Ls with _ | ⟨c3, Ls⟩
      · exact (Bool.false_ne_true hle).elim
      rcases Ls with _ | ⟨c4, Ls⟩
      · exact (Bool.false_ne_true hle).elim
      rcases Ls with _ | ⟨c5, Ls⟩
      · exact (Bool.false_ne_true hle).elim
      cbv
      simp only [e2]
      cbv
      refine ⟨fun _ => htn, ?_⟩
      refine ⟨fun _ => ⟨by decide⟩, ?_⟩
      exact hK L2 _ _ _ hjl rfl ⟨congrArg (AV.int .u64) ((arX.arE _ _ _ _).trans hd), rfl, rfl, rfl, congrArg (AV.int .i64) (arX.sucK hjj (mk_fits hn) hjl), trivial⟩ trivial (congrArg (fun z => [some z]) hset)
    · rcases Ls with _ | ⟨c0, Ls⟩
      · exact (Bool.false_ne_true hle).elim
      rcases Ls with _ | ⟨c1, Ls⟩
      · exact (Bool.false_ne_true hle).elim
      rcases Ls with _ | ⟨c2, Ls⟩
      · exact (Bool.false_ne_true hle).elim
      rcases Ls with _ | ⟨c3, Ls⟩
      · exact (Bool.false_ne_true hle).elim
      rcases Ls with _ | ⟨c4, Ls⟩
      · exact (Bool.false_ne_true hle).elim
      rcases Ls with _ | ⟨c5, Ls⟩
      · exact (Bool.false_ne_true hle).elim
      rcases Ls with _ | ⟨c6, Ls⟩
      · exact (Bool.false_ne_true hle).elim
      cbv
      simp only [e2]
      cbv
      refine ⟨fun _ => htn, ?_⟩
      refine ⟨fun _ => ⟨by decide⟩, ?_⟩
      exact hK L2 _ _ _ hjl rfl ⟨congrArg (AV.int .u64) ((arX.arE _ _ _ _).trans hd), rfl, rfl, rfl, congrArg (AV.int .i64) (arX.sucK hjj (mk_fits hn) hjl), trivial⟩ trivial (congrArg (fun z => [some z]) hset)
    · rcases Ls with _ | ⟨c0, Ls⟩
      · exact (Bool.false_ne_true hle).elim
      rcases Ls with _ | ⟨c1, Ls⟩
      · exact (Bool.false_ne_true hle).elim
      rcases Ls with _ | ⟨c2, Ls⟩
      · exact (Bool.false_ne_true hle).elim
      rcases Ls with _ | ⟨c3, Ls⟩
      · exact (Bool.false_ne_true hle).elim
      rcases Ls with _ | ⟨c4, Ls⟩
      · exact (Bool.false_ne_true hle).elim
      rcases Ls with _ | ⟨c5, Ls⟩
      · exact (Bool.false_ne_true hle).elim
      rcases Ls with _ | ⟨c6, Ls⟩
      · exact (Bool.false_ne_true hle).elim
      rcases Ls with _ | ⟨c7, Ls⟩
      · exact (Bool.false_ne_true hle).elim
      cbv
      simp only [e2]
      cbv
      refine ⟨fun _ => htn, ?_⟩
      refine ⟨fun _ => ⟨by decide⟩, ?_⟩
      exact hK L2 _ _ _ hjl rfl ⟨congrArg (AV.int .u64) ((arX.arE _ _ _ _).trans hd), rfl, rfl, rfl, congrArg (AV.int .i64) (arX.sucK hjj (mk_fits hn) hjl), trivial⟩ trivial (congrArg (fun z => [some z]) hset)
    · exact absurd ht8 (by omega)
  · have hje := arX.outK hjj hnn.symm h3 hj
    have hfin : L = beB n v := by
      rw [hpre, hje, Nat.sub_self]; rfl
    have hch : vl vv xchunks 1 (n : Int) (Ls.map ut) = bs (beB n v) := by
      refine (congrFun (congrFun (congrFun arX.echunks 1) (n : Int)) _).trans ?_
      show chunk 1 n (Ls.map ut) = _
      have h := chunk_one Ls
      rw [hLl] at h
      rw [show Ls.map ut = Ls from by rw [← hLs]; exact uts_bs L, h, ← hLs, hfin]
    have hsc : scalAll Ls = true := by rw [← hLs]; exact scal_bs L
    have hlen : (Ls.length : Int) = ((n * 1 : Nat) : Int) := by rw [hLl, Nat.mul_one]
    cbv
    refine hKx (.exit 0) _ _ _ (by simp) ?_
    clear hK hKx hpre hfin hLs hj hje hvj
    cbv
    refine ⟨fun _ => ⟨⟨?_⟩, ⟨hsc⟩⟩, ?_⟩
    · rcases Ls with _ | ⟨c, Ls⟩
      · have : 0 = n := hLl
        subst this
        rfl
      · have : Ls.length + 1 = n := hLl
        subst this
        exact congrArg (fun z => Int.ofNat (z + 1)) (Nat.zero_add Ls.length).symm
    · refine hR _ _ ?_
      have hm := map_ut Ls
      refine congrArg (AV.sl true 1) (Eq.trans ?_ hch)
      refine congr (congr (congr rfl ?_) ?_) ?_
      · rfl
      · rfl
      · clear hch hsc hlen hLl; cases Ls <;> rfl
theorem wide76_c (n : Nat) (hn : n ≤ 8) (v : Int) (h0 : 0 ≤ v) (h1 : v < 18446744073709551616) (st : St) : VCalls Try.prog 76 [.int .u64 v, .int .i64 (n : Int)] st (fun r st' => r = .sl true 1 (bs (beB n v)) ∧ st' = st) :=
  (wide76_0 n hn v h0 h1).plain (fun ρ => by simp only [rens, ren]) (fun ρ => ren_bs ρ true _) st
end Go.V

/- U34: the reference's bytes: what they are made of. -/
namespace Go.V
open Go.Proofs
set_option maxRecDepth 100000
theorem num58_ok : codeOk Try.f58.ntmps (wTr (Cj [9, 17] FS std V5.q V5.b) [2, 5]) (Try.f58.body.getD .skip) = true := by kernel_rfl
theorem num58_c (n : Int) (st : St) : VCalls Try.prog 58 [.int .i64 n] st (fun r st' => r = .sl true 1 (bs (numB8 n)) ∧ st' = st) := by
  have ok7' : Ok Try.prog (Cj [9, 17] FS std V5.q V5.b) := ok7
  have hw := wide76_c 8 (by decide) (IntKind.wrap .u64 n) (wrap_u64_range n).1 (wrap_u64_range n).2 st
  refine VCalls.use (ok_tr ok7' [2, 5]) Try.func58 rfl (by rfl) (Nat.le_of_ble_eq_true rfl) num58_ok fun R hR => ?_
  unfold numB8 at hR
  generalize bs (beB 8 (IntKind.wrap .u64 n)) = out at *
  generalize hwn : IntKind.wrap .u64 n = wn at *
  replace hw : VCalls Try.prog 76 [.int .u64 wn, .int .i64 8] st (fun r st' => r = .sl true 1 out ∧ st' = st) := hw
  generalize Try.prog = P at *
  generalize hX : std = X at *
  refine ops_use hX fun vv xlt xieq xseq xslt xar xconv xnot xpick xbeq xeqc xlen xslen xget xsget xsub xssub xapp xcat xtoB xofB xrep xrepc xchunks xmx xmn hY arX => ?_
  clear hX
  subst hY
  generalize hVV : V5.b = VV at *
  refine vl_use vv VV fun V hV => ?_
  clear hVV
  subst hV
  generalize V5.q = Q at *
  have hc := (arX.convE .u64 n).trans hwn
  cbv
  simp only [hc]
  refine hw.mono ?_
  rintro r st' ⟨rfl, rfl⟩
  cbv
  exact hR _ _ ⟨rfl, rfl⟩
theorem count60_ok : codeOk Try.f60.ntmps (wTr (Cj [9, 17] FS std V5.q V5.b) [2, 5]) (Try.f60.body.getD .skip) = true := by kernel_rfl
theorem count60_c (n : Int) (st : St) : VCalls Try.prog 60 [.int .i64 n] st (fun r st' => r = .sl true 1 (bs (cntB n)) ∧ st' = st) := by
  have ok7' : Ok Try.prog (Cj [9, 17] FS std V5.q V5.b) := ok7
  have hw := wide76_c 4 (by decide) (IntKind.wrap .u64 n) (wrap_u64_range n).1 (wrap_u64_range n).2 st
  refine VCalls.use (ok_tr ok7' [2, 5]) Try.func60 rfl (by rfl) (Nat.le_of_ble_eq_true rfl) count60_ok fun R hR => ?_
  unfold cntB at hR
  generalize bs (beB 4 (IntKind.wrap .u64 n)) = out at *
  generalize hwn : IntKind.wrap .u64 n = wn at *
  replace hw : VCalls Try.prog 76 [.int .u64 wn, .int .i64 4] st (fun r st' => r = .sl true 1 out ∧ st' = st) := hw
  generalize Try.prog = P at *
  generalize hX : std = X at *
  refine ops_use hX fun vv xlt xieq xseq xslt xar xconv xnot xpick xbeq xeqc xlen xslen xget xsget xsub xssub xapp xcat xtoB xofB xrep xrepc xchunks xmx xmn hY arX => ?_
  clear hX
  subst hY
  generalize hVV : V5.b = VV at *
  refine vl_use vv VV fun V hV => ?_
  clear hVV
  subst hV
  generalize V5.q = Q at *
  have hc := (arX.convE .u64 n).trans hwn
  cbv
  simp only [hc]
  refine hw.mono ?_
  rintro r st' ⟨rfl, rfl⟩
  cbv
  exact hR _ _ ⟨rfl, rfl⟩
theorem flag59_ok : codeOk Try.f59.ntmps (wTr (Cj [9, 17] FS std V5.q V5.b) [2, 4, 5]) (Try.f59.body.getD .skip) = true := by kernel_rfl
theorem flag59_c (v : Bool) (st : St) : VCalls Try.prog 59 [.bool v] st (fun r st' => r = .sl true 1 (bs (flagB v)) ∧ st' = st) := by
  have ok7' : Ok Try.prog (Cj [9, 17] FS std V5.q V5.b) := ok7
  refine VCalls.use (ok_tr ok7' [2, 4, 5]) Try.func59 rfl (by rfl) (Nat.le_of_ble_eq_true rfl) flag59_ok fun R hR => ?_
  generalize Try.prog = P at *
  generalize hX : std = X at *
  refine ops_use hX fun vv xlt xieq xseq xslt xar xconv xnot xpick xbeq xeqc xlen xslen xget xsget xsub xssub xapp xcat xtoB xofB xrep xrepc xchunks xmx xmn hY arX => ?_
  clear hX
  subst hY
  generalize hVV : V5.b = VV at *
  refine vl_use vv VV fun V hV => ?_
  clear hVV
  subst hV
  generalize V5.q = Q at *
  cases v
  · cbv
    exact hR _ _ ⟨rfl, rfl⟩
  · cbv
    exact hR _ _ ⟨rfl, rfl⟩
theorem text82_ok : codeOk Try.f82.ntmps (wTr (Cj [9, 17] FS std V5.q V5.b) [2, 5, 7]) (Try.f82.body.getD .skip) = true := by kernel_rfl
theorem text82_c (s : List UInt8) (hs : s.length + 4 ≤ 140737488355328) (st : St) : VCalls Try.prog 82 [.str s] st (fun r st' => r = .sl true 1 (bs (cntB s.length ++ s)) ∧ st' = st) := by
  have ok7' : Ok Try.prog (Cj [9, 17] FS std V5.q V5.b) := ok7
  have hc := count60_c (s.length : Int) st
  have hcl := cntB_len (s.length : Int)
  refine VCalls.use (ok_tr ok7' [2, 5, 7]) Try.func82 rfl (by rfl) (Nat.le_of_ble_eq_true rfl) text82_ok fun R hR => ?_
  have hb : bs (cntB (s.length : Int) ++ s) = bs (cntB (s.length : Int)) ++ bs s := by unfold bs; rw [List.map_append]
  rw [hb] at hR
  generalize cntB (s.length : Int) = cn at *
  generalize hl : (s.length : Int) = len at *
  generalize Try.prog = P at *
  generalize hX : std = X at *
  refine ops_use hX fun vv xlt xieq xseq xslt xar xconv xnot xpick xbeq xeqc xlen xslen xget xsget xsub xssub xapp xcat xtoB xofB xrep xrepc xchunks xmx xmn hY arX => ?_
  clear hX
  subst hY
  generalize hVV : V5.b = VV at *
  refine vl_use vv VV fun V hV => ?_
  clear hVV
  subst hV
  generalize V5.q = Q at *
  have hsl := arX.slenE s
  have hsl2 := hsl.trans hl
  have hcn := arX.lenb cn
  have hto := arX.toBE s
  generalize bs cn = cb at *
  cbv
  simp only [hsl2]
  refine hc.mono ?_
  rintro r st' ⟨rfl, rfl⟩
  cbv
  refine ⟨fun _ => appOkK hcn hsl (by omega), ?_⟩
  exact hR _ _ ⟨congrArg (AV.sl true 1) ((arX.appE _ _).trans (congrArg (cb ++ ·) hto)), rfl⟩
theorem three77_ok : codeOk Try.f77.ntmps (wTr (Cj [9, 17] FS std V5.q V5.b) [6, 8]) (Try.f77.body.getD .skip) = true := by kernel_rfl
theorem three77_c (a : Ent) (ha : a.v.length + 20 ≤ 140737488355328) (st : St) : VCalls Try.prog 77 [.int .i64 a.x, .int .i64 a.y, .sl false 1 (bs a.v)] st (fun r st' => r = .sl true 1 (bs (threeB a)) ∧ st' = st) := by
  have ok7' : Ok Try.prog (Cj [9, 17] FS std V5.q V5.b) := ok7
  have h1 := num58_c a.x st
  have h2 := num58_c a.y st
  have h3 := text82_c a.v (by omega) st
  have hb : bs (threeB a) = (bs (numB8 a.x) ++ bs (numB8 a.y)) ++ bs (cntB a.v.length ++ a.v) := by
    unfold threeB bs; simp only [List.map_append, List.append_assoc]
  have l1 := numB8_len a.x
  have l2 := numB8_len a.y
  have l3 : (cntB a.v.length ++ a.v).length = 4 + a.v.length := by rw [List.length_append, cntB_len]
  refine VCalls.use (ok_tr ok7' [6, 8]) Try.func77 rfl (by rfl) (Nat.le_of_ble_eq_true rfl) three77_ok fun R hR => ?_
  rw [hb] at hR
  generalize a.x = x at *
  generalize a.y = y at *
  generalize a.v = v at *
  generalize Try.prog = P at *
  generalize numB8 x = nx at *
  generalize numB8 y = ny at *
  generalize cntB v.length ++ v = tx at *
  generalize hX : std = X at *
  refine ops_use hX fun vv xlt xieq xseq xslt xar xconv xnot xpick xbeq xeqc xlen xslen xget xsget xsub xssub xapp xcat xtoB xofB xrep xrepc xchunks xmx xmn hY arX => ?_
  clear hX
  subst hY
  generalize hVV : V5.b = VV at *
  refine vl_use vv VV fun V hV => ?_
  clear hVV
  subst hV
  generalize V5.q = Q at *
  have k1 := arX.lenb nx
  have k2 := arX.lenb ny
  have k3 := arX.lenb tx
  have k4 := arX.lenb (nx ++ ny)
  have l4 : (nx ++ ny).length = 16 := by rw [List.length_append]; omega
  have hof := arX.ofb v
  have hap : vl vv xapp (bs nx) (bs ny) = bs (nx ++ ny) := (arX.appE _ _).trans (by unfold bs; rw [List.map_append])
  have hu8 : AllU8 (bs v) := bs_u8 v
  generalize bs (nx ++ ny) = b12 at *
  generalize bs nx = b1 at *
  generalize bs ny = b2 at *
  generalize bs tx = b3 at *
  generalize bs v = vb at *
  generalize nx ++ ny = nn at *
  cbv
  refine h1.mono ?_
  rintro r st' ⟨rfl, rfl⟩
  cbv
  refine h2.mono ?_
  rintro r st' ⟨rfl, rfl⟩
  cbv
  simp only [hap, hof]
  refine ⟨fun _ => appOkK k1 k2 (by omega), ?_⟩
  refine ⟨fun _ => hu8, ?_⟩
  refine h3.mono ?_
  rintro r st' ⟨rfl, rfl⟩
  cbv
  refine ⟨fun _ => appOkK k4 k3 (by omega), ?_⟩
  exact hR _ _ ⟨congrArg (AV.sl true 1) ((arX.appE _ _).trans (congrArg (· ++ b3) (hap.symm.trans (arX.appE _ _)))), rfl⟩
theorem zero20 : List.replicate 20 (AV.int .u8 0) = bs (threeB Ent.zero) := by kernel_rfl
theorem bytes61_c (a : Ent) (ha : a.v.length + 20 ≤ 140737488355328) (st : St) : VCalls Try.prog 61 [a.av] st (fun r st' => r = .sl false 1 (bs (entB a)) ∧ st' = st) := by
  have h3 := three77_c a ha st
  have q65 : V5.q 65 [a.av] := ⟨a, rfl⟩
  have b65 : V5.b 65 [a.av] = a.right := by
    show (entOf _).right = _
    rw [entOf_av]
  generalize hout : AV.sl false 1 (bs (entB a)) = out
  unfold entB at hout
  have hz := zero20
  refine VCalls.use ok7 Try.func61 rfl (by rfl) (Nat.le_of_ble_eq_true rfl) (by kernel_rfl) fun R hR => ?_
  generalize a.right = rt at *
  unfold Ent.av at *
  generalize bs a.v = vs at *
  generalize a.x = x at *
  generalize a.y = y at *
  generalize hta : bs (threeB a) = ta at *
  generalize htz : bs (threeB Ent.zero) = tz at *
  generalize Try.prog = P at *
  generalize hX : std = X at *
  refine ops_use hX fun vv xlt xieq xseq xslt xar xconv xnot xpick xbeq xeqc xlen xslen xget xsget xsub xssub xapp xcat xtoB xofB xrep xrepc xchunks xmx xmn hY arX => ?_
  clear hX
  subst hY
  generalize hVV : V5.b = VV at *
  refine vl_use vv VV fun V hV => ?_
  clear hVV
  subst hV
  generalize V5.q = Q at *
  cbv
  refine ⟨fun _ => q65, ?_⟩
  refine tst (fun h => ?_) (fun h => ?_)
  · rw [arX.not, b65] at h
    cbv
    refine ⟨fun _ => ⟨by decide, by decide, by decide, by decide⟩, ?_⟩
    refine hR _ _ ⟨?_, rfl⟩
    rw [if_neg (by simpa using h), htz, ← hz] at hout
    rw [← hout]
    exact congrArg (AV.sl false 1) (arX.repE _ _)
  · rw [arX.not, b65] at h
    cbv
    refine h3.mono ?_
    rintro r st' ⟨rfl, rfl⟩
    cbv
    refine hR _ _ ⟨?_, rfl⟩
    rw [if_pos (by simpa using h), hta] at hout
    exact hout
theorem snap62_c (a : Ent) (ha : a.v.length + 20 ≤ 140737488355328) (st : St) : VCalls Try.prog 62 [a.av] st (fun r st' => r = .sl false 1 (bs (snapB a)) ∧ st' = st) := by
  have h3 := three77_c a ha st
  have q33 : V5.q 33 [a.av] := ⟨_, _, _, rfl⟩
  have b33 : V5.b 33 [a.av] = snapRight a.x a.y a.v.length := by
    show snapRight _ _ (bs _).length = _
    rw [show (bs a.v).length = a.v.length by simp [bs]]; rfl
  generalize hout : AV.sl false 1 (bs (snapB a)) = out
  unfold snapB at hout
  have hz := zero20
  refine VCalls.use ok7 Try.func62 rfl (by rfl) (Nat.le_of_ble_eq_true rfl) (by kernel_rfl) fun R hR => ?_
  generalize snapRight a.x a.y a.v.length = rt at *
  unfold Ent.av at *
  generalize bs a.v = vs at *
  generalize a.x = x at *
  generalize a.y = y at *
  generalize hta : bs (threeB a) = ta at *
  generalize htz : bs (threeB Ent.zero) = tz at *
  generalize Try.prog = P at *
  generalize hX : std = X at *
  refine ops_use hX fun vv xlt xieq xseq xslt xar xconv xnot xpick xbeq xeqc xlen xslen xget xsget xsub xssub xapp xcat xtoB xofB xrep xrepc xchunks xmx xmn hY arX => ?_
  clear hX
  subst hY
  generalize hVV : V5.b = VV at *
  refine vl_use vv VV fun V hV => ?_
  clear hVV
  subst hV
  generalize V5.q = Q at *
  cbv
  refine ⟨fun _ => q33, ?_⟩
  refine tst (fun h => ?_) (fun h => ?_)
  · rw [arX.not, b33] at h
    cbv
    refine ⟨fun _ => ⟨by decide, by decide, by decide, by decide⟩, ?_⟩
    refine hR _ _ ⟨?_, rfl⟩
    rw [if_neg (by simpa using h), htz, ← hz] at hout
    rw [← hout]
    exact congrArg (AV.sl false 1) (arX.repE _ _)
  · rw [arX.not, b33] at h
    cbv
    refine h3.mono ?_
    rintro r st' ⟨rfl, rfl⟩
    cbv
    refine hR _ _ ⟨?_, rfl⟩
    rw [if_pos (by simpa using h), hta] at hout
    exact hout
end Go.V

/- U35: what was put is what is taken: the plain law. -/
namespace Go.V
open Go.Proofs
set_option maxRecDepth 100000
theorem byteAt_val (v : Int) (k : Nat) : ((byteAt v k).toNat : Int) = v / 256 ^ k % 256 := by
  unfold byteAt
  have h2 := Int.emod_nonneg (v / 256 ^ k) (b := 256) (by decide)
  have h3 := Int.emod_lt_of_pos (v / 256 ^ k) (b := 256) (by decide)
  rw [UInt8.toNat_ofNat', Nat.mod_eq_of_lt (by omega)]
  omega
theorem emod_step {v : Int} (h : 0 ≤ v) (k : Nat) : v % 256 ^ (k + 1) = (v / 256 ^ k % 256) * 256 ^ k + v % 256 ^ k := by
  obtain ⟨m, rfl⟩ := Int.eq_ofNat_of_zero_le h
  have := @Nat.mod_mul (256 ^ k) 256 m
  have h2 : m % 256 ^ (k + 1) = (m / 256 ^ k % 256) * 256 ^ k + m % 256 ^ k := by
    rw [Nat.pow_succ, this, Nat.mul_comm, Nat.add_comm]
  have h3 : ((m % 256 ^ (k + 1) : Nat) : Int) = (((m / 256 ^ k % 256) * 256 ^ k + m % 256 ^ k : Nat) : Int) := by rw [h2]
  have e : ∀ j : Nat, ((256 ^ j : Nat) : Int) = (256 : Int) ^ j := fun j => Int.natCast_pow 256 j
  rw [Int.natCast_emod, e] at h3
  rw [h3, Int.natCast_add, Int.natCast_mul, Int.natCast_emod, Int.natCast_ediv, Int.natCast_emod, e]
  rfl
theorem beA_beB {v : Int} (h : 0 ≤ v) : ∀ (k : Nat) (w : Int), beA w (beB k v) = w * 256 ^ k + v % 256 ^ k
  | 0, w => by
    show w = w * 1 + v % 1
    rw [Int.emod_one]; omega
  | k + 1, w => by
    show beA (w * 256 + ((byteAt v k).toNat : Int)) (beB k v) = _
    rw [beA_beB h k, byteAt_val, emod_step h, Int.add_mul, Int.pow_succ, Int.mul_assoc, Int.mul_comm 256, Int.add_assoc]
theorem beN_beB {v : Int} {k : Nat} (h0 : 0 ≤ v) (h1 : v < 256 ^ k) : beN (beB k v) = v := by
  unfold beN
  rw [beA_beB h0, Int.zero_mul, Int.zero_add, Int.emod_eq_of_lt h0 h1]
theorem take_app {n : Int} {a r : List UInt8} (h : (a.length : Int) = n) : takeS n (a ++ r, false) = (a, (r, false)) := by
  unfold takeS
  dsimp only
  rw [if_neg (by decide), if_neg (by rw [List.length_append]; omega), ← h, Int.toNat_natCast, List.take_left, List.drop_left]
theorem wide_app {k : Nat} {v : Int} (h0 : 0 ≤ v) (h1 : v < 256 ^ k) (r : List UInt8) : wideS (k : Int) (beB k v ++ r, false) = (v, (r, false)) := by
  unfold wideS
  rw [take_app (by rw [beB_len])]
  dsimp only
  rw [beN_beB h0 h1]
theorem by_app {n : Int} (h0 : 0 ≤ n) (h1 : n < 256) (r : List UInt8) : wideS 1 (byB n ++ r, false) = (n, (r, false)) := by
  have : byB n = beB 1 n := by unfold byB; rw [beB_one h0 h1, wrap_u8 h0 h1]
  rw [this]
  exact wide_app (k := 1) h0 h1 r
theorem num_app {n : Int} (h0 : 0 ≤ n) (h1 : n ≤ 1099511627776) (r : List UInt8) : numS (numB8 n ++ r, false) = (n, (r, false)) := by
  unfold numS numB8
  rw [wrap_u64 h0 (by omega)]
  have := wide_app (k := 8) h0 (by omega) r
  replace this : wideS 8 (beB 8 n ++ r, false) = (n, (r, false)) := this
  rw [this]
  dsimp only
  rw [wrap_i64 (by omega) (by omega)]
theorem flag_app (b : Bool) (r : List UInt8) : flagS (flagB b ++ r, false) = (b, (r, false)) := by
  have h1 : flagB true = byB 1 := rfl
  have h0 : flagB false = byB 0 := rfl
  unfold flagS
  cases b
  · rw [h0, by_app (by decide) (by decide)]; rfl
  · rw [h1, by_app (by decide) (by decide)]; rfl
theorem count_app {most n : Int} (h0 : 0 ≤ n) (h1 : n ≤ most) (h2 : most < 4294967296) (r : List UInt8) (hr : n ≤ (r.length : Int)) : countS most (cntB n ++ r, false) = (n, (r, false)) := by
  unfold countS cntB
  rw [wrap_u64 h0 (by omega)]
  have := wide_app (k := 4) (v := n) h0 (by omega) r
  replace this : wideS 4 (beB 4 n ++ r, false) = (n, (r, false)) := this
  rw [this]
  dsimp only
  rw [if_neg (by omega)]
theorem bytes_app {most : Int} {d : List UInt8} (h : (d.length : Int) ≤ most) (h2 : most < 4294967296) (r : List UInt8) : bytesS most (cntB d.length ++ (d ++ r), false) = (d, (r, false)) := by
  unfold bytesS
  rw [count_app (by omega) h h2 _ (by rw [List.length_append]; omega)]
  exact take_app rfl
theorem three_app {most : Int} {a : Ent} (hx : 0 ≤ a.x ∧ a.x ≤ 1099511627776) (hy : 0 ≤ a.y ∧ a.y ≤ 1099511627776) (h : (a.v.length : Int) ≤ most) (h2 : most < 4294967296) (r : List UInt8) : threeS most (threeB a ++ r, false) = (a, (r, false)) := by
  unfold threeS threeB
  simp only [List.append_assoc]
  simp only [num_app hx.1 hx.2, num_app hy.1 hy.2, bytes_app h h2]
theorem ent_app {a : Ent} (h : a.right = true) (r : List UInt8) : entS (entB a ++ r, false) = (a, (r, false)) := by
  have h' := h
  unfold Ent.right numB at h'
  simp only [Bool.and_eq_true, decide_eq_true_eq] at h'
  unfold entS entB
  rw [if_pos h, three_app (by omega) (by omega) h'.2 (by decide)]
  dsimp only
  rw [h]; rfl
theorem snap_app {a : Ent} (h : snapRight a.x a.y a.v.length = true) (r : List UInt8) : snapS (snapB a ++ r, false) = (a, (r, false)) := by
  have h' := h
  have h3 : (0 ≤ a.x ∧ a.x ≤ 1099511627776) ∧ (0 ≤ a.y ∧ a.y ≤ 1099511627776) ∧ (a.v.length : Int) ≤ 50000 := by
    unfold snapRight numB at h'
    split at h'
    · have := of_decide_eq_true h'; omega
    · simp only [Bool.and_eq_true, decide_eq_true_eq] at h'; omega
  unfold snapS snapB
  rw [if_pos h, three_app h3.1 h3.2.1 h3.2.2 (by decide)]
  dsimp only
  rw [h]; rfl
theorem ents_app : ∀ (L : List Ent) (r : List UInt8), (∀ a ∈ L, a.right = true) → entsS L.length (cat entB L ++ r, false) = (L, (r, false))
  | [], r, _ => rfl
  | a :: L, r, h => by
    show ((entS ((entB a ++ cat entB L) ++ r, false)).1 :: (entsS L.length (entS ((entB a ++ cat entB L) ++ r, false)).2).1, (entsS L.length (entS ((entB a ++ cat entB L) ++ r, false)).2).2) = _
    rw [List.append_assoc, ent_app (h a List.mem_cons_self)]
    dsimp only
    rw [ents_app L r fun b hb => h b (List.mem_cons_of_mem _ hb)]
theorem run_right : ∀ (L : List Ent) (x y : Int), runOk x y L = true → ∀ a ∈ L, a.right = true
  | b :: r, x, y, h, a, ha => by
    unfold runOk at h
    simp only [Bool.and_eq_true] at h
    rcases List.mem_cons.1 ha with rfl | ha
    · exact h.1.1.1
    · exact run_right r _ _ h.2 a ha
theorem cat_ge : ∀ (L : List Ent), L.length ≤ (cat entB L).length
  | [] => Nat.le_refl _
  | a :: L => by
    show L.length + 1 ≤ (entB a ++ cat entB L).length
    rw [List.length_append]
    have := cat_ge L
    have h : 1 ≤ (entB a).length := by
      unfold entB
      split <;> rw [threeB_len] <;> omega
    omega
theorem keep_no {m : Msg} (h : ¬ (1 ≤ m.kind ∧ m.kind ≤ 7)) : (keep m).2 = false := by
  unfold keep
  rw [if_neg (by omega), if_neg (by omega), if_neg (by omega), if_neg (by omega), if_neg (by omega)]
theorem keep_snap {m : Msg} (h : m.kind ≠ 7) : (keep m).1.si = 0 ∧ (keep m).1.st = 0 ∧ (keep m).1.sv = [] := by
  unfold keep
  split
  · exact ⟨rfl, rfl, rfl⟩
  · split
    · exact ⟨rfl, rfl, rfl⟩
    · split
      · exact ⟨rfl, rfl, rfl⟩
      · split
        · exact ⟨rfl, rfl, rfl⟩
        · exact ⟨rfl, rfl, rfl⟩
/-- What a right message has. -/
theorem right_parts {m : Msg} (h : m.right = true) : (1 ≤ m.kind ∧ m.kind ≤ 7) ∧ (0 ≤ m.frm ∧ m.frm < 3) ∧ (0 ≤ m.to ∧ m.to < 3) ∧ ((0 ≤ m.term ∧ m.term ≤ 1099511627776) ∧ (0 ≤ m.a ∧ m.a ≤ 1099511627776) ∧ (0 ≤ m.b ∧ m.b ≤ 1099511627776) ∧ (0 ≤ m.c ∧ m.c ≤ 1099511627776) ∧ (0 ≤ m.d ∧ m.d ≤ 1099511627776)) ∧
    (m.ents.length : Int) ≤ 4 ∧ (∀ a ∈ m.ents, a.right = true) ∧ (m.kind = 7 → snapRight m.si m.st m.sv.length = true) ∧ (m.kind ≠ 7 → m.si = 0 ∧ m.st = 0 ∧ m.sv = []) := by
  unfold Msg.right at h
  simp only [Bool.and_eq_true, Bool.or_eq_true, Bool.not_eq_true', decide_eq_true_eq, decide_eq_false_iff_not, List.all_cons, List.all_nil, okNum] at h
  obtain ⟨⟨⟨⟨⟨⟨⟨⟨⟨⟨h1, h2⟩, h3⟩, h4⟩, _⟩, _⟩, h5⟩, h6⟩, h7⟩, _⟩, h8⟩ := h
  have hk : (1 ≤ m.kind ∧ m.kind ≤ 7) ∧ (m.kind ≠ 7 → m.si = 0 ∧ m.st = 0 ∧ m.sv = []) := by
    refine ⟨?_, fun hn => ?_⟩
    · rcases Decidable.em (1 ≤ m.kind ∧ m.kind ≤ 7) with h | h
      · exact h
      · rw [keep_no h] at h1; cases h1
    · have := keep_snap hn
      rw [h2] at this
      exact this
  refine ⟨hk.1, h3, h4, ⟨h5.1, h5.2.1, h5.2.2.1, h5.2.2.2.1, h5.2.2.2.2.1⟩, by omega, run_right _ _ _ h7, ?_, hk.2⟩
  intro hk7
  rcases h8 with h8 | h8
  · exact absurd hk7 h8
  · exact h8.1.1
theorem msgS_msgB {m : Msg} (h : m.right = true) : msgS (msgB m, false) = (m, ([], false)) := by
  obtain ⟨p1, p2, p3, ⟨p4, p5, p6, p7, p8⟩, p9, pE, pS, pN⟩ := right_parts h
  have hraw : msgRaw (bodyB m, false) = (m, ([], false)) := by
    unfold msgRaw bodyB
    have hc1 : cat byB [m.kind, m.frm, m.to] = byB m.kind ++ (byB m.frm ++ (byB m.to ++ [])) := rfl
    have hc2 : cat numB8 [m.term, m.a, m.b, m.c, m.d] = numB8 m.term ++ (numB8 m.a ++ (numB8 m.b ++ (numB8 m.c ++ (numB8 m.d ++ [])))) := rfl
    rw [hc1, hc2]
    simp only [List.append_assoc, List.nil_append]
    generalize hs : (bif decide (m.kind = 7) then snapB m.snap else []) = sn
    have hcge := cat_ge m.ents
    simp only [by_app (show 0 ≤ m.kind by omega) (show m.kind < 256 by omega), by_app p2.1 (show m.frm < 256 by omega), by_app p3.1 (show m.to < 256 by omega), num_app p4.1 p4.2, num_app p5.1 p5.2, num_app p6.1 p6.2, num_app p7.1 p7.2, num_app p8.1 p8.2, flag_app,
      count_app (Int.natCast_nonneg m.ents.length) p9 (show (4 : Int) < 4294967296 by decide) (cat entB m.ents ++ sn) (by rw [List.length_append]; omega), Int.toNat_natCast, ents_app m.ents sn pE]
    subst hs
    by_cases hk : m.kind = 7
    · have e : decide (m.kind = 7) = true := decide_eq_true hk
      have hsn := snap_app (a := m.snap) (pS hk) []
      rw [List.append_nil] at hsn
      rw [e]
      dsimp only [cond]
      rw [hsn]
      rfl
    · have e : decide (m.kind = 7) = false := decide_eq_false hk
      rw [e]
      obtain ⟨e1, e2, e3⟩ := pN hk
      dsimp only [cond]
      obtain ⟨m1, m2, m3, m4, m5, m6, m7, m8, m9, mA, m11, m12, mV⟩ := m
      dsimp only at e1 e2 e3 ⊢
      subst e1 e2 e3
      rfl
  unfold msgS msgB
  rw [if_pos h, hraw]
  dsimp only
  rw [h]; rfl
theorem msgS_wrong {m : Msg} (h : m.right = false) : msgS (msgB m, false) = (Msg.zero, ([], true)) := by
  unfold msgB
  rw [if_neg (by rw [h]; decide)]
  have hk : (msgRaw ([0], false)).1.kind = 0 := rfl
  have hr : (msgRaw ([0], false)).1.right = false := by
    generalize (msgRaw ([0], false)).1 = k at *
    unfold Msg.right
    have : (keep k).2 = false := keep_no (by omega)
    rw [this]
    simp only [Bool.false_and]
  unfold msgS
  rw [hr, Bool.not_false, Bool.or_true, if_pos rfl]
/-- What is few is no more than may be put. -/
theorem few_sum : ∀ (L : List Ent) (j s : Int), 0 ≤ s → s ≤ 40000 → (∀ a ∈ L, (a.v.length : Int) ≤ 12000) → fewE 6 j s L = true → ((cat entB L).length : Int) ≤ 40000 - s + 20 * (L.length : Int)
  | [], j, s, h0, h1, _, _ => by show (0 : Int) ≤ _; have : (([] : List Ent).length : Int) = 0 := rfl; omega
  | a :: r, j, s, h0, h1, hv, h => by
    unfold fewE at h
    have ha := hv a List.mem_cons_self
    have e : std .ar .add .i64 s (a.v.length : Int) = s + (a.v.length : Int) := wrap_i64 (by omega) (by omega)
    rw [e] at h
    simp only [Bool.and_eq_true, Bool.not_eq_true', Bool.or_eq_false_iff, decide_eq_false_iff_not] at h
    have ih := few_sum r (j + 1) (s + (a.v.length : Int)) (by omega) (by omega) (fun b hb => hv b (List.mem_cons_of_mem _ hb)) h.2
    show (((entB a ++ cat entB r).length : Nat) : Int) ≤ _
    rw [List.length_append, List.length_cons]
    have := entB_len a
    omega
theorem few_len {m : Msg} (hr : m.right = true) (h : m.few = true) : (bodyB m).length ≤ 60000 := by
  unfold Msg.few at h
  simp only [Bool.and_eq_true, decide_eq_true_eq] at h
  have hf := right_few hr
  have h1 := few_sum m.ents 0 0 (by decide) (by decide) (fun a ha => by have := hf.2.1 a ha; omega) h.1
  have h2 : (bif decide (m.kind = 7) then snapB m.snap else []).length ≤ 2020 := by
    cases decide (m.kind = 7)
    · exact Nat.zero_le _
    · show (snapB m.snap).length ≤ _
      unfold snapB
      split
      · rw [threeB_len]; show m.sv.length + 20 ≤ _; omega
      · rw [threeB_len]; show 0 + 20 ≤ _; omega
  have h3 : (cat byB [m.kind, m.frm, m.to]).length = 3 := rfl
  have h4 : (cat numB8 [m.term, m.a, m.b, m.c, m.d]).length = 40 := by
    show (numB8 m.term ++ (numB8 m.a ++ (numB8 m.b ++ (numB8 m.c ++ (numB8 m.d ++ []))))).length = _
    simp only [List.length_append, numB8_len, List.length_nil]
  have h5 : (flagB m.yes).length = 1 := rfl
  unfold bodyB
  simp only [List.length_append, h3, h4, h5, cntB_len]
  omega
end Go.V
