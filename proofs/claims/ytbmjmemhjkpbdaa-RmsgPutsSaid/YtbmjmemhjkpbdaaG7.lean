/- L1: what a law's arguments are: messages. -/
import Derived.Test.YtbmjmemhjkpbdaaG2
import Derived.Test.YtbmjmemhjkpbdaaVE
import Derived.Test.YtbmjmemhjkpbdaaG6
set_option linter.unusedVariables false
set_option linter.unusedSimpArgs false
namespace Go.V
set_option maxRecDepth 100000
open Go.Proofs
def I64 (n : Int) : Prop := -9223372036854775808 ≤ n ∧ n ≤ 9223372036854775807
theorem ty_int {P : Program} {k : Nat} {t : TypeId} {kd : IntKind} {avs : List AV} (hu : P.underlying t = some (.int kd)) (h : Tyf P k t avs) : ∃ n, avs = [.int kd n] ∧ kd.min ≤ n ∧ n ≤ kd.max := by
  cases k with
  | zero => exact h.elim
  | succ k => unfold Tyf at h; rw [hu] at h; exact h
theorem ty_i64 {P : Program} {k : Nat} {t : TypeId} {avs : List AV} (hu : P.underlying t = some (.int .i64)) (h : Tyf P k t avs) : ∃ n, avs = [.int .i64 n] ∧ I64 n := by
  obtain ⟨n, h1, h2, h3⟩ := ty_int hu h
  refine ⟨n, h1, ?_, ?_⟩
  · have : IntKind.min .i64 = -9223372036854775808 := by decide
    omega
  · have : IntKind.max .i64 = 9223372036854775807 := by decide
    omega
theorem ty_bool {P : Program} {k : Nat} {t : TypeId} {avs : List AV} (hu : P.underlying t = some .bool) (h : Tyf P k t avs) : ∃ b, avs = [.bool b] := by
  cases k with
  | zero => exact h.elim
  | succ k => unfold Tyf at h; rw [hu] at h; exact h
theorem ty_slice {P : Program} {k : Nat} {t e : TypeId} {avs : List AV} {α : Type} (f : α → AV) (q : α → Prop) (hu : P.underlying t = some (.slice e)) (h : Tyf P k t avs) (hel : ∀ j cs, k = j + 1 → Tyf P j e cs → ∃ a, mkEl (P.cellsOf e) cs = f a ∧ q a) :
    ∃ l : List α, avs = [.sl false (P.cellsOf e) (l.map f)] ∧ l.length ≤ maxLen ∧ ∀ a ∈ l, q a := by
  cases k with
  | zero => exact h.elim
  | succ k =>
    unfold Tyf at h; rw [hu] at h
    obtain ⟨es, rfl, hl, he⟩ := h
    have : ∃ l : List α, es = l.map f ∧ ∀ a ∈ l, q a := by
      clear hl
      induction es with
      | nil => exact ⟨[], rfl, fun _ h => by cases h⟩
      | cons v es ih =>
        obtain ⟨cs, rfl, hc⟩ := he v (by simp)
        obtain ⟨a, ha, hq⟩ := hel k cs rfl hc
        obtain ⟨l, rfl, hl⟩ := ih (fun v hv => he v (by simp [hv]))
        refine ⟨a :: l, by rw [List.map_cons, ha], fun b hb => ?_⟩
        rcases List.mem_cons.1 hb with rfl | hb
        · exact hq
        · exact hl b hb
    obtain ⟨l, rfl, hq⟩ := this
    exact ⟨l, rfl, by simpa using hl, hq⟩
theorem ty_bytes {P : Program} {k : Nat} {t e : TypeId} {avs : List AV} (hu : P.underlying t = some (.slice e)) (he : P.underlying e = some (.int .u8)) (hc : P.cellsOf e = 1) (h : Tyf P k t avs) :
    ∃ v : List UInt8, avs = [.sl false 1 (bs v)] ∧ v.length ≤ maxLen := by
  obtain ⟨l, h1, h2, _⟩ := ty_slice u8 (fun _ => True) hu h (fun j cs _ hj => by
    obtain ⟨n, rfl, h0, h1⟩ := ty_int he hj
    have e0 : IntKind.min .u8 = 0 := by decide
    have e1 : IntKind.max .u8 = 255 := by decide
    refine ⟨UInt8.ofNat n.toNat, ?_, trivial⟩
    rw [hc]
    show AV.int .u8 n = .int .u8 ((UInt8.ofNat n.toNat).toNat : Int)
    have : (UInt8.ofNat n.toNat).toNat = n.toNat := by
      rw [UInt8.toNat_ofNat']
      exact Nat.mod_eq_of_lt (by omega)
    rw [this]
    congr 1
    omega)
  rw [hc] at h1
  exact ⟨l, h1, h2⟩
def Ent.wf (a : Ent) : Prop := I64 a.x ∧ I64 a.y ∧ a.v.length ≤ maxLen
theorem ty_ent3 {k : Nat} {t : TypeId} {avs : List AV} {fs : Array Field} (hu : Try.prog.underlying t = some (.struct fs)) (hf : fs.toList.map (·.type) = [2, 2, 23]) (h : Tyf Try.prog k t avs) : ∃ a : Ent, avs = a.av.cells ∧ a.wf := by
  cases k with
  | zero => exact h.elim
  | succ k =>
    unfold Tyf at h; rw [hu] at h
    obtain ⟨parts, rfl, h⟩ := h
    have h : All2 (fun f p => Tyf Try.prog k f p) (fs.toList.map (·.type)) parts := by
      clear hf hu
      generalize fs.toList = l at h
      induction l generalizing parts with
      | nil => cases parts with | nil => trivial | cons _ _ => exact h.elim
      | cons f l ih => cases parts with | nil => exact h.elim | cons p r => exact ⟨h.1, ih _ h.2⟩
    rw [hf] at h
    match parts, h with
    | [p1, p2, p3], ⟨h1, h2, h3, _⟩ =>
      obtain ⟨x, rfl, hx⟩ := ty_i64 Try.underlying2 h1
      obtain ⟨y, rfl, hy⟩ := ty_i64 Try.underlying2 h2
      obtain ⟨v, rfl, hv⟩ := ty_bytes Try.underlying23 Try.underlying5 (by kernel_rfl) h3
      exact ⟨⟨x, y, v⟩, rfl, hx, hy, hv⟩
theorem ty_ents {k : Nat} {avs : List AV} (h : Tyf Try.prog k 22 avs) : ∃ A : List Ent, avs = [.sl false 3 (A.map Ent.av)] ∧ A.length ≤ maxLen ∧ ∀ a ∈ A, a.wf := by
  have hc : Try.prog.cellsOf 60 = 3 := by kernel_rfl
  obtain ⟨l, h1, h2, h3⟩ := ty_slice Ent.av Ent.wf Try.underlying22 h (fun j cs _ hj => by
    obtain ⟨a, rfl, ha⟩ := ty_ent3 Try.underlying60 rfl hj
    refine ⟨a, ?_, ha⟩
    rw [hc]
    rfl)
  rw [hc] at h1
  exact ⟨l, h1, h2, h3⟩
structure Msg.wf (m : Msg) : Prop where
  kind : I64 m.kind
  frm : I64 m.frm
  to : I64 m.to
  term : I64 m.term
  a : I64 m.a
  b : I64 m.b
  c : I64 m.c
  d : I64 m.d
  ents : m.ents.length ≤ maxLen ∧ ∀ a ∈ m.ents, a.wf
  si : I64 m.si
  st : I64 m.st
  sv : m.sv.length ≤ maxLen
theorem Msg.wf.len {m : Msg} (h : m.wf) : (m.ents.length : Int) ≤ 9223372036854775807 := by
  have := h.ents.1
  have e : maxLen = 9223372036854775807 := by decide
  omega
theorem all2_types {k : Nat} {l : List Field} {parts : List (List AV)} (h : All2 (fun f p => Tyf Try.prog k f.type p) l parts) : All2 (fun f p => Tyf Try.prog k f p) (l.map (·.type)) parts := by
  induction l generalizing parts with
  | nil => cases parts with | nil => trivial | cons _ _ => exact h.elim
  | cons f l ih => cases parts with | nil => exact h.elim | cons p r => exact ⟨h.1, ih h.2⟩
theorem ty_msg {k : Nat} {v : AV} (h : TyV Try.prog k 27 v) : ∃ m : Msg, v = m.av ∧ m.wf := by
  unfold TyV at h
  rw [Try.underlying27] at h
  obtain ⟨cs, rfl, h⟩ := h
  cases k with
  | zero => exact h.elim
  | succ k =>
    unfold Tyf at h; rw [Try.underlying27] at h
    obtain ⟨parts, rfl, h⟩ := h
    replace h := all2_types h
    have h : All2 (fun f p => Tyf Try.prog k f p) [3, 3, 3, 2, 2, 2, 2, 2, 4, 22, 25] parts := h
    match parts, h with
    | [p1, p2, p3, p4, p5, p6, p7, p8, p9, pA, pB], ⟨h1, h2, h3, h4, h5, h6, h7, h8, h9, hA, hB, _⟩ =>
      obtain ⟨m1, rfl, w1⟩ := ty_i64 Try.underlying3 h1
      obtain ⟨m2, rfl, w2⟩ := ty_i64 Try.underlying3 h2
      obtain ⟨m3, rfl, w3⟩ := ty_i64 Try.underlying3 h3
      obtain ⟨m4, rfl, w4⟩ := ty_i64 Try.underlying2 h4
      obtain ⟨m5, rfl, w5⟩ := ty_i64 Try.underlying2 h5
      obtain ⟨m6, rfl, w6⟩ := ty_i64 Try.underlying2 h6
      obtain ⟨m7, rfl, w7⟩ := ty_i64 Try.underlying2 h7
      obtain ⟨m8, rfl, w8⟩ := ty_i64 Try.underlying2 h8
      obtain ⟨m9, rfl⟩ := ty_bool Try.underlying4 h9
      obtain ⟨A, rfl, wA⟩ := ty_ents hA
      obtain ⟨⟨si, st, sv⟩, rfl, wB⟩ := ty_ent3 Try.underlying25 rfl hB
      exact ⟨⟨m1, m2, m3, m4, m5, m6, m7, m8, m9, A, si, st, sv⟩, rfl, w1, w2, w3, w4, w5, w6, w7, w8, wA, wB.1, wB.2.1, wB.2.2⟩
end Go.V

/- U36: the reference's bytes of a message. -/
namespace Go.V
open Go.Proofs
set_option maxRecDepth 100000
set_option maxHeartbeats 2000000
theorem bs_app (a b : List UInt8) : bs (a ++ b) = bs a ++ bs b := by unfold bs; rw [List.map_append]
theorem u8_wrap (n : Int) : u8 (UInt8.ofNat (IntKind.wrap .u8 n).toNat) = .int .u8 (IntKind.wrap .u8 n) := by
  have h := wrap_u8_range n
  unfold u8
  rw [UInt8.toNat_ofNat', Nat.mod_eq_of_lt (by omega)]
  rw [show ((IntKind.wrap .u8 n).toNat : Int) = IntKind.wrap .u8 n by omega]
theorem snapB_len (a : Ent) : (snapB a).length ≤ a.v.length + 20 := by
  unfold snapB
  split
  · rw [threeB_len]; exact Nat.le_refl _
  · rw [threeB_len]; show 0 + 20 ≤ _; omega
theorem bytes22_ok : codeOk Try.f22.ntmps (wTr (wRt (Cj [9, 17] FS std V5.q V5.b) [(43, 1), (47, 1)]) [3, 35, 42, 58, 70]) (Try.f22.body.getD .skip) = true := by kernel_rfl
theorem bytes22_c (m : Msg) (hm : (m.ents.length : Int) ≤ 9223372036854775807) (st : St) : VCalls Try.prog 22 [m.av] st (fun r st' => r = .sl false 1 (bs (msgB m)) ∧ st' = st) := by
  have ok7' : Ok Try.prog (Cj [9, 17] FS std V5.q V5.b) := ok7
  have q11 : V5.q 11 [m.av] := ⟨m, hm, rfl⟩
  have b11 : V5.b 11 [m.av] = m.right := by
    show (msgOf _).right = _
    rw [msgOf_av]
  have hfew := @right_few m
  generalize hrt : m.right = rt at hfew b11
  have hout : bs (msgB m) = bs (cond rt (bodyB m) [0]) := by
    unfold msgB; rw [hrt]; cases rt <;> rfl
  rw [hout]
  clear hout hrt
  unfold bodyB Msg.snap
  obtain ⟨m1, m2, m3, m4, m5, m6, m7, m8, m9, mA, m11, m12, mV⟩ := m
  dsimp only at hfew hm ⊢
  have hnum := num58_c
  have hfl := flag59_c
  have hcn := count60_c
  have hen := bytes61_c
  have hsn := snap62_c
  refine VCalls.use (ok_tr (ok_rt ok7' [(43, 1), (47, 1)]) [3, 35, 42, 58, 70]) Try.func22 rfl (by rfl) (Nat.le_of_ble_eq_true rfl) bytes22_ok fun R hR => ?_
  have okX := ok_tr (ok_rt ok7' [(43, 1), (47, 1)]) [3, 35, 42, 58, 70]
  have hks : cat byB [m1, m2, m3] = byB m1 ++ (byB m2 ++ (byB m3 ++ [])) := rfl
  have hkl : (cat byB [m1, m2, m3]).length = 3 := rfl
  have hkb : bs (cat byB [m1, m2, m3]) = [.int .u8 (IntKind.wrap .u8 m1), .int .u8 (IntKind.wrap .u8 m2), .int .u8 (IntKind.wrap .u8 m3)] := by
    rw [hks]
    show [u8 _, u8 _, u8 _] = _
    rw [u8_wrap, u8_wrap, u8_wrap]
  generalize cat byB [m1, m2, m3] = l1 at *
  generalize Try.prog = P at *
  generalize hX : std = X at *
  refine ops_use hX fun vv xlt xieq xseq xslt xar xconv xnot xpick xbeq xeqc xlen xslen xget xsget xsub xssub xapp xcat xtoB xofB xrep xrepc xchunks xmx xmn hY arX => ?_
  clear hX
  subst hY
  generalize hVV : V5.b = VV at *
  refine vl_use vv VV fun V hV => ?_
  clear hVV
  subst hV
  generalize V5.q = Q at *
  unfold Msg.av at *
  dsimp only at *
  have lE := arX.lenf Ent.av mA
  have gE := fun (j : Nat) (a : Ent) (h : mA[j]? = some a) => arX.getf Ent.av h
  have hk2 : [AV.int .u8 (vl vv xconv .u8 m1), AV.int .u8 (vl vv xconv .u8 m2), AV.int .u8 (vl vv xconv .u8 m3)] = bs l1 := by
    rw [hkb]
    exact congr (congrArg List.cons (congrArg (AV.int .u8) (arX.convE _ _))) (congr (congrArg List.cons (congrArg (AV.int .u8) (arX.convE _ _))) (congr (congrArg List.cons (congrArg (AV.int .u8) (arX.convE _ _))) rfl))
  generalize hmas : mA.map Ent.av = mas at *
  generalize hmvs : bs mV = mvs at *
  cbv
  refine ⟨fun _ => q11, ?_⟩
  refine tst (fun h => ?_) (fun h => ?_)
  · cbv
    rw [arX.not, b11, Bool.not_eq_true'] at h
    subst h
    exact hR _ _ ⟨rfl, rfl⟩
  · rw [arX.not, b11, Bool.not_eq_false'] at h
    subst h
    have hf := hfew rfl
    have hf1 := hf.1
    have hf2 := hf.2.1
    have hf3 := hf.2.2
    clear hks hkb
    cbv
    refine wp_for okX (by kernel_rfl) 5 (fun j (L : List UInt8) => L = l1 ++ cat numB8 ([m4, m5, m6, m7, m8].take j))
      (fun j L => [(1, .lp 1 0), (3, .sl true 1 (bs L)), (4, .lp 4 0), (32, .int .i64 (j : Int))])
      (fun _ _ => [(1, [.int .i64 m1, .int .i64 m2, .int .i64 m3, .int .i64 m4, .int .i64 m5, .int .i64 m6, .int .i64 m7, .int .i64 m8, .bool m9, .sl false 3 mas, .int .i64 m11, .int .i64 m12, .sl false 1 mvs]), (4, [.int .i64 m4, .int .i64 m5, .int .i64 m6, .int .i64 m7, .int .i64 m8])])
      l1 (List.append_nil l1).symm (fun _ _ => rfl) ⟨rfl, congrArg (AV.sl true 1) hk2, rfl, rfl, trivial⟩ ⟨rfl, rfl, trivial⟩ ?_
    rintro j L hj hpre K hK hKx
    have hll : L.length ≤ 43 := by
      have := cat_len numB8 8 [m4, m5, m6, m7, m8] (fun _ _ => Nat.le_of_eq (numB8_len _)) j
      rw [hpre, List.length_append]; omega
    have hlL := arX.lenb L
    have hjs : j = 0 ∨ j = 1 ∨ j = 2 ∨ j = 3 ∨ j = 4 ∨ j = 5 := by omega
    rcases hjs with rfl | rfl | rfl | rfl | rfl | rfl
    · have hnx : L ++ numB8 m4 = l1 ++ cat numB8 ([m4, m5, m6, m7, m8].take 1) := by rw [cat_suc numB8 (L := [m4, m5, m6, m7, m8]) (j := 0) (a := m4) rfl, hpre, List.append_assoc]
      have hn := hnum m4 st
      have hln := arX.lenb (numB8 m4)
      have hn8 := numB8_len m4
      have hbx : vl vv xapp (bs L) (bs (numB8 m4)) = bs (L ++ numB8 m4) := (arX.appE _ _).trans (bs_app _ _).symm
      generalize hL2 : L ++ numB8 m4 = L2 at *
      generalize bs (numB8 m4) = nb at *
      generalize bs L = Ls at *
      cbv
      refine tstT (by rw [arX.lt]; rfl) ?_
      cbv
      refine ⟨fun _ => ⟨by decide, by decide⟩, ?_⟩
      refine hn.mono ?_
      rintro r st' ⟨rfl, rfl⟩
      cbv
      refine ⟨fun _ => appOkK hlL hln (by omega), ?_⟩
      exact hK L2 _ _ (by decide) hnx ⟨rfl, congrArg (AV.sl true 1) hbx, rfl, congrArg (AV.int .i64) (arX.sucK (j := 0) (N := 5) rfl (by decide) (by decide)), trivial⟩ ⟨rfl, rfl, trivial⟩
    · have hnx : L ++ numB8 m5 = l1 ++ cat numB8 ([m4, m5, m6, m7, m8].take 2) := by rw [cat_suc numB8 (L := [m4, m5, m6, m7, m8]) (j := 1) (a := m5) rfl, hpre, List.append_assoc]
      have hn := hnum m5 st
      have hln := arX.lenb (numB8 m5)
      have hn8 := numB8_len m5
      have hbx : vl vv xapp (bs L) (bs (numB8 m5)) = bs (L ++ numB8 m5) := (arX.appE _ _).trans (bs_app _ _).symm
      generalize hL2 : L ++ numB8 m5 = L2 at *
      generalize bs (numB8 m5) = nb at *
      generalize bs L = Ls at *
      cbv
      refine tstT (by rw [arX.lt]; rfl) ?_
      cbv
      refine ⟨fun _ => ⟨by decide, by decide⟩, ?_⟩
      refine hn.mono ?_
      rintro r st' ⟨rfl, rfl⟩
      cbv
      refine ⟨fun _ => appOkK hlL hln (by omega), ?_⟩
      exact hK L2 _ _ (by decide) hnx ⟨rfl, congrArg (AV.sl true 1) hbx, rfl, congrArg (AV.int .i64) (arX.sucK (j := 1) (N := 5) rfl (by decide) (by decide)), trivial⟩ ⟨rfl, rfl, trivial⟩
    · have hnx : L ++ numB8 m6 = l1 ++ cat numB8 ([m4, m5, m6, m7, m8].take 3) := by rw [cat_suc numB8 (L := [m4, m5, m6, m7, m8]) (j := 2) (a := m6) rfl, hpre, List.append_assoc]
      have hn := hnum m6 st
      have hln := arX.lenb (numB8 m6)
      have hn8 := numB8_len m6
      have hbx : vl vv xapp (bs L) (bs (numB8 m6)) = bs (L ++ numB8 m6) := (arX.appE _ _).trans (bs_app _ _).symm
      generalize hL2 : L ++ numB8 m6 = L2 at *
      generalize bs (numB8 m6) = nb at *
      generalize bs L = Ls at *
      cbv
      refine tstT (by rw [arX.lt]; rfl) ?_
      cbv
      refine ⟨fun _ => ⟨by decide, by decide⟩, ?_⟩
      refine hn.mono ?_
      rintro r st' ⟨rfl, rfl⟩
      cbv
      refine ⟨fun _ => appOkK hlL hln (by omega), ?_⟩
      exact hK L2 _ _ (by decide) hnx ⟨rfl, congrArg (AV.sl true 1) hbx, rfl, congrArg (AV.int .i64) (arX.sucK (j := 2) (N := 5) rfl (by decide) (by decide)), trivial⟩ ⟨rfl, rfl, trivial⟩
    · have hnx : L ++ numB8 m7 = l1 ++ cat numB8 ([m4, m5, m6, m7, m8].take 4) := by rw [cat_suc numB8 (L := [m4, m5, m6, m7, m8]) (j := 3) (a := m7) rfl, hpre, List.append_assoc]
      have hn := hnum m7 st
      have hln := arX.lenb (numB8 m7)
      have hn8 := numB8_len m7
      have hbx : vl vv xapp (bs L) (bs (numB8 m7)) = bs (L ++ numB8 m7) := (arX.appE _ _).trans (bs_app _ _).symm
      generalize hL2 : L ++ numB8 m7 = L2 at *
      generalize bs (numB8 m7) = nb at *
      generalize bs L = Ls at *
      cbv
      refine tstT (by rw [arX.lt]; rfl) ?_
      cbv
      refine ⟨fun _ => ⟨by decide, by decide⟩, ?_⟩
      refine hn.mono ?_
      rintro r st' ⟨rfl, rfl⟩
      cbv
      refine ⟨fun _ => appOkK hlL hln (by omega), ?_⟩
      exact hK L2 _ _ (by decide) hnx ⟨rfl, congrArg (AV.sl true 1) hbx, rfl, congrArg (AV.int .i64) (arX.sucK (j := 3) (N := 5) rfl (by decide) (by decide)), trivial⟩ ⟨rfl, rfl, trivial⟩
    · have hnx : L ++ numB8 m8 = l1 ++ cat numB8 ([m4, m5, m6, m7, m8].take 5) := by rw [cat_suc numB8 (L := [m4, m5, m6, m7, m8]) (j := 4) (a := m8) rfl, hpre, List.append_assoc]
      have hn := hnum m8 st
      have hln := arX.lenb (numB8 m8)
      have hn8 := numB8_len m8
      have hbx : vl vv xapp (bs L) (bs (numB8 m8)) = bs (L ++ numB8 m8) := (arX.appE _ _).trans (bs_app _ _).symm
      generalize hL2 : L ++ numB8 m8 = L2 at *
      generalize bs (numB8 m8) = nb at *
      generalize bs L = Ls at *
      cbv
      refine tstT (by rw [arX.lt]; rfl) ?_
      cbv
      refine ⟨fun _ => ⟨by decide, by decide⟩, ?_⟩
      refine hn.mono ?_
      rintro r st' ⟨rfl, rfl⟩
      cbv
      refine ⟨fun _ => appOkK hlL hln (by omega), ?_⟩
      exact hK L2 _ _ (by decide) hnx ⟨rfl, congrArg (AV.sl true 1) hbx, rfl, congrArg (AV.int .i64) (arX.sucK (j := 4) (N := 5) rfl (by decide) (by decide)), trivial⟩ ⟨rfl, rfl, trivial⟩
    · replace hpre : L = l1 ++ cat numB8 [m4, m5, m6, m7, m8] := hpre
      clear hK
      generalize hLs : bs L = Ls at *
      cbv
      refine tstF (by rw [arX.lt]; rfl) ?_
      cbv
      refine hKx (.exit 0) _ _ _ (by simp) ?_
      clear hKx
      have hflb := hfl m9 st
      have hfk := arX.lenb (flagB m9)
      have hfl1 : (flagB m9).length = 1 := rfl
      have hb1 : vl vv xapp Ls (bs (flagB m9)) = bs (L ++ flagB m9) := by rw [← hLs]; exact (arX.appE _ _).trans (bs_app _ _).symm
      have hk1 := arX.lenb (L ++ flagB m9)
      have hl2 : (L ++ flagB m9).length = L.length + 1 := by rw [List.length_append]; rfl
      have hcnb := hcn (mA.length : Int) st
      have hck := arX.lenb (cntB (mA.length : Int))
      have hcl := cntB_len (mA.length : Int)
      have hb2 : vl vv xapp (bs (L ++ flagB m9)) (bs (cntB (mA.length : Int))) = bs (L ++ flagB m9 ++ cntB (mA.length : Int)) := (arX.appE _ _).trans (bs_app _ _).symm
      have hl3 : (L ++ flagB m9 ++ cntB (mA.length : Int)).length = L.length + 5 := by rw [List.length_append, hl2, hcl]
      generalize hc2 : L ++ flagB m9 = l2 at *
      generalize hc3 : l2 ++ cntB (mA.length : Int) = l3 at *
      generalize hfg : flagB m9 = fg at *
      generalize bs fg = fb at *
      generalize hcg : cntB (mA.length : Int) = cg at *
      generalize bs cg = cb at *
      generalize bs l2 = l2b at *
      generalize hl3b : bs l3 = l3b at *
      generalize hml : (mA.length : Int) = ml at *
      have lE' := lE.trans hml
      cbv
      refine hflb.mono ?_
      rintro r st' ⟨rfl, rfl⟩
      cbv
      refine ⟨fun _ => appOkK hlL hfk (by omega), ?_⟩
      simp only [lE', hb1]
      refine hcnb.mono ?_
      rintro r st' ⟨rfl, rfl⟩
      cbv
      refine ⟨fun _ => appOkK hk1 hck (by omega), ?_⟩
      simp only [hb2]
      clear hflb hcnb hb1 hb2 hfk hck hk1
      have hll3 : l3.length ≤ 48 := by omega
      refine wp_for okX (by kernel_rfl) mA.length (fun j (L : List UInt8) => L = l3 ++ cat entB (mA.take j))
        (fun j L => [(1, .lp 1 0), (3, .sl true 1 (bs L)), (54, .int .i64 ml), (55, .int .i64 (j : Int))])
        (fun _ _ => [(1, [.int .i64 m1, .int .i64 m2, .int .i64 m3, .int .i64 m4, .int .i64 m5, .int .i64 m6, .int .i64 m7, .int .i64 m8, .bool m9, .sl false 3 mas, .int .i64 m11, .int .i64 m12, .sl false 1 mvs])])
        l3 (List.append_nil l3).symm (fun _ _ => rfl) ⟨rfl, congrArg (AV.sl true 1) hl3b.symm, congrArg (AV.int .i64) lE', rfl, trivial⟩ ⟨rfl, trivial⟩ ?_
      rintro j L4 hj hpre4 K hK hKx
      have hl4 : L4.length ≤ 48200 := by
        have := cat_len entB 12020 mA (fun a ha => Nat.le_trans (entB_len a) (by have := hf2 a ha; omega)) j
        rw [hpre4, List.length_append]
        have : j * 12020 ≤ 4 * 12020 := Nat.mul_le_mul_right _ (by omega)
        omega
      have hlk := arX.lenb L4
      generalize hjj : (j : Int) = k at *
      generalize hL4 : bs L4 = L4b at *
      cbv
      refine tst (fun h3 => ?_) (fun h3 => ?_)
      · have hjl := arX.inK hjj hml.symm h3
        have ⟨a, ha⟩ := getE (L := mA) rfl hjl
        have ga := gE j a ha
        rw [hjj] at ga
        have hav := hf2 a (List.mem_of_getElem? ha)
        have hb := hen a (by omega) st'
        have hel := entB_len a
        have hbk := arX.lenb (entB a)
        have hnx : L4 ++ entB a = l3 ++ cat entB (mA.take (j + 1)) := by rw [cat_suc entB ha, hpre4, List.append_assoc]
        have hbx : vl vv xapp L4b (bs (entB a)) = bs (L4 ++ entB a) := by rw [← hL4]; exact (arX.appE _ _).trans (bs_app _ _).symm
        generalize hL5 : L4 ++ entB a = L5 at hnx hbx
        generalize bs (entB a) = eb at *
        generalize entB a = ebl at *
        cases a with | mk v1 v2 v3 =>
        unfold Ent.av at ga hb
        dsimp only at ga hb
        generalize bs v3 = vs at *
        cbv
        refine ⟨fun _ => inBK hjj lE hjl, ?_⟩
        simp only [ga]
        cbv
        refine hb.mono ?_
        rintro r st' ⟨rfl, rfl⟩
        cbv
        refine ⟨fun _ => appOkK hlk hbk (by omega), ?_⟩
        exact hK L5 _ _ hjl hnx ⟨rfl, congrArg (AV.sl true 1) hbx, rfl, congrArg (AV.int .i64) (arX.sucK hjj hm hjl), trivial⟩ ⟨rfl, trivial⟩
      · have hje := arX.outK hjj hml.symm h3 hj
        replace hpre4 : L4 = l3 ++ cat entB mA := by rw [hpre4, hje, List.take_length]
        clear hK hjj hj hje
        cbv
        refine hKx (.exit 2) _ _ _ (by simp) ?_
        clear hKx h3
        subst hml
        have hfin : l1 ++ (cat numB8 [m4, m5, m6, m7, m8] ++ (fg ++ (cg ++ (cat entB mA ++ cond (decide (m1 = 7)) (snapB ⟨m11, m12, mV⟩) [])))) = L4 ++ cond (decide (m1 = 7)) (snapB ⟨m11, m12, mV⟩) [] := by
          rw [hpre4, ← hc3, ← hc2, hpre]
          simp only [List.append_assoc]
        have e7 := arX.ieq m1 7
        cbv
        refine tst (fun h3 => ?_) (fun h3 => ?_)
        · rw [e7] at h3
          have hk7 : m1 = 7 := of_decide_eq_true h3
          have hfs := hf3 hk7
          have hb := hsn ⟨m11, m12, mV⟩ (by show mV.length + 20 ≤ _; omega) st'
          have hsl : (snapB ⟨m11, m12, mV⟩).length ≤ 50020 := by have := snapB_len ⟨m11, m12, mV⟩; exact Nat.le_trans this (by show mV.length + 20 ≤ _; omega)
          have hbk := arX.lenb (snapB ⟨m11, m12, mV⟩)
          have hbx : vl vv xapp L4b (bs (snapB ⟨m11, m12, mV⟩)) = bs (L4 ++ snapB ⟨m11, m12, mV⟩) := by rw [← hL4]; exact (arX.appE _ _).trans (bs_app _ _).symm
          replace hR : ∀ (r : AV) (s2 : St), r = .sl false 1 (bs (L4 ++ cond (decide (m1 = 7)) (snapB ⟨m11, m12, mV⟩) [])) ∧ s2 = st' → R r s2 := by rw [← hfin]; exact hR
          rw [h3] at hR
          replace hR : ∀ (r : AV) (s2 : St), r = .sl false 1 (bs (L4 ++ snapB ⟨m11, m12, mV⟩)) ∧ s2 = st' → R r s2 := hR
          unfold Ent.av at hb
          dsimp only at hb
          rw [hmvs] at hb
          generalize bs (L4 ++ snapB ⟨m11, m12, mV⟩) = outb at *
          generalize bs (snapB ⟨m11, m12, mV⟩) = sb at *
          cbv
          refine hb.mono ?_
          rintro r st' ⟨rfl, rfl⟩
          cbv
          refine ⟨fun _ => appOkK hlk hbk (by omega), ?_⟩
          simp only [hbx]
          exact hR _ _ ⟨rfl, rfl⟩
        · rw [e7] at h3
          replace hR : ∀ (r : AV) (s2 : St), r = .sl false 1 (bs (L4 ++ cond (decide (m1 = 7)) (snapB ⟨m11, m12, mV⟩) [])) ∧ s2 = st' → R r s2 := by rw [← hfin]; exact hR
          rw [h3] at hR
          replace hR : ∀ (r : AV) (s2 : St), r = .sl false 1 (bs (L4 ++ [])) ∧ s2 = st' → R r s2 := hR
          rw [List.append_nil, hL4] at hR
          cbv
          exact hR _ _ ⟨rfl, rfl⟩
end Go.V

/- U37: the contract of the law RmsgPuts. -/
namespace Go.V
open Go.Proofs
set_option maxRecDepth 100000
set_option maxHeartbeats 2000000
theorem ren_ent (ρ : Nat → Nat) (a : Ent) : ren ρ a.av = a.av := by
  unfold Ent.av
  simp only [ren, rens, rens_bs]
theorem rens_ents (ρ : Nat → Nat) : ∀ A : List Ent, rens ρ (A.map Ent.av) = A.map Ent.av
  | [] => by rw [List.map_nil]; unfold rens; rfl
  | a :: r => by
    rw [List.map_cons]
    unfold rens
    rw [ren_ent, rens_ents ρ r]
theorem ren_msg (ρ : Nat → Nat) (m : Msg) : ren ρ m.av = m.av := by
  unfold Msg.av
  simp only [ren, rens, rens_bs, rens_ents]
/-- An Out and an In. -/
def stOI (o : List UInt8) (s : S) : St := [some [.sl true 1 (bs o)], some [.sl false 1 (bs s.1), .bool s.2]]
theorem put_new (o : List UInt8) (s : S) : putS [] (stO o) (stS s) = stOI o s := by
  unfold putS
  show [_, _] = [_, _]
  refine congr (congrArg List.cons ?_) (congr (congrArg List.cons ?_) rfl)
  · rfl
  · show some (rens _ [.sl false 1 (bs s.1), .bool s.2]) = _
    simp only [ren, rens, rens_bs]
theorem put_in (o : List UInt8) (s s' : S) : putS [1] (stOI o s) (stS s') = stOI o s' := by
  unfold putS
  show [_, _] = [_, _]
  refine congr (congrArg List.cons ?_) (congr (congrArg List.cons ?_) rfl)
  · rfl
  · show some (rens _ [.sl false 1 (bs s'.1), .bool s'.2]) = _
    simp only [ren, rens, rens_bs]
theorem new_in (o b : List UInt8) (hb : b.length ≤ 140737488355328) : VCalls Try.prog 14 [.sl false 1 (bs b)] (stO o) (fun r st' => r = .ref 1 0 ∧ st' = stOI o (b, false)) := by
  have h := (newIn_c b hb).frame (ids := []) (st := stO o) rfl List.nodup_nil (by simp) (by simp)
  have ha : ∀ ρ, rens ρ [AV.sl false 1 (bs b)] = [AV.sl false 1 (bs b)] := fun ρ => by simp only [ren, rens, rens_bs]
  rw [ha] at h
  refine h.mono ?_
  rintro r st' ⟨r0, st0, ⟨rfl, rfl⟩, rfl, rfl⟩
  refine ⟨?_, put_new o _⟩
  unfold ren
  rfl
theorem at_in {f : Nat} {o : List UInt8} {s s' : S} {v : AV} (h : VCalls Try.prog f [.ref 0 0] (stS s) (fun r st' => r = v ∧ st' = stS s')) (hv : ∀ ρ, ren ρ v = v) : VCalls Try.prog f [.ref 1 0] (stOI o s) (fun r st' => r = v ∧ st' = stOI o s') := by
  have h := h.frame (ids := [1]) (st := stOI o s) rfl (by simp) (by simp [stOI]) (by
    intro k cs i h1 h2
    cases k with
    | zero =>
      obtain rfl : 1 = i := by simpa using h2
      obtain rfl : [AV.sl false 1 (bs s.1), .bool s.2] = cs := by simpa [stS] using h1
      show some (some [AV.sl false 1 (bs s.1), .bool s.2]) = some (some (rens _ [AV.sl false 1 (bs s.1), .bool s.2]))
      simp only [ren, rens, rens_bs]
    | succ k => simp at h2)
  have ha : rens (roL [1] (stOI o s).length) [AV.ref 0 0] = [.ref 1 0] := by
    simp only [ren, rens]; rfl
  rw [ha] at h
  refine h.mono ?_
  rintro r st' ⟨r0, st0, ⟨rfl, rfl⟩, rfl, rfl⟩
  exact ⟨hv _, put_in o s _⟩
theorem law6_ok : codeOk Try.f6.ntmps (wHp (wRt (Cj [9, 17] FS std V5.q V5.b) [(28, 1), (50, 7), (52, 1)]) [3]) (Try.f6.body.getD .skip) = true := by kernel_rfl
theorem law6_wrong (m : Msg) (hrt : m.right = false) (hm : (m.ents.length : Int) ≤ 9223372036854775807) (hfew : m.few = true) : VCalls Try.prog 6 [m.av] [] (fun r _ => r = .bool true) := by
  have ok7' : Ok Try.prog (Cj [9, 17] FS std V5.q V5.b) := ok7
  have haw := awake_c
  have hput := put_c m hm [] (by decide)
  rw [List.nil_append] at hput
  have hbl : (msgB m).length ≤ 60000 := by
    unfold msgB
    rw [hrt]
    exact Nat.le_of_ble_eq_true rfl
  have hend := end_c (msgB m) hbl
  have h22 := bytes22_c m hm (stO (msgB m))
  have hnew := new_in (msgB m) (msgB m) (by omega)
  have hget := at_in (o := msgB m) (get_c (msgB m, false) (by show ((msgB m).length : Int) ≤ _; omega)) (fun ρ => ren_msg ρ _)
  have hbad := at_in (o := msgB m) (bad_c (msgS (msgB m, false)).2) (fun ρ => by unfold ren; rfl)
  have hdone := at_in (o := msgB m) (done_c (msgS (msgB m, false)).2) (fun ρ => by unfold ren; rfl)
  rw [msgS_wrong hrt] at hget hbad hdone
  have q8 : V5.q 8 [m.av] := ⟨m, hm, rfl⟩
  have b8 : V5.b 8 [m.av] = true := by
    show (msgOf _).few = _
    rw [msgOf_av, hfew]
  have q9 : V5.q 9 [m.av] := ⟨m, rfl⟩
  have q17 : V5.q 17 [m.av] := ⟨m, rfl⟩
  have q11 : V5.q 11 [m.av] := ⟨m, hm, rfl⟩
  have b11 : V5.b 11 [m.av] = false := by
    show (msgOf _).right = _
    rw [msgOf_av, hrt]
  have q13 : V5.q 13 [m.av, m.av] := ⟨m, m, hm, rfl⟩
  have b13 : V5.b 13 [m.av, m.av] = true := by
    show decide (msgOf m.av = msgOf m.av) = true
    exact decide_eq_true rfl
  have q12 : V5.q 12 [Msg.zero.av, Msg.zero.av] := ⟨Msg.zero, Msg.zero, by decide, rfl⟩
  have b12 : V5.b 12 [Msg.zero.av, Msg.zero.av] = true := by
    show decide (msgOf Msg.zero.av = msgOf Msg.zero.av) = true
    exact decide_eq_true rfl
  generalize msgB m = b at *
  clear hfew hrt
  obtain ⟨m1, m2, m3, m4, m5, m6, m7, m8, m9, mA, m11, m12, mV⟩ := m
  unfold Msg.av Msg.zero at *
  dsimp only at *
  have hst0 : stO [] = [some [.sl true 1 []]] := rfl
  rw [hst0] at hput
  have hu8 : AllU8 (bs b) := bs_u8 b
  replace q12 : V5.q 12 [.agg [.int .i64 0, .int .i64 0, .int .i64 0, .int .i64 0, .int .i64 0, .int .i64 0, .int .i64 0, .int .i64 0, .bool false, .sl false 3 [], .int .i64 0, .int .i64 0, .sl false 1 []], .agg [.int .i64 0, .int .i64 0, .int .i64 0, .int .i64 0, .int .i64 0, .int .i64 0, .int .i64 0, .int .i64 0, .bool false, .sl false 3 [], .int .i64 0, .int .i64 0, .sl false 1 []]] := q12
  replace b12 : V5.b 12 [.agg [.int .i64 0, .int .i64 0, .int .i64 0, .int .i64 0, .int .i64 0, .int .i64 0, .int .i64 0, .int .i64 0, .bool false, .sl false 3 [], .int .i64 0, .int .i64 0, .sl false 1 []], .agg [.int .i64 0, .int .i64 0, .int .i64 0, .int .i64 0, .int .i64 0, .int .i64 0, .int .i64 0, .int .i64 0, .bool false, .sl false 3 [], .int .i64 0, .int .i64 0, .sl false 1 []]] = true := b12
  generalize stO b = st1 at *
  generalize stOI b (b, false) = st2 at *
  replace hget : VCalls Try.prog 15 [.ref 1 0] st2 (fun r st' => r = .agg [.int .i64 0, .int .i64 0, .int .i64 0, .int .i64 0, .int .i64 0, .int .i64 0, .int .i64 0, .int .i64 0, .bool false, .sl false 3 [], .int .i64 0, .int .i64 0, .sl false 1 []] ∧ st' = stOI b ([], true)) := hget
  generalize stOI b ([], true) = st3 at *
  refine VCalls.use (ok_hp (ok_rt ok7' [(28, 1), (50, 7), (52, 1)]) [3]) Try.func6 rfl (by rfl) (Nat.le_of_ble_eq_true rfl) law6_ok fun R hR => ?_
  generalize Try.prog = P at *
  generalize hX : std = X at *
  refine ops_use hX fun vv xlt xieq xseq xslt xar xconv xnot xpick xbeq xeqc xlen xslen xget xsget xsub xssub xapp xcat xtoB xofB xrep xrepc xchunks xmx xmn hY arX => ?_
  clear hX
  subst hY
  generalize hVV : V5.b = VV at *
  refine vl_use vv VV fun V hV => ?_
  clear hVV
  subst hV
  generalize V5.q = Q at *
  have e0 := arX.ieq 0 0
  have eb := arX.seq (vl vv xofB (bs b)) (vl vv xofB (bs b))
  generalize bs b = bb at *
  generalize mA.map Ent.av = mas at *
  generalize bs mV = mvs at *
  have t0 : vl vv xnot (vl vv xieq 0 0) = false := by rw [arX.not, e0]; rfl
  have t1 : vl vv xnot (vl vv xnot (vl vv xieq 0 0)) = true := by rw [t0, arX.not]; rfl
  have tb : vl vv xnot (vl vv xseq (vl vv xofB bb) (vl vv xofB bb)) = false := by rw [arX.not, eb, beq_self_eq_true]; rfl
  have tn : vl vv xnot true = false := arX.not _
  have tn' : vl vv xnot false = true := arX.not _
  have po1 := arX.por false
  have po2 := arX.por true
  have pa1 := arX.pand true
  have pa0 := arX.pand false
  cbv
  refine (haw _).mono ?_
  rintro r st' ⟨rfl, rfl⟩
  cbv
  refine ⟨fun _ => q8, ?_⟩
  simp only [b8, tn]
  refine tstF (po1 false) ?_
  cbv
  refine ⟨fun _ => q9, ?_⟩
  refine hput.mono ?_
  rintro r st' ⟨rfl, rfl⟩
  cbv
  refine hend.mono ?_
  rintro r st' ⟨rfl, rfl⟩
  cbv
  refine ⟨fun _ => hu8, ?_⟩
  refine tstT t1 ?_
  cbv
  refine h22.mono ?_
  rintro r st' ⟨rfl, rfl⟩
  cbv
  refine ⟨fun _ => hu8, ?_⟩
  simp only [t0, tb]
  refine tstF (po1 false) ?_
  cbv
  refine hnew.mono ?_
  rintro r st' ⟨rfl, rfl⟩
  cbv
  refine hget.mono ?_
  rintro r st' ⟨rfl, rfl⟩
  cbv
  refine ⟨fun _ => q11, ?_⟩
  simp only [b11]
  refine tstT (arX.not _) ?_
  cbv
  refine hbad.mono ?_
  rintro r st' ⟨rfl, rfl⟩
  cbv
  refine ⟨fun _ => q12, ?_⟩
  refine hR _ _ ?_
  exact congrArg AV.bool ((pa1 _).trans ((Bool.true_and _).trans b12))
theorem law6_right (m : Msg) (hrt : m.right = true) (hm : (m.ents.length : Int) ≤ 9223372036854775807) (hfew : m.few = true) : VCalls Try.prog 6 [m.av] [] (fun r _ => r = .bool true) := by
  have ok7' : Ok Try.prog (Cj [9, 17] FS std V5.q V5.b) := ok7
  have haw := awake_c
  have hput := put_c m hm [] (by decide)
  rw [List.nil_append] at hput
  have hbl : (msgB m).length ≤ 60000 := by
    unfold msgB
    rw [hrt]
    exact few_len hrt hfew
  have hend := end_c (msgB m) hbl
  have h22 := bytes22_c m hm (stO (msgB m))
  have hnew := new_in (msgB m) (msgB m) (by omega)
  have hget := at_in (o := msgB m) (get_c (msgB m, false) (by show ((msgB m).length : Int) ≤ _; omega)) (fun ρ => ren_msg ρ _)
  have hbad := at_in (o := msgB m) (bad_c (msgS (msgB m, false)).2) (fun ρ => by unfold ren; rfl)
  have hdone := at_in (o := msgB m) (done_c (msgS (msgB m, false)).2) (fun ρ => by unfold ren; rfl)
  rw [msgS_msgB hrt] at hget hbad hdone
  have q8 : V5.q 8 [m.av] := ⟨m, hm, rfl⟩
  have b8 : V5.b 8 [m.av] = true := by
    show (msgOf _).few = _
    rw [msgOf_av, hfew]
  have q9 : V5.q 9 [m.av] := ⟨m, rfl⟩
  have q17 : V5.q 17 [m.av] := ⟨m, rfl⟩
  have q11 : V5.q 11 [m.av] := ⟨m, hm, rfl⟩
  have b11 : V5.b 11 [m.av] = true := by
    show (msgOf _).right = _
    rw [msgOf_av, hrt]
  have q13 : V5.q 13 [m.av, m.av] := ⟨m, m, hm, rfl⟩
  have b13 : V5.b 13 [m.av, m.av] = true := by
    show decide (msgOf m.av = msgOf m.av) = true
    exact decide_eq_true rfl
  have q12 : V5.q 12 [Msg.zero.av, Msg.zero.av] := ⟨Msg.zero, Msg.zero, by decide, rfl⟩
  have b12 : V5.b 12 [Msg.zero.av, Msg.zero.av] = true := by
    show decide (msgOf Msg.zero.av = msgOf Msg.zero.av) = true
    exact decide_eq_true rfl
  generalize msgB m = b at *
  clear hfew hrt
  obtain ⟨m1, m2, m3, m4, m5, m6, m7, m8, m9, mA, m11, m12, mV⟩ := m
  unfold Msg.av Msg.zero at *
  dsimp only at *
  have hst0 : stO [] = [some [.sl true 1 []]] := rfl
  rw [hst0] at hput
  have hu8 : AllU8 (bs b) := bs_u8 b
  replace q12 : V5.q 12 [.agg [.int .i64 0, .int .i64 0, .int .i64 0, .int .i64 0, .int .i64 0, .int .i64 0, .int .i64 0, .int .i64 0, .bool false, .sl false 3 [], .int .i64 0, .int .i64 0, .sl false 1 []], .agg [.int .i64 0, .int .i64 0, .int .i64 0, .int .i64 0, .int .i64 0, .int .i64 0, .int .i64 0, .int .i64 0, .bool false, .sl false 3 [], .int .i64 0, .int .i64 0, .sl false 1 []]] := q12
  replace b12 : V5.b 12 [.agg [.int .i64 0, .int .i64 0, .int .i64 0, .int .i64 0, .int .i64 0, .int .i64 0, .int .i64 0, .int .i64 0, .bool false, .sl false 3 [], .int .i64 0, .int .i64 0, .sl false 1 []], .agg [.int .i64 0, .int .i64 0, .int .i64 0, .int .i64 0, .int .i64 0, .int .i64 0, .int .i64 0, .int .i64 0, .bool false, .sl false 3 [], .int .i64 0, .int .i64 0, .sl false 1 []]] = true := b12
  generalize stO b = st1 at *
  generalize stOI b (b, false) = st2 at *
  generalize stOI b ([], false) = st3 at *
  refine VCalls.use (ok_hp (ok_rt ok7' [(28, 1), (50, 7), (52, 1)]) [3]) Try.func6 rfl (by rfl) (Nat.le_of_ble_eq_true rfl) law6_ok fun R hR => ?_
  generalize Try.prog = P at *
  generalize hX : std = X at *
  refine ops_use hX fun vv xlt xieq xseq xslt xar xconv xnot xpick xbeq xeqc xlen xslen xget xsget xsub xssub xapp xcat xtoB xofB xrep xrepc xchunks xmx xmn hY arX => ?_
  clear hX
  subst hY
  generalize hVV : V5.b = VV at *
  refine vl_use vv VV fun V hV => ?_
  clear hVV
  subst hV
  generalize V5.q = Q at *
  have e0 := arX.ieq 0 0
  have eb := arX.seq (vl vv xofB (bs b)) (vl vv xofB (bs b))
  generalize bs b = bb at *
  generalize mA.map Ent.av = mas at *
  generalize bs mV = mvs at *
  have t0 : vl vv xnot (vl vv xieq 0 0) = false := by rw [arX.not, e0]; rfl
  have t1 : vl vv xnot (vl vv xnot (vl vv xieq 0 0)) = true := by rw [t0, arX.not]; rfl
  have tb : vl vv xnot (vl vv xseq (vl vv xofB bb) (vl vv xofB bb)) = false := by rw [arX.not, eb, beq_self_eq_true]; rfl
  have tn : vl vv xnot true = false := arX.not _
  have tn' : vl vv xnot false = true := arX.not _
  have po1 := arX.por false
  have po2 := arX.por true
  have pa1 := arX.pand true
  have pa0 := arX.pand false
  cbv
  refine (haw _).mono ?_
  rintro r st' ⟨rfl, rfl⟩
  cbv
  refine ⟨fun _ => q8, ?_⟩
  simp only [b8, tn]
  refine tstF (po1 false) ?_
  cbv
  refine ⟨fun _ => q9, ?_⟩
  refine hput.mono ?_
  rintro r st' ⟨rfl, rfl⟩
  cbv
  refine hend.mono ?_
  rintro r st' ⟨rfl, rfl⟩
  cbv
  refine ⟨fun _ => hu8, ?_⟩
  refine tstT t1 ?_
  cbv
  refine h22.mono ?_
  rintro r st' ⟨rfl, rfl⟩
  cbv
  refine ⟨fun _ => hu8, ?_⟩
  simp only [t0, tb]
  refine tstF (po1 false) ?_
  cbv
  refine hnew.mono ?_
  rintro r st' ⟨rfl, rfl⟩
  cbv
  refine hget.mono ?_
  rintro r st' ⟨rfl, rfl⟩
  cbv
  refine ⟨fun _ => q11, ?_⟩
  simp only [b11]
  refine tstF (arX.not _) ?_
  cbv
  refine hdone.mono ?_
  rintro r st' ⟨rfl, rfl⟩
  cbv
  refine ⟨fun _ => q17, ?_⟩
  refine ⟨fun _ => q13, ?_⟩
  refine hR _ _ ?_
  exact congrArg AV.bool ((pa1 _).trans ((Bool.true_and _).trans b13))
theorem law6_few (m : Msg) (hm : (m.ents.length : Int) ≤ 9223372036854775807) (hfew : m.few = true) : VCalls Try.prog 6 [m.av] [] (fun r _ => r = .bool true) := by
  cases hrt : m.right
  · exact law6_wrong m hrt hm hfew
  · exact law6_right m hrt hm hfew
theorem law6_many (m : Msg) (hm : (m.ents.length : Int) ≤ 9223372036854775807) (hfew : m.few = false) : VCalls Try.prog 6 [m.av] [] (fun r _ => r = .bool true) := by
  have ok7' : Ok Try.prog (Cj [9, 17] FS std V5.q V5.b) := ok7
  have haw := awake_c
  have q8 : V5.q 8 [m.av] := ⟨m, hm, rfl⟩
  have b8 : V5.b 8 [m.av] = false := by
    show (msgOf _).few = _
    rw [msgOf_av, hfew]
  clear hfew
  obtain ⟨m1, m2, m3, m4, m5, m6, m7, m8, m9, mA, m11, m12, mV⟩ := m
  unfold Msg.av at *
  dsimp only at *
  refine VCalls.use (ok_hp (ok_rt ok7' [(28, 1), (50, 7), (52, 1)]) [3]) Try.func6 rfl (by rfl) (Nat.le_of_ble_eq_true rfl) law6_ok fun R hR => ?_
  generalize Try.prog = P at *
  generalize hX : std = X at *
  refine ops_use hX fun vv xlt xieq xseq xslt xar xconv xnot xpick xbeq xeqc xlen xslen xget xsget xsub xssub xapp xcat xtoB xofB xrep xrepc xchunks xmx xmn hY arX => ?_
  clear hX
  subst hY
  generalize hVV : V5.b = VV at *
  refine vl_use vv VV fun V hV => ?_
  clear hVV
  subst hV
  generalize V5.q = Q at *
  generalize mA.map Ent.av = mas at *
  generalize bs mV = mvs at *
  have tn : vl vv xnot true = false := arX.not _
  have tn' : vl vv xnot false = true := arX.not _
  have po1 := arX.por false
  cbv
  refine (haw _).mono ?_
  rintro r st' ⟨rfl, rfl⟩
  cbv
  refine ⟨fun _ => q8, ?_⟩
  simp only [b8, tn, tn']
  refine tstT (po1 true) ?_
  cbv
  refine (haw _).mono ?_
  rintro r st' ⟨rfl, rfl⟩
  cbv
  exact hR _ _ rfl
theorem law6_c (m : Msg) (hm : (m.ents.length : Int) ≤ 9223372036854775807) : VCalls Try.prog 6 [m.av] [] (fun r _ => r = .bool true) := by
  cases hf : m.few
  · exact law6_many m hm hf
  · exact law6_few m hm hf
end Go.V
