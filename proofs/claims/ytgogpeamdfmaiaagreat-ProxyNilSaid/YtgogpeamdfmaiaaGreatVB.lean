/- V11: the quiet operations at the machine, sixth part: functions, greatest and least, structs and slices that are built. -/
import Derived.Test.YtgogpeamdfmaiaaGreatVA
import Derived.Orders
set_option linter.unusedVariables false
set_option linter.unusedSimpArgs false
namespace Go.V
theorem noLps_cons {v : AV} {r : List AV} (h : noLps (v :: r) = true) : noLp v = true ∧ noLps r = true := by
  simpa [noLps] using h
section
variable {P : Program} {C : Cf} {n : Nat} {B : Base} {g : G} {e : Env} {bx : Bx} {st : St} {a : Act} {w : World} {o : Oper}

theorem qargs_rep (hr : Rel n B g e bx st a w) : ∀ (xs : List Operand) (ts : List Nat), noLps (qargs C e xs ts) = true → Reps g.I g.σ (qargs C e xs ts) (xs.map a.eval)
  | [], _, _ => .nil
  | x :: r, ts, h => by
    obtain ⟨h1, h2⟩ := noLps_cons h
    exact .cons ((rd_rep hr C _ x).utz.rep h1) (qargs_rep hr r ts.tail h2)

theorem q_makeFunc (hr : Rel n B g e bx st a w) (hd : ∀ d, o.dst = some d → d < n) {f : FuncId} {first cap : Array Operand} (hop : o.op = .makeFunc (.func f) first cap)
    (hok : (noLps (qargs C e first.toList []) && noLps (qargs C e cap.toList [])) = true) : QOk P n B e bx st o (.fn f (qargs C e first.toList []) (qargs C e cap.toList [])) a w := by
  intro Q
  simp only [Bool.and_eq_true] at hok
  have h1 := qargs_rep (C := C) hr first.toList [] hok.1
  have h2 := qargs_rep (C := C) hr cap.toList [] hok.2
  refine wp_value' (cv := .func (.func f) (first.map a.eval) (cap.map a.eval)) ?_ hr hd ?_ (by simp)
  · simp [execOp, hop, Instr.makeFunc]
  · have e1 : first.map a.eval = ⟨first.toList.map a.eval⟩ := by apply Array.ext'; simp
    have e2 : cap.map a.eval = ⟨cap.toList.map a.eval⟩ := by apply Array.ext'; simp
    rw [e1, e2]
    exact Rep.fn h1 h2

theorem qmax_inv {l : List AV} (h : (qmax C.x l).1.holds) : ∃ k k' m m', l = [.int k m, .int k' m'] ∧ (qmax C.x l).2 = .int k (C.x .mx m m') := by
  unfold qmax at *
  split at h
  · exact ⟨_, _, _, _, rfl, rfl⟩
  · exact absurd h id
theorem qmin_inv {l : List AV} (h : (qmin C.x l).1.holds) : ∃ k k' m m', l = [.int k m, .int k' m'] ∧ (qmin C.x l).2 = .int k (C.x .mn m m') := by
  unfold qmin at *
  split at h
  · exact ⟨_, _, _, _, rfl, rfl⟩
  · exact absurd h id
theorem reps_two {I : Mem} {σ : List Nat} {k k' : IntKind} {m m' : Int} {cvs : List Value} (h : Reps I σ [.int k m, .int k' m'] cvs) : cvs = [.int k m, .int k' m'] := by
  cases h with
  | cons h1 h2 => cases h2 with
    | cons h3 h4 => cases h4; rw [rep_int h1, rep_int h3]
theorem q_max (hX : C.x = std) (hr : Rel n B g e bx st a w) (hd : ∀ d, o.dst = some d → d < n) {c : Call} (hop : o.op = .call c) (hc : c.callee = .builtin .max) (hok : (qmax C.x (qargs C e c.args.toList [])).1.holds) :
    QOk P n B e bx st o (qmax C.x (qargs C e c.args.toList [])).2 a w := by
  intro Q
  obtain ⟨k, k', m, m', h1, h2⟩ := qmax_inv hok
  rw [h2]
  have hreps := qargs_rep (C := C) hr c.args.toList [] (by rw [h1]; rfl)
  rw [h1] at hreps
  have hargs := reps_two hreps
  refine wp_value' (cv := .int k (if m' > m then m' else m)) ?_ hr hd ?_ (by simp)
  · have : (c.args.map a.eval).toList = [.int k m, .int k' m'] := by simpa using hargs
    simp [execOp, hop, resolve, hc, invoke, builtin, Builtin.max_, hargs, Builtin.max2]
  · rw [hX]
    have : std .mx m m' = if m' > m then m' else m := by
      show (bif decide (m' > m) then m' else m) = _
      by_cases h : m' > m <;> simp [h]
    rw [this]; exact Rep.int
theorem q_min (hX : C.x = std) (hr : Rel n B g e bx st a w) (hd : ∀ d, o.dst = some d → d < n) {c : Call} (hop : o.op = .call c) (hc : c.callee = .builtin .min) (hok : (qmin C.x (qargs C e c.args.toList [])).1.holds) :
    QOk P n B e bx st o (qmin C.x (qargs C e c.args.toList [])).2 a w := by
  intro Q
  obtain ⟨k, k', m, m', h1, h2⟩ := qmin_inv hok
  rw [h2]
  have hreps := qargs_rep (C := C) hr c.args.toList [] (by rw [h1]; rfl)
  rw [h1] at hreps
  have hargs := reps_two hreps
  refine wp_value' (cv := .int k (if m' < m then m' else m)) ?_ hr hd ?_ (by simp)
  · simp [execOp, hop, resolve, hc, invoke, builtin, Builtin.min_, hargs, Builtin.min2]
  · rw [hX]
    have : std .mn m m' = if m' < m then m' else m := by
      show (bif decide (m' < m) then m' else m) = _
      by_cases h : m' < m <;> simp [h]
    rw [this]; exact Rep.int

/-- Cells laid into a run of cells, one by one, as the model does it. -/
theorem foldl_set (off : Nat) : ∀ (vs : List Value) (k : Nat) (cs : Array Value), off + k + vs.length ≤ cs.size →
    (vs.zipIdx k).foldl (fun cs (p : Value × Nat) => cs.setIfInBounds (off + p.2) p.1) cs = ⟨cs.toList.take (off + k) ++ vs ++ cs.toList.drop (off + k + vs.length)⟩
  | [], k, cs, _ => by
    apply Array.ext'
    simp
  | v :: r, k, cs, h => by
    simp only [List.zipIdx_cons, List.foldl_cons]
    rw [foldl_set off r (k + 1) _ (by simp at h ⊢; omega)]
    apply Array.ext'
    have hlt : off + k < cs.toList.length := by simp at h ⊢; omega
    simp only [Array.toList_setIfInBounds]
    rw [show off + (k + 1) = off + k + 1 by omega]
    rw [List.take_set, List.drop_set_of_lt (by omega)]
    have h1 : (cs.toList.take (off + k + 1)).set (off + k) v = cs.toList.take (off + k) ++ [v] := by
      rw [List.take_succ_eq_append_getElem hlt, List.set_append_right _ _ (by simp; omega)]
      have : off + k - (cs.toList.take (off + k)).length = 0 := by simp; omega
      rw [this]; rfl
    rw [h1]
    simp [Nat.add_assoc, Nat.add_comm 1]
theorem reps_setCells {I : Mem} {σ : List Nat} {cs us : List AV} {vs cvs : List Value} (h : Reps I σ cs vs) (k : Reps I σ us cvs) (off : Nat) :
    Reps I σ (setCells cs off us) (vs.take off ++ cvs ++ vs.drop (off + cvs.length)) := by
  unfold setCells
  rw [k.length]
  exact ((h.take off).append k).append (h.drop _)
theorem setCells_length {cs us : List AV} {off : Nat} (h : off + us.length ≤ cs.length) : (setCells cs off us).length = cs.length := by
  unfold setCells; simp; omega
theorem ut_cells_scal {v : AV} (h : scalAll v.cells = true) : scalAll (ut v).cells = true := by cases v <;> exact h
theorem ut_cells_length (v : AV) : (ut v).cells.length = v.cells.length := by cases v <;> rfl
theorem scal_noLp {v : AV} (h : scalAll v.cells = true) : noLp v = true := by cases v <;> first | rfl | simp [AV.cells, scalAll, scal] at h

theorem qfill_ok (hT : TIok P C.ti) (hr : Rel n B g e bx st a w) {place : Nat → Option (Nat × Nat)} {pl : Nat → Option (Nat × Nat)} (hp : ∀ i ty off, place i = some (ty, off) → C.has ty = true → pl i = some (off, C.sz ty)) :
    ∀ (ps : List (Nat × Operand)) (cs : List AV) (vs : List Value), (qfill C e place ps cs).1.holds → Reps g.I g.σ cs vs →
      ∃ vs', Instr.fill pl ⟨vs⟩ (ps.map fun p => (p.1, a.eval p.2)) = some ⟨vs'⟩ ∧ Reps g.I g.σ (qfill C e place ps cs).2 vs'
  | [], cs, vs, _, h => ⟨vs, rfl, h⟩
  | (i, x) :: r, cs, vs, hok, h => by
    unfold qfill at hok ⊢
    split at hok
    · next ty off hpl =>
      simp only at hok ⊢
      obtain ⟨h1, h2⟩ := Chk.and_holds hok
      have h1 := chkB_holds h1
      simp only [Bool.and_eq_true] at h1
      obtain ⟨⟨⟨k1, k2⟩, k3⟩, k4⟩ := h1
      have k3 := Nat.eq_of_beq_eq_true k3
      have k4 := Nat.le_of_ble_eq_true k4
      have hrep := ((rd_rep hr C ty x).rep (scal_noLp k2))
      have hcells := (hrep.cells k2).uns
      have hlen := hcells.length
      rw [List.length_map, k3] at hlen
      have hvl := h.length
      obtain ⟨vs', q1, q2⟩ := qfill_ok hT hr hp r _ _ h2 (reps_setCells h hcells off)
      refine ⟨vs', ?_, q2⟩
      simp only [List.map_cons, Instr.fill, hp i ty off hpl k1]
      have hsz : (a.eval x).cells.size = C.sz ty := by rw [← Array.length_toList]; exact hlen.symm
      rw [if_neg (by simp only [hsz]; simp; omega)]
      rw [← q1]
      congr 1
      have := foldl_set off (a.eval x).cells.toList 0 ⟨vs⟩ (by simp; omega)
      rw [Nat.add_zero] at this
      rw [← Array.foldl_toList]
      simpa using this
    · exact absurd hok id
theorem zero_reps (hT : TIok P C.ti) {t : Nat} (hk : C.has t = true) : ∃ zv, (∀ w : World, (zeroValue t).run P w = .ok zv w) ∧ (∀ I σ, Reps I σ ((C.zero t).cells.map nz) zv.cells.toList) ∧ scalAll (C.zero t).cells = true ∧ (C.zero t).cells.length = C.sz t ∧ zv.cells.size = C.sz t := by
  unfold Cf.has at hk
  split at hk
  · next i hi =>
    obtain ⟨zv, h1, h2, h3, h4⟩ := zero_of hT hi
    have e1 : C.zero t = i.zero := by unfold Cf.zero; rw [hi]
    have e2 : C.sz t = i.sz := by unfold Cf.sz; rw [hi]
    refine ⟨zv, h1, fun I σ => ?_, by rw [e1]; exact zeroB_scal h2, by rw [e1, e2]; exact h4, by rw [e2]; exact h3⟩
    rw [e1]
    exact zeroB_nz h2
  · cases hk
theorem has_of_kind {t : Nat} (h : ∀ (h : C.kind t = .other), False) : C.has t = true := by
  unfold Cf.has
  cases hi : C.ti t with
  | some i => rfl
  | none => exact absurd (by unfold Cf.kind; rw [hi]) h
theorem run_places (hT : TIok P C.ti) (w : World) : ∀ (fields : List Field), (∀ f ∈ fields, (P.info? f.type).isSome = true) →
    ∃ l : List (Nat × Nat), (fields.mapM (fun (f : Field) => do pure (f.offset, ← sizeOf f.type)) : Sem (List (Nat × Nat))).run P w = .ok l w ∧ ∀ (i : Nat) (f : Field), fields[i]? = some f → ∃ s, (sizeOf f.type).run P w = .ok s w ∧ l[i]? = some (f.offset, s)
  | [], _ => ⟨[], by simp [List.mapM_nil], fun i f h => by simp at h⟩
  | f :: r, h => by
    obtain ⟨l, h1, h2⟩ := run_places hT w r (fun f' hf => h f' (by simp [hf]))
    obtain ⟨fi, hfi⟩ := Option.isSome_iff_exists.1 (h f (by simp))
    have hs : (sizeOf f.type).run P w = .ok fi.size w := by simp [sizeOf, typeInfo, hfi]
    refine ⟨(f.offset, fi.size) :: l, ?_, ?_⟩
    · rw [List.mapM_cons]
      simp only [Sem.run_bind, hs, Result.andThen_ok, Sem.run_pure, h1]
    · intro i f' hf
      cases i with
      | zero => simp at hf; subst hf; exact ⟨fi.size, hs, rfl⟩
      | succ i => simp at hf; exact h2 i f' hf
theorem q_build (hT : TIok P C.ti) (hr : Rel n B g e bx st a w) (hd : ∀ d, o.dst = some d → d < n) {t : Nat} {ps : Array (Nat × Operand)} (hop : o.op = .build t ps) (hok : (qbuild C t ps.toList e).1.holds) :
    QOk P n B e bx st o (qbuild C t ps.toList e).2 a w := by
  intro Q
  have hps : (ps.map fun (p : Nat × Operand) => (p.1, a.eval p.2)).toList = ps.toList.map fun p => (p.1, a.eval p.2) := by simp
  unfold qbuild at hok ⊢
  split at hok
  · next fs hk =>
    obtain ⟨fields, hu, hmap, hinfo⟩ := kind_struct' hT hk
    obtain ⟨zv, hz, hzr, _⟩ := zero_reps hT (has_of_kind (C := C) (t := t) (by rw [hk]; simp))
    obtain ⟨l, hl, hpl⟩ := run_places hT w fields.toList hinfo
    have hp : ∀ (i ty off : Nat), fs[i]? = some (ty, off) → C.has ty = true → l[i]? = some (off, C.sz ty) := by
      intro i ty off hi hhas
      rw [← hmap, List.getElem?_map] at hi
      cases hf : fields.toList[i]? with
      | none => rw [hf] at hi; cases hi
      | some f =>
        rw [hf] at hi
        obtain ⟨rfl, rfl⟩ : f.type = ty ∧ f.offset = off := by simpa using hi
        obtain ⟨s, h1, h2⟩ := hpl i f hf
        rw [h2]
        unfold Cf.has at hhas
        split at hhas
        · next i' hi' =>
          rw [run_sizeOf_of hT hi'] at h1
          have : i'.sz = s := by injection h1
          have h3 : C.sz f.type = s := by unfold Cf.sz; rw [hi']; exact this
          rw [h3]
        · cases hhas
    obtain ⟨vs', q1, q2⟩ := qfill_ok (pl := fun i => l[i]?) hT hr hp ps.toList _ _ hok (hzr g.I g.σ)
    refine wp_value' (cv := .agg ⟨vs'⟩) ?_ hr hd (.of (Rep.agg q2)) (by simp)
    have hlarr : (fields.mapM (fun (f : Field) => do pure (f.offset, ← sizeOf f.type)) : Sem (Array (Nat × Nat))).run P w = .ok l.toArray w := by
      rw [Array.mapM_eq_mapM_toList, Sem.run_map, hl]
      rfl
    have hzc : zv.cells = ⟨zv.cells.toList⟩ := rfl
    simp only [execOp, hop, Instr.build, Sem.run_bind, hz, Result.andThen_ok, Sem.run_pure, run_underlying hu, hlarr, Sem.run_map]
    have q1' : Instr.fill (fun x => l[x]?) zv.cells (ps.toList.map fun x => (x.fst, a.eval x.snd)) = some ⟨vs'⟩ := q1
    simp [q1']
  · next m el hk =>
    have hu := kind_array hT hk
    obtain ⟨zv, hz, hzr, _⟩ := zero_reps hT (has_of_kind (C := C) (t := t) (by rw [hk]; simp))
    obtain ⟨fe, hfe⟩ := kind_array' hT hk
    have hs : ∀ w : World, (sizeOf el).run P w = .ok fe.size w := fun w => by simp [sizeOf, typeInfo, hfe]
    have hp : ∀ i ty off, (fun i => some (el, i * C.sz el) : Nat → Option (Nat × Nat)) i = some (ty, off) → C.has ty = true → (fun i => some (i * fe.size, fe.size) : Nat → Option (Nat × Nat)) i = some (off, C.sz ty) := by
      intro i ty off hi hhas
      obtain ⟨rfl, rfl⟩ : el = ty ∧ i * C.sz el = off := by simpa using hi
      unfold Cf.has at hhas
      split at hhas
      · next i' hi' =>
        have h1 := hs w
        rw [run_sizeOf_of hT hi'] at h1
        have h2 : i'.sz = fe.size := by injection h1
        have h3 : C.sz el = fe.size := by unfold Cf.sz; rw [hi']; exact h2
        simp [h3]
      · cases hhas
    obtain ⟨vs', q1, q2⟩ := qfill_ok hT hr hp ps.toList _ _ hok (hzr g.I g.σ)
    refine wp_value' (cv := .agg ⟨vs'⟩) ?_ hr hd (.of (Rep.agg q2)) (by simp)
    simp only [execOp, hop, Instr.build, Sem.run_bind, hz, Result.andThen_ok, Sem.run_pure, run_underlying hu, hs]
    have q1' : Instr.fill (fun i => some (i * fe.size, fe.size)) zv.cells (ps.map fun x => (x.fst, a.eval x.snd)).toList = some ⟨vs'⟩ := by
      rw [hps, ← q1]
    rw [hps] at q1'
    simp [q1']
  · exact absurd hok id
end
end Go.V

/- V12: the quiet operations at the machine, seventh part: slices that are made; calls. -/
namespace Go.V
section
variable {P : Program} {C : Cf} {n : Nat} {B : Base} {g : G} {e : Env} {bx : Bx} {st : St} {a : Act} {w : World} {o : Oper}

/-- Parts laid in one behind the other. -/
theorem fill_seq (sz : Nat) : ∀ (ps : List (Nat × Value)) (k : Nat) (cs : List Value), (∀ j p, ps[j]? = some p → p.1 = k + j ∧ p.2.cells.size = sz) → (k + ps.length) * sz ≤ cs.length →
    Instr.fill (fun i => some (i * sz, sz)) ⟨cs⟩ ps = some ⟨cs.take (k * sz) ++ (ps.map fun p => p.2.cells.toList).flatten ++ cs.drop ((k + ps.length) * sz)⟩
  | [], k, cs, _, _ => by simp [Instr.fill]
  | (i, v) :: r, k, cs, h, hl => by
    obtain ⟨h1, h2⟩ := h 0 (i, v) rfl
    simp only [Nat.add_zero] at h1 h2
    subst h1
    have hm : (i + (r.length + 1)) * sz = i * sz + sz + r.length * sz := by rw [Nat.add_mul, Nat.add_mul]; omega
    simp only [List.length_cons] at hl
    rw [hm] at hl
    simp only [Instr.fill]
    rw [if_neg (by simp [h2]; omega)]
    have hv : v.cells.toList.length = sz := by rw [Array.length_toList]; exact h2
    have hf := foldl_set (i * sz) v.cells.toList 0 ⟨cs⟩ (by simp [h2]; omega)
    rw [Nat.add_zero] at hf
    have hf' : v.cells.zipIdx.foldl (fun (cs : Array Value) (x : Value × Nat) => cs.setIfInBounds (i * sz + x.2) x.1) (Array.mk cs) = Array.mk (cs.take (i * sz) ++ v.cells.toList ++ cs.drop (i * sz + sz)) := by
      rw [← Array.foldl_toList]
      simpa [h2] using hf
    rw [hf', fill_seq sz r (i + 1) _ (fun j p hj => by have := h (j + 1) p hj; exact ⟨by omega, this.2⟩) (by
      simp only [List.length_append, List.length_take, List.length_drop, hv]
      have hm2 : (i + 1 + r.length) * sz = i * sz + sz + r.length * sz := by rw [Nat.add_mul, Nat.add_mul]; omega
      rw [hm2]; omega)]
    congr 2
    have hm1 : (i + 1) * sz = i * sz + sz := by rw [Nat.add_mul]; omega
    have hm2 : (i + 1 + r.length) * sz = i * sz + sz + r.length * sz := by rw [Nat.add_mul, Nat.add_mul]; omega
    rw [hm1, hm2, List.length_cons, hm]
    have hlt : (cs.take (i * sz) ++ v.cells.toList).length = i * sz + sz := by simp [h2]; omega
    rw [List.take_append_of_le_length (by omega), List.take_of_length_le (by omega), List.drop_append, hlt, List.drop_of_length_le (by omega), List.drop_drop]
    simp [List.append_assoc]

theorem utz_cells (v : AV) : (utz v).cells = v.cells.map ut := by cases v <;> rfl
theorem scal_ut (v : AV) : scal (ut v) = scal v := by cases v <;> rfl
theorem scalAll_uts : ∀ {l : List AV}, scalAll l = true → scalAll (l.map ut) = true
  | [], _ => rfl
  | v :: r, h => by
    unfold scalAll at h
    show scalAll (ut v :: r.map ut) = true
    unfold scalAll
    rw [scal_ut]
    split at h
    · exact scalAll_uts h
    · cases h
theorem qelems_ok (hr : Rel n B g e bx st a w) {el : Nat} : ∀ (k : Nat) (ps : List (Nat × Operand)), (qelems C el e k ps).1.holds →
    (∀ j p, (ps.map fun p => (p.1, a.eval p.2))[j]? = some p → p.1 = k + j ∧ p.2.cells.size = C.sz el) ∧ Reps g.I g.σ ((qelems C el e k ps).2.flatMap AV.cells) ((ps.map fun p => (p.1, a.eval p.2)).map fun p => p.2.cells.toList).flatten ∧
      (∀ v ∈ (qelems C el e k ps).2, v.cells.length = C.sz el ∧ scalAll v.cells = true) ∧ (qelems C el e k ps).2.length = ps.length
  | _, [], _ => ⟨(fun j p h => by simp at h), .nil, (fun v h => by cases h), rfl⟩
  | k, (i, x) :: r, hok => by
    unfold qelems at hok ⊢
    simp only at hok ⊢
    obtain ⟨h1, h2⟩ := Chk.and_holds hok
    have h1 := chkB_holds h1
    simp only [Bool.and_eq_true] at h1
    obtain ⟨⟨k1, k2⟩, k3⟩ := h1
    have k1 := Nat.eq_of_beq_eq_true k1
    have k3 := Nat.eq_of_beq_eq_true k3
    have k2' : scalAll (utz (rd C el e x)).cells = true := by rw [utz_cells]; exact scalAll_uts k2
    have hrep := ((rd_rep hr C el x).utz.rep (scal_noLp k2'))
    have hcells := hrep.cells k2'
    have hlen := hcells.length
    rw [utz_cells, List.length_map, k3] at hlen
    obtain ⟨q1, q2, q3, q4⟩ := qelems_ok hr (k + 1) r h2
    refine ⟨?_, ?_, ?_, by simp [q4]⟩
    · intro j p hj
      cases j with
      | zero => simp at hj; subst hj; exact ⟨by omega, by simp; rw [← Array.length_toList]; exact hlen.symm⟩
      | succ j => simp only [List.map_cons, List.getElem?_cons_succ] at hj; have := q1 j p hj; exact ⟨by omega, this.2⟩
    · simp only [List.flatMap_cons, List.map_cons, List.flatten_cons]
      exact hcells.append q2
    · intro v hv
      rcases List.mem_cons.1 hv with rfl | hv
      · exact ⟨by rw [utz_cells, List.length_map]; exact k3, k2'⟩
      · exact q3 v hv

theorem q_newRow {vs : List Value} {es : List AV} {el sz m : Nat} (hr : Rel n B g e bx st a w) (hd : ∀ d, o.dst = some d → d < n) (h0 : 0 < sz) (hsz : ∀ v ∈ es, v.cells.length = sz ∧ scalAll v.cells = true) (hreps : Reps g.I g.σ (es.flatMap AV.cells) vs) (hm : m = es.length)
    (hrun : (execOp a.eval o).run P w = .ok (.value (.slice (some ⟨w.heap.size, 0, none⟩) m m)) (w.alloc (.cells ⟨vs⟩ el))) : QOk P n B e bx st o (.sl true sz es) a w := by
  intro Q
  have hext := Ext.alloc w (.cells ⟨vs⟩ el)
  have hlies : LiesAt (w.alloc (.cells ⟨vs⟩ el)) w.heap.size 0 vs := LiesAt.of_block (heap_alloc_at w _)
  have hg := GExt.addBlock hr.glob hext hlies (.inl (by simp))
  have hr' := hr.ext hext hg rfl rfl
  subst hm
  refine wp_value hrun hr' hd ?_ ?_
  · refine RepT.of (Rep.sl (row_of_cells 0 h0 hsz (hreps.mono (addBlock_le hr.glob vs) (List.prefix_refl _)) ?_) rfl (Nat.le_refl _))
    intro j u hj
    simp only [V.addBlock, if_true, Nat.zero_add]; exact hj
  · intro d sz' es' _ h
    simp only [AV.sl.injEq, true_and] at h
    obtain ⟨rfl, rfl⟩ := h
    exact .inr ⟨_, _, _, rfl, .inl rfl⟩

theorem q_buildSlice (hT : TIok P C.ti) (hr : Rel n B g e bx st a w) (hd : ∀ d, o.dst = some d → d < n) {t m : Nat} {ps : Array (Nat × Operand)} (hop : o.op = .buildSlice t m ps) (hok : (qbuildSlice C t m ps.toList e).1.holds) :
    QOk P n B e bx st o (qbuildSlice C t m ps.toList e).2 a w := by
  unfold qbuildSlice at hok ⊢
  split at hok
  · next el hk =>
    simp only at hok ⊢
    obtain ⟨h1, h2⟩ := Chk.and_holds hok
    have h1 := chkB_holds h1
    simp only [Bool.and_eq_true] at h1
    obtain ⟨⟨k1, k2⟩, k3⟩ := h1
    have k1 := Nat.eq_of_beq_eq_true k1
    have k2 := Nat.le_of_ble_eq_true k2
    have k3 : 0 < C.sz el := Nat.le_of_ble_eq_true k3
    have hu := kind_slice hT hk
    obtain ⟨i, hi, hs⟩ := sz_of (C := C) (t := el) (by omega)
    obtain ⟨zv, hz, _, _, _, hzs⟩ := zero_reps (C := C) (t := el) hT (by unfold Cf.has; rw [hi])
    obtain ⟨q1, q2, q3, q4⟩ := qelems_ok (C := C) hr 0 ps.toList h2
    have hps : (ps.map fun (p : Nat × Operand) => (p.1, a.eval p.2)).toList = ps.toList.map fun p => (p.1, a.eval p.2) := by simp
    refine q_newRow (el := el) hr hd k3 q3 q2 (q4.symm ▸ k1.symm) ?_
    have hfill : ∀ base : Array Value, base.size = m * C.sz el → Instr.fill (fun i => some (i * C.sz el, C.sz el)) base (ps.toList.map fun p => (p.1, a.eval p.2)) = some ⟨((ps.toList.map fun p => (p.1, a.eval p.2)).map fun p => p.2.cells.toList).flatten⟩ := by
      intro base hb
      have hb' : base.toList.length = m * C.sz el := hb
      have h3 := fill_seq (C.sz el) (ps.toList.map fun p => (p.1, a.eval p.2)) 0 base.toList q1 (by rw [hb', List.length_map, k1, Nat.zero_add]; omega)
      have : base.toList.drop ((0 + (ps.toList.map fun p => (p.1, a.eval p.2)).length) * C.sz el) = [] := by
        apply List.drop_of_length_le
        rw [hb', List.length_map, k1, Nat.zero_add]; omega
      rw [this] at h3
      simpa using h3
    have hk2 : ¬ (16777216 < m * C.sz el) := by omega
    by_cases hz0 : m * C.sz el = 0
    · have := hfill ((Array.range (m * C.sz el)).map ((#[] : Array Value)[· % (#[] : Array Value).size]!)) (by simp)
      simp only [execOp, hop, Instr.buildSlice, Sem.run_bind, run_underlying hu, Result.andThen_ok, run_sizeOf_of hT hi, hs, Sem.run_ite, hps]
      simp [hk2, hz0] at this ⊢
      simp [this, newRow]
    · have := hfill ((Array.range (m * C.sz el)).map (zv.cells[· % zv.cells.size]!)) (by simp)
      simp only [execOp, hop, Instr.buildSlice, Sem.run_bind, run_underlying hu, Result.andThen_ok, run_sizeOf_of hT hi, hs, Sem.run_ite, hps]
      simp [hk2, hz0, hz] at this ⊢
      simp [this, newRow]
  · exact absurd hok id

theorem flatMap_replicate (m : Nat) (v : AV) : (List.replicate m v).flatMap AV.cells = (List.replicate m v.cells).flatten := by
  induction m with
  | zero => rfl
  | succ m ih => simp [List.replicate_succ, ih]
theorem reps_replicate {I : Mem} {σ : List Nat} {cs : List AV} {vs : List Value} (h : Reps I σ cs vs) : ∀ m : Nat, Reps I σ (List.replicate m cs).flatten (List.replicate m vs).flatten
  | 0 => .nil
  | m + 1 => by
    simp only [List.replicate_succ, List.flatten_cons]
    exact h.append (reps_replicate h m)
theorem range_mod (z : Array Value) (h0 : 0 < z.size) : ∀ m : Nat, (List.range (m * z.size)).map (fun i => z[i % z.size]!) = (List.replicate m z.toList).flatten
  | 0 => by simp
  | m + 1 => by
    rw [Nat.add_mul, Nat.one_mul, List.range_add, List.map_append, range_mod z h0 m, List.replicate_succ', List.flatten_append]
    congr 1
    simp only [List.map_map, List.flatten_cons, List.flatten_nil, List.append_nil]
    apply List.ext_getElem?
    intro i
    simp only [List.getElem?_map, Array.getElem?_toList]
    by_cases hi : i < z.size
    · rw [List.getElem?_range hi]
      simp [Nat.mul_add_mod', Nat.mod_eq_of_lt hi, hi]
    · rw [List.getElem?_eq_none (by simp; omega), Array.getElem?_eq_none (by omega)]; rfl
theorem madeCells_eq {z : Array Value} {m sz : Nat} (hz : z.size = sz) (h0 : 0 < sz) : madeCells z (m * sz) = ⟨(List.replicate m z.toList).flatten⟩ := by
  subst hz
  apply Array.ext'
  simp only [madeCells, Array.toList_map, Array.toList_range]
  exact range_mod z h0 m
theorem info_all (hT : TIok P C.ti) {t : Nat} {i : TInfo} (h : C.ti t = some i) : ∃ f zv, P.info? t = some f ∧ f.size = i.sz ∧ f.bytes = i.bytes ∧ f.zero = some zv ∧ zeroB i.zero zv = true ∧ zv.cells.size = i.sz ∧ i.zero.cells.length = i.sz := by
  obtain ⟨f, d, hf, _, h1, h2, ⟨zv, h3, h4, h5⟩, h6, _⟩ := (hT t i h).ex
  exact ⟨f, zv, hf, h1, h2, h3, h4, h5, h6⟩
theorem q_makeSlice (hX : C.x = std) (hT : TIok P C.ti) (hr : Rel n B g e bx st a w) (hd : ∀ d, o.dst = some d → d < n) {t : Nat} {l c : Operand} (hop : o.op = .makeSlice t l c) {el : Nat} {k k' : IntKind} {m m' : Int} (hk : C.kind t = .slice el)
    (hl : rd C 0 e l = .int k m) (hc : rd C 0 e c = .int k' m') (hhas : C.has el = true) (h0 : 0 < C.sz el) (hok : MakeOk m m' (C.bytes el)) :
    QOk P n B e bx st o (.sl true (C.sz el) (C.x .rep m (utz (C.zero el)))) a w := by
  have hu := kind_slice hT hk
  obtain ⟨i, hi⟩ : ∃ i, C.ti el = some i := by
    unfold Cf.has at hhas
    split at hhas
    · next i hi => exact ⟨i, hi⟩
    · cases hhas
  have es : C.sz el = i.sz := by unfold Cf.sz; rw [hi]
  have eb : C.bytes el = i.bytes := by unfold Cf.bytes; rw [hi]
  have ez : C.zero el = i.zero := by unfold Cf.zero; rw [hi]
  obtain ⟨f, zv, hf, h1, h2, h3, h4, h5, h6⟩ := info_all hT hi
  have hl' := rd_rep hr C 0 l
  rw [hl] at hl'
  have hl' := rep_int hl'
  have hc' := rd_rep hr C 0 c
  rw [hc] at hc'
  have hc' := rep_int hc'
  obtain ⟨k1, k2, k3, k4⟩ := hok
  subst k2
  have hrep : C.x .rep m (utz (C.zero el)) = List.replicate m.toNat (utz (C.zero el)) := by rw [hX]; rfl
  rw [hrep]
  have hmul : (f.bytes : Int) * m ≤ 281474976710656 := by
    rw [eb] at k3
    rw [h2, Int.mul_comm]; omega
  refine q_newRow (vs := (List.replicate m.toNat zv.cells.toList).flatten) (el := el) (m := m.toNat) hr hd h0 ?_ ?_ (by simp) ?_
  · intro v hv
    obtain ⟨_, rfl⟩ := List.mem_replicate.1 hv
    exact ⟨by rw [utz_cells, List.length_map, ez, h6, es], by rw [utz_cells, ez]; exact scalAll_uts (zeroB_scal h4)⟩
  · rw [flatMap_replicate, utz_cells, ez]
    exact reps_replicate (((zeroB_rep h4).cells (zeroB_scal h4)).uts) _
  · have := run_make (P := P) w t el f zv hu hf h3 k k' m m k1 (Int.le_refl _) hmul k4
    rw [h1, madeCells_eq h5 (by omega)] at this
    simp [execOp, hop, hl', hc', this]

/-- The frame of a callee: what its caller owns. -/
def outOwn (g : G) : G := { g with own := fun b => match g.own b with | some l => (match l.isLocal with | true => none | false => some l) | none => none }
theorem outOwn_some {g : G} {b : Nat} {l : Loc} (h : (outOwn g).own b = some l) : g.own b = some l ∧ l.isLocal = false := by
  simp only [outOwn] at h
  split at h
  · next l' hl' =>
    split at h
    · cases h
    · next hloc => obtain rfl := Option.some.inj h; exact ⟨hl', hloc⟩
  · cases h
theorem outOwn_of {g : G} {b : Nat} {l : Loc} (h : g.own b = some l) (hl : l.isLocal = false) : (outOwn g).own b = some l := by
  simp [outOwn, h, hl]
theorem TipAt.out {l : Loc} {sz : Nat} {es : List AV} {cv : Value} (hl : l.isLocal = false) (h : TipAt g w l sz es cv) : TipAt (outOwn g) w l sz es cv := by
  rcases h with h | ⟨b, o, cap, rfl, h⟩
  · exact .inl h
  refine .inr ⟨b, o, cap, rfl, ?_⟩
  rcases h with h | ⟨h1, h2, h4⟩
  · exact .inl h
  exact .inr ⟨outOwn_of h1 hl, h2, h4⟩
def Frame' (B : Base) (g : G) : Nat → Prop := fun b => B.Fr b ∨ ∃ l, g.own b = some l ∧ l.isLocal = true
theorem Glob.out (h : Glob B g st w) : Glob ⟨(outOwn g).I, (outOwn g).σ, Frame' B g, w⟩ (outOwn g) st w where
  hI := MemLe.refl _
  hσ := List.prefix_refl _
  fr b hb := by
    refine ⟨rfl, ?_, ?_⟩
    · rcases hb with hb | ⟨l, hl, _⟩
      · have := (h.fr b hb).2.1; have := h.size; show b < w.heap.size; omega
      · exact h.ownlt b l hl
    · rcases hb with hb | ⟨l, hl, hloc⟩
      · have := (h.fr b hb).2.2; simp [outOwn, this]
      · simp [outOwn, hl, hloc]
  size := Nat.le_refl _
  os := rfl
  tape := rfl
  output := rfl
  imm := h.imm
  immOwn b o l hv hl := h.immOwn b o l hv (outOwn_some hl).1
  ownlt b l hl := h.ownlt b l (outOwn_some hl).1
  newI b o hv hb := absurd hb hv
  objs id cs hc := by
    obtain ⟨blk, h1, h2, us, ty, h3, h4, h5⟩ := h.objs id cs hc
    exact ⟨blk, h1, outOwn_of h2 rfl, us, ty, h3, h4, fun j sz es cv hj hcv => (h5 j sz es cv hj hcv).out rfl⟩
  len := h.len

def otherOwn (g' : G) (l' : Option Loc) (b : Nat) : Option Loc := match g'.own b with | some .ret => l' | x => x
/-- What the caller owns, and what the callee has left. -/
def backOwn (g g' : G) (l' : Option Loc) : G := { I := g'.I, σ := g'.σ, β := g.β, own := fun b => match g.own b with
  | some l => (match l.isLocal with | true => some l | false => otherOwn g' l' b)
  | none => otherOwn g' l' b }
theorem call_ok (hr : Rel n B g e bx st a w) (hd : ∀ d, o.dst = some d → d < n) {f : Nat} {as : List AV} {cargs : List Value} {R : AV → St → Prop} (hreps : Reps g.I g.σ as cargs) (hv : VCalls P f as st R)
    (hrun : (execOp a.eval o).run P w = .ok (.enter f ⟨cargs⟩) w) (tr : Bool) (Q : Exit → Act → World → Prop) :
    o.wp P a w (fun a' w' => ∃ g' r st', R r st' ∧ Rel n B g' (updO e o.dst (bif tr then r else ut r)) bx st' a' w') Q := by
  unfold Oper.wp
  rw [hrun, Oper.upon_enter]
  have hloc : ∀ b l, (outOwn g).own b = some l → l.isLocal = false := fun b l h => (outOwn_some h).2
  refine (hv.out (Frame' B g) (outOwn g) w cargs hr.glob.out hloc hreps).mono ?_
  rintro en w' ⟨cv, g', r, st', rfl, hR, hG, hown', hrep, htip⟩
  have hI : MemLe g.I g'.I := hG.hI
  have hσ : g.σ <+: g'.σ := hG.hσ
  have hgG := hr.glob
  obtain ⟨l', hl'⟩ : ∃ l' : Option Loc, l' = (match o.dst with | some d => some (.tt d) | none => none) := ⟨_, rfl⟩
  have hltip : ∀ l, l' = some l → l.isTip = true ∧ l.isLocal = true := by
    intro l h; rw [hl'] at h
    split at h
    · cases h; exact ⟨rfl, rfl⟩
    · cases h
  -- blocks that the caller owns stand as they stood
  have hkeep : ∀ b l, g.own b = some l → l.isLocal = true → w'.heap[b]? = w.heap[b]? ∧ g'.own b = none := by
    intro b l h1 h2
    have := hG.fr b (.inr ⟨l, h1, h2⟩)
    exact ⟨this.1, this.2.2⟩
  have hback_local : ∀ b l, g.own b = some l → l.isLocal = true → (backOwn g g' l').own b = some l := by
    intro b l h1 h2; simp [backOwn, h1, h2]
  have hback_other : ∀ b, (∀ l, g.own b = some l → l.isLocal = false) → (backOwn g g' l').own b = otherOwn g' l' b := by
    intro b h1
    simp only [backOwn]
    cases hb : g.own b with
    | none => rfl
    | some l => simp [h1 l hb]
  have hglob' : ∀ b l, g'.own b = some l → l ≠ .ret → (backOwn g g' l').own b = some l := by
    intro b l h1 h2
    rw [hback_other b (fun k hk => by
      cases hkl : k.isLocal with
      | false => rfl
      | true => have := (hkeep b k hk hkl).2; rw [h1] at this; cases this)]
    simp only [otherOwn, h1]
    cases l <;> first | rfl | exact absurd rfl h2
  have htipG : ∀ {l : Loc} {sz : Nat} {es : List AV} {cv : Value}, l ≠ .ret → TipAt g' w' l sz es cv → TipAt (backOwn g g' l') w' l sz es cv := by
    intro l sz es cv hl h
    rcases h with h | ⟨b, o', cap, rfl, h⟩
    · exact .inl h
    refine .inr ⟨b, o', cap, rfl, ?_⟩
    rcases h with h | ⟨h1, h2, h4⟩
    · exact .inl h
    exact .inr ⟨hglob' b l h1 hl, h2, h4⟩
  have htipL : ∀ {l : Loc} {sz : Nat} {es : List AV} {cv : Value}, l.isLocal = true → TipAt g w l sz es cv → TipAt (backOwn g g' l') w' l sz es cv := by
    intro l sz es cv hl h
    rcases h with h | ⟨b, o', cap, rfl, h⟩
    · exact .inl h
    refine .inr ⟨b, o', cap, rfl, ?_⟩
    rcases h with h | ⟨h1, ⟨vs, ty, h2, h3⟩, h4⟩
    · exact .inl h
    refine .inr ⟨hback_local b l h1 hl, ⟨vs, ty, by rw [(hkeep b l h1 hl).1]; exact h2, h3⟩, fun o2 ho => h4 o2 ?_⟩
    intro hn
    exact hG.newI b o2 ho hn (.inr ⟨l, h1, hl⟩)
  have hnew : Glob B (backOwn g g' l') st' w' := by
    refine ⟨hgG.hI.trans hI, hgG.hσ.trans hσ, ?_, Nat.le_trans hgG.size hG.size, hG.os.trans hgG.os, hG.tape.trans hgG.tape, hG.output.trans hgG.output, hG.imm, ?_, ?_, ?_, ?_, hG.len⟩
    · intro b hb
      obtain ⟨h1, h2, h3⟩ := hgG.fr b hb
      have h4 := hG.fr b (.inl hb)
      refine ⟨h4.1.trans h1, h2, ?_⟩
      rw [hback_other b (fun l hl => by rw [h3] at hl; cases hl)]
      simp [otherOwn, h4.2.2]
    · intro b o' l hv' hl
      by_cases hloc' : ∃ k, g.own b = some k ∧ k.isLocal = true
      · obtain ⟨k, hk1, hk2⟩ := hloc'
        rw [hback_local b k hk1 hk2] at hl
        obtain rfl := Option.some.inj hl
        refine hgG.immOwn b o' k ?_ hk1
        intro hn
        exact hG.newI b o' hv' hn (.inr ⟨k, hk1, hk2⟩)
      · rw [hback_other b (fun k hk => by
          cases hkl : k.isLocal with
          | false => rfl
          | true => exact absurd ⟨k, hk, hkl⟩ hloc')] at hl
        simp only [otherOwn] at hl
        split at hl
        · exact (hltip l hl).1
        · exact hG.immOwn b o' l hv' hl
    · intro b l hl
      by_cases hloc' : ∃ k, g.own b = some k ∧ k.isLocal = true
      · obtain ⟨k, hk1, hk2⟩ := hloc'
        have := hgG.ownlt b k hk1
        have h5 : w.heap.size ≤ w'.heap.size := hG.size
        omega
      · rw [hback_other b (fun k hk => by
          cases hkl : k.isLocal with
          | false => rfl
          | true => exact absurd ⟨k, hk, hkl⟩ hloc')] at hl
        simp only [otherOwn] at hl
        split at hl
        · next hret => exact hG.ownlt b _ hret
        · exact hG.ownlt b l hl
    · intro b o' hv' hb hf
      by_cases hgb : g.I b o' = none
      · exact hG.newI b o' hv' hgb (.inl hf)
      · exact hgG.newI b o' hgb hb hf
    · intro id cs hc
      obtain ⟨blk, h1, h2, us, ty, h3, h4, h5⟩ := hG.objs id cs hc
      exact ⟨blk, h1, hglob' blk _ h2 (by simp), us, ty, h3, h4, fun j sz es cv hj hcv => htipG (by simp) (h5 j sz es cv hj hcv)⟩
  have hrel : Rel n B (backOwn g g' l') e bx st' a w' := by
    refine ⟨hnew, hr.nt, hr.defers, ?_, ?_, ?_⟩
    · intro t
      exact (hr.tmps t).ext (g' := backOwn g g' l') hI hσ (fun _ _ => rfl)
    · intro t sz es ht
      exact htipL rfl (hr.tips t sz es ht)
    · intro b cs hb
      obtain ⟨h1, us, ty, h2, h3, h4⟩ := hr.boxes b cs hb
      exact ⟨hback_local _ _ h1 rfl, us, ty, ((hkeep _ _ h1 rfl).1).trans h2, h3.mono hI hσ, fun j sz es cv hj hcv => htipL rfl (h4 j sz es cv hj hcv)⟩
  show ∃ g'', ∃ r' st'', R r' st'' ∧ Rel n B g'' (updO e o.dst (bif tr then r' else ut r')) bx st'' (a.put o.dst cv) w'
  refine ⟨backOwn g g' l', r, st', hR, ?_⟩
  cases hdst : o.dst with
  | none => exact hrel
  | some d =>
    refine hrel.put (hd d hdst) ?_ ?_
    · cases tr with
      | true => exact .of hrep
      | false => exact .of hrep.ut
    · intro sz es h
      cases tr with
      | false => exact absurd h ut_not_tip
      | true =>
        have h1 := htip sz es h
        rcases h1 with h1 | ⟨b, o', cap, rfl, h1⟩
        · exact .inl h1
        refine .inr ⟨b, o', cap, rfl, ?_⟩
        rcases h1 with h1 | ⟨h1, h2, h4⟩
        · exact .inl h1
        refine .inr ⟨?_, h2, h4⟩
        rw [hback_other b (fun k hk => by
          cases hkl : k.isLocal with
          | false => rfl
          | true => have := (hkeep b k hk hkl).2; rw [h1] at this; cases this)]
        simp [otherOwn, h1, hl', hdst]
end
end Go.V

/- V13: every quiet operation, in one theorem. -/
namespace Go.V
/-- The '==' of aggregates whose cells are scalars. -/
def EqOk (P : Program) (C : Cf) : Prop := ∀ (t : Nat) (xs ys : List AV) (I : Mem) (σ : List Nat) (vs us : List Value) (w : World) (op : BinOp) (x y : Operand), eqOkB C t (.agg xs) (.agg ys) = true → Reps I σ xs vs → Reps I σ ys us →
  (Op.equal t (.agg ⟨vs⟩) (.agg ⟨us⟩)).run P w = .ok (eqCells xs ys) w ∧ (eqGuard op t x y (.agg ⟨vs⟩) (.agg ⟨us⟩)).run P w = .ok () w
structure Ok (P : Program) (C : Cf) : Prop where
  x : C.x = std
  ti : TIok P C.ti
  pf : ∀ f p, C.pf f = some p → ∀ args st, p.pre args st → VCalls P f args st (fun r st' => r = p.val args st ∧ st' = st)
  eq : EqOk P C
  mixed : P.follows .mixedOrders = true

section
variable {P : Program} {C : Cf} {n : Nat} {B : Base} {g : G} {e : Env} {bx : Bx} {st : St} {a : Act} {w : World} {o : Oper}

theorem run_enter {f : Nat} {args : Array Value} (h : ∃ fn, P.funcs[f]? = some fn ∧ fn.body.isSome = true ∧ (fn.name == "runtime.NumGoroutine") = false) (w : World) : (callFunc f args).run P w = .ok (.enter f args) w := by
  obtain ⟨fn, h1, h2, h3⟩ := h
  have h3' : ¬ fn.name = "runtime.NumGoroutine" := by simpa using h3
  have h4 : ¬ fn.body = none := by intro hb; rw [hb] at h2; cases h2
  simp [callFunc, h1, h3', h4]
theorem run_call_func {f : Nat} {c : Call} (hop : o.op = .call c) (hc : c.callee = .value (.func f)) (h : ∃ fn, P.funcs[f]? = some fn ∧ fn.body.isSome = true ∧ (fn.name == "runtime.NumGoroutine") = false) :
    (execOp a.eval o).run P w = .ok (.enter f ⟨c.args.toList.map a.eval⟩) w := by
  have hm : c.args.map a.eval = ⟨c.args.toList.map a.eval⟩ := by apply Array.ext'; simp
  simp only [execOp, hop, resolve, hc, Sem.run_bind, Act.eval, Deferred.ofValue, Sem.run_pure, Result.andThen_ok, invoke]
  rw [run_enter h]
  simp [hm]

theorem q_eqAgg (hC : Ok P C) (hr : Rel n B g e bx st a w) (hd : ∀ d, o.dst = some d → d < n) {op : BinOp} {t ty : Nat} {x y : Operand} (hop : o.op = .binOp op t x y ty) {xs ys : List AV} (hx : rd C t e x = .agg xs) (hy : rd C ty e y = .agg ys)
    (hok : (qbin C.x (C.kind t) (eqOkB C t (rd C t e x) (rd C ty e y)) op (rd C t e x) (rd C ty e y)).1.holds) : QOk P n B e bx st o (qbin C.x (C.kind t) (eqOkB C t (rd C t e x) (rd C ty e y)) op (rd C t e x) (rd C ty e y)).2 a w := by
  intro Q
  have h1 := rd_rep hr C t x
  have h2 := rd_rep hr C ty y
  rw [hx] at h1 hok ⊢
  rw [hy] at h2 hok ⊢
  have h1 := h1.rep rfl
  have h2 := h2.rep rfl
  generalize hav : a.eval x = av at h1
  generalize hbv : a.eval y = bv at h2
  cases h1 with
  | agg k1 => cases h2 with
    | agg k2 =>
      unfold qbin at hok ⊢
      simp only at hok ⊢
      have hX := hC.x
      split at hok
      · obtain ⟨q1, q2⟩ := hC.eq t xs ys _ _ _ _ w .eql x y (chkB_holds hok) k1 k2
        refine wp_value' (cv := .bool (eqCells xs ys)) ?_ hr hd (by rw [hX]; exact Rep.bool) (by simp)
        simp [execOp, hop, hav, hbv, q2, binOp, q1]
      · obtain ⟨q1, q2⟩ := hC.eq t xs ys _ _ _ _ w .neq x y (chkB_holds hok) k1 k2
        refine wp_value' (cv := .bool (!eqCells xs ys)) ?_ hr hd (by rw [hX]; exact Rep.bool) (by simp)
        simp [execOp, hop, hav, hbv, q2, binOp, q1]
      · exact absurd hok id

theorem q_pure (hC : Ok P C) (hr : Rel n B g e bx st a w) (hd : ∀ d, o.dst = some d → d < n) {f : Nat} {c : Call} {p : PF} (hop : o.op = .call c) (hc : c.callee = .value (.func f)) (hp : C.pf f = some p)
    (hn : noLps (qargs C e c.args.toList c.argTypes.toList) = true) (hpre : p.pre (qargs C e c.args.toList c.argTypes.toList) st) : QOk P n B e bx st o (p.val (qargs C e c.args.toList c.argTypes.toList) st) a w := by
  intro Q
  have hv := hC.pf f p hp _ st hpre
  have hreps := qargs_rep (C := C) hr c.args.toList c.argTypes.toList hn
  have h := call_ok hr hd hreps hv (run_call_func hop hc hv.enter) true Q
  unfold Oper.wp at h ⊢
  rw [run_call_func hop hc hv.enter, Oper.upon_enter] at h ⊢
  refine h.mono ?_
  intro en w' hh
  cases en with
  | returned v =>
    obtain ⟨g', r, st', ⟨rfl, rfl⟩, hrel⟩ := hh
    exact ⟨g', hrel⟩
  | panicked ch => exact hh
  | outgrown => exact hh

theorem q_sound (hC : Ok P C) (hr : Rel n B g e bx st a w) (hd : ∀ d, o.dst = some d → d < n) (hq : isQ C o = true) (hok : (q C o e bx st).1.holds) : QOk P n B e bx st o (q C o e bx st).2 a w := by
  have hX := hC.x
  have hT := hC.ti
  unfold q at hok ⊢
  unfold isQ at hq
  cases hop : o.op <;> rw [hop] at hq <;> simp only [hop] at hok ⊢ <;> first | (cases hq; done) | skip
  case move x => exact q_move hr hd (.inl hop)
  case assign x => exact q_move hr hd (.inr hop)
  case pick c x y =>
    cases hc : rd C o.type e c <;> rw [hc] at hok <;> simp only at hok ⊢ <;> first | (exact absurd hok (fun h => h)) | skip
    case bool cb =>
      have : bif cb then isB (rd C o.type e x) = true else isB (rd C o.type e y) = true := by
        split at hok
        · next hb => simp only [Bool.and_eq_true] at hb; cases cb <;> first | exact hb.1 | exact hb.2
        · have h := IsTrue.is hok; cases cb <;> exact h
      exact q_pick hX hr hd hop hc this
  case build t ps => exact q_build hT hr hd hop hok
  case buildSlice t m ps => exact q_buildSlice hT hr hd hop hok
  case load t x =>
    split at hok
    · exact absurd hok id
    · next i hi =>
      split at hok
      · next b off hx =>
        split at hok
        · next cs hb =>
          exact q_load hT hr hd hop hi (by rw [hx]; simp [cellsAt, hb]) (Nat.le_of_ble_eq_true (chkB_holds hok))
        · exact absurd hok id
      · next oid off hx =>
        split at hok
        · next cs hs =>
          exact q_load hT hr hd hop hi (by rw [hx]; simp [cellsAt, hs]) (Nat.le_of_ble_eq_true (chkB_holds hok))
        · exact absurd hok id
      · next v off hx =>
        exact q_load hT hr hd hop hi (by rw [hx]; simp [cellsAt]) (Nat.le_of_ble_eq_true (chkB_holds hok))
      · exact absurd hok id
  case makeSlice t l c =>
    split at hok
    · next el k m k' m' hk hl hc =>
      obtain ⟨c1, c2⟩ := Chk.and_holds hok
      have c1 := chkB_holds c1
      simp only [Bool.and_eq_true] at c1
      exact q_makeSlice hX hT hr hd hop hk hl hc c1.1 (Nat.le_of_ble_eq_true c1.2) c2
    · exact absurd hok id
  case fieldAddr t x f => exact q_fieldAddr hT hr hd hop hok
  case indexAddr t x i =>
    split at hok
    · next k m hi => exact q_indexAddr hX hT hr hd hop hi hok
    · exact absurd hok id
  case field t x f => exact q_field hT hr hd hop hok
  case index t x i =>
    split at hok
    · next k m hi => exact q_index hX hT hr hd hop hi hok
    · exact absurd hok id
  case binOp op t x y ty => exact q_binOp hX hT hr hd hop (fun xs ys hx hy => q_eqAgg hC hr hd hop hx hy hok) hok
  case unOp op t x => exact q_unOp hX hr hd hop hok
  case convert s d x => exact q_conv hX hT hr hd hop hok
  case extract x i =>
    split at hok
    · next vs hx =>
      split at hok
      · next v hv => exact q_extract hr hd hop hx hv
      · exact absurd hok id
    · exact absurd hok id
  case nilCheck x =>
    split at hok
    · next b off hx => have := q_nilCheck (P := P) (C := C) hr hd hop (by rw [hx]; rfl); rw [hx] at this; exact this
    · next b off hx => have := q_nilCheck (P := P) (C := C) hr hd hop (by rw [hx]; rfl); rw [hx] at this; exact this
    · next b off hx => have := q_nilCheck (P := P) (C := C) hr hd hop (by rw [hx]; rfl); rw [hx] at this; exact this
    · exact absurd hok id
  case slice t x lo hi mx => exact q_slice hX hT hr hd hop hok
  case makeFunc fn first cap =>
    cases fn <;> simp only at hok ⊢ <;> first | exact absurd hok id | skip
    case func f => exact q_makeFunc hr hd hop (chkB_holds hok)
  case call c =>
    split at hok
    · next hc =>
      split at hok
      · next x t ts ha hts => exact q_len hX hT hr hd hop hc ha hts hok
      · exact absurd hok id
    · next hc => exact q_max hX hr hd hop hc hok
    · next hc => exact q_min hX hr hd hop hc hok
    · next f hc =>
      split at hok
      · next p hp =>
        obtain ⟨c1, c2⟩ := Chk.and_holds hok
        exact q_pure hC hr hd hop hc hp (chkB_holds c1) c2
      · exact absurd hok id
    · exact absurd hok id
end
end Go.V

/- V14: the operations with an effect, first part: stores, new variables. -/
namespace Go.V
/-- What an operation with an effect must come to. -/
def EOk (P : Program) (n : Nat) (B : Base) (K : Env → Bx → St → Prop) (o : Oper) (a : Act) (w : World) : Prop :=
  ∀ Q : Exit → Act → World → Prop, o.wp P a w (fun a' w' => ∃ g' e' bx' st', K e' bx' st' ∧ Rel n B g' e' bx' st' a' w') Q
section
variable {P : Program} {C : Cf} {n : Nat} {B : Base} {g : G} {e : Env} {bx : Bx} {st : St} {a : Act} {w : World} {o : Oper} {K : Env → Bx → St → Prop}

theorem eff_skip {g' : G} {e' : Env} {bx' : Bx} {st' : St} {w' : World} (hrun : (execOp a.eval o).run P w = .ok .skip w') (hdst : o.dst = none) (hK : K e' bx' st') (hr : Rel n B g' e' bx' st' a w') : EOk P n B K o a w := by
  intro Q
  unfold Oper.wp
  rw [hrun, Oper.upon_skip, hdst]
  exact ⟨g', e', bx', st', hK, hr⟩
theorem eff_value {g' : G} {e' : Env} {bx' : Bx} {st' : St} {w' : World} {cv : Value} (hrun : (execOp a.eval o).run P w = .ok (.value cv) w') (hK : K e' bx' st') (hr : Rel n B g' e' bx' st' (a.put o.dst cv) w') : EOk P n B K o a w := by
  intro Q
  unfold Oper.wp
  rw [hrun, Oper.upon_value]
  exact ⟨g', e', bx', st', hK, hr⟩

/-- The right of a temporary goes over to another place; the temporary has let it go already. -/
theorem Rel.reown (h : Rel n B g e bx st a w) {t : Nat} {l' : Loc} (hl' : l'.isTip = true) (ht : ∀ sz es, e t ≠ .sl true sz es) : Rel n B (reown g (.tt t) l') e bx st a w where
  glob := h.glob.reown rfl hl' (fun id cs j sz es _ _ => by simp)
  nt := h.nt
  defers := h.defers
  tmps u := (h.tmps u).ext (g' := V.reown g (.tt t) l') (MemLe.refl _) (List.prefix_refl _) (fun _ _ => rfl)
  tips u sz es hu := by
    refine (h.tips u sz es hu).reown_other ?_
    rintro ⟨⟩
    exact ht sz es hu
  boxes b cs hb := (h.boxes b cs hb).reown rfl rfl (fun j sz es _ => by simp)

theorem setCells_get {cs us : List AV} {off j : Nat} (hle : off + us.length ≤ cs.length) : (setCells cs off us)[j]? = if j < off then cs[j]? else if j < off + us.length then us[j - off]? else cs[j]? := by
  unfold setCells
  by_cases h1 : j < off
  · rw [if_pos h1, List.append_assoc, List.getElem?_append_left (by simp; omega), List.getElem?_take, if_pos h1]
  · rw [if_neg h1]
    by_cases h2 : j < off + us.length
    · rw [if_pos h2, List.append_assoc, List.getElem?_append_right (by simp; omega), List.getElem?_append_left (by simp; omega)]
      congr 1; simp; omega
    · rw [if_neg h2, List.getElem?_append_right (by simp; omega), List.getElem?_drop]
      congr 1; simp; omega
theorem splice_get {vs us : List Value} {off j : Nat} (hle : off + us.length ≤ vs.length) : (vs.take off ++ us ++ vs.drop (off + us.length))[j]? = if j < off then vs[j]? else if j < off + us.length then us[j - off]? else vs[j]? := by
  by_cases h1 : j < off
  · rw [if_pos h1, List.append_assoc, List.getElem?_append_left (by simp; omega), List.getElem?_take, if_pos h1]
  · rw [if_neg h1]
    by_cases h2 : j < off + us.length
    · rw [if_pos h2, List.append_assoc, List.getElem?_append_right (by simp; omega), List.getElem?_append_left (by simp; omega)]
      congr 1; simp; omega
    · rw [if_neg h2, List.getElem?_append_right (by simp; omega), List.getElem?_drop]
      congr 1; simp; omega

/-- The machine's store into a block. -/
theorem run_store_of (hT : TIok P C.ti) {t : Nat} (hhas : C.has t = true) {x y : Operand} (hop : o.op = .store t x y) {b off : Nat} {vs : List Value} {ty : TypeId} {cvs : List Value} (hx : a.eval x = .pointer (some ⟨b, off, none⟩))
    (hw : w.heap[b]? = some (.cells ⟨vs⟩ ty (0, 0))) (hc : (a.eval y).cells.toList = cvs) (hsz : cvs.length = C.sz t) (hle : off + cvs.length ≤ vs.length) (h1 : ∀ cv ∈ cvs, cv.oneCell' = true) :
    (execOp a.eval o).run P w = .ok .skip (w.setRow b ⟨vs.take off ++ cvs ++ vs.drop (off + cvs.length)⟩) := by
  obtain ⟨i, hi⟩ : ∃ i, C.ti t = some i := by
    unfold Cf.has at hhas
    split at hhas
    · next i hi => exact ⟨i, hi⟩
    · cases hhas
  have es : C.sz t = i.sz := by unfold Cf.sz; rw [hi]
  have hs := run_storeCells_at P b off ty cvs 0 ⟨vs⟩ w hw (by simpa using hle) h1
  have hcs : (a.eval y).cells.size = i.sz := by rw [← Array.length_toList, hc, hsz, es]
  have hs' : (storeCells ⟨b, off, none⟩ cvs).run P w = .ok () (w.setRow b ⟨vs.take off ++ cvs ++ vs.drop (off + cvs.length)⟩) := by simpa using hs
  simp [execOp, hop, Instr.storeAt, hx, Instr.sureAddr, storeVar, run_sizeOf_of hT hi, hcs, hc, hs']

theorem isSl_eq {v : AV} (h : isSl v = true) : ∃ t sz es, v = .sl t sz es := by cases v <;> first | exact ⟨_, _, _, rfl⟩ | cases h
theorem noTips_setCells {cs us : List AV} {vs cvs : List Value} {off : Nat} {L : Nat → Loc} (hle : off + us.length ≤ cs.length) (hlen : us.length = cvs.length) (hvl : cs.length = vs.length) (hn : NilTips us cvs)
    (ht : ∀ (j sz : Nat) (es : List AV) (cv : Value), cs[j]? = some (.sl true sz es) → vs[j]? = some cv → TipAt g w (L j) sz es cv) :
    ∀ (j sz : Nat) (es : List AV) (cv : Value), (setCells cs off us)[j]? = some (.sl true sz es) → (vs.take off ++ cvs ++ vs.drop (off + cvs.length))[j]? = some cv → TipAt g w (L j) sz es cv := by
  intro j sz es cv h1 h2
  rw [setCells_get hle] at h1
  rw [splice_get (by omega)] at h2
  by_cases c1 : j < off
  · rw [if_pos c1] at h1 h2; exact ht j sz es cv h1 h2
  · rw [if_neg c1] at h1 h2
    by_cases c2 : j < off + us.length
    · rw [if_pos c2] at h1; rw [if_pos (by omega)] at h2; exact .inl ⟨none, hn _ _ _ _ h1 h2⟩
    · rw [if_neg c2] at h1; rw [if_neg (by omega)] at h2; exact ht j sz es cv h1 h2

/-- A store: the block's cells, and who may write them. -/
theorem store_cells (hr : Rel n B g e bx st a w) {t : Nat} {y : Operand} (hs : scalAll (rd C t e y).cells = true) (hl : (rd C t e y).cells.length = C.sz t) :
    ∃ cvs, (a.eval y).cells.toList = cvs ∧ Reps g.I g.σ (rd C t e y).cells cvs ∧ cvs.length = C.sz t ∧ ∀ cv ∈ cvs, cv.oneCell' = true := by
  have hrep := (rd_rep hr C t y).rep (scal_noLp hs)
  have hcells := hrep.cells hs
  exact ⟨_, rfl, hcells, by rw [← hcells.length]; exact hl, hcells.oneCell hs⟩

theorem trX_eq {x : Operand} {t : Nat} (h : trX C x = some t) : x = .tmp t := by
  cases x <;> simp [trX] at h
  case tmp u =>
    cases hc : C.tr u <;> rw [hc] at h <;> simp at h
    rw [h]
theorem e_store (hC : Ok P C) (hr : Rel n B g e bx st a w) {t : Nat} {x y : Operand} (hop : o.op = .store t x y) (hv : veff P C o e bx st K) : EOk P n B K o a w := by
  have hT := hC.ti
  unfold veff at hv
  rw [hop] at hv
  simp only at hv
  split at hv
  · exact hv.elim
  · next hb =>
    simp only [Bool.and_eq_true] at hb
    obtain ⟨⟨⟨b1, b2⟩, b3⟩, b4⟩ := hb
    have b2 := Nat.eq_of_beq_eq_true b2
    have hdst : o.dst = none := by cases h : o.dst <;> rw [h] at b4 <;> first | rfl | cases b4
    obtain ⟨cvs, c1, c2, c3, c4⟩ := store_cells (C := C) hr b1 b2
    have hpx := rd_rep hr C 0 x
    split at hv
    · next b off hx =>
      rw [hx] at hpx
      split at hv
      · next cs hbx =>
        split at hv
        · next hle =>
          have hle := Nat.le_of_ble_eq_true hle
          obtain ⟨ho, vs, ty, hw, hreps, htips⟩ := hr.boxes b cs hbx
          have hvl := hreps.length
          have hrun := run_store_of (w := w) hT b3 hop hpx.2 hw c1 c3 (by omega) c4
          split at hv
          · next xt hxt hsl =>
            have hy := trX_eq hxt
            subst hy
            obtain ⟨tp, sz, es, hes⟩ := isSl_eq hsl
            have hes' : e xt = .sl tp sz es := hes
            rw [show rd C t e (.tmp xt) = e xt from rfl] at hv c2 b2
            have hr1 := (hr.untip xt).reown (t := xt) (l' := .bt b off) rfl (by intro sz es h; rw [upd_same] at h; exact ut_not_tip h)
            have hone : cvs.length = 1 := by rw [← c2.length, hes']; rfl
            refine eff_skip hrun hdst hv (hr1.setBox (cs' := setCells cs off (e xt).cells) hbx (reps_setCells hreps c2 off) ?_)
            intro j sz' es' cv h1 h2
            have hul : (e xt).cells.length = cvs.length := c2.length
            rw [setCells_get (by omega)] at h1
            rw [splice_get (by omega)] at h2
            by_cases q1 : j < off
            · rw [if_pos q1] at h1 h2; exact (htips j sz' es' cv h1 h2).reown_other (by simp)
            · rw [if_neg q1] at h1 h2
              by_cases q2 : j < off + cvs.length
              · rw [if_pos q2] at h2
                rw [if_pos (by omega)] at h1
                have hj : j - off = 0 := by omega
                obtain rfl : j = off := by omega
                rw [hj, hes'] at h1
                simp [AV.cells] at h1
                obtain ⟨rfl, rfl, rfl⟩ := h1
                have htip := hr.tips xt sz es hes'
                have hcv : a.tmps.getD xt undef = cv := by
                  have hrep := hr.tmps xt
                  rw [hes'] at hrep
                  have hc1 : (a.tmps.getD xt undef).cells.toList = cvs := c1
                  rw [hj] at h2
                  rw [← hc1] at h2
                  generalize a.tmps.getD xt undef = av at hrep h2
                  cases hrep <;> simpa [Value.cells] using h2
                rw [hcv] at htip
                exact htip.reown_to
              · rw [if_neg q2] at h2
                rw [if_neg (by omega)] at h1
                exact (htips j sz' es' cv h1 h2).reown_other (by simp)
          · refine eff_skip hrun hdst hv (hr.setBox hbx (reps_setCells hreps c2.tns off) ?_)
            exact noTips_setCells (L := fun j => .bt b j) (by rw [List.length_map]; omega) (by rw [List.length_map]; exact c2.length) hvl (nilTips_tn c2) htips
        · exact hv.elim
      · exact hv.elim
    · next id off hx =>
      rw [hx] at hpx
      split at hv
      · next cs hst =>
        split at hv
        · next hle =>
          have hle := Nat.le_of_ble_eq_true hle
          obtain ⟨blk, hblk, ho, vs, ty, hw, hreps, htips⟩ := hr.glob.objs id cs hst
          have hvl := hreps.length
          have hptr : a.eval x = .pointer (some ⟨blk, off, none⟩) := by
            generalize a.eval x = av at hpx
            cases hpx with
            | ref h => rw [hblk] at h; rw [Option.some.inj h]
          have hrun := run_store_of (w := w) hT b3 hop hptr hw c1 c3 (by omega) c4
          split at hv
          · next xt hxt hsl =>
            have hy := trX_eq hxt
            subst hy
            obtain ⟨tp, sz, es, hes⟩ := isSl_eq hsl
            have hes' : e xt = .sl tp sz es := hes
            rw [show rd C t e (.tmp xt) = e xt from rfl] at hv c2 b2
            have hr1 := (hr.untip xt).reown (t := xt) (l' := .ot id off) rfl (by intro sz es h; rw [upd_same] at h; exact ut_not_tip h)
            have hone : cvs.length = 1 := by rw [← c2.length, hes']; rfl
            refine eff_skip hrun hdst hv (hr1.setObj (cs' := setCells cs off (e xt).cells) hst hblk (reps_setCells hreps c2 off) ?_)
            intro j sz' es' cv h1 h2
            have hul : (e xt).cells.length = cvs.length := c2.length
            rw [setCells_get (by omega)] at h1
            rw [splice_get (by omega)] at h2
            by_cases q1 : j < off
            · rw [if_pos q1] at h1 h2; exact (htips j sz' es' cv h1 h2).reown_other (by simp)
            · rw [if_neg q1] at h1 h2
              by_cases q2 : j < off + cvs.length
              · rw [if_pos q2] at h2
                rw [if_pos (by omega)] at h1
                have hj : j - off = 0 := by omega
                obtain rfl : j = off := by omega
                rw [hj, hes'] at h1
                simp [AV.cells] at h1
                obtain ⟨rfl, rfl, rfl⟩ := h1
                have htip := hr.tips xt sz es hes'
                have hcv : a.tmps.getD xt undef = cv := by
                  have hrep := hr.tmps xt
                  rw [hes'] at hrep
                  have hc1 : (a.tmps.getD xt undef).cells.toList = cvs := c1
                  rw [hj] at h2
                  rw [← hc1] at h2
                  generalize a.tmps.getD xt undef = av at hrep h2
                  cases hrep <;> simpa [Value.cells] using h2
                rw [hcv] at htip
                exact htip.reown_to
              · rw [if_neg q2] at h2
                rw [if_neg (by omega)] at h1
                exact (htips j sz' es' cv h1 h2).reown_other (by simp)
          · refine eff_skip hrun hdst hv (hr.setObj hst hblk (reps_setCells hreps c2.tns off) ?_)
            exact noTips_setCells (L := fun j => .ot id j) (by rw [List.length_map]; omega) (by rw [List.length_map]; exact c2.length) hvl (nilTips_tn c2) htips
        · exact hv.elim
      · exact hv.elim
    · exact hv.elim
end
end Go.V

/- V15: the operations with an effect, second part: new variables, moves with a right, what becomes immutable, calls. -/
namespace Go.V
section
variable {P : Program} {C : Cf} {n : Nat} {B : Base} {g : G} {e : Env} {bx : Bx} {st : St} {a : Act} {w : World} {o : Oper} {K : Env → Bx → St → Prop}

/-- A new variable, as a box or as an object. -/
theorem e_new (hr : Rel n B g e bx st a w) (hd : ∀ d, o.dst = some d → d < n) {d : Nat} (hdst : o.dst = some d) {cs : List AV} {vs : List Value} {ty : TypeId} (hreps : Reps g.I g.σ cs vs) (hn : NilTips cs vs)
    (hrun : (execOp a.eval o).run P w = .ok (.value (.pointer (some ⟨w.heap.size, 0, none⟩))) (w.alloc (.cells ⟨vs⟩ ty)))
    (hK : (K (upd e d (.ref st.length 0)) bx (st ++ [some cs])) ∨ (bx d = none ∧ K (upd e d (.lp d 0)) (upd bx d (some cs)) st)) : EOk P n B K o a w := by
  rcases hK with hK | ⟨hb, hK⟩
  · have h := hr.newObj (ty := ty) (hd d hdst) hreps hn (v := .ref st.length 0) (cv := .pointer (some ⟨w.heap.size, 0, none⟩)) (Rep.ref (by rw [← hr.glob.len]; simp)) (by simp) (by simp)
    rw [← hdst] at h
    exact eff_value hrun hK h
  · have h := hr.newBox (ty := ty) (hd d hdst) hb hreps hn
    rw [← hdst] at h
    exact eff_value hrun hK h

theorem e_alloc (hC : Ok P C) (hr : Rel n B g e bx st a w) (hd : ∀ d, o.dst = some d → d < n) {t : Nat} (hop : o.op = .alloc t) (hv : veff P C o e bx st K) : EOk P n B K o a w := by
  unfold veff at hv
  rw [hop] at hv
  simp only at hv
  split at hv
  · next d i hdst hi =>
    obtain ⟨zv, hz, hzr, _⟩ := zero_reps (C := C) (t := t) hC.ti (by unfold Cf.has; rw [hi])
    have ez : C.zero t = i.zero := by unfold Cf.zero; rw [hi]
    rw [ez] at hzr
    have hrun : (execOp a.eval o).run P w = .ok (.value (.pointer (some ⟨w.heap.size, 0, none⟩))) (w.alloc (.cells ⟨zv.cells.toList⟩ t)) := by
      simp [execOp, hop, Instr.alloc, hz, newVar, newRow]
    refine e_new hr hd hdst (hzr g.I g.σ).tns (nilTips_tn (hzr g.I g.σ)) hrun ?_
    split at hv
    · exact .inl hv
    · split at hv
      · next hb => exact .inr ⟨hb, hv⟩
      · exact hv.elim
  · exact hv.elim
theorem e_box (hr : Rel n B g e bx st a w) (hd : ∀ d, o.dst = some d → d < n) {t : Nat} {x : Operand} (hop : o.op = .box t x) (hv : veff P C o e bx st K) : EOk P n B K o a w := by
  unfold veff at hv
  rw [hop] at hv
  simp only at hv
  split at hv
  · next d hdst =>
    split at hv
    · exact hv.elim
    · next hs =>
      have hcells := ((rd_rep hr C t x).rep (scal_noLp hs)).cells hs
      have hrun : (execOp a.eval o).run P w = .ok (.value (.pointer (some ⟨w.heap.size, 0, none⟩))) (w.alloc (.cells ⟨(a.eval x).cells.toList⟩ t)) := by
        simp [execOp, hop, Instr.box, newVar, newRow]
      refine e_new hr hd hdst hcells.tns (nilTips_tn hcells) hrun ?_
      split at hv
      · exact .inl hv
      · split at hv
        · next hb => exact .inr ⟨hb, hv⟩
        · exact hv.elim
  · exact hv.elim

theorem reps_flatten_replicate {I : Mem} {σ : List Nat} {cs : List AV} {vs : List Value} (h : Reps I σ cs vs) (m : Nat) : Reps I σ (List.replicate m cs).flatten (List.replicate m vs).flatten := reps_replicate h m
theorem noTips_replicate {cs : List AV} (h : NoTips cs) : ∀ m : Nat, NoTips (List.replicate m cs).flatten
  | 0 => fun j sz es hj => by simp at hj
  | m + 1 => by
    intro j sz es hj
    rw [List.replicate_succ, List.flatten_cons] at hj
    by_cases hlt : j < cs.length
    · rw [List.getElem?_append_left hlt] at hj; exact h _ _ _ hj
    · rw [List.getElem?_append_right (by omega)] at hj; exact noTips_replicate h m _ _ _ hj
theorem e_makeSlice (hC : Ok P C) (hr : Rel n B g e bx st a w) (hd : ∀ d, o.dst = some d → d < n) {t : Nat} {l c : Operand} (hop : o.op = .makeSlice t l c) (hv : veff P C o e bx st K) : EOk P n B K o a w := by
  have hX := hC.x
  unfold veff at hv
  rw [hop] at hv
  simp only at hv
  split at hv
  · next el k m k' m' d hk hl hc hdst =>
    split at hv
    · next hb =>
      simp only [Bool.and_eq_true] at hb
      obtain ⟨⟨k1, k2, k3, k4⟩, hK⟩ : MakeOk m m' (C.bytes el) ∧ _ := ⟨hv.ok rfl, hv.next⟩
      have hu := kind_slice hC.ti hk
      obtain ⟨i, hi⟩ : ∃ i, C.ti el = some i := by
        have := hb.1
        unfold Cf.has at this
        split at this
        · next i hi => exact ⟨i, hi⟩
        · cases this
      have es : C.sz el = i.sz := by unfold Cf.sz; rw [hi]
      have eb : C.bytes el = i.bytes := by unfold Cf.bytes; rw [hi]
      have ez : C.zero el = i.zero := by unfold Cf.zero; rw [hi]
      have h0 : 0 < C.sz el := Nat.le_of_ble_eq_true hb.2
      obtain ⟨f, zv, hf, h1, h2, h3, h4, h5, h6⟩ := info_all hC.ti hi
      have hl' := rd_rep hr C 0 l
      rw [hl] at hl'
      have hl' := rep_int hl'
      have hc' := rd_rep hr C 0 c
      rw [hc] at hc'
      have hc' := rep_int hc'
      subst k2
      have hmul : (f.bytes : Int) * m ≤ 281474976710656 := by
        rw [eb] at k3
        rw [h2, Int.mul_comm]; omega
      have hrun := run_make (P := P) w t el f zv hu hf h3 k k' m m k1 (Int.le_refl _) hmul k4
      rw [h1, madeCells_eq h5 (by omega)] at hrun
      have hrun' : (execOp a.eval o).run P w = .ok (.value (.slice (some ⟨w.heap.size, 0, none⟩) m.toNat m.toNat)) (w.alloc (.cells ⟨(List.replicate m.toNat zv.cells.toList).flatten⟩ el)) := by
        simp [execOp, hop, hl', hc', hrun]
      have hrc : C.x .repc m ((C.zero el).cells.map ut) = (List.replicate m.toNat (i.zero.cells.map ut)).flatten := by rw [hX, ez]; rfl
      rw [hrc] at hK
      have h := hr.newObj (ty := el) (hd d hdst) (reps_replicate (((zeroB_rep h4).cells (zeroB_scal h4)).uts) m.toNat) (noTips_replicate (noTips_ut _) _).nil (v := .msl (C.sz el) st.length 0 m.toNat) (cv := .slice (some ⟨w.heap.size, 0, none⟩) m.toNat m.toNat) (Rep.msl (by rw [← hr.glob.len]; simp) rfl) (by simp) (by simp)
      rw [← hdst] at h
      exact eff_value hrun' hK h
    · exact hv.elim
  · exact hv.elim

/-- A temporary's value, right and all, goes over to another temporary. -/
theorem Rel.transfer (hr : Rel n B g e bx st a w) {t d : Nat} (hd : d < n) (hn : noLp (e t) = true) : ∃ g', Rel n B g' (upd (upd e t (ut (e t))) d (e t)) bx st (a.put (some d) (a.tmps.getD t undef)) w := by
  have h1 := hr.untip t
  have hno : ∀ sz es, upd e t (ut (e t)) t ≠ .sl true sz es := by intro sz es h; rw [upd_same] at h; exact ut_not_tip h
  have h2 := h1.reown (t := t) (l' := .tt d) rfl hno
  refine ⟨_, h2.put hd ?_ ?_⟩
  · exact .of ((hr.tmps t).rep hn)
  · intro sz es h
    exact (hr.tips t sz es h).reown_to

theorem cells_imm {vs : List Value} {b : Nat} {ty : TypeId} (hw : w.heap[b]? = some (.cells ⟨vs⟩ ty (0, 0))) : LiesAt w b 0 vs := LiesAt.of_block hw
/-- A block whose cells are told to be immutable from now on. -/
def freezeG (g : G) (b : Nat) (vs : List Value) : G := { g with I := addBlock g.I b vs, own := upd g.own b none }
theorem freeze_tip {l L : Loc} {b : Nat} {vs : List Value} {sz : Nat} {es : List AV} {cv : Value} (ho : g.own b = some L) (hL : L.isTip = false) (hl : l.isTip = true) (h : TipAt g w l sz es cv) : TipAt (freezeG g b vs) w l sz es cv := by
  rcases h with h | ⟨b', o', cap, rfl, h⟩
  · exact .inl h
  refine .inr ⟨b', o', cap, rfl, ?_⟩
  rcases h with h | ⟨h1, h2, h4⟩
  · exact .inl h
  have hne : b' ≠ b := by rintro rfl; rw [ho] at h1; cases h1; rw [hL] at hl; cases hl
  refine .inr ⟨by simp [freezeG, upd_other _ _ hne, h1], h2, fun o2 h => h4 o2 ?_⟩
  simpa [freezeG, addBlock, hne] using h
theorem freeze_le (hG : Glob B g st w) {b : Nat} {L : Loc} (vs : List Value) (ho : g.own b = some L) (hL : L.isTip = false) : MemLe g.I (freezeG g b vs).I := by
  intro b' o' v hv
  have hne : b' ≠ b := by
    rintro rfl
    have := hG.immOwn b' o' L (by rw [hv]; simp) ho
    rw [hL] at this; cases this
  simp only [freezeG, addBlock, if_neg hne]; exact hv
theorem freeze_block {l L : Loc} {lt : Nat → Loc} {b blk : Nat} {vs : List Value} {cs : List AV} (hG : Glob B g st w) (ho : g.own b = some L) (hL : L.isTip = false) (hne : blk ≠ b) (hlt : ∀ j, (lt j).isTip = true) (h : BlockRep g w l lt blk cs) : BlockRep (freezeG g b vs) w l lt blk cs := by
  obtain ⟨h1, us, ty, h2, h3, h4⟩ := h
  exact ⟨by simp [freezeG, upd_other _ _ hne, h1], us, ty, h2, h3.mono (freeze_le hG vs ho hL) (List.prefix_refl _), fun j sz es cv hj hc => freeze_tip ho hL (hlt j) (h4 j sz es cv hj hc)⟩
theorem freeze_glob (hG : Glob B g st w) {st' : St} {b : Nat} {L : Loc} {vs : List Value} {ty : TypeId} (ho : g.own b = some L) (hL : L.isTip = false) (hw : w.heap[b]? = some (.cells ⟨vs⟩ ty (0, 0))) (hlen : st'.length = st.length)
    (hobj : ∀ id cs, st'[id]? = some (some cs) → ∃ blk, g.σ[id]? = some blk ∧ BlockRep (freezeG g b vs) w (.obj id) (fun j => .ot id j) blk cs) : Glob B (freezeG g b vs) st' w where
  hI := hG.hI.trans (freeze_le hG vs ho hL)
  hσ := hG.hσ
  fr b' hb := by
    obtain ⟨h1, h2, h3⟩ := hG.fr b' hb
    refine ⟨h1, h2, ?_⟩
    by_cases hne : b' = b
    · subst hne; simp [freezeG, upd_same]
    · simp [freezeG, upd_other _ _ hne, h3]
  size := hG.size
  os := hG.os
  tape := hG.tape
  output := hG.output
  imm b' o' v hv := by
    simp only [freezeG, addBlock] at hv
    split at hv
    · next he => subst he; have := LiesAt.of_block hw o' v hv; rwa [Nat.zero_add] at this
    · exact hG.imm b' o' v hv
  immOwn b' o' l hv hl := by
    by_cases hne : b' = b
    · subst hne; simp [freezeG, upd_same] at hl
    · simp only [freezeG, upd_other _ _ hne] at hl
      refine hG.immOwn b' o' l ?_ hl
      simpa [freezeG, addBlock, hne] using hv
  ownlt b' l hl := by
    by_cases hne : b' = b
    · subst hne; exact lt_of_block hw
    · simp only [freezeG, upd_other _ _ hne] at hl; exact hG.ownlt b' l hl
  newI b' o' hv hb hf := by
    by_cases hne : b' = b
    · subst hne; have := (hG.fr b' hf).2.2; rw [ho] at this; cases this
    · refine hG.newI b' o' ?_ hb hf
      simpa [freezeG, addBlock, hne] using hv
  objs := hobj
  len := by rw [hlen]; exact hG.len

theorem addBlock_at {I : Mem} {b : Nat} {vs : List Value} {j : Nat} {cv : Value} (h : vs[j]? = some cv) : addBlock I b vs b (0 + j) = some cv := by simp [addBlock, h]
/-- A box becomes immutable; its pointers tell of what it held. -/
theorem Rel.freezeBox (hr : Rel n B g e bx st a w) {b : Nat} {cs : List AV} (hb : bx b = some cs) : ∃ g', Rel n B g' (freeze b (cs.map ut) e) (upd bx b none) st a w ∧ g'.β = g.β ∧ (∀ off, Rep g'.I g'.σ (.ip (.agg (cs.map ut)) off) (.pointer (some ⟨g.β b, off, none⟩))) := by
  obtain ⟨ho, vs, ty, hw, hreps, htips⟩ := hr.boxes b cs hb
  have hle := freeze_le hr.glob vs ho rfl
  have hip : ∀ off, Rep (freezeG g (g.β b) vs).I (freezeG g (g.β b) vs).σ (.ip (.agg (cs.map ut)) off) (.pointer (some ⟨g.β b, off, none⟩)) := by
    intro off
    have := Rep.ip (σ := (freezeG g (g.β b) vs).σ) (I := (freezeG g (g.β b) vs).I) (v := .agg (cs.map ut)) (off := off) (b := g.β b) (o := 0) (.mk (hreps.mono hle (List.prefix_refl _)).uts (fun j cv hj => addBlock_at hj))
    rwa [Nat.zero_add] at this
  refine ⟨freezeG g (g.β b) vs, ⟨freeze_glob hr.glob ho rfl hw rfl ?_, hr.nt, hr.defers, ?_, ?_, ?_⟩, rfl, hip⟩
  · intro id cs' hc
    obtain ⟨blk, h1, h2⟩ := hr.glob.objs id cs' hc
    have hne : blk ≠ g.β b := by rintro rfl; have := h2.1; rw [ho] at this; cases this
    exact ⟨blk, h1, freeze_block hr.glob ho rfl hne (fun _ => rfl) h2⟩
  · intro t
    have ht := hr.tmps t
    unfold freeze
    cases hv : e t with
    | lp b' o' =>
      rw [hv] at ht
      simp only
      split
      · next hbb =>
        have := Nat.eq_of_beq_eq_true hbb
        subst this
        rw [ht.2]; exact hip o'
      · next hbb =>
        have hne : b' ≠ b := by rintro rfl; rw [Nat.beq_refl] at hbb; cases hbb
        exact ⟨by rw [upd_other _ _ hne]; exact ht.1, ht.2⟩
    | _ => rw [hv] at ht; exact Rep.mono hle (List.prefix_refl _) ht
  · intro t sz es ht
    have : e t = .sl true sz es := by
      unfold freeze at ht
      cases hv : e t with
      | lp b' o' => rw [hv] at ht; simp only at ht; split at ht <;> cases ht
      | _ => rw [hv] at ht; exact ht
    exact freeze_tip ho rfl rfl (hr.tips t sz es this)
  · intro b' cs' hc
    by_cases hne : b' = b
    · subst hne; rw [upd_same] at hc; cases hc
    · rw [upd_other _ _ hne] at hc
      have h2 := hr.boxes b' cs' hc
      have hne' : g.β b' ≠ g.β b := by intro heq; have := h2.1; rw [heq, ho] at this; cases this; exact hne rfl
      exact freeze_block hr.glob ho rfl hne' (fun _ => rfl) h2
/-- An object becomes immutable. -/
theorem Rel.freezeObj (hr : Rel n B g e bx st a w) {id : Nat} {cs : List AV} (hs : st[id]? = some (some cs)) : ∃ g' blk vs, Rel n B g' e bx (st.set id none) a w ∧ g.σ[id]? = some blk ∧ g'.σ = g.σ ∧ Reps g'.I g'.σ cs vs ∧ (∀ j cv, vs[j]? = some cv → g'.I blk j = some cv) := by
  obtain ⟨blk, hblk, ho, vs, ty, hw, hreps, htips⟩ := hr.glob.objs id cs hs
  have hle := freeze_le hr.glob vs ho rfl
  refine ⟨freezeG g blk vs, blk, vs, ⟨freeze_glob hr.glob ho rfl hw (by simp) ?_, hr.nt, hr.defers, ?_, ?_, ?_⟩, hblk, rfl, hreps.mono hle (List.prefix_refl _), fun j cv hj => by simp [freezeG, addBlock, hj]⟩
  · intro id' cs' hc
    by_cases hid : id' = id
    · subst hid; rw [List.getElem?_set_self (List.getElem?_eq_some_iff.1 hs).1] at hc; cases hc
    · rw [List.getElem?_set_ne (Ne.symm hid)] at hc
      obtain ⟨b2, h1, h2⟩ := hr.glob.objs id' cs' hc
      have hne : b2 ≠ blk := by rintro rfl; have := h2.1; rw [ho] at this; cases this; exact hid rfl
      exact ⟨b2, h1, freeze_block hr.glob ho rfl hne (fun _ => rfl) h2⟩
  · intro t; exact (hr.tmps t).ext (g' := freezeG g blk vs) hle (List.prefix_refl _) (fun _ _ => rfl)
  · intro t sz es ht; exact freeze_tip ho rfl rfl (hr.tips t sz es ht)
  · intro b' cs' hc
    have h2 := hr.boxes b' cs' hc
    have hne : g.β b' ≠ blk := by intro heq; have := h2.1; rw [heq, ho] at this; cases this
    exact freeze_block hr.glob ho rfl hne (fun _ => rfl) h2
end
end Go.V

/- V16: the operations with an effect, third part: moves, loads with a right, comparisons with nil, append. -/
namespace Go.V
theorem row_of_chunks {I : Mem} {σ : List Nat} {b sz : Nat} (h0 : 0 < sz) : ∀ (m : Nat) {cs : List AV} {vs : List Value} (o' : Nat), scalAll cs = true → cs.length = m * sz → Reps I σ cs vs → (∀ j u, vs[j]? = some u → I b (o' + j) = some u) → Row I σ (chunk sz m cs) b o' sz ∧ (chunk sz m cs).length = m
  | 0, _, _, _, _, _, _, _ => ⟨.nil, rfl⟩
  | m + 1, cs, vs, o', hs, hl, hr, hI => by
    have hlen := hr.length
    have hm : (m + 1) * sz = m * sz + sz := by rw [Nat.add_mul, Nat.one_mul]
    have hsa := scalAll_iff hs
    have hmk : ∀ l : List AV, (∀ v ∈ l, scal v = true) → scalAll l = true := by
      intro l
      induction l with
      | nil => intro _; rfl
      | cons v r ih => intro h; unfold scalAll; rw [h v (by simp)]; exact ih fun u hu => h u (by simp [hu])
    obtain ⟨q1, q2⟩ := row_of_chunks h0 m (cs := cs.drop sz) (vs := vs.drop sz) (o' + sz) (hmk _ fun v hv => hsa v (List.mem_of_mem_drop hv)) (by simp; omega) (hr.drop sz) (by
      intro j u hj
      rw [List.getElem?_drop] at hj
      have := hI (sz + j) u hj
      rwa [← Nat.add_assoc] at this)
    refine ⟨?_, by simp [chunk, q2]⟩
    have hcells : ((bif sz == 1 then cs.headD .undef else .agg (cs.take sz)) : AV).cells = cs.take sz := by
      by_cases h1 : sz = 1
      · subst h1
        cases cs with
        | nil => simp at hl
        | cons v r =>
          have := hsa v (by simp)
          simp only [beq_self_eq_true, cond_true, List.headD_cons]
          cases v <;> first | rfl | cases this
      · have : (sz == 1) = false := by simpa using h1
        rw [this]; rfl
    refine .cons (by rw [hcells]; simp; omega) h0 (by rw [hcells]; exact hmk _ fun v hv => hsa v (List.mem_of_mem_take hv)) (.mk (by rw [hcells]; exact hr.take sz) fun j u hj => hI j u ?_) q1
    rw [List.getElem?_take] at hj
    split at hj
    · exact hj
    · cases hj
/-- The cells of a row. -/
theorem row_cells {I : Mem} {σ : List Nat} : ∀ {es : List AV} {b o' sz : Nat}, Row I σ es b o' sz → ∃ news : List Value, news.length = es.length * sz ∧ Reps I σ (es.flatMap AV.cells) news ∧ (∀ j u, news[j]? = some u → I b (o' + j) = some u) ∧ (∀ u ∈ news, u.oneCell' = true)
  | [], _, _, _, _ => ⟨[], by simp, .nil, by simp, by simp⟩
  | v :: es, b, o', sz, .cons h h0 hs k r => by
    obtain ⟨news, q1, q2, q3, q4⟩ := row_cells r
    cases k with
    | mk hc hI =>
      next cvs =>
      have hl := hc.length
      refine ⟨cvs ++ news, by rw [List.length_append, List.length_cons, q1, ← hl, h, Nat.add_mul]; omega, by rw [List.flatMap_cons]; exact hc.append q2, ?_, ?_⟩
      · intro j u hj
        by_cases hlt : j < cvs.length
        · rw [List.getElem?_append_left hlt] at hj; exact hI j u hj
        · rw [List.getElem?_append_right (by omega)] at hj
          have := q3 _ u hj
          rwa [show o' + sz + (j - cvs.length) = o' + j by omega] at this
      · intro u hu
        rcases List.mem_append.1 hu with hu | hu
        · exact hc.oneCell hs u hu
        · exact q4 u hu
theorem row_facts {I : Mem} {σ : List Nat} : ∀ {es : List AV} {b o' sz : Nat}, Row I σ es b o' sz → ∀ v ∈ es, v.cells.length = sz ∧ scalAll v.cells = true
  | _, _, _, _, .nil, v, hv => by cases hv
  | _, _, _, _, .cons h _ hs _ r, v, hv => by
    rcases List.mem_cons.1 hv with rfl | hv
    · exact ⟨h, hs⟩
    · exact row_facts r v hv

section
variable {P : Program} {C : Cf} {n : Nat} {B : Base} {g : G} {e : Env} {bx : Bx} {st : St} {a : Act} {w : World} {o : Oper} {K : Env → Bx → St → Prop}

theorem e_move (hC : Ok P C) (hr : Rel n B g e bx st a w) (hd : ∀ d, o.dst = some d → d < n) {x : Operand} (hop : o.op = .move x ∨ o.op = .assign x) (hv : veff P C o e bx st K) : EOk P n B K o a w := by
  have hX := hC.x
  have hrun : (execOp a.eval o).run P w = .ok (.value (a.eval x)) w := by rcases hop with hop | hop <;> simp [execOp, hop]
  have hx := rd_rep hr C o.type x
  have hv' : vmove C o.type x o.dst e bx st K := by
    unfold veff at hv
    rcases hop with hop | hop <;> rw [hop] at hv <;> exact hv
  clear hv
  unfold vmove at hv'
  split at hv'
  · exact hv'.elim
  · next d hdst =>
    have hdn := hd d hdst
    split at hv'
    · split at hv'
      · next b off hxv =>
        split at hv'
        · next cs hb =>
          obtain ⟨g', h1, h2, h3⟩ := hr.freezeBox hb
          rw [hxv] at hx
          have h4 := h1.put hdn (v := .ip (.agg (cs.map ut)) off) (cv := a.eval x) (.of (by rw [hx.2]; exact h3 off)) (by simp)
          rw [← hdst] at h4
          exact eff_value hrun hv' h4
        · exact hv'.elim
      · next sz id len hxv =>
        split at hv'
        · next cs hs =>
          have c1 := (hv'.ok rfl).a
          have c2 := (hv'.ok rfl).b
          have hK := hv'.next
          split at hK
          · next h0 =>
            have h0 : 0 < sz := Nat.le_of_ble_eq_true h0
            rw [hxv] at hx
            obtain ⟨g', blk, vs, h1, h2, h3, h4, h5⟩ := hr.freezeObj hs
            have hlen : cs.length = len * sz := by have := c1.is; exact_mod_cast this
            obtain ⟨q1, q2⟩ := row_of_chunks (I := g'.I) (σ := g'.σ) (b := blk) h0 len (cs := cs.map ut) (vs := vs) 0 (scalAll_uts c2.is) (by simpa using hlen) h4.uts (by intro j u hj; rw [Nat.zero_add]; exact h5 j u hj)
            have hch : C.x .chunks sz len (cs.map ut) = chunk sz len (cs.map ut) := by rw [hX]; simp [std]
            rw [hch] at hK
            have hev : a.eval x = .slice (some ⟨blk, 0, none⟩) len len := by
              generalize a.eval x = av at hx
              cases hx with
              | msl hid hc => rw [h2] at hid; cases hid; cases hc; rfl
            have h6 := h1.put hdn (v := .sl true sz (chunk sz len (cs.map ut))) (cv := a.eval x) (.of (by rw [hev]; exact .sl q1 q2.symm (Nat.le_refl _))) (fun sz' es' he => by
              cases he
              exact .inr ⟨blk, 0, len, by rw [hev, q2], .inl q2.symm⟩)
            rw [← hdst] at h6
            exact eff_value hrun hK h6
          · exact hK.elim
        · exact hv'.elim
      · exact hv'.elim
    · split at hv'
      · next t =>
        split at hv'
        · next hn =>
          obtain ⟨g', h1⟩ := hr.transfer (t := t) hdn hn
          rw [← hdst] at h1
          exact eff_value hrun hv' h1
        · exact hv'.elim
      · next v =>
        have h1 := hr.put hdn (v := ofVal C o.type v) (cv := v) (.of (ofVal_rep C _ v)) (fun sz es h => by
          rcases rd_tip hr C o.type (.const v) h with ⟨t, ht, _⟩ | ⟨_, h2⟩
          · cases ht
          · exact .inl ⟨none, h2⟩)
        rw [← hdst] at h1
        exact eff_value hrun hv' h1
      · exact hv'.elim

/-- The right of any one place goes over to another, once nothing there tells of it. -/
theorem Rel.reown' (h : Rel n B g e bx st a w) {l l' : Loc} (hl : l.isTip = true) (hl' : l'.isTip = true) (ht : ∀ t sz es, e t = .sl true sz es → Loc.tt t ≠ l)
    (hb : ∀ b cs (j sz : Nat) (es : List AV), bx b = some cs → cs[j]? = some (.sl true sz es) → Loc.bt b j ≠ l) (ho : ∀ id cs (j sz : Nat) (es : List AV), st[id]? = some (some cs) → cs[j]? = some (.sl true sz es) → Loc.ot id j ≠ l) : Rel n B (V.reown g l l') e bx st a w where
  glob := h.glob.reown hl hl' ho
  nt := h.nt
  defers := h.defers
  tmps u := (h.tmps u).ext (g' := V.reown g l l') (MemLe.refl _) (List.prefix_refl _) (fun _ _ => rfl)
  tips u sz es hu := (h.tips u sz es hu).reown_other (ht u sz es hu)
  boxes b cs hc := (h.boxes b cs hc).reown hl rfl (fun j sz es hj => hb b cs j sz es hc hj)
theorem reps_set {I : Mem} {σ : List Nat} : ∀ {cs : List AV} {vs : List Value} (off : Nat) {v : AV}, Reps I σ cs vs → (∀ cv, vs[off]? = some cv → Rep I σ v cv) → Reps I σ (cs.set off v) vs
  | _, _, _, _, .nil, _ => .nil
  | _, _, 0, _, .cons _ h, hv => .cons (hv _ rfl) h
  | _, _, off + 1, _, .cons h h', hv => .cons h (reps_set off h' (by simpa using hv))
theorem set_ut {cs : List AV} {off j sz : Nat} {es : List AV} (h : (cs.set off (ut (cs.getD off .undef)))[j]? = some (.sl true sz es)) : j ≠ off ∧ cs[j]? = some (.sl true sz es) := by
  rw [List.getElem?_set] at h
  split at h
  · next he =>
    split at h
    · exact absurd (Option.some.inj h) ut_not_tip
    · cases h
  · next he => exact ⟨fun hh => he hh.symm, h⟩
theorem reps_ut_at {I : Mem} {σ : List Nat} {cs : List AV} {vs : List Value} (h : Reps I σ cs vs) (off : Nat) : Reps I σ (cs.set off (ut (cs.getD off .undef))) vs := by
  by_cases hlt : off < cs.length
  · obtain ⟨cv, h1, h2⟩ := reps_getD h hlt
    exact reps_set off h (by intro cv' h'; rw [h1] at h'; cases h'; exact h2.ut)
  · rw [List.set_eq_of_length_le (by omega)]; exact h
theorem Rel.untipBox (h : Rel n B g e bx st a w) {b : Nat} {cs : List AV} (hb : bx b = some cs) (off : Nat) : Rel n B g e (upd bx b (some (cs.set off (ut (cs.getD off .undef))))) st a w where
  glob := h.glob
  nt := h.nt
  defers := h.defers
  tmps u := by
    have := h.tmps u
    cases hv : e u with
    | lp b' o' =>
      rw [hv] at this
      refine ⟨?_, this.2⟩
      by_cases hbb : b' = b
      · subst hbb; rw [upd_same]; rfl
      · rw [upd_other _ _ hbb]; exact this.1
    | _ => rw [hv] at this; exact this
  tips := h.tips
  boxes b' cs' hc := by
    by_cases hbb : b' = b
    · subst hbb
      rw [upd_same] at hc
      obtain rfl := Option.some.inj hc
      obtain ⟨h1, vs, ty, h2, h3, h4⟩ := h.boxes b' cs hb
      exact ⟨h1, vs, ty, h2, reps_ut_at h3 off, fun j sz es cv hj hcv => h4 j sz es cv (set_ut hj).2 hcv⟩
    · rw [upd_other _ _ hbb] at hc; exact h.boxes b' cs' hc
theorem Rel.untipObj (h : Rel n B g e bx st a w) {id : Nat} {cs : List AV} (hs : st[id]? = some (some cs)) (off : Nat) : Rel n B g e bx (st.set id (some (cs.set off (ut (cs.getD off .undef))))) a w where
  glob := { h.glob with
    objs := by
      intro id' cs' hc
      have hlt := (List.getElem?_eq_some_iff.1 hs).1
      by_cases hid : id' = id
      · subst hid
        rw [List.getElem?_set_self hlt] at hc
        obtain rfl := Option.some.inj (Option.some.inj hc)
        obtain ⟨blk, h0, h1, vs, ty, h2, h3, h4⟩ := h.glob.objs id' cs hs
        exact ⟨blk, h0, h1, vs, ty, h2, reps_ut_at h3 off, fun j sz es cv hj hcv => h4 j sz es cv (set_ut hj).2 hcv⟩
      · rw [List.getElem?_set_ne (Ne.symm hid)] at hc; exact h.glob.objs id' cs' hc
    len := by rw [List.length_set]; exact h.glob.len }
  nt := h.nt
  defers := h.defers
  tmps := h.tmps
  tips := h.tips
  boxes := h.boxes

theorem run_loadOne_of (hT : TIok P C.ti) {t : Nat} {x : Operand} (hop : o.op = .load t x) {i : TInfo} (hi : C.ti t = some i) (ha : i.agg = false) {b off : Nat} {vs : List Value} {ty : TypeId} (hw : w.heap[b]? = some (.cells ⟨vs⟩ ty (0, 0)))
    (hx : a.eval x = .pointer (some ⟨b, off, none⟩)) {cv : Value} (hcv : vs[off]? = some cv) : (execOp a.eval o).run P w = .ok (.value cv) w := by
  have h1 := one_of hT hi ha
  have hl := LiesAt.of_block hw off cv hcv
  rw [Nat.zero_add] at hl
  simp [execOp, hop, Instr.loadAt, hx, Instr.sureAddr, loadVar, run_isAgg_of hT hi, ha, hl]
theorem e_load (hC : Ok P C) (hr : Rel n B g e bx st a w) (hd : ∀ d, o.dst = some d → d < n) {t : Nat} {x : Operand} (hop : o.op = .load t x) (hv : veff P C o e bx st K) : EOk P n B K o a w := by
  unfold veff at hv
  rw [hop] at hv
  simp only at hv
  have hpx := rd_rep hr C 0 x
  split at hv
  · next d i b off hdst hi hx =>
    rw [hx] at hpx
    split at hv
    · next cs hb =>
      split at hv
      · next hle =>
        simp only [Bool.and_eq_true, Bool.not_eq_true'] at hle
        have hlt : off < cs.length := Nat.le_of_ble_eq_true hle.1
        obtain ⟨ho, vs, ty, hw, hreps, htips⟩ := hr.boxes b cs hb
        obtain ⟨cv, h1, h2⟩ := reps_getD hreps hlt
        have hrun := run_loadOne_of hC.ti hop hi hle.2 hw hpx.2 h1
        have hr1 := (hr.untipBox hb off).reown' (l := .bt b off) (l' := .tt d) rfl rfl (by simp) (by
          intro b' cs' j sz es hb' hj heq
          cases heq
          rw [upd_same] at hb'
          obtain rfl := Option.some.inj hb'
          exact (set_ut hj).1 rfl) (by simp)
        have hr2 := hr1.put (hd d hdst) (v := cs.getD off .undef) (cv := cv) (.of h2) (by
          intro sz es he
          exact (htips off sz es cv (by rw [← he]; simp [List.getD, List.getElem?_eq_getElem hlt]) h1).reown_to)
        rw [← hdst] at hr2
        exact eff_value hrun hv hr2
      · exact hv.elim
    · exact hv.elim
  · next d i id off hdst hi hx =>
    rw [hx] at hpx
    split at hv
    · next cs hs =>
      split at hv
      · next hle =>
        simp only [Bool.and_eq_true, Bool.not_eq_true'] at hle
        have hlt : off < cs.length := Nat.le_of_ble_eq_true hle.1
        obtain ⟨blk, hblk, ho, vs, ty, hw, hreps, htips⟩ := hr.glob.objs id cs hs
        obtain ⟨cv, h1, h2⟩ := reps_getD hreps hlt
        have hptr : a.eval x = .pointer (some ⟨blk, off, none⟩) := by
          generalize a.eval x = av at hpx
          cases hpx with
          | ref h => rw [hblk] at h; rw [Option.some.inj h]
        have hrun := run_loadOne_of hC.ti hop hi hle.2 hw hptr h1
        have hr1 := (hr.untipObj hs off).reown' (l := .ot id off) (l' := .tt d) rfl rfl (by simp) (by simp) (by
          intro id' cs' j sz es hb' hj heq
          cases heq
          rw [List.getElem?_set_self (List.getElem?_eq_some_iff.1 hs).1] at hb'
          obtain rfl := Option.some.inj (Option.some.inj hb')
          exact (set_ut hj).1 rfl)
        have hr2 := hr1.put (hd d hdst) (v := cs.getD off .undef) (cv := cv) (.of h2) (by
          intro sz es he
          exact (htips off sz es cv (by rw [← he]; simp [List.getD, List.getElem?_eq_getElem hlt]) h1).reown_to)
        rw [← hdst] at hr2
        exact eff_value hrun hv hr2
      · exact hv.elim
    · exact hv.elim
  · exact hv.elim
end
end Go.V

/- V17: the operations with an effect, last part: calls, comparisons with nil, append; all of them in one theorem. -/
namespace Go.V
section
variable {P : Program} {C : Cf} {n : Nat} {B : Base} {g : G} {e : Env} {bx : Bx} {st : St} {a : Act} {w : World} {o : Oper} {K : Env → Bx → St → Prop}

theorem e_enter (hr : Rel n B g e bx st a w) (hd : ∀ d, o.dst = some d → d < n) {f : Nat} {as : List AV} {cargs : List Value} {tr : Bool} (hreps : Reps g.I g.σ as cargs) (hv : VCalls P f as st fun r st' => K (updO e o.dst (bif tr then r else ut r)) bx st')
    (hrun : (execOp a.eval o).run P w = .ok (.enter f ⟨cargs⟩) w) : EOk P n B K o a w := by
  intro Q
  have h := call_ok hr hd hreps hv hrun tr Q
  refine Oper.wp_mono ?_ h
  rintro a' w' ⟨g', r, st', hK, hrel⟩
  exact ⟨g', _, _, _, hK, hrel⟩

theorem e_call (hr : Rel n B g e bx st a w) (hd : ∀ d, o.dst = some d → d < n) {c : Call} (hop : o.op = .call c) {f : Nat} (hc : c.callee = .value (.func f)) (hv : veff P C o e bx st K) : EOk P n B K o a w := by
  unfold veff at hv
  rw [hop] at hv
  simp only [hc] at hv
  split at hv
  · next hn =>
    exact e_enter hr hd (qargs_rep (C := C) hr c.args.toList c.argTypes.toList hn) hv (run_call_func hop hc hv.enter)
  · exact hv.elim
theorem Reps.two {I : Mem} {σ : List Nat} {xs ys zs : List AV} {us vs ws : List Value} (h : Reps I σ xs us) (k : Reps I σ ys vs) (l : Reps I σ zs ws) : Reps I σ (xs ++ ys ++ zs) (us ++ vs ++ ws) := (h.append k).append l
theorem e_callv (hr : Rel n B g e bx st a w) (hd : ∀ d, o.dst = some d → d < n) {c : Call} (hop : o.op = .call c) {t : Nat} (hc : c.callee = .value (.tmp t)) (hv : veff P C o e bx st K) : EOk P n B K o a w := by
  unfold veff at hv
  rw [hop] at hv
  simp only [hc] at hv
  split at hv
  · next f first cap he =>
    split at hv
    · next hn =>
      have hargs := qargs_rep (C := C) hr c.args.toList c.argTypes.toList hn
      have hf := hr.tmps t
      rw [he] at hf
      have hf : Rep g.I g.σ (.fn f first cap) (a.tmps.getD t undef) := hf
      have hev : a.eval (.tmp t) = a.tmps.getD t undef := rfl
      generalize a.tmps.getD t undef = av at hf hev
      cases hf with
      | @fn _ _ _ us vs h1 h2 =>
        refine e_enter hr hd (Reps.two h1 hargs h2) hv ?_
        have hm : c.args.map a.eval = ⟨c.args.toList.map a.eval⟩ := by apply Array.ext'; simp
        have := run_enter (P := P) (f := f) (args := ⟨us ++ c.args.toList.map a.eval ++ vs⟩) hv.enter w
        simp only [execOp, hop, resolve, hc, Sem.run_bind, hev, Deferred.ofValue, Sem.run_pure, Result.andThen_ok, invoke, hm]
        simpa using this
    · exact hv.elim
  · exact hv.elim

theorem run_eqIn_snil (d : Nat) {t el : Nat} (hu : P.underlying t = some (.slice el)) (q : Option Addr) (m c : Nat) : (Op.equalIn (d + 1) t (.slice q m c) (.slice none 0 0)).run P w = .ok q.isNone w := by
  rw [Op.equalIn, Sem.run_bind, run_underlying hu]; cases q <;> rfl
theorem run_eqIn_ssome (d : Nat) {t el : Nat} (hu : P.underlying t = some (.slice el)) (q : Addr) (m c m' c' : Nat) : (Op.equalIn (d + 1) t (.slice (some q) m c) (.slice none m' c')).run P w = .ok false w := by
  rw [Op.equalIn, Sem.run_bind, run_underlying hu]; rfl
theorem run_bin_slice {t : Nat} {q q' : Option Addr} {m c m' c' : Nat} {b : Bool} (h : (Op.equalIn (9999 + 1) t (.slice q m c) (.slice q' m' c')).run P w = .ok b w) : (binOp .eql t (.slice q m c) (.slice q' m' c')).run P w = .ok (.bool b) w := by
  have h' : (Op.equal t (.slice q m c) (.slice q' m' c')).run P w = .ok b w := by rw [equal_def]; exact h
  simp only [binOp, Sem.run_bind, h', Result.andThen_ok, Sem.run_pure]
/-- Comparison of a slice with nil. -/
theorem e_eqNil (hC : Ok P C) (hr : Rel n B g e bx st a w) (hd : ∀ d, o.dst = some d → d < n) {op : BinOp} {t ty : Nat} {x y : Operand} (hop : o.op = .binOp op t x y ty) (hv : veff P C o e bx st K) : EOk P n B K o a w := by
  unfold veff at hv
  rw [hop] at hv
  cases op <;> simp only at hv <;> first | exact hv.elim | skip
  split at hv
  · next el tip sz es hn hk hx =>
    have hu := kind_slice hC.ti hk
    have hy : a.eval y = .slice none 0 0 := by
      unfold nilSlice at hn
      split at hn
      · rfl
      · cases hn
    have hrep := (rd_rep hr C t x)
    rw [hx] at hrep
    have hrep : Rep g.I g.σ (.sl tip sz es) (a.eval x) := hrep
    have key : ∀ b : Bool, (execOp a.eval o).run P w = .ok (.value (.bool b)) w → K (updO e o.dst (.bool b)) bx st → EOk P n B K o a w := by
      intro b hrun hK
      refine eff_value (g' := g) hrun hK ?_
      cases hdst : o.dst with
      | none => exact hr
      | some d => exact hr.put (hd d hdst) (v := .bool b) (.of Rep.bool) (by simp)
    generalize hav : a.eval x = av at hrep
    cases hrep with
    | snil => exact key true (bin_run hop (by rw [hav, hy]; rfl) (by rw [hav, hy]; exact run_bin_slice (run_eqIn_snil 9999 hu none 0 0))) (hv.fst rfl)
    | spot => exact key false (bin_run hop (by rw [hav, hy]; rfl) (by rw [hav, hy]; exact run_bin_slice (run_eqIn_snil 9999 hu _ _ _))) hv.snd
    | @sl _ _ b o' m cap _ hrow hm hc => exact key false (bin_run hop (by rw [hav, hy]; rfl) (by rw [hav, hy]; exact run_bin_slice (run_eqIn_ssome 9999 hu _ _ _ 0 0))) hv.snd
  · exact hv.elim
end
end Go.V

/- V18: append, and all operations with an effect in one theorem. -/
namespace Go.V
section
variable {P : Program} {C : Cf} {n : Nat} {B : Base} {g : G} {e : Env} {bx : Bx} {st : St} {a : Act} {w : World} {o : Oper} {K : Env → Bx → St → Prop}

theorem run_append_none (w : World) (t tx ty el : TypeId) (i : TypeInfo) (ht : P.underlying t = some (.slice el)) (hi : P.info? el = some i) (base : Option Addr) (sLen sCap : Nat) (x : Value) (hs : Src P i.size tx x 0 [] w) (hroom : sLen ≤ sCap) :
    (Builtin.append_ #[t, tx] ty #[.slice base sLen sCap, x]).run P w = .ok (.slice base sLen sCap) w := by
  rcases hs.kind with ⟨e', hk⟩ | hk <;> cases base <;> simp [Builtin.append_, run_underlying ht, run_underlying hk, sizeOf, typeInfo, hi, hs.len, hroom, hs.cells, storeCells]
theorem run_append_in (w : World) (t tx ty el : TypeId) (i : TypeInfo) (ht : P.underlying t = some (.slice el)) (hi : P.info? el = some i) (b off sLen sCap : Nat) (x : Value) (m : Nat) (news : List Value) (hs : Src P i.size tx x m news w) (hroom : sLen + m ≤ sCap)
    {vs : List Value} {bt : TypeId} (hw : w.heap[b]? = some (.cells ⟨vs⟩ bt (0, 0))) (hfit : off + sLen * i.size + news.length ≤ vs.length) :
    (Builtin.append_ #[t, tx] ty #[.slice (some ⟨b, off, none⟩) sLen sCap, x]).run P w =
      .ok (.slice (some ⟨b, off, none⟩) (sLen + m) sCap) (w.setRow b ⟨vs.take (off + sLen * i.size) ++ news ++ vs.drop (off + sLen * i.size + news.length)⟩) := by
  have hst := run_storeCells_at P b (off + sLen * i.size) bt news 0 ⟨vs⟩ w hw (by simpa using hfit) hs.one
  simp only [Nat.add_zero] at hst
  rcases hs.kind with ⟨e', hk⟩ | hk <;> simp [Builtin.append_, run_underlying ht, run_underlying hk, sizeOf, typeInfo, hi, hs.len, hroom, hs.cells, Addr.add_lit, hst]

/-- What is appended. -/
structure AppSrc (P : Program) (g : G) (sz : Nat) (tx : Nat) (cv : Value) (fs : List AV) (w : World) : Prop where
  ex : ∃ news : List Value, Src P sz tx cv fs.length news w ∧ Reps g.I g.σ (fs.flatMap AV.cells) news
  sz : ∀ v ∈ fs, v.cells.length = sz ∧ scalAll v.cells = true
theorem appSrc (hX : C.x = std) (hT : TIok P C.ti) (hr : Rel n B g e bx st a w) {tx sz : Nat} {y : Operand} (hok : appOk (C.kind tx) sz (rd C tx e y) = true) : AppSrc P g sz tx (a.eval y) (appEls C.x (rd C tx e y)) w ∧ appLen C.x (rd C tx e y) = ((appEls C.x (rd C tx e y)).length : Int) := by
  have hrep := rd_rep hr C tx y
  unfold appOk at hok
  split at hok
  · next el hk =>
    have hu := kind_slice hT hk
    split at hok
    · next tip s fs hv =>
      have hsz := Nat.eq_of_beq_eq_true hok
      subst hsz
      rw [hv] at hrep ⊢
      have hrep : Rep g.I g.σ (.sl tip s fs) (a.eval y) := hrep
      refine ⟨?_, by rw [hX]; rfl⟩
      show AppSrc P g s tx (a.eval y) fs w
      generalize a.eval y = av at hrep
      cases hrep with
      | snil => exact ⟨⟨[], Src.ofNil w hu 0, .nil⟩, fun v hv => by cases hv⟩
      | spot => exact ⟨⟨[], Src.ofSlice w hu _ 0 0 [] (by simp) (fun j u hj => by cases hj) (fun u hu => by cases hu), .nil⟩, fun v hv => by cases hv⟩
      | @sl _ _ b o' m cap _ hrow hm hc =>
        subst hm
        obtain ⟨news, q1, q2, q3, q4⟩ := row_cells hrow
        refine ⟨⟨news, Src.ofSlice w hu _ _ _ _ q1 (fun j u hj => ?_) q4, q2⟩, row_facts hrow⟩
        rw [addr_add]
        exact hr.glob.imm _ _ _ (q3 j u hj)
    · cases hok
  · next hk =>
    have hu := kind_str hT hk
    split at hok
    · next s hv =>
      have hsz := Nat.eq_of_beq_eq_true hok
      subst hsz
      rw [hv] at hrep ⊢
      have hrep : Rep g.I g.σ (.str s) (a.eval y) := hrep
      rw [rep_str hrep]
      refine ⟨?_, by rw [hX]; simp [appLen, appEls, std]⟩
      rw [hX]
      show AppSrc P g 1 tx _ (s.map u8) w
      refine ⟨⟨byteCells ⟨⟨s⟩⟩, ?_, u8s_reps s⟩, ?_⟩
      · have := Src.ofString (P := P) w hu ⟨⟨s⟩⟩
        rw [List.length_map]
        exact this
      · intro v hv
        obtain ⟨c, _, rfl⟩ := List.mem_map.1 hv
        exact ⟨rfl, rfl⟩
    · cases hok
  · cases hok

/-- Cells behind what is told of a block. -/
def extI (I : Mem) (b k : Nat) (news : List Value) : Mem := fun b' o' => if b' = b ∧ k ≤ o' then news[o' - k]? else I b' o'
theorem Rel.extend (hr : Rel n B g e bx st a w) {b k : Nat} {L : Loc} {vs news : List Value} {ty : TypeId} (ho : g.own b = some L) (hL : L.isTip = true) (hw : w.heap[b]? = some (.cells ⟨vs⟩ ty (0, 0))) (hk : k + news.length ≤ vs.length) (hI : ∀ o', g.I b o' ≠ none → o' < k)
    (ht : ∀ t sz es, e t = .sl true sz es → Loc.tt t ≠ L) (hb : ∀ b' cs (j sz : Nat) (es : List AV), bx b' = some cs → cs[j]? = some (.sl true sz es) → Loc.bt b' j ≠ L) (hob : ∀ id cs (j sz : Nat) (es : List AV), st[id]? = some (some cs) → cs[j]? = some (.sl true sz es) → Loc.ot id j ≠ L) :
    Rel n B { g with I := extI g.I b k news } e bx st a (w.setRow b ⟨vs.take k ++ news ++ vs.drop (k + news.length)⟩) := by
  have hle : MemLe g.I (extI g.I b k news) := by
    intro b' o' v hv
    simp only [extI]
    rw [if_neg]
    · exact hv
    · rintro ⟨rfl, h⟩
      have := hI o' (by rw [hv]; simp)
      omega
  have hnew : ∀ o', extI g.I b k news b o' ≠ none → o' < k + news.length := by
    intro o' h
    simp only [extI] at h
    split at h
    · next hh =>
      rcases Nat.lt_or_ge (o' - k) news.length with h1 | h1
      · omega
      · rw [List.getElem?_eq_none h1] at h; exact absurd rfl h
    · have := hI o' h; omega
  have htip : ∀ {l : Loc} {sz : Nat} {es : List AV} {cv : Value}, l ≠ L → TipAt g w l sz es cv → TipAt { g with I := extI g.I b k news } (w.setRow b ⟨vs.take k ++ news ++ vs.drop (k + news.length)⟩) l sz es cv := by
    intro l sz es cv hl h
    rcases h with h | ⟨b', o', cap, rfl, h⟩
    · exact .inl h
    refine .inr ⟨b', o', cap, rfl, ?_⟩
    rcases h with h | ⟨h1, ⟨us, ty', h2, h3⟩, h4⟩
    · exact .inl h
    have hne : b' ≠ b := by rintro rfl; rw [ho] at h1; exact hl (Option.some.inj h1).symm
    refine .inr ⟨h1, ⟨us, ty', by rw [setRow_other _ _ _ _ hne]; exact h2, h3⟩, fun o2 h => h4 o2 ?_⟩
    simpa [extI, hne] using h
  have hblk : ∀ {l : Loc} {lt : Nat → Loc} {blk : Nat} {cs : List AV}, l.isTip = false → (∀ (j sz : Nat) (es : List AV), cs[j]? = some (.sl true sz es) → lt j ≠ L) → BlockRep g w l lt blk cs → BlockRep { g with I := extI g.I b k news } (w.setRow b ⟨vs.take k ++ news ++ vs.drop (k + news.length)⟩) l lt blk cs := by
    intro l lt blk cs hl hlt h
    obtain ⟨h1, us, ty', h2, h3, h4⟩ := h
    have hne : blk ≠ b := by rintro rfl; rw [ho] at h1; cases h1; rw [hL] at hl; cases hl
    exact ⟨h1, us, ty', by rw [setRow_other _ _ _ _ hne]; exact h2, h3.mono hle (List.prefix_refl _), fun j sz es cv hj hc => htip (hlt j sz es hj) (h4 j sz es cv hj hc)⟩
  have hG := hr.glob
  refine ⟨⟨hG.hI.trans hle, hG.hσ, ?_, by simpa using hG.size, hG.os, hG.tape, hG.output, ?_, ?_, ?_, ?_, ?_, hG.len⟩, hr.nt, hr.defers, ?_, ?_, ?_⟩
  · intro b' hf
    obtain ⟨h1, h2, h3⟩ := hG.fr b' hf
    have hne : b' ≠ b := by rintro rfl; rw [ho] at h3; cases h3
    exact ⟨by rw [setRow_other _ _ _ _ hne]; exact h1, h2, h3⟩
  · intro b' o' v hv
    by_cases hne : b' = b
    · subst hne
      have hv : (if b' = b' ∧ k ≤ o' then news[o' - k]? else g.I b' o') = some v := hv
      have hcell : (w.setRow b' ⟨vs.take k ++ news ++ vs.drop (k + news.length)⟩).heap[b']? = some (.cells ⟨vs.take k ++ news ++ vs.drop (k + news.length)⟩ ty (0, 0)) := setRow_heap w _ _ _ ty _ hw
      have hl := LiesAt.of_block hcell o' v
      rw [Nat.zero_add] at hl
      apply hl
      rw [splice_get hk]
      by_cases hko : k ≤ o'
      · rw [if_pos ⟨rfl, hko⟩] at hv
        rw [if_neg (by omega)]
        have hlt := (List.getElem?_eq_some_iff.1 hv).1
        rw [if_pos (by omega)]
        exact hv
      · rw [if_neg (fun h => hko h.2)] at hv
        rw [if_pos (by omega)]
        have := hG.imm _ _ _ hv
        simpa [World.cell?, hw] using this
    · rw [World.cell?_of_block (w := w) (setRow_other _ _ _ _ hne)]
      refine hG.imm b' o' v ?_
      simpa [extI, hne] using hv
  · intro b' o' l hv hl
    by_cases hne : b' = b
    · subst hne
      have hl : g.own b' = some l := hl
      rw [ho] at hl
      obtain rfl := Option.some.inj hl
      exact hL
    · refine hG.immOwn b' o' l ?_ hl
      simpa [extI, hne] using hv
  · intro b' l hl; simpa using hG.ownlt b' l hl
  · intro b' o' hv hB hf
    by_cases hne : b' = b
    · subst hne
      have h3 := (hG.fr b' hf).2.2
      rw [ho] at h3; cases h3
    · refine hG.newI b' o' ?_ hB hf
      simpa [extI, hne] using hv
  · intro id cs hc
    obtain ⟨blk, h1, h2⟩ := hG.objs id cs hc
    exact ⟨blk, h1, hblk rfl (fun j sz es hj => hob id cs j sz es hc hj) h2⟩
  · intro t; exact (hr.tmps t).ext (g' := { g with I := extI g.I b k news }) hle (List.prefix_refl _) (fun _ _ => rfl)
  · intro t sz es h; exact htip (ht t sz es h) (hr.tips t sz es h)
  · intro b' cs hc; exact hblk rfl (fun j sz es hj => hb b' cs j sz es hc hj) (hr.boxes b' cs hc)

/-- A new block, of which the first cells are told of, and behind which may be appended. -/
theorem Rel.newTip (hr : Rel n B g e bx st a w) {d sz cap : Nat} (hd : d < n) {vs rest : List Value} {es : List AV} {el : Nat} (h0 : 0 < sz) (hsz : ∀ v ∈ es, v.cells.length = sz ∧ scalAll v.cells = true) (hreps : Reps g.I g.σ (es.flatMap AV.cells) vs) (hl : vs.length = es.length * sz)
    (hcap : es.length ≤ cap) (hrest : cap * sz ≤ vs.length + rest.length) : ∃ g', Rel n B g' (upd e d (.sl true sz es)) bx st (a.put (some d) (.slice (some ⟨w.heap.size, 0, none⟩) es.length cap)) (w.drew.alloc (.cells ⟨vs ++ rest⟩ el)) := by
  have hr0 : Rel n B g e bx st a w.drew := hr.drew
  have hext := Ext.alloc w.drew (.cells ⟨vs ++ rest⟩ el)
  have hhs : w.drew.heap.size = w.heap.size := rfl
  have hblock : (w.drew.alloc (.cells ⟨vs ++ rest⟩ el)).heap[w.heap.size]? = some (.cells ⟨vs ++ rest⟩ el (0, 0)) := heap_alloc_at w.drew _
  have hlies : LiesAt (w.drew.alloc (.cells ⟨vs ++ rest⟩ el)) w.drew.heap.size 0 vs := by
    intro j v hj
    refine LiesAt.of_block hblock j v ?_
    rw [List.getElem?_append_left (List.getElem?_eq_some_iff.1 hj).1]; exact hj
  have hg := GExt.addBlock hr0.glob hext hlies (.inl (by simp))
  have hg' : GExt g { g with I := addBlock g.I w.heap.size vs, own := upd g.own w.heap.size (some (.tt d)) } w.drew (w.drew.alloc (.cells ⟨vs ++ rest⟩ el)) := {
    I := hg.I
    own := fun b hb => upd_other _ _ (by rw [hhs] at hb; omega)
    new := hg.new
    imm := hg.imm
    immOwn := by
      intro b o' l hb hv hl
      by_cases hbe : b = w.heap.size
      · subst hbe
        have : (some (Loc.tt d)) = some l := by rw [← hl]; exact (upd_same _ _ _).symm
        cases this; rfl
      · refine hg.immOwn b o' l hb hv ?_
        rw [← hl]; exact (upd_other _ _ hbe).symm
    ownlt := by
      intro b l hb hl
      by_cases hbe : b = w.heap.size
      · subst hbe; show w.heap.size < (w.heap.push _).size; simp
      · refine hg.ownlt b l hb ?_
        rw [← hl]; exact (upd_other _ _ hbe).symm }
  have hr' := hr0.ext hext hg' rfl rfl
  refine ⟨_, hr'.put hd ?_ ?_⟩
  · refine RepT.of (Rep.sl (row_of_cells 0 h0 hsz (hreps.mono (addBlock_le hr.glob vs) (List.prefix_refl _)) ?_) rfl hcap)
    intro j u hj
    simp only [V.addBlock, if_true, Nat.zero_add]; exact hj
  · intro sz' es' h
    simp only [AV.sl.injEq, true_and] at h
    obtain ⟨rfl, rfl⟩ := h
    refine .inr ⟨_, _, _, rfl, .inr ⟨upd_same _ _ _, ⟨_, _, hblock, by simp; omega⟩, ?_⟩⟩
    intro o' h
    simp only [V.addBlock, if_true] at h
    rcases Nat.lt_or_ge o' vs.length with h1 | h1
    · omega
    · rw [List.getElem?_eq_none h1] at h; exact absurd rfl h
end
end Go.V

/- V19: append at the machine; all operations with an effect in one theorem. -/
namespace Go.V
section
variable {P : Program} {C : Cf} {n : Nat} {B : Base} {g : G} {e : Env} {bx : Bx} {st : St} {a : Act} {w : World} {o : Oper} {K : Env → Bx → St → Prop}

theorem zeroCells_length (z : Array Value) (m : Nat) : (Builtin.zeroCells z m).toList.length = m * z.size := by unfold Builtin.zeroCells; rw [Array.toList_map, List.length_map, Array.toList_range, List.length_range]
theorem run_append_new (w : World) (t tx ty el : TypeId) (i : TypeInfo) (z : Value) (ht : P.underlying t = some (.slice el)) (hi : P.info? el = some i) (hz : i.zero = some z) (base : Option Addr) (sLen sCap : Nat) (olds : List Value)
    (hold : (Builtin.firstCells i.size sLen (.slice base sLen sCap)).run P w.drew = .ok olds.toArray w.drew) (x : Value) (m : Nat) (news : List Value) (hs : Src P i.size tx x m news w)
    (hg : sCap < sLen + m) (h0 : 0 < i.bytes) (hb : ((sLen : Int) + m) * i.bytes ≤ 140737488355328) (hzs : z.cells.size = i.size) (hol : olds.length = sLen * i.size) :
    ∃ cap rest, sLen + m ≤ cap ∧ cap * i.size ≤ (olds ++ news).length + rest.length ∧ (Builtin.append_ #[t, tx] ty #[.slice base sLen sCap, x]).run P w =
      .ok (.slice (some ⟨w.heap.size, 0, none⟩) (sLen + m) cap) (w.drew.alloc (.cells ⟨olds ++ news ++ rest⟩ el)) := by
  have he : (((sLen + m) * i.bytes : Nat) : Int) = ((sLen : Int) + m) * i.bytes := by rw [Int.natCast_mul, Int.natCast_add]
  have hb' : (sLen + m) * i.bytes ≤ 140737488355328 := by rw [← he] at hb; omega
  have h63 : ((sLen + m : Nat) : Int) ≤ 9223372036854775807 := by
    have : sLen + m ≤ (sLen + m) * i.bytes := Nat.le_mul_of_pos_right _ h0
    omega
  refine ⟨grownCap w (sLen + m) sCap el, (Builtin.zeroCells z.cells (grownCap w (sLen + m) sCap el - (sLen + m))).toList, grownCap_ge w _ _ _, ?_, ?_⟩
  · have := grownCap_ge w (sLen + m) sCap el
    rw [zeroCells_length, hzs, List.length_append, hol, hs.newsLen, ← Nat.add_mul, ← Nat.add_mul]
    exact Nat.mul_le_mul_right _ (by omega)
  · rw [run_append_grow_src (P := P) w t tx ty el i z ht hi hz base sLen sCap olds hold x m news hs hg h63 (growslice_fits hg hb')]
    congr 3
    congr 1
    apply Array.ext'
    simp

theorem flatMap_append' (es fs : List AV) : (es ++ fs).flatMap AV.cells = es.flatMap AV.cells ++ fs.flatMap AV.cells := by simp
theorem e_append (hC : Ok P C) (hr : Rel n B g e bx st a w) (hd : ∀ d, o.dst = some d → d < n) {c : Call} (hop : o.op = .call c) (hc : c.callee = .builtin .append) (hv : veff P C o e bx st K) : EOk P n B K o a w := by
  have hX := hC.x
  unfold veff at hv
  rw [hop] at hv
  simp only [hc] at hv
  split at hv
  · next x y sT tx d ha hts hdst =>
    have hdn := hd d hdst
    split at hv
    · next el sz es hk hx =>
      split at hv
      · next hb =>
        simp only [Bool.and_eq_true] at hb
        obtain ⟨⟨hok, hes⟩, hbytes⟩ := hb
        have hbytes : 0 < C.bytes el := Nat.le_of_ble_eq_true hbytes
        obtain ⟨hsze, h0⟩ := eqSz_eq hes
        have h0 : 0 < C.sz el := by omega
        subst hsze
        have hu := kind_slice hC.ti hk
        obtain ⟨i, hi, hsi⟩ := sz_of (C := C) (t := el) (by omega)
        obtain ⟨f, zv, hf, f1, f2, f3, f4, f5, f6⟩ := info_all hC.ti hi
        have hfs : f.size = C.sz el := by rw [f1, hsi]
        have hfb : f.bytes = C.bytes el := by rw [f2]; unfold Cf.bytes; rw [hi]
        have hroom := (hv.ok rfl).room
        have hK := hv.next
        obtain ⟨⟨⟨news, hsrc, hnews⟩, hfsz⟩, hlen⟩ := appSrc (C := C) hX hC.ti hr hok
        rw [hlen] at hroom
        have happ : C.x .app es (appEls C.x (rd C tx e y)) = es ++ appEls C.x (rd C tx e y) := by rw [hX]; rfl
        have hxl : C.x .len es = (es.length : Int) := by rw [hX]; rfl
        rw [happ] at hK
        rw [hxl] at hroom
        generalize appEls C.x (rd C tx e y) = fs at *
        have hrun0 : ∀ cv w', (Builtin.append_ #[sT, tx] o.type #[a.eval x, a.eval y]).run P w = .ok cv w' → (execOp a.eval o).run P w = .ok (.value cv) w' := by
          intro cv w' h
          have ha' : c.args = #[x, y] := by apply Array.ext'; simpa using ha
          have ht' : c.argTypes = #[sT, tx] := by apply Array.ext'; simpa using hts
          simp [execOp, hop, resolve, hc, ha', ht', invoke, builtin, h]
        -- what stands where a right was
        have hr1 : Rel n B g (utAt e (tmpOf x)) bx st a w := by
          cases x <;> first | exact hr.untip _ | exact hr
        have grow : ∀ (base : Option Addr) (sCap : Nat) (olds : List Value), a.eval x = .slice base es.length sCap → sCap < es.length + fs.length → (Builtin.firstCells f.size es.length (.slice base es.length sCap)).run P w.drew = .ok olds.toArray w.drew →
            Reps g.I g.σ (es.flatMap AV.cells) olds → olds.length = es.length * C.sz el → (∀ v ∈ es, v.cells.length = C.sz el ∧ scalAll v.cells = true) → EOk P n B K o a w := by
          intro base sCap olds hax hlt hold hreps hol hesz
          obtain ⟨cap, rest, q1, q2, q3⟩ := run_append_new (P := P) w sT tx o.type el f zv hu hf f3 base es.length sCap olds hold (a.eval y) fs.length news (by rw [hfs]; exact hsrc) hlt (by omega) (by rw [hfb]; exact hroom) (by rw [f5, f1]) (by rw [hfs]; exact hol)
          rw [← hax] at q3
          obtain ⟨g', hr2⟩ := hr1.newTip (d := d) (sz := C.sz el) (cap := cap) hdn (vs := olds ++ news) (rest := rest) (es := es ++ fs) (el := el) h0 (by
            intro v hv
            rcases List.mem_append.1 hv with hv | hv
            · exact hesz v hv
            · exact hfsz v hv) (by rw [flatMap_append']; exact hreps.append hnews) (by rw [List.length_append, List.length_append, hol, hsrc.newsLen, Nat.add_mul]) (by simpa using q1) (by rw [hfs] at q2; exact q2)
          rw [List.length_append] at hr2
          rw [← hdst] at hr2
          exact eff_value (hrun0 _ _ q3) hK hr2
        have hnil : ∀ q, a.eval x = .slice q 0 0 → Rep g.I g.σ (.sl true (C.sz el) []) (a.eval x) → es = [] → EOk P n B K o a w := by
          intro q hax hrx hes
          subst hes
          rcases Nat.eq_zero_or_pos fs.length with hm | hm
          · have hfs0 : fs = [] := List.length_eq_zero_iff.1 hm
            subst hfs0
            have hn0 : news = [] := by have := hsrc.newsLen; simpa using this
            subst hn0
            have hrun := run_append_none (P := P) w sT tx o.type el f hu hf q 0 0 (a.eval y) (by rw [hfs]; exact hsrc) (Nat.le_refl _)
            rw [← hax] at hrun
            have hr2 := hr1.put hdn (v := .sl true (C.sz el) ([] ++ [])) (cv := a.eval x) (.of (by simpa using hrx)) (fun _ _ _ => .inl ⟨q, hax⟩)
            rw [← hdst] at hr2
            exact eff_value (hrun0 _ _ hrun) hK hr2
          · refine grow q 0 [] hax (by simpa using hm) (by
              cases q with
              | none => simp [Builtin.firstCells]
              | some q => exact run_firstCells_some w.drew f.size 0 q 0 0 [] (by simp) (fun j u hj => by cases hj)) .nil (by simp) (by simp)
        cases x with
        | func f => cases hx
        | global gl => cases hx
        | const v =>
          rcases rd_tip hr C sT (.const v) hx with ⟨t, ht, _⟩ | ⟨h1, h2⟩
          · cases ht
          · exact hnil none h2 (by rw [h2]; exact Rep.snil) h1
        | tmp t =>
          have het : e t = .sl true (C.sz el) es := hx
          have htip := hr.tips t _ _ het
          have hrep := hr.tmps t
          rw [het] at hrep
          have hrep : Rep g.I g.σ (.sl true (C.sz el) es) (a.tmps.getD t undef) := hrep
          have hax : a.eval (.tmp t) = a.tmps.getD t undef := rfl
          rcases htip with ⟨q, htip⟩ | ⟨b, o', cap, hcv, htip⟩
          · have hes : es = [] := by
              rw [htip] at hrep
              cases hrep with
              | snil => rfl
              | spot => rfl
              | sl _ h _ => exact List.length_eq_zero_iff.1 h.symm
            subst hes
            exact hnil q (hax.trans htip) (by rw [hax]; exact hrep) rfl
          · rw [hcv] at hrep
            obtain ⟨hrow, hcap⟩ : Row g.I g.σ es b o' (C.sz el) ∧ es.length ≤ cap := by
              cases hrep with
              | sl h _ h' => exact ⟨h, h'⟩
            obtain ⟨olds, p1, p2, p3, p4⟩ := row_cells hrow
            have hax' := hax.trans hcv
            rcases Nat.eq_zero_or_pos fs.length with hm | hm
            · have hfs0 : fs = [] := List.length_eq_zero_iff.1 hm
              subst hfs0
              have hn0 : news = [] := by have := hsrc.newsLen; simpa using this
              subst hn0
              have hrun := run_append_none (P := P) w sT tx o.type el f hu hf (some ⟨b, o', none⟩) es.length cap (a.eval y) (by rw [hfs]; exact hsrc) hcap
              rw [← hax'] at hrun
              obtain ⟨g', hr2⟩ := hr.transfer (t := t) (d := d) hdn (by rw [het]; rfl)
              rw [← hdst] at hr2
              rw [List.append_nil] at hK
              have : upd (upd e t (ut (e t))) d (e t) = upd (utAt e (tmpOf (.tmp t))) d (.sl true (C.sz el) es) := by
                show upd (upd e t (ut (e t))) d (e t) = upd (upd e t (ut (e t))) d _
                rw [het]
              rw [hdst] at hr2
              rw [this] at hr2
              rw [← hdst] at hr2
              exact eff_value (hrun0 _ _ hrun) hK hr2
            · rcases Nat.lt_or_ge cap (es.length + fs.length) with hlt | hge
              · refine grow (some ⟨b, o', none⟩) cap olds hax' hlt ?_ p2 p1 (row_facts hrow)
                rw [hfs]
                refine run_firstCells_some w.drew (C.sz el) es.length ⟨b, o', none⟩ es.length cap olds p1 ?_
                intro j u hj
                rw [addr_add]
                have := hr.glob.imm _ _ _ (p3 j u hj)
                simpa using this
              · rcases htip with htip | ⟨ho, ⟨vs, bt, hw, hfit⟩, hbnd⟩
                · omega
                · have hmul : (es.length + fs.length) * C.sz el ≤ cap * C.sz el := Nat.mul_le_mul_right _ hge
                  rw [Nat.add_mul] at hmul
                  have hnl := hsrc.newsLen
                  have hfit' : o' + es.length * C.sz el + news.length ≤ vs.size := by omega
                  have hrun := run_append_in (P := P) w sT tx o.type el f hu hf b o' es.length cap (a.eval y) fs.length news (by rw [hfs]; exact hsrc) hge (vs := vs.toList) (bt := bt) hw (by rw [hfs]; exact hfit')
                  rw [← hax'] at hrun
                  have hr2 := (hr.untip t).extend (b := b) (k := o' + es.length * C.sz el) (L := .tt t) (vs := vs.toList) (news := news) (ty := bt) ho rfl hw (by simpa using hfit') hbnd (by
                    intro t' sz' es' h heq
                    cases heq
                    rw [upd_same] at h
                    exact ut_not_tip h) (by simp) (by simp)
                  have hle : MemLe g.I (extI g.I b (o' + es.length * C.sz el) news) := by
                    intro b2 o2 v hv
                    simp only [extI]
                    rw [if_neg]
                    · exact hv
                    · rintro ⟨rfl, h⟩
                      have := hbnd o2 (by rw [hv]; simp)
                      omega
                  have hr3 := hr2.reown' (l := .tt t) (l' := .tt d) rfl rfl (by
                    intro t' sz' es' h heq
                    cases heq
                    rw [upd_same] at h
                    exact ut_not_tip h) (by simp) (by simp)
                  have hr4 := hr3.put hdn (v := .sl true (C.sz el) (es ++ fs)) (cv := .slice (some ⟨b, o', none⟩) (es.length + fs.length) cap) (.of (Rep.sl (row_of_cells (vs := olds ++ news) o' h0 (by
                    intro v hv
                    rcases List.mem_append.1 hv with hv | hv
                    · exact row_facts hrow v hv
                    · exact hfsz v hv) (by rw [flatMap_append']; exact (p2.append hnews).mono hle (List.prefix_refl _)) (by
                      intro j u hj
                      by_cases hlt : j < olds.length
                      · rw [List.getElem?_append_left hlt] at hj
                        exact hle _ _ _ (p3 j u hj)
                      · rw [List.getElem?_append_right (by omega)] at hj
                        show extI g.I b (o' + es.length * C.sz el) news b (o' + j) = some u
                        simp only [extI]
                        rw [if_pos ⟨trivial, by omega⟩]
                        rw [show o' + j - (o' + es.length * C.sz el) = j - olds.length by omega]
                        exact hj)) (by simp) hge)) (by
                    intro sz' es' h
                    simp only [AV.sl.injEq, true_and] at h
                    obtain ⟨rfl, rfl⟩ := h
                    refine .inr ⟨b, o', cap, by simp, .inr ⟨by simp [V.reown, ho], ⟨_, bt, setRow_heap w _ _ _ bt _ hw, ?_⟩, ?_⟩⟩
                    · have : (vs.toList.take (o' + es.length * C.sz el) ++ news ++ vs.toList.drop (o' + es.length * C.sz el + news.length)).length = vs.size := by simp; omega
                      show o' + cap * C.sz el ≤ (vs.toList.take (o' + es.length * C.sz el) ++ news ++ vs.toList.drop (o' + es.length * C.sz el + news.length)).length
                      omega
                    · intro o2 h
                      have h : extI g.I b (o' + es.length * C.sz el) news b o2 ≠ none := h
                      rw [List.length_append, Nat.add_mul]
                      by_cases hko : o' + es.length * C.sz el ≤ o2
                      · simp only [extI] at h
                        rw [if_pos ⟨trivial, hko⟩] at h
                        rcases Nat.lt_or_ge (o2 - (o' + es.length * C.sz el)) news.length with h1 | h1
                        · omega
                        · rw [List.getElem?_eq_none h1] at h; exact absurd rfl h
                      · omega)
                  rw [hfs] at hrun
                  rw [← hdst] at hr4
                  have hr5 := hr4
                  exact eff_value (hrun0 _ _ hrun) hK hr5
      · exact hv.elim
    · exact hv.elim
  · exact hv.elim

/-- EVERY OPERATION WITH AN EFFECT. -/
theorem eff_sound (hC : Ok P C) (hr : Rel n B g e bx st a w) (hd : ∀ d, o.dst = some d → d < n) (hv : veff P C o e bx st K) : EOk P n B K o a w := by
  have hv0 := hv
  unfold veff at hv0
  cases hop : o.op <;> rw [hop] at hv0 <;> simp only at hv0 <;> first | (exact hv0.elim; done) | skip
  case store t x y => exact e_store hC hr hop hv
  case alloc t => exact e_alloc hC hr hd hop hv
  case box t x => exact e_box hr hd hop hv
  case makeSlice t l c => exact e_makeSlice hC hr hd hop hv
  case move x => exact e_move hC hr hd (.inl hop) hv
  case assign x => exact e_move hC hr hd (.inr hop) hv
  case load t x => exact e_load hC hr hd hop hv
  case binOp op t x y ty => exact e_eqNil hC hr hd hop hv
  case call c =>
    split at hv0
    · next hc => exact e_append hC hr hd hop hc hv
    · next f hc => exact e_call hr hd hop hc hv
    · next t hc => exact e_callv hr hd hop hc hv
    · exact hv0.elim
end
end Go.V

/- V20: what an operation reads; operations beside a change of what they do not read. No program in sight. -/
namespace Go.V

/-- Some places are given other values. -/
def ov {α : Type} (δ : Nat → Option α) (e : Nat → α) : Nat → α := fun t => match δ t with | some v => v | none => e t
theorem ov_none {α : Type} {δ : Nat → Option α} {e : Nat → α} {t : Nat} (h : δ t = none) : ov δ e t = e t := by simp [ov, h]
theorem ov_some {α : Type} {δ : Nat → Option α} {e : Nat → α} {t : Nat} {v : α} (h : δ t = some v) : ov δ e t = v := by simp [ov, h]
theorem upd_ov {α : Type} {δ : Nat → Option α} {e : Nat → α} {t : Nat} {v : α} (h : δ t = none) : upd (ov δ e) t v = ov δ (upd e t v) := by
  funext u
  by_cases hu : u = t
  · subst hu; rw [upd_same, ov_none h, upd_same]
  · rw [upd_other _ _ hu]
    cases hd : δ u with
    | none => rw [ov_none hd, ov_none hd, upd_other _ _ hu]
    | some x => rw [ov_some hd, ov_some hd]
theorem updO_ov {δ : Nat → Option AV} {e : Env} {d : Option Nat} {v : AV} (h : ∀ t, d = some t → δ t = none) : updO (ov δ e) d v = ov δ (updO e d v) := by
  cases d with
  | none => rfl
  | some t => exact upd_ov (h t rfl)

theorem ofVal_no_lp (C : Cf) (ty : Nat) (v : Value) (b off : Nat) : ofVal C ty v ≠ .lp b off := by
  intro h
  unfold ofVal at h
  split at h <;> cases h
section
variable {P : Program} {C : Cf} {e e' : Env} {bx bx' : Bx} {st st' : St} {o : Oper}

theorem rd_congr {x : Operand} {ty : Nat} (h : ∀ t, x = .tmp t → e' t = e t) : rd C ty e' x = rd C ty e x := by
  cases x <;> first | rfl | exact h _ rfl
def SameAt (e' e : Env) (xs : Array Operand) : Prop := ∀ t, Operand.tmp t ∈ xs → e' t = e t
theorem SameAt.rd {xs : Array Operand} (h : SameAt e' e xs) {x : Operand} (hx : x ∈ xs) (ty : Nat) : rd C ty e' x = rd C ty e x := rd_congr fun t ht => h t (ht ▸ hx)
theorem qfill_congr {place : Nat → Option (Nat × Nat)} : ∀ (ps : List (Nat × Operand)) (cs : List AV), (∀ p ∈ ps, ∀ ty, rd C ty e' p.2 = rd C ty e p.2) → qfill C e' place ps cs = qfill C e place ps cs
  | [], _, _ => rfl
  | (i, x) :: r, cs, h => by
    have h1 : ∀ ty, rd C ty e' x = rd C ty e x := fun ty => h (i, x) (by simp) ty
    have ih := fun cs => qfill_congr (place := place) r cs (fun p hp => h p (by simp [hp]))
    unfold qfill
    simp only [h1, ih]
theorem qelems_congr {el : Nat} : ∀ (ps : List (Nat × Operand)) (k : Nat), (∀ p ∈ ps, ∀ ty, rd C ty e' p.2 = rd C ty e p.2) → qelems C el e' k ps = qelems C el e k ps
  | [], _, _ => rfl
  | (i, x) :: r, k, h => by
    have h1 : ∀ ty, rd C ty e' x = rd C ty e x := fun ty => h (i, x) (by simp) ty
    have ih := fun k => qelems_congr (el := el) r k (fun p hp => h p (by simp [hp]))
    unfold qelems
    simp only [h1, ih]
theorem qargs_congr : ∀ (xs : List Operand) (ts : List Nat), (∀ x ∈ xs, ∀ ty, rd C ty e' x = rd C ty e x) → qargs C e' xs ts = qargs C e xs ts
  | [], _, _ => rfl
  | x :: r, ts, h => by
    unfold qargs
    rw [h x (by simp), qargs_congr r ts.tail (fun y hy => h y (by simp [hy]))]
theorem bound_congr {n : Int} {x : Option Operand} (h : ∀ y, x = some y → ∀ ty, rd C ty e' y = rd C ty e y) : bound C e' n x = bound C e n x := by
  cases x with
  | none => rfl
  | some y => exact h y rfl 0
theorem qslice_congr {t : Nat} {x : AV} {lo hi mx : Option Operand} (h1 : ∀ y, lo = some y → ∀ ty, rd C ty e' y = rd C ty e y) (h2 : ∀ y, hi = some y → ∀ ty, rd C ty e' y = rd C ty e y) (h3 : ∀ y, mx = some y → ∀ ty, rd C ty e' y = rd C ty e y) :
    qslice C t x e' lo hi mx = qslice C t x e lo hi mx := by
  have b1 := fun n => bound_congr (C := C) (n := n) h1
  have b2 := fun n => bound_congr (C := C) (n := n) h2
  unfold qslice
  simp only [b1, b2]
  cases mx with
  | none => rfl
  | some m => simp only [h3 m rfl]

/-- A call that looks at the store. -/
def accS (C : Cf) (o : Oper) : Bool := match o.op with
  | .call c => match c.callee with
    | .value (.func f) => (C.pf f).isSome
    | _ => false
  | _ => false
/-- An operation's value, with what it reads unchanged. -/
theorem q_congr (h : SameAt e' e o.op.operands) (hb : ∀ t x, o.op = .load t x → ∀ b off, rd C 0 e x = .lp b off → bx' b = bx b) (hs : st' = st ∨ ((∀ t x, o.op = .load t x → ∀ id off, rd C 0 e x ≠ .ref id off) ∧ accS C o = false)) :
    q C o e' bx' st' = q C o e bx st := by
  unfold q
  cases hop : o.op <;> rw [hop] at h hb hs <;> simp only [Op.operands] at h <;> try rfl
  case move x => simp only [h.rd (x := x) (by simp)]
  case assign x => simp only [h.rd (x := x) (by simp)]
  case pick c x y => simp only [h.rd (x := c) (by simp), h.rd (x := x) (by simp), h.rd (x := y) (by simp)]
  case build t ps =>
    have : ∀ p ∈ ps.toList, ∀ ty, rd C ty e' p.2 = rd C ty e p.2 := fun p hp ty => h.rd (by simp only [List.mem_toArray, List.mem_map]; exact ⟨p, hp, rfl⟩) ty
    simp only [qbuild, qfill_congr _ _ this]
  case buildSlice t m ps =>
    have : ∀ p ∈ ps.toList, ∀ ty, rd C ty e' p.2 = rd C ty e p.2 := fun p hp ty => h.rd (by simp only [List.mem_toArray, List.mem_map]; exact ⟨p, hp, rfl⟩) ty
    simp only [qbuildSlice, qelems_congr _ _ this]
  case load t x =>
    have hx := h.rd (C := C) (x := x) (by simp) 0
    simp only [hx]
    cases hi : C.ti t with
    | none => rfl
    | some i =>
      simp only
      cases hv : rd C 0 e x <;> try rfl
      case lp b off =>
        have : bx' b = bx b := hb t x rfl b off hv
        simp only [this]
      case ref id off =>
        rcases hs with rfl | hs
        · rfl
        · exact absurd hv (hs.1 t x rfl id off)
  case fieldAddr t x f => simp only [h.rd (x := x) (by simp)]
  case indexAddr t x i => simp only [h.rd (x := x) (by simp), h.rd (x := i) (by simp)]
  case field t x f => simp only [h.rd (x := x) (by simp)]
  case index t x i => simp only [h.rd (x := x) (by simp), h.rd (x := i) (by simp)]
  case binOp op t x y ty => simp only [h.rd (x := x) (by simp), h.rd (x := y) (by simp)]
  case unOp op t x => simp only [h.rd (x := x) (by simp)]
  case convert s d x => simp only [h.rd (x := x) (by simp)]
  case extract x i => simp only [h.rd (x := x) (by simp)]
  case nilCheck x => simp only [h.rd (x := x) (by simp)]
  case slice t x lo hi mx =>
    simp only [h.rd (x := x) (by simp)]
    refine qslice_congr ?_ ?_ ?_ <;> (rintro y rfl ty; exact h.rd (by simp) ty)
  case makeFunc f first cap =>
    have h1 := qargs_congr (C := C) (e := e) (e' := e') first.toList [] (fun x hx ty => h.rd (by simp at hx ⊢; exact .inl hx) ty)
    have h2 := qargs_congr (C := C) (e := e) (e' := e') cap.toList [] (fun x hx ty => h.rd (by simp at hx ⊢; exact .inr hx) ty)
    cases f <;> simp only [h1, h2]
  case makeSlice t l c => simp only [h.rd (x := l) (by simp), h.rd (x := c) (by simp)]
  case call c =>
    have ha : ∀ x ∈ c.args.toList, ∀ ty, rd C ty e' x = rd C ty e x := fun x hx ty => h.rd (by simp at hx; simp [Call.operands, hx]) ty
    have h1 := fun ts => qargs_congr (C := C) (e := e) (e' := e') c.args.toList ts ha
    simp only [h1]
    split <;> try rfl
    · split <;> try rfl
      next hargs hts => rw [ha _ (by rw [hargs]; simp)]
    · next f hcal =>
      rcases hs with rfl | hs
      · rfl
      · have h2 := hs.2
        unfold accS at h2
        rw [hop] at h2
        dsimp only at h2
        rw [hcal] at h2
        dsimp only at h2
        cases hp : C.pf f with
        | none => rfl
        | some p => rw [hp] at h2; cases h2

theorem SameAt.ov {δ : Nat → Option AV} {xs : Array Operand} (h : ∀ t, Operand.tmp t ∈ xs → δ t = none) : SameAt (V.ov δ e) e xs := fun t ht => ov_none (h t ht)
theorem freeze_ov {δ : Nat → Option AV} {b : Nat} {cs : List AV} (h : ∀ t v, δ t = some v → noLp v = true) : freeze b cs (ov δ e) = ov δ (freeze b cs e) := by
  funext t
  cases hd : δ t with
  | none => unfold freeze; rw [ov_none hd, ov_none hd]
  | some v =>
    have := h t v hd
    unfold freeze
    rw [ov_some hd, ov_some hd]
    cases v <;> first | rfl | cases this
theorem utAt_ov {δ : Nat → Option AV} {x : Option Nat} (h : ∀ t, x = some t → δ t = none) : utAt (ov δ e) x = ov δ (utAt e x) := by
  cases x with
  | none => rfl
  | some t =>
    show upd (ov δ e) t (ut (ov δ e t)) = ov δ (upd e t (ut (e t)))
    rw [ov_none (h t rfl), upd_ov (h t rfl)]
theorem trX_mem {x : Operand} {t : Nat} (h : trX C x = some t) : x = .tmp t := trX_eq h
theorem tmpOf_eq {x : Operand} {t : Nat} (h : tmpOf x = some t) : x = .tmp t := by cases x <;> simp [tmpOf] at h; rw [h]
theorem Two.mono {a b a' b' : Prop} (h : Two a b) (ha : a → a') (hb : b → b') : Two a' b' := ⟨ha h.fst, hb h.snd⟩
theorem Need.mono {p m m' : Prop} {w : Bool} (h : Need p w m) (hm : m → m') : Need p w m' := ⟨h.ok, hm h.next⟩

/-- An effect leaves alone what it does not read. -/
theorem veff_ov {δ : Nat → Option AV} {γ : Nat → Option (Option (List AV))} {K : Env → Bx → St → Prop} (h1 : ∀ t, Operand.tmp t ∈ o.op.operands → δ t = none) (h2 : ∀ d, o.dst = some d → δ d = none ∧ γ d = none)
    (h3 : ∀ t b off, Operand.tmp t ∈ o.op.operands → e t = .lp b off → γ b = none) (h4 : (∀ d, o.dst = some d → C.fz d = false) ∨ ∀ t v, δ t = some v → noLp v = true)
    (hv : veff P C o e bx st (fun e' bx' st' => K (ov δ e') (ov γ bx') st')) : veff P C o (ov δ e) (ov γ bx) st K := by
  have hS : SameAt (ov δ e) e o.op.operands := SameAt.ov h1
  have hd : ∀ d, o.dst = some d → δ d = none := fun d h => (h2 d h).1
  have hlp : ∀ {x : Operand} {b off : Nat} (ty : Nat), x ∈ o.op.operands → rd C ty e x = .lp b off → γ b = none := by
    intro x b off ty hx h
    cases x with
    | tmp t => exact h3 t b off hx h
    | const v => exact absurd h (ofVal_no_lp C ty v b off)
    | func f => cases h
    | global gl => cases h
  have hdO : ∀ v, updO (ov δ e) o.dst v = ov δ (updO e o.dst v) := fun v => updO_ov hd
  have hmove : ∀ x, o.op.operands = #[x] → vmove C o.type x o.dst e bx st (fun e' bx' st' => K (ov δ e') (ov γ bx') st') → vmove C o.type x o.dst (ov δ e) (ov γ bx) st K := by
    intro x hx hv
    have hxm : x ∈ o.op.operands := by rw [hx]; simp
    unfold vmove at hv ⊢
    cases hdst : o.dst with
    | none => rw [hdst] at hv; exact hv
    | some d =>
      rw [hdst] at hv
      simp only at hv ⊢
      have hdd := hd d hdst
      cases hf : C.fz d with
      | true =>
        rw [hf] at hv
        dsimp only at hv ⊢
        rw [hS.rd (C := C) hxm]
        have h4' : ∀ t v, δ t = some v → noLp v = true := by
          rcases h4 with h4 | h4
          · rw [h4 d hdst] at hf; cases hf
          · exact h4
        split at hv
        · next b off hr =>
          have hg := hlp _ hxm hr
          try simp only [hr]
          rw [ov_none hg]
          split at hv
          · rw [freeze_ov h4', upd_ov hdd, upd_ov hg]; exact hv
          · exact hv.elim
        · next sz id len hr =>
          try simp only [hr]
          split at hv
          · refine hv.mono fun hv => ?_
            split at hv
            · rw [upd_ov hdd]; exact hv
            · exact hv.elim
          · exact hv.elim
        · exact hv.elim
      | false =>
        rw [hf] at hv
        simp only at hv ⊢
        cases x <;> simp only at hv ⊢ <;> try exact hv
        case tmp t =>
          have ht := h1 t hxm
          rw [ov_none ht, upd_ov ht, upd_ov hdd]; exact hv
        case const v => rw [upd_ov hdd]; exact hv
  unfold veff at hv ⊢
  cases hop : o.op <;> rw [hop] at hv hS h1 hlp hmove <;> simp only [Op.operands] at hv hS h1 hlp hmove ⊢ <;> try exact hv
  case move x => exact hmove x rfl hv
  case assign x => exact hmove x rfl hv
  case store t x y =>
    have hx := hS.rd (C := C) (x := x) (by simp)
    have hy := hS.rd (C := C) (x := y) (by simp)
    simp only [hx, hy]
    split at hv
    · exact hv
    · split at hv
      · next b off hxv =>
        have hg := hlp 0 (by simp) hxv
        rw [ov_none hg]
        split at hv
        · split at hv
          · split at hv
            · next xt hxt hsl =>
              have ht := h1 xt (by rw [trX_mem hxt]; simp)
              rw [upd_ov ht, upd_ov hg]; exact hv
            · rw [upd_ov hg]; exact hv
          · exact hv
        · exact hv
      · split at hv
        · split at hv
          · split at hv
            · next xt hxt hsl =>
              have ht := h1 xt (by rw [trX_mem hxt]; simp)
              rw [upd_ov ht]; exact hv
            · exact hv
          · exact hv
        · exact hv
      · exact hv
  case alloc t =>
    split at hv
    · next d i hdst hi =>
      obtain ⟨k1, k2⟩ := h2 d hdst
      try simp only [hdst, hi]
      split at hv
      · rw [upd_ov k1]; exact hv
      · rw [ov_none k2]
        split at hv
        · rw [upd_ov k1, upd_ov k2]; exact hv
        · exact hv
    · exact hv.elim
  case box t x =>
    have hx := hS.rd (C := C) (x := x) (by simp)
    simp only [hx]
    split at hv
    · next d hdst =>
      obtain ⟨k1, k2⟩ := h2 d hdst
      split at hv
      · exact hv
      · split at hv
        · rw [upd_ov k1]; exact hv
        · rw [ov_none k2]
          split at hv
          · rw [upd_ov k1, upd_ov k2]; exact hv
          · exact hv
    · exact hv.elim
  case makeSlice t l c =>
    simp only [hS.rd (C := C) (x := l) (by simp), hS.rd (C := C) (x := c) (by simp)]
    split at hv
    · next hdst =>
      split at hv
      · refine hv.mono fun hv => ?_
        rw [upd_ov (hd _ hdst)]; exact hv
      · exact hv
    · exact hv.elim
  case load t x =>
    have hx := hS.rd (C := C) (x := x) (by simp)
    simp only [hx]
    split at hv
    · next d i b off hdst hi hxv =>
      have hg := hlp 0 (by simp) hxv
      rw [ov_none hg]
      split at hv
      · split at hv
        · rw [upd_ov (hd _ hdst), upd_ov hg]; exact hv
        · exact hv
      · exact hv
    · next d i id off hdst hi hxv =>
      split at hv
      · split at hv
        · rw [upd_ov (hd _ hdst)]; exact hv
        · exact hv
      · exact hv
    · exact hv.elim
  case binOp op t x y ty =>
    cases op <;> simp only at hv ⊢ <;> try exact hv
    simp only [hS.rd (C := C) (x := x) (by simp)]
    split at hv
    · rw [hdO, hdO]; exact hv
    · exact hv.elim
  case call c =>
    have ha : ∀ x ∈ c.args.toList, ∀ ty, rd C ty (ov δ e) x = rd C ty e x := fun x hx ty => hS.rd (by simp at hx; simp [Call.operands, hx]) ty
    have hq := fun ts => qargs_congr (C := C) (e := e) (e' := ov δ e) c.args.toList ts ha
    simp only [hq]
    split at hv
    · split at hv
      · next x y sT tx d hargs hts hdst =>
        have hmx : x ∈ c.args.toList := by rw [hargs]; simp
        have hmy : y ∈ c.args.toList := by rw [hargs]; simp
        simp only [ha x hmx, ha y hmy]
        split at hv
        · split at hv
          · refine hv.mono fun hv => ?_
            rw [utAt_ov (fun t ht => ?_), upd_ov (hd d hdst)]
            · exact hv
            · have := tmpOf_eq ht
              subst this
              exact h1 t (by simp at hmx; simp [Call.operands, hmx])
          · exact hv
        · exact hv.elim
      · exact hv.elim
    · next f hc =>
      split at hv
      · refine hv.mono fun r st' hK => ?_
        rw [hdO]; exact hK
      · exact hv
    · next t hc =>
      have : δ t = none := h1 t (by simp [Call.operands, hc])
      rw [ov_none this]
      split at hv
      · split at hv
        · refine hv.mono fun r st' hK => ?_
          rw [hdO]; exact hK
        · exact hv
      · exact hv.elim
    · exact hv.elim
end
end Go.V
