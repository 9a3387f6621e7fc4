/- V33: a call sees of the store what is handed to it: objects under other numbers, beside others. First part: renaming. No program in sight. -/
import Derived.Test.YtgogpeamdfmaiaaGreatVC
import Derived.Laws.StructEq
set_option linter.unusedVariables false
set_option linter.unusedSimpArgs false
namespace Go.V
mutual
/-- A value with its objects under other numbers. -/
def ren (ρ : Nat → Nat) : AV → AV
  | .agg cs => .agg (rens ρ cs)
  | .tup vs => .tup (rens ρ vs)
  | .sl t sz es => .sl t sz (rens ρ es)
  | .msl sz id off n => .msl sz (ρ id) off n
  | .ref id off => .ref (ρ id) off
  | .ip v off => .ip (ren ρ v) off
  | .fn f a b => .fn f (rens ρ a) (rens ρ b)
  | .undef => .undef
  | .bool b => .bool b
  | .int k n => .int k n
  | .str s => .str s
  | .nilp => .nilp
  | .lp b o => .lp b o
  | .nilfn => .nilfn
  | .nils sz => .nils sz
def rens (ρ : Nat → Nat) : List AV → List AV
  | [] => []
  | v :: r => ren ρ v :: rens ρ r
end
theorem rens_length (ρ : Nat → Nat) : ∀ l : List AV, (rens ρ l).length = l.length
  | [] => by unfold rens; rfl
  | v :: r => by unfold rens; simp [rens_length ρ r]
theorem rens_get (ρ : Nat → Nat) : ∀ (l : List AV) (j : Nat), (rens ρ l)[j]? = (l[j]?).map (ren ρ)
  | [], j => by unfold rens; simp
  | v :: r, 0 => by unfold rens; simp
  | v :: r, j + 1 => by unfold rens; simpa using rens_get ρ r j
theorem ren_cells (ρ : Nat → Nat) (v : AV) : (ren ρ v).cells = rens ρ v.cells := by
  cases v <;> simp [ren, rens, AV.cells]
theorem ren_scal (ρ : Nat → Nat) (v : AV) : scal (ren ρ v) = scal v := by cases v <;> simp [ren, scal]
theorem rens_scal (ρ : Nat → Nat) : ∀ l : List AV, scalAll (rens ρ l) = scalAll l
  | [] => by unfold rens; rfl
  | v :: r => by
    unfold rens scalAll
    rw [ren_scal, rens_scal ρ r]
section
variable {I : Mem} {σ σ' : List Nat} {ρ : Nat → Nat} (hρ : ∀ i b, σ[i]? = some b → σ'[ρ i]? = some b)
mutual
theorem Rep.to_ren {I : Mem} {σ σ' : List Nat} {ρ : Nat → Nat} (hρ : ∀ i b, σ[i]? = some b → σ'[ρ i]? = some b) : ∀ {v : AV} {cv : Value}, Rep I σ v cv → Rep I σ' (ren ρ v) cv
  | _, _, .undef => by unfold ren; exact .undef
  | _, _, .bool => by unfold ren; exact .bool
  | _, _, .int => by unfold ren; exact .int
  | _, _, .str => by unfold ren; exact .str
  | _, _, .agg h => by unfold ren; exact .agg (Reps.to_ren hρ h)
  | _, _, .tup h => by unfold ren; exact .tup (Reps.to_ren hρ h)
  | _, _, .snil => by unfold ren rens; exact .snil
  | _, _, .nils => by unfold ren; exact .nils
  | _, _, .spot => by unfold ren rens; exact .spot
  | _, _, .sl h hn hc => by unfold ren; exact .sl (Row.to_ren hρ h) (by rw [rens_length]; exact hn) hc
  | _, _, .msl h hc => by unfold ren; exact .msl (hρ _ _ h) hc
  | _, _, .nilp => by unfold ren; exact .nilp
  | _, _, .ref h => by unfold ren; exact .ref (hρ _ _ h)
  | _, _, .ip h => by unfold ren; exact .ip (RepAt.to_ren hρ h)
  | _, _, .nilfn => by unfold ren; exact .nilfn
  | _, _, .fn h k => by unfold ren; exact .fn (Reps.to_ren hρ h) (Reps.to_ren hρ k)
theorem Reps.to_ren {I : Mem} {σ σ' : List Nat} {ρ : Nat → Nat} (hρ : ∀ i b, σ[i]? = some b → σ'[ρ i]? = some b) : ∀ {vs : List AV} {cvs : List Value}, Reps I σ vs cvs → Reps I σ' (rens ρ vs) cvs
  | _, _, .nil => by unfold rens; exact .nil
  | _, _, .cons h k => by unfold rens; exact .cons (Rep.to_ren hρ h) (Reps.to_ren hρ k)
theorem RepAt.to_ren {I : Mem} {σ σ' : List Nat} {ρ : Nat → Nat} (hρ : ∀ i b, σ[i]? = some b → σ'[ρ i]? = some b) : ∀ {v : AV} {b o : Nat}, RepAt I σ v b o → RepAt I σ' (ren ρ v) b o
  | _, _, _, .mk h k => .mk (by rw [ren_cells]; exact Reps.to_ren hρ h) k
theorem Row.to_ren {I : Mem} {σ σ' : List Nat} {ρ : Nat → Nat} (hρ : ∀ i b, σ[i]? = some b → σ'[ρ i]? = some b) : ∀ {es : List AV} {b o sz : Nat}, Row I σ es b o sz → Row I σ' (rens ρ es) b o sz
  | _, _, _, _, .nil => by unfold rens; exact .nil
  | _, _, _, _, .cons h h0 hs k r => by unfold rens; exact .cons (by rw [ren_cells, rens_length]; exact h) h0 (by rw [ren_cells, rens_scal]; exact hs) (RepAt.to_ren hρ k) (Row.to_ren hρ r)
end
mutual
theorem Rep.of_ren {I : Mem} {σ σ' : List Nat} {ρ : Nat → Nat} (hρ : ∀ i b, σ'[ρ i]? = some b → σ[i]? = some b) : ∀ {u : AV} {cv : Value}, Rep I σ' u cv → ∀ {v : AV}, u = ren ρ v → Rep I σ v cv
  | _, _, .undef, v, e => by cases v <;> simp [ren] at e; exact .undef
  | _, _, .bool, v, e => by cases v <;> simp [ren] at e; subst e; exact .bool
  | _, _, .int, v, e => by cases v <;> simp [ren] at e; obtain ⟨rfl, rfl⟩ := e; exact .int
  | _, _, .str, v, e => by cases v <;> simp [ren] at e; subst e; exact .str
  | _, _, .agg h, v, e => by cases v <;> simp [ren] at e; exact .agg (Reps.of_ren hρ h e)
  | _, _, .tup h, v, e => by cases v <;> simp [ren] at e; exact .tup (Reps.of_ren hρ h e)
  | _, _, .snil, v, e => by
    cases v <;> simp [ren] at e
    next t sz es =>
    obtain ⟨rfl, rfl, e⟩ := e
    cases es with
    | nil => exact .snil
    | cons a r => unfold rens at e; cases e
  | _, _, .nils, v, e => by cases v <;> simp [ren] at e; subst e; exact .nils
  | _, _, .spot, v, e => by
    cases v <;> simp [ren] at e
    next t sz es =>
    obtain ⟨rfl, rfl, e⟩ := e
    cases es with
    | nil => exact .spot
    | cons a r => unfold rens at e; cases e
  | _, _, .sl h hn hc, v, e => by
    cases v <;> simp [ren] at e
    obtain ⟨rfl, rfl, e⟩ := e
    exact .sl (Row.of_ren hρ h e) (by rw [hn, e, rens_length]) hc
  | _, _, .msl h hc, v, e => by
    cases v <;> simp [ren] at e
    obtain ⟨rfl, rfl, rfl, rfl⟩ := e
    exact .msl (hρ _ _ h) hc
  | _, _, .nilp, v, e => by cases v <;> simp [ren] at e; exact .nilp
  | _, _, .ref h, v, e => by
    cases v <;> simp [ren] at e
    obtain ⟨rfl, rfl⟩ := e
    exact .ref (hρ _ _ h)
  | _, _, .ip h, v, e => by
    cases v <;> simp [ren] at e
    obtain ⟨e, rfl⟩ := e
    exact .ip (RepAt.of_ren hρ h e)
  | _, _, .nilfn, v, e => by cases v <;> simp [ren] at e; exact .nilfn
  | _, _, .fn h k, v, e => by
    cases v <;> simp [ren] at e
    obtain ⟨rfl, e1, e2⟩ := e
    exact .fn (Reps.of_ren hρ h e1) (Reps.of_ren hρ k e2)
termination_by structural _ _ h => h
theorem Reps.of_ren {I : Mem} {σ σ' : List Nat} {ρ : Nat → Nat} (hρ : ∀ i b, σ'[ρ i]? = some b → σ[i]? = some b) : ∀ {us : List AV} {cvs : List Value}, Reps I σ' us cvs → ∀ {vs : List AV}, us = rens ρ vs → Reps I σ vs cvs
  | _, _, .nil, vs, e => by
    cases vs with
    | nil => exact .nil
    | cons a r => unfold rens at e; cases e
  | _, _, .cons h k, vs, e => by
    cases vs with
    | nil => unfold rens at e; cases e
    | cons a r =>
      unfold rens at e
      injection e with e1 e2
      exact .cons (Rep.of_ren hρ h e1) (Reps.of_ren hρ k e2)
termination_by structural _ _ h => h
theorem RepAt.of_ren {I : Mem} {σ σ' : List Nat} {ρ : Nat → Nat} (hρ : ∀ i b, σ'[ρ i]? = some b → σ[i]? = some b) : ∀ {u : AV} {b o : Nat}, RepAt I σ' u b o → ∀ {v : AV}, u = ren ρ v → RepAt I σ v b o
  | _, _, _, .mk h k, v, e => .mk (Reps.of_ren hρ h (by rw [e, ren_cells])) k
termination_by structural _ _ _ h => h
theorem Row.of_ren {I : Mem} {σ σ' : List Nat} {ρ : Nat → Nat} (hρ : ∀ i b, σ'[ρ i]? = some b → σ[i]? = some b) : ∀ {us : List AV} {b o sz : Nat}, Row I σ' us b o sz → ∀ {vs : List AV}, us = rens ρ vs → Row I σ vs b o sz
  | _, _, _, _, .nil, vs, e => by
    cases vs with
    | nil => exact .nil
    | cons a r => unfold rens at e; cases e
  | _, _, _, sz, .cons h h0 hs k r, vs, e => by
    cases vs with
    | nil => unfold rens at e; cases e
    | cons a s =>
      unfold rens at e
      injection e with e1 e2
      have h' : a.cells.length = sz := by rw [← rens_length ρ, ← ren_cells, ← e1]; exact h
      have hs' : scalAll a.cells = true := by rw [← rens_scal ρ, ← ren_cells, ← e1]; exact hs
      exact .cons h' h0 hs' (RepAt.of_ren hρ k e1) (Row.of_ren hρ r e2)
termination_by structural _ _ _ _ h => h
end
end
end Go.V

/- V34: a call sees of the store what is handed to it: second part: the theorem. No program in sight. -/
namespace Go.V
/-- The numbers of a part's objects in the whole: those that were there, then new ones. -/
def roL (ids : List Nat) (n : Nat) (k : Nat) : Nat := match ids[k]? with
  | some i => i
  | none => n + (k - ids.length)
def plc : List Nat → Nat → Option Nat
  | [], _ => none
  | a :: r, i => match Nat.beq a i with
    | true => some 0
    | false => (plc r i).map (· + 1)
theorem plc_some : ∀ {ids : List Nat} {i k : Nat}, plc ids i = some k → ids[k]? = some i
  | a :: r, i, k, h => by
    unfold plc at h
    split at h
    · next hb => cases h; rw [Nat.eq_of_beq_eq_true hb]; rfl
    · obtain ⟨j, hj, rfl⟩ := Option.map_eq_some_iff.1 h
      simpa using plc_some hj
theorem plc_none : ∀ {ids : List Nat} {i : Nat}, plc ids i = none → ∀ k : Nat, ids[k]? ≠ some i
  | [], i, _, k => by simp
  | a :: r, i, h, k => by
    unfold plc at h
    split at h
    · cases h
    · next hb =>
      cases k with
      | zero =>
        intro h2
        simp at h2
        subst h2
        rw [Nat.beq_refl] at hb
        cases hb
      | succ k =>
        have := plc_none (Option.map_eq_none_iff.1 h) k
        simpa using this
theorem plc_at {ids : List Nat} (hn : ids.Nodup) {k i : Nat} (h : ids[k]? = some i) : plc ids i = some k := by
  cases hx : plc ids i with
  | none => exact absurd h (plc_none hx k)
  | some j =>
    have hj := plc_some hx
    have h1 := (List.getElem?_eq_some_iff.1 h)
    have h2 := (List.getElem?_eq_some_iff.1 hj)
    obtain ⟨l1, e1⟩ := h1
    obtain ⟨l2, e2⟩ := h2
    rw [(List.getElem_inj hn).1 (e2.trans e1.symm)]
/-- The whole store behind a call, out of the part's. -/
def putS (ids : List Nat) (st st0' : St) : St :=
  (List.range (st.length + (st0'.length - ids.length))).map fun i => match Nat.blt i st.length with
    | true => (match plc ids i with | some k => (st0'.getD k none).map (rens (roL ids st.length)) | none => st.getD i none)
    | false => (st0'.getD (ids.length + (i - st.length)) none).map (rens (roL ids st.length))
theorem putS_get {ids : List Nat} {st st0' : St} {i : Nat} (hi : i < st.length + (st0'.length - ids.length)) : (putS ids st st0')[i]? = some (match Nat.blt i st.length with
    | true => (match plc ids i with | some k => (st0'.getD k none).map (rens (roL ids st.length)) | none => st.getD i none)
    | false => (st0'.getD (ids.length + (i - st.length)) none).map (rens (roL ids st.length))) := by
  unfold putS
  rw [List.getElem?_map, List.getElem?_range hi]
  rfl
def unL (ids : List Nat) : Option Loc → Option Loc
  | some (.obj i) => (plc ids i).map Loc.obj
  | some (.ot i j) => (plc ids i).map fun k => .ot k j
  | _ => none
def upL (ρ : Nat → Nat) : Loc → Loc
  | .obj k => .obj (ρ k)
  | .ot k j => .ot (ρ k) j
  | l => l
theorem upL_tip (ρ : Nat → Nat) (l : Loc) : (upL ρ l).isTip = l.isTip := by cases l <;> rfl
theorem upL_local (ρ : Nat → Nat) (l : Loc) : (upL ρ l).isLocal = l.isLocal := by cases l <;> rfl
theorem unL_some {ids : List Nat} {o : Option Loc} {l : Loc} (h : unL ids o = some l) : ∃ l', o = some l' ∧ l'.isTip = l.isTip ∧ l.isLocal = false := by
  unfold unL at h
  split at h
  · obtain ⟨k, _, rfl⟩ := Option.map_eq_some_iff.1 h; exact ⟨_, rfl, rfl, rfl⟩
  · obtain ⟨k, _, rfl⟩ := Option.map_eq_some_iff.1 h; exact ⟨_, rfl, rfl, rfl⟩
  · cases h
/-- A CALL SEES OF THE STORE WHAT IS HANDED TO IT. -/
theorem VCalls.frame {P : Program} {f : Nat} {args0 : List AV} {st0 : St} {R : AV → St → Prop} (h : VCalls P f args0 st0 R) {ids : List Nat} {st : St} (hl : ids.length = st0.length) (hn : ids.Nodup) (hlt : ∀ i ∈ ids, i < st.length)
    (hst : ∀ (k : Nat) (cs : List AV) (i : Nat), st0[k]? = some (some cs) → ids[k]? = some i → st[i]? = some (some (rens (roL ids st.length) cs))) :
    VCalls P f (rens (roL ids st.length) args0) st (fun r st' => ∃ r0 st0', R r0 st0' ∧ r = ren (roL ids st.length) r0 ∧ st' = putS ids st st0') := by
  refine ⟨?_, h.enter, fun Fr g w cargs hg hloc ha => ?_⟩
  · obtain ⟨r, s, hr⟩ := h.live
    exact ⟨_, _, r, s, hr, rfl, rfl⟩
  have hsl := hg.len
  -- the part's ghost state
  have hσ : ∀ (k i : Nat), ids[k]? = some i → (ids.map fun i => g.σ.getD i 0)[k]? = g.σ[i]? := by
    intro k i hk
    rw [List.getElem?_map, hk]
    have := hlt i (List.mem_of_getElem? hk)
    rw [Option.map_some, List.getD_eq_getElem?_getD, List.getElem?_eq_getElem (by omega)]
    rfl
  have hback : ∀ (k b : Nat), g.σ[roL ids st.length k]? = some b → (ids.map fun i => g.σ.getD i 0)[k]? = some b := by
    intro k b hb
    unfold roL at hb
    split at hb
    · next i hi => rw [hσ k i hi]; exact hb
    · rw [List.getElem?_eq_none (by omega)] at hb; cases hb
  have ha0 : Reps g.I (ids.map fun i => g.σ.getD i 0) args0 cargs := Reps.of_ren hback ha rfl
  have hown0 : ∀ b l, unL ids (g.own b) = some l → ∃ l', g.own b = some l' ∧ l'.isTip = l.isTip ∧ l.isLocal = false := fun b l h => unL_some h
  have hg0 : Glob ⟨g.I, ids.map fun i => g.σ.getD i 0, fun b => Fr b ∨ ((g.own b).isSome = true ∧ unL ids (g.own b) = none), w⟩ ⟨g.I, ids.map fun i => g.σ.getD i 0, fun b => unL ids (g.own b), g.β⟩ st0 w := by
    refine ⟨MemLe.refl _, List.prefix_refl _, ?_, Nat.le_refl _, rfl, rfl, rfl, hg.imm, ?_, ?_, fun b o h1 h2 => absurd h2 h1, ?_, by simpa using hl⟩
    · intro b hb
      rcases hb with hb | ⟨hb, hu⟩
      · obtain ⟨_, h2, h3⟩ := hg.fr b hb
        exact ⟨rfl, h2, by show unL ids (g.own b) = none; rw [h3]; rfl⟩
      · obtain ⟨l, hl'⟩ := Option.isSome_iff_exists.1 hb
        exact ⟨rfl, hg.ownlt b l hl', hu⟩
    · intro b o l hv hl'
      obtain ⟨l', h1, h2, _⟩ := hown0 b l hl'
      rw [← h2]; exact hg.immOwn b o l' hv h1
    · intro b l hl'
      obtain ⟨l', h1, _, _⟩ := hown0 b l hl'
      exact hg.ownlt b l' h1
    · intro k cs hk
      have hkl : k < ids.length := by rw [hl]; exact (List.getElem?_eq_some_iff.1 hk).1
      obtain ⟨i, hi⟩ : ∃ i, ids[k]? = some i := ⟨_, List.getElem?_eq_getElem hkl⟩
      obtain ⟨blk, q1, q2, vs, ty, q3, q4, q5⟩ := hg.objs i _ (hst k cs i hk hi)
      refine ⟨blk, by show (ids.map fun i => g.σ.getD i 0)[k]? = _; rw [hσ k i hi]; exact q1, ?_, vs, ty, q3, Reps.of_ren hback q4 rfl, ?_⟩
      · show unL ids (g.own blk) = _
        rw [q2]
        show (plc ids i).map Loc.obj = _
        rw [plc_at hn hi]
        rfl
      · intro j sz es cv hj hcv
        have := q5 j sz (rens (roL ids st.length) es) cv (by rw [rens_get, hj]; simp [ren]) hcv
        rcases this with this | ⟨b, o, cap, rfl, this⟩
        · exact .inl this
        · refine .inr ⟨b, o, cap, by rw [rens_length], ?_⟩
          rw [rens_length] at this
          rcases this with this | ⟨h1, h2, h3⟩
          · exact .inl this
          · refine .inr ⟨?_, h2, h3⟩
            show unL ids (g.own b) = _
            rw [h1]
            show (plc ids i).map (fun k => Loc.ot k j) = _
            rw [plc_at hn hi]
            rfl
  have hc := h.out _ ⟨g.I, ids.map fun i => g.σ.getD i 0, fun b => unL ids (g.own b), g.β⟩ w cargs hg0 (fun b l hl' => (hown0 b l hl').choose_spec.2.2) ha0
  refine hc.mono fun e w' ⟨cv, g1, r0, st0', he, hR, hG, hL, hrep, htip⟩ => ?_
  have hσ1 : (ids.map fun i => g.σ.getD i 0) <+: g1.σ := hG.hσ
  have hlen1 : g1.σ.length = st0'.length := hG.len
  have hge : ids.length ≤ st0'.length := by
    have := hσ1.length_le
    rw [List.length_map] at this
    omega
  -- the whole's ghost state behind the call
  have hfwd : ∀ (k b : Nat), g1.σ[k]? = some b → (g.σ ++ g1.σ.drop ids.length)[roL ids st.length k]? = some b := by
    intro k b hb
    unfold roL
    split
    · next i hi =>
      have h1 := hσ k i hi
      have hil := hlt i (List.mem_of_getElem? hi)
      rw [List.getElem?_append_left (by omega)]
      obtain ⟨c, hcc⟩ : ∃ c, g.σ[i]? = some c := ⟨_, List.getElem?_eq_getElem (by omega)⟩
      rw [hcc] at h1
      have := prefix_get hσ1 h1
      rw [hb] at this
      rw [hcc]; exact this.symm
    · next hi =>
      have hkl : ids.length ≤ k := List.getElem?_eq_none_iff.1 hi
      rw [List.getElem?_append_right (by omega), List.getElem?_drop]
      rw [show ids.length + (st.length + (k - ids.length) - g.σ.length) = k by omega]
      exact hb
  refine ⟨cv, ⟨g1.I, g.σ ++ g1.σ.drop ids.length, fun b => match g.own b, unL ids (g.own b) with | some l, none => some l | _, _ => (g1.own b).map (upL (roL ids st.length)), g.β⟩, ren (roL ids st.length) r0, putS ids st st0', he, ⟨r0, st0', hR, rfl, rfl⟩, ?_, ?_, hrep.to_ren hfwd, ?_⟩
  · have hother : ∀ b l, g.own b = some l → unL ids (g.own b) = none → w'.heap[b]? = w.heap[b]? ∧ g1.own b = none := by
      intro b l h1 h2
      obtain ⟨q1, _, q3⟩ := hG.fr b (.inr ⟨by rw [h1]; rfl, h2⟩)
      exact ⟨q1, q3⟩
    have hnew : ∀ b o l, g1.I b o ≠ none → g.own b = some l → unL ids (g.own b) = none → g.I b o ≠ none := by
      intro b o l h1 h2 h3 h4
      exact hG.newI b o h1 h4 (.inr ⟨by rw [h2]; rfl, h3⟩)
    have hown : ∀ (b : Nat) (l : Loc), (match g.own b, unL ids (g.own b) with | some l, none => some l | _, _ => (g1.own b).map (upL (roL ids st.length))) = some l →
        (g.own b = some l ∧ unL ids (g.own b) = none) ∨ ∃ l', g1.own b = some l' ∧ l = upL (roL ids st.length) l' := by
      intro b l hb
      split at hb
      · next l' h1 h2 =>
        cases hb
        exact .inl ⟨h1, h2⟩
      · obtain ⟨l', h1, h2⟩ := Option.map_eq_some_iff.1 hb
        exact .inr ⟨l', h1, h2.symm⟩
    have hmine : ∀ (b : Nat) (l : Loc), g1.own b = some l → (match g.own b, unL ids (g.own b) with | some l, none => some l | _, _ => (g1.own b).map (upL (roL ids st.length))) = some (upL (roL ids st.length) l) := by
      intro b l hb
      split
      · next l' h1 h2 =>
        have := (hother b l' h1 h2).2
        rw [hb] at this; cases this
      · rw [hb]; rfl
    have hblk : ∀ {k i : Nat} {blk : Nat} {cs : List AV}, roL ids st.length k = i → BlockRep g1 w' (.obj k) (fun j => .ot k j) blk cs →
        BlockRep ⟨g1.I, g.σ ++ g1.σ.drop ids.length, fun b => match g.own b, unL ids (g.own b) with | some l, none => some l | _, _ => (g1.own b).map (upL (roL ids st.length)), g.β⟩ w' (.obj i) (fun j => .ot i j) blk (rens (roL ids st.length) cs) := by
      intro k i blk cs hk ⟨q1, vs, ty, q2, q3, q4⟩
      subst hk
      refine ⟨?_, vs, ty, q2, q3.to_ren hfwd, ?_⟩
      · exact hmine blk _ q1
      · intro j sz es cv hj hcv
        rw [rens_get] at hj
        obtain ⟨v, hv, hvr⟩ := Option.map_eq_some_iff.1 hj
        cases v <;> simp [ren] at hvr
        next tp sz' es' =>
        obtain ⟨rfl, rfl, rfl⟩ := hvr
        rcases q4 j _ es' cv hv hcv with h | ⟨b, o, cap, rfl, h⟩
        · exact .inl h
        · refine .inr ⟨b, o, cap, by rw [rens_length], ?_⟩
          rw [rens_length]
          rcases h with h | ⟨h1, h2, h3⟩
          · exact .inl h
          · exact .inr ⟨hmine b _ h1, h2, h3⟩
    refine ⟨hG.hI, ⟨_, rfl⟩, ?_, hG.size, hG.os, hG.tape, hG.output, hG.imm, ?_, ?_, ?_, ?_, ?_⟩
    · intro b hb
      obtain ⟨q1, q2, q3⟩ := hG.fr b (.inl hb)
      refine ⟨q1, q2, ?_⟩
      have h3 := (hg.fr b hb).2.2
      show (match g.own b, unL ids (g.own b) with | some l, none => some l | _, _ => (g1.own b).map (upL (roL ids st.length))) = none
      rw [h3, q3]
      rfl
    · intro b o l hv hb
      rcases hown b l hb with ⟨h1, h2⟩ | ⟨l', h1, rfl⟩
      · exact hg.immOwn b o l (hnew b o l hv h1 h2) h1
      · rw [upL_tip]; exact hG.immOwn b o l' hv h1
    · intro b l hb
      rcases hown b l hb with ⟨h1, h2⟩ | ⟨l', h1, rfl⟩
      · have := hg.ownlt b l h1
        have := hG.size
        show b < w'.heap.size
        have h3 : w.heap.size ≤ w'.heap.size := hG.size
        omega
      · exact hG.ownlt b l' h1
    · intro b o h1 h2 h3
      exact hG.newI b o h1 h2 (.inl h3)
    · intro i cs hi
      have hil : i < st.length + (st0'.length - ids.length) := by
        have := (List.getElem?_eq_some_iff.1 hi).1
        unfold putS at this
        simpa using this
      rw [putS_get hil] at hi
      have hi := Option.some.inj hi
      cases hb : Nat.blt i st.length with
      | true =>
        rw [hb] at hi
        dsimp only at hi
        have hilt : i < st.length := Nat.le_of_ble_eq_true hb
        cases hp : plc ids i with
        | some k =>
          rw [hp] at hi
          dsimp only at hi
          obtain ⟨cs0, h1, rfl⟩ := Option.map_eq_some_iff.1 hi
          have hk := plc_some hp
          have h1' : st0'[k]? = some (some cs0) := by
            rw [List.getD_eq_getElem?_getD] at h1
            cases hx : st0'[k]? with
            | none => rw [hx] at h1; cases h1
            | some y => rw [hx] at h1; rw [show y = some cs0 from h1]
          obtain ⟨blk, q1, q2⟩ := hG.objs k cs0 h1'
          have hro : roL ids st.length k = i := by unfold roL; rw [hk]
          refine ⟨blk, ?_, hblk hro q2⟩
          have := hfwd k blk q1
          rw [hro] at this
          exact this
        | none =>
          rw [hp] at hi
          dsimp only at hi
          have h1' : st[i]? = some (some cs) := by
            rw [List.getD_eq_getElem?_getD, List.getElem?_eq_getElem hilt] at hi
            rw [List.getElem?_eq_getElem hilt]
            rw [show st[i] = some cs from hi]
          obtain ⟨blk, q1, q2, vs, ty, q3, q4, q5⟩ := hg.objs i cs h1'
          have hun : unL ids (g.own blk) = none := by
            rw [q2]
            show (plc ids i).map Loc.obj = none
            rw [hp]; rfl
          have hkeep : ∀ (b : Nat) (l : Loc), g.own b = some l → unL ids (g.own b) = none → (match g.own b, unL ids (g.own b) with | some l, none => some l | _, _ => (g1.own b).map (upL (roL ids st.length))) = some l := by
            intro b l h1 h2
            rw [h2, h1]
          refine ⟨blk, ?_, hkeep blk _ q2 hun, vs, ty, ?_, q4.mono hG.hI ⟨_, rfl⟩, ?_⟩
          · show (g.σ ++ g1.σ.drop ids.length)[i]? = some blk
            rw [List.getElem?_append_left (by omega)]
            exact q1
          · rw [(hother blk _ q2 hun).1]; exact q3
          · intro j sz es cv hj hcv
            rcases q5 j sz es cv hj hcv with h | ⟨b, o, cap, rfl, h⟩
            · exact .inl h
            · refine .inr ⟨b, o, cap, rfl, ?_⟩
              rcases h with h | ⟨h1, ⟨us, uty, h2, h2'⟩, h3⟩
              · exact .inl h
              · have hunb : unL ids (g.own b) = none := by
                  rw [h1]
                  show (plc ids i).map (fun k => Loc.ot k j) = none
                  rw [hp]; rfl
                refine .inr ⟨hkeep b _ h1 hunb, ⟨us, uty, by rw [(hother b _ h1 hunb).1]; exact h2, h2'⟩, fun o' ho' => h3 o' (hnew b o' _ ho' h1 hunb)⟩
      | false =>
        rw [hb] at hi
        dsimp only at hi
        have hige : st.length ≤ i := by
          rcases Nat.lt_or_ge i st.length with h | h
          · have : Nat.blt i st.length = true := Nat.ble_eq_true_of_le h
            rw [this] at hb; cases hb
          · exact h
        obtain ⟨cs0, h1, rfl⟩ := Option.map_eq_some_iff.1 hi
        have h1' : st0'[ids.length + (i - st.length)]? = some (some cs0) := by
          rw [List.getD_eq_getElem?_getD] at h1
          cases hx : st0'[ids.length + (i - st.length)]? with
          | none => rw [hx] at h1; cases h1
          | some y => rw [hx] at h1; rw [show y = some cs0 from h1]
        obtain ⟨blk, q1, q2⟩ := hG.objs _ cs0 h1'
        have hro : roL ids st.length (ids.length + (i - st.length)) = i := by
          unfold roL
          rw [List.getElem?_eq_none (by omega)]
          dsimp only
          omega
        refine ⟨blk, ?_, hblk hro q2⟩
        have := hfwd _ blk q1
        rw [hro] at this
        exact this
    · show (g.σ ++ g1.σ.drop ids.length).length = (putS ids st st0').length
      unfold putS
      simp
      omega
  · intro b l hb hll
    have hb : (match g.own b, unL ids (g.own b) with | some l, none => some l | _, _ => (g1.own b).map (upL (roL ids st.length))) = some l := hb
    split at hb
    · next l' h1 h2 =>
      cases hb
      rw [hloc b _ h1] at hll; cases hll
    · obtain ⟨l', h1, rfl⟩ := Option.map_eq_some_iff.1 hb
      rw [upL_local] at hll
      rw [hL b l' h1 hll]
      rfl
  · intro sz es hr
    cases r0 <;> simp [ren] at hr
    next tp sz' es' =>
    obtain ⟨rfl, rfl, rfl⟩ := hr
    rcases htip _ es' rfl with h | ⟨b, o, cap, rfl, h⟩
    · exact .inl h
    · refine .inr ⟨b, o, cap, by rw [rens_length], ?_⟩
      rw [rens_length]
      rcases h with h | ⟨h1, h2, h3⟩
      · exact .inl h
      · refine .inr ⟨?_, h2, h3⟩
        show (match g.own b, unL ids (g.own b) with | some l, none => some l | _, _ => (g1.own b).map (upL (roL ids st.length))) = some .ret
        split
        · next l' k1 k2 =>
          obtain ⟨_, _, q3⟩ := hG.fr b (.inr ⟨by rw [k1]; rfl, k2⟩)
          rw [h1] at q3; cases q3
        · rw [h1]; rfl
end Go.V

/- V35: what a call leaves of new objects may be forgotten. No program in sight. -/
namespace Go.V
def keepOwn : Option Loc → Option Loc
  | some (.obj _) => none
  | some (.ot _ _) => none
  | o => o
theorem keepOwn_some {o : Option Loc} {l : Loc} (h : keepOwn o = some l) : o = some l := by
  unfold keepOwn at h
  split at h
  · cases h
  · cases h
  · exact h
/-- WHAT A CALL LEAVES OF NEW OBJECTS MAY BE FORGOTTEN, if its result has none. -/
theorem VCalls.forget {P : Program} {f : Nat} {args : List AV} {R : AV → St → Prop} (h : VCalls P f args [] R) {v : AV} (hR : ∀ r st', R r st' → r = v) (hv : ∀ ρ, ren ρ v = v) : VCalls P f args [] (fun r st' => r = v ∧ st' = []) := by
  refine ⟨⟨v, [], rfl, rfl⟩, h.enter, fun Fr g w cargs hg hloc ha => ?_⟩
  refine (h.out Fr g w cargs hg hloc ha).mono fun e w' ⟨cv, g1, r, st', he, hr, hG, hL, hrep, htip⟩ => ?_
  obtain rfl := hR _ _ hr
  have hσ : g.σ = [] := List.length_eq_zero_iff.1 hg.len
  refine ⟨cv, ⟨g1.I, [], fun b => keepOwn (g1.own b), g1.β⟩, r, [], he, ⟨rfl, rfl⟩, ?_, ?_, ?_, ?_⟩
  · refine ⟨hG.hI, by show g.σ <+: []; rw [hσ]; exact List.prefix_refl _, ?_, hG.size, hG.os, hG.tape, hG.output, hG.imm, ?_, ?_, hG.newI, ?_, rfl⟩
    · intro b hb
      obtain ⟨h1, h2, h3⟩ := hG.fr b hb
      refine ⟨h1, h2, ?_⟩
      show keepOwn (g1.own b) = none
      rw [h3]; rfl
    · intro b o l h1 h2
      exact hG.immOwn b o l h1 (keepOwn_some h2)
    · intro b l h2
      exact hG.ownlt b l (keepOwn_some h2)
    · intro id cs hi
      simp at hi
  · intro b l h1 h2
    exact hL b l (keepOwn_some h1) h2
  · have : ∀ (i b : Nat), g1.σ[(fun k => g1.σ.length + k) i]? = some b → ([] : List Nat)[i]? = some b := by
      intro i b hb
      rw [List.getElem?_eq_none (by dsimp only; omega)] at hb
      cases hb
    exact Rep.of_ren this hrep (hv _).symm
  · intro sz es hs
    rcases htip sz es hs with h | ⟨b, o, cap, h0, h⟩
    · exact .inl h
    · refine .inr ⟨b, o, cap, h0, ?_⟩
      rcases h with h | ⟨h1, h2, h3⟩
      · exact .inl h
      · refine .inr ⟨?_, h2, h3⟩
        show keepOwn (g1.own b) = _
        rw [h1]; rfl
theorem putS_nil (st : St) : putS [] st [] = st := by
  refine List.ext_getElem? fun i => ?_
  rcases Nat.lt_or_ge i st.length with hi | hi
  · rw [putS_get (by simpa using hi)]
    have : Nat.blt i st.length = true := Nat.ble_eq_true_of_le hi
    rw [this]
    dsimp only [plc]
    rw [List.getD_eq_getElem?_getD, List.getElem?_eq_getElem hi]
    rfl
  · rw [List.getElem?_eq_none (by unfold putS; simpa using hi), List.getElem?_eq_none hi]
/-- A call that is handed no object works beside any store. -/
theorem VCalls.beside {P : Program} {f : Nat} {args : List AV} {v : AV} (h : VCalls P f args [] (fun r st' => r = v ∧ st' = [])) (ha : ∀ ρ, rens ρ args = args) (hv : ∀ ρ, ren ρ v = v) (st : St) : VCalls P f args st (fun r st' => r = v ∧ st' = st) := by
  have := h.frame (ids := []) (st := st) rfl List.nodup_nil (by simp) (by simp)
  rw [ha] at this
  refine this.mono ?_
  rintro r st' ⟨r0, st0, ⟨rfl, rfl⟩, rfl, rfl⟩
  exact ⟨hv _, putS_nil st⟩
/-- Both. -/
theorem VCalls.plain {P : Program} {f : Nat} {args : List AV} {v : AV} (h : VCalls P f args [] (fun r _ => r = v)) (ha : ∀ ρ, rens ρ args = args) (hv : ∀ ρ, ren ρ v = v) (st : St) : VCalls P f args st (fun r st' => r = v ∧ st' = st) :=
  (h.forget (fun _ _ h => h) hv).beside ha hv st
end Go.V

/- V36: running: the friendly evaluation where all is known, as a function. First part: tables of temporaries; checks as truth values. No program in sight. -/
namespace Go.V
inductive Tr (α : Type) where
  | lf
  | nd (l : Tr α) (v : α) (r : Tr α)
def look {α : Type} (d : α) : Tr α → Nat → α
  | .lf, _ => d
  | .nd l v r, n => match Nat.beq n 0 with
    | true => v
    | false => match Nat.beq (Nat.mod n 2) 1 with
      | true => look d l (Nat.div n 2)
      | false => look d r (Nat.sub (Nat.div n 2) 1)
def Tr.left {α : Type} : Tr α → Tr α | .lf => .lf | .nd l _ _ => l
def Tr.right {α : Type} : Tr α → Tr α | .lf => .lf | .nd _ _ r => r
def Tr.val {α : Type} (d : α) : Tr α → α | .lf => d | .nd _ v _ => v
def ins {α : Type} (d : α) : Nat → Tr α → Nat → α → Option (Tr α)
  | 0, _, _, _ => none
  | k + 1, T, n, v => match Nat.beq n 0 with
    | true => some (.nd T.left v T.right)
    | false => match Nat.beq (Nat.mod n 2) 1 with
      | true => match ins d k T.left (Nat.div n 2) v with
        | some l => some (.nd l (T.val d) T.right)
        | none => none
      | false => match ins d k T.right (Nat.sub (Nat.div n 2) 1) v with
        | some r => some (.nd T.left (T.val d) r)
        | none => none
theorem look_nd {α : Type} (d : α) (T : Tr α) (n : Nat) : look d T n = if n = 0 then T.val d else if n % 2 = 1 then look d T.left (n / 2) else look d T.right (n / 2 - 1) := by
  cases T with
  | lf =>
    show d = _
    split
    · rfl
    · split <;> rfl
  | nd l v r =>
    show (match Nat.beq n 0 with | true => v | false => match Nat.beq (Nat.mod n 2) 1 with | true => look d l (Nat.div n 2) | false => look d r (Nat.sub (Nat.div n 2) 1)) = if n = 0 then v else if n % 2 = 1 then look d l (n / 2) else look d r (n / 2 - 1)
    by_cases h : n = 0
    · subst h; rfl
    · have : Nat.beq n 0 = false := by
        cases hb : Nat.beq n 0 with
        | false => rfl
        | true => exact absurd (Nat.eq_of_beq_eq_true hb) h
      rw [this, if_neg h]
      dsimp only
      by_cases h2 : n % 2 = 1
      · have : Nat.beq (Nat.mod n 2) 1 = true := by
          show Nat.beq (n % 2) 1 = true
          rw [h2]; rfl
        rw [this, if_pos h2]; rfl
      · have : Nat.beq (Nat.mod n 2) 1 = false := by
          cases hb : Nat.beq (Nat.mod n 2) 1 with
          | false => rfl
          | true => exact absurd (Nat.eq_of_beq_eq_true hb) h2
        rw [this, if_neg h2]; rfl
theorem look_ins {α : Type} {d : α} : ∀ {k : Nat} {T T' : Tr α} {n : Nat} {v : α}, ins d k T n v = some T' → look d T' = upd (look d T) n v := by
  intro k
  induction k with
  | zero => intro T T' n v h; cases h
  | succ k ih =>
    intro T T' n v h
    funext t
    unfold ins at h
    unfold upd
    split at h
    · next hb =>
      have hn := Nat.eq_of_beq_eq_true hb
      subst hn
      obtain rfl := Option.some.inj h
      rw [look_nd, look_nd d T t]
      by_cases ht : t = 0
      · simp [ht, Tr.val]
      · simp [ht, Tr.left, Tr.right]
    · next hb =>
      have hn : ¬ n = 0 := by rintro rfl; cases hb
      split at h
      · next h2 =>
        have h2 : n % 2 = 1 := Nat.eq_of_beq_eq_true h2
        split at h
        · next l hl =>
          obtain rfl := Option.some.inj h
          rw [look_nd, look_nd d T t]
          have := ih hl
          simp only [Tr.val, Tr.left, Tr.right, this]
          by_cases ht : t = 0
          · subst ht; simp [Ne.symm hn]
          · simp only [ht, if_false]
            by_cases h3 : t % 2 = 1
            · simp only [h3, if_true]
              unfold upd
              by_cases ht2 : t / 2 = n / 2
              · have : t = n := by omega
                subst this
                simp
                intro h; exact absurd rfl h
              · have : ¬ t = n := by rintro rfl; exact ht2 rfl
                have h4 : ¬ t / 2 = Nat.div n 2 := ht2
                simp [h4, this]
            · have : ¬ t = n := by rintro rfl; exact h3 h2
              simp [h3, this]
        · cases h
      · next h2 =>
        have h2 : ¬ n % 2 = 1 := by
          intro h
          have : Nat.beq (Nat.mod n 2) 1 = true := by
            show Nat.beq (n % 2) 1 = true
            rw [h]; rfl
          rw [this] at h2; cases h2
        split at h
        · next r hr =>
          obtain rfl := Option.some.inj h
          rw [look_nd, look_nd d T t]
          have := ih hr
          simp only [Tr.val, Tr.left, Tr.right, this]
          by_cases ht : t = 0
          · subst ht; simp [Ne.symm hn]
          · simp only [ht, if_false]
            by_cases h3 : t % 2 = 1
            · have : ¬ t = n := by rintro rfl; exact h2 h3
              simp [h3, this]
            · simp only [h3, if_false]
              unfold upd
              by_cases ht2 : t / 2 - 1 = n / 2 - 1
              · have : t = n := by omega
                subst this
                simp
                intro h; exact absurd rfl h
              · have : ¬ t = n := by rintro rfl; exact ht2 rfl
                have h4 : ¬ t / 2 - 1 = Nat.div n 2 - 1 := ht2
                simp [h4, this, Tr.right]
        · cases h
def Chk.isOk : Chk → Bool
  | .ok => true
  | _ => false
theorem Chk.isOk_holds {c : Chk} (h : c.isOk = true) : c.holds := by cases c <;> first | trivial | cases h
theorem Chk.holds_and {c d : Chk} (h : c.holds) (k : d.holds) : (Chk.and c d).holds := by
  cases c <;> cases d <;> first | trivial | exact h | exact k | exact ⟨h, k⟩
theorem chkB_of {b : Bool} (h : b = true) : (chkB b).holds := by subst h; trivial
def bInB (n len : Int) : Bool := decide (0 ≤ n) && decide (n < len)
def bCuts (l h n : Int) : Bool := decide (0 ≤ l) && (decide (l ≤ h) && decide (h ≤ n))
theorem bInB_ok {n len : Int} (h : bInB n len = true) : InB n len := by
  unfold bInB at h
  rw [Bool.and_eq_true] at h
  exact ⟨of_decide_eq_true h.1, of_decide_eq_true h.2⟩
theorem bCuts_ok {l h n : Int} (k : bCuts l h n = true) : Cuts l h n := by
  unfold bCuts at k
  rw [Bool.and_eq_true, Bool.and_eq_true] at k
  exact ⟨of_decide_eq_true k.1, of_decide_eq_true k.2.1, of_decide_eq_true k.2.2⟩
/-- Checks that are more than a look at the text, as truth values. -/
def qB (pb : Nat → List AV → St → Bool) (C : Cf) (o : Oper) (e : Env) (bx : Bx) (st : St) : Bool :=
  (match o.op with
  | .pick c a b => match rd C o.type e c with
    | .bool c => bif c then isB (rd C o.type e a) else isB (rd C o.type e b)
    | _ => false
  | .indexAddr t a i => match rd C 0 e i with
    | .int _ n => match C.kind t with
      | .slice _ => match rd C t e a with
        | .sl _ sz es => eqSz sz (C.esz t) && bInB n (es.length : Int)
        | .msl sz _ _ len => eqSz sz (C.esz t) && bInB n (len : Int)
        | _ => false
      | .array len _ => Nat.blt 0 (C.esz t) && ((qaddr (rd C t e a) (n.toNat * C.esz t)).1.isOk && bInB n (len : Int))
      | _ => false
    | _ => false
  | .index t x i => match rd C 0 e i with
    | .int _ n => match C.kind t with
      | .array len el => match rd C t e x with
        | .agg cs => (qpart C el cs (n.toNat * C.sz el)).1.isOk && bInB n (len : Int)
        | _ => false
      | .str => match rd C t e x with
        | .str s => bInB n (s.length : Int)
        | _ => false
      | _ => false
    | _ => false
  | .binOp op t x y ty => match rd C t e x, rd C ty e y with
    | .int k _, .int k' b => match op with
      | .shl | .shr => decide (0 ≤ b)
      | .quo | .rem => kindEq k k' && !decide (b = 0)
      | _ => false
    | .str a, .str b => match op with
      | .add => decide (((a.length + b.length : Nat) : Int) ≤ 9223372036854775807)
      | _ => false
    | _, _ => false
  | .convert s d x => match rd C s e x with
    | .sl _ sz es => match C.kind s, C.kind d with
      | .slice el, .str => match C.kind el with
        | .int .u8 => Nat.beq sz 1 && es.all isU8
        | _ => false
      | _, _ => false
    | _ => false
  | .slice t x lo hi mx => match C.kind t with
    | .slice _ => match rd C t e x with
      | .sl _ sz es => match bound C e 0 lo, bound C e (es.length : Int) hi with
        | .int _ l, .int _ h => match mx with
          | none => eqSz sz (C.esz t) && bCuts l h (es.length : Int)
          | some m => match rd C 0 e m, hi with
            | .int _ m, some _ => eqSz sz (C.esz t) && (bCuts l h (es.length : Int) && decide (m = h))
            | _, _ => false
        | _, _ => false
      | _ => false
    | .str => match rd C t e x, mx with
      | .str s, none => match bound C e 0 lo, bound C e (s.length : Int) hi with
        | .int _ l, .int _ h => bCuts l h (s.length : Int)
        | _, _ => false
      | _, _ => false
    | _ => false
  | .makeSlice t l c => match C.kind t, rd C 0 e l, rd C 0 e c with
    | .slice el, .int _ n, .int _ m => C.has el && (Nat.blt 0 (C.sz el) && (decide (0 ≤ n) && (decide (n = m) && (decide (n * (C.bytes el : Int) ≤ 140737488355328) && decide (n ≤ 9223372036854775807)))))
    | _, _, _ => false
  | .call c => match c.callee with
    | .value (.func f) => match C.pf f with
      | some _ => noLps (qargs C e c.args.toList c.argTypes.toList) && pb f (qargs C e c.args.toList c.argTypes.toList) st
      | none => false
    | _ => false
  | _ => false) || (q C o e bx st).1.isOk
theorem and2 {a b : Bool} (h : (a && b) = true) : a = true ∧ b = true := (Bool.and_eq_true _ _).mp h
def PbOk (C : Cf) (pb : Nat → List AV → St → Bool) : Prop := ∀ f p, C.pf f = some p → ∀ args st, pb f args st = true → p.pre args st
theorem qB_ok {pb : Nat → List AV → St → Bool} {C : Cf} (hx : C.x = std) (hpb : PbOk C pb) {o : Oper} {e : Env} {bx : Bx} {st : St} (h : qB pb C o e bx st = true) : (q C o e bx st).1.holds := by
  unfold qB at h
  rcases (Bool.or_eq_true _ _).mp h with h | h
  case inr => exact Chk.isOk_holds h
  unfold q
  cases hop : o.op <;> rw [hop] at h <;> (try dsimp only at h ⊢) <;> try (cases h; done)
  case pick c a b =>
    generalize rd C o.type e c = cv at *
    generalize rd C o.type e a = av at *
    generalize rd C o.type e b = bv at *
    cases cv <;> (try dsimp only at h ⊢) <;> try (cases h; done)
    cases isB av && isB bv
    · exact ⟨h⟩
    · trivial
  case indexAddr t a i =>
    generalize rd C 0 e i = iv at *
    generalize rd C t e a = av at *
    cases iv <;> (try dsimp only at h ⊢) <;> try (cases h; done)
    unfold qindexAddr
    generalize hk : C.kind t = kd at *
    cases kd <;> (try dsimp only at h ⊢) <;> try (cases h; done)
    · cases av <;> (try dsimp only at h ⊢) <;> try (cases h; done)
      · rw [hx]
        exact Chk.holds_and (chkB_of (and2 h).1) (bInB_ok (and2 h).2)
      · exact Chk.holds_and (chkB_of (and2 h).1) (bInB_ok (and2 h).2)
    · generalize qaddr av _ = qa at *
      obtain ⟨c, v⟩ := qa
      (try dsimp only at h ⊢)
      exact Chk.holds_and (chkB_of (and2 h).1) (Chk.holds_and (Chk.isOk_holds (and2 (and2 h).2).1) (bInB_ok (and2 (and2 h).2).2))
  case index t x i =>
    generalize rd C 0 e i = iv at *
    generalize rd C t e x = av at *
    cases iv <;> (try dsimp only at h ⊢) <;> try (cases h; done)
    unfold qindex
    generalize hk : C.kind t = kd at *
    cases kd <;> (try dsimp only at h ⊢) <;> try (cases h; done)
    · cases av <;> (try dsimp only at h ⊢) <;> try (cases h; done)
      rw [hx]
      exact bInB_ok h
    · cases av <;> (try dsimp only at h ⊢) <;> try (cases h; done)
      generalize qpart C _ _ _ = qa at *
      obtain ⟨c, v⟩ := qa
      (try dsimp only at h ⊢)
      exact Chk.holds_and (Chk.isOk_holds (and2 h).1) (bInB_ok (and2 h).2)
  case binOp op t x y ty =>
    generalize rd C t e x = xv at *
    generalize rd C ty e y = yv at *
    cases xv <;> cases yv <;> (try dsimp only at h ⊢) <;> try (cases h; done)
    case int.int k a k' b =>
      cases op <;> (try dsimp only at h ⊢) <;> try (cases h; done)
      all_goals unfold qbin; dsimp only
      · rw [(and2 h).1]
        exact ⟨by have := (and2 h).2; simpa using this⟩
      · rw [(and2 h).1]
        exact ⟨by have := (and2 h).2; simpa using this⟩
      · exact ⟨of_decide_eq_true h⟩
      · exact ⟨of_decide_eq_true h⟩
    case str.str a b =>
      cases op <;> (try dsimp only at h ⊢) <;> try (cases h; done)
      unfold qbin qstr; dsimp only
      exact ⟨by have := of_decide_eq_true h; have e : IntKind.max .i64 = 9223372036854775807 := by decide
                rw [e]; exact this⟩
  case convert s d x =>
    generalize rd C s e x = xv at *
    cases xv <;> (try dsimp only at h ⊢) <;> try (cases h; done)
    unfold qconv; dsimp only
    generalize C.kind s = ks at *
    generalize C.kind d = kd at *
    cases ks <;> (try dsimp only at h ⊢) <;> try (cases h; done)
    cases kd <;> (try dsimp only at h ⊢) <;> try (cases h; done)
    generalize C.kind _ = ke at *
    cases ke <;> (try dsimp only at h ⊢) <;> try (cases h; done)
    next k =>
      cases k <;> (try dsimp only at h ⊢) <;> try (cases h; done)
      exact Chk.holds_and (chkB_of (and2 h).1) ⟨(and2 h).2⟩
  case slice t x lo hi mx =>
    unfold qslice
    generalize rd C t e x = xv at *
    generalize hk : C.kind t = kd at *
    cases kd <;> (try dsimp only at h ⊢) <;> try (cases h; done)
    · cases xv <;> (try dsimp only at h ⊢) <;> try (cases h; done)
      cases mx <;> (try dsimp only at h ⊢) <;> try (cases h; done)
      rw [hx]
      have e1 : ∀ l : List UInt8, std .slen l = (l.length : Int) := fun _ => rfl
      rw [e1]
      split at h
      · next l h' hl hh =>
        rw [hl, hh]
        exact bCuts_ok h
      · cases h
    · cases xv <;> (try dsimp only at h ⊢) <;> try (cases h; done)
      rw [hx]
      have e1 : ∀ l : List AV, std .len l = (l.length : Int) := fun _ => rfl
      rw [e1]
      split at h
      · next l h' hl hh =>
        rw [hl, hh]
        dsimp only
        cases mx with
        | none => exact Chk.holds_and (chkB_of (and2 h).1) (bCuts_ok (and2 h).2)
        | some m =>
          (try dsimp only at h ⊢)
          generalize rd C 0 e m = mv at *
          cases mv <;> (try dsimp only at h ⊢) <;> try (cases h; done)
          cases hi <;> (try dsimp only at h ⊢) <;> try (cases h; done)
          exact Chk.holds_and (chkB_of (and2 h).1) ⟨bCuts_ok (and2 (and2 h).2).1, ⟨of_decide_eq_true (and2 (and2 h).2).2⟩⟩
      · cases h
  case call c =>
    cases hcl : c.callee <;> rw [hcl] at h <;> (try dsimp only at h ⊢) <;> try (cases h; done)
    next x =>
    cases x <;> (try dsimp only at h ⊢) <;> try (cases h; done)
    next f =>
    cases hp : C.pf f with
    | none => rw [hp] at h; cases h
    | some p =>
      rw [hp] at h
      exact Chk.holds_and (chkB_of (and2 h).1) (hpb f p hp _ _ (and2 h).2)
  case makeSlice t l c =>
    generalize rd C 0 e l = lv at *
    generalize rd C 0 e c = cv at *
    generalize C.kind t = kt at *
    cases kt <;> (try dsimp only at h ⊢) <;> try (cases h; done)
    cases lv <;> (try dsimp only at h ⊢) <;> try (cases h; done)
    cases cv <;> (try dsimp only at h ⊢) <;> try (cases h; done)
    obtain ⟨h1, h⟩ := and2 h
    obtain ⟨h2, h⟩ := and2 h
    obtain ⟨h3, h⟩ := and2 h
    obtain ⟨h4, h⟩ := and2 h
    obtain ⟨h5, h6⟩ := and2 h
    exact Chk.holds_and (chkB_of (by rw [h1, h2]; rfl)) ⟨of_decide_eq_true h3, of_decide_eq_true h4, of_decide_eq_true h5, of_decide_eq_true h6⟩
end Go.V

/- V37: running, second part: effects, regions, code, calls; what is run is what is shown. No program in sight. -/
namespace Go.V
abbrev Run := Nat → List AV → St → Option (AV × St)
abbrev TE := Tr AV
abbrev TB := Tr (Option (List AV))
def mk3 : Option TE → Option TB → St → Option (TE × TB × St)
  | some T, some B, st => some (T, B, st)
  | _, _, _ => none
theorem mk3_some {a : Option TE} {b : Option TB} {st : St} {r : TE × TB × St} (h : mk3 a b st = some r) : ∃ T B, a = some T ∧ b = some B ∧ r = (T, B, st) := by
  cases a <;> cases b <;> first | (cases h; done) | exact ⟨_, _, rfl, rfl, (Option.some.inj h).symm⟩
def insE (T : TE) (t : Nat) (v : AV) : Option TE := ins .undef 14 T t v
def insB (B : TB) (b : Nat) (v : Option (List AV)) : Option TB := ins none 14 B b v
def insO (T : TE) (d : Option Nat) (v : AV) : Option TE := match d with | some d => insE T d v | none => some T
def insT (T : TE) (d : Option Nat) : Option TE := match d with | some d => insE T d (ut (look .undef T d)) | none => some T
def Tr.map {α : Type} (f : α → α) : Tr α → Tr α
  | .lf => .lf
  | .nd l v r => .nd (l.map f) (f v) (r.map f)
theorem look_map {α : Type} {f : α → α} {d : α} (hd : f d = d) : ∀ (T : Tr α) (n : Nat), look d (T.map f) n = f (look d T n)
  | .lf, n => hd.symm
  | .nd l v r, n => by
    rw [look_nd, look_nd d (.nd l v r)]
    show (if n = 0 then f v else if n % 2 = 1 then look d (l.map f) (n / 2) else look d (r.map f) (n / 2 - 1)) = f (if n = 0 then v else if n % 2 = 1 then look d l (n / 2) else look d r (n / 2 - 1))
    rw [look_map hd l, look_map hd r]
    split
    · rfl
    · split <;> rfl
def fzV (b : Nat) (cs : List AV) : AV → AV
  | .lp b' o => match Nat.beq b' b with | true => .ip (.agg cs) o | false => .lp b' o
  | v => v
def mk2 (T : Option TE) (f : TE → Option TE) : Option TE := match T with | some T => f T | none => none
theorem mk2_some {T : Option TE} {f : TE → Option TE} {T' : TE} (h : mk2 T f = some T') : ∃ U, T = some U ∧ f U = some T' := by
  cases T with
  | none => cases h
  | some U => exact ⟨U, rfl, h⟩
def xmove (C : Cf) (ty : Nat) (x : Operand) (dst : Option Nat) (T : TE) (B : TB) (st : St) : Option (TE × TB × St) :=
  match dst with
  | none => none
  | some d => match C.fz d with
    | true => match rd C ty (look .undef T) x with
      | .lp b off => match look none B b with
        | some cs => mk3 (insE (T.map (fzV b (cs.map ut))) d (.ip (.agg (cs.map ut)) off)) (insB B b none) st
        | none => none
      | .msl sz id 0 len => match st[id]? with
        | some (some cs) => match Nat.beq cs.length (len * sz) && (scalAll cs && Nat.blt 0 sz) with
          | true => mk3 (insE T d (.sl true sz (C.x .chunks sz len (cs.map ut)))) (some B) (st.set id none)
          | false => none
        | _ => none
      | _ => none
    | false => match x with
      | .tmp t => match noLp (look .undef T t) with
        | true => mk3 (mk2 (insE T t (ut (look .undef T t))) fun U => insE U d (look .undef T t)) (some B) st
        | false => none
      | .const v => mk3 (insE T d (ofVal C ty v)) (some B) st
      | _ => none
def xstore (C : Cf) (t : Nat) (v : AV) (a : AV) (x : Option Nat) (T : TE) (B : TB) (st : St) : Option (TE × TB × St) :=
  match a with
  | .lp b off => match look none B b with
    | some cs => match Nat.ble (off + C.sz t) cs.length with
      | true => match x, isSl v with
        | some x, true => mk3 (insE T x (ut v)) (insB B b (some (setCells cs off v.cells))) st
        | _, _ => mk3 (some T) (insB B b (some (setCells cs off (v.cells.map tn)))) st
      | false => none
    | none => none
  | .ref id off => match st[id]? with
    | some (some cs) => match Nat.ble (off + C.sz t) cs.length with
      | true => match x, isSl v with
        | some x, true => mk3 (insE T x (ut v)) (some B) (st.set id (some (setCells cs off v.cells)))
        | _, _ => mk3 (some T) (some B) (st.set id (some (setCells cs off (v.cells.map tn))))
      | false => none
    | _ => none
  | _ => none
def xload (d off : Nat) (i : TInfo) (a : AV) (T : TE) (B : TB) (st : St) : Option (TE × TB × St) :=
  match a with
  | .lp b off => match look none B b with
    | some cs => match Nat.blt off cs.length && !i.agg with
      | true => mk3 (insE T d (cs.getD off .undef)) (insB B b (some (cs.set off (ut (cs.getD off .undef))))) st
      | false => none
    | none => none
  | .ref id off => match st[id]? with
    | some (some cs) => match Nat.blt off cs.length && !i.agg with
      | true => mk3 (insE T d (cs.getD off .undef)) (some B) (st.set id (some (cs.set off (ut (cs.getD off .undef)))))
      | false => none
    | _ => none
  | _ => none
def xcallO (call : Run) (C : Cf) (f : Nat) (as : List AV) (dst : Option Nat) (T : TE) (B : TB) (st : St) : Option (TE × TB × St) :=
  match noLps as with
  | true => match call f as st with
    | some (r, st') => mk3 (insO T dst (bif trD C dst then r else ut r)) (some B) st'
    | none => none
  | false => none
def xeff (call : Run) (C : Cf) (o : Oper) (T : TE) (B : TB) (st : St) : Option (TE × TB × St) :=
  match o.op with
  | .store t a x => match scalAll (rd C t (look .undef T) x).cells && Nat.beq (rd C t (look .undef T) x).cells.length (C.sz t) && C.has t && o.dst.isNone with
    | false => none
    | true => xstore C t (rd C t (look .undef T) x) (rd C 0 (look .undef T) a) (trX C x) T B st
  | .alloc t => match o.dst, C.ti t with
    | some d, some i => match C.hp d with
      | true => mk3 (insE T d (.ref st.length 0)) (some B) (st ++ [some ((i.zero.cells.map nz).map tn)])
      | false => match look none B d with
        | none => mk3 (insE T d (.lp d 0)) (insB B d (some ((i.zero.cells.map nz).map tn))) st
        | some _ => none
    | _, _ => none
  | .box t x => match o.dst with
    | some d => match scalAll (rd C t (look .undef T) x).cells with
      | false => none
      | true => match C.hp d with
        | true => mk3 (insE T d (.ref st.length 0)) (some B) (st ++ [some ((rd C t (look .undef T) x).cells.map tn)])
        | false => match look none B d with
          | none => mk3 (insE T d (.lp d 0)) (insB B d (some ((rd C t (look .undef T) x).cells.map tn))) st
          | some _ => none
    | none => none
  | .makeSlice t l c => match C.kind t, rd C 0 (look .undef T) l, rd C 0 (look .undef T) c, o.dst with
    | .slice el, .int _ n, .int _ m, some d => match (C.has el && Nat.blt 0 (C.sz el)) && (decide (0 ≤ n) && (decide (n = m) && (decide (n * (C.bytes el : Int) ≤ 140737488355328) && decide (n ≤ 9223372036854775807)))) with
      | true => mk3 (insE T d (.msl (C.sz el) st.length 0 n.toNat)) (some B) (st ++ [some (C.x .repc n ((C.zero el).cells.map ut))])
      | false => none
    | _, _, _, _ => none
  | .move x | .assign x => xmove C o.type x o.dst T B st
  | .load t a => match o.dst, C.ti t with
    | some d, some i => xload d 0 i (rd C 0 (look .undef T) a) T B st
    | _, _ => none
  | .binOp .eql t x y _ => match nilSlice y, C.kind t, rd C t (look .undef T) x with
    | true, .slice _, .sl _ _ (_ :: _) => mk3 (insO T o.dst (.bool false)) (some B) st
    | _, _, _ => none
  | .call c => match c.callee with
    | .builtin .append => match c.args.toList, c.argTypes.toList, o.dst with
      | [x, y], [sT, tx], some d => match C.kind sT, rd C sT (look .undef T) x, rd C tx (look .undef T) y with
        | .slice el, .sl true sz es, ys => match (appOk (C.kind tx) (C.sz el) ys && eqSz sz (C.sz el) && Nat.blt 0 (C.bytes el)) && decide (((es.length : Int) + appLen C.x ys) * (C.bytes el : Int) ≤ 140737488355328) with
          | true => mk3 (mk2 (insT T (tmpOf x)) fun U => insE U d (.sl true (C.sz el) (C.x .app es (appEls C.x ys)))) (some B) st
          | false => none
        | _, _, _ => none
      | _, _, _ => none
    | .value (.func f) => xcallO call C f (qargs C (look .undef T) c.args.toList c.argTypes.toList) o.dst T B st
    | .value (.tmp t) => match look .undef T t with
      | .fn f first cap => match noLps (qargs C (look .undef T) c.args.toList c.argTypes.toList) with
        | true => match call f (first ++ qargs C (look .undef T) c.args.toList c.argTypes.toList ++ cap) st with
          | some (r, st') => mk3 (insO T o.dst (bif trD C o.dst then r else ut r)) (some B) st'
          | none => none
        | false => none
      | _ => none
    | _ => none
  | _ => none
def RunOk (P : Program) (call : Run) : Prop := ∀ f args st r st', call f args st = some (r, st') → VCalls P f args st (fun r2 s2 => r2 = r ∧ s2 = st')
theorem look_insE {T T' : TE} {t : Nat} {v : AV} (h : insE T t v = some T') : look .undef T' = upd (look .undef T) t v := look_ins h
theorem look_insB {B B' : TB} {b : Nat} {v : Option (List AV)} (h : insB B b v = some B') : look none B' = upd (look none B) b v := look_ins h
theorem look_insO {T T' : TE} {d : Option Nat} {v : AV} (h : insO T d v = some T') : look .undef T' = updO (look .undef T) d v := by
  cases d with
  | none => obtain rfl := Option.some.inj h; rfl
  | some d => exact look_insE h
theorem look_insT {T T' : TE} {d : Option Nat} (h : insT T d = some T') : look .undef T' = utAt (look .undef T) d := by
  cases d with
  | none => obtain rfl := Option.some.inj h; rfl
  | some d => exact look_insE h
section
variable {P : Program} {C : Cf} {o : Oper} {T T' : TE} {B B' : TB} {st st' : St} {K : Env → Bx → St → Prop} {call : Run}
theorem xmove_ok {ty : Nat} {x : Operand} {dst : Option Nat} (h : xmove C ty x dst T B st = some (T', B', st')) (hK : K (look .undef T') (look none B') st') : vmove C ty x dst (look .undef T) (look none B) st K := by
  unfold xmove at h
  unfold vmove
  cases dst with
  | none => cases h
  | some d =>
    (try dsimp only at h ⊢)
    generalize C.fz d = fz at *
    cases fz <;> (try dsimp only at h ⊢)
    · cases x <;> (try dsimp only at h ⊢) <;> try (cases h; done)
      · next t =>
        generalize hv : look AV.undef T t = v at *
        generalize noLp v = nl at *
        cases nl <;> (try dsimp only at h ⊢) <;> try (cases h; done)
        obtain ⟨U, V, h1, h2, h3⟩ := mk3_some h
        obtain ⟨W, h4, h5⟩ := mk2_some h1
        cases h3; cases h2
        rw [look_insE h5, look_insE h4] at hK
        exact hK
      · obtain ⟨U, V, h1, h2, h3⟩ := mk3_some h
        cases h3; cases h2
        rw [look_insE h1] at hK
        exact hK
    · generalize rd C ty (look AV.undef T) x = v at *
      cases v <;> (try dsimp only at h ⊢) <;> try (cases h; done)
      · next sz id off len =>
        cases off with
        | succ k => cases h
        | zero =>
        replace h : (match st[id]? with
          | some (some cs) => match Nat.beq cs.length (len * sz) && (scalAll cs && Nat.blt 0 sz) with
            | true => mk3 (insE T d (.sl true sz (C.x .chunks sz len (cs.map ut)))) (some B) (st.set id none)
            | false => none
          | _ => none) = some (T', B', st') := h
        show (match st[id]? with
          | some (some cs) => Need (Both (EqInt cs.length (len * sz)) (AllScal cs)) true (match Nat.blt 0 sz with
            | true => K (upd (look .undef T) d (.sl true sz (C.x .chunks sz len (cs.map ut)))) (look none B) (st.set id none)
            | false => False)
          | _ => False)
        generalize st[id]? = s at *
        cases s with
        | none => cases h
        | some s =>
        cases s with
        | none => cases h
        | some cs =>
        dsimp only at h ⊢
        split at h
        · next hb =>
          obtain ⟨b1, b2⟩ := and2 hb
          obtain ⟨b2, b3⟩ := and2 b2
          obtain ⟨U, V, h1, h2, h3⟩ := mk3_some h
          cases h3; cases h2
          rw [look_insE h1] at hK
          refine ⟨fun _ => ⟨⟨by have := Nat.eq_of_beq_eq_true b1; exact_mod_cast this⟩, ⟨b2⟩⟩, ?_⟩
          rw [b3]
          exact hK
        · cases h
      · next b off =>
        generalize hb : look none B b = s at *
        cases s <;> (try dsimp only at h ⊢) <;> try (cases h; done)
        next cs =>
        obtain ⟨U, V, h1, h2, h3⟩ := mk3_some h
        cases h3
        rw [look_insE h1, look_insB h2] at hK
        have e : look AV.undef (T.map (fzV b (cs.map ut))) = freeze b (cs.map ut) (look AV.undef T) := by
          funext t
          rw [look_map (by rfl)]
          unfold freeze fzV
          rfl
        rw [e] at hK
        exact hK
theorem xload_ok {d k : Nat} {i : TInfo} {t : Nat} {a : Operand} (hop : o.op = .load t a) (hd : o.dst = some d) (hi : C.ti t = some i) (h : xload d k i (rd C 0 (look .undef T) a) T B st = some (T', B', st')) (hK : K (look .undef T') (look none B') st') : veff P C o (look .undef T) (look none B) st K := by
  unfold veff
  rw [hop]
  dsimp only
  rw [hd, hi]
  generalize rd C 0 (look AV.undef T) a = v at *
  unfold xload at h
  cases v <;> (try dsimp only at h ⊢) <;> try (cases h; done)
  · next b off =>
    generalize look none B b = s at *
    cases s <;> (try dsimp only at h ⊢) <;> try (cases h; done)
    next cs =>
    generalize (Nat.blt off cs.length && !i.agg) = c at *
    cases c <;> (try dsimp only at h ⊢) <;> try (cases h; done)
    obtain ⟨U, V, h1, h2, h3⟩ := mk3_some h
    cases h3
    rw [look_insE h1, look_insB h2] at hK
    exact hK
  · next id off =>
    generalize st[id]? = s at *
    cases s <;> (try dsimp only at h ⊢) <;> try (cases h; done)
    next s =>
    cases s <;> (try dsimp only at h ⊢) <;> try (cases h; done)
    next cs =>
    generalize (Nat.blt off cs.length && !i.agg) = c at *
    cases c <;> (try dsimp only at h ⊢) <;> try (cases h; done)
    obtain ⟨U, V, h1, h2, h3⟩ := mk3_some h
    cases h3; cases h2
    rw [look_insE h1] at hK
    exact hK
theorem xeff_ok (hx : C.x = std) (hc : RunOk P call) (h : xeff call C o T B st = some (T', B', st')) (hK : K (look .undef T') (look none B') st') : veff P C o (look .undef T) (look none B) st K := by
  unfold xeff at h
  cases hop : o.op <;> rw [hop] at h <;> (try dsimp only at h) <;> try (cases h; done)
  case load t a =>
    cases hd : o.dst with
    | none => rw [hd] at h; cases h
    | some d =>
      cases hi : C.ti t with
      | none => rw [hd, hi] at h; cases h
      | some i => rw [hd, hi] at h; exact xload_ok hop hd hi h hK
  case move x => unfold veff; rw [hop]; exact xmove_ok h hK
  case assign x => unfold veff; rw [hop]; exact xmove_ok h hK
  case store t a x =>
    unfold veff; rw [hop]; dsimp only
    generalize rd C t (look AV.undef T) x = v at *
    split at h
    · cases h
    · next hg =>
      rw [hg]; dsimp only
      unfold xstore at h
      generalize rd C 0 (look AV.undef T) a = av at *
      cases av <;> (try dsimp only at h ⊢) <;> try (cases h; done)
      · next b off =>
        generalize look none B b = s at *
        cases s <;> (try dsimp only at h ⊢) <;> try (cases h; done)
        next cs =>
        generalize Nat.ble (off + C.sz t) cs.length = c at *
        cases c <;> (try dsimp only at h ⊢) <;> try (cases h; done)
        generalize trX C x = tx at *
        generalize isSl v = sv at *
        cases tx <;> cases sv <;> (try dsimp only at h ⊢)
        all_goals
          obtain ⟨U, V, h1, h2, h3⟩ := mk3_some h
          cases h3
          rw [look_insB h2] at hK
          first
            | (rw [look_insE h1] at hK; exact hK)
            | (cases h1; exact hK)
      · next id off =>
        generalize st[id]? = s at *
        cases s <;> (try dsimp only at h ⊢) <;> try (cases h; done)
        next s =>
        cases s <;> (try dsimp only at h ⊢) <;> try (cases h; done)
        next cs =>
        generalize Nat.ble (off + C.sz t) cs.length = c at *
        cases c <;> (try dsimp only at h ⊢) <;> try (cases h; done)
        generalize trX C x = tx at *
        generalize isSl v = sv at *
        cases tx <;> cases sv <;> (try dsimp only at h ⊢)
        all_goals
          obtain ⟨U, V, h1, h2, h3⟩ := mk3_some h
          cases h3; cases h2
          first
            | (rw [look_insE h1] at hK; exact hK)
            | (cases h1; exact hK)
  case alloc t =>
    unfold veff; rw [hop]; dsimp only
    cases hd : o.dst <;> rw [hd] at h <;> (try dsimp only at h ⊢) <;> try (cases h; done)
    next d =>
    generalize C.ti t = ti at *
    cases ti <;> (try dsimp only at h ⊢) <;> try (cases h; done)
    generalize C.hp d = hp at *
    cases hp <;> (try dsimp only at h ⊢)
    · generalize look none B d = s at *
      cases s <;> (try dsimp only at h ⊢) <;> try (cases h; done)
      obtain ⟨U, V, h1, h2, h3⟩ := mk3_some h
      cases h3
      rw [look_insE h1, look_insB h2] at hK
      exact hK
    · obtain ⟨U, V, h1, h2, h3⟩ := mk3_some h
      cases h3; cases h2
      rw [look_insE h1] at hK
      exact hK
  case box t x =>
    unfold veff; rw [hop]; dsimp only
    cases hd : o.dst <;> rw [hd] at h <;> (try dsimp only at h ⊢) <;> try (cases h; done)
    next d =>
    generalize rd C t (look AV.undef T) x = v at *
    generalize scalAll v.cells = sc at *
    cases sc <;> (try dsimp only at h ⊢) <;> try (cases h; done)
    generalize C.hp d = hp at *
    cases hp <;> (try dsimp only at h ⊢)
    · generalize look none B d = s at *
      cases s <;> (try dsimp only at h ⊢) <;> try (cases h; done)
      obtain ⟨U, V, h1, h2, h3⟩ := mk3_some h
      cases h3
      rw [look_insE h1, look_insB h2] at hK
      exact hK
    · obtain ⟨U, V, h1, h2, h3⟩ := mk3_some h
      cases h3; cases h2
      rw [look_insE h1] at hK
      exact hK
  case makeSlice t l c =>
    unfold veff; rw [hop]; dsimp only
    generalize C.kind t = kt at *
    cases kt <;> (try dsimp only at h ⊢) <;> try (cases h; done)
    next el =>
    generalize rd C 0 (look AV.undef T) l = lv at *
    cases lv <;> (try dsimp only at h ⊢) <;> try (cases h; done)
    generalize rd C 0 (look AV.undef T) c = cv at *
    cases cv <;> (try dsimp only at h ⊢) <;> try (cases h; done)
    cases hd : o.dst <;> rw [hd] at h <;> (try dsimp only at h ⊢) <;> try (cases h; done)
    split at h
    · next hb =>
      obtain ⟨b1, b2⟩ := and2 hb
      obtain ⟨b2, b3⟩ := and2 b2
      obtain ⟨b3, b4⟩ := and2 b3
      obtain ⟨b4, b5⟩ := and2 b4
      rw [b1]; dsimp only
      obtain ⟨U, V, h1, h2, h3⟩ := mk3_some h
      cases h3; cases h2
      rw [look_insE h1] at hK
      exact ⟨fun _ => ⟨of_decide_eq_true b2, of_decide_eq_true b3, of_decide_eq_true b4, of_decide_eq_true b5⟩, hK⟩
    · cases h
  case binOp op t x y ty =>
    cases op <;> dsimp only at h <;> try (cases h; done)
    unfold veff; rw [hop]; dsimp only
    generalize nilSlice y = ns at *
    cases ns <;> (try dsimp only at h ⊢) <;> try (cases h; done)
    generalize C.kind t = kt at *
    cases kt <;> (try dsimp only at h ⊢) <;> try (cases h; done)
    generalize rd C t (look AV.undef T) x = v at *
    cases v <;> (try dsimp only at h ⊢) <;> try (cases h; done)
    next tp sz es =>
    cases es with
    | nil => cases h
    | cons z zs =>
      dsimp only at h
      obtain ⟨U, V, h1, h2, h3⟩ := mk3_some h
      cases h3; cases h2
      rw [look_insO h1] at hK
      exact ⟨(fun h => nomatch h), hK⟩
  case call c =>
    unfold veff; rw [hop]; dsimp only
    cases hcl : c.callee <;> rw [hcl] at h <;> (try dsimp only at h ⊢) <;> try (cases h; done)
    case builtin b =>
      cases b <;> (try dsimp only at h ⊢) <;> try (cases h; done)
      split at h
      · next x y sT tx d e1 e2 e3 =>
        rw [e1, e2, e3]; dsimp only
        generalize C.kind sT = kt at *
        cases kt <;> (try dsimp only at h ⊢) <;> try (cases h; done)
        next el =>
        generalize rd C sT (look AV.undef T) x = v at *
        generalize rd C tx (look AV.undef T) y = ys at *
        cases v <;> (try dsimp only at h ⊢) <;> try (cases h; done)
        next tp sz es =>
        cases tp <;> (try dsimp only at h ⊢) <;> try (cases h; done)
        split at h
        · next hb =>
          obtain ⟨b1, b2⟩ := and2 hb
          rw [b1]; dsimp only
          obtain ⟨U, V, h1, h2, h3⟩ := mk3_some h
          obtain ⟨W, h4, h5⟩ := mk2_some h1
          cases h3; cases h2
          rw [look_insE h5, look_insT h4] at hK
          refine ⟨fun _ => ⟨?_⟩, hK⟩
          have := of_decide_eq_true b2
          rw [hx] at this ⊢
          exact this
        · cases h
      · cases h
    case value x =>
      cases x <;> (try dsimp only at h ⊢) <;> try (cases h; done)
      · next t =>
        generalize hv : look AV.undef T t = v at *
        cases v <;> (try dsimp only at h ⊢) <;> try (cases h; done)
        generalize qargs C (look AV.undef T) c.args.toList c.argTypes.toList = as at *
        generalize noLps as = nl at *
        cases nl <;> (try dsimp only at h ⊢) <;> try (cases h; done)
        split at h
        · next r s hr =>
          obtain ⟨U, V, h1, h2, h3⟩ := mk3_some h
          cases h3; cases h2
          rw [look_insO h1] at hK
          refine (hc _ _ _ _ _ hr).mono ?_
          rintro r st' ⟨rfl, rfl⟩
          exact hK
        · cases h
      · next f =>
        unfold xcallO at h
        generalize qargs C (look AV.undef T) c.args.toList c.argTypes.toList = as at *
        generalize noLps as = nl at *
        cases nl <;> (try dsimp only at h ⊢) <;> try (cases h; done)
        split at h
        · next r s hr =>
          obtain ⟨U, V, h1, h2, h3⟩ := mk3_some h
          cases h3; cases h2
          rw [look_insO h1] at hK
          refine (hc _ _ _ _ _ hr).mono ?_
          rintro r st' ⟨rfl, rfl⟩
          exact hK
        · cases h
end
end Go.V

/- V38: running, last part: regions, code, calls. No program in sight. -/
namespace Go.V
def xops (pb : Nat → List AV → St → Bool) (call : Run) (C : Cf) (dr : Bool) (ops : List Oper) : List Oper → TE → TB → St → Option (TE × TB × St)
  | [], T, B, st => some (T, B, st)
  | o :: r, T, B, st =>
    match gOk C.x ops (look .undef T) ops.length o.guard && dyn C ops dr (ops.length - r.length - 1) o (look .undef T) with
    | false => none
    | true => match isQ C o with
      | true => match !(guardW C.x ops (look .undef T) ops.length o.guard) || qB pb C o (look .undef T) (look none B) st with
        | true => match insO T o.dst (q C o (look .undef T) (look none B) st).2 with
          | some T' => xops pb call C dr ops r T' B st
          | none => none
        | false => none
      | false => match guardW C.x ops (look .undef T) ops.length o.guard with
        | true => match xeff call C o T B st with
          | some (T', B', st') => xops pb call C dr ops r T' B' st'
          | none => none
        | false => match insO T o.dst .undef with
          | some T' => xops pb call C dr ops r T' B st
          | none => none
def xclean : List Oper → TE → Option TE
  | [], T => some T
  | o :: r, T => match o.guard with
    | none => xclean r T
    | some _ => match insO T o.dst .undef with
      | some T' => xclean r T'
      | none => none
abbrev XR := Option (Ex × TE × TB × St)
/-- Which boxes a code makes. -/
def mades : List Oper → List Nat
  | [] => []
  | o :: r => match o.op with
    | .alloc _ | .box _ _ => (match o.dst with | some d => d :: mades r | none => mades r)
    | _ => mades r
def madesC : Code → List Nat
  | .region _ ops _ => mades ops.toList
  | .seq a b => madesC a ++ madesC b
  | .cond _ a b => madesC a ++ madesC b
  | .block _ a => madesC a
  | .loop a => madesC a
  | _ => []
def isIn (b : Nat) : List Nat → Bool
  | [] => false
  | a :: r => Nat.beq b a || isIn b r
def dropV (ds : List Nat) : AV → AV
  | .lp b o => match isIn b ds with | true => .undef | false => .lp b o
  | v => v
def dropB : List Nat → TB → Option TB
  | [], B => some B
  | d :: r, B => match insB B d none with
    | some B' => dropB r B'
    | none => none
def xloop (ds : List Nat) (body : TE → TB → St → XR) : Nat → TE → TB → St → XR
  | 0, _, _, _ => none
  | n + 1, T, B, st => match body T B st with
    | some (.normal, T', B', st') => match dropB ds B' with
      | some B2 => xloop ds body n (T'.map (dropV ds)) B2 st'
      | none => none
    | r => r
def xwp (pb : Nat → List AV → St → Bool) (call : Run) (fuel : Nat) (C : Cf) : Code → TE → TB → St → XR
  | .skip, T, B, st => some (.normal, T, B, st)
  | .region _ ops dr, T, B, st => match xops pb call C dr ops.toList ops.toList T B st with
    | some (T', B', st') => match xclean ops.toList T' with
      | some T2 => some (.normal, T2, B', st')
      | none => none
    | none => none
  | .seq a b, T, B, st => match xwp pb call fuel C a T B st with
    | some (.normal, T', B', st') => xwp pb call fuel C b T' B' st'
    | r => r
  | .cond c a b, T, B, st => match rd C 0 (look .undef T) c with
    | .bool v => match v with
      | true => xwp pb call fuel C a T B st
      | false => xwp pb call fuel C b T B st
    | _ => none
  | .block id a, T, B, st => match xwp pb call fuel C a T B st with
    | some (.exit i, T', B', st') => match Nat.beq i id with
      | true => some (.normal, T', B', st')
      | false => some (.exit i, T', B', st')
    | r => r
  | .loop a, T, B, st => xloop (madesC a) (xwp pb call fuel C a) fuel T B st
  | .exit i, T, B, st => some (.exit i, T, B, st)
  | .ret, T, B, st => some (.ret, T, B, st)
  | _, _, _, _ => none
/-- The text of a code, loops too. -/
def codeAll (n : Nat) (C : Cf) : Code → Bool
  | .region _ ops dr => regOk n ops.toList && (match dr with | true => drawOk C ops.toList | false => true)
  | .seq a b => codeAll n C a && codeAll n C b
  | .cond _ a b => codeAll n C a && codeAll n C b
  | .block _ a => codeAll n C a
  | .loop a => codeAll n C a
  | _ => true
theorem codeAll_ok {n : Nat} {C : Cf} : ∀ {c : Code}, codeAll n C c = true → codeOk n C c = true := by
  intro c
  induction c with
  | region id ops dr => intro h; exact h
  | seq a b iha ihb => intro h; unfold codeAll at h; unfold codeOk; rw [iha (and2 h).1, ihb (and2 h).2]; rfl
  | cond c a b iha ihb => intro h; unfold codeAll at h; unfold codeOk; rw [iha (and2 h).1, ihb (and2 h).2]; rfl
  | block id a iha => intro h; unfold codeAll at h; unfold codeOk; exact iha h
  | _ => intro _; rfl
def startT : Nat → List AV → TE → Option TE
  | _, [], T => some T
  | k, v :: r, T => match insE T k (ut v) with
    | some T' => startT (k + 1) r T'
    | none => none
def xfun (pb : Nat → List AV → St → Bool) (call : Run) (fuel : Nat) (C : Cf) (fn : Func) (args : List AV) (st : St) : Option (AV × St) :=
  match fn.body with
  | some c => match Nat.ble args.length fn.ntmps with
    | true => match startT 0 args .lf with
      | some T => match xwp pb call fuel C c T .lf st with
        | some (.exit _, _, _, _) => none
        | some (_, T', B', st') => match (vres C fn.results.toList (look .undef T') (look none B')).1.isOk with
          | true => some ((vres C fn.results.toList (look .undef T') (look none B')).2, st')
          | false => none
        | none => none
      | none => none
    | false => none
  | none => none
def xcall (pb : Nat → List AV → St → Bool) (fns : Nat → Option Func) (cf : Nat → Cf) (kn : Run) (fuel : Nat) : Nat → Run
  | 0, _, _, _ => none
  | n + 1, f, args, st => match kn f args st with
    | some r => some r
    | none => match fns f with
      | some fn => xfun pb (xcall pb fns cf kn fuel n) fuel (cf f) fn args st
      | none => none
theorem look_clean : ∀ {l : List Oper} {T T' : TE}, xclean l T = some T' → look .undef T' = clean l (look .undef T)
  | [], T, T', h => by obtain rfl := Option.some.inj h; rfl
  | o :: r, T, T', h => by
    unfold xclean at h
    unfold clean
    split at h
    · next hg => rw [hg]; exact look_clean h
    · next hg =>
      rw [hg]
      split at h
      · next T2 h2 => rw [← look_insO h2]; exact look_clean h
      · cases h
theorem look_start : ∀ {l : List AV} {k : Nat} {T T' : TE}, startT k l T = some T' → ∀ t, look .undef T' t = if k ≤ t ∧ t < k + l.length then ut (l.getD (t - k) .undef) else look .undef T t
  | [], k, T, T', h, t => by
    obtain rfl := Option.some.inj h
    rw [if_neg (fun h => by have := h.2; simp at this; omega)]
  | v :: r, k, T, T', h, t => by
    unfold startT at h
    split at h
    · next T2 h2 =>
      rw [look_start h t, look_insE h2]
      by_cases h1 : k + 1 ≤ t ∧ t < k + 1 + r.length
      · rw [if_pos h1, if_pos (by simp; omega)]
        have : t - k = (t - (k + 1)) + 1 := by omega
        rw [this]; rfl
      · rw [if_neg h1]
        unfold upd
        by_cases ht : t = k
        · subst ht
          rw [if_pos rfl, if_pos (by simp), Nat.sub_self]; rfl
        · rw [if_neg ht, if_neg (by simp; omega)]
    · cases h
theorem look_start0 {l : List AV} {T : TE} (h : startT 0 l .lf = some T) : look .undef T = argEnv l := by
  funext t
  rw [look_start h t]
  unfold argEnv
  by_cases ht : t < l.length
  · rw [if_pos (by omega), Nat.sub_zero]
  · rw [if_neg (by omega), List.getD_eq_getElem?_getD, List.getElem?_eq_none (by omega)]; rfl
theorem look_lf {α : Type} (d : α) : look d .lf = fun _ => d := by funext n; rfl
section
variable {P : Program} {C : Cf} {call : Run}
theorem ask_of {c : Chk} {w : Bool} {m : Prop} (h : w = true → c.holds) (hm : m) : ask c w m := by
  cases c with
  | ok => exact hm
  | bad => exact ⟨fun hw => h hw, hm⟩
  | need p => exact ⟨h, hm⟩
theorem xops_ok {pb : Nat → List AV → St → Bool} (hx : C.x = std) (hpb : PbOk C pb) (hc : RunOk P call) {dr : Bool} {ops : List Oper} {K : Env → Bx → St → Prop} : ∀ (r : List Oper) {T T' : TE} {B B' : TB} {st st' : St}, xops pb call C dr ops r T B st = some (T', B', st') → K (look .undef T') (look none B') st' → vops P C dr ops r (look .undef T) (look none B) st K
  | [], T, T', B, B', st, st', h, hK => by cases h; exact hK
  | o :: r, T, T', B, B', st, st', h, hK => by
    unfold xops at h
    unfold vops
    split at h
    · cases h
    · next hg =>
      rw [hg]; dsimp only
      split at h
      · next hq =>
        rw [hq]; dsimp only
        split at h
        · next hb =>
          split at h
          · next T2 h2 =>
            have ih := xops_ok hx hpb hc r h hK
            rw [look_insO h2] at ih
            refine ask_of (fun hw => ?_) ih
            rcases (Bool.or_eq_true _ _).mp hb with h3 | h3
            · rw [hw] at h3; cases h3
            · exact qB_ok hx hpb h3
          · cases h
        · cases h
      · next hq =>
        rw [hq]; dsimp only
        split at h
        · next hw =>
          split at h
          · next T2 B2 st2 h2 =>
            have ih := xops_ok hx hpb hc r h hK
            have := xeff_ok (P := P) hx hc h2 (K := fun e bx st => vops P C dr ops r e bx st K) ih
            cases hgd : o.guard with
            | none => exact this
            | some g =>
              rw [hgd] at hw
              dsimp only
              rw [hw]
              exact this
          · cases h
        · next hw =>
          split at h
          · next T2 h2 =>
            have ih := xops_ok hx hpb hc r h hK
            rw [look_insO h2] at ih
            cases hgd : o.guard with
            | none =>
              rw [hgd] at hw
              cases hl : ops.length <;> rw [hl] at hw <;> cases hw
            | some g =>
              rw [hgd] at hw
              dsimp only
              rw [hw]
              exact ih
          · cases h
theorem isIn_spec {b : Nat} : ∀ {l : List Nat}, isIn b l = true ↔ b ∈ l
  | [] => by simp [isIn]
  | a :: r => by
    unfold isIn
    rw [Bool.or_eq_true, isIn_spec, List.mem_cons]
    refine ⟨fun h => h.imp Nat.eq_of_beq_eq_true id, fun h => h.imp (fun h => by subst h; exact Nat.beq_refl b) id⟩
theorem look_drop : ∀ {ds : List Nat} {B B' : TB}, dropB ds B = some B' → ∀ b, look none B' b = if b ∈ ds then none else look none B b
  | [], B, B', h, b => by obtain rfl := Option.some.inj h; simp
  | d :: r, B, B', h, b => by
    unfold dropB at h
    split at h
    · next B2 h2 =>
      rw [look_drop h b, look_insB h2]
      unfold upd
      by_cases hb : b ∈ r
      · simp [hb]
      · by_cases hd : b = d
        · simp [hd]
        · simp [hb, hd]
    · cases h
theorem drop_less {ds : List Nat} {T : TE} {B B2 : TB} (h : dropB ds B = some B2) : Less (look .undef (T.map (dropV ds))) (look .undef T) (look none B2) (look none B) := by
  have hT : ∀ t, look AV.undef (T.map (dropV ds)) t = dropV ds (look .undef T t) := fun t => look_map (by rfl) T t
  refine ⟨fun t => ?_, fun b => ?_, fun t b o ht => ?_⟩
  · rw [hT]
    unfold dropV
    split
    · split
      · exact .inl rfl
      · next heq _ _ => exact .inr heq.symm
    · exact .inr rfl
  · rw [look_drop h]
    split
    · exact .inl rfl
    · exact .inr rfl
  · rw [hT] at ht
    rw [look_drop h]
    unfold dropV at ht
    split at ht
    · next b' o' hv =>
      split at ht
      · cases ht
      · next hin =>
        cases ht
        rw [if_neg (fun hm => by rw [isIn_spec.2 hm] at hin; cases hin)]
    · next hne => exact absurd ht (hne _ _)
theorem less_refl (e : Env) (bx : Bx) : Less e e bx bx := ⟨fun _ => .inr rfl, fun _ => .inr rfl, fun _ _ _ _ => rfl⟩
theorem xwp_ok {pb : Nat → List AV → St → Bool} (hC : Ok P C) (hpb : PbOk C pb) (hc : RunOk P call) {n fuel : Nat} : ∀ {c : Code}, codeAll n C c = true → ∀ {Q : Ex → Env → Bx → St → Prop} {T T' : TE} {B B' : TB} {st st' : St} {x : Ex}, xwp pb call fuel C c T B st = some (x, T', B', st') → Q x (look .undef T') (look none B') st' → vwp P n C c Q (look .undef T) (look none B) st := by
  intro c
  induction c with
  | skip => intro _ Q T T' B B' st st' x h hQ; cases h; exact hQ
  | region id ops dr =>
    intro _ Q T T' B B' st st' x h hQ
    unfold xwp at h
    unfold vwp
    split at h
    · next T1 B1 st1 h1 =>
      split at h
      · next T2 h2 =>
        cases h
        refine xops_ok hC.x hpb hc _ h1 ?_
        rw [look_clean h2] at hQ
        exact hQ
      · cases h
    · cases h
  | seq a b iha ihb =>
    intro hk Q T T' B B' st st' x h hQ
    unfold codeAll at hk
    unfold xwp at h
    unfold vwp
    split at h
    · next T1 B1 st1 h1 => exact iha (and2 hk).1 h1 (ihb (and2 hk).2 h hQ)
    · next hne =>
      refine iha (and2 hk).1 h ?_
      cases x with
      | normal => exact absurd h (hne _ _ _)
      | _ => exact hQ
  | cond c a b iha ihb =>
    intro hk Q T T' B B' st st' x h hQ
    unfold codeAll at hk
    unfold xwp at h
    unfold vwp
    generalize rd C 0 (look AV.undef T) c = v at *
    cases v <;> (try dsimp only at h ⊢) <;> try (cases h; done)
    next v =>
    cases v <;> (try dsimp only at h ⊢)
    · exact ihb (and2 hk).2 h hQ
    · exact iha (and2 hk).1 h hQ
  | block id a iha =>
    intro hk Q T T' B B' st st' x h hQ
    unfold codeAll at hk
    unfold xwp at h
    unfold vwp
    split at h
    · next i T1 B1 st1 h1 =>
      refine iha hk h1 ?_
      dsimp only
      split at h
      · next hb => rw [hb]; cases h; exact hQ
      · next hb => rw [hb]; cases h; exact hQ
    · next hne =>
      refine iha hk h ?_
      cases x with
      | exit i => exact absurd h (hne _ _ _ _)
      | _ => exact hQ
  | loop a iha =>
    intro hk Q T T' B B' st st' x h hQ
    unfold codeAll at hk
    unfold xwp at h
    unfold vwp
    refine wp_loop_inv (fun m e bx s => ∃ T B, e = look .undef T ∧ bx = look none B ∧ xloop (madesC a) (xwp pb call fuel C a) m T B s = some (x, T', B', st')) ?_ fuel _ _ _ ⟨T, B, rfl, rfl, h⟩
    rintro m e bx s ⟨T1, B1, rfl, rfl, h1⟩
    refine wp_of_vwp hC (codeAll_ok hk) ?_
    cases m with
    | zero => cases h1
    | succ m =>
      unfold xloop at h1
      split at h1
      · next T2 B2 st2 h2 =>
        split at h1
        · next B3 h3 => exact iha hk h2 ⟨m, _, _, Nat.lt_succ_self m, drop_less h3, _, B3, rfl, rfl, h1⟩
        · cases h1
      · next hne =>
        refine iha hk h1 ?_
        cases x with
        | normal => exact absurd h1 (hne _ _ _)
        | _ => exact hQ
  | exit i => intro _ Q T T' B B' st st' x h hQ; cases h; exact hQ
  | ret => intro _ Q T T' B B' st st' x h hQ; cases h; exact hQ
  | _ => intro _ Q T T' B B' st st' x h hQ; cases h
end
/-- What is known of a function's text. -/
structure FnOk (P : Program) (pb : Nat → List AV → St → Bool) (C : Cf) (f : Nat) (fn : Func) : Prop where
  pb : PbOk C pb
  at' : P.funcs[f]? = some fn
  ok : Ok P C
  name : (fn.name == "runtime.NumGoroutine") = false
  code : ∀ c, fn.body = some c → codeAll fn.ntmps C c = true
theorem xfun_ok {P : Program} {pb : Nat → List AV → St → Bool} {C : Cf} {call : Run} {f fuel : Nat} {fn : Func} (hf : FnOk P pb C f fn) (hc : RunOk P call) {args : List AV} {st st' : St} {r : AV} (h : xfun pb call fuel C fn args st = some (r, st')) :
    VCalls P f args st (fun r2 s2 => r2 = r ∧ s2 = st') := by
  unfold xfun at h
  split at h
  · next c hb =>
    split at h
    · next hn =>
      split at h
      · next T hT =>
        refine VCalls.of_vfun hf.ok hf.at' hb hf.name (Nat.le_of_ble_eq_true hn) (codeAll_ok (hf.code c hb)) ?_
        unfold vfun
        rw [hb]
        dsimp only
        rw [← look_start0 hT]
        have e0 : (fun _ => none : Bx) = look none .lf := (look_lf _).symm
        rw [e0]
        split at h
        · cases h
        · next x T1 B1 st1 hne h1 =>
          split at h
          · next hv =>
            cases h
            refine xwp_ok hf.ok hf.pb hc (hf.code c hb) h1 ?_
            cases x with
            | exit i => exact absurd rfl (hne i)
            | normal => exact ask_of (fun _ => Chk.isOk_holds hv) ⟨rfl, rfl⟩
            | ret => exact ask_of (fun _ => Chk.isOk_holds hv) ⟨rfl, rfl⟩
          · cases h
        · cases h
      · cases h
    · cases h
  · cases h
theorem xcall_ok {P : Program} {pb : Nat → List AV → St → Bool} {fns : Nat → Option Func} {cf : Nat → Cf} {kn : Run} {fuel : Nat} (hf : ∀ f fn, fns f = some fn → FnOk P pb (cf f) f fn) (hk : RunOk P kn) : ∀ n, RunOk P (xcall pb fns cf kn fuel n)
  | 0, f, args, st, r, st', h => by cases h
  | n + 1, f, args, st, r, st', h => by
    unfold xcall at h
    split at h
    · next r2 h2 => cases h; exact hk _ _ _ _ _ h2
    · split at h
      · next fn hfn => exact xfun_ok (hf f fn hfn) (xcall_ok hf hk n) h
      · cases h
end Go.V

/- V39: '==' of flat structs goes cell by cell. No program in sight. -/
namespace Go.V
theorem eqCells_split : ∀ {a b c d : List AV}, a.length = b.length → eqCells (a ++ c) (b ++ d) = (eqCells a b && eqCells c d)
  | [], [], c, d, _ => by simp [eqCells]
  | x :: a, y :: b, c, d, h => by
    show (eqCell x y && eqCells (a ++ c) (b ++ d)) = ((eqCell x y && eqCells a b) && eqCells c d)
    rw [eqCells_split (by simpa using h), Bool.and_assoc]
def plainC : AV → Bool
  | .bool _ | .int _ _ | .str _ => true
  | _ => false
theorem plain_ut {v : AV} (h : plainC v = true) : ut v = v := by cases v <;> first | rfl | cases h
theorem plain_uts : ∀ {l : List AV}, (∀ v ∈ l, plainC v = true) → l.map ut = l
  | [], _ => rfl
  | v :: r, h => by rw [List.map_cons, plain_ut (h v (by simp)), plain_uts (fun v hv => h v (by simp [hv]))]
section
variable {P : Program} {C : Cf} {I : Mem} {σ : List Nat}
theorem shF_plain {f : Nat → List AV → Bool} (hf : ∀ t cs, f t cs = true → ∀ v ∈ cs, plainC v = true) : ∀ {fs : List (Nat × Nat)} {off : Nat} {cs : List AV}, shF f C fs off cs = true → ∀ v ∈ cs, plainC v = true
  | [], off, cs, h => by
    intro v hv
    have : cs = [] := List.isEmpty_iff.1 h
    subst this; cases hv
  | (ft, o) :: r, off, cs, h => by
    unfold shF at h
    obtain ⟨h1, h2⟩ := and2 h
    obtain ⟨h2, h3⟩ := and2 h2
    obtain ⟨h3, h4⟩ := and2 h3
    intro v hv
    rw [← List.take_append_drop (C.sz ft) cs] at hv
    rcases List.mem_append.1 hv with hv | hv
    · exact hf _ _ h3 v hv
    · exact shF_plain hf h4 v hv
theorem shT_plain : ∀ {d t : Nat} {cs : List AV}, shT C d t cs = true → ∀ v ∈ cs, plainC v = true
  | 0, t, cs, h => by cases h
  | d + 1, t, cs, h => by
    unfold shT at h
    split at h
    · split at h
      · simp [plainC]
      · cases h
    · split at h
      · simp [plainC]
      · cases h
    · split at h
      · simp [plainC]
      · cases h
    · exact shF_plain (fun t cs h => shT_plain h) h
    · cases h
theorem kind_ti {t : Nat} (h : C.kind t ≠ .other) : ∃ i, C.ti t = some i ∧ C.kind t = i.kind := by
  unfold Cf.kind at h ⊢
  cases hi : C.ti t with
  | none => rw [hi] at h; exact absurd rfl h
  | some i => exact ⟨i, rfl, rfl⟩
/-- Which value stands for cells of a type. -/
def valAt (C : Cf) (t : Nat) (cs : List AV) : AV := match C.kind t with
  | .struct _ => .agg cs
  | _ => cs.headD .undef
theorem agg_of (hT : TIok P C.ti) {t : Nat} {i : TInfo} (hi : C.ti t = some i) : (∀ fs, i.kind = .struct fs → i.agg = true) ∧ ((i.kind = .bool ∨ (∃ k, i.kind = .int k) ∨ i.kind = .str) → i.agg = false ∧ i.sz = 1) := by
  obtain ⟨f, d, _, hd, _, _, _, _, ha, hk, hs, _⟩ := (hT t i hi).ex
  refine ⟨fun fs h => ?_, fun h => ?_⟩
  · rw [h] at hk
    cases d <;> simp [kindB] at hk
    exact ha
  · have : i.agg = false := by
      rcases h with h | ⟨k, h⟩ | h <;> rw [h] at hk <;> cases d <;> first | exact ha | (simp [kindB] at hk; done)
    exact ⟨this, hs this⟩
theorem load_val (hT : TIok P C.ti) {d t : Nat} {xs : List AV} {off : Nat} {i : TInfo} (hi : C.ti t = some i) (hle : off + i.sz ≤ xs.length) (hs : shT C d t ((xs.drop off).take i.sz) = true) :
    (qload i xs off).2 = valAt C t ((xs.drop off).take i.sz) := by
  have hp := shT_plain hs
  have hk : C.kind t = i.kind := by unfold Cf.kind; rw [hi]
  obtain ⟨a1, a2⟩ := agg_of hT hi
  have hsc : i.agg = false ∧ i.sz = 1 → (qload i xs off).2 = ((xs.drop off).take i.sz).headD .undef := by
    rintro ⟨h1, h2⟩
    unfold qload
    dsimp only
    rw [h1]
    show ut (xs.getD off .undef) = _
    rw [h2] at hp ⊢
    rw [h2] at hle
    have hlt : off < xs.length := by omega
    have e : (xs.drop off).take 1 = [xs[off]] := by
      rw [List.drop_eq_getElem_cons hlt]; rfl
    rw [e] at hp ⊢
    show ut (xs.getD off .undef) = xs[off]
    rw [List.getD_eq_getElem?_getD, List.getElem?_eq_getElem hlt]
    exact plain_ut (hp _ (by simp))
  unfold valAt
  rw [hk]
  cases d with
  | zero => cases hs
  | succ d =>
    unfold shT at hs
    rw [hk] at hs
    cases hik : i.kind <;> rw [hik] at hs <;> dsimp only at hs ⊢ <;> try (cases hs; done)
    · exact hsc (a2 (.inl hik))
    · exact hsc (a2 (.inr (.inl ⟨_, hik⟩)))
    · exact hsc (a2 (.inr (.inr hik)))
    · next fs =>
      have h1 := a1 _ hik
      unfold qload
      dsimp only
      rw [h1]
      show AV.agg _ = AV.agg _
      rw [plain_uts hp]
theorem eq_fields (hT : TIok P C.ti) {d D fb : Nat} (ih : ∀ (t : Nat) (xs ys : List AV) (cx cy : Value) (w : World), shT C d t xs = true → shT C d t ys = true → flatB P fb t = true → Rep I σ (valAt C t xs) cx → Rep I σ (valAt C t ys) cy → (Op.equalIn D t cx cy).run P w = .ok (eqCells xs ys) w)
    {xs ys : List AV} {vs us : List Value} (hx : Reps I σ xs vs) (hy : Reps I σ ys us) (w : World) : ∀ (fs : List Field) (off : Nat), off ≤ xs.length → off ≤ ys.length → (fs.all fun f => decide (f.name ≠ "_") && flatB P fb f.type) = true →
      shF (shT C d) C (fs.map fun f => (f.type, f.offset)) off (xs.drop off) = true → shF (shT C d) C (fs.map fun f => (f.type, f.offset)) off (ys.drop off) = true →
      (Op.eqFields D ⟨vs⟩ ⟨us⟩ fs).run P w = .ok (eqCells (xs.drop off) (ys.drop off)) w
  | [], off, _, _, _, h1, h2 => by
    have e1 : xs.drop off = [] := List.isEmpty_iff.1 h1
    have e2 : ys.drop off = [] := List.isEmpty_iff.1 h2
    rw [e1, e2]; rfl
  | f :: fs, off, g1, g2, hfl, h1, h2 => by
    rw [List.all_cons] at hfl
    obtain ⟨hf, hfl⟩ := and2 hfl
    obtain ⟨hn, hf⟩ := and2 hf
    rw [List.map_cons] at h1 h2
    unfold shF at h1 h2
    obtain ⟨o1, h1⟩ := and2 h1
    obtain ⟨l1, h1⟩ := and2 h1
    obtain ⟨s1, h1⟩ := and2 h1
    obtain ⟨_, h2⟩ := and2 h2
    obtain ⟨l2, h2⟩ := and2 h2
    obtain ⟨s2, h2⟩ := and2 h2
    have ho : f.offset = off := Nat.eq_of_beq_eq_true o1
    have l1 := Nat.le_of_ble_eq_true l1
    have l2 := Nat.le_of_ble_eq_true l2
    have hko : C.kind f.type ≠ .other := by
      intro hk
      cases d with
      | zero => cases s1
      | succ d => unfold shT at s1; rw [hk] at s1; cases s1
    obtain ⟨i, hi, hk⟩ := kind_ti hko
    have hsz : C.sz f.type = i.sz := by unfold Cf.sz; rw [hi]
    rw [hsz] at l1 l2 s1 s2 h1 h2
    rw [List.length_drop] at l1 l2
    obtain ⟨cx, c1, c2⟩ := run_part_of (P := P) (w := w) hT hi hx (off := off) (by omega)
    obtain ⟨cy, c3, c4⟩ := run_part_of (P := P) (w := w) hT hi hy (off := off) (by omega)
    rw [load_val hT hi (by omega) s1] at c2
    rw [load_val hT hi (by omega) s2] at c4
    have hr := ih f.type _ _ cx cy w s1 s2 hf c2 c4
    have hrest := eq_fields hT ih hx hy w fs (off + i.sz) (by omega) (by omega) hfl (by rw [← List.drop_drop]; exact h1) (by rw [← List.drop_drop]; exact h2)
    have hn' : f.name ≠ "_" := of_decide_eq_true hn
    unfold Op.eqFields
    rw [if_pos hn', ho]
    simp only [Sem.run_bind, c1, c3, hr, Result.andThen_ok, Sem.run_ite]
    have e1 : xs.drop off = (xs.drop off).take i.sz ++ xs.drop (off + i.sz) := by rw [← List.drop_drop, List.take_append_drop]
    have e2 : ys.drop off = (ys.drop off).take i.sz ++ ys.drop (off + i.sz) := by rw [← List.drop_drop, List.take_append_drop]
    have e3 : eqCells (xs.drop off) (ys.drop off) = (eqCells ((xs.drop off).take i.sz) ((ys.drop off).take i.sz) && eqCells (xs.drop (off + i.sz)) (ys.drop (off + i.sz))) := by
      conv => lhs; rw [e1, e2]
      exact eqCells_split (by simp; omega)
    rw [e3]
    cases eqCells ((xs.drop off).take i.sz) ((ys.drop off).take i.sz)
    · simp
    · simpa using hrest
theorem eq_val (hT : TIok P C.ti) : ∀ (d fb D t : Nat) (xs ys : List AV) (cx cy : Value) (w : World), d ≤ D → shT C d t xs = true → shT C d t ys = true → flatB P fb t = true → Rep I σ (valAt C t xs) cx → Rep I σ (valAt C t ys) cy → (Op.equalIn D t cx cy).run P w = .ok (eqCells xs ys) w
  | 0, _, _, _, _, _, _, _, _, _, h, _, _, _, _ => by cases h
  | d + 1, fb, 0, _, _, _, _, _, _, hD, _, _, _, _, _ => by omega
  | d + 1, 0, D + 1, _, _, _, _, _, _, _, _, _, h, _, _ => by cases h
  | d + 1, fb + 1, D + 1, t, xs, ys, cx, cy, w, hD, h1, h2, hf, hx, hy => by
    unfold shT at h1 h2
    unfold valAt at hx hy
    cases hk : C.kind t <;> rw [hk] at h1 h2 hx hy <;> dsimp only at h1 h2 hx hy <;> try (cases h1; done)
    · split at h1
      · split at h2
        · cases hx; cases hy
          have := kind_bool hT hk
          rw [run_equalIn_bool' w D t _ _ this]
          simp [eqCells, eqCell]
        · cases h2
      · cases h1
    · split at h1
      · split at h2
        · cases hx; cases hy
          have e1 := kindEq_eq h1
          have e2 := kindEq_eq h2
          subst e1; subst e2
          have := kind_int hT hk
          rw [run_equalIn_int w D t _ _ _ _ this]
          simp [eqCells, eqCell]
        · cases h2
      · cases h1
    · split at h1
      · split at h2
        · cases hx; cases hy
          have := kind_str hT hk
          rw [run_equalIn_string w D t _ _ this, ByteArray.toList_eq, ByteArray.toList_eq]
          simp [eqCells, eqCell]
        · cases h2
      · cases h1
    · next fs =>
      obtain ⟨fields, hu, hfs⟩ := kind_struct hT hk
      unfold flatB at hf
      rw [hu] at hf
      dsimp only at hf
      obtain ⟨hs, hf⟩ := and2 hf
      cases hx with
      | agg k1 => cases hy with
        | agg k2 =>
          have hfo : P.fieldsOf t = fields := by unfold Program.fieldsOf; rw [hu]
          rw [run_equalIn_struct w D t _ _ (by rw [hfo]; exact hu) (by simpa using hs), hfo]
          rw [← hfs] at h1 h2
          have := eq_fields (D := D) hT (fun t xs ys cx cy w => eq_val hT d fb D t xs ys cx cy w (by omega)) k1 k2 w fields.toList 0 (Nat.zero_le _) (Nat.zero_le _) hf (by simpa using h1) (by simpa using h2)
          simpa using this
theorem eqok_of (hT : TIok P C.ti) : EqOk P C := by
  intro t xs ys I σ vs us w op x y h hx hy
  obtain ⟨h0, h⟩ := and2 h
  obtain ⟨hst, h⟩ := and2 h
  obtain ⟨h1, h2⟩ := and2 h
  unfold Cf.eqf at h0
  split at h0
  case h_2 => cases h0
  next i hi =>
    obtain ⟨f, d, _, hd, _, _, _, _, ha, hk, _, _, he⟩ := (hT t i hi).ex
    obtain ⟨hfl, hg⟩ := he h0
    refine ⟨?_, run_eqGuard_agg w op t x y _ _ hg⟩
    have hks : ∃ fs, C.kind t = .struct fs := by
      cases hkk : C.kind t <;> rw [hkk] at hst <;> first | exact ⟨_, rfl⟩ | cases hst
    obtain ⟨fs, hks⟩ := hks
    exact eq_val hT 6 8 10000 t xs ys _ _ w (by omega) h1 h2 hfl (by unfold valAt; rw [hks]; exact .agg hx) (by unfold valAt; rw [hks]; exact .agg hy)
end
end Go.V

/- V40: functions that are run are pure: a table of them. No program in sight. -/
namespace Go.V
mutual
/-- Does a value lead to no object? -/
def noRef : AV → Bool
  | .agg cs => noRefs cs
  | .tup vs => noRefs vs
  | .sl _ _ es => noRefs es
  | .msl _ _ _ _ => false
  | .ref _ _ => false
  | .ip v _ => noRef v
  | .fn _ a b => noRefs a && noRefs b
  | _ => true
def noRefs : List AV → Bool
  | [] => true
  | v :: r => noRef v && noRefs r
end
mutual
theorem ren_noRef (ρ : Nat → Nat) : ∀ {v : AV}, noRef v = true → ren ρ v = v
  | .agg cs, h => by unfold ren; rw [rens_noRefs ρ (by unfold noRef at h; exact h)]
  | .tup vs, h => by unfold ren; rw [rens_noRefs ρ (by unfold noRef at h; exact h)]
  | .sl t sz es, h => by unfold ren; rw [rens_noRefs ρ (by unfold noRef at h; exact h)]
  | .msl _ _ _ _, h => by unfold noRef at h; cases h
  | .ref _ _, h => by unfold noRef at h; cases h
  | .ip v o, h => by unfold ren; rw [ren_noRef ρ (by unfold noRef at h; exact h)]
  | .fn f a b, h => by
    unfold noRef at h
    unfold ren
    rw [rens_noRefs ρ (and2 h).1, rens_noRefs ρ (and2 h).2]
  | .undef, _ => by unfold ren; rfl
  | .bool _, _ => by unfold ren; rfl
  | .int _ _, _ => by unfold ren; rfl
  | .str _, _ => by unfold ren; rfl
  | .nilp, _ => by unfold ren; rfl
  | .lp _ _, _ => by unfold ren; rfl
  | .nilfn, _ => by unfold ren; rfl
  | .nils _, _ => by unfold ren; rfl
theorem rens_noRefs (ρ : Nat → Nat) : ∀ {l : List AV}, noRefs l = true → rens ρ l = l
  | [], _ => by unfold rens; rfl
  | v :: r, h => by
    unfold noRefs at h
    unfold rens
    rw [ren_noRef ρ (and2 h).1, rens_noRefs ρ (and2 h).2]
end
mutual
/-- Are the objects that a value leads to among the first n? -/
def refsLt (n : Nat) : AV → Bool
  | .agg cs => refsLts n cs
  | .tup vs => refsLts n vs
  | .sl _ _ es => refsLts n es
  | .msl _ id _ _ => Nat.blt id n
  | .ref id _ => Nat.blt id n
  | .ip v _ => refsLt n v
  | .fn _ a b => refsLts n a && refsLts n b
  | _ => true
def refsLts (n : Nat) : List AV → Bool
  | [] => true
  | v :: r => refsLt n v && refsLts n r
end
mutual
theorem refsLt_of (n : Nat) : ∀ {v : AV}, noRef v = true → refsLt n v = true
  | .agg cs, h => by unfold noRef at h; unfold refsLt; exact refsLts_of n h
  | .tup vs, h => by unfold noRef at h; unfold refsLt; exact refsLts_of n h
  | .sl t sz es, h => by unfold noRef at h; unfold refsLt; exact refsLts_of n h
  | .msl _ _ _ _, h => by unfold noRef at h; cases h
  | .ref _ _, h => by unfold noRef at h; cases h
  | .ip v o, h => by unfold noRef at h; unfold refsLt; exact refsLt_of n h
  | .fn f a b, h => by
    unfold noRef at h
    unfold refsLt
    rw [refsLts_of n (and2 h).1, refsLts_of n (and2 h).2]; rfl
  | .undef, _ => by unfold refsLt; rfl
  | .bool _, _ => by unfold refsLt; rfl
  | .int _ _, _ => by unfold refsLt; rfl
  | .str _, _ => by unfold refsLt; rfl
  | .nilp, _ => by unfold refsLt; rfl
  | .lp _ _, _ => by unfold refsLt; rfl
  | .nilfn, _ => by unfold refsLt; rfl
  | .nils _, _ => by unfold refsLt; rfl
theorem refsLts_of (n : Nat) : ∀ {l : List AV}, noRefs l = true → refsLts n l = true
  | [], _ => by unfold refsLts; rfl
  | v :: r, h => by
    unfold noRefs at h
    unfold refsLts
    rw [refsLt_of n (and2 h).1, refsLts_of n (and2 h).2]; rfl
end
theorem blt_of {σ : List Nat} {id b : Nat} (h : σ[id]? = some b) : Nat.blt id σ.length = true := Nat.ble_eq_true_of_le (List.getElem?_eq_some_iff.1 h).1
theorem refsLt_cells {n : Nat} {v : AV} : refsLts n v.cells = refsLt n v := by
  cases v <;> simp [AV.cells, refsLts, refsLt]
mutual
theorem Rep.lt {I : Mem} {σ : List Nat} : ∀ {v : AV} {cv : Value}, Rep I σ v cv → refsLt σ.length v = true
  | _, _, .undef => by unfold refsLt; rfl
  | _, _, .bool => by unfold refsLt; rfl
  | _, _, .int => by unfold refsLt; rfl
  | _, _, .str => by unfold refsLt; rfl
  | _, _, .agg h => by unfold refsLt; exact Reps.lt h
  | _, _, .tup h => by unfold refsLt; exact Reps.lt h
  | _, _, .snil => by unfold refsLt refsLts; rfl
  | _, _, .nils => by unfold refsLt; rfl
  | _, _, .spot => by unfold refsLt refsLts; rfl
  | _, _, .sl h _ _ => by unfold refsLt; exact Row.lt h
  | _, _, .msl h _ => by unfold refsLt; exact blt_of h
  | _, _, .nilp => by unfold refsLt; rfl
  | _, _, .ref h => by unfold refsLt; exact blt_of h
  | _, _, .ip h => by unfold refsLt; exact RepAt.lt h
  | _, _, .nilfn => by unfold refsLt; rfl
  | _, _, .fn h k => by unfold refsLt; rw [Reps.lt h, Reps.lt k]; rfl
theorem Reps.lt {I : Mem} {σ : List Nat} : ∀ {vs : List AV} {cvs : List Value}, Reps I σ vs cvs → refsLts σ.length vs = true
  | _, _, .nil => by unfold refsLts; rfl
  | _, _, .cons h k => by unfold refsLts; rw [Rep.lt h, Reps.lt k]; rfl
theorem RepAt.lt {I : Mem} {σ : List Nat} : ∀ {v : AV} {b o : Nat}, RepAt I σ v b o → refsLt σ.length v = true
  | _, _, _, .mk h _ => by rw [← refsLt_cells]; exact Reps.lt h
theorem Row.lt {I : Mem} {σ : List Nat} : ∀ {es : List AV} {b o sz : Nat}, Row I σ es b o sz → refsLts σ.length es = true
  | _, _, _, _, .nil => by unfold refsLts; rfl
  | _, _, _, _, .cons _ _ _ k r => by unfold refsLts; rw [RepAt.lt k, Row.lt r]; rfl
end
theorem get_of {σ σ' : List Nat} {n id b : Nat} (hs : ∀ i, i < n → σ[i]? = σ'[i]?) (h : σ[id]? = some b) (hl : Nat.blt id n = true) : σ'[id]? = some b := by
  rw [← hs id (Nat.le_of_ble_eq_true hl)]; exact h
mutual
theorem Rep.cut {I : Mem} {σ σ' : List Nat} {n : Nat} (hs : ∀ i, i < n → σ[i]? = σ'[i]?) : ∀ {v : AV} {cv : Value}, Rep I σ v cv → refsLt n v = true → Rep I σ' v cv
  | _, _, .undef, _ => .undef
  | _, _, .bool, _ => .bool
  | _, _, .int, _ => .int
  | _, _, .str, _ => .str
  | _, _, .agg h, l => .agg (Reps.cut hs h (by unfold refsLt at l; exact l))
  | _, _, .tup h, l => .tup (Reps.cut hs h (by unfold refsLt at l; exact l))
  | _, _, .snil, _ => .snil
  | _, _, .nils, _ => .nils
  | _, _, .spot, _ => .spot
  | _, _, .sl h hn hc, l => .sl (Row.cut hs h (by unfold refsLt at l; exact l)) hn hc
  | _, _, .msl h hc, l => .msl (get_of hs h (by unfold refsLt at l; exact l)) hc
  | _, _, .nilp, _ => .nilp
  | _, _, .ref h, l => .ref (get_of hs h (by unfold refsLt at l; exact l))
  | _, _, .ip h, l => .ip (RepAt.cut hs h (by unfold refsLt at l; exact l))
  | _, _, .nilfn, _ => .nilfn
  | _, _, .fn h k, l => .fn (Reps.cut hs h (by unfold refsLt at l; exact (and2 l).1)) (Reps.cut hs k (by unfold refsLt at l; exact (and2 l).2))
theorem Reps.cut {I : Mem} {σ σ' : List Nat} {n : Nat} (hs : ∀ i, i < n → σ[i]? = σ'[i]?) : ∀ {vs : List AV} {cvs : List Value}, Reps I σ vs cvs → refsLts n vs = true → Reps I σ' vs cvs
  | _, _, .nil, _ => .nil
  | _, _, .cons h k, l => .cons (Rep.cut hs h (by unfold refsLts at l; exact (and2 l).1)) (Reps.cut hs k (by unfold refsLts at l; exact (and2 l).2))
theorem RepAt.cut {I : Mem} {σ σ' : List Nat} {n : Nat} (hs : ∀ i, i < n → σ[i]? = σ'[i]?) : ∀ {v : AV} {b o : Nat}, RepAt I σ v b o → refsLt n v = true → RepAt I σ' v b o
  | _, _, _, .mk h k, l => .mk (Reps.cut hs h (by rw [refsLt_cells]; exact l)) k
theorem Row.cut {I : Mem} {σ σ' : List Nat} {n : Nat} (hs : ∀ i, i < n → σ[i]? = σ'[i]?) : ∀ {es : List AV} {b o sz : Nat}, Row I σ es b o sz → refsLts n es = true → Row I σ' es b o sz
  | _, _, _, _, .nil, _ => .nil
  | _, _, _, _, .cons h h0 hsc k r, l => .cons h h0 hsc (RepAt.cut hs k (by unfold refsLts at l; exact (and2 l).1)) (Row.cut hs r (by unfold refsLts at l; exact (and2 l).2))
end
def keepN (n : Nat) : Option Loc → Option Loc
  | some (.obj id) => (match Nat.blt id n with | true => some (.obj id) | false => none)
  | some (.ot id j) => (match Nat.blt id n with | true => some (.ot id j) | false => none)
  | o => o
theorem keepN_some {n : Nat} {o : Option Loc} {l : Loc} (h : keepN n o = some l) : o = some l := by
  unfold keepN at h
  split at h
  · split at h
    · exact h
    · cases h
  · split at h
    · exact h
    · cases h
  · exact h
/-- WHAT A CALL LEAVES OF NEW OBJECTS MAY BE FORGOTTEN, beside a store that it leaves as it was. -/
theorem VCalls.forgetN {P : Program} {f : Nat} {args : List AV} {st : St} {R : AV → St → Prop} (h : VCalls P f args st R) {v : AV} (hR : ∀ r st', R r st' → r = v ∧ ∃ junk, st' = st ++ junk) (hv : refsLt st.length v = true) : VCalls P f args st (fun r st' => r = v ∧ st' = st) := by
  refine ⟨⟨v, st, rfl, rfl⟩, h.enter, fun Fr g w cargs hg hloc ha => ?_⟩
  refine (h.out Fr g w cargs hg hloc ha).mono fun e w' ⟨cv, g1, r, st', he, hr, hG, hL, hrep, htip⟩ => ?_
  obtain ⟨hrv, junk, hst⟩ := hR _ _ hr
  subst hrv
  subst hst
  have hlen : g.σ.length = st.length := hg.len
  have hpre : g.σ <+: g1.σ := hG.hσ
  have hs : ∀ i, i < st.length → g1.σ[i]? = g.σ[i]? := by
    intro i hi
    obtain ⟨t, ht⟩ := hpre
    rw [← ht, List.getElem?_append_left (by omega)]
  refine ⟨cv, ⟨g1.I, g.σ, fun b => keepN st.length (g1.own b), g1.β⟩, r, st, he, ⟨rfl, rfl⟩, ?_, ?_, ?_, ?_⟩
  · refine ⟨hG.hI, List.prefix_refl _, ?_, hG.size, hG.os, hG.tape, hG.output, hG.imm, ?_, ?_, hG.newI, ?_, hlen⟩
    · intro b hb
      obtain ⟨h1, h2, h3⟩ := hG.fr b hb
      refine ⟨h1, h2, ?_⟩
      show keepN st.length (g1.own b) = none
      rw [h3]; rfl
    · intro b o l h1 h2
      exact hG.immOwn b o l h1 (keepN_some h2)
    · intro b l h2
      exact hG.ownlt b l (keepN_some h2)
    · intro id cs hi
      have hid : id < st.length := (List.getElem?_eq_some_iff.1 hi).1
      have hb : Nat.blt id st.length = true := Nat.ble_eq_true_of_le hid
      obtain ⟨blk0, h10, h20, us0, ty0, h30, h40, h50⟩ := hg.objs id cs hi
      obtain ⟨blk, h1, h2, us, ty, h3, h4, h5⟩ := hG.objs id cs (by rw [List.getElem?_append_left hid]; exact hi)
      refine ⟨blk, by rw [← hs id hid]; exact h1, ?_, us, ty, h3, ?_, ?_⟩
      · show keepN st.length (g1.own blk) = _
        rw [h2]
        unfold keepN
        dsimp only
        rw [hb]
      · refine Reps.cut hs h4 ?_
        rw [← hlen]
        exact Reps.lt h40
      · intro j sz es cv' hj hc
        rcases h5 j sz es cv' hj hc with h | ⟨b, o, cap, h0, h⟩
        · exact .inl h
        · refine .inr ⟨b, o, cap, h0, ?_⟩
          rcases h with h | ⟨k1, k2, k3⟩
          · exact .inl h
          · refine .inr ⟨?_, k2, k3⟩
            show keepN st.length (g1.own b) = _
            rw [k1]
            unfold keepN
            dsimp only
            rw [hb]
  · intro b l h1 h2
    exact hL b l (keepN_some h1) h2
  · exact Rep.cut hs hrep hv
  · intro sz es hs'
    rcases htip sz es hs' with h | ⟨b, o, cap, h0, h⟩
    · exact .inl h
    · refine .inr ⟨b, o, cap, h0, ?_⟩
      rcases h with h | ⟨h1, h2, h3⟩
      · exact .inl h
      · refine .inr ⟨?_, h2, h3⟩
        show keepN st.length (g1.own b) = _
        rw [h1]; rfl
def eqB8 : List UInt8 → List UInt8 → Bool
  | [], [] => true
  | a :: r, b :: s => Nat.beq a.toNat b.toNat && eqB8 r s
  | _, _ => false
mutual
/-- Are values the same? -/
def eqAV : AV → AV → Bool
  | .undef, .undef => true
  | .bool a, .bool b => match a, b with | true, true => true | false, false => true | _, _ => false
  | .int k a, .int l b => kindEq k l && decide (a = b)
  | .str a, .str b => eqB8 a b
  | .agg a, .agg b => eqAVs a b
  | .tup a, .tup b => eqAVs a b
  | .sl t s a, .sl u r b => (match t, u with | true, true => true | false, false => true | _, _ => false) && (Nat.beq s r && eqAVs a b)
  | .msl s i o n, .msl s2 i2 o2 n2 => Nat.beq s s2 && (Nat.beq i i2 && (Nat.beq o o2 && Nat.beq n n2))
  | .nilp, .nilp => true
  | .ref i o, .ref j p => Nat.beq i j && Nat.beq o p
  | .nilfn, .nilfn => true
  | .nils s, .nils r => Nat.beq s r
  | _, _ => false
def eqAVs : List AV → List AV → Bool
  | [], [] => true
  | a :: r, b :: s => eqAV a b && eqAVs r s
  | _, _ => false
end
theorem eqB8_ok : ∀ {a b : List UInt8}, eqB8 a b = true → a = b
  | [], [], _ => rfl
  | [], _ :: _, h => by unfold eqB8 at h; cases h
  | _ :: _, [], h => by unfold eqB8 at h; cases h
  | a :: r, b :: s, h => by
    unfold eqB8 at h
    rw [UInt8.toNat_inj.1 (Nat.eq_of_beq_eq_true (and2 h).1), eqB8_ok (and2 h).2]
mutual
theorem eqAV_ok : ∀ {a b : AV}, eqAV a b = true → a = b
  | .undef, b, h => by cases b <;> unfold eqAV at h <;> first | rfl | cases h
  | .bool a, b, h => by
    cases b <;> unfold eqAV at h <;> try (cases h; done)
    next b => cases a <;> cases b <;> first | rfl | cases h
  | .int k a, b, h => by
    cases b <;> unfold eqAV at h <;> try (cases h; done)
    rw [kindEq_eq (and2 h).1, of_decide_eq_true (and2 h).2]
  | .str a, b, h => by
    cases b <;> unfold eqAV at h <;> try (cases h; done)
    rw [eqB8_ok h]
  | .agg a, b, h => by
    cases b <;> unfold eqAV at h <;> try (cases h; done)
    rw [eqAVs_ok h]
  | .tup a, b, h => by
    cases b <;> unfold eqAV at h <;> try (cases h; done)
    rw [eqAVs_ok h]
  | .sl t s a, b, h => by
    cases b <;> unfold eqAV at h <;> try (cases h; done)
    next u r b =>
    obtain ⟨h1, h2⟩ := and2 h
    obtain ⟨h2, h3⟩ := and2 h2
    rw [Nat.eq_of_beq_eq_true h2, eqAVs_ok h3]
    cases t <;> cases u <;> first | rfl | cases h1
  | .msl s i o n, b, h => by
    cases b <;> unfold eqAV at h <;> try (cases h; done)
    obtain ⟨h1, h2⟩ := and2 h
    obtain ⟨h2, h3⟩ := and2 h2
    obtain ⟨h3, h4⟩ := and2 h3
    rw [Nat.eq_of_beq_eq_true h1, Nat.eq_of_beq_eq_true h2, Nat.eq_of_beq_eq_true h3, Nat.eq_of_beq_eq_true h4]
  | .nilp, b, h => by cases b <;> unfold eqAV at h <;> first | rfl | cases h
  | .lp _ _, b, h => by cases b <;> unfold eqAV at h <;> cases h
  | .ref i o, b, h => by
    cases b <;> unfold eqAV at h <;> try (cases h; done)
    rw [Nat.eq_of_beq_eq_true (and2 h).1, Nat.eq_of_beq_eq_true (and2 h).2]
  | .ip _ _, b, h => by cases b <;> unfold eqAV at h <;> cases h
  | .fn _ _ _, b, h => by cases b <;> unfold eqAV at h <;> cases h
  | .nilfn, b, h => by cases b <;> unfold eqAV at h <;> first | rfl | cases h
  | .nils s, b, h => by
    cases b <;> unfold eqAV at h <;> try (cases h; done)
    rw [Nat.eq_of_beq_eq_true h]
theorem eqAVs_ok : ∀ {a b : List AV}, eqAVs a b = true → a = b
  | [], [], _ => rfl
  | [], _ :: _, h => by unfold eqAVs at h; cases h
  | _ :: _, [], h => by unfold eqAVs at h; cases h
  | a :: r, b :: s, h => by
    unfold eqAVs at h
    rw [eqAV_ok (and2 h).1, eqAVs_ok (and2 h).2]
end
/-- Is a store there as it was, with what is new behind it? -/
def prefB : St → St → Bool
  | [], _ => true
  | none :: r, none :: s => prefB r s
  | some a :: r, some b :: s => eqAVs a b && prefB r s
  | _, _ => false
theorem prefB_ok : ∀ {a b : St}, prefB a b = true → ∃ junk, b = a ++ junk
  | [], b, _ => ⟨b, rfl⟩
  | none :: r, [], h => by cases h
  | some _ :: r, [], h => by cases h
  | none :: r, none :: s, h => by
    obtain ⟨j, hj⟩ := prefB_ok (a := r) (b := s) h
    exact ⟨j, by rw [hj]; rfl⟩
  | none :: r, some _ :: s, h => by cases h
  | some _ :: r, none :: s, h => by cases h
  | some a :: r, some b :: s, h => by
    obtain ⟨h1, h2⟩ := and2 (show (eqAVs a b && prefB r s) = true from h)
    obtain ⟨j, hj⟩ := prefB_ok h2
    exact ⟨j, by rw [eqAVs_ok h1, hj]; rfl⟩
/-- A run that leaves the store as it was, with what it makes forgotten. -/
def pureB (call : Run) (f : Nat) (args : List AV) (st : St) : Bool := match call f args st with
  | some (v, s) => refsLt st.length v && prefB st s
  | none => false
def pureV (call : Run) (f : Nat) (args : List AV) (st : St) : AV := match call f args st with
  | some (v, _) => v
  | none => .undef
theorem pure_ok {P : Program} {call : Run} (hc : RunOk P call) {f : Nat} {args : List AV} {st : St} (h : pureB call f args st = true) : VCalls P f args st (fun r st' => r = pureV call f args st ∧ st' = st) := by
  unfold pureB at h
  unfold pureV
  split at h
  · next v s hv =>
    obtain ⟨h1, h2⟩ := and2 h
    refine VCalls.forgetN (hc _ _ _ _ _ hv) ?_ h1
    rintro r st' ⟨rfl, rfl⟩
    exact ⟨rfl, prefB_ok h2⟩
  · cases h
def pureT (call : Run) (pu : List Nat) (f : Nat) : Option PF := match isIn f pu with
  | true => some ⟨fun args st => pureB call f args st = true, pureV call f⟩
  | false => none
/-- A run whose calls of some functions are pure. -/
theorem ok_pure {P : Program} {C : Cf} {call : Run} (h : Ok P C) (hc : RunOk P call) (pu : List Nat) : Ok P { C with pf := pureT call pu } where
  x := h.x
  ti := h.ti
  pf f p hp args st hpre := by
    have hp : pureT call pu f = some p := hp
    unfold pureT at hp
    split at hp
    · cases hp; exact pure_ok hc hpre
    · cases hp
  eq := eqok_of h.ti
  mixed := h.mixed
theorem pb_pure {C : Cf} {call : Run} (pu : List Nat) : PbOk { C with pf := pureT call pu } (pureB call) := by
  intro f p hp args st h
  have hp : pureT call pu f = some p := hp
  unfold pureT at hp
  split at hp
  · cases hp; exact h
  · cases hp
end Go.V

/- WB: what proofs by evaluation lean on: the rule of use, bytes, the arithmetic as a bundle, counted loops, tests. No program in sight. -/
namespace Go.V
set_option maxRecDepth 100000
theorem VCalls.use {P : Program} {C : Cf} (hC : Ok P C) {f : Nat} {fn : Func} {c : Code} {args : List AV} {st : St} {R : AV → St → Prop} (hf : P.funcs[f]? = some fn) (hb : fn.body = some c) (hname : (fn.name == "runtime.NumGoroutine") = false)
    (hn : args.length ≤ fn.ntmps) (hk : codeOk fn.ntmps C c = true) (hv : ∀ R' : AV → St → Prop, (∀ r st, R r st → R' r st) → vfun P C fn args st R') : VCalls P f args st R :=
  VCalls.of_vfun hC hf hb hname hn hk (hv R fun _ _ h => h)
theorem not_lt (a b : Int) : (!decide (a < b)) = decide (b ≤ a) := by
  by_cases h : a < b
  · have : ¬ b ≤ a := by omega
    simp [h, this]
  · have : b ≤ a := by omega
    simp [h, this]
/-- Bytes as a slice's elements. -/
def bs (l : List UInt8) : List AV := l.map u8
theorem bs_u8 (l : List UInt8) : AllU8 (bs l) := ⟨by unfold bs; induction l with | nil => rfl | cons b l ih => simpa only [List.map_cons, List.all_cons, isU8, u8, Bool.true_and] using ih⟩
theorem toU8_u8 (b : UInt8) : toU8 (u8 b) = b := by simp [toU8, u8]
theorem ofB_bs (l : List UInt8) : std .ofB (bs l) = l := by
  show (bs l).map toU8 = l
  unfold bs
  rw [List.map_map]
  conv => rhs; rw [← List.map_id l]
  exact List.map_congr_left fun b _ => toU8_u8 b
theorem len_bs (l : List UInt8) : std .len (bs l) = (l.length : Int) := by
  show ((bs l).length : Int) = l.length
  simp [bs]
def envL : List (Nat × AV) → Env
  | [] => fun _ => .undef
  | (t, v) :: r => upd (envL r) t v
theorem envL_less {e : Env} {bx : Bx} : ∀ {L : List (Nat × AV)}, (∀ p ∈ L, e p.1 = p.2 ∧ noLp p.2 = true) → Less (envL L) e (fun _ => none) bx := by
  intro L h
  have h1 : ∀ t, envL L t = .undef ∨ (envL L t = e t ∧ noLp (e t) = true) := by
    induction L with
    | nil => intro t; exact .inl rfl
    | cons p r ih =>
      intro t
      obtain ⟨u, v⟩ := p
      unfold envL
      by_cases ht : t = u
      · subst ht
        rw [upd_same]
        have := h (t, v) (by simp)
        exact .inr ⟨this.1.symm, by rw [this.1]; exact this.2⟩
      · rw [upd_other _ _ ht]
        exact ih (fun p hp => h p (by simp [hp])) t
  refine ⟨fun t => ?_, fun b => .inl rfl, fun t b o ht => ?_⟩
  · rcases h1 t with h | h
    · exact .inl h
    · exact .inr h.1
  · rcases h1 t with h | ⟨h, h2⟩
    · rw [h] at ht; cases ht
    · rw [← h, ht] at h2; cases h2
theorem i64_succ {j : Nat} (h : (j : Int) + 1 ≤ 9223372036854775807) : std .ar .add .i64 (j : Int) 1 = ((j + 1 : Nat) : Int) := by
  show IntKind.wrap .i64 ((j : Int) + 1) = _
  have h1 : (0 : Int) ≤ (j : Int) := by omega
  have : IntKind.i64.wrap ((j : Int) + 1) = (j : Int) + 1 := by
    have e1 : ((j : Int) + 1) % 18446744073709551616 = (j : Int) + 1 := Int.emod_eq_of_lt (by omega) (by omega)
    have e2 : (2 : Int) ^ IntKind.i64.bits = 18446744073709551616 := by decide
    have e3 : (2 : Int) ^ (IntKind.i64.bits - 1) = 9223372036854775808 := by decide
    unfold IntKind.wrap
    rw [e2, e3, e1]
    have e4 : decide ((j : Int) + 1 ≥ 9223372036854775808) = false := decide_eq_false (by omega)
    simp only [e4, Bool.and_false]
    rfl
  rw [this]; omega
theorem len_mapf {α : Type} (f : α → AV) (L : List α) : std .len (L.map f) = (L.length : Int) := by
  show ((L.map f).length : Int) = _
  simp
theorem get_mapf {α : Type} (f : α → AV) {L : List α} {j : Nat} {a : α} (h : L[j]? = some a) : std .get (L.map f) (j : Int) = f a := by
  show (L.map f).getD (j : Int).toNat .undef = _
  simp [List.getD, h]
theorem wrap_i64 {n : Int} (h0 : -9223372036854775808 ≤ n) (h1 : n ≤ 9223372036854775807) : IntKind.wrap .i64 n = n := by
  have e2 : (2 : Int) ^ IntKind.i64.bits = 18446744073709551616 := by decide
  have e3 : (2 : Int) ^ (IntKind.i64.bits - 1) = 9223372036854775808 := by decide
  have es : IntKind.i64.signed = true := rfl
  unfold IntKind.wrap
  rw [e2, e3, es]
  show (if (true && decide (n % 18446744073709551616 ≥ 9223372036854775808)) = true then n % 18446744073709551616 - 18446744073709551616 else n % 18446744073709551616) = n
  rcases (show n < 0 ∨ 0 ≤ n by omega) with h | h
  · have e1 : n % 18446744073709551616 = n + 18446744073709551616 := by omega
    rw [e1, Bool.true_and, decide_eq_true (by omega), if_pos rfl]
    omega
  · have e1 : n % 18446744073709551616 = n := Int.emod_eq_of_lt h (by omega)
    rw [e1, Bool.true_and, decide_eq_false (by omega), if_neg (by decide)]
theorem add_i64 {a b : Int} (h0 : -9223372036854775808 ≤ a + b) (h1 : a + b ≤ 9223372036854775807) : std .ar .add .i64 a b = a + b := wrap_i64 h0 h1
theorem sub_i64 {a b : Int} (h0 : -9223372036854775808 ≤ a - b) (h1 : a - b ≤ 9223372036854775807) : std .ar .sub .i64 a b = a - b := wrap_i64 h0 h1
theorem mx_std (a b : Int) : std .mx a b = max a b := by
  show (bif decide (b > a) then b else a) = max a b
  rcases Int.lt_trichotomy a b with h | h | h
  · rw [decide_eq_true (by omega)]; simp only [cond_true]; omega
  · rw [decide_eq_false (by omega)]; simp only [cond_false]; omega
  · rw [decide_eq_false (by omega)]; simp only [cond_false]; omega
theorem mn_std (a b : Int) : std .mn a b = min a b := by
  show (bif decide (b < a) then b else a) = min a b
  rcases Int.lt_trichotomy a b with h | h | h
  · rw [decide_eq_false (by omega)]; simp only [cond_false]; omega
  · rw [decide_eq_false (by omega)]; simp only [cond_false]; omega
  · rw [decide_eq_true (by omega)]; simp only [cond_true]; omega
/-- What an evaluation's arithmetic is. -/
structure Ar (X : Ops) : Prop where
  ieq : ∀ a b : Int, X .ieq a b = decide (a = b)
  lt : ∀ a b : Int, X .lt a b = decide (a < b)
  not : ∀ b : Bool, X .not b = !b
  por : ∀ a b : Bool, X .pick a true b = (a || b)
  pand : ∀ a b : Bool, X .pick a b false = (a && b)
  beq : ∀ a b : Bool, X .beq a b = (a == b)
  seq : ∀ a b : List UInt8, X .seq a b = (a == b)
  lenf : ∀ {α : Type} (f : α → AV) (L : List α), X .len (L.map f) = (L.length : Int)
  getf : ∀ {α : Type} (f : α → AV) {L : List α} {j : Nat} {a : α}, L[j]? = some a → X .get (L.map f) (j : Int) = f a
  suc : ∀ {j : Nat}, (j : Int) + 1 ≤ 9223372036854775807 → X .ar .add .i64 (j : Int) 1 = ((j + 1 : Nat) : Int)
  ofb : ∀ l : List UInt8, X .ofB (bs l) = l
  lenb : ∀ l : List UInt8, X .len (bs l) = (l.length : Int)
theorem ar_std : Ar std where
  ieq _ _ := rfl
  lt _ _ := rfl
  not _ := rfl
  por a b := by cases a <;> rfl
  pand a b := by cases a <;> rfl
  beq _ _ := rfl
  seq _ _ := rfl
  lenf := len_mapf
  getf := get_mapf
  suc := i64_succ
  ofb := ofB_bs
  lenb := len_bs
theorem Ar.inK {X : Ops} (a : Ar X) {j N : Nat} {k n : Int} (hjj : (j : Int) = k) (hn : n = (N : Int)) (h : X .lt k n = true) : j < N := by
  rw [a.lt, hn, ← hjj] at h
  exact Int.ofNat_lt.1 (of_decide_eq_true h)
theorem Ar.outK {X : Ops} (a : Ar X) {j N : Nat} {k n : Int} (hjj : (j : Int) = k) (hn : n = (N : Int)) (h : X .lt k n = false) (hj : j ≤ N) : j = N := by
  rw [a.lt, hn, ← hjj] at h
  have : ¬ j < N := fun hh => of_decide_eq_false h (Int.ofNat_lt.2 hh)
  omega
theorem inBK {j N : Nat} {k n : Int} (hjj : (j : Int) = k) (hn : n = (N : Int)) (h : j < N) : InB k n := ⟨by omega, by omega⟩
theorem Ar.sucK {X : Ops} (a : Ar X) {j N : Nat} {k : Int} (hjj : (j : Int) = k) (hN : (N : Int) ≤ 9223372036854775807) (h : j < N) : X .ar .add .i64 k 1 = ((j + 1 : Nat) : Int) := by
  rw [← hjj]; exact a.suc (by omega)
theorem appOkK {n m : Int} {b N M : Nat} (hn : n = (N : Int)) (hm : m = (M : Int)) (h : (N + M) * b ≤ 140737488355328) : AppOk n m b := by
  subst hn; subst hm
  refine ⟨?_⟩
  have : (((N + M) * b : Nat) : Int) ≤ 140737488355328 := by omega
  rw [Int.natCast_mul, Int.natCast_add] at this
  exact this
theorem kfacts {j N : Nat} {k M : Int} (hjj : (j : Int) = k) (hM : (N : Int) ≤ M) (h : j < N) : 0 ≤ k ∧ k < M := ⟨by omega, by omega⟩
theorem kzero {j : Nat} {k : Int} (hjj : (j : Int) = k) : k = 0 ↔ j = 0 := by omega
theorem kpos {j : Nat} {k : Int} (hjj : (j : Int) = k) : 0 < k ↔ 0 < j := by omega
theorem kpred {j : Nat} {k : Int} (hjj : (j : Int) = k) (h : ¬ j = 0) : ((j - 1 : Nat) : Int) = k - 1 := by omega
theorem kle {j : Nat} {k m : Int} (hjj : (j : Int) = k) (h : k < m) : ((j + 1 : Nat) : Int) ≤ m := by omega
theorem kout {j N : Nat} {k m : Int} (hjj : (j : Int) = k) (hje : j = N) (h : k ≤ m ∨ j = 0) : (N : Int) ≤ m ∨ N = 0 := by omega
theorem all_upto {α : Type} {L : List α} {p : α → Bool} {j : Nat} (hj : j = L.length) (h : ∀ (i : Nat) (a : α), i < j → L[i]? = some a → p a = true) : L.all p = true := by
  rw [List.all_eq_true]
  intro a ha
  obtain ⟨i, hi⟩ := List.getElem?_of_mem ha
  exact h i a (by have := (List.getElem?_eq_some_iff.1 hi).1; omega) hi
theorem all_not {α : Type} {L : List α} {p : α → Bool} {j : Nat} {a : α} (ha : L[j]? = some a) (h : p a = false) : L.all p = false := by
  rw [List.all_eq_false]
  exact ⟨a, List.mem_of_getElem? ha, by rw [h]; simp⟩
theorem upto_suc {α : Type} {L : List α} {p : α → Bool} {j : Nat} {a : α} (ha : L[j]? = some a) (hp : p a = true) (h : ∀ (i : Nat) (a : α), i < j → L[i]? = some a → p a = true) : ∀ (i : Nat) (a : α), i < j + 1 → L[i]? = some a → p a = true := by
  intro i b hi hb
  rcases Nat.lt_or_ge i j with hh | hh
  · exact h i b hh hb
  · obtain rfl : i = j := by omega
    rw [ha] at hb
    obtain rfl := Option.some.inj hb
    exact hp
theorem getE {α : Type} {L : List α} {j N : Nat} (hN : N = L.length) (h : j < N) : ∃ a, L[j]? = some a := ⟨L[j]'(by omega), List.getElem?_eq_getElem (by omega)⟩
/-- The arithmetic out of its parts. -/
def mkOps (xlt : Int → Int → Bool) (xieq : Int → Int → Bool) (xseq : List UInt8 → List UInt8 → Bool) (xslt : List UInt8 → List UInt8 → Bool) (xar : BinOp → IntKind → Int → Int → Int) (xconv : IntKind → Int → Int) (xnot : Bool → Bool) (xpick : Bool → Bool → Bool → Bool) (xbeq : Bool → Bool → Bool) (xeqc : List AV → List AV → Bool) (xlen : List AV → Int) (xslen : List UInt8 → Int) (xget : List AV → Int → AV) (xsget : List UInt8 → Int → Int) (xsub : List AV → Int → Int → List AV) (xssub : List UInt8 → Int → Int → List UInt8) (xapp : List AV → List AV → List AV) (xcat : List UInt8 → List UInt8 → List UInt8) (xtoB : List UInt8 → List AV) (xofB : List AV → List UInt8) (xrep : Int → AV → List AV) (xrepc : Int → List AV → List AV) (xchunks : Nat → Int → List AV → List AV) (xmx : Int → Int → Int) (xmn : Int → Int → Int) : Ops
  | .lt => xlt
  | .ieq => xieq
  | .seq => xseq
  | .slt => xslt
  | .ar => xar
  | .conv => xconv
  | .not => xnot
  | .pick => xpick
  | .beq => xbeq
  | .eqc => xeqc
  | .len => xlen
  | .slen => xslen
  | .get => xget
  | .sget => xsget
  | .sub => xsub
  | .ssub => xssub
  | .app => xapp
  | .cat => xcat
  | .toB => xtoB
  | .ofB => xofB
  | .rep => xrep
  | .repc => xrepc
  | .chunks => xchunks
  | .mx => xmx
  | .mn => xmn
/-- What the parts of the arithmetic are. -/
structure Arf (xlt : Int → Int → Bool) (xieq : Int → Int → Bool) (xseq : List UInt8 → List UInt8 → Bool) (xslt : List UInt8 → List UInt8 → Bool) (xar : BinOp → IntKind → Int → Int → Int) (xconv : IntKind → Int → Int) (xnot : Bool → Bool) (xpick : Bool → Bool → Bool → Bool) (xbeq : Bool → Bool → Bool) (xeqc : List AV → List AV → Bool) (xlen : List AV → Int) (xslen : List UInt8 → Int) (xget : List AV → Int → AV) (xsget : List UInt8 → Int → Int) (xsub : List AV → Int → Int → List AV) (xssub : List UInt8 → Int → Int → List UInt8) (xapp : List AV → List AV → List AV) (xcat : List UInt8 → List UInt8 → List UInt8) (xtoB : List UInt8 → List AV) (xofB : List AV → List UInt8) (xrep : Int → AV → List AV) (xrepc : Int → List AV → List AV) (xchunks : Nat → Int → List AV → List AV) (xmx : Int → Int → Int) (xmn : Int → Int → Int) : Prop where
  ieq : ∀ a b : Int, xieq a b = decide (a = b)
  lt : ∀ a b : Int, xlt a b = decide (a < b)
  not : ∀ b : Bool, xnot b = !b
  por : ∀ a b : Bool, xpick a true b = (a || b)
  pand : ∀ a b : Bool, xpick a b false = (a && b)
  beq : ∀ a b : Bool, xbeq a b = (a == b)
  seq : ∀ a b : List UInt8, xseq a b = (a == b)
  lenf : ∀ {α : Type} (f : α → AV) (L : List α), xlen (L.map f) = (L.length : Int)
  getf : ∀ {α : Type} (f : α → AV) {L : List α} {j : Nat} {a : α}, L[j]? = some a → xget (L.map f) (j : Int) = f a
  suc : ∀ {j : Nat}, (j : Int) + 1 ≤ 9223372036854775807 → xar .add .i64 (j : Int) 1 = ((j + 1 : Nat) : Int)
  add : ∀ {a b : Int}, -9223372036854775808 ≤ a + b → a + b ≤ 9223372036854775807 → xar .add .i64 a b = a + b
  subi : ∀ {a b : Int}, -9223372036854775808 ≤ a - b → a - b ≤ 9223372036854775807 → xar .sub .i64 a b = a - b
  ofb : ∀ l : List UInt8, xofB (bs l) = l
  lenb : ∀ l : List UInt8, xlen (bs l) = (l.length : Int)
  inK : ∀ {j N : Nat} {k n : Int}, (j : Int) = k → n = (N : Int) → xlt k n = true → j < N
  outK : ∀ {j N : Nat} {k n : Int}, (j : Int) = k → n = (N : Int) → xlt k n = false → j ≤ N → j = N
  sucK : ∀ {j N : Nat} {k : Int}, (j : Int) = k → (N : Int) ≤ 9223372036854775807 → j < N → xar .add .i64 k 1 = ((j + 1 : Nat) : Int)
  subE : ∀ (l : List AV) (a b : Int), xsub l a b = (l.take b.toNat).drop a.toNat
  appE : ∀ (a b : List AV), xapp a b = a ++ b
  lenE : ∀ (l : List AV), xlen l = (l.length : Int)
  slenE : ∀ (l : List UInt8), xslen l = (l.length : Int)
  getE : ∀ (l : List AV) (n : Int), xget l n = l.getD n.toNat .undef
  arE : ∀ (op : BinOp) (k : IntKind) (a b : Int), xar op k a b = arith op k a b
  convE : ∀ (k : IntKind) (n : Int), xconv k n = k.wrap n
  mxE : ∀ (a b : Int), xmx a b = max a b
  mnE : ∀ (a b : Int), xmn a b = min a b
  toBE : ∀ (s : List UInt8), xtoB s = bs s
  ofBE : ∀ (l : List AV), xofB l = l.map toU8
  repE : ∀ (n : Int) (v : AV), xrep n v = List.replicate n.toNat v
  elt : xlt = std .lt
  eieq : xieq = std .ieq
  eseq : xseq = std .seq
  eslt : xslt = std .slt
  ear : xar = std .ar
  econv : xconv = std .conv
  enot : xnot = std .not
  epick : xpick = std .pick
  ebeq : xbeq = std .beq
  eeqc : xeqc = std .eqc
  elen : xlen = std .len
  eslen : xslen = std .slen
  eget : xget = std .get
  esget : xsget = std .sget
  esub : xsub = std .sub
  essub : xssub = std .ssub
  eapp : xapp = std .app
  ecat : xcat = std .cat
  etoB : xtoB = std .toB
  eofB : xofB = std .ofB
  erep : xrep = std .rep
  erepc : xrepc = std .repc
  echunks : xchunks = std .chunks
  emx : xmx = std .mx
  emn : xmn = std .mn
/-- A veil: what stands behind it is not evaluated, but its arguments are. -/
inductive Veil where
  | a | b
noncomputable abbrev vl {α : Type} (v : Veil) (f : α) : α := @Veil.rec (fun _ => α) f f v
theorem vl_eq {α : Type} (v : Veil) (f : α) : vl v f = f := by cases v <;> rfl
theorem vl_use {α : Type} (v : Veil) (x : α) {p : Prop} (k : ∀ f, x = vl v f → p) : p := k x (vl_eq v x).symm
theorem ops_split {X : Ops} (h : std = X) : ∃ (v : Veil) (xlt : Int → Int → Bool) (xieq : Int → Int → Bool) (xseq : List UInt8 → List UInt8 → Bool) (xslt : List UInt8 → List UInt8 → Bool) (xar : BinOp → IntKind → Int → Int → Int) (xconv : IntKind → Int → Int) (xnot : Bool → Bool) (xpick : Bool → Bool → Bool → Bool) (xbeq : Bool → Bool → Bool) (xeqc : List AV → List AV → Bool) (xlen : List AV → Int) (xslen : List UInt8 → Int) (xget : List AV → Int → AV) (xsget : List UInt8 → Int → Int) (xsub : List AV → Int → Int → List AV) (xssub : List UInt8 → Int → Int → List UInt8) (xapp : List AV → List AV → List AV) (xcat : List UInt8 → List UInt8 → List UInt8) (xtoB : List UInt8 → List AV) (xofB : List AV → List UInt8) (xrep : Int → AV → List AV) (xrepc : Int → List AV → List AV) (xchunks : Nat → Int → List AV → List AV) (xmx : Int → Int → Int) (xmn : Int → Int → Int), X = mkOps (vl v xlt) (vl v xieq) (vl v xseq) (vl v xslt) (vl v xar) (vl v xconv) (vl v xnot) (vl v xpick) (vl v xbeq) (vl v xeqc) (vl v xlen) (vl v xslen) (vl v xget) (vl v xsget) (vl v xsub) (vl v xssub) (vl v xapp) (vl v xcat) (vl v xtoB) (vl v xofB) (vl v xrep) (vl v xrepc) (vl v xchunks) (vl v xmx) (vl v xmn) ∧ Arf (vl v xlt) (vl v xieq) (vl v xseq) (vl v xslt) (vl v xar) (vl v xconv) (vl v xnot) (vl v xpick) (vl v xbeq) (vl v xeqc) (vl v xlen) (vl v xslen) (vl v xget) (vl v xsget) (vl v xsub) (vl v xssub) (vl v xapp) (vl v xcat) (vl v xtoB) (vl v xofB) (vl v xrep) (vl v xrepc) (vl v xchunks) (vl v xmx) (vl v xmn) := by
  subst h
  refine ⟨.a, std .lt, std .ieq, std .seq, std .slt, std .ar, std .conv, std .not, std .pick, std .beq, std .eqc, std .len, std .slen, std .get, std .sget, std .sub, std .ssub, std .app, std .cat, std .toB, std .ofB, std .rep, std .repc, std .chunks, std .mx, std .mn, ?_, ?_⟩
  · funext s; cases s <;> rfl
  · refine ⟨ar_std.ieq, ar_std.lt, ar_std.not, ar_std.por, ar_std.pand, ar_std.beq, ar_std.seq, ar_std.lenf, ar_std.getf, ar_std.suc, add_i64, sub_i64, ar_std.ofb, ar_std.lenb, ar_std.inK, ar_std.outK, ar_std.sucK, fun _ _ _ => rfl, fun _ _ => rfl, fun _ => rfl, fun _ => rfl, fun _ _ => rfl, fun _ _ _ _ => rfl, fun _ _ => rfl, mx_std, mn_std, fun _ => rfl, fun _ => rfl, fun _ _ => rfl, rfl, rfl, rfl, rfl, rfl, rfl, rfl, rfl, rfl, rfl, rfl, rfl, rfl, rfl, rfl, rfl, rfl, rfl, rfl, rfl, rfl, rfl, rfl, rfl, rfl⟩
theorem ops_use {X : Ops} (h : std = X) {p : Prop} (k : ∀ (v : Veil) (xlt : Int → Int → Bool) (xieq : Int → Int → Bool) (xseq : List UInt8 → List UInt8 → Bool) (xslt : List UInt8 → List UInt8 → Bool) (xar : BinOp → IntKind → Int → Int → Int) (xconv : IntKind → Int → Int) (xnot : Bool → Bool) (xpick : Bool → Bool → Bool → Bool) (xbeq : Bool → Bool → Bool) (xeqc : List AV → List AV → Bool) (xlen : List AV → Int) (xslen : List UInt8 → Int) (xget : List AV → Int → AV) (xsget : List UInt8 → Int → Int) (xsub : List AV → Int → Int → List AV) (xssub : List UInt8 → Int → Int → List UInt8) (xapp : List AV → List AV → List AV) (xcat : List UInt8 → List UInt8 → List UInt8) (xtoB : List UInt8 → List AV) (xofB : List AV → List UInt8) (xrep : Int → AV → List AV) (xrepc : Int → List AV → List AV) (xchunks : Nat → Int → List AV → List AV) (xmx : Int → Int → Int) (xmn : Int → Int → Int), X = mkOps (vl v xlt) (vl v xieq) (vl v xseq) (vl v xslt) (vl v xar) (vl v xconv) (vl v xnot) (vl v xpick) (vl v xbeq) (vl v xeqc) (vl v xlen) (vl v xslen) (vl v xget) (vl v xsget) (vl v xsub) (vl v xssub) (vl v xapp) (vl v xcat) (vl v xtoB) (vl v xofB) (vl v xrep) (vl v xrepc) (vl v xchunks) (vl v xmx) (vl v xmn) → Arf (vl v xlt) (vl v xieq) (vl v xseq) (vl v xslt) (vl v xar) (vl v xconv) (vl v xnot) (vl v xpick) (vl v xbeq) (vl v xeqc) (vl v xlen) (vl v xslen) (vl v xget) (vl v xsget) (vl v xsub) (vl v xssub) (vl v xapp) (vl v xcat) (vl v xtoB) (vl v xofB) (vl v xrep) (vl v xrepc) (vl v xchunks) (vl v xmx) (vl v xmn) → p) : p := by
  obtain ⟨v, xlt, xieq, xseq, xslt, xar, xconv, xnot, xpick, xbeq, xeqc, xlen, xslen, xget, xsget, xsub, xssub, xapp, xcat, xtoB, xofB, xrep, xrepc, xchunks, xmx, xmn, h1, h2⟩ := ops_split h
  exact k v xlt xieq xseq xslt xar xconv xnot xpick xbeq xeqc xlen xslen xget xsget xsub xssub xapp xcat xtoB xofB xrep xrepc xchunks xmx xmn h1 h2
/-- An undecided test. -/
theorem tst {b : Bool} {A B : Prop} : (b = true → A) → (b = false → B) → (match b with | true => A | false => B) := by
  intro h1 h0
  cases b
  · exact h0 rfl
  · exact h1 rfl
theorem tstT {b : Bool} {A B : Prop} : b = true → A → (match b with | true => A | false => B) := by
  intro h a; subst h; exact a
theorem tstF {b : Bool} {A B : Prop} : b = false → B → (match b with | true => A | false => B) := by
  intro h a; subst h; exact a
def bxL : List (Nat × List AV) → Bx
  | [] => fun _ => none
  | (b, c) :: r => upd (bxL r) b (some c)
/-- Temps and boxes are as said. -/
def HasE : List (Nat × AV) → Env → Prop
  | [], _ => True
  | (t, v) :: r, e => e t = v ∧ HasE r e
def HasB : List (Nat × List AV) → Bx → Prop
  | [], _ => True
  | (b, c) :: r, bx => bx b = some c ∧ HasB r bx
def inL : List (Nat × List AV) → Nat → Bool
  | [], _ => false
  | (b, _) :: r, t => Nat.beq t b || inL r t
def lpIn (B : List (Nat × List AV)) : List (Nat × AV) → Bool
  | [] => true
  | (_, .lp b _) :: r => inL B b && lpIn B r
  | _ :: r => lpIn B r
theorem hasE_less {e : Env} : ∀ {E : List (Nat × AV)}, HasE E e → ∀ t, envL E t = .undef ∨ envL E t = e t
  | [], _, t => .inl rfl
  | (u, v) :: r, h, t => by
    unfold envL
    by_cases ht : t = u
    · subst ht; rw [upd_same]; exact .inr h.1.symm
    · rw [upd_other _ _ ht]; exact hasE_less h.2 t
theorem hasB_less {bx : Bx} : ∀ {B : List (Nat × List AV)}, HasB B bx → ∀ b, bxL B b = none ∨ bxL B b = bx b
  | [], _, t => .inl rfl
  | (u, v) :: r, h, t => by
    unfold bxL
    by_cases ht : t = u
    · subst ht; rw [upd_same]; exact .inr h.1.symm
    · rw [upd_other _ _ ht]; exact hasB_less h.2 t
theorem inL_some : ∀ {B : List (Nat × List AV)} {b : Nat}, inL B b = true → ∃ c, bxL B b = some c
  | (u, v) :: r, b, h => by
    unfold bxL
    by_cases ht : b = u
    · subst ht; rw [upd_same]; exact ⟨_, rfl⟩
    · rw [upd_other _ _ ht]
      unfold inL at h
      rcases (Bool.or_eq_true _ _).mp h with h | h
      · exact absurd (Nat.eq_of_beq_eq_true h) ht
      · exact inL_some h
theorem lpIn_some {B : List (Nat × List AV)} {b o : Nat} : ∀ {E : List (Nat × AV)} {t : Nat}, lpIn B E = true → envL E t = .lp b o → inL B b = true
  | [], t, _, h => by cases h
  | (u, v) :: r, t, hl, h => by
    unfold envL at h
    have hr : lpIn B r = true := by
      cases v <;> first | exact hl | exact ((Bool.and_eq_true _ _).mp hl).2
    by_cases ht : t = u
    · subst ht; rw [upd_same] at h; subst h; exact ((Bool.and_eq_true _ _).mp hl).1
    · rw [upd_other _ _ ht] at h; exact lpIn_some hr h
theorem has_less {E : List (Nat × AV)} {B : List (Nat × List AV)} {e : Env} {bx : Bx} (hE : HasE E e) (hB : HasB B bx) (hl : lpIn B E = true) : Less (envL E) e (bxL B) bx := by
  refine ⟨hasE_less hE, hasB_less hB, fun t b o h => ?_⟩
  obtain ⟨c, hc⟩ := inL_some (lpIn_some hl h)
  rcases hasB_less hB b with h | h
  · rw [hc] at h; cases h
  · exact h
/-- COUNTED LOOPS that change the store: round j starts with the temps en j s, the boxes bn j s and the store sn j s. -/
theorem wp_forS {P : Program} {C : Cf} {n : Nat} {c : Code} {Q : Ex → Env → Bx → St → Prop} {e : Env} {bx : Bx} {st : St} (hC : Ok P C) (hk : codeOk n C c = true) {σ : Type} (N : Nat) (inv : Nat → σ → Prop)
    (en : Nat → σ → List (Nat × AV)) (bn : Nat → σ → List (Nat × List AV)) (sn : Nat → σ → St) (s0 : σ) (hst : st = sn 0 s0) (hi : inv 0 s0) (hl : ∀ j s, lpIn (bn j s) (en j s) = true) (hE : HasE (en 0 s0) e) (hB : HasB (bn 0 s0) bx)
    (step : ∀ j s, j ≤ N → inv j s → ∀ K : Ex → Env → Bx → St → Prop, (∀ s' e' bx' st', j < N → inv (j + 1) s' → HasE (en (j + 1) s') e' → HasB (bn (j + 1) s') bx' → st' = sn (j + 1) s' → K .normal e' bx' st') → (∀ x e' bx' st', x ≠ .normal → Q x e' bx' st' → K x e' bx' st') →
      vwp P n C c K (envL (en j s)) (bxL (bn j s)) (sn j s)) : Wp P n (.loop c) Q e bx st := by
  subst hst
  refine Wp.weaken (e' := envL (en 0 s0)) (bx' := bxL (bn 0 s0)) ?_ (has_less hE hB (hl 0 s0))
  refine wp_loop_inv (fun m e bx s => ∃ (j : Nat) (t : σ), m = N - j ∧ j ≤ N ∧ inv j t ∧ e = envL (en j t) ∧ bx = bxL (bn j t) ∧ s = sn j t) ?_ N _ _ _ ⟨0, s0, rfl, Nat.zero_le _, hi, rfl, rfl, rfl⟩
  rintro m e bx s ⟨j, t, rfl, hj, hv, rfl, rfl, rfl⟩
  refine wp_of_vwp hC hk (step j t hj hv _ ?_ ?_)
  · intro s' e' bx' st' hjN hv' hE' hB' hs'
    exact ⟨N - (j + 1), _, _, by omega, has_less hE' hB' (hl _ _), j + 1, s', rfl, by omega, hv', rfl, rfl, hs'⟩
  · intro x e' bx' st' hx hq
    cases x with
    | normal => exact absurd rfl hx
    | _ => exact hq
/-- COUNTED LOOPS: round j starts with the temps en j s and the boxes bn j s. -/
theorem wp_for {P : Program} {C : Cf} {n : Nat} {c : Code} {Q : Ex → Env → Bx → St → Prop} {e : Env} {bx : Bx} {st : St} (hC : Ok P C) (hk : codeOk n C c = true) {σ : Type} (N : Nat) (inv : Nat → σ → Prop)
    (en : Nat → σ → List (Nat × AV)) (bn : Nat → σ → List (Nat × List AV)) (s0 : σ) (hi : inv 0 s0) (hl : ∀ j s, lpIn (bn j s) (en j s) = true) (hE : HasE (en 0 s0) e) (hB : HasB (bn 0 s0) bx)
    (step : ∀ j s, j ≤ N → inv j s → ∀ K : Ex → Env → Bx → St → Prop, (∀ s' e' bx', j < N → inv (j + 1) s' → HasE (en (j + 1) s') e' → HasB (bn (j + 1) s') bx' → K .normal e' bx' st) → (∀ x e' bx' st', x ≠ .normal → Q x e' bx' st' → K x e' bx' st') →
      vwp P n C c K (envL (en j s)) (bxL (bn j s)) st) : Wp P n (.loop c) Q e bx st := by
  refine Wp.weaken (e' := envL (en 0 s0)) (bx' := bxL (bn 0 s0)) ?_ (has_less hE hB (hl 0 s0))
  refine wp_loop_inv (fun m e bx s => ∃ (j : Nat) (t : σ), m = N - j ∧ j ≤ N ∧ inv j t ∧ e = envL (en j t) ∧ bx = bxL (bn j t) ∧ s = st) ?_ N _ _ _ ⟨0, s0, rfl, Nat.zero_le _, hi, rfl, rfl, rfl⟩
  rintro m e bx s ⟨j, t, rfl, hj, hv, rfl, rfl, rfl⟩
  refine wp_of_vwp hC hk (step j t hj hv _ ?_ ?_)
  · intro s' e' bx' hjN hv' hE' hB'
    exact ⟨N - (j + 1), _, _, by omega, has_less hE' hB' (hl _ _), j + 1, s', rfl, by omega, hv', rfl, rfl, rfl⟩
  · intro x e' bx' st' hx hq
    cases x with
    | normal => exact absurd rfl hx
    | _ => exact hq
end Go.V
