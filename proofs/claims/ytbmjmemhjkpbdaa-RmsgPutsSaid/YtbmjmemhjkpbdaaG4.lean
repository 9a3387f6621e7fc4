/- V33: a call sees of the store what is handed to it: objects under other numbers, beside others. First part: renaming. No program in sight. -/
import Derived.Test.YtbmjmemhjkpbdaaVC
set_option linter.unusedVariables false
set_option linter.unusedSimpArgs false
namespace Go.V
mutual
/-- A value with its objects under other numbers. -/
def ren (ρ : Nat → Nat) : AV → AV
  | .agg cs => .agg (rens ρ cs)
  | .tup vs => .tup (rens ρ vs)
  | .sl t sz es => .sl t sz (rens ρ es)
  | .msl sz id off n => .msl sz (ρ id) off n
  | .ref id off => .ref (ρ id) off
  | .ip v off => .ip (ren ρ v) off
  | .fn f a b => .fn f (rens ρ a) (rens ρ b)
  | .undef => .undef
  | .bool b => .bool b
  | .int k n => .int k n
  | .str s => .str s
  | .nilp => .nilp
  | .lp b o => .lp b o
  | .nilfn => .nilfn
  | .nils sz => .nils sz
def rens (ρ : Nat → Nat) : List AV → List AV
  | [] => []
  | v :: r => ren ρ v :: rens ρ r
end
theorem rens_length (ρ : Nat → Nat) : ∀ l : List AV, (rens ρ l).length = l.length
  | [] => by unfold rens; rfl
  | v :: r => by unfold rens; simp [rens_length ρ r]
theorem rens_get (ρ : Nat → Nat) : ∀ (l : List AV) (j : Nat), (rens ρ l)[j]? = (l[j]?).map (ren ρ)
  | [], j => by unfold rens; simp
  | v :: r, 0 => by unfold rens; simp
  | v :: r, j + 1 => by unfold rens; simpa using rens_get ρ r j
theorem ren_cells (ρ : Nat → Nat) (v : AV) : (ren ρ v).cells = rens ρ v.cells := by
  cases v <;> simp [ren, rens, AV.cells]
theorem ren_scal (ρ : Nat → Nat) (v : AV) : scal (ren ρ v) = scal v := by cases v <;> simp [ren, scal]
theorem rens_scal (ρ : Nat → Nat) : ∀ l : List AV, scalAll (rens ρ l) = scalAll l
  | [] => by unfold rens; rfl
  | v :: r => by
    unfold rens scalAll
    rw [ren_scal, rens_scal ρ r]
section
variable {I : Mem} {σ σ' : List Nat} {ρ : Nat → Nat} (hρ : ∀ i b, σ[i]? = some b → σ'[ρ i]? = some b)
mutual
theorem Rep.to_ren {I : Mem} {σ σ' : List Nat} {ρ : Nat → Nat} (hρ : ∀ i b, σ[i]? = some b → σ'[ρ i]? = some b) : ∀ {v : AV} {cv : Value}, Rep I σ v cv → Rep I σ' (ren ρ v) cv
  | _, _, .undef => by unfold ren; exact .undef
  | _, _, .bool => by unfold ren; exact .bool
  | _, _, .int => by unfold ren; exact .int
  | _, _, .str => by unfold ren; exact .str
  | _, _, .agg h => by unfold ren; exact .agg (Reps.to_ren hρ h)
  | _, _, .tup h => by unfold ren; exact .tup (Reps.to_ren hρ h)
  | _, _, .snil => by unfold ren rens; exact .snil
  | _, _, .nils => by unfold ren; exact .nils
  | _, _, .spot => by unfold ren rens; exact .spot
  | _, _, .sl h hn hc => by unfold ren; exact .sl (Row.to_ren hρ h) (by rw [rens_length]; exact hn) hc
  | _, _, .msl h hc => by unfold ren; exact .msl (hρ _ _ h) hc
  | _, _, .nilp => by unfold ren; exact .nilp
  | _, _, .ref h => by unfold ren; exact .ref (hρ _ _ h)
  | _, _, .ip h => by unfold ren; exact .ip (RepAt.to_ren hρ h)
  | _, _, .nilfn => by unfold ren; exact .nilfn
  | _, _, .fn h k => by unfold ren; exact .fn (Reps.to_ren hρ h) (Reps.to_ren hρ k)
theorem Reps.to_ren {I : Mem} {σ σ' : List Nat} {ρ : Nat → Nat} (hρ : ∀ i b, σ[i]? = some b → σ'[ρ i]? = some b) : ∀ {vs : List AV} {cvs : List Value}, Reps I σ vs cvs → Reps I σ' (rens ρ vs) cvs
  | _, _, .nil => by unfold rens; exact .nil
  | _, _, .cons h k => by unfold rens; exact .cons (Rep.to_ren hρ h) (Reps.to_ren hρ k)
theorem RepAt.to_ren {I : Mem} {σ σ' : List Nat} {ρ : Nat → Nat} (hρ : ∀ i b, σ[i]? = some b → σ'[ρ i]? = some b) : ∀ {v : AV} {b o : Nat}, RepAt I σ v b o → RepAt I σ' (ren ρ v) b o
  | _, _, _, .mk h k => .mk (by rw [ren_cells]; exact Reps.to_ren hρ h) k
theorem Row.to_ren {I : Mem} {σ σ' : List Nat} {ρ : Nat → Nat} (hρ : ∀ i b, σ[i]? = some b → σ'[ρ i]? = some b) : ∀ {es : List AV} {b o sz : Nat}, Row I σ es b o sz → Row I σ' (rens ρ es) b o sz
  | _, _, _, _, .nil => by unfold rens; exact .nil
  | _, _, _, _, .cons h h0 hs k r => by unfold rens; exact .cons (by rw [ren_cells, rens_length]; exact h) h0 (by rw [ren_cells, rens_scal]; exact hs) (RepAt.to_ren hρ k) (Row.to_ren hρ r)
end
mutual
theorem Rep.of_ren {I : Mem} {σ σ' : List Nat} {ρ : Nat → Nat} (hρ : ∀ i b, σ'[ρ i]? = some b → σ[i]? = some b) : ∀ {u : AV} {cv : Value}, Rep I σ' u cv → ∀ {v : AV}, u = ren ρ v → Rep I σ v cv
  | _, _, .undef, v, e => by cases v <;> simp [ren] at e; exact .undef
  | _, _, .bool, v, e => by cases v <;> simp [ren] at e; subst e; exact .bool
  | _, _, .int, v, e => by cases v <;> simp [ren] at e; obtain ⟨rfl, rfl⟩ := e; exact .int
  | _, _, .str, v, e => by cases v <;> simp [ren] at e; subst e; exact .str
  | _, _, .agg h, v, e => by cases v <;> simp [ren] at e; exact .agg (Reps.of_ren hρ h e)
  | _, _, .tup h, v, e => by cases v <;> simp [ren] at e; exact .tup (Reps.of_ren hρ h e)
  | _, _, .snil, v, e => by
    cases v <;> simp [ren] at e
    next t sz es =>
    obtain ⟨rfl, rfl, e⟩ := e
    cases es with
    | nil => exact .snil
    | cons a r => unfold rens at e; cases e
  | _, _, .nils, v, e => by cases v <;> simp [ren] at e; subst e; exact .nils
  | _, _, .spot, v, e => by
    cases v <;> simp [ren] at e
    next t sz es =>
    obtain ⟨rfl, rfl, e⟩ := e
    cases es with
    | nil => exact .spot
    | cons a r => unfold rens at e; cases e
  | _, _, .sl h hn hc, v, e => by
    cases v <;> simp [ren] at e
    obtain ⟨rfl, rfl, e⟩ := e
    exact .sl (Row.of_ren hρ h e) (by rw [hn, e, rens_length]) hc
  | _, _, .msl h hc, v, e => by
    cases v <;> simp [ren] at e
    obtain ⟨rfl, rfl, rfl, rfl⟩ := e
    exact .msl (hρ _ _ h) hc
  | _, _, .nilp, v, e => by cases v <;> simp [ren] at e; exact .nilp
  | _, _, .ref h, v, e => by
    cases v <;> simp [ren] at e
    obtain ⟨rfl, rfl⟩ := e
    exact .ref (hρ _ _ h)
  | _, _, .ip h, v, e => by
    cases v <;> simp [ren] at e
    obtain ⟨e, rfl⟩ := e
    exact .ip (RepAt.of_ren hρ h e)
  | _, _, .nilfn, v, e => by cases v <;> simp [ren] at e; exact .nilfn
  | _, _, .fn h k, v, e => by
    cases v <;> simp [ren] at e
    obtain ⟨rfl, e1, e2⟩ := e
    exact .fn (Reps.of_ren hρ h e1) (Reps.of_ren hρ k e2)
termination_by structural _ _ h => h
theorem Reps.of_ren {I : Mem} {σ σ' : List Nat} {ρ : Nat → Nat} (hρ : ∀ i b, σ'[ρ i]? = some b → σ[i]? = some b) : ∀ {us : List AV} {cvs : List Value}, Reps I σ' us cvs → ∀ {vs : List AV}, us = rens ρ vs → Reps I σ vs cvs
  | _, _, .nil, vs, e => by
    cases vs with
    | nil => exact .nil
    | cons a r => unfold rens at e; cases e
  | _, _, .cons h k, vs, e => by
    cases vs with
    | nil => unfold rens at e; cases e
    | cons a r =>
      unfold rens at e
      injection e with e1 e2
      exact .cons (Rep.of_ren hρ h e1) (Reps.of_ren hρ k e2)
termination_by structural _ _ h => h
theorem RepAt.of_ren {I : Mem} {σ σ' : List Nat} {ρ : Nat → Nat} (hρ : ∀ i b, σ'[ρ i]? = some b → σ[i]? = some b) : ∀ {u : AV} {b o : Nat}, RepAt I σ' u b o → ∀ {v : AV}, u = ren ρ v → RepAt I σ v b o
  | _, _, _, .mk h k, v, e => .mk (Reps.of_ren hρ h (by rw [e, ren_cells])) k
termination_by structural _ _ _ h => h
theorem Row.of_ren {I : Mem} {σ σ' : List Nat} {ρ : Nat → Nat} (hρ : ∀ i b, σ'[ρ i]? = some b → σ[i]? = some b) : ∀ {us : List AV} {b o sz : Nat}, Row I σ' us b o sz → ∀ {vs : List AV}, us = rens ρ vs → Row I σ vs b o sz
  | _, _, _, _, .nil, vs, e => by
    cases vs with
    | nil => exact .nil
    | cons a r => unfold rens at e; cases e
  | _, _, _, sz, .cons h h0 hs k r, vs, e => by
    cases vs with
    | nil => unfold rens at e; cases e
    | cons a s =>
      unfold rens at e
      injection e with e1 e2
      have h' : a.cells.length = sz := by rw [← rens_length ρ, ← ren_cells, ← e1]; exact h
      have hs' : scalAll a.cells = true := by rw [← rens_scal ρ, ← ren_cells, ← e1]; exact hs
      exact .cons h' h0 hs' (RepAt.of_ren hρ k e1) (Row.of_ren hρ r e2)
termination_by structural _ _ _ _ h => h
end
end
end Go.V

/- V34: a call sees of the store what is handed to it: second part: the theorem. No program in sight. -/
namespace Go.V
/-- The numbers of a part's objects in the whole: those that were there, then new ones. -/
def roL (ids : List Nat) (n : Nat) (k : Nat) : Nat := match ids[k]? with
  | some i => i
  | none => n + (k - ids.length)
def plc : List Nat → Nat → Option Nat
  | [], _ => none
  | a :: r, i => match Nat.beq a i with
    | true => some 0
    | false => (plc r i).map (· + 1)
theorem plc_some : ∀ {ids : List Nat} {i k : Nat}, plc ids i = some k → ids[k]? = some i
  | a :: r, i, k, h => by
    unfold plc at h
    split at h
    · next hb => cases h; rw [Nat.eq_of_beq_eq_true hb]; rfl
    · obtain ⟨j, hj, rfl⟩ := Option.map_eq_some_iff.1 h
      simpa using plc_some hj
theorem plc_none : ∀ {ids : List Nat} {i : Nat}, plc ids i = none → ∀ k : Nat, ids[k]? ≠ some i
  | [], i, _, k => by simp
  | a :: r, i, h, k => by
    unfold plc at h
    split at h
    · cases h
    · next hb =>
      cases k with
      | zero =>
        intro h2
        simp at h2
        subst h2
        rw [Nat.beq_refl] at hb
        cases hb
      | succ k =>
        have := plc_none (Option.map_eq_none_iff.1 h) k
        simpa using this
theorem plc_at {ids : List Nat} (hn : ids.Nodup) {k i : Nat} (h : ids[k]? = some i) : plc ids i = some k := by
  cases hx : plc ids i with
  | none => exact absurd h (plc_none hx k)
  | some j =>
    have hj := plc_some hx
    have h1 := (List.getElem?_eq_some_iff.1 h)
    have h2 := (List.getElem?_eq_some_iff.1 hj)
    obtain ⟨l1, e1⟩ := h1
    obtain ⟨l2, e2⟩ := h2
    rw [(List.getElem_inj hn).1 (e2.trans e1.symm)]
/-- The whole store behind a call, out of the part's. -/
def putS (ids : List Nat) (st st0' : St) : St :=
  (List.range (st.length + (st0'.length - ids.length))).map fun i => match Nat.blt i st.length with
    | true => (match plc ids i with | some k => (st0'.getD k none).map (rens (roL ids st.length)) | none => st.getD i none)
    | false => (st0'.getD (ids.length + (i - st.length)) none).map (rens (roL ids st.length))
theorem putS_get {ids : List Nat} {st st0' : St} {i : Nat} (hi : i < st.length + (st0'.length - ids.length)) : (putS ids st st0')[i]? = some (match Nat.blt i st.length with
    | true => (match plc ids i with | some k => (st0'.getD k none).map (rens (roL ids st.length)) | none => st.getD i none)
    | false => (st0'.getD (ids.length + (i - st.length)) none).map (rens (roL ids st.length))) := by
  unfold putS
  rw [List.getElem?_map, List.getElem?_range hi]
  rfl
def unL (ids : List Nat) : Option Loc → Option Loc
  | some (.obj i) => (plc ids i).map Loc.obj
  | some (.ot i j) => (plc ids i).map fun k => .ot k j
  | _ => none
def upL (ρ : Nat → Nat) : Loc → Loc
  | .obj k => .obj (ρ k)
  | .ot k j => .ot (ρ k) j
  | l => l
theorem upL_tip (ρ : Nat → Nat) (l : Loc) : (upL ρ l).isTip = l.isTip := by cases l <;> rfl
theorem upL_local (ρ : Nat → Nat) (l : Loc) : (upL ρ l).isLocal = l.isLocal := by cases l <;> rfl
theorem unL_some {ids : List Nat} {o : Option Loc} {l : Loc} (h : unL ids o = some l) : ∃ l', o = some l' ∧ l'.isTip = l.isTip ∧ l.isLocal = false := by
  unfold unL at h
  split at h
  · obtain ⟨k, _, rfl⟩ := Option.map_eq_some_iff.1 h; exact ⟨_, rfl, rfl, rfl⟩
  · obtain ⟨k, _, rfl⟩ := Option.map_eq_some_iff.1 h; exact ⟨_, rfl, rfl, rfl⟩
  · cases h
/-- A CALL SEES OF THE STORE WHAT IS HANDED TO IT. -/
theorem VCalls.frame {P : Program} {f : Nat} {args0 : List AV} {st0 : St} {R : AV → St → Prop} (h : VCalls P f args0 st0 R) {ids : List Nat} {st : St} (hl : ids.length = st0.length) (hn : ids.Nodup) (hlt : ∀ i ∈ ids, i < st.length)
    (hst : ∀ (k : Nat) (cs : List AV) (i : Nat), st0[k]? = some (some cs) → ids[k]? = some i → st[i]? = some (some (rens (roL ids st.length) cs))) :
    VCalls P f (rens (roL ids st.length) args0) st (fun r st' => ∃ r0 st0', R r0 st0' ∧ r = ren (roL ids st.length) r0 ∧ st' = putS ids st st0') := by
  refine ⟨?_, h.enter, fun Fr g w cargs hg hloc ha => ?_⟩
  · obtain ⟨r, s, hr⟩ := h.live
    exact ⟨_, _, r, s, hr, rfl, rfl⟩
  have hsl := hg.len
  -- the part's ghost state
  have hσ : ∀ (k i : Nat), ids[k]? = some i → (ids.map fun i => g.σ.getD i 0)[k]? = g.σ[i]? := by
    intro k i hk
    rw [List.getElem?_map, hk]
    have := hlt i (List.mem_of_getElem? hk)
    rw [Option.map_some, List.getD_eq_getElem?_getD, List.getElem?_eq_getElem (by omega)]
    rfl
  have hback : ∀ (k b : Nat), g.σ[roL ids st.length k]? = some b → (ids.map fun i => g.σ.getD i 0)[k]? = some b := by
    intro k b hb
    unfold roL at hb
    split at hb
    · next i hi => rw [hσ k i hi]; exact hb
    · rw [List.getElem?_eq_none (by omega)] at hb; cases hb
  have ha0 : Reps g.I (ids.map fun i => g.σ.getD i 0) args0 cargs := Reps.of_ren hback ha rfl
  have hown0 : ∀ b l, unL ids (g.own b) = some l → ∃ l', g.own b = some l' ∧ l'.isTip = l.isTip ∧ l.isLocal = false := fun b l h => unL_some h
  have hg0 : Glob ⟨g.I, ids.map fun i => g.σ.getD i 0, fun b => Fr b ∨ ((g.own b).isSome = true ∧ unL ids (g.own b) = none), w⟩ ⟨g.I, ids.map fun i => g.σ.getD i 0, fun b => unL ids (g.own b), g.β⟩ st0 w := by
    refine ⟨MemLe.refl _, List.prefix_refl _, ?_, Nat.le_refl _, rfl, rfl, rfl, hg.imm, ?_, ?_, fun b o h1 h2 => absurd h2 h1, ?_, by simpa using hl⟩
    · intro b hb
      rcases hb with hb | ⟨hb, hu⟩
      · obtain ⟨_, h2, h3⟩ := hg.fr b hb
        exact ⟨rfl, h2, by show unL ids (g.own b) = none; rw [h3]; rfl⟩
      · obtain ⟨l, hl'⟩ := Option.isSome_iff_exists.1 hb
        exact ⟨rfl, hg.ownlt b l hl', hu⟩
    · intro b o l hv hl'
      obtain ⟨l', h1, h2, _⟩ := hown0 b l hl'
      rw [← h2]; exact hg.immOwn b o l' hv h1
    · intro b l hl'
      obtain ⟨l', h1, _, _⟩ := hown0 b l hl'
      exact hg.ownlt b l' h1
    · intro k cs hk
      have hkl : k < ids.length := by rw [hl]; exact (List.getElem?_eq_some_iff.1 hk).1
      obtain ⟨i, hi⟩ : ∃ i, ids[k]? = some i := ⟨_, List.getElem?_eq_getElem hkl⟩
      obtain ⟨blk, q1, q2, vs, ty, q3, q4, q5⟩ := hg.objs i _ (hst k cs i hk hi)
      refine ⟨blk, by show (ids.map fun i => g.σ.getD i 0)[k]? = _; rw [hσ k i hi]; exact q1, ?_, vs, ty, q3, Reps.of_ren hback q4 rfl, ?_⟩
      · show unL ids (g.own blk) = _
        rw [q2]
        show (plc ids i).map Loc.obj = _
        rw [plc_at hn hi]
        rfl
      · intro j sz es cv hj hcv
        have := q5 j sz (rens (roL ids st.length) es) cv (by rw [rens_get, hj]; simp [ren]) hcv
        rcases this with this | ⟨b, o, cap, rfl, this⟩
        · exact .inl this
        · refine .inr ⟨b, o, cap, by rw [rens_length], ?_⟩
          rw [rens_length] at this
          rcases this with this | ⟨h1, h2, h3⟩
          · exact .inl this
          · refine .inr ⟨?_, h2, h3⟩
            show unL ids (g.own b) = _
            rw [h1]
            show (plc ids i).map (fun k => Loc.ot k j) = _
            rw [plc_at hn hi]
            rfl
  have hc := h.out _ ⟨g.I, ids.map fun i => g.σ.getD i 0, fun b => unL ids (g.own b), g.β⟩ w cargs hg0 (fun b l hl' => (hown0 b l hl').choose_spec.2.2) ha0
  refine hc.mono fun e w' ⟨cv, g1, r0, st0', he, hR, hG, hL, hrep, htip⟩ => ?_
  have hσ1 : (ids.map fun i => g.σ.getD i 0) <+: g1.σ := hG.hσ
  have hlen1 : g1.σ.length = st0'.length := hG.len
  have hge : ids.length ≤ st0'.length := by
    have := hσ1.length_le
    rw [List.length_map] at this
    omega
  -- the whole's ghost state behind the call
  have hfwd : ∀ (k b : Nat), g1.σ[k]? = some b → (g.σ ++ g1.σ.drop ids.length)[roL ids st.length k]? = some b := by
    intro k b hb
    unfold roL
    split
    · next i hi =>
      have h1 := hσ k i hi
      have hil := hlt i (List.mem_of_getElem? hi)
      rw [List.getElem?_append_left (by omega)]
      obtain ⟨c, hcc⟩ : ∃ c, g.σ[i]? = some c := ⟨_, List.getElem?_eq_getElem (by omega)⟩
      rw [hcc] at h1
      have := prefix_get hσ1 h1
      rw [hb] at this
      rw [hcc]; exact this.symm
    · next hi =>
      have hkl : ids.length ≤ k := List.getElem?_eq_none_iff.1 hi
      rw [List.getElem?_append_right (by omega), List.getElem?_drop]
      rw [show ids.length + (st.length + (k - ids.length) - g.σ.length) = k by omega]
      exact hb
  refine ⟨cv, ⟨g1.I, g.σ ++ g1.σ.drop ids.length, fun b => match g.own b, unL ids (g.own b) with | some l, none => some l | _, _ => (g1.own b).map (upL (roL ids st.length)), g.β⟩, ren (roL ids st.length) r0, putS ids st st0', he, ⟨r0, st0', hR, rfl, rfl⟩, ?_, ?_, hrep.to_ren hfwd, ?_⟩
  · have hother : ∀ b l, g.own b = some l → unL ids (g.own b) = none → w'.heap[b]? = w.heap[b]? ∧ g1.own b = none := by
      intro b l h1 h2
      obtain ⟨q1, _, q3⟩ := hG.fr b (.inr ⟨by rw [h1]; rfl, h2⟩)
      exact ⟨q1, q3⟩
    have hnew : ∀ b o l, g1.I b o ≠ none → g.own b = some l → unL ids (g.own b) = none → g.I b o ≠ none := by
      intro b o l h1 h2 h3 h4
      exact hG.newI b o h1 h4 (.inr ⟨by rw [h2]; rfl, h3⟩)
    have hown : ∀ (b : Nat) (l : Loc), (match g.own b, unL ids (g.own b) with | some l, none => some l | _, _ => (g1.own b).map (upL (roL ids st.length))) = some l →
        (g.own b = some l ∧ unL ids (g.own b) = none) ∨ ∃ l', g1.own b = some l' ∧ l = upL (roL ids st.length) l' := by
      intro b l hb
      split at hb
      · next l' h1 h2 =>
        cases hb
        exact .inl ⟨h1, h2⟩
      · obtain ⟨l', h1, h2⟩ := Option.map_eq_some_iff.1 hb
        exact .inr ⟨l', h1, h2.symm⟩
    have hmine : ∀ (b : Nat) (l : Loc), g1.own b = some l → (match g.own b, unL ids (g.own b) with | some l, none => some l | _, _ => (g1.own b).map (upL (roL ids st.length))) = some (upL (roL ids st.length) l) := by
      intro b l hb
      split
      · next l' h1 h2 =>
        have := (hother b l' h1 h2).2
        rw [hb] at this; cases this
      · rw [hb]; rfl
    have hblk : ∀ {k i : Nat} {blk : Nat} {cs : List AV}, roL ids st.length k = i → BlockRep g1 w' (.obj k) (fun j => .ot k j) blk cs →
        BlockRep ⟨g1.I, g.σ ++ g1.σ.drop ids.length, fun b => match g.own b, unL ids (g.own b) with | some l, none => some l | _, _ => (g1.own b).map (upL (roL ids st.length)), g.β⟩ w' (.obj i) (fun j => .ot i j) blk (rens (roL ids st.length) cs) := by
      intro k i blk cs hk ⟨q1, vs, ty, q2, q3, q4⟩
      subst hk
      refine ⟨?_, vs, ty, q2, q3.to_ren hfwd, ?_⟩
      · exact hmine blk _ q1
      · intro j sz es cv hj hcv
        rw [rens_get] at hj
        obtain ⟨v, hv, hvr⟩ := Option.map_eq_some_iff.1 hj
        cases v <;> simp [ren] at hvr
        next tp sz' es' =>
        obtain ⟨rfl, rfl, rfl⟩ := hvr
        rcases q4 j _ es' cv hv hcv with h | ⟨b, o, cap, rfl, h⟩
        · exact .inl h
        · refine .inr ⟨b, o, cap, by rw [rens_length], ?_⟩
          rw [rens_length]
          rcases h with h | ⟨h1, h2, h3⟩
          · exact .inl h
          · exact .inr ⟨hmine b _ h1, h2, h3⟩
    refine ⟨hG.hI, ⟨_, rfl⟩, ?_, hG.size, hG.os, hG.tape, hG.output, hG.imm, ?_, ?_, ?_, ?_, ?_⟩
    · intro b hb
      obtain ⟨q1, q2, q3⟩ := hG.fr b (.inl hb)
      refine ⟨q1, q2, ?_⟩
      have h3 := (hg.fr b hb).2.2
      show (match g.own b, unL ids (g.own b) with | some l, none => some l | _, _ => (g1.own b).map (upL (roL ids st.length))) = none
      rw [h3, q3]
      rfl
    · intro b o l hv hb
      rcases hown b l hb with ⟨h1, h2⟩ | ⟨l', h1, rfl⟩
      · exact hg.immOwn b o l (hnew b o l hv h1 h2) h1
      · rw [upL_tip]; exact hG.immOwn b o l' hv h1
    · intro b l hb
      rcases hown b l hb with ⟨h1, h2⟩ | ⟨l', h1, rfl⟩
      · have := hg.ownlt b l h1
        have := hG.size
        show b < w'.heap.size
        have h3 : w.heap.size ≤ w'.heap.size := hG.size
        omega
      · exact hG.ownlt b l' h1
    · intro b o h1 h2 h3
      exact hG.newI b o h1 h2 (.inl h3)
    · intro i cs hi
      have hil : i < st.length + (st0'.length - ids.length) := by
        have := (List.getElem?_eq_some_iff.1 hi).1
        unfold putS at this
        simpa using this
      rw [putS_get hil] at hi
      have hi := Option.some.inj hi
      cases hb : Nat.blt i st.length with
      | true =>
        rw [hb] at hi
        dsimp only at hi
        have hilt : i < st.length := Nat.le_of_ble_eq_true hb
        cases hp : plc ids i with
        | some k =>
          rw [hp] at hi
          dsimp only at hi
          obtain ⟨cs0, h1, rfl⟩ := Option.map_eq_some_iff.1 hi
          have hk := plc_some hp
          have h1' : st0'[k]? = some (some cs0) := by
            rw [List.getD_eq_getElem?_getD] at h1
            cases hx : st0'[k]? with
            | none => rw [hx] at h1; cases h1
            | some y => rw [hx] at h1; rw [show y = some cs0 from h1]
          obtain ⟨blk, q1, q2⟩ := hG.objs k cs0 h1'
          have hro : roL ids st.length k = i := by unfold roL; rw [hk]
          refine ⟨blk, ?_, hblk hro q2⟩
          have := hfwd k blk q1
          rw [hro] at this
          exact this
        | none =>
          rw [hp] at hi
          dsimp only at hi
          have h1' : st[i]? = some (some cs) := by
            rw [List.getD_eq_getElem?_getD, List.getElem?_eq_getElem hilt] at hi
            rw [List.getElem?_eq_getElem hilt]
            rw [show st[i] = some cs from hi]
          obtain ⟨blk, q1, q2, vs, ty, q3, q4, q5⟩ := hg.objs i cs h1'
          have hun : unL ids (g.own blk) = none := by
            rw [q2]
            show (plc ids i).map Loc.obj = none
            rw [hp]; rfl
          have hkeep : ∀ (b : Nat) (l : Loc), g.own b = some l → unL ids (g.own b) = none → (match g.own b, unL ids (g.own b) with | some l, none => some l | _, _ => (g1.own b).map (upL (roL ids st.length))) = some l := by
            intro b l h1 h2
            rw [h2, h1]
          refine ⟨blk, ?_, hkeep blk _ q2 hun, vs, ty, ?_, q4.mono hG.hI ⟨_, rfl⟩, ?_⟩
          · show (g.σ ++ g1.σ.drop ids.length)[i]? = some blk
            rw [List.getElem?_append_left (by omega)]
            exact q1
          · rw [(hother blk _ q2 hun).1]; exact q3
          · intro j sz es cv hj hcv
            rcases q5 j sz es cv hj hcv with h | ⟨b, o, cap, rfl, h⟩
            · exact .inl h
            · refine .inr ⟨b, o, cap, rfl, ?_⟩
              rcases h with h | ⟨h1, ⟨us, uty, h2, h2'⟩, h3⟩
              · exact .inl h
              · have hunb : unL ids (g.own b) = none := by
                  rw [h1]
                  show (plc ids i).map (fun k => Loc.ot k j) = none
                  rw [hp]; rfl
                refine .inr ⟨hkeep b _ h1 hunb, ⟨us, uty, by rw [(hother b _ h1 hunb).1]; exact h2, h2'⟩, fun o' ho' => h3 o' (hnew b o' _ ho' h1 hunb)⟩
      | false =>
        rw [hb] at hi
        dsimp only at hi
        have hige : st.length ≤ i := by
          rcases Nat.lt_or_ge i st.length with h | h
          · have : Nat.blt i st.length = true := Nat.ble_eq_true_of_le h
            rw [this] at hb; cases hb
          · exact h
        obtain ⟨cs0, h1, rfl⟩ := Option.map_eq_some_iff.1 hi
        have h1' : st0'[ids.length + (i - st.length)]? = some (some cs0) := by
          rw [List.getD_eq_getElem?_getD] at h1
          cases hx : st0'[ids.length + (i - st.length)]? with
          | none => rw [hx] at h1; cases h1
          | some y => rw [hx] at h1; rw [show y = some cs0 from h1]
        obtain ⟨blk, q1, q2⟩ := hG.objs _ cs0 h1'
        have hro : roL ids st.length (ids.length + (i - st.length)) = i := by
          unfold roL
          rw [List.getElem?_eq_none (by omega)]
          dsimp only
          omega
        refine ⟨blk, ?_, hblk hro q2⟩
        have := hfwd _ blk q1
        rw [hro] at this
        exact this
    · show (g.σ ++ g1.σ.drop ids.length).length = (putS ids st st0').length
      unfold putS
      simp
      omega
  · intro b l hb hll
    have hb : (match g.own b, unL ids (g.own b) with | some l, none => some l | _, _ => (g1.own b).map (upL (roL ids st.length))) = some l := hb
    split at hb
    · next l' h1 h2 =>
      cases hb
      rw [hloc b _ h1] at hll; cases hll
    · obtain ⟨l', h1, rfl⟩ := Option.map_eq_some_iff.1 hb
      rw [upL_local] at hll
      rw [hL b l' h1 hll]
      rfl
  · intro sz es hr
    cases r0 <;> simp [ren] at hr
    next tp sz' es' =>
    obtain ⟨rfl, rfl, rfl⟩ := hr
    rcases htip _ es' rfl with h | ⟨b, o, cap, rfl, h⟩
    · exact .inl h
    · refine .inr ⟨b, o, cap, by rw [rens_length], ?_⟩
      rw [rens_length]
      rcases h with h | ⟨h1, h2, h3⟩
      · exact .inl h
      · refine .inr ⟨?_, h2, h3⟩
        show (match g.own b, unL ids (g.own b) with | some l, none => some l | _, _ => (g1.own b).map (upL (roL ids st.length))) = some .ret
        split
        · next l' k1 k2 =>
          obtain ⟨_, _, q3⟩ := hG.fr b (.inr ⟨by rw [k1]; rfl, k2⟩)
          rw [h1] at q3; cases q3
        · rw [h1]; rfl
end Go.V

/- V35: what a call leaves of new objects may be forgotten. No program in sight. -/
namespace Go.V
def keepOwn : Option Loc → Option Loc
  | some (.obj _) => none
  | some (.ot _ _) => none
  | o => o
theorem keepOwn_some {o : Option Loc} {l : Loc} (h : keepOwn o = some l) : o = some l := by
  unfold keepOwn at h
  split at h
  · cases h
  · cases h
  · exact h
/-- WHAT A CALL LEAVES OF NEW OBJECTS MAY BE FORGOTTEN, if its result has none. -/
theorem VCalls.forget {P : Program} {f : Nat} {args : List AV} {R : AV → St → Prop} (h : VCalls P f args [] R) {v : AV} (hR : ∀ r st', R r st' → r = v) (hv : ∀ ρ, ren ρ v = v) : VCalls P f args [] (fun r st' => r = v ∧ st' = []) := by
  refine ⟨⟨v, [], rfl, rfl⟩, h.enter, fun Fr g w cargs hg hloc ha => ?_⟩
  refine (h.out Fr g w cargs hg hloc ha).mono fun e w' ⟨cv, g1, r, st', he, hr, hG, hL, hrep, htip⟩ => ?_
  obtain rfl := hR _ _ hr
  have hσ : g.σ = [] := List.length_eq_zero_iff.1 hg.len
  refine ⟨cv, ⟨g1.I, [], fun b => keepOwn (g1.own b), g1.β⟩, r, [], he, ⟨rfl, rfl⟩, ?_, ?_, ?_, ?_⟩
  · refine ⟨hG.hI, by show g.σ <+: []; rw [hσ]; exact List.prefix_refl _, ?_, hG.size, hG.os, hG.tape, hG.output, hG.imm, ?_, ?_, hG.newI, ?_, rfl⟩
    · intro b hb
      obtain ⟨h1, h2, h3⟩ := hG.fr b hb
      refine ⟨h1, h2, ?_⟩
      show keepOwn (g1.own b) = none
      rw [h3]; rfl
    · intro b o l h1 h2
      exact hG.immOwn b o l h1 (keepOwn_some h2)
    · intro b l h2
      exact hG.ownlt b l (keepOwn_some h2)
    · intro id cs hi
      simp at hi
  · intro b l h1 h2
    exact hL b l (keepOwn_some h1) h2
  · have : ∀ (i b : Nat), g1.σ[(fun k => g1.σ.length + k) i]? = some b → ([] : List Nat)[i]? = some b := by
      intro i b hb
      rw [List.getElem?_eq_none (by dsimp only; omega)] at hb
      cases hb
    exact Rep.of_ren this hrep (hv _).symm
  · intro sz es hs
    rcases htip sz es hs with h | ⟨b, o, cap, h0, h⟩
    · exact .inl h
    · refine .inr ⟨b, o, cap, h0, ?_⟩
      rcases h with h | ⟨h1, h2, h3⟩
      · exact .inl h
      · refine .inr ⟨?_, h2, h3⟩
        show keepOwn (g1.own b) = _
        rw [h1]; rfl
theorem putS_nil (st : St) : putS [] st [] = st := by
  refine List.ext_getElem? fun i => ?_
  rcases Nat.lt_or_ge i st.length with hi | hi
  · rw [putS_get (by simpa using hi)]
    have : Nat.blt i st.length = true := Nat.ble_eq_true_of_le hi
    rw [this]
    dsimp only [plc]
    rw [List.getD_eq_getElem?_getD, List.getElem?_eq_getElem hi]
    rfl
  · rw [List.getElem?_eq_none (by unfold putS; simpa using hi), List.getElem?_eq_none hi]
/-- A call that is handed no object works beside any store. -/
theorem VCalls.beside {P : Program} {f : Nat} {args : List AV} {v : AV} (h : VCalls P f args [] (fun r st' => r = v ∧ st' = [])) (ha : ∀ ρ, rens ρ args = args) (hv : ∀ ρ, ren ρ v = v) (st : St) : VCalls P f args st (fun r st' => r = v ∧ st' = st) := by
  have := h.frame (ids := []) (st := st) rfl List.nodup_nil (by simp) (by simp)
  rw [ha] at this
  refine this.mono ?_
  rintro r st' ⟨r0, st0, ⟨rfl, rfl⟩, rfl, rfl⟩
  exact ⟨hv _, putS_nil st⟩
/-- Both. -/
theorem VCalls.plain {P : Program} {f : Nat} {args : List AV} {v : AV} (h : VCalls P f args [] (fun r _ => r = v)) (ha : ∀ ρ, rens ρ args = args) (hv : ∀ ρ, ren ρ v = v) (st : St) : VCalls P f args st (fun r st' => r = v ∧ st' = st) :=
  (h.forget (fun _ _ h => h) hv).beside ha hv st
end Go.V
