/- V21: the operations of a region one by one, in any order: what the friendly steps show of the machine's. -/
import Derived.Test.YtgogpeamdfmaiaaGreatVB
import Derived.Still
set_option linter.unusedVariables false
set_option linter.unusedSimpArgs false
namespace Go.V

/-- Is an operation wanted? Told by what stands at its test; what was not wanted has left an empty tuple. -/
def wantE (ops : Array Oper) (e : Env) : Option (Nat × Bool) → Option Bool
  | none => some true
  | some (j, b) => match (ops[j]?).bind (·.dst) with
    | none => some false
    | some d => match e d with
      | .bool c => some (c == b)
      | .tup [] => some false
      | _ => none
def vrun (P : Program) (C : Cf) (o : Oper) (K : Env → Bx → St → Prop) (e : Env) (bx : Bx) (st : St) : Prop :=
  match isQ C o with
  | true => (q C o e bx st).1.holds ∧ K (updO e o.dst (q C o e bx st).2) bx st
  | false => veff P C o e bx st K
def vstepO (P : Program) (C : Cf) (dr : Bool) (ops : Array Oper) (i : Nat) (o : Oper) (K : Env → Bx → St → Prop) (e : Env) (bx : Bx) (st : St) : Prop :=
  match wantE ops e o.guard with
  | none => False
  | some false => K (updO e o.dst (.tup [])) bx st
  | some true => match dyn C ops.toList dr i o e with
    | true => vrun P C o K e bx st
    | false => False
def vstep (P : Program) (C : Cf) (dr : Bool) (ops : Array Oper) (i : Nat) (K : Env → Bx → St → Prop) (e : Env) (bx : Bx) (st : St) : Prop :=
  match ops[i]? with
  | none => K e bx st
  | some o => vstepO P C dr ops i o K e bx st
def vSeq (P : Program) (C : Cf) (dr : Bool) (ops : Array Oper) (K : Env → Bx → St → Prop) : List Nat → Env → Bx → St → Prop
  | [], e, bx, st => K e bx st
  | i :: r, e, bx, st => vstep P C dr ops i (vSeq P C dr ops K r) e bx st
def vAny (P : Program) (C : Cf) (dr : Bool) (ops : Array Oper) (K : Env → Bx → St → Prop) : Nat → Array Bool → Env → Bx → St → Prop
  | 0, listed, e, bx, st => Region.ready .any ops listed = [] ∧ K e bx st
  | fuel + 1, listed, e, bx, st => (Region.ready .any ops listed = [] → K e bx st) ∧ ∀ i ∈ Region.ready .any ops listed, vstep P C dr ops i (vAny P C dr ops K fuel (listed.setIfInBounds i true)) e bx st

section
variable {P : Program} {C : Cf} {n : Nat} {B : Base} {g : G} {e : Env} {bx : Bx} {st : St} {a : Act} {w : World} {o : Oper} {K : Env → Bx → St → Prop} {ops : Array Oper} {dr : Bool} {Q : Exit → Act → World → Prop}

theorem wanted_of (hr : Rel n B g e bx st a w) {b : Bool} (h : wantE ops e o.guard = some b) : Region.wanted o (yielded ops a.tmps) = b := by
  unfold Region.wanted
  cases hg : o.guard with
  | none => rw [hg] at h; exact Option.some.inj h
  | some jb =>
    obtain ⟨j, c⟩ := jb
    rw [hg] at h
    unfold wantE at h
    dsimp only at h
    show (yielded ops a.tmps j == some c) = b
    unfold yielded
    split at h
    · next hd => rw [hd]; exact Option.some.inj h
    · next d hd =>
      rw [hd, Option.bind_some]
      have ht := hr.tmps d
      rw [Array.getD_eq_getD_getElem?] at ht
      split at h
      · next k hk =>
        rw [hk] at ht
        have ht := rep_bool ht
        cases hx : a.tmps[d]? with
        | none => rw [hx] at ht; cases ht
        | some v =>
          rw [hx] at ht
          have ht : v = .bool k := ht
          subst ht
          rw [← Option.some.inj h]
          cases k <;> cases c <;> rfl
      · next hk =>
        rw [hk] at ht
        have ht : Rep g.I g.σ (.tup []) (a.tmps[d]?.getD undef) := ht
        have ht : a.tmps[d]?.getD undef = .tuple #[] := by
          generalize a.tmps[d]?.getD undef = av at ht
          cases ht with
          | tup h => cases h; rfl
        rw [← Option.some.inj h]
        cases hx : a.tmps[d]? with
        | none => rfl
        | some v =>
          rw [hx] at ht
          have ht : v = .tuple #[] := ht
          subst ht
          rfl
      · cases h
theorem vstep_sound (hC : Ok P C) (hr : Rel n B g e bx st a w) (hd : ∀ (i : Nat) (o : Oper) (d : Nat), ops[i]? = some o → o.dst = some d → d < n) {i : Nat} (hv : vstep P C dr ops i K e bx st) :
    wpOp P ops Q i (fun a' w' => ∃ g' e' bx' st', K e' bx' st' ∧ Rel n B g' e' bx' st' a' w') a w := by
  unfold vstep at hv
  unfold wpOp
  cases hi : ops[i]? with
  | none => rw [hi] at hv; exact ⟨g, e, bx, st, hv, hr⟩
  | some o =>
    rw [hi] at hv
    have hd' : ∀ d, o.dst = some d → d < n := fun d => hd i o d hi
    simp only at hv ⊢
    unfold vstepO at hv
    split at hv
    · exact hv.elim
    · next hw =>
      rw [wanted_of hr hw, if_neg (by simp)]
      refine ⟨g, _, bx, st, hv, ?_⟩
      cases hdst : o.dst with
      | none => exact hr
      | some d => exact hr.put (hd' d hdst) (v := .tup []) (.of (.tup .nil)) (by simp)
    · next hw =>
      rw [wanted_of hr hw, if_pos rfl]
      refine .inl ?_
      split at hv
      case h_2 => exact hv.elim
      unfold vrun at hv
      split at hv
      · next hq =>
        refine Oper.wp_mono ?_ (q_sound hC hr hd' hq hv.1 Q)
        rintro a' w' ⟨g', h⟩
        exact ⟨g', _, bx, st, hv.2, h⟩
      · exact eff_sound hC hr hd' hv Q
theorem vSeq_sound (hC : Ok P C) (hd : ∀ (i : Nat) (o : Oper) (d : Nat), ops[i]? = some o → o.dst = some d → d < n) (hQ : ∀ g e bx st a w, K e bx st → Rel n B g e bx st a w → Q .normal a w) :
    ∀ (l : List Nat) {g : G} {e : Env} {bx : Bx} {st : St} {a : Act} {w : World}, Rel n B g e bx st a w → vSeq P C dr ops K l e bx st → wpOps P ops Q l a w
  | [], _, _, _, _, _, _, hr, hv => hQ _ _ _ _ _ _ hv hr
  | i :: r, _, _, _, _, _, _, hr, hv => by
    rw [wpOps_cons]
    refine wpOp_mono ?_ (vstep_sound hC hr hd hv)
    rintro a' w' ⟨g', e', bx', st', hK, hr'⟩
    exact vSeq_sound hC hd hQ r hr' hK
theorem vAny_sound (hC : Ok P C) (hd : ∀ (i : Nat) (o : Oper) (d : Nat), ops[i]? = some o → o.dst = some d → d < n) (hQ : ∀ g e bx st a w, K e bx st → Rel n B g e bx st a w → Q .normal a w) :
    ∀ (fuel : Nat) (listed : Array Bool) {g : G} {e : Env} {bx : Bx} {st : St} {a : Act} {w : World}, Rel n B g e bx st a w → vAny P C dr ops K fuel listed e bx st → wpAny P .any ops Q fuel listed a w
  | 0, _, _, _, _, _, _, _, hr, hv => ⟨hv.1, hQ _ _ _ _ _ _ hv.2 hr⟩
  | fuel + 1, listed, _, _, _, _, _, _, hr, hv => by
    refine ⟨fun h => hQ _ _ _ _ _ _ (hv.1 h) hr, fun i hi => ?_⟩
    refine wpOp_mono ?_ (vstep_sound hC hr hd (hv.2 i hi))
    rintro a' w' ⟨g', e', bx', st', hK, hr'⟩
    exact vAny_sound hC hd hQ fuel _ hr' hK
end
end Go.V

/- V22: a region in the order of its text: from the lazy evaluation to the exact steps. No program in sight. -/
namespace Go.V

/-- What an operation may change of the temporaries beside its own. -/
def Chg (o : Oper) (e e' : Env) : Prop := ∀ t, o.dst ≠ some t → e' t = e t ∨ e' t = ut (e t) ∨ ((∃ b off, e t = .lp b off) ∧ ∃ v off, e' t = .ip v off)
theorem Chg.refl (o : Oper) (e : Env) : Chg o e e := fun _ _ => .inl rfl
theorem Chg.upd {o : Oper} {e e1 : Env} (h : Chg o e e1) {d : Nat} (hd : o.dst = some d) (v : AV) : Chg o e (V.upd e1 d v) := by
  intro t ht
  rw [upd_other _ _ (by rintro rfl; exact ht hd)]
  exact h t ht
theorem Chg.ut (o : Oper) (e : Env) (t : Nat) : Chg o e (V.upd e t (V.ut (e t))) := by
  intro u _
  by_cases h : u = t
  · subst h; rw [upd_same]; exact .inr (.inl rfl)
  · rw [upd_other _ _ h]; exact .inl rfl
theorem Chg.utAt (o : Oper) (e : Env) (t : Option Nat) : Chg o e (V.utAt e t) := by
  cases t with
  | none => exact Chg.refl o e
  | some t => exact Chg.ut o e t
theorem Chg.freeze (o : Oper) (e : Env) (b : Nat) (cs : List AV) : Chg o e (V.freeze b cs e) := by
  intro u _
  unfold V.freeze
  split
  · next b' o' h =>
    split
    · exact .inr (.inr ⟨⟨_, _, h⟩, _, _, rfl⟩)
    · exact .inl h.symm
  · exact .inl rfl
theorem Chg.updO {o : Oper} {e : Env} (v : AV) : Chg o e (V.updO e o.dst v) := by
  cases h : o.dst with
  | none => exact Chg.refl o e
  | some d => exact (Chg.refl o e).upd h v

section
variable {P : Program} {C : Cf} {e : Env} {bx : Bx} {st : St} {o : Oper} {K : Env → Bx → St → Prop}
theorem vmove_chg {ty : Nat} {x : Operand} (hv : vmove C ty x o.dst e bx st K) : vmove C ty x o.dst e bx st (fun e' bx' st' => Chg o e e' ∧ K e' bx' st') := by
  unfold vmove at hv ⊢
  split at hv
  · exact hv
  · next d hdst =>
    split at hv
    · split at hv
      · split at hv
        · exact ⟨(Chg.freeze o e _ _).upd hdst _, hv⟩
        · exact hv
      · split at hv
        · refine hv.mono fun hv => ?_
          split at hv
          · exact ⟨(Chg.refl o e).upd hdst _, hv⟩
          · exact hv
        · exact hv
      · exact hv
    · split at hv
      · split at hv
        · exact ⟨(Chg.ut o e _).upd hdst _, hv⟩
        · exact hv
      · exact ⟨(Chg.refl o e).upd hdst _, hv⟩
      · exact hv
/-- An effect changes no other temporaries, but for what they tell of a right or of a frozen box. -/
theorem veff_chg (hv : veff P C o e bx st K) : veff P C o e bx st (fun e' bx' st' => Chg o e e' ∧ K e' bx' st') := by
  unfold veff at hv ⊢
  cases hop : o.op <;> rw [hop] at hv <;> dsimp only at hv ⊢ <;> try exact hv
  case move x => exact vmove_chg hv
  case assign x => exact vmove_chg hv
  case store t x y =>
    split at hv
    · exact hv
    · split at hv
      · split at hv
        · split at hv
          · split at hv
            · next xt hxt hsl =>
              have := trX_eq hxt
              subst this
              exact ⟨Chg.ut o e _, hv⟩
            · exact ⟨Chg.refl o e, hv⟩
          · exact hv
        · exact hv
      · split at hv
        · split at hv
          · split at hv
            · next xt hxt hsl =>
              have := trX_eq hxt
              subst this
              exact ⟨Chg.ut o e _, hv⟩
            · exact ⟨Chg.refl o e, hv⟩
          · exact hv
        · exact hv
      · exact hv
  case alloc t =>
    split at hv
    · next d i hdst hi =>
      split at hv
      · exact ⟨(Chg.refl o e).upd hdst _, hv⟩
      · split at hv
        · exact ⟨(Chg.refl o e).upd hdst _, hv⟩
        · exact hv
    · exact hv
  case box t x =>
    split at hv
    · next d hdst =>
      split at hv
      · exact hv
      · split at hv
        · exact ⟨(Chg.refl o e).upd hdst _, hv⟩
        · split at hv
          · exact ⟨(Chg.refl o e).upd hdst _, hv⟩
          · exact hv
    · exact hv
  case makeSlice t l c =>
    split at hv
    · next hdst =>
      split at hv
      · exact hv.mono fun hv => ⟨(Chg.refl o e).upd hdst _, hv⟩
      · exact hv
    · exact hv
  case load t x =>
    split at hv
    · next hdst _ _ =>
      split at hv
      · split at hv
        · exact ⟨(Chg.refl o e).upd hdst _, hv⟩
        · exact hv
      · exact hv
    · next hdst _ _ =>
      split at hv
      · split at hv
        · exact ⟨(Chg.refl o e).upd hdst _, hv⟩
        · exact hv
      · exact hv
    · exact hv
  case binOp op t x y ty =>
    cases op <;> dsimp only at hv ⊢ <;> try exact hv
    split at hv
    · exact hv.mono (fun h k => ⟨Chg.updO _, h k⟩) (fun h => ⟨Chg.updO _, h⟩)
    · exact hv
  case call c =>
    split at hv
    · split at hv
      · next hdst =>
        split at hv
        · split at hv
          · exact hv.mono fun hv => ⟨(Chg.utAt o e _).upd hdst _, hv⟩
          · exact hv
        · exact hv
      · exact hv
    · split at hv
      · exact hv.mono fun r st' hK => ⟨Chg.updO _, hK⟩
      · exact hv
    · split at hv
      · split at hv
        · exact hv.mono fun r st' hK => ⟨Chg.updO _, hK⟩
        · exact hv
      · exact hv
    · exact hv
end

theorem veff_mono {P : Program} {C : Cf} {o : Oper} {e : Env} {bx : Bx} {st : St} {K K' : Env → Bx → St → Prop} (hv : veff P C o e bx st K) (h : ∀ e' bx' st', K e' bx' st' → K' e' bx' st') : veff P C o e bx st K' := by
  have hm : ∀ x, vmove C o.type x o.dst e bx st K → vmove C o.type x o.dst e bx st K' := by
    intro x hv
    unfold vmove at hv ⊢
    repeat' split at hv
    all_goals first
      | exact hv
      | exact h _ _ _ hv
      | exact hv.mono fun hv => h _ _ _ hv
  unfold veff at hv ⊢
  cases hop : o.op <;> rw [hop] at hv <;> dsimp only at hv ⊢ <;> try exact hv
  case move x => exact hm x hv
  case assign x => exact hm x hv
  case binOp op t x y ty =>
    cases op <;> dsimp only at hv ⊢ <;> try exact hv
    split at hv
    · exact hv.mono (fun k q => h _ _ _ (k q)) (fun k => h _ _ _ k)
    · exact hv
  case call c =>
    repeat' split at hv
    all_goals first
      | exact hv
      | exact hv.mono fun hv => h _ _ _ hv
      | exact hv.mono fun r st' hK => h _ _ _ hK
  case makeSlice t x y =>
    repeat' split at hv
    all_goals first
      | exact hv
      | exact hv.mono fun hv => h _ _ _ hv
  case store t x y =>
    repeat' split at hv
    all_goals first
      | exact hv
      | exact h _ _ _ hv
  case alloc t =>
    repeat' split at hv
    all_goals first
      | exact hv
      | exact h _ _ _ hv
  case box t x =>
    repeat' split at hv
    all_goals first
      | exact hv
      | exact h _ _ _ hv
  case load t x =>
    repeat' split at hv
    all_goals first
      | exact hv
      | exact h _ _ _ hv
/-- Guards go back, to operations that have a place for what they yield. -/
def Back (l : List Oper) : Prop := ∀ (i : Nat) (o : Oper) (j : Nat) (b : Bool), l[i]? = some o → o.guard = some (j, b) → j < i ∧ ∃ oj d, l[j]? = some oj ∧ oj.dst = some d
def Uniq (l : List Oper) : Prop := ∀ (i j : Nat) (o o' : Oper) (d : Nat), l[i]? = some o → l[j]? = some o' → o.dst = some d → o'.dst = some d → i = j
/-- Is an operation wanted, by the lazy evaluation? -/
def act (l : List Oper) (e : Env) (g : Option (Nat × Bool)) : Bool := guardW std l e l.length g
section
variable {l : List Oper} {e e' : Env}
theorem guardW_fuel (hb : Back l) : ∀ (j : Nat) {b : Bool} {p r : Nat}, j < p → j < r → guardW std l e p (some (j, b)) = guardW std l e r (some (j, b)) := by
  intro j
  induction j using Nat.strongRecOn with
  | _ j ih =>
    intro b p r hn hm
    cases p with
    | zero => omega
    | succ p =>
      cases r with
      | zero => omega
      | succ r =>
        unfold guardW
        split
        · next o ho =>
          split
          · split
            · rfl
            · next g hg =>
              obtain ⟨j', b'⟩ := g
              obtain ⟨hlt, _⟩ := hb j o j' b' ho hg
              rw [ih j' hlt (p := p) (r := r) (by omega) (by omega)]
          · rfl
        · rfl
theorem act_none : act l e none = true := by unfold act; cases l.length <;> rfl
theorem act_unf (hb : Back l) {j d : Nat} {b : Bool} {oj : Oper} (hj : l[j]? = some oj) (hd : oj.dst = some d) : act l e (some (j, b)) = (eqB std (e d) b && act l e oj.guard) := by
  have hlt : j < l.length := (List.getElem?_eq_some_iff.1 hj).1
  unfold act
  cases hl : l.length with
  | zero => omega
  | succ m =>
    conv => lhs; unfold guardW
    simp only [hj, hd]
    cases hg : oj.guard with
    | none =>
      have : guardW std l e (m + 1) none = true := rfl
      rw [this, Bool.and_true]
    | some g =>
      obtain ⟨j', b'⟩ := g
      obtain ⟨hlt', _⟩ := hb j oj j' b' hj hg
      dsimp only
      rw [guardW_fuel hb j' (p := m) (r := m + 1) (by omega) (by omega)]
      show (bif eqB std (e d) b then guardW std l e (m + 1) (some (j', b')) else false) = _
      cases eqB std (e d) b <;> rfl
theorem gOk_fuel (hb : Back l) : ∀ (j : Nat) {b : Bool} {p r : Nat}, j < p → j < r → gOk std l e p (some (j, b)) = gOk std l e r (some (j, b)) := by
  intro j
  induction j using Nat.strongRecOn with
  | _ j ih =>
    intro b p r hn hm
    cases p with
    | zero => omega
    | succ p =>
      cases r with
      | zero => omega
      | succ r =>
        unfold gOk
        split
        · next o ho =>
          split
          · cases hg : o.guard with
            | none =>
              cases p <;> cases r <;> rfl
            | some g =>
              obtain ⟨j', b'⟩ := g
              obtain ⟨hlt, _⟩ := hb j o j' b' ho hg
              rw [ih j' hlt (p := p) (r := r) (by omega) (by omega), guardW_fuel hb j' (p := p) (r := r) (by omega) (by omega)]
          · rfl
        · rfl
theorem gOk_unf (hb : Back l) {j d : Nat} {b : Bool} {oj : Oper} (hj : l[j]? = some oj) (hd : oj.dst = some d) (h : gOk std l e l.length (some (j, b)) = true) : isB (e d) = true ∨ act l e oj.guard = false := by
  have hlt : j < l.length := (List.getElem?_eq_some_iff.1 hj).1
  unfold act
  cases hl : l.length with
  | zero => omega
  | succ m =>
    rw [hl] at h
    unfold gOk at h
    simp only [hj, hd] at h
    split at h
    · next hB => exact .inl hB
    · split at h
      · cases h
      · next hg =>
        right
        cases hgo : oj.guard with
        | none =>
          rw [hgo] at hg
          cases m <;> cases hg
        | some g =>
          obtain ⟨j', b'⟩ := g
          obtain ⟨hlt', _⟩ := hb j oj j' b' hj hgo
          rw [hgo] at hg
          rw [guardW_fuel hb j' (p := m + 1) (r := m) (by omega) (by omega)]
          exact hg
theorem eqB_chg {v v' : AV} {b : Bool} (h : v' = v ∨ v' = ut v ∨ ((∃ b off, v = .lp b off) ∧ ∃ u off, v' = .ip u off)) : eqB std v' b = eqB std v b := by
  rcases h with rfl | rfl | ⟨⟨_, _, rfl⟩, _, _, rfl⟩
  · rfl
  · cases v <;> rfl
  · rfl
/-- What is wanted does not change with what comes later. -/
theorem act_stable (hb : Back l) {k : Nat} (h : ∀ (j : Nat) (oj : Oper) (d : Nat) (b : Bool), j < k → l[j]? = some oj → oj.dst = some d → eqB std (e' d) b = eqB std (e d) b) :
    ∀ (i : Nat) (o : Oper), i ≤ k → l[i]? = some o → act l e' o.guard = act l e o.guard := by
  intro i
  induction i using Nat.strongRecOn with
  | _ i ih =>
    intro o hi ho
    cases hg : o.guard with
    | none => rw [act_none, act_none]
    | some g =>
      obtain ⟨j, b⟩ := g
      obtain ⟨hlt, oj, d, hj, hd⟩ := hb i o j b ho hg
      rw [act_unf hb hj hd, act_unf hb hj hd, h j oj d b (by omega) hj hd, ih j hlt oj (by omega) hj]
end
end Go.V

/- V23: a region in the order of its text, second part: the lazy evaluation shows the exact steps. No program in sight. -/
namespace Go.V
/-- The tests on which an operation's being wanted rests. -/
def chainL (l : List Oper) : Nat → Option (Nat × Bool) → List (Nat × Bool)
  | _, none => []
  | 0, some _ => []
  | n + 1, some (j, b) => (j, b) :: match l[j]? with
    | some o => chainL l n o.guard
    | none => []
def gIn (g : Option (Nat × Bool)) (ch : List (Nat × Bool)) : Bool :=
  match g with
  | none => true
  | some (j, b) => ch.any fun x => Nat.beq x.1 j && x.2 == b
def isDst (t : Nat) (o : Oper) : Bool := match o.dst with | some d => Nat.beq d t | none => false
/-- A place is read only where what yields it has been wanted. -/
def rdOk (l : List Oper) (ch : List (Nat × Bool)) : Operand → Bool
  | .tmp t => l.all fun o => match isDst t o with | true => gIn o.guard ch | false => true
  | _ => true
def ixOf (t : Nat) : Nat → List Oper → Option Nat
  | _, [] => none
  | k, o :: r => match isDst t o with | true => some k | false => ixOf t (k + 1) r
def pickOk (l : List Oper) (ch : List (Nat × Bool)) (c : Operand) (v : Bool) (x : Operand) : Bool :=
  match c with
  | .tmp t => match ixOf t 0 l with
    | some j => rdOk l ((j, v) :: ch) x
    | none => rdOk l ch x
  | _ => rdOk l ch x
def readsB (l : List Oper) (o : Oper) : Bool :=
  match chainL l l.length o.guard with
  | ch => match o.op with
    | .pick c a b => rdOk l ch c && pickOk l ch c true a && pickOk l ch c false b
    | op => op.operands.toList.all (rdOk l ch)
def backB (l : List Oper) : Nat → List Oper → Bool
  | _, [] => true
  | k, o :: r => (match o.guard with
    | none => true
    | some (j, _) => Nat.blt j k && (match l[j]? with | some oj => oj.dst.isSome | none => false)) && backB l (k + 1) r
def uniqB : List Oper → Bool
  | [] => true
  | o :: r => (match o.dst with | some d => r.all fun o' => !isDst d o' | none => true) && uniqB r
def regOk (n : Nat) (l : List Oper) : Bool := backB l 0 l && uniqB l && l.all (readsB l) && l.all fun o => match o.dst with | some d => Nat.blt d n | none => true

theorem isDst_iff {t : Nat} {o : Oper} : isDst t o = true ↔ o.dst = some t := by
  unfold isDst
  cases o.dst with
  | none => simp
  | some d =>
    constructor
    · intro h; rw [Nat.eq_of_beq_eq_true h]
    · intro h; cases h; exact Nat.beq_refl t
theorem backB_spec {l : List Oper} : ∀ (r : List Oper) (k : Nat), backB l k r = true → ∀ (i : Nat) (o : Oper) (j : Nat) (b : Bool), r[i]? = some o → o.guard = some (j, b) → j < k + i ∧ ∃ oj d, l[j]? = some oj ∧ oj.dst = some d
  | [], _, _, i, o, _, _, ho, _ => by simp at ho
  | o' :: r, k, h, i, o, j, b, ho, hg => by
    unfold backB at h
    rw [Bool.and_eq_true] at h
    cases i with
    | zero =>
      simp at ho
      subst ho
      have h1 := h.1
      rw [hg] at h1
      simp only [Bool.and_eq_true] at h1
      refine ⟨Nat.le_of_ble_eq_true h1.1, ?_⟩
      have h2 := h1.2
      split at h2
      · next oj hj =>
        cases hd : oj.dst with
        | none => rw [hd] at h2; cases h2
        | some d => exact ⟨oj, d, hj, hd⟩
      · cases h2
    | succ i =>
      have := backB_spec r (k + 1) h.2 i o j b (by simpa using ho) hg
      exact ⟨by omega, this.2⟩
theorem uniqB_spec : ∀ {l : List Oper}, uniqB l = true → Uniq l
  | [], _, i, j, o, o', d, hi, _, _, _ => by simp at hi
  | x :: r, h, i, j, o, o', d, hi, hj, hd, hd' => by
    unfold uniqB at h
    rw [Bool.and_eq_true] at h
    have ih := uniqB_spec h.2
    have hx : ∀ (m : Nat) (q : Oper) (d : Nat), x.dst = some d → r[m]? = some q → q.dst = some d → False := by
      intro m q d hxd hm hq
      have h1 := h.1
      rw [hxd] at h1
      have := List.all_eq_true.1 h1 q (List.mem_of_getElem? hm)
      rw [isDst_iff.2 hq] at this
      cases this
    cases i with
    | zero =>
      cases j with
      | zero => rfl
      | succ j => simp at hi hj; subst hi; exact (hx j o' d hd hj hd').elim
    | succ i =>
      cases j with
      | zero => simp at hi hj; subst hj; exact (hx i o d hd' hi hd).elim
      | succ j => simp at hi hj; rw [ih i j o o' d hi hj hd hd']
theorem ixOf_spec {t : Nat} : ∀ (l : List Oper) (k : Nat) {j : Nat}, ixOf t k l = some j → k ≤ j ∧ ∃ o, l[j - k]? = some o ∧ o.dst = some t
  | [], _, _, h => by cases h
  | o :: r, k, j, h => by
    unfold ixOf at h
    split at h
    · next hd => cases h; exact ⟨Nat.le_refl _, o, by simp, isDst_iff.1 hd⟩
    · obtain ⟨h1, q, h2, h3⟩ := ixOf_spec r (k + 1) h
      refine ⟨by omega, q, ?_, h3⟩
      rw [show j - k = (j - (k + 1)) + 1 by omega]
      simpa using h2
theorem ixOf_none {t : Nat} : ∀ (l : List Oper) (k : Nat), ixOf t k l = none → ∀ o ∈ l, o.dst ≠ some t
  | [], _, _, o, ho => by cases ho
  | x :: r, k, h, o, ho => by
    unfold ixOf at h
    split at h
    · cases h
    · next hd =>
      rcases List.mem_cons.1 ho with rfl | ho
      · intro hh; rw [isDst_iff.2 hh] at hd; cases hd
      · exact ixOf_none r (k + 1) h o ho

section
variable {l : List Oper} {e e' : Env}
def RdP (l : List Oper) (e : Env) (x : Operand) : Prop := ∀ t, x = .tmp t → ∀ o ∈ l, o.dst = some t → act l e o.guard = true
theorem rdOk_spec {ch : List (Nat × Bool)} {x : Operand} (h : rdOk l ch x = true) (hc : ∀ y ∈ ch, act l e (some y) = true) : RdP l e x := by
  intro t ht o ho hd
  subst ht
  have := List.all_eq_true.1 h o ho
  rw [isDst_iff.2 hd] at this
  unfold gIn at this
  dsimp only at this
  split at this
  · next hg => rw [hg]; exact act_none
  · next j b hg =>
    rw [hg]
    obtain ⟨y, hy, hyb⟩ := List.any_eq_true.1 this
    rw [Bool.and_eq_true] at hyb
    have h1 := Nat.eq_of_beq_eq_true hyb.1
    have h2 := eq_of_beq hyb.2
    have := hc y hy
    rw [← h1, ← h2]
    exact this
theorem act_chain (hb : Back l) : ∀ (n : Nat) (i : Nat) (o : Oper), l[i]? = some o → act l e o.guard = true → ∀ y ∈ chainL l n o.guard, act l e (some y) = true
  | 0, i, o, ho, ha, y, hy => by
    cases hg : o.guard with
    | none => rw [hg] at hy; cases hy
    | some g => rw [hg] at hy; cases hy
  | n + 1, i, o, ho, ha, y, hy => by
    cases hg : o.guard with
    | none => rw [hg] at hy; cases hy
    | some g =>
      obtain ⟨j, b⟩ := g
      rw [hg] at hy ha
      unfold chainL at hy
      rcases List.mem_cons.1 hy with rfl | hy
      · exact ha
      · obtain ⟨_, oj, d, hj, hd⟩ := hb i o j b ho hg
        rw [hj] at hy
        rw [act_unf hb hj hd, Bool.and_eq_true] at ha
        exact act_chain hb n j oj hj ha.2 y hy

/-- What has been skipped so far. -/
def skp (l : List Oper) (k : Nat) (e : Env) : Nat → Option AV := fun t => match (l.take k).find? (isDst t) with
  | some o => (match act l e o.guard with | true => none | false => some (.tup []))
  | none => none
theorem skp_of (hu : Uniq l) {k i d : Nat} {o : Oper} (hi : i < k) (ho : l[i]? = some o) (hd : o.dst = some d) : skp l k e d = (match act l e o.guard with | true => none | false => some (.tup [])) := by
  unfold skp
  cases hf : (l.take k).find? (isDst d) with
  | none =>
    have := List.find?_eq_none.1 hf o (List.mem_of_getElem? (i := i) (by rw [List.getElem?_take, if_pos hi]; exact ho))
    exact absurd (isDst_iff.2 hd) this
  | some o' =>
    have h1 := isDst_iff.1 (List.find?_some hf)
    obtain ⟨i', hi'⟩ := List.getElem?_of_mem (List.mem_of_find?_eq_some hf)
    rw [List.getElem?_take] at hi'
    split at hi'
    · have := hu i i' o o' d ho hi' hd h1
      subst this
      rw [ho] at hi'
      cases hi'; rfl
    · cases hi'
theorem skp_none {k t : Nat} (h : ∀ (i : Nat) (o : Oper), i < k → l[i]? = some o → o.dst ≠ some t) : skp l k e t = none := by
  unfold skp
  cases hf : (l.take k).find? (isDst t) with
  | none => rfl
  | some o' =>
    have h1 := isDst_iff.1 (List.find?_some hf)
    obtain ⟨i', hi'⟩ := List.getElem?_of_mem (List.mem_of_find?_eq_some hf)
    rw [List.getElem?_take] at hi'
    split at hi'
    · next hlt => exact absurd h1 (h i' o' hlt hi')
    · cases hi'
theorem skp_or (l : List Oper) (k t : Nat) : (∃ (i : Nat) (o : Oper), i < k ∧ l[i]? = some o ∧ o.dst = some t) ∨ ∀ (i : Nat) (o : Oper), i < k → l[i]? = some o → o.dst ≠ some t := by
  by_cases h : ∃ (i : Nat) (o : Oper), i < k ∧ l[i]? = some o ∧ o.dst = some t
  · exact .inl h
  · exact .inr fun i o hi ho hd => h ⟨i, o, hi, ho, hd⟩
theorem skp_tup {k t : Nat} {v : AV} (h : skp l k e t = some v) : v = .tup [] := by
  unfold skp at h
  split at h
  · split at h
    · cases h
    · exact (Option.some.inj h).symm
  · cases h
/-- One operation further. -/
theorem skp_succ (hb : Back l) (hu : Uniq l) {k : Nat} {o : Oper} (ho : l[k]? = some o) (hs : ∀ (i : Nat) (o : Oper), i ≤ k → l[i]? = some o → act l e' o.guard = act l e o.guard) (t : Nat) :
    skp l (k + 1) e' t = if o.dst = some t then (match act l e o.guard with | true => none | false => some (.tup [])) else skp l k e t := by
  by_cases hd : o.dst = some t
  · rw [if_pos hd, skp_of hu (Nat.lt_succ_self k) ho hd, hs k o (Nat.le_refl _) ho]
  · rw [if_neg hd]
    rcases skp_or l k t with ⟨i, oi, hi, hoi, hdi⟩ | h
    · rw [skp_of hu (Nat.lt_succ_of_lt hi) hoi hdi, skp_of hu hi hoi hdi, hs i oi (by omega) hoi]
    · rw [skp_none h]
      refine skp_none fun i oi hi hoi hdi => ?_
      by_cases hik : i = k
      · subst hik; rw [ho] at hoi; cases hoi; exact hd hdi
      · exact h i oi (by omega) hoi hdi

/-- What the text of a region must be like. -/
structure Reg (n : Nat) (l : List Oper) : Prop where
  back : Back l
  uniq : Uniq l
  reads : ∀ o ∈ l, readsB l o = true
  dsts : ∀ o ∈ l, ∀ d, o.dst = some d → d < n
theorem reg_of {n : Nat} {l : List Oper} (h : regOk n l = true) : Reg n l := by
  unfold regOk at h
  simp only [Bool.and_eq_true] at h
  obtain ⟨⟨⟨h1, h2⟩, h3⟩, h4⟩ := h
  refine ⟨fun i o j b ho hg => ?_, uniqB_spec h2, fun o ho => List.all_eq_true.1 h3 o ho, fun o ho d hd => ?_⟩
  · have := backB_spec l 0 h1 i o j b ho hg
    exact ⟨by omega, this.2⟩
  · have := List.all_eq_true.1 h4 o ho
    rw [hd] at this
    exact Nat.le_of_ble_eq_true this

variable {C : Cf} {bx : Bx} {st : St} {o : Oper} {k : Nat}
theorem RdP.noSkp (hu : Uniq l) {x : Operand} {t : Nat} (h : RdP l e x) (hx : x = .tmp t) : skp l k e t = none := by
  rcases skp_or l k t with ⟨i, oi, hi, hoi, hdi⟩ | h'
  · rw [skp_of hu hi hoi hdi, h t hx oi (List.mem_of_getElem? hoi) hdi]
  · exact skp_none h'
theorem RdP.rdEq (hu : Uniq l) {x : Operand} (h : RdP l e x) (ty : Nat) : rd C ty (ov (skp l k e) e) x = rd C ty e x := rd_congr fun t ht => ov_none (h.noSkp hu ht)
theorem sameAt_ov {xs : Array Operand} (hu : Uniq l) (h : ∀ x ∈ xs, RdP l e x) : SameAt (ov (skp l k e) e) e xs := fun t ht => ov_none ((h _ ht).noSkp hu rfl)
/-- What an operation reads that is no test of its own. -/
theorem reads_all {n : Nat} (hR : Reg n l) {i : Nat} (ho : l[i]? = some o) (ha : act l e o.guard = true) (hnp : ∀ c x y, o.op ≠ .pick c x y) : ∀ x ∈ o.op.operands, RdP l e x := by
  intro x hx
  have h := hR.reads o (List.mem_of_getElem? ho)
  have hc := act_chain hR.back l.length i o ho ha
  unfold readsB at h
  dsimp only at h
  split at h
  · next c a b hop => exact absurd hop (hnp c a b)
  · exact rdOk_spec (List.all_eq_true.1 h x (by simpa using hx)) hc
/-- A quiet operation that is wanted comes to the same. -/
theorem q_lazy (hX : C.x = std) {n : Nat} (hR : Reg n l) {i : Nat} (ho : l[i]? = some o) (ha : act l e o.guard = true) (hok : (q C o e bx st).1.holds) :
    (q C o (ov (skp l k e) e) bx st).1.holds ∧ (q C o (ov (skp l k e) e) bx st).2 = (q C o e bx st).2 := by
  by_cases hp : ∃ c x y, o.op = .pick c x y
  · obtain ⟨c, x, y, hop⟩ := hp
    have h := hR.reads o (List.mem_of_getElem? ho)
    have hc := act_chain hR.back l.length i o ho ha
    unfold readsB at h
    rw [hop] at h
    simp only [Bool.and_eq_true] at h
    obtain ⟨⟨r1, r2⟩, r3⟩ := h
    have hrc := rdOk_spec r1 hc
    unfold q at hok ⊢
    rw [hop] at hok ⊢
    dsimp only at hok ⊢
    rw [hrc.rdEq hR.uniq]
    cases hcv : rd C o.type e c <;> rw [hcv] at hok <;> dsimp only at hok ⊢ <;> try exact absurd hok id
    case bool cb =>
      have pk : ∀ (v : Bool) (z : Operand), cb = v → pickOk l (chainL l l.length o.guard) c v z = true → RdP l e z := by
        intro v z hcb h
        subst hcb
        unfold pickOk at h
        split at h
        · next t =>
          split at h
          · next j hj =>
            refine rdOk_spec h fun p hp => ?_
            rcases List.mem_cons.1 hp with rfl | hp
            · obtain ⟨_, oj, hoj, hdj⟩ := ixOf_spec l 0 hj
              rw [Nat.sub_zero] at hoj
              rw [act_unf hR.back hoj hdj, hrc t rfl oj (List.mem_of_getElem? hoj) hdj, Bool.and_true]
              have : e t = .bool cb := hcv
              rw [this]
              cases cb <;> rfl
            · exact hc p hp
          · exact rdOk_spec h hc
        · exact rdOk_spec h hc
      cases cb with
      | true =>
        have hx := (pk true x rfl r2).rdEq (C := C) (k := k) hR.uniq o.type
        rw [hx]
        refine ⟨?_, by rw [hX]; rfl⟩
        have hxb : isB (rd C o.type e x) = true := by
          split at hok
          · next hb => simp only [Bool.and_eq_true] at hb; exact hb.1
          · exact IsTrue.is hok
        rw [hxb]
        cases isB (rd C o.type (ov (skp l k e) e) y) <;> first | exact trivial | exact ⟨rfl⟩
      | false =>
        have hy := (pk false y rfl r3).rdEq (C := C) (k := k) hR.uniq o.type
        rw [hy]
        refine ⟨?_, by rw [hX]; rfl⟩
        have hyb : isB (rd C o.type e y) = true := by
          split at hok
          · next hb => simp only [Bool.and_eq_true] at hb; exact hb.2
          · exact IsTrue.is hok
        rw [hyb]
        cases isB (rd C o.type (ov (skp l k e) e) x) <;> first | exact trivial | exact ⟨rfl⟩
  · have hr := reads_all (e := e) hR ho ha (fun c x y h => hp ⟨c, x, y, h⟩)
    have := q_congr (C := C) (bx := bx) (bx' := bx) (st := st) (st' := st) (sameAt_ov (k := k) hR.uniq hr) (fun _ _ _ _ _ _ => rfl) (.inl rfl)
    rw [this]
    exact ⟨hok, rfl⟩
end
end Go.V

/- V24: a region in the order of its text: the lazy evaluation shows the exact steps, and these the machine's. -/
namespace Go.V
section
variable {P : Program} {C : Cf} {l : List Oper} {ops : Array Oper} {e e' : Env} {bx : Bx} {st : St} {o : Oper} {k n : Nat} {dr : Bool}

theorem toList_get (hl : ops.toList = l) (i : Nat) : ops[i]? = l[i]? := by rw [← hl, Array.getElem?_toList]
theorem wantE_lazy (hR : Reg n l) (hl : ops.toList = l) (ho : l[k]? = some o) (hg : gOk std l e l.length o.guard = true) : wantE ops (ov (skp l k e) e) o.guard = some (act l e o.guard) := by
  cases hgo : o.guard with
  | none => rw [act_none]; rfl
  | some g =>
    obtain ⟨j, b⟩ := g
    obtain ⟨hlt, oj, d, hj, hd⟩ := hR.back k o j b ho hgo
    rw [hgo] at hg
    unfold wantE
    dsimp only
    rw [toList_get hl, hj, Option.bind_some, hd]
    dsimp only
    have hs := skp_of (e := e) hR.uniq hlt hj hd
    rw [act_unf hR.back hj hd]
    cases ha : act l e oj.guard with
    | true =>
      rw [ha] at hs
      rw [ov_none hs, Bool.and_true]
      rcases gOk_unf hR.back hj hd hg with h | h
      · rw [isB_as h]
        generalize asB (e d) = c
        cases b <;> cases c <;> rfl
      · rw [ha] at h; cases h
    | false =>
      rw [ha] at hs
      rw [ov_some hs, Bool.and_false]
theorem stable_of (hR : Reg n l) (ho : l[k]? = some o) (hc : Chg o e e') : ∀ (i : Nat) (o' : Oper), i ≤ k → l[i]? = some o' → act l e' o'.guard = act l e o'.guard := by
  refine act_stable hR.back fun j oj d b hj hoj hd => eqB_chg ?_
  refine hc d fun hod => ?_
  have := hR.uniq j k oj o d hoj ho hd hod
  omega
theorem env_put (hR : Reg n l) (ho : l[k]? = some o) (v : AV) : updO (ov (skp l k e) e) o.dst (match act l e o.guard with | true => v | false => .tup []) = ov (skp l (k + 1) (updO e o.dst v)) (updO e o.dst v) := by
  have hs := stable_of hR ho (Chg.updO (o := o) (e := e) v)
  funext t
  have h1 := skp_succ hR.back hR.uniq ho hs t
  by_cases hd : o.dst = some t
  · rw [if_pos hd] at h1
    rw [hd] at h1 ⊢
    unfold updO at h1 ⊢
    dsimp only at h1 ⊢
    rw [upd_same]
    cases ha : act l e o.guard with
    | true => rw [ha] at h1; rw [ov_none h1, upd_same]
    | false => rw [ha] at h1; rw [ov_some h1]
  · rw [if_neg hd] at h1
    have hu : ∀ (f : Env) (v : AV), updO f o.dst v t = f t := by
      intro f v
      cases hdd : o.dst with
      | none => rfl
      | some d => exact upd_other _ _ (by rintro rfl; exact hd hdd)
    rw [hu]
    unfold ov
    rw [h1, hu]
theorem env_eff (hR : Reg n l) (ho : l[k]? = some o) (ha : act l e o.guard = true) (hc : Chg o e e') : ov (skp l k e) e' = ov (skp l (k + 1) e') e' := by
  have hs := stable_of hR ho hc
  funext t
  have h1 := skp_succ hR.back hR.uniq ho hs t
  unfold ov
  rw [h1]
  by_cases hd : o.dst = some t
  · rw [if_pos hd, ha]
    have : skp l k e t = none := skp_none fun i oi hi hoi hdi => by
      have := hR.uniq i k oi o t hoi ho hdi hd
      omega
    rw [this]
  · rw [if_neg hd]

theorem ask_elim {c : Chk} {w : Bool} {m : Prop} (h : ask c w m) : m ∧ (w = true → c.holds) := by
  cases c with
  | ok => exact ⟨h, fun _ => trivial⟩
  | bad => exact ⟨h.next, h.ok⟩
  | need p => exact ⟨h.next, h.ok⟩
theorem ov_id {α : Type} (e : Nat → α) : ov (fun _ => none) e = e := rfl

theorem dyn_lazy (hR : Reg n l) {i : Nat} (ho : l[i]? = some o) (ha : act l e o.guard = true) {j : Nat} : dyn C l dr j o (ov (skp l k e) e) = dyn C l dr j o e := by
  unfold dyn
  cases dr with
  | false => rfl
  | true =>
    dsimp only
    split
    · next t x hop =>
      have hr := reads_all (e := e) hR ho ha (by intro c a b h; rw [hop] at h; cases h)
      rw [hop] at hr
      rw [(hr x (by simp [Op.operands])).rdEq hR.uniq]
    · next t x y hop =>
      have hr := reads_all (e := e) hR ho ha (by intro c a b h; rw [hop] at h; cases h)
      rw [hop] at hr
      rw [(hr x (by simp [Op.operands])).rdEq hR.uniq]
    · rfl
theorem lazy_exact (hX : C.x = std) (hR : Reg n l) (hl : ops.toList = l) {K : Env → Bx → St → Prop} : ∀ (r : List Oper) (k : Nat) (e : Env) (bx : Bx) (st : St), l.drop k = r → vops P C dr l r e bx st K →
    vSeq P C dr ops (fun ea bx st => ∃ e, ea = ov (skp l l.length e) e ∧ K e bx st) (List.range' k r.length) (ov (skp l k e) e) bx st
  | [], k, e, bx, st, hk, hv => by
    refine ⟨e, ?_, hv⟩
    have hk := List.drop_eq_nil_iff.1 hk
    unfold skp
    rw [List.take_of_length_le hk, List.take_of_length_le (Nat.le_refl _)]
  | o :: r, k, e, bx, st, hk, hv => by
    have ho : l[k]? = some o := by
      have : (l.drop k)[0]? = some o := by rw [hk]; rfl
      rw [List.getElem?_drop] at this
      exact this
    have hk' : l.drop (k + 1) = r := by
      have : (l.drop k).drop 1 = r := by rw [hk]; rfl
      rwa [List.drop_drop] at this
    have ih := fun e bx st => lazy_exact hX hR hl (K := K) r (k + 1) e bx st hk'
    show vstep P C dr ops k _ _ bx st
    unfold vstep
    rw [toList_get hl, ho]
    dsimp only
    unfold vstepO
    unfold vops at hv
    rw [hX] at hv
    split at hv
    · exact hv.elim
    · next hg =>
      rw [Bool.and_eq_true] at hg
      obtain ⟨hg, hdy⟩ := hg
      have hlen : l.length = k + (r.length + 1) := by
        have : (l.drop k).length = r.length + 1 := by rw [hk]; rfl
        rw [List.length_drop] at this
        have := (List.getElem?_eq_some_iff.1 ho).1
        omega
      have hix : l.length - r.length - 1 = k := by omega
      rw [hix] at hdy
      rw [wantE_lazy hR hl ho hg]
      have hput := fun v => env_put (e := e) hR ho v
      split at hv
      · next hq =>
        obtain ⟨hm, hc⟩ := ask_elim hv
        have hput := hput (q C o e bx st).2
        have hnext := ih _ _ _ hm
        have hact : guardW std l e l.length o.guard = act l e o.guard := rfl
        rw [hact] at hc
        cases ha : act l e o.guard with
        | true =>
          rw [ha] at hput hc
          obtain ⟨h1, h2⟩ := q_lazy (k := k) hX hR ho ha (hc rfl)
          dsimp only
          rw [hl, dyn_lazy hR ho ha, hdy]
          dsimp only
          unfold vrun
          rw [hq]
          refine ⟨h1, ?_⟩
          rw [h2]
          dsimp only at hput
          rw [hput]
          exact hnext
        | false =>
          rw [ha] at hput
          dsimp only at hput ⊢
          rw [hput]
          exact hnext
      · next hq =>
        have hpick : ∀ c x y, o.op ≠ .pick c x y := by
          intro c x y h
          unfold isQ at hq
          rw [h] at hq
          cases hq
        have eff : act l e o.guard = true → veff P C o e bx st (fun e bx st => vops P C dr l r e bx st K) →
            vrun P C o (vSeq P C dr ops (fun ea bx st => ∃ e, ea = ov (skp l l.length e) e ∧ K e bx st) (List.range' (k + 1) r.length)) (ov (skp l k e) e) bx st := by
          intro ha hv
          unfold vrun
          rw [hq]
          dsimp only
          have hr := reads_all (e := e) hR ho ha hpick
          have h1 := veff_chg hv
          have := veff_ov (P := P) (C := C) (e := e) (bx := bx) (st := st) (o := o) (δ := skp l k e) (γ := fun _ => none)
            (K := vSeq P C dr ops (fun ea bx st => ∃ e, ea = ov (skp l l.length e) e ∧ K e bx st) (List.range' (k + 1) r.length))
            (fun t ht => (hr _ ht).noSkp hR.uniq rfl)
            (fun d hd => ⟨skp_none fun i oi hi hoi hdi => by have := hR.uniq i k oi o d hoi ho hdi hd; omega, rfl⟩)
            (fun _ _ _ _ _ => rfl) (.inr fun t v h => by rw [skp_tup h]; rfl)
            (veff_mono h1 fun e' bx' st' h => by
              rw [env_eff hR ho ha h.1]
              exact ih _ _ _ h.2)
          exact this
        split at hv
        · next hgn =>
          have ha : act l e o.guard = true := by rw [hgn]; exact act_none
          rw [ha]
          dsimp only
          rw [hl, dyn_lazy hR ho ha, hdy]
          exact eff ha hv
        · next g hgs =>
          have hact : guardW std l e l.length (some g) = act l e o.guard := by rw [hgs]; rfl
          rw [hact] at hv
          cases ha : act l e o.guard with
          | true =>
            rw [ha] at hv
            dsimp only
            rw [hl, dyn_lazy hR ho ha, hdy]
            exact eff ha hv
          | false =>
            rw [ha] at hv
            have hput := hput .undef
            rw [ha] at hput
            dsimp only at hput ⊢
            rw [hput]
            exact ih _ _ _ hv
end
end Go.V

/- V25: regions of no fixed order: each operation as an action, and actions that commute. No program in sight. -/
namespace Go.V
/-- An operation's action: a check and what it lays where; or what it asks of the memory. -/
inductive Ga where
  | det (c : Prop) (δ : Nat → Option AV) (γ : Nat → Option (Option (List AV)))
  | eff (F : St → ((Nat → Option AV) → St → Prop) → Prop)
def Ga.run : Ga → (Env → Bx → St → Prop) → Env → Bx → St → Prop
  | .det c δ γ, K, e, bx, st => c ∧ K (ov δ e) (ov γ bx) st
  | .eff F, K, e, bx, st => F st fun δ st' => K (ov δ e) bx st'
def nov {α : Type} : Nat → Option α := fun _ => none
def one {α : Type} (d : Option Nat) (v : α) : Nat → Option α := fun t => match d with | some d => if t = d then some v else none | none => none
def Ga.bad : Ga := .det False nov nov
theorem ov_nov {α : Type} (e : Nat → α) : ov nov e = e := rfl
theorem ov_one {α : Type} (e : Nat → α) (d : Nat) (v : α) : ov (one (some d) v) e = upd e d v := by
  funext t
  by_cases h : t = d
  · subst h; simp [ov, one, upd]
  · simp [ov, one, upd, h]
theorem ov_oneO (e : Env) (d : Option Nat) (v : AV) : ov (one d v) e = updO e d v := by
  cases d with
  | none => rfl
  | some d => exact ov_one e d v
/-- What an append lays. -/
def appOv (e : Env) (d : Nat) (x : Option Nat) (v : AV) : Nat → Option AV := fun t => if t = d then some v else match x with | some u => if t = u then some (ut (e u)) else none | none => none
theorem ov_app (e : Env) (d : Nat) (x : Option Nat) (v : AV) : ov (appOv e d x v) e = upd (utAt e x) d v := by
  funext t
  by_cases h : t = d
  · subst h; simp [ov, appOv, upd]
  · cases x with
    | none => simp [ov, appOv, upd, h, utAt]
    | some u =>
      by_cases hu : t = u
      · subst hu; simp [ov, appOv, upd, h, utAt]
      · simp [ov, appOv, upd, h, utAt, hu]

/-- A move of a right. -/
def gmove (C : Cf) (ty : Nat) (x : Operand) (dst : Option Nat) (e : Env) : Ga :=
  match dst with
  | none => .bad
  | some d => match C.fz d with
    | true => .bad
    | false => match x with
      | .tmp t => match noLp (e t) with
        | true => .det True (appOv e d (some t) (e t)) nov
        | false => .bad
      | .const v => .det True (one (some d) (ofVal C ty v)) nov
      | _ => .bad
def geff (P : Program) (C : Cf) (o : Oper) (e : Env) (bx : Bx) : Ga :=
  match o.op with
  | .move x | .assign x => gmove C o.type x o.dst e
  | .store t a x => match scalAll (rd C t e x).cells && Nat.beq (rd C t e x).cells.length (C.sz t) && C.has t && o.dst.isNone with
    | false => .bad
    | true => match rd C 0 e a with
      | .lp b off => match bx b with
        | some cs => match Nat.ble (off + C.sz t) cs.length with
          | true => match trX C x, isSl (rd C t e x) with
            | some y, true => .det True (one (some y) (ut (rd C t e x))) (one (some b) (some (setCells cs off (rd C t e x).cells)))
            | _, _ => .det True nov (one (some b) (some (setCells cs off ((rd C t e x).cells.map tn))))
          | false => .bad
        | none => .bad
      | .ref id off => .eff fun st L => match st[id]? with
        | some (some cs) => match Nat.ble (off + C.sz t) cs.length with
          | true => match trX C x, isSl (rd C t e x) with
            | some y, true => L (one (some y) (ut (rd C t e x))) (st.set id (some (setCells cs off (rd C t e x).cells)))
            | _, _ => L nov (st.set id (some (setCells cs off ((rd C t e x).cells.map tn))))
          | false => False
        | _ => False
      | _ => .bad
  | .load t a => match o.dst, C.ti t, rd C 0 e a with
    | some d, some i, .lp b off => match bx b with
      | some cs => match Nat.blt off cs.length && !i.agg with
        | true => .det True (one (some d) (cs.getD off .undef)) (one (some b) (some (cs.set off (ut (cs.getD off .undef)))))
        | false => .bad
      | none => .bad
    | some d, some i, .ref id off => .eff fun st L => match st[id]? with
      | some (some cs) => match Nat.blt off cs.length && !i.agg with
        | true => L (one (some d) (cs.getD off .undef)) (st.set id (some (cs.set off (ut (cs.getD off .undef)))))
        | false => False
      | _ => False
    | _, _, _ => .bad
  | .alloc t => match o.dst, C.ti t with
    | some d, some i => match C.hp d, bx d with
      | false, none => .det True (one (some d) (.lp d 0)) (one (some d) (some ((i.zero.cells.map nz).map tn)))
      | _, _ => .bad
    | _, _ => .bad
  | .box t x => match o.dst with
    | some d => match scalAll (rd C t e x).cells, C.hp d, bx d with
      | true, false, none => .det True (one (some d) (.lp d 0)) (one (some d) (some ((rd C t e x).cells.map tn)))
      | _, _, _ => .bad
    | _ => .bad
  | .binOp .eql t x y _ => match nilSlice y, C.kind t, rd C t e x with
    | true, .slice _, .sl _ _ es => .eff fun st L => Two (es = [] → L (one o.dst (.bool true)) st) (L (one o.dst (.bool false)) st)
    | _, _, _ => .bad
  | .call c => match c.callee with
    | .builtin .append => match c.args.toList, c.argTypes.toList, o.dst with
      | [x, y], [sT, tx], some d => match C.kind sT, rd C sT e x with
        | .slice el, .sl true sz es => match appOk (C.kind tx) (C.sz el) (rd C tx e y) && eqSz sz (C.sz el) && Nat.blt 0 (C.bytes el) with
          | true => .det (AppOk (C.x .len es) (appLen C.x (rd C tx e y)) (C.bytes el)) (appOv e d (tmpOf x) (.sl true (C.sz el) (C.x .app es (appEls C.x (rd C tx e y))))) nov
          | false => .bad
        | _, _ => .bad
      | _, _, _ => .bad
    | .value (.func f) => match noLps (qargs C e c.args.toList c.argTypes.toList) with
      | true => .eff fun st L => VCalls P f (qargs C e c.args.toList c.argTypes.toList) st fun r st' => L (one o.dst (bif trD C o.dst then r else ut r)) st'
      | false => .bad
    | .value (.tmp t) => match e t, noLps (qargs C e c.args.toList c.argTypes.toList) with
      | .fn f first cap, true => .eff fun st L => VCalls P f (first ++ qargs C e c.args.toList c.argTypes.toList ++ cap) st fun r st' => L (one o.dst (bif trD C o.dst then r else ut r)) st'
      | _, _ => .bad
    | _ => .bad
  | _ => .bad
def gact (P : Program) (C : Cf) (ops : Array Oper) (i : Nat) (o : Oper) (e : Env) (bx : Bx) (st : St) : Ga :=
  match wantE ops e o.guard with
  | none => .bad
  | some false => .det True (one o.dst (.tup [])) nov
  | some true => match dyn C ops.toList true i o e with
    | false => .bad
    | true => match isQ C o with
      | true => .det (q C o e bx st).1.holds (one o.dst (q C o e bx st).2) nov
      | false => geff P C o e bx
/-- Which operations a region of no fixed order may have. -/
def okD (C : Cf) (o : Oper) : Bool :=
  match isQ C o with
  | true => true
  | false => match o.op with
    | .store .. => true
    | .alloc _ | .box _ _ => !hpD C o.dst
    | .binOp .. => true
    | .call _ => true
    | .load _ _ => true
    | .move _ | .assign _ => !fzD C o.dst
    | _ => false

section
variable {P : Program} {C : Cf} {ops : Array Oper} {i : Nat} {e : Env} {bx : Bx} {st : St} {o : Oper} {K : Env → Bx → St → Prop}
theorem run_bad (h : Ga.bad.run K e bx st) : False := h.1
theorem gmove_of {ty : Nat} {x : Operand} (hok : (!fzD C o.dst) = true) (hv : vmove C ty x o.dst e bx st K) : (gmove C ty x o.dst e).run K e bx st := by
  unfold vmove at hv
  unfold gmove
  revert hv hok
  cases hd : o.dst <;> (try dsimp only) <;> try (exact fun _ h => h.elim)
  next d =>
  cases hf : C.fz d <;> (try dsimp only [fzD]) <;> try (intro h; simp [hf] at h; done)
  cases x <;> (try dsimp only) <;> try (exact fun _ h => h.elim)
  case tmp t =>
    cases hn : noLp (e t) <;> (try dsimp only) <;> try (exact fun _ h => h.elim)
    intro _ hv
    refine ⟨trivial, ?_⟩
    rw [ov_app, ov_nov]
    exact hv
  case const v =>
    intro _ hv
    refine ⟨trivial, ?_⟩
    rw [ov_one, ov_nov]
    exact hv
theorem gmove_to {ty : Nat} {x : Operand} (hv : (gmove C ty x o.dst e).run K e bx st) : vmove C ty x o.dst e bx st K := by
  unfold gmove at hv
  unfold vmove
  revert hv
  cases hd : o.dst <;> (try dsimp only) <;> try (exact fun h => h.1.elim)
  next d =>
  cases hf : C.fz d <;> (try dsimp only) <;> try (exact fun h => h.1.elim)
  cases x <;> (try dsimp only) <;> try (exact fun h => h.1.elim)
  case tmp t =>
    cases hn : noLp (e t) <;> (try dsimp only) <;> try (exact fun h => h.1.elim)
    intro hv
    have hv := hv.2
    rw [ov_app, ov_nov] at hv
    exact hv
  case const v =>
    intro hv
    have hv := hv.2
    rw [ov_one, ov_nov] at hv
    exact hv
theorem geff_of (hq : isQ C o = false) (hok : okD C o = true) (hv : veff P C o e bx st K) : (geff P C o e bx).run K e bx st := by
  unfold okD at hok
  rw [hq] at hok
  dsimp only at hok
  unfold veff at hv
  unfold geff
  cases hop : o.op <;> rw [hop] at hv hok <;> dsimp only at hv hok ⊢ <;> try (exact hv.elim; done)
  all_goals try (exact absurd hok (by decide); done)
  case move x => exact gmove_of hok hv
  case assign x => exact gmove_of hok hv
  case store t a x =>
    revert hv
    cases h1 : (scalAll (rd C t e x).cells && Nat.beq (rd C t e x).cells.length (C.sz t) && C.has t && o.dst.isNone) <;> (try dsimp only) <;> try (exact fun h => h.elim)
    cases h2 : rd C 0 e a <;> (try dsimp only) <;> try (exact fun h => h.elim)
    case lp b off =>
      cases h3 : bx b <;> (try dsimp only) <;> try (exact fun h => h.elim)
      next cs =>
      cases h4 : Nat.ble (off + C.sz t) cs.length <;> (try dsimp only) <;> try (exact fun h => h.elim)
      cases h5 : trX C x <;> cases h6 : isSl (rd C t e x) <;> (try dsimp only) <;> intro hv <;> refine ⟨trivial, ?_⟩ <;> first
        | (rw [ov_nov, ov_one]; exact hv)
        | (rw [ov_one, ov_one]; exact hv)
    case ref id off =>
      show _ → (match st[id]? with
        | some (some cs) => _
        | _ => False)
      cases h3 : st[id]? <;> (try dsimp only) <;> try (exact fun h => h.elim)
      next ocs =>
      cases ocs <;> (try dsimp only) <;> try (exact fun h => h.elim)
      next cs =>
      cases h4 : Nat.ble (off + C.sz t) cs.length <;> (try dsimp only) <;> try (exact fun h => h.elim)
      cases h5 : trX C x <;> cases h6 : isSl (rd C t e x) <;> (try dsimp only) <;> intro hv <;> first
        | exact hv
        | (rw [ov_one]; exact hv)
  case load t a =>
    revert hv
    cases hdst : o.dst <;> (try dsimp only) <;> try (exact fun h => h.elim)
    next d =>
    cases hi : C.ti t <;> (try dsimp only) <;> try (exact fun h => h.elim)
    next i =>
    cases hr : rd C 0 e a <;> (try dsimp only) <;> try (exact fun h => h.elim)
    case lp b off =>
      cases hb : bx b <;> (try dsimp only) <;> try (exact fun h => h.elim)
      next cs =>
      cases hc : (Nat.blt off cs.length && !i.agg) <;> (try dsimp only) <;> try (exact fun h => h.elim)
      intro hv
      exact ⟨trivial, by rw [ov_one, ov_one]; exact hv⟩
    case ref id off =>
      show _ → (match st[id]? with
        | some (some cs) => _
        | _ => False)
      cases h3 : st[id]? <;> (try dsimp only) <;> try (exact fun h => h.elim)
      next ocs =>
      cases ocs <;> (try dsimp only) <;> try (exact fun h => h.elim)
      next cs =>
      cases hc : (Nat.blt off cs.length && !i.agg) <;> (try dsimp only) <;> try (exact fun h => h.elim)
      intro hv
      rw [ov_one]; exact hv
  case alloc t =>
    revert hv hok
    cases hdst : o.dst <;> (try dsimp only) <;> try (exact fun _ h => h.elim)
    next d =>
    cases hi : C.ti t <;> (try dsimp only) <;> try (exact fun _ h => h.elim)
    next i =>
    cases hh : C.hp d <;> (try dsimp only [hpD]) <;> try (intro h; simp [hh] at h; done)
    cases hb : bx d <;> (try dsimp only) <;> intro _ hv <;> try (exact hv.elim)
    exact ⟨trivial, by rw [ov_one, ov_one]; exact hv⟩
  case box t x =>
    revert hv hok
    cases hdst : o.dst <;> (try dsimp only) <;> try (exact fun _ h => h.elim)
    next d =>
    cases hs : scalAll (rd C t e x).cells <;> (try dsimp only) <;> try (exact fun _ h => h.elim)
    cases hh : C.hp d <;> (try dsimp only [hpD]) <;> try (intro h; simp [hh] at h; done)
    cases hb : bx d <;> (try dsimp only) <;> intro _ hv <;> try (exact hv.elim)
    exact ⟨trivial, by rw [ov_one, ov_one]; exact hv⟩
  case binOp op t x y ty =>
    revert hv
    cases op <;> (try dsimp only) <;> try (exact fun h => h.elim)
    cases h1 : nilSlice y <;> (try dsimp only) <;> try (exact fun h => h.elim)
    cases h2 : C.kind t <;> (try dsimp only) <;> try (exact fun h => h.elim)
    cases h3 : rd C t e x <;> (try dsimp only) <;> try (exact fun h => h.elim)
    intro hv
    refine hv.mono (fun h k => ?_) (fun h => ?_)
    · show K (ov (one _ _) e) bx st
      rw [ov_oneO]; exact h k
    · show K (ov (one _ _) e) bx st
      rw [ov_oneO]; exact h
  case call c =>
    revert hv
    cases hc : c.callee <;> (try dsimp only) <;> try (exact fun h => h.elim)
    case builtin b =>
      cases b <;> (try dsimp only) <;> try (exact fun h => h.elim)
      cases ha : c.args.toList <;> (try dsimp only) <;> try (exact fun h => h.elim)
      next x xs =>
      cases xs <;> (try dsimp only) <;> try (exact fun h => h.elim)
      next y ys =>
      cases ys <;> (try dsimp only) <;> try (exact fun h => h.elim)
      cases ht : c.argTypes.toList <;> (try dsimp only) <;> try (exact fun h => h.elim)
      next sT ts =>
      cases ts <;> (try dsimp only) <;> try (exact fun h => h.elim)
      next tx ts =>
      cases ts <;> (try dsimp only) <;> try (exact fun h => h.elim)
      cases hd : o.dst <;> (try dsimp only) <;> try (exact fun h => h.elim)
      next d =>
      cases hk : C.kind sT <;> (try dsimp only) <;> try (exact fun h => h.elim)
      next el =>
      cases hx : rd C sT e x <;> (try dsimp only) <;> try (exact fun h => h.elim)
      next tip sz es =>
      cases tip <;> (try dsimp only) <;> try (exact fun h => h.elim)
      cases hb : (appOk (C.kind tx) (C.sz el) (rd C tx e y) && eqSz sz (C.sz el) && Nat.blt 0 (C.bytes el)) <;> (try dsimp only) <;> try (exact fun h => h.elim)
      intro hv
      refine ⟨hv.ok rfl, ?_⟩
      rw [ov_app, ov_nov]
      exact hv.next
    case value v =>
      cases v <;> (try dsimp only) <;> try (exact fun h => h.elim)
      case func f =>
        cases hn : noLps (qargs C e c.args.toList c.argTypes.toList) <;> (try dsimp only) <;> try (exact fun h => h.elim)
        intro hv
        refine hv.mono fun r st' h => ?_
        show K (ov (one _ _) e) bx st'
        rw [ov_oneO]; exact h
      case tmp t =>
        cases he : e t <;> (try dsimp only) <;> try (exact fun h => h.elim)
        cases hn : noLps (qargs C e c.args.toList c.argTypes.toList) <;> (try dsimp only) <;> try (exact fun h => h.elim)
        intro hv
        refine hv.mono fun r st' h => ?_
        show K (ov (one _ _) e) bx st'
        rw [ov_oneO]; exact h
theorem geff_to (hv : (geff P C o e bx).run K e bx st) : veff P C o e bx st K := by
  unfold geff at hv
  unfold veff
  cases hop : o.op <;> rw [hop] at hv <;> dsimp only at hv ⊢ <;> try (exact hv.1.elim; done)
  case move x => exact gmove_to hv
  case assign x => exact gmove_to hv
  case store t a x =>
    revert hv
    cases h1 : (scalAll (rd C t e x).cells && Nat.beq (rd C t e x).cells.length (C.sz t) && C.has t && o.dst.isNone) <;> (try dsimp only) <;> try (exact fun h => h.1.elim)
    cases h2 : rd C 0 e a <;> (try dsimp only) <;> try (exact fun h => h.1.elim)
    case lp b off =>
      cases h3 : bx b <;> (try dsimp only) <;> try (exact fun h => h.1.elim)
      next cs =>
      cases h4 : Nat.ble (off + C.sz t) cs.length <;> (try dsimp only) <;> try (exact fun h => h.1.elim)
      cases h5 : trX C x <;> cases h6 : isSl (rd C t e x) <;> (try dsimp only) <;> intro hv <;> have hv := hv.2 <;> first
        | (rw [ov_nov, ov_one] at hv; exact hv)
        | (rw [ov_one, ov_one] at hv; exact hv)
    case ref id off =>
      show (match st[id]? with
        | some (some cs) => _
        | _ => False) → _
      cases h3 : st[id]? <;> (try dsimp only) <;> try (exact fun h => h.elim)
      next ocs =>
      cases ocs <;> (try dsimp only) <;> try (exact fun h => h.elim)
      next cs =>
      cases h4 : Nat.ble (off + C.sz t) cs.length <;> (try dsimp only) <;> try (exact fun h => h.elim)
      cases h5 : trX C x <;> cases h6 : isSl (rd C t e x) <;> (try dsimp only) <;> intro hv <;> first
        | exact hv
        | (rw [ov_one] at hv; exact hv)
  case load t a =>
    revert hv
    cases hdst : o.dst <;> (try dsimp only) <;> try (exact fun h => h.1.elim)
    next d =>
    cases hi : C.ti t <;> (try dsimp only) <;> try (exact fun h => h.1.elim)
    next i =>
    cases hr : rd C 0 e a <;> (try dsimp only) <;> try (exact fun h => h.1.elim)
    case lp b off =>
      cases hb : bx b <;> (try dsimp only) <;> try (exact fun h => h.1.elim)
      next cs =>
      cases hc : (Nat.blt off cs.length && !i.agg) <;> (try dsimp only) <;> try (exact fun h => h.1.elim)
      intro hv
      have hv := hv.2
      rw [ov_one, ov_one] at hv; exact hv
    case ref id off =>
      show (match st[id]? with
        | some (some cs) => _
        | _ => False) → _
      cases h3 : st[id]? <;> (try dsimp only) <;> try (exact fun h => h.elim)
      next ocs =>
      cases ocs <;> (try dsimp only) <;> try (exact fun h => h.elim)
      next cs =>
      cases hc : (Nat.blt off cs.length && !i.agg) <;> (try dsimp only) <;> try (exact fun h => h.elim)
      intro hv
      rw [ov_one] at hv; exact hv
  case alloc t =>
    revert hv
    cases hdst : o.dst <;> (try dsimp only) <;> try (exact fun h => h.1.elim)
    next d =>
    cases hi : C.ti t <;> (try dsimp only) <;> try (exact fun h => h.1.elim)
    next i =>
    cases hh : C.hp d <;> (try dsimp only) <;> try (exact fun h => h.1.elim)
    cases hb : bx d <;> (try dsimp only) <;> intro hv <;> try (exact hv.1.elim)
    have hv := hv.2
    rw [ov_one, ov_one] at hv; exact hv
  case box t x =>
    revert hv
    cases hdst : o.dst <;> (try dsimp only) <;> try (exact fun h => h.1.elim)
    next d =>
    cases hs : scalAll (rd C t e x).cells <;> (try dsimp only) <;> try (exact fun h => h.1.elim)
    cases hh : C.hp d <;> (try dsimp only) <;> try (exact fun h => h.1.elim)
    cases hb : bx d <;> (try dsimp only) <;> intro hv <;> try (exact hv.1.elim)
    have hv := hv.2
    rw [ov_one, ov_one] at hv; exact hv
  case binOp op t x y ty =>
    revert hv
    cases op <;> (try dsimp only) <;> try (exact fun h => h.1.elim)
    cases h1 : nilSlice y <;> (try dsimp only) <;> try (exact fun h => h.1.elim)
    cases h2 : C.kind t <;> (try dsimp only) <;> try (exact fun h => h.1.elim)
    cases h3 : rd C t e x <;> (try dsimp only) <;> try (exact fun h => h.1.elim)
    intro hv
    refine Two.mono hv (fun h k => ?_) (fun h => ?_)
    · have h : K (ov (one _ _) e) bx st := h k
      rw [ov_oneO] at h; exact h
    · have h : K (ov (one _ _) e) bx st := h
      rw [ov_oneO] at h; exact h
  case call c =>
    revert hv
    cases hc : c.callee <;> (try dsimp only) <;> try (exact fun h => h.1.elim)
    case builtin b =>
      cases b <;> (try dsimp only) <;> try (exact fun h => h.1.elim)
      cases ha : c.args.toList <;> (try dsimp only) <;> try (exact fun h => h.1.elim)
      next x xs =>
      cases xs <;> (try dsimp only) <;> try (exact fun h => h.1.elim)
      next y ys =>
      cases ys <;> (try dsimp only) <;> try (exact fun h => h.1.elim)
      cases ht : c.argTypes.toList <;> (try dsimp only) <;> try (exact fun h => h.1.elim)
      next sT ts =>
      cases ts <;> (try dsimp only) <;> try (exact fun h => h.1.elim)
      next tx ts =>
      cases ts <;> (try dsimp only) <;> try (exact fun h => h.1.elim)
      cases hd : o.dst <;> (try dsimp only) <;> try (exact fun h => h.1.elim)
      next d =>
      cases hk : C.kind sT <;> (try dsimp only) <;> try (exact fun h => h.1.elim)
      next el =>
      cases hx : rd C sT e x <;> (try dsimp only) <;> try (exact fun h => h.1.elim)
      next tip sz es =>
      cases tip <;> (try dsimp only) <;> try (exact fun h => h.1.elim)
      cases hb : (appOk (C.kind tx) (C.sz el) (rd C tx e y) && eqSz sz (C.sz el) && Nat.blt 0 (C.bytes el)) <;> (try dsimp only) <;> try (exact fun h => h.1.elim)
      intro hv
      have h2 := hv.2
      rw [ov_app, ov_nov] at h2
      exact ⟨fun _ => hv.1, h2⟩
    case value v =>
      cases v <;> (try dsimp only) <;> try (exact fun h => h.1.elim)
      case func f =>
        cases hn : noLps (qargs C e c.args.toList c.argTypes.toList) <;> (try dsimp only) <;> try (exact fun h => h.1.elim)
        intro hv
        refine VCalls.mono hv fun r st' h => ?_
        have h : K (ov (one _ _) e) bx st' := h
        rw [ov_oneO] at h; exact h
      case tmp t =>
        cases he : e t <;> (try dsimp only) <;> try (exact fun h => h.1.elim)
        cases hn : noLps (qargs C e c.args.toList c.argTypes.toList) <;> (try dsimp only) <;> try (exact fun h => h.1.elim)
        intro hv
        refine VCalls.mono hv fun r st' h => ?_
        have h : K (ov (one _ _) e) bx st' := h
        rw [ov_oneO] at h; exact h

theorem gact_of {ops : Array Oper} {i : Nat} (hok : okD C o = true) (hv : vstepO P C true ops i o K e bx st) : (gact P C ops i o e bx st).run K e bx st := by
  unfold vstepO at hv
  unfold gact
  revert hv
  cases hw : wantE ops e o.guard with
  | none => exact fun h => h.elim
  | some b =>
    cases b with
    | false =>
      intro hv
      refine ⟨trivial, ?_⟩
      rw [ov_oneO, ov_nov]; exact hv
    | true =>
      dsimp only
      cases hd : dyn C ops.toList true i o e with
      | false => exact fun h => h.elim
      | true =>
        dsimp only
        unfold vrun
        cases hq : isQ C o with
        | true =>
          intro hv
          refine ⟨hv.1, ?_⟩
          rw [ov_oneO, ov_nov]; exact hv.2
        | false => exact geff_of hq hok
theorem gact_to {ops : Array Oper} {i : Nat} (hv : (gact P C ops i o e bx st).run K e bx st) : vstepO P C true ops i o K e bx st := by
  unfold gact at hv
  unfold vstepO
  revert hv
  cases hw : wantE ops e o.guard with
  | none => exact fun h => h.1.elim
  | some b =>
    cases b with
    | false =>
      intro hv
      have hv := hv.2
      rw [ov_oneO, ov_nov] at hv; exact hv
    | true =>
      dsimp only
      cases hd : dyn C ops.toList true i o e with
      | false => exact fun h => h.1.elim
      | true =>
        dsimp only
        unfold vrun
        cases hq : isQ C o with
        | true =>
          intro hv
          refine ⟨hv.1, ?_⟩
          have hv := hv.2
          rw [ov_oneO, ov_nov] at hv; exact hv
        | false => exact geff_to
end
end Go.V

/- V26: regions of no fixed order, second part: what an action reads and writes; two that commute. No program in sight. -/
namespace Go.V
def optL : Option Nat → List Nat
  | some t => [t]
  | none => []
def tmpsL : List Operand → List Nat
  | [] => []
  | .tmp t :: r => t :: tmpsL r
  | _ :: r => tmpsL r
def guardTmp (l : List Oper) (o : Oper) : Option Nat := match o.guard with
  | some (j, _) => match l[j]? with | some oj => oj.dst | none => none
  | none => none
def rList (l : List Oper) (o : Oper) : List Nat := optL (guardTmp l o) ++ tmpsL o.op.operands.toList
def wList (C : Cf) (o : Oper) : List Nat := optL o.dst ++ match o.op with
  | .store _ _ x => optL (trX C x)
  | .move x | .assign x => bif isQ C o then [] else optL (tmpOf x)
  | .call c => match c.callee with
    | .builtin .append => match c.args.toList with
      | x :: _ => optL (tmpOf x)
      | [] => []
    | _ => []
  | _ => []
def mW (C : Cf) (o : Oper) : Option Nat := match o.op with
  | .store _ (.tmp t) _ => some (C.rt t)
  | .alloc _ | .box _ _ => o.dst
  | .load _ (.tmp t) => bif trD C o.dst then some (C.rt t) else none
  | _ => none
def mR (C : Cf) (o : Oper) : Option Nat := match o.op with
  | .load _ (.tmp t) => some (C.rt t)
  | _ => none
theorem mem_optL {d : Option Nat} {t : Nat} : t ∈ optL d ↔ d = some t := by
  cases d <;> simp [optL]
  exact eq_comm
theorem mem_tmpsL : ∀ {xs : List Operand} {t : Nat}, Operand.tmp t ∈ xs → t ∈ tmpsL xs
  | x :: r, t, h => by
    rcases List.mem_cons.1 h with rfl | h
    · simp [tmpsL]
    · have := mem_tmpsL h
      cases x <;> simp [tmpsL, this]
theorem aloneIn_spec {C : Cf} {M : List Nat} {k : Nat} : ∀ (r : List Oper) (j0 : Nat), aloneIn C M k j0 r = true → ∀ (j : Nat) (o : Oper), r[j]? = some o → effish C o = true → j0 + j = k ∨ reach M k (j0 + j) = true ∨ reach M (j0 + j) k = true
  | [], _, _, j, o, ho, _ => by simp at ho
  | x :: r, j0, h, j, o, ho, he => by
    unfold aloneIn at h
    rw [Bool.and_eq_true] at h
    cases j with
    | zero =>
      simp at ho
      subst ho
      have h1 := h.1
      rw [he] at h1
      simp only [Bool.or_eq_true] at h1
      rcases h1 with (h1 | h1) | h1
      · exact .inl (Nat.eq_of_beq_eq_true h1)
      · exact .inr (.inl h1)
      · exact .inr (.inr h1)
    | succ j =>
      have := aloneIn_spec r (j0 + 1) h.2 j o (by simpa using ho) he
      rwa [show j0 + 1 + j = j0 + (j + 1) by omega] at this
theorem alone_spec {C : Cf} {l : List Oper} {k : Nat} (h : alone C l k = true) {j : Nat} {o : Oper} (ho : l[j]? = some o) (he : effish C o = true) : j = k ∨ reach (masks l []) k j = true ∨ reach (masks l []) j k = true := by
  have := aloneIn_spec l 0 h j o ho he
  rwa [Nat.zero_add] at this

/-- What an operation reaches through. -/
def accX (o : Oper) : Option Operand := match o.op with
  | .load _ x => some x
  | .store _ x _ => some x
  | _ => none
/-- What reaches an object stands in order with all that changes the store. -/
structure AL (C : Cf) (l : List Oper) : Prop where
  x : ∀ (i : Nat) (o : Oper) (x : Operand), l[i]? = some o → accX o = some x → refX C x = true → alone C l i = true
  s : ∀ (i : Nat) (o : Oper), l[i]? = some o → accS C o = true → alone C l i = true
/-- What an action may touch. -/
def SupE (C : Cf) (l : List Oper) (i : Nat) (o : Oper) (F : St → ((Nat → Option AV) → St → Prop) → Prop) : Prop :=
  (∀ st L L', (∀ δ st', L δ st' → L' δ st') → F st L → F st L') ∧ (∀ st p, F st (fun _ _ => p) → p) ∧ (∀ st L, F st L → F st fun δ st' => (∀ t, δ t ≠ none → t ∈ wList C o) ∧ L δ st') ∧ effish C o = true ∧ ((∃ t a x, o.op = .store t a x) → alone C l i = true)
def Sup (C : Cf) (l : List Oper) (i : Nat) (o : Oper) : Ga → Prop
  | .det _ δ γ => (∀ t, δ t ≠ none → t ∈ wList C o) ∧ ∀ b, γ b ≠ none → mW C o = some b
  | .eff F => SupE C l i o F

section
variable {P : Program} {C : Cf} {ops : Array Oper} {l : List Oper} {i : Nat} {e : Env} {bx : Bx} {st : St} {o : Oper} {K : Env → Bx → St → Prop}
theorem sup_bad : Sup C l i o .bad := ⟨fun _ h => absurd rfl h, fun _ h => absurd rfl h⟩
theorem one_ne {α : Type} {d : Option Nat} {v : α} {t : Nat} (h : one d v t ≠ none) : d = some t := by
  unfold one at h
  split at h
  · next d' =>
    split at h
    · next he => rw [he]
    · exact absurd rfl h
  · exact absurd rfl h
theorem one_dst {v : AV} : ∀ t, one o.dst v t ≠ none → t ∈ wList C o := fun t h => List.mem_append_left _ (mem_optL.2 (one_ne h))
theorem sup_put {c : Prop} {v : AV} : Sup C l i o (.det c (one o.dst v) nov) := ⟨one_dst, fun _ h => absurd rfl h⟩
theorem gmove_sup {x : Operand} (hop : o.op = .move x ∨ o.op = .assign x) (hq : isQ C o = false) : Sup C l i o (gmove C o.type x o.dst e) := by
  have hw : ∀ t, tmpOf x = some t → t ∈ wList C o := by
    intro t h
    refine List.mem_append_right _ ?_
    rcases hop with hop | hop <;> rw [hop] <;> dsimp only <;> rw [hq] <;> exact mem_optL.2 h
  unfold gmove
  cases hd : o.dst <;> (try dsimp only) <;> try exact sup_bad
  next d =>
  cases hf : C.fz d <;> (try dsimp only) <;> try exact sup_bad
  cases x <;> (try dsimp only) <;> try exact sup_bad
  case tmp t =>
    cases hn : noLp (e t) <;> (try dsimp only) <;> try exact sup_bad
    refine ⟨fun u h => ?_, fun _ h => absurd rfl h⟩
    unfold appOv at h
    split at h
    · next he => subst he; exact List.mem_append_left _ (mem_optL.2 hd)
    · dsimp only at h
      split at h
      · next he => subst he; exact hw _ rfl
      · exact absurd rfl h
  case const v =>
    refine ⟨fun u h => List.mem_append_left _ (mem_optL.2 (hd.trans (one_ne h))), fun _ h => absurd rfl h⟩
theorem geff_sup (hal : ∀ x, accX o = some x → refX C x = true → alone C l i = true) (hq : isQ C o = false) (hd : dyn C l true i o e = true) : Sup C l i o (geff P C o e bx) := by
  unfold geff
  cases hop : o.op <;> (try dsimp only) <;> try exact sup_bad
  case move x => exact gmove_sup (.inl hop) hq
  case assign x => exact gmove_sup (.inr hop) hq
  case store t a x =>
    have hdy : dynP C l i a (rd C 0 e a) = true := by unfold dyn at hd; rw [hop] at hd; exact hd
    have hx : ∀ (y : Nat) (v : AV), trX C x = some y → ∀ t, one (some y) v t ≠ none → t ∈ wList C o := by
      intro y v hy t h
      refine List.mem_append_right _ ?_
      rw [hop]
      exact mem_optL.2 (hy.trans (one_ne h))
    cases h1 : (scalAll (rd C t e x).cells && Nat.beq (rd C t e x).cells.length (C.sz t) && C.has t && o.dst.isNone) <;> (try dsimp only) <;> try exact sup_bad
    cases h2 : rd C 0 e a <;> (try dsimp only) <;> try exact sup_bad
    case lp b off =>
      have hb : ∀ (v : Option (List AV)) b', one (some b) v b' ≠ none → mW C o = some b' := by
        intro v b' h
        have := Option.some.inj (one_ne h)
        subst this
        rw [h2] at hdy
        unfold dynP at hdy
        unfold mW
        rw [hop]
        cases a <;> first | (cases hdy; done) | skip
        next u => rw [Nat.eq_of_beq_eq_true hdy]
      cases h3 : bx b <;> (try dsimp only) <;> try exact sup_bad
      next cs =>
      cases h4 : Nat.ble (off + C.sz t) cs.length <;> (try dsimp only) <;> try exact sup_bad
      cases h5 : trX C x <;> cases h6 : isSl (rd C t e x) <;> (try dsimp only) <;> first
        | exact ⟨fun _ h => absurd rfl h, hb _⟩
        | exact ⟨hx _ _ h5, hb _⟩
    case ref id off =>
      refine ⟨?_, ?_, ?_, by unfold effish; rw [hop]; dsimp only; rw [h2] at hdy; exact hdy, fun _ => ?_⟩
      · intro st L L' h
        dsimp only
        cases h3 : st[id]? <;> (try dsimp only) <;> try (exact fun h => h)
        next ocs =>
        cases ocs <;> (try dsimp only) <;> try (exact fun h => h)
        next cs =>
        cases h4 : Nat.ble (off + C.sz t) cs.length <;> (try dsimp only) <;> try (exact fun h => h)
        cases h5 : trX C x <;> cases h6 : isSl (rd C t e x) <;> (try dsimp only) <;> exact h _ _
      · intro st p
        dsimp only
        cases h3 : st[id]? <;> (try dsimp only) <;> try (exact fun h => h.elim)
        next ocs =>
        cases ocs <;> (try dsimp only) <;> try (exact fun h => h.elim)
        next cs =>
        cases h4 : Nat.ble (off + C.sz t) cs.length <;> (try dsimp only) <;> try (exact fun h => h.elim)
        cases h5 : trX C x <;> cases h6 : isSl (rd C t e x) <;> (try dsimp only) <;> exact fun h => h
      · intro st L
        dsimp only
        cases h3 : st[id]? <;> (try dsimp only) <;> try (exact fun h => h)
        next ocs =>
        cases ocs <;> (try dsimp only) <;> try (exact fun h => h)
        next cs =>
        cases h4 : Nat.ble (off + C.sz t) cs.length <;> (try dsimp only) <;> try (exact fun h => h)
        cases h5 : trX C x <;> cases h6 : isSl (rd C t e x) <;> (try dsimp only) <;> first
          | exact fun h => ⟨fun _ h => absurd rfl h, h⟩
          | exact fun h => ⟨hx _ _ h5, h⟩
      · rw [h2] at hdy; exact hal a (by unfold accX; rw [hop]) hdy
  case load t a =>
    have htr : trD C o.dst = true := by
      unfold isQ at hq; rw [hop] at hq; simpa using hq
    have hdy : dynP C l i a (rd C 0 e a) = true := by unfold dyn at hd; rw [hop] at hd; exact ((Bool.and_eq_true _ _).mp hd).2
    cases hdst : o.dst <;> (try dsimp only) <;> try exact sup_bad
    next d =>
    cases hi : C.ti t <;> (try dsimp only) <;> try exact sup_bad
    next ii =>
    cases h2 : rd C 0 e a <;> (try dsimp only) <;> try exact sup_bad
    case lp b off =>
      cases hb : bx b <;> (try dsimp only) <;> try exact sup_bad
      next cs =>
      cases hc : (Nat.blt off cs.length && !ii.agg) <;> (try dsimp only) <;> try exact sup_bad
      refine ⟨fun t h => one_dst (v := .undef) t (by rw [hdst]; have := one_ne h; simp [one]; exact (Option.some.inj this).symm), fun b' h => ?_⟩
      have := Option.some.inj (one_ne h)
      subst this
      rw [h2] at hdy
      unfold dynP at hdy
      unfold mW
      rw [hop]
      cases a <;> first | (cases hdy; done) | skip
      next u =>
      dsimp only
      rw [htr, Nat.eq_of_beq_eq_true hdy]
      rfl
    case ref id off =>
      have hdl : dynL C o a (rd C 0 e a) = true := by unfold dyn at hd; rw [hop] at hd; exact ((Bool.and_eq_true _ _).mp hd).1
      have hrx : refX C a = true := by
        rw [h2] at hdl
        unfold dynL at hdl
        dsimp only at hdl
        rw [htr] at hdl
        simpa using hdl
      refine ⟨?_, ?_, ?_, by unfold effish; rw [hop]; dsimp only; rw [htr, hrx]; rfl, fun ⟨t, a, x, h⟩ => by rw [hop] at h; cases h⟩
      · intro st L L' h
        dsimp only
        cases h3 : st[id]? <;> (try dsimp only) <;> try (exact fun h => h)
        next ocs =>
        cases ocs <;> (try dsimp only) <;> try (exact fun h => h)
        next cs =>
        cases hc : (Nat.blt off cs.length && !ii.agg) <;> (try dsimp only) <;> try (exact fun h => h)
        exact h _ _
      · intro st p
        dsimp only
        cases h3 : st[id]? <;> (try dsimp only) <;> try (exact fun h => h.elim)
        next ocs =>
        cases ocs <;> (try dsimp only) <;> try (exact fun h => h.elim)
        next cs =>
        cases hc : (Nat.blt off cs.length && !ii.agg) <;> (try dsimp only) <;> try (exact fun h => h.elim)
        exact fun h => h
      · intro st L
        dsimp only
        cases h3 : st[id]? <;> (try dsimp only) <;> try (exact fun h => h)
        next ocs =>
        cases ocs <;> (try dsimp only) <;> try (exact fun h => h)
        next cs =>
        cases hc : (Nat.blt off cs.length && !ii.agg) <;> (try dsimp only) <;> try (exact fun h => h)
        exact fun h => ⟨fun t ht => one_dst (v := .undef) t (by rw [hdst]; have := one_ne ht; simp [one]; exact (Option.some.inj this).symm), h⟩
  case alloc t =>
    cases hdst : o.dst <;> (try dsimp only) <;> try exact sup_bad
    next d =>
    cases hi : C.ti t <;> (try dsimp only) <;> try exact sup_bad
    cases hh : C.hp d <;> (try dsimp only) <;> try exact sup_bad
    cases hb : bx d <;> (try dsimp only) <;> try exact sup_bad
    exact ⟨fun t h => one_dst (v := .undef) t (by rw [hdst]; have := one_ne h; simp [one]; exact (Option.some.inj this).symm), fun b h => by unfold mW; rw [hop]; dsimp only; rw [hdst]; exact one_ne h⟩
  case box t x =>
    cases hdst : o.dst <;> (try dsimp only) <;> try exact sup_bad
    next d =>
    cases hi : scalAll (rd C t e x).cells <;> (try dsimp only) <;> try exact sup_bad
    cases hh : C.hp d <;> (try dsimp only) <;> try exact sup_bad
    cases hb : bx d <;> (try dsimp only) <;> try exact sup_bad
    exact ⟨fun t h => one_dst (v := .undef) t (by rw [hdst]; have := one_ne h; simp [one]; exact (Option.some.inj this).symm), fun b h => by unfold mW; rw [hop]; dsimp only; rw [hdst]; exact one_ne h⟩
  case binOp op t x y ty =>
    cases op <;> (try dsimp only) <;> try exact sup_bad
    cases h1 : nilSlice y <;> (try dsimp only) <;> try exact sup_bad
    cases h2 : C.kind t <;> (try dsimp only) <;> try exact sup_bad
    cases h3 : rd C t e x <;> (try dsimp only) <;> try exact sup_bad
    refine ⟨?_, ?_, ?_, by unfold effish; rw [hop]; dsimp only; rw [hq]; rfl, fun ⟨t, a, x, h⟩ => by rw [hop] at h; cases h⟩
    · intro st L L' h k; exact k.mono (fun k q => h _ _ (k q)) (h _ _)
    · intro st p k; exact k.snd
    · intro st L k; exact k.mono (fun k q => ⟨one_dst, k q⟩) (fun k => ⟨one_dst, k⟩)
  case call c =>
    have hcall : ∀ {f : Nat} {as : List AV}, (∀ b, c.callee ≠ .builtin b) → Sup C l i o (.eff fun st L => VCalls P f as st fun r st' => L (one o.dst (bif trD C o.dst then r else ut r)) st') := by
      intro f as hc
      refine ⟨?_, ?_, ?_, ?_, fun ⟨t, a, x, h⟩ => by rw [hop] at h; cases h⟩
      · intro st L L' h k; exact k.mono fun r st' => h _ _
      · intro st p k; obtain ⟨_, _, hp⟩ := k.live; exact hp
      · intro st L k; exact k.mono fun r st' h => ⟨one_dst, h⟩
      · unfold effish; rw [hop]; dsimp only
        split
        · next b hb => exact absurd hb (hc b)
        · rw [hq]; rfl
    cases hc : c.callee <;> (try dsimp only) <;> try exact sup_bad
    case builtin b =>
      cases b <;> (try dsimp only) <;> try exact sup_bad
      cases ha : c.args.toList <;> (try dsimp only) <;> try exact sup_bad
      next x xs =>
      cases xs <;> (try dsimp only) <;> try exact sup_bad
      next y ys =>
      cases ys <;> (try dsimp only) <;> try exact sup_bad
      cases ht : c.argTypes.toList <;> (try dsimp only) <;> try exact sup_bad
      next sT ts =>
      cases ts <;> (try dsimp only) <;> try exact sup_bad
      next tx ts =>
      cases ts <;> (try dsimp only) <;> try exact sup_bad
      cases hdd : o.dst <;> (try dsimp only) <;> try exact sup_bad
      next d =>
      cases hk : C.kind sT <;> (try dsimp only) <;> try exact sup_bad
      next el =>
      cases hx : rd C sT e x <;> (try dsimp only) <;> try exact sup_bad
      next tip sz es =>
      cases tip <;> (try dsimp only) <;> try exact sup_bad
      cases hb : (appOk (C.kind tx) (C.sz el) (rd C tx e y) && eqSz sz (C.sz el) && Nat.blt 0 (C.bytes el)) <;> (try dsimp only) <;> try exact sup_bad
      refine ⟨fun t h => ?_, fun _ h => absurd rfl h⟩
      unfold appOv at h
      unfold wList
      rw [hop, hdd]
      dsimp only
      rw [hc]
      dsimp only
      rw [ha]
      split at h
      · next he => subst he; exact List.mem_append_left _ (by simp [optL])
      · refine List.mem_append_right _ (mem_optL.2 ?_)
        split at h
        · next u hu =>
          split at h
          · next he => rw [hu, he]
          · exact absurd rfl h
        · exact absurd rfl h
    case value v =>
      cases v <;> (try dsimp only) <;> try exact sup_bad
      case func f =>
        cases hn : noLps (qargs C e c.args.toList c.argTypes.toList) <;> (try dsimp only) <;> try exact sup_bad
        exact hcall (by rw [hc]; intro b h; cases h)
      case tmp t =>
        cases he : e t <;> (try dsimp only) <;> try exact sup_bad
        cases hn : noLps (qargs C e c.args.toList c.argTypes.toList) <;> (try dsimp only) <;> try exact sup_bad
        exact hcall (by rw [hc]; intro b h; cases h)
theorem gact_sup (hl : ops.toList = l) (hal : AL C l) (ho : l[i]? = some o) : Sup C l i o (gact P C ops i o e bx st) := by
  unfold gact
  cases hw : wantE ops e o.guard with
  | none => exact sup_bad
  | some b =>
    cases b with
    | false => exact sup_put
    | true =>
      dsimp only
      cases hd : dyn C ops.toList true i o e with
      | false => exact sup_bad
      | true =>
        dsimp only
        cases hq : isQ C o with
        | true => exact sup_put
        | false => exact geff_sup (fun x hx hr => hal.x i o x ho hx hr) hq (by rw [← hl]; exact hd)
end
end Go.V

/- V27: regions of no fixed order, third part: two unordered actions commute. No program in sight. -/
namespace Go.V
section
variable {P : Program} {C : Cf} {ops : Array Oper} {l : List Oper} {i : Nat} {e e' : Env} {bx bx' : Bx} {st st' : St} {o : Oper} {K : Env → Bx → St → Prop}

theorem appOv_congr {d : Nat} {x : Option Nat} {v : AV} (h : ∀ u, x = some u → e' u = e u) : appOv e' d x v = appOv e d x v := by
  funext t
  unfold appOv
  cases x with
  | none => rfl
  | some u => dsimp only; rw [h u rfl]
theorem gmove_congr {ty : Nat} {x : Operand} {d : Option Nat} (h : ∀ t, x = .tmp t → e' t = e t) : gmove C ty x d e' = gmove C ty x d e := by
  unfold gmove
  cases d <;> (try dsimp only)
  next d =>
  cases C.fz d <;> (try dsimp only)
  cases x <;> (try dsimp only)
  next t =>
  have ht := h t rfl
  rw [ht, appOv_congr (fun u hu => by cases hu; exact ht)]
theorem geff_congr (h : SameAt e' e o.op.operands) (hs : ∀ t a x, o.op = .store t a x → ∀ b off, rd C 0 e a = .lp b off → bx' b = bx b) (hld : ∀ t a, o.op = .load t a → ∀ b off, rd C 0 e a = .lp b off → bx' b = bx b) (ha : (∃ t, o.op = .alloc t) ∨ (∃ t x, o.op = .box t x) → ∀ d, o.dst = some d → bx' d = bx d) :
    geff P C o e' bx' = geff P C o e bx := by
  unfold geff
  cases hop : o.op <;> rw [hop] at h hs hld ha <;> simp only [Op.operands] at h <;> try rfl
  case move x => exact gmove_congr fun t ht => by subst ht; exact h t (by simp)
  case assign x => exact gmove_congr fun t ht => by subst ht; exact h t (by simp)
  case store t a x =>
    have h1 := fun ty => h.rd (C := C) (x := a) (by simp) ty
    have h2 := fun ty => h.rd (C := C) (x := x) (by simp) ty
    simp only [h1, h2]
    cases hr : rd C 0 e a <;> try rfl
    next b off => simp only [hs t a x rfl b off hr]
  case load t a =>
    have h1 := fun ty => h.rd (C := C) (x := a) (by simp) ty
    simp only [h1]
    generalize o.dst = dd
    generalize C.ti t = ii
    cases dd with
    | none => rfl
    | some d =>
      cases ii with
      | none => rfl
      | some i =>
        cases hr : rd C 0 e a <;> try rfl
        next b off => simp only [hld t a rfl b off hr]
  case alloc t =>
    have := ha (.inl ⟨t, rfl⟩)
    dsimp only
    cases hd : o.dst with
    | none => rfl
    | some d =>
      have hb := this d hd
      generalize C.ti t = q
      cases q with
      | none => rfl
      | some i => dsimp only; rw [hb]
  case box t x =>
    have := ha (.inr ⟨t, x, rfl⟩)
    have h2 := fun ty => h.rd (C := C) (x := x) (by simp) ty
    cases hd : o.dst with
    | none => rfl
    | some d => simp only [this d hd, h2]
  case binOp op t x y ty =>
    have h1 := fun ty => h.rd (C := C) (x := x) (by simp) ty
    cases op <;> simp only [h1]
  case call c =>
    have hx : ∀ x ∈ c.args.toList, ∀ ty, rd C ty e' x = rd C ty e x := fun x hx ty => h.rd (by simp at hx; simp [Call.operands, hx]) ty
    have hq := fun ts => qargs_congr (C := C) (e := e) (e' := e') c.args.toList ts hx
    simp only [hq]
    cases hc : c.callee <;> try rfl
    case builtin b =>
      cases b <;> try rfl
      dsimp only
      split <;> try rfl
      next x y sT tx d ha' ht hd =>
      have hmx : x ∈ c.args.toList := by rw [ha']; simp
      simp only [hx x hmx, hx y (by rw [ha']; simp)]
      have : ∀ v, appOv e' d (tmpOf x) v = appOv e d (tmpOf x) v := fun v => appOv_congr fun u hu => by
        have := tmpOf_eq hu
        subst this
        exact hx _ hmx 0
      simp only [this]
    case value v =>
      cases v <;> try rfl
      next t =>
      have : e' t = e t := h t (by simp [Call.operands, hc])
      simp only [this]

theorem guardTmp_want {hl : ops.toList = l} (h : ∀ d, guardTmp l o = some d → e' d = e d) : wantE ops e' o.guard = wantE ops e o.guard := by
  unfold guardTmp at h
  cases hg : o.guard with
  | none => rfl
  | some jb =>
    obtain ⟨j, b⟩ := jb
    rw [hg] at h
    unfold wantE
    dsimp only at h ⊢
    rw [toList_get hl]
    cases hj : l[j]? with
    | none => rfl
    | some oj =>
      rw [hj] at h
      rw [Option.bind_some]
      cases hd : oj.dst with
      | none => rfl
      | some d => dsimp only; rw [h d hd]
theorem dyn_congr {dr : Bool} (h : SameAt e' e o.op.operands) : dyn C l dr i o e' = dyn C l dr i o e := by
  unfold dyn
  cases dr with
  | false => rfl
  | true =>
    dsimp only
    split
    · next t x hop => rw [hop] at h; rw [h.rd (by simp [Op.operands])]
    · next t x y hop => rw [hop] at h; rw [h.rd (by simp [Op.operands])]
    · rfl
/-- An action beside what it neither reads nor writes. -/
theorem gact_congr (hl : ops.toList = l) {δ : Nat → Option AV} {γ : Nat → Option (Option (List AV))} (hδ : ∀ t, δ t ≠ none → t ∉ rList l o) (hγ : ∀ b, γ b ≠ none → mR C o ≠ some b ∧ mW C o ≠ some b) :
    gact P C ops i o (ov δ e) (ov γ bx) st = gact P C ops i o e bx st := by
  have hd : ∀ t, t ∈ rList l o → ov δ e t = e t := fun t ht => ov_none (by
    cases h : δ t with
    | none => rfl
    | some v => exact absurd ht (hδ t (by rw [h]; simp)))
  have hS : SameAt (ov δ e) e o.op.operands := fun t ht => hd t (List.mem_append_right _ (mem_tmpsL (by simpa using ht)))
  have hG : ∀ b, (mR C o = some b ∨ mW C o = some b) → ov γ bx b = bx b := fun b hb => ov_none (by
    cases h : γ b with
    | none => rfl
    | some v =>
      have := hγ b (by rw [h]; simp)
      rcases hb with hb | hb
      · exact absurd hb this.1
      · exact absurd hb this.2)
  unfold gact
  rw [guardTmp_want (hl := hl) (fun d h => hd d (List.mem_append_left _ (mem_optL.2 h))), dyn_congr hS]
  cases hw : wantE ops e o.guard with
  | none => rfl
  | some b =>
    cases b with
    | false => rfl
    | true =>
      dsimp only
      cases hdy : dyn C ops.toList true i o e with
      | false => rfl
      | true =>
        dsimp only
        have hdp : ∀ a, ((∃ t, o.op = .load t a) ∨ ∃ t x, o.op = .store t a x) → dynP C ops.toList i a (rd C 0 e a) = true := by
          rintro a (⟨t, hop⟩ | ⟨t, x, hop⟩)
          · unfold dyn at hdy; rw [hop] at hdy; exact ((Bool.and_eq_true _ _).mp hdy).2
          · unfold dyn at hdy; rw [hop] at hdy; exact hdy
        have hlp : ∀ a b off, ((∃ t, o.op = .load t a) ∨ ∃ t x, o.op = .store t a x) → rd C 0 e a = .lp b off → ∃ u, a = .tmp u ∧ b = C.rt u := by
          intro a b off ho hr
          have := hdp a ho
          rw [hr] at this
          unfold dynP at this
          cases a <;> first | (cases this; done) | skip
          next u => exact ⟨u, rfl, Nat.eq_of_beq_eq_true this⟩
        cases hq : isQ C o with
        | true =>
          dsimp only
          rw [q_congr hS (fun t x hop b off hr => by
            obtain ⟨u, rfl, rfl⟩ := hlp x b off (.inl ⟨t, hop⟩) hr
            exact hG _ (.inl (by unfold mR; rw [hop]))) (.inl rfl)]
        | false =>
          dsimp only
          refine geff_congr hS (fun t a x hop b off hr => ?_) (fun t a hop b off hr => ?_) (fun hop d hdst => ?_)
          · obtain ⟨u, rfl, rfl⟩ := hlp a b off (.inr ⟨t, x, hop⟩) hr
            exact hG _ (.inr (by unfold mW; rw [hop]))
          · obtain ⟨u, rfl, rfl⟩ := hlp a b off (.inl ⟨t, hop⟩) hr
            exact hG _ (.inl (by unfold mR; rw [hop]))
          · refine hG _ (.inr ?_)
            unfold mW
            rcases hop with ⟨t, hop⟩ | ⟨t, x, hop⟩ <;> (rw [hop]; exact hdst)
/-- An action that shares the store with others does not look at it. -/
theorem gact_st (hl : ops.toList = l) (hal : AL C l) (ho : l[i]? = some o) (h : alone C l i = false) : gact P C ops i o e bx st' = gact P C ops i o e bx st := by
  unfold gact
  cases hw : wantE ops e o.guard with
  | none => rfl
  | some b =>
    cases b with
    | false => rfl
    | true =>
      dsimp only
      cases hdy : dyn C ops.toList true i o e with
      | false => rfl
      | true =>
        dsimp only
        cases hq : isQ C o with
        | false => rfl
        | true =>
          dsimp only
          rw [q_congr (e := e) (fun _ _ => rfl) (fun _ _ _ _ _ _ => rfl) (.inr ⟨fun t x hop id off hr => ?_, by
            cases hac : accS C o with
            | false => rfl
            | true => have := hal.s i o ho hac; rw [h] at this; cases this⟩)]
          unfold dyn at hdy
          rw [hop] at hdy
          dsimp only at hdy
          replace hdy := ((Bool.and_eq_true _ _).mp hdy).2
          rw [hr, hl] at hdy
          have := hal.x i o x ho (by unfold accX; rw [hop]) hdy
          rw [h] at this
          cases this

def disjL (xs ys : List Nat) : Bool := xs.all fun x => !ys.any fun y => Nat.beq x y
theorem disjL_spec {xs ys : List Nat} (h : disjL xs ys = true) {t : Nat} (hx : t ∈ xs) : t ∉ ys := by
  intro hy
  have := List.all_eq_true.1 h t hx
  have h2 : (ys.any fun y => Nat.beq t y) = true := List.any_eq_true.2 ⟨t, hy, Nat.beq_refl t⟩
  rw [h2] at this
  cases this
def neO (x y : Option Nat) : Bool := match x, y with
  | some a, some b => !Nat.beq a b
  | _, _ => true
theorem neO_spec {x y : Option Nat} (h : neO x y = true) {b : Nat} (hx : x = some b) : y ≠ some b := by
  rintro rfl
  subst hx
  unfold neO at h
  dsimp only at h
  rw [Nat.beq_refl] at h
  cases h
def isStore (o : Oper) : Bool := match o.op with
  | .store .. => true
  | _ => false
/-- May two operations come in either order? -/
def indB (C : Cf) (l : List Oper) (x y : Oper) : Bool :=
  disjL (wList C x) (rList l y) && disjL (wList C x) (wList C y) && disjL (wList C y) (rList l x) &&
  (neO (mW C x) (mR C y) && neO (mW C x) (mW C y) && neO (mW C y) (mR C x)) && (!(effish C x && effish C y) || (isStore x && isStore y))
theorem ov_comm {α : Type} {δ δ' : Nat → Option α} {e : Nat → α} (h : ∀ t, δ t ≠ none → δ' t ≠ none → False) : ov δ (ov δ' e) = ov δ' (ov δ e) := by
  funext t
  unfold ov
  cases h1 : δ t with
  | none => cases h2 : δ' t <;> simp
  | some v =>
    cases h2 : δ' t with
    | none => simp
    | some v' => exact (h t (by rw [h1]; simp) (by rw [h2]; simp)).elim

theorem commute (hl : ops.toList = l) (hal : AL C l) {x y : Oper} {j : Nat} (hx : l[i]? = some x) (hy : l[j]? = some y) (hij : i ≠ j) (hr1 : reach (masks l []) i j = false) (hr2 : reach (masks l []) j i = false) (hI : indB C l x y = true)
    (h : (gact P C ops i x e bx st).run (fun e1 bx1 st1 => (gact P C ops j y e1 bx1 st1).run K e1 bx1 st1) e bx st) :
    (gact P C ops j y e bx st).run (fun e1 bx1 st1 => (gact P C ops i x e1 bx1 st1).run K e1 bx1 st1) e bx st := by
  unfold indB at hI
  simp only [Bool.and_eq_true] at hI
  obtain ⟨⟨⟨⟨i1, i2⟩, i3⟩, ⟨i4, i5⟩, i6⟩, i7⟩ := hI
  have i5' : ∀ b, mW C y = some b → mW C x ≠ some b := fun b hb hxb => neO_spec i5 hxb hb
  have sx := gact_sup (P := P) (C := C) (i := i) (e := e) (bx := bx) (st := st) (o := x) hl hal hx
  have sy := gact_sup (P := P) (C := C) (i := j) (e := e) (bx := bx) (st := st) (o := y) hl hal hy
  have notAlone_y : effish C x = true → alone C l j = false := by
    intro he
    cases ha : alone C l j with
    | false => rfl
    | true =>
      rcases alone_spec ha hx he with h | h | h
      · exact absurd h hij
      · rw [hr2] at h; cases h
      · rw [hr1] at h; cases h
  have notAlone_x : effish C y = true → alone C l i = false := by
    intro he
    cases ha : alone C l i with
    | false => rfl
    | true =>
      rcases alone_spec ha hy he with h | h | h
      · exact absurd h.symm hij
      · rw [hr1] at h; cases h
      · rw [hr2] at h; cases h
  have cy : ∀ {δ : Nat → Option AV} {γ : Nat → Option (Option (List AV))}, (∀ t, δ t ≠ none → t ∈ wList C x) → (∀ b, γ b ≠ none → mW C x = some b) → gact P C ops j y (ov δ e) (ov γ bx) st = gact P C ops j y e bx st :=
    fun h1 h2 => gact_congr hl (fun t ht => disjL_spec i1 (h1 t ht)) (fun b hb => ⟨neO_spec i4 (h2 b hb), neO_spec i5 (h2 b hb)⟩)
  have cx : ∀ {δ : Nat → Option AV} {γ : Nat → Option (Option (List AV))}, (∀ t, δ t ≠ none → t ∈ wList C y) → (∀ b, γ b ≠ none → mW C y = some b) → gact P C ops i x (ov δ e) (ov γ bx) st = gact P C ops i x e bx st :=
    fun h1 h2 => gact_congr hl (fun t ht => disjL_spec i3 (h1 t ht)) (fun b hb => ⟨neO_spec i6 (h2 b hb), i5' b (h2 b hb)⟩)
  have hno : ∀ b, (nov : Nat → Option (Option (List AV))) b ≠ none → False := fun b h => h rfl
  cases gx : gact P C ops i x e bx st with
  | det c δ γ =>
    rw [gx] at h sx
    obtain ⟨s1, s2⟩ := sx
    obtain ⟨hc, h⟩ := h
    rw [cy s1 s2] at h
    cases gy : gact P C ops j y e bx st with
    | det c' δ' γ' =>
      rw [gy] at h sy
      obtain ⟨s1', s2'⟩ := sy
      refine ⟨h.1, ?_⟩
      show (gact P C ops i x (ov δ' e) (ov γ' bx) st).run _ _ _ _
      rw [cx s1' s2', gx]
      refine ⟨hc, ?_⟩
      rw [ov_comm (δ := δ) (δ' := δ') (fun t h1 h2 => disjL_spec i2 (s1 t h1) (s1' t h2)), ov_comm (δ := γ) (δ' := γ') (fun b h1 h2 => i5' b (s2' b h2) (s2 b h1))]
      exact h.2
    | eff F =>
      rw [gy] at h sy
      obtain ⟨m1, m2, m3, m4, m5⟩ := sy
      refine m1 _ _ _ ?_ (m3 _ _ h)
      rintro δ' st' ⟨hs, hK⟩
      have e1 : gact P C ops i x (ov δ' e) bx st' = .det c δ γ := by
        rw [gact_st (st := st) hl hal hx (notAlone_x m4)]
        have := cx (γ := nov) hs (fun b h => (hno b h).elim)
        rw [ov_nov] at this
        rw [this, gx]
      show (gact P C ops i x (ov δ' e) bx st').run _ _ _ _
      rw [e1]
      refine ⟨hc, ?_⟩
      rw [ov_comm (δ := δ) (δ' := δ') (fun t h1 h2 => disjL_spec i2 (s1 t h1) (hs t h2))]
      exact hK
  | eff F =>
    rw [gx] at h sx
    obtain ⟨m1, m2, m3, m4, m5⟩ := sx
    have h := m3 _ _ h
    have e1 : ∀ {δ : Nat → Option AV} {st' : St}, (∀ t, δ t ≠ none → t ∈ wList C x) → gact P C ops j y (ov δ e) bx st' = gact P C ops j y e bx st := by
      intro δ st' hs
      rw [gact_st (st := st) hl hal hy (notAlone_y m4)]
      have := cy (γ := nov) hs (fun b h => (hno b h).elim)
      rwa [ov_nov] at this
    cases gy : gact P C ops j y e bx st with
    | det c' δ' γ' =>
      rw [gy] at sy
      obtain ⟨s1', s2'⟩ := sy
      have h2 : F st (fun δ st' => c' ∧ ((∀ t, δ t ≠ none → t ∈ wList C x) ∧ K (ov δ' (ov δ e)) (ov γ' bx) st')) := by
        refine m1 _ _ _ ?_ h
        rintro δ st' ⟨hs, hK⟩
        rw [e1 hs, gy] at hK
        exact ⟨hK.1, hs, hK.2⟩
      refine ⟨m2 st c' (m1 _ _ _ (fun _ _ h => h.1) h2), ?_⟩
      show (gact P C ops i x (ov δ' e) (ov γ' bx) st).run _ _ _ _
      rw [cx s1' s2', gx]
      refine m1 _ _ _ ?_ h2
      rintro δ st' ⟨_, hs, hK⟩
      rw [ov_comm (δ := δ) (δ' := δ') (fun t h1 h2 => disjL_spec i2 (hs t h1) (s1' t h2))]
      exact hK
    | eff F' =>
      rw [gy] at sy
      obtain ⟨n1, n2, n3, n4, n5⟩ := sy
      exfalso
      rw [m4, n4] at i7
      have i7 : isStore x = true ∧ isStore y = true := by simpa using i7
      have hsx : ∃ t a z, x.op = .store t a z := by
        have := i7.1
        unfold isStore at this
        split at this
        · next t a z hop => exact ⟨t, a, z, hop⟩
        · cases this
      have := notAlone_x n4
      rw [m5 hsx] at this
      cases this
end
end Go.V

/- V28: regions of no fixed order, last part: the order of the text shows all orders. No program in sight. -/
namespace Go.V
def rowB (C : Cf) (l : List Oper) (M : List Nat) (k : Nat) (x : Oper) : Nat → List Oper → Bool
  | _, [] => true
  | j, y :: r => (reach M j k || indB C l x y) && rowB C l M k x (j + 1) r
def pairsB (C : Cf) (l : List Oper) (M : List Nat) : Nat → List Oper → Bool
  | _, [] => true
  | k, x :: r => rowB C l M k x (k + 1) r && pairsB C l M (k + 1) r
def edgesB : Nat → List Oper → Bool
  | _, [] => true
  | k, x :: r => (x.after.toList.all fun e => !Region.binds .any e || Nat.blt e.on k) && edgesB (k + 1) r
def alB (C : Cf) (l : List Oper) : Nat → List Oper → Bool
  | _, [] => true
  | k, o :: r => ((match accX o with | some x => (match refX C x with | true => alone C l k | false => true) | none => true) && (match accS C o with | true => alone C l k | false => true)) && alB C l (k + 1) r
theorem alB_spec {C : Cf} {l : List Oper} : ∀ (r : List Oper) (k : Nat), alB C l k r = true → ∀ (i : Nat) (o : Oper) (x : Operand), r[i]? = some o → accX o = some x → refX C x = true → alone C l (k + i) = true
  | [], _, _, i, o, x, h, _, _ => by simp at h
  | z :: r, k, h, i, o, x, ho, hx, hr => by
    unfold alB at h
    rw [Bool.and_eq_true] at h
    cases i with
    | zero =>
      simp at ho
      subst ho
      have h1 := ((Bool.and_eq_true _ _).mp h.1).1
      rw [hx] at h1
      dsimp only at h1
      rw [hr] at h1
      exact h1
    | succ i =>
      have := alB_spec r (k + 1) h.2 i o x (by simpa using ho) hx hr
      rwa [show k + 1 + i = k + (i + 1) by omega] at this
theorem alB_s {C : Cf} {l : List Oper} : ∀ (r : List Oper) (k : Nat), alB C l k r = true → ∀ (i : Nat) (o : Oper), r[i]? = some o → accS C o = true → alone C l (k + i) = true
  | [], _, _, i, o, h, _ => by simp at h
  | z :: r, k, h, i, o, ho, hx => by
    unfold alB at h
    rw [Bool.and_eq_true] at h
    cases i with
    | zero =>
      simp at ho
      subst ho
      have h1 := ((Bool.and_eq_true _ _).mp h.1).2
      rw [hx] at h1
      exact h1
    | succ i =>
      have := alB_s r (k + 1) h.2 i o (by simpa using ho) hx
      rwa [show k + 1 + i = k + (i + 1) by omega] at this
def OkL (C : Cf) (l : List Oper) : Prop := (∀ o ∈ l, okD C o = true) ∧ AL C l
def drawOk (C : Cf) (l : List Oper) : Bool := l.all (okD C) && edgesB 0 l && pairsB C l (masks l []) 0 l && alB C l 0 l

theorem rowB_spec {C : Cf} {l : List Oper} {M : List Nat} {k : Nat} {x : Oper} : ∀ (r : List Oper) (j0 : Nat), rowB C l M k x j0 r = true → ∀ (m : Nat) (y : Oper), r[m]? = some y → reach M (j0 + m) k = true ∨ indB C l x y = true
  | [], _, _, m, y, h => by simp at h
  | z :: r, j0, h, m, y, hy => by
    unfold rowB at h
    rw [Bool.and_eq_true] at h
    cases m with
    | zero => simp at hy; subst hy; simpa using h.1
    | succ m =>
      have := rowB_spec r (j0 + 1) h.2 m y (by simpa using hy)
      rwa [show j0 + 1 + m = j0 + (m + 1) by omega] at this
theorem pairsB_spec {C : Cf} {l : List Oper} {M : List Nat} : ∀ (r : List Oper) (k0 : Nat), pairsB C l M k0 r = true → ∀ (m p : Nat) (x y : Oper), r[m]? = some x → r[p]? = some y → m < p → reach M (k0 + p) (k0 + m) = true ∨ indB C l x y = true
  | [], _, _, m, p, x, y, h, _, _ => by simp at h
  | z :: r, k0, h, m, p, x, y, hx, hy, hmp => by
    unfold pairsB at h
    rw [Bool.and_eq_true] at h
    cases p with
    | zero => omega
    | succ p =>
      cases m with
      | zero =>
        simp at hx
        subst hx
        have := rowB_spec r (k0 + 1) h.1 p y (by simpa using hy)
        rwa [show k0 + 1 + p = k0 + (p + 1) by omega] at this
      | succ m =>
        have := pairsB_spec r (k0 + 1) h.2 m p x y (by simpa using hx) (by simpa using hy) (by omega)
        rwa [show k0 + 1 + p = k0 + (p + 1) by omega, show k0 + 1 + m = k0 + (m + 1) by omega] at this
theorem edgesB_spec : ∀ (r : List Oper) (k0 : Nat), edgesB k0 r = true → ∀ (m : Nat) (x : Oper), r[m]? = some x → ∀ e ∈ x.after, Region.binds .any e = true → e.on < k0 + m
  | [], _, _, m, x, h => by simp at h
  | z :: r, k0, h, m, x, hx => by
    unfold edgesB at h
    rw [Bool.and_eq_true] at h
    intro e he hb
    cases m with
    | zero =>
      simp at hx
      subst hx
      have := List.all_eq_true.1 h.1 e (by simpa using he)
      rw [hb] at this
      have h2 : e.on < k0 := by simpa using this
      omega
    | succ m =>
      have := edgesB_spec r (k0 + 1) h.2 m x (by simpa using hx) e he hb
      omega

theorem masks_append : ∀ (r : List Oper) (acc : List Nat), ∃ t, masks r acc = acc ++ t ∧ t.length = r.length
  | [], acc => ⟨[], by simp [masks], rfl⟩
  | o :: r, acc => by
    obtain ⟨t, h, hl⟩ := masks_append r (acc ++ [edgeMask acc o.after.toList])
    exact ⟨edgeMask acc o.after.toList :: t, by rw [masks, h, List.append_assoc]; rfl, by simp [hl]⟩
theorem masks_get : ∀ (r : List Oper) (acc : List Nat) (m : Nat) (o : Oper), r[m]? = some o → (masks r acc)[acc.length + m]? = some (edgeMask ((masks r acc).take (acc.length + m)) o.after.toList)
  | [], _, m, o, h => by simp at h
  | x :: r, acc, m, o, h => by
    cases m with
    | zero =>
      simp at h
      subst h
      obtain ⟨t, ht, _⟩ := masks_append r (acc ++ [edgeMask acc x.after.toList])
      have e1 : masks (x :: r) acc = acc ++ (edgeMask acc x.after.toList :: t) := by rw [masks, ht, List.append_assoc]; rfl
      rw [e1]
      simp
    | succ m =>
      have := masks_get r (acc ++ [edgeMask acc x.after.toList]) m o (by simpa using h)
      rw [List.length_append] at this
      rw [masks]
      rwa [show acc.length + [edgeMask acc x.after.toList].length + m = acc.length + (m + 1) by simp; omega] at this
theorem edgeMask_bit {acc : List Nat} {i : Nat} : ∀ {es : List Edge}, Nat.testBit (edgeMask acc es) i = true → ∃ e ∈ es, Region.binds .any e = true ∧ (e.on = i ∨ Nat.testBit (acc.getD e.on 0) i = true)
  | [], h => by simp [edgeMask] at h
  | e :: r, h => by
    unfold edgeMask at h
    cases hb : Region.binds .any e with
    | true =>
      rw [hb] at h
      dsimp only at h
      have h : Nat.testBit ((1 <<< e.on ||| acc.getD e.on 0) ||| edgeMask acc r) i = true := h
      rw [Nat.testBit_or, Nat.testBit_or, Bool.or_eq_true, Bool.or_eq_true] at h
      rcases h with (h | h) | h
      · rw [Nat.one_shiftLeft, Nat.testBit_two_pow] at h
        exact ⟨e, by simp, hb, .inl (by simpa using h)⟩
      · exact ⟨e, by simp, hb, .inr h⟩
      · obtain ⟨e', h1, h2⟩ := edgeMask_bit h
        exact ⟨e', by simp [h1], h2⟩
    | false =>
      rw [hb] at h
      obtain ⟨e', h1, h2⟩ := edgeMask_bit h
      exact ⟨e', by simp [h1], h2⟩

section
variable {P : Program} {C : Cf} {ops : Array Oper} {l : List Oper} {e : Env} {bx : Bx} {st : St} {K K' : Env → Bx → St → Prop} {listed : Array Bool}
def Closed (ops : Array Oper) (listed : Array Bool) : Prop := ∀ (j : Nat) (o : Oper), ops[j]? = some o → listed.getD j false = true → ∀ e ∈ o.after, Region.binds .any e = true → listed.getD e.on false = true
theorem reach_closed (hl : ops.toList = l) (hc : Closed ops listed) : ∀ (j i : Nat) (o : Oper), ops[j]? = some o → (∀ e ∈ o.after, Region.binds .any e = true → listed.getD e.on false = true) → reach (masks l []) j i = true → listed.getD i false = true := by
  intro j
  induction j using Nat.strongRecOn with
  | _ j ih =>
    intro i o ho ha hr
    have ho' : l[j]? = some o := by rw [← toList_get hl]; exact ho
    have hm := masks_get l [] j o ho'
    simp only [List.length_nil, Nat.zero_add] at hm
    unfold reach at hr
    rw [List.getD_eq_getElem?_getD, hm, Option.getD_some] at hr
    obtain ⟨e, he, hb, h⟩ := edgeMask_bit hr
    have hel := ha e (by simpa using he) hb
    rcases h with h | h
    · rw [← h]; exact hel
    · by_cases hlt : e.on < j
      · rw [List.getD_eq_getElem?_getD, List.getElem?_take, if_pos hlt, ← List.getD_eq_getElem?_getD] at h
        have hjl := (List.getElem?_eq_some_iff.1 ho').1
        obtain ⟨oe, hoe⟩ : ∃ oe, ops[e.on]? = some oe := by
          rw [toList_get hl]
          exact ⟨l[e.on]'(by omega), List.getElem?_eq_getElem (by omega)⟩
        exact ih e.on hlt i oe hoe (hc e.on oe hoe hel) h
      · rw [List.getD_eq_getElem?_getD, List.getElem?_take, if_neg hlt] at h
        simp at h

theorem run_mono {g : Ga} {i : Nat} {o : Oper} (hs : Sup C l i o g) (h : ∀ e bx st, K e bx st → K' e bx st) (hr : g.run K e bx st) : g.run K' e bx st := by
  cases g with
  | det c δ γ => exact ⟨hr.1, h _ _ _ hr.2⟩
  | eff F => exact hs.1 _ _ _ (fun δ st' => h _ _ _) hr
theorem vstepD_mono (hl : ops.toList = l) (hok : OkL C l) {i : Nat} (h : ∀ e bx st, K e bx st → K' e bx st) (hv : vstep P C true ops i K e bx st) : vstep P C true ops i K' e bx st := by
  unfold vstep at hv ⊢
  cases ho : ops[i]? with
  | none => rw [ho] at hv; exact h _ _ _ hv
  | some o =>
    rw [ho] at hv
    have ho' : o ∈ l := by rw [← hl]; exact Array.mem_toList_iff.2 (Array.mem_of_getElem? ho)
    exact gact_to (run_mono (gact_sup hl hok.2 (by rw [← toList_get hl]; exact ho)) h (gact_of (hok.1 o ho') hv))
theorem vstepD_live (hl : ops.toList = l) (hok : OkL C l) {i : Nat} {p : Prop} (hv : vstep P C true ops i (fun _ _ _ => p) e bx st) : p := by
  unfold vstep at hv
  cases ho : ops[i]? with
  | none => rw [ho] at hv; exact hv
  | some o =>
    rw [ho] at hv
    have ho' : o ∈ l := by rw [← hl]; exact Array.mem_toList_iff.2 (Array.mem_of_getElem? ho)
    have := gact_of (hok.1 o ho') hv
    have hs := gact_sup (P := P) (C := C) (i := i) (e := e) (bx := bx) (st := st) (o := o) hl hok.2 (by rw [← toList_get hl]; exact ho)
    cases hg : gact P C ops i o e bx st with
    | det c δ γ => rw [hg] at this; exact this.2
    | eff F => rw [hg] at this hs; exact hs.2.1 _ _ this
theorem vstepD_swap (hl : ops.toList = l) (hok : OkL C l) {i j : Nat} {x y : Oper} (hx : ops[i]? = some x) (hy : ops[j]? = some y) (hij : i ≠ j) (hr1 : reach (masks l []) i j = false) (hr2 : reach (masks l []) j i = false) (hI : indB C l x y = true)
    (hv : vstep P C true ops i (vstep P C true ops j K) e bx st) : vstep P C true ops j (vstep P C true ops i K) e bx st := by
  have hx' : x ∈ l := by rw [← hl]; exact Array.mem_toList_iff.2 (Array.mem_of_getElem? hx)
  have hy' : y ∈ l := by rw [← hl]; exact Array.mem_toList_iff.2 (Array.mem_of_getElem? hy)
  have ei : ∀ (K : Env → Bx → St → Prop) e bx st, vstep P C true ops i K e bx st = vstepO P C true ops i x K e bx st := by intro K e bx st; unfold vstep; rw [hx]
  have ej : ∀ (K : Env → Bx → St → Prop) e bx st, vstep P C true ops j K e bx st = vstepO P C true ops j y K e bx st := by intro K e bx st; unfold vstep; rw [hy]
  rw [ei] at hv
  have h1 := gact_of (hok.1 x hx') hv
  have h2 := run_mono (gact_sup hl hok.2 (by rw [← toList_get hl]; exact hx)) (K' := fun e1 bx1 st1 => (gact P C ops j y e1 bx1 st1).run K e1 bx1 st1) (fun e bx st h => by rw [ej] at h; exact gact_of (hok.1 y hy') h) h1
  have h3 := commute hl hok.2 (by rw [← toList_get hl]; exact hx) (by rw [← toList_get hl]; exact hy) hij hr1 hr2 hI h2
  rw [ej]
  refine gact_to (run_mono (gact_sup hl hok.2 (by rw [← toList_get hl]; exact hy)) (fun e bx st h => ?_) h3)
  rw [ei]
  exact gact_to h

theorem getD_set_same {listed : Array Bool} {k : Nat} (h : k < listed.size) (d : Bool) : (listed.setIfInBounds k true).getD k d = true := by simp [h]
theorem getD_set_other {listed : Array Bool} {k j : Nat} (h : j ≠ k) (d : Bool) : (listed.setIfInBounds k true).getD j d = listed.getD j d := by
  rw [Array.getD_eq_getD_getElem?, Array.getElem?_setIfInBounds_ne (Ne.symm h), ← Array.getD_eq_getD_getElem?]
theorem closed_set (hc : Closed ops listed) {k : Nat} {x : Oper} (hx : ops[k]? = some x) (hk : k < listed.size) (ha : ∀ e ∈ x.after, Region.binds .any e = true → listed.getD e.on false = true) : Closed ops (listed.setIfInBounds k true) := by
  intro j o ho hj e he hb
  have key : listed.getD e.on false = true := by
    by_cases hjk : j = k
    · subst hjk; rw [hx] at ho; cases ho; exact ha e he hb
    · rw [getD_set_other hjk] at hj; exact hc j o ho hj e he hb
  by_cases hek : e.on = k
  · rw [hek]; exact getD_set_same hk false
  · rw [getD_set_other hek]; exact key

theorem vAny_first (hl : ops.toList = l) (hok : OkL C l) {k : Nat} {x : Oper} (hx : ops[k]? = some x) (hpr : ∀ (j : Nat) (y : Oper), k < j → ops[j]? = some y → reach (masks l []) j k = true ∨ indB C l x y = true) :
    ∀ (fuel : Nat) (listed : Array Bool) (e : Env) (bx : Bx) (st : St), Closed ops listed → listed.size = ops.size → k ∈ Region.ready .any ops listed → (∀ j, j < k → listed.getD j false = true) →
      vstep P C true ops k (vAny P C true ops K fuel (listed.setIfInBounds k true)) e bx st → vAny P C true ops K (fuel + 1) listed e bx st := by
  intro fuel
  induction fuel with
  | zero =>
    intro listed e bx st hc hsz hk hlow hv
    refine ⟨fun h => (by rw [h] at hk; cases hk), fun j hj => ?_⟩
    by_cases hjk : j = k
    · subst hjk; exact hv
    · have h0 : Region.ready .any ops (listed.setIfInBounds k true) = [] := vstepD_live hl hok (vstepD_mono hl hok (fun _ _ _ h => h.1) hv)
      have := ready_mono hj hjk
      rw [h0] at this
      cases this
  | succ fuel ih =>
    intro listed e bx st hc hsz hk hlow hv
    refine ⟨fun h => (by rw [h] at hk; cases hk), fun j hj => ?_⟩
    by_cases hjk : j = k
    · subst hjk; exact hv
    · obtain ⟨hkun, ok', hok', hka⟩ := mem_ready.1 hk
      rw [hx] at hok'
      cases hok'
      obtain ⟨hjun, y, hy, hja⟩ := mem_ready.1 hj
      have hlt : k < ops.size := (Array.getElem?_eq_some_iff.1 hx).1
      have hjlt : j < ops.size := (Array.getElem?_eq_some_iff.1 hy).1
      have hgd : ∀ m, m < ops.size → listed.getD m true = listed.getD m false := by
        intro m hm
        simp [Array.getD_eq_getD_getElem?, show m < listed.size by omega]
      have hkj : k < j := by
        rcases Nat.lt_or_ge j k with h | h
        · have := hlow j h
          rw [hgd j hjlt] at hjun
          rw [this] at hjun
          cases hjun
        · omega
      have hr2 : reach (masks l []) j k = false := by
        cases h : reach (masks l []) j k with
        | false => rfl
        | true =>
          have := reach_closed hl hc j k y hy hja h
          rw [hgd k hlt, this] at hkun
          cases hkun
      have hr1 : reach (masks l []) k j = false := by
        cases h : reach (masks l []) k j with
        | false => rfl
        | true =>
          have := reach_closed hl hc k j x hx hka h
          rw [hgd j hjlt, this] at hjun
          cases hjun
      have hI : indB C l x y = true := by
        rcases hpr j y hkj hy with h | h
        · rw [hr2] at h; cases h
        · exact h
      have hjr := ready_mono hj hjk
      have h1 := vstepD_swap hl hok hx hy (Ne.symm hjk) hr1 hr2 hI (vstepD_mono hl hok (fun e bx st h => h.2 j hjr) hv)
      refine vstepD_mono hl hok (fun e bx st h => ?_) h1
      refine ih (listed.setIfInBounds j true) e bx st (closed_set hc hy (by omega) hja) (by simpa using hsz) (ready_mono hk (Ne.symm hjk)) (fun m hm => ?_) ?_
      · rw [getD_set_other (by omega)]; exact hlow m hm
      · rw [Array.setIfInBounds_comm _ _ hjk]
        exact h
end
end Go.V

/- V29: code: what its friendly evaluation shows of the machine. -/
namespace Go.V
section
variable {P : Program} {C : Cf} {ops : Array Oper} {l : List Oper} {n : Nat} {K : Env → Bx → St → Prop}

theorem vAny_walk (hl : ops.toList = l) (hD : drawOk C l = true) : ∀ (m k : Nat) (listed : Array Bool) (e : Env) (bx : Bx) (st : St), k + m = ops.size → listed.size = ops.size → (∀ j, j < k → listed.getD j false = true) → (∀ j, k ≤ j → j < ops.size → listed.getD j true = false) → Closed ops listed →
    vSeq P C true ops K (List.range' k m) e bx st → vAny P C true ops K m listed e bx st
  | 0, k, listed, e, bx, st, hk, hsz, hlow, hhigh, hc, hv => by
    refine ⟨?_, hv⟩
    cases h : Region.ready .any ops listed with
    | nil => rfl
    | cons j r =>
      obtain ⟨hun, y, hy, _⟩ := mem_ready.1 (show j ∈ Region.ready .any ops listed by rw [h]; simp)
      have hlt := (Array.getElem?_eq_some_iff.1 hy).1
      have := hlow j (by omega)
      rw [Array.getD_eq_getD_getElem?, Array.getElem?_eq_getElem (by omega)] at this hun
      simp at this hun
      rw [this] at hun
      cases hun
  | m + 1, k, listed, e, bx, st, hk, hsz, hlow, hhigh, hc, hv => by
    unfold drawOk at hD
    simp only [Bool.and_eq_true] at hD
    obtain ⟨⟨⟨h1, h2⟩, h3⟩, h4⟩ := hD
    have hok : OkL C l := ⟨fun o ho => List.all_eq_true.1 h1 o ho, ⟨fun i o x ho hx hr => by have := alB_spec l 0 h4 i o x ho hx hr; rwa [Nat.zero_add] at this, fun i o ho hx => by have := alB_s l 0 h4 i o ho hx; rwa [Nat.zero_add] at this⟩⟩
    have hklt : k < ops.size := by omega
    have hx : ops[k]? = some ops[k] := Array.getElem?_eq_getElem hklt
    have hx' : l[k]? = some ops[k] := by rw [← toList_get hl]; exact hx
    have hed := edgesB_spec l 0 h2 k ops[k] hx'
    have hka : ∀ e ∈ (ops[k]).after, Region.binds .any e = true → listed.getD e.on false = true := fun e he hb => hlow _ (by have := hed e he hb; omega)
    refine vAny_first hl hok hx ?_ m listed e bx st hc hsz (mem_ready.2 ⟨hhigh k (Nat.le_refl _) hklt, _, hx, hka⟩) hlow ?_
    · intro j y hkj hy
      have := pairsB_spec l 0 h3 k j ops[k] y hx' (by rw [← toList_get hl]; exact hy) hkj
      rwa [Nat.zero_add, Nat.zero_add] at this
    · refine vstepD_mono hl hok (fun e bx st h => ?_) (show vstep P C true ops k (vSeq P C true ops K (List.range' (k + 1) m)) e bx st from hv)
      refine vAny_walk hl (by unfold drawOk; simp only [Bool.and_eq_true]; exact ⟨⟨⟨h1, h2⟩, h3⟩, h4⟩) m (k + 1) _ e bx st (by omega) (by simpa using hsz) ?_ ?_ (closed_set hc hx (by omega) hka) h
      · intro j hj
        by_cases hjk : j = k
        · subst hjk; exact getD_set_same (by omega) false
        · rw [getD_set_other hjk]; exact hlow j (by omega)
      · intro j hj hjn
        rw [getD_set_other (by omega)]; exact hhigh j (by omega) hjn

theorem clean_or : ∀ (l : List Oper) (e : Env) (t : Nat), clean l e t = .undef ∨ (clean l e t = e t ∧ ∀ o ∈ l, o.guard ≠ none → o.dst ≠ some t)
  | [], e, t => .inr ⟨rfl, fun _ h => by cases h⟩
  | o :: r, e, t => by
    unfold clean
    cases hg : o.guard with
    | none =>
      rcases clean_or r e t with h | ⟨h1, h2⟩
      · exact .inl h
      · refine .inr ⟨h1, fun o' ho hg' => ?_⟩
        rcases List.mem_cons.1 ho with rfl | ho
        · exact absurd hg hg'
        · exact h2 o' ho hg'
    | some g =>
      dsimp only
      rcases clean_or r (updO e o.dst .undef) t with h | ⟨h1, h2⟩
      · exact .inl h
      · by_cases hd : o.dst = some t
        · left
          rw [h1, hd]
          exact upd_same _ _ _
        · right
          refine ⟨?_, fun o' ho hg' => ?_⟩
          · rw [h1]
            cases hdd : o.dst with
            | none => rfl
            | some d => exact upd_other _ _ (by rintro rfl; exact hd hdd)
          · rcases List.mem_cons.1 ho with rfl | ho
            · exact hd
            · exact h2 o' ho hg'
theorem rel_clean {B : Base} {g : G} {e : Env} {bx : Bx} {st : St} {a : Act} {w : World} (hr : Rel n B g (ov (skp l l.length e) e) bx st a w) : Rel n B g (clean l e) bx st a w := by
  refine hr.weaken (fun t => ?_) (fun b => .inr rfl) (fun _ _ _ _ => rfl)
  rcases clean_or l e t with h | ⟨h1, h2⟩
  · exact .inl h
  · right
    rw [h1]
    refine (ov_none ?_).symm
    cases hs : skp l l.length e t with
    | none => rfl
    | some v =>
      unfold skp at hs
      split at hs
      · next o ho =>
        have hm := List.mem_of_mem_take (List.mem_of_find?_eq_some ho)
        have hd := isDst_iff.1 (List.find?_some ho)
        by_cases hg : o.guard = none
        · rw [hg, act_none] at hs; cases hs
        · exact absurd hd (h2 o hm hg)
      · cases hs

theorem skp_zero (e : Env) : ov (skp l 0 e) e = e := by
  funext t
  exact ov_none (skp_none fun i o hi => by omega)
/-- A region. -/
theorem region_sound (hC : Ok P C) {id : Nat} {dr : Bool} (hR : regOk n ops.toList = true) (hD : dr = true → drawOk C ops.toList = true) {Q : Ex → Env → Bx → St → Prop} {B : Base} {g : G} {e : Env} {bx : Bx} {st : St} {a : Act} {w : World}
    (hr : Rel n B g e bx st a w) (hv : vops P C dr ops.toList ops.toList e bx st fun e bx st => Q .normal (clean ops.toList e) bx st) : (Code.region id ops dr).wp P (Lift n B Q) a w := by
  have hreg := reg_of hR
  have h1 := lazy_exact hC.x hreg (ops := ops) rfl ops.toList 0 e bx st rfl hv
  rw [skp_zero] at h1
  have hd : ∀ (i : Nat) (o : Oper) (d : Nat), ops[i]? = some o → o.dst = some d → d < n := fun i o d ho hd => hreg.dsts o (Array.mem_toList_iff.2 (Array.mem_of_getElem? ho)) d hd
  have hQ : ∀ g e bx st a w, (∃ e', e = ov (skp ops.toList ops.toList.length e') e' ∧ Q .normal (clean ops.toList e') bx st) → Rel n B g e bx st a w → Lift n B Q .normal a w := by
    rintro g e bx st a w ⟨e', rfl, hq⟩ hr
    exact ⟨g, _, bx, st, hq, rel_clean hr⟩
  cases dr with
  | false =>
    refine wp_region ?_
    rw [List.range_eq_range']
    exact vSeq_sound hC hd hQ _ hr h1
  | true =>
    refine wp_region_any hC.mixed ?_
    refine vAny_sound (dr := true) hC hd hQ _ _ hr.drew ?_
    refine vAny_walk rfl (hD rfl) ops.size 0 _ e bx st (by omega) (by simp) (fun j hj => by omega) (fun j _ hj => by simp [hj]) ?_ h1
    intro j o ho hj
    simp [Array.getD_eq_getD_getElem?] at hj
    by_cases hlt : j < ops.size
    · simp [hlt] at hj
    · simp [hlt] at hj
end
end Go.V

/- V30: code, second part: sequences, branches, blocks, loops. -/
namespace Go.V
/-- What the text of a code must be like. -/
def codeOk (n : Nat) (C : Cf) : Code → Bool
  | .region _ ops dr => regOk n ops.toList && (match dr with | true => drawOk C ops.toList | false => true)
  | .seq a b => codeOk n C a && codeOk n C b
  | .cond _ a b => codeOk n C a && codeOk n C b
  | .block _ a => codeOk n C a
  | _ => true
section
variable {P : Program} {C : Cf} {n : Nat} {o : Oper}

theorem veff_live {e : Env} {bx : Bx} {st : St} {p : Prop} (hv : veff P C o e bx st (fun _ _ _ => p)) : p := by
  have hm : ∀ x, vmove C o.type x o.dst e bx st (fun _ _ _ => p) → p := by
    intro x hv
    unfold vmove at hv
    repeat' split at hv
    all_goals first
      | exact hv
      | exact hv.elim
      | exact hv.next
      | exact hv.next.elim
  unfold veff at hv
  cases hop : o.op <;> rw [hop] at hv <;> dsimp only at hv <;> try (exact hv.elim; done)
  case move x => exact hm x hv
  case assign x => exact hm x hv
  case binOp op t x y ty =>
    cases op <;> dsimp only at hv <;> try (exact hv.elim; done)
    split at hv
    · exact hv.snd
    · exact hv.elim
  case call c =>
    repeat' split at hv
    all_goals first
      | exact hv.elim
      | exact hv.next
      | (obtain ⟨_, _, h⟩ := hv.live; exact h)
  case makeSlice t x y =>
    repeat' split at hv
    all_goals first
      | exact hv.elim
      | exact hv.next
  case store t x y =>
    repeat' split at hv
    all_goals first
      | exact hv
      | exact hv.elim
  case alloc t =>
    repeat' split at hv
    all_goals first
      | exact hv
      | exact hv.elim
  case box t x =>
    repeat' split at hv
    all_goals first
      | exact hv
      | exact hv.elim
  case load t x =>
    repeat' split at hv
    all_goals first
      | exact hv
      | exact hv.elim
theorem vops_live {dr : Bool} {l : List Oper} {K : Env → Bx → St → Prop} : ∀ (r : List Oper) {e : Env} {bx : Bx} {st : St}, vops P C dr l r e bx st K → ∃ e bx st, K e bx st
  | [], e, bx, st, hv => ⟨e, bx, st, hv⟩
  | o :: r, e, bx, st, hv => by
    unfold vops at hv
    split at hv
    · exact hv.elim
    · split at hv
      · exact vops_live r (ask_elim hv).1
      · split at hv
        · exact veff_live (veff_mono hv fun e bx st h => vops_live r h)
        · split at hv
          · exact veff_live (veff_mono hv fun e bx st h => vops_live r h)
          · exact vops_live r hv
theorem vwp_live : ∀ (c : Code) {Q : Ex → Env → Bx → St → Prop} {e : Env} {bx : Bx} {st : St}, vwp P n C c Q e bx st → ∃ x e bx st, Q x e bx st := by
  intro c
  induction c with
  | skip => intro Q e bx st h; exact ⟨_, _, _, _, h⟩
  | region id ops dr => intro Q e bx st h; obtain ⟨e, bx, st, h⟩ := vops_live _ h; exact ⟨_, _, _, _, h⟩
  | seq a b iha ihb =>
    intro Q e bx st h
    obtain ⟨x, e, bx, st, h⟩ := iha h
    cases x with
    | normal => exact ihb h
    | exit id => exact ⟨_, _, _, _, h⟩
    | ret => exact ⟨_, _, _, _, h⟩
  | cond c a b iha ihb =>
    intro Q e bx st h
    unfold vwp at h
    split at h
    · split at h
      · exact iha h
      · exact ihb h
    · exact h.elim
  | block id a ih =>
    intro Q e bx st h
    obtain ⟨x, e, bx, st, h⟩ := ih h
    cases x with
    | normal => exact ⟨_, _, _, _, h⟩
    | exit i =>
      dsimp only at h
      split at h <;> exact ⟨_, _, _, _, h⟩
    | ret => exact ⟨_, _, _, _, h⟩
  | loop a ih => intro Q e bx st h; exact Wp.live h
  | exit id => intro Q e bx st h; exact ⟨_, _, _, _, h⟩
  | ret => intro Q e bx st h; exact ⟨_, _, _, _, h⟩
  | rangeFunc f ps a b => intro Q e bx st h; exact h.elim
  | scope a => intro Q e bx st h; exact h.elim
  | label l => intro Q e bx st h; exact h.elim
  | goto l => intro Q e bx st h; exact h.elim
  | refuse why => intro Q e bx st h; exact h.elim

theorem vwp_out (hC : Ok P C) : ∀ (c : Code), codeOk n C c = true → ∀ {Q : Ex → Env → Bx → St → Prop} {e : Env} {bx : Bx} {st : St}, vwp P n C c Q e bx st →
    ∀ (B : Base) (g : G) (a : Act) (w : World), Rel n B g e bx st a w → c.wp P (Lift n B Q) a w := by
  intro c
  induction c with
  | skip => intro _ Q e bx st h B g a w hr; exact wp_skip ⟨g, e, bx, st, h, hr⟩
  | region id ops dr =>
    intro hk Q e bx st h B g a w hr
    unfold codeOk at hk
    rw [Bool.and_eq_true] at hk
    refine region_sound hC hk.1 (fun hd => ?_) hr h
    subst hd
    exact hk.2
  | seq x y ihx ihy =>
    intro hk Q e bx st h B g a w hr
    unfold codeOk at hk
    rw [Bool.and_eq_true] at hk
    refine wp_seq (wp_mono (ihx hk.1 h B g a w hr) ?_)
    intro ex a w hx
    cases ex with
    | normal => obtain ⟨g, e, bx, st, hq, hr⟩ := hx; exact ihy hk.2 hq B g a w hr
    | exit id => exact hx
    | ret => exact hx
    | goto l => exact hx.elim
    | panic c => exact hx.elim
    | outgrown => exact hx.elim
  | cond c x y ihx ihy =>
    intro hk Q e bx st h B g a w hr
    unfold codeOk at hk
    rw [Bool.and_eq_true] at hk
    unfold vwp at h
    split at h
    · next b hc =>
      have hrep := rd_rep hr C 0 c
      rw [hc] at hrep
      refine wp_cond (t := b) (rep_bool hrep) ?_
      cases b with
      | true => exact ihx hk.1 h B g a w hr
      | false => exact ihy hk.2 h B g a w hr
    · exact h.elim
  | block id x ih =>
    intro hk Q e bx st h B g a w hr
    refine wp_block (wp_mono (ih hk h B g a w hr) ?_)
    intro ex a w hx
    cases ex with
    | normal => exact hx
    | exit i =>
      obtain ⟨g, e, bx, st, hq, hr⟩ := hx
      dsimp only at hq
      show (if i = id then _ else _)
      split at hq
      · next hb => rw [if_pos (Nat.eq_of_beq_eq_true hb)]; exact ⟨g, e, bx, st, hq, hr⟩
      · next hb =>
        rw [if_neg (by rintro rfl; rw [Nat.beq_refl] at hb; cases hb)]
        exact ⟨g, e, bx, st, hq, hr⟩
    | ret => exact hx
    | goto l => exact hx.elim
    | panic c => exact hx.elim
    | outgrown => exact hx.elim
  | loop x ih => intro _ Q e bx st h B g a w hr; exact Wp.out h B g a w hr
  | exit id => intro _ Q e bx st h B g a w hr; exact wp_exit ⟨g, e, bx, st, h, hr⟩
  | ret => intro _ Q e bx st h B g a w hr; exact wp_ret ⟨g, e, bx, st, h, hr⟩
  | rangeFunc f ps a b => intro _ Q e bx st h; exact h.elim
  | scope a => intro _ Q e bx st h; exact h.elim
  | label l => intro _ Q e bx st h; exact h.elim
  | goto l => intro _ Q e bx st h; exact h.elim
  | refuse why => intro _ Q e bx st h; exact h.elim
/-- CODE. -/
theorem wp_of_vwp (hC : Ok P C) {c : Code} (hk : codeOk n C c = true) {Q : Ex → Env → Bx → St → Prop} {e : Env} {bx : Bx} {st : St} (h : vwp P n C c Q e bx st) : Wp P n c Q e bx st :=
  ⟨vwp_live c h, vwp_out hC c hk h⟩

theorem least {p : Nat → Prop} (h : ∃ m, p m) : ∃ m, p m ∧ ∀ k, p k → m ≤ k := by
  obtain ⟨m, hm⟩ := h
  induction m using Nat.strongRecOn with
  | _ m ih =>
    by_cases h : ∃ k, k < m ∧ p k
    · obtain ⟨k, hk, hp⟩ := h; exact ih k hk hp
    · exact ⟨m, hm, fun k hp => by
        rcases Nat.lt_or_ge k m with hlt | hge
        · exact absurd ⟨k, hlt, hp⟩ h
        · exact hge⟩
/-- What is less told than e. -/
structure Less (e' e : Env) (bx' bx : Bx) : Prop where
  e : ∀ t, e' t = .undef ∨ e' t = e t
  b : ∀ b, bx' b = none ∨ bx' b = bx b
  l : ∀ t b o, e' t = .lp b o → bx' b = bx b
theorem Wp.weaken {c : Code} {Q : Ex → Env → Bx → St → Prop} {e e' : Env} {bx bx' : Bx} {st : St} (h : Wp P n c Q e' bx' st) (hl : Less e' e bx' bx) : Wp P n c Q e bx st :=
  ⟨h.live, fun B g a w hr => h.out B g a w (hr.weaken hl.e hl.b hl.l)⟩
/-- LOOPS: an invariant with a measure, up to what is forgotten. -/
theorem wp_loop_inv {c : Code} {Q : Ex → Env → Bx → St → Prop} (I : Nat → Env → Bx → St → Prop)
    (round : ∀ m e bx st, I m e bx st → Wp P n c (fun x e bx st => match x with | .normal => ∃ m' e' bx', m' < m ∧ Less e' e bx' bx ∧ I m' e' bx' st | x => Q x e bx st) e bx st) :
    ∀ m e bx st, I m e bx st → Wp P n (.loop c) Q e bx st := by
  intro m e bx st hI
  refine ⟨?_, fun B g a w hr => ?_⟩
  · induction m using Nat.strongRecOn generalizing e bx st with
    | _ m ih =>
      obtain ⟨x, e1, bx1, st1, h⟩ := (round m e bx st hI).live
      cases x with
      | normal => obtain ⟨m', e', bx', hm, _, hI'⟩ := h; exact ih m' hm e' bx' st1 hI'
      | exit id => exact ⟨_, _, _, _, h⟩
      | ret => exact ⟨_, _, _, _, h⟩
  · have hp : ∀ a w, (∃ m, ∃ g e bx st, I m e bx st ∧ Rel n B g e bx st a w) → ∃ m, (∃ g e bx st, I m e bx st ∧ Rel n B g e bx st a w) ∧ ∀ k, (∃ g e bx st, I k e bx st ∧ Rel n B g e bx st a w) → m ≤ k := fun a w h => least h
    have hμ : ∃ μ : Act → World → Nat, ∀ a w, (∃ m, ∃ g e bx st, I m e bx st ∧ Rel n B g e bx st a w) → (∃ g e bx st, I (μ a w) e bx st ∧ Rel n B g e bx st a w) ∧ ∀ k, (∃ g e bx st, I k e bx st ∧ Rel n B g e bx st a w) → μ a w ≤ k := by
      refine ⟨fun a w => open Classical in if h : (∃ m, ∃ g e bx st, I m e bx st ∧ Rel n B g e bx st a w) then (hp a w h).choose else 0, fun a w h => ?_⟩
      simp only [dif_pos h]
      exact (hp a w h).choose_spec
    obtain ⟨μ, hμ⟩ := hμ
    refine wp_loop (fun a w => ∃ m, ∃ g e bx st, I m e bx st ∧ Rel n B g e bx st a w) μ ⟨m, g, e, bx, st, hI, hr⟩ ?_
    intro a w hx
    obtain ⟨⟨g, e, bx, st, hI, hr⟩, hmin⟩ := hμ a w hx
    refine wp_mono ((round _ e bx st hI).out B g a w hr) ?_
    intro ex a' w' hx'
    cases ex with
    | normal =>
      obtain ⟨g', e', bx', st', ⟨m', e2, bx2, hm, hl, hI'⟩, hr'⟩ := hx'
      have hr2 := hr'.weaken hl.e hl.b hl.l
      refine ⟨⟨m', g', e2, bx2, st', hI', hr2⟩, ?_⟩
      have := (hμ a' w' ⟨m', g', e2, bx2, st', hI', hr2⟩).2 m' ⟨g', e2, bx2, st', hI', hr2⟩
      omega
    | exit id => exact hx'
    | ret => exact hx'
    | goto l => exact hx'.elim
    | panic c => exact hx'.elim
    | outgrown => exact hx'.elim
end
end Go.V

/- V31: a function's contract from its body's friendly evaluation. -/
namespace Go.V
section
variable {P : Program} {C : Cf} {n : Nat} {B : Base} {g : G} {e : Env} {bx : Bx} {st : St} {a : Act} {w : World}

def resRun (tmps : Array Value) : ResultVar → Sem Value
  | .tmp t => pure (tmps.getD t undef)
  | .cell b t => do loadVar t (← asAddr (tmps.getD b undef))
theorem utr_tip {v : AV} {sz : Nat} {es : List AV} (h : utr v = .sl true sz es) : v = .sl true sz es := by cases v <;> first | exact h | cases h
theorem vresOne_ok (hT : TIok P C.ti) (hr : Rel n B g e bx st a w) (r : ResultVar) (hok : (vresOne C e bx r).1.holds) :
    ∃ cv, (resRun a.tmps r).run P w = .ok cv w ∧ Rep g.I g.σ (vresOne C e bx r).2 cv ∧ ∀ sz es, (vresOne C e bx r).2 = .sl true sz es → ∃ t, TipAt g w (.tt t) sz es cv := by
  cases r with
  | tmp t =>
    refine ⟨a.tmps.getD t undef, rfl, ((hr.tmps t).rep (chkB_holds hok)).utr, fun sz es h => ⟨t, hr.tips t sz es (utr_tip h)⟩⟩
  | cell b t =>
    unfold vresOne at hok ⊢
    dsimp only at hok ⊢
    cases hi : C.ti t with
    | none => rw [hi] at hok; exact absurd hok id
    | some i =>
      rw [hi] at hok
      cases hv : e b <;> rw [hv] at hok <;> dsimp only at hok ⊢ <;> try (exact absurd hok id)
      case lp b' off =>
        cases hb : bx b' with
        | none => rw [hb] at hok; exact absurd hok id
        | some cs =>
          rw [hb] at hok
          have hle := Nat.le_of_ble_eq_true (chkB_holds hok)
          obtain ⟨_, vs, ty, hw, hreps, _⟩ := hr.boxes b' cs hb
          obtain ⟨cv, h1, h2⟩ := run_loadVar_of hT hi hreps (LiesAt.of_block hw) hle
          have hp := hr.tmps b
          rw [hv] at hp
          refine ⟨cv, ?_, h2, fun sz es h => ?_⟩
          · rw [Nat.zero_add] at h1
            simp [resRun, hp.2, asAddr, h1]
          · dsimp only at h
            unfold qload at h
            dsimp only at h
            cases hagg : i.agg <;> rw [hagg] at h
            · exact absurd h ut_not_tip
            · cases h
theorem vresAll_ok (hT : TIok P C.ti) (hr : Rel n B g e bx st a w) : ∀ (rs : List ResultVar), (vresAll C e bx rs).1.holds →
    ∃ cvs, (rs.mapM (resRun a.tmps)).run P w = .ok cvs w ∧ Reps g.I g.σ (vresAll C e bx rs).2 cvs ∧ ∀ v, (vresAll C e bx rs).2 = [v] → ∀ sz es, v = .sl true sz es → ∃ t, ∀ cv, cvs = [cv] → TipAt g w (.tt t) sz es cv
  | [], _ => ⟨[], rfl, .nil, fun v h => by cases h⟩
  | r :: rs, hok => by
    obtain ⟨h1, h2⟩ := Chk.and_holds (show (Chk.and (vresOne C e bx r).1 (vresAll C e bx rs).1).holds from hok)
    obtain ⟨cv, q1, q2, q3⟩ := vresOne_ok hT hr r h1
    obtain ⟨cvs, p1, p2, _⟩ := vresAll_ok hT hr rs h2
    refine ⟨cv :: cvs, by rw [List.mapM_cons]; simp [q1, p1], .cons q2 p2, fun v h sz es hv => ?_⟩
    have hv' : (vresOne C e bx r).2 = v := by
      have : (vresOne C e bx r).2 :: (vresAll C e bx rs).2 = [v] := h
      exact (List.cons.inj this).1
    obtain ⟨t, ht⟩ := q3 sz es (hv'.trans hv)
    exact ⟨t, fun cv' h => by cases h; exact ht⟩
/-- What a frame leaves behind. -/
def retOwn (g : G) (t : Option Nat) : G := { g with own := fun b => match g.own b with
  | some l => (match l.isLocal with
    | false => some l
    | true => if some l = t.map Loc.tt then some .ret else none)
  | none => none }
theorem retOwn_some {t : Option Nat} {b : Nat} {l : Loc} (h : (retOwn g t).own b = some l) : (g.own b = some l ∧ l.isLocal = false) ∨ (l = .ret ∧ ∃ l', g.own b = some l') := by
  simp only [retOwn] at h
  split at h
  · next l' hl' =>
    split at h
    · next hloc => cases h; exact .inl ⟨hl', hloc⟩
    · split at h
      · cases h; exact .inr ⟨rfl, l', hl'⟩
      · cases h
  · cases h
theorem retOwn_of {t : Option Nat} {b : Nat} {l : Loc} (h : g.own b = some l) (hl : l.isLocal = false) : (retOwn g t).own b = some l := by simp [retOwn, h, hl]
theorem retOwn_glob (h : Glob B g st w) (t : Option Nat) : Glob B (retOwn g t) st w where
  hI := h.hI
  hσ := h.hσ
  fr b hb := by
    obtain ⟨h1, h2, h3⟩ := h.fr b hb
    exact ⟨h1, h2, by simp [retOwn, h3]⟩
  size := h.size
  os := h.os
  tape := h.tape
  output := h.output
  imm := h.imm
  immOwn b o l hv hl := by
    rcases retOwn_some hl with ⟨h1, _⟩ | ⟨rfl, _⟩
    · exact h.immOwn b o l hv h1
    · rfl
  ownlt b l hl := by
    rcases retOwn_some hl with ⟨h1, _⟩ | ⟨_, l', h1⟩ <;> exact h.ownlt b _ h1
  newI := h.newI
  objs id cs hc := by
    obtain ⟨blk, h1, h2, us, ty, h3, h4, h5⟩ := h.objs id cs hc
    refine ⟨blk, h1, retOwn_of h2 rfl, us, ty, h3, h4, fun j sz es cv hj hcv => ?_⟩
    rcases h5 j sz es cv hj hcv with h | ⟨b, o', cap, rfl, h⟩
    · exact .inl h
    refine .inr ⟨b, o', cap, rfl, ?_⟩
    rcases h with h | ⟨k1, k2, k4⟩
    · exact .inl h
    exact .inr ⟨retOwn_of k1 rfl, k2, k4⟩
  len := h.len
theorem retOwn_tip {t : Nat} {sz : Nat} {es : List AV} {cv : Value} (h : TipAt g w (.tt t) sz es cv) : TipAt (retOwn g (some t)) w .ret sz es cv := by
  rcases h with h | ⟨b, o', cap, rfl, h⟩
  · exact .inl h
  refine .inr ⟨b, o', cap, rfl, ?_⟩
  rcases h with h | ⟨k1, k2, k4⟩
  · exact .inl h
  exact .inr ⟨by simp [retOwn, k1, Loc.isLocal], k2, k4⟩

/-- A call's result. -/
theorem vres_ok (hT : TIok P C.ti) (hr : Rel n B g e bx st a w) (fn : Func) (hok : (vres C fn.results.toList e bx).1.holds) :
    ∃ cv g', (results fn a.tmps).run P w = .ok cv w ∧ Glob B g' st w ∧ (∀ b l, g'.own b = some l → l.isLocal = true → l = .ret) ∧ Rep g'.I g'.σ (vres C fn.results.toList e bx).2 cv ∧
      ∀ sz es, (vres C fn.results.toList e bx).2 = .sl true sz es → TipAt g' w .ret sz es cv := by
  have hloc : ∀ t b l, (retOwn g t).own b = some l → l.isLocal = true → l = .ret := by
    intro t b l h hl
    rcases retOwn_some h with ⟨_, h2⟩ | ⟨h, _⟩
    · rw [h2] at hl; cases hl
    · exact h
  have hrun : ∀ cvs, (fn.results.toList.mapM (resRun a.tmps)).run P w = .ok cvs w → (results fn a.tmps).run P w = .ok (if h : cvs.length = 1 then cvs[0] else .tuple ⟨cvs⟩) w := by
    intro cvs h
    have h' : (fn.results.mapM (resRun a.tmps)).run P w = .ok ⟨cvs⟩ w := by
      rw [Array.mapM_eq_mapM_toList]
      simp [h]
    have e0 : results fn a.tmps = (do let vs ← fn.results.mapM (resRun a.tmps); pure (if h : vs.size = 1 then vs[0] else .tuple vs)) := rfl
    rw [e0, Sem.run_bind, h']
    rfl
  unfold vres at hok ⊢
  have hall : (vresAll C e bx fn.results.toList).1.holds := by
    split at hok
    · next h => rw [h]; exact hok
    · next h => rw [h]; exact hok
  obtain ⟨cvs, q1, q2, q3⟩ := vresAll_ok hT hr fn.results.toList hall
  have hlen := q2.length
  split
  · next c v hv =>
    rw [hv] at q2 q3 hlen
    dsimp only at q2 q3 hlen ⊢
    obtain ⟨cv, rfl⟩ : ∃ cv, cvs = [cv] := by
      cases cvs with
      | nil => cases hlen
      | cons x xs => cases xs with
        | nil => exact ⟨x, rfl⟩
        | cons y ys => simp at hlen
    have hrep : Rep g.I g.σ v cv := by cases q2 with | cons h _ => exact h
    have hr1 := hrun _ q1
    by_cases htip : ∃ sz es, v = .sl true sz es
    · obtain ⟨sz, es, rfl⟩ := htip
      obtain ⟨t, ht⟩ := q3 _ rfl sz es rfl
      refine ⟨cv, retOwn g (some t), by simpa using hr1, retOwn_glob hr.glob _, hloc _, hrep, fun sz' es' h => ?_⟩
      cases h
      exact retOwn_tip (ht cv rfl)
    · exact ⟨cv, retOwn g none, by simpa using hr1, retOwn_glob hr.glob _, hloc _, hrep, fun sz es h => absurd ⟨sz, es, h⟩ htip⟩
  · next c vs hne hv =>
    rw [hv] at q2 hlen
    dsimp only at q2 hlen ⊢
    have hr1 := hrun _ q1
    rw [dif_neg (by
      rw [← hlen]
      intro h1
      cases vs with
      | nil => cases h1
      | cons x xs => cases xs with
        | nil => exact hne x rfl
        | cons y ys => simp at h1)] at hr1
    exact ⟨_, retOwn g none, hr1, retOwn_glob hr.glob _, hloc _, .tup q2.uts, fun sz es h => by cases h⟩
end
end Go.V

/- V32: a function's contract. -/
namespace Go.V
section
variable {P : Program} {C : Cf}

theorem start_rel {n : Nat} {Fr : Nat → Prop} {g : G} {st : St} {w : World} {args : List AV} {cargs : List Value} (hg : Glob ⟨g.I, g.σ, Fr, w⟩ g st w) (ha : Reps g.I g.σ args cargs) (hn : args.length ≤ n) :
    Rel n ⟨g.I, g.σ, Fr, w⟩ g (argEnv args) (fun _ => none) st { tmps := (⟨cargs⟩ : Array Value) ++ Array.replicate (n - (⟨cargs⟩ : Array Value).size) undef, defers := [] } w where
  glob := hg
  nt := by
    have := ha.length
    simp; omega
  defers := rfl
  tmps t := by
    have hl := ha.length
    unfold argEnv
    by_cases ht : t < cargs.length
    · have h1 : args[t]? = some (args.getD t .undef) := by simp [List.getD, List.getElem?_eq_getElem (show t < args.length by omega)]
      have h2 : cargs[t]? = some cargs[t] := List.getElem?_eq_getElem ht
      have h3 : ((⟨cargs⟩ : Array Value) ++ Array.replicate (n - (⟨cargs⟩ : Array Value).size) undef).getD t undef = cargs[t] := by
        rw [Array.getD_eq_getD_getElem?, Array.getElem?_append_left (by simpa using ht)]
        simp [ht]
      rw [h3]
      exact RepT.of (ha.get h1 h2).ut
    · have h1 : args.getD t .undef = .undef := by simp [List.getD, List.getElem?_eq_none (show args.length ≤ t by omega)]
      rw [h1]
      exact Rep.undef
  tips t sz es h := absurd h ut_not_tip
  boxes b cs h := by cases h

/-- A FUNCTION: what its body's friendly evaluation shows. -/
theorem VCalls.of_vfun (hC : Ok P C) {f : Nat} {fn : Func} {c : Code} {args : List AV} {st : St} {R : AV → St → Prop} (hf : P.funcs[f]? = some fn) (hb : fn.body = some c) (hname : (fn.name == "runtime.NumGoroutine") = false)
    (hn : args.length ≤ fn.ntmps) (hk : codeOk fn.ntmps C c = true) (hv : vfun P C fn args st R) : VCalls P f args st R := by
  unfold vfun at hv
  rw [hb] at hv
  dsimp only at hv
  have hw := wp_of_vwp hC hk hv
  refine ⟨?_, ⟨fn, hf, by rw [hb]; rfl, hname⟩, ?_⟩
  · obtain ⟨x, e, bx, st, h⟩ := hw.live
    cases x with
    | exit id => exact h.elim
    | normal => exact ⟨_, _, (ask_elim h).1⟩
    | ret => exact ⟨_, _, (ask_elim h).1⟩
  · intro Fr g w cargs hg hloc ha
    refine calls_of_wp hf hb (wp_mono (hw.out _ g _ w (start_rel hg ha hn)) ?_)
    intro x a w' hx
    have fin : ∀ {g' : G} {e : Env} {bx : Bx} {st' : St}, (ask (vres C fn.results.toList e bx).1 true (R (vres C fn.results.toList e bx).2 st')) → Rel fn.ntmps ⟨g.I, g.σ, Fr, w⟩ g' e bx st' a w' →
        a.defers = [] ∧ ∃ v, (results fn a.tmps).run P w' = .ok v w' ∧ ∃ cv g' r st', Ending.returned v = .returned cv ∧ R r st' ∧ Glob ⟨g.I, g.σ, Fr, w⟩ g' st' w' ∧ (∀ b l, g'.own b = some l → l.isLocal = true → l = .ret) ∧ Rep g'.I g'.σ r cv ∧ ∀ sz es, r = .sl true sz es → TipAt g' w' .ret sz es cv := by
      intro g' e bx st' h hr
      obtain ⟨hR, hok⟩ := ask_elim h
      obtain ⟨cv, g2, h1, h2, h3, h4, h5⟩ := vres_ok hC.ti hr fn (hok rfl)
      exact ⟨hr.defers, cv, h1, cv, g2, _, st', rfl, hR, h2, h3, h4, h5⟩
    cases x with
    | normal => obtain ⟨g', e, bx, st', h, hr⟩ := hx; exact fin h hr
    | ret => obtain ⟨g', e, bx, st', h, hr⟩ := hx; exact fin h hr
    | exit id => obtain ⟨g', e, bx, st', h, hr⟩ := hx; exact h.elim
    | goto l => exact hx.elim
    | panic c => exact hx.elim
    | outgrown => exact hx.elim
end
end Go.V
