/- E3: a law's arguments, as they are read, are values of the friendly evaluation; with the reach: how many bytes each slice and text takes. No program in sight. -/
import Derived.Test.YtgogpeamdfmaiaaGreatVC
import Derived.SizedLaws
import Derived.ChangeStays
import Derived.ReadAgain
import Derived.ChangeBears
import Derived.Deep.Slices
import Derived.OpenShut
import Derived.RowKit
import Derived.ChangeSame
import Derived.ProofKit
set_option linter.unusedVariables false
set_option linter.unusedSimpArgs false
namespace Go.V
open Go.ChangeShapes Go.WideShapes Go.Deep
/-- The memory as it is, as immutable memory. -/
def memI (w : World) : Mem := fun b o => w.cell? ⟨b, o, none⟩
def All2 {α β : Type} (R : α → β → Prop) : List α → List β → Prop
  | [], [] => True
  | a :: r, b :: s => R a b ∧ All2 R r s
  | _, _ => False
/-- An element of a slice out of its cells. -/
def mkEl (sz : Nat) (cs : List AV) : AV := match sz, cs with
  | 1, [c] => c
  | _, cs => .agg cs
/-- Types that hold plain data. -/
def okTy (P : Program) : Nat → TypeId → Bool
  | 0, _ => false
  | n + 1, t => match P.underlying t with
    | some .bool => true
    | some (.int _) => true
    | some .string => true
    | some (.slice e) => okTy P n e
    | some (.struct fs) => fs.toList.all fun f => okTy P n f.type
    | some (.array _ e) => okTy P n e
    | _ => false
/-- Cells of a type. -/
def Tyf (P : Program) : Nat → TypeId → List AV → Prop
  | 0, _, _ => False
  | n + 1, t, avs => match P.underlying t with
    | some .bool => ∃ b, avs = [.bool b]
    | some (.int k) => ∃ m, avs = [.int k m] ∧ k.min ≤ m ∧ m ≤ k.max
    | some .string => ∃ s, avs = [.str s] ∧ s.length ≤ reachBytes
    | some (.slice e) => ∃ es, avs = [.sl false (P.cellsOf e) es] ∧ (es.length ≤ maxLen ∧ es.length * P.bytesOf e ≤ reachBytes) ∧ ∀ v ∈ es, ∃ cs, v = mkEl (P.cellsOf e) cs ∧ Tyf P n e cs
    | some (.struct fs) => ∃ parts : List (List AV), avs = parts.flatten ∧ All2 (fun (f : Field) p => Tyf P n f.type p) fs.toList parts
    | some (.array m e) => ∃ parts : List (List AV), avs = parts.flatten ∧ parts.length = m ∧ ∀ p ∈ parts, Tyf P n e p
    | _ => False
theorem scalAll_append : ∀ {a b : List AV}, scalAll a = true → scalAll b = true → scalAll (a ++ b) = true
  | [], _, _, h => h
  | v :: r, b, h, k => by
    unfold scalAll at h
    split at h
    · next hv => show scalAll (v :: (r ++ b)) = true; unfold scalAll; rw [hv]; exact scalAll_append h k
    · cases h
theorem mkEl_cells {sz : Nat} {cs : List AV} (hl : cs.length = sz) (hs : scalAll cs = true) : (mkEl sz cs).cells = cs := by
  unfold mkEl
  split
  · next c => 
    unfold scalAll at hs
    split at hs
    · next hc => cases c <;> first | rfl | (cases hc; done)
    · cases hs
  · rfl
theorem row_of_index {I : Mem} {σ : List Nat} {b o sz : Nat} {el : Nat → AV} (h0 : 0 < sz) : ∀ (len s : Nat), (∀ i, s ≤ i → i < s + len → (el i).cells.length = sz ∧ scalAll (el i).cells = true ∧ RepAt I σ (el i) b (o + i * sz)) → Row I σ ((List.range' s len).map el) b (o + s * sz) sz
  | 0, _, _ => .nil
  | n + 1, s, h => by
    rw [List.range'_succ, List.map_cons]
    obtain ⟨h1, h2, h3⟩ := h s (Nat.le_refl _) (by omega)
    refine .cons h1 h0 h2 h3 ?_
    have := row_of_index h0 n (s + 1) (fun i hi hj => h i (by omega) (by omega))
    rw [Nat.add_mul, Nat.one_mul, ← Nat.add_assoc] at this
    exact this
section
variable {H : Type} {enc : TypeId × Value → H} {P : Program} {w : World} {T : TypeId → Prop}
/-- What a reading of cells says. -/
def ReadOk (P : Program) (w : World) (k : Nat) (t : TypeId) (cs : List Value) : Prop :=
  ∃ avs, Reps (memI w) [] avs cs ∧ Tyf P k t avs ∧ scalAll avs = true
/-- What is read is within the reach. -/
def Szd (P : Program) (t : TypeId) (d : DataW H) : Prop := ∀ n ∈ d.weights P t, n ≤ reachBytes
theorem szd_all {e : TypeId} : ∀ {l : List (DataW H)} {d : DataW H}, d ∈ l → ∀ n ∈ d.weights P e, n ∈ DataW.weightsAll P e l
  | [], _, h, _, _ => by cases h
  | x :: r, d, h, n, hn => by
    simp only [DataW.weightsAll, List.mem_append]
    rcases List.mem_cons.1 h with rfl | h
    · exact .inl hn
    · exact .inr (szd_all h n hn)
theorem choose_upto {α : Type} [Inhabited α] {n : Nat} {p : Nat → α → Prop} (h : ∀ i, i < n → ∃ a, p i a) : ∃ f : Nat → α, ∀ i, i < n → p i (f i) :=
  ⟨fun i => open Classical in if hi : i < n then (h i hi).choose else default, fun i hi => by simp only [dif_pos hi]; exact (h i hi).choose_spec⟩
theorem add_spot {b o i : Nat} : (⟨b, o, none⟩ : Addr).add i = ⟨b, o + i, none⟩ := addr_add b o i
theorem parts_ok {k n : Nat} {cs : List Value} (ih : ∀ (fuel : Nat) (t : TypeId) (cs : List Value) (x : DataW H × List MemPlace), T t → okTy P k t = true → DataW.trod enc P w 0 (fun _ => true) true fuel t cs = some x → Szd P t x.1 → ReadOk P w k t cs) :
    ∀ (L : List (TypeId × Nat)) (s : Nat), (∀ f ∈ L, T f.1 ∧ okTy P k f.1 = true) → (∀ (j : Nat) f, L[j]? = some f → f.2 = s + ((L.take j).map fun f => P.cellsOf f.1).sum) →
      (∀ f ∈ L, ∃ x, DataW.trod (H := H) enc P w 0 (fun _ => true) true n f.1 ((cs.drop f.2).take (P.cellsOf f.1)) = some x ∧ Szd P f.1 x.1) →
      ∃ parts : List (List AV), Reps (memI w) [] parts.flatten ((cs.drop s).take (L.map fun f => P.cellsOf f.1).sum) ∧ scalAll parts.flatten = true ∧ All2 (fun f p => Tyf P k f.1 p) L parts
  | [], s, _, _, _ => ⟨[], by simpa using Reps.nil, rfl, trivial⟩
  | f :: L, s, hT, ho, hx => by
    obtain ⟨x, hx0, hxs⟩ := hx f (by simp)
    obtain ⟨hT0, hk0⟩ := hT f (by simp)
    have e0 : f.2 = s := by simpa using ho 0 f rfl
    obtain ⟨avs, h1, h2, h3⟩ := ih n f.1 _ x hT0 hk0 hx0 hxs
    obtain ⟨parts, g1, g2, g3⟩ := parts_ok ih L (s + P.cellsOf f.1) (fun g hg => hT g (by simp [hg])) (fun j g hg => by
      have := ho (j + 1) g hg
      simp only [List.take_succ_cons, List.map_cons, List.sum_cons] at this
      omega) (fun g hg => hx g (by simp [hg]))
    refine ⟨avs :: parts, ?_, ?_, h2, g3⟩
    · rw [List.flatten_cons, List.map_cons, List.sum_cons, List.take_add, List.drop_drop]
      rw [e0] at h1
      exact h1.append g1
    · rw [List.flatten_cons]; exact scalAll_append h3 g2
theorem all2_map {α β γ : Type} {R : β → γ → Prop} {f : α → β} : ∀ {l : List α} {r : List γ}, All2 R (l.map f) r → All2 (fun a c => R (f a) c) l r
  | [], [], _ => trivial
  | [], _ :: _, h => h.elim
  | _ :: _, [], h => h.elim
  | _ :: _, _ :: _, ⟨h1, h2⟩ => ⟨h1, all2_map h2⟩
theorem all2_mem {β γ : Type} {R : β → γ → Prop} {q : γ → Prop} : ∀ {l : List β} {r : List γ}, All2 R l r → (∀ b ∈ l, ∀ c, R b c → q c) → r.length = l.length ∧ ∀ c ∈ r, q c
  | [], [], _, _ => ⟨rfl, fun _ h => by cases h⟩
  | [], _ :: _, h, _ => h.elim
  | _ :: _, [], h, _ => h.elim
  | b :: l, c :: r, ⟨h1, h2⟩, hq => by
    obtain ⟨g1, g2⟩ := all2_mem h2 (fun b hb => hq b (by simp [hb]))
    refine ⟨by simp [g1], fun d hd => ?_⟩
    rcases List.mem_cons.1 hd with rfl | hd
    · exact hq b (by simp) _ h1
    · exact g2 d hd
theorem read_ok (K : Kids P T) (hz : ∀ t e, T t → P.underlying t = some (.slice e) → 0 < P.cellsOf e) : ∀ (k : Nat) (fuel : Nat) (t : TypeId) (cs : List Value) (x : DataW H × List MemPlace), T t → okTy P k t = true →
    DataW.trod enc P w 0 (fun _ => true) true fuel t cs = some x → Szd P t x.1 → ReadOk P w k t cs := by
  intro k
  induction k with
  | zero => intro fuel t cs x _ h; cases h
  | succ k ih =>
    intro fuel t cs x hT ho h hsz
    unfold okTy at ho
    unfold ReadOk
    cases hu : P.underlying t with
    | none => rw [hu] at ho; cases ho
    | some d =>
      rw [hu] at ho
      cases d <;> simp only at ho <;> try (cases ho; done)
      case bool =>
        obtain ⟨b, rfl, _⟩ := DataW.trod_bool hu h
        exact ⟨[.bool b], .cons .bool .nil, by unfold Tyf; rw [hu]; exact ⟨b, rfl⟩, rfl⟩
      case int kd =>
        obtain ⟨n, rfl, _, hw⟩ := DataW.trod_int hu h
        refine ⟨[.int kd n], .cons .int .nil, ?_, rfl⟩
        unfold Tyf; rw [hu]
        simp only [Lit.wf, Bool.and_eq_true, decide_eq_true_eq] at hw
        exact ⟨n, rfl, hw.1, hw.2⟩
      case string =>
        obtain ⟨s, rfl, hxe, hs⟩ := DataW.trod_string hu h
        have hs2 : s.data.toList.length ≤ reachBytes := by
          subst hxe
          exact hsz _ (by simp [DataW.weights])
        refine ⟨[.str s.data.toList], .cons ?_ .nil, ?_, rfl⟩
        · have : (⟨⟨s.data.toList⟩⟩ : ByteArray) = s := rfl
          exact .str
        · unfold Tyf; rw [hu]; exact ⟨_, rfl, hs2⟩
      case slice e =>
        have hc := hz t e hT hu
        rcases open_slice hu h with ⟨rfl, _⟩ | ⟨a, len, cap, m, n, D, Pl, rfl, _, hlen, hcap, hm, hxe, hx⟩
        · exact ⟨[.sl false (P.cellsOf e) []], .cons .snil .nil, by unfold Tyf; rw [hu]; exact ⟨[], rfl, ⟨Nat.zero_le _, by simp⟩, fun v hv => by cases hv⟩, rfl⟩
        · have hm : m = cap := hm
          subst hm
          have hby : len * P.bytesOf e ≤ reachBytes := by
            have := hsz ((len + (m - len)) * P.bytesOf e) (by rw [hxe]; simp [DataW.weights, hu])
            exact Nat.le_trans (Nat.mul_le_mul_right _ (by omega)) this
          have hszi : ∀ i, i < len → Szd P e (D i) := fun i hi n' hn' => hsz n' (by
            rw [hxe]
            simp only [DataW.weights, hu, List.mem_cons, List.mem_append]
            exact .inr (.inl (szd_all (List.mem_map.2 ⟨i, by simpa using hi, rfl⟩) _ hn')))
          by_cases hc0 : m = 0
          · subst hc0
            have hl0 : len = 0 := by omega
            subst hl0
            refine ⟨[.sl false (P.cellsOf e) []], .cons ?_ .nil, by unfold Tyf; rw [hu]; exact ⟨[], rfl, ⟨Nat.zero_le _, by simp⟩, fun v hv => by cases hv⟩, rfl⟩
            obtain ⟨b, o, sp⟩ := a
            cases sp with
            | none => exact .sl .nil rfl (Nat.le_refl _)
            | some s => exact .spot
          · have hsp : a.spot = none := by
              obtain ⟨cs', h1, _⟩ := hx 0 (by omega)
              obtain ⟨_, h2, h3⟩ := World.cells?_some h1
              have h4 := h3 0 hc
              have : (w.cell? ((a.add (0 * P.cellsOf e)).add 0)) = some (cs'[0]'(by omega)) := by rw [h4]; exact List.getElem?_eq_getElem _
              have := World.cell?_spot this
              simpa [Addr.add] using this
            obtain ⟨b, o, sp⟩ := a
            have hsp : sp = none := hsp
            subst hsp
            obtain ⟨el, hel⟩ := choose_upto (α := AV) (n := len) (p := fun i v => v.cells.length = P.cellsOf e ∧ scalAll v.cells = true ∧ RepAt (memI w) [] v b (o + i * P.cellsOf e) ∧ ∃ cs, v = mkEl (P.cellsOf e) cs ∧ Tyf P k e cs) (fun i hi => by
              obtain ⟨cs', h1, h2⟩ := hx i (by omega)
              obtain ⟨_, h3, h4⟩ := World.cells?_some h1
              obtain ⟨avs, g1, g2, g3⟩ := ih n e cs' _ (K.slice hT hu) ho h2 (hszi i hi)
              have hl : avs.length = P.cellsOf e := by rw [g1.length, h3]
              have hcl := mkEl_cells hl g3
              refine ⟨mkEl (P.cellsOf e) avs, by rw [hcl]; exact hl, by rw [hcl]; exact g3, .mk (cvs := cs') (by rw [hcl]; exact g1) (fun j cv hj => ?_), avs, rfl, g2⟩
              have hjl : j < P.cellsOf e := by have := (List.getElem?_eq_some_iff.1 hj).1; omega
              have := h4 j hjl
              rw [add_spot, add_spot, hj] at this
              exact this)
            refine ⟨[.sl false (P.cellsOf e) ((List.range' 0 len).map el)], .cons ?_ .nil, ?_, rfl⟩
            · have hrow := row_of_index (I := memI w) (σ := []) (b := b) (o := o) (el := el) hc len 0 (fun i _ hi => by
                obtain ⟨h1, h2, h3, _⟩ := hel i (by omega)
                exact ⟨h1, h2, h3⟩)
              rw [Nat.zero_mul, Nat.add_zero] at hrow
              exact .sl hrow (by simp) hlen
            · unfold Tyf; rw [hu]
              refine ⟨_, rfl, ⟨by simp; omega, by simpa using hby⟩, fun v hv => ?_⟩
              obtain ⟨i, hi, rfl⟩ := List.mem_map.1 hv
              obtain ⟨_, _, _, h4⟩ := hel i (by simpa using hi)
              exact h4
      case struct fs =>
        obtain ⟨xs, n, rfl, hxe, hl, hxl, hx⟩ := DataW.trod_struct hu h
        obtain ⟨hk1, hk2, hk3⟩ := K.struct hT hu
        have hfa := List.all_eq_true.1 ho
        obtain ⟨parts, g1, g2, g3⟩ := parts_ok (H := H) (enc := enc) (n := n) (cs := cs) ih (fs.toList.map fun f => (f.type, f.offset)) 0 (fun f hf => by
            obtain ⟨g, hg, rfl⟩ := List.mem_map.1 hf
            exact ⟨hk1 g hg, hfa g hg⟩) (fun j f hf => by
            rw [List.getElem?_map] at hf
            obtain ⟨g, hg, rfl⟩ := Option.map_eq_some_iff.1 hf
            have := hk3 j g hg
            rw [Nat.zero_add, ← List.map_take, List.map_map]
            exact this) (fun f hf => by
            obtain ⟨g, hg, rfl⟩ := List.mem_map.1 hf
            obtain ⟨i, hi⟩ := List.getElem?_of_mem hg
            have hi' : fs[i]? = some g := by simpa using hi
            have := hx i g hi'
            have hil : i < xs.length := by
              have := (List.getElem?_eq_some_iff.1 hi).1
              rw [hxl]; simpa using this
            refine ⟨xs[i], by rw [this]; exact List.getElem?_eq_getElem hil, fun n' hn' => hsz n' ?_⟩
            rw [hxe]
            simp only [DataW.weights, hu]
            exact DataW.weights_mem_each (j := i) (t := g.type) (d := xs[i].1) (by rw [List.getElem?_map, hi]; rfl) (by rw [List.getElem?_map, List.getElem?_eq_getElem hil]; rfl) n' hn')
        have htot : ((fs.toList.map fun f => (f.type, f.offset)).map fun f => P.cellsOf f.1).sum = P.cellsOf t := by
          rw [hk2, List.map_map]; rfl
        rw [htot, List.drop_zero, ← hl, List.take_length] at g1
        refine ⟨parts.flatten, g1, ?_, g2⟩
        unfold Tyf; rw [hu]
        exact ⟨parts, rfl, all2_map (f := fun f : Field => (f.type, f.offset)) g3⟩
      case array m e =>
        obtain ⟨xs, n, rfl, hxe, hl, hxl, hx⟩ := DataW.trod_array hu h
        obtain ⟨hk1, hk2⟩ := K.array hT hu
        have hsum : ∀ (L : List Nat), ((L.map fun i => (e, i * P.cellsOf e)).map fun f => P.cellsOf f.1).sum = L.length * P.cellsOf e := by
          intro L
          induction L with
          | nil => simp
          | cons a r ihr => rw [List.map_cons, List.map_cons, List.sum_cons, ihr, List.length_cons, Nat.add_mul, Nat.one_mul, Nat.add_comm]
        obtain ⟨parts, g1, g2, g3⟩ := parts_ok (H := H) (enc := enc) (n := n) (cs := cs) ih ((List.range m).map fun i => (e, i * P.cellsOf e)) 0 (fun f hf => by
            obtain ⟨g, hg, rfl⟩ := List.mem_map.1 hf
            exact ⟨hk1, ho⟩) (fun j f hf => by
            rw [List.getElem?_map] at hf
            obtain ⟨g, hg, rfl⟩ := Option.map_eq_some_iff.1 hf
            have hjg : g = j ∧ j < m := by
              rcases List.getElem?_eq_some_iff.1 hg with ⟨h1, h2⟩
              simp at h1 h2
              exact ⟨h2.symm, h1⟩
            obtain ⟨rfl, hjm⟩ := hjg
            rw [Nat.zero_add, ← List.map_take, hsum, List.length_take, List.length_range, Nat.min_eq_left (by omega)]) (fun f hf => by
            obtain ⟨g, hg, rfl⟩ := List.mem_map.1 hf
            have hgm : g < m := by simpa using hg
            have := hx g hgm
            refine ⟨xs[g]'(by omega), by rw [this]; exact List.getElem?_eq_getElem _, fun n' hn' => hsz n' ?_⟩
            rw [hxe]
            simp only [DataW.weights, hu]
            exact szd_all (List.mem_map.2 ⟨xs[g]'(by omega), List.getElem_mem _, rfl⟩) n' hn')
        have htot : (((List.range m).map fun i => (e, i * P.cellsOf e)).map fun f => P.cellsOf f.1).sum = P.cellsOf t := by
          rw [hsum, hk2, List.length_range]
        rw [htot, List.drop_zero, ← hl, List.take_length] at g1
        obtain ⟨q1, q2⟩ := all2_mem (q := fun p => Tyf P k e p) g3 (fun f hf c hc => by
          obtain ⟨g, hg, rfl⟩ := List.mem_map.1 hf
          exact hc)
        refine ⟨parts.flatten, g1, ?_, g2⟩
        unfold Tyf; rw [hu]
        exact ⟨parts, rfl, by simpa using q1, q2⟩
end
end Go.V

/- E4: a law's contract out of its meaning, with the reach. No program in sight. -/
namespace Go.V
open Go.ChangeShapes Go.WideShapes Go.Deep Go.RowKit
theorem len_one {α : Type} {l : List α} (h : l.length = 1) : ∃ a, l = [a] := by
  match l, h with | [a], _ => exact ⟨a, rfl⟩
theorem len_two {α : Type} {l : List α} (h : l.length = 2) : ∃ a b, l = [a, b] := by
  match l, h with | [a, b], _ => exact ⟨a, b, rfl⟩
theorem len_three {α : Type} {l : List α} (h : l.length = 3) : ∃ a b c, l = [a, b, c] := by
  match l, h with | [a, b, c], _ => exact ⟨a, b, c, rfl⟩
theorem all2_len {α β : Type} {R : α → β → Prop} : ∀ {l : List α} {r : List β}, All2 R l r → r.length = l.length
  | [], [], _ => rfl
  | [], _ :: _, h => h.elim
  | _ :: _, [], h => h.elim
  | _ :: _, _ :: _, ⟨_, h⟩ => by simp [all2_len h]
/-- A value of a type. -/
def TyV (P : Program) (k : Nat) (t : TypeId) (v : AV) : Prop :=
  match P.underlying t with
  | some (.struct _) => ∃ cs, v = .agg cs ∧ Tyf P k t cs
  | some (.array _ _) => ∃ cs, v = .agg cs ∧ Tyf P k t cs
  | _ => Tyf P k t [v]
section
variable {H : Type} {enc : TypeId × Value → H} {P : Program} {w : World} {T : TypeId → Prop}
theorem arg_ok (K : Kids P T) (hz : ∀ t e, T t → P.underlying t = some (.slice e) → 0 < P.cellsOf e) {k : Nat} {r : Reach} {b0 : Nat} {t : TypeId} {v : Value} {d : DataW H} {ps : List MemPlace} (hT : T t) (ho : okTy P k t = true)
    (hv : Value.okWide P w r b0 t v) (hd : DataW.Trod enc P w 0 (fun _ => true) true t v d ps) (hsz : Szd P t d) : ∃ av, Rep (memI w) [] av v ∧ TyV P k t av := by
  obtain ⟨fuel, hd⟩ := hd
  obtain ⟨avs, h1, h2, h3⟩ := read_ok K hz k fuel t _ _ hT ho hd hsz
  unfold TyV
  unfold Value.okWide at hv
  cases k with
  | zero => cases ho
  | succ k =>
  unfold okTy at ho
  cases hu : P.underlying t with
  | none => rw [hu] at ho; cases ho
  | some dd =>
    rw [hu] at ho hv
    cases dd <;> simp only at ho hv ⊢ <;> try (cases ho; done)
    case struct fs =>
      obtain ⟨cs, rfl, _, _⟩ := hv
      exact ⟨.agg avs, .agg h1, avs, rfl, h2⟩
    case array m e =>
      obtain ⟨cs, rfl, _, _⟩ := hv
      exact ⟨.agg avs, .agg h1, avs, rfl, h2⟩
    all_goals
      have hc : v.cells.toList = [v] := by
        cases v <;> first
          | rfl
          | (exfalso; simp [Cell.okWide, Cell.ok, hu] at hv; done)
      rw [hc] at h1
      cases h1 with
      | cons h k =>
        cases k
        exact ⟨_, h, h2⟩
theorem args_ok (K : Kids P T) (hz : ∀ t e, T t → P.underlying t = some (.slice e) → 0 < P.cellsOf e) {k : Nat} {r : Reach} {b0 : Nat} : ∀ {ts : List TypeId} {vs : List Value} {ds : List (DataW H)} {ps : List MemPlace},
    (∀ t ∈ ts, T t ∧ okTy P k t = true) → (∀ (j : Nat) t v, ts[j]? = some t → vs[j]? = some v → Value.okWide P w r b0 t v) → DataW.TrodAll enc P w 0 (fun _ => true) true ts vs ds ps → (∀ n ∈ DataW.weightsEach P ts ds, n ≤ reachBytes) →
    ∃ avs, Reps (memI w) [] avs vs ∧ All2 (TyV P k) ts avs ∧ ds.length = ts.length
  | [], vs, ds, ps, _, _, h, _ => by
    obtain ⟨rfl, rfl, rfl⟩ := trodAll_nil h
    exact ⟨[], .nil, trivial, rfl⟩
  | t :: ts, vs, ds, ps, hT, hv, h, hsz => by
    obtain ⟨v, vs', d, ds', p, q, rfl, rfl, rfl, h1, h2⟩ := trodAll_cons h
    simp only [DataW.weightsEach, List.mem_append] at hsz
    obtain ⟨a1, a2⟩ := hT t (by simp)
    obtain ⟨av, g1, g2⟩ := arg_ok K hz a1 a2 (hv 0 t v rfl rfl) h1 (fun n hn => hsz n (.inl hn))
    obtain ⟨avs, e1, e2, e3⟩ := args_ok K hz (fun t ht => hT t (by simp [ht])) (fun j t v ht hv' => hv (j + 1) t v ht hv') h2 (fun n hn => hsz n (.inr hn))
    exact ⟨av :: avs, .cons g1 e1, ⟨g2, e2⟩, by simp [e3]⟩
/-- The whole first memory as what is known. -/
theorem entry_glob (w : World) : Glob ⟨memI w, [], fun b => b < w.heap.size, w⟩ ⟨memI w, [], fun _ => none, fun _ => 0⟩ [] w where
  hI := MemLe.refl _
  hσ := List.prefix_refl _
  fr b hb := ⟨rfl, hb, rfl⟩
  size := Nat.le_refl _
  os := rfl
  tape := rfl
  output := rfl
  imm b o v h := h
  immOwn b o l _ h := by cases h
  ownlt b l h := by cases h
  newI b o h1 h2 := absurd h2 h1
  objs id cs h := by cases h
  len := rfl
theorem stays_all (K : Kids P T) (hz : ∀ t e, T t → P.underlying t = some (.slice e) → 0 < P.cellsOf e) {w' : World} {sp : Nat → Bool} (hb : Below w.heap.size w w') : ∀ {ts : List TypeId} {vs : List Value} {ds : List (DataW H)} {ps : List MemPlace},
    (∀ t ∈ ts, T t) → DataW.TrodAll enc P w 0 (fun _ => true) true ts vs ds ps → (∀ p ∈ ps, p.block < w.heap.size) → (∀ p ∈ ps, sp p.block = true) → DataW.TrodAll enc P w' 0 sp true ts vs ds ps
  | [], vs, ds, ps, _, h, _, _ => by
    obtain ⟨rfl, rfl, rfl⟩ := trodAll_nil h
    rfl
  | t :: ts, vs, ds, ps, hT, h, hl, hs => by
    obtain ⟨v, vs', d, ds', p, q, rfl, rfl, rfl, ⟨n, h1⟩, h2⟩ := trodAll_cons h
    refine ⟨p, q, ⟨n, ?_⟩, stays_all K hz hb (fun t ht => hT t (by simp [ht])) h2 (fun x hx => hl x (by simp [hx])) (fun x hx => hs x (by simp [hx])), rfl⟩
    exact DataW.trod_stays K (fun {t e} ht hu => hz t e ht hu) (fun h => by cases h) (hT t (by simp)) h1 (fun x hx => hb.same (hl x (by simp [hx]))) (fun x hx => hs x (by simp [hx]))
/-- A LAW's CONTRACT: from what the call means for every value of its arguments' types. -/
theorem law_ok {f : FuncId} {fn : Func} {s : ChangeSpec} {tb : TypeId} {k base : Nat} {args : Array Value} {ds gs : List (DataW H)} {before : List MemPlace} {apart fresh handsOn : Bool} (hl : laidOutB P = true) (hm : mapsRowed P = true)
    (hz : ((List.range P.types.size).all fun t => match P.underlying t with | some (.slice e) => decide (0 < P.cellsOf e) | _ => true) = true)
    (hp : (fn.params.toList.all fun t => decide (t < P.types.size) && okTy P k t) = true) (hr : fn.resultTypes = #[tb]) (hb : P.underlying tb = some .bool)
    (hv : s.vars = []) (hs : ∀ ds, ds.length = fn.params.toList.length → s.fn H ds = { results := [.lit (.bool true)], args := ds })
    (hval : ∀ (j : Nat) t v, fn.params[j]? = some t → args[j]? = some v → Value.okWide P w .any base t v)
    (hW : DataW.Whole enc P fn.params.toList s.vars apart w args.toList ds gs before)
    (hsz : (DataW.weightsEach P (fn.params.toList ++ s.plain.varTypes P) (ds ++ gs)).all (· ≤ reachBytes) = true)
    (hcall : ∀ avs, All2 (TyV P k) fn.params.toList avs → VCalls P f avs [] (fun r _ => r = .bool true)) :
    Calls P f args w fun e w' => ∃ v, e = .returned v ∧ s.post enc P fn apart fresh handsOn false w args v w' := by
  have K := kids_rows hl hm
  have hz' := slices_full_of P hz
  have hT : ∀ t ∈ fn.params.toList, t < P.types.size ∧ okTy P k t = true := fun t ht => by
    have := List.all_eq_true.1 hp t ht
    simpa using this
  have hW' := hW
  obtain ⟨p, q, hA, hV, rfl, hfz, hnd⟩ := hW
  rw [hv] at hV
  obtain ⟨rfl, rfl⟩ := trodVars_none hV
  have hvt : s.plain.varTypes P = [] := by
    unfold ChangeSpec.plain
    simp [DataSpec.varTypes, hv]
  rw [hvt, List.append_nil, List.append_nil] at hsz
  obtain ⟨avs, h1, h2, h3⟩ := args_ok K hz' hT (r := .any) (b0 := base) (fun j t v ht hv => hval j t v (by simpa using ht) (by simpa using hv)) hA (fun n hn => by have := List.all_eq_true.1 hsz n hn; simpa using this)
  have hc := (hcall avs h2).out (fun b => b < w.heap.size) ⟨memI w, [], fun _ => none, fun _ => 0⟩ w args.toList (entry_glob w) (fun b l h => by cases h) h1
  refine hc.mono fun e w' ⟨cv, g', r, st', he, hr1, hg, _, hrep, _⟩ => ?_
  subst hr1
  have hcv : cv = .bool true := by cases hrep; rfl
  subst hcv
  refine ⟨_, he, ?_⟩
  have hbel : Below w.heap.size w w' := ⟨hg.os, hg.tape, hg.output, hg.size, fun k hk => (hg.fr k hk).1⟩
  have hlt : ∀ x ∈ p, x.block < w.heap.size := fun x hx => hW'.lt x (by simp [hx])
  have hspec := hs (ds ++ []) (by simpa using h3)
  refine ⟨ds, [], p ++ [], [], p, [], hW', ?_, ?_, ?_, World.keptBut_mono (fun x hx => hx) (hbel.frame _), fun h => by cases h⟩
  · rw [hspec, hr]
    exact trodAll_cons_mk (shut_bool hb _) trodAll_mk0
  · rw [hspec]
    simp only [List.append_nil]
    exact stays_all K hz' hbel (fun t ht => (hT t ht).1) hA hlt (fun x hx => by simpa using hlt x hx)
  · rw [hspec, hv]
    rfl
end
end Go.V
