/- L0: what a law's arguments are: cells of types. -/
import Derived.Test.YtgogpeamdfmaiaaGreatVE
import Derived.Test.YtgogpeamdfmaiaaGreatVD
import Derived.Test.YtgogpeamdfmaiaaGreatProg
set_option linter.unusedVariables false
set_option linter.unusedSimpArgs false
namespace Go.V
set_option maxRecDepth 100000
open Go.Proofs
def I64 (n : Int) : Prop := -9223372036854775808 ≤ n ∧ n ≤ 9223372036854775807
def IK (k : IntKind) (n : Int) : Prop := k.min ≤ n ∧ n ≤ k.max
theorem ty_int {P : Program} {k : Nat} {t : TypeId} {kd : IntKind} {avs : List AV} (hu : P.underlying t = some (.int kd)) (h : Tyf P k t avs) : ∃ n, avs = [.int kd n] ∧ IK kd n := by
  cases k with
  | zero => exact h.elim
  | succ k => unfold Tyf at h; rw [hu] at h; exact h
theorem ty_i64 {P : Program} {k : Nat} {t : TypeId} {avs : List AV} (hu : P.underlying t = some (.int .i64)) (h : Tyf P k t avs) : ∃ n, avs = [.int .i64 n] ∧ I64 n := by
  obtain ⟨n, h1, h2, h3⟩ := ty_int hu h
  refine ⟨n, h1, ?_, ?_⟩
  · have : IntKind.min .i64 = -9223372036854775808 := by decide
    omega
  · have : IntKind.max .i64 = 9223372036854775807 := by decide
    omega
theorem ty_bool {P : Program} {k : Nat} {t : TypeId} {avs : List AV} (hu : P.underlying t = some .bool) (h : Tyf P k t avs) : ∃ b, avs = [.bool b] := by
  cases k with
  | zero => exact h.elim
  | succ k => unfold Tyf at h; rw [hu] at h; exact h
theorem ty_str {P : Program} {k : Nat} {t : TypeId} {avs : List AV} (hu : P.underlying t = some .string) (h : Tyf P k t avs) : ∃ s, avs = [.str s] ∧ s.length ≤ reachBytes := by
  cases k with
  | zero => exact h.elim
  | succ k => unfold Tyf at h; rw [hu] at h; exact h
theorem ty_slice {P : Program} {k : Nat} {t e : TypeId} {avs : List AV} {α : Type} (f : α → AV) (q : α → Prop) (hu : P.underlying t = some (.slice e)) (h : Tyf P k t avs) (hel : ∀ j cs, k = j + 1 → Tyf P j e cs → ∃ a, mkEl (P.cellsOf e) cs = f a ∧ q a) :
    ∃ l : List α, avs = [.sl false (P.cellsOf e) (l.map f)] ∧ l.length * P.bytesOf e ≤ reachBytes ∧ ∀ a ∈ l, q a := by
  cases k with
  | zero => exact h.elim
  | succ k =>
    unfold Tyf at h; rw [hu] at h
    obtain ⟨es, rfl, ⟨hl0, hl⟩, he⟩ := h
    have : ∃ l : List α, es = l.map f ∧ ∀ a ∈ l, q a := by
      clear hl hl0
      induction es with
      | nil => exact ⟨[], rfl, fun _ h => by cases h⟩
      | cons v es ih =>
        obtain ⟨cs, rfl, hc⟩ := he v (by simp)
        obtain ⟨a, ha, hq⟩ := hel k cs rfl hc
        obtain ⟨l, rfl, hl⟩ := ih (fun v hv => he v (by simp [hv]))
        refine ⟨a :: l, by rw [List.map_cons, ha], fun b hb => ?_⟩
        rcases List.mem_cons.1 hb with rfl | hb
        · exact hq
        · exact hl b hb
    obtain ⟨l, rfl, hq⟩ := this
    exact ⟨l, rfl, by simpa using hl, hq⟩
theorem ty_bytes {P : Program} {k : Nat} {t e : TypeId} {avs : List AV} (hu : P.underlying t = some (.slice e)) (he : P.underlying e = some (.int .u8)) (hc : P.cellsOf e = 1) (hb : P.bytesOf e = 1) (h : Tyf P k t avs) :
    ∃ v : List UInt8, avs = [.sl false 1 (bs v)] ∧ v.length ≤ reachBytes := by
  obtain ⟨l, h1, h2, _⟩ := ty_slice u8 (fun _ => True) hu h (fun j cs _ hj => by
    obtain ⟨n, rfl, h0, h1⟩ := ty_int he hj
    have e0 : IntKind.min .u8 = 0 := by decide
    have e1 : IntKind.max .u8 = 255 := by decide
    refine ⟨UInt8.ofNat n.toNat, ?_, trivial⟩
    rw [hc]
    show AV.int .u8 n = .int .u8 ((UInt8.ofNat n.toNat).toNat : Int)
    have : (UInt8.ofNat n.toNat).toNat = n.toNat := by
      rw [UInt8.toNat_ofNat']
      exact Nat.mod_eq_of_lt (by omega)
    rw [this]
    congr 1
    omega)
  rw [hc] at h1
  rw [hb, Nat.mul_one] at h2
  exact ⟨l, h1, h2⟩
theorem all2_types {P : Program} {k : Nat} {l : List Field} {parts : List (List AV)} (h : All2 (fun f p => Tyf P k f.type p) l parts) : All2 (fun f p => Tyf P k f p) (l.map (·.type)) parts := by
  induction l generalizing parts with
  | nil => cases parts with | nil => trivial | cons _ _ => exact h.elim
  | cons f l ih => cases parts with | nil => exact h.elim | cons p r => exact ⟨h.1, ih h.2⟩
theorem ty_arr2 {P : Program} {k : Nat} {t e : TypeId} {avs : List AV} (hu : P.underlying t = some (.array 2 e)) (he : P.underlying e = some (.int .i64)) (h : Tyf P k t avs) : ∃ a b, avs = [.int .i64 a, .int .i64 b] ∧ I64 a ∧ I64 b := by
  cases k with
  | zero => exact h.elim
  | succ k =>
    unfold Tyf at h; rw [hu] at h
    obtain ⟨parts, rfl, hl, hp⟩ := h
    match parts, hl with
    | [p, q], _ =>
      obtain ⟨a, rfl, ha⟩ := ty_i64 he (hp p (by simp))
      obtain ⟨b, rfl, hb⟩ := ty_i64 he (hp q (by simp))
      exact ⟨a, b, rfl, ha, hb⟩
theorem reach_eq : reachBytes = 140737488351232 := by decide
theorem tyv_struct {P : Program} {k : Nat} {t : TypeId} {v : AV} {fs : Array Field} (hu : P.underlying t = some (.struct fs)) (h : TyV P k t v) : ∃ cs, v = .agg cs ∧ Tyf P k t cs := by
  unfold TyV at h
  rw [hu] at h
  exact h
end Go.V

/- L2: the plain types of this translation as structures, and what a reading says of their cells. Printed by a program (wip/structs.py). -/
namespace Go.V
set_option maxRecDepth 100000
set_option maxHeartbeats 2000000
open Go.Proofs
structure Ent where
  index : Int
  term : Int
  data : List UInt8
  deriving DecidableEq
def Ent.cells (x : Ent) : List AV := [.int .i64 x.index, .int .i64 x.term, .sl false 1 (bs x.data)]
def Ent.av (x : Ent) : AV := .agg x.cells
def Ent.zero : Ent := ⟨0, 0, []⟩
def Ent.wf (x : Ent) : Prop := I64 x.index ∧ I64 x.term ∧ x.data.length ≤ reachBytes
theorem ty_Ent {k : Nat} {avs : List AV} (h : Tyf Tryz.prog k 285 avs) : ∃ x : Ent, avs = x.cells ∧ x.wf := by
  cases k with
  | zero => exact h.elim
  | succ k =>
    unfold Tyf at h; rw [Tryz.underlying285] at h
    obtain ⟨parts, rfl, h⟩ := h
    replace h := all2_types h
    have h : All2 (fun f p => Tyf Tryz.prog k f p) [2, 2, 23] parts := h
    match parts, h with
    | [p0, p1, p2], ⟨h0, h1, h2, _⟩ =>
      obtain ⟨x0, rfl, w0⟩ := ty_i64 Tryz.underlying2 h0
      obtain ⟨x1, rfl, w1⟩ := ty_i64 Tryz.underlying2 h1
      obtain ⟨x2, rfl, w2⟩ := ty_bytes Tryz.underlying23 Tryz.underlying5 (by kernel_rfl) (by kernel_rfl) h2
      exact ⟨⟨x0, x1, x2⟩, rfl, ⟨w0, w1, w2⟩⟩
theorem ty_Ent25 {k : Nat} {avs : List AV} (h : Tyf Tryz.prog k 25 avs) : ∃ x : Ent, avs = x.cells ∧ x.wf := by
  cases k with
  | zero => exact h.elim
  | succ k =>
    unfold Tyf at h; rw [Tryz.underlying25] at h
    obtain ⟨parts, rfl, h⟩ := h
    replace h := all2_types h
    have h : All2 (fun f p => Tyf Tryz.prog k f p) [2, 2, 23] parts := h
    match parts, h with
    | [p0, p1, p2], ⟨h0, h1, h2, _⟩ =>
      obtain ⟨x0, rfl, w0⟩ := ty_i64 Tryz.underlying2 h0
      obtain ⟨x1, rfl, w1⟩ := ty_i64 Tryz.underlying2 h1
      obtain ⟨x2, rfl, w2⟩ := ty_bytes Tryz.underlying23 Tryz.underlying5 (by kernel_rfl) (by kernel_rfl) h2
      exact ⟨⟨x0, x1, x2⟩, rfl, ⟨w0, w1, w2⟩⟩
structure RMsg where
  kind : Int
  frm : Int
  dst : Int
  term : Int
  index : Int
  logTerm : Int
  commit : Int
  ctx : Int
  ok : Bool
  entries : List Ent
  snap : Ent
  deriving DecidableEq
def RMsg.cells (x : RMsg) : List AV := [.int .i64 x.kind, .int .i64 x.frm, .int .i64 x.dst, .int .i64 x.term, .int .i64 x.index, .int .i64 x.logTerm, .int .i64 x.commit, .int .i64 x.ctx, .bool x.ok, .sl false 3 (x.entries.map Ent.av)] ++ (x.snap.cells)
def RMsg.av (x : RMsg) : AV := .agg x.cells
def RMsg.zero : RMsg := ⟨0, 0, 0, 0, 0, 0, 0, 0, false, [], Ent.zero⟩
def RMsg.wf (x : RMsg) : Prop := I64 x.kind ∧ I64 x.frm ∧ I64 x.dst ∧ I64 x.term ∧ I64 x.index ∧ I64 x.logTerm ∧ I64 x.commit ∧ I64 x.ctx ∧ (x.entries.length * 40 ≤ reachBytes ∧ ∀ a ∈ x.entries, a.wf) ∧ x.snap.wf
theorem ty_RMsg {k : Nat} {avs : List AV} (h : Tyf Tryz.prog k 53 avs) : ∃ x : RMsg, avs = x.cells ∧ x.wf := by
  cases k with
  | zero => exact h.elim
  | succ k =>
    unfold Tyf at h; rw [Tryz.underlying53] at h
    obtain ⟨parts, rfl, h⟩ := h
    replace h := all2_types h
    have h : All2 (fun f p => Tyf Tryz.prog k f p) [3, 3, 3, 2, 2, 2, 2, 2, 4, 22, 25] parts := h
    match parts, h with
    | [p0, p1, p2, p3, p4, p5, p6, p7, p8, p9, p10], ⟨h0, h1, h2, h3, h4, h5, h6, h7, h8, h9, h10, _⟩ =>
      obtain ⟨x0, rfl, w0⟩ := ty_i64 Tryz.underlying3 h0
      obtain ⟨x1, rfl, w1⟩ := ty_i64 Tryz.underlying3 h1
      obtain ⟨x2, rfl, w2⟩ := ty_i64 Tryz.underlying3 h2
      obtain ⟨x3, rfl, w3⟩ := ty_i64 Tryz.underlying2 h3
      obtain ⟨x4, rfl, w4⟩ := ty_i64 Tryz.underlying2 h4
      obtain ⟨x5, rfl, w5⟩ := ty_i64 Tryz.underlying2 h5
      obtain ⟨x6, rfl, w6⟩ := ty_i64 Tryz.underlying2 h6
      obtain ⟨x7, rfl, w7⟩ := ty_i64 Tryz.underlying2 h7
      obtain ⟨x8, rfl⟩ := ty_bool Tryz.underlying4 h8
      obtain ⟨x9, rfl, w9⟩ : ∃ l : List Ent, p9 = [.sl false 3 (l.map Ent.av)] ∧ (l.length * 40 ≤ reachBytes ∧ ∀ a ∈ l, a.wf) := by
        have hc : Tryz.prog.cellsOf 285 = 3 := by kernel_rfl
        obtain ⟨l, h1, h2, h3⟩ := ty_slice Ent.av Ent.wf Tryz.underlying22 h9 (fun j cs _ hj => by
          obtain ⟨a, rfl, ha⟩ := ty_Ent hj
          exact ⟨a, by rw [hc]; rfl, ha⟩)
        have hb : Tryz.prog.bytesOf 285 = 40 := by kernel_rfl
        rw [hc] at h1
        rw [hb] at h2
        exact ⟨l, h1, h2, h3⟩
      obtain ⟨x10, rfl, w10⟩ := ty_Ent25 h10
      exact ⟨⟨x0, x1, x2, x3, x4, x5, x6, x7, x8, x9, x10⟩, rfl, ⟨w0, w1, w2, w3, w4, w5, w6, w7, w9, w10⟩⟩
theorem ty_RMsg27 {k : Nat} {avs : List AV} (h : Tyf Tryz.prog k 27 avs) : ∃ x : RMsg, avs = x.cells ∧ x.wf := by
  cases k with
  | zero => exact h.elim
  | succ k =>
    unfold Tyf at h; rw [Tryz.underlying27] at h
    obtain ⟨parts, rfl, h⟩ := h
    replace h := all2_types h
    have h : All2 (fun f p => Tyf Tryz.prog k f p) [3, 3, 3, 2, 2, 2, 2, 2, 4, 22, 25] parts := h
    match parts, h with
    | [p0, p1, p2, p3, p4, p5, p6, p7, p8, p9, p10], ⟨h0, h1, h2, h3, h4, h5, h6, h7, h8, h9, h10, _⟩ =>
      obtain ⟨x0, rfl, w0⟩ := ty_i64 Tryz.underlying3 h0
      obtain ⟨x1, rfl, w1⟩ := ty_i64 Tryz.underlying3 h1
      obtain ⟨x2, rfl, w2⟩ := ty_i64 Tryz.underlying3 h2
      obtain ⟨x3, rfl, w3⟩ := ty_i64 Tryz.underlying2 h3
      obtain ⟨x4, rfl, w4⟩ := ty_i64 Tryz.underlying2 h4
      obtain ⟨x5, rfl, w5⟩ := ty_i64 Tryz.underlying2 h5
      obtain ⟨x6, rfl, w6⟩ := ty_i64 Tryz.underlying2 h6
      obtain ⟨x7, rfl, w7⟩ := ty_i64 Tryz.underlying2 h7
      obtain ⟨x8, rfl⟩ := ty_bool Tryz.underlying4 h8
      obtain ⟨x9, rfl, w9⟩ : ∃ l : List Ent, p9 = [.sl false 3 (l.map Ent.av)] ∧ (l.length * 40 ≤ reachBytes ∧ ∀ a ∈ l, a.wf) := by
        have hc : Tryz.prog.cellsOf 285 = 3 := by kernel_rfl
        obtain ⟨l, h1, h2, h3⟩ := ty_slice Ent.av Ent.wf Tryz.underlying22 h9 (fun j cs _ hj => by
          obtain ⟨a, rfl, ha⟩ := ty_Ent hj
          exact ⟨a, by rw [hc]; rfl, ha⟩)
        have hb : Tryz.prog.bytesOf 285 = 40 := by kernel_rfl
        rw [hc] at h1
        rw [hb] at h2
        exact ⟨l, h1, h2, h3⟩
      obtain ⟨x10, rfl, w10⟩ := ty_Ent25 h10
      exact ⟨⟨x0, x1, x2, x3, x4, x5, x6, x7, x8, x9, x10⟩, rfl, ⟨w0, w1, w2, w3, w4, w5, w6, w7, w9, w10⟩⟩
structure Ver where
  rev : Int
  make : Int
  mod : Int
  version : Int
  value : List UInt8
  lease : Int
  gone : Bool
  deriving DecidableEq
def Ver.cells (x : Ver) : List AV := [.int .i64 x.rev, .int .i64 x.make, .int .i64 x.mod, .int .i64 x.version, .str x.value, .int .i64 x.lease, .bool x.gone]
def Ver.av (x : Ver) : AV := .agg x.cells
def Ver.zero : Ver := ⟨0, 0, 0, 0, [], 0, false⟩
def Ver.wf (x : Ver) : Prop := I64 x.rev ∧ I64 x.make ∧ I64 x.mod ∧ I64 x.version ∧ x.value.length ≤ reachBytes ∧ I64 x.lease
theorem ty_Ver {k : Nat} {avs : List AV} (h : Tyf Tryz.prog k 162 avs) : ∃ x : Ver, avs = x.cells ∧ x.wf := by
  cases k with
  | zero => exact h.elim
  | succ k =>
    unfold Tyf at h; rw [Tryz.underlying162] at h
    obtain ⟨parts, rfl, h⟩ := h
    replace h := all2_types h
    have h : All2 (fun f p => Tyf Tryz.prog k f p) [2, 2, 2, 2, 9, 2, 4] parts := h
    match parts, h with
    | [p0, p1, p2, p3, p4, p5, p6], ⟨h0, h1, h2, h3, h4, h5, h6, _⟩ =>
      obtain ⟨x0, rfl, w0⟩ := ty_i64 Tryz.underlying2 h0
      obtain ⟨x1, rfl, w1⟩ := ty_i64 Tryz.underlying2 h1
      obtain ⟨x2, rfl, w2⟩ := ty_i64 Tryz.underlying2 h2
      obtain ⟨x3, rfl, w3⟩ := ty_i64 Tryz.underlying2 h3
      obtain ⟨x4, rfl, w4⟩ := ty_str Tryz.underlying9 h4
      obtain ⟨x5, rfl, w5⟩ := ty_i64 Tryz.underlying2 h5
      obtain ⟨x6, rfl⟩ := ty_bool Tryz.underlying4 h6
      exact ⟨⟨x0, x1, x2, x3, x4, x5, x6⟩, rfl, ⟨w0, w1, w2, w3, w4, w5⟩⟩
structure Item where
  key : List UInt8
  v : Ver
  deriving DecidableEq
def Item.cells (x : Item) : List AV := [.str x.key] ++ (x.v.cells)
def Item.av (x : Item) : AV := .agg x.cells
def Item.zero : Item := ⟨[], Ver.zero⟩
def Item.wf (x : Item) : Prop := x.key.length ≤ reachBytes ∧ x.v.wf
theorem ty_Item {k : Nat} {avs : List AV} (h : Tyf Tryz.prog k 164 avs) : ∃ x : Item, avs = x.cells ∧ x.wf := by
  cases k with
  | zero => exact h.elim
  | succ k =>
    unfold Tyf at h; rw [Tryz.underlying164] at h
    obtain ⟨parts, rfl, h⟩ := h
    replace h := all2_types h
    have h : All2 (fun f p => Tyf Tryz.prog k f p) [9, 162] parts := h
    match parts, h with
    | [p0, p1], ⟨h0, h1, _⟩ =>
      obtain ⟨x0, rfl, w0⟩ := ty_str Tryz.underlying9 h0
      obtain ⟨x1, rfl, w1⟩ := ty_Ver h1
      exact ⟨⟨x0, x1⟩, rfl, ⟨w0, w1⟩⟩
structure Batch where
  rev : Int
  l : List Item
  deriving DecidableEq
def Batch.cells (x : Batch) : List AV := [.int .i64 x.rev, .sl false 8 (x.l.map Item.av)]
def Batch.av (x : Batch) : AV := .agg x.cells
def Batch.zero : Batch := ⟨0, []⟩
def Batch.wf (x : Batch) : Prop := I64 x.rev ∧ (x.l.length * 80 ≤ reachBytes ∧ ∀ a ∈ x.l, a.wf)
theorem ty_Batch {k : Nat} {avs : List AV} (h : Tyf Tryz.prog k 152 avs) : ∃ x : Batch, avs = x.cells ∧ x.wf := by
  cases k with
  | zero => exact h.elim
  | succ k =>
    unfold Tyf at h; rw [Tryz.underlying152] at h
    obtain ⟨parts, rfl, h⟩ := h
    replace h := all2_types h
    have h : All2 (fun f p => Tyf Tryz.prog k f p) [2, 30] parts := h
    match parts, h with
    | [p0, p1], ⟨h0, h1, _⟩ =>
      obtain ⟨x0, rfl, w0⟩ := ty_i64 Tryz.underlying2 h0
      obtain ⟨x1, rfl, w1⟩ : ∃ l : List Item, p1 = [.sl false 8 (l.map Item.av)] ∧ (l.length * 80 ≤ reachBytes ∧ ∀ a ∈ l, a.wf) := by
        have hc : Tryz.prog.cellsOf 164 = 8 := by kernel_rfl
        obtain ⟨l, h1, h2, h3⟩ := ty_slice Item.av Item.wf Tryz.underlying30 h1 (fun j cs _ hj => by
          obtain ⟨a, rfl, ha⟩ := ty_Item hj
          exact ⟨a, by rw [hc]; rfl, ha⟩)
        have hb : Tryz.prog.bytesOf 164 = 80 := by kernel_rfl
        rw [hc] at h1
        rw [hb] at h2
        exact ⟨l, h1, h2, h3⟩
      exact ⟨⟨x0, x1⟩, rfl, ⟨w0, w1⟩⟩
structure Lease where
  iD : Int
  tTL : Int
  left : Int
  deriving DecidableEq
def Lease.cells (x : Lease) : List AV := [.int .i64 x.iD, .int .i64 x.tTL, .int .i64 x.left]
def Lease.av (x : Lease) : AV := .agg x.cells
def Lease.zero : Lease := ⟨0, 0, 0⟩
def Lease.wf (x : Lease) : Prop := I64 x.iD ∧ I64 x.tTL ∧ I64 x.left
theorem ty_Lease {k : Nat} {avs : List AV} (h : Tyf Tryz.prog k 255 avs) : ∃ x : Lease, avs = x.cells ∧ x.wf := by
  cases k with
  | zero => exact h.elim
  | succ k =>
    unfold Tyf at h; rw [Tryz.underlying255] at h
    obtain ⟨parts, rfl, h⟩ := h
    replace h := all2_types h
    have h : All2 (fun f p => Tyf Tryz.prog k f p) [2, 2, 2] parts := h
    match parts, h with
    | [p0, p1, p2], ⟨h0, h1, h2, _⟩ =>
      obtain ⟨x0, rfl, w0⟩ := ty_i64 Tryz.underlying2 h0
      obtain ⟨x1, rfl, w1⟩ := ty_i64 Tryz.underlying2 h1
      obtain ⟨x2, rfl, w2⟩ := ty_i64 Tryz.underlying2 h2
      exact ⟨⟨x0, x1, x2⟩, rfl, ⟨w0, w1, w2⟩⟩
structure Cmp where
  key : List UInt8
  what : Int
  sign : Int
  n : Int
  value : List UInt8
  deriving DecidableEq
def Cmp.cells (x : Cmp) : List AV := [.str x.key, .int .i64 x.what, .int .i64 x.sign, .int .i64 x.n, .str x.value]
def Cmp.av (x : Cmp) : AV := .agg x.cells
def Cmp.zero : Cmp := ⟨[], 0, 0, 0, []⟩
def Cmp.wf (x : Cmp) : Prop := x.key.length ≤ reachBytes ∧ I64 x.what ∧ I64 x.sign ∧ I64 x.n ∧ x.value.length ≤ reachBytes
theorem ty_Cmp {k : Nat} {avs : List AV} (h : Tyf Tryz.prog k 237 avs) : ∃ x : Cmp, avs = x.cells ∧ x.wf := by
  cases k with
  | zero => exact h.elim
  | succ k =>
    unfold Tyf at h; rw [Tryz.underlying237] at h
    obtain ⟨parts, rfl, h⟩ := h
    replace h := all2_types h
    have h : All2 (fun f p => Tyf Tryz.prog k f p) [9, 3, 3, 2, 9] parts := h
    match parts, h with
    | [p0, p1, p2, p3, p4], ⟨h0, h1, h2, h3, h4, _⟩ =>
      obtain ⟨x0, rfl, w0⟩ := ty_str Tryz.underlying9 h0
      obtain ⟨x1, rfl, w1⟩ := ty_i64 Tryz.underlying3 h1
      obtain ⟨x2, rfl, w2⟩ := ty_i64 Tryz.underlying3 h2
      obtain ⟨x3, rfl, w3⟩ := ty_i64 Tryz.underlying2 h3
      obtain ⟨x4, rfl, w4⟩ := ty_str Tryz.underlying9 h4
      exact ⟨⟨x0, x1, x2, x3, x4⟩, rfl, ⟨w0, w1, w2, w3, w4⟩⟩
structure Op where
  kind : Int
  key : List UInt8
  fin : List UInt8
  value : List UInt8
  lease : Int
  deriving DecidableEq
def Op.cells (x : Op) : List AV := [.int .i64 x.kind, .str x.key, .str x.fin, .str x.value, .int .i64 x.lease]
def Op.av (x : Op) : AV := .agg x.cells
def Op.zero : Op := ⟨0, [], [], [], 0⟩
def Op.wf (x : Op) : Prop := I64 x.kind ∧ x.key.length ≤ reachBytes ∧ x.fin.length ≤ reachBytes ∧ x.value.length ≤ reachBytes ∧ I64 x.lease
theorem ty_Op {k : Nat} {avs : List AV} (h : Tyf Tryz.prog k 240 avs) : ∃ x : Op, avs = x.cells ∧ x.wf := by
  cases k with
  | zero => exact h.elim
  | succ k =>
    unfold Tyf at h; rw [Tryz.underlying240] at h
    obtain ⟨parts, rfl, h⟩ := h
    replace h := all2_types h
    have h : All2 (fun f p => Tyf Tryz.prog k f p) [3, 9, 9, 9, 2] parts := h
    match parts, h with
    | [p0, p1, p2, p3, p4], ⟨h0, h1, h2, h3, h4, _⟩ =>
      obtain ⟨x0, rfl, w0⟩ := ty_i64 Tryz.underlying3 h0
      obtain ⟨x1, rfl, w1⟩ := ty_str Tryz.underlying9 h1
      obtain ⟨x2, rfl, w2⟩ := ty_str Tryz.underlying9 h2
      obtain ⟨x3, rfl, w3⟩ := ty_str Tryz.underlying9 h3
      obtain ⟨x4, rfl, w4⟩ := ty_i64 Tryz.underlying2 h4
      exact ⟨⟨x0, x1, x2, x3, x4⟩, rfl, ⟨w0, w1, w2, w3, w4⟩⟩
structure Reply where
  err : Int
  rev : Int
  ok : Bool
  count : Int
  items : List Item
  site : Int
  att : Int
  deriving DecidableEq
def Reply.cells (x : Reply) : List AV := [.int .i64 x.err, .int .i64 x.rev, .bool x.ok, .int .i64 x.count, .sl false 8 (x.items.map Item.av), .int .i64 x.site, .int .i64 x.att]
def Reply.av (x : Reply) : AV := .agg x.cells
def Reply.zero : Reply := ⟨0, 0, false, 0, [], 0, 0⟩
def Reply.wf (x : Reply) : Prop := I64 x.err ∧ I64 x.rev ∧ I64 x.count ∧ (x.items.length * 80 ≤ reachBytes ∧ ∀ a ∈ x.items, a.wf) ∧ I64 x.site ∧ I64 x.att
theorem ty_Reply {k : Nat} {avs : List AV} (h : Tyf Tryz.prog k 39 avs) : ∃ x : Reply, avs = x.cells ∧ x.wf := by
  cases k with
  | zero => exact h.elim
  | succ k =>
    unfold Tyf at h; rw [Tryz.underlying39] at h
    obtain ⟨parts, rfl, h⟩ := h
    replace h := all2_types h
    have h : All2 (fun f p => Tyf Tryz.prog k f p) [37, 2, 4, 2, 30, 3, 2] parts := h
    match parts, h with
    | [p0, p1, p2, p3, p4, p5, p6], ⟨h0, h1, h2, h3, h4, h5, h6, _⟩ =>
      obtain ⟨x0, rfl, w0⟩ := ty_i64 Tryz.underlying37 h0
      obtain ⟨x1, rfl, w1⟩ := ty_i64 Tryz.underlying2 h1
      obtain ⟨x2, rfl⟩ := ty_bool Tryz.underlying4 h2
      obtain ⟨x3, rfl, w3⟩ := ty_i64 Tryz.underlying2 h3
      obtain ⟨x4, rfl, w4⟩ : ∃ l : List Item, p4 = [.sl false 8 (l.map Item.av)] ∧ (l.length * 80 ≤ reachBytes ∧ ∀ a ∈ l, a.wf) := by
        have hc : Tryz.prog.cellsOf 164 = 8 := by kernel_rfl
        obtain ⟨l, h1, h2, h3⟩ := ty_slice Item.av Item.wf Tryz.underlying30 h4 (fun j cs _ hj => by
          obtain ⟨a, rfl, ha⟩ := ty_Item hj
          exact ⟨a, by rw [hc]; rfl, ha⟩)
        have hb : Tryz.prog.bytesOf 164 = 80 := by kernel_rfl
        rw [hc] at h1
        rw [hb] at h2
        exact ⟨l, h1, h2, h3⟩
      obtain ⟨x5, rfl, w5⟩ := ty_i64 Tryz.underlying3 h5
      obtain ⟨x6, rfl, w6⟩ := ty_i64 Tryz.underlying2 h6
      exact ⟨⟨x0, x1, x2, x3, x4, x5, x6⟩, rfl, ⟨w0, w1, w3, w4, w5, w6⟩⟩
structure Sess where
  client : Int
  sq : Int
  r : Reply
  deriving DecidableEq
def Sess.cells (x : Sess) : List AV := [.int .i64 x.client, .int .i64 x.sq] ++ (x.r.cells)
def Sess.av (x : Sess) : AV := .agg x.cells
def Sess.zero : Sess := ⟨0, 0, Reply.zero⟩
def Sess.wf (x : Sess) : Prop := I64 x.client ∧ I64 x.sq ∧ x.r.wf
theorem ty_Sess {k : Nat} {avs : List AV} (h : Tyf Tryz.prog k 180 avs) : ∃ x : Sess, avs = x.cells ∧ x.wf := by
  cases k with
  | zero => exact h.elim
  | succ k =>
    unfold Tyf at h; rw [Tryz.underlying180] at h
    obtain ⟨parts, rfl, h⟩ := h
    replace h := all2_types h
    have h : All2 (fun f p => Tyf Tryz.prog k f p) [2, 2, 39] parts := h
    match parts, h with
    | [p0, p1, p2], ⟨h0, h1, h2, _⟩ =>
      obtain ⟨x0, rfl, w0⟩ := ty_i64 Tryz.underlying2 h0
      obtain ⟨x1, rfl, w1⟩ := ty_i64 Tryz.underlying2 h1
      obtain ⟨x2, rfl, w2⟩ := ty_Reply h2
      exact ⟨⟨x0, x1, x2⟩, rfl, ⟨w0, w1, w2⟩⟩
structure Cmd where
  kind : Int
  key : List UInt8
  fin : List UInt8
  value : List UInt8
  lease : Int
  tTL : Int
  rev : Int
  cmps : List Cmp
  thn : List Op
  els : List Op
  epoch : Int
  tri : Int
  dst : Int
  done : Bool
  items : List Item
  sess : List Sess
  leases : List Lease
  deriving DecidableEq
def Cmd.cells (x : Cmd) : List AV := [.int .i64 x.kind, .str x.key, .str x.fin, .str x.value, .int .i64 x.lease, .int .i64 x.tTL, .int .i64 x.rev, .sl false 5 (x.cmps.map Cmp.av), .sl false 5 (x.thn.map Op.av), .sl false 5 (x.els.map Op.av), .int .i64 x.epoch, .int .i64 x.tri, .int .i64 x.dst, .bool x.done, .sl false 8 (x.items.map Item.av), .sl false 9 (x.sess.map Sess.av), .sl false 3 (x.leases.map Lease.av)]
def Cmd.av (x : Cmd) : AV := .agg x.cells
def Cmd.zero : Cmd := ⟨0, [], [], [], 0, 0, 0, [], [], [], 0, 0, 0, false, [], [], []⟩
def Cmd.wf (x : Cmd) : Prop := I64 x.kind ∧ x.key.length ≤ reachBytes ∧ x.fin.length ≤ reachBytes ∧ x.value.length ≤ reachBytes ∧ I64 x.lease ∧ I64 x.tTL ∧ I64 x.rev ∧ (x.cmps.length * 56 ≤ reachBytes ∧ ∀ a ∈ x.cmps, a.wf) ∧ (x.thn.length * 64 ≤ reachBytes ∧ ∀ a ∈ x.thn, a.wf) ∧ (x.els.length * 64 ≤ reachBytes ∧ ∀ a ∈ x.els, a.wf) ∧ I64 x.epoch ∧ I64 x.tri ∧ I64 x.dst ∧ (x.items.length * 80 ≤ reachBytes ∧ ∀ a ∈ x.items, a.wf) ∧ (x.sess.length * 88 ≤ reachBytes ∧ ∀ a ∈ x.sess, a.wf) ∧ (x.leases.length * 24 ≤ reachBytes ∧ ∀ a ∈ x.leases, a.wf)
theorem ty_Cmd {k : Nat} {avs : List AV} (h : Tyf Tryz.prog k 34 avs) : ∃ x : Cmd, avs = x.cells ∧ x.wf := by
  cases k with
  | zero => exact h.elim
  | succ k =>
    unfold Tyf at h; rw [Tryz.underlying34] at h
    obtain ⟨parts, rfl, h⟩ := h
    replace h := all2_types h
    have h : All2 (fun f p => Tyf Tryz.prog k f p) [3, 9, 9, 9, 2, 2, 2, 28, 29, 29, 2, 2, 2, 4, 30, 31, 32] parts := h
    match parts, h with
    | [p0, p1, p2, p3, p4, p5, p6, p7, p8, p9, p10, p11, p12, p13, p14, p15, p16], ⟨h0, h1, h2, h3, h4, h5, h6, h7, h8, h9, h10, h11, h12, h13, h14, h15, h16, _⟩ =>
      obtain ⟨x0, rfl, w0⟩ := ty_i64 Tryz.underlying3 h0
      obtain ⟨x1, rfl, w1⟩ := ty_str Tryz.underlying9 h1
      obtain ⟨x2, rfl, w2⟩ := ty_str Tryz.underlying9 h2
      obtain ⟨x3, rfl, w3⟩ := ty_str Tryz.underlying9 h3
      obtain ⟨x4, rfl, w4⟩ := ty_i64 Tryz.underlying2 h4
      obtain ⟨x5, rfl, w5⟩ := ty_i64 Tryz.underlying2 h5
      obtain ⟨x6, rfl, w6⟩ := ty_i64 Tryz.underlying2 h6
      obtain ⟨x7, rfl, w7⟩ : ∃ l : List Cmp, p7 = [.sl false 5 (l.map Cmp.av)] ∧ (l.length * 56 ≤ reachBytes ∧ ∀ a ∈ l, a.wf) := by
        have hc : Tryz.prog.cellsOf 237 = 5 := by kernel_rfl
        obtain ⟨l, h1, h2, h3⟩ := ty_slice Cmp.av Cmp.wf Tryz.underlying28 h7 (fun j cs _ hj => by
          obtain ⟨a, rfl, ha⟩ := ty_Cmp hj
          exact ⟨a, by rw [hc]; rfl, ha⟩)
        have hb : Tryz.prog.bytesOf 237 = 56 := by kernel_rfl
        rw [hc] at h1
        rw [hb] at h2
        exact ⟨l, h1, h2, h3⟩
      obtain ⟨x8, rfl, w8⟩ : ∃ l : List Op, p8 = [.sl false 5 (l.map Op.av)] ∧ (l.length * 64 ≤ reachBytes ∧ ∀ a ∈ l, a.wf) := by
        have hc : Tryz.prog.cellsOf 240 = 5 := by kernel_rfl
        obtain ⟨l, h1, h2, h3⟩ := ty_slice Op.av Op.wf Tryz.underlying29 h8 (fun j cs _ hj => by
          obtain ⟨a, rfl, ha⟩ := ty_Op hj
          exact ⟨a, by rw [hc]; rfl, ha⟩)
        have hb : Tryz.prog.bytesOf 240 = 64 := by kernel_rfl
        rw [hc] at h1
        rw [hb] at h2
        exact ⟨l, h1, h2, h3⟩
      obtain ⟨x9, rfl, w9⟩ : ∃ l : List Op, p9 = [.sl false 5 (l.map Op.av)] ∧ (l.length * 64 ≤ reachBytes ∧ ∀ a ∈ l, a.wf) := by
        have hc : Tryz.prog.cellsOf 240 = 5 := by kernel_rfl
        obtain ⟨l, h1, h2, h3⟩ := ty_slice Op.av Op.wf Tryz.underlying29 h9 (fun j cs _ hj => by
          obtain ⟨a, rfl, ha⟩ := ty_Op hj
          exact ⟨a, by rw [hc]; rfl, ha⟩)
        have hb : Tryz.prog.bytesOf 240 = 64 := by kernel_rfl
        rw [hc] at h1
        rw [hb] at h2
        exact ⟨l, h1, h2, h3⟩
      obtain ⟨x10, rfl, w10⟩ := ty_i64 Tryz.underlying2 h10
      obtain ⟨x11, rfl, w11⟩ := ty_i64 Tryz.underlying2 h11
      obtain ⟨x12, rfl, w12⟩ := ty_i64 Tryz.underlying2 h12
      obtain ⟨x13, rfl⟩ := ty_bool Tryz.underlying4 h13
      obtain ⟨x14, rfl, w14⟩ : ∃ l : List Item, p14 = [.sl false 8 (l.map Item.av)] ∧ (l.length * 80 ≤ reachBytes ∧ ∀ a ∈ l, a.wf) := by
        have hc : Tryz.prog.cellsOf 164 = 8 := by kernel_rfl
        obtain ⟨l, h1, h2, h3⟩ := ty_slice Item.av Item.wf Tryz.underlying30 h14 (fun j cs _ hj => by
          obtain ⟨a, rfl, ha⟩ := ty_Item hj
          exact ⟨a, by rw [hc]; rfl, ha⟩)
        have hb : Tryz.prog.bytesOf 164 = 80 := by kernel_rfl
        rw [hc] at h1
        rw [hb] at h2
        exact ⟨l, h1, h2, h3⟩
      obtain ⟨x15, rfl, w15⟩ : ∃ l : List Sess, p15 = [.sl false 9 (l.map Sess.av)] ∧ (l.length * 88 ≤ reachBytes ∧ ∀ a ∈ l, a.wf) := by
        have hc : Tryz.prog.cellsOf 180 = 9 := by kernel_rfl
        obtain ⟨l, h1, h2, h3⟩ := ty_slice Sess.av Sess.wf Tryz.underlying31 h15 (fun j cs _ hj => by
          obtain ⟨a, rfl, ha⟩ := ty_Sess hj
          exact ⟨a, by rw [hc]; rfl, ha⟩)
        have hb : Tryz.prog.bytesOf 180 = 88 := by kernel_rfl
        rw [hc] at h1
        rw [hb] at h2
        exact ⟨l, h1, h2, h3⟩
      obtain ⟨x16, rfl, w16⟩ : ∃ l : List Lease, p16 = [.sl false 3 (l.map Lease.av)] ∧ (l.length * 24 ≤ reachBytes ∧ ∀ a ∈ l, a.wf) := by
        have hc : Tryz.prog.cellsOf 255 = 3 := by kernel_rfl
        obtain ⟨l, h1, h2, h3⟩ := ty_slice Lease.av Lease.wf Tryz.underlying32 h16 (fun j cs _ hj => by
          obtain ⟨a, rfl, ha⟩ := ty_Lease hj
          exact ⟨a, by rw [hc]; rfl, ha⟩)
        have hb : Tryz.prog.bytesOf 255 = 24 := by kernel_rfl
        rw [hc] at h1
        rw [hb] at h2
        exact ⟨l, h1, h2, h3⟩
      exact ⟨⟨x0, x1, x2, x3, x4, x5, x6, x7, x8, x9, x10, x11, x12, x13, x14, x15, x16⟩, rfl, ⟨w0, w1, w2, w3, w4, w5, w6, w7, w8, w9, w10, w11, w12, w14, w15, w16⟩⟩
structure Move where
  phase : Int
  epoch : Int
  tri : Int
  src : List UInt8
  dst : List UInt8
  pin : Int
  cursor : List UInt8
  ckpt : Int
  frm : Int
  cut : Int
  deriving DecidableEq
def Move.cells (x : Move) : List AV := [.int .i64 x.phase, .int .i64 x.epoch, .int .i64 x.tri, .str x.src, .str x.dst, .int .i64 x.pin, .str x.cursor, .int .i64 x.ckpt, .int .i64 x.frm, .int .i64 x.cut]
def Move.av (x : Move) : AV := .agg x.cells
def Move.zero : Move := ⟨0, 0, 0, [], [], 0, [], 0, 0, 0⟩
def Move.wf (x : Move) : Prop := I64 x.phase ∧ I64 x.epoch ∧ I64 x.tri ∧ x.src.length ≤ reachBytes ∧ x.dst.length ≤ reachBytes ∧ I64 x.pin ∧ x.cursor.length ≤ reachBytes ∧ I64 x.ckpt ∧ I64 x.frm ∧ I64 x.cut
theorem ty_Move {k : Nat} {avs : List AV} (h : Tyf Tryz.prog k 44 avs) : ∃ x : Move, avs = x.cells ∧ x.wf := by
  cases k with
  | zero => exact h.elim
  | succ k =>
    unfold Tyf at h; rw [Tryz.underlying44] at h
    obtain ⟨parts, rfl, h⟩ := h
    replace h := all2_types h
    have h : All2 (fun f p => Tyf Tryz.prog k f p) [3, 2, 2, 9, 9, 2, 9, 2, 2, 2] parts := h
    match parts, h with
    | [p0, p1, p2, p3, p4, p5, p6, p7, p8, p9], ⟨h0, h1, h2, h3, h4, h5, h6, h7, h8, h9, _⟩ =>
      obtain ⟨x0, rfl, w0⟩ := ty_i64 Tryz.underlying3 h0
      obtain ⟨x1, rfl, w1⟩ := ty_i64 Tryz.underlying2 h1
      obtain ⟨x2, rfl, w2⟩ := ty_i64 Tryz.underlying2 h2
      obtain ⟨x3, rfl, w3⟩ := ty_str Tryz.underlying9 h3
      obtain ⟨x4, rfl, w4⟩ := ty_str Tryz.underlying9 h4
      obtain ⟨x5, rfl, w5⟩ := ty_i64 Tryz.underlying2 h5
      obtain ⟨x6, rfl, w6⟩ := ty_str Tryz.underlying9 h6
      obtain ⟨x7, rfl, w7⟩ := ty_i64 Tryz.underlying2 h7
      obtain ⟨x8, rfl, w8⟩ := ty_i64 Tryz.underlying2 h8
      obtain ⟨x9, rfl, w9⟩ := ty_i64 Tryz.underlying2 h9
      exact ⟨⟨x0, x1, x2, x3, x4, x5, x6, x7, x8, x9⟩, rfl, ⟨w0, w1, w2, w3, w4, w5, w6, w7, w8, w9⟩⟩
structure Hand where
  epoch : Int
  rev : Int
  sess : List Sess
  leases : List Lease
  deriving DecidableEq
def Hand.cells (x : Hand) : List AV := [.int .i64 x.epoch, .int .i64 x.rev, .sl false 9 (x.sess.map Sess.av), .sl false 3 (x.leases.map Lease.av)]
def Hand.av (x : Hand) : AV := .agg x.cells
def Hand.zero : Hand := ⟨0, 0, [], []⟩
def Hand.wf (x : Hand) : Prop := I64 x.epoch ∧ I64 x.rev ∧ (x.sess.length * 88 ≤ reachBytes ∧ ∀ a ∈ x.sess, a.wf) ∧ (x.leases.length * 24 ≤ reachBytes ∧ ∀ a ∈ x.leases, a.wf)
theorem ty_Hand {k : Nat} {avs : List AV} (h : Tyf Tryz.prog k 42 avs) : ∃ x : Hand, avs = x.cells ∧ x.wf := by
  cases k with
  | zero => exact h.elim
  | succ k =>
    unfold Tyf at h; rw [Tryz.underlying42] at h
    obtain ⟨parts, rfl, h⟩ := h
    replace h := all2_types h
    have h : All2 (fun f p => Tyf Tryz.prog k f p) [2, 2, 31, 32] parts := h
    match parts, h with
    | [p0, p1, p2, p3], ⟨h0, h1, h2, h3, _⟩ =>
      obtain ⟨x0, rfl, w0⟩ := ty_i64 Tryz.underlying2 h0
      obtain ⟨x1, rfl, w1⟩ := ty_i64 Tryz.underlying2 h1
      obtain ⟨x2, rfl, w2⟩ : ∃ l : List Sess, p2 = [.sl false 9 (l.map Sess.av)] ∧ (l.length * 88 ≤ reachBytes ∧ ∀ a ∈ l, a.wf) := by
        have hc : Tryz.prog.cellsOf 180 = 9 := by kernel_rfl
        obtain ⟨l, h1, h2, h3⟩ := ty_slice Sess.av Sess.wf Tryz.underlying31 h2 (fun j cs _ hj => by
          obtain ⟨a, rfl, ha⟩ := ty_Sess hj
          exact ⟨a, by rw [hc]; rfl, ha⟩)
        have hb : Tryz.prog.bytesOf 180 = 88 := by kernel_rfl
        rw [hc] at h1
        rw [hb] at h2
        exact ⟨l, h1, h2, h3⟩
      obtain ⟨x3, rfl, w3⟩ : ∃ l : List Lease, p3 = [.sl false 3 (l.map Lease.av)] ∧ (l.length * 24 ≤ reachBytes ∧ ∀ a ∈ l, a.wf) := by
        have hc : Tryz.prog.cellsOf 255 = 3 := by kernel_rfl
        obtain ⟨l, h1, h2, h3⟩ := ty_slice Lease.av Lease.wf Tryz.underlying32 h3 (fun j cs _ hj => by
          obtain ⟨a, rfl, ha⟩ := ty_Lease hj
          exact ⟨a, by rw [hc]; rfl, ha⟩)
        have hb : Tryz.prog.bytesOf 255 = 24 := by kernel_rfl
        rw [hc] at h1
        rw [hb] at h2
        exact ⟨l, h1, h2, h3⟩
      exact ⟨⟨x0, x1, x2, x3⟩, rfl, ⟨w0, w1, w2, w3⟩⟩
structure Job where
  client : Int
  sq : Int
  c : Cmd
  deriving DecidableEq
def Job.cells (x : Job) : List AV := [.int .i64 x.client, .int .i64 x.sq] ++ (x.c.cells)
def Job.av (x : Job) : AV := .agg x.cells
def Job.zero : Job := ⟨0, 0, Cmd.zero⟩
def Job.wf (x : Job) : Prop := I64 x.client ∧ I64 x.sq ∧ x.c.wf
theorem ty_Job {k : Nat} {avs : List AV} (h : Tyf Tryz.prog k 54 avs) : ∃ x : Job, avs = x.cells ∧ x.wf := by
  cases k with
  | zero => exact h.elim
  | succ k =>
    unfold Tyf at h; rw [Tryz.underlying54] at h
    obtain ⟨parts, rfl, h⟩ := h
    replace h := all2_types h
    have h : All2 (fun f p => Tyf Tryz.prog k f p) [2, 2, 34] parts := h
    match parts, h with
    | [p0, p1, p2], ⟨h0, h1, h2, _⟩ =>
      obtain ⟨x0, rfl, w0⟩ := ty_i64 Tryz.underlying2 h0
      obtain ⟨x1, rfl, w1⟩ := ty_i64 Tryz.underlying2 h1
      obtain ⟨x2, rfl, w2⟩ := ty_Cmd h2
      exact ⟨⟨x0, x1, x2⟩, rfl, ⟨w0, w1, w2⟩⟩
theorem ty_Job36 {k : Nat} {avs : List AV} (h : Tyf Tryz.prog k 36 avs) : ∃ x : Job, avs = x.cells ∧ x.wf := by
  cases k with
  | zero => exact h.elim
  | succ k =>
    unfold Tyf at h; rw [Tryz.underlying36] at h
    obtain ⟨parts, rfl, h⟩ := h
    replace h := all2_types h
    have h : All2 (fun f p => Tyf Tryz.prog k f p) [2, 2, 34] parts := h
    match parts, h with
    | [p0, p1, p2], ⟨h0, h1, h2, _⟩ =>
      obtain ⟨x0, rfl, w0⟩ := ty_i64 Tryz.underlying2 h0
      obtain ⟨x1, rfl, w1⟩ := ty_i64 Tryz.underlying2 h1
      obtain ⟨x2, rfl, w2⟩ := ty_Cmd h2
      exact ⟨⟨x0, x1, x2⟩, rfl, ⟨w0, w1, w2⟩⟩
structure TMsg where
  kind : Int
  rid : Int
  raft : RMsg
  job : Job
  client : Int
  frm : List UInt8
  fin : List UInt8
  rev : Int
  most : Int
  err : Int
  hint : Int
  reply : Reply
  batches : List Batch
  items : List Item
  done : Bool
  handed : Hand
  move : Move
  deriving DecidableEq
def TMsg.cells (x : TMsg) : List AV := [.int .i64 x.kind, .int .i64 x.rid] ++ (x.raft.cells ++ (x.job.cells ++ ([.int .i64 x.client, .str x.frm, .str x.fin, .int .i64 x.rev, .int .i64 x.most, .int .i64 x.err, .int .i64 x.hint] ++ (x.reply.cells ++ ([.sl false 2 (x.batches.map Batch.av), .sl false 8 (x.items.map Item.av), .bool x.done] ++ (x.handed.cells ++ (x.move.cells)))))))
def TMsg.av (x : TMsg) : AV := .agg x.cells
def TMsg.zero : TMsg := ⟨0, 0, RMsg.zero, Job.zero, 0, [], [], 0, 0, 0, 0, Reply.zero, [], [], false, Hand.zero, Move.zero⟩
def TMsg.wf (x : TMsg) : Prop := I64 x.kind ∧ I64 x.rid ∧ x.raft.wf ∧ x.job.wf ∧ I64 x.client ∧ x.frm.length ≤ reachBytes ∧ x.fin.length ≤ reachBytes ∧ I64 x.rev ∧ I64 x.most ∧ I64 x.err ∧ I64 x.hint ∧ x.reply.wf ∧ (x.batches.length * 32 ≤ reachBytes ∧ ∀ a ∈ x.batches, a.wf) ∧ (x.items.length * 80 ≤ reachBytes ∧ ∀ a ∈ x.items, a.wf) ∧ x.handed.wf ∧ x.move.wf
theorem ty_TMsg {k : Nat} {avs : List AV} (h : Tyf Tryz.prog k 56 avs) : ∃ x : TMsg, avs = x.cells ∧ x.wf := by
  cases k with
  | zero => exact h.elim
  | succ k =>
    unfold Tyf at h; rw [Tryz.underlying56] at h
    obtain ⟨parts, rfl, h⟩ := h
    replace h := all2_types h
    have h : All2 (fun f p => Tyf Tryz.prog k f p) [3, 2, 53, 54, 2, 9, 9, 2, 3, 37, 3, 39, 40, 30, 4, 42, 44] parts := h
    match parts, h with
    | [p0, p1, p2, p3, p4, p5, p6, p7, p8, p9, p10, p11, p12, p13, p14, p15, p16], ⟨h0, h1, h2, h3, h4, h5, h6, h7, h8, h9, h10, h11, h12, h13, h14, h15, h16, _⟩ =>
      obtain ⟨x0, rfl, w0⟩ := ty_i64 Tryz.underlying3 h0
      obtain ⟨x1, rfl, w1⟩ := ty_i64 Tryz.underlying2 h1
      obtain ⟨x2, rfl, w2⟩ := ty_RMsg h2
      obtain ⟨x3, rfl, w3⟩ := ty_Job h3
      obtain ⟨x4, rfl, w4⟩ := ty_i64 Tryz.underlying2 h4
      obtain ⟨x5, rfl, w5⟩ := ty_str Tryz.underlying9 h5
      obtain ⟨x6, rfl, w6⟩ := ty_str Tryz.underlying9 h6
      obtain ⟨x7, rfl, w7⟩ := ty_i64 Tryz.underlying2 h7
      obtain ⟨x8, rfl, w8⟩ := ty_i64 Tryz.underlying3 h8
      obtain ⟨x9, rfl, w9⟩ := ty_i64 Tryz.underlying37 h9
      obtain ⟨x10, rfl, w10⟩ := ty_i64 Tryz.underlying3 h10
      obtain ⟨x11, rfl, w11⟩ := ty_Reply h11
      obtain ⟨x12, rfl, w12⟩ : ∃ l : List Batch, p12 = [.sl false 2 (l.map Batch.av)] ∧ (l.length * 32 ≤ reachBytes ∧ ∀ a ∈ l, a.wf) := by
        have hc : Tryz.prog.cellsOf 152 = 2 := by kernel_rfl
        obtain ⟨l, h1, h2, h3⟩ := ty_slice Batch.av Batch.wf Tryz.underlying40 h12 (fun j cs _ hj => by
          obtain ⟨a, rfl, ha⟩ := ty_Batch hj
          exact ⟨a, by rw [hc]; rfl, ha⟩)
        have hb : Tryz.prog.bytesOf 152 = 32 := by kernel_rfl
        rw [hc] at h1
        rw [hb] at h2
        exact ⟨l, h1, h2, h3⟩
      obtain ⟨x13, rfl, w13⟩ : ∃ l : List Item, p13 = [.sl false 8 (l.map Item.av)] ∧ (l.length * 80 ≤ reachBytes ∧ ∀ a ∈ l, a.wf) := by
        have hc : Tryz.prog.cellsOf 164 = 8 := by kernel_rfl
        obtain ⟨l, h1, h2, h3⟩ := ty_slice Item.av Item.wf Tryz.underlying30 h13 (fun j cs _ hj => by
          obtain ⟨a, rfl, ha⟩ := ty_Item hj
          exact ⟨a, by rw [hc]; rfl, ha⟩)
        have hb : Tryz.prog.bytesOf 164 = 80 := by kernel_rfl
        rw [hc] at h1
        rw [hb] at h2
        exact ⟨l, h1, h2, h3⟩
      obtain ⟨x14, rfl⟩ := ty_bool Tryz.underlying4 h14
      obtain ⟨x15, rfl, w15⟩ := ty_Hand h15
      obtain ⟨x16, rfl, w16⟩ := ty_Move h16
      exact ⟨⟨x0, x1, x2, x3, x4, x5, x6, x7, x8, x9, x10, x11, x12, x13, x14, x15, x16⟩, rfl, ⟨w0, w1, w2, w3, w4, w5, w6, w7, w8, w9, w10, w11, w12, w13, w15, w16⟩⟩
theorem ty_TMsg46 {k : Nat} {avs : List AV} (h : Tyf Tryz.prog k 46 avs) : ∃ x : TMsg, avs = x.cells ∧ x.wf := by
  cases k with
  | zero => exact h.elim
  | succ k =>
    unfold Tyf at h; rw [Tryz.underlying46] at h
    obtain ⟨parts, rfl, h⟩ := h
    replace h := all2_types h
    have h : All2 (fun f p => Tyf Tryz.prog k f p) [3, 2, 27, 36, 2, 9, 9, 2, 3, 37, 3, 39, 40, 30, 4, 42, 44] parts := h
    match parts, h with
    | [p0, p1, p2, p3, p4, p5, p6, p7, p8, p9, p10, p11, p12, p13, p14, p15, p16], ⟨h0, h1, h2, h3, h4, h5, h6, h7, h8, h9, h10, h11, h12, h13, h14, h15, h16, _⟩ =>
      obtain ⟨x0, rfl, w0⟩ := ty_i64 Tryz.underlying3 h0
      obtain ⟨x1, rfl, w1⟩ := ty_i64 Tryz.underlying2 h1
      obtain ⟨x2, rfl, w2⟩ := ty_RMsg27 h2
      obtain ⟨x3, rfl, w3⟩ := ty_Job36 h3
      obtain ⟨x4, rfl, w4⟩ := ty_i64 Tryz.underlying2 h4
      obtain ⟨x5, rfl, w5⟩ := ty_str Tryz.underlying9 h5
      obtain ⟨x6, rfl, w6⟩ := ty_str Tryz.underlying9 h6
      obtain ⟨x7, rfl, w7⟩ := ty_i64 Tryz.underlying2 h7
      obtain ⟨x8, rfl, w8⟩ := ty_i64 Tryz.underlying3 h8
      obtain ⟨x9, rfl, w9⟩ := ty_i64 Tryz.underlying37 h9
      obtain ⟨x10, rfl, w10⟩ := ty_i64 Tryz.underlying3 h10
      obtain ⟨x11, rfl, w11⟩ := ty_Reply h11
      obtain ⟨x12, rfl, w12⟩ : ∃ l : List Batch, p12 = [.sl false 2 (l.map Batch.av)] ∧ (l.length * 32 ≤ reachBytes ∧ ∀ a ∈ l, a.wf) := by
        have hc : Tryz.prog.cellsOf 152 = 2 := by kernel_rfl
        obtain ⟨l, h1, h2, h3⟩ := ty_slice Batch.av Batch.wf Tryz.underlying40 h12 (fun j cs _ hj => by
          obtain ⟨a, rfl, ha⟩ := ty_Batch hj
          exact ⟨a, by rw [hc]; rfl, ha⟩)
        have hb : Tryz.prog.bytesOf 152 = 32 := by kernel_rfl
        rw [hc] at h1
        rw [hb] at h2
        exact ⟨l, h1, h2, h3⟩
      obtain ⟨x13, rfl, w13⟩ : ∃ l : List Item, p13 = [.sl false 8 (l.map Item.av)] ∧ (l.length * 80 ≤ reachBytes ∧ ∀ a ∈ l, a.wf) := by
        have hc : Tryz.prog.cellsOf 164 = 8 := by kernel_rfl
        obtain ⟨l, h1, h2, h3⟩ := ty_slice Item.av Item.wf Tryz.underlying30 h13 (fun j cs _ hj => by
          obtain ⟨a, rfl, ha⟩ := ty_Item hj
          exact ⟨a, by rw [hc]; rfl, ha⟩)
        have hb : Tryz.prog.bytesOf 164 = 80 := by kernel_rfl
        rw [hc] at h1
        rw [hb] at h2
        exact ⟨l, h1, h2, h3⟩
      obtain ⟨x14, rfl⟩ := ty_bool Tryz.underlying4 h14
      obtain ⟨x15, rfl, w15⟩ := ty_Hand h15
      obtain ⟨x16, rfl, w16⟩ := ty_Move h16
      exact ⟨⟨x0, x1, x2, x3, x4, x5, x6, x7, x8, x9, x10, x11, x12, x13, x14, x15, x16⟩, rfl, ⟨w0, w1, w2, w3, w4, w5, w6, w7, w8, w9, w10, w11, w12, w13, w15, w16⟩⟩
end Go.V

/- L3: wants and acts of proxies as structures. Printed by a program (wip/structs.py). -/
namespace Go.V
set_option maxRecDepth 100000
set_option maxHeartbeats 2000000
open Go.Proofs
structure Want where
  read : Bool
  c : Cmd
  frm : List UInt8
  fin : List UInt8
  rev : Int
  most : Int
  deriving DecidableEq
def Want.cells (x : Want) : List AV := [.bool x.read] ++ (x.c.cells ++ ([.str x.frm, .str x.fin, .int .i64 x.rev, .int .i64 x.most]))
def Want.av (x : Want) : AV := .agg x.cells
def Want.zero : Want := ⟨false, Cmd.zero, [], [], 0, 0⟩
def Want.wf (x : Want) : Prop := x.c.wf ∧ x.frm.length ≤ reachBytes ∧ x.fin.length ≤ reachBytes ∧ I64 x.rev ∧ I64 x.most
theorem ty_Want {k : Nat} {avs : List AV} (h : Tyf Tryz.prog k 133 avs) : ∃ x : Want, avs = x.cells ∧ x.wf := by
  cases k with
  | zero => exact h.elim
  | succ k =>
    unfold Tyf at h; rw [Tryz.underlying133] at h
    obtain ⟨parts, rfl, h⟩ := h
    replace h := all2_types h
    have h : All2 (fun f p => Tyf Tryz.prog k f p) [4, 34, 9, 9, 2, 3] parts := h
    match parts, h with
    | [p0, p1, p2, p3, p4, p5], ⟨h0, h1, h2, h3, h4, h5, _⟩ =>
      obtain ⟨x0, rfl⟩ := ty_bool Tryz.underlying4 h0
      obtain ⟨x1, rfl, w1⟩ := ty_Cmd h1
      obtain ⟨x2, rfl, w2⟩ := ty_str Tryz.underlying9 h2
      obtain ⟨x3, rfl, w3⟩ := ty_str Tryz.underlying9 h3
      obtain ⟨x4, rfl, w4⟩ := ty_i64 Tryz.underlying2 h4
      obtain ⟨x5, rfl, w5⟩ := ty_i64 Tryz.underlying3 h5
      exact ⟨⟨x0, x1, x2, x3, x4, x5⟩, rfl, ⟨w1, w2, w3, w4, w5⟩⟩
theorem ty_Want126 {k : Nat} {avs : List AV} (h : Tyf Tryz.prog k 126 avs) : ∃ x : Want, avs = x.cells ∧ x.wf := by
  cases k with
  | zero => exact h.elim
  | succ k =>
    unfold Tyf at h; rw [Tryz.underlying126] at h
    obtain ⟨parts, rfl, h⟩ := h
    replace h := all2_types h
    have h : All2 (fun f p => Tyf Tryz.prog k f p) [4, 34, 9, 9, 2, 3] parts := h
    match parts, h with
    | [p0, p1, p2, p3, p4, p5], ⟨h0, h1, h2, h3, h4, h5, _⟩ =>
      obtain ⟨x0, rfl⟩ := ty_bool Tryz.underlying4 h0
      obtain ⟨x1, rfl, w1⟩ := ty_Cmd h1
      obtain ⟨x2, rfl, w2⟩ := ty_str Tryz.underlying9 h2
      obtain ⟨x3, rfl, w3⟩ := ty_str Tryz.underlying9 h3
      obtain ⟨x4, rfl, w4⟩ := ty_i64 Tryz.underlying2 h4
      obtain ⟨x5, rfl, w5⟩ := ty_i64 Tryz.underlying3 h5
      exact ⟨⟨x0, x1, x2, x3, x4, x5⟩, rfl, ⟨w1, w2, w3, w4, w5⟩⟩
structure PAct where
  kind : Int
  w : Want
  since : Int
  frm : Int
  m : TMsg
  deriving DecidableEq
def PAct.cells (x : PAct) : List AV := [.int .u8 x.kind] ++ (x.w.cells ++ ([.int .i64 x.since, .int .i64 x.frm] ++ (x.m.cells)))
def PAct.av (x : PAct) : AV := .agg x.cells
def PAct.zero : PAct := ⟨0, Want.zero, 0, 0, TMsg.zero⟩
def PAct.wf (x : PAct) : Prop := IK .u8 x.kind ∧ x.w.wf ∧ I64 x.since ∧ I64 x.frm ∧ x.m.wf
theorem ty_PAct {k : Nat} {avs : List AV} (h : Tyf Tryz.prog k 135 avs) : ∃ x : PAct, avs = x.cells ∧ x.wf := by
  cases k with
  | zero => exact h.elim
  | succ k =>
    unfold Tyf at h; rw [Tryz.underlying135] at h
    obtain ⟨parts, rfl, h⟩ := h
    replace h := all2_types h
    have h : All2 (fun f p => Tyf Tryz.prog k f p) [5, 133, 2, 3, 46] parts := h
    match parts, h with
    | [p0, p1, p2, p3, p4], ⟨h0, h1, h2, h3, h4, _⟩ =>
      obtain ⟨x0, rfl, w0⟩ := ty_int Tryz.underlying5 h0
      obtain ⟨x1, rfl, w1⟩ := ty_Want h1
      obtain ⟨x2, rfl, w2⟩ := ty_i64 Tryz.underlying2 h2
      obtain ⟨x3, rfl, w3⟩ := ty_i64 Tryz.underlying3 h3
      obtain ⟨x4, rfl, w4⟩ := ty_TMsg46 h4
      exact ⟨⟨x0, x1, x2, x3, x4⟩, rfl, ⟨w0, w1, w2, w3, w4⟩⟩
end Go.V
