/- V1: the values, the ghost state and the meaning of a call and of code in the friendly semantics. No program in sight. -/
import Derived.Below
import Derived.Calls
import GoSem.Op.String
import Derived.Laws.CopyRow
import Derived.WideLaws
import Derived.Laws.Cells
import Derived.Lib.AppendStr
import Derived.Laws.Strings
import Derived.Laws.BytesArg
import Derived.Lib.ConvBytes
import Derived.Deep.AppendSrc
set_option linter.unusedVariables false
set_option linter.unusedSimpArgs false
namespace Go.V

/-- A value as the friendly semantics sees it. -/
inductive AV where
  | undef
  | bool (b : Bool)
  | int (k : IntKind) (n : Int)
  | str (s : List UInt8)
  | agg (cs : List AV)
  | tup (vs : List AV)
  | sl (tip : Bool) (sz : Nat) (es : List AV)
  | msl (sz id off len : Nat)
  | nilp
  | lp (b off : Nat)
  | ref (id off : Nat)
  | ip (v : AV) (off : Nat)
  | fn (f : Nat) (first cap : List AV)
  | nilfn
  | nils (sz : Nat)
instance : Inhabited AV := ⟨.undef⟩

def AV.cells : AV → List AV
  | .agg cs => cs
  | v => [v]

def scal : AV → Bool
  | .undef | .agg _ | .tup _ | .lp _ _ => false
  | _ => true
def scalAll : List AV → Bool
  | [] => true
  | v :: r => match scal v with | true => scalAll r | false => false

abbrev Env := Nat → AV
abbrev Bx := Nat → Option (List AV)
abbrev St := List (Option (List AV))
def upd {α : Type} (e : Nat → α) (t : Nat) (v : α) : Nat → α := fun t' => if t' = t then v else e t'

abbrev Mem := Nat → Nat → Option Value

mutual
inductive Rep (I : Mem) (σ : List Nat) : AV → Value → Prop
  | undef {cv : Value} : Rep I σ .undef cv
  | bool {b : Bool} : Rep I σ (.bool b) (.bool b)
  | int {k : IntKind} {n : Int} : Rep I σ (.int k n) (.int k n)
  | str {s : List UInt8} : Rep I σ (.str s) (.string ⟨⟨s⟩⟩)
  | agg {cs : List AV} {vs : List Value} : Reps I σ cs vs → Rep I σ (.agg cs) (.agg ⟨vs⟩)
  | tup {cs : List AV} {vs : List Value} : Reps I σ cs vs → Rep I σ (.tup cs) (.tuple ⟨vs⟩)
  | snil {t : Bool} {sz : Nat} : Rep I σ (.sl t sz []) (.slice none 0 0)
  | nils {sz : Nat} : Rep I σ (.nils sz) (.slice none 0 0)
  | spot {t : Bool} {sz b o s : Nat} : Rep I σ (.sl t sz []) (.slice (some ⟨b, o, some s⟩) 0 0)
  | sl {t : Bool} {sz b o n cap : Nat} {es : List AV} : Row I σ es b o sz → n = es.length → n ≤ cap → Rep I σ (.sl t sz es) (.slice (some ⟨b, o, none⟩) n cap)
  | msl {sz id off len b cap : Nat} : σ[id]? = some b → len = cap → Rep I σ (.msl sz id off len) (.slice (some ⟨b, off, none⟩) len cap)
  | nilp : Rep I σ .nilp (.pointer none)
  | ref {id off b : Nat} : σ[id]? = some b → Rep I σ (.ref id off) (.pointer (some ⟨b, off, none⟩))
  | ip {v : AV} {off b o : Nat} : RepAt I σ v b o → Rep I σ (.ip v off) (.pointer (some ⟨b, o + off, none⟩))
  | nilfn : Rep I σ .nilfn .nilFunc
  | fn {f : Nat} {first cap : List AV} {vs us : List Value} : Reps I σ first vs → Reps I σ cap us → Rep I σ (.fn f first cap) (.func (.func f) ⟨vs⟩ ⟨us⟩)
inductive Reps (I : Mem) (σ : List Nat) : List AV → List Value → Prop
  | nil : Reps I σ [] []
  | cons {v : AV} {cv : Value} {vs : List AV} {cvs : List Value} : Rep I σ v cv → Reps I σ vs cvs → Reps I σ (v :: vs) (cv :: cvs)
/-- The cells of a value lie in the immutable memory from an address on. -/
inductive RepAt (I : Mem) (σ : List Nat) : AV → Nat → Nat → Prop
  | mk {v : AV} {b o : Nat} {cvs : List Value} : Reps I σ v.cells cvs → (∀ j cv, cvs[j]? = some cv → I b (o + j) = some cv) → RepAt I σ v b o
inductive Row (I : Mem) (σ : List Nat) : List AV → Nat → Nat → Nat → Prop
  | nil {b o sz : Nat} : Row I σ [] b o sz
  | cons {v : AV} {es : List AV} {b o sz : Nat} : v.cells.length = sz → 0 < sz → scalAll v.cells = true → RepAt I σ v b o → Row I σ es b (o + sz) sz → Row I σ (v :: es) b o sz
end

/-- More immutable memory, more objects. -/
def MemLe (I I' : Mem) : Prop := ∀ b o v, I b o = some v → I' b o = some v
theorem MemLe.refl (I : Mem) : MemLe I I := fun _ _ _ h => h
theorem MemLe.trans {I I' I'' : Mem} (h : MemLe I I') (k : MemLe I' I'') : MemLe I I'' := fun b o v hv => k b o v (h b o v hv)
theorem prefix_get {α : Type} {l l' : List α} (h : l <+: l') {i : Nat} {a : α} (ha : l[i]? = some a) : l'[i]? = some a := by
  obtain ⟨r, rfl⟩ := h
  rw [List.getElem?_append_left (List.getElem?_eq_some_iff.1 ha).1]
  exact ha

mutual
theorem Rep.mono {I I' : Mem} {σ σ' : List Nat} (hI : MemLe I I') (hσ : σ <+: σ') : ∀ {v : AV} {cv : Value}, Rep I σ v cv → Rep I' σ' v cv
  | _, _, .undef => .undef
  | _, _, .bool => .bool
  | _, _, .int => .int
  | _, _, .str => .str
  | _, _, .agg h => .agg (Reps.mono hI hσ h)
  | _, _, .tup h => .tup (Reps.mono hI hσ h)
  | _, _, .snil => .snil
  | _, _, .spot => .spot
  | _, _, .nils => .nils
  | _, _, .sl h hn hc => .sl (Row.mono hI hσ h) hn hc
  | _, _, .msl h hc => .msl (prefix_get hσ h) hc
  | _, _, .nilp => .nilp
  | _, _, .ref h => .ref (prefix_get hσ h)
  | _, _, .ip h => .ip (RepAt.mono hI hσ h)
  | _, _, .nilfn => .nilfn
  | _, _, .fn h k => .fn (Reps.mono hI hσ h) (Reps.mono hI hσ k)
theorem Reps.mono {I I' : Mem} {σ σ' : List Nat} (hI : MemLe I I') (hσ : σ <+: σ') : ∀ {vs : List AV} {cvs : List Value}, Reps I σ vs cvs → Reps I' σ' vs cvs
  | _, _, .nil => .nil
  | _, _, .cons h k => .cons (Rep.mono hI hσ h) (Reps.mono hI hσ k)
theorem RepAt.mono {I I' : Mem} {σ σ' : List Nat} (hI : MemLe I I') (hσ : σ <+: σ') : ∀ {v : AV} {b o : Nat}, RepAt I σ v b o → RepAt I' σ' v b o
  | _, _, _, .mk h k => .mk (Reps.mono hI hσ h) (fun j cv hj => hI _ _ _ (k j cv hj))
theorem Row.mono {I I' : Mem} {σ σ' : List Nat} (hI : MemLe I I') (hσ : σ <+: σ') : ∀ {es : List AV} {b o sz : Nat}, Row I σ es b o sz → Row I' σ' es b o sz
  | _, _, _, _, .nil => .nil
  | _, _, _, _, .cons h h0 hs k r => .cons h h0 hs (RepAt.mono hI hσ k) (Row.mono hI hσ r)
end

/-- Who may write a block: a local box, an object of the store; or who may append behind what a slice holds: the one place where that slice stands. -/
inductive Loc where
  | box (t : Nat) | tt (t : Nat) | bt (t j : Nat) | obj (id : Nat) | ot (id j : Nat) | ret
  deriving DecidableEq
def Loc.isLocal : Loc → Bool
  | .obj _ | .ot _ _ => false
  | _ => true
def Loc.isTip : Loc → Bool
  | .box _ | .obj _ => false
  | _ => true

structure Base where
  I : Mem
  σ : List Nat
  Fr : Nat → Prop
  w : World

structure G where
  I : Mem
  σ : List Nat
  own : Nat → Option Loc
  β : Nat → Nat

/-- A slice that may be appended to at its place. -/
def TipAt (g : G) (w : World) (l : Loc) (sz : Nat) (es : List AV) (cv : Value) : Prop :=
  (∃ q, cv = .slice q 0 0) ∨ ∃ b o cap, cv = .slice (some ⟨b, o, none⟩) es.length cap ∧ (cap = es.length ∨
    (g.own b = some l ∧ (∃ vs ty, w.heap[b]? = some (.cells vs ty (0, 0)) ∧ o + cap * sz ≤ vs.size) ∧ ∀ o', g.I b o' ≠ none → o' < o + es.length * sz))

/-- A block that holds cells which may be written. -/
def BlockRep (g : G) (w : World) (l : Loc) (lt : Nat → Loc) (blk : Nat) (cs : List AV) : Prop :=
  g.own blk = some l ∧ ∃ vs ty, w.heap[blk]? = some (.cells ⟨vs⟩ ty (0, 0)) ∧ Reps g.I g.σ cs vs ∧
    ∀ (j sz : Nat) (es : List AV) (cv : Value), cs[j]? = some (.sl true sz es) → vs[j]? = some cv → TipAt g w (lt j) sz es cv

structure Glob (B : Base) (g : G) (st : St) (w : World) : Prop where
  hI : MemLe B.I g.I
  hσ : B.σ <+: g.σ
  fr : ∀ b, B.Fr b → w.heap[b]? = B.w.heap[b]? ∧ b < B.w.heap.size ∧ g.own b = none
  size : B.w.heap.size ≤ w.heap.size
  os : w.os = B.w.os
  tape : w.tape = B.w.tape
  output : w.output = B.w.output
  imm : ∀ b o v, g.I b o = some v → w.cell? ⟨b, o, none⟩ = some v
  immOwn : ∀ b o l, g.I b o ≠ none → g.own b = some l → l.isTip = true
  ownlt : ∀ b l, g.own b = some l → b < w.heap.size
  newI : ∀ b o, g.I b o ≠ none → B.I b o = none → ¬ B.Fr b
  objs : ∀ id cs, st[id]? = some (some cs) → ∃ blk, g.σ[id]? = some blk ∧ BlockRep g w (.obj id) (fun j => .ot id j) blk cs
  len : g.σ.length = st.length

def RepT (g : G) (bx : Bx) : AV → Value → Prop
  | .lp b off, cv => (bx b).isSome = true ∧ cv = .pointer (some ⟨g.β b, off, none⟩)
  | v, cv => Rep g.I g.σ v cv

structure Rel (n : Nat) (B : Base) (g : G) (e : Env) (bx : Bx) (st : St) (a : Act) (w : World) : Prop where
  glob : Glob B g st w
  nt : a.tmps.size = n
  defers : a.defers = []
  tmps : ∀ t, RepT g bx (e t) (a.tmps.getD t undef)
  tips : ∀ t sz es, e t = .sl true sz es → TipAt g w (.tt t) sz es (a.tmps.getD t undef)
  boxes : ∀ b cs, bx b = some cs → BlockRep g w (.box b) (fun j => .bt b j) (g.β b) cs

inductive Ex where
  | normal | exit (id : Nat) | ret

def Lift (n : Nat) (B : Base) (Q : Ex → Env → Bx → St → Prop) : Exit → Act → World → Prop
  | .normal, a, w => ∃ g e bx st, Q .normal e bx st ∧ Rel n B g e bx st a w
  | .exit id, a, w => ∃ g e bx st, Q (.exit id) e bx st ∧ Rel n B g e bx st a w
  | .ret, a, w => ∃ g e bx st, Q .ret e bx st ∧ Rel n B g e bx st a w
  | _, _, _ => False

structure Wp (P : Program) (n : Nat) (c : Code) (Q : Ex → Env → Bx → St → Prop) (e : Env) (bx : Bx) (st : St) : Prop where
  live : ∃ x e bx st, Q x e bx st
  out : ∀ (B : Base) (g : G) (a : Act) (w : World), Rel n B g e bx st a w → c.wp P (Lift n B Q) a w

/-- What a call does: for every memory that its arguments and the store describe. -/
structure VCalls (P : Program) (f : Nat) (args : List AV) (st : St) (R : AV → St → Prop) : Prop where
  live : ∃ r st', R r st'
  enter : ∃ fn, P.funcs[f]? = some fn ∧ fn.body.isSome = true ∧ (fn.name == "runtime.NumGoroutine") = false
  out : ∀ (Fr : Nat → Prop) (g : G) (w : World) (cargs : List Value), Glob ⟨g.I, g.σ, Fr, w⟩ g st w → (∀ b l, g.own b = some l → l.isLocal = false) →
    Reps g.I g.σ args cargs →
    Calls P f ⟨cargs⟩ w fun e w' => ∃ cv g' r st', e = .returned cv ∧ R r st' ∧ Glob ⟨g.I, g.σ, Fr, w⟩ g' st' w' ∧
      (∀ b l, g'.own b = some l → l.isLocal = true → l = .ret) ∧ Rep g'.I g'.σ r cv ∧
      ∀ sz es, r = .sl true sz es → TipAt g' w' .ret sz es cv

theorem VCalls.mono {P : Program} {f : Nat} {args : List AV} {st : St} {R R' : AV → St → Prop} (h : VCalls P f args st R) (hr : ∀ r st', R r st' → R' r st') : VCalls P f args st R' :=
  ⟨h.live.imp fun r h => h.imp fun st' h => hr r st' h, h.enter, fun Fr g w cargs hg hl ha => (h.out Fr g w cargs hg hl ha).mono fun _ _ ⟨cv, g', r, st', he, hR, rest⟩ => ⟨cv, g', r, st', he, hr r st' hR, rest⟩⟩

theorem Wp.mono {P : Program} {n : Nat} {c : Code} {Q Q' : Ex → Env → Bx → St → Prop} {e : Env} {bx : Bx} {st : St} (h : Wp P n c Q e bx st) (hq : ∀ x e bx st, Q x e bx st → Q' x e bx st) : Wp P n c Q' e bx st := by
  refine ⟨h.live.imp fun x h => h.imp fun e h => h.imp fun bx h => h.imp fun st h => hq x e bx st h, fun B g a w hr => wp_mono (h.out B g a w hr) ?_⟩
  intro x a w hx
  cases x <;> first
    | exact hx
    | (obtain ⟨g, e, bx, st, hQ, hR⟩ := hx; exact ⟨g, e, bx, st, hq _ _ _ _ hQ, hR⟩)
end Go.V

/- V2: the friendly evaluation of operations, regions and code: definitions. No program in sight. -/
namespace Go.V

/-- The arithmetic of the evaluation, behind names: an evaluation by `cbv` stops at them. -/
inductive Sym where
  | lt | ieq | seq | slt | ar | conv | not | pick | beq | eqc | len | slen | get | sget | sub | ssub | app | cat | toB | ofB | rep | repc | chunks | mx | mn
abbrev Sym.T : Sym → Type
  | .lt => Int → Int → Bool
  | .ieq => Int → Int → Bool
  | .seq => List UInt8 → List UInt8 → Bool
  | .slt => List UInt8 → List UInt8 → Bool
  | .ar => BinOp → IntKind → Int → Int → Int
  | .conv => IntKind → Int → Int
  | .not => Bool → Bool
  | .pick => Bool → Bool → Bool → Bool
  | .beq => Bool → Bool → Bool
  | .eqc => List AV → List AV → Bool
  | .len => List AV → Int
  | .slen => List UInt8 → Int
  | .get => List AV → Int → AV
  | .sget => List UInt8 → Int → Int
  | .sub => List AV → Int → Int → List AV
  | .ssub => List UInt8 → Int → Int → List UInt8
  | .app => List AV → List AV → List AV
  | .cat => List UInt8 → List UInt8 → List UInt8
  | .toB => List UInt8 → List AV
  | .ofB => List AV → List UInt8
  | .rep => Int → AV → List AV
  | .repc => Int → List AV → List AV
  | .chunks => Nat → Int → List AV → List AV
  | .mx => Int → Int → Int
  | .mn => Int → Int → Int
abbrev Ops := (s : Sym) → s.T

def isU8 : AV → Bool | .int .u8 _ => true | _ => false
def toU8 : AV → UInt8 | .int _ n => UInt8.ofNat n.toNat | _ => 0
def u8 (b : UInt8) : AV := .int .u8 (b.toNat : Int)
/-- Equality of scalar cells. -/
def eqCell : AV → AV → Bool
  | .bool a, .bool b => a == b
  | .int _ a, .int _ b => a == b
  | .str a, .str b => a == b
  | _, _ => false
def eqCells : List AV → List AV → Bool
  | [], [] => true
  | x :: xs, y :: ys => eqCell x y && eqCells xs ys
  | _, _ => false
def arith (op : BinOp) (k : IntKind) (a b : Int) : Int :=
  match op with
  | .add => k.wrap (a + b)
  | .sub => k.wrap (a - b)
  | .mul => k.wrap (a * b)
  | .quo => k.wrap (a.tdiv b)
  | .rem => a.tmod b
  | .and => k.wrap ((BitVec.ofInt k.bits a &&& BitVec.ofInt k.bits b).toNat)
  | .or => k.wrap ((BitVec.ofInt k.bits a ||| BitVec.ofInt k.bits b).toNat)
  | .xor => k.wrap ((BitVec.ofInt k.bits a ^^^ BitVec.ofInt k.bits b).toNat)
  | .andNot => k.wrap ((BitVec.ofInt k.bits a &&& ~~~ BitVec.ofInt k.bits b).toNat)
  | .shl => k.wrap (a * 2 ^ (min b.toNat k.bits))
  | .shr => a.fdiv (2 ^ (min b.toNat k.bits))
  | _ => 0
/-- A run of cells as elements. -/
def chunk (sz : Nat) : Nat → List AV → List AV
  | 0, _ => []
  | n + 1, cs => (bif sz == 1 then cs.headD .undef else .agg (cs.take sz)) :: chunk sz n (cs.drop sz)

def std : Ops
  | .lt => fun a b => decide (a < b)
  | .ieq => fun a b => decide (a = b)
  | .seq => fun a b => a == b
  | .slt => Op.bytesLess
  | .ar => arith
  | .conv => fun k n => k.wrap n
  | .not => fun b => !b
  | .pick => fun c a b => bif c then a else b
  | .beq => fun a b => a == b
  | .eqc => eqCells
  | .len => fun l => (l.length : Int)
  | .slen => fun l => (l.length : Int)
  | .get => fun l n => l.getD n.toNat .undef
  | .sget => fun l n => ((l.getD n.toNat 0).toNat : Int)
  | .sub => fun l a b => (l.take b.toNat).drop a.toNat
  | .ssub => fun l a b => (l.take b.toNat).drop a.toNat
  | .app => fun a b => a ++ b
  | .cat => fun a b => a ++ b
  | .toB => fun s => s.map u8
  | .ofB => fun l => l.map toU8
  | .rep => fun n v => List.replicate n.toNat v
  | .repc => fun n cs => (List.replicate n.toNat cs).flatten
  | .chunks => fun sz n cs => chunk sz n.toNat cs
  | .mx => fun a b => bif decide (b > a) then b else a
  | .mn => fun a b => bif decide (b < a) then b else a
inductive TK where
  | bool | int (k : IntKind) | str | ptr | func | slice (elem : Nat) | array (n elem : Nat) | struct (fs : List (Nat × Nat)) | other
structure TInfo where
  agg : Bool
  sz : Nat
  bytes : Nat
  kind : TK
  zero : AV
  eqf : Bool
structure PF where
  pre : List AV → St → Prop
  val : List AV → St → AV
structure Cf where
  x : Ops
  ti : Nat → Option TInfo
  pf : Nat → Option PF
  tr : Nat → Bool
  hp : Nat → Bool
  fz : Nat → Bool
  rt : Nat → Nat

/-- May an operation be? -/
inductive Chk where
  | ok | bad | need (p : Prop)
structure Both (p q : Prop) : Prop where
  a : p
  b : q
def Chk.and : Chk → Chk → Chk
  | .ok, c => c
  | .bad, _ => .bad
  | .need p, .ok => .need p
  | .need _, .bad => .bad
  | .need p, .need q => .need (Both p q)
def Chk.holds : Chk → Prop
  | .ok => True
  | .bad => False
  | .need p => p
def chkB : Bool → Chk
  | true => .ok
  | false => .bad
structure InB (n len : Int) : Prop where
  lo : 0 ≤ n
  hi : n < len
structure IsTrue (b : Bool) : Prop where
  is : b = true
structure NonNeg (n : Int) : Prop where
  is : 0 ≤ n
structure NeZero (n : Int) : Prop where
  is : n ≠ 0
structure Cuts (l h n : Int) : Prop where
  lo : 0 ≤ l
  mid : l ≤ h
  hi : h ≤ n
structure EqInt (a b : Int) : Prop where
  is : a = b
structure AllU8 (l : List AV) : Prop where
  is : l.all isU8 = true
structure AllScal (l : List AV) : Prop where
  is : scalAll l = true
structure CatOk (a b : List UInt8) : Prop where
  is : ((a.length + b.length : Nat) : Int) ≤ IntKind.i64.max
structure MakeOk (n m : Int) (bytes : Nat) : Prop where
  lo : 0 ≤ n
  eq : n = m
  room : n * (bytes : Int) ≤ 140737488355328
  fits : n ≤ 9223372036854775807
/-- Room for what is appended. -/
structure AppOk (n m : Int) (bytes : Nat) : Prop where
  room : (n + m) * (bytes : Int) ≤ 140737488355328
/-- Something is asked, if the operation is wanted. -/
structure Need (p : Prop) (w : Bool) (m : Prop) : Prop where
  ok : w = true → p
  next : m
structure Two (a b : Prop) : Prop where
  fst : a
  snd : b
def ask (c : Chk) (w : Bool) (m : Prop) : Prop :=
  match c with
  | .ok => m
  | .bad => Need False w m
  | .need p => Need p w m

def Cf.kind (C : Cf) (t : Nat) : TK := match C.ti t with | some i => i.kind | none => .other
def Cf.sz (C : Cf) (t : Nat) : Nat := match C.ti t with | some i => i.sz | none => 0
def Cf.bytes (C : Cf) (t : Nat) : Nat := match C.ti t with | some i => i.bytes | none => 0
def Cf.agg (C : Cf) (t : Nat) : Bool := match C.ti t with | some i => i.agg | none => false
def Cf.has (C : Cf) (t : Nat) : Bool := match C.ti t with | some _ => true | none => false
def Cf.zero (C : Cf) (t : Nat) : AV := match C.ti t with | some i => i.zero | none => .undef
def Cf.eqf (C : Cf) (t : Nat) : Bool := match C.ti t with | some i => i.eqf | none => false
def Cf.elem (C : Cf) (t : Nat) : Nat := match C.kind t with | .slice e => e | .array _ e => e | _ => 0
def Cf.esz (C : Cf) (t : Nat) : Nat := C.sz (C.elem t)

def ut : AV → AV
  | .sl _ sz es => .sl false sz es
  | .nils sz => .sl false sz []
  | v => v
def noLp : AV → Bool
  | .lp _ _ => false
  | _ => true
def isSl : AV → Bool
  | .sl _ _ _ => true
  | _ => false
def utz : AV → AV
  | .agg cs => .agg (cs.map ut)
  | v => ut v
/-- A nil slice in a struct's value stays known. -/
def un : AV → AV
  | .nils sz => .nils sz
  | v => ut v
/-- What is laid into a variable: a nil slice that is known may be appended to. -/
def tn : AV → AV
  | .nils sz => .sl true sz []
  | v => ut v
/-- A zero value's cells, as a value's and as a variable's. -/
def nz : AV → AV
  | .sl _ sz [] => .nils sz
  | v => ut v
def utr : AV → AV
  | .agg cs => .agg (cs.map ut)
  | v => v
def ofVal (C : Cf) (ty : Nat) : Value → AV
  | .bool b => .bool b
  | .int k n => .int k n
  | .string s => .str s.data.toList
  | .pointer none => .nilp
  | .slice none 0 0 => .sl true (C.esz ty) []
  | .nilFunc => .nilfn
  | _ => .undef
def rd (C : Cf) (ty : Nat) (e : Env) : Operand → AV
  | .tmp t => e t
  | .const v => ofVal C ty v
  | .func f => .fn f [] []
  | .global _ => .undef

def isB : AV → Bool | .bool _ => true | _ => false
def asB : AV → Bool | .bool b => b | _ => false

/-- Cells read out of a run of cells. -/
def qload (i : TInfo) (cs : List AV) (off : Nat) : Chk × AV :=
  (chkB (Nat.ble (off + i.sz) cs.length), bif i.agg then .agg (((cs.drop off).take i.sz).map ut) else ut (cs.getD off .undef))
def setCells (cs : List AV) (off : Nat) (vs : List AV) : List AV := cs.take off ++ vs ++ cs.drop (off + vs.length)
def isPtr : AV → Bool
  | .lp _ _ | .ref _ _ | .ip _ _ => true
  | _ => false
def kindEq : IntKind → IntKind → Bool
  | .i8, .i8 | .i16, .i16 | .i32, .i32 | .i64, .i64 | .u8, .u8 | .u16, .u16 | .u32, .u32 | .u64, .u64 => true
  | _, _ => false

def qint (X : Ops) (op : BinOp) (k : IntKind) (a b : Int) : Chk × AV :=
  match op with
  | .quo | .rem => (.need (NeZero b), .int k (X .ar op k a b))
  | .eql => (.ok, .bool (X .ieq a b))
  | .neq => (.ok, .bool (X .not (X .ieq a b)))
  | .lss => (.ok, .bool (X .lt a b))
  | .leq => (.ok, .bool (X .not (X .lt b a)))
  | .gtr => (.ok, .bool (X .lt b a))
  | .geq => (.ok, .bool (X .not (X .lt a b)))
  | .shl | .shr => (.bad, .undef)
  | _ => (.ok, .int k (X .ar op k a b))
def qstr (X : Ops) (op : BinOp) (a b : List UInt8) : Chk × AV :=
  match op with
  | .add => (.need (CatOk a b), .str (X .cat a b))
  | .eql => (.ok, .bool (X .seq a b))
  | .neq => (.ok, .bool (X .not (X .seq a b)))
  | .lss => (.ok, .bool (X .slt a b))
  | .leq => (.ok, .bool (X .pick (X .slt a b) true (X .seq a b)))
  | .gtr => (.ok, .bool (X .not (X .pick (X .slt a b) true (X .seq a b))))
  | .geq => (.ok, .bool (X .not (X .slt a b)))
  | _ => (.bad, .undef)
def qptr (op : BinOp) (k : TK) (ok : Bool) (r : Bool) : Chk × AV :=
  match k with
  | .ptr => match op with
    | .eql => (chkB ok, .bool r)
    | .neq => (chkB ok, .bool (match r with | true => false | false => true))
    | _ => (.bad, .undef)
  | _ => (.bad, .undef)
/-- Have cells the shape of a flat type? -/
def shF (f : Nat → List AV → Bool) (C : Cf) : List (Nat × Nat) → Nat → List AV → Bool
  | [], _, cs => cs.isEmpty
  | (ft, o) :: r, off, cs => Nat.beq o off && (Nat.ble (C.sz ft) cs.length && (f ft (cs.take (C.sz ft)) && shF f C r (off + C.sz ft) (cs.drop (C.sz ft))))
def shT (C : Cf) : Nat → Nat → List AV → Bool
  | 0, _, _ => false
  | d + 1, t, cs => match C.kind t with
    | .bool => (match cs with | [.bool _] => true | _ => false)
    | .int k => (match cs with | [.int k' _] => kindEq k k' | _ => false)
    | .str => (match cs with | [.str _] => true | _ => false)
    | .struct fs => shF (shT C d) C fs 0 cs
    | _ => false
def isStru : TK → Bool
  | .struct _ => true
  | _ => false
def eqOkB (C : Cf) (t : Nat) (x y : AV) : Bool := match x, y with
  | .agg xs, .agg ys => C.eqf t && (isStru (C.kind t) && (shT C 6 t xs && shT C 6 t ys))
  | _, _ => false
def qbin (X : Ops) (kd : TK) (eqf : Bool) (op : BinOp) (x y : AV) : Chk × AV :=
  match x, y with
  | .int k a, .int k' b => match op with
    | .shl | .shr => (.need (NonNeg b), .int k (X .ar op k a b))
    | _ => match kindEq k k' with
      | true => qint X op k a b
      | false => (.bad, .undef)
  | .str a, .str b => qstr X op a b
  | .bool a, .bool b => match kd with
    | .bool => match op with
      | .eql => (.ok, .bool (X .beq a b))
      | .neq => (.ok, .bool (X .not (X .beq a b)))
      | _ => (.bad, .undef)
    | _ => (.bad, .undef)
  | .nilp, .nilp => qptr op kd true true
  | .nilp, y => qptr op kd (isPtr y) false
  | x, .nilp => qptr op kd (isPtr x) false
  | .agg xs, .agg ys => match op with
    | .eql => (chkB eqf, .bool (X .eqc xs ys))
    | .neq => (chkB eqf, .bool (X .not (X .eqc xs ys)))
    | _ => (.bad, .undef)
  | _, _ => (.bad, .undef)
def qun (X : Ops) (op : UnOp) (x : AV) : Chk × AV :=
  match op, x with
  | .not, .bool b => (.ok, .bool (X .not b))
  | .neg, .int k n => (.ok, .int k (X .ar .sub k 0 n))
  | _, _ => (.bad, .undef)
def qaddr (p : AV) (n : Nat) : Chk × AV :=
  match p with
  | .lp b o => (.ok, .lp b (o + n))
  | .ref id o => (.ok, .ref id (o + n))
  | .ip v o => (.ok, .ip v (o + n))
  | _ => (.bad, .undef)
def qfieldAddr (C : Cf) (t : Nat) (p : AV) (f : Nat) : Chk × AV :=
  match C.kind t with
  | .struct fs => match fs[f]? with
    | some (ft, off) => match C.sz ft with
      | 0 => (.bad, .undef)
      | _ => qaddr p off
    | none => (.bad, .undef)
  | _ => (.bad, .undef)
def eqSz : Nat → Nat → Bool
  | _, 0 => false
  | a, b + 1 => Nat.beq a (b + 1)
def qindexAddr (C : Cf) (t : Nat) (x : AV) (n : Int) : Chk × AV :=
  match C.kind t with
  | .slice _ => match x with
    | .sl _ sz es => (Chk.and (chkB (eqSz sz (C.esz t))) (.need (InB n (C.x .len es))), .ip (C.x .get es n) 0)
    | .msl sz id off len => (Chk.and (chkB (eqSz sz (C.esz t))) (.need (InB n (len : Int))), .ref id (off + n.toNat * C.esz t))
    | _ => (.bad, .undef)
  | .array len _ => match qaddr x (n.toNat * C.esz t) with
    | (c, v) => (Chk.and (chkB (Nat.blt 0 (C.esz t))) (Chk.and c (.need (InB n (len : Int)))), v)
  | _ => (.bad, .undef)
def qpart (C : Cf) (t : Nat) (cs : List AV) (off : Nat) : Chk × AV :=
  match C.ti t with
  | some i => qload i cs off
  | none => (.bad, .undef)
def qfield (C : Cf) (t : Nat) (x : AV) (f : Nat) : Chk × AV :=
  match C.kind t, x with
  | .struct fs, .agg cs => match fs[f]? with
    | some (ft, off) => qpart C ft cs off
    | none => (.bad, .undef)
  | _, _ => (.bad, .undef)
def qindex (C : Cf) (t : Nat) (x : AV) (n : Int) : Chk × AV :=
  match C.kind t with
  | .array len el => match x with
    | .agg cs => match qpart C el cs (n.toNat * C.sz el) with
      | (c, v) => (Chk.and c (.need (InB n (len : Int))), v)
    | _ => (.bad, .undef)
  | .str => match x with
    | .str s => (.need (InB n (C.x .slen s)), .int .u8 (C.x .sget s n))
    | _ => (.bad, .undef)
  | _ => (.bad, .undef)
def qconv (C : Cf) (src dst : Nat) (x : AV) : Chk × AV :=
  match x with
  | .int _ n => match C.kind dst with
    | .int k => (chkB (C.has src), .int k (C.x .conv k n))
    | _ => (.bad, .undef)
  | .str s => match C.kind dst with
    | .str => match C.kind src with
      | .str => (.ok, .str s)
      | _ => (.bad, .undef)
    | .slice e => match C.kind e with
      | .int .u8 => match C.kind src with
        | .str => (.ok, .sl false 1 (C.x .toB s))
        | _ => (.bad, .undef)
      | _ => (.bad, .undef)
    | _ => (.bad, .undef)
  | .sl _ sz es => match C.kind src, C.kind dst with
    | .slice e, .str => match C.kind e with
      | .int .u8 => (Chk.and (chkB (Nat.beq sz 1)) (.need (AllU8 es)), .str (C.x .ofB es))
      | _ => (.bad, .undef)
    | _, _ => (.bad, .undef)
  | _ => (.bad, .undef)
def qlen (C : Cf) (t : Nat) (x : AV) : Chk × AV :=
  match C.kind t with
  | .array n _ => (.ok, .int .i64 n)
  | .str => match x with
    | .str s => (.ok, .int .i64 (C.x .slen s))
    | _ => (.bad, .undef)
  | .slice _ => match x with
    | .sl _ _ es => (.ok, .int .i64 (C.x .len es))
    | .msl _ _ _ n => (.ok, .int .i64 n)
    | _ => (.bad, .undef)
  | _ => (.bad, .undef)
def qmax (X : Ops) : List AV → Chk × AV
  | [.int k a, .int _ b] => (.ok, .int k (X .mx a b))
  | _ => (.bad, .undef)
def qmin (X : Ops) : List AV → Chk × AV
  | [.int k a, .int _ b] => (.ok, .int k (X .mn a b))
  | _ => (.bad, .undef)
def bound (C : Cf) (e : Env) (n : Int) : Option Operand → AV
  | none => .int .i64 n
  | some x => rd C 0 e x
def qslice (C : Cf) (t : Nat) (x : AV) (e : Env) (lo hi mx : Option Operand) : Chk × AV :=
  match C.kind t with
  | .slice _ => match x with
    | .sl _ sz es => match bound C e 0 lo, bound C e (C.x .len es) hi with
      | .int _ l, .int _ h => match mx with
        | none => (Chk.and (chkB (eqSz sz (C.esz t))) (.need (Cuts l h (C.x .len es))), .sl false sz (C.x .sub es l h))
        | some m => match rd C 0 e m, hi with
          | .int _ m, some _ => (Chk.and (chkB (eqSz sz (C.esz t))) (.need (Both (Cuts l h (C.x .len es)) (EqInt m h))), .sl true sz (C.x .sub es l h))
          | _, _ => (.bad, .undef)
      | _, _ => (.bad, .undef)
    | _ => (.bad, .undef)
  | .str => match x, mx with
    | .str s, none => match bound C e 0 lo, bound C e (C.x .slen s) hi with
      | .int _ l, .int _ h => (.need (Cuts l h (C.x .slen s)), .str (C.x .ssub s l h))
      | _, _ => (.bad, .undef)
    | _, _ => (.bad, .undef)
  | _ => (.bad, .undef)
/-- A struct's or an array's cells with parts laid in. -/
def qfill (C : Cf) (e : Env) (place : Nat → Option (Nat × Nat)) : List (Nat × Operand) → List AV → Chk × List AV
  | [], cs => (.ok, cs)
  | (i, x) :: r, cs => match place i with
    | some (ty, off) => match rd C ty e x with
      | v => match qfill C e place r (setCells cs off (v.cells.map un)) with
        | (c, cs') => (Chk.and (chkB (C.has ty && scalAll v.cells && Nat.beq v.cells.length (C.sz ty) && Nat.ble (off + v.cells.length) cs.length)) c, cs')
    | none => (.bad, cs)
def qbuild (C : Cf) (t : Nat) (ps : List (Nat × Operand)) (e : Env) : Chk × AV :=
  match C.kind t with
  | .struct fs => match qfill C e (fun i => fs[i]?) ps ((C.zero t).cells.map nz) with
    | (c, cs) => (c, .agg cs)
  | .array _ el => match qfill C e (fun i => some (el, i * C.sz el)) ps ((C.zero t).cells.map nz) with
    | (c, cs) => (c, .agg cs)
  | _ => (.bad, .undef)
def qelems (C : Cf) (el : Nat) (e : Env) : Nat → List (Nat × Operand) → Chk × List AV
  | _, [] => (.ok, [])
  | k, (i, x) :: r => match rd C el e x, qelems C el e (k + 1) r with
    | v, (c, vs) => (Chk.and (chkB (Nat.beq i k && scalAll v.cells && Nat.beq v.cells.length (C.sz el))) c, utz v :: vs)
def qbuildSlice (C : Cf) (t n : Nat) (ps : List (Nat × Operand)) (e : Env) : Chk × AV :=
  match C.kind t with
  | .slice el => match qelems C el e 0 ps with
    | (c, vs) => (Chk.and (chkB (Nat.beq ps.length n && Nat.ble (n * C.sz el) 16777216 && Nat.blt 0 (C.sz el))) c, .sl true (C.sz el) vs)
  | _ => (.bad, .undef)
/-- Arguments; each one's own type is told for constants. -/
def qargs (C : Cf) (e : Env) : List Operand → List Nat → List AV
  | [], _ => []
  | x :: r, ts => utz (rd C (ts.headD 0) e x) :: qargs C e r ts.tail
def noLps : List AV → Bool
  | [] => true
  | v :: r => noLp v && noLps r

/-- What a quiet operation comes to: may it be, and its value. -/
def q (C : Cf) (o : Oper) (e : Env) (bx : Bx) (st : St) : Chk × AV :=
  match o.op with
  | .move x | .assign x => (.ok, ut (rd C o.type e x))
  | .pick c a b => match rd C o.type e c, rd C o.type e a, rd C o.type e b with
    | .bool c, x, y => (match isB x && isB y with | true => .ok | false => .need (IsTrue (bif c then isB x else isB y)), .bool (C.x .pick c (asB x) (asB y)))
    | _, _, _ => (.bad, .undef)
  | .build t ps => qbuild C t ps.toList e
  | .buildSlice t n ps => qbuildSlice C t n ps.toList e
  | .load t a => match C.ti t with
    | none => (.bad, .undef)
    | some i => match rd C 0 e a with
      | .lp b off => match bx b with
        | some cs => qload i cs off
        | none => (.bad, .undef)
      | .ref id off => match st[id]? with
        | some (some cs) => qload i cs off
        | _ => (.bad, .undef)
      | .ip v off => qload i v.cells off
      | _ => (.bad, .undef)
  | .fieldAddr t a f => qfieldAddr C t (rd C 0 e a) f
  | .indexAddr t a i => match rd C 0 e i with
    | .int _ n => qindexAddr C t (rd C t e a) n
    | _ => (.bad, .undef)
  | .field t x f => qfield C t (rd C t e x) f
  | .index t x i => match rd C 0 e i with
    | .int _ n => qindex C t (rd C t e x) n
    | _ => (.bad, .undef)
  | .binOp op t x y ty => qbin C.x (C.kind t) (eqOkB C t (rd C t e x) (rd C ty e y)) op (rd C t e x) (rd C ty e y)
  | .unOp op t x => qun C.x op (rd C t e x)
  | .convert s d x => qconv C s d (rd C s e x)
  | .extract x i => match rd C 0 e x with
    | .tup vs => match vs[i]? with
      | some v => (.ok, ut v)
      | none => (.bad, .undef)
    | _ => (.bad, .undef)
  | .nilCheck x => match rd C o.type e x with
    | .lp b o => (.ok, .lp b o)
    | .ref id o => (.ok, .ref id o)
    | .ip v o => (.ok, .ip v o)
    | _ => (.bad, .undef)
  | .slice t x lo hi mx => qslice C t (rd C t e x) e lo hi mx
  | .makeFunc (.func f) first cap => match qargs C e first.toList [], qargs C e cap.toList [] with
    | a, b => (chkB (noLps a && noLps b), .fn f a b)
  | .makeSlice t l c => match C.kind t, rd C 0 e l, rd C 0 e c with
    | .slice el, .int _ n, .int _ m => (Chk.and (chkB (C.has el && Nat.blt 0 (C.sz el))) (.need (MakeOk n m (C.bytes el))), .sl true (C.sz el) (C.x .rep n (utz (C.zero el))))
    | _, _, _ => (.bad, .undef)
  | .call c => match c.callee with
    | .builtin .len => match c.args.toList, c.argTypes.toList with
      | [x], t :: _ => qlen C t (rd C t e x)
      | _, _ => (.bad, .undef)
    | .builtin .max => qmax C.x (qargs C e c.args.toList [])
    | .builtin .min => qmin C.x (qargs C e c.args.toList [])
    | .value (.func f) => match C.pf f with
      | some p => match qargs C e c.args.toList c.argTypes.toList with
        | as => (Chk.and (chkB (noLps as)) (.need (p.pre as st)), p.val as st)
      | none => (.bad, .undef)
    | _ => (.bad, .undef)
  | _ => (.bad, .undef)

def nilSlice : Operand → Bool
  | .const (.slice none 0 0) => true
  | _ => false
def trD (C : Cf) : Option Nat → Bool | some d => C.tr d | none => false
def hpD (C : Cf) : Option Nat → Bool | some d => C.hp d | none => false
def fzD (C : Cf) : Option Nat → Bool | some d => C.fz d | none => false
/-- Which operations are quiet: it is seen by the text alone. -/
def isQ (C : Cf) (o : Oper) : Bool :=
  match o.op with
  | .move _ | .assign _ => !trD C o.dst && !fzD C o.dst
  | .load _ _ => !trD C o.dst
  | .pick .. | .build .. | .buildSlice .. | .fieldAddr .. | .indexAddr .. | .field .. | .index .. | .unOp .. | .convert .. | .extract .. | .nilCheck _ | .slice .. | .makeFunc .. => true
  | .binOp _ _ x y _ => !nilSlice x && !nilSlice y
  | .makeSlice .. => !hpD C o.dst
  | .call c => match c.callee with
    | .builtin .len | .builtin .max | .builtin .min => true
    | .value (.func f) => (C.pf f).isSome
    | _ => false
  | _ => false

def updO (e : Env) (d : Option Nat) (v : AV) : Env := match d with | some d => upd e d v | none => e
def trX (C : Cf) : Operand → Option Nat
  | .tmp t => bif C.tr t then some t else none
  | _ => none
def tmpOf : Operand → Option Nat
  | .tmp t => some t
  | _ => none
/-- The slice's right to be appended to has gone from a temporary. -/
def utAt (e : Env) : Option Nat → Env
  | some t => upd e t (ut (e t))
  | none => e
def appLen (X : Ops) : AV → Int | .sl _ _ fs => X .len fs | .str s => X .slen s | _ => 0
def appEls (X : Ops) : AV → List AV | .sl _ _ fs => fs | .str s => X .toB s | _ => []
def appOk (k : TK) (esz : Nat) (v : AV) : Bool :=
  match k with
  | .slice _ => (match v with | .sl _ sz _ => Nat.beq sz esz | _ => false)
  | .str => (match v with | .str _ => Nat.beq esz 1 | _ => false)
  | _ => false
/-- The pointers to a box become pointers to what it held. -/
def freeze (b : Nat) (cs : List AV) (e : Env) : Env := fun t => match e t with
  | .lp b' o => match Nat.beq b' b with | true => .ip (.agg cs) o | false => .lp b' o
  | v => v

/-- A move: it carries a right over, or freezes. -/
def vmove (C : Cf) (ty : Nat) (x : Operand) (dst : Option Nat) (e : Env) (bx : Bx) (st : St) (K : Env → Bx → St → Prop) : Prop :=
  match dst with
  | none => False
  | some d => match C.fz d with
    | true => match rd C ty e x with
      | .lp b off => match bx b with
        | some cs => K (upd (freeze b (cs.map ut) e) d (.ip (.agg (cs.map ut)) off)) (upd bx b none) st
        | none => False
      | .msl sz id 0 len => match st[id]? with
        | some (some cs) => Need (Both (EqInt cs.length (len * sz)) (AllScal cs)) true (match Nat.blt 0 sz with
          | true => K (upd e d (.sl true sz (C.x .chunks sz len (cs.map ut)))) bx (st.set id none)
          | false => False)
        | _ => False
      | _ => False
    | false => match x with
      | .tmp t => match noLp (e t) with
        | true => K (upd (upd e t (ut (e t))) d (e t)) bx st
        | false => False
      | .const v => K (upd e d (ofVal C ty v)) bx st
      | _ => False

/-- What an operation with an effect does. -/
def veff (P : Program) (C : Cf) (o : Oper) (e : Env) (bx : Bx) (st : St) (K : Env → Bx → St → Prop) : Prop :=
  match o.op with
  | .store t a x => match rd C t e x with
    | v => match scalAll v.cells && Nat.beq v.cells.length (C.sz t) && C.has t && o.dst.isNone with
      | false => False
      | true => match rd C 0 e a with
        | .lp b off => match bx b with
          | some cs => match Nat.ble (off + C.sz t) cs.length with
            | true => match trX C x, isSl v with
              | some x, true => K (upd e x (ut v)) (upd bx b (some (setCells cs off v.cells))) st
              | _, _ => K e (upd bx b (some (setCells cs off (v.cells.map tn)))) st
            | false => False
          | none => False
        | .ref id off => match st[id]? with
          | some (some cs) => match Nat.ble (off + C.sz t) cs.length with
            | true => match trX C x, isSl v with
              | some x, true => K (upd e x (ut v)) bx (st.set id (some (setCells cs off v.cells)))
              | _, _ => K e bx (st.set id (some (setCells cs off (v.cells.map tn))))
            | false => False
          | _ => False
        | _ => False
  | .alloc t => match o.dst, C.ti t with
    | some d, some i => match C.hp d with
      | true => K (upd e d (.ref st.length 0)) bx (st ++ [some ((i.zero.cells.map nz).map tn)])
      | false => match bx d with
        | none => K (upd e d (.lp d 0)) (upd bx d (some ((i.zero.cells.map nz).map tn))) st
        | some _ => False
    | _, _ => False
  | .box t x => match rd C t e x, o.dst with
    | v, some d => match scalAll v.cells with
      | false => False
      | true => match C.hp d with
        | true => K (upd e d (.ref st.length 0)) bx (st ++ [some (v.cells.map tn)])
        | false => match bx d with
          | none => K (upd e d (.lp d 0)) (upd bx d (some (v.cells.map tn))) st
          | some _ => False
    | _, _ => False
  | .makeSlice t l c => match C.kind t, rd C 0 e l, rd C 0 e c, o.dst with
    | .slice el, .int _ n, .int _ m, some d => match C.has el && Nat.blt 0 (C.sz el) with
      | true => Need (MakeOk n m (C.bytes el)) true (K (upd e d (.msl (C.sz el) st.length 0 n.toNat)) bx (st ++ [some (C.x .repc n ((C.zero el).cells.map ut))]))
      | false => False
    | _, _, _, _ => False
  | .move x | .assign x => vmove C o.type x o.dst e bx st K
  | .load t a => match o.dst, C.ti t, rd C 0 e a with
    | some d, some i, .lp b off => match bx b with
      | some cs => match Nat.blt off cs.length && !i.agg with
        | true => K (upd e d (cs.getD off .undef)) (upd bx b (some (cs.set off (ut (cs.getD off .undef))))) st
        | false => False
      | none => False
    | some d, some i, .ref id off => match st[id]? with
      | some (some cs) => match Nat.blt off cs.length && !i.agg with
        | true => K (upd e d (cs.getD off .undef)) bx (st.set id (some (cs.set off (ut (cs.getD off .undef)))))
        | false => False
      | _ => False
    | _, _, _ => False
  | .binOp .eql t x y _ => match nilSlice y, C.kind t, rd C t e x with
    | true, .slice _, .sl _ _ es => Two (es = [] → K (updO e o.dst (.bool true)) bx st) (K (updO e o.dst (.bool false)) bx st)
    | _, _, _ => False
  | .call c => match c.callee with
    | .builtin .append => match c.args.toList, c.argTypes.toList, o.dst with
      | [x, y], [sT, tx], some d => match C.kind sT, rd C sT e x, rd C tx e y with
        | .slice el, .sl true sz es, ys => match appOk (C.kind tx) (C.sz el) ys && eqSz sz (C.sz el) && Nat.blt 0 (C.bytes el) with
          | true => Need (AppOk (C.x .len es) (appLen C.x ys) (C.bytes el)) true (K (upd (utAt e (tmpOf x)) d (.sl true (C.sz el) (C.x .app es (appEls C.x ys)))) bx st)
          | false => False
        | _, _, _ => False
      | _, _, _ => False
    | .value (.func f) => match qargs C e c.args.toList c.argTypes.toList with
      | as => match noLps as with
        | true => VCalls P f as st fun r st' => K (updO e o.dst (bif trD C o.dst then r else ut r)) bx st'
        | false => False
    | .value (.tmp t) => match e t, qargs C e c.args.toList c.argTypes.toList with
      | .fn f first cap, as => match noLps as with
        | true => VCalls P f (first ++ as ++ cap) st fun r st' => K (updO e o.dst (bif trD C o.dst then r else ut r)) bx st'
        | false => False
      | _, _ => False
    | _ => False
  | _ => False

def eqB (X : Ops) (v : AV) (b : Bool) : Bool := match v with | .bool c => (match b with | true => c | false => X .not c) | _ => false
/-- Is an operation wanted? By the values of the tests ahead of it. -/
def guardW (X : Ops) (ops : List Oper) (e : Env) : Nat → Option (Nat × Bool) → Bool
  | _, none => true
  | 0, some _ => false
  | n + 1, some (j, b) => match ops[j]? with
    | some o => match o.dst with
      | some d => match o.guard with
        | none => eqB X (e d) b
        | some g => X .pick (eqB X (e d) b) (guardW X ops e n (some g)) false
      | none => false
    | none => false

/-- Do the tests stand at truth values? A test that was not reached need not. -/
def gOk (X : Ops) (ops : List Oper) (e : Env) : Nat → Option (Nat × Bool) → Bool
  | _, none => true
  | 0, some _ => false
  | n + 1, some (j, _) => match ops[j]? with
    | some o => match o.dst with
      | some d => match isB (e d) with
        | true => gOk X ops e n o.guard
        | false => match guardW X ops e n o.guard with
          | true => false
          | false => gOk X ops e n o.guard
      | none => false
    | none => false
/-- What must come ahead of each operation, as bits. -/
def edgeMask (acc : List Nat) : List Edge → Nat
  | [] => 0
  | e :: r => match Region.binds .any e with
    | true => Nat.lor (Nat.lor (Nat.shiftLeft 1 e.on) (acc.getD e.on 0)) (edgeMask acc r)
    | false => edgeMask acc r
def masks : List Oper → List Nat → List Nat
  | [], acc => acc
  | o :: r, acc => masks r (acc ++ [edgeMask acc o.after.toList])
def reach (M : List Nat) (j i : Nat) : Bool := Nat.testBit (M.getD j 0) i
/-- Is a pointer said to lead to an object? -/
def refX (C : Cf) : Operand → Bool
  | .tmp t => Nat.beq (C.rt t) 0
  | _ => false
/-- May it change what others see of the memory? -/
def effish (C : Cf) (o : Oper) : Bool :=
  match o.op with
  | .store _ a _ => refX C a
  | .load _ x => trD C o.dst && refX C x
  | .call c => match c.callee with | .builtin _ => false | _ => !isQ C o
  | .binOp .. => !isQ C o
  | _ => false
def aloneIn (C : Cf) (M : List Nat) (k : Nat) : Nat → List Oper → Bool
  | _, [] => true
  | j, o :: r => (match effish C o with | true => Nat.beq j k || reach M k j || reach M j k | false => true) && aloneIn C M k (j + 1) r
def alone (C : Cf) (l : List Oper) (k : Nat) : Bool := aloneIn C (masks l []) k 0 l
def dynP (C : Cf) (l : List Oper) (k : Nat) (x : Operand) : AV → Bool
  | .lp b _ => match x with | .tmp t => Nat.beq b (C.rt t) | _ => false
  | .ref _ _ => refX C x
  | _ => true
/-- A right is taken out of a local box, or out of an object where the text says so. -/
def dynL (C : Cf) (o : Oper) (x : Operand) : AV → Bool
  | .lp _ _ => true
  | _ => !trD C o.dst || refX C x
/-- In a region of no fixed order: does an access go where the text says? -/
def dyn (C : Cf) (l : List Oper) (dr : Bool) (k : Nat) (o : Oper) (e : Env) : Bool :=
  match dr with
  | false => true
  | true => match o.op with
    | .load _ x => dynL C o x (rd C 0 e x) && dynP C l k x (rd C 0 e x)
    | .store _ x _ => dynP C l k x (rd C 0 e x)
    | _ => true
def vops (P : Program) (C : Cf) (dr : Bool) (ops : List Oper) : List Oper → Env → Bx → St → (Env → Bx → St → Prop) → Prop
  | [], e, bx, st, K => K e bx st
  | o :: r, e, bx, st, K =>
    match gOk C.x ops e ops.length o.guard && dyn C ops dr (ops.length - r.length - 1) o e with
    | false => False
    | true => match isQ C o with
      | true => match q C o e bx st with
        | (c, v) => ask c (guardW C.x ops e ops.length o.guard) (vops P C dr ops r (updO e o.dst v) bx st K)
      | false => match o.guard with
        | none => veff P C o e bx st fun e bx st => vops P C dr ops r e bx st K
        | some g => match guardW C.x ops e ops.length (some g) with
          | true => veff P C o e bx st fun e bx st => vops P C dr ops r e bx st K
          | false => vops P C dr ops r (updO e o.dst .undef) bx st K
/-- What stood under a test is forgotten behind the region. -/
def clean : List Oper → Env → Env
  | [], e => e
  | o :: r, e => match o.guard with
    | none => clean r e
    | some _ => clean r (updO e o.dst .undef)

def vwp (P : Program) (n : Nat) (C : Cf) : Code → (Ex → Env → Bx → St → Prop) → Env → Bx → St → Prop
  | .skip, Q, e, bx, st => Q .normal e bx st
  | .region _ ops dr, Q, e, bx, st => vops P C dr ops.toList ops.toList e bx st fun e bx st => Q .normal (clean ops.toList e) bx st
  | .seq a b, Q, e, bx, st => vwp P n C a (fun x e bx st => match x with | .normal => vwp P n C b Q e bx st | x => Q x e bx st) e bx st
  | .cond c a b, Q, e, bx, st => match rd C 0 e c with
    | .bool c => (match c with | true => vwp P n C a Q e bx st | false => vwp P n C b Q e bx st)
    | _ => False
  | .block id a, Q, e, bx, st => vwp P n C a (fun x e bx st => match x with | .exit i => (match Nat.beq i id with | true => Q .normal e bx st | false => Q (.exit i) e bx st) | x => Q x e bx st) e bx st
  | .loop a, Q, e, bx, st => Wp P n (.loop a) Q e bx st
  | .exit i, Q, e, bx, st => Q (.exit i) e bx st
  | .ret, Q, e, bx, st => Q .ret e bx st
  | _, _, _, _, _ => False

/-- A call's result out of its frame. -/
def vresOne (C : Cf) (e : Env) (bx : Bx) : ResultVar → Chk × AV
  | .tmp t => (chkB (noLp (e t)), utr (e t))
  | .cell a t => match C.ti t, e a with
    | some i, .lp b off => match bx b with
      | some cs => qload i cs off
      | none => (.bad, .undef)
    | _, _ => (.bad, .undef)
def vresAll (C : Cf) (e : Env) (bx : Bx) : List ResultVar → Chk × List AV
  | [] => (.ok, [])
  | r :: rs => match vresOne C e bx r, vresAll C e bx rs with
    | (a, v), (b, vs) => (Chk.and a b, v :: vs)
def vres (C : Cf) (rs : List ResultVar) (e : Env) (bx : Bx) : Chk × AV :=
  match vresAll C e bx rs with
  | (c, [v]) => (c, v)
  | (c, vs) => (c, .tup (vs.map ut))
def argEnv (args : List AV) : Env := fun t => ut (args.getD t .undef)
/-- A body's meaning: what its result must meet. -/
def vfun (P : Program) (C : Cf) (fn : Func) (args : List AV) (st : St) (R : AV → St → Prop) : Prop :=
  match fn.body with
  | some c => vwp P fn.ntmps C c (fun x e bx st => match x with
    | .exit _ => False
    | _ => match vres C fn.results.toList e bx with
      | (c, v) => ask c true (R v st)) (argEnv args) (fun _ => none) st
  | none => False
end Go.V

/- V3: the ghost state under growth of the memory, new boxes and objects, and stores. No program in sight. -/
namespace Go.V

theorem upd_same {α : Type} (e : Nat → α) (t : Nat) (v : α) : upd e t v t = v := by simp [upd]
theorem upd_other {α : Type} (e : Nat → α) {t t' : Nat} (v : α) (h : t' ≠ t) : upd e t v t' = e t' := by simp [upd, h]

theorem Reps.length {I : Mem} {σ : List Nat} : ∀ {vs : List AV} {cvs : List Value}, Reps I σ vs cvs → vs.length = cvs.length
  | _, _, .nil => rfl
  | _, _, .cons _ h => by simp [Reps.length h]
theorem Reps.get {I : Mem} {σ : List Nat} : ∀ {vs : List AV} {cvs : List Value} {j : Nat} {v : AV} {cv : Value}, Reps I σ vs cvs → vs[j]? = some v → cvs[j]? = some cv → Rep I σ v cv
  | _, _, 0, _, _, .cons h _, hv, hc => by simp at hv hc; subst hv hc; exact h
  | _, _, j + 1, _, _, .cons _ h, hv, hc => by simp at hv hc; exact h.get hv hc
theorem Reps.append {I : Mem} {σ : List Nat} : ∀ {vs us : List AV} {cvs cus : List Value}, Reps I σ vs cvs → Reps I σ us cus → Reps I σ (vs ++ us) (cvs ++ cus)
  | _, _, _, _, .nil, k => k
  | _, _, _, _, .cons h h', k => .cons h (Reps.append h' k)
theorem Reps.take {I : Mem} {σ : List Nat} : ∀ {vs : List AV} {cvs : List Value} (n : Nat), Reps I σ vs cvs → Reps I σ (vs.take n) (cvs.take n)
  | _, _, 0, _ => by simp; exact .nil
  | _, _, n + 1, .nil => .nil
  | _, _, n + 1, .cons h h' => .cons h (h'.take n)
theorem Reps.drop {I : Mem} {σ : List Nat} : ∀ {vs : List AV} {cvs : List Value} (n : Nat), Reps I σ vs cvs → Reps I σ (vs.drop n) (cvs.drop n)
  | _, _, 0, h => h
  | _, _, n + 1, .nil => .nil
  | _, _, n + 1, .cons h h' => h'.drop n
theorem Rep.ut {I : Mem} {σ : List Nat} {v : AV} {cv : Value} (h : Rep I σ v cv) : Rep I σ (ut v) cv := by
  cases h <;> first | exact .snil | exact .spot | exact .nils | exact .sl (by assumption) (by assumption) (by assumption) | (unfold V.ut; constructor <;> assumption)
theorem Reps.uts {I : Mem} {σ : List Nat} : ∀ {vs : List AV} {cvs : List Value}, Reps I σ vs cvs → Reps I σ (vs.map V.ut) cvs
  | _, _, .nil => .nil
  | _, _, .cons h k => .cons h.ut k.uts
theorem un_eq (v : AV) : (∃ sz, v = .nils sz ∧ V.un v = .nils sz ∧ V.tn v = .sl true sz []) ∨ (V.un v = V.ut v ∧ V.tn v = V.ut v) := by
  cases v <;> first | exact .inr ⟨rfl, rfl⟩ | exact .inl ⟨_, rfl, rfl, rfl⟩
theorem Rep.un {I : Mem} {σ : List Nat} {v : AV} {cv : Value} (h : Rep I σ v cv) : Rep I σ (V.un v) cv := by
  rcases un_eq v with ⟨sz, rfl, h1, _⟩ | ⟨h1, _⟩
  · rw [h1]; exact h
  · rw [h1]; exact h.ut
theorem Rep.tn {I : Mem} {σ : List Nat} {v : AV} {cv : Value} (h : Rep I σ v cv) : Rep I σ (V.tn v) cv := by
  rcases un_eq v with ⟨sz, rfl, _, h1⟩ | ⟨_, h1⟩
  · rw [h1]; cases h; exact .snil
  · rw [h1]; exact h.ut
theorem Reps.uns {I : Mem} {σ : List Nat} : ∀ {vs : List AV} {cvs : List Value}, Reps I σ vs cvs → Reps I σ (vs.map V.un) cvs
  | _, _, .nil => .nil
  | _, _, .cons h k => .cons h.un k.uns
theorem Reps.tns {I : Mem} {σ : List Nat} : ∀ {vs : List AV} {cvs : List Value}, Reps I σ vs cvs → Reps I σ (vs.map V.tn) cvs
  | _, _, .nil => .nil
  | _, _, .cons h k => .cons h.tn k.tns
theorem Rep.utz {I : Mem} {σ : List Nat} {v : AV} {cv : Value} (h : Rep I σ v cv) : Rep I σ (V.utz v) cv := by
  cases v with
  | agg cs => cases h with | agg h => exact .agg h.uts
  | _ => exact h.ut
theorem Rep.utr {I : Mem} {σ : List Nat} {v : AV} {cv : Value} (h : Rep I σ v cv) : Rep I σ (V.utr v) cv := by
  cases v with
  | agg cs => cases h with | agg h => exact .agg h.uts
  | _ => exact h
theorem ut_ut (v : AV) : V.ut (V.ut v) = V.ut v := by cases v <;> rfl
theorem ut_not_tip {v : AV} {sz : Nat} {es : List AV} : V.ut v ≠ .sl true sz es := by cases v <;> simp [V.ut]
theorem scalAll_iff : ∀ {l : List AV}, scalAll l = true → ∀ v ∈ l, scal v = true
  | [], _, _, h => by cases h
  | v :: r, hs, u, hu => by
    unfold scalAll at hs
    cases hv : scal v with
    | false => rw [hv] at hs; cases hs
    | true =>
      rw [hv] at hs
      rcases List.mem_cons.1 hu with rfl | h
      · exact hv
      · exact scalAll_iff hs u h
theorem Rep.oneCell {I : Mem} {σ : List Nat} {v : AV} {cv : Value} (h : Rep I σ v cv) (hs : scal v = true) : cv.oneCell' = true := by
  cases h <;> first | rfl | cases hs
theorem Reps.oneCell {I : Mem} {σ : List Nat} : ∀ {vs : List AV} {cvs : List Value}, Reps I σ vs cvs → scalAll vs = true → ∀ cv ∈ cvs, cv.oneCell' = true
  | _, _, .nil, _, _, h => by cases h
  | v :: _, _, .cons h k, hs, cv, hm => by
    have hs' := scalAll_iff hs
    rcases List.mem_cons.1 hm with rfl | hm
    · exact h.oneCell (hs' v (by simp))
    · refine k.oneCell ?_ cv hm
      unfold scalAll at hs
      rw [hs' v (by simp)] at hs
      exact hs
theorem cells_ut (v : AV) (h : ∀ cs, v ≠ .agg cs) : (V.ut v).cells = [V.ut v] := by cases v <;> first | rfl | exact absurd rfl (h _)
/-- A value's cells are the cells of what it stands for. -/
theorem Rep.cells {I : Mem} {σ : List Nat} {v : AV} {cv : Value} (h : Rep I σ v cv) (hs : scalAll v.cells = true) : Reps I σ v.cells cv.cells.toList := by
  cases h <;> first
    | (rename_i hh; exact hh)
    | (simp [AV.cells, scalAll, scal] at hs; done)
    | skip
  all_goals first
    | exact .cons .bool .nil
    | exact .cons .int .nil
    | exact .cons .str .nil
    | exact .cons .snil .nil
    | exact .cons .spot .nil
    | exact .cons .nils .nil
    | exact .cons .nilp .nil
    | exact .cons .nilfn .nil
    | exact .cons (.sl (by assumption) (by assumption) (by assumption)) .nil
    | exact .cons (.msl (by assumption) (by assumption)) .nil
    | exact .cons (.ref (by assumption)) .nil
    | exact .cons (.ip (by assumption)) .nil
    | exact .cons (.fn (by assumption) (by assumption)) .nil

structure Ext (w w' : World) : Prop where
  size : w.heap.size ≤ w'.heap.size
  os : w'.os = w.os
  tape : w'.tape = w.tape
  output : w'.output = w.output
  block : ∀ b, b < w.heap.size → w'.heap[b]? = w.heap[b]?
theorem Ext.refl (w : World) : Ext w w := ⟨Nat.le_refl _, rfl, rfl, rfl, fun _ _ => rfl⟩
theorem Ext.alloc (w : World) (o : Obj) : Ext w (w.alloc o) := ⟨by simp, rfl, rfl, rfl, fun b h => Go.RowKit.Below.heap_alloc w o b h⟩
theorem Ext.drew (w : World) : Ext w { w with drawn := w.drawn + 1 } := ⟨Nat.le_refl _, rfl, rfl, rfl, fun _ _ => rfl⟩
theorem Ext.trans {a b c : World} (h : Ext a b) (k : Ext b c) : Ext a c :=
  ⟨Nat.le_trans h.size k.size, k.os.trans h.os, k.tape.trans h.tape, k.output.trans h.output, fun i hi => (k.block i (Nat.lt_of_lt_of_le hi h.size)).trans (h.block i hi)⟩
theorem Ext.cell {w w' : World} (h : Ext w w') {a : Addr} (hb : a.block < w.heap.size) : w'.cell? a = w.cell? a := World.cell?_of_block (w := w) (h.block a.block hb)
theorem lt_of_block {w : World} {b : Nat} {o : Obj} (h : w.heap[b]? = some o) : b < w.heap.size := (Array.getElem?_eq_some_iff.1 h).1
theorem lt_of_cell {w : World} {b o : Nat} {v : Value} (h : w.cell? ⟨b, o, none⟩ = some v) : b < w.heap.size := by
  unfold World.cell? at h
  cases hb : w.heap[b]? with
  | none => simp [hb] at h
  | some x => exact lt_of_block hb

structure GExt (g g' : G) (w w' : World) : Prop where
  I : MemLe g.I g'.I
  own : ∀ b, b < w.heap.size → g'.own b = g.own b
  new : ∀ b o v, g'.I b o = some v → g.I b o = some v ∨ w.heap.size ≤ b
  imm : ∀ b o v, g'.I b o = some v → w.heap.size ≤ b → w'.cell? ⟨b, o, none⟩ = some v
  immOwn : ∀ b o l, w.heap.size ≤ b → g'.I b o ≠ none → g'.own b = some l → l.isTip = true
  ownlt : ∀ b l, w.heap.size ≤ b → g'.own b = some l → b < w'.heap.size
theorem GExt.refl (g : G) (w : World) (w' : World) (hI : ∀ b o, g.I b o ≠ none → b < w.heap.size) (ho : ∀ b l, g.own b = some l → b < w.heap.size) : GExt g g w w' :=
  ⟨MemLe.refl _, fun _ _ => rfl, fun _ _ _ h => .inl h, fun b o v h hb => absurd (hI b o (by simp [h])) (by omega), fun b o _ hb h => absurd (hI b o h) (by omega), fun b l hb h => absurd (ho b l h) (by omega)⟩

theorem TipAt.ext {g g' : G} {w w' : World} {l : Loc} {sz : Nat} {es : List AV} {cv : Value} (hx : Ext w w') (hg : GExt g g' w w') (h : TipAt g w l sz es cv) : TipAt g' w' l sz es cv := by
  rcases h with h | ⟨b, o, cap, rfl, h⟩
  · exact .inl h
  refine .inr ⟨b, o, cap, rfl, ?_⟩
  rcases h with h | ⟨h1, ⟨vs, ty, h2, h3⟩, h4⟩
  · exact .inl h
  have hb := lt_of_block h2
  refine .inr ⟨by rw [hg.own b hb]; exact h1, ⟨vs, ty, by rw [hx.block b hb]; exact h2, h3⟩, fun o' ho => h4 o' ?_⟩
  intro hn
  cases hv : g'.I b o' with
  | none => exact ho hv
  | some v =>
    rcases hg.new b o' v hv with h | h
    · rw [hn] at h; cases h
    · omega
theorem BlockRep.ext {g g' : G} {w w' : World} {l : Loc} {lt : Nat → Loc} {blk : Nat} {cs : List AV} (hx : Ext w w') (hg : GExt g g' w w') (hσ : g.σ <+: g'.σ) (h : BlockRep g w l lt blk cs) : BlockRep g' w' l lt blk cs := by
  obtain ⟨h1, vs, ty, h2, h3, h4⟩ := h
  have hb := lt_of_block h2
  exact ⟨by rw [hg.own blk hb]; exact h1, vs, ty, by rw [hx.block blk hb]; exact h2, h3.mono hg.I hσ, fun j sz es cv hj hc => (h4 j sz es cv hj hc).ext hx hg⟩
theorem Glob.ext {B : Base} {g g' : G} {st : St} {w w' : World} (h : Glob B g st w) (hx : Ext w w') (hg : GExt g g' w w') (hσ : g'.σ = g.σ) : Glob B g' st w' where
  hI := h.hI.trans hg.I
  hσ := by rw [hσ]; exact h.hσ
  fr b hb := by
    obtain ⟨h1, h2, h3⟩ := h.fr b hb
    have := h.size
    exact ⟨by rw [hx.block b (by omega)]; exact h1, h2, by rw [hg.own b (by omega)]; exact h3⟩
  size := Nat.le_trans h.size hx.size
  os := hx.os.trans h.os
  tape := hx.tape.trans h.tape
  output := hx.output.trans h.output
  imm b o v hv := by
    rcases hg.new b o v hv with hk | hk
    · have := h.imm b o v hk
      rw [hx.cell (lt_of_cell this)]; exact this
    · exact hg.imm b o v hv hk
  immOwn b o l hv ho := by
    by_cases hb : b < w.heap.size
    · rw [hg.own b hb] at ho
      refine h.immOwn b o l ?_ ho
      intro hn
      cases hv' : g'.I b o with
      | none => exact hv hv'
      | some v =>
        rcases hg.new b o v hv' with hk | hk
        · rw [hn] at hk; cases hk
        · omega
    · exact hg.immOwn b o l (by omega) hv ho
  ownlt b l ho := by
    by_cases hb : b < w.heap.size
    · have := hx.size; omega
    · exact hg.ownlt b l (by omega) ho
  newI b o hv hb hf := by
    have hlt := (h.fr b hf).2.1
    have := h.size
    refine h.newI b o ?_ hb hf
    intro hn
    cases hv' : g'.I b o with
    | none => exact hv hv'
    | some v =>
      rcases hg.new b o v hv' with hk | hk
      · rw [hn] at hk; cases hk
      · omega
  objs id cs hc := by
    obtain ⟨blk, h1, h2⟩ := h.objs id cs hc
    exact ⟨blk, by rw [hσ]; exact h1, h2.ext hx hg (by rw [hσ]; exact List.prefix_refl _)⟩
  len := by rw [hσ]; exact h.len
theorem RepT.ext {g g' : G} {bx : Bx} {v : AV} {cv : Value} (hI : MemLe g.I g'.I) (hσ : g.σ <+: g'.σ) (hβ : ∀ b, (bx b).isSome = true → g'.β b = g.β b) (h : RepT g bx v cv) : RepT g' bx v cv := by
  cases v <;> first
    | (obtain ⟨h1, h2⟩ := h; exact ⟨h1, by rw [hβ _ h1]; exact h2⟩)
    | exact Rep.mono hI hσ h
theorem Rel.ext {n : Nat} {B : Base} {g g' : G} {e : Env} {bx : Bx} {st : St} {a : Act} {w w' : World} (h : Rel n B g e bx st a w) (hx : Ext w w') (hg : GExt g g' w w') (hσ : g'.σ = g.σ) (hβ : g'.β = g.β) : Rel n B g' e bx st a w' where
  glob := h.glob.ext hx hg hσ
  nt := h.nt
  defers := h.defers
  tmps t := (h.tmps t).ext hg.I (by rw [hσ]; exact List.prefix_refl _) (fun _ _ => by rw [hβ])
  tips t sz es he := (h.tips t sz es he).ext hx hg
  boxes b cs hb := by rw [hβ]; exact (h.boxes b cs hb).ext hx hg (by rw [hσ]; exact List.prefix_refl _)

theorem Glob.Ilt {B : Base} {g : G} {st : St} {w : World} (h : Glob B g st w) (b o : Nat) (hv : g.I b o ≠ none) : b < w.heap.size := by
  cases hv' : g.I b o with
  | none => exact absurd hv' hv
  | some v => exact lt_of_cell (h.imm b o v hv')
/-- A draw, or whatever leaves all blocks. -/
theorem Rel.drew {n : Nat} {B : Base} {g : G} {e : Env} {bx : Bx} {st : St} {a : Act} {w : World} (h : Rel n B g e bx st a w) : Rel n B g e bx st a { w with drawn := w.drawn + 1 } :=
  h.ext (Ext.drew w) (GExt.refl g w _ h.glob.Ilt h.glob.ownlt) rfl rfl

theorem getD_put (a : Act) (d t : Nat) (v : Value) (h : d < a.tmps.size) : (a.put (some d) v).tmps.getD t undef = if t = d then v else a.tmps.getD t undef := by
  simp only [Act.put, Array.getD_eq_getD_getElem?, Array.getElem?_setIfInBounds]
  by_cases e : d = t
  · subst e; simp [h]
  · simp [e, Ne.symm e]
/-- A temporary gets a value. -/
theorem Rel.put {n : Nat} {B : Base} {g : G} {e : Env} {bx : Bx} {st : St} {a : Act} {w : World} (h : Rel n B g e bx st a w) {d : Nat} (hd : d < n) {v : AV} {cv : Value} (hv : RepT g bx v cv)
    (ht : ∀ sz es, v = .sl true sz es → TipAt g w (.tt d) sz es cv) : Rel n B g (upd e d v) bx st (a.put (some d) cv) w where
  glob := h.glob
  nt := by simpa [Act.put] using h.nt
  defers := h.defers
  tmps t := by
    rw [getD_put a d t cv (by rw [h.nt]; exact hd)]
    by_cases e' : t = d
    · subst e'; rw [upd_same, if_pos rfl]; exact hv
    · rw [upd_other _ _ e', if_neg e']; exact h.tmps t
  tips t sz es he := by
    rw [getD_put a d t cv (by rw [h.nt]; exact hd)]
    by_cases e' : t = d
    · subst e'; rw [upd_same] at he; rw [if_pos rfl]; exact ht sz es he
    · rw [upd_other _ _ e'] at he; rw [if_neg e']; exact h.tips t sz es he
  boxes := h.boxes
/-- A temporary's value is forgotten, or told less of. -/
theorem Rel.weaken {n : Nat} {B : Base} {g : G} {e e' : Env} {bx bx' : Bx} {st : St} {a : Act} {w : World} (h : Rel n B g e bx st a w) (he : ∀ t, e' t = .undef ∨ e' t = e t)
    (hb : ∀ b, bx' b = none ∨ bx' b = bx b) (hl : ∀ t b o, e' t = .lp b o → bx' b = bx b) : Rel n B g e' bx' st a w where
  glob := h.glob
  nt := h.nt
  defers := h.defers
  tmps t := by
    rcases he t with h1 | h1
    · rw [h1]; exact Rep.undef
    · have h2 := h.tmps t
      rw [h1]
      cases hv : e t with
      | lp b o =>
        rw [hv] at h2
        have := hl t b o (by rw [h1, hv])
        exact ⟨by rw [this]; exact h2.1, h2.2⟩
      | _ => rw [hv] at h2; exact h2
  tips t sz es ht := by
    rcases he t with h1 | h1
    · rw [h1] at ht; cases ht
    · rw [h1] at ht; exact h.tips t sz es ht
  boxes b cs hc := by
    rcases hb b with h1 | h1
    · rw [h1] at hc; cases hc
    · rw [h1] at hc; exact h.boxes b cs hc
theorem upd_self {α : Type} (e : Nat → α) (t : Nat) : upd e t (e t) = e := by
  funext t'
  by_cases h : t' = t
  · subst h; rw [upd_same]
  · rw [upd_other _ _ h]
/-- A slice's right at a temporary is let go. -/
theorem Rel.untip {n : Nat} {B : Base} {g : G} {e : Env} {bx : Bx} {st : St} {a : Act} {w : World} (h : Rel n B g e bx st a w) (t : Nat) : Rel n B g (upd e t (V.ut (e t))) bx st a w where
  glob := h.glob
  nt := h.nt
  defers := h.defers
  tmps u := by
    by_cases hu : u = t
    · subst hu
      rw [upd_same]
      have := h.tmps u
      cases hv : e u <;> rw [hv] at this <;> first | exact this | exact Rep.ut this
    · rw [upd_other _ _ hu]; exact h.tmps u
  tips u sz es ht := by
    by_cases hu : u = t
    · subst hu; rw [upd_same] at ht; exact absurd ht ut_not_tip
    · rw [upd_other _ _ hu] at ht; exact h.tips u sz es ht
  boxes := h.boxes
end Go.V

/- V4: new boxes and objects, stores into them, rights that move. No program in sight. -/
namespace Go.V

/-- Cells without a right to be appended to. -/
def NoTips (cs : List AV) : Prop := ∀ (j sz : Nat) (es : List AV), cs[j]? ≠ some (.sl true sz es)
theorem noTips_ut (cs : List AV) : NoTips (cs.map V.ut) := by
  intro j sz es h
  rw [List.getElem?_map] at h
  cases hc : cs[j]? with
  | none => rw [hc] at h; cases h
  | some v => rw [hc] at h; exact ut_not_tip (Option.some.inj h)

/-- Cells of which a right to be appended to stands at nil slices alone. -/
def NilTips (cs : List AV) (vs : List Value) : Prop := ∀ (j sz : Nat) (es : List AV) (cv : Value), cs[j]? = some (.sl true sz es) → vs[j]? = some cv → cv = .slice none 0 0
theorem NoTips.nil {cs : List AV} {vs : List Value} (h : NoTips cs) : NilTips cs vs := fun j sz es _ hj _ => absurd hj (h j sz es)
theorem Reps.at {I : Mem} {σ : List Nat} : ∀ {vs : List AV} {cvs : List Value}, Reps I σ vs cvs → ∀ (j : Nat) (v : AV) (cv : Value), vs[j]? = some v → cvs[j]? = some cv → Rep I σ v cv
  | _, _, .nil, j, _, _, h, _ => by simp at h
  | _, _, .cons h k, 0, _, _, hv, hc => by simp at hv hc; subst hv; subst hc; exact h
  | _, _, .cons h k, j + 1, _, _, hv, hc => k.at j _ _ (by simpa using hv) (by simpa using hc)
theorem nilTips_tn {I : Mem} {σ : List Nat} {cs : List AV} {vs : List Value} (h : Reps I σ cs vs) : NilTips (cs.map V.tn) vs := by
  intro j sz es cv hj hc
  rw [List.getElem?_map] at hj
  cases hv : cs[j]? with
  | none => rw [hv] at hj; cases hj
  | some v =>
    rw [hv] at hj
    have hj : V.tn v = .sl true sz es := Option.some.inj hj
    have hrep := h.at j v cv hv hc
    rcases un_eq v with ⟨z, rfl, _, _⟩ | ⟨_, h1⟩
    · cases hrep; rfl
    · rw [h1] at hj; exact absurd hj ut_not_tip
theorem GExt.newOwn {B : Base} {g : G} {st : St} {w : World} (h : Glob B g st w) (o : Obj) (l : Loc) :
    GExt g { g with own := upd g.own w.heap.size (some l) } w (w.alloc o) where
  I := MemLe.refl _
  own b hb := upd_other _ _ (by omega)
  new _ _ _ hv := .inl hv
  imm b o v hv hb := absurd (h.Ilt b o (by rw [show g.I b o = some v from hv]; simp)) (by omega)
  immOwn b o l hb hv _ := absurd (h.Ilt b o hv) (by omega)
  ownlt b l' hb ho := by
    by_cases hbe : b = w.heap.size
    · subst hbe; simp
    · have : g.own b = some l' := by rw [← ho]; exact (upd_other _ _ hbe).symm
      have := h.ownlt b l' this
      simp; omega

theorem heap_alloc_at (w : World) (o : Obj) : (w.alloc o).heap[w.heap.size]? = some o := by
  show (w.heap.push o)[w.heap.size]? = some o
  simp

theorem Rel.newBox {n : Nat} {B : Base} {g : G} {e : Env} {bx : Bx} {st : St} {a : Act} {w : World} (h : Rel n B g e bx st a w) {d : Nat} (hd : d < n) (hb : bx d = none)
    {cs : List AV} {vs : List Value} {ty : TypeId} (hr : Reps g.I g.σ cs vs) (hn : NilTips cs vs) :
    Rel n B { g with own := upd g.own w.heap.size (some (.box d)), β := upd g.β d w.heap.size } (upd e d (.lp d 0)) (upd bx d (some cs)) st
      (a.put (some d) (.pointer (some ⟨w.heap.size, 0, none⟩))) (w.alloc (.cells ⟨vs⟩ ty)) := by
  have h1 := h.ext (Ext.alloc w (.cells ⟨vs⟩ ty)) (GExt.newOwn h.glob (.cells ⟨vs⟩ ty) (.box d)) rfl rfl
  refine ⟨⟨h1.glob.hI, h1.glob.hσ, h1.glob.fr, h1.glob.size, h1.glob.os, h1.glob.tape, h1.glob.output, h1.glob.imm, h1.glob.immOwn, h1.glob.ownlt, h1.glob.newI, h1.glob.objs, h1.glob.len⟩, by simpa [Act.put] using h1.nt, h1.defers, ?_, ?_, ?_⟩
  · intro t
    rw [getD_put a d t _ (by rw [h.nt]; exact hd)]
    by_cases ht : t = d
    · subst ht
      rw [upd_same, if_pos rfl]
      exact ⟨by rw [upd_same]; rfl, by simp [upd_same]⟩
    · rw [upd_other _ _ ht, if_neg ht]
      have := h1.tmps t
      cases hv : e t with
      | lp b off =>
        rw [hv] at this
        obtain ⟨k1, k2⟩ := this
        have hbd : b ≠ d := by rintro rfl; rw [hb] at k1; cases k1
        exact ⟨by rw [upd_other _ _ hbd]; exact k1, by simp only [upd_other _ _ hbd]; exact k2⟩
      | _ => rw [hv] at this; exact this
  · intro t sz es ht
    rw [getD_put a d t _ (by rw [h.nt]; exact hd)]
    by_cases htd : t = d
    · subst htd; rw [upd_same] at ht; cases ht
    · rw [upd_other _ _ htd] at ht; rw [if_neg htd]; exact h1.tips t sz es ht
  · intro b cs' hc
    by_cases hbd : b = d
    · subst hbd
      rw [upd_same] at hc
      obtain rfl := Option.some.inj hc
      refine ⟨by simp [upd_same], vs, ty, by simp only [upd_same]; exact heap_alloc_at w _, hr, fun j sz es cv hj hcv => .inl ⟨none, hn j sz es cv hj hcv⟩⟩
    · rw [upd_other _ _ hbd] at hc
      have := h1.boxes b cs' hc
      show BlockRep _ _ _ _ (upd g.β d w.heap.size b) cs'
      rw [upd_other _ _ hbd]
      exact this

theorem Glob.newObj {B : Base} {g : G} {st : St} {w : World} (h : Glob B g st w)
    {cs : List AV} {vs : List Value} {ty : TypeId} (hr : Reps g.I g.σ cs vs) (hn : NilTips cs vs) :
    Glob B { g with own := upd g.own w.heap.size (some (.obj st.length)), σ := g.σ ++ [w.heap.size] } (st ++ [some cs]) (w.alloc (.cells ⟨vs⟩ ty)) := by
  have hx := Ext.alloc w (.cells ⟨vs⟩ ty)
  have hg := GExt.newOwn h (.cells ⟨vs⟩ ty) (.obj st.length)
  have h1 := h.ext hx hg rfl
  have hpre : g.σ <+: g.σ ++ [w.heap.size] := ⟨_, rfl⟩
  refine ⟨h1.hI, h1.hσ.trans hpre, h1.fr, h1.size, h1.os, h1.tape, h1.output, h1.imm, h1.immOwn, h1.ownlt, h1.newI, ?_, by simp [h.len]⟩
  intro id cs' hc
  by_cases hid : id < st.length
  · rw [List.getElem?_append_left hid] at hc
    obtain ⟨blk, h2, h3⟩ := h1.objs id cs' hc
    obtain ⟨k1, v1, t1, k2, k3, k4⟩ := h3
    exact ⟨blk, prefix_get hpre h2, k1, v1, t1, k2, k3.mono (MemLe.refl _) hpre, k4⟩
  · rw [List.getElem?_append_right (by omega)] at hc
    have : id = st.length := by
      rcases Nat.lt_or_ge st.length id with hlt | hge
      · rw [List.getElem?_eq_none (by simp; omega)] at hc; cases hc
      · omega
    subst this
    simp at hc
    subst hc
    refine ⟨w.heap.size, by rw [← h.len]; simp, by simp [upd_same], vs, ty, heap_alloc_at w _, hr.mono (MemLe.refl _) hpre, fun j sz es cv hj hcv => .inl ⟨none, hn j sz es cv hj hcv⟩⟩

theorem Rel.newObj {n : Nat} {B : Base} {g : G} {e : Env} {bx : Bx} {st : St} {a : Act} {w : World} (h : Rel n B g e bx st a w) {d : Nat} (hd : d < n)
    {cs : List AV} {vs : List Value} {ty : TypeId} (hr : Reps g.I g.σ cs vs) (hn : NilTips cs vs) {v : AV} {cv : Value}
    (hv : Rep g.I (g.σ ++ [w.heap.size]) v cv) (hnl : ∀ b o, v ≠ .lp b o) (hnt : ∀ sz es, v ≠ .sl true sz es) :
    Rel n B { g with own := upd g.own w.heap.size (some (.obj st.length)), σ := g.σ ++ [w.heap.size] } (upd e d v) bx (st ++ [some cs])
      (a.put (some d) cv) (w.alloc (.cells ⟨vs⟩ ty)) := by
  have hx := Ext.alloc w (.cells ⟨vs⟩ ty)
  have hg := GExt.newOwn h.glob (.cells ⟨vs⟩ ty) (.obj st.length)
  have h1 := h.ext hx hg rfl rfl
  have hpre : g.σ <+: g.σ ++ [w.heap.size] := ⟨_, rfl⟩
  refine ⟨h.glob.newObj hr hn, by simpa [Act.put] using h.nt, h.defers, ?_, ?_, ?_⟩
  · intro t
    rw [getD_put a d t _ (by rw [h.nt]; exact hd)]
    by_cases ht : t = d
    · subst ht
      rw [upd_same, if_pos rfl]
      cases v <;> first | exact hv | exact absurd rfl (hnl _ _)
    · rw [upd_other _ _ ht, if_neg ht]
      exact RepT.ext (g := { g with own := upd g.own w.heap.size (some (.obj st.length)) }) (MemLe.refl _) hpre (fun _ _ => rfl) (h1.tmps t)
  · intro t sz es ht
    rw [getD_put a d t _ (by rw [h.nt]; exact hd)]
    by_cases htd : t = d
    · subst htd; rw [upd_same] at ht; exact absurd ht (hnt sz es)
    · rw [upd_other _ _ htd] at ht; rw [if_neg htd]; exact h1.tips t sz es ht
  · intro b cs' hc
    obtain ⟨k1, v1, t1, k2, k3, k4⟩ := h1.boxes b cs' hc
    exact ⟨k1, v1, t1, k2, k3.mono (MemLe.refl _) hpre, k4⟩

/-- A store into a block that may be written leaves what is told of other blocks. -/
theorem TipAt.setRow {g : G} {w : World} {blk : Nat} {L : Loc} (ho : g.own blk = some L) (hL : L.isTip = false) (vs : Array Value) {l : Loc} {sz : Nat} {es : List AV} {cv : Value} (hl : l.isTip = true)
    (h : TipAt g w l sz es cv) : TipAt g (w.setRow blk vs) l sz es cv := by
  rcases h with h | ⟨b, o, cap, rfl, h⟩
  · exact .inl h
  refine .inr ⟨b, o, cap, rfl, ?_⟩
  rcases h with h | ⟨h1, ⟨us, ty, h2, h3⟩, h4⟩
  · exact .inl h
  have hne : b ≠ blk := by rintro rfl; rw [ho] at h1; obtain rfl := Option.some.inj h1; rw [hL] at hl; cases hl
  exact .inr ⟨h1, ⟨us, ty, by rw [setRow_other _ _ _ _ hne]; exact h2, h3⟩, h4⟩
theorem BlockRep.setRow_other {g : G} {w : World} {blk blk' : Nat} {L l : Loc} {lt : Nat → Loc} {cs : List AV} (ho : g.own blk = some L) (hL : L.isTip = false) (vs : Array Value) (hne : blk' ≠ blk) (hlt : ∀ j, (lt j).isTip = true)
    (h : BlockRep g w l lt blk' cs) : BlockRep g (w.setRow blk vs) l lt blk' cs := by
  obtain ⟨h1, us, ty, h2, h3, h4⟩ := h
  exact ⟨h1, us, ty, by rw [Go.setRow_other _ _ _ _ hne]; exact h2, h3, fun j sz es cv hj hc => (h4 j sz es cv hj hc).setRow ho hL vs (hlt j)⟩
/-- All of the global part but the objects, behind a store. -/
theorem Glob.setRow {B : Base} {g : G} {st st' : St} {w : World} (h : Glob B g st w) {blk : Nat} {L : Loc} (ho : g.own blk = some L) (hL : L.isTip = false) (vs : Array Value) (hlen : st'.length = st.length)
    (hobj : ∀ id cs, st'[id]? = some (some cs) → ∃ blk', g.σ[id]? = some blk' ∧ BlockRep g (w.setRow blk vs) (.obj id) (fun j => .ot id j) blk' cs) : Glob B g st' (w.setRow blk vs) where
  hI := h.hI
  hσ := h.hσ
  fr b hb := by
    obtain ⟨h1, h2, h3⟩ := h.fr b hb
    have hne : b ≠ blk := by rintro rfl; rw [ho] at h3; cases h3
    exact ⟨by rw [setRow_other _ _ _ _ hne]; exact h1, h2, h3⟩
  size := by simpa using h.size
  os := h.os
  tape := h.tape
  output := h.output
  imm b o v hv := by
    have hne : b ≠ blk := by
      rintro rfl
      have := h.immOwn b o L (by rw [hv]; simp) ho
      rw [hL] at this; cases this
    rw [World.cell?_of_block (w := w) (setRow_other _ _ _ _ hne)]
    exact h.imm b o v hv
  immOwn := h.immOwn
  ownlt b l hl := by simpa using h.ownlt b l hl
  newI := h.newI
  objs := hobj
  len := by rw [hlen]; exact h.len

theorem Rel.setBox {n : Nat} {B : Base} {g : G} {e : Env} {bx : Bx} {st : St} {a : Act} {w : World} (h : Rel n B g e bx st a w) {b : Nat} {cs cs' : List AV} {vs' : List Value} (hb : bx b = some cs)
    (hr : Reps g.I g.σ cs' vs') (ht : ∀ (j sz : Nat) (es : List AV) (cv : Value), cs'[j]? = some (.sl true sz es) → vs'[j]? = some cv → TipAt g w (.bt b j) sz es cv) :
    Rel n B g e (upd bx b (some cs')) st a (w.setRow (g.β b) ⟨vs'⟩) := by
  have hbr := h.boxes b cs hb
  have ho := hbr.1
  refine ⟨h.glob.setRow ho rfl ⟨vs'⟩ rfl ?_, h.nt, h.defers, ?_, ?_, ?_⟩
  · intro id cs'' hc
    obtain ⟨blk, h1, h2⟩ := h.glob.objs id cs'' hc
    have hne : blk ≠ g.β b := by rintro rfl; have := h2.1; rw [ho] at this; cases this
    exact ⟨blk, h1, h2.setRow_other ho rfl _ hne (fun _ => rfl)⟩
  · intro t
    have := h.tmps t
    cases hv : e t with
    | lp b' off =>
      rw [hv] at this
      refine ⟨?_, this.2⟩
      by_cases hbb : b' = b
      · subst hbb; rw [upd_same]; rfl
      · rw [upd_other _ _ hbb]; exact this.1
    | _ => rw [hv] at this; exact this
  · intro t sz es htt
    exact (h.tips t sz es htt).setRow ho rfl _ rfl
  · intro b' cs'' hc
    by_cases hbb : b' = b
    · subst hbb
      rw [upd_same] at hc
      obtain rfl := Option.some.inj hc
      obtain ⟨_, us, ty, h2, _, _⟩ := hbr
      exact ⟨ho, vs', ty, setRow_heap w _ _ _ ty _ h2, hr, fun j sz es cv hj hcv => (ht j sz es cv hj hcv).setRow ho rfl _ rfl⟩
    · rw [upd_other _ _ hbb] at hc
      have h2 := h.boxes b' cs'' hc
      have hne : g.β b' ≠ g.β b := by intro heq; have := h2.1; rw [heq, ho] at this; cases this; exact hbb rfl
      exact h2.setRow_other ho rfl _ hne (fun _ => rfl)

theorem Rel.setObj {n : Nat} {B : Base} {g : G} {e : Env} {bx : Bx} {st : St} {a : Act} {w : World} (h : Rel n B g e bx st a w) {id blk : Nat} {cs cs' : List AV} {vs' : List Value} (hs : st[id]? = some (some cs))
    (hblk : g.σ[id]? = some blk) (hr : Reps g.I g.σ cs' vs') (ht : ∀ (j sz : Nat) (es : List AV) (cv : Value), cs'[j]? = some (.sl true sz es) → vs'[j]? = some cv → TipAt g w (.ot id j) sz es cv) :
    Rel n B g e bx (st.set id (some cs')) a (w.setRow blk ⟨vs'⟩) := by
  obtain ⟨blk', hb1, hbr⟩ := h.glob.objs id cs hs
  obtain rfl : blk' = blk := by rw [hblk] at hb1; exact (Option.some.inj hb1).symm
  have ho := hbr.1
  have hlt := (List.getElem?_eq_some_iff.1 hs).1
  refine ⟨h.glob.setRow ho rfl ⟨vs'⟩ (by simp) ?_, h.nt, h.defers, h.tmps, ?_, ?_⟩
  · intro id' cs'' hc
    by_cases hid : id' = id
    · subst hid
      rw [List.getElem?_set_self hlt] at hc
      obtain rfl := Option.some.inj (Option.some.inj hc)
      obtain ⟨_, us, ty, h2, _, _⟩ := hbr
      exact ⟨blk', hblk, ho, vs', ty, setRow_heap w _ _ _ ty _ h2, hr, fun j sz es cv hj hcv => (ht j sz es cv hj hcv).setRow ho rfl _ rfl⟩
    · rw [List.getElem?_set_ne (Ne.symm hid)] at hc
      obtain ⟨b2, h1, h2⟩ := h.glob.objs id' cs'' hc
      have hne : b2 ≠ blk' := by rintro rfl; have := h2.1; rw [ho] at this; cases this; exact hid rfl
      exact ⟨b2, h1, h2.setRow_other ho rfl _ hne (fun _ => rfl)⟩
  · intro t sz es htt
    exact (h.tips t sz es htt).setRow ho rfl _ rfl
  · intro b' cs'' hc
    have h2 := h.boxes b' cs'' hc
    have hne : g.β b' ≠ blk' := by intro heq; have := h2.1; rw [heq, ho] at this; cases this
    exact h2.setRow_other ho rfl _ hne (fun _ => rfl)

/-- The right of one place goes over to another one. -/
def reown (g : G) (l l' : Loc) : G := { g with own := fun b => if g.own b = some l then some l' else g.own b }
theorem TipAt.reown_to {g : G} {w : World} {l l' : Loc} {sz : Nat} {es : List AV} {cv : Value} (h : TipAt g w l sz es cv) : TipAt (reown g l l') w l' sz es cv := by
  rcases h with h | ⟨b, o, cap, rfl, h⟩
  · exact .inl h
  refine .inr ⟨b, o, cap, rfl, ?_⟩
  rcases h with h | ⟨h1, h2, h4⟩
  · exact .inl h
  exact .inr ⟨by simp [reown, h1], h2, h4⟩
theorem TipAt.reown_other {g : G} {w : World} {l l' k : Loc} {sz : Nat} {es : List AV} {cv : Value} (hk : k ≠ l) (h : TipAt g w k sz es cv) : TipAt (reown g l l') w k sz es cv := by
  rcases h with h | ⟨b, o, cap, rfl, h⟩
  · exact .inl h
  refine .inr ⟨b, o, cap, rfl, ?_⟩
  rcases h with h | ⟨h1, h2, h4⟩
  · exact .inl h
  exact .inr ⟨by simp only [reown]; rw [h1, if_neg (by simpa using hk)], h2, h4⟩
theorem BlockRep.reown {g : G} {w : World} {l l' L : Loc} {lt : Nat → Loc} {blk : Nat} {cs : List AV} (hl : l.isTip = true) (hL : L.isTip = false) (hlt : ∀ j sz es, cs[j]? = some (.sl true sz es) → lt j ≠ l) (h : BlockRep g w L lt blk cs) : BlockRep (reown g l l') w L lt blk cs := by
  obtain ⟨h1, us, ty, h2, h3, h4⟩ := h
  exact ⟨by simp only [V.reown]; rw [h1, if_neg (by rintro ⟨⟩; rw [hl] at hL; cases hL)], us, ty, h2, h3, fun j sz es cv hj hc => (h4 j sz es cv hj hc).reown_other (hlt j sz es hj)⟩
theorem Glob.reown {B : Base} {g : G} {st : St} {w : World} (h : Glob B g st w) {l l' : Loc} (hl : l.isTip = true) (hl' : l'.isTip = true)
    (hno : ∀ id cs (j sz : Nat) (es : List AV), st[id]? = some (some cs) → cs[j]? = some (.sl true sz es) → Loc.ot id j ≠ l) : Glob B (reown g l l') st w where
  hI := h.hI
  hσ := h.hσ
  fr b hb := by
    obtain ⟨h1, h2, h3⟩ := h.fr b hb
    exact ⟨h1, h2, by simp [V.reown, h3]⟩
  size := h.size
  os := h.os
  tape := h.tape
  output := h.output
  imm := h.imm
  immOwn b o k hv hk := by
    simp only [V.reown] at hk
    split at hk
    · cases hk; exact hl'
    · exact h.immOwn b o k hv hk
  ownlt b k hk := by
    simp only [V.reown] at hk
    split at hk
    · next hh => exact h.ownlt b l hh
    · exact h.ownlt b k hk
  newI := h.newI
  objs id cs hc := by
    obtain ⟨blk, h1, h2⟩ := h.objs id cs hc
    exact ⟨blk, h1, h2.reown hl rfl (fun j sz es hj => hno id cs j sz es hc hj)⟩
  len := h.len
end Go.V

/- V5: the types' table, and what each quiet operation does at the machine. -/
namespace Go.V

def isAggD : TypeDesc → Bool
  | .struct _ | .array _ _ => true
  | _ => false
def kindB : TK → TypeDesc → Bool
  | .bool, .bool => true
  | .int k, .int k' => decide (k = k')
  | .str, .string => true
  | .ptr, .pointer _ => true
  | .func, .func _ _ _ => true
  | .slice e, .slice e' => decide (e = e')
  | .array n e, .array n' e' => decide (n = n') && decide (e = e')
  | .struct fs, .struct fields => decide (fields.toList.map (fun f => (f.type, f.offset)) = fs)
  | .other, _ => true
  | _, _ => false
def scalZ : AV → Value → Bool
  | .bool b, .bool c => decide (b = c)
  | .int k n, .int k' m => decide (k = k') && decide (n = m)
  | .str [], .string s => decide (s.data.toList = [])
  | .nilp, .pointer none => true
  | .nilfn, .nilFunc => true
  | .sl _ _ [], .slice none 0 0 => true
  | _, _ => false
def listZ : List AV → List Value → Bool
  | [], [] => true
  | v :: r, cv :: s => scalZ v cv && listZ r s
  | _, _ => false
def zeroB : AV → Value → Bool
  | .agg cs, .agg vs => listZ cs vs.toList
  | v, cv => scalZ v cv
/-- A type's '==' goes cell by cell. -/
def flatB (P : Program) : Nat → Nat → Bool
  | 0, _ => false
  | d + 1, t => match P.underlying t with
    | some .bool | some (.int _) | some .string => true
    | some (.struct fs) => !P.stoodInHeld t && fs.toList.all fun f => decide (f.name ≠ "_") && flatB P d f.type
    | some (.array _ e) => flatB P d e
    | _ => false
def fieldsB (P : Program) : TypeDesc → Bool
  | .struct fields => fields.toList.all fun f => (P.info? f.type).isSome
  | .array _ e => (P.info? e).isSome
  | _ => true
def infoB (P : Program) (t : Nat) (i : TInfo) : Bool :=
  match P.info? t, P.underlying t with
  | some f, some d => decide (f.size = i.sz) && decide (f.bytes = i.bytes) && (match f.zero with | some zv => zeroB i.zero zv && decide (zv.cells.size = i.sz) | none => false) && decide (i.zero.cells.length = i.sz) &&
      (i.agg == isAggD d) && kindB i.kind d && (i.agg || decide (i.sz = 1)) && fieldsB P d && (!i.eqf || (flatB P 8 t && !P.eqGuardType P.depth t))
  | _, _ => false
structure InfoOk (P : Program) (t : Nat) (i : TInfo) : Prop where
  ex : ∃ f d, P.info? t = some f ∧ P.underlying t = some d ∧ f.size = i.sz ∧ f.bytes = i.bytes ∧ (∃ zv, f.zero = some zv ∧ zeroB i.zero zv = true ∧ zv.cells.size = i.sz) ∧ i.zero.cells.length = i.sz ∧
    i.agg = isAggD d ∧ kindB i.kind d = true ∧ (i.agg = false → i.sz = 1) ∧ fieldsB P d = true ∧ (i.eqf = true → flatB P 8 t = true ∧ P.eqGuardType P.depth t = false)
theorem infoOk_of {P : Program} {t : Nat} {i : TInfo} (h : infoB P t i = true) : InfoOk P t i := by
  unfold infoB at h
  split at h
  · next f d hf hd =>
    simp only [Bool.and_eq_true, decide_eq_true_eq, Bool.or_eq_true, Bool.not_eq_true', beq_iff_eq] at h
    obtain ⟨⟨⟨⟨⟨⟨⟨⟨h1, h2⟩, h3⟩, h4⟩, h5⟩, h6⟩, h8⟩, h9⟩, h7⟩ := h
    refine ⟨f, d, hf, hd, h1, h2, ?_, h4, h5, h6, (fun ha => by
        rcases h8 with h8 | h8
        · rw [ha] at h8; cases h8
        · exact h8), h9, fun he => ?_⟩
    · split at h3
      · next zv hz =>
        simp only [Bool.and_eq_true, decide_eq_true_eq] at h3
        exact ⟨zv, hz, h3.1, h3.2⟩
      · cases h3
    · rcases h7 with h7 | h7
      · rw [he] at h7; cases h7
      · exact h7
  · cases h
def TIok (P : Program) (ti : Nat → Option TInfo) : Prop := ∀ t i, ti t = some i → InfoOk P t i
def tabB (P : Program) (ti : Nat → Option TInfo) (n : Nat) : Bool := (List.range n).all fun t => match ti t with | none => true | some i => infoB P t i
theorem tiok_of {P : Program} {ti : Nat → Option TInfo} (n : Nat) (h : tabB P ti n = true) (hn : ∀ t, n ≤ t → ti t = none) : TIok P ti := by
  intro t i hi
  by_cases ht : t < n
  · unfold tabB at h
    rw [List.all_eq_true] at h
    have := h t (List.mem_range.2 ht)
    rw [hi] at this
    exact infoOk_of this
  · rw [hn t (by omega)] at hi; cases hi

section
variable {P : Program} {C : Cf}
theorem kind_slice (hT : TIok P C.ti) {t e : Nat} (h : C.kind t = .slice e) : P.underlying t = some (.slice e) := by
  unfold Cf.kind at h
  split at h
  · next i hi =>
    obtain ⟨f, d, _, hd, _, _, _, _, _, hk, _⟩ := (hT t i hi).ex
    rw [h] at hk
    cases d <;> simp [kindB] at hk
    subst hk; exact hd
  · cases h
theorem kind_array (hT : TIok P C.ti) {t n e : Nat} (h : C.kind t = .array n e) : P.underlying t = some (.array n e) := by
  unfold Cf.kind at h
  split at h
  · next i hi =>
    obtain ⟨f, d, _, hd, _, _, _, _, _, hk, _⟩ := (hT t i hi).ex
    rw [h] at hk
    cases d <;> simp [kindB] at hk
    obtain ⟨rfl, rfl⟩ := hk; exact hd
  · cases h
theorem kind_array' (hT : TIok P C.ti) {t n e : Nat} (h : C.kind t = .array n e) : ∃ f, P.info? e = some f := by
  unfold Cf.kind at h
  split at h
  · next i hi =>
    obtain ⟨f, d, _, hd, _, _, _, _, _, hk, _, hf, _⟩ := (hT t i hi).ex
    rw [h] at hk
    cases d <;> simp [kindB] at hk
    obtain ⟨rfl, rfl⟩ := hk
    exact Option.isSome_iff_exists.1 hf
  · cases h
theorem kind_int (hT : TIok P C.ti) {t : Nat} {k : IntKind} (h : C.kind t = .int k) : P.underlying t = some (.int k) := by
  unfold Cf.kind at h
  split at h
  · next i hi =>
    obtain ⟨f, d, _, hd, _, _, _, _, _, hk, _⟩ := (hT t i hi).ex
    rw [h] at hk
    cases d <;> simp [kindB] at hk
    subst hk; exact hd
  · cases h
theorem kind_ptr (hT : TIok P C.ti) {t : Nat} (h : C.kind t = .ptr) : ∃ el, P.underlying t = some (.pointer el) := by
  unfold Cf.kind at h
  split at h
  · next i hi =>
    obtain ⟨f, d, _, hd, _, _, _, _, _, hk, _⟩ := (hT t i hi).ex
    rw [h] at hk
    cases d <;> simp [kindB] at hk
    exact ⟨_, hd⟩
  · cases h
theorem kind_bool (hT : TIok P C.ti) {t : Nat} (h : C.kind t = .bool) : P.underlying t = some .bool := by
  unfold Cf.kind at h
  split at h
  · next i hi =>
    obtain ⟨f, d, _, hd, _, _, _, _, _, hk, _⟩ := (hT t i hi).ex
    rw [h] at hk
    cases d <;> simp [kindB] at hk
    exact hd
  · cases h
theorem kind_str (hT : TIok P C.ti) {t : Nat} (h : C.kind t = .str) : P.underlying t = some .string := by
  unfold Cf.kind at h
  split at h
  · next i hi =>
    obtain ⟨f, d, _, hd, _, _, _, _, _, hk, _⟩ := (hT t i hi).ex
    rw [h] at hk
    cases d <;> simp [kindB] at hk
    exact hd
  · cases h
theorem kind_struct' (hT : TIok P C.ti) {t : Nat} {fs : List (Nat × Nat)} (h : C.kind t = .struct fs) : ∃ fields, P.underlying t = some (.struct fields) ∧ fields.toList.map (fun f => (f.type, f.offset)) = fs ∧ ∀ f ∈ fields.toList, (P.info? f.type).isSome = true := by
  unfold Cf.kind at h
  split at h
  · next i hi =>
    obtain ⟨f, d, _, hd, _, _, _, _, _, hk, _, hf, _⟩ := (hT t i hi).ex
    rw [h] at hk
    cases d <;> simp [kindB] at hk
    exact ⟨_, hd, hk, List.all_eq_true.1 hf⟩
  · cases h
theorem kind_struct (hT : TIok P C.ti) {t : Nat} {fs : List (Nat × Nat)} (h : C.kind t = .struct fs) : ∃ fields, P.underlying t = some (.struct fields) ∧ fields.toList.map (fun f => (f.type, f.offset)) = fs := by
  obtain ⟨fields, h1, h2, _⟩ := kind_struct' hT h
  exact ⟨fields, h1, h2⟩
theorem info_of (hT : TIok P C.ti) {t : Nat} {i : TInfo} (h : C.ti t = some i) : ∃ f, P.info? t = some f ∧ f.size = i.sz ∧ f.bytes = i.bytes := by
  obtain ⟨f, d, hf, _, h1, h2, _⟩ := (hT t i h).ex
  exact ⟨f, hf, h1, h2⟩
theorem und_of (hT : TIok P C.ti) {t : Nat} {i : TInfo} (h : C.ti t = some i) : ∃ d, P.underlying t = some d ∧ i.agg = isAggD d := by
  obtain ⟨f, d, _, hd, _, _, _, _, h3, _⟩ := (hT t i h).ex
  exact ⟨d, hd, h3⟩
theorem sz_of {t : Nat} (h : C.sz t ≠ 0) : ∃ i, C.ti t = some i ∧ i.sz = C.sz t := by
  cases hi : C.ti t with
  | some i => exact ⟨i, rfl, by unfold Cf.sz; rw [hi]⟩
  | none => unfold Cf.sz at h; rw [hi] at h; exact absurd rfl h
theorem one_of (hT : TIok P C.ti) {t : Nat} {i : TInfo} (h : C.ti t = some i) (ha : i.agg = false) : i.sz = 1 := by
  obtain ⟨f, d, _, _, _, _, _, _, _, _, h1, _⟩ := (hT t i h).ex
  exact h1 ha
theorem zero_of (hT : TIok P C.ti) {t : Nat} {i : TInfo} (h : C.ti t = some i) : ∃ zv, (∀ w : World, (zeroValue t).run P w = .ok zv w) ∧ zeroB i.zero zv = true ∧ zv.cells.size = i.sz ∧ i.zero.cells.length = i.sz := by
  obtain ⟨f, d, hf, _, _, _, ⟨zv, h1, h2, h3⟩, h4, _⟩ := (hT t i h).ex
  exact ⟨zv, fun w => by simp [zeroValue, typeInfo, hf, h1], h2, h3, h4⟩
theorem run_sizeOf_of (hT : TIok P C.ti) {t : Nat} {i : TInfo} (h : C.ti t = some i) (w : World) : (sizeOf t).run P w = .ok i.sz w := by
  obtain ⟨f, hf, h1, _⟩ := info_of hT h
  simp [sizeOf, typeInfo, hf, h1]
theorem run_typeInfo_of (hT : TIok P C.ti) {t : Nat} {i : TInfo} (h : C.ti t = some i) : ∃ f, f.size = i.sz ∧ f.bytes = i.bytes ∧ ∀ w : World, (typeInfo t).run P w = .ok f w := by
  obtain ⟨f, hf, h1, h2⟩ := info_of hT h
  exact ⟨f, h1, h2, fun w => by simp [typeInfo, hf]⟩
theorem run_isAgg_of (hT : TIok P C.ti) {t : Nat} {i : TInfo} (h : C.ti t = some i) (w : World) : (isAgg t).run P w = .ok i.agg w := by
  obtain ⟨d, hd, h1⟩ := und_of hT h
  unfold isAgg
  rw [Sem.run_bind, run_underlying hd, Result.andThen_ok, h1]
  cases d <;> rfl
end

theorem scalZ_rep {I : Mem} {σ : List Nat} {v : AV} {cv : Value} (h : scalZ v cv = true) : Rep I σ v cv := by
  unfold scalZ at h
  split at h <;> first
    | (simp at h; done)
    | (simp at h; subst h; constructor)
    | (simp at h; obtain ⟨rfl, rfl⟩ := h; constructor)
    | constructor
    | skip
  next s =>
    have hs : s = ⟨⟨[]⟩⟩ := by
      have h' : s.data.toList = [] := by simpa using h
      cases s with
      | mk d => cases d with | mk l => simp at h'; subst h'; rfl
    subst hs; exact .str
theorem listZ_rep {I : Mem} {σ : List Nat} : ∀ {vs : List AV} {cvs : List Value}, listZ vs cvs = true → Reps I σ vs cvs
  | [], [], _ => .nil
  | v :: r, cv :: s, h => by
    unfold listZ at h
    simp at h
    exact .cons (scalZ_rep h.1) (listZ_rep h.2)
  | [], _ :: _, h => by cases h
  | _ :: _, [], h => by cases h
theorem zeroB_rep {I : Mem} {σ : List Nat} {v : AV} {cv : Value} (h : zeroB v cv = true) : Rep I σ v cv := by
  unfold zeroB at h
  split at h
  · exact .agg (listZ_rep h)
  · exact scalZ_rep h
theorem scalZ_nz {I : Mem} {σ : List Nat} {v : AV} {cv : Value} (h : scalZ v cv = true) : Rep I σ (nz v) cv := by
  have hr : Rep I σ v cv := scalZ_rep h
  unfold nz
  split
  · unfold scalZ at h
    split at h <;> first | (cases h; done) | exact .nils | (exfalso; simp_all)
  · exact hr.ut
theorem listZ_nz {I : Mem} {σ : List Nat} : ∀ {vs : List AV} {cvs : List Value}, listZ vs cvs = true → Reps I σ (vs.map nz) cvs
  | [], [], _ => .nil
  | v :: r, cv :: s, h => by
    unfold listZ at h
    rw [Bool.and_eq_true] at h
    exact .cons (scalZ_nz h.1) (listZ_nz h.2)
  | [], _ :: _, h => by cases h
  | _ :: _, [], h => by cases h
theorem scalZ_scal {v : AV} {cv : Value} (h : scalZ v cv = true) : scal v = true := by
  unfold scalZ at h
  split at h <;> first | rfl | cases h
theorem listZ_scal : ∀ {vs : List AV} {cvs : List Value}, listZ vs cvs = true → scalAll vs = true
  | [], [], _ => rfl
  | v :: r, cv :: s, h => by
    unfold listZ at h
    simp at h
    unfold scalAll
    rw [scalZ_scal h.1]
    exact listZ_scal h.2
  | [], _ :: _, h => by cases h
  | _ :: _, [], h => by cases h
theorem zeroB_scal {v : AV} {cv : Value} (h : zeroB v cv = true) : scalAll v.cells = true := by
  unfold zeroB at h
  split at h
  · exact listZ_scal h
  · next hno =>
    have := scalZ_scal h
    cases v <;> simp_all [AV.cells, scalAll, scal]

theorem ofVal_rep {I : Mem} {σ : List Nat} (C : Cf) (ty : Nat) (v : Value) : Rep I σ (ofVal C ty v) v := by
  unfold ofVal
  split <;> constructor
theorem RepT.of {g : G} {bx : Bx} {v : AV} {cv : Value} (h : Rep g.I g.σ v cv) : RepT g bx v cv := by
  cases v <;> first | exact h | cases h
theorem rd_rep {n : Nat} {B : Base} {g : G} {e : Env} {bx : Bx} {st : St} {a : Act} {w : World} (h : Rel n B g e bx st a w) (C : Cf) (ty : Nat) (x : Operand) : RepT g bx (rd C ty e x) (a.eval x) := by
  cases x with
  | tmp t => exact h.tmps t
  | const v => exact RepT.of (ofVal_rep C ty v)
  | func f => exact Rep.fn .nil .nil
  | global gl => exact Rep.undef
theorem RepT.rep {g : G} {bx : Bx} {v : AV} {cv : Value} (h : RepT g bx v cv) (hn : noLp v = true) : Rep g.I g.σ v cv := by
  cases v <;> first | exact h | cases hn
theorem RepT.ut {g : G} {bx : Bx} {v : AV} {cv : Value} (h : RepT g bx v cv) : RepT g bx (V.ut v) cv := by
  cases v <;> first | exact h | exact Rep.ut (v := .sl _ _ _) h | exact Rep.ut (v := .nils _) h
theorem RepT.utz {g : G} {bx : Bx} {v : AV} {cv : Value} (h : RepT g bx v cv) : RepT g bx (V.utz v) cv := by
  cases v <;> first | exact h | exact Rep.utz (v := .agg _) h | exact Rep.ut (v := .sl _ _ _) h | exact Rep.ut (v := .nils _) h
theorem zeroB_nz {I : Mem} {σ : List Nat} {v : AV} {cv : Value} (h : zeroB v cv = true) : Reps I σ (v.cells.map nz) cv.cells.toList := by
  unfold zeroB at h
  split at h
  · exact listZ_nz h
  · next hne =>
    have hv : v.cells = [v] := by
      cases v <;> first | rfl | (exfalso; cases cv <;> simp [scalZ] at h)
    have hc : cv.cells.toList = [cv] := by
      cases cv <;> first | rfl | (exfalso; cases v <;> simp [scalZ] at h)
    rw [hv, hc]
    exact .cons (scalZ_nz h) .nil
theorem rd_tip {n : Nat} {B : Base} {g : G} {e : Env} {bx : Bx} {st : St} {a : Act} {w : World} (h : Rel n B g e bx st a w) (C : Cf) (ty : Nat) (x : Operand) {sz : Nat} {es : List AV} (hx : rd C ty e x = .sl true sz es) :
    (∃ t, x = .tmp t ∧ e t = .sl true sz es ∧ TipAt g w (.tt t) sz es (a.eval x)) ∨ (es = [] ∧ a.eval x = .slice none 0 0) := by
  cases x with
  | tmp t => exact .inl ⟨t, rfl, hx, h.tips t sz es hx⟩
  | const v =>
    right
    have hx' : ofVal C ty v = .sl true sz es := hx
    show es = [] ∧ v = .slice none 0 0
    unfold ofVal at hx'
    split at hx' <;> first | (cases hx'; exact ⟨rfl, rfl⟩) | cases hx'
  | func f => cases hx
  | global gl => cases hx

/-- An operation that comes to a value. -/
theorem wp_value {P : Program} {n : Nat} {B : Base} {g' : G} {e : Env} {bx : Bx} {st : St} {a : Act} {w w' : World} {o : Oper} {v : AV} {cv : Value} {Q : Exit → Act → World → Prop}
    (hrun : (execOp a.eval o).run P w = .ok (.value cv) w') (hr : Rel n B g' e bx st a w') (hd : ∀ d, o.dst = some d → d < n) (hv : RepT g' bx v cv)
    (ht : ∀ d sz es, o.dst = some d → v = .sl true sz es → TipAt g' w' (.tt d) sz es cv) :
    o.wp P a w (fun a' w' => ∃ g', Rel n B g' (updO e o.dst v) bx st a' w') Q := by
  unfold Oper.wp
  rw [hrun]
  show ∃ g', Rel n B g' (updO e o.dst v) bx st (a.put o.dst cv) w'
  cases hdst : o.dst with
  | none => exact ⟨g', hr⟩
  | some d => exact ⟨g', hr.put (hd d hdst) hv (fun sz es h => ht d sz es hdst h)⟩
/-- The same, where the value has no right to be appended to, or needs none. -/
theorem wp_value' {P : Program} {n : Nat} {B : Base} {g : G} {e : Env} {bx : Bx} {st : St} {a : Act} {w : World} {o : Oper} {v : AV} {cv : Value} {Q : Exit → Act → World → Prop}
    (hrun : (execOp a.eval o).run P w = .ok (.value cv) w) (hr : Rel n B g e bx st a w) (hd : ∀ d, o.dst = some d → d < n) (hv : RepT g bx v cv) (ht : ∀ sz es, v ≠ .sl true sz es) :
    o.wp P a w (fun a' w' => ∃ g', Rel n B g' (updO e o.dst v) bx st a' w') Q :=
  wp_value hrun hr hd hv (fun _ sz es _ h => absurd h (ht sz es))
end Go.V

/- V6: the quiet operations at the machine, first part: moves, tests, loads, addresses, arithmetic. -/
namespace Go.V
/-- What a quiet operation must come to. -/
def QOk (P : Program) (n : Nat) (B : Base) (e : Env) (bx : Bx) (st : St) (o : Oper) (v : AV) (a : Act) (w : World) : Prop :=
  ∀ Q : Exit → Act → World → Prop, o.wp P a w (fun a' w' => ∃ g', Rel n B g' (updO e o.dst v) bx st a' w') Q

section
variable {P : Program} {C : Cf} {n : Nat} {B : Base} {g : G} {e : Env} {bx : Bx} {st : St} {a : Act} {w : World} {o : Oper}

theorem q_move (hr : Rel n B g e bx st a w) (hd : ∀ d, o.dst = some d → d < n) {x : Operand} (hop : o.op = .move x ∨ o.op = .assign x) : QOk P n B e bx st o (ut (rd C o.type e x)) a w := by
  intro Q
  refine wp_value' (cv := a.eval x) ?_ hr hd (rd_rep hr C o.type x).ut (fun sz es => ut_not_tip)
  rcases hop with hop | hop <;> simp [execOp, hop]

theorem rep_bool {I : Mem} {σ : List Nat} {b : Bool} {cv : Value} (h : Rep I σ (.bool b) cv) : cv = .bool b := by cases h; rfl
theorem rep_int {I : Mem} {σ : List Nat} {k : IntKind} {m : Int} {cv : Value} (h : Rep I σ (.int k m) cv) : cv = .int k m := by cases h; rfl
theorem rep_str {I : Mem} {σ : List Nat} {s : List UInt8} {cv : Value} (h : Rep I σ (.str s) cv) : cv = .string ⟨⟨s⟩⟩ := by cases h; rfl
theorem isB_as {v : AV} (h : isB v = true) : v = .bool (asB v) := by cases v <;> first | rfl | cases h

theorem q_pick (hX : C.x = std) (hr : Rel n B g e bx st a w) (hd : ∀ d, o.dst = some d → d < n) {c x y : Operand} (hop : o.op = .pick c x y) {cb : Bool} (hc : rd C o.type e c = .bool cb)
    (hxy : bif cb then isB (rd C o.type e x) = true else isB (rd C o.type e y) = true) :
    QOk P n B e bx st o (.bool (C.x .pick cb (asB (rd C o.type e x)) (asB (rd C o.type e y)))) a w := by
  intro Q
  have h1 := rd_rep hr C o.type c
  rw [hc] at h1
  have h1 := rep_bool h1
  have h2 := rd_rep hr C o.type x
  have h3 := rd_rep hr C o.type y
  refine wp_value' (cv := if cb then a.eval x else a.eval y) ?_ hr hd ?_ (by simp)
  · simp [execOp, hop, h1, asBool]
  · rw [hX]
    cases cb with
    | true =>
      rw [isB_as hxy] at h2
      have := rep_bool h2
      show Rep _ _ (.bool (asB _)) _
      simp only [if_true]; rw [this]; exact .bool
    | false =>
      rw [isB_as hxy] at h3
      have := rep_bool h3
      show Rep _ _ (.bool (asB _)) _
      simp only [Bool.false_eq_true, if_false]; rw [this]; exact .bool

/-- Cells that lie in the memory one behind the other. -/
def LiesAt (w : World) (b o : Nat) (vs : List Value) : Prop := ∀ j v, vs[j]? = some v → w.cell? ⟨b, o + j, none⟩ = some v
theorem LiesAt.of_block {w : World} {b : Nat} {vs : List Value} {ty : TypeId} {fz : Nat × Nat} (h : w.heap[b]? = some (.cells ⟨vs⟩ ty fz)) : LiesAt w b 0 vs := by
  intro j v hj
  simp [World.cell?, h, hj]
theorem addr_add (b o m : Nat) : (⟨b, o, none⟩ : Addr).add m = ⟨b, o + m, none⟩ := by
  unfold Addr.add; split <;> simp_all
theorem reps_getD {I : Mem} {σ : List Nat} {cs : List AV} {vs : List Value} (h : Reps I σ cs vs) {j : Nat} (hj : j < cs.length) : ∃ cv, vs[j]? = some cv ∧ Rep I σ (cs.getD j .undef) cv := by
  have hl := h.length
  obtain ⟨cv, hcv⟩ : ∃ cv, vs[j]? = some cv := ⟨vs[j]'(by omega), by simp⟩
  refine ⟨cv, hcv, ?_⟩
  have : cs[j]? = some (cs.getD j .undef) := by simp [List.getD, List.getElem?_eq_getElem hj]
  exact h.get this hcv
theorem run_loadVar_of (hT : TIok P C.ti) {t : Nat} {i : TInfo} (hi : C.ti t = some i) {cs : List AV} {vs : List Value} {I : Mem} {σ : List Nat} (hr : Reps I σ cs vs) {b o' off : Nat} (hl : LiesAt w b o' vs) (hle : off + i.sz ≤ cs.length) :
    ∃ cv, (loadVar t ⟨b, o' + off, none⟩).run P w = .ok cv w ∧ Rep I σ (qload i cs off).2 cv := by
  have hlen := hr.length
  unfold qload loadVar
  cases ha : i.agg with
  | true =>
    refine ⟨.agg ⟨(vs.drop off).take i.sz⟩, ?_, ?_⟩
    · have hsz : ((vs.drop off).take i.sz).length = i.sz := by simp; omega
      have := run_loadCells_list (P := P) w ⟨b, o' + off, none⟩ ((vs.drop off).take i.sz) (by
        intro j v hj
        rw [addr_add, Nat.add_assoc]
        refine hl (off + j) v ?_
        rw [List.getElem?_take] at hj
        split at hj
        · rw [List.getElem?_drop] at hj; exact hj
        · cases hj)
      rw [hsz] at this
      simp [run_isAgg_of hT hi, ha, run_sizeOf_of hT hi, this]
    · exact .agg ((hr.drop off).take i.sz).uts
  | false =>
    have h1 := one_of hT hi ha
    obtain ⟨cv, hcv, hrep⟩ := reps_getD hr (j := off) (by omega)
    refine ⟨cv, ?_, hrep.ut⟩
    have := hl off cv hcv
    simp [run_isAgg_of hT hi, ha, this]

/-- Where a pointer leads. -/
def cellsAt (bx : Bx) (st : St) : AV → Option (List AV × Nat)
  | .lp b off => (bx b).map (·, off)
  | .ref id off => match st[id]? with | some (some cs) => some (cs, off) | _ => none
  | .ip v off => some (v.cells, off)
  | _ => none
theorem ptr_cells (hr : Rel n B g e bx st a w) {p : AV} {cv : Value} (hp : RepT g bx p cv) {cs : List AV} {off : Nat} (hc : cellsAt bx st p = some (cs, off)) :
    ∃ b o' vs, cv = .pointer (some ⟨b, o' + off, none⟩) ∧ Reps g.I g.σ cs vs ∧ LiesAt w b o' vs := by
  cases p
  case lp b o' =>
    simp only [cellsAt] at hc
    cases hb : bx b with
    | none => rw [hb] at hc; cases hc
    | some cs' =>
      rw [hb] at hc
      obtain ⟨rfl, rfl⟩ : cs' = cs ∧ o' = off := by simpa using hc
      obtain ⟨_, vs, ty, h2, h3, _⟩ := hr.boxes b cs' hb
      exact ⟨g.β b, 0, vs, by rw [Nat.zero_add]; exact hp.2, h3, LiesAt.of_block h2⟩
  case ref id o' =>
    simp only [cellsAt] at hc
    split at hc
    · next cs' hs =>
      obtain ⟨rfl, rfl⟩ : cs' = cs ∧ o' = off := by simpa using hc
      obtain ⟨blk, h1, _, vs, ty, h2, h3, _⟩ := hr.glob.objs id cs' hs
      cases hp with
      | ref hq =>
        rw [h1] at hq; obtain rfl := Option.some.inj hq
        exact ⟨blk, 0, vs, by rw [Nat.zero_add], h3, LiesAt.of_block h2⟩
    · cases hc
  case ip v o' =>
    simp only [cellsAt] at hc
    obtain ⟨rfl, rfl⟩ : v.cells = cs ∧ o' = off := by simpa using hc
    cases hp with
    | ip hq => cases hq with
      | mk h1 h2 => exact ⟨_, _, _, rfl, h1, fun j cv hj => hr.glob.imm _ _ _ (h2 j cv hj)⟩
  all_goals (simp [cellsAt] at hc)

theorem q_load (hT : TIok P C.ti) (hr : Rel n B g e bx st a w) (hd : ∀ d, o.dst = some d → d < n) {t : Nat} {x : Operand} (hop : o.op = .load t x) {i : TInfo} (hi : C.ti t = some i)
    {cs : List AV} {off : Nat} (hc : cellsAt bx st (rd C 0 e x) = some (cs, off)) (hle : off + i.sz ≤ cs.length) : QOk P n B e bx st o (qload i cs off).2 a w := by
  intro Q
  obtain ⟨b, o', vs, hv, hrep, hl⟩ := ptr_cells hr (rd_rep hr C 0 x) hc
  obtain ⟨cv, hrun, hcv⟩ := run_loadVar_of hT hi hrep hl hle
  refine wp_value' (cv := cv) ?_ hr hd (.of hcv) ?_
  · simp [execOp, hop, Instr.loadAt, hv, Instr.sureAddr, hrun]
  · intro sz es
    unfold qload
    cases i.agg <;> simp [ut_not_tip]

theorem qaddr_rep {p : AV} {cv : Value} (hp : RepT g bx p cv) {m : Nat} (hok : (qaddr p m).1.holds) : ∃ b o', cv = .pointer (some ⟨b, o', none⟩) ∧ RepT g bx (qaddr p m).2 (.pointer (some ⟨b, o' + m, none⟩)) := by
  cases p <;> first | (exact absurd hok id) | skip
  case lp b off => exact ⟨_, _, hp.2, hp.1, rfl⟩
  case ref id off => cases hp with | ref h => exact ⟨_, _, rfl, Rep.ref h⟩
  case ip v off => cases hp with | ip h => exact ⟨_, _, rfl, by rw [Nat.add_assoc]; exact Rep.ip h⟩
theorem qaddr_tip {p : AV} {m sz : Nat} {es : List AV} : (qaddr p m).2 ≠ .sl true sz es := by cases p <;> simp [qaddr]

theorem q_fieldAddr (hT : TIok P C.ti) (hr : Rel n B g e bx st a w) (hd : ∀ d, o.dst = some d → d < n) {t f : Nat} {x : Operand} (hop : o.op = .fieldAddr t x f) (hok : (qfieldAddr C t (rd C 0 e x) f).1.holds) :
    QOk P n B e bx st o (qfieldAddr C t (rd C 0 e x) f).2 a w := by
  intro Q
  unfold qfieldAddr at hok ⊢
  split at hok
  · next fs hk =>
    split at hok
    · next ft off hf =>
      split at hok
      · exact absurd hok id
      · next m hm =>
        have hk' := hk
        obtain ⟨fields, hu, hmap⟩ := kind_struct hT hk'
        obtain ⟨b, o', hv, hrep⟩ := qaddr_rep (rd_rep hr C 0 x) hok
        obtain ⟨fl, hfl, h1, h2⟩ : ∃ fl, fields[f]? = some fl ∧ fl.type = ft ∧ fl.offset = off := by
          rw [← hmap, List.getElem?_map] at hf
          cases hq : fields.toList[f]? with
          | none => rw [hq] at hf; cases hf
          | some fl =>
            rw [hq] at hf
            have := Option.some.inj hf
            exact ⟨fl, by simpa using hq, congrArg Prod.fst this, congrArg Prod.snd this⟩
        obtain ⟨i, hi, hsz⟩ := sz_of (C := C) (t := ft) hm
        refine wp_value' (cv := .pointer (some ⟨b, o' + off, none⟩)) ?_ hr hd hrep (fun sz es => qaddr_tip)
        have hne : i.sz ≠ 0 := by rw [hsz]; exact hm
        simp [execOp, hop, Instr.fieldAt, run_underlying hu, hfl, hv, Instr.sureAddr, fieldPlace, h1, h2, run_sizeOf_of hT hi, hne, addr_add]
    · exact absurd hok id
  · exact absurd hok id
end
end Go.V

/- V7: the quiet operations at the machine, second part: elements, parts, arithmetic, texts, slices. -/
namespace Go.V
theorem Chk.and_holds {c d : Chk} (h : (Chk.and c d).holds) : c.holds ∧ d.holds := by
  cases c <;> cases d <;> first
    | exact ⟨trivial, trivial⟩
    | exact absurd h id
    | exact ⟨trivial, h⟩
    | exact ⟨h, trivial⟩
    | exact ⟨Both.a h, Both.b h⟩
theorem chkB_holds {b : Bool} (h : (chkB b).holds) : b = true := by cases b <;> first | rfl | exact absurd h id
theorem row_get {I : Mem} {σ : List Nat} : ∀ {es : List AV} {b o sz : Nat} {i : Nat} {v : AV}, Row I σ es b o sz → es[i]? = some v → RepAt I σ v b (o + i * sz) ∧ v.cells.length = sz
  | _, _, _, _, 0, _, .cons h h0 _ k r, hv => by simp at hv; subst hv; simpa using ⟨k, h⟩
  | _, _, o, sz, i + 1, _, .cons h h0 _ k r, hv => by
    simp at hv
    have := row_get r hv
    rw [show o + (i + 1) * sz = o + sz + i * sz by rw [Nat.add_mul]; omega]
    exact this
theorem row_pos {I : Mem} {σ : List Nat} {es : List AV} {b o sz : Nat} (h : Row I σ es b o sz) (he : es ≠ []) : 0 < sz := by
  cases h with
  | nil => exact absurd rfl he
  | cons _ h0 _ _ _ => exact h0
theorem row_drop {I : Mem} {σ : List Nat} : ∀ {es : List AV} {b o sz : Nat} (m : Nat), Row I σ es b o sz → Row I σ (es.drop m) b (o + m * sz) sz
  | _, _, o, sz, 0, h => by simpa using h
  | _, _, _, _, m + 1, .nil => .nil
  | _, _, o, sz, m + 1, .cons h h0 _ k r => by
    have := row_drop m r
    rw [show o + (m + 1) * sz = o + sz + m * sz by rw [Nat.add_mul]; omega]
    exact this
theorem row_take {I : Mem} {σ : List Nat} : ∀ {es : List AV} {b o sz : Nat} (m : Nat), Row I σ es b o sz → Row I σ (es.take m) b o sz
  | _, _, _, _, 0, _ => by simp; exact .nil
  | _, _, _, _, m + 1, .nil => .nil
  | _, _, _, _, m + 1, .cons h h0 hs k r => .cons h h0 hs k (row_take m r)

section
variable {P : Program} {C : Cf} {n : Nat} {B : Base} {g : G} {e : Env} {bx : Bx} {st : St} {a : Act} {w : World} {o : Oper}

theorem esz_slice {t el : Nat} (h : C.kind t = .slice el) : C.esz t = C.sz el := by unfold Cf.esz Cf.elem; rw [h]
theorem esz_array {t m el : Nat} (h : C.kind t = .array m el) : C.esz t = C.sz el := by unfold Cf.esz Cf.elem; rw [h]
theorem run_sizeOf_sz (hT : TIok P C.ti) {t : Nat} (h : C.sz t ≠ 0) (w : World) : (sizeOf t).run P w = .ok (C.sz t) w := by
  obtain ⟨i, hi, hs⟩ := sz_of (C := C) h
  rw [run_sizeOf_of hT hi, hs]
theorem getD_some {α : Type} {l : List α} {i : Nat} (h : i < l.length) (d : α) : l[i]? = some (l.getD i d) := by simp [List.getD, List.getElem?_eq_getElem h]

theorem eqSz_eq {a b : Nat} (h : eqSz a b = true) : a = b ∧ b ≠ 0 := by
  cases b with
  | zero => cases h
  | succ b => exact ⟨Nat.eq_of_beq_eq_true h, by omega⟩
theorem q_indexAddr (hX : C.x = std) (hT : TIok P C.ti) (hr : Rel n B g e bx st a w) (hd : ∀ d, o.dst = some d → d < n) {t : Nat} {x i : Operand} (hop : o.op = .indexAddr t x i)
    {k : IntKind} {m : Int} (hi : rd C 0 e i = .int k m) (hok : (qindexAddr C t (rd C t e x) m).1.holds) : QOk P n B e bx st o (qindexAddr C t (rd C t e x) m).2 a w := by
  intro Q
  have hi' := rd_rep hr C 0 i
  rw [hi] at hi'
  have hi' := rep_int hi'
  have hx := rd_rep hr C t x
  unfold qindexAddr at hok ⊢
  split at hok
  · next el hk =>
    have hu := kind_slice hT hk
    have he := esz_slice hk
    split at hok
    · next tip sz es hv =>
      rw [hv] at hx
      generalize hav : a.eval x = av at hx
      obtain ⟨h1, h2⟩ := Chk.and_holds hok
      obtain ⟨h1, hsz⟩ := eqSz_eq (chkB_holds h1)
      have h2 : InB m (C.x .len es) := h2
      have hlen : C.x .len es = (es.length : Int) := by rw [hX]; rfl
      have hlt : m.toNat < es.length := by have := h2.lo; have := h2.hi; omega
      cases hx with
      | snil => exact absurd hlt (by simp)
      | spot => exact absurd hlt (by simp)
      | sl hrow hn hcap =>
        next b o' nn cap =>
        obtain ⟨hat, _⟩ := row_get hrow (getD_some hlt .undef)
        refine wp_value' (cv := .pointer (some ⟨b, o' + m.toNat * sz + 0, none⟩)) ?_ hr hd ?_ (by simp)
        · have h3 : m < (nn : Int) := by rw [hn]; have := h2.hi; omega
          simp [execOp, hop, hi', hav, Instr.indexAt, run_underlying hu, asIntOf, h2.lo, h3, run_sizeOf_sz hT (he ▸ hsz), addr_add, h1, he]
        · have : C.x .get es m = es.getD m.toNat .undef := by rw [hX]; rfl
          rw [this]
          exact Rep.ip hat
    · next sz id off len hv =>
      rw [hv] at hx
      generalize hav : a.eval x = av at hx
      obtain ⟨h1, h2⟩ := Chk.and_holds hok
      obtain ⟨h1, hsz⟩ := eqSz_eq (chkB_holds h1)
      have h2 : InB m (len : Int) := h2
      cases hx with
      | msl hid hcap =>
        next b cap =>
        refine wp_value' (cv := .pointer (some ⟨b, off + m.toNat * C.esz t, none⟩)) ?_ hr hd (Rep.ref hid) (by simp)
        have h3 := h2.hi
        simp [execOp, hop, hi', hav, Instr.indexAt, run_underlying hu, asIntOf, h2.lo, h3, run_sizeOf_sz hT (he ▸ hsz), addr_add, he]
    · exact absurd hok id
  · next m' el hk =>
    have hu := kind_array hT hk
    have he := esz_array hk
    obtain ⟨hsz, h12⟩ := Chk.and_holds hok
    have hsz : C.esz t ≠ 0 := by have := Nat.le_of_ble_eq_true (chkB_holds hsz); omega
    obtain ⟨h1, h2⟩ := Chk.and_holds h12
    have h2 : InB m (m' : Int) := h2
    obtain ⟨b, o', hv, hrep⟩ := qaddr_rep hx h1
    refine wp_value' (cv := .pointer (some ⟨b, o' + m.toNat * C.esz t, none⟩)) ?_ hr hd hrep (fun _ _ => qaddr_tip)
    have h3 := h2.hi
    simp [execOp, hop, hi', Instr.indexAt, run_underlying hu, asIntOf, h2.lo, h3, hv, Instr.sureAddr, run_sizeOf_sz hT (he ▸ hsz), addr_add, he]
  · exact absurd hok id

theorem run_part_of (hT : TIok P C.ti) {t : Nat} {i : TInfo} (hi : C.ti t = some i) {cs : List AV} {vs : List Value} {I : Mem} {σ : List Nat} (hr : Reps I σ cs vs) {off : Nat} (hle : off + i.sz ≤ cs.length) :
    ∃ cv, (part t ⟨vs⟩ off).run P w = .ok cv w ∧ Rep I σ (qload i cs off).2 cv := by
  have hlen := hr.length
  unfold qload part
  cases ha : i.agg with
  | true =>
    refine ⟨.agg ⟨(vs.drop off).take i.sz⟩, ?_, .agg ((hr.drop off).take i.sz).uts⟩
    have : (⟨vs⟩ : Array Value).extract off (off + i.sz) = ⟨(vs.drop off).take i.sz⟩ := by
      apply Array.ext'
      simp [List.extract_eq_take_drop]
    simp [run_isAgg_of hT hi, ha, run_sizeOf_of hT hi, this]
  | false =>
    have h1 := one_of hT hi ha
    obtain ⟨cv, hcv, hrep⟩ := reps_getD hr (j := off) (by omega)
    exact ⟨cv, by simp [run_isAgg_of hT hi, ha, hcv], hrep.ut⟩
theorem qload_tip {i : TInfo} {cs : List AV} {off sz : Nat} {es : List AV} : (qload i cs off).2 ≠ .sl true sz es := by
  unfold qload
  cases i.agg <;> simp [ut_not_tip]
theorem qpart_ok {t : Nat} {cs : List AV} {off : Nat} (h : (qpart C t cs off).1.holds) : ∃ i, C.ti t = some i ∧ off + i.sz ≤ cs.length ∧ (qpart C t cs off).2 = (qload i cs off).2 := by
  unfold qpart at *
  split at h
  · next i hi => exact ⟨i, hi, Nat.le_of_ble_eq_true (chkB_holds h), rfl⟩
  · exact absurd h id

theorem q_field (hT : TIok P C.ti) (hr : Rel n B g e bx st a w) (hd : ∀ d, o.dst = some d → d < n) {t f : Nat} {x : Operand} (hop : o.op = .field t x f) (hok : (qfield C t (rd C t e x) f).1.holds) :
    QOk P n B e bx st o (qfield C t (rd C t e x) f).2 a w := by
  intro Q
  have hx := rd_rep hr C t x
  unfold qfield at hok ⊢
  split at hok
  · next fs cs hk hv =>
    rw [hv] at hx
    split at hok
    · next ft off hf =>
      obtain ⟨i, hi, hle, hq⟩ := qpart_ok hok
      rw [hq]
      obtain ⟨fields, hu, hmap⟩ := kind_struct hT hk
      obtain ⟨fl, hfl, h1, h2⟩ : ∃ fl, fields[f]? = some fl ∧ fl.type = ft ∧ fl.offset = off := by
        rw [← hmap, List.getElem?_map] at hf
        cases hq : fields.toList[f]? with
        | none => rw [hq] at hf; cases hf
        | some fl =>
          rw [hq] at hf
          have := Option.some.inj hf
          exact ⟨fl, by simpa using hq, congrArg Prod.fst this, congrArg Prod.snd this⟩
      generalize hav : a.eval x = av at hx
      cases hx with
      | agg hcs =>
        obtain ⟨cv, hrun, hrep⟩ := run_part_of (w := w) hT hi hcs hle
        refine wp_value' (cv := cv) ?_ hr hd (.of hrep) (fun _ _ => qload_tip)
        simp [execOp, hop, hav, Instr.field, run_underlying hu, hfl, asAgg, h1, h2, hrun]
    · exact absurd hok id
  · exact absurd hok id

theorem q_extract (hr : Rel n B g e bx st a w) (hd : ∀ d, o.dst = some d → d < n) {i : Nat} {x : Operand} (hop : o.op = .extract x i) {vs : List AV} {v : AV} (hx : rd C 0 e x = .tup vs) (hv : vs[i]? = some v) :
    QOk P n B e bx st o (ut v) a w := by
  intro Q
  have h := rd_rep hr C 0 x
  rw [hx] at h
  generalize hav : a.eval x = av at h
  cases h with
  | tup hcs =>
    obtain ⟨cv, h1, h2⟩ := reps_getD hcs (j := i) (List.getElem?_eq_some_iff.1 hv).1
    have : vs.getD i .undef = v := by simp [List.getD, hv]
    rw [this] at h2
    refine wp_value' (cv := cv) ?_ hr hd (.of h2.ut) (fun _ _ => ut_not_tip)
    simp [execOp, hop, hav, Instr.extract, h1]

theorem q_nilCheck (hr : Rel n B g e bx st a w) (hd : ∀ d, o.dst = some d → d < n) {x : Operand} (hop : o.op = .nilCheck x) (hp : isPtr (rd C o.type e x) = true) : QOk P n B e bx st o (rd C o.type e x) a w := by
  intro Q
  have h := rd_rep hr C o.type x
  obtain ⟨b, o', hv, _⟩ := qaddr_rep (m := 0) h (by cases hq : rd C o.type e x <;> rw [hq] at hp <;> first | trivial | cases hp)
  rw [hv] at h
  refine wp_value' (cv := .pointer (some ⟨b, o', none⟩)) ?_ hr hd h (fun sz es hs => by rw [hs] at hp; cases hp)
  simp [execOp, hop, hv]

theorem q_unOp (hX : C.x = std) (hr : Rel n B g e bx st a w) (hd : ∀ d, o.dst = some d → d < n) {op : UnOp} {t : Nat} {x : Operand} (hop : o.op = .unOp op t x) (hok : (qun C.x op (rd C t e x)).1.holds) :
    QOk P n B e bx st o (qun C.x op (rd C t e x)).2 a w := by
  intro Q
  have h := rd_rep hr C t x
  rw [hX] at hok ⊢
  unfold qun at hok ⊢
  split at hok
  · next b hb =>
    rw [hb] at h
    have h := rep_bool h
    exact wp_value' (cv := .bool !b) (by simp [execOp, hop, h, Op.unary]) hr hd Rep.bool (by simp)
  · next k m hb =>
    rw [hb] at h
    have h := rep_int h
    exact wp_value' (cv := .int k (k.wrap (0 - m))) (by simp [execOp, hop, h, Op.unary, Op.intArith]) hr hd Rep.int (by simp)
  · exact absurd hok id

theorem q_len (hX : C.x = std) (hT : TIok P C.ti) (hr : Rel n B g e bx st a w) (hd : ∀ d, o.dst = some d → d < n) {c : Call} {t : Nat} {x : Operand} (hop : o.op = .call c) (hc : c.callee = .builtin .len) (ha : c.args.toList = [x]) {ts : List Nat} (ht : c.argTypes.toList = t :: ts)
    (hok : (qlen C t (rd C t e x)).1.holds) : QOk P n B e bx st o (qlen C t (rd C t e x)).2 a w := by
  intro Q
  have h := rd_rep hr C t x
  have h0 : c.argTypes[0]? = some t := by rw [← Array.getElem?_toList, ht]; rfl
  have ha : c.args = #[x] := by apply Array.ext'; rw [ha]
  have hrun : ∀ m : Int, (Builtin.len_ c.argTypes o.type #[a.eval x]).run P w = .ok (goInt m) w → (execOp a.eval o).run P w = .ok (.value (.int .i64 m)) w := by
    intro m hm
    simp [execOp, hop, resolve, hc, ha, invoke, builtin, hm, goInt]
  unfold qlen at hok ⊢
  split at hok
  · next m el hk =>
    refine wp_value' (hrun m ?_) hr hd Rep.int (by simp)
    simp [Builtin.len_, h0, run_underlying (kind_array hT hk)]
  · next hk =>
    split at hok
    · next s hs =>
      rw [hs] at h
      have h := rep_str h
      refine wp_value' (hrun (s.length : Int) ?_) hr hd (by rw [hX]; exact Rep.int) (by simp)
      simp [Builtin.len_, h0, run_underlying (kind_str hT hk), h]
      rfl
    · exact absurd hok id
  · next el hk =>
    split at hok
    · next tip sz es hs =>
      rw [hs] at h
      refine wp_value' (hrun (es.length : Int) ?_) hr hd (by rw [hX]; exact Rep.int) (by simp)
      generalize hav : a.eval x = av at h
      cases h with
      | spot => simp [Builtin.len_, h0, run_underlying (kind_slice hT hk)]
      | snil => simp [Builtin.len_, h0, run_underlying (kind_slice hT hk)]
      | sl _ hn _ => simp [Builtin.len_, h0, run_underlying (kind_slice hT hk), hn]
    · next sz id off len hs =>
      rw [hs] at h
      refine wp_value' (hrun (len : Int) ?_) hr hd Rep.int (by simp)
      generalize hav : a.eval x = av at h
      cases h with
      | msl _ _ => simp [Builtin.len_, h0, run_underlying (kind_slice hT hk)]
    · exact absurd hok id
  · exact absurd hok id
end
end Go.V

/- V8: the quiet operations at the machine, third part: arithmetic, comparisons, conversions, texts, slices. -/
namespace Go.V
section
variable {P : Program} {C : Cf} {n : Nat} {B : Base} {g : G} {e : Env} {bx : Bx} {st : St} {a : Act} {w : World} {o : Oper}

theorem kindEq_eq {k k' : IntKind} (h : kindEq k k' = true) : k = k' := by
  cases k <;> cases k' <;> first | rfl | cases h
theorem eqGuard_int (op : BinOp) (t : Nat) (x y : Operand) (k k' : IntKind) (m m' : Int) : eqGuard op t x y (.int k m) (.int k' m') = pure () := by
  cases op <;> rfl
theorem eqGuard_bool (op : BinOp) (t : Nat) (x y : Operand) (b b' : Bool) : eqGuard op t x y (.bool b) (.bool b') = pure () := by
  cases op <;> rfl
theorem eqGuard_str (op : BinOp) (t : Nat) (x y : Operand) (b b' : ByteArray) : eqGuard op t x y (.string b) (.string b') = pure () := by
  cases op <;> rfl
theorem eqGuard_ptr (op : BinOp) (t : Nat) (x y : Operand) (b b' : Option Addr) : eqGuard op t x y (.pointer b) (.pointer b') = pure () := by
  cases op <;> rfl
theorem bin_run {t ty : Nat} {op : BinOp} {x y : Operand} (hop : o.op = .binOp op t x y ty) {cv : Value} (hg : eqGuard op t x y (a.eval x) (a.eval y) = pure ())
    (h : (binOp op t (a.eval x) (a.eval y)).run P w = .ok cv w) : (execOp a.eval o).run P w = .ok (.value cv) w := by
  simp [execOp, hop, hg, h]

theorem qint_ok (hX : C.x = std) {op : BinOp} {k : IntKind} {m m' : Int} {t : Nat} (hne : op ≠ .shl ∧ op ≠ .shr) (hok : (qint C.x op k m m').1.holds) :
    ∃ cv, (binOp op t (.int k m) (.int k m')).run P w = .ok cv w ∧ (∀ I σ, Rep I σ (qint C.x op k m m').2 cv) ∧ ∀ sz es, (qint C.x op k m m').2 ≠ .sl true sz es := by
  rw [hX] at *
  cases op
  case shl => exact absurd rfl hne.1
  case shr => exact absurd rfl hne.2
  case add => exact ⟨.int k (arith .add k m m'), by simp [binOp, Op.intArith, arith], fun I σ => Rep.int, by simp [qint]⟩
  case sub => exact ⟨.int k (arith .sub k m m'), by simp [binOp, Op.intArith, arith], fun I σ => Rep.int, by simp [qint]⟩
  case mul => exact ⟨.int k (arith .mul k m m'), by simp [binOp, Op.intArith, arith], fun I σ => Rep.int, by simp [qint]⟩
  case quo =>
    have h0 : m' ≠ 0 := NeZero.is hok
    exact ⟨.int k (arith .quo k m m'), by simp [binOp, Op.intDiv, h0, arith], fun I σ => Rep.int, by simp [qint]⟩
  case rem =>
    have h0 : m' ≠ 0 := NeZero.is hok
    exact ⟨.int k (arith .rem k m m'), by simp [binOp, Op.intDiv, h0, arith], fun I σ => Rep.int, by simp [qint]⟩
  case and => exact ⟨.int k (arith .and k m m'), by simp [binOp, Op.intBits, arith], fun I σ => Rep.int, by simp [qint]⟩
  case or => exact ⟨.int k (arith .or k m m'), by simp [binOp, Op.intBits, arith], fun I σ => Rep.int, by simp [qint]⟩
  case xor => exact ⟨.int k (arith .xor k m m'), by simp [binOp, Op.intBits, arith], fun I σ => Rep.int, by simp [qint]⟩
  case andNot => exact ⟨.int k (arith .andNot k m m'), by simp [binOp, Op.intBits, arith], fun I σ => Rep.int, by simp [qint]⟩
  case eql => exact ⟨.bool (decide (m = m')), by simp [binOp, Op.intCmp]; rfl, fun I σ => Rep.bool, by simp [qint]⟩
  case neq => exact ⟨.bool (!decide (m = m')), by simp [binOp, Op.intCmp]; rfl, fun I σ => Rep.bool, by simp [qint]⟩
  case lss => exact ⟨.bool (decide (m < m')), by simp [binOp, Op.intCmp], fun I σ => Rep.bool, by simp [qint]⟩
  case leq =>
    refine ⟨.bool (!decide (m' < m)), ?_, fun I σ => Rep.bool, by simp [qint]⟩
    have : decide (m ≤ m') = !decide (m' < m) := by rw [Bool.eq_iff_iff]; simp
    simp [binOp, Op.intCmp, this]
  case gtr => exact ⟨.bool (decide (m' < m)), by simp [binOp, Op.intCmp], fun I σ => Rep.bool, by simp [qint]⟩
  case geq =>
    refine ⟨.bool (!decide (m < m')), ?_, fun I σ => Rep.bool, by simp [qint]⟩
    have : decide (m' ≤ m) = !decide (m < m') := by rw [Bool.eq_iff_iff]; simp
    simp [binOp, Op.intCmp, this]
theorem bytes_toList (s : List UInt8) : (⟨⟨s⟩⟩ : ByteArray).toList = s := ByteArray.toList_eq _
theorem qstr_ok (hX : C.x = std) {op : BinOp} {s u : List UInt8} {t : Nat} (hok : (qstr C.x op s u).1.holds) :
    ∃ cv, (binOp op t (.string ⟨⟨s⟩⟩) (.string ⟨⟨u⟩⟩)).run P w = .ok cv w ∧ (∀ I σ, Rep I σ (qstr C.x op s u).2 cv) ∧ ∀ sz es, (qstr C.x op s u).2 ≠ .sl true sz es := by
  rw [hX] at *
  have hle : (bif Op.bytesLess s u then true else (s == u)) = (Op.bytesLess s u || s == u) := by cases Op.bytesLess s u <;> rfl
  cases op
  case add =>
    refine ⟨.string (⟨⟨s⟩⟩ ++ ⟨⟨u⟩⟩), ?_, fun I σ => ?_, by simp [qstr]⟩
    · have h := CatOk.is hok
      have h' : ¬ (IntKind.i64.max < (((⟨⟨s⟩⟩ : ByteArray).size + (⟨⟨u⟩⟩ : ByteArray).size : Nat) : Int)) := by
        have e1 : (⟨⟨s⟩⟩ : ByteArray).size = s.length := rfl
        have e2 : (⟨⟨u⟩⟩ : ByteArray).size = u.length := rfl
        rw [e1, e2]; omega
      simp only [binOp, Op.stringOp, Sem.run_ite]
      rw [if_neg (by simpa using h')]
      rfl
    · have : (⟨⟨s⟩⟩ ++ ⟨⟨u⟩⟩ : ByteArray) = ⟨⟨s ++ u⟩⟩ := by
        apply ByteArray.ext
        apply Array.ext'
        simp
      rw [this]; exact Rep.str
  case eql => exact ⟨.bool (s == u), by simp [binOp, Op.stringOp, bytes_toList], fun I σ => Rep.bool, by simp [qstr]⟩
  case neq => exact ⟨.bool !(s == u), by simp [binOp, Op.stringOp, bytes_toList], fun I σ => Rep.bool, by simp [qstr]⟩
  case lss => exact ⟨.bool (Op.bytesLess s u), by simp [binOp, Op.stringOp, bytes_toList], fun I σ => Rep.bool, by simp [qstr]⟩
  case geq => exact ⟨.bool !(Op.bytesLess s u), by simp [binOp, Op.stringOp, bytes_toList], fun I σ => Rep.bool, by simp [qstr]⟩
  case leq =>
    refine ⟨.bool (Op.bytesLess s u || s == u), by simp [binOp, Op.stringOp, bytes_toList], fun I σ => ?_, by simp [qstr]⟩
    rw [← hle]; exact Rep.bool
  case gtr =>
    refine ⟨.bool !(Op.bytesLess s u || s == u), by simp [binOp, Op.stringOp, bytes_toList], fun I σ => ?_, by simp [qstr]⟩
    rw [← hle]; exact Rep.bool
  all_goals exact absurd hok id

theorem equal_def (t : Nat) (x y : Value) : Op.equal t x y = Op.equalIn (9999 + 1) t x y := rfl
theorem run_eqIn_bool (d : Nat) {t : Nat} (hu : P.underlying t = some .bool) (b c : Bool) : (Op.equalIn (d + 1) t (.bool b) (.bool c)).run P w = .ok (b == c) w := by
  rw [Op.equalIn, Sem.run_bind, run_underlying hu]; rfl
theorem run_eqIn_nil (d : Nat) {t el : Nat} (hu : P.underlying t = some (.pointer el)) (q : Option Addr) : (Op.equalIn (d + 1) t (.pointer none) (.pointer q)).run P w = .ok q.isNone w := by
  rw [Op.equalIn, Sem.run_bind, run_underlying hu]; rfl
theorem run_eqIn_nil' (d : Nat) {t el : Nat} (hu : P.underlying t = some (.pointer el)) (q : Addr) : (Op.equalIn (d + 1) t (.pointer (some q)) (.pointer none)).run P w = .ok false w := by
  rw [Op.equalIn, Sem.run_bind, run_underlying hu]; rfl
theorem isPtr_some {v : AV} {cv : Value} (hp : isPtr v = true) (h : RepT g bx v cv) : ∃ ad, cv = .pointer (some ad) := by
  cases v <;> first
    | (cases hp; done)
    | exact ⟨_, h.2⟩
    | (cases h; exact ⟨_, rfl⟩)
theorem qptr_ok (hT : TIok P C.ti) {op : BinOp} {t : Nat} {ok r : Bool} {p q : Option Addr} (hpq : p = none ∨ q = none) (hr : r = (p.isNone && q.isNone)) (hok : (qptr op (C.kind t) ok r).1.holds) :
    ∃ cv, (binOp op t (.pointer p) (.pointer q)).run P w = .ok cv w ∧ (∀ I σ, Rep I σ (qptr op (C.kind t) ok r).2 cv) ∧ ∀ sz es, (qptr op (C.kind t) ok r).2 ≠ .sl true sz es := by
  unfold qptr at *
  split at hok
  · next hk =>
    obtain ⟨el, hu⟩ := kind_ptr hT hk
    have heq : (Op.equal t (.pointer p) (.pointer q)).run P w = .ok r w := by
      rw [equal_def]
      rcases hpq with rfl | rfl
      · rw [run_eqIn_nil _ hu, hr]; simp
      · cases p with
        | none => rw [run_eqIn_nil _ hu, hr]; simp
        | some b => rw [run_eqIn_nil' _ hu, hr]; simp
    split at hok
    · exact ⟨.bool r, by simp [binOp, heq], fun I σ => Rep.bool, by simp⟩
    · refine ⟨.bool (!r), by simp [binOp, heq], fun I σ => ?_, by simp⟩
      cases r <;> exact Rep.bool
    · exact absurd hok id
  · exact absurd hok id

theorem q_binOp (hX : C.x = std) (hT : TIok P C.ti) (hr : Rel n B g e bx st a w) (hd : ∀ d, o.dst = some d → d < n) {op : BinOp} {t ty : Nat} {x y : Operand} (hop : o.op = .binOp op t x y ty)
    (hag : ∀ xs ys, rd C t e x = .agg xs → rd C ty e y = .agg ys → QOk P n B e bx st o (qbin C.x (C.kind t) (eqOkB C t (rd C t e x) (rd C ty e y)) op (rd C t e x) (rd C ty e y)).2 a w)
    (hok : (qbin C.x (C.kind t) (eqOkB C t (rd C t e x) (rd C ty e y)) op (rd C t e x) (rd C ty e y)).1.holds) : QOk P n B e bx st o (qbin C.x (C.kind t) (eqOkB C t (rd C t e x) (rd C ty e y)) op (rd C t e x) (rd C ty e y)).2 a w := by
  have hx := rd_rep hr C t x
  have hy := rd_rep hr C ty y
  generalize rd C t e x = vx at *
  generalize rd C ty e y = vy at *
  have fin : ∀ {cv : Value} {v : AV}, eqGuard op t x y (a.eval x) (a.eval y) = pure () → (binOp op t (a.eval x) (a.eval y)).run P w = .ok cv w → (∀ I σ, Rep I σ v cv) → (∀ sz es, v ≠ .sl true sz es) → QOk P n B e bx st o v a w :=
    fun hg h1 h2 h3 Q => wp_value' (bin_run hop hg h1) hr hd (.of (h2 _ _)) h3
  unfold qbin at hok hag ⊢
  split at hok
  · next k m k' m' =>
    have hx := rep_int hx
    have hy := rep_int hy
    have hg : eqGuard op t x y (a.eval x) (a.eval y) = pure () := by rw [hx, hy]; exact eqGuard_int ..
    split at hok
    · have h0 : 0 ≤ m' := NonNeg.is hok
      refine fin (cv := .int k (arith .shl k m m')) hg ?_ (fun I σ => by rw [hX]; exact Rep.int) (by simp)
      rw [hx, hy]
      simp [binOp, Op.shift, arith]
      intro; omega
    · have h0 : 0 ≤ m' := NonNeg.is hok
      refine fin (cv := .int k (arith .shr k m m')) hg ?_ (fun I σ => by rw [hX]; exact Rep.int) (by simp)
      rw [hx, hy]
      simp [binOp, Op.shift, arith]
      intro; omega
    · next h1 h2 =>
      split at hok
      · next hk =>
        have := kindEq_eq hk
        subst this
        obtain ⟨cv, q1, q2, q3⟩ := qint_ok (P := P) (w := w) (t := t) hX ⟨h1, h2⟩ hok
        exact fin hg (by rw [hx, hy]; exact q1) q2 q3
      · exact absurd hok id
  · next s u =>
    have hx := rep_str hx
    have hy := rep_str hy
    obtain ⟨cv, q1, q2, q3⟩ := qstr_ok (P := P) (w := w) (t := t) hX hok
    exact fin (by rw [hx, hy]; exact eqGuard_str ..) (by rw [hx, hy]; exact q1) q2 q3
  · next b c =>
    have hx := rep_bool hx
    have hy := rep_bool hy
    have hg : eqGuard op t x y (a.eval x) (a.eval y) = pure () := by rw [hx, hy]; exact eqGuard_bool ..
    split at hok
    · next hk =>
      have hu := kind_bool hT hk
      have heq : (Op.equal t (.bool b) (.bool c)).run P w = .ok (b == c) w := by
        rw [equal_def, run_eqIn_bool _ hu]
      split at hok
      · exact fin (cv := .bool (b == c)) hg (by rw [hx, hy]; simp [binOp, heq]) (fun I σ => by rw [hX]; exact Rep.bool) (by simp)
      · exact fin (cv := .bool (!(b == c))) hg (by rw [hx, hy]; simp [binOp, heq]) (fun I σ => by rw [hX]; exact Rep.bool) (by simp)
      · exact absurd hok id
    · exact absurd hok id
  · have nilx : a.eval x = .pointer none := by generalize a.eval x = av at hx; cases hx; rfl
    have nily : a.eval y = .pointer none := by generalize a.eval y = av at hy; cases hy; rfl
    obtain ⟨cv, q1, q2, q3⟩ := qptr_ok (P := P) (w := w) hT (p := none) (q := none) (.inl rfl) (by rfl) hok
    exact fin (by rw [nilx, nily]; exact eqGuard_ptr ..) (by rw [nilx, nily]; exact q1) q2 q3
  · next hno =>
    have nilx : a.eval x = .pointer none := by generalize a.eval x = av at hx; cases hx; rfl
    have hp : isPtr vy = true := by
      unfold qptr at hok
      split at hok
      · split at hok <;> first | exact chkB_holds hok | exact absurd hok id
      · exact absurd hok id
    obtain ⟨ad, had⟩ := isPtr_some hp hy
    obtain ⟨cv, q1, q2, q3⟩ := qptr_ok (P := P) (w := w) hT (p := none) (q := some ad) (.inl rfl) (by rfl) hok
    exact fin (by rw [nilx, had]; exact eqGuard_ptr ..) (by rw [nilx, had]; exact q1) q2 q3
  · next hno =>
    have nily : a.eval y = .pointer none := by generalize a.eval y = av at hy; cases hy; rfl
    have hp : isPtr vx = true := by
      unfold qptr at hok
      split at hok
      · split at hok <;> first | exact chkB_holds hok | exact absurd hok id
      · exact absurd hok id
    obtain ⟨ad, had⟩ := isPtr_some hp hx
    obtain ⟨cv, q1, q2, q3⟩ := qptr_ok (P := P) (w := w) hT (p := some ad) (q := none) (.inr rfl) (by rfl) hok
    exact fin (by rw [nily, had]; exact eqGuard_ptr ..) (by rw [nily, had]; exact q1) q2 q3
  · next xs ys => exact hag xs ys rfl rfl
  · exact absurd hok id
end
end Go.V

/- V9: the quiet operations at the machine, fourth part: conversions, indexes, cuts, functions. -/
namespace Go.V
/-- A new block of immutable cells. -/
def addBlock (I : Mem) (b : Nat) (vs : List Value) : Mem := fun b' o => if b' = b then vs[o]? else I b' o
section
variable {P : Program} {C : Cf} {n : Nat} {B : Base} {g : G} {e : Env} {bx : Bx} {st : St} {a : Act} {w : World} {o : Oper}

theorem addBlock_le (h : Glob B g st w) (vs : List Value) : MemLe g.I (addBlock g.I w.heap.size vs) := by
  intro b o' v hv
  have := h.Ilt b o' (by rw [hv]; simp)
  simp only [addBlock]; rw [if_neg (by omega)]; exact hv
/-- The memory grows by blocks of which the first is told to be immutable as far as it is known. -/
theorem GExt.addBlock {w' : World} (h : Glob B g st w) (hx : Ext w w') {vs : List Value} (hl : LiesAt w' w.heap.size 0 vs) (hs : w.heap.size < w'.heap.size ∨ vs = []) :
    GExt g { g with I := addBlock g.I w.heap.size vs } w w' where
  I := addBlock_le h vs
  own _ _ := rfl
  new b o' v hv := by
    simp only [V.addBlock] at hv
    split at hv
    · right; omega
    · left; exact hv
  imm b o' v hv hb := by
    simp only [V.addBlock] at hv
    split at hv
    · next e' => subst e'; have := hl o' v hv; rwa [Nat.zero_add] at this
    · have := h.Ilt b o' (by rw [hv]; simp); omega
  immOwn b o' l hb _ ho := by have := h.ownlt b l ho; omega
  ownlt b l hb ho := by have := h.ownlt b l ho; omega
theorem reps_lies_at {I : Mem} {b : Nat} {vs : List Value} {k : Nat} {us : List Value} (hs : ∀ j u, us[j]? = some u → vs[k + j]? = some u) : ∀ j u, us[j]? = some u → addBlock I b vs b (k + j) = some u := by
  intro j u hj
  simp only [addBlock, if_true]
  exact hs j u hj
/-- Elements whose cells lie one behind the other in a new block. -/
theorem row_of_cells {I : Mem} {σ : List Nat} {b sz : Nat} : ∀ {es : List AV} {vs : List Value} (o' : Nat), 0 < sz → (∀ v ∈ es, v.cells.length = sz ∧ scalAll v.cells = true) → Reps I σ (es.flatMap AV.cells) vs → (∀ j u, vs[j]? = some u → I b (o' + j) = some u) → Row I σ es b o' sz
  | [], _, _, _, _, _, _ => .nil
  | v :: es, vs, o', h0, hsz, hr, hI => by
    obtain ⟨hv, hvs⟩ := hsz v (by simp)
    rw [List.flatMap_cons] at hr
    have hlen := hr.length
    have h1 := hr.take sz
    have h2 := hr.drop sz
    rw [List.take_append_of_le_length (by omega), List.take_of_length_le (by omega)] at h1
    rw [List.drop_append_of_le_length (by omega), List.drop_of_length_le (by omega), List.nil_append] at h2
    refine .cons hv h0 hvs (.mk h1 fun j cv hj => hI j cv ?_) (row_of_cells (o' + sz) h0 (fun u hu => hsz u (by simp [hu])) h2 fun j u hj => ?_)
    · rw [List.getElem?_take] at hj
      split at hj
      · exact hj
      · cases hj
    · rw [List.getElem?_drop] at hj
      have := hI (sz + j) u hj
      rwa [← Nat.add_assoc] at this

theorem ints_of_u8 {I : Mem} {σ : List Nat} : ∀ {es : List AV} {b o' : Nat}, es.all isU8 = true → Row I σ es b o' 1 → ∃ xs : List Int, xs.length = es.length ∧ (∀ i, i < es.length → I b (o' + i) = some (.int .u8 (xs.getD i 0))) ∧ es.map toU8 = xs.map (fun m => UInt8.ofNat m.toNat)
  | [], _, _, _, _ => ⟨[], rfl, fun i hi => absurd hi (by simp), rfl⟩
  | v :: es, b, o', hu, .cons h h0 _ k r => by
    simp only [List.all_cons, Bool.and_eq_true] at hu
    obtain ⟨xs, h1, h2, h3⟩ := ints_of_u8 hu.2 r
    obtain ⟨m, rfl⟩ : ∃ m, v = .int .u8 m := by
      have h1 := hu.1
      unfold isU8 at h1
      split at h1
      · exact ⟨_, rfl⟩
      · cases h1
    refine ⟨m :: xs, by simp [h1], fun i hi => ?_, by simp [h3, toU8]⟩
    cases k with
    | mk hc hI =>
      cases i with
      | zero =>
        cases hc with
        | cons q _ => have := rep_int q; subst this; simpa using hI 0 _ rfl
      | succ i =>
        have := h2 i (by simp at hi; omega)
        simp only [List.getD_cons_succ]
        rw [← this]; congr 1; omega

theorem u8s_reps {I : Mem} {σ : List Nat} : ∀ (s : List UInt8), Reps I σ ((s.map u8).flatMap AV.cells) (s.map fun c => Value.int .u8 (c.toNat : Int))
  | [] => .nil
  | c :: s => .cons .int (u8s_reps s)
theorem q_conv (hX : C.x = std) (hT : TIok P C.ti) (hr : Rel n B g e bx st a w) (hd : ∀ d, o.dst = some d → d < n) {src dst : Nat} {x : Operand} (hop : o.op = .convert src dst x) (hok : (qconv C src dst (rd C src e x)).1.holds) :
    QOk P n B e bx st o (qconv C src dst (rd C src e x)).2 a w := by
  intro Q
  have hx := rd_rep hr C src x
  have hrun : ∀ {cv : Value} {w' : World}, (convert src dst (a.eval x)).run P w = .ok cv w' → (execOp a.eval o).run P w = .ok (.value cv) w' := by
    intro cv w' h; simp [execOp, hop, h]
  generalize rd C src e x = vx at *
  unfold qconv at hok ⊢
  split at hok
  · next k m =>
    split at hok
    · next k' hk =>
      have hx := rep_int hx
      have hs := chkB_holds hok
      obtain ⟨d, hd'⟩ : ∃ d, P.underlying src = some d := by
        unfold Cf.has at hs
        split at hs
        · next i hi => obtain ⟨d, h1, _⟩ := und_of hT hi; exact ⟨d, h1⟩
        · cases hs
      refine wp_value' (cv := .int k' (k'.wrap m)) (hrun ?_) hr hd (by rw [hX]; exact Rep.int) (by simp)
      rw [hx]
      simp [convert, run_underlying hd', run_underlying (kind_int hT hk), Conv.intToInt]
    · exact absurd hok id
  · next s =>
    have hx := rep_str hx
    split at hok
    · next hk =>
      split at hok
      · next hk' =>
        refine wp_value' (cv := .string ⟨⟨s⟩⟩) (hrun ?_) hr hd Rep.str (by simp)
        rw [hx]
        simp [convert, run_underlying (kind_str hT hk), run_underlying (kind_str hT hk')]
      · exact absurd hok id
    · next el hk =>
      split at hok
      · next he =>
        split at hok
        · next hs =>
          have hu := Lib.run_convert_string_bytes (P := P) w src dst el ⟨⟨s⟩⟩ (kind_str hT hs) (kind_slice hT hk) (kind_int hT he)
          rw [← hx] at hu
          have hsz : (Lib.bytesWorld w el ⟨⟨s⟩⟩).heap.size = w.heap.size + 1 := Lib.bytesWorld_size ..
          have hext : Ext w (Lib.bytesWorld w el ⟨⟨s⟩⟩) := ⟨by rw [hsz]; omega, by simp [Lib.bytesWorld, World.freeze, World.alloc, World.drew, -World.alloc_eq, -World.drew_eq], by simp [Lib.bytesWorld, World.freeze, World.alloc, World.drew, -World.alloc_eq, -World.drew_eq],
            by simp [Lib.bytesWorld, World.freeze, World.alloc, World.drew, -World.alloc_eq, -World.drew_eq], fun b hb => Lib.bytesWorld_at_old _ _ _ _ hb⟩
          have hlies : LiesAt (Lib.bytesWorld w el ⟨⟨s⟩⟩) w.heap.size 0 (s.map fun c => Value.int .u8 (c.toNat : Int)) := by
            intro j v hj
            rw [List.getElem?_map] at hj
            cases hc : s[j]? with
            | none => rw [hc] at hj; cases hj
            | some c =>
              rw [hc] at hj
              obtain rfl := Option.some.inj hj
              have hlt := (List.getElem?_eq_some_iff.1 hc).1
              rw [Nat.zero_add, Lib.bytesWorld_cell w el ⟨⟨s⟩⟩ j hlt]
              simp [List.getD, hc]
          have hg := GExt.addBlock hr.glob hext hlies (.inl (by rw [hsz]; omega))
          have hr' := hr.ext hext hg rfl rfl
          refine wp_value (cv := .slice (some ⟨w.heap.size, 0, none⟩) (⟨⟨s⟩⟩ : ByteArray).size (grownCap w (⟨⟨s⟩⟩ : ByteArray).size 0 el)) (hrun hu) hr' hd ?_ (fun _ _ _ _ h => by simp at h)
          have hsize : (⟨⟨s⟩⟩ : ByteArray).size = s.length := rfl
          refine RepT.of (Rep.sl (row_of_cells (vs := s.map fun c => Value.int .u8 (c.toNat : Int)) 0 (by decide) ?_ ?_ ?_) ?_ ?_)
          · intro v hv
            rw [hX] at hv
            obtain ⟨c, _, rfl⟩ := List.mem_map.1 hv
            exact ⟨rfl, rfl⟩
          · rw [hX]
            show Reps _ _ ((s.map u8).flatMap AV.cells) _
            exact u8s_reps s
          · intro j u hj
            simp only [V.addBlock, if_true, Nat.zero_add]; exact hj
          · rw [hX, hsize]; simp [std]
          · exact grownCap_ge ..
        · exact absurd hok id
      · exact absurd hok id
    · exact absurd hok id
  · next tip sz es =>
    split at hok
    · next el hk hk' =>
      split at hok
      · next he =>
        obtain ⟨h1, h2⟩ := Chk.and_holds hok
        have h1 := Nat.eq_of_beq_eq_true (chkB_holds h1)
        have h2 := AllU8.is h2
        subst h1
        have hs := kind_slice hT hk
        have he := kind_int hT he
        have hd' := kind_str hT hk'
        have hofB : C.x .ofB es = es.map toU8 := by rw [hX]; rfl
        rw [hofB]
        generalize hav : a.eval x = av at hx hrun
        cases hx with
        | @spot _ _ b' o' s' =>
          refine wp_value' (cv := .string ⟨⟨[]⟩⟩) (hrun ?_) hr hd ?_ (by simp)
          · have hl : (loadCells ⟨b', o', some s'⟩ 0).run P w = .ok (([] : List Int).map (Value.int .u8)).toArray w := run_loadCells_list (P := P) w ⟨b', o', some s'⟩ [] (fun j v hj => by cases hj)
            rw [run_convert_bytes_string w src dst el _ 0 0 hs he hd', run_bytesToString w _ 0 0 [] hl]
            rfl
          · exact Rep.str
        | snil =>
          refine wp_value' (cv := .string ByteArray.empty) (hrun (run_convert_bytes_nil w src el hs he 0 0 dst hd')) hr hd ?_ (by simp)
          exact Rep.str
        | sl hrow hn hcap =>
          obtain ⟨xs, k1, k2, k3⟩ := ints_of_u8 h2 hrow
          refine wp_value' (hrun (run_convert_bytes_arg w src el hs he _ _ _ _ xs (k1.trans hn.symm) (fun i hi => hr.glob.imm _ _ _ (k2 i (by omega))) dst hd')) hr hd ?_ (by simp)
          rw [k3]
          have : strOfNums xs = ⟨⟨xs.map fun m => UInt8.ofNat m.toNat⟩⟩ := by simp [strOfNums]
          rw [this]; exact Rep.str
      · exact absurd hok id
    · exact absurd hok id
  · exact absurd hok id
end
end Go.V

/- V10: the quiet operations at the machine, fifth part: indexes, cuts, functions, greatest and least. -/
namespace Go.V
section
variable {P : Program} {C : Cf} {n : Nat} {B : Base} {g : G} {e : Env} {bx : Bx} {st : St} {a : Act} {w : World} {o : Oper}

theorem q_index (hX : C.x = std) (hT : TIok P C.ti) (hr : Rel n B g e bx st a w) (hd : ∀ d, o.dst = some d → d < n) {t : Nat} {x i : Operand} (hop : o.op = .index t x i)
    {k : IntKind} {m : Int} (hi : rd C 0 e i = .int k m) (hok : (qindex C t (rd C t e x) m).1.holds) : QOk P n B e bx st o (qindex C t (rd C t e x) m).2 a w := by
  intro Q
  have hi' := rd_rep hr C 0 i
  rw [hi] at hi'
  have hi' := rep_int hi'
  have hx := rd_rep hr C t x
  unfold qindex at hok ⊢
  split at hok
  · next len el hk =>
    have hu := kind_array hT hk
    split at hok
    · next cs hv =>
      rw [hv] at hx
      obtain ⟨h1, h2⟩ := Chk.and_holds hok
      obtain ⟨i', hi2, hle, hq⟩ := qpart_ok h1
      have h2 : InB m (len : Int) := h2
      have hlo := h2.lo; have hhi := h2.hi
      have hsz : C.sz el = i'.sz := by unfold Cf.sz; rw [hi2]
      generalize hav : a.eval x = av at hx
      cases hx with
      | agg hcs =>
        obtain ⟨cv, hrun, hrep⟩ := run_part_of (P := P) (w := w) hT hi2 hcs hle
        rw [hsz] at hrun
        have hq' : (qpart C el cs (m.toNat * C.sz el)).2 = (qload i' cs (m.toNat * C.sz el)).2 := hq
        show Oper.wp P o a w (fun a' w' => ∃ g', Rel n B g' (updO e o.dst (qpart C el cs (m.toNat * C.sz el)).2) bx st a' w') Q
        rw [hq']
        refine wp_value' (cv := cv) ?_ hr hd (.of hrep) (fun _ _ => qload_tip)
        simp [execOp, hop, hav, hi', Instr.index, asIntOf, run_underlying hu, hlo, hhi, run_sizeOf_of hT hi2, hrun]
    · exact absurd hok id
  · next hk =>
    split at hok
    · next s hv =>
      rw [hv] at hx
      have hx := rep_str hx
      have h2 : InB m (C.x .slen s) := hok
      have hlen : C.x .slen s = (s.length : Int) := by rw [hX]; rfl
      have hlo := h2.lo; have hhi := h2.hi
      have hlt : m.toNat < s.length := by omega
      refine wp_value' (cv := .int .u8 ((s.getD m.toNat 0).toNat : Int)) ?_ hr hd (by rw [hX]; exact Rep.int) (by simp)
      have hb : (ByteArray.mk (Array.mk s))[m.toNat]? = some (s.getD m.toNat 0) := by
        have h3 : m.toNat < (ByteArray.mk (Array.mk s)).size := hlt
        rw [getElem?_pos (ByteArray.mk (Array.mk s)) m.toNat h3]
        congr 1
        show s[m.toNat] = _
        simp [List.getD, hlt]
      simp [execOp, hop, hx, hi', Instr.index, asIntOf, run_underlying (kind_str hT hk), hlo, hb]
    · exact absurd hok id
  · exact absurd hok id

theorem bound_rep (hr : Rel n B g e bx st a w) {x : Option Operand} {m : Int} {k : IntKind} {l : Int} (h : bound C e m x = .int k l) : (x = none ∧ l = m) ∨ ∃ y, x = some y ∧ a.eval y = .int k l := by
  cases x with
  | none => left; unfold bound at h; cases h; exact ⟨rfl, rfl⟩
  | some y =>
    right
    have := rd_rep hr C 0 y
    have h : rd C 0 e y = .int k l := h
    rw [h] at this
    exact ⟨y, rfl, rep_int this⟩
theorem run_sliceBound {k : IntKind} {l : Int} {y : Nat} {code : BoundsCode} (h0 : 0 ≤ l) (h1 : l ≤ (y : Int)) : (Instr.sliceBound (.int k l) y code).run P w = .ok l.toNat w := by
  simp [Instr.sliceBound, asIntOf, h0, h1]
/-- The bounds of a cut. -/
theorem run_bounds (isSlice : Bool) {len cap : Nat} {lo hi : Option Operand} {l h : Int} (hlo : (lo = none ∧ l = 0) ∨ ∃ y k, lo = some y ∧ a.eval y = .int k l) (hhi : (hi = none ∧ h = len) ∨ ∃ y k, hi = some y ∧ a.eval y = .int k h)
    (h0 : 0 ≤ l) (h1 : l ≤ h) (h2 : h ≤ (len : Int)) (hc : len ≤ cap) : (Instr.sliceBounds isSlice len cap (lo.map a.eval) (hi.map a.eval) none).run P w = .ok (l.toNat, h.toNat, cap) w := by
  have e0 : 0 ≤ h := by omega
  have e1 : h ≤ (cap : Int) := by omega
  have e2 : l ≤ (h.toNat : Int) := by omega
  rcases hlo with ⟨rfl, rfl⟩ | ⟨y, k, rfl, hy⟩ <;> rcases hhi with ⟨rfl, rfl⟩ | ⟨z, k', rfl, hz⟩
  · simp [Instr.sliceBounds]
  · simp [Instr.sliceBounds, hz, run_sliceBound e0 e1]
  · have e4 : l ≤ (len : Int) := by omega
    simp [Instr.sliceBounds, hy, run_sliceBound h0 e4]
  · simp [Instr.sliceBounds, hy, hz, run_sliceBound e0 e1, run_sliceBound h0 e2]
theorem run_bounds3 {len cap : Nat} {lo : Option Operand} {z m : Operand} {l h : Int} {k k' : IntKind} (hlo : (lo = none ∧ l = 0) ∨ ∃ y k, lo = some y ∧ a.eval y = .int k l) (hz : a.eval z = .int k h) (hm : a.eval m = .int k' h)
    (h0 : 0 ≤ l) (h1 : l ≤ h) (h2 : h ≤ (len : Int)) (hc : len ≤ cap) : (Instr.sliceBounds true len cap (lo.map a.eval) (some (a.eval z)) (some (a.eval m))).run P w = .ok (l.toNat, h.toNat, h.toNat) w := by
  have e0 : 0 ≤ h := by omega
  have e1 : h ≤ (cap : Int) := by omega
  have e2 : l ≤ (h.toNat : Int) := by omega
  have e3 : h ≤ (h.toNat : Int) := by omega
  rcases hlo with ⟨rfl, rfl⟩ | ⟨y, k, rfl, hy⟩
  · simp [Instr.sliceBounds, hz, hm, run_sliceBound e0 e1, run_sliceBound e0 e3]
  · simp [Instr.sliceBounds, hy, hz, hm, run_sliceBound e0 e1, run_sliceBound e0 e3, run_sliceBound h0 e2]

theorem cut_length {es : List AV} {l h : Int} (h0 : 0 ≤ l) (h1 : l ≤ h) (h2 : h ≤ (es.length : Int)) : ((es.take h.toNat).drop l.toNat).length = h.toNat - l.toNat := by
  simp; omega
/-- A cut of a slice stands for the cut of its elements. -/
theorem rep_cut {I : Mem} {σ : List Nat} {tip tip' : Bool} {sz : Nat} {es : List AV} {b o' nn cap m : Nat} {l h : Int} (hrow : Row I σ es b o' sz) (hn : nn = es.length) (h0 : 0 ≤ l) (h1 : l ≤ h) (h2 : h ≤ (es.length : Int)) (hm : h.toNat ≤ m) :
    Rep I σ (.sl tip' sz ((es.take h.toNat).drop l.toNat)) (.slice (if m = l.toNat then some ⟨b, o', none⟩ else some ⟨b, o' + l.toNat * sz, none⟩) (h.toNat - l.toNat) (m - l.toNat)) := by
  have hlen := cut_length h0 h1 h2
  split
  · next he =>
    have : (es.take h.toNat).drop l.toNat = [] := List.eq_nil_of_length_eq_zero (by omega)
    rw [this]
    exact .sl .nil (by simp; omega) (by omega)
  · exact .sl (row_drop _ (row_take _ hrow)) hlen.symm (by omega)

theorem q_slice (hX : C.x = std) (hT : TIok P C.ti) (hr : Rel n B g e bx st a w) (hd : ∀ d, o.dst = some d → d < n) {t : Nat} {x : Operand} {lo hi mx : Option Operand} (hop : o.op = .slice t x lo hi mx)
    (hok : (qslice C t (rd C t e x) e lo hi mx).1.holds) : QOk P n B e bx st o (qslice C t (rd C t e x) e lo hi mx).2 a w := by
  intro Q
  have hx := rd_rep hr C t x
  have hbd : ∀ {y : Option Operand} {m : Int} {k : IntKind} {l : Int}, bound C e m y = .int k l → (y = none ∧ l = m) ∨ ∃ z k, y = some z ∧ a.eval z = .int k l := fun h => by
    rcases bound_rep hr h with h | ⟨z, h1, h2⟩
    · exact .inl h
    · exact .inr ⟨z, _, h1, h2⟩
  unfold qslice at hok ⊢
  split at hok
  · next el hk =>
    have hu := kind_slice hT hk
    have he := esz_slice hk
    split at hok
    · next tip sz es hv =>
      rw [hv] at hx
      have hlen : C.x .len es = (es.length : Int) := by rw [hX]; rfl
      have hsub : ∀ l h, C.x .sub es l h = (es.take h.toNat).drop l.toNat := by rw [hX]; intros; rfl
      split at hok
      · next k1 l k2 h hl hh =>
        rw [hlen] at hh
        split at hok
        · obtain ⟨c1, c2⟩ := Chk.and_holds hok
          obtain ⟨c1, hne⟩ := eqSz_eq (chkB_holds c1)
          have c2 : Cuts l h (C.x .len es) := c2
          rw [hlen] at c2
          simp only [hsub]
          generalize hav : a.eval x = av at hx
          cases hx with
          | @spot _ _ b' o' s' =>
            have hrun := run_bounds (P := P) (a := a) (w := w) true (len := 0) (cap := 0) (hbd hl) (hbd hh) c2.lo c2.mid c2.hi (Nat.le_refl _)
            have e1 : h.toNat = 0 := by have := c2.hi; simp at this; omega
            have e2 : l.toNat = 0 := by have := c2.mid; omega
            refine wp_value' (cv := .slice (some ⟨b', o', some s'⟩) 0 0) ?_ hr hd (by simp; exact Rep.spot) (by simp)
            simp [execOp, hop, hav, Instr.sliceAt, Instr.slice, run_underlying hu, hrun, run_sizeOf_sz hT (he ▸ hne), e1, e2, Addr.add]
          | snil =>
            have hrun := run_bounds (P := P) (a := a) (w := w) true (len := 0) (cap := 0) (hbd hl) (hbd hh) c2.lo c2.mid c2.hi (Nat.le_refl _)
            have e1 : h.toNat = 0 := by have := c2.hi; simp at this; omega
            have e2 : l.toNat = 0 := by have := c2.mid; omega
            refine wp_value' (cv := .slice none 0 0) ?_ hr hd (by simp; exact Rep.snil) (by simp)
            simp [execOp, hop, hav, Instr.sliceAt, Instr.slice, run_underlying hu, hrun, run_sizeOf_sz hT (he ▸ hne), e1, e2]
          | sl hrow hn hcap =>
            next b o' nn cap =>
            have hrun := run_bounds (P := P) (a := a) (w := w) true (len := nn) (cap := cap) (hbd hl) (by rw [hn]; exact hbd hh) c2.lo c2.mid (by rw [hn]; exact c2.hi) hcap
            have hh' : h.toNat ≤ cap := by have := c2.hi; omega
            refine wp_value' ?_ hr hd (.of (rep_cut (tip := tip) (cap := cap) hrow hn c2.lo c2.mid c2.hi hh')) (by simp)
            simp [execOp, hop, hav, Instr.sliceAt, Instr.slice, run_underlying hu, hrun, run_sizeOf_sz hT (he ▸ hne), addr_add, c1, he]
        · next m =>
          split at hok
          · next k3 mm z hm =>
            obtain ⟨c1, c2⟩ := Chk.and_holds hok
            obtain ⟨c1, hne⟩ := eqSz_eq (chkB_holds c1)
            have c2 : Both (Cuts l h (C.x .len es)) (EqInt mm h) := c2
            have c3 := EqInt.is c2.b
            have c2 := c2.a
            rw [hlen] at c2
            subst c3
            simp only [hsub]
            have hm' := rd_rep hr C 0 m
            rw [hm] at hm'
            have hm' := rep_int hm'
            obtain ⟨kz, hz⟩ : ∃ kz, a.eval z = .int kz mm := by
              rcases hbd hh with ⟨h, _⟩ | ⟨z', kz, h, h'⟩
              · cases h
              · obtain rfl := Option.some.inj h; exact ⟨kz, h'⟩
            have hl2 := cut_length c2.lo c2.mid c2.hi
            generalize hav : a.eval x = av at hx
            cases hx with
            | @spot _ _ b' o' s' =>
              have hrun := run_bounds3 (P := P) (a := a) (w := w) (len := 0) (cap := 0) (hbd hl) hz hm' c2.lo c2.mid c2.hi (Nat.le_refl _)
              have e1 : mm.toNat = 0 := by have := c2.hi; simp at this; omega
              have e2 : l.toNat = 0 := by have := c2.mid; omega
              refine wp_value (cv := .slice (some ⟨b', o', some s'⟩) 0 0) ?_ hr hd (by simp; exact Rep.spot) (fun _ _ _ _ _ => .inl ⟨_, rfl⟩)
              simp [execOp, hop, hav, Instr.sliceAt, Instr.slice, run_underlying hu, hrun, run_sizeOf_sz hT (he ▸ hne), e1, e2, Addr.add]
            | snil =>
              have hrun := run_bounds3 (P := P) (a := a) (w := w) (len := 0) (cap := 0) (hbd hl) hz hm' c2.lo c2.mid c2.hi (Nat.le_refl _)
              have e1 : mm.toNat = 0 := by have := c2.hi; simp at this; omega
              have e2 : l.toNat = 0 := by have := c2.mid; omega
              refine wp_value (cv := .slice none 0 0) ?_ hr hd (by simp; exact Rep.snil) (fun _ _ _ _ _ => .inl ⟨_, rfl⟩)
              simp [execOp, hop, hav, Instr.sliceAt, Instr.slice, run_underlying hu, hrun, run_sizeOf_sz hT (he ▸ hne), e1, e2]
            | sl hrow hn hcap =>
              next b o' nn cap =>
              have hrun := run_bounds3 (P := P) (a := a) (w := w) (len := nn) (cap := cap) (hbd hl) hz hm' c2.lo c2.mid (by rw [hn]; exact c2.hi) hcap
              refine wp_value ?_ hr hd (.of (rep_cut (tip := tip) (cap := cap) hrow hn c2.lo c2.mid c2.hi (Nat.le_refl _))) ?_
              · simp [execOp, hop, hav, Instr.sliceAt, Instr.slice, run_underlying hu, hrun, run_sizeOf_sz hT (he ▸ hne), addr_add, c1, he]
              · intro d sz' es' _ hes
                simp only [AV.sl.injEq, true_and] at hes
                obtain ⟨rfl, rfl⟩ := hes
                right
                split
                · exact ⟨_, _, _, by rw [hl2], .inl hl2.symm⟩
                · exact ⟨_, _, _, by rw [hl2], .inl hl2.symm⟩
          · exact absurd hok id
      · exact absurd hok id
    · exact absurd hok id
  · next hk =>
    split at hok
    · next s hv =>
      rw [hv] at hx
      have hx := rep_str hx
      have hlen : C.x .slen s = (s.length : Int) := by rw [hX]; rfl
      split at hok
      · next k1 l k2 h hl hh =>
        rw [hlen] at hh
        have c2 : Cuts l h (C.x .slen s) := hok
        rw [hlen] at c2
        have hrun := run_bounds (P := P) (a := a) (w := w) false (len := s.length) (cap := s.length) (hbd hl) (hbd hh) c2.lo c2.mid c2.hi (Nat.le_refl _)
        refine wp_value' (cv := .string ⟨⟨(s.take h.toNat).drop l.toNat⟩⟩) ?_ hr hd (by rw [hX]; exact Rep.str) (by simp)
        have hsz : (⟨⟨s⟩⟩ : ByteArray).size = s.length := rfl
        have hext : (⟨⟨s⟩⟩ : ByteArray).extract l.toNat h.toNat = ⟨⟨(s.take h.toNat).drop l.toNat⟩⟩ := by
          apply ByteArray.ext
          apply Array.ext'
          simp [List.extract_eq_take_drop, List.drop_take]
        simp [execOp, hop, hx, Instr.sliceAt, Instr.slice, run_underlying (kind_str hT hk), hsz, hrun, hext]
      · exact absurd hok id
    · exact absurd hok id
  · exact absurd hok id
end
end Go.V
