/- S0: this translation's configuration, with no pure function yet; each function's own: printed by a program (wip/gens0.py). -/
import Derived.Test.YtgogpeamdfmaiaaGreatVD
import Derived.Test.YtgogpeamdfmaiaaGreatG1
set_option linter.unusedVariables false
set_option linter.unusedSimpArgs false
namespace Go.V
open Go.Proofs
set_option maxRecDepth 100000
theorem ti_none (t : Nat) (h : 423 ≤ t) : ti t = none := by
  have hb : ∀ k, k ≤ 423 → Nat.blt t k = false := fun k hk => by
    cases hq : Nat.blt t k with
    | false => rfl
    | true => have : t < k := Nat.le_of_ble_eq_true hq; omega
  have he : Nat.beq t 422 = false := by
    cases hq : Nat.beq t 422 with
    | false => rfl
    | true => have := Nat.eq_of_beq_eq_true hq; omega
  unfold ti
  rw [hb 218 (by decide)]; dsimp only
  rw [hb 318 (by decide)]; dsimp only
  rw [hb 370 (by decide)]; dsimp only
  rw [hb 396 (by decide)]; dsimp only
  rw [hb 408 (by decide)]; dsimp only
  rw [hb 417 (by decide)]; dsimp only
  rw [hb 420 (by decide)]; dsimp only
  rw [hb 421 (by decide)]; dsimp only
  rw [hb 422 (by decide)]; dsimp only
  rw [he]
theorem ok0 : Ok Tryz.prog (C0 std) where
  x := rfl
  ti := tiok_of 423 (by kernel_rfl) ti_none
  pf f p h := by cases h
  eq := eqok_of (tiok_of 423 (by kernel_rfl) ti_none)
  mixed := by kernel_rfl
def memN : List Nat → Nat → Bool
  | [], _ => false
  | a :: r, t => match Nat.beq t a with | true => true | false => memN r t
def rtL : List (Nat × Nat) → Nat → Nat
  | [], t => t
  | (a, b) :: r, t => match Nat.beq t a with | true => b | false => rtL r t
def cfX (X : Ops) (tr hp fz : List Nat) (rt : List (Nat × Nat)) : Cf := { C0 X with tr := memN tr, hp := memN hp, fz := memN fz, rt := rtL rt }
theorem okE (tr hp fz : List Nat) (rt : List (Nat × Nat)) : Ok Tryz.prog (cfX std tr hp fz rt) := { x := rfl, ti := ok0.ti, pf := fun f p h => (by cases h), eq := eqok_of ok0.ti, mixed := ok0.mixed }
def bodyOk (C : Cf) (fn : Func) : Bool := !(fn.name == "runtime.NumGoroutine") && (match fn.body with
  | some c => codeAll fn.ntmps C c
  | none => true)
structure Row0 where
  f : Nat
  fn : Func
  C : Cf
def RowOk (x : Row0) : Prop := Tryz.prog.funcs[x.f]? = some x.fn ∧ Ok Tryz.prog x.C ∧ bodyOk x.C x.fn = true ∧ ∀ g, x.C.pf g = none
def AllR : List Row0 → Prop
  | [] => True
  | x :: r => RowOk x ∧ AllR r
def AllRR : List (List Row0) → Prop
  | [] => True
  | x :: r => AllR x ∧ AllRR r
def findR (f : Nat) : List Row0 → Option Row0
  | [] => none
  | x :: r => match Nat.beq f x.f with
    | true => some x
    | false => findR f r
def nthR : List (List Row0) → Nat → List Row0
  | [], _ => []
  | x :: _, 0 => x
  | _ :: r, k + 1 => nthR r k
theorem findR_ok {f : Nat} {x : Row0} : ∀ {l : List Row0}, AllR l → findR f l = some x → x.f = f ∧ RowOk x
  | [], _, h => by cases h
  | y :: r, ha, h => by
    unfold findR at h
    split at h
    · next hb => cases h; exact ⟨(Nat.eq_of_beq_eq_true hb).symm, ha.1⟩
    · exact findR_ok ha.2 h
theorem nthR_ok : ∀ {l : List (List Row0)} (k : Nat), AllRR l → AllR (nthR l k)
  | [], _, _ => trivial
  | _ :: _, 0, h => h.1
  | _ :: _, k + 1, h => nthR_ok k h.2
theorem tx3 : bodyOk (cfX std [] [] [] [(107, 0), (110, 20), (112, 0), (115, 0), (116, 20), (118, 0), (122, 0), (127, 0), (128, 20)]) Tryz.f3 = true := by kernel_rfl
theorem tx4 : bodyOk (cfX std [7, 124, 127] [] [] [(89, 9), (90, 9), (93, 9), (94, 9)]) Tryz.f4 = true := by kernel_rfl
theorem tx5 : bodyOk (cfX std [23, 103, 106] [] [] [(29, 0), (153, 0), (154, 0), (155, 17), (157, 17), (173, 0), (174, 0), (177, 0), (178, 0), (181, 17), (187, 0), (188, 0), (197, 0), (199, 15), (203, 0), (205, 15)]) Tryz.f5 = true := by kernel_rfl
theorem tx6 : bodyOk (cfX std [] [] [] []) Tryz.f6 = true := by kernel_rfl
theorem tx7 : bodyOk (cfX std [] [] [] [(112, 0), (113, 10), (115, 10)]) Tryz.f7 = true := by kernel_rfl
theorem tx8 : bodyOk (cfX std [] [] [] [(103, 0), (104, 11), (106, 11), (131, 0), (136, 0), (142, 0), (147, 0)]) Tryz.f8 = true := by kernel_rfl
theorem tx9 : bodyOk (cfX std [] [] [] [(7, 0), (26, 0), (28, 1), (30, 1)]) Tryz.f9 = true := by kernel_rfl
theorem tx10 : bodyOk (cfX std [] [] [] [(4, 0), (178, 0), (179, 7), (183, 0), (184, 7), (188, 0), (189, 0)]) Tryz.f10 = true := by kernel_rfl
theorem tx11 : bodyOk (cfX std [] [] [] [(2, 0), (45, 0), (48, 0), (55, 0), (56, 0), (59, 0)]) Tryz.f11 = true := by kernel_rfl
theorem tx12 : bodyOk (cfX std [] [] [] [(2, 0), (33, 0), (37, 0)]) Tryz.f12 = true := by kernel_rfl
theorem tx13 : bodyOk (cfX std [] [] [] [(6, 0), (40, 0), (45, 0), (46, 0), (48, 0), (52, 0), (53, 3), (56, 3)]) Tryz.f13 = true := by kernel_rfl
theorem tx14 : bodyOk (cfX std [] [] [] []) Tryz.f14 = true := by kernel_rfl
theorem tx15 : bodyOk (cfX std [] [] [] []) Tryz.f15 = true := by kernel_rfl
theorem tx16 : bodyOk (cfX std [54] [] [] [(2, 0), (35, 1), (38, 0), (39, 1), (40, 1), (44, 0), (45, 1), (50, 0), (51, 1), (55, 1), (56, 1), (59, 1), (60, 1), (65, 0), (66, 1), (69, 1), (73, 1), (74, 1), (78, 1), (79, 1), (83, 1), (84, 1)]) Tryz.f16 = true := by kernel_rfl
theorem tx17 : bodyOk (cfX std [] [] [] []) Tryz.f17 = true := by kernel_rfl
theorem tx18 : bodyOk (cfX std [] [56] [] []) Tryz.f18 = true := by kernel_rfl
theorem tx19 : bodyOk (cfX std [] [] [] [(3, 1), (7, 1), (11, 0)]) Tryz.f19 = true := by kernel_rfl
theorem tx20 : bodyOk (cfX std [] [] [] [(32, 0), (33, 0), (34, 0), (35, 0), (36, 3), (40, 0), (41, 0), (42, 0), (43, 0), (44, 0), (45, 0), (46, 0), (47, 0)]) Tryz.f20 = true := by kernel_rfl
theorem tx21 : bodyOk (cfX std [] [] [] [(3, 1), (5, 1), (7, 1), (10, 1), (11, 1), (13, 1), (14, 1), (16, 1), (17, 1), (20, 1), (22, 1), (24, 1), (26, 1), (28, 1), (30, 1), (32, 1), (34, 1), (36, 1), (38, 1), (40, 1), (42, 1), (44, 1)]) Tryz.f21 = true := by kernel_rfl
theorem tx22 : bodyOk (cfX std [] [] [] [(21, 0), (22, 0), (23, 0), (25, 0), (26, 0), (27, 0), (31, 0), (32, 0), (33, 0), (35, 0), (36, 0), (37, 0), (40, 0), (41, 0), (42, 0), (43, 0), (46, 0), (47, 0), (48, 0), (51, 0), (52, 0)]) Tryz.f22 = true := by kernel_rfl
theorem tx23 : bodyOk (cfX std [] [] [] []) Tryz.f23 = true := by kernel_rfl
theorem tx24 : bodyOk (cfX std [] [] [] [(3, 1), (5, 1), (7, 1), (10, 1), (11, 1), (13, 1), (14, 1), (16, 1), (17, 1), (20, 1), (22, 1), (24, 1), (26, 1), (28, 1), (30, 1), (32, 1), (34, 1), (36, 1), (38, 1), (40, 1), (42, 1), (44, 1)]) Tryz.f24 = true := by kernel_rfl
theorem tx25 : bodyOk (cfX std [] [] [] [(8, 0), (11, 0), (12, 0), (13, 0), (17, 0), (18, 0), (19, 0), (20, 0), (21, 0), (26, 0), (27, 0), (28, 0), (29, 0), (30, 0), (33, 0), (34, 0), (35, 0), (40, 0), (41, 5), (43, 0), (44, 0), (45, 0), (49, 0), (50, 5), (52, 0), (53, 0), (54, 0), (55, 0), (60, 0), (74, 0), (75, 0), (76, 0), (77, 0), (80, 0), (81, 0), (82, 0), (85, 0), (86, 0), (87, 5), (91, 5), (93, 0), (94, 0), (95, 0)]) Tryz.f25 = true := by kernel_rfl
theorem tx26 : bodyOk (cfX std [] [] [] []) Tryz.f26 = true := by kernel_rfl
theorem tx27 : bodyOk (cfX std [] [] [] []) Tryz.f27 = true := by kernel_rfl
theorem tx28 : bodyOk (cfX std [] [] [] []) Tryz.f28 = true := by kernel_rfl
theorem tx29 : bodyOk (cfX std [] [] [] [(30, 3), (33, 2), (34, 2), (35, 2), (36, 2), (37, 2)]) Tryz.f29 = true := by kernel_rfl
theorem tx30 : bodyOk (cfX std [] [] [] []) Tryz.f30 = true := by kernel_rfl
theorem tx31 : bodyOk (cfX std [] [] [] []) Tryz.f31 = true := by kernel_rfl
theorem tx32 : bodyOk (cfX std [] [] [] [(8, 3), (12, 0), (13, 3), (18, 0), (19, 0), (20, 3), (23, 3), (28, 0), (33, 0), (34, 5), (36, 3), (40, 0), (41, 5), (43, 3), (44, 3)]) Tryz.f32 = true := by kernel_rfl
theorem tx33 : bodyOk (cfX std [] [] [] []) Tryz.f33 = true := by kernel_rfl
theorem tx34 : bodyOk (cfX std [] [] [] []) Tryz.f34 = true := by kernel_rfl
theorem tx35 : bodyOk (cfX std [] [] [] []) Tryz.f35 = true := by kernel_rfl
theorem tx36 : bodyOk (cfX std [] [] [] []) Tryz.f36 = true := by kernel_rfl
theorem tx37 : bodyOk (cfX std [] [] [] []) Tryz.f37 = true := by kernel_rfl
theorem tx38 : bodyOk (cfX std [] [] [] []) Tryz.f38 = true := by kernel_rfl
theorem tx39 : bodyOk (cfX std [] [23] [] []) Tryz.f39 = true := by kernel_rfl
theorem tx40 : bodyOk (cfX std [] [] [] []) Tryz.f40 = true := by kernel_rfl
theorem tx41 : bodyOk (cfX std [] [] [] [(9, 0), (36, 0), (37, 0), (38, 0), (39, 0), (40, 0), (41, 0)]) Tryz.f41 = true := by kernel_rfl
theorem tx42 : bodyOk (cfX std [] [] [] [(3, 0), (11, 0), (44, 0), (45, 0), (46, 1), (47, 1), (57, 0), (60, 1), (61, 1), (62, 1)]) Tryz.f42 = true := by kernel_rfl
theorem tx43 : bodyOk (cfX std [] [] [] []) Tryz.f43 = true := by kernel_rfl
theorem tx44 : bodyOk (cfX std [] [] [] []) Tryz.f44 = true := by kernel_rfl
theorem tx45 : bodyOk (cfX std [] [] [] [(9, 0), (13, 0), (15, 3), (16, 3), (18, 0)]) Tryz.f45 = true := by kernel_rfl
theorem tx46 : bodyOk (cfX std [] [] [] []) Tryz.f46 = true := by kernel_rfl
theorem tx47 : bodyOk (cfX std [] [] [] []) Tryz.f47 = true := by kernel_rfl
theorem tx48 : bodyOk (cfX std [] [] [] []) Tryz.f48 = true := by kernel_rfl
theorem tx49 : bodyOk (cfX std [] [] [] []) Tryz.f49 = true := by kernel_rfl
theorem tx50 : bodyOk (cfX std [] [] [] [(22, 0), (28, 0), (29, 0), (37, 0), (38, 0), (47, 0), (48, 0), (55, 0)]) Tryz.f50 = true := by kernel_rfl
theorem tx51 : bodyOk (cfX std [] [] [] []) Tryz.f51 = true := by kernel_rfl
theorem tx52 : bodyOk (cfX std [] [28] [] [(10, 0), (11, 0), (32, 0), (34, 0), (35, 0), (36, 0), (37, 0), (39, 0), (40, 0), (41, 0), (42, 0), (43, 0), (44, 0), (51, 0), (52, 2), (57, 2), (58, 2), (60, 0)]) Tryz.f52 = true := by kernel_rfl
theorem tx53 : bodyOk (cfX std [] [] [] [(37, 11), (38, 11), (39, 11), (40, 11), (41, 11)]) Tryz.f53 = true := by kernel_rfl
theorem tx54 : bodyOk (cfX std [] [] [] []) Tryz.f54 = true := by kernel_rfl
theorem tx55 : bodyOk (cfX std [] [20] [] []) Tryz.f55 = true := by kernel_rfl
theorem tx57 : bodyOk (cfX std [80, 82, 130, 132] [] [] [(3, 0), (4, 0), (10, 0), (14, 0), (67, 0), (68, 1), (70, 1), (71, 1), (77, 1), (81, 0), (83, 0), (85, 1), (86, 1), (110, 0), (112, 1), (113, 1), (116, 0), (117, 0), (119, 1), (131, 0), (133, 0)]) Tryz.f57 = true := by kernel_rfl
theorem tx58 : bodyOk (cfX std [] [] [] [(25, 7), (26, 7), (29, 7), (30, 7), (33, 7), (34, 7), (37, 7), (38, 7), (39, 7), (40, 7), (41, 7), (42, 7)]) Tryz.f58 = true := by kernel_rfl
theorem tx59 : bodyOk (cfX std [] [] [] [(71, 2), (74, 2), (75, 2), (76, 2)]) Tryz.f59 = true := by kernel_rfl
theorem tx60 : bodyOk (cfX std [] [] [] [(27, 7), (29, 0), (30, 3), (31, 3), (33, 7), (34, 7), (39, 7), (42, 7), (45, 7), (47, 3), (48, 3), (49, 3)]) Tryz.f60 = true := by kernel_rfl
theorem tx61 : bodyOk (cfX std [] [] [] [(4, 0), (30, 3), (36, 2), (37, 2), (41, 2), (45, 3), (49, 0), (50, 3), (51, 3), (52, 3), (55, 0), (59, 0), (60, 2), (67, 3), (71, 2), (75, 2), (79, 0), (83, 0), (84, 2), (91, 2)]) Tryz.f61 = true := by kernel_rfl
theorem tx62 : bodyOk (cfX std [] [] [] [(10, 0), (12, 0), (14, 0), (21, 0), (22, 0), (24, 0), (25, 0), (26, 0), (28, 0), (39, 0), (40, 0), (42, 0), (43, 0), (44, 0), (46, 0), (58, 0), (59, 0), (60, 0), (61, 0), (63, 0)]) Tryz.f62 = true := by kernel_rfl
theorem tx63 : bodyOk (cfX std [] [] [] [(11, 0), (17, 0), (19, 3), (20, 3), (22, 0), (38, 0), (40, 3), (41, 3), (43, 0)]) Tryz.f63 = true := by kernel_rfl
theorem tx64 : bodyOk (cfX std [4, 28, 36] [] [] [(3, 0), (29, 6), (31, 6), (39, 0), (40, 0), (41, 0), (43, 0), (44, 0)]) Tryz.f64 = true := by kernel_rfl
theorem tx65 : bodyOk (cfX std [] [] [] []) Tryz.f65 = true := by kernel_rfl
theorem tx66 : bodyOk (cfX std [] [] [] [(4, 1), (7, 1), (8, 1), (11, 1), (14, 1), (15, 1), (16, 1), (17, 1), (18, 1), (21, 1), (24, 1), (25, 1), (32, 1), (35, 1), (45, 1), (46, 1), (49, 1), (50, 1), (53, 1), (54, 1), (55, 1), (56, 1)]) Tryz.f66 = true := by kernel_rfl
theorem tx67 : bodyOk (cfX std [] [] [] [(16, 0), (21, 0), (28, 0), (33, 0)]) Tryz.f67 = true := by kernel_rfl
theorem tx68 : bodyOk (cfX std [] [] [] [(15, 1), (17, 1), (19, 3), (20, 3), (21, 3), (22, 3)]) Tryz.f68 = true := by kernel_rfl
theorem tx69 : bodyOk (cfX std [] [] [] []) Tryz.f69 = true := by kernel_rfl
theorem tx70 : bodyOk (cfX std [] [4] [] []) Tryz.f70 = true := by kernel_rfl
theorem tx71 : bodyOk (cfX std [] [] [] []) Tryz.f71 = true := by kernel_rfl
theorem tx72 : bodyOk (cfX std [] [5] [] []) Tryz.f72 = true := by kernel_rfl
theorem tx73 : bodyOk (cfX std [] [] [] [(2, 0), (3, 0), (4, 0), (5, 0), (16, 1), (20, 1), (26, 1), (29, 1), (46, 0), (47, 1), (51, 0), (52, 0), (53, 1), (55, 1), (63, 0), (64, 1), (68, 0), (69, 0), (70, 1), (98, 0), (99, 1), (101, 1), (105, 1), (112, 0), (113, 1), (115, 1), (119, 1), (131, 0), (132, 1), (140, 1), (153, 0), (154, 1), (158, 1), (161, 1), (179, 0), (180, 1), (185, 1), (192, 0), (193, 1), (197, 1)]) Tryz.f73 = true := by kernel_rfl
theorem tx74 : bodyOk (cfX std [] [] [] [(3, 0), (4, 1), (8, 1), (12, 0)]) Tryz.f74 = true := by kernel_rfl
theorem tx75 : bodyOk (cfX std [] [] [] []) Tryz.f75 = true := by kernel_rfl
theorem tx76 : bodyOk (cfX std [] [] [] []) Tryz.f76 = true := by kernel_rfl
theorem tx77 : bodyOk (cfX std [] [] [] [(62, 1), (70, 1), (107, 1), (120, 1), (143, 1), (151, 1), (159, 1), (175, 1), (183, 1), (191, 1), (207, 1), (215, 1)]) Tryz.f77 = true := by kernel_rfl
theorem tx78 : bodyOk (cfX std [] [] [] []) Tryz.f78 = true := by kernel_rfl
theorem tx79 : bodyOk (cfX std [] [] [] [(36, 1), (38, 1), (40, 4), (41, 4), (76, 1), (78, 1), (80, 4), (81, 4), (89, 1), (91, 1), (93, 4), (94, 4)]) Tryz.f79 = true := by kernel_rfl
theorem tx80 : bodyOk (cfX std [] [] [] [(97, 1), (103, 1)]) Tryz.f80 = true := by kernel_rfl
theorem tx81 : bodyOk (cfX std [] [] [] []) Tryz.f81 = true := by kernel_rfl
theorem tx82 : bodyOk (cfX std [] [] [] []) Tryz.f82 = true := by kernel_rfl
theorem tx83 : bodyOk (cfX std [] [] [] []) Tryz.f83 = true := by kernel_rfl
theorem tx84 : bodyOk (cfX std [] [] [] []) Tryz.f84 = true := by kernel_rfl
theorem tx85 : bodyOk (cfX std [] [] [] []) Tryz.f85 = true := by kernel_rfl
theorem tx86 : bodyOk (cfX std [] [] [] []) Tryz.f86 = true := by kernel_rfl
theorem tx87 : bodyOk (cfX std [] [] [] [(9, 0), (20, 0), (25, 0), (34, 0), (35, 0)]) Tryz.f87 = true := by kernel_rfl
theorem tx88 : bodyOk (cfX std [] [] [] []) Tryz.f88 = true := by kernel_rfl
theorem tx89 : bodyOk (cfX std [] [] [] []) Tryz.f89 = true := by kernel_rfl
theorem tx90 : bodyOk (cfX std [] [] [] []) Tryz.f90 = true := by kernel_rfl
theorem tx91 : bodyOk (cfX std [] [] [] []) Tryz.f91 = true := by kernel_rfl
theorem tx93 : bodyOk (cfX std [] [] [] []) Tryz.f93 = true := by kernel_rfl
theorem tx94 : bodyOk (cfX std [] [] [] []) Tryz.f94 = true := by kernel_rfl
theorem tx95 : bodyOk (cfX std [] [] [] []) Tryz.f95 = true := by kernel_rfl
theorem tx96 : bodyOk (cfX std [] [] [] []) Tryz.f96 = true := by kernel_rfl
theorem tx97 : bodyOk (cfX std [] [] [] [(16, 0), (20, 0)]) Tryz.f97 = true := by kernel_rfl
theorem tx98 : bodyOk (cfX std [] [] [] []) Tryz.f98 = true := by kernel_rfl
theorem tx99 : bodyOk (cfX std [] [] [] []) Tryz.f99 = true := by kernel_rfl
theorem tx100 : bodyOk (cfX std [] [] [] []) Tryz.f100 = true := by kernel_rfl
theorem tx101 : bodyOk (cfX std [] [] [] [(16, 0), (21, 0), (28, 0), (33, 0), (40, 0), (41, 0), (47, 0)]) Tryz.f101 = true := by kernel_rfl
theorem tx102 : bodyOk (cfX std [] [] [] []) Tryz.f102 = true := by kernel_rfl
theorem tx103 : bodyOk (cfX std [] [] [] []) Tryz.f103 = true := by kernel_rfl
theorem tx104 : bodyOk (cfX std [] [] [] []) Tryz.f104 = true := by kernel_rfl
theorem tx105 : bodyOk (cfX std [] [] [] []) Tryz.f105 = true := by kernel_rfl
theorem tx106 : bodyOk (cfX std [] [] [] [(16, 0), (20, 0)]) Tryz.f106 = true := by kernel_rfl
theorem tx107 : bodyOk (cfX std [] [] [] []) Tryz.f107 = true := by kernel_rfl
theorem tx108 : bodyOk (cfX std [] [] [] []) Tryz.f108 = true := by kernel_rfl
theorem tx109 : bodyOk (cfX std [] [] [] []) Tryz.f109 = true := by kernel_rfl
theorem tx110 : bodyOk (cfX std [] [] [] [(6, 0), (7, 0), (8, 0), (9, 0), (11, 0), (12, 0), (13, 0), (14, 0), (29, 0), (30, 0), (33, 0), (34, 0), (35, 0), (36, 0), (38, 0), (39, 0), (40, 0), (41, 0)]) Tryz.f110 = true := by kernel_rfl
theorem tx111 : bodyOk (cfX std [] [] [] [(151, 4), (153, 4), (155, 1), (157, 1), (159, 7), (160, 7), (161, 7), (162, 7), (163, 7), (182, 4), (184, 1), (186, 1), (188, 7), (189, 7), (190, 7), (191, 7), (233, 1), (234, 1), (236, 1), (237, 1), (239, 1), (240, 1), (242, 7), (243, 7), (244, 7), (245, 7), (248, 1), (250, 1), (253, 4)]) Tryz.f111 = true := by kernel_rfl
theorem tx112 : bodyOk (cfX std [] [] [] [(13, 0), (14, 0), (15, 3), (17, 0), (18, 0), (19, 0), (20, 0)]) Tryz.f112 = true := by kernel_rfl
theorem tx113 : bodyOk (cfX std [] [3, 92] [] []) Tryz.f113 = true := by kernel_rfl
theorem tx114 : bodyOk (cfX std [] [] [] []) Tryz.f114 = true := by kernel_rfl
theorem tx115 : bodyOk (cfX std [] [] [] [(61, 3), (63, 3), (65, 2), (66, 2), (67, 2), (70, 3), (72, 2), (73, 2)]) Tryz.f115 = true := by kernel_rfl
theorem tx116 : bodyOk (cfX std [] [] [] []) Tryz.f116 = true := by kernel_rfl
theorem tx117 : bodyOk (cfX std [4, 21, 29] [] [] []) Tryz.f117 = true := by kernel_rfl
theorem tx119 : bodyOk (cfX std [] [] [] []) Tryz.f119 = true := by kernel_rfl
theorem tx120 : bodyOk (cfX std [] [] [] []) Tryz.f120 = true := by kernel_rfl
theorem tx121 : bodyOk (cfX std [] [] [] []) Tryz.f121 = true := by kernel_rfl
theorem tx122 : bodyOk (cfX std [] [] [] [(5, 0)]) Tryz.f122 = true := by kernel_rfl
theorem tx123 : bodyOk (cfX std [] [] [] [(8, 0), (11, 0), (12, 3), (15, 0), (17, 4), (19, 4), (25, 4), (26, 4), (29, 0), (30, 3), (33, 0), (35, 4), (40, 4)]) Tryz.f123 = true := by kernel_rfl
theorem tx124 : bodyOk (cfX std [] [] [] []) Tryz.f124 = true := by kernel_rfl
theorem tx125 : bodyOk (cfX std [] [] [] [(10, 0), (13, 0)]) Tryz.f125 = true := by kernel_rfl
theorem tx126 : bodyOk (cfX std [] [] [] []) Tryz.f126 = true := by kernel_rfl
theorem tx127 : bodyOk (cfX std [] [] [] [(9, 0), (15, 0), (16, 0), (17, 0), (18, 0), (19, 0), (21, 0), (22, 4), (24, 4), (30, 4), (31, 4), (32, 0), (33, 0), (34, 0), (35, 0), (36, 0), (38, 0), (39, 4), (44, 4)]) Tryz.f127 = true := by kernel_rfl
theorem tx128 : bodyOk (cfX std [5] [] [] []) Tryz.f128 = true := by kernel_rfl
theorem tx129 : bodyOk (cfX std [5] [] [] []) Tryz.f129 = true := by kernel_rfl
theorem tx130 : bodyOk (cfX std [] [] [] [(29, 0), (30, 0), (31, 0), (32, 0), (33, 0), (35, 0), (36, 0), (37, 0), (38, 0), (40, 6), (45, 6)]) Tryz.f130 = true := by kernel_rfl
theorem tx132 : bodyOk (cfX std [] [] [] [(11, 0), (12, 0), (13, 0), (14, 0), (18, 3), (22, 0), (23, 3), (25, 0), (26, 0), (27, 0), (28, 0), (32, 0), (33, 3), (35, 0), (36, 0), (37, 0), (38, 0), (42, 0), (43, 0), (44, 3), (46, 3), (49, 0), (50, 0), (51, 0), (52, 0), (53, 0), (54, 0), (66, 0), (67, 0), (68, 0), (69, 0), (71, 0), (72, 0), (74, 0), (75, 0), (76, 0), (77, 0), (79, 3), (84, 0), (85, 0), (86, 0)]) Tryz.f132 = true := by kernel_rfl
theorem tx133 : bodyOk (cfX std [] [] [] []) Tryz.f133 = true := by kernel_rfl
theorem tx134 : bodyOk (cfX std [60, 63] [] [] [(8, 0), (9, 0), (33, 0), (35, 0), (37, 3), (39, 5), (48, 0), (49, 0), (50, 5), (56, 3), (61, 3), (64, 5), (70, 0), (74, 3)]) Tryz.f134 = true := by kernel_rfl
theorem tx135 : bodyOk (cfX std [] [] [] [(30, 3), (32, 3), (34, 2), (35, 2), (36, 2)]) Tryz.f135 = true := by kernel_rfl
theorem tx136 : bodyOk (cfX std [5] [] [] []) Tryz.f136 = true := by kernel_rfl
theorem tx137 : bodyOk (cfX std [] [] [] [(14, 1), (17, 1)]) Tryz.f137 = true := by kernel_rfl
theorem tx138 : bodyOk (cfX std [] [] [] [(3, 1), (6, 1), (9, 1), (12, 1), (13, 1), (14, 1), (15, 1), (18, 1), (21, 1), (24, 1), (25, 1), (26, 1)]) Tryz.f138 = true := by kernel_rfl
theorem tx139 : bodyOk (cfX std [] [] [] []) Tryz.f139 = true := by kernel_rfl
theorem tx140 : bodyOk (cfX std [5] [] [] []) Tryz.f140 = true := by kernel_rfl
theorem tx141 : bodyOk (cfX std [] [] [] []) Tryz.f141 = true := by kernel_rfl
theorem tx142 : bodyOk (cfX std [5] [] [] []) Tryz.f142 = true := by kernel_rfl
theorem tx143 : bodyOk (cfX std [] [] [] []) Tryz.f143 = true := by kernel_rfl
theorem tx144 : bodyOk (cfX std [] [] [] []) Tryz.f144 = true := by kernel_rfl
theorem tx145 : bodyOk (cfX std [] [4] [] []) Tryz.f145 = true := by kernel_rfl
theorem tx146 : bodyOk (cfX std [] [] [] []) Tryz.f146 = true := by kernel_rfl
theorem tx147 : bodyOk (cfX std [14, 16] [] [] []) Tryz.f147 = true := by kernel_rfl
theorem tx148 : bodyOk (cfX std [] [2] [] [(141, 3)]) Tryz.f148 = true := by kernel_rfl
theorem tx149 : bodyOk (cfX std [] [] [] []) Tryz.f149 = true := by kernel_rfl
theorem tx150 : bodyOk (cfX std [] [] [] [(2, 0), (4, 0), (9, 1), (11, 1), (15, 3), (19, 3), (22, 3), (25, 3), (28, 3), (30, 3), (32, 3), (36, 3), (53, 0), (54, 6), (57, 6), (60, 6), (64, 6), (68, 6), (74, 0), (75, 3), (78, 3), (81, 3), (83, 3), (85, 3), (89, 3), (92, 3), (95, 3), (97, 3)]) Tryz.f150 = true := by kernel_rfl
theorem tx151 : bodyOk (cfX std [] [6] [] []) Tryz.f151 = true := by kernel_rfl
theorem tx152 : bodyOk (cfX std [] [] [] []) Tryz.f152 = true := by kernel_rfl
theorem tx153 : bodyOk (cfX std [37, 41] [] [] [(36, 3), (38, 0), (42, 3)]) Tryz.f153 = true := by kernel_rfl
theorem tx154 : bodyOk (cfX std [] [] [] []) Tryz.f154 = true := by kernel_rfl
theorem tx156 : bodyOk (cfX std [] [] [] []) Tryz.f156 = true := by kernel_rfl
theorem tx157 : bodyOk (cfX std [3, 10, 15] [] [] []) Tryz.f157 = true := by kernel_rfl
theorem tx158 : bodyOk (cfX std [3, 20, 35, 40, 42, 46, 51, 58, 65, 70, 74] [] [] [(43, 1), (47, 1)]) Tryz.f158 = true := by kernel_rfl
theorem tx159 : bodyOk (cfX std [3, 10, 16] [] [] []) Tryz.f159 = true := by kernel_rfl
theorem tx160 : bodyOk (cfX std [5] [] [] []) Tryz.f160 = true := by kernel_rfl
theorem tx161 : bodyOk (cfX std [] [] [] [(2, 0), (7, 1), (11, 1), (15, 1), (18, 1), (22, 1), (25, 1), (29, 1)]) Tryz.f161 = true := by kernel_rfl
theorem tx162 : bodyOk (cfX std [2, 5] [] [] []) Tryz.f162 = true := by kernel_rfl
theorem tx163 : bodyOk (cfX std [3, 7, 13, 19] [] [] []) Tryz.f163 = true := by kernel_rfl
theorem tx164 : bodyOk (cfX std [] [] [] []) Tryz.f164 = true := by kernel_rfl
theorem tx165 : bodyOk (cfX std [] [] [] [(2, 0), (7, 1), (9, 1), (13, 1), (15, 1)]) Tryz.f165 = true := by kernel_rfl
theorem tx166 : bodyOk (cfX std [] [] [] [(2, 0), (7, 1), (11, 1), (13, 1), (17, 1), (20, 1), (23, 1), (27, 1), (30, 1), (32, 1), (34, 1)]) Tryz.f166 = true := by kernel_rfl
theorem tx167 : bodyOk (cfX std [] [] [] [(27, 1), (29, 1), (31, 1), (33, 1), (35, 1), (37, 3), (38, 3), (39, 3), (40, 3), (41, 3), (44, 1), (46, 1), (48, 1), (50, 1), (52, 3), (53, 3), (54, 3), (55, 3), (58, 1), (60, 1), (62, 1), (64, 3), (65, 3), (66, 3), (74, 1), (76, 1), (78, 1), (80, 3), (81, 3), (82, 3), (85, 1), (87, 1), (89, 1), (91, 3), (92, 3), (93, 3), (96, 1), (98, 1), (100, 1), (102, 3), (103, 3), (104, 3), (107, 1), (109, 1), (111, 3), (112, 3), (115, 1), (117, 1), (119, 3), (120, 3)]) Tryz.f167 = true := by kernel_rfl
theorem tx168 : bodyOk (cfX std [] [] [] []) Tryz.f168 = true := by kernel_rfl
theorem tx169 : bodyOk (cfX std [] [] [] []) Tryz.f169 = true := by kernel_rfl
theorem tx170 : bodyOk (cfX std [] [] [] []) Tryz.f170 = true := by kernel_rfl
theorem tx171 : bodyOk (cfX std [] [] [] []) Tryz.f171 = true := by kernel_rfl
theorem tx172 : bodyOk (cfX std [] [] [] []) Tryz.f172 = true := by kernel_rfl
theorem tx173 : bodyOk (cfX std [] [] [] []) Tryz.f173 = true := by kernel_rfl
theorem tx174 : bodyOk (cfX std [] [] [] [(24, 1), (27, 1), (30, 1)]) Tryz.f174 = true := by kernel_rfl
theorem tx175 : bodyOk (cfX std [] [] [] [(31, 0), (34, 0), (37, 0), (38, 0), (43, 0), (48, 0), (52, 0), (57, 0)]) Tryz.f175 = true := by kernel_rfl
theorem tx176 : bodyOk (cfX std [] [] [] []) Tryz.f176 = true := by kernel_rfl
theorem tx177 : bodyOk (cfX std [] [] [] []) Tryz.f177 = true := by kernel_rfl
theorem tx178 : bodyOk (cfX std [] [] [] []) Tryz.f178 = true := by kernel_rfl
theorem tx179 : bodyOk (cfX std [] [] [] []) Tryz.f179 = true := by kernel_rfl
theorem tx180 : bodyOk (cfX std [] [] [] []) Tryz.f180 = true := by kernel_rfl
theorem tx181 : bodyOk (cfX std [] [] [] []) Tryz.f181 = true := by kernel_rfl
theorem tx182 : bodyOk (cfX std [] [] [] []) Tryz.f182 = true := by kernel_rfl
theorem tx183 : bodyOk (cfX std [] [] [] [(11, 0), (16, 0), (20, 0), (28, 0), (29, 0), (37, 0), (41, 0), (47, 0)]) Tryz.f183 = true := by kernel_rfl
theorem tx184 : bodyOk (cfX std [] [] [] [(9, 0), (17, 0), (25, 0), (26, 0), (34, 0), (38, 0), (44, 0)]) Tryz.f184 = true := by kernel_rfl
theorem tx185 : bodyOk (cfX std [] [] [] [(16, 0), (20, 0)]) Tryz.f185 = true := by kernel_rfl
theorem tx186 : bodyOk (cfX std [] [] [] []) Tryz.f186 = true := by kernel_rfl
theorem tx187 : bodyOk (cfX std [] [] [] [(16, 0), (20, 0)]) Tryz.f187 = true := by kernel_rfl
theorem tx188 : bodyOk (cfX std [] [] [] [(16, 0), (20, 0)]) Tryz.f188 = true := by kernel_rfl
theorem tx189 : bodyOk (cfX std [] [] [] [(16, 0), (21, 0), (28, 0), (33, 0), (40, 0), (41, 0), (46, 0)]) Tryz.f189 = true := by kernel_rfl
theorem tx190 : bodyOk (cfX std [] [] [] [(16, 0), (20, 0)]) Tryz.f190 = true := by kernel_rfl
theorem tx191 : bodyOk (cfX std [] [] [] []) Tryz.f191 = true := by kernel_rfl
theorem tx192 : bodyOk (cfX std [] [] [] []) Tryz.f192 = true := by kernel_rfl
theorem tx193 : bodyOk (cfX std [] [] [] [(16, 0), (20, 0)]) Tryz.f193 = true := by kernel_rfl
theorem tx194 : bodyOk (cfX std [] [] [] [(16, 0), (20, 0)]) Tryz.f194 = true := by kernel_rfl
theorem tx195 : bodyOk (cfX std [] [] [] []) Tryz.f195 = true := by kernel_rfl
theorem tx196 : bodyOk (cfX std [] [] [] []) Tryz.f196 = true := by kernel_rfl
theorem tx197 : bodyOk (cfX std [] [] [] [(16, 0), (20, 0)]) Tryz.f197 = true := by kernel_rfl
theorem tx198 : bodyOk (cfX std [] [] [] []) Tryz.f198 = true := by kernel_rfl
theorem tx199 : bodyOk (cfX std [] [] [] []) Tryz.f199 = true := by kernel_rfl
theorem tx200 : bodyOk (cfX std [] [] [] []) Tryz.f200 = true := by kernel_rfl
theorem tx201 : bodyOk (cfX std [] [] [] []) Tryz.f201 = true := by kernel_rfl
theorem tx202 : bodyOk (cfX std [] [] [] []) Tryz.f202 = true := by kernel_rfl
theorem tx203 : bodyOk (cfX std [] [] [] [(4, 0), (5, 0), (6, 0), (7, 0), (8, 0), (12, 0), (13, 0), (14, 0), (15, 0), (17, 0), (18, 0), (19, 0), (20, 0)]) Tryz.f203 = true := by kernel_rfl
theorem tx204 : bodyOk (cfX std [] [] [] [(11, 0), (12, 0), (13, 0), (14, 0), (16, 0), (17, 0), (18, 0), (19, 0), (28, 0), (29, 0), (30, 0), (31, 0), (34, 0), (35, 0), (36, 0), (37, 0), (39, 0), (40, 0), (41, 0), (42, 0), (44, 0), (45, 0), (46, 0)]) Tryz.f204 = true := by kernel_rfl
theorem tx205 : bodyOk (cfX std [] [] [] [(11, 0), (12, 0), (13, 0), (14, 0), (16, 0), (17, 0), (18, 0), (19, 0), (21, 0), (22, 0), (23, 0), (24, 0), (29, 0), (30, 0), (31, 0), (32, 0), (34, 0), (35, 0), (36, 0), (37, 0), (39, 0), (40, 0), (41, 0), (43, 0), (44, 0), (46, 0), (47, 0), (48, 0), (50, 0), (51, 0), (53, 4), (54, 4), (55, 4), (56, 4)]) Tryz.f205 = true := by kernel_rfl
theorem tx207 : bodyOk (cfX std [] [] [] []) Tryz.f207 = true := by kernel_rfl
theorem tx208 : bodyOk (cfX std [39, 42] [11] [] [(19, 0), (20, 0), (21, 0), (24, 6), (35, 0), (36, 0), (37, 0), (38, 0), (40, 6), (43, 0), (44, 0), (46, 0), (47, 0), (48, 0), (50, 0), (51, 0), (52, 0), (53, 0)]) Tryz.f208 = true := by kernel_rfl
theorem tx209 : bodyOk (cfX std [6, 35, 42] [] [] []) Tryz.f209 = true := by kernel_rfl
theorem tx210 : bodyOk (cfX std [] [] [] []) Tryz.f210 = true := by kernel_rfl
theorem tx211 : bodyOk (cfX std [9, 68, 71] [] [] []) Tryz.f211 = true := by kernel_rfl
theorem tx212 : bodyOk (cfX std [] [] [] []) Tryz.f212 = true := by kernel_rfl
theorem tx213 : bodyOk (cfX std [] [] [] []) Tryz.f213 = true := by kernel_rfl
theorem tx214 : bodyOk (cfX std [] [] [] []) Tryz.f214 = true := by kernel_rfl
theorem tx215 : bodyOk (cfX std [8, 31, 34] [] [] []) Tryz.f215 = true := by kernel_rfl
theorem tx216 : bodyOk (cfX std [8, 30, 39] [] [] []) Tryz.f216 = true := by kernel_rfl
theorem tx217 : bodyOk (cfX std [5] [] [] []) Tryz.f217 = true := by kernel_rfl
theorem tx218 : bodyOk (cfX std [5] [] [] []) Tryz.f218 = true := by kernel_rfl
theorem tx219 : bodyOk (cfX std [5] [] [] []) Tryz.f219 = true := by kernel_rfl
theorem tx220 : bodyOk (cfX std [19, 26] [] [] [(15, 0), (16, 0), (17, 0), (18, 0), (20, 0), (27, 0), (28, 0)]) Tryz.f220 = true := by kernel_rfl
theorem tx221 : bodyOk (cfX std [] [] [] []) Tryz.f221 = true := by kernel_rfl
theorem tx222 : bodyOk (cfX std [] [] [] []) Tryz.f222 = true := by kernel_rfl
theorem tx223 : bodyOk (cfX std [] [] [] []) Tryz.f223 = true := by kernel_rfl
theorem tx224 : bodyOk (cfX std [] [] [] []) Tryz.f224 = true := by kernel_rfl
theorem tx225 : bodyOk (cfX std [] [] [] []) Tryz.f225 = true := by kernel_rfl
theorem tx226 : bodyOk (cfX std [] [] [] []) Tryz.f226 = true := by kernel_rfl
theorem tx227 : bodyOk (cfX std [] [] [] []) Tryz.f227 = true := by kernel_rfl
theorem tx228 : bodyOk (cfX std [14, 16] [] [] []) Tryz.f228 = true := by kernel_rfl
theorem tx229 : bodyOk (cfX std [] [] [] []) Tryz.f229 = true := by kernel_rfl
theorem tx230 : bodyOk (cfX std [] [] [] []) Tryz.f230 = true := by kernel_rfl
theorem tx231 : bodyOk (cfX std [] [] [] []) Tryz.f231 = true := by kernel_rfl
theorem tx232 : bodyOk (cfX std [] [] [] []) Tryz.f232 = true := by kernel_rfl
theorem tx233 : bodyOk (cfX std [] [] [] []) Tryz.f233 = true := by kernel_rfl
theorem tx234 : bodyOk (cfX std [5] [] [] []) Tryz.f234 = true := by kernel_rfl
theorem tx235 : bodyOk (cfX std [3, 10, 15] [] [] []) Tryz.f235 = true := by kernel_rfl
theorem tx236 : bodyOk (cfX std [] [] [] [(3, 0), (13, 0), (14, 0), (21, 0), (27, 0), (33, 0), (39, 0)]) Tryz.f236 = true := by kernel_rfl
theorem tx237 : bodyOk (cfX std [3, 7, 13, 19] [] [] []) Tryz.f237 = true := by kernel_rfl
theorem tx238 : bodyOk (cfX std [] [] [] [(5, 0), (16, 0), (17, 0), (22, 0), (29, 0), (49, 0), (50, 0), (55, 0), (60, 0)]) Tryz.f238 = true := by kernel_rfl
theorem tx239 : bodyOk (cfX std [] [] [] []) Tryz.f239 = true := by kernel_rfl
theorem tx240 : bodyOk (cfX std [] [] [] []) Tryz.f240 = true := by kernel_rfl
theorem tx241 : bodyOk (cfX std [] [] [] []) Tryz.f241 = true := by kernel_rfl
theorem tx242 : bodyOk (cfX std [] [] [] []) Tryz.f242 = true := by kernel_rfl
theorem tx243 : bodyOk (cfX std [] [] [] []) Tryz.f243 = true := by kernel_rfl
theorem tx244 : bodyOk (cfX std [] [] [] []) Tryz.f244 = true := by kernel_rfl
theorem tx245 : bodyOk (cfX std [] [] [] []) Tryz.f245 = true := by kernel_rfl
theorem tx246 : bodyOk (cfX std [] [] [] []) Tryz.f246 = true := by kernel_rfl
theorem tx247 : bodyOk (cfX std [] [] [] []) Tryz.f247 = true := by kernel_rfl
theorem tx248 : bodyOk (cfX std [] [] [] []) Tryz.f248 = true := by kernel_rfl
theorem tx249 : bodyOk (cfX std [] [] [] []) Tryz.f249 = true := by kernel_rfl
theorem tx250 : bodyOk (cfX std [] [] [] []) Tryz.f250 = true := by kernel_rfl
theorem tx251 : bodyOk (cfX std [3, 8, 12] [] [] []) Tryz.f251 = true := by kernel_rfl
theorem tx252 : bodyOk (cfX std [] [] [] []) Tryz.f252 = true := by kernel_rfl
theorem tx253 : bodyOk (cfX std [] [] [] []) Tryz.f253 = true := by kernel_rfl
theorem tx254 : bodyOk (cfX std [2, 5] [] [] []) Tryz.f254 = true := by kernel_rfl
theorem tx255 : bodyOk (cfX std [] [] [] []) Tryz.f255 = true := by kernel_rfl
theorem tx256 : bodyOk (cfX std [] [] [] []) Tryz.f256 = true := by kernel_rfl
theorem tx257 : bodyOk (cfX std [4, 5, 8, 24] [8] [24] []) Tryz.f257 = true := by kernel_rfl
theorem tx258 : bodyOk (cfX std [] [] [] [(2, 0), (25, 1), (28, 1)]) Tryz.f258 = true := by kernel_rfl
theorem tx259 : bodyOk (cfX std [] [] [] [(20, 1), (22, 1), (24, 4), (25, 4), (34, 1), (36, 1), (38, 1), (40, 1), (42, 1), (44, 4), (45, 4), (46, 4), (47, 4), (48, 4), (51, 1), (53, 1), (55, 1), (57, 4), (58, 4), (59, 4)]) Tryz.f259 = true := by kernel_rfl
theorem tx260 : bodyOk (cfX std [] [] [] []) Tryz.f260 = true := by kernel_rfl
theorem tx261 : bodyOk (cfX std [] [] [] []) Tryz.f261 = true := by kernel_rfl
theorem tx262 : bodyOk (cfX std [] [] [] [(1, 0), (31, 8), (33, 8)]) Tryz.f262 = true := by kernel_rfl
theorem tx263 : bodyOk (cfX std [] [] [] []) Tryz.f263 = true := by kernel_rfl
theorem tx264 : bodyOk (cfX std [] [] [] []) Tryz.f264 = true := by kernel_rfl
theorem tx265 : bodyOk (cfX std [] [] [] []) Tryz.f265 = true := by kernel_rfl
theorem tx266 : bodyOk (cfX std [] [] [] [(12, 4), (20, 0), (26, 4), (31, 0), (32, 4)]) Tryz.f266 = true := by kernel_rfl
theorem tx267 : bodyOk (cfX std [] [] [] []) Tryz.f267 = true := by kernel_rfl
theorem tx268 : bodyOk (cfX std [] [] [] []) Tryz.f268 = true := by kernel_rfl
theorem tx269 : bodyOk (cfX std [] [] [] []) Tryz.f269 = true := by kernel_rfl
theorem tx270 : bodyOk (cfX std [] [] [] []) Tryz.f270 = true := by kernel_rfl
theorem tx271 : bodyOk (cfX std [] [] [] []) Tryz.f271 = true := by kernel_rfl
theorem tx272 : bodyOk (cfX std [] [] [] []) Tryz.f272 = true := by kernel_rfl
theorem tx273 : bodyOk (cfX std [] [] [] []) Tryz.f273 = true := by kernel_rfl
theorem tx274 : bodyOk (cfX std [] [] [] [(20, 0), (24, 0)]) Tryz.f274 = true := by kernel_rfl
theorem tx275 : bodyOk (cfX std [] [] [] [(16, 4), (21, 4), (26, 0), (27, 4), (28, 4), (31, 0), (35, 1), (42, 4)]) Tryz.f275 = true := by kernel_rfl
theorem tx276 : bodyOk (cfX std [] [] [] [(45, 1), (53, 4), (54, 4), (58, 1), (66, 4), (67, 4), (71, 1), (78, 4)]) Tryz.f276 = true := by kernel_rfl
theorem tx277 : bodyOk (cfX std [] [] [] []) Tryz.f277 = true := by kernel_rfl
theorem tx278 : bodyOk (cfX std [] [] [] []) Tryz.f278 = true := by kernel_rfl
theorem tx279 : bodyOk (cfX std [] [] [] []) Tryz.f279 = true := by kernel_rfl
theorem tx280 : bodyOk (cfX std [] [] [] []) Tryz.f280 = true := by kernel_rfl
theorem tx281 : bodyOk (cfX std [] [] [] []) Tryz.f281 = true := by kernel_rfl
theorem tx282 : bodyOk (cfX std [] [] [] []) Tryz.f282 = true := by kernel_rfl
theorem tx283 : bodyOk (cfX std [] [] [] []) Tryz.f283 = true := by kernel_rfl
theorem tx284 : bodyOk (cfX std [] [] [] [(5, 0), (6, 0), (7, 0), (8, 0), (9, 0), (11, 0), (12, 0), (13, 0), (14, 0)]) Tryz.f284 = true := by kernel_rfl
theorem tx285 : bodyOk (cfX std [] [] [] []) Tryz.f285 = true := by kernel_rfl
theorem tx286 : bodyOk (cfX std [] [] [] []) Tryz.f286 = true := by kernel_rfl
theorem tx287 : bodyOk (cfX std [8, 36, 39] [] [] []) Tryz.f287 = true := by kernel_rfl
theorem tx288 : bodyOk (cfX std [] [] [] []) Tryz.f288 = true := by kernel_rfl
theorem tx289 : bodyOk (cfX std [] [] [] []) Tryz.f289 = true := by kernel_rfl
theorem tx290 : bodyOk (cfX std [] [] [] []) Tryz.f290 = true := by kernel_rfl
theorem tx291 : bodyOk (cfX std [8, 31, 34] [] [] []) Tryz.f291 = true := by kernel_rfl
theorem tx292 : bodyOk (cfX std [8, 37, 40] [] [] []) Tryz.f292 = true := by kernel_rfl
theorem tx293 : bodyOk (cfX std [] [] [] []) Tryz.f293 = true := by kernel_rfl
theorem tx294 : bodyOk (cfX std [] [] [] []) Tryz.f294 = true := by kernel_rfl
theorem tx295 : bodyOk (cfX std [] [] [] []) Tryz.f295 = true := by kernel_rfl
theorem tx296 : bodyOk (cfX std [] [] [] []) Tryz.f296 = true := by kernel_rfl
theorem tx297 : bodyOk (cfX std [] [] [] []) Tryz.f297 = true := by kernel_rfl
theorem tx298 : bodyOk (cfX std [] [] [] []) Tryz.f298 = true := by kernel_rfl
theorem tx299 : bodyOk (cfX std [] [] [] []) Tryz.f299 = true := by kernel_rfl
theorem tx300 : bodyOk (cfX std [] [] [] []) Tryz.f300 = true := by kernel_rfl
theorem tx301 : bodyOk (cfX std [] [] [] []) Tryz.f301 = true := by kernel_rfl
theorem tx302 : bodyOk (cfX std [] [] [] []) Tryz.f302 = true := by kernel_rfl
theorem tx303 : bodyOk (cfX std [] [] [] []) Tryz.f303 = true := by kernel_rfl
theorem tx304 : bodyOk (cfX std [] [] [] []) Tryz.f304 = true := by kernel_rfl
theorem tx305 : bodyOk (cfX std [3, 8, 12] [] [] []) Tryz.f305 = true := by kernel_rfl
theorem tx306 : bodyOk (cfX std [] [] [] []) Tryz.f306 = true := by kernel_rfl
theorem tx307 : bodyOk (cfX std [4, 5, 10, 19, 25, 34] [] [] []) Tryz.f307 = true := by kernel_rfl
theorem tx308 : bodyOk (cfX std [8, 11] [] [] [(7, 0), (9, 0), (12, 0)]) Tryz.f308 = true := by kernel_rfl
theorem tx309 : bodyOk (cfX std [] [] [] [(2, 0), (7, 1), (9, 1), (11, 1), (13, 1), (17, 1), (20, 1), (24, 1)]) Tryz.f309 = true := by kernel_rfl
theorem tx310 : bodyOk (cfX std [] [] [] []) Tryz.f310 = true := by kernel_rfl
theorem tx311 : bodyOk (cfX std [] [] [] []) Tryz.f311 = true := by kernel_rfl
theorem tx312 : bodyOk (cfX std [] [] [] []) Tryz.f312 = true := by kernel_rfl
theorem tx313 : bodyOk (cfX std [] [] [] []) Tryz.f313 = true := by kernel_rfl
theorem tx314 : bodyOk (cfX std [] [] [] []) Tryz.f314 = true := by kernel_rfl
theorem tx315 : bodyOk (cfX std [] [] [] []) Tryz.f315 = true := by kernel_rfl
theorem tx316 : bodyOk (cfX std [] [] [] [(19, 0), (25, 4), (29, 0), (35, 4)]) Tryz.f316 = true := by kernel_rfl
theorem tx317 : bodyOk (cfX std [] [] [] []) Tryz.f317 = true := by kernel_rfl
theorem tx318 : bodyOk (cfX std [] [] [] []) Tryz.f318 = true := by kernel_rfl
theorem tx319 : bodyOk (cfX std [] [] [] []) Tryz.f319 = true := by kernel_rfl
theorem tx320 : bodyOk (cfX std [] [] [] []) Tryz.f320 = true := by kernel_rfl
theorem tx321 : bodyOk (cfX std [] [] [] []) Tryz.f321 = true := by kernel_rfl
theorem tx322 : bodyOk (cfX std [] [] [] []) Tryz.f322 = true := by kernel_rfl
theorem tx323 : bodyOk (cfX std [] [] [] [(23, 1), (25, 1), (27, 1), (29, 1), (31, 3), (32, 3), (33, 3), (34, 3), (37, 1), (39, 1), (41, 1), (43, 1), (45, 1), (47, 3), (48, 3), (49, 3), (50, 3), (51, 3), (54, 1), (56, 1), (58, 1), (60, 1), (62, 3), (63, 3), (64, 3), (65, 3), (68, 1), (70, 1), (72, 1), (74, 1), (76, 3), (77, 3), (78, 3), (79, 3)]) Tryz.f323 = true := by kernel_rfl
theorem tx324 : bodyOk (cfX std [] [] [] []) Tryz.f324 = true := by kernel_rfl
theorem tx325 : bodyOk (cfX std [] [] [] [(39, 4), (44, 4), (49, 0), (50, 4), (51, 4), (54, 0), (58, 1), (65, 4)]) Tryz.f325 = true := by kernel_rfl
theorem tx326 : bodyOk (cfX std [] [] [] []) Tryz.f326 = true := by kernel_rfl
theorem tx327 : bodyOk (cfX std [] [] [] []) Tryz.f327 = true := by kernel_rfl
theorem tx328 : bodyOk (cfX std [] [] [] []) Tryz.f328 = true := by kernel_rfl
theorem tx329 : bodyOk (cfX std [] [] [] []) Tryz.f329 = true := by kernel_rfl
theorem tx330 : bodyOk (cfX std [] [] [] []) Tryz.f330 = true := by kernel_rfl
theorem tx331 : bodyOk (cfX std [3, 8, 23] [] [] []) Tryz.f331 = true := by kernel_rfl
theorem tx332 : bodyOk (cfX std [3, 8, 22] [] [] []) Tryz.f332 = true := by kernel_rfl
theorem tx333 : bodyOk (cfX std [] [] [] []) Tryz.f333 = true := by kernel_rfl
theorem tx334 : bodyOk (cfX std [] [] [] []) Tryz.f334 = true := by kernel_rfl
theorem tx335 : bodyOk (cfX std [] [] [] []) Tryz.f335 = true := by kernel_rfl
theorem tx336 : bodyOk (cfX std [] [] [] []) Tryz.f336 = true := by kernel_rfl
theorem tx337 : bodyOk (cfX std [] [] [] [(14, 6), (16, 0), (20, 6), (26, 0), (27, 6), (32, 0), (36, 0), (42, 6)]) Tryz.f337 = true := by kernel_rfl
theorem tx338 : bodyOk (cfX std [] [] [] [(12, 4), (18, 4), (23, 0), (24, 4), (29, 0), (33, 0), (39, 4)]) Tryz.f338 = true := by kernel_rfl
theorem tx339 : bodyOk (cfX std [] [] [] []) Tryz.f339 = true := by kernel_rfl
theorem tx340 : bodyOk (cfX std [] [] [] [(11, 1), (13, 1), (15, 1), (17, 3), (18, 3), (19, 3), (22, 1), (24, 1), (26, 3), (27, 3), (30, 1), (32, 1), (34, 1), (36, 3), (37, 3), (38, 3), (46, 1), (48, 1), (50, 3), (51, 3)]) Tryz.f340 = true := by kernel_rfl
theorem tx341 : bodyOk (cfX std [] [] [] []) Tryz.f341 = true := by kernel_rfl
theorem tx342 : bodyOk (cfX std [] [] [] []) Tryz.f342 = true := by kernel_rfl
theorem tx343 : bodyOk (cfX std [] [] [] []) Tryz.f343 = true := by kernel_rfl
theorem tx344 : bodyOk (cfX std [] [] [] []) Tryz.f344 = true := by kernel_rfl
theorem tx345 : bodyOk (cfX std [] [] [] []) Tryz.f345 = true := by kernel_rfl
theorem tx346 : bodyOk (cfX std [] [] [] []) Tryz.f346 = true := by kernel_rfl
theorem tx347 : bodyOk (cfX std [] [] [] []) Tryz.f347 = true := by kernel_rfl
theorem tx348 : bodyOk (cfX std [] [] [] []) Tryz.f348 = true := by kernel_rfl
theorem tx349 : bodyOk (cfX std [] [4] [] []) Tryz.f349 = true := by kernel_rfl
theorem tx350 : bodyOk (cfX std [] [] [] []) Tryz.f350 = true := by kernel_rfl
theorem tx351 : bodyOk (cfX std [] [] [] []) Tryz.f351 = true := by kernel_rfl
theorem tx352 : bodyOk (cfX std [] [] [] []) Tryz.f352 = true := by kernel_rfl
theorem tx353 : bodyOk (cfX std [] [] [] []) Tryz.f353 = true := by kernel_rfl
theorem tx354 : bodyOk (cfX std [] [] [] []) Tryz.f354 = true := by kernel_rfl
theorem tx355 : bodyOk (cfX std [] [] [] []) Tryz.f355 = true := by kernel_rfl
theorem tx356 : bodyOk (cfX std [] [] [] []) Tryz.f356 = true := by kernel_rfl
theorem tx357 : bodyOk (cfX std [] [] [] []) Tryz.f357 = true := by kernel_rfl
theorem tx358 : bodyOk (cfX std [] [] [] []) Tryz.f358 = true := by kernel_rfl
theorem tx359 : bodyOk (cfX std [] [] [] []) Tryz.f359 = true := by kernel_rfl
theorem tx360 : bodyOk (cfX std [] [] [] []) Tryz.f360 = true := by kernel_rfl
theorem tx361 : bodyOk (cfX std [] [] [] []) Tryz.f361 = true := by kernel_rfl
theorem tx362 : bodyOk (cfX std [] [] [] []) Tryz.f362 = true := by kernel_rfl
theorem tx363 : bodyOk (cfX std [] [] [] []) Tryz.f363 = true := by kernel_rfl
theorem tx364 : bodyOk (cfX std [] [] [] []) Tryz.f364 = true := by kernel_rfl
theorem tx365 : bodyOk (cfX std [] [] [] []) Tryz.f365 = true := by kernel_rfl
theorem tx366 : bodyOk (cfX std [] [] [] []) Tryz.f366 = true := by kernel_rfl
theorem tx367 : bodyOk (cfX std [] [] [] []) Tryz.f367 = true := by kernel_rfl
theorem tx368 : bodyOk (cfX std [] [] [] []) Tryz.f368 = true := by kernel_rfl
theorem tx369 : bodyOk (cfX std [] [] [] []) Tryz.f369 = true := by kernel_rfl
theorem tx370 : bodyOk (cfX std [] [] [] []) Tryz.f370 = true := by kernel_rfl
theorem tx371 : bodyOk (cfX std [] [] [] []) Tryz.f371 = true := by kernel_rfl
theorem tx372 : bodyOk (cfX std [] [] [] []) Tryz.f372 = true := by kernel_rfl
theorem tx373 : bodyOk (cfX std [] [] [] []) Tryz.f373 = true := by kernel_rfl
theorem tx374 : bodyOk (cfX std [] [] [] []) Tryz.f374 = true := by kernel_rfl
noncomputable def tab0 : List Row0 := [⟨3, Tryz.f3, cfX std [] [] [] [(107, 0), (110, 20), (112, 0), (115, 0), (116, 20), (118, 0), (122, 0), (127, 0), (128, 20)]⟩, ⟨4, Tryz.f4, cfX std [7, 124, 127] [] [] [(89, 9), (90, 9), (93, 9), (94, 9)]⟩, ⟨5, Tryz.f5, cfX std [23, 103, 106] [] [] [(29, 0), (153, 0), (154, 0), (155, 17), (157, 17), (173, 0), (174, 0), (177, 0), (178, 0), (181, 17), (187, 0), (188, 0), (197, 0), (199, 15), (203, 0), (205, 15)]⟩, ⟨6, Tryz.f6, cfX std [] [] [] []⟩, ⟨7, Tryz.f7, cfX std [] [] [] [(112, 0), (113, 10), (115, 10)]⟩, ⟨8, Tryz.f8, cfX std [] [] [] [(103, 0), (104, 11), (106, 11), (131, 0), (136, 0), (142, 0), (147, 0)]⟩, ⟨9, Tryz.f9, cfX std [] [] [] [(7, 0), (26, 0), (28, 1), (30, 1)]⟩, ⟨10, Tryz.f10, cfX std [] [] [] [(4, 0), (178, 0), (179, 7), (183, 0), (184, 7), (188, 0), (189, 0)]⟩, ⟨11, Tryz.f11, cfX std [] [] [] [(2, 0), (45, 0), (48, 0), (55, 0), (56, 0), (59, 0)]⟩, ⟨12, Tryz.f12, cfX std [] [] [] [(2, 0), (33, 0), (37, 0)]⟩, ⟨13, Tryz.f13, cfX std [] [] [] [(6, 0), (40, 0), (45, 0), (46, 0), (48, 0), (52, 0), (53, 3), (56, 3)]⟩, ⟨14, Tryz.f14, cfX std [] [] [] []⟩, ⟨15, Tryz.f15, cfX std [] [] [] []⟩]
theorem tab0_ok : AllR tab0 := ⟨⟨Tryz.func3, okE _ _ _ _, tx3, fun _ => rfl⟩, ⟨Tryz.func4, okE _ _ _ _, tx4, fun _ => rfl⟩, ⟨Tryz.func5, okE _ _ _ _, tx5, fun _ => rfl⟩, ⟨Tryz.func6, okE _ _ _ _, tx6, fun _ => rfl⟩, ⟨Tryz.func7, okE _ _ _ _, tx7, fun _ => rfl⟩, ⟨Tryz.func8, okE _ _ _ _, tx8, fun _ => rfl⟩, ⟨Tryz.func9, okE _ _ _ _, tx9, fun _ => rfl⟩, ⟨Tryz.func10, okE _ _ _ _, tx10, fun _ => rfl⟩, ⟨Tryz.func11, okE _ _ _ _, tx11, fun _ => rfl⟩, ⟨Tryz.func12, okE _ _ _ _, tx12, fun _ => rfl⟩, ⟨Tryz.func13, okE _ _ _ _, tx13, fun _ => rfl⟩, ⟨Tryz.func14, okE _ _ _ _, tx14, fun _ => rfl⟩, ⟨Tryz.func15, okE _ _ _ _, tx15, fun _ => rfl⟩, trivial⟩
noncomputable def tab1 : List Row0 := [⟨16, Tryz.f16, cfX std [54] [] [] [(2, 0), (35, 1), (38, 0), (39, 1), (40, 1), (44, 0), (45, 1), (50, 0), (51, 1), (55, 1), (56, 1), (59, 1), (60, 1), (65, 0), (66, 1), (69, 1), (73, 1), (74, 1), (78, 1), (79, 1), (83, 1), (84, 1)]⟩, ⟨17, Tryz.f17, cfX std [] [] [] []⟩, ⟨18, Tryz.f18, cfX std [] [56] [] []⟩, ⟨19, Tryz.f19, cfX std [] [] [] [(3, 1), (7, 1), (11, 0)]⟩, ⟨20, Tryz.f20, cfX std [] [] [] [(32, 0), (33, 0), (34, 0), (35, 0), (36, 3), (40, 0), (41, 0), (42, 0), (43, 0), (44, 0), (45, 0), (46, 0), (47, 0)]⟩, ⟨21, Tryz.f21, cfX std [] [] [] [(3, 1), (5, 1), (7, 1), (10, 1), (11, 1), (13, 1), (14, 1), (16, 1), (17, 1), (20, 1), (22, 1), (24, 1), (26, 1), (28, 1), (30, 1), (32, 1), (34, 1), (36, 1), (38, 1), (40, 1), (42, 1), (44, 1)]⟩, ⟨22, Tryz.f22, cfX std [] [] [] [(21, 0), (22, 0), (23, 0), (25, 0), (26, 0), (27, 0), (31, 0), (32, 0), (33, 0), (35, 0), (36, 0), (37, 0), (40, 0), (41, 0), (42, 0), (43, 0), (46, 0), (47, 0), (48, 0), (51, 0), (52, 0)]⟩, ⟨23, Tryz.f23, cfX std [] [] [] []⟩, ⟨24, Tryz.f24, cfX std [] [] [] [(3, 1), (5, 1), (7, 1), (10, 1), (11, 1), (13, 1), (14, 1), (16, 1), (17, 1), (20, 1), (22, 1), (24, 1), (26, 1), (28, 1), (30, 1), (32, 1), (34, 1), (36, 1), (38, 1), (40, 1), (42, 1), (44, 1)]⟩, ⟨25, Tryz.f25, cfX std [] [] [] [(8, 0), (11, 0), (12, 0), (13, 0), (17, 0), (18, 0), (19, 0), (20, 0), (21, 0), (26, 0), (27, 0), (28, 0), (29, 0), (30, 0), (33, 0), (34, 0), (35, 0), (40, 0), (41, 5), (43, 0), (44, 0), (45, 0), (49, 0), (50, 5), (52, 0), (53, 0), (54, 0), (55, 0), (60, 0), (74, 0), (75, 0), (76, 0), (77, 0), (80, 0), (81, 0), (82, 0), (85, 0), (86, 0), (87, 5), (91, 5), (93, 0), (94, 0), (95, 0)]⟩, ⟨26, Tryz.f26, cfX std [] [] [] []⟩, ⟨27, Tryz.f27, cfX std [] [] [] []⟩, ⟨28, Tryz.f28, cfX std [] [] [] []⟩, ⟨29, Tryz.f29, cfX std [] [] [] [(30, 3), (33, 2), (34, 2), (35, 2), (36, 2), (37, 2)]⟩, ⟨30, Tryz.f30, cfX std [] [] [] []⟩, ⟨31, Tryz.f31, cfX std [] [] [] []⟩]
theorem tab1_ok : AllR tab1 := ⟨⟨Tryz.func16, okE _ _ _ _, tx16, fun _ => rfl⟩, ⟨Tryz.func17, okE _ _ _ _, tx17, fun _ => rfl⟩, ⟨Tryz.func18, okE _ _ _ _, tx18, fun _ => rfl⟩, ⟨Tryz.func19, okE _ _ _ _, tx19, fun _ => rfl⟩, ⟨Tryz.func20, okE _ _ _ _, tx20, fun _ => rfl⟩, ⟨Tryz.func21, okE _ _ _ _, tx21, fun _ => rfl⟩, ⟨Tryz.func22, okE _ _ _ _, tx22, fun _ => rfl⟩, ⟨Tryz.func23, okE _ _ _ _, tx23, fun _ => rfl⟩, ⟨Tryz.func24, okE _ _ _ _, tx24, fun _ => rfl⟩, ⟨Tryz.func25, okE _ _ _ _, tx25, fun _ => rfl⟩, ⟨Tryz.func26, okE _ _ _ _, tx26, fun _ => rfl⟩, ⟨Tryz.func27, okE _ _ _ _, tx27, fun _ => rfl⟩, ⟨Tryz.func28, okE _ _ _ _, tx28, fun _ => rfl⟩, ⟨Tryz.func29, okE _ _ _ _, tx29, fun _ => rfl⟩, ⟨Tryz.func30, okE _ _ _ _, tx30, fun _ => rfl⟩, ⟨Tryz.func31, okE _ _ _ _, tx31, fun _ => rfl⟩, trivial⟩
noncomputable def tab2 : List Row0 := [⟨32, Tryz.f32, cfX std [] [] [] [(8, 3), (12, 0), (13, 3), (18, 0), (19, 0), (20, 3), (23, 3), (28, 0), (33, 0), (34, 5), (36, 3), (40, 0), (41, 5), (43, 3), (44, 3)]⟩, ⟨33, Tryz.f33, cfX std [] [] [] []⟩, ⟨34, Tryz.f34, cfX std [] [] [] []⟩, ⟨35, Tryz.f35, cfX std [] [] [] []⟩, ⟨36, Tryz.f36, cfX std [] [] [] []⟩, ⟨37, Tryz.f37, cfX std [] [] [] []⟩, ⟨38, Tryz.f38, cfX std [] [] [] []⟩, ⟨39, Tryz.f39, cfX std [] [23] [] []⟩, ⟨40, Tryz.f40, cfX std [] [] [] []⟩, ⟨41, Tryz.f41, cfX std [] [] [] [(9, 0), (36, 0), (37, 0), (38, 0), (39, 0), (40, 0), (41, 0)]⟩, ⟨42, Tryz.f42, cfX std [] [] [] [(3, 0), (11, 0), (44, 0), (45, 0), (46, 1), (47, 1), (57, 0), (60, 1), (61, 1), (62, 1)]⟩, ⟨43, Tryz.f43, cfX std [] [] [] []⟩, ⟨44, Tryz.f44, cfX std [] [] [] []⟩, ⟨45, Tryz.f45, cfX std [] [] [] [(9, 0), (13, 0), (15, 3), (16, 3), (18, 0)]⟩, ⟨46, Tryz.f46, cfX std [] [] [] []⟩, ⟨47, Tryz.f47, cfX std [] [] [] []⟩]
theorem tab2_ok : AllR tab2 := ⟨⟨Tryz.func32, okE _ _ _ _, tx32, fun _ => rfl⟩, ⟨Tryz.func33, okE _ _ _ _, tx33, fun _ => rfl⟩, ⟨Tryz.func34, okE _ _ _ _, tx34, fun _ => rfl⟩, ⟨Tryz.func35, okE _ _ _ _, tx35, fun _ => rfl⟩, ⟨Tryz.func36, okE _ _ _ _, tx36, fun _ => rfl⟩, ⟨Tryz.func37, okE _ _ _ _, tx37, fun _ => rfl⟩, ⟨Tryz.func38, okE _ _ _ _, tx38, fun _ => rfl⟩, ⟨Tryz.func39, okE _ _ _ _, tx39, fun _ => rfl⟩, ⟨Tryz.func40, okE _ _ _ _, tx40, fun _ => rfl⟩, ⟨Tryz.func41, okE _ _ _ _, tx41, fun _ => rfl⟩, ⟨Tryz.func42, okE _ _ _ _, tx42, fun _ => rfl⟩, ⟨Tryz.func43, okE _ _ _ _, tx43, fun _ => rfl⟩, ⟨Tryz.func44, okE _ _ _ _, tx44, fun _ => rfl⟩, ⟨Tryz.func45, okE _ _ _ _, tx45, fun _ => rfl⟩, ⟨Tryz.func46, okE _ _ _ _, tx46, fun _ => rfl⟩, ⟨Tryz.func47, okE _ _ _ _, tx47, fun _ => rfl⟩, trivial⟩
noncomputable def tab3 : List Row0 := [⟨48, Tryz.f48, cfX std [] [] [] []⟩, ⟨49, Tryz.f49, cfX std [] [] [] []⟩, ⟨50, Tryz.f50, cfX std [] [] [] [(22, 0), (28, 0), (29, 0), (37, 0), (38, 0), (47, 0), (48, 0), (55, 0)]⟩, ⟨51, Tryz.f51, cfX std [] [] [] []⟩, ⟨52, Tryz.f52, cfX std [] [28] [] [(10, 0), (11, 0), (32, 0), (34, 0), (35, 0), (36, 0), (37, 0), (39, 0), (40, 0), (41, 0), (42, 0), (43, 0), (44, 0), (51, 0), (52, 2), (57, 2), (58, 2), (60, 0)]⟩, ⟨53, Tryz.f53, cfX std [] [] [] [(37, 11), (38, 11), (39, 11), (40, 11), (41, 11)]⟩, ⟨54, Tryz.f54, cfX std [] [] [] []⟩, ⟨55, Tryz.f55, cfX std [] [20] [] []⟩, ⟨57, Tryz.f57, cfX std [80, 82, 130, 132] [] [] [(3, 0), (4, 0), (10, 0), (14, 0), (67, 0), (68, 1), (70, 1), (71, 1), (77, 1), (81, 0), (83, 0), (85, 1), (86, 1), (110, 0), (112, 1), (113, 1), (116, 0), (117, 0), (119, 1), (131, 0), (133, 0)]⟩, ⟨58, Tryz.f58, cfX std [] [] [] [(25, 7), (26, 7), (29, 7), (30, 7), (33, 7), (34, 7), (37, 7), (38, 7), (39, 7), (40, 7), (41, 7), (42, 7)]⟩, ⟨59, Tryz.f59, cfX std [] [] [] [(71, 2), (74, 2), (75, 2), (76, 2)]⟩, ⟨60, Tryz.f60, cfX std [] [] [] [(27, 7), (29, 0), (30, 3), (31, 3), (33, 7), (34, 7), (39, 7), (42, 7), (45, 7), (47, 3), (48, 3), (49, 3)]⟩, ⟨61, Tryz.f61, cfX std [] [] [] [(4, 0), (30, 3), (36, 2), (37, 2), (41, 2), (45, 3), (49, 0), (50, 3), (51, 3), (52, 3), (55, 0), (59, 0), (60, 2), (67, 3), (71, 2), (75, 2), (79, 0), (83, 0), (84, 2), (91, 2)]⟩, ⟨62, Tryz.f62, cfX std [] [] [] [(10, 0), (12, 0), (14, 0), (21, 0), (22, 0), (24, 0), (25, 0), (26, 0), (28, 0), (39, 0), (40, 0), (42, 0), (43, 0), (44, 0), (46, 0), (58, 0), (59, 0), (60, 0), (61, 0), (63, 0)]⟩, ⟨63, Tryz.f63, cfX std [] [] [] [(11, 0), (17, 0), (19, 3), (20, 3), (22, 0), (38, 0), (40, 3), (41, 3), (43, 0)]⟩]
theorem tab3_ok : AllR tab3 := ⟨⟨Tryz.func48, okE _ _ _ _, tx48, fun _ => rfl⟩, ⟨Tryz.func49, okE _ _ _ _, tx49, fun _ => rfl⟩, ⟨Tryz.func50, okE _ _ _ _, tx50, fun _ => rfl⟩, ⟨Tryz.func51, okE _ _ _ _, tx51, fun _ => rfl⟩, ⟨Tryz.func52, okE _ _ _ _, tx52, fun _ => rfl⟩, ⟨Tryz.func53, okE _ _ _ _, tx53, fun _ => rfl⟩, ⟨Tryz.func54, okE _ _ _ _, tx54, fun _ => rfl⟩, ⟨Tryz.func55, okE _ _ _ _, tx55, fun _ => rfl⟩, ⟨Tryz.func57, okE _ _ _ _, tx57, fun _ => rfl⟩, ⟨Tryz.func58, okE _ _ _ _, tx58, fun _ => rfl⟩, ⟨Tryz.func59, okE _ _ _ _, tx59, fun _ => rfl⟩, ⟨Tryz.func60, okE _ _ _ _, tx60, fun _ => rfl⟩, ⟨Tryz.func61, okE _ _ _ _, tx61, fun _ => rfl⟩, ⟨Tryz.func62, okE _ _ _ _, tx62, fun _ => rfl⟩, ⟨Tryz.func63, okE _ _ _ _, tx63, fun _ => rfl⟩, trivial⟩
noncomputable def tab4 : List Row0 := [⟨64, Tryz.f64, cfX std [4, 28, 36] [] [] [(3, 0), (29, 6), (31, 6), (39, 0), (40, 0), (41, 0), (43, 0), (44, 0)]⟩, ⟨65, Tryz.f65, cfX std [] [] [] []⟩, ⟨66, Tryz.f66, cfX std [] [] [] [(4, 1), (7, 1), (8, 1), (11, 1), (14, 1), (15, 1), (16, 1), (17, 1), (18, 1), (21, 1), (24, 1), (25, 1), (32, 1), (35, 1), (45, 1), (46, 1), (49, 1), (50, 1), (53, 1), (54, 1), (55, 1), (56, 1)]⟩, ⟨67, Tryz.f67, cfX std [] [] [] [(16, 0), (21, 0), (28, 0), (33, 0)]⟩, ⟨68, Tryz.f68, cfX std [] [] [] [(15, 1), (17, 1), (19, 3), (20, 3), (21, 3), (22, 3)]⟩, ⟨69, Tryz.f69, cfX std [] [] [] []⟩, ⟨70, Tryz.f70, cfX std [] [4] [] []⟩, ⟨71, Tryz.f71, cfX std [] [] [] []⟩, ⟨72, Tryz.f72, cfX std [] [5] [] []⟩, ⟨73, Tryz.f73, cfX std [] [] [] [(2, 0), (3, 0), (4, 0), (5, 0), (16, 1), (20, 1), (26, 1), (29, 1), (46, 0), (47, 1), (51, 0), (52, 0), (53, 1), (55, 1), (63, 0), (64, 1), (68, 0), (69, 0), (70, 1), (98, 0), (99, 1), (101, 1), (105, 1), (112, 0), (113, 1), (115, 1), (119, 1), (131, 0), (132, 1), (140, 1), (153, 0), (154, 1), (158, 1), (161, 1), (179, 0), (180, 1), (185, 1), (192, 0), (193, 1), (197, 1)]⟩, ⟨74, Tryz.f74, cfX std [] [] [] [(3, 0), (4, 1), (8, 1), (12, 0)]⟩, ⟨75, Tryz.f75, cfX std [] [] [] []⟩, ⟨76, Tryz.f76, cfX std [] [] [] []⟩, ⟨77, Tryz.f77, cfX std [] [] [] [(62, 1), (70, 1), (107, 1), (120, 1), (143, 1), (151, 1), (159, 1), (175, 1), (183, 1), (191, 1), (207, 1), (215, 1)]⟩, ⟨78, Tryz.f78, cfX std [] [] [] []⟩, ⟨79, Tryz.f79, cfX std [] [] [] [(36, 1), (38, 1), (40, 4), (41, 4), (76, 1), (78, 1), (80, 4), (81, 4), (89, 1), (91, 1), (93, 4), (94, 4)]⟩]
theorem tab4_ok : AllR tab4 := ⟨⟨Tryz.func64, okE _ _ _ _, tx64, fun _ => rfl⟩, ⟨Tryz.func65, okE _ _ _ _, tx65, fun _ => rfl⟩, ⟨Tryz.func66, okE _ _ _ _, tx66, fun _ => rfl⟩, ⟨Tryz.func67, okE _ _ _ _, tx67, fun _ => rfl⟩, ⟨Tryz.func68, okE _ _ _ _, tx68, fun _ => rfl⟩, ⟨Tryz.func69, okE _ _ _ _, tx69, fun _ => rfl⟩, ⟨Tryz.func70, okE _ _ _ _, tx70, fun _ => rfl⟩, ⟨Tryz.func71, okE _ _ _ _, tx71, fun _ => rfl⟩, ⟨Tryz.func72, okE _ _ _ _, tx72, fun _ => rfl⟩, ⟨Tryz.func73, okE _ _ _ _, tx73, fun _ => rfl⟩, ⟨Tryz.func74, okE _ _ _ _, tx74, fun _ => rfl⟩, ⟨Tryz.func75, okE _ _ _ _, tx75, fun _ => rfl⟩, ⟨Tryz.func76, okE _ _ _ _, tx76, fun _ => rfl⟩, ⟨Tryz.func77, okE _ _ _ _, tx77, fun _ => rfl⟩, ⟨Tryz.func78, okE _ _ _ _, tx78, fun _ => rfl⟩, ⟨Tryz.func79, okE _ _ _ _, tx79, fun _ => rfl⟩, trivial⟩
noncomputable def tab5 : List Row0 := [⟨80, Tryz.f80, cfX std [] [] [] [(97, 1), (103, 1)]⟩, ⟨81, Tryz.f81, cfX std [] [] [] []⟩, ⟨82, Tryz.f82, cfX std [] [] [] []⟩, ⟨83, Tryz.f83, cfX std [] [] [] []⟩, ⟨84, Tryz.f84, cfX std [] [] [] []⟩, ⟨85, Tryz.f85, cfX std [] [] [] []⟩, ⟨86, Tryz.f86, cfX std [] [] [] []⟩, ⟨87, Tryz.f87, cfX std [] [] [] [(9, 0), (20, 0), (25, 0), (34, 0), (35, 0)]⟩, ⟨88, Tryz.f88, cfX std [] [] [] []⟩, ⟨89, Tryz.f89, cfX std [] [] [] []⟩, ⟨90, Tryz.f90, cfX std [] [] [] []⟩, ⟨91, Tryz.f91, cfX std [] [] [] []⟩, ⟨93, Tryz.f93, cfX std [] [] [] []⟩, ⟨94, Tryz.f94, cfX std [] [] [] []⟩, ⟨95, Tryz.f95, cfX std [] [] [] []⟩]
theorem tab5_ok : AllR tab5 := ⟨⟨Tryz.func80, okE _ _ _ _, tx80, fun _ => rfl⟩, ⟨Tryz.func81, okE _ _ _ _, tx81, fun _ => rfl⟩, ⟨Tryz.func82, okE _ _ _ _, tx82, fun _ => rfl⟩, ⟨Tryz.func83, okE _ _ _ _, tx83, fun _ => rfl⟩, ⟨Tryz.func84, okE _ _ _ _, tx84, fun _ => rfl⟩, ⟨Tryz.func85, okE _ _ _ _, tx85, fun _ => rfl⟩, ⟨Tryz.func86, okE _ _ _ _, tx86, fun _ => rfl⟩, ⟨Tryz.func87, okE _ _ _ _, tx87, fun _ => rfl⟩, ⟨Tryz.func88, okE _ _ _ _, tx88, fun _ => rfl⟩, ⟨Tryz.func89, okE _ _ _ _, tx89, fun _ => rfl⟩, ⟨Tryz.func90, okE _ _ _ _, tx90, fun _ => rfl⟩, ⟨Tryz.func91, okE _ _ _ _, tx91, fun _ => rfl⟩, ⟨Tryz.func93, okE _ _ _ _, tx93, fun _ => rfl⟩, ⟨Tryz.func94, okE _ _ _ _, tx94, fun _ => rfl⟩, ⟨Tryz.func95, okE _ _ _ _, tx95, fun _ => rfl⟩, trivial⟩
noncomputable def tab6 : List Row0 := [⟨96, Tryz.f96, cfX std [] [] [] []⟩, ⟨97, Tryz.f97, cfX std [] [] [] [(16, 0), (20, 0)]⟩, ⟨98, Tryz.f98, cfX std [] [] [] []⟩, ⟨99, Tryz.f99, cfX std [] [] [] []⟩, ⟨100, Tryz.f100, cfX std [] [] [] []⟩, ⟨101, Tryz.f101, cfX std [] [] [] [(16, 0), (21, 0), (28, 0), (33, 0), (40, 0), (41, 0), (47, 0)]⟩, ⟨102, Tryz.f102, cfX std [] [] [] []⟩, ⟨103, Tryz.f103, cfX std [] [] [] []⟩, ⟨104, Tryz.f104, cfX std [] [] [] []⟩, ⟨105, Tryz.f105, cfX std [] [] [] []⟩, ⟨106, Tryz.f106, cfX std [] [] [] [(16, 0), (20, 0)]⟩, ⟨107, Tryz.f107, cfX std [] [] [] []⟩, ⟨108, Tryz.f108, cfX std [] [] [] []⟩, ⟨109, Tryz.f109, cfX std [] [] [] []⟩, ⟨110, Tryz.f110, cfX std [] [] [] [(6, 0), (7, 0), (8, 0), (9, 0), (11, 0), (12, 0), (13, 0), (14, 0), (29, 0), (30, 0), (33, 0), (34, 0), (35, 0), (36, 0), (38, 0), (39, 0), (40, 0), (41, 0)]⟩, ⟨111, Tryz.f111, cfX std [] [] [] [(151, 4), (153, 4), (155, 1), (157, 1), (159, 7), (160, 7), (161, 7), (162, 7), (163, 7), (182, 4), (184, 1), (186, 1), (188, 7), (189, 7), (190, 7), (191, 7), (233, 1), (234, 1), (236, 1), (237, 1), (239, 1), (240, 1), (242, 7), (243, 7), (244, 7), (245, 7), (248, 1), (250, 1), (253, 4)]⟩]
theorem tab6_ok : AllR tab6 := ⟨⟨Tryz.func96, okE _ _ _ _, tx96, fun _ => rfl⟩, ⟨Tryz.func97, okE _ _ _ _, tx97, fun _ => rfl⟩, ⟨Tryz.func98, okE _ _ _ _, tx98, fun _ => rfl⟩, ⟨Tryz.func99, okE _ _ _ _, tx99, fun _ => rfl⟩, ⟨Tryz.func100, okE _ _ _ _, tx100, fun _ => rfl⟩, ⟨Tryz.func101, okE _ _ _ _, tx101, fun _ => rfl⟩, ⟨Tryz.func102, okE _ _ _ _, tx102, fun _ => rfl⟩, ⟨Tryz.func103, okE _ _ _ _, tx103, fun _ => rfl⟩, ⟨Tryz.func104, okE _ _ _ _, tx104, fun _ => rfl⟩, ⟨Tryz.func105, okE _ _ _ _, tx105, fun _ => rfl⟩, ⟨Tryz.func106, okE _ _ _ _, tx106, fun _ => rfl⟩, ⟨Tryz.func107, okE _ _ _ _, tx107, fun _ => rfl⟩, ⟨Tryz.func108, okE _ _ _ _, tx108, fun _ => rfl⟩, ⟨Tryz.func109, okE _ _ _ _, tx109, fun _ => rfl⟩, ⟨Tryz.func110, okE _ _ _ _, tx110, fun _ => rfl⟩, ⟨Tryz.func111, okE _ _ _ _, tx111, fun _ => rfl⟩, trivial⟩
noncomputable def tab7 : List Row0 := [⟨112, Tryz.f112, cfX std [] [] [] [(13, 0), (14, 0), (15, 3), (17, 0), (18, 0), (19, 0), (20, 0)]⟩, ⟨113, Tryz.f113, cfX std [] [3, 92] [] []⟩, ⟨114, Tryz.f114, cfX std [] [] [] []⟩, ⟨115, Tryz.f115, cfX std [] [] [] [(61, 3), (63, 3), (65, 2), (66, 2), (67, 2), (70, 3), (72, 2), (73, 2)]⟩, ⟨116, Tryz.f116, cfX std [] [] [] []⟩, ⟨117, Tryz.f117, cfX std [4, 21, 29] [] [] []⟩, ⟨119, Tryz.f119, cfX std [] [] [] []⟩, ⟨120, Tryz.f120, cfX std [] [] [] []⟩, ⟨121, Tryz.f121, cfX std [] [] [] []⟩, ⟨122, Tryz.f122, cfX std [] [] [] [(5, 0)]⟩, ⟨123, Tryz.f123, cfX std [] [] [] [(8, 0), (11, 0), (12, 3), (15, 0), (17, 4), (19, 4), (25, 4), (26, 4), (29, 0), (30, 3), (33, 0), (35, 4), (40, 4)]⟩, ⟨124, Tryz.f124, cfX std [] [] [] []⟩, ⟨125, Tryz.f125, cfX std [] [] [] [(10, 0), (13, 0)]⟩, ⟨126, Tryz.f126, cfX std [] [] [] []⟩, ⟨127, Tryz.f127, cfX std [] [] [] [(9, 0), (15, 0), (16, 0), (17, 0), (18, 0), (19, 0), (21, 0), (22, 4), (24, 4), (30, 4), (31, 4), (32, 0), (33, 0), (34, 0), (35, 0), (36, 0), (38, 0), (39, 4), (44, 4)]⟩]
theorem tab7_ok : AllR tab7 := ⟨⟨Tryz.func112, okE _ _ _ _, tx112, fun _ => rfl⟩, ⟨Tryz.func113, okE _ _ _ _, tx113, fun _ => rfl⟩, ⟨Tryz.func114, okE _ _ _ _, tx114, fun _ => rfl⟩, ⟨Tryz.func115, okE _ _ _ _, tx115, fun _ => rfl⟩, ⟨Tryz.func116, okE _ _ _ _, tx116, fun _ => rfl⟩, ⟨Tryz.func117, okE _ _ _ _, tx117, fun _ => rfl⟩, ⟨Tryz.func119, okE _ _ _ _, tx119, fun _ => rfl⟩, ⟨Tryz.func120, okE _ _ _ _, tx120, fun _ => rfl⟩, ⟨Tryz.func121, okE _ _ _ _, tx121, fun _ => rfl⟩, ⟨Tryz.func122, okE _ _ _ _, tx122, fun _ => rfl⟩, ⟨Tryz.func123, okE _ _ _ _, tx123, fun _ => rfl⟩, ⟨Tryz.func124, okE _ _ _ _, tx124, fun _ => rfl⟩, ⟨Tryz.func125, okE _ _ _ _, tx125, fun _ => rfl⟩, ⟨Tryz.func126, okE _ _ _ _, tx126, fun _ => rfl⟩, ⟨Tryz.func127, okE _ _ _ _, tx127, fun _ => rfl⟩, trivial⟩
noncomputable def tab8 : List Row0 := [⟨128, Tryz.f128, cfX std [5] [] [] []⟩, ⟨129, Tryz.f129, cfX std [5] [] [] []⟩, ⟨130, Tryz.f130, cfX std [] [] [] [(29, 0), (30, 0), (31, 0), (32, 0), (33, 0), (35, 0), (36, 0), (37, 0), (38, 0), (40, 6), (45, 6)]⟩, ⟨132, Tryz.f132, cfX std [] [] [] [(11, 0), (12, 0), (13, 0), (14, 0), (18, 3), (22, 0), (23, 3), (25, 0), (26, 0), (27, 0), (28, 0), (32, 0), (33, 3), (35, 0), (36, 0), (37, 0), (38, 0), (42, 0), (43, 0), (44, 3), (46, 3), (49, 0), (50, 0), (51, 0), (52, 0), (53, 0), (54, 0), (66, 0), (67, 0), (68, 0), (69, 0), (71, 0), (72, 0), (74, 0), (75, 0), (76, 0), (77, 0), (79, 3), (84, 0), (85, 0), (86, 0)]⟩, ⟨133, Tryz.f133, cfX std [] [] [] []⟩, ⟨134, Tryz.f134, cfX std [60, 63] [] [] [(8, 0), (9, 0), (33, 0), (35, 0), (37, 3), (39, 5), (48, 0), (49, 0), (50, 5), (56, 3), (61, 3), (64, 5), (70, 0), (74, 3)]⟩, ⟨135, Tryz.f135, cfX std [] [] [] [(30, 3), (32, 3), (34, 2), (35, 2), (36, 2)]⟩, ⟨136, Tryz.f136, cfX std [5] [] [] []⟩, ⟨137, Tryz.f137, cfX std [] [] [] [(14, 1), (17, 1)]⟩, ⟨138, Tryz.f138, cfX std [] [] [] [(3, 1), (6, 1), (9, 1), (12, 1), (13, 1), (14, 1), (15, 1), (18, 1), (21, 1), (24, 1), (25, 1), (26, 1)]⟩, ⟨139, Tryz.f139, cfX std [] [] [] []⟩, ⟨140, Tryz.f140, cfX std [5] [] [] []⟩, ⟨141, Tryz.f141, cfX std [] [] [] []⟩, ⟨142, Tryz.f142, cfX std [5] [] [] []⟩, ⟨143, Tryz.f143, cfX std [] [] [] []⟩]
theorem tab8_ok : AllR tab8 := ⟨⟨Tryz.func128, okE _ _ _ _, tx128, fun _ => rfl⟩, ⟨Tryz.func129, okE _ _ _ _, tx129, fun _ => rfl⟩, ⟨Tryz.func130, okE _ _ _ _, tx130, fun _ => rfl⟩, ⟨Tryz.func132, okE _ _ _ _, tx132, fun _ => rfl⟩, ⟨Tryz.func133, okE _ _ _ _, tx133, fun _ => rfl⟩, ⟨Tryz.func134, okE _ _ _ _, tx134, fun _ => rfl⟩, ⟨Tryz.func135, okE _ _ _ _, tx135, fun _ => rfl⟩, ⟨Tryz.func136, okE _ _ _ _, tx136, fun _ => rfl⟩, ⟨Tryz.func137, okE _ _ _ _, tx137, fun _ => rfl⟩, ⟨Tryz.func138, okE _ _ _ _, tx138, fun _ => rfl⟩, ⟨Tryz.func139, okE _ _ _ _, tx139, fun _ => rfl⟩, ⟨Tryz.func140, okE _ _ _ _, tx140, fun _ => rfl⟩, ⟨Tryz.func141, okE _ _ _ _, tx141, fun _ => rfl⟩, ⟨Tryz.func142, okE _ _ _ _, tx142, fun _ => rfl⟩, ⟨Tryz.func143, okE _ _ _ _, tx143, fun _ => rfl⟩, trivial⟩
noncomputable def tab9 : List Row0 := [⟨144, Tryz.f144, cfX std [] [] [] []⟩, ⟨145, Tryz.f145, cfX std [] [4] [] []⟩, ⟨146, Tryz.f146, cfX std [] [] [] []⟩, ⟨147, Tryz.f147, cfX std [14, 16] [] [] []⟩, ⟨148, Tryz.f148, cfX std [] [2] [] [(141, 3)]⟩, ⟨149, Tryz.f149, cfX std [] [] [] []⟩, ⟨150, Tryz.f150, cfX std [] [] [] [(2, 0), (4, 0), (9, 1), (11, 1), (15, 3), (19, 3), (22, 3), (25, 3), (28, 3), (30, 3), (32, 3), (36, 3), (53, 0), (54, 6), (57, 6), (60, 6), (64, 6), (68, 6), (74, 0), (75, 3), (78, 3), (81, 3), (83, 3), (85, 3), (89, 3), (92, 3), (95, 3), (97, 3)]⟩, ⟨151, Tryz.f151, cfX std [] [6] [] []⟩, ⟨152, Tryz.f152, cfX std [] [] [] []⟩, ⟨153, Tryz.f153, cfX std [37, 41] [] [] [(36, 3), (38, 0), (42, 3)]⟩, ⟨154, Tryz.f154, cfX std [] [] [] []⟩, ⟨156, Tryz.f156, cfX std [] [] [] []⟩, ⟨157, Tryz.f157, cfX std [3, 10, 15] [] [] []⟩, ⟨158, Tryz.f158, cfX std [3, 20, 35, 40, 42, 46, 51, 58, 65, 70, 74] [] [] [(43, 1), (47, 1)]⟩, ⟨159, Tryz.f159, cfX std [3, 10, 16] [] [] []⟩]
theorem tab9_ok : AllR tab9 := ⟨⟨Tryz.func144, okE _ _ _ _, tx144, fun _ => rfl⟩, ⟨Tryz.func145, okE _ _ _ _, tx145, fun _ => rfl⟩, ⟨Tryz.func146, okE _ _ _ _, tx146, fun _ => rfl⟩, ⟨Tryz.func147, okE _ _ _ _, tx147, fun _ => rfl⟩, ⟨Tryz.func148, okE _ _ _ _, tx148, fun _ => rfl⟩, ⟨Tryz.func149, okE _ _ _ _, tx149, fun _ => rfl⟩, ⟨Tryz.func150, okE _ _ _ _, tx150, fun _ => rfl⟩, ⟨Tryz.func151, okE _ _ _ _, tx151, fun _ => rfl⟩, ⟨Tryz.func152, okE _ _ _ _, tx152, fun _ => rfl⟩, ⟨Tryz.func153, okE _ _ _ _, tx153, fun _ => rfl⟩, ⟨Tryz.func154, okE _ _ _ _, tx154, fun _ => rfl⟩, ⟨Tryz.func156, okE _ _ _ _, tx156, fun _ => rfl⟩, ⟨Tryz.func157, okE _ _ _ _, tx157, fun _ => rfl⟩, ⟨Tryz.func158, okE _ _ _ _, tx158, fun _ => rfl⟩, ⟨Tryz.func159, okE _ _ _ _, tx159, fun _ => rfl⟩, trivial⟩
noncomputable def tab10 : List Row0 := [⟨160, Tryz.f160, cfX std [5] [] [] []⟩, ⟨161, Tryz.f161, cfX std [] [] [] [(2, 0), (7, 1), (11, 1), (15, 1), (18, 1), (22, 1), (25, 1), (29, 1)]⟩, ⟨162, Tryz.f162, cfX std [2, 5] [] [] []⟩, ⟨163, Tryz.f163, cfX std [3, 7, 13, 19] [] [] []⟩, ⟨164, Tryz.f164, cfX std [] [] [] []⟩, ⟨165, Tryz.f165, cfX std [] [] [] [(2, 0), (7, 1), (9, 1), (13, 1), (15, 1)]⟩, ⟨166, Tryz.f166, cfX std [] [] [] [(2, 0), (7, 1), (11, 1), (13, 1), (17, 1), (20, 1), (23, 1), (27, 1), (30, 1), (32, 1), (34, 1)]⟩, ⟨167, Tryz.f167, cfX std [] [] [] [(27, 1), (29, 1), (31, 1), (33, 1), (35, 1), (37, 3), (38, 3), (39, 3), (40, 3), (41, 3), (44, 1), (46, 1), (48, 1), (50, 1), (52, 3), (53, 3), (54, 3), (55, 3), (58, 1), (60, 1), (62, 1), (64, 3), (65, 3), (66, 3), (74, 1), (76, 1), (78, 1), (80, 3), (81, 3), (82, 3), (85, 1), (87, 1), (89, 1), (91, 3), (92, 3), (93, 3), (96, 1), (98, 1), (100, 1), (102, 3), (103, 3), (104, 3), (107, 1), (109, 1), (111, 3), (112, 3), (115, 1), (117, 1), (119, 3), (120, 3)]⟩, ⟨168, Tryz.f168, cfX std [] [] [] []⟩, ⟨169, Tryz.f169, cfX std [] [] [] []⟩, ⟨170, Tryz.f170, cfX std [] [] [] []⟩, ⟨171, Tryz.f171, cfX std [] [] [] []⟩, ⟨172, Tryz.f172, cfX std [] [] [] []⟩, ⟨173, Tryz.f173, cfX std [] [] [] []⟩, ⟨174, Tryz.f174, cfX std [] [] [] [(24, 1), (27, 1), (30, 1)]⟩, ⟨175, Tryz.f175, cfX std [] [] [] [(31, 0), (34, 0), (37, 0), (38, 0), (43, 0), (48, 0), (52, 0), (57, 0)]⟩]
theorem tab10_ok : AllR tab10 := ⟨⟨Tryz.func160, okE _ _ _ _, tx160, fun _ => rfl⟩, ⟨Tryz.func161, okE _ _ _ _, tx161, fun _ => rfl⟩, ⟨Tryz.func162, okE _ _ _ _, tx162, fun _ => rfl⟩, ⟨Tryz.func163, okE _ _ _ _, tx163, fun _ => rfl⟩, ⟨Tryz.func164, okE _ _ _ _, tx164, fun _ => rfl⟩, ⟨Tryz.func165, okE _ _ _ _, tx165, fun _ => rfl⟩, ⟨Tryz.func166, okE _ _ _ _, tx166, fun _ => rfl⟩, ⟨Tryz.func167, okE _ _ _ _, tx167, fun _ => rfl⟩, ⟨Tryz.func168, okE _ _ _ _, tx168, fun _ => rfl⟩, ⟨Tryz.func169, okE _ _ _ _, tx169, fun _ => rfl⟩, ⟨Tryz.func170, okE _ _ _ _, tx170, fun _ => rfl⟩, ⟨Tryz.func171, okE _ _ _ _, tx171, fun _ => rfl⟩, ⟨Tryz.func172, okE _ _ _ _, tx172, fun _ => rfl⟩, ⟨Tryz.func173, okE _ _ _ _, tx173, fun _ => rfl⟩, ⟨Tryz.func174, okE _ _ _ _, tx174, fun _ => rfl⟩, ⟨Tryz.func175, okE _ _ _ _, tx175, fun _ => rfl⟩, trivial⟩
noncomputable def tab11 : List Row0 := [⟨176, Tryz.f176, cfX std [] [] [] []⟩, ⟨177, Tryz.f177, cfX std [] [] [] []⟩, ⟨178, Tryz.f178, cfX std [] [] [] []⟩, ⟨179, Tryz.f179, cfX std [] [] [] []⟩, ⟨180, Tryz.f180, cfX std [] [] [] []⟩, ⟨181, Tryz.f181, cfX std [] [] [] []⟩, ⟨182, Tryz.f182, cfX std [] [] [] []⟩, ⟨183, Tryz.f183, cfX std [] [] [] [(11, 0), (16, 0), (20, 0), (28, 0), (29, 0), (37, 0), (41, 0), (47, 0)]⟩, ⟨184, Tryz.f184, cfX std [] [] [] [(9, 0), (17, 0), (25, 0), (26, 0), (34, 0), (38, 0), (44, 0)]⟩, ⟨185, Tryz.f185, cfX std [] [] [] [(16, 0), (20, 0)]⟩, ⟨186, Tryz.f186, cfX std [] [] [] []⟩, ⟨187, Tryz.f187, cfX std [] [] [] [(16, 0), (20, 0)]⟩, ⟨188, Tryz.f188, cfX std [] [] [] [(16, 0), (20, 0)]⟩, ⟨189, Tryz.f189, cfX std [] [] [] [(16, 0), (21, 0), (28, 0), (33, 0), (40, 0), (41, 0), (46, 0)]⟩, ⟨190, Tryz.f190, cfX std [] [] [] [(16, 0), (20, 0)]⟩, ⟨191, Tryz.f191, cfX std [] [] [] []⟩]
theorem tab11_ok : AllR tab11 := ⟨⟨Tryz.func176, okE _ _ _ _, tx176, fun _ => rfl⟩, ⟨Tryz.func177, okE _ _ _ _, tx177, fun _ => rfl⟩, ⟨Tryz.func178, okE _ _ _ _, tx178, fun _ => rfl⟩, ⟨Tryz.func179, okE _ _ _ _, tx179, fun _ => rfl⟩, ⟨Tryz.func180, okE _ _ _ _, tx180, fun _ => rfl⟩, ⟨Tryz.func181, okE _ _ _ _, tx181, fun _ => rfl⟩, ⟨Tryz.func182, okE _ _ _ _, tx182, fun _ => rfl⟩, ⟨Tryz.func183, okE _ _ _ _, tx183, fun _ => rfl⟩, ⟨Tryz.func184, okE _ _ _ _, tx184, fun _ => rfl⟩, ⟨Tryz.func185, okE _ _ _ _, tx185, fun _ => rfl⟩, ⟨Tryz.func186, okE _ _ _ _, tx186, fun _ => rfl⟩, ⟨Tryz.func187, okE _ _ _ _, tx187, fun _ => rfl⟩, ⟨Tryz.func188, okE _ _ _ _, tx188, fun _ => rfl⟩, ⟨Tryz.func189, okE _ _ _ _, tx189, fun _ => rfl⟩, ⟨Tryz.func190, okE _ _ _ _, tx190, fun _ => rfl⟩, ⟨Tryz.func191, okE _ _ _ _, tx191, fun _ => rfl⟩, trivial⟩
noncomputable def tab12 : List Row0 := [⟨192, Tryz.f192, cfX std [] [] [] []⟩, ⟨193, Tryz.f193, cfX std [] [] [] [(16, 0), (20, 0)]⟩, ⟨194, Tryz.f194, cfX std [] [] [] [(16, 0), (20, 0)]⟩, ⟨195, Tryz.f195, cfX std [] [] [] []⟩, ⟨196, Tryz.f196, cfX std [] [] [] []⟩, ⟨197, Tryz.f197, cfX std [] [] [] [(16, 0), (20, 0)]⟩, ⟨198, Tryz.f198, cfX std [] [] [] []⟩, ⟨199, Tryz.f199, cfX std [] [] [] []⟩, ⟨200, Tryz.f200, cfX std [] [] [] []⟩, ⟨201, Tryz.f201, cfX std [] [] [] []⟩, ⟨202, Tryz.f202, cfX std [] [] [] []⟩, ⟨203, Tryz.f203, cfX std [] [] [] [(4, 0), (5, 0), (6, 0), (7, 0), (8, 0), (12, 0), (13, 0), (14, 0), (15, 0), (17, 0), (18, 0), (19, 0), (20, 0)]⟩, ⟨204, Tryz.f204, cfX std [] [] [] [(11, 0), (12, 0), (13, 0), (14, 0), (16, 0), (17, 0), (18, 0), (19, 0), (28, 0), (29, 0), (30, 0), (31, 0), (34, 0), (35, 0), (36, 0), (37, 0), (39, 0), (40, 0), (41, 0), (42, 0), (44, 0), (45, 0), (46, 0)]⟩, ⟨205, Tryz.f205, cfX std [] [] [] [(11, 0), (12, 0), (13, 0), (14, 0), (16, 0), (17, 0), (18, 0), (19, 0), (21, 0), (22, 0), (23, 0), (24, 0), (29, 0), (30, 0), (31, 0), (32, 0), (34, 0), (35, 0), (36, 0), (37, 0), (39, 0), (40, 0), (41, 0), (43, 0), (44, 0), (46, 0), (47, 0), (48, 0), (50, 0), (51, 0), (53, 4), (54, 4), (55, 4), (56, 4)]⟩, ⟨207, Tryz.f207, cfX std [] [] [] []⟩]
theorem tab12_ok : AllR tab12 := ⟨⟨Tryz.func192, okE _ _ _ _, tx192, fun _ => rfl⟩, ⟨Tryz.func193, okE _ _ _ _, tx193, fun _ => rfl⟩, ⟨Tryz.func194, okE _ _ _ _, tx194, fun _ => rfl⟩, ⟨Tryz.func195, okE _ _ _ _, tx195, fun _ => rfl⟩, ⟨Tryz.func196, okE _ _ _ _, tx196, fun _ => rfl⟩, ⟨Tryz.func197, okE _ _ _ _, tx197, fun _ => rfl⟩, ⟨Tryz.func198, okE _ _ _ _, tx198, fun _ => rfl⟩, ⟨Tryz.func199, okE _ _ _ _, tx199, fun _ => rfl⟩, ⟨Tryz.func200, okE _ _ _ _, tx200, fun _ => rfl⟩, ⟨Tryz.func201, okE _ _ _ _, tx201, fun _ => rfl⟩, ⟨Tryz.func202, okE _ _ _ _, tx202, fun _ => rfl⟩, ⟨Tryz.func203, okE _ _ _ _, tx203, fun _ => rfl⟩, ⟨Tryz.func204, okE _ _ _ _, tx204, fun _ => rfl⟩, ⟨Tryz.func205, okE _ _ _ _, tx205, fun _ => rfl⟩, ⟨Tryz.func207, okE _ _ _ _, tx207, fun _ => rfl⟩, trivial⟩
noncomputable def tab13 : List Row0 := [⟨208, Tryz.f208, cfX std [39, 42] [11] [] [(19, 0), (20, 0), (21, 0), (24, 6), (35, 0), (36, 0), (37, 0), (38, 0), (40, 6), (43, 0), (44, 0), (46, 0), (47, 0), (48, 0), (50, 0), (51, 0), (52, 0), (53, 0)]⟩, ⟨209, Tryz.f209, cfX std [6, 35, 42] [] [] []⟩, ⟨210, Tryz.f210, cfX std [] [] [] []⟩, ⟨211, Tryz.f211, cfX std [9, 68, 71] [] [] []⟩, ⟨212, Tryz.f212, cfX std [] [] [] []⟩, ⟨213, Tryz.f213, cfX std [] [] [] []⟩, ⟨214, Tryz.f214, cfX std [] [] [] []⟩, ⟨215, Tryz.f215, cfX std [8, 31, 34] [] [] []⟩, ⟨216, Tryz.f216, cfX std [8, 30, 39] [] [] []⟩, ⟨217, Tryz.f217, cfX std [5] [] [] []⟩, ⟨218, Tryz.f218, cfX std [5] [] [] []⟩, ⟨219, Tryz.f219, cfX std [5] [] [] []⟩, ⟨220, Tryz.f220, cfX std [19, 26] [] [] [(15, 0), (16, 0), (17, 0), (18, 0), (20, 0), (27, 0), (28, 0)]⟩, ⟨221, Tryz.f221, cfX std [] [] [] []⟩, ⟨222, Tryz.f222, cfX std [] [] [] []⟩, ⟨223, Tryz.f223, cfX std [] [] [] []⟩]
theorem tab13_ok : AllR tab13 := ⟨⟨Tryz.func208, okE _ _ _ _, tx208, fun _ => rfl⟩, ⟨Tryz.func209, okE _ _ _ _, tx209, fun _ => rfl⟩, ⟨Tryz.func210, okE _ _ _ _, tx210, fun _ => rfl⟩, ⟨Tryz.func211, okE _ _ _ _, tx211, fun _ => rfl⟩, ⟨Tryz.func212, okE _ _ _ _, tx212, fun _ => rfl⟩, ⟨Tryz.func213, okE _ _ _ _, tx213, fun _ => rfl⟩, ⟨Tryz.func214, okE _ _ _ _, tx214, fun _ => rfl⟩, ⟨Tryz.func215, okE _ _ _ _, tx215, fun _ => rfl⟩, ⟨Tryz.func216, okE _ _ _ _, tx216, fun _ => rfl⟩, ⟨Tryz.func217, okE _ _ _ _, tx217, fun _ => rfl⟩, ⟨Tryz.func218, okE _ _ _ _, tx218, fun _ => rfl⟩, ⟨Tryz.func219, okE _ _ _ _, tx219, fun _ => rfl⟩, ⟨Tryz.func220, okE _ _ _ _, tx220, fun _ => rfl⟩, ⟨Tryz.func221, okE _ _ _ _, tx221, fun _ => rfl⟩, ⟨Tryz.func222, okE _ _ _ _, tx222, fun _ => rfl⟩, ⟨Tryz.func223, okE _ _ _ _, tx223, fun _ => rfl⟩, trivial⟩
noncomputable def tab14 : List Row0 := [⟨224, Tryz.f224, cfX std [] [] [] []⟩, ⟨225, Tryz.f225, cfX std [] [] [] []⟩, ⟨226, Tryz.f226, cfX std [] [] [] []⟩, ⟨227, Tryz.f227, cfX std [] [] [] []⟩, ⟨228, Tryz.f228, cfX std [14, 16] [] [] []⟩, ⟨229, Tryz.f229, cfX std [] [] [] []⟩, ⟨230, Tryz.f230, cfX std [] [] [] []⟩, ⟨231, Tryz.f231, cfX std [] [] [] []⟩, ⟨232, Tryz.f232, cfX std [] [] [] []⟩, ⟨233, Tryz.f233, cfX std [] [] [] []⟩, ⟨234, Tryz.f234, cfX std [5] [] [] []⟩, ⟨235, Tryz.f235, cfX std [3, 10, 15] [] [] []⟩, ⟨236, Tryz.f236, cfX std [] [] [] [(3, 0), (13, 0), (14, 0), (21, 0), (27, 0), (33, 0), (39, 0)]⟩, ⟨237, Tryz.f237, cfX std [3, 7, 13, 19] [] [] []⟩, ⟨238, Tryz.f238, cfX std [] [] [] [(5, 0), (16, 0), (17, 0), (22, 0), (29, 0), (49, 0), (50, 0), (55, 0), (60, 0)]⟩, ⟨239, Tryz.f239, cfX std [] [] [] []⟩]
theorem tab14_ok : AllR tab14 := ⟨⟨Tryz.func224, okE _ _ _ _, tx224, fun _ => rfl⟩, ⟨Tryz.func225, okE _ _ _ _, tx225, fun _ => rfl⟩, ⟨Tryz.func226, okE _ _ _ _, tx226, fun _ => rfl⟩, ⟨Tryz.func227, okE _ _ _ _, tx227, fun _ => rfl⟩, ⟨Tryz.func228, okE _ _ _ _, tx228, fun _ => rfl⟩, ⟨Tryz.func229, okE _ _ _ _, tx229, fun _ => rfl⟩, ⟨Tryz.func230, okE _ _ _ _, tx230, fun _ => rfl⟩, ⟨Tryz.func231, okE _ _ _ _, tx231, fun _ => rfl⟩, ⟨Tryz.func232, okE _ _ _ _, tx232, fun _ => rfl⟩, ⟨Tryz.func233, okE _ _ _ _, tx233, fun _ => rfl⟩, ⟨Tryz.func234, okE _ _ _ _, tx234, fun _ => rfl⟩, ⟨Tryz.func235, okE _ _ _ _, tx235, fun _ => rfl⟩, ⟨Tryz.func236, okE _ _ _ _, tx236, fun _ => rfl⟩, ⟨Tryz.func237, okE _ _ _ _, tx237, fun _ => rfl⟩, ⟨Tryz.func238, okE _ _ _ _, tx238, fun _ => rfl⟩, ⟨Tryz.func239, okE _ _ _ _, tx239, fun _ => rfl⟩, trivial⟩
noncomputable def tab15 : List Row0 := [⟨240, Tryz.f240, cfX std [] [] [] []⟩, ⟨241, Tryz.f241, cfX std [] [] [] []⟩, ⟨242, Tryz.f242, cfX std [] [] [] []⟩, ⟨243, Tryz.f243, cfX std [] [] [] []⟩, ⟨244, Tryz.f244, cfX std [] [] [] []⟩, ⟨245, Tryz.f245, cfX std [] [] [] []⟩, ⟨246, Tryz.f246, cfX std [] [] [] []⟩, ⟨247, Tryz.f247, cfX std [] [] [] []⟩, ⟨248, Tryz.f248, cfX std [] [] [] []⟩, ⟨249, Tryz.f249, cfX std [] [] [] []⟩, ⟨250, Tryz.f250, cfX std [] [] [] []⟩, ⟨251, Tryz.f251, cfX std [3, 8, 12] [] [] []⟩, ⟨252, Tryz.f252, cfX std [] [] [] []⟩, ⟨253, Tryz.f253, cfX std [] [] [] []⟩, ⟨254, Tryz.f254, cfX std [2, 5] [] [] []⟩, ⟨255, Tryz.f255, cfX std [] [] [] []⟩]
theorem tab15_ok : AllR tab15 := ⟨⟨Tryz.func240, okE _ _ _ _, tx240, fun _ => rfl⟩, ⟨Tryz.func241, okE _ _ _ _, tx241, fun _ => rfl⟩, ⟨Tryz.func242, okE _ _ _ _, tx242, fun _ => rfl⟩, ⟨Tryz.func243, okE _ _ _ _, tx243, fun _ => rfl⟩, ⟨Tryz.func244, okE _ _ _ _, tx244, fun _ => rfl⟩, ⟨Tryz.func245, okE _ _ _ _, tx245, fun _ => rfl⟩, ⟨Tryz.func246, okE _ _ _ _, tx246, fun _ => rfl⟩, ⟨Tryz.func247, okE _ _ _ _, tx247, fun _ => rfl⟩, ⟨Tryz.func248, okE _ _ _ _, tx248, fun _ => rfl⟩, ⟨Tryz.func249, okE _ _ _ _, tx249, fun _ => rfl⟩, ⟨Tryz.func250, okE _ _ _ _, tx250, fun _ => rfl⟩, ⟨Tryz.func251, okE _ _ _ _, tx251, fun _ => rfl⟩, ⟨Tryz.func252, okE _ _ _ _, tx252, fun _ => rfl⟩, ⟨Tryz.func253, okE _ _ _ _, tx253, fun _ => rfl⟩, ⟨Tryz.func254, okE _ _ _ _, tx254, fun _ => rfl⟩, ⟨Tryz.func255, okE _ _ _ _, tx255, fun _ => rfl⟩, trivial⟩
noncomputable def tab16 : List Row0 := [⟨256, Tryz.f256, cfX std [] [] [] []⟩, ⟨257, Tryz.f257, cfX std [4, 5, 8, 24] [8] [24] []⟩, ⟨258, Tryz.f258, cfX std [] [] [] [(2, 0), (25, 1), (28, 1)]⟩, ⟨259, Tryz.f259, cfX std [] [] [] [(20, 1), (22, 1), (24, 4), (25, 4), (34, 1), (36, 1), (38, 1), (40, 1), (42, 1), (44, 4), (45, 4), (46, 4), (47, 4), (48, 4), (51, 1), (53, 1), (55, 1), (57, 4), (58, 4), (59, 4)]⟩, ⟨260, Tryz.f260, cfX std [] [] [] []⟩, ⟨261, Tryz.f261, cfX std [] [] [] []⟩, ⟨262, Tryz.f262, cfX std [] [] [] [(1, 0), (31, 8), (33, 8)]⟩, ⟨263, Tryz.f263, cfX std [] [] [] []⟩, ⟨264, Tryz.f264, cfX std [] [] [] []⟩, ⟨265, Tryz.f265, cfX std [] [] [] []⟩, ⟨266, Tryz.f266, cfX std [] [] [] [(12, 4), (20, 0), (26, 4), (31, 0), (32, 4)]⟩, ⟨267, Tryz.f267, cfX std [] [] [] []⟩, ⟨268, Tryz.f268, cfX std [] [] [] []⟩, ⟨269, Tryz.f269, cfX std [] [] [] []⟩, ⟨270, Tryz.f270, cfX std [] [] [] []⟩, ⟨271, Tryz.f271, cfX std [] [] [] []⟩]
theorem tab16_ok : AllR tab16 := ⟨⟨Tryz.func256, okE _ _ _ _, tx256, fun _ => rfl⟩, ⟨Tryz.func257, okE _ _ _ _, tx257, fun _ => rfl⟩, ⟨Tryz.func258, okE _ _ _ _, tx258, fun _ => rfl⟩, ⟨Tryz.func259, okE _ _ _ _, tx259, fun _ => rfl⟩, ⟨Tryz.func260, okE _ _ _ _, tx260, fun _ => rfl⟩, ⟨Tryz.func261, okE _ _ _ _, tx261, fun _ => rfl⟩, ⟨Tryz.func262, okE _ _ _ _, tx262, fun _ => rfl⟩, ⟨Tryz.func263, okE _ _ _ _, tx263, fun _ => rfl⟩, ⟨Tryz.func264, okE _ _ _ _, tx264, fun _ => rfl⟩, ⟨Tryz.func265, okE _ _ _ _, tx265, fun _ => rfl⟩, ⟨Tryz.func266, okE _ _ _ _, tx266, fun _ => rfl⟩, ⟨Tryz.func267, okE _ _ _ _, tx267, fun _ => rfl⟩, ⟨Tryz.func268, okE _ _ _ _, tx268, fun _ => rfl⟩, ⟨Tryz.func269, okE _ _ _ _, tx269, fun _ => rfl⟩, ⟨Tryz.func270, okE _ _ _ _, tx270, fun _ => rfl⟩, ⟨Tryz.func271, okE _ _ _ _, tx271, fun _ => rfl⟩, trivial⟩
noncomputable def tab17 : List Row0 := [⟨272, Tryz.f272, cfX std [] [] [] []⟩, ⟨273, Tryz.f273, cfX std [] [] [] []⟩, ⟨274, Tryz.f274, cfX std [] [] [] [(20, 0), (24, 0)]⟩, ⟨275, Tryz.f275, cfX std [] [] [] [(16, 4), (21, 4), (26, 0), (27, 4), (28, 4), (31, 0), (35, 1), (42, 4)]⟩, ⟨276, Tryz.f276, cfX std [] [] [] [(45, 1), (53, 4), (54, 4), (58, 1), (66, 4), (67, 4), (71, 1), (78, 4)]⟩, ⟨277, Tryz.f277, cfX std [] [] [] []⟩, ⟨278, Tryz.f278, cfX std [] [] [] []⟩, ⟨279, Tryz.f279, cfX std [] [] [] []⟩, ⟨280, Tryz.f280, cfX std [] [] [] []⟩, ⟨281, Tryz.f281, cfX std [] [] [] []⟩, ⟨282, Tryz.f282, cfX std [] [] [] []⟩, ⟨283, Tryz.f283, cfX std [] [] [] []⟩, ⟨284, Tryz.f284, cfX std [] [] [] [(5, 0), (6, 0), (7, 0), (8, 0), (9, 0), (11, 0), (12, 0), (13, 0), (14, 0)]⟩, ⟨285, Tryz.f285, cfX std [] [] [] []⟩, ⟨286, Tryz.f286, cfX std [] [] [] []⟩, ⟨287, Tryz.f287, cfX std [8, 36, 39] [] [] []⟩]
theorem tab17_ok : AllR tab17 := ⟨⟨Tryz.func272, okE _ _ _ _, tx272, fun _ => rfl⟩, ⟨Tryz.func273, okE _ _ _ _, tx273, fun _ => rfl⟩, ⟨Tryz.func274, okE _ _ _ _, tx274, fun _ => rfl⟩, ⟨Tryz.func275, okE _ _ _ _, tx275, fun _ => rfl⟩, ⟨Tryz.func276, okE _ _ _ _, tx276, fun _ => rfl⟩, ⟨Tryz.func277, okE _ _ _ _, tx277, fun _ => rfl⟩, ⟨Tryz.func278, okE _ _ _ _, tx278, fun _ => rfl⟩, ⟨Tryz.func279, okE _ _ _ _, tx279, fun _ => rfl⟩, ⟨Tryz.func280, okE _ _ _ _, tx280, fun _ => rfl⟩, ⟨Tryz.func281, okE _ _ _ _, tx281, fun _ => rfl⟩, ⟨Tryz.func282, okE _ _ _ _, tx282, fun _ => rfl⟩, ⟨Tryz.func283, okE _ _ _ _, tx283, fun _ => rfl⟩, ⟨Tryz.func284, okE _ _ _ _, tx284, fun _ => rfl⟩, ⟨Tryz.func285, okE _ _ _ _, tx285, fun _ => rfl⟩, ⟨Tryz.func286, okE _ _ _ _, tx286, fun _ => rfl⟩, ⟨Tryz.func287, okE _ _ _ _, tx287, fun _ => rfl⟩, trivial⟩
noncomputable def tab18 : List Row0 := [⟨288, Tryz.f288, cfX std [] [] [] []⟩, ⟨289, Tryz.f289, cfX std [] [] [] []⟩, ⟨290, Tryz.f290, cfX std [] [] [] []⟩, ⟨291, Tryz.f291, cfX std [8, 31, 34] [] [] []⟩, ⟨292, Tryz.f292, cfX std [8, 37, 40] [] [] []⟩, ⟨293, Tryz.f293, cfX std [] [] [] []⟩, ⟨294, Tryz.f294, cfX std [] [] [] []⟩, ⟨295, Tryz.f295, cfX std [] [] [] []⟩, ⟨296, Tryz.f296, cfX std [] [] [] []⟩, ⟨297, Tryz.f297, cfX std [] [] [] []⟩, ⟨298, Tryz.f298, cfX std [] [] [] []⟩, ⟨299, Tryz.f299, cfX std [] [] [] []⟩, ⟨300, Tryz.f300, cfX std [] [] [] []⟩, ⟨301, Tryz.f301, cfX std [] [] [] []⟩, ⟨302, Tryz.f302, cfX std [] [] [] []⟩, ⟨303, Tryz.f303, cfX std [] [] [] []⟩]
theorem tab18_ok : AllR tab18 := ⟨⟨Tryz.func288, okE _ _ _ _, tx288, fun _ => rfl⟩, ⟨Tryz.func289, okE _ _ _ _, tx289, fun _ => rfl⟩, ⟨Tryz.func290, okE _ _ _ _, tx290, fun _ => rfl⟩, ⟨Tryz.func291, okE _ _ _ _, tx291, fun _ => rfl⟩, ⟨Tryz.func292, okE _ _ _ _, tx292, fun _ => rfl⟩, ⟨Tryz.func293, okE _ _ _ _, tx293, fun _ => rfl⟩, ⟨Tryz.func294, okE _ _ _ _, tx294, fun _ => rfl⟩, ⟨Tryz.func295, okE _ _ _ _, tx295, fun _ => rfl⟩, ⟨Tryz.func296, okE _ _ _ _, tx296, fun _ => rfl⟩, ⟨Tryz.func297, okE _ _ _ _, tx297, fun _ => rfl⟩, ⟨Tryz.func298, okE _ _ _ _, tx298, fun _ => rfl⟩, ⟨Tryz.func299, okE _ _ _ _, tx299, fun _ => rfl⟩, ⟨Tryz.func300, okE _ _ _ _, tx300, fun _ => rfl⟩, ⟨Tryz.func301, okE _ _ _ _, tx301, fun _ => rfl⟩, ⟨Tryz.func302, okE _ _ _ _, tx302, fun _ => rfl⟩, ⟨Tryz.func303, okE _ _ _ _, tx303, fun _ => rfl⟩, trivial⟩
noncomputable def tab19 : List Row0 := [⟨304, Tryz.f304, cfX std [] [] [] []⟩, ⟨305, Tryz.f305, cfX std [3, 8, 12] [] [] []⟩, ⟨306, Tryz.f306, cfX std [] [] [] []⟩, ⟨307, Tryz.f307, cfX std [4, 5, 10, 19, 25, 34] [] [] []⟩, ⟨308, Tryz.f308, cfX std [8, 11] [] [] [(7, 0), (9, 0), (12, 0)]⟩, ⟨309, Tryz.f309, cfX std [] [] [] [(2, 0), (7, 1), (9, 1), (11, 1), (13, 1), (17, 1), (20, 1), (24, 1)]⟩, ⟨310, Tryz.f310, cfX std [] [] [] []⟩, ⟨311, Tryz.f311, cfX std [] [] [] []⟩, ⟨312, Tryz.f312, cfX std [] [] [] []⟩, ⟨313, Tryz.f313, cfX std [] [] [] []⟩, ⟨314, Tryz.f314, cfX std [] [] [] []⟩, ⟨315, Tryz.f315, cfX std [] [] [] []⟩, ⟨316, Tryz.f316, cfX std [] [] [] [(19, 0), (25, 4), (29, 0), (35, 4)]⟩, ⟨317, Tryz.f317, cfX std [] [] [] []⟩, ⟨318, Tryz.f318, cfX std [] [] [] []⟩, ⟨319, Tryz.f319, cfX std [] [] [] []⟩]
theorem tab19_ok : AllR tab19 := ⟨⟨Tryz.func304, okE _ _ _ _, tx304, fun _ => rfl⟩, ⟨Tryz.func305, okE _ _ _ _, tx305, fun _ => rfl⟩, ⟨Tryz.func306, okE _ _ _ _, tx306, fun _ => rfl⟩, ⟨Tryz.func307, okE _ _ _ _, tx307, fun _ => rfl⟩, ⟨Tryz.func308, okE _ _ _ _, tx308, fun _ => rfl⟩, ⟨Tryz.func309, okE _ _ _ _, tx309, fun _ => rfl⟩, ⟨Tryz.func310, okE _ _ _ _, tx310, fun _ => rfl⟩, ⟨Tryz.func311, okE _ _ _ _, tx311, fun _ => rfl⟩, ⟨Tryz.func312, okE _ _ _ _, tx312, fun _ => rfl⟩, ⟨Tryz.func313, okE _ _ _ _, tx313, fun _ => rfl⟩, ⟨Tryz.func314, okE _ _ _ _, tx314, fun _ => rfl⟩, ⟨Tryz.func315, okE _ _ _ _, tx315, fun _ => rfl⟩, ⟨Tryz.func316, okE _ _ _ _, tx316, fun _ => rfl⟩, ⟨Tryz.func317, okE _ _ _ _, tx317, fun _ => rfl⟩, ⟨Tryz.func318, okE _ _ _ _, tx318, fun _ => rfl⟩, ⟨Tryz.func319, okE _ _ _ _, tx319, fun _ => rfl⟩, trivial⟩
noncomputable def tab20 : List Row0 := [⟨320, Tryz.f320, cfX std [] [] [] []⟩, ⟨321, Tryz.f321, cfX std [] [] [] []⟩, ⟨322, Tryz.f322, cfX std [] [] [] []⟩, ⟨323, Tryz.f323, cfX std [] [] [] [(23, 1), (25, 1), (27, 1), (29, 1), (31, 3), (32, 3), (33, 3), (34, 3), (37, 1), (39, 1), (41, 1), (43, 1), (45, 1), (47, 3), (48, 3), (49, 3), (50, 3), (51, 3), (54, 1), (56, 1), (58, 1), (60, 1), (62, 3), (63, 3), (64, 3), (65, 3), (68, 1), (70, 1), (72, 1), (74, 1), (76, 3), (77, 3), (78, 3), (79, 3)]⟩, ⟨324, Tryz.f324, cfX std [] [] [] []⟩, ⟨325, Tryz.f325, cfX std [] [] [] [(39, 4), (44, 4), (49, 0), (50, 4), (51, 4), (54, 0), (58, 1), (65, 4)]⟩, ⟨326, Tryz.f326, cfX std [] [] [] []⟩, ⟨327, Tryz.f327, cfX std [] [] [] []⟩, ⟨328, Tryz.f328, cfX std [] [] [] []⟩, ⟨329, Tryz.f329, cfX std [] [] [] []⟩, ⟨330, Tryz.f330, cfX std [] [] [] []⟩, ⟨331, Tryz.f331, cfX std [3, 8, 23] [] [] []⟩, ⟨332, Tryz.f332, cfX std [3, 8, 22] [] [] []⟩, ⟨333, Tryz.f333, cfX std [] [] [] []⟩, ⟨334, Tryz.f334, cfX std [] [] [] []⟩, ⟨335, Tryz.f335, cfX std [] [] [] []⟩]
theorem tab20_ok : AllR tab20 := ⟨⟨Tryz.func320, okE _ _ _ _, tx320, fun _ => rfl⟩, ⟨Tryz.func321, okE _ _ _ _, tx321, fun _ => rfl⟩, ⟨Tryz.func322, okE _ _ _ _, tx322, fun _ => rfl⟩, ⟨Tryz.func323, okE _ _ _ _, tx323, fun _ => rfl⟩, ⟨Tryz.func324, okE _ _ _ _, tx324, fun _ => rfl⟩, ⟨Tryz.func325, okE _ _ _ _, tx325, fun _ => rfl⟩, ⟨Tryz.func326, okE _ _ _ _, tx326, fun _ => rfl⟩, ⟨Tryz.func327, okE _ _ _ _, tx327, fun _ => rfl⟩, ⟨Tryz.func328, okE _ _ _ _, tx328, fun _ => rfl⟩, ⟨Tryz.func329, okE _ _ _ _, tx329, fun _ => rfl⟩, ⟨Tryz.func330, okE _ _ _ _, tx330, fun _ => rfl⟩, ⟨Tryz.func331, okE _ _ _ _, tx331, fun _ => rfl⟩, ⟨Tryz.func332, okE _ _ _ _, tx332, fun _ => rfl⟩, ⟨Tryz.func333, okE _ _ _ _, tx333, fun _ => rfl⟩, ⟨Tryz.func334, okE _ _ _ _, tx334, fun _ => rfl⟩, ⟨Tryz.func335, okE _ _ _ _, tx335, fun _ => rfl⟩, trivial⟩
noncomputable def tab21 : List Row0 := [⟨336, Tryz.f336, cfX std [] [] [] []⟩, ⟨337, Tryz.f337, cfX std [] [] [] [(14, 6), (16, 0), (20, 6), (26, 0), (27, 6), (32, 0), (36, 0), (42, 6)]⟩, ⟨338, Tryz.f338, cfX std [] [] [] [(12, 4), (18, 4), (23, 0), (24, 4), (29, 0), (33, 0), (39, 4)]⟩, ⟨339, Tryz.f339, cfX std [] [] [] []⟩, ⟨340, Tryz.f340, cfX std [] [] [] [(11, 1), (13, 1), (15, 1), (17, 3), (18, 3), (19, 3), (22, 1), (24, 1), (26, 3), (27, 3), (30, 1), (32, 1), (34, 1), (36, 3), (37, 3), (38, 3), (46, 1), (48, 1), (50, 3), (51, 3)]⟩, ⟨341, Tryz.f341, cfX std [] [] [] []⟩, ⟨342, Tryz.f342, cfX std [] [] [] []⟩, ⟨343, Tryz.f343, cfX std [] [] [] []⟩, ⟨344, Tryz.f344, cfX std [] [] [] []⟩, ⟨345, Tryz.f345, cfX std [] [] [] []⟩, ⟨346, Tryz.f346, cfX std [] [] [] []⟩, ⟨347, Tryz.f347, cfX std [] [] [] []⟩, ⟨348, Tryz.f348, cfX std [] [] [] []⟩, ⟨349, Tryz.f349, cfX std [] [4] [] []⟩, ⟨350, Tryz.f350, cfX std [] [] [] []⟩, ⟨351, Tryz.f351, cfX std [] [] [] []⟩]
theorem tab21_ok : AllR tab21 := ⟨⟨Tryz.func336, okE _ _ _ _, tx336, fun _ => rfl⟩, ⟨Tryz.func337, okE _ _ _ _, tx337, fun _ => rfl⟩, ⟨Tryz.func338, okE _ _ _ _, tx338, fun _ => rfl⟩, ⟨Tryz.func339, okE _ _ _ _, tx339, fun _ => rfl⟩, ⟨Tryz.func340, okE _ _ _ _, tx340, fun _ => rfl⟩, ⟨Tryz.func341, okE _ _ _ _, tx341, fun _ => rfl⟩, ⟨Tryz.func342, okE _ _ _ _, tx342, fun _ => rfl⟩, ⟨Tryz.func343, okE _ _ _ _, tx343, fun _ => rfl⟩, ⟨Tryz.func344, okE _ _ _ _, tx344, fun _ => rfl⟩, ⟨Tryz.func345, okE _ _ _ _, tx345, fun _ => rfl⟩, ⟨Tryz.func346, okE _ _ _ _, tx346, fun _ => rfl⟩, ⟨Tryz.func347, okE _ _ _ _, tx347, fun _ => rfl⟩, ⟨Tryz.func348, okE _ _ _ _, tx348, fun _ => rfl⟩, ⟨Tryz.func349, okE _ _ _ _, tx349, fun _ => rfl⟩, ⟨Tryz.func350, okE _ _ _ _, tx350, fun _ => rfl⟩, ⟨Tryz.func351, okE _ _ _ _, tx351, fun _ => rfl⟩, trivial⟩
noncomputable def tab22 : List Row0 := [⟨352, Tryz.f352, cfX std [] [] [] []⟩, ⟨353, Tryz.f353, cfX std [] [] [] []⟩, ⟨354, Tryz.f354, cfX std [] [] [] []⟩, ⟨355, Tryz.f355, cfX std [] [] [] []⟩, ⟨356, Tryz.f356, cfX std [] [] [] []⟩, ⟨357, Tryz.f357, cfX std [] [] [] []⟩, ⟨358, Tryz.f358, cfX std [] [] [] []⟩, ⟨359, Tryz.f359, cfX std [] [] [] []⟩, ⟨360, Tryz.f360, cfX std [] [] [] []⟩, ⟨361, Tryz.f361, cfX std [] [] [] []⟩, ⟨362, Tryz.f362, cfX std [] [] [] []⟩, ⟨363, Tryz.f363, cfX std [] [] [] []⟩, ⟨364, Tryz.f364, cfX std [] [] [] []⟩, ⟨365, Tryz.f365, cfX std [] [] [] []⟩, ⟨366, Tryz.f366, cfX std [] [] [] []⟩, ⟨367, Tryz.f367, cfX std [] [] [] []⟩]
theorem tab22_ok : AllR tab22 := ⟨⟨Tryz.func352, okE _ _ _ _, tx352, fun _ => rfl⟩, ⟨Tryz.func353, okE _ _ _ _, tx353, fun _ => rfl⟩, ⟨Tryz.func354, okE _ _ _ _, tx354, fun _ => rfl⟩, ⟨Tryz.func355, okE _ _ _ _, tx355, fun _ => rfl⟩, ⟨Tryz.func356, okE _ _ _ _, tx356, fun _ => rfl⟩, ⟨Tryz.func357, okE _ _ _ _, tx357, fun _ => rfl⟩, ⟨Tryz.func358, okE _ _ _ _, tx358, fun _ => rfl⟩, ⟨Tryz.func359, okE _ _ _ _, tx359, fun _ => rfl⟩, ⟨Tryz.func360, okE _ _ _ _, tx360, fun _ => rfl⟩, ⟨Tryz.func361, okE _ _ _ _, tx361, fun _ => rfl⟩, ⟨Tryz.func362, okE _ _ _ _, tx362, fun _ => rfl⟩, ⟨Tryz.func363, okE _ _ _ _, tx363, fun _ => rfl⟩, ⟨Tryz.func364, okE _ _ _ _, tx364, fun _ => rfl⟩, ⟨Tryz.func365, okE _ _ _ _, tx365, fun _ => rfl⟩, ⟨Tryz.func366, okE _ _ _ _, tx366, fun _ => rfl⟩, ⟨Tryz.func367, okE _ _ _ _, tx367, fun _ => rfl⟩, trivial⟩
noncomputable def tab23 : List Row0 := [⟨368, Tryz.f368, cfX std [] [] [] []⟩, ⟨369, Tryz.f369, cfX std [] [] [] []⟩, ⟨370, Tryz.f370, cfX std [] [] [] []⟩, ⟨371, Tryz.f371, cfX std [] [] [] []⟩, ⟨372, Tryz.f372, cfX std [] [] [] []⟩, ⟨373, Tryz.f373, cfX std [] [] [] []⟩, ⟨374, Tryz.f374, cfX std [] [] [] []⟩]
theorem tab23_ok : AllR tab23 := ⟨⟨Tryz.func368, okE _ _ _ _, tx368, fun _ => rfl⟩, ⟨Tryz.func369, okE _ _ _ _, tx369, fun _ => rfl⟩, ⟨Tryz.func370, okE _ _ _ _, tx370, fun _ => rfl⟩, ⟨Tryz.func371, okE _ _ _ _, tx371, fun _ => rfl⟩, ⟨Tryz.func372, okE _ _ _ _, tx372, fun _ => rfl⟩, ⟨Tryz.func373, okE _ _ _ _, tx373, fun _ => rfl⟩, ⟨Tryz.func374, okE _ _ _ _, tx374, fun _ => rfl⟩, trivial⟩
noncomputable def tabs : List (List Row0) := [tab0, tab1, tab2, tab3, tab4, tab5, tab6, tab7, tab8, tab9, tab10, tab11, tab12, tab13, tab14, tab15, tab16, tab17, tab18, tab19, tab20, tab21, tab22, tab23]
theorem tabs_ok : AllRR tabs := ⟨tab0_ok, tab1_ok, tab2_ok, tab3_ok, tab4_ok, tab5_ok, tab6_ok, tab7_ok, tab8_ok, tab9_ok, tab10_ok, tab11_ok, tab12_ok, tab13_ok, tab14_ok, tab15_ok, tab16_ok, tab17_ok, tab18_ok, tab19_ok, tab20_ok, tab21_ok, tab22_ok, tab23_ok, trivial⟩
/-- A function and its configuration. -/
noncomputable def rowOf (f : Nat) : Option Row0 := findR f (nthR tabs (Nat.div f 16))
theorem rowOf_ok {f : Nat} {x : Row0} (h : rowOf f = some x) : x.f = f ∧ RowOk x := findR_ok (nthR_ok _ tabs_ok) h
noncomputable def fns0 (f : Nat) : Option Func := match rowOf f with | some x => some x.fn | none => none
noncomputable def cf0 (f : Nat) : Cf := match rowOf f with | some x => x.C | none => C0 std
theorem row_fn {pb : Nat → List AV → St → Bool} (hp : ∀ f, PbOk (cf0 f) pb) (f : Nat) (fn : Func) (hf : fns0 f = some fn) : FnOk Tryz.prog pb (cf0 f) f fn := by
  unfold fns0 at hf
  split at hf
  · next x hx =>
    cases hf
    obtain ⟨h1, h2, h3, h4, _⟩ := rowOf_ok hx
    have hc : cf0 f = x.C := by unfold cf0; rw [hx]
    obtain ⟨h5, h6⟩ := and2 h4
    refine ⟨hp f, by rw [← h1]; exact h2, by rw [hc]; exact h3, by simpa using h5, fun c hcc => ?_⟩
    rw [hcc] at h6
    rw [hc]
    exact h6
  · cases hf
/-- The rule of use with a row of the table. -/
theorem use_row {f : Nat} {fn : Func} {C : Cf} {c : Code} {args : List AV} {st : St} {R : AV → St → Prop} (hf : Tryz.prog.funcs[f]? = some fn) (hC : Ok Tryz.prog C) (hk : bodyOk C fn = true) (hb : fn.body = some c) (hn : args.length ≤ fn.ntmps)
    (hv : ∀ R' : AV → St → Prop, (∀ r st, R r st → R' r st) → vfun Tryz.prog C fn args st R') : VCalls Tryz.prog f args st R := by
  obtain ⟨h1, h2⟩ := and2 hk
  rw [hb] at h2
  exact VCalls.use hC hf hb (by simpa using h1) hn (codeAll_ok h2) hv
def noK : Run := fun _ _ _ => none
theorem noK_ok {P : Program} : RunOk P noK := fun _ _ _ _ _ h => by cases h
def noPb : Nat → List AV → St → Bool := fun _ _ _ => false
theorem cf0_pf (f g : Nat) : (cf0 f).pf g = none := by
  unfold cf0
  split
  · next x hx => exact (rowOf_ok hx).2.2.2.2 g
  · rfl
theorem pb0_ok (pb : Nat → List AV → St → Bool) (f : Nat) : PbOk (cf0 f) pb := fun g p h => by rw [cf0_pf] at h; cases h
theorem noPb_ok (f : Nat) : PbOk (cf0 f) noPb := fun _ _ _ _ _ h => (by cases h)
end Go.V
