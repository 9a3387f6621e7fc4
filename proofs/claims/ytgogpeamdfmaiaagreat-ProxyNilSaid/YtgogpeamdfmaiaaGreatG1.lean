/- The types of this translation, as a table. Printed by a program (wip/Tab.lean). -/
import Derived.Test.YtgogpeamdfmaiaaGreatVA
import Derived.Test.YtgogpeamdfmaiaaGreatProg
set_option linter.unusedVariables false
set_option linter.unusedSimpArgs false
namespace Go.V
def ti (t : Nat) : Option TInfo :=
  match Nat.blt t 218 with
  | true =>
   match Nat.blt t 107 with
   | true =>
    match Nat.blt t 49 with
    | true =>
     match Nat.blt t 25 with
     | true =>
      match Nat.blt t 12 with
      | true =>
       match Nat.blt t 6 with
       | true =>
        match Nat.blt t 3 with
        | true =>
         match Nat.blt t 2 with
         | true =>
          match Nat.beq t 1 with | true => some ⟨false, 1, 8, .func, .nilfn, false⟩ | false => none
         | false =>
          match Nat.beq t 2 with | true => some ⟨false, 1, 8, .int .i64, .int .i64 0, false⟩ | false => none
        | false =>
         match Nat.blt t 4 with
         | true =>
          match Nat.beq t 3 with | true => some ⟨false, 1, 8, .int .i64, .int .i64 0, false⟩ | false => none
         | false =>
          match Nat.blt t 5 with
          | true =>
           match Nat.beq t 4 with | true => some ⟨false, 1, 1, .bool, .bool false, false⟩ | false => none
          | false =>
           match Nat.beq t 5 with | true => some ⟨false, 1, 1, .int .u8, .int .u8 0, false⟩ | false => none
       | false =>
        match Nat.blt t 9 with
        | true =>
         match Nat.blt t 7 with
         | true =>
          match Nat.beq t 6 with | true => some ⟨false, 1, 1, .int .u8, .int .u8 0, false⟩ | false => none
         | false =>
          match Nat.blt t 8 with
          | true =>
           match Nat.beq t 7 with | true => some ⟨true, 4, 24, .struct [(2, 0), (3, 1), (4, 2), (6, 3)], .agg [.int .i64 0, .int .i64 0, .bool false, .int .u8 0], true⟩ | false => none
          | false =>
           match Nat.beq t 8 with | true => some ⟨true, 4, 24, .struct [(2, 0), (3, 1), (4, 2), (6, 3)], .agg [.int .i64 0, .int .i64 0, .bool false, .int .u8 0], true⟩ | false => none
        | false =>
         match Nat.blt t 10 with
         | true =>
          match Nat.beq t 9 with | true => some ⟨false, 1, 16, .str, .str [], false⟩ | false => none
         | false =>
          match Nat.blt t 11 with
          | true =>
           match Nat.beq t 10 with | true => some ⟨false, 1, 16, .str, .str [], false⟩ | false => none
          | false =>
           match Nat.beq t 11 with | true => some ⟨false, 1, 16, .str, .str [], false⟩ | false => none
      | false =>
       match Nat.blt t 18 with
       | true =>
        match Nat.blt t 15 with
        | true =>
         match Nat.blt t 13 with
         | true =>
          match Nat.beq t 12 with | true => some ⟨false, 1, 8, .int .u64, .int .u64 0, false⟩ | false => none
         | false =>
          match Nat.blt t 14 with
          | true =>
           match Nat.beq t 13 with | true => some ⟨true, 2, 24, .struct [(9, 0), (12, 1)], .agg [.str [], .int .u64 0], false⟩ | false => none
          | false =>
           match Nat.beq t 14 with | true => some ⟨true, 2, 24, .struct [(9, 0), (12, 1)], .agg [.str [], .int .u64 0], false⟩ | false => none
        | false =>
         match Nat.blt t 16 with
         | true =>
          match Nat.beq t 15 with | true => some ⟨false, 1, 8, .ptr, .nilp, false⟩ | false => none
         | false =>
          match Nat.blt t 17 with
          | true =>
           match Nat.beq t 16 with | true => some ⟨false, 1, 8, .ptr, .nilp, false⟩ | false => none
          | false =>
           match Nat.beq t 17 with | true => some ⟨false, 1, 8, .ptr, .nilp, false⟩ | false => none
       | false =>
        match Nat.blt t 22 with
        | true =>
         match Nat.blt t 19 with
         | true =>
          match Nat.beq t 18 with | true => some ⟨true, 1, 8, .struct [(17, 0)], .agg [.nilp], false⟩ | false => none
         | false =>
          match Nat.blt t 21 with
          | true =>
           match Nat.beq t 19 with | true => some ⟨true, 1, 8, .struct [(17, 0)], .agg [.nilp], false⟩ | false => none
          | false =>
           match Nat.beq t 21 with | true => some ⟨false, 1, 4, .int .i32, .int .i32 0, false⟩ | false => none
        | false =>
         match Nat.blt t 23 with
         | true =>
          match Nat.beq t 22 with | true => some ⟨false, 1, 24, .slice 285, .sl true 3 [], false⟩ | false => none
         | false =>
          match Nat.blt t 24 with
          | true =>
           match Nat.beq t 23 with | true => some ⟨false, 1, 24, .slice 5, .sl true 1 [], false⟩ | false => none
          | false =>
           match Nat.beq t 24 with | true => some ⟨true, 3, 40, .struct [(2, 0), (2, 1), (23, 2)], .agg [.int .i64 0, .int .i64 0, .sl true 1 []], false⟩ | false => none
     | false =>
      match Nat.blt t 37 with
      | true =>
       match Nat.blt t 31 with
       | true =>
        match Nat.blt t 28 with
        | true =>
         match Nat.blt t 26 with
         | true =>
          match Nat.beq t 25 with | true => some ⟨true, 3, 40, .struct [(2, 0), (2, 1), (23, 2)], .agg [.int .i64 0, .int .i64 0, .sl true 1 []], false⟩ | false => none
         | false =>
          match Nat.blt t 27 with
          | true =>
           match Nat.beq t 26 with | true => some ⟨true, 13, 136, .struct [(3, 0), (3, 1), (3, 2), (2, 3), (2, 4), (2, 5), (2, 6), (2, 7), (4, 8), (22, 9), (25, 10)], .agg [.int .i64 0, .int .i64 0, .int .i64 0, .int .i64 0, .int .i64 0, .int .i64 0, .int .i64 0, .int .i64 0, .bool false, .sl true 3 [], .int .i64 0, .int .i64 0, .sl true 1 []], false⟩ | false => none
          | false =>
           match Nat.beq t 27 with | true => some ⟨true, 13, 136, .struct [(3, 0), (3, 1), (3, 2), (2, 3), (2, 4), (2, 5), (2, 6), (2, 7), (4, 8), (22, 9), (25, 10)], .agg [.int .i64 0, .int .i64 0, .int .i64 0, .int .i64 0, .int .i64 0, .int .i64 0, .int .i64 0, .int .i64 0, .bool false, .sl true 3 [], .int .i64 0, .int .i64 0, .sl true 1 []], false⟩ | false => none
        | false =>
         match Nat.blt t 29 with
         | true =>
          match Nat.beq t 28 with | true => some ⟨false, 1, 24, .slice 237, .sl true 5 [], false⟩ | false => none
         | false =>
          match Nat.blt t 30 with
          | true =>
           match Nat.beq t 29 with | true => some ⟨false, 1, 24, .slice 240, .sl true 5 [], false⟩ | false => none
          | false =>
           match Nat.beq t 30 with | true => some ⟨false, 1, 24, .slice 164, .sl true 8 [], false⟩ | false => none
       | false =>
        match Nat.blt t 34 with
        | true =>
         match Nat.blt t 32 with
         | true =>
          match Nat.beq t 31 with | true => some ⟨false, 1, 24, .slice 180, .sl true 9 [], false⟩ | false => none
         | false =>
          match Nat.blt t 33 with
          | true =>
           match Nat.beq t 32 with | true => some ⟨false, 1, 24, .slice 255, .sl true 3 [], false⟩ | false => none
          | false =>
           match Nat.beq t 33 with | true => some ⟨true, 17, 256, .struct [(3, 0), (9, 1), (9, 2), (9, 3), (2, 4), (2, 5), (2, 6), (28, 7), (29, 8), (29, 9), (2, 10), (2, 11), (2, 12), (4, 13), (30, 14), (31, 15), (32, 16)], .agg [.int .i64 0, .str [], .str [], .str [], .int .i64 0, .int .i64 0, .int .i64 0, .sl true 5 [], .sl true 5 [], .sl true 5 [], .int .i64 0, .int .i64 0, .int .i64 0, .bool false, .sl true 8 [], .sl true 9 [], .sl true 3 []], false⟩ | false => none
        | false =>
         match Nat.blt t 35 with
         | true =>
          match Nat.beq t 34 with | true => some ⟨true, 17, 256, .struct [(3, 0), (9, 1), (9, 2), (9, 3), (2, 4), (2, 5), (2, 6), (28, 7), (29, 8), (29, 9), (2, 10), (2, 11), (2, 12), (4, 13), (30, 14), (31, 15), (32, 16)], .agg [.int .i64 0, .str [], .str [], .str [], .int .i64 0, .int .i64 0, .int .i64 0, .sl true 5 [], .sl true 5 [], .sl true 5 [], .int .i64 0, .int .i64 0, .int .i64 0, .bool false, .sl true 8 [], .sl true 9 [], .sl true 3 []], false⟩ | false => none
         | false =>
          match Nat.blt t 36 with
          | true =>
           match Nat.beq t 35 with | true => some ⟨true, 19, 272, .struct [(2, 0), (2, 1), (34, 2)], .agg [.int .i64 0, .int .i64 0, .int .i64 0, .str [], .str [], .str [], .int .i64 0, .int .i64 0, .int .i64 0, .sl true 5 [], .sl true 5 [], .sl true 5 [], .int .i64 0, .int .i64 0, .int .i64 0, .bool false, .sl true 8 [], .sl true 9 [], .sl true 3 []], false⟩ | false => none
          | false =>
           match Nat.beq t 36 with | true => some ⟨true, 19, 272, .struct [(2, 0), (2, 1), (34, 2)], .agg [.int .i64 0, .int .i64 0, .int .i64 0, .str [], .str [], .str [], .int .i64 0, .int .i64 0, .int .i64 0, .sl true 5 [], .sl true 5 [], .sl true 5 [], .int .i64 0, .int .i64 0, .int .i64 0, .bool false, .sl true 8 [], .sl true 9 [], .sl true 3 []], false⟩ | false => none
      | false =>
       match Nat.blt t 43 with
       | true =>
        match Nat.blt t 40 with
        | true =>
         match Nat.blt t 38 with
         | true =>
          match Nat.beq t 37 with | true => some ⟨false, 1, 8, .int .i64, .int .i64 0, false⟩ | false => none
         | false =>
          match Nat.blt t 39 with
          | true =>
           match Nat.beq t 38 with | true => some ⟨true, 7, 72, .struct [(37, 0), (2, 1), (4, 2), (2, 3), (30, 4), (3, 5), (2, 6)], .agg [.int .i64 0, .int .i64 0, .bool false, .int .i64 0, .sl true 8 [], .int .i64 0, .int .i64 0], false⟩ | false => none
          | false =>
           match Nat.beq t 39 with | true => some ⟨true, 7, 72, .struct [(37, 0), (2, 1), (4, 2), (2, 3), (30, 4), (3, 5), (2, 6)], .agg [.int .i64 0, .int .i64 0, .bool false, .int .i64 0, .sl true 8 [], .int .i64 0, .int .i64 0], false⟩ | false => none
        | false =>
         match Nat.blt t 41 with
         | true =>
          match Nat.beq t 40 with | true => some ⟨false, 1, 24, .slice 152, .sl true 2 [], false⟩ | false => none
         | false =>
          match Nat.blt t 42 with
          | true =>
           match Nat.beq t 41 with | true => some ⟨true, 4, 64, .struct [(2, 0), (2, 1), (31, 2), (32, 3)], .agg [.int .i64 0, .int .i64 0, .sl true 9 [], .sl true 3 []], false⟩ | false => none
          | false =>
           match Nat.beq t 42 with | true => some ⟨true, 4, 64, .struct [(2, 0), (2, 1), (31, 2), (32, 3)], .agg [.int .i64 0, .int .i64 0, .sl true 9 [], .sl true 3 []], false⟩ | false => none
       | false =>
        match Nat.blt t 46 with
        | true =>
         match Nat.blt t 44 with
         | true =>
          match Nat.beq t 43 with | true => some ⟨true, 10, 104, .struct [(3, 0), (2, 1), (2, 2), (9, 3), (9, 4), (2, 5), (9, 6), (2, 7), (2, 8), (2, 9)], .agg [.int .i64 0, .int .i64 0, .int .i64 0, .str [], .str [], .int .i64 0, .str [], .int .i64 0, .int .i64 0, .int .i64 0], true⟩ | false => none
         | false =>
          match Nat.blt t 45 with
          | true =>
           match Nat.beq t 44 with | true => some ⟨true, 10, 104, .struct [(3, 0), (2, 1), (2, 2), (9, 3), (9, 4), (2, 5), (9, 6), (2, 7), (2, 8), (2, 9)], .agg [.int .i64 0, .int .i64 0, .int .i64 0, .str [], .str [], .int .i64 0, .str [], .int .i64 0, .int .i64 0, .int .i64 0], true⟩ | false => none
          | false =>
           match Nat.beq t 45 with | true => some ⟨true, 65, 792, .struct [(3, 0), (2, 1), (27, 2), (36, 15), (2, 34), (9, 35), (9, 36), (2, 37), (3, 38), (37, 39), (3, 40), (39, 41), (40, 48), (30, 49), (4, 50), (42, 51), (44, 55)], .agg [.int .i64 0, .int .i64 0, .int .i64 0, .int .i64 0, .int .i64 0, .int .i64 0, .int .i64 0, .int .i64 0, .int .i64 0, .int .i64 0, .bool false, .sl true 3 [], .int .i64 0, .int .i64 0, .sl true 1 [], .int .i64 0, .int .i64 0, .int .i64 0, .str [], .str [], .str [], .int .i64 0, .int .i64 0, .int .i64 0, .sl true 5 [], .sl true 5 [], .sl true 5 [], .int .i64 0, .int .i64 0, .int .i64 0, .bool false, .sl true 8 [], .sl true 9 [], .sl true 3 [], .int .i64 0, .str [], .str [], .int .i64 0, .int .i64 0, .int .i64 0, .int .i64 0, .int .i64 0, .int .i64 0, .bool false, .int .i64 0, .sl true 8 [], .int .i64 0, .int .i64 0, .sl true 2 [], .sl true 8 [], .bool false, .int .i64 0, .int .i64 0, .sl true 9 [], .sl true 3 [], .int .i64 0, .int .i64 0, .int .i64 0, .str [], .str [], .int .i64 0, .str [], .int .i64 0, .int .i64 0, .int .i64 0], false⟩ | false => none
        | false =>
         match Nat.blt t 47 with
         | true =>
          match Nat.beq t 46 with | true => some ⟨true, 65, 792, .struct [(3, 0), (2, 1), (27, 2), (36, 15), (2, 34), (9, 35), (9, 36), (2, 37), (3, 38), (37, 39), (3, 40), (39, 41), (40, 48), (30, 49), (4, 50), (42, 51), (44, 55)], .agg [.int .i64 0, .int .i64 0, .int .i64 0, .int .i64 0, .int .i64 0, .int .i64 0, .int .i64 0, .int .i64 0, .int .i64 0, .int .i64 0, .bool false, .sl true 3 [], .int .i64 0, .int .i64 0, .sl true 1 [], .int .i64 0, .int .i64 0, .int .i64 0, .str [], .str [], .str [], .int .i64 0, .int .i64 0, .int .i64 0, .sl true 5 [], .sl true 5 [], .sl true 5 [], .int .i64 0, .int .i64 0, .int .i64 0, .bool false, .sl true 8 [], .sl true 9 [], .sl true 3 [], .int .i64 0, .str [], .str [], .int .i64 0, .int .i64 0, .int .i64 0, .int .i64 0, .int .i64 0, .int .i64 0, .bool false, .int .i64 0, .sl true 8 [], .int .i64 0, .int .i64 0, .sl true 2 [], .sl true 8 [], .bool false, .int .i64 0, .int .i64 0, .sl true 9 [], .sl true 3 [], .int .i64 0, .int .i64 0, .int .i64 0, .str [], .str [], .int .i64 0, .str [], .int .i64 0, .int .i64 0, .int .i64 0], false⟩ | false => none
         | false =>
          match Nat.blt t 48 with
          | true =>
           match Nat.beq t 47 with | true => some ⟨false, 1, 8, .func, .nilfn, false⟩ | false => none
          | false =>
           match Nat.beq t 48 with | true => some ⟨false, 1, 8, .func, .nilfn, false⟩ | false => none
    | false =>
     match Nat.blt t 77 with
     | true =>
      match Nat.blt t 64 with
      | true =>
       match Nat.blt t 56 with
       | true =>
        match Nat.blt t 53 with
        | true =>
         match Nat.blt t 50 with
         | true =>
          match Nat.beq t 49 with | true => some ⟨false, 1, 8, .func, .nilfn, false⟩ | false => none
         | false =>
          match Nat.blt t 52 with
          | true =>
           match Nat.beq t 50 with | true => some ⟨false, 1, 8, .ptr, .nilp, false⟩ | false => none
          | false =>
           match Nat.beq t 52 with | true => some ⟨false, 1, 8, .func, .nilfn, false⟩ | false => none
        | false =>
         match Nat.blt t 54 with
         | true =>
          match Nat.beq t 53 with | true => some ⟨true, 13, 136, .struct [(3, 0), (3, 1), (3, 2), (2, 3), (2, 4), (2, 5), (2, 6), (2, 7), (4, 8), (22, 9), (25, 10)], .agg [.int .i64 0, .int .i64 0, .int .i64 0, .int .i64 0, .int .i64 0, .int .i64 0, .int .i64 0, .int .i64 0, .bool false, .sl true 3 [], .int .i64 0, .int .i64 0, .sl true 1 []], false⟩ | false => none
         | false =>
          match Nat.blt t 55 with
          | true =>
           match Nat.beq t 54 with | true => some ⟨true, 19, 272, .struct [(2, 0), (2, 1), (34, 2)], .agg [.int .i64 0, .int .i64 0, .int .i64 0, .str [], .str [], .str [], .int .i64 0, .int .i64 0, .int .i64 0, .sl true 5 [], .sl true 5 [], .sl true 5 [], .int .i64 0, .int .i64 0, .int .i64 0, .bool false, .sl true 8 [], .sl true 9 [], .sl true 3 []], false⟩ | false => none
          | false =>
           match Nat.beq t 55 with | true => some ⟨true, 65, 792, .struct [(3, 0), (2, 1), (53, 2), (54, 15), (2, 34), (9, 35), (9, 36), (2, 37), (3, 38), (37, 39), (3, 40), (39, 41), (40, 48), (30, 49), (4, 50), (42, 51), (44, 55)], .agg [.int .i64 0, .int .i64 0, .int .i64 0, .int .i64 0, .int .i64 0, .int .i64 0, .int .i64 0, .int .i64 0, .int .i64 0, .int .i64 0, .bool false, .sl true 3 [], .int .i64 0, .int .i64 0, .sl true 1 [], .int .i64 0, .int .i64 0, .int .i64 0, .str [], .str [], .str [], .int .i64 0, .int .i64 0, .int .i64 0, .sl true 5 [], .sl true 5 [], .sl true 5 [], .int .i64 0, .int .i64 0, .int .i64 0, .bool false, .sl true 8 [], .sl true 9 [], .sl true 3 [], .int .i64 0, .str [], .str [], .int .i64 0, .int .i64 0, .int .i64 0, .int .i64 0, .int .i64 0, .int .i64 0, .bool false, .int .i64 0, .sl true 8 [], .int .i64 0, .int .i64 0, .sl true 2 [], .sl true 8 [], .bool false, .int .i64 0, .int .i64 0, .sl true 9 [], .sl true 3 [], .int .i64 0, .int .i64 0, .int .i64 0, .str [], .str [], .int .i64 0, .str [], .int .i64 0, .int .i64 0, .int .i64 0], false⟩ | false => none
       | false =>
        match Nat.blt t 60 with
        | true =>
         match Nat.blt t 57 with
         | true =>
          match Nat.beq t 56 with | true => some ⟨true, 65, 792, .struct [(3, 0), (2, 1), (53, 2), (54, 15), (2, 34), (9, 35), (9, 36), (2, 37), (3, 38), (37, 39), (3, 40), (39, 41), (40, 48), (30, 49), (4, 50), (42, 51), (44, 55)], .agg [.int .i64 0, .int .i64 0, .int .i64 0, .int .i64 0, .int .i64 0, .int .i64 0, .int .i64 0, .int .i64 0, .int .i64 0, .int .i64 0, .bool false, .sl true 3 [], .int .i64 0, .int .i64 0, .sl true 1 [], .int .i64 0, .int .i64 0, .int .i64 0, .str [], .str [], .str [], .int .i64 0, .int .i64 0, .int .i64 0, .sl true 5 [], .sl true 5 [], .sl true 5 [], .int .i64 0, .int .i64 0, .int .i64 0, .bool false, .sl true 8 [], .sl true 9 [], .sl true 3 [], .int .i64 0, .str [], .str [], .int .i64 0, .int .i64 0, .int .i64 0, .int .i64 0, .int .i64 0, .int .i64 0, .bool false, .int .i64 0, .sl true 8 [], .int .i64 0, .int .i64 0, .sl true 2 [], .sl true 8 [], .bool false, .int .i64 0, .int .i64 0, .sl true 9 [], .sl true 3 [], .int .i64 0, .int .i64 0, .int .i64 0, .str [], .str [], .int .i64 0, .str [], .int .i64 0, .int .i64 0, .int .i64 0], false⟩ | false => none
         | false =>
          match Nat.blt t 58 with
          | true =>
           match Nat.beq t 57 with | true => some ⟨true, 67, 808, .struct [(3, 0), (3, 1), (56, 2)], .agg [.int .i64 0, .int .i64 0, .int .i64 0, .int .i64 0, .int .i64 0, .int .i64 0, .int .i64 0, .int .i64 0, .int .i64 0, .int .i64 0, .int .i64 0, .int .i64 0, .bool false, .sl true 3 [], .int .i64 0, .int .i64 0, .sl true 1 [], .int .i64 0, .int .i64 0, .int .i64 0, .str [], .str [], .str [], .int .i64 0, .int .i64 0, .int .i64 0, .sl true 5 [], .sl true 5 [], .sl true 5 [], .int .i64 0, .int .i64 0, .int .i64 0, .bool false, .sl true 8 [], .sl true 9 [], .sl true 3 [], .int .i64 0, .str [], .str [], .int .i64 0, .int .i64 0, .int .i64 0, .int .i64 0, .int .i64 0, .int .i64 0, .bool false, .int .i64 0, .sl true 8 [], .int .i64 0, .int .i64 0, .sl true 2 [], .sl true 8 [], .bool false, .int .i64 0, .int .i64 0, .sl true 9 [], .sl true 3 [], .int .i64 0, .int .i64 0, .int .i64 0, .str [], .str [], .int .i64 0, .str [], .int .i64 0, .int .i64 0, .int .i64 0], false⟩ | false => none
          | false =>
           match Nat.beq t 58 with | true => some ⟨true, 67, 808, .struct [(3, 0), (3, 1), (56, 2)], .agg [.int .i64 0, .int .i64 0, .int .i64 0, .int .i64 0, .int .i64 0, .int .i64 0, .int .i64 0, .int .i64 0, .int .i64 0, .int .i64 0, .int .i64 0, .int .i64 0, .bool false, .sl true 3 [], .int .i64 0, .int .i64 0, .sl true 1 [], .int .i64 0, .int .i64 0, .int .i64 0, .str [], .str [], .str [], .int .i64 0, .int .i64 0, .int .i64 0, .sl true 5 [], .sl true 5 [], .sl true 5 [], .int .i64 0, .int .i64 0, .int .i64 0, .bool false, .sl true 8 [], .sl true 9 [], .sl true 3 [], .int .i64 0, .str [], .str [], .int .i64 0, .int .i64 0, .int .i64 0, .int .i64 0, .int .i64 0, .int .i64 0, .bool false, .int .i64 0, .sl true 8 [], .int .i64 0, .int .i64 0, .sl true 2 [], .sl true 8 [], .bool false, .int .i64 0, .int .i64 0, .sl true 9 [], .sl true 3 [], .int .i64 0, .int .i64 0, .int .i64 0, .str [], .str [], .int .i64 0, .str [], .int .i64 0, .int .i64 0, .int .i64 0], false⟩ | false => none
        | false =>
         match Nat.blt t 61 with
         | true =>
          match Nat.beq t 60 with | true => some ⟨false, 1, 8, .func, .nilfn, false⟩ | false => none
         | false =>
          match Nat.blt t 63 with
          | true =>
           match Nat.beq t 61 with | true => some ⟨false, 1, 8, .func, .nilfn, false⟩ | false => none
          | false =>
           match Nat.beq t 63 with | true => some ⟨false, 1, 8, .func, .nilfn, false⟩ | false => none
      | false =>
       match Nat.blt t 71 with
       | true =>
        match Nat.blt t 67 with
        | true =>
         match Nat.blt t 65 with
         | true =>
          match Nat.beq t 64 with | true => some ⟨false, 1, 8, .func, .nilfn, false⟩ | false => none
         | false =>
          match Nat.blt t 66 with
          | true =>
           match Nat.beq t 65 with | true => some ⟨false, 1, 8, .func, .nilfn, false⟩ | false => none
          | false =>
           match Nat.beq t 66 with | true => some ⟨false, 1, 8, .func, .nilfn, false⟩ | false => none
        | false =>
         match Nat.blt t 68 with
         | true =>
          match Nat.beq t 67 with | true => some ⟨false, 1, 24, .slice 46, .sl true 65 [], false⟩ | false => none
         | false =>
          match Nat.blt t 70 with
          | true =>
           match Nat.beq t 68 with | true => some ⟨false, 1, 24, .slice 56, .sl true 65 [], false⟩ | false => none
          | false =>
           match Nat.beq t 70 with | true => some ⟨false, 1, 8, .func, .nilfn, false⟩ | false => none
       | false =>
        match Nat.blt t 74 with
        | true =>
         match Nat.blt t 72 with
         | true =>
          match Nat.beq t 71 with | true => some ⟨false, 1, 8, .func, .nilfn, false⟩ | false => none
         | false =>
          match Nat.blt t 73 with
          | true =>
           match Nat.beq t 72 with | true => some ⟨false, 1, 8, .func, .nilfn, false⟩ | false => none
          | false =>
           match Nat.beq t 73 with | true => some ⟨false, 1, 24, .slice 78, .sl true 67 [], false⟩ | false => none
        | false =>
         match Nat.blt t 75 with
         | true =>
          match Nat.beq t 74 with | true => some ⟨false, 1, 8, .func, .nilfn, false⟩ | false => none
         | false =>
          match Nat.blt t 76 with
          | true =>
           match Nat.beq t 75 with | true => some ⟨true, 74, 856, .struct [(3, 0), (3, 1), (3, 2), (3, 3), (2, 4), (3, 5), (3, 6), (4, 7), (4, 8), (46, 9)], .agg [.int .i64 0, .int .i64 0, .int .i64 0, .int .i64 0, .int .i64 0, .int .i64 0, .int .i64 0, .bool false, .bool false, .int .i64 0, .int .i64 0, .int .i64 0, .int .i64 0, .int .i64 0, .int .i64 0, .int .i64 0, .int .i64 0, .int .i64 0, .int .i64 0, .bool false, .sl true 3 [], .int .i64 0, .int .i64 0, .sl true 1 [], .int .i64 0, .int .i64 0, .int .i64 0, .str [], .str [], .str [], .int .i64 0, .int .i64 0, .int .i64 0, .sl true 5 [], .sl true 5 [], .sl true 5 [], .int .i64 0, .int .i64 0, .int .i64 0, .bool false, .sl true 8 [], .sl true 9 [], .sl true 3 [], .int .i64 0, .str [], .str [], .int .i64 0, .int .i64 0, .int .i64 0, .int .i64 0, .int .i64 0, .int .i64 0, .bool false, .int .i64 0, .sl true 8 [], .int .i64 0, .int .i64 0, .sl true 2 [], .sl true 8 [], .bool false, .int .i64 0, .int .i64 0, .sl true 9 [], .sl true 3 [], .int .i64 0, .int .i64 0, .int .i64 0, .str [], .str [], .int .i64 0, .str [], .int .i64 0, .int .i64 0, .int .i64 0], false⟩ | false => none
          | false =>
           match Nat.beq t 76 with | true => some ⟨true, 74, 856, .struct [(3, 0), (3, 1), (3, 2), (3, 3), (2, 4), (3, 5), (3, 6), (4, 7), (4, 8), (46, 9)], .agg [.int .i64 0, .int .i64 0, .int .i64 0, .int .i64 0, .int .i64 0, .int .i64 0, .int .i64 0, .bool false, .bool false, .int .i64 0, .int .i64 0, .int .i64 0, .int .i64 0, .int .i64 0, .int .i64 0, .int .i64 0, .int .i64 0, .int .i64 0, .int .i64 0, .bool false, .sl true 3 [], .int .i64 0, .int .i64 0, .sl true 1 [], .int .i64 0, .int .i64 0, .int .i64 0, .str [], .str [], .str [], .int .i64 0, .int .i64 0, .int .i64 0, .sl true 5 [], .sl true 5 [], .sl true 5 [], .int .i64 0, .int .i64 0, .int .i64 0, .bool false, .sl true 8 [], .sl true 9 [], .sl true 3 [], .int .i64 0, .str [], .str [], .int .i64 0, .int .i64 0, .int .i64 0, .int .i64 0, .int .i64 0, .int .i64 0, .bool false, .int .i64 0, .sl true 8 [], .int .i64 0, .int .i64 0, .sl true 2 [], .sl true 8 [], .bool false, .int .i64 0, .int .i64 0, .sl true 9 [], .sl true 3 [], .int .i64 0, .int .i64 0, .int .i64 0, .str [], .str [], .int .i64 0, .str [], .int .i64 0, .int .i64 0, .int .i64 0], false⟩ | false => none
     | false =>
      match Nat.blt t 92 with
      | true =>
       match Nat.blt t 84 with
       | true =>
        match Nat.blt t 80 with
        | true =>
         match Nat.blt t 78 with
         | true =>
          match Nat.beq t 77 with | true => some ⟨true, 67, 808, .struct [(5, 0), (3, 1), (46, 2)], .agg [.int .u8 0, .int .i64 0, .int .i64 0, .int .i64 0, .int .i64 0, .int .i64 0, .int .i64 0, .int .i64 0, .int .i64 0, .int .i64 0, .int .i64 0, .int .i64 0, .bool false, .sl true 3 [], .int .i64 0, .int .i64 0, .sl true 1 [], .int .i64 0, .int .i64 0, .int .i64 0, .str [], .str [], .str [], .int .i64 0, .int .i64 0, .int .i64 0, .sl true 5 [], .sl true 5 [], .sl true 5 [], .int .i64 0, .int .i64 0, .int .i64 0, .bool false, .sl true 8 [], .sl true 9 [], .sl true 3 [], .int .i64 0, .str [], .str [], .int .i64 0, .int .i64 0, .int .i64 0, .int .i64 0, .int .i64 0, .int .i64 0, .bool false, .int .i64 0, .sl true 8 [], .int .i64 0, .int .i64 0, .sl true 2 [], .sl true 8 [], .bool false, .int .i64 0, .int .i64 0, .sl true 9 [], .sl true 3 [], .int .i64 0, .int .i64 0, .int .i64 0, .str [], .str [], .int .i64 0, .str [], .int .i64 0, .int .i64 0, .int .i64 0], false⟩ | false => none
         | false =>
          match Nat.blt t 79 with
          | true =>
           match Nat.beq t 78 with | true => some ⟨true, 67, 808, .struct [(5, 0), (3, 1), (46, 2)], .agg [.int .u8 0, .int .i64 0, .int .i64 0, .int .i64 0, .int .i64 0, .int .i64 0, .int .i64 0, .int .i64 0, .int .i64 0, .int .i64 0, .int .i64 0, .int .i64 0, .bool false, .sl true 3 [], .int .i64 0, .int .i64 0, .sl true 1 [], .int .i64 0, .int .i64 0, .int .i64 0, .str [], .str [], .str [], .int .i64 0, .int .i64 0, .int .i64 0, .sl true 5 [], .sl true 5 [], .sl true 5 [], .int .i64 0, .int .i64 0, .int .i64 0, .bool false, .sl true 8 [], .sl true 9 [], .sl true 3 [], .int .i64 0, .str [], .str [], .int .i64 0, .int .i64 0, .int .i64 0, .int .i64 0, .int .i64 0, .int .i64 0, .bool false, .int .i64 0, .sl true 8 [], .int .i64 0, .int .i64 0, .sl true 2 [], .sl true 8 [], .bool false, .int .i64 0, .int .i64 0, .sl true 9 [], .sl true 3 [], .int .i64 0, .int .i64 0, .int .i64 0, .str [], .str [], .int .i64 0, .str [], .int .i64 0, .int .i64 0, .int .i64 0], false⟩ | false => none
          | false =>
           match Nat.beq t 79 with | true => some ⟨true, 67, 808, .struct [(3, 0), (3, 1), (46, 2)], .agg [.int .i64 0, .int .i64 0, .int .i64 0, .int .i64 0, .int .i64 0, .int .i64 0, .int .i64 0, .int .i64 0, .int .i64 0, .int .i64 0, .int .i64 0, .int .i64 0, .bool false, .sl true 3 [], .int .i64 0, .int .i64 0, .sl true 1 [], .int .i64 0, .int .i64 0, .int .i64 0, .str [], .str [], .str [], .int .i64 0, .int .i64 0, .int .i64 0, .sl true 5 [], .sl true 5 [], .sl true 5 [], .int .i64 0, .int .i64 0, .int .i64 0, .bool false, .sl true 8 [], .sl true 9 [], .sl true 3 [], .int .i64 0, .str [], .str [], .int .i64 0, .int .i64 0, .int .i64 0, .int .i64 0, .int .i64 0, .int .i64 0, .bool false, .int .i64 0, .sl true 8 [], .int .i64 0, .int .i64 0, .sl true 2 [], .sl true 8 [], .bool false, .int .i64 0, .int .i64 0, .sl true 9 [], .sl true 3 [], .int .i64 0, .int .i64 0, .int .i64 0, .str [], .str [], .int .i64 0, .str [], .int .i64 0, .int .i64 0, .int .i64 0], false⟩ | false => none
        | false =>
         match Nat.blt t 82 with
         | true =>
          match Nat.beq t 80 with | true => some ⟨true, 67, 808, .struct [(3, 0), (3, 1), (46, 2)], .agg [.int .i64 0, .int .i64 0, .int .i64 0, .int .i64 0, .int .i64 0, .int .i64 0, .int .i64 0, .int .i64 0, .int .i64 0, .int .i64 0, .int .i64 0, .int .i64 0, .bool false, .sl true 3 [], .int .i64 0, .int .i64 0, .sl true 1 [], .int .i64 0, .int .i64 0, .int .i64 0, .str [], .str [], .str [], .int .i64 0, .int .i64 0, .int .i64 0, .sl true 5 [], .sl true 5 [], .sl true 5 [], .int .i64 0, .int .i64 0, .int .i64 0, .bool false, .sl true 8 [], .sl true 9 [], .sl true 3 [], .int .i64 0, .str [], .str [], .int .i64 0, .int .i64 0, .int .i64 0, .int .i64 0, .int .i64 0, .int .i64 0, .bool false, .int .i64 0, .sl true 8 [], .int .i64 0, .int .i64 0, .sl true 2 [], .sl true 8 [], .bool false, .int .i64 0, .int .i64 0, .sl true 9 [], .sl true 3 [], .int .i64 0, .int .i64 0, .int .i64 0, .str [], .str [], .int .i64 0, .str [], .int .i64 0, .int .i64 0, .int .i64 0], false⟩ | false => none
         | false =>
          match Nat.blt t 83 with
          | true =>
           match Nat.beq t 82 with | true => some ⟨false, 1, 8, .func, .nilfn, false⟩ | false => none
          | false =>
           match Nat.beq t 83 with | true => some ⟨false, 1, 24, .slice 80, .sl true 67 [], false⟩ | false => none
       | false =>
        match Nat.blt t 89 with
        | true =>
         match Nat.blt t 86 with
         | true =>
          match Nat.beq t 84 with | true => some ⟨false, 1, 8, .func, .nilfn, false⟩ | false => none
         | false =>
          match Nat.blt t 88 with
          | true =>
           match Nat.beq t 86 with | true => some ⟨false, 1, 8, .func, .nilfn, false⟩ | false => none
          | false =>
           match Nat.beq t 88 with | true => some ⟨false, 1, 8, .func, .nilfn, false⟩ | false => none
        | false =>
         match Nat.blt t 90 with
         | true =>
          match Nat.beq t 89 with | true => some ⟨false, 1, 8, .func, .nilfn, false⟩ | false => none
         | false =>
          match Nat.blt t 91 with
          | true =>
           match Nat.beq t 90 with | true => some ⟨false, 1, 8, .func, .nilfn, false⟩ | false => none
          | false =>
           match Nat.beq t 91 with | true => some ⟨false, 1, 8, .func, .nilfn, false⟩ | false => none
      | false =>
       match Nat.blt t 98 with
       | true =>
        match Nat.blt t 95 with
        | true =>
         match Nat.blt t 93 with
         | true =>
          match Nat.beq t 92 with | true => some ⟨false, 1, 8, .func, .nilfn, false⟩ | false => none
         | false =>
          match Nat.blt t 94 with
          | true =>
           match Nat.beq t 93 with | true => some ⟨true, 2, 16, .array 2 3, .agg [.int .i64 0, .int .i64 0], true⟩ | false => none
          | false =>
           match Nat.beq t 94 with | true => some ⟨true, 5, 56, .struct [(2, 0), (9, 1), (9, 2), (93, 3)], .agg [.int .i64 0, .str [], .str [], .int .i64 0, .int .i64 0], true⟩ | false => none
        | false =>
         match Nat.blt t 96 with
         | true =>
          match Nat.beq t 95 with | true => some ⟨true, 5, 56, .struct [(2, 0), (9, 1), (9, 2), (93, 3)], .agg [.int .i64 0, .str [], .str [], .int .i64 0, .int .i64 0], true⟩ | false => none
         | false =>
          match Nat.blt t 97 with
          | true =>
           match Nat.beq t 96 with | true => some ⟨false, 1, 24, .slice 107, .sl true 68 [], false⟩ | false => none
          | false =>
           match Nat.beq t 97 with | true => some ⟨false, 1, 8, .func, .nilfn, false⟩ | false => none
       | false =>
        match Nat.blt t 102 with
        | true =>
         match Nat.blt t 99 with
         | true =>
          match Nat.beq t 98 with | true => some ⟨false, 1, 8, .func, .nilfn, false⟩ | false => none
         | false =>
          match Nat.blt t 101 with
          | true =>
           match Nat.beq t 99 with | true => some ⟨false, 1, 8, .ptr, .nilp, false⟩ | false => none
          | false =>
           match Nat.beq t 101 with | true => some ⟨false, 1, 8, .func, .nilfn, false⟩ | false => none
        | false =>
         match Nat.blt t 105 with
         | true =>
          match Nat.beq t 102 with | true => some ⟨true, 148, 1712, .array 2 76, .agg [.int .i64 0, .int .i64 0, .int .i64 0, .int .i64 0, .int .i64 0, .int .i64 0, .int .i64 0, .bool false, .bool false, .int .i64 0, .int .i64 0, .int .i64 0, .int .i64 0, .int .i64 0, .int .i64 0, .int .i64 0, .int .i64 0, .int .i64 0, .int .i64 0, .bool false, .sl true 3 [], .int .i64 0, .int .i64 0, .sl true 1 [], .int .i64 0, .int .i64 0, .int .i64 0, .str [], .str [], .str [], .int .i64 0, .int .i64 0, .int .i64 0, .sl true 5 [], .sl true 5 [], .sl true 5 [], .int .i64 0, .int .i64 0, .int .i64 0, .bool false, .sl true 8 [], .sl true 9 [], .sl true 3 [], .int .i64 0, .str [], .str [], .int .i64 0, .int .i64 0, .int .i64 0, .int .i64 0, .int .i64 0, .int .i64 0, .bool false, .int .i64 0, .sl true 8 [], .int .i64 0, .int .i64 0, .sl true 2 [], .sl true 8 [], .bool false, .int .i64 0, .int .i64 0, .sl true 9 [], .sl true 3 [], .int .i64 0, .int .i64 0, .int .i64 0, .str [], .str [], .int .i64 0, .str [], .int .i64 0, .int .i64 0, .int .i64 0, .int .i64 0, .int .i64 0, .int .i64 0, .int .i64 0, .int .i64 0, .int .i64 0, .int .i64 0, .bool false, .bool false, .int .i64 0, .int .i64 0, .int .i64 0, .int .i64 0, .int .i64 0, .int .i64 0, .int .i64 0, .int .i64 0, .int .i64 0, .int .i64 0, .bool false, .sl true 3 [], .int .i64 0, .int .i64 0, .sl true 1 [], .int .i64 0, .int .i64 0, .int .i64 0, .str [], .str [], .str [], .int .i64 0, .int .i64 0, .int .i64 0, .sl true 5 [], .sl true 5 [], .sl true 5 [], .int .i64 0, .int .i64 0, .int .i64 0, .bool false, .sl true 8 [], .sl true 9 [], .sl true 3 [], .int .i64 0, .str [], .str [], .int .i64 0, .int .i64 0, .int .i64 0, .int .i64 0, .int .i64 0, .int .i64 0, .bool false, .int .i64 0, .sl true 8 [], .int .i64 0, .int .i64 0, .sl true 2 [], .sl true 8 [], .bool false, .int .i64 0, .int .i64 0, .sl true 9 [], .sl true 3 [], .int .i64 0, .int .i64 0, .int .i64 0, .str [], .str [], .int .i64 0, .str [], .int .i64 0, .int .i64 0, .int .i64 0], false⟩ | false => none
         | false =>
          match Nat.blt t 106 with
          | true =>
           match Nat.beq t 105 with | true => some ⟨false, 1, 8, .func, .nilfn, false⟩ | false => none
          | false =>
           match Nat.beq t 106 with | true => some ⟨true, 68, 816, .struct [(5, 0), (3, 1), (3, 2), (46, 3)], .agg [.int .u8 0, .int .i64 0, .int .i64 0, .int .i64 0, .int .i64 0, .int .i64 0, .int .i64 0, .int .i64 0, .int .i64 0, .int .i64 0, .int .i64 0, .int .i64 0, .int .i64 0, .bool false, .sl true 3 [], .int .i64 0, .int .i64 0, .sl true 1 [], .int .i64 0, .int .i64 0, .int .i64 0, .str [], .str [], .str [], .int .i64 0, .int .i64 0, .int .i64 0, .sl true 5 [], .sl true 5 [], .sl true 5 [], .int .i64 0, .int .i64 0, .int .i64 0, .bool false, .sl true 8 [], .sl true 9 [], .sl true 3 [], .int .i64 0, .str [], .str [], .int .i64 0, .int .i64 0, .int .i64 0, .int .i64 0, .int .i64 0, .int .i64 0, .bool false, .int .i64 0, .sl true 8 [], .int .i64 0, .int .i64 0, .sl true 2 [], .sl true 8 [], .bool false, .int .i64 0, .int .i64 0, .sl true 9 [], .sl true 3 [], .int .i64 0, .int .i64 0, .int .i64 0, .str [], .str [], .int .i64 0, .str [], .int .i64 0, .int .i64 0, .int .i64 0], false⟩ | false => none
   | false =>
    match Nat.blt t 166 with
    | true =>
     match Nat.blt t 137 with
     | true =>
      match Nat.blt t 121 with
      | true =>
       match Nat.blt t 115 with
       | true =>
        match Nat.blt t 111 with
        | true =>
         match Nat.blt t 109 with
         | true =>
          match Nat.beq t 107 with | true => some ⟨true, 68, 816, .struct [(5, 0), (3, 1), (3, 2), (46, 3)], .agg [.int .u8 0, .int .i64 0, .int .i64 0, .int .i64 0, .int .i64 0, .int .i64 0, .int .i64 0, .int .i64 0, .int .i64 0, .int .i64 0, .int .i64 0, .int .i64 0, .int .i64 0, .bool false, .sl true 3 [], .int .i64 0, .int .i64 0, .sl true 1 [], .int .i64 0, .int .i64 0, .int .i64 0, .str [], .str [], .str [], .int .i64 0, .int .i64 0, .int .i64 0, .sl true 5 [], .sl true 5 [], .sl true 5 [], .int .i64 0, .int .i64 0, .int .i64 0, .bool false, .sl true 8 [], .sl true 9 [], .sl true 3 [], .int .i64 0, .str [], .str [], .int .i64 0, .int .i64 0, .int .i64 0, .int .i64 0, .int .i64 0, .int .i64 0, .bool false, .int .i64 0, .sl true 8 [], .int .i64 0, .int .i64 0, .sl true 2 [], .sl true 8 [], .bool false, .int .i64 0, .int .i64 0, .sl true 9 [], .sl true 3 [], .int .i64 0, .int .i64 0, .int .i64 0, .str [], .str [], .int .i64 0, .str [], .int .i64 0, .int .i64 0, .int .i64 0], false⟩ | false => none
         | false =>
          match Nat.blt t 110 with
          | true =>
           match Nat.beq t 109 with | true => some ⟨false, 1, 8, .func, .nilfn, false⟩ | false => none
          | false =>
           match Nat.beq t 110 with | true => some ⟨false, 1, 8, .func, .nilfn, false⟩ | false => none
        | false =>
         match Nat.blt t 112 with
         | true =>
          match Nat.beq t 111 with | true => some ⟨false, 1, 8, .func, .nilfn, false⟩ | false => none
         | false =>
          match Nat.blt t 114 with
          | true =>
           match Nat.beq t 112 with | true => some ⟨false, 1, 8, .func, .nilfn, false⟩ | false => none
          | false =>
           match Nat.beq t 114 with | true => some ⟨false, 1, 8, .func, .nilfn, false⟩ | false => none
       | false =>
        match Nat.blt t 118 with
        | true =>
         match Nat.blt t 116 with
         | true =>
          match Nat.beq t 115 with | true => some ⟨false, 1, 8, .func, .nilfn, false⟩ | false => none
         | false =>
          match Nat.blt t 117 with
          | true =>
           match Nat.beq t 116 with | true => some ⟨false, 1, 8, .func, .nilfn, false⟩ | false => none
          | false =>
           match Nat.beq t 117 with | true => some ⟨true, 5, 56, .struct [(3, 0), (9, 1), (9, 2), (93, 3)], .agg [.int .i64 0, .str [], .str [], .int .i64 0, .int .i64 0], true⟩ | false => none
        | false =>
         match Nat.blt t 119 with
         | true =>
          match Nat.beq t 118 with | true => some ⟨true, 5, 56, .struct [(3, 0), (9, 1), (9, 2), (93, 3)], .agg [.int .i64 0, .str [], .str [], .int .i64 0, .int .i64 0], true⟩ | false => none
         | false =>
          match Nat.blt t 120 with
          | true =>
           match Nat.beq t 119 with | true => some ⟨false, 1, 24, .slice 135, .sl true 90 [], false⟩ | false => none
          | false =>
           match Nat.beq t 120 with | true => some ⟨false, 1, 8, .func, .nilfn, false⟩ | false => none
      | false =>
       match Nat.blt t 131 with
       | true =>
        match Nat.blt t 125 with
        | true =>
         match Nat.blt t 122 with
         | true =>
          match Nat.beq t 121 with | true => some ⟨false, 1, 8, .func, .nilfn, false⟩ | false => none
         | false =>
          match Nat.blt t 124 with
          | true =>
           match Nat.beq t 122 with | true => some ⟨false, 1, 8, .ptr, .nilp, false⟩ | false => none
          | false =>
           match Nat.beq t 124 with | true => some ⟨false, 1, 8, .func, .nilfn, false⟩ | false => none
        | false =>
         match Nat.blt t 126 with
         | true =>
          match Nat.beq t 125 with | true => some ⟨true, 22, 312, .struct [(4, 0), (34, 1), (9, 18), (9, 19), (2, 20), (3, 21)], .agg [.bool false, .int .i64 0, .str [], .str [], .str [], .int .i64 0, .int .i64 0, .int .i64 0, .sl true 5 [], .sl true 5 [], .sl true 5 [], .int .i64 0, .int .i64 0, .int .i64 0, .bool false, .sl true 8 [], .sl true 9 [], .sl true 3 [], .str [], .str [], .int .i64 0, .int .i64 0], false⟩ | false => none
         | false =>
          match Nat.blt t 129 with
          | true =>
           match Nat.beq t 126 with | true => some ⟨true, 22, 312, .struct [(4, 0), (34, 1), (9, 18), (9, 19), (2, 20), (3, 21)], .agg [.bool false, .int .i64 0, .str [], .str [], .str [], .int .i64 0, .int .i64 0, .int .i64 0, .sl true 5 [], .sl true 5 [], .sl true 5 [], .int .i64 0, .int .i64 0, .int .i64 0, .bool false, .sl true 8 [], .sl true 9 [], .sl true 3 [], .str [], .str [], .int .i64 0, .int .i64 0], false⟩ | false => none
          | false =>
           match Nat.beq t 129 with | true => some ⟨false, 1, 8, .func, .nilfn, false⟩ | false => none
       | false =>
        match Nat.blt t 134 with
        | true =>
         match Nat.blt t 132 with
         | true =>
          match Nat.beq t 131 with | true => some ⟨false, 1, 8, .func, .nilfn, false⟩ | false => none
         | false =>
          match Nat.blt t 133 with
          | true =>
           match Nat.beq t 132 with | true => some ⟨false, 1, 8, .func, .nilfn, false⟩ | false => none
          | false =>
           match Nat.beq t 133 with | true => some ⟨true, 22, 312, .struct [(4, 0), (34, 1), (9, 18), (9, 19), (2, 20), (3, 21)], .agg [.bool false, .int .i64 0, .str [], .str [], .str [], .int .i64 0, .int .i64 0, .int .i64 0, .sl true 5 [], .sl true 5 [], .sl true 5 [], .int .i64 0, .int .i64 0, .int .i64 0, .bool false, .sl true 8 [], .sl true 9 [], .sl true 3 [], .str [], .str [], .int .i64 0, .int .i64 0], false⟩ | false => none
        | false =>
         match Nat.blt t 135 with
         | true =>
          match Nat.beq t 134 with | true => some ⟨true, 90, 1128, .struct [(5, 0), (133, 1), (2, 23), (3, 24), (46, 25)], .agg [.int .u8 0, .bool false, .int .i64 0, .str [], .str [], .str [], .int .i64 0, .int .i64 0, .int .i64 0, .sl true 5 [], .sl true 5 [], .sl true 5 [], .int .i64 0, .int .i64 0, .int .i64 0, .bool false, .sl true 8 [], .sl true 9 [], .sl true 3 [], .str [], .str [], .int .i64 0, .int .i64 0, .int .i64 0, .int .i64 0, .int .i64 0, .int .i64 0, .int .i64 0, .int .i64 0, .int .i64 0, .int .i64 0, .int .i64 0, .int .i64 0, .int .i64 0, .int .i64 0, .bool false, .sl true 3 [], .int .i64 0, .int .i64 0, .sl true 1 [], .int .i64 0, .int .i64 0, .int .i64 0, .str [], .str [], .str [], .int .i64 0, .int .i64 0, .int .i64 0, .sl true 5 [], .sl true 5 [], .sl true 5 [], .int .i64 0, .int .i64 0, .int .i64 0, .bool false, .sl true 8 [], .sl true 9 [], .sl true 3 [], .int .i64 0, .str [], .str [], .int .i64 0, .int .i64 0, .int .i64 0, .int .i64 0, .int .i64 0, .int .i64 0, .bool false, .int .i64 0, .sl true 8 [], .int .i64 0, .int .i64 0, .sl true 2 [], .sl true 8 [], .bool false, .int .i64 0, .int .i64 0, .sl true 9 [], .sl true 3 [], .int .i64 0, .int .i64 0, .int .i64 0, .str [], .str [], .int .i64 0, .str [], .int .i64 0, .int .i64 0, .int .i64 0], false⟩ | false => none
         | false =>
          match Nat.blt t 136 with
          | true =>
           match Nat.beq t 135 with | true => some ⟨true, 90, 1128, .struct [(5, 0), (133, 1), (2, 23), (3, 24), (46, 25)], .agg [.int .u8 0, .bool false, .int .i64 0, .str [], .str [], .str [], .int .i64 0, .int .i64 0, .int .i64 0, .sl true 5 [], .sl true 5 [], .sl true 5 [], .int .i64 0, .int .i64 0, .int .i64 0, .bool false, .sl true 8 [], .sl true 9 [], .sl true 3 [], .str [], .str [], .int .i64 0, .int .i64 0, .int .i64 0, .int .i64 0, .int .i64 0, .int .i64 0, .int .i64 0, .int .i64 0, .int .i64 0, .int .i64 0, .int .i64 0, .int .i64 0, .int .i64 0, .int .i64 0, .bool false, .sl true 3 [], .int .i64 0, .int .i64 0, .sl true 1 [], .int .i64 0, .int .i64 0, .int .i64 0, .str [], .str [], .str [], .int .i64 0, .int .i64 0, .int .i64 0, .sl true 5 [], .sl true 5 [], .sl true 5 [], .int .i64 0, .int .i64 0, .int .i64 0, .bool false, .sl true 8 [], .sl true 9 [], .sl true 3 [], .int .i64 0, .str [], .str [], .int .i64 0, .int .i64 0, .int .i64 0, .int .i64 0, .int .i64 0, .int .i64 0, .bool false, .int .i64 0, .sl true 8 [], .int .i64 0, .int .i64 0, .sl true 2 [], .sl true 8 [], .bool false, .int .i64 0, .int .i64 0, .sl true 9 [], .sl true 3 [], .int .i64 0, .int .i64 0, .int .i64 0, .str [], .str [], .int .i64 0, .str [], .int .i64 0, .int .i64 0, .int .i64 0], false⟩ | false => none
          | false =>
           match Nat.beq t 136 with | true => some ⟨false, 1, 24, .slice 58, .sl true 67 [], false⟩ | false => none
     | false =>
      match Nat.blt t 154 with
      | true =>
       match Nat.blt t 146 with
       | true =>
        match Nat.blt t 143 with
        | true =>
         match Nat.blt t 139 with
         | true =>
          match Nat.beq t 137 with | true => some ⟨false, 1, 8, .func, .nilfn, false⟩ | false => none
         | false =>
          match Nat.blt t 141 with
          | true =>
           match Nat.beq t 139 with | true => some ⟨false, 1, 8, .func, .nilfn, false⟩ | false => none
          | false =>
           match Nat.beq t 141 with | true => some ⟨false, 1, 8, .func, .nilfn, false⟩ | false => none
        | false =>
         match Nat.blt t 144 with
         | true =>
          match Nat.beq t 143 with | true => some ⟨false, 1, 8, .func, .nilfn, false⟩ | false => none
         | false =>
          match Nat.blt t 145 with
          | true =>
           match Nat.beq t 144 with | true => some ⟨false, 1, 8, .func, .nilfn, false⟩ | false => none
          | false =>
           match Nat.beq t 145 with | true => some ⟨false, 1, 8, .func, .nilfn, false⟩ | false => none
       | false =>
        match Nat.blt t 151 with
        | true =>
         match Nat.blt t 148 with
         | true =>
          match Nat.beq t 146 with | true => some ⟨false, 1, 8, .func, .nilfn, false⟩ | false => none
         | false =>
          match Nat.blt t 150 with
          | true =>
           match Nat.beq t 148 with | true => some ⟨false, 1, 8, .func, .nilfn, false⟩ | false => none
          | false =>
           match Nat.beq t 150 with | true => some ⟨false, 1, 8, .func, .nilfn, false⟩ | false => none
        | false =>
         match Nat.blt t 152 with
         | true =>
          match Nat.beq t 151 with | true => some ⟨true, 2, 32, .struct [(2, 0), (30, 1)], .agg [.int .i64 0, .sl true 8 []], false⟩ | false => none
         | false =>
          match Nat.blt t 153 with
          | true =>
           match Nat.beq t 152 with | true => some ⟨true, 2, 32, .struct [(2, 0), (30, 1)], .agg [.int .i64 0, .sl true 8 []], false⟩ | false => none
          | false =>
           match Nat.beq t 153 with | true => some ⟨false, 1, 8, .func, .nilfn, false⟩ | false => none
      | false =>
       match Nat.blt t 160 with
       | true =>
        match Nat.blt t 157 with
        | true =>
         match Nat.blt t 155 with
         | true =>
          match Nat.beq t 154 with | true => some ⟨true, 2, 16, .struct [(2, 0), (2, 1)], .agg [.int .i64 0, .int .i64 0], true⟩ | false => none
         | false =>
          match Nat.blt t 156 with
          | true =>
           match Nat.beq t 155 with | true => some ⟨true, 2, 16, .struct [(2, 0), (2, 1)], .agg [.int .i64 0, .int .i64 0], true⟩ | false => none
          | false =>
           match Nat.beq t 156 with | true => some ⟨true, 7, 48, .struct [(3, 0), (4, 1), (4, 2), (2, 3), (2, 4), (155, 5)], .agg [.int .i64 0, .bool false, .bool false, .int .i64 0, .int .i64 0, .int .i64 0, .int .i64 0], true⟩ | false => none
        | false =>
         match Nat.blt t 158 with
         | true =>
          match Nat.beq t 157 with | true => some ⟨true, 7, 48, .struct [(3, 0), (4, 1), (4, 2), (2, 3), (2, 4), (155, 5)], .agg [.int .i64 0, .bool false, .bool false, .int .i64 0, .int .i64 0, .int .i64 0, .int .i64 0], true⟩ | false => none
         | false =>
          match Nat.blt t 159 with
          | true =>
           match Nat.beq t 158 with | true => some ⟨false, 1, 8, .func, .nilfn, false⟩ | false => none
          | false =>
           match Nat.beq t 159 with | true => some ⟨false, 1, 8, .func, .nilfn, false⟩ | false => none
       | false =>
        match Nat.blt t 163 with
        | true =>
         match Nat.blt t 161 with
         | true =>
          match Nat.beq t 160 with | true => some ⟨false, 1, 8, .func, .nilfn, false⟩ | false => none
         | false =>
          match Nat.blt t 162 with
          | true =>
           match Nat.beq t 161 with | true => some ⟨true, 7, 64, .struct [(2, 0), (2, 1), (2, 2), (2, 3), (9, 4), (2, 5), (4, 6)], .agg [.int .i64 0, .int .i64 0, .int .i64 0, .int .i64 0, .str [], .int .i64 0, .bool false], true⟩ | false => none
          | false =>
           match Nat.beq t 162 with | true => some ⟨true, 7, 64, .struct [(2, 0), (2, 1), (2, 2), (2, 3), (9, 4), (2, 5), (4, 6)], .agg [.int .i64 0, .int .i64 0, .int .i64 0, .int .i64 0, .str [], .int .i64 0, .bool false], true⟩ | false => none
        | false =>
         match Nat.blt t 164 with
         | true =>
          match Nat.beq t 163 with | true => some ⟨true, 8, 80, .struct [(9, 0), (162, 1)], .agg [.str [], .int .i64 0, .int .i64 0, .int .i64 0, .int .i64 0, .str [], .int .i64 0, .bool false], true⟩ | false => none
         | false =>
          match Nat.blt t 165 with
          | true =>
           match Nat.beq t 164 with | true => some ⟨true, 8, 80, .struct [(9, 0), (162, 1)], .agg [.str [], .int .i64 0, .int .i64 0, .int .i64 0, .int .i64 0, .str [], .int .i64 0, .bool false], true⟩ | false => none
          | false =>
           match Nat.beq t 165 with | true => some ⟨false, 1, 8, .func, .nilfn, false⟩ | false => none
    | false =>
     match Nat.blt t 192 with
     | true =>
      match Nat.blt t 180 with
      | true =>
       match Nat.blt t 174 with
       | true =>
        match Nat.blt t 171 with
        | true =>
         match Nat.blt t 167 with
         | true =>
          match Nat.beq t 166 with | true => some ⟨false, 1, 8, .func, .nilfn, false⟩ | false => none
         | false =>
          match Nat.blt t 169 with
          | true =>
           match Nat.beq t 167 with | true => some ⟨false, 1, 8, .func, .nilfn, false⟩ | false => none
          | false =>
           match Nat.beq t 169 with | true => some ⟨false, 1, 8, .func, .nilfn, false⟩ | false => none
        | false =>
         match Nat.blt t 172 with
         | true =>
          match Nat.beq t 171 with | true => some ⟨false, 1, 8, .func, .nilfn, false⟩ | false => none
         | false =>
          match Nat.blt t 173 with
          | true =>
           match Nat.beq t 172 with | true => some ⟨false, 1, 8, .func, .nilfn, false⟩ | false => none
          | false =>
           match Nat.beq t 173 with | true => some ⟨false, 1, 8, .func, .nilfn, false⟩ | false => none
       | false =>
        match Nat.blt t 177 with
        | true =>
         match Nat.blt t 175 with
         | true =>
          match Nat.beq t 174 with | true => some ⟨false, 1, 8, .func, .nilfn, false⟩ | false => none
         | false =>
          match Nat.blt t 176 with
          | true =>
           match Nat.beq t 175 with | true => some ⟨false, 1, 8, .func, .nilfn, false⟩ | false => none
          | false =>
           match Nat.beq t 176 with | true => some ⟨false, 1, 8, .func, .nilfn, false⟩ | false => none
        | false =>
         match Nat.blt t 178 with
         | true =>
          match Nat.beq t 177 with | true => some ⟨false, 1, 8, .func, .nilfn, false⟩ | false => none
         | false =>
          match Nat.blt t 179 with
          | true =>
           match Nat.beq t 178 with | true => some ⟨false, 1, 8, .func, .nilfn, false⟩ | false => none
          | false =>
           match Nat.beq t 179 with | true => some ⟨true, 9, 88, .struct [(2, 0), (2, 1), (39, 2)], .agg [.int .i64 0, .int .i64 0, .int .i64 0, .int .i64 0, .bool false, .int .i64 0, .sl true 8 [], .int .i64 0, .int .i64 0], false⟩ | false => none
      | false =>
       match Nat.blt t 186 with
       | true =>
        match Nat.blt t 183 with
        | true =>
         match Nat.blt t 181 with
         | true =>
          match Nat.beq t 180 with | true => some ⟨true, 9, 88, .struct [(2, 0), (2, 1), (39, 2)], .agg [.int .i64 0, .int .i64 0, .int .i64 0, .int .i64 0, .bool false, .int .i64 0, .sl true 8 [], .int .i64 0, .int .i64 0], false⟩ | false => none
         | false =>
          match Nat.blt t 182 with
          | true =>
           match Nat.beq t 181 with | true => some ⟨true, 73, 856, .struct [(3, 0), (3, 1), (3, 2), (3, 3), (2, 4), (3, 5), (3, 6), (4, 7), (56, 8)], .agg [.int .i64 0, .int .i64 0, .int .i64 0, .int .i64 0, .int .i64 0, .int .i64 0, .int .i64 0, .bool false, .int .i64 0, .int .i64 0, .int .i64 0, .int .i64 0, .int .i64 0, .int .i64 0, .int .i64 0, .int .i64 0, .int .i64 0, .int .i64 0, .bool false, .sl true 3 [], .int .i64 0, .int .i64 0, .sl true 1 [], .int .i64 0, .int .i64 0, .int .i64 0, .str [], .str [], .str [], .int .i64 0, .int .i64 0, .int .i64 0, .sl true 5 [], .sl true 5 [], .sl true 5 [], .int .i64 0, .int .i64 0, .int .i64 0, .bool false, .sl true 8 [], .sl true 9 [], .sl true 3 [], .int .i64 0, .str [], .str [], .int .i64 0, .int .i64 0, .int .i64 0, .int .i64 0, .int .i64 0, .int .i64 0, .bool false, .int .i64 0, .sl true 8 [], .int .i64 0, .int .i64 0, .sl true 2 [], .sl true 8 [], .bool false, .int .i64 0, .int .i64 0, .sl true 9 [], .sl true 3 [], .int .i64 0, .int .i64 0, .int .i64 0, .str [], .str [], .int .i64 0, .str [], .int .i64 0, .int .i64 0, .int .i64 0], false⟩ | false => none
          | false =>
           match Nat.beq t 182 with | true => some ⟨true, 73, 856, .struct [(3, 0), (3, 1), (3, 2), (3, 3), (2, 4), (3, 5), (3, 6), (4, 7), (56, 8)], .agg [.int .i64 0, .int .i64 0, .int .i64 0, .int .i64 0, .int .i64 0, .int .i64 0, .int .i64 0, .bool false, .int .i64 0, .int .i64 0, .int .i64 0, .int .i64 0, .int .i64 0, .int .i64 0, .int .i64 0, .int .i64 0, .int .i64 0, .int .i64 0, .bool false, .sl true 3 [], .int .i64 0, .int .i64 0, .sl true 1 [], .int .i64 0, .int .i64 0, .int .i64 0, .str [], .str [], .str [], .int .i64 0, .int .i64 0, .int .i64 0, .sl true 5 [], .sl true 5 [], .sl true 5 [], .int .i64 0, .int .i64 0, .int .i64 0, .bool false, .sl true 8 [], .sl true 9 [], .sl true 3 [], .int .i64 0, .str [], .str [], .int .i64 0, .int .i64 0, .int .i64 0, .int .i64 0, .int .i64 0, .int .i64 0, .bool false, .int .i64 0, .sl true 8 [], .int .i64 0, .int .i64 0, .sl true 2 [], .sl true 8 [], .bool false, .int .i64 0, .int .i64 0, .sl true 9 [], .sl true 3 [], .int .i64 0, .int .i64 0, .int .i64 0, .str [], .str [], .int .i64 0, .str [], .int .i64 0, .int .i64 0, .int .i64 0], false⟩ | false => none
        | false =>
         match Nat.blt t 184 with
         | true =>
          match Nat.beq t 183 with | true => some ⟨false, 1, 8, .func, .nilfn, false⟩ | false => none
         | false =>
          match Nat.blt t 185 with
          | true =>
           match Nat.beq t 184 with | true => some ⟨false, 1, 8, .func, .nilfn, false⟩ | false => none
          | false =>
           match Nat.beq t 185 with | true => some ⟨false, 1, 8, .func, .nilfn, false⟩ | false => none
       | false =>
        match Nat.blt t 189 with
        | true =>
         match Nat.blt t 187 with
         | true =>
          match Nat.beq t 186 with | true => some ⟨false, 1, 8, .func, .nilfn, false⟩ | false => none
         | false =>
          match Nat.blt t 188 with
          | true =>
           match Nat.beq t 187 with | true => some ⟨false, 1, 8, .func, .nilfn, false⟩ | false => none
          | false =>
           match Nat.beq t 188 with | true => some ⟨false, 1, 8, .func, .nilfn, false⟩ | false => none
        | false =>
         match Nat.blt t 190 with
         | true =>
          match Nat.beq t 189 with | true => some ⟨false, 1, 8, .func, .nilfn, false⟩ | false => none
         | false =>
          match Nat.blt t 191 with
          | true =>
           match Nat.beq t 190 with | true => some ⟨false, 1, 8, .func, .nilfn, false⟩ | false => none
          | false =>
           match Nat.beq t 191 with | true => some ⟨false, 1, 8, .func, .nilfn, false⟩ | false => none
     | false =>
      match Nat.blt t 204 with
      | true =>
       match Nat.blt t 198 with
       | true =>
        match Nat.blt t 195 with
        | true =>
         match Nat.blt t 193 with
         | true =>
          match Nat.beq t 192 with | true => some ⟨false, 1, 8, .func, .nilfn, false⟩ | false => none
         | false =>
          match Nat.blt t 194 with
          | true =>
           match Nat.beq t 193 with | true => some ⟨false, 1, 8, .func, .nilfn, false⟩ | false => none
          | false =>
           match Nat.beq t 194 with | true => some ⟨false, 1, 8, .func, .nilfn, false⟩ | false => none
        | false =>
         match Nat.blt t 196 with
         | true =>
          match Nat.beq t 195 with | true => some ⟨false, 1, 8, .func, .nilfn, false⟩ | false => none
         | false =>
          match Nat.blt t 197 with
          | true =>
           match Nat.beq t 196 with | true => some ⟨false, 1, 8, .func, .nilfn, false⟩ | false => none
          | false =>
           match Nat.beq t 197 with | true => some ⟨false, 1, 8, .func, .nilfn, false⟩ | false => none
       | false =>
        match Nat.blt t 201 with
        | true =>
         match Nat.blt t 199 with
         | true =>
          match Nat.beq t 198 with | true => some ⟨false, 1, 8, .func, .nilfn, false⟩ | false => none
         | false =>
          match Nat.blt t 200 with
          | true =>
           match Nat.beq t 199 with | true => some ⟨false, 1, 8, .func, .nilfn, false⟩ | false => none
          | false =>
           match Nat.beq t 200 with | true => some ⟨false, 1, 8, .func, .nilfn, false⟩ | false => none
        | false =>
         match Nat.blt t 202 with
         | true =>
          match Nat.beq t 201 with | true => some ⟨false, 1, 8, .func, .nilfn, false⟩ | false => none
         | false =>
          match Nat.blt t 203 with
          | true =>
           match Nat.beq t 202 with | true => some ⟨false, 1, 8, .func, .nilfn, false⟩ | false => none
          | false =>
           match Nat.beq t 203 with | true => some ⟨false, 1, 8, .func, .nilfn, false⟩ | false => none
      | false =>
       match Nat.blt t 210 with
       | true =>
        match Nat.blt t 207 with
        | true =>
         match Nat.blt t 205 with
         | true =>
          match Nat.beq t 204 with | true => some ⟨false, 1, 8, .func, .nilfn, false⟩ | false => none
         | false =>
          match Nat.blt t 206 with
          | true =>
           match Nat.beq t 205 with | true => some ⟨true, 2, 16, .array 2 50, .agg [.nilp, .nilp], false⟩ | false => none
          | false =>
           match Nat.beq t 206 with | true => some ⟨false, 1, 8, .ptr, .nilp, false⟩ | false => none
        | false =>
         match Nat.blt t 208 with
         | true =>
          match Nat.beq t 207 with | true => some ⟨false, 1, 8, .ptr, .nilp, false⟩ | false => none
         | false =>
          match Nat.blt t 209 with
          | true =>
           match Nat.beq t 208 with | true => some ⟨false, 1, 8, .ptr, .nilp, false⟩ | false => none
          | false =>
           match Nat.beq t 209 with | true => some ⟨true, 91, 1032, .struct [(95, 0), (3, 5), (205, 6), (56, 8), (4, 73), (44, 74), (2, 84), (206, 85), (207, 86), (4, 87), (4, 88), (208, 89), (4, 90)], .agg [.int .i64 0, .str [], .str [], .int .i64 0, .int .i64 0, .int .i64 0, .nilp, .nilp, .int .i64 0, .int .i64 0, .int .i64 0, .int .i64 0, .int .i64 0, .int .i64 0, .int .i64 0, .int .i64 0, .int .i64 0, .int .i64 0, .bool false, .sl true 3 [], .int .i64 0, .int .i64 0, .sl true 1 [], .int .i64 0, .int .i64 0, .int .i64 0, .str [], .str [], .str [], .int .i64 0, .int .i64 0, .int .i64 0, .sl true 5 [], .sl true 5 [], .sl true 5 [], .int .i64 0, .int .i64 0, .int .i64 0, .bool false, .sl true 8 [], .sl true 9 [], .sl true 3 [], .int .i64 0, .str [], .str [], .int .i64 0, .int .i64 0, .int .i64 0, .int .i64 0, .int .i64 0, .int .i64 0, .bool false, .int .i64 0, .sl true 8 [], .int .i64 0, .int .i64 0, .sl true 2 [], .sl true 8 [], .bool false, .int .i64 0, .int .i64 0, .sl true 9 [], .sl true 3 [], .int .i64 0, .int .i64 0, .int .i64 0, .str [], .str [], .int .i64 0, .str [], .int .i64 0, .int .i64 0, .int .i64 0, .bool false, .int .i64 0, .int .i64 0, .int .i64 0, .str [], .str [], .int .i64 0, .str [], .int .i64 0, .int .i64 0, .int .i64 0, .int .i64 0, .nilp, .nilp, .bool false, .bool false, .nilp, .bool false], false⟩ | false => none
       | false =>
        match Nat.blt t 215 with
        | true =>
         match Nat.blt t 212 with
         | true =>
          match Nat.beq t 210 with | true => some ⟨true, 91, 1032, .struct [(95, 0), (3, 5), (205, 6), (56, 8), (4, 73), (44, 74), (2, 84), (206, 85), (207, 86), (4, 87), (4, 88), (208, 89), (4, 90)], .agg [.int .i64 0, .str [], .str [], .int .i64 0, .int .i64 0, .int .i64 0, .nilp, .nilp, .int .i64 0, .int .i64 0, .int .i64 0, .int .i64 0, .int .i64 0, .int .i64 0, .int .i64 0, .int .i64 0, .int .i64 0, .int .i64 0, .bool false, .sl true 3 [], .int .i64 0, .int .i64 0, .sl true 1 [], .int .i64 0, .int .i64 0, .int .i64 0, .str [], .str [], .str [], .int .i64 0, .int .i64 0, .int .i64 0, .sl true 5 [], .sl true 5 [], .sl true 5 [], .int .i64 0, .int .i64 0, .int .i64 0, .bool false, .sl true 8 [], .sl true 9 [], .sl true 3 [], .int .i64 0, .str [], .str [], .int .i64 0, .int .i64 0, .int .i64 0, .int .i64 0, .int .i64 0, .int .i64 0, .bool false, .int .i64 0, .sl true 8 [], .int .i64 0, .int .i64 0, .sl true 2 [], .sl true 8 [], .bool false, .int .i64 0, .int .i64 0, .sl true 9 [], .sl true 3 [], .int .i64 0, .int .i64 0, .int .i64 0, .str [], .str [], .int .i64 0, .str [], .int .i64 0, .int .i64 0, .int .i64 0, .bool false, .int .i64 0, .int .i64 0, .int .i64 0, .str [], .str [], .int .i64 0, .str [], .int .i64 0, .int .i64 0, .int .i64 0, .int .i64 0, .nilp, .nilp, .bool false, .bool false, .nilp, .bool false], false⟩ | false => none
         | false =>
          match Nat.blt t 214 with
          | true =>
           match Nat.beq t 212 with | true => some ⟨false, 1, 8, .func, .nilfn, false⟩ | false => none
          | false =>
           match Nat.beq t 214 with | true => some ⟨false, 1, 8, .func, .nilfn, false⟩ | false => none
        | false =>
         match Nat.blt t 216 with
         | true =>
          match Nat.beq t 215 with | true => some ⟨false, 1, 8, .func, .nilfn, false⟩ | false => none
         | false =>
          match Nat.blt t 217 with
          | true =>
           match Nat.beq t 216 with | true => some ⟨false, 1, 8, .func, .nilfn, false⟩ | false => none
          | false =>
           match Nat.beq t 217 with | true => some ⟨false, 1, 8, .ptr, .nilp, false⟩ | false => none
  | false =>
   match Nat.blt t 318 with
   | true =>
    match Nat.blt t 267 with
    | true =>
     match Nat.blt t 243 with
     | true =>
      match Nat.blt t 229 with
      | true =>
       match Nat.blt t 223 with
       | true =>
        match Nat.blt t 220 with
        | true =>
         match Nat.blt t 219 with
         | true =>
          match Nat.beq t 218 with | true => some ⟨true, 41, 472, .struct [(118, 0), (157, 5), (133, 12), (205, 34), (50, 36), (205, 37), (217, 39), (4, 40)], .agg [.int .i64 0, .str [], .str [], .int .i64 0, .int .i64 0, .int .i64 0, .bool false, .bool false, .int .i64 0, .int .i64 0, .int .i64 0, .int .i64 0, .bool false, .int .i64 0, .str [], .str [], .str [], .int .i64 0, .int .i64 0, .int .i64 0, .sl true 5 [], .sl true 5 [], .sl true 5 [], .int .i64 0, .int .i64 0, .int .i64 0, .bool false, .sl true 8 [], .sl true 9 [], .sl true 3 [], .str [], .str [], .int .i64 0, .int .i64 0, .nilp, .nilp, .nilp, .nilp, .nilp, .nilp, .bool false], false⟩ | false => none
         | false =>
          match Nat.beq t 219 with | true => some ⟨true, 41, 472, .struct [(118, 0), (157, 5), (133, 12), (205, 34), (50, 36), (205, 37), (217, 39), (4, 40)], .agg [.int .i64 0, .str [], .str [], .int .i64 0, .int .i64 0, .int .i64 0, .bool false, .bool false, .int .i64 0, .int .i64 0, .int .i64 0, .int .i64 0, .bool false, .int .i64 0, .str [], .str [], .str [], .int .i64 0, .int .i64 0, .int .i64 0, .sl true 5 [], .sl true 5 [], .sl true 5 [], .int .i64 0, .int .i64 0, .int .i64 0, .bool false, .sl true 8 [], .sl true 9 [], .sl true 3 [], .str [], .str [], .int .i64 0, .int .i64 0, .nilp, .nilp, .nilp, .nilp, .nilp, .nilp, .bool false], false⟩ | false => none
        | false =>
         match Nat.blt t 221 with
         | true =>
          match Nat.beq t 220 with | true => some ⟨false, 1, 8, .ptr, .nilp, false⟩ | false => none
         | false =>
          match Nat.blt t 222 with
          | true =>
           match Nat.beq t 221 with | true => some ⟨false, 1, 24, .slice 220, .sl true 1 [], false⟩ | false => none
          | false =>
           match Nat.beq t 222 with | true => some ⟨true, 3, 40, .struct [(2, 0), (40, 1), (37, 2)], .agg [.int .i64 0, .sl true 2 [], .int .i64 0], false⟩ | false => none
       | false =>
        match Nat.blt t 226 with
        | true =>
         match Nat.blt t 224 with
         | true =>
          match Nat.beq t 223 with | true => some ⟨true, 3, 40, .struct [(2, 0), (40, 1), (37, 2)], .agg [.int .i64 0, .sl true 2 [], .int .i64 0], false⟩ | false => none
         | false =>
          match Nat.blt t 225 with
          | true =>
           match Nat.beq t 224 with | true => some ⟨false, 1, 8, .func, .nilfn, false⟩ | false => none
          | false =>
           match Nat.beq t 225 with | true => some ⟨false, 1, 8, .func, .nilfn, false⟩ | false => none
        | false =>
         match Nat.blt t 227 with
         | true =>
          match Nat.beq t 226 with | true => some ⟨false, 1, 8, .func, .nilfn, false⟩ | false => none
         | false =>
          match Nat.blt t 228 with
          | true =>
           match Nat.beq t 227 with | true => some ⟨false, 1, 8, .func, .nilfn, false⟩ | false => none
          | false =>
           match Nat.beq t 228 with | true => some ⟨false, 1, 8, .func, .nilfn, false⟩ | false => none
      | false =>
       match Nat.blt t 237 with
       | true =>
        match Nat.blt t 234 with
        | true =>
         match Nat.blt t 231 with
         | true =>
          match Nat.beq t 229 with | true => some ⟨false, 1, 8, .func, .nilfn, false⟩ | false => none
         | false =>
          match Nat.blt t 232 with
          | true =>
           match Nat.beq t 231 with | true => some ⟨false, 1, 8, .func, .nilfn, false⟩ | false => none
          | false =>
           match Nat.beq t 232 with | true => some ⟨false, 1, 8, .func, .nilfn, false⟩ | false => none
        | false =>
         match Nat.blt t 235 with
         | true =>
          match Nat.beq t 234 with | true => some ⟨false, 1, 8, .func, .nilfn, false⟩ | false => none
         | false =>
          match Nat.blt t 236 with
          | true =>
           match Nat.beq t 235 with | true => some ⟨false, 1, 8, .func, .nilfn, false⟩ | false => none
          | false =>
           match Nat.beq t 236 with | true => some ⟨true, 5, 56, .struct [(9, 0), (3, 1), (3, 2), (2, 3), (9, 4)], .agg [.str [], .int .i64 0, .int .i64 0, .int .i64 0, .str []], true⟩ | false => none
       | false =>
        match Nat.blt t 240 with
        | true =>
         match Nat.blt t 238 with
         | true =>
          match Nat.beq t 237 with | true => some ⟨true, 5, 56, .struct [(9, 0), (3, 1), (3, 2), (2, 3), (9, 4)], .agg [.str [], .int .i64 0, .int .i64 0, .int .i64 0, .str []], true⟩ | false => none
         | false =>
          match Nat.blt t 239 with
          | true =>
           match Nat.beq t 238 with | true => some ⟨false, 1, 8, .func, .nilfn, false⟩ | false => none
          | false =>
           match Nat.beq t 239 with | true => some ⟨true, 5, 64, .struct [(3, 0), (9, 1), (9, 2), (9, 3), (2, 4)], .agg [.int .i64 0, .str [], .str [], .str [], .int .i64 0], true⟩ | false => none
        | false =>
         match Nat.blt t 241 with
         | true =>
          match Nat.beq t 240 with | true => some ⟨true, 5, 64, .struct [(3, 0), (9, 1), (9, 2), (9, 3), (2, 4)], .agg [.int .i64 0, .str [], .str [], .str [], .int .i64 0], true⟩ | false => none
         | false =>
          match Nat.blt t 242 with
          | true =>
           match Nat.beq t 241 with | true => some ⟨true, 5, 40, .array 5 3, .agg [.int .i64 0, .int .i64 0, .int .i64 0, .int .i64 0, .int .i64 0], true⟩ | false => none
          | false =>
           match Nat.beq t 242 with | true => some ⟨false, 1, 8, .func, .nilfn, false⟩ | false => none
     | false =>
      match Nat.blt t 255 with
      | true =>
       match Nat.blt t 249 with
       | true =>
        match Nat.blt t 246 with
        | true =>
         match Nat.blt t 244 with
         | true =>
          match Nat.beq t 243 with | true => some ⟨false, 1, 8, .func, .nilfn, false⟩ | false => none
         | false =>
          match Nat.blt t 245 with
          | true =>
           match Nat.beq t 244 with | true => some ⟨false, 1, 8, .func, .nilfn, false⟩ | false => none
          | false =>
           match Nat.beq t 245 with | true => some ⟨false, 1, 8, .func, .nilfn, false⟩ | false => none
        | false =>
         match Nat.blt t 247 with
         | true =>
          match Nat.beq t 246 with | true => some ⟨false, 1, 8, .func, .nilfn, false⟩ | false => none
         | false =>
          match Nat.blt t 248 with
          | true =>
           match Nat.beq t 247 with | true => some ⟨false, 1, 8, .func, .nilfn, false⟩ | false => none
          | false =>
           match Nat.beq t 248 with | true => some ⟨false, 1, 8, .func, .nilfn, false⟩ | false => none
       | false =>
        match Nat.blt t 252 with
        | true =>
         match Nat.blt t 250 with
         | true =>
          match Nat.beq t 249 with | true => some ⟨false, 1, 8, .func, .nilfn, false⟩ | false => none
         | false =>
          match Nat.blt t 251 with
          | true =>
           match Nat.beq t 250 with | true => some ⟨false, 1, 8, .func, .nilfn, false⟩ | false => none
          | false =>
           match Nat.beq t 251 with | true => some ⟨false, 1, 8, .func, .nilfn, false⟩ | false => none
        | false =>
         match Nat.blt t 253 with
         | true =>
          match Nat.beq t 252 with | true => some ⟨false, 1, 8, .func, .nilfn, false⟩ | false => none
         | false =>
          match Nat.blt t 254 with
          | true =>
           match Nat.beq t 253 with | true => some ⟨false, 1, 8, .func, .nilfn, false⟩ | false => none
          | false =>
           match Nat.beq t 254 with | true => some ⟨true, 3, 24, .struct [(2, 0), (2, 1), (2, 2)], .agg [.int .i64 0, .int .i64 0, .int .i64 0], true⟩ | false => none
      | false =>
       match Nat.blt t 261 with
       | true =>
        match Nat.blt t 258 with
        | true =>
         match Nat.blt t 256 with
         | true =>
          match Nat.beq t 255 with | true => some ⟨true, 3, 24, .struct [(2, 0), (2, 1), (2, 2)], .agg [.int .i64 0, .int .i64 0, .int .i64 0], true⟩ | false => none
         | false =>
          match Nat.blt t 257 with
          | true =>
           match Nat.beq t 256 with | true => some ⟨true, 1, 24, .struct [(23, 0)], .agg [.sl true 1 []], false⟩ | false => none
          | false =>
           match Nat.beq t 257 with | true => some ⟨true, 1, 24, .struct [(23, 0)], .agg [.sl true 1 []], false⟩ | false => none
        | false =>
         match Nat.blt t 259 with
         | true =>
          match Nat.beq t 258 with | true => some ⟨false, 1, 8, .func, .nilfn, false⟩ | false => none
         | false =>
          match Nat.blt t 260 with
          | true =>
           match Nat.beq t 259 with | true => some ⟨false, 1, 8, .func, .nilfn, false⟩ | false => none
          | false =>
           match Nat.beq t 260 with | true => some ⟨false, 1, 8, .ptr, .nilp, false⟩ | false => none
       | false =>
        match Nat.blt t 264 with
        | true =>
         match Nat.blt t 262 with
         | true =>
          match Nat.beq t 261 with | true => some ⟨false, 1, 8, .func, .nilfn, false⟩ | false => none
         | false =>
          match Nat.blt t 263 with
          | true =>
           match Nat.beq t 262 with | true => some ⟨false, 1, 8, .func, .nilfn, false⟩ | false => none
          | false =>
           match Nat.beq t 263 with | true => some ⟨false, 1, 8, .func, .nilfn, false⟩ | false => none
        | false =>
         match Nat.blt t 265 with
         | true =>
          match Nat.beq t 264 with | true => some ⟨false, 1, 8, .func, .nilfn, false⟩ | false => none
         | false =>
          match Nat.blt t 266 with
          | true =>
           match Nat.beq t 265 with | true => some ⟨false, 1, 8, .func, .nilfn, false⟩ | false => none
          | false =>
           match Nat.beq t 266 with | true => some ⟨false, 1, 8, .func, .nilfn, false⟩ | false => none
    | false =>
     match Nat.blt t 291 with
     | true =>
      match Nat.blt t 279 with
      | true =>
       match Nat.blt t 273 with
       | true =>
        match Nat.blt t 270 with
        | true =>
         match Nat.blt t 268 with
         | true =>
          match Nat.beq t 267 with | true => some ⟨false, 1, 8, .ptr, .nilp, false⟩ | false => none
         | false =>
          match Nat.blt t 269 with
          | true =>
           match Nat.beq t 268 with | true => some ⟨false, 1, 8, .func, .nilfn, false⟩ | false => none
          | false =>
           match Nat.beq t 269 with | true => some ⟨false, 1, 8, .func, .nilfn, false⟩ | false => none
        | false =>
         match Nat.blt t 271 with
         | true =>
          match Nat.beq t 270 with | true => some ⟨false, 1, 8, .func, .nilfn, false⟩ | false => none
         | false =>
          match Nat.blt t 272 with
          | true =>
           match Nat.beq t 271 with | true => some ⟨false, 1, 8, .func, .nilfn, false⟩ | false => none
          | false =>
           match Nat.beq t 272 with | true => some ⟨false, 1, 8, .ptr, .nilp, false⟩ | false => none
       | false =>
        match Nat.blt t 276 with
        | true =>
         match Nat.blt t 274 with
         | true =>
          match Nat.beq t 273 with | true => some ⟨false, 1, 8, .func, .nilfn, false⟩ | false => none
         | false =>
          match Nat.blt t 275 with
          | true =>
           match Nat.beq t 274 with | true => some ⟨false, 1, 8, .func, .nilfn, false⟩ | false => none
          | false =>
           match Nat.beq t 275 with | true => some ⟨false, 1, 8, .func, .nilfn, false⟩ | false => none
        | false =>
         match Nat.blt t 277 with
         | true =>
          match Nat.beq t 276 with | true => some ⟨false, 1, 8, .func, .nilfn, false⟩ | false => none
         | false =>
          match Nat.blt t 278 with
          | true =>
           match Nat.beq t 277 with | true => some ⟨false, 1, 8, .func, .nilfn, false⟩ | false => none
          | false =>
           match Nat.beq t 278 with | true => some ⟨false, 1, 8, .func, .nilfn, false⟩ | false => none
      | false =>
       match Nat.blt t 285 with
       | true =>
        match Nat.blt t 282 with
        | true =>
         match Nat.blt t 280 with
         | true =>
          match Nat.beq t 279 with | true => some ⟨false, 1, 8, .func, .nilfn, false⟩ | false => none
         | false =>
          match Nat.blt t 281 with
          | true =>
           match Nat.beq t 280 with | true => some ⟨false, 1, 8, .func, .nilfn, false⟩ | false => none
          | false =>
           match Nat.beq t 281 with | true => some ⟨false, 1, 8, .func, .nilfn, false⟩ | false => none
        | false =>
         match Nat.blt t 283 with
         | true =>
          match Nat.beq t 282 with | true => some ⟨false, 1, 8, .func, .nilfn, false⟩ | false => none
         | false =>
          match Nat.blt t 284 with
          | true =>
           match Nat.beq t 283 with | true => some ⟨false, 1, 8, .func, .nilfn, false⟩ | false => none
          | false =>
           match Nat.beq t 284 with | true => some ⟨true, 13, 104, .array 13 3, .agg [.int .i64 0, .int .i64 0, .int .i64 0, .int .i64 0, .int .i64 0, .int .i64 0, .int .i64 0, .int .i64 0, .int .i64 0, .int .i64 0, .int .i64 0, .int .i64 0, .int .i64 0], true⟩ | false => none
       | false =>
        match Nat.blt t 288 with
        | true =>
         match Nat.blt t 286 with
         | true =>
          match Nat.beq t 285 with | true => some ⟨true, 3, 40, .struct [(2, 0), (2, 1), (23, 2)], .agg [.int .i64 0, .int .i64 0, .sl true 1 []], false⟩ | false => none
         | false =>
          match Nat.blt t 287 with
          | true =>
           match Nat.beq t 286 with | true => some ⟨false, 1, 8, .func, .nilfn, false⟩ | false => none
          | false =>
           match Nat.beq t 287 with | true => some ⟨false, 1, 8, .func, .nilfn, false⟩ | false => none
        | false =>
         match Nat.blt t 289 with
         | true =>
          match Nat.beq t 288 with | true => some ⟨false, 1, 8, .func, .nilfn, false⟩ | false => none
         | false =>
          match Nat.blt t 290 with
          | true =>
           match Nat.beq t 289 with | true => some ⟨false, 1, 8, .func, .nilfn, false⟩ | false => none
          | false =>
           match Nat.beq t 290 with | true => some ⟨false, 1, 8, .func, .nilfn, false⟩ | false => none
     | false =>
      match Nat.blt t 303 with
      | true =>
       match Nat.blt t 297 with
       | true =>
        match Nat.blt t 294 with
        | true =>
         match Nat.blt t 292 with
         | true =>
          match Nat.beq t 291 with | true => some ⟨false, 1, 8, .func, .nilfn, false⟩ | false => none
         | false =>
          match Nat.blt t 293 with
          | true =>
           match Nat.beq t 292 with | true => some ⟨false, 1, 8, .func, .nilfn, false⟩ | false => none
          | false =>
           match Nat.beq t 293 with | true => some ⟨false, 1, 8, .func, .nilfn, false⟩ | false => none
        | false =>
         match Nat.blt t 295 with
         | true =>
          match Nat.beq t 294 with | true => some ⟨false, 1, 8, .func, .nilfn, false⟩ | false => none
         | false =>
          match Nat.blt t 296 with
          | true =>
           match Nat.beq t 295 with | true => some ⟨false, 1, 8, .func, .nilfn, false⟩ | false => none
          | false =>
           match Nat.beq t 296 with | true => some ⟨false, 1, 8, .func, .nilfn, false⟩ | false => none
       | false =>
        match Nat.blt t 300 with
        | true =>
         match Nat.blt t 298 with
         | true =>
          match Nat.beq t 297 with | true => some ⟨false, 1, 8, .func, .nilfn, false⟩ | false => none
         | false =>
          match Nat.blt t 299 with
          | true =>
           match Nat.beq t 298 with | true => some ⟨false, 1, 8, .func, .nilfn, false⟩ | false => none
          | false =>
           match Nat.beq t 299 with | true => some ⟨false, 1, 8, .func, .nilfn, false⟩ | false => none
        | false =>
         match Nat.blt t 301 with
         | true =>
          match Nat.beq t 300 with | true => some ⟨false, 1, 8, .func, .nilfn, false⟩ | false => none
         | false =>
          match Nat.blt t 302 with
          | true =>
           match Nat.beq t 301 with | true => some ⟨false, 1, 8, .func, .nilfn, false⟩ | false => none
          | false =>
           match Nat.beq t 302 with | true => some ⟨false, 1, 8, .func, .nilfn, false⟩ | false => none
      | false =>
       match Nat.blt t 312 with
       | true =>
        match Nat.blt t 307 with
        | true =>
         match Nat.blt t 304 with
         | true =>
          match Nat.beq t 303 with | true => some ⟨false, 1, 8, .func, .nilfn, false⟩ | false => none
         | false =>
          match Nat.blt t 305 with
          | true =>
           match Nat.beq t 304 with | true => some ⟨true, 2, 32, .struct [(30, 0), (4, 1)], .agg [.sl true 8 [], .bool false], false⟩ | false => none
          | false =>
           match Nat.beq t 305 with | true => some ⟨true, 2, 32, .struct [(30, 0), (4, 1)], .agg [.sl true 8 [], .bool false], false⟩ | false => none
        | false =>
         match Nat.blt t 309 with
         | true =>
          match Nat.beq t 307 with | true => some ⟨false, 1, 8, .func, .nilfn, false⟩ | false => none
         | false =>
          match Nat.blt t 310 with
          | true =>
           match Nat.beq t 309 with | true => some ⟨false, 1, 8, .func, .nilfn, false⟩ | false => none
          | false =>
           match Nat.beq t 310 with | true => some ⟨true, 2, 32, .array 2 9, .agg [.str [], .str []], true⟩ | false => none
       | false =>
        match Nat.blt t 315 with
        | true =>
         match Nat.blt t 313 with
         | true =>
          match Nat.beq t 312 with | true => some ⟨false, 1, 8, .func, .nilfn, false⟩ | false => none
         | false =>
          match Nat.blt t 314 with
          | true =>
           match Nat.beq t 313 with | true => some ⟨false, 1, 8, .func, .nilfn, false⟩ | false => none
          | false =>
           match Nat.beq t 314 with | true => some ⟨false, 1, 8, .func, .nilfn, false⟩ | false => none
        | false =>
         match Nat.blt t 316 with
         | true =>
          match Nat.beq t 315 with | true => some ⟨false, 1, 8, .func, .nilfn, false⟩ | false => none
         | false =>
          match Nat.blt t 317 with
          | true =>
           match Nat.beq t 316 with | true => some ⟨false, 1, 8, .int .u64, .int .u64 0, false⟩ | false => none
          | false =>
           match Nat.beq t 317 with | true => some ⟨false, 1, 24, .slice 3, .sl true 1 [], false⟩ | false => none
   | false =>
    match Nat.blt t 370 with
    | true =>
     match Nat.blt t 343 with
     | true =>
      match Nat.blt t 330 with
      | true =>
       match Nat.blt t 324 with
       | true =>
        match Nat.blt t 321 with
        | true =>
         match Nat.blt t 319 with
         | true =>
          match Nat.beq t 318 with | true => some ⟨false, 1, 24, .slice 2, .sl true 1 [], false⟩ | false => none
         | false =>
          match Nat.blt t 320 with
          | true =>
           match Nat.beq t 319 with | true => some ⟨false, 1, 8, .func, .nilfn, false⟩ | false => none
          | false =>
           match Nat.beq t 320 with | true => some ⟨false, 1, 8, .func, .nilfn, false⟩ | false => none
        | false =>
         match Nat.blt t 322 with
         | true =>
          match Nat.beq t 321 with | true => some ⟨false, 1, 8, .func, .nilfn, false⟩ | false => none
         | false =>
          match Nat.blt t 323 with
          | true =>
           match Nat.beq t 322 with | true => some ⟨false, 1, 8, .func, .nilfn, false⟩ | false => none
          | false =>
           match Nat.beq t 323 with | true => some ⟨false, 1, 8, .func, .nilfn, false⟩ | false => none
       | false =>
        match Nat.blt t 327 with
        | true =>
         match Nat.blt t 325 with
         | true =>
          match Nat.beq t 324 with | true => some ⟨false, 1, 8, .func, .nilfn, false⟩ | false => none
         | false =>
          match Nat.blt t 326 with
          | true =>
           match Nat.beq t 325 with | true => some ⟨false, 1, 8, .func, .nilfn, false⟩ | false => none
          | false =>
           match Nat.beq t 326 with | true => some ⟨false, 1, 8, .func, .nilfn, false⟩ | false => none
        | false =>
         match Nat.blt t 328 with
         | true =>
          match Nat.beq t 327 with | true => some ⟨false, 1, 8, .func, .nilfn, false⟩ | false => none
         | false =>
          match Nat.blt t 329 with
          | true =>
           match Nat.beq t 328 with | true => some ⟨false, 1, 8, .func, .nilfn, false⟩ | false => none
          | false =>
           match Nat.beq t 329 with | true => some ⟨false, 1, 8, .func, .nilfn, false⟩ | false => none
      | false =>
       match Nat.blt t 336 with
       | true =>
        match Nat.blt t 333 with
        | true =>
         match Nat.blt t 331 with
         | true =>
          match Nat.beq t 330 with | true => some ⟨false, 1, 8, .func, .nilfn, false⟩ | false => none
         | false =>
          match Nat.blt t 332 with
          | true =>
           match Nat.beq t 331 with | true => some ⟨false, 1, 8, .func, .nilfn, false⟩ | false => none
          | false =>
           match Nat.beq t 332 with | true => some ⟨false, 1, 8, .func, .nilfn, false⟩ | false => none
        | false =>
         match Nat.blt t 334 with
         | true =>
          match Nat.beq t 333 with | true => some ⟨true, 2, 32, .struct [(23, 0), (4, 1)], .agg [.sl true 1 [], .bool false], false⟩ | false => none
         | false =>
          match Nat.blt t 335 with
          | true =>
           match Nat.beq t 334 with | true => some ⟨true, 2, 32, .struct [(23, 0), (4, 1)], .agg [.sl true 1 [], .bool false], false⟩ | false => none
          | false =>
           match Nat.beq t 335 with | true => some ⟨false, 1, 8, .func, .nilfn, false⟩ | false => none
       | false =>
        match Nat.blt t 340 with
        | true =>
         match Nat.blt t 337 with
         | true =>
          match Nat.beq t 336 with | true => some ⟨false, 1, 8, .func, .nilfn, false⟩ | false => none
         | false =>
          match Nat.blt t 338 with
          | true =>
           match Nat.beq t 337 with | true => some ⟨false, 1, 8, .func, .nilfn, false⟩ | false => none
          | false =>
           match Nat.beq t 338 with | true => some ⟨false, 1, 8, .func, .nilfn, false⟩ | false => none
        | false =>
         match Nat.blt t 341 with
         | true =>
          match Nat.beq t 340 with | true => some ⟨false, 1, 8, .func, .nilfn, false⟩ | false => none
         | false =>
          match Nat.blt t 342 with
          | true =>
           match Nat.beq t 341 with | true => some ⟨false, 1, 8, .func, .nilfn, false⟩ | false => none
          | false =>
           match Nat.beq t 342 with | true => some ⟨false, 1, 8, .func, .nilfn, false⟩ | false => none
     | false =>
      match Nat.blt t 356 with
      | true =>
       match Nat.blt t 349 with
       | true =>
        match Nat.blt t 346 with
        | true =>
         match Nat.blt t 344 with
         | true =>
          match Nat.beq t 343 with | true => some ⟨false, 1, 8, .func, .nilfn, false⟩ | false => none
         | false =>
          match Nat.blt t 345 with
          | true =>
           match Nat.beq t 344 with | true => some ⟨false, 1, 8, .func, .nilfn, false⟩ | false => none
          | false =>
           match Nat.beq t 345 with | true => some ⟨false, 1, 24, .slice 23, .sl true 1 [], false⟩ | false => none
        | false =>
         match Nat.blt t 347 with
         | true =>
          match Nat.beq t 346 with | true => some ⟨true, 5, 40, .array 5 2, .agg [.int .i64 0, .int .i64 0, .int .i64 0, .int .i64 0, .int .i64 0], true⟩ | false => none
         | false =>
          match Nat.blt t 348 with
          | true =>
           match Nat.beq t 347 with | true => some ⟨false, 1, 8, .func, .nilfn, false⟩ | false => none
          | false =>
           match Nat.beq t 348 with | true => some ⟨false, 1, 8, .func, .nilfn, false⟩ | false => none
       | false =>
        match Nat.blt t 353 with
        | true =>
         match Nat.blt t 350 with
         | true =>
          match Nat.beq t 349 with | true => some ⟨false, 1, 8, .func, .nilfn, false⟩ | false => none
         | false =>
          match Nat.blt t 351 with
          | true =>
           match Nat.beq t 350 with | true => some ⟨false, 1, 8, .func, .nilfn, false⟩ | false => none
          | false =>
           match Nat.beq t 351 with | true => some ⟨false, 1, 8, .func, .nilfn, false⟩ | false => none
        | false =>
         match Nat.blt t 354 with
         | true =>
          match Nat.beq t 353 with | true => some ⟨false, 1, 8, .func, .nilfn, false⟩ | false => none
         | false =>
          match Nat.blt t 355 with
          | true =>
           match Nat.beq t 354 with | true => some ⟨false, 1, 8, .func, .nilfn, false⟩ | false => none
          | false =>
           match Nat.beq t 355 with | true => some ⟨false, 1, 8, .func, .nilfn, false⟩ | false => none
      | false =>
       match Nat.blt t 362 with
       | true =>
        match Nat.blt t 359 with
        | true =>
         match Nat.blt t 357 with
         | true =>
          match Nat.beq t 356 with | true => some ⟨false, 1, 8, .func, .nilfn, false⟩ | false => none
         | false =>
          match Nat.blt t 358 with
          | true =>
           match Nat.beq t 357 with | true => some ⟨false, 1, 8, .func, .nilfn, false⟩ | false => none
          | false =>
           match Nat.beq t 358 with | true => some ⟨false, 1, 8, .func, .nilfn, false⟩ | false => none
        | false =>
         match Nat.blt t 360 with
         | true =>
          match Nat.beq t 359 with | true => some ⟨false, 1, 8, .func, .nilfn, false⟩ | false => none
         | false =>
          match Nat.blt t 361 with
          | true =>
           match Nat.beq t 360 with | true => some ⟨false, 1, 8, .func, .nilfn, false⟩ | false => none
          | false =>
           match Nat.beq t 361 with | true => some ⟨false, 1, 8, .func, .nilfn, false⟩ | false => none
       | false =>
        match Nat.blt t 365 with
        | true =>
         match Nat.blt t 363 with
         | true =>
          match Nat.beq t 362 with | true => some ⟨false, 1, 8, .func, .nilfn, false⟩ | false => none
         | false =>
          match Nat.blt t 364 with
          | true =>
           match Nat.beq t 363 with | true => some ⟨false, 1, 8, .func, .nilfn, false⟩ | false => none
          | false =>
           match Nat.beq t 364 with | true => some ⟨false, 1, 8, .func, .nilfn, false⟩ | false => none
        | false =>
         match Nat.blt t 366 with
         | true =>
          match Nat.beq t 365 with | true => some ⟨true, 2, 32, .struct [(30, 0), (2, 1)], .agg [.sl true 8 [], .int .i64 0], false⟩ | false => none
         | false =>
          match Nat.blt t 368 with
          | true =>
           match Nat.beq t 366 with | true => some ⟨true, 2, 32, .struct [(30, 0), (2, 1)], .agg [.sl true 8 [], .int .i64 0], false⟩ | false => none
          | false =>
           match Nat.beq t 368 with | true => some ⟨false, 1, 8, .func, .nilfn, false⟩ | false => none
    | false =>
     match Nat.blt t 396 with
     | true =>
      match Nat.blt t 384 with
      | true =>
       match Nat.blt t 377 with
       | true =>
        match Nat.blt t 374 with
        | true =>
         match Nat.blt t 372 with
         | true =>
          match Nat.beq t 370 with | true => some ⟨false, 1, 8, .func, .nilfn, false⟩ | false => none
         | false =>
          match Nat.blt t 373 with
          | true =>
           match Nat.beq t 372 with | true => some ⟨false, 1, 8, .func, .nilfn, false⟩ | false => none
          | false =>
           match Nat.beq t 373 with | true => some ⟨false, 1, 8, .func, .nilfn, false⟩ | false => none
        | false =>
         match Nat.blt t 375 with
         | true =>
          match Nat.beq t 374 with | true => some ⟨false, 1, 24, .slice 9, .sl true 1 [], false⟩ | false => none
         | false =>
          match Nat.blt t 376 with
          | true =>
           match Nat.beq t 375 with | true => some ⟨false, 1, 8, .func, .nilfn, false⟩ | false => none
          | false =>
           match Nat.beq t 376 with | true => some ⟨false, 1, 8, .func, .nilfn, false⟩ | false => none
       | false =>
        match Nat.blt t 380 with
        | true =>
         match Nat.blt t 378 with
         | true =>
          match Nat.beq t 377 with | true => some ⟨false, 1, 8, .func, .nilfn, false⟩ | false => none
         | false =>
          match Nat.blt t 379 with
          | true =>
           match Nat.beq t 378 with | true => some ⟨false, 1, 8, .func, .nilfn, false⟩ | false => none
          | false =>
           match Nat.beq t 379 with | true => some ⟨false, 1, 8, .int .u64, .int .u64 0, false⟩ | false => none
        | false =>
         match Nat.blt t 381 with
         | true =>
          match Nat.beq t 380 with | true => some ⟨false, 1, 8, .func, .nilfn, false⟩ | false => none
         | false =>
          match Nat.blt t 383 with
          | true =>
           match Nat.beq t 381 with | true => some ⟨false, 1, 8, .func, .nilfn, false⟩ | false => none
          | false =>
           match Nat.beq t 383 with | true => some ⟨false, 1, 8, .func, .nilfn, false⟩ | false => none
      | false =>
       match Nat.blt t 390 with
       | true =>
        match Nat.blt t 387 with
        | true =>
         match Nat.blt t 385 with
         | true =>
          match Nat.beq t 384 with | true => some ⟨false, 1, 8, .func, .nilfn, false⟩ | false => none
         | false =>
          match Nat.blt t 386 with
          | true =>
           match Nat.beq t 385 with | true => some ⟨false, 1, 8, .func, .nilfn, false⟩ | false => none
          | false =>
           match Nat.beq t 386 with | true => some ⟨false, 1, 8, .func, .nilfn, false⟩ | false => none
        | false =>
         match Nat.blt t 388 with
         | true =>
          match Nat.beq t 387 with | true => some ⟨false, 1, 8, .func, .nilfn, false⟩ | false => none
         | false =>
          match Nat.blt t 389 with
          | true =>
           match Nat.beq t 388 with | true => some ⟨false, 1, 8, .func, .nilfn, false⟩ | false => none
          | false =>
           match Nat.beq t 389 with | true => some ⟨false, 1, 24, .slice 162, .sl true 7 [], false⟩ | false => none
       | false =>
        match Nat.blt t 393 with
        | true =>
         match Nat.blt t 391 with
         | true =>
          match Nat.beq t 390 with | true => some ⟨false, 1, 8, .func, .nilfn, false⟩ | false => none
         | false =>
          match Nat.blt t 392 with
          | true =>
           match Nat.beq t 391 with | true => some ⟨false, 1, 8, .func, .nilfn, false⟩ | false => none
          | false =>
           match Nat.beq t 392 with | true => some ⟨false, 1, 8, .func, .nilfn, false⟩ | false => none
        | false =>
         match Nat.blt t 394 with
         | true =>
          match Nat.beq t 393 with | true => some ⟨false, 1, 8, .func, .nilfn, false⟩ | false => none
         | false =>
          match Nat.blt t 395 with
          | true =>
           match Nat.beq t 394 with | true => some ⟨false, 1, 8, .func, .nilfn, false⟩ | false => none
          | false =>
           match Nat.beq t 395 with | true => some ⟨false, 1, 8, .func, .nilfn, false⟩ | false => none
     | false =>
      match Nat.blt t 408 with
      | true =>
       match Nat.blt t 402 with
       | true =>
        match Nat.blt t 399 with
        | true =>
         match Nat.blt t 397 with
         | true =>
          match Nat.beq t 396 with | true => some ⟨false, 1, 8, .func, .nilfn, false⟩ | false => none
         | false =>
          match Nat.blt t 398 with
          | true =>
           match Nat.beq t 397 with | true => some ⟨false, 1, 8, .func, .nilfn, false⟩ | false => none
          | false =>
           match Nat.beq t 398 with | true => some ⟨false, 1, 8, .func, .nilfn, false⟩ | false => none
        | false =>
         match Nat.blt t 400 with
         | true =>
          match Nat.beq t 399 with | true => some ⟨false, 1, 8, .func, .nilfn, false⟩ | false => none
         | false =>
          match Nat.blt t 401 with
          | true =>
           match Nat.beq t 400 with | true => some ⟨false, 1, 8, .func, .nilfn, false⟩ | false => none
          | false =>
           match Nat.beq t 401 with | true => some ⟨false, 1, 8, .func, .nilfn, false⟩ | false => none
       | false =>
        match Nat.blt t 405 with
        | true =>
         match Nat.blt t 403 with
         | true =>
          match Nat.beq t 402 with | true => some ⟨false, 1, 8, .func, .nilfn, false⟩ | false => none
         | false =>
          match Nat.blt t 404 with
          | true =>
           match Nat.beq t 403 with | true => some ⟨false, 1, 8, .func, .nilfn, false⟩ | false => none
          | false =>
           match Nat.beq t 404 with | true => some ⟨false, 1, 8, .func, .nilfn, false⟩ | false => none
        | false =>
         match Nat.blt t 406 with
         | true =>
          match Nat.beq t 405 with | true => some ⟨false, 1, 8, .func, .nilfn, false⟩ | false => none
         | false =>
          match Nat.blt t 407 with
          | true =>
           match Nat.beq t 406 with | true => some ⟨false, 1, 8, .func, .nilfn, false⟩ | false => none
          | false =>
           match Nat.beq t 407 with | true => some ⟨false, 1, 8, .func, .nilfn, false⟩ | false => none
      | false =>
       match Nat.blt t 417 with
       | true =>
        match Nat.blt t 414 with
        | true =>
         match Nat.blt t 409 with
         | true =>
          match Nat.beq t 408 with | true => some ⟨false, 1, 8, .func, .nilfn, false⟩ | false => none
         | false =>
          match Nat.blt t 410 with
          | true =>
           match Nat.beq t 409 with | true => some ⟨true, 4, 40, .struct [(17, 0), (17, 1), (17, 2), (9, 3)], .agg [.nilp, .nilp, .nilp, .str []], false⟩ | false => none
          | false =>
           match Nat.beq t 410 with | true => some ⟨true, 4, 40, .struct [(17, 0), (17, 1), (17, 2), (9, 3)], .agg [.nilp, .nilp, .nilp, .str []], false⟩ | false => none
        | false =>
         match Nat.blt t 415 with
         | true =>
          match Nat.beq t 414 with | true => some ⟨false, 1, 4, .int .u32, .int .u32 0, false⟩ | false => none
         | false =>
          match Nat.blt t 416 with
          | true =>
           match Nat.beq t 415 with | true => some ⟨false, 1, 1, .int .u8, .int .u8 0, false⟩ | false => none
          | false =>
           match Nat.beq t 416 with | true => some ⟨false, 1, 1, .int .u8, .int .u8 0, false⟩ | false => none
       | false =>
        match Nat.blt t 420 with
        | true =>
         match Nat.blt t 418 with
         | true =>
          match Nat.beq t 417 with | true => some ⟨false, 1, 8, .func, .nilfn, false⟩ | false => none
         | false =>
          match Nat.blt t 419 with
          | true =>
           match Nat.beq t 418 with | true => some ⟨false, 1, 8, .ptr, .nilp, false⟩ | false => none
          | false =>
           match Nat.beq t 419 with | true => some ⟨false, 1, 4, .int .i32, .int .i32 0, false⟩ | false => none
        | false =>
         match Nat.blt t 421 with
         | true =>
          match Nat.beq t 420 with | true => some ⟨false, 1, 4, .int .i32, .int .i32 0, false⟩ | false => none
         | false =>
          match Nat.blt t 422 with
          | true =>
           match Nat.beq t 421 with | true => some ⟨true, 11, 48, .struct [(12, 0), (12, 1), (414, 2), (415, 3), (5, 4), (5, 5), (416, 6), (417, 7), (418, 8), (419, 9), (420, 10)], .agg [.int .u64 0, .int .u64 0, .int .u32 0, .int .u8 0, .int .u8 0, .int .u8 0, .int .u8 0, .nilfn, .nilp, .int .i32 0, .int .i32 0], false⟩ | false => none
          | false =>
           match Nat.beq t 422 with | true => some ⟨true, 11, 48, .struct [(12, 0), (12, 1), (414, 2), (415, 3), (5, 4), (5, 5), (416, 6), (417, 7), (418, 8), (419, 9), (420, 10)], .agg [.int .u64 0, .int .u64 0, .int .u32 0, .int .u8 0, .int .u8 0, .int .u8 0, .int .u8 0, .nilfn, .nilp, .int .i32 0, .int .i32 0], false⟩ | false => none
-- 382 types of 424; last 422
def C0 (X : Ops) : Cf := { x := X, ti := ti, pf := fun _ => none, tr := fun _ => false, hp := fun _ => false, fz := fun _ => false, rt := fun t => t }
end Go.V
