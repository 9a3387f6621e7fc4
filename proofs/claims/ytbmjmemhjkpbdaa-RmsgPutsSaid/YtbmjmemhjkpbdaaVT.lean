/- The types of this translation, as a table. Printed by a program (wip/Tab.lean). -/
import Derived.Test.YtbmjmemhjkpbdaaVA
import Derived.Test.YtbmjmemhjkpbdaaProg
set_option linter.unusedVariables false
set_option linter.unusedSimpArgs false
namespace Go.V
def ti (t : Nat) : Option TInfo :=
  match Nat.blt t 64 with
  | true =>
   match Nat.blt t 31 with
   | true =>
    match Nat.blt t 15 with
    | true =>
     match Nat.blt t 8 with
     | true =>
      match Nat.blt t 4 with
      | true =>
       match Nat.blt t 2 with
       | true =>
        match Nat.beq t 1 with | true => some ⟨false, 1, 8, .func, .nilfn, false⟩ | false => none
       | false =>
        match Nat.blt t 3 with
        | true =>
         match Nat.beq t 2 with | true => some ⟨false, 1, 8, .int .i64, .int .i64 0, false⟩ | false => none
        | false =>
         match Nat.beq t 3 with | true => some ⟨false, 1, 8, .int .i64, .int .i64 0, false⟩ | false => none
      | false =>
       match Nat.blt t 6 with
       | true =>
        match Nat.blt t 5 with
        | true =>
         match Nat.beq t 4 with | true => some ⟨false, 1, 1, .bool, .bool false, false⟩ | false => none
        | false =>
         match Nat.beq t 5 with | true => some ⟨false, 1, 1, .int .u8, .int .u8 0, false⟩ | false => none
       | false =>
        match Nat.blt t 7 with
        | true =>
         match Nat.beq t 6 with | true => some ⟨false, 1, 1, .int .u8, .int .u8 0, false⟩ | false => none
        | false =>
         match Nat.beq t 7 with | true => some ⟨true, 4, 24, .struct [(2, 0), (3, 1), (4, 2), (6, 3)], .agg [.int .i64 0, .int .i64 0, .bool false, .int .u8 0], false⟩ | false => none
     | false =>
      match Nat.blt t 11 with
      | true =>
       match Nat.blt t 9 with
       | true =>
        match Nat.beq t 8 with | true => some ⟨true, 4, 24, .struct [(2, 0), (3, 1), (4, 2), (6, 3)], .agg [.int .i64 0, .int .i64 0, .bool false, .int .u8 0], false⟩ | false => none
       | false =>
        match Nat.blt t 10 with
        | true =>
         match Nat.beq t 9 with | true => some ⟨false, 1, 16, .str, .str [], false⟩ | false => none
        | false =>
         match Nat.beq t 10 with | true => some ⟨false, 1, 16, .str, .str [], false⟩ | false => none
      | false =>
       match Nat.blt t 13 with
       | true =>
        match Nat.blt t 12 with
        | true =>
         match Nat.beq t 11 with | true => some ⟨false, 1, 16, .str, .str [], false⟩ | false => none
        | false =>
         match Nat.beq t 12 with | true => some ⟨false, 1, 8, .int .u64, .int .u64 0, false⟩ | false => none
       | false =>
        match Nat.blt t 14 with
        | true =>
         match Nat.beq t 13 with | true => some ⟨true, 2, 24, .struct [(9, 0), (12, 1)], .agg [.str [], .int .u64 0], false⟩ | false => none
        | false =>
         match Nat.beq t 14 with | true => some ⟨true, 2, 24, .struct [(9, 0), (12, 1)], .agg [.str [], .int .u64 0], false⟩ | false => none
    | false =>
     match Nat.blt t 23 with
     | true =>
      match Nat.blt t 18 with
      | true =>
       match Nat.blt t 16 with
       | true =>
        match Nat.beq t 15 with | true => some ⟨false, 1, 8, .ptr, .nilp, false⟩ | false => none
       | false =>
        match Nat.blt t 17 with
        | true =>
         match Nat.beq t 16 with | true => some ⟨false, 1, 8, .ptr, .nilp, false⟩ | false => none
        | false =>
         match Nat.beq t 17 with | true => some ⟨false, 1, 8, .ptr, .nilp, false⟩ | false => none
      | false =>
       match Nat.blt t 21 with
       | true =>
        match Nat.blt t 19 with
        | true =>
         match Nat.beq t 18 with | true => some ⟨true, 1, 8, .struct [(17, 0)], .agg [.nilp], false⟩ | false => none
        | false =>
         match Nat.beq t 19 with | true => some ⟨true, 1, 8, .struct [(17, 0)], .agg [.nilp], false⟩ | false => none
       | false =>
        match Nat.blt t 22 with
        | true =>
         match Nat.beq t 21 with | true => some ⟨false, 1, 4, .int .i32, .int .i32 0, false⟩ | false => none
        | false =>
         match Nat.beq t 22 with | true => some ⟨false, 1, 24, .slice 60, .sl true 3 [], false⟩ | false => none
     | false =>
      match Nat.blt t 27 with
      | true =>
       match Nat.blt t 25 with
       | true =>
        match Nat.blt t 24 with
        | true =>
         match Nat.beq t 23 with | true => some ⟨false, 1, 24, .slice 5, .sl true 1 [], false⟩ | false => none
        | false =>
         match Nat.beq t 24 with | true => some ⟨true, 3, 40, .struct [(2, 0), (2, 1), (23, 2)], .agg [.int .i64 0, .int .i64 0, .sl true 1 []], false⟩ | false => none
       | false =>
        match Nat.blt t 26 with
        | true =>
         match Nat.beq t 25 with | true => some ⟨true, 3, 40, .struct [(2, 0), (2, 1), (23, 2)], .agg [.int .i64 0, .int .i64 0, .sl true 1 []], false⟩ | false => none
        | false =>
         match Nat.beq t 26 with | true => some ⟨true, 13, 136, .struct [(3, 0), (3, 1), (3, 2), (2, 3), (2, 4), (2, 5), (2, 6), (2, 7), (4, 8), (22, 9), (25, 10)], .agg [.int .i64 0, .int .i64 0, .int .i64 0, .int .i64 0, .int .i64 0, .int .i64 0, .int .i64 0, .int .i64 0, .bool false, .sl true 3 [], .int .i64 0, .int .i64 0, .sl true 1 []], false⟩ | false => none
      | false =>
       match Nat.blt t 29 with
       | true =>
        match Nat.blt t 28 with
        | true =>
         match Nat.beq t 27 with | true => some ⟨true, 13, 136, .struct [(3, 0), (3, 1), (3, 2), (2, 3), (2, 4), (2, 5), (2, 6), (2, 7), (4, 8), (22, 9), (25, 10)], .agg [.int .i64 0, .int .i64 0, .int .i64 0, .int .i64 0, .int .i64 0, .int .i64 0, .int .i64 0, .int .i64 0, .bool false, .sl true 3 [], .int .i64 0, .int .i64 0, .sl true 1 []], false⟩ | false => none
        | false =>
         match Nat.beq t 28 with | true => some ⟨false, 1, 8, .func, .nilfn, false⟩ | false => none
       | false =>
        match Nat.blt t 30 with
        | true =>
         match Nat.beq t 29 with | true => some ⟨false, 1, 8, .func, .nilfn, false⟩ | false => none
        | false =>
         match Nat.beq t 30 with | true => some ⟨true, 13, 136, .struct [(3, 0), (3, 1), (3, 2), (2, 3), (2, 4), (2, 5), (2, 6), (2, 7), (4, 8), (22, 9), (25, 10)], .agg [.int .i64 0, .int .i64 0, .int .i64 0, .int .i64 0, .int .i64 0, .int .i64 0, .int .i64 0, .int .i64 0, .bool false, .sl true 3 [], .int .i64 0, .int .i64 0, .sl true 1 []], false⟩ | false => none
   | false =>
    match Nat.blt t 47 with
    | true =>
     match Nat.blt t 38 with
     | true =>
      match Nat.blt t 34 with
      | true =>
       match Nat.blt t 32 with
       | true =>
        match Nat.beq t 31 with | true => some ⟨false, 1, 8, .func, .nilfn, false⟩ | false => none
       | false =>
        match Nat.blt t 33 with
        | true =>
         match Nat.beq t 32 with | true => some ⟨false, 1, 8, .func, .nilfn, false⟩ | false => none
        | false =>
         match Nat.beq t 33 with | true => some ⟨false, 1, 8, .func, .nilfn, false⟩ | false => none
      | false =>
       match Nat.blt t 36 with
       | true =>
        match Nat.blt t 35 with
        | true =>
         match Nat.beq t 34 with | true => some ⟨false, 1, 8, .func, .nilfn, false⟩ | false => none
        | false =>
         match Nat.beq t 35 with | true => some ⟨false, 1, 8, .func, .nilfn, false⟩ | false => none
       | false =>
        match Nat.blt t 37 with
        | true =>
         match Nat.beq t 36 with | true => some ⟨false, 1, 8, .ptr, .nilp, false⟩ | false => none
        | false =>
         match Nat.beq t 37 with | true => some ⟨false, 1, 8, .func, .nilfn, false⟩ | false => none
     | false =>
      match Nat.blt t 43 with
      | true =>
       match Nat.blt t 40 with
       | true =>
        match Nat.blt t 39 with
        | true =>
         match Nat.beq t 38 with | true => some ⟨false, 1, 8, .func, .nilfn, false⟩ | false => none
        | false =>
         match Nat.beq t 39 with | true => some ⟨true, 2, 32, .struct [(23, 0), (4, 1)], .agg [.sl true 1 [], .bool false], false⟩ | false => none
       | false =>
        match Nat.blt t 42 with
        | true =>
         match Nat.beq t 40 with | true => some ⟨true, 2, 32, .struct [(23, 0), (4, 1)], .agg [.sl true 1 [], .bool false], false⟩ | false => none
        | false =>
         match Nat.beq t 42 with | true => some ⟨false, 1, 8, .func, .nilfn, false⟩ | false => none
      | false =>
       match Nat.blt t 45 with
       | true =>
        match Nat.blt t 44 with
        | true =>
         match Nat.beq t 43 with | true => some ⟨false, 1, 8, .func, .nilfn, false⟩ | false => none
        | false =>
         match Nat.beq t 44 with | true => some ⟨false, 1, 8, .func, .nilfn, false⟩ | false => none
       | false =>
        match Nat.blt t 46 with
        | true =>
         match Nat.beq t 45 with | true => some ⟨false, 1, 8, .func, .nilfn, false⟩ | false => none
        | false =>
         match Nat.beq t 46 with | true => some ⟨true, 1, 24, .struct [(23, 0)], .agg [.sl true 1 []], false⟩ | false => none
    | false =>
     match Nat.blt t 56 with
     | true =>
      match Nat.blt t 50 with
      | true =>
       match Nat.blt t 48 with
       | true =>
        match Nat.beq t 47 with | true => some ⟨true, 1, 24, .struct [(23, 0)], .agg [.sl true 1 []], false⟩ | false => none
       | false =>
        match Nat.blt t 49 with
        | true =>
         match Nat.beq t 48 with | true => some ⟨false, 1, 8, .func, .nilfn, false⟩ | false => none
        | false =>
         match Nat.beq t 49 with | true => some ⟨false, 1, 8, .ptr, .nilp, false⟩ | false => none
      | false =>
       match Nat.blt t 53 with
       | true =>
        match Nat.blt t 52 with
        | true =>
         match Nat.beq t 50 with | true => some ⟨false, 1, 8, .int .i64, .int .i64 0, false⟩ | false => none
        | false =>
         match Nat.beq t 52 with | true => some ⟨false, 1, 8, .func, .nilfn, false⟩ | false => none
       | false =>
        match Nat.blt t 54 with
        | true =>
         match Nat.beq t 53 with | true => some ⟨false, 1, 8, .func, .nilfn, false⟩ | false => none
        | false =>
         match Nat.beq t 54 with | true => some ⟨false, 1, 8, .func, .nilfn, false⟩ | false => none
     | false =>
      match Nat.blt t 60 with
      | true =>
       match Nat.blt t 58 with
       | true =>
        match Nat.blt t 57 with
        | true =>
         match Nat.beq t 56 with | true => some ⟨false, 1, 8, .func, .nilfn, false⟩ | false => none
        | false =>
         match Nat.beq t 57 with | true => some ⟨false, 1, 8, .func, .nilfn, false⟩ | false => none
       | false =>
        match Nat.blt t 59 with
        | true =>
         match Nat.beq t 58 with | true => some ⟨false, 1, 8, .func, .nilfn, false⟩ | false => none
        | false =>
         match Nat.beq t 59 with | true => some ⟨false, 1, 8, .func, .nilfn, false⟩ | false => none
      | false =>
       match Nat.blt t 62 with
       | true =>
        match Nat.blt t 61 with
        | true =>
         match Nat.beq t 60 with | true => some ⟨true, 3, 40, .struct [(2, 0), (2, 1), (23, 2)], .agg [.int .i64 0, .int .i64 0, .sl true 1 []], false⟩ | false => none
        | false =>
         match Nat.beq t 61 with | true => some ⟨false, 1, 8, .func, .nilfn, false⟩ | false => none
       | false =>
        match Nat.blt t 63 with
        | true =>
         match Nat.beq t 62 with | true => some ⟨false, 1, 8, .func, .nilfn, false⟩ | false => none
        | false =>
         match Nat.beq t 63 with | true => some ⟨false, 1, 8, .func, .nilfn, false⟩ | false => none
  | false =>
   match Nat.blt t 99 with
   | true =>
    match Nat.blt t 81 with
    | true =>
     match Nat.blt t 71 with
     | true =>
      match Nat.blt t 67 with
      | true =>
       match Nat.blt t 65 with
       | true =>
        match Nat.beq t 64 with | true => some ⟨false, 1, 8, .func, .nilfn, false⟩ | false => none
       | false =>
        match Nat.blt t 66 with
        | true =>
         match Nat.beq t 65 with | true => some ⟨false, 1, 8, .func, .nilfn, false⟩ | false => none
        | false =>
         match Nat.beq t 66 with | true => some ⟨false, 1, 8, .func, .nilfn, false⟩ | false => none
      | false =>
       match Nat.blt t 69 with
       | true =>
        match Nat.blt t 68 with
        | true =>
         match Nat.beq t 67 with | true => some ⟨true, 2, 32, .struct [(23, 0), (4, 1)], .agg [.sl true 1 [], .bool false], false⟩ | false => none
        | false =>
         match Nat.beq t 68 with | true => some ⟨true, 2, 32, .struct [(23, 0), (4, 1)], .agg [.sl true 1 [], .bool false], false⟩ | false => none
       | false =>
        match Nat.blt t 70 with
        | true =>
         match Nat.beq t 69 with | true => some ⟨false, 1, 8, .func, .nilfn, false⟩ | false => none
        | false =>
         match Nat.beq t 70 with | true => some ⟨false, 1, 8, .func, .nilfn, false⟩ | false => none
     | false =>
      match Nat.blt t 74 with
      | true =>
       match Nat.blt t 72 with
       | true =>
        match Nat.beq t 71 with | true => some ⟨false, 1, 8, .func, .nilfn, false⟩ | false => none
       | false =>
        match Nat.blt t 73 with
        | true =>
         match Nat.beq t 72 with | true => some ⟨false, 1, 8, .func, .nilfn, false⟩ | false => none
        | false =>
         match Nat.beq t 73 with | true => some ⟨false, 1, 8, .func, .nilfn, false⟩ | false => none
      | false =>
       match Nat.blt t 77 with
       | true =>
        match Nat.blt t 76 with
        | true =>
         match Nat.beq t 74 with | true => some ⟨true, 3, 3, .array 3 5, .agg [.int .u8 0, .int .u8 0, .int .u8 0], false⟩ | false => none
        | false =>
         match Nat.beq t 76 with | true => some ⟨false, 1, 8, .func, .nilfn, false⟩ | false => none
       | false =>
        match Nat.blt t 79 with
        | true =>
         match Nat.beq t 77 with | true => some ⟨true, 5, 40, .array 5 2, .agg [.int .i64 0, .int .i64 0, .int .i64 0, .int .i64 0, .int .i64 0], false⟩ | false => none
        | false =>
         match Nat.beq t 79 with | true => some ⟨false, 1, 8, .func, .nilfn, false⟩ | false => none
    | false =>
     match Nat.blt t 91 with
     | true =>
      match Nat.blt t 87 with
      | true =>
       match Nat.blt t 83 with
       | true =>
        match Nat.beq t 81 with | true => some ⟨false, 1, 8, .func, .nilfn, false⟩ | false => none
       | false =>
        match Nat.blt t 85 with
        | true =>
         match Nat.beq t 83 with | true => some ⟨false, 1, 8, .func, .nilfn, false⟩ | false => none
        | false =>
         match Nat.beq t 85 with | true => some ⟨false, 1, 8, .func, .nilfn, false⟩ | false => none
      | false =>
       match Nat.blt t 89 with
       | true =>
        match Nat.blt t 88 with
        | true =>
         match Nat.beq t 87 with | true => some ⟨false, 1, 8, .func, .nilfn, false⟩ | false => none
        | false =>
         match Nat.beq t 88 with | true => some ⟨false, 1, 8, .func, .nilfn, false⟩ | false => none
       | false =>
        match Nat.blt t 90 with
        | true =>
         match Nat.beq t 89 with | true => some ⟨false, 1, 24, .slice 3, .sl true 1 [], false⟩ | false => none
        | false =>
         match Nat.beq t 90 with | true => some ⟨false, 1, 24, .slice 2, .sl true 1 [], false⟩ | false => none
     | false =>
      match Nat.blt t 95 with
      | true =>
       match Nat.blt t 93 with
       | true =>
        match Nat.blt t 92 with
        | true =>
         match Nat.beq t 91 with | true => some ⟨false, 1, 8, .func, .nilfn, false⟩ | false => none
        | false =>
         match Nat.beq t 92 with | true => some ⟨false, 1, 8, .func, .nilfn, false⟩ | false => none
       | false =>
        match Nat.blt t 94 with
        | true =>
         match Nat.beq t 93 with | true => some ⟨false, 1, 8, .func, .nilfn, false⟩ | false => none
        | false =>
         match Nat.beq t 94 with | true => some ⟨false, 1, 8, .func, .nilfn, false⟩ | false => none
      | false =>
       match Nat.blt t 97 with
       | true =>
        match Nat.blt t 96 with
        | true =>
         match Nat.beq t 95 with | true => some ⟨false, 1, 8, .func, .nilfn, false⟩ | false => none
        | false =>
         match Nat.beq t 96 with | true => some ⟨false, 1, 8, .func, .nilfn, false⟩ | false => none
       | false =>
        match Nat.blt t 98 with
        | true =>
         match Nat.beq t 97 with | true => some ⟨false, 1, 8, .func, .nilfn, false⟩ | false => none
        | false =>
         match Nat.beq t 98 with | true => some ⟨false, 1, 8, .func, .nilfn, false⟩ | false => none
   | false =>
    match Nat.blt t 118 with
    | true =>
     match Nat.blt t 107 with
     | true =>
      match Nat.blt t 102 with
      | true =>
       match Nat.blt t 100 with
       | true =>
        match Nat.beq t 99 with | true => some ⟨false, 1, 8, .func, .nilfn, false⟩ | false => none
       | false =>
        match Nat.blt t 101 with
        | true =>
         match Nat.beq t 100 with | true => some ⟨false, 1, 8, .func, .nilfn, false⟩ | false => none
        | false =>
         match Nat.beq t 101 with | true => some ⟨false, 1, 8, .func, .nilfn, false⟩ | false => none
      | false =>
       match Nat.blt t 104 with
       | true =>
        match Nat.blt t 103 with
        | true =>
         match Nat.beq t 102 with | true => some ⟨false, 1, 8, .func, .nilfn, false⟩ | false => none
        | false =>
         match Nat.beq t 103 with | true => some ⟨false, 1, 8, .func, .nilfn, false⟩ | false => none
       | false =>
        match Nat.blt t 105 with
        | true =>
         match Nat.beq t 104 with | true => some ⟨false, 1, 8, .int .u64, .int .u64 0, false⟩ | false => none
        | false =>
         match Nat.beq t 105 with | true => some ⟨false, 1, 8, .func, .nilfn, false⟩ | false => none
     | false =>
      match Nat.blt t 112 with
      | true =>
       match Nat.blt t 110 with
       | true =>
        match Nat.blt t 109 with
        | true =>
         match Nat.beq t 107 with | true => some ⟨false, 1, 8, .func, .nilfn, false⟩ | false => none
        | false =>
         match Nat.beq t 109 with | true => some ⟨false, 1, 8, .func, .nilfn, false⟩ | false => none
       | false =>
        match Nat.blt t 111 with
        | true =>
         match Nat.beq t 110 with | true => some ⟨false, 1, 8, .func, .nilfn, false⟩ | false => none
        | false =>
         match Nat.beq t 111 with | true => some ⟨false, 1, 8, .func, .nilfn, false⟩ | false => none
      | false =>
       match Nat.blt t 114 with
       | true =>
        match Nat.blt t 113 with
        | true =>
         match Nat.beq t 112 with | true => some ⟨false, 1, 8, .func, .nilfn, false⟩ | false => none
        | false =>
         match Nat.beq t 113 with | true => some ⟨false, 1, 8, .func, .nilfn, false⟩ | false => none
       | false =>
        match Nat.blt t 116 with
        | true =>
         match Nat.beq t 114 with | true => some ⟨false, 1, 8, .int .u64, .int .u64 0, false⟩ | false => none
        | false =>
         match Nat.beq t 116 with | true => some ⟨false, 1, 8, .func, .nilfn, false⟩ | false => none
    | false =>
     match Nat.blt t 128 with
     | true =>
      match Nat.blt t 121 with
      | true =>
       match Nat.blt t 119 with
       | true =>
        match Nat.beq t 118 with | true => some ⟨false, 1, 8, .func, .nilfn, false⟩ | false => none
       | false =>
        match Nat.blt t 120 with
        | true =>
         match Nat.beq t 119 with | true => some ⟨false, 1, 8, .func, .nilfn, false⟩ | false => none
        | false =>
         match Nat.beq t 120 with | true => some ⟨false, 1, 8, .func, .nilfn, false⟩ | false => none
      | false =>
       match Nat.blt t 123 with
       | true =>
        match Nat.blt t 122 with
        | true =>
         match Nat.beq t 121 with | true => some ⟨false, 1, 8, .func, .nilfn, false⟩ | false => none
        | false =>
         match Nat.beq t 122 with | true => some ⟨true, 4, 40, .struct [(17, 0), (17, 1), (17, 2), (9, 3)], .agg [.nilp, .nilp, .nilp, .str []], false⟩ | false => none
       | false =>
        match Nat.blt t 127 with
        | true =>
         match Nat.beq t 123 with | true => some ⟨true, 4, 40, .struct [(17, 0), (17, 1), (17, 2), (9, 3)], .agg [.nilp, .nilp, .nilp, .str []], false⟩ | false => none
        | false =>
         match Nat.beq t 127 with | true => some ⟨false, 1, 4, .int .u32, .int .u32 0, false⟩ | false => none
     | false =>
      match Nat.blt t 132 with
      | true =>
       match Nat.blt t 130 with
       | true =>
        match Nat.blt t 129 with
        | true =>
         match Nat.beq t 128 with | true => some ⟨false, 1, 1, .int .u8, .int .u8 0, false⟩ | false => none
        | false =>
         match Nat.beq t 129 with | true => some ⟨false, 1, 1, .int .u8, .int .u8 0, false⟩ | false => none
       | false =>
        match Nat.blt t 131 with
        | true =>
         match Nat.beq t 130 with | true => some ⟨false, 1, 8, .func, .nilfn, false⟩ | false => none
        | false =>
         match Nat.beq t 131 with | true => some ⟨false, 1, 8, .ptr, .nilp, false⟩ | false => none
      | false =>
       match Nat.blt t 134 with
       | true =>
        match Nat.blt t 133 with
        | true =>
         match Nat.beq t 132 with | true => some ⟨false, 1, 4, .int .i32, .int .i32 0, false⟩ | false => none
        | false =>
         match Nat.beq t 133 with | true => some ⟨false, 1, 4, .int .i32, .int .i32 0, false⟩ | false => none
       | false =>
        match Nat.blt t 135 with
        | true =>
         match Nat.beq t 134 with | true => some ⟨true, 11, 48, .struct [(12, 0), (12, 1), (127, 2), (128, 3), (5, 4), (5, 5), (129, 6), (130, 7), (131, 8), (132, 9), (133, 10)], .agg [.int .u64 0, .int .u64 0, .int .u32 0, .int .u8 0, .int .u8 0, .int .u8 0, .int .u8 0, .nilfn, .nilp, .int .i32 0, .int .i32 0], false⟩ | false => none
        | false =>
         match Nat.beq t 135 with | true => some ⟨true, 11, 48, .struct [(12, 0), (12, 1), (127, 2), (128, 3), (5, 4), (5, 5), (129, 6), (130, 7), (131, 8), (132, 9), (133, 10)], .agg [.int .u64 0, .int .u64 0, .int .u32 0, .int .u8 0, .int .u8 0, .int .u8 0, .int .u8 0, .nilfn, .nilp, .int .i32 0, .int .i32 0], false⟩ | false => none
-- 118 types of 137; last 135
def C0 (X : Ops) : Cf := { x := X, ti := ti, pf := fun _ => none, tr := fun _ => false, hp := fun _ => false, fz := fun _ => false, rt := fun t => t }
end Go.V
