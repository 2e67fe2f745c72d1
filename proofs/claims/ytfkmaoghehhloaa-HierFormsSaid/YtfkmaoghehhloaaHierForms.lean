/- The function of the law HierForms says true: by the evaluator, in the kernel, in three parts. -/
import Derived.Test.YtfkmaoghehhloaaAe18
import Derived.Test.YtfkmaoghehhloaaProg
namespace Go.Proofs.Ytfkmaoghehhloaa.Walk9
open Go.Ae Go.RowKit
def st1Rho : List Nat := []
def st1Gam : List Nat := [0]
def st1V : List Value := [.bool false, undef, undef, undef, undef, undef, undef, undef, undef, undef, undef, .bool true, .bool false, undef, undef, undef, undef, undef, undef, undef, undef, undef, undef, undef, undef, undef, undef, undef, undef, undef, undef, undef, undef, undef, undef, undef, undef, undef, undef, undef, undef, undef, undef, undef, undef, undef, undef, undef, undef, undef, undef, undef, undef, undef, undef, undef, undef, undef, undef, undef, undef, undef, undef, undef, undef, undef, undef, undef, undef, undef, undef, undef, undef, undef, undef, undef, undef, undef, undef, undef, undef, undef, undef, undef, undef, undef, undef, undef, undef, undef, undef, undef, undef, undef, undef, undef, undef, undef, undef, undef, undef, undef, undef, undef, undef, undef, undef, undef, undef, undef, undef, undef, undef, undef, undef, undef, undef, undef, undef, undef, undef, undef, undef, undef, undef, undef, undef, undef, undef, undef, undef, undef, undef, undef, undef, undef, undef]
def st1B : List Blk := []
def st1G : List Grp := []

def st2Rho : List Nat := [0, 1, 4, 7, 10, 13, 16, 19, 22, 24, 55, 57, 59, 61, 63, 65, 67, 69, 71, 72, 637, 639, 641, 643, 645, 647, 649, 651, 653, 702, 705, 733, 738, 743, 786, 791, 796, 807, 810, 812, 818, 820, 822, 824, 826, 828, 830, 832, 834, 885, 888, 891, 894, 907, 952, 957, 962, 973, 976, 978]
def st2Gam : List Nat := [0, 1, 0, 9, 2, 0, 0, 3, 0, 0, 4, 0, 0, 5, 0, 0, 6, 0, 0, 7, 0, 0, 8, 0, 0, 0, 0, 0, 0, 0, 0, 0, 0, 0, 0, 0, 0, 0, 0, 0, 0, 0, 0, 0, 0, 0, 0, 0, 0, 0, 0, 0, 0, 0, 0, 10, 0, 11, 0, 12, 0, 13, 0, 14, 0, 15, 0, 16, 0, 17, 0, 18, 19, 0, 0, 0, 0, 0, 0, 0, 0, 0, 0, 0, 0, 0, 0, 0, 0, 0, 0, 0, 0, 0, 0, 0, 0, 0, 0, 0, 0, 0, 0, 0, 0, 0, 0, 0, 0, 0, 0, 0, 0, 0, 0, 0, 0, 0, 0, 0, 0, 0, 0, 0, 0, 0, 0, 0, 0, 0, 0, 0, 0, 0, 0, 0, 0, 0, 0, 0, 0, 0, 0, 0, 0, 0, 0, 0, 0, 0, 0, 0, 0, 0, 0, 0, 0, 0, 0, 0, 0, 0, 0, 0, 0, 0, 0, 0, 0, 0, 0, 0, 0, 0, 0, 0, 0, 0, 0, 0, 0, 0, 0, 0, 0, 0, 0, 0, 0, 0, 0, 0, 0, 0, 0, 0, 0, 0, 0, 0, 0, 0, 0, 0, 0, 0, 0, 0, 0, 0, 0, 0, 0, 0, 0, 0, 0, 0, 0, 0, 0, 0, 0, 0, 0, 0, 0, 0, 0, 0, 0, 0, 0, 0, 0, 0, 0, 0, 0, 0, 0, 0, 0, 0, 0, 0, 0, 0, 0, 0, 0, 0, 0, 0, 0, 0, 0, 0, 0, 0, 0, 0, 0, 0, 0, 0, 0, 0, 0, 0, 0, 0, 0, 0, 0, 0, 0, 0, 0, 0, 0, 0, 0, 0, 0, 0, 0, 0, 0, 0, 0, 0, 0, 0, 0, 0, 0, 0, 0, 0, 0, 0, 0, 0, 0, 0, 0, 0, 0, 0, 0, 0, 0, 0, 0, 0, 0, 0, 0, 0, 0, 0, 0, 0, 0, 0, 0, 0, 0, 0, 0, 0, 0, 0, 0, 0, 0, 0, 0, 0, 0, 0, 0, 0, 0, 0, 0, 0, 0, 0, 0, 0, 0, 0, 0, 0, 0, 0, 0, 0, 0, 0, 0, 0, 0, 0, 0, 0, 0, 0, 0, 0, 0, 0, 0, 0, 0, 0, 0, 0, 0, 0, 0, 0, 0, 0, 0, 0, 0, 0, 0, 0, 0, 0, 0, 0, 0, 0, 0, 0, 0, 0, 0, 0, 0, 0, 0, 0, 0, 0, 0, 0, 0, 0, 0, 0, 0, 0, 0, 0, 0, 0, 0, 0, 0, 0, 0, 0, 0, 0, 0, 0, 0, 0, 0, 0, 0, 0, 0, 0, 0, 0, 0, 0, 0, 0, 0, 0, 0, 0, 0, 0, 0, 0, 0, 0, 0, 0, 0, 0, 0, 0, 0, 0, 0, 0, 0, 0, 0, 0, 0, 0, 0, 0, 0, 0, 0, 0, 0, 0, 0, 0, 0, 0, 0, 0, 0, 0, 0, 0, 0, 0, 0, 0, 0, 0, 0, 0, 0, 0, 0, 0, 0, 0, 0, 0, 0, 0, 0, 0, 0, 0, 0, 0, 0, 0, 0, 0, 0, 0, 0, 0, 0, 0, 0, 0, 0, 0, 0, 0, 0, 0, 0, 0, 0, 0, 0, 0, 0, 0, 0, 0, 0, 0, 0, 0, 0, 0, 0, 0, 0, 0, 0, 0, 0, 0, 0, 0, 0, 0, 0, 0, 0, 0, 0, 0, 0, 0, 0, 0, 0, 0, 0, 0, 0, 0, 0, 0, 0, 0, 0, 0, 0, 0, 0, 0, 0, 0, 0, 0, 0, 0, 0, 0, 0, 0, 0, 0, 0, 0, 0, 0, 0, 0, 0, 0, 0, 0, 0, 0, 0, 0, 0, 0, 0, 0, 0, 0, 0, 0, 0, 0, 0, 0, 0, 0, 0, 0, 0, 0, 0, 0, 0, 0, 0, 0, 0, 20, 0, 21, 0, 22, 0, 23, 0, 24, 0, 25, 0, 26, 0, 27, 0, 28, 0, 0, 0, 0, 0, 0, 0, 0, 0, 0, 0, 0, 0, 0, 0, 0, 0, 0, 0, 0, 0, 0, 0, 0, 0, 0, 0, 0, 0, 0, 0, 0, 0, 0, 0, 0, 0, 0, 0, 0, 0, 0, 0, 0, 0, 0, 0, 0, 29, 0, 0, 30, 0, 0, 0, 0, 0, 0, 0, 0, 0, 0, 0, 0, 0, 0, 0, 0, 0, 0, 0, 0, 0, 0, 0, 0, 0, 0, 0, 31, 0, 0, 0, 0, 32, 0, 0, 0, 0, 33, 0, 0, 0, 39, 0, 0, 0, 0, 0, 0, 0, 0, 0, 0, 0, 0, 0, 0, 0, 0, 0, 0, 0, 0, 0, 0, 0, 0, 0, 0, 0, 0, 0, 0, 0, 0, 0, 0, 0, 0, 0, 0, 34, 0, 0, 0, 0, 35, 0, 0, 0, 0, 36, 0, 0, 0, 0, 0, 0, 0, 0, 0, 0, 37, 0, 0, 38, 0, 0, 0, 0, 0, 0, 0, 40, 0, 41, 0, 42, 0, 43, 0, 44, 0, 45, 0, 46, 0, 47, 0, 48, 0, 0, 0, 0, 0, 0, 0, 0, 0, 0, 0, 0, 0, 0, 0, 0, 0, 0, 0, 0, 0, 0, 0, 0, 0, 0, 0, 0, 0, 0, 0, 0, 0, 0, 0, 0, 0, 0, 0, 0, 0, 0, 0, 0, 0, 0, 0, 0, 0, 0, 49, 0, 0, 50, 0, 0, 51, 0, 0, 52, 0, 0, 0, 0, 0, 0, 0, 0, 0, 0, 0, 0, 53, 0, 0, 0, 0, 0, 59, 0, 0, 0, 0, 0, 0, 0, 0, 0, 0, 0, 0, 0, 0, 0, 0, 0, 0, 0, 0, 0, 0, 0, 0, 0, 0, 0, 0, 0, 0, 0, 0, 0, 0, 0, 0, 0, 0, 54, 0, 0, 0, 0, 55, 0, 0, 0, 0, 56, 0, 0, 0, 0, 0, 0, 0, 0, 0, 0, 57, 0, 0, 58]
def st2V : List Value := [.bool false, .slice (some ⟨9, 0, none⟩) 8 9223372036854775808, .int .i64 (8), .int .i64 (8), .pointer (some ⟨19, 0, none⟩), .bool true, .int .i64 (9), undef, undef, undef, undef, .bool true, .bool false, .pointer (some ⟨0, 0, none⟩), .slice (some ⟨9, 0, none⟩) 8 9223372036854775808, .int .i64 (8), .bool false, .int .i64 (7), .int .i64 (8), .int .i64 (8), .bool false, .int .i64 (7), .int .i64 (8), .slice (some ⟨9, 0, none⟩) 8 9223372036854775808, .int .i64 (7), .pointer (some ⟨9, 7, none⟩), .slice (some ⟨8, 0, none⟩) 8 8, .int .i64 (7), .int .i64 (7), .int .i64 (7), .int .i64 (0), .int .i64 (7), .int .i64 (7), .int .i64 (0), .int .i64 (0), .pointer (some ⟨8, 7, none⟩), .tuple #[.agg #[.int .i64 (1), .slice (some ⟨10, 0, none⟩) 8 9223372036854775808, .slice none 0 0], .bool true], .slice (some ⟨9, 0, none⟩) 8 9223372036854775808, .tuple #[.agg #[.int .i64 (1), .slice (some ⟨10, 0, none⟩) 8 9223372036854775808, .slice none 0 0], .bool true], .agg #[.int .i64 (1), .slice (some ⟨10, 0, none⟩) 8 9223372036854775808, .slice none 0 0], .bool true, .bool true, .bool false, .int .i64 (9), .bool false, .int .i64 (8), .int .i64 (9), .agg #[.int .i64 (1), .slice (some ⟨20, 0, none⟩) 8 9223372036854775808, .slice (some ⟨39, 0, none⟩) 3 9223372036854775808], .int .i64 (8), .agg #[.int .i64 (1), .slice (some ⟨40, 0, none⟩) 8 9223372036854775808, .slice (some ⟨59, 0, none⟩) 3 9223372036854775808], undef, undef, undef, undef, undef, undef, undef, undef, undef, undef, undef, undef, undef, undef, undef, undef, undef, undef, undef, undef, undef, undef, undef, undef, undef, undef, undef, undef, undef, undef, undef, undef, undef, undef, undef, undef, undef, undef, undef, undef, undef, undef, undef, undef, undef, undef, undef, undef, undef, undef, undef, undef, undef, undef, undef, undef, undef, undef, undef, undef, undef, undef, undef, undef, undef, undef, undef, undef, undef, undef, undef, undef, undef, undef, undef, undef, undef, undef, undef, undef, undef, undef, undef, undef, undef, undef, undef]
def st2B : List Blk := [⟨[.slice none 0 0, .int .i64 (0)], 63, 0, 1, false⟩,
  ⟨[.int .i64 (0), .int .i64 (1), .int .i64 (2), .int .i64 (3), .int .i64 (4), .int .i64 (5), .int .i64 (6), .int .i64 (7)], 3, 1, 1, false⟩,
  ⟨[.int .i64 (1), .int .i64 (0), .int .i64 (1), .int .i64 (2), .int .i64 (3), .int .i64 (4), .int .i64 (5), .int .i64 (6)], 3, 2, 1, false⟩,
  ⟨[.int .i64 (2), .int .i64 (1), .int .i64 (0), .int .i64 (1), .int .i64 (2), .int .i64 (3), .int .i64 (4), .int .i64 (5)], 3, 3, 1, false⟩,
  ⟨[.int .i64 (3), .int .i64 (2), .int .i64 (1), .int .i64 (0), .int .i64 (1), .int .i64 (2), .int .i64 (3), .int .i64 (4)], 3, 4, 1, false⟩,
  ⟨[.int .i64 (4), .int .i64 (3), .int .i64 (2), .int .i64 (1), .int .i64 (0), .int .i64 (1), .int .i64 (2), .int .i64 (3)], 3, 5, 1, false⟩,
  ⟨[.int .i64 (5), .int .i64 (4), .int .i64 (3), .int .i64 (2), .int .i64 (1), .int .i64 (0), .int .i64 (1), .int .i64 (2)], 3, 6, 1, false⟩,
  ⟨[.int .i64 (6), .int .i64 (5), .int .i64 (4), .int .i64 (3), .int .i64 (2), .int .i64 (1), .int .i64 (0), .int .i64 (1)], 3, 7, 1, false⟩,
  ⟨[.int .i64 (7), .int .i64 (6), .int .i64 (5), .int .i64 (4), .int .i64 (3), .int .i64 (2), .int .i64 (1), .int .i64 (0)], 3, 8, 1, false⟩,
  ⟨[.slice (some ⟨1, 0, none⟩) 8 8, .slice (some ⟨2, 0, none⟩) 8 8, .slice (some ⟨3, 0, none⟩) 8 8, .slice (some ⟨4, 0, none⟩) 8 8, .slice (some ⟨5, 0, none⟩) 8 8, .slice (some ⟨6, 0, none⟩) 8 8, .slice (some ⟨7, 0, none⟩) 8 8, .slice (some ⟨8, 0, none⟩) 8 8], 34, 9, 1, false⟩,
  ⟨[.slice (some ⟨11, 0, none⟩) 8 9223372036854775808, .slice (some ⟨12, 0, none⟩) 8 9223372036854775808, .slice (some ⟨13, 0, none⟩) 8 9223372036854775808, .slice (some ⟨14, 0, none⟩) 8 9223372036854775808, .slice (some ⟨15, 0, none⟩) 8 9223372036854775808, .slice (some ⟨16, 0, none⟩) 8 9223372036854775808, .slice (some ⟨17, 0, none⟩) 8 9223372036854775808, .slice (some ⟨18, 0, none⟩) 8 9223372036854775808], 34, 10, 1, false⟩,
  ⟨[.int .i64 (0), .int .i64 (1), .int .i64 (2), .int .i64 (3), .int .i64 (4), .int .i64 (5), .int .i64 (6), .int .i64 (7)], 3, 11, 1, false⟩,
  ⟨[.int .i64 (1), .int .i64 (0), .int .i64 (1), .int .i64 (2), .int .i64 (3), .int .i64 (4), .int .i64 (5), .int .i64 (6)], 3, 12, 1, false⟩,
  ⟨[.int .i64 (2), .int .i64 (1), .int .i64 (0), .int .i64 (1), .int .i64 (2), .int .i64 (3), .int .i64 (4), .int .i64 (5)], 3, 13, 1, false⟩,
  ⟨[.int .i64 (3), .int .i64 (2), .int .i64 (1), .int .i64 (0), .int .i64 (1), .int .i64 (2), .int .i64 (3), .int .i64 (4)], 3, 14, 1, false⟩,
  ⟨[.int .i64 (4), .int .i64 (3), .int .i64 (2), .int .i64 (1), .int .i64 (0), .int .i64 (1), .int .i64 (2), .int .i64 (3)], 3, 15, 1, false⟩,
  ⟨[.int .i64 (5), .int .i64 (4), .int .i64 (3), .int .i64 (2), .int .i64 (1), .int .i64 (0), .int .i64 (1), .int .i64 (2)], 3, 16, 1, false⟩,
  ⟨[.int .i64 (6), .int .i64 (5), .int .i64 (4), .int .i64 (3), .int .i64 (2), .int .i64 (1), .int .i64 (0), .int .i64 (1)], 3, 17, 1, false⟩,
  ⟨[.int .i64 (7), .int .i64 (6), .int .i64 (5), .int .i64 (4), .int .i64 (3), .int .i64 (2), .int .i64 (1), .int .i64 (0)], 3, 18, 1, false⟩,
  ⟨[.int .i64 (1), .slice (some ⟨40, 0, none⟩) 8 9223372036854775808, .slice (some ⟨59, 0, none⟩) 3 9223372036854775808], 54, 19, 1, false⟩,
  ⟨[.slice (some ⟨21, 0, none⟩) 8 9223372036854775808, .slice (some ⟨22, 0, none⟩) 8 9223372036854775808, .slice (some ⟨23, 0, none⟩) 8 9223372036854775808, .slice (some ⟨24, 0, none⟩) 8 9223372036854775808, .slice (some ⟨25, 0, none⟩) 8 9223372036854775808, .slice (some ⟨26, 0, none⟩) 8 9223372036854775808, .slice (some ⟨27, 0, none⟩) 8 9223372036854775808, .slice (some ⟨28, 0, none⟩) 8 9223372036854775808], 34, 20, 1, false⟩,
  ⟨[.int .i64 (0), .int .i64 (1), .int .i64 (2), .int .i64 (3), .int .i64 (4), .int .i64 (5), .int .i64 (6), .int .i64 (7)], 3, 21, 1, false⟩,
  ⟨[.int .i64 (1), .int .i64 (0), .int .i64 (1), .int .i64 (2), .int .i64 (3), .int .i64 (4), .int .i64 (5), .int .i64 (6)], 3, 22, 1, false⟩,
  ⟨[.int .i64 (2), .int .i64 (1), .int .i64 (0), .int .i64 (1), .int .i64 (2), .int .i64 (3), .int .i64 (4), .int .i64 (5)], 3, 23, 1, false⟩,
  ⟨[.int .i64 (3), .int .i64 (2), .int .i64 (1), .int .i64 (0), .int .i64 (1), .int .i64 (2), .int .i64 (3), .int .i64 (4)], 3, 24, 1, false⟩,
  ⟨[.int .i64 (4), .int .i64 (3), .int .i64 (2), .int .i64 (1), .int .i64 (0), .int .i64 (1), .int .i64 (2), .int .i64 (3)], 3, 25, 1, false⟩,
  ⟨[.int .i64 (5), .int .i64 (4), .int .i64 (3), .int .i64 (2), .int .i64 (1), .int .i64 (0), .int .i64 (1), .int .i64 (2)], 3, 26, 1, false⟩,
  ⟨[.int .i64 (6), .int .i64 (5), .int .i64 (4), .int .i64 (3), .int .i64 (2), .int .i64 (1), .int .i64 (0), .int .i64 (1)], 3, 27, 1, false⟩,
  ⟨[.int .i64 (7), .int .i64 (6), .int .i64 (5), .int .i64 (4), .int .i64 (3), .int .i64 (2), .int .i64 (1), .int .i64 (0)], 3, 28, 1, false⟩,
  ⟨[.int .i64 (1), .int .i64 (2)], 3, 29, 1, false⟩,
  ⟨[.int .i64 (3), .int .i64 (4)], 3, 30, 1, false⟩,
  ⟨[.int .i64 (5), .int .i64 (6)], 3, 31, 1, false⟩,
  ⟨[.int .i64 (7)], 3, 32, 1, false⟩,
  ⟨[.slice (some ⟨29, 0, none⟩) 2 9223372036854775808, .int .i64 (1), .slice (some ⟨30, 0, none⟩) 2 9223372036854775808, .int .i64 (3), .slice (some ⟨31, 0, none⟩) 2 9223372036854775808, .int .i64 (5), .slice (some ⟨32, 0, none⟩) 1 9223372036854775808, .int .i64 (7)], 36, 33, 1, false⟩,
  ⟨[.int .i64 (1), .int .i64 (3)], 3, 34, 1, false⟩,
  ⟨[.int .i64 (5), .int .i64 (7)], 3, 35, 1, false⟩,
  ⟨[.slice (some ⟨34, 0, none⟩) 2 9223372036854775808, .int .i64 (1), .slice (some ⟨35, 0, none⟩) 2 9223372036854775808, .int .i64 (5)], 36, 36, 1, false⟩,
  ⟨[.int .i64 (1), .int .i64 (5)], 3, 37, 1, false⟩,
  ⟨[.slice (some ⟨37, 0, none⟩) 2 9223372036854775808, .int .i64 (1)], 36, 38, 1, false⟩,
  ⟨[.slice (some ⟨33, 0, none⟩) 4 9223372036854775808, .slice (some ⟨36, 0, none⟩) 2 9223372036854775808, .slice (some ⟨38, 0, none⟩) 1 1], 29, 39, 1, false⟩,
  ⟨[.slice (some ⟨41, 0, none⟩) 8 9223372036854775808, .slice (some ⟨42, 0, none⟩) 8 9223372036854775808, .slice (some ⟨43, 0, none⟩) 8 9223372036854775808, .slice (some ⟨44, 0, none⟩) 8 9223372036854775808, .slice (some ⟨45, 0, none⟩) 8 9223372036854775808, .slice (some ⟨46, 0, none⟩) 8 9223372036854775808, .slice (some ⟨47, 0, none⟩) 8 9223372036854775808, .slice (some ⟨48, 0, none⟩) 8 9223372036854775808], 34, 40, 1, false⟩,
  ⟨[.int .i64 (0), .int .i64 (1), .int .i64 (2), .int .i64 (3), .int .i64 (4), .int .i64 (5), .int .i64 (6), .int .i64 (7)], 3, 41, 1, false⟩,
  ⟨[.int .i64 (1), .int .i64 (0), .int .i64 (1), .int .i64 (2), .int .i64 (3), .int .i64 (4), .int .i64 (5), .int .i64 (6)], 3, 42, 1, false⟩,
  ⟨[.int .i64 (2), .int .i64 (1), .int .i64 (0), .int .i64 (1), .int .i64 (2), .int .i64 (3), .int .i64 (4), .int .i64 (5)], 3, 43, 1, false⟩,
  ⟨[.int .i64 (3), .int .i64 (2), .int .i64 (1), .int .i64 (0), .int .i64 (1), .int .i64 (2), .int .i64 (3), .int .i64 (4)], 3, 44, 1, false⟩,
  ⟨[.int .i64 (4), .int .i64 (3), .int .i64 (2), .int .i64 (1), .int .i64 (0), .int .i64 (1), .int .i64 (2), .int .i64 (3)], 3, 45, 1, false⟩,
  ⟨[.int .i64 (5), .int .i64 (4), .int .i64 (3), .int .i64 (2), .int .i64 (1), .int .i64 (0), .int .i64 (1), .int .i64 (2)], 3, 46, 1, false⟩,
  ⟨[.int .i64 (6), .int .i64 (5), .int .i64 (4), .int .i64 (3), .int .i64 (2), .int .i64 (1), .int .i64 (0), .int .i64 (1)], 3, 47, 1, false⟩,
  ⟨[.int .i64 (7), .int .i64 (6), .int .i64 (5), .int .i64 (4), .int .i64 (3), .int .i64 (2), .int .i64 (1), .int .i64 (0)], 3, 48, 1, false⟩,
  ⟨[.slice (some ⟨50, 0, none⟩) 2 9223372036854775808, .int .i64 (1), .slice (some ⟨51, 0, none⟩) 2 9223372036854775808, .int .i64 (3), .slice (some ⟨52, 0, none⟩) 2 9223372036854775808, .int .i64 (5), .slice (some ⟨53, 0, none⟩) 2 9223372036854775808, .int .i64 (7)], 36, 49, 1, false⟩,
  ⟨[.int .i64 (1), .int .i64 (2)], 3, 50, 1, false⟩,
  ⟨[.int .i64 (3), .int .i64 (4)], 3, 51, 1, false⟩,
  ⟨[.int .i64 (5), .int .i64 (6)], 3, 52, 1, false⟩,
  ⟨[.int .i64 (7), .int .i64 (8)], 3, 53, 1, false⟩,
  ⟨[.int .i64 (1), .int .i64 (3)], 3, 54, 1, false⟩,
  ⟨[.int .i64 (5), .int .i64 (7)], 3, 55, 1, false⟩,
  ⟨[.slice (some ⟨54, 0, none⟩) 2 9223372036854775808, .int .i64 (1), .slice (some ⟨55, 0, none⟩) 2 9223372036854775808, .int .i64 (5)], 36, 56, 1, false⟩,
  ⟨[.int .i64 (1), .int .i64 (5)], 3, 57, 1, false⟩,
  ⟨[.slice (some ⟨57, 0, none⟩) 2 9223372036854775808, .int .i64 (1)], 36, 58, 1, false⟩,
  ⟨[.slice (some ⟨49, 0, none⟩) 4 9223372036854775808, .slice (some ⟨56, 0, none⟩) 2 9223372036854775808, .slice (some ⟨58, 0, none⟩) 1 1], 29, 59, 1, false⟩]
def st2G : List Grp := [⟨0, 1⟩, ⟨1, 1⟩, ⟨2, 1⟩, ⟨3, 1⟩, ⟨4, 1⟩, ⟨5, 1⟩, ⟨6, 1⟩, ⟨7, 1⟩, ⟨8, 1⟩, ⟨9, 1⟩, ⟨10, 1⟩, ⟨11, 1⟩, ⟨12, 1⟩, ⟨13, 1⟩, ⟨14, 1⟩, ⟨15, 1⟩, ⟨16, 1⟩, ⟨17, 1⟩, ⟨18, 1⟩, ⟨19, 1⟩, ⟨20, 1⟩, ⟨21, 1⟩, ⟨22, 1⟩, ⟨23, 1⟩, ⟨24, 1⟩, ⟨25, 1⟩, ⟨26, 1⟩, ⟨27, 1⟩, ⟨28, 1⟩, ⟨29, 1⟩, ⟨30, 1⟩, ⟨31, 1⟩, ⟨32, 1⟩, ⟨33, 1⟩, ⟨34, 1⟩, ⟨35, 1⟩, ⟨36, 1⟩, ⟨37, 1⟩, ⟨38, 1⟩, ⟨39, 1⟩, ⟨40, 1⟩, ⟨41, 1⟩, ⟨42, 1⟩, ⟨43, 1⟩, ⟨44, 1⟩, ⟨45, 1⟩, ⟨46, 1⟩, ⟨47, 1⟩, ⟨48, 1⟩, ⟨49, 1⟩, ⟨50, 1⟩, ⟨51, 1⟩, ⟨52, 1⟩, ⟨53, 1⟩, ⟨54, 1⟩, ⟨55, 1⟩, ⟨56, 1⟩, ⟨57, 1⟩, ⟨58, 1⟩, ⟨59, 1⟩]


noncomputable def body9 : Code := match Try.f9.body with | some c => c | none => .skip
theorem mix : Try.prog.follows .mixedOrders = true := by kernel_rfl
set_option maxRecDepth 100000 in
theorem part1 : partOk Try.prog 1000 137 2 body9 [] [] [] st1Rho st1Gam st1V st1B st1G = true := by kernel_rfl
set_option maxRecDepth 100000 in
theorem part2 : partOk Try.prog 1000 137 5 (cutAt 2 body9).2 st1V st1B st1G st2Rho st2Gam st2V st2B st2G = true := by kernel_rfl
set_option maxRecDepth 100000 in
theorem part3 : lastOk Try.prog 1000 137 (cutAt 5 (cutAt 2 body9).2).2 Try.f9.results st2V st2B st2G = true := by kernel_rfl
theorem hierForms (w : World) : Calls Try.prog 9 #[] w (fun e w' => e = .returned (.bool true) ∧ Below w.heap.size w w') :=
  parts_calls (fn := Try.f9) (c := body9) (by kernel_rfl) (by kernel_rfl) fun a hf =>
    part_wp mix part1 hf fun a1 w1 h1 => part_wp mix part2 h1 fun a2 w2 h2 => last_wp mix part3 h2
end Go.Proofs.Ytfkmaoghehhloaa.Walk9
