
/- The program's types as a table; the values of the interface. -/
import Derived.Test.YtjnnggpjhidcmabGreatMB
import Derived.Test.YtjnnggpjhidcmabGreatProg
import Derived.KernelRfl
import Derived.IntWalk
import Derived.Laws.Externs
namespace Go.AW
open Go Go.Proofs

noncomputable abbrev PP : Program := Tryz.prog

set_option maxRecDepth 100000 in
noncomputable def TT : TTab :=
 [(1, ⟨.fn, 1, 8, [.sc (.nilFunc)]⟩),
 (2, ⟨.int .i64, 1, 8, [.sc (.int .i64 0)]⟩),
 (3, ⟨.int .i64, 1, 8, [.sc (.int .i64 0)]⟩),
 (4, ⟨.bool, 1, 1, [.sc (.bool false)]⟩),
 (5, ⟨.int .u8, 1, 1, [.sc (.int .u8 0)]⟩),
 (6, ⟨.int .u8, 1, 1, [.sc (.int .u8 0)]⟩),
 (7, ⟨.st [(0, 2), (1, 3), (2, 4), (3, 6)] false, 4, 24, [.sc (.int .i64 0), .sc (.int .i64 0), .sc (.bool false), .sc (.int .u8 0)]⟩),
 (8, ⟨.st [(0, 2), (1, 3), (2, 4), (3, 6)] false, 4, 24, [.sc (.int .i64 0), .sc (.int .i64 0), .sc (.bool false), .sc (.int .u8 0)]⟩),
 (9, ⟨.str, 1, 16, [.sc (.string ⟨#[]⟩)]⟩),
 (10, ⟨.str, 1, 16, [.sc (.string ⟨#[]⟩)]⟩),
 (11, ⟨.str, 1, 16, [.sc (.string ⟨#[]⟩)]⟩),
 (12, ⟨.int .u64, 1, 8, [.sc (.int .u64 0)]⟩),
 (13, ⟨.st [(0, 9), (1, 12)] false, 2, 24, [.sc (.string ⟨#[]⟩), .sc (.int .u64 0)]⟩),
 (14, ⟨.st [(0, 9), (1, 12)] false, 2, 24, [.sc (.string ⟨#[]⟩), .sc (.int .u64 0)]⟩),
 (15, ⟨.ptr 249, 1, 8, [.sc (.pointer none)]⟩),
 (16, ⟨.ptr 252, 1, 8, [.sc (.pointer none)]⟩),
 (17, ⟨.ptr 261, 1, 8, [.sc (.pointer none)]⟩),
 (18, ⟨.st [(0, 17)] false, 1, 8, [.sc (.pointer none)]⟩),
 (19, ⟨.st [(0, 17)] false, 1, 8, [.sc (.pointer none)]⟩),
 (20, ⟨.ifc, 1, 16, [.sc (.nilIface)]⟩),
 (21, ⟨.int .i32, 1, 4, [.sc (.int .i32 0)]⟩),
 (22, ⟨.fn, 1, 8, [.sc (.nilFunc)]⟩),
 (23, ⟨.fn, 1, 8, [.sc (.nilFunc)]⟩),
 (24, ⟨.int .u64, 1, 8, [.sc (.int .u64 0)]⟩),
 (25, ⟨.sli 27, 1, 24, [.sl 5 64 []]⟩),
 (26, ⟨.st [(0, 3), (1, 3), (2, 24), (3, 9), (4, 25)] false, 5, 64, [.sc (.int .i64 0), .sc (.int .i64 0), .sc (.int .u64 0), .sc (.string ⟨#[]⟩), .sl 5 64 []]⟩),
 (27, ⟨.st [(0, 3), (1, 3), (2, 24), (3, 9), (4, 25)] false, 5, 64, [.sc (.int .i64 0), .sc (.int .i64 0), .sc (.int .u64 0), .sc (.string ⟨#[]⟩), .sl 5 64 []]⟩),
 (28, ⟨.st [(0, 3), (1, 24), (2, 3)] false, 3, 24, [.sc (.int .i64 0), .sc (.int .u64 0), .sc (.int .i64 0)]⟩),
 (29, ⟨.st [(0, 3), (1, 24), (2, 3)] true, 3, 24, [.sc (.int .i64 0), .sc (.int .u64 0), .sc (.int .i64 0)]⟩),
 (30, ⟨.st [(0, 3), (1, 3), (2, 3), (3, 3), (4, 3)] false, 5, 40, [.sc (.int .i64 0), .sc (.int .i64 0), .sc (.int .i64 0), .sc (.int .i64 0), .sc (.int .i64 0)]⟩),
 (31, ⟨.st [(0, 3), (1, 3), (2, 3), (3, 3), (4, 3)] true, 5, 40, [.sc (.int .i64 0), .sc (.int .i64 0), .sc (.int .i64 0), .sc (.int .i64 0), .sc (.int .i64 0)]⟩),
 (32, ⟨.sli 78, 1, 24, [.sl 2 24 []]⟩),
 (33, ⟨.sli 80, 1, 24, [.sl 12 152 []]⟩),
 (34, ⟨.st [(0, 3), (1, 3), (2, 3), (3, 3), (4, 3), (5, 3), (6, 3), (7, 9), (8, 27), (13, 29), (16, 31), (21, 4), (22, 4), (23, 32), (24, 33), (25, 27), (30, 9)] false, 31, 336, [.sc (.int .i64 0), .sc (.int .i64 0), .sc (.int .i64 0), .sc (.int .i64 0), .sc (.int .i64 0), .sc (.int .i64 0), .sc (.int .i64 0), .sc (.string ⟨#[]⟩), .sc (.int .i64 0), .sc (.int .i64 0), .sc (.int .u64 0), .sc (.string ⟨#[]⟩), .sl 5 64 [], .sc (.int .i64 0), .sc (.int .u64 0), .sc (.int .i64 0), .sc (.int .i64 0), .sc (.int .i64 0), .sc (.int .i64 0), .sc (.int .i64 0), .sc (.int .i64 0), .sc (.bool false), .sc (.bool false), .sl 2 24 [], .sl 12 152 [], .sc (.int .i64 0), .sc (.int .i64 0), .sc (.int .u64 0), .sc (.string ⟨#[]⟩), .sl 5 64 [], .sc (.string ⟨#[]⟩)]⟩),
 (35, ⟨.st [(0, 3), (1, 3), (2, 3), (3, 3), (4, 3), (5, 3), (6, 3), (7, 9), (8, 27), (13, 29), (16, 31), (21, 4), (22, 4), (23, 32), (24, 33), (25, 27), (30, 9)] false, 31, 336, [.sc (.int .i64 0), .sc (.int .i64 0), .sc (.int .i64 0), .sc (.int .i64 0), .sc (.int .i64 0), .sc (.int .i64 0), .sc (.int .i64 0), .sc (.string ⟨#[]⟩), .sc (.int .i64 0), .sc (.int .i64 0), .sc (.int .u64 0), .sc (.string ⟨#[]⟩), .sl 5 64 [], .sc (.int .i64 0), .sc (.int .u64 0), .sc (.int .i64 0), .sc (.int .i64 0), .sc (.int .i64 0), .sc (.int .i64 0), .sc (.int .i64 0), .sc (.int .i64 0), .sc (.bool false), .sc (.bool false), .sl 2 24 [], .sl 12 152 [], .sc (.int .i64 0), .sc (.int .i64 0), .sc (.int .u64 0), .sc (.string ⟨#[]⟩), .sl 5 64 [], .sc (.string ⟨#[]⟩)]⟩),
 (36, ⟨.sli 84, 1, 24, [.sl 4 56 []]⟩),
 (37, ⟨.st [(0, 9), (1, 3), (2, 35), (33, 36)] false, 34, 384, [.sc (.string ⟨#[]⟩), .sc (.int .i64 0), .sc (.int .i64 0), .sc (.int .i64 0), .sc (.int .i64 0), .sc (.int .i64 0), .sc (.int .i64 0), .sc (.int .i64 0), .sc (.int .i64 0), .sc (.string ⟨#[]⟩), .sc (.int .i64 0), .sc (.int .i64 0), .sc (.int .u64 0), .sc (.string ⟨#[]⟩), .sl 5 64 [], .sc (.int .i64 0), .sc (.int .u64 0), .sc (.int .i64 0), .sc (.int .i64 0), .sc (.int .i64 0), .sc (.int .i64 0), .sc (.int .i64 0), .sc (.int .i64 0), .sc (.bool false), .sc (.bool false), .sl 2 24 [], .sl 12 152 [], .sc (.int .i64 0), .sc (.int .i64 0), .sc (.int .u64 0), .sc (.string ⟨#[]⟩), .sl 5 64 [], .sc (.string ⟨#[]⟩), .sl 4 56 []]⟩),
 (38, ⟨.st [(0, 9), (1, 3), (2, 35), (33, 36)] false, 34, 384, [.sc (.string ⟨#[]⟩), .sc (.int .i64 0), .sc (.int .i64 0), .sc (.int .i64 0), .sc (.int .i64 0), .sc (.int .i64 0), .sc (.int .i64 0), .sc (.int .i64 0), .sc (.int .i64 0), .sc (.string ⟨#[]⟩), .sc (.int .i64 0), .sc (.int .i64 0), .sc (.int .u64 0), .sc (.string ⟨#[]⟩), .sl 5 64 [], .sc (.int .i64 0), .sc (.int .u64 0), .sc (.int .i64 0), .sc (.int .i64 0), .sc (.int .i64 0), .sc (.int .i64 0), .sc (.int .i64 0), .sc (.int .i64 0), .sc (.bool false), .sc (.bool false), .sl 2 24 [], .sl 12 152 [], .sc (.int .i64 0), .sc (.int .i64 0), .sc (.int .u64 0), .sc (.string ⟨#[]⟩), .sl 5 64 [], .sc (.string ⟨#[]⟩), .sl 4 56 []]⟩),
 (39, ⟨.sli 96, 1, 24, [.sl 5 56 []]⟩),
 (40, ⟨.st [(0, 4), (1, 38), (35, 39)] false, 36, 416, [.sc (.bool false), .sc (.string ⟨#[]⟩), .sc (.int .i64 0), .sc (.int .i64 0), .sc (.int .i64 0), .sc (.int .i64 0), .sc (.int .i64 0), .sc (.int .i64 0), .sc (.int .i64 0), .sc (.int .i64 0), .sc (.string ⟨#[]⟩), .sc (.int .i64 0), .sc (.int .i64 0), .sc (.int .u64 0), .sc (.string ⟨#[]⟩), .sl 5 64 [], .sc (.int .i64 0), .sc (.int .u64 0), .sc (.int .i64 0), .sc (.int .i64 0), .sc (.int .i64 0), .sc (.int .i64 0), .sc (.int .i64 0), .sc (.int .i64 0), .sc (.bool false), .sc (.bool false), .sl 2 24 [], .sl 12 152 [], .sc (.int .i64 0), .sc (.int .i64 0), .sc (.int .u64 0), .sc (.string ⟨#[]⟩), .sl 5 64 [], .sc (.string ⟨#[]⟩), .sl 4 56 [], .sl 5 56 []]⟩),
 (41, ⟨.st [(0, 4), (1, 38), (35, 39)] false, 36, 416, [.sc (.bool false), .sc (.string ⟨#[]⟩), .sc (.int .i64 0), .sc (.int .i64 0), .sc (.int .i64 0), .sc (.int .i64 0), .sc (.int .i64 0), .sc (.int .i64 0), .sc (.int .i64 0), .sc (.int .i64 0), .sc (.string ⟨#[]⟩), .sc (.int .i64 0), .sc (.int .i64 0), .sc (.int .u64 0), .sc (.string ⟨#[]⟩), .sl 5 64 [], .sc (.int .i64 0), .sc (.int .u64 0), .sc (.int .i64 0), .sc (.int .i64 0), .sc (.int .i64 0), .sc (.int .i64 0), .sc (.int .i64 0), .sc (.int .i64 0), .sc (.bool false), .sc (.bool false), .sl 2 24 [], .sl 12 152 [], .sc (.int .i64 0), .sc (.int .i64 0), .sc (.int .u64 0), .sc (.string ⟨#[]⟩), .sl 5 64 [], .sc (.string ⟨#[]⟩), .sl 4 56 [], .sl 5 56 []]⟩),
 (42, ⟨.int .i64, 1, 8, [.sc (.int .i64 0)]⟩),
 (43, ⟨.sli 91, 1, 24, [.sl 13 136 []]⟩),
 (44, ⟨.sli 142, 1, 24, [.sl 7 88 []]⟩),
 (45, ⟨.st [(0, 42), (1, 3), (2, 3), (3, 27), (8, 35), (39, 43), (40, 44), (41, 44)] false, 42, 496, [.sc (.int .i64 0), .sc (.int .i64 0), .sc (.int .i64 0), .sc (.int .i64 0), .sc (.int .i64 0), .sc (.int .u64 0), .sc (.string ⟨#[]⟩), .sl 5 64 [], .sc (.int .i64 0), .sc (.int .i64 0), .sc (.int .i64 0), .sc (.int .i64 0), .sc (.int .i64 0), .sc (.int .i64 0), .sc (.int .i64 0), .sc (.string ⟨#[]⟩), .sc (.int .i64 0), .sc (.int .i64 0), .sc (.int .u64 0), .sc (.string ⟨#[]⟩), .sl 5 64 [], .sc (.int .i64 0), .sc (.int .u64 0), .sc (.int .i64 0), .sc (.int .i64 0), .sc (.int .i64 0), .sc (.int .i64 0), .sc (.int .i64 0), .sc (.int .i64 0), .sc (.bool false), .sc (.bool false), .sl 2 24 [], .sl 12 152 [], .sc (.int .i64 0), .sc (.int .i64 0), .sc (.int .u64 0), .sc (.string ⟨#[]⟩), .sl 5 64 [], .sc (.string ⟨#[]⟩), .sl 13 136 [], .sl 7 88 [], .sl 7 88 []]⟩),
 (46, ⟨.st [(0, 42), (1, 3), (2, 3), (3, 27), (8, 35), (39, 43), (40, 44), (41, 44)] false, 42, 496, [.sc (.int .i64 0), .sc (.int .i64 0), .sc (.int .i64 0), .sc (.int .i64 0), .sc (.int .i64 0), .sc (.int .u64 0), .sc (.string ⟨#[]⟩), .sl 5 64 [], .sc (.int .i64 0), .sc (.int .i64 0), .sc (.int .i64 0), .sc (.int .i64 0), .sc (.int .i64 0), .sc (.int .i64 0), .sc (.int .i64 0), .sc (.string ⟨#[]⟩), .sc (.int .i64 0), .sc (.int .i64 0), .sc (.int .u64 0), .sc (.string ⟨#[]⟩), .sl 5 64 [], .sc (.int .i64 0), .sc (.int .u64 0), .sc (.int .i64 0), .sc (.int .i64 0), .sc (.int .i64 0), .sc (.int .i64 0), .sc (.int .i64 0), .sc (.int .i64 0), .sc (.bool false), .sc (.bool false), .sl 2 24 [], .sl 12 152 [], .sc (.int .i64 0), .sc (.int .i64 0), .sc (.int .u64 0), .sc (.string ⟨#[]⟩), .sl 5 64 [], .sc (.string ⟨#[]⟩), .sl 13 136 [], .sl 7 88 [], .sl 7 88 []]⟩),
 (48, ⟨.fn, 1, 8, [.sc (.nilFunc)]⟩),
 (49, ⟨.sli 172, 1, 24, [.sl 8 96 []]⟩),
 (50, ⟨.sli 263, 1, 24, [.sl 6 72 []]⟩),
 (51, ⟨.st [(0, 3), (1, 9), (2, 9), (3, 9), (4, 27), (9, 3), (10, 3), (11, 3), (12, 29), (15, 49), (16, 50)] false, 17, 216, [.sc (.int .i64 0), .sc (.string ⟨#[]⟩), .sc (.string ⟨#[]⟩), .sc (.string ⟨#[]⟩), .sc (.int .i64 0), .sc (.int .i64 0), .sc (.int .u64 0), .sc (.string ⟨#[]⟩), .sl 5 64 [], .sc (.int .i64 0), .sc (.int .i64 0), .sc (.int .i64 0), .sc (.int .i64 0), .sc (.int .u64 0), .sc (.int .i64 0), .sl 8 96 [], .sl 6 72 []]⟩),
 (52, ⟨.st [(0, 3), (1, 9), (2, 9), (3, 9), (4, 27), (9, 3), (10, 3), (11, 3), (12, 29), (15, 49), (16, 50)] false, 17, 216, [.sc (.int .i64 0), .sc (.string ⟨#[]⟩), .sc (.string ⟨#[]⟩), .sc (.string ⟨#[]⟩), .sc (.int .i64 0), .sc (.int .i64 0), .sc (.int .u64 0), .sc (.string ⟨#[]⟩), .sl 5 64 [], .sc (.int .i64 0), .sc (.int .i64 0), .sc (.int .i64 0), .sc (.int .i64 0), .sc (.int .u64 0), .sc (.int .i64 0), .sl 8 96 [], .sl 6 72 []]⟩),
 (53, ⟨.st [(0, 38), (34, 4), (35, 43), (36, 3), (37, 44)] false, 38, 448, [.sc (.string ⟨#[]⟩), .sc (.int .i64 0), .sc (.int .i64 0), .sc (.int .i64 0), .sc (.int .i64 0), .sc (.int .i64 0), .sc (.int .i64 0), .sc (.int .i64 0), .sc (.int .i64 0), .sc (.string ⟨#[]⟩), .sc (.int .i64 0), .sc (.int .i64 0), .sc (.int .u64 0), .sc (.string ⟨#[]⟩), .sl 5 64 [], .sc (.int .i64 0), .sc (.int .u64 0), .sc (.int .i64 0), .sc (.int .i64 0), .sc (.int .i64 0), .sc (.int .i64 0), .sc (.int .i64 0), .sc (.int .i64 0), .sc (.bool false), .sc (.bool false), .sl 2 24 [], .sl 12 152 [], .sc (.int .i64 0), .sc (.int .i64 0), .sc (.int .u64 0), .sc (.string ⟨#[]⟩), .sl 5 64 [], .sc (.string ⟨#[]⟩), .sl 4 56 [], .sc (.bool false), .sl 13 136 [], .sc (.int .i64 0), .sl 7 88 []]⟩),
 (54, ⟨.st [(0, 38), (34, 4), (35, 43), (36, 3), (37, 44)] false, 38, 448, [.sc (.string ⟨#[]⟩), .sc (.int .i64 0), .sc (.int .i64 0), .sc (.int .i64 0), .sc (.int .i64 0), .sc (.int .i64 0), .sc (.int .i64 0), .sc (.int .i64 0), .sc (.int .i64 0), .sc (.string ⟨#[]⟩), .sc (.int .i64 0), .sc (.int .i64 0), .sc (.int .u64 0), .sc (.string ⟨#[]⟩), .sl 5 64 [], .sc (.int .i64 0), .sc (.int .u64 0), .sc (.int .i64 0), .sc (.int .i64 0), .sc (.int .i64 0), .sc (.int .i64 0), .sc (.int .i64 0), .sc (.int .i64 0), .sc (.bool false), .sc (.bool false), .sl 2 24 [], .sl 12 152 [], .sc (.int .i64 0), .sc (.int .i64 0), .sc (.int .u64 0), .sc (.string ⟨#[]⟩), .sl 5 64 [], .sc (.string ⟨#[]⟩), .sl 4 56 [], .sc (.bool false), .sl 13 136 [], .sc (.int .i64 0), .sl 7 88 []]⟩),
 (55, ⟨.fn, 1, 8, [.sc (.nilFunc)]⟩),
 (56, ⟨.fn, 1, 8, [.sc (.nilFunc)]⟩),
 (57, ⟨.fn, 1, 8, [.sc (.nilFunc)]⟩),
 (58, ⟨.fn, 1, 8, [.sc (.nilFunc)]⟩),
 (59, ⟨.st [(0, 38), (34, 4), (35, 52), (52, 3)] false, 53, 616, [.sc (.string ⟨#[]⟩), .sc (.int .i64 0), .sc (.int .i64 0), .sc (.int .i64 0), .sc (.int .i64 0), .sc (.int .i64 0), .sc (.int .i64 0), .sc (.int .i64 0), .sc (.int .i64 0), .sc (.string ⟨#[]⟩), .sc (.int .i64 0), .sc (.int .i64 0), .sc (.int .u64 0), .sc (.string ⟨#[]⟩), .sl 5 64 [], .sc (.int .i64 0), .sc (.int .u64 0), .sc (.int .i64 0), .sc (.int .i64 0), .sc (.int .i64 0), .sc (.int .i64 0), .sc (.int .i64 0), .sc (.int .i64 0), .sc (.bool false), .sc (.bool false), .sl 2 24 [], .sl 12 152 [], .sc (.int .i64 0), .sc (.int .i64 0), .sc (.int .u64 0), .sc (.string ⟨#[]⟩), .sl 5 64 [], .sc (.string ⟨#[]⟩), .sl 4 56 [], .sc (.bool false), .sc (.int .i64 0), .sc (.string ⟨#[]⟩), .sc (.string ⟨#[]⟩), .sc (.string ⟨#[]⟩), .sc (.int .i64 0), .sc (.int .i64 0), .sc (.int .u64 0), .sc (.string ⟨#[]⟩), .sl 5 64 [], .sc (.int .i64 0), .sc (.int .i64 0), .sc (.int .i64 0), .sc (.int .i64 0), .sc (.int .u64 0), .sc (.int .i64 0), .sl 8 96 [], .sl 6 72 [], .sc (.int .i64 0)]⟩),
 (60, ⟨.st [(0, 38), (34, 4), (35, 52), (52, 3)] false, 53, 616, [.sc (.string ⟨#[]⟩), .sc (.int .i64 0), .sc (.int .i64 0), .sc (.int .i64 0), .sc (.int .i64 0), .sc (.int .i64 0), .sc (.int .i64 0), .sc (.int .i64 0), .sc (.int .i64 0), .sc (.string ⟨#[]⟩), .sc (.int .i64 0), .sc (.int .i64 0), .sc (.int .u64 0), .sc (.string ⟨#[]⟩), .sl 5 64 [], .sc (.int .i64 0), .sc (.int .u64 0), .sc (.int .i64 0), .sc (.int .i64 0), .sc (.int .i64 0), .sc (.int .i64 0), .sc (.int .i64 0), .sc (.int .i64 0), .sc (.bool false), .sc (.bool false), .sl 2 24 [], .sl 12 152 [], .sc (.int .i64 0), .sc (.int .i64 0), .sc (.int .u64 0), .sc (.string ⟨#[]⟩), .sl 5 64 [], .sc (.string ⟨#[]⟩), .sl 4 56 [], .sc (.bool false), .sc (.int .i64 0), .sc (.string ⟨#[]⟩), .sc (.string ⟨#[]⟩), .sc (.string ⟨#[]⟩), .sc (.int .i64 0), .sc (.int .i64 0), .sc (.int .u64 0), .sc (.string ⟨#[]⟩), .sl 5 64 [], .sc (.int .i64 0), .sc (.int .i64 0), .sc (.int .i64 0), .sc (.int .i64 0), .sc (.int .u64 0), .sc (.int .i64 0), .sl 8 96 [], .sl 6 72 [], .sc (.int .i64 0)]⟩),
 (61, ⟨.fn, 1, 8, [.sc (.nilFunc)]⟩),
 (62, ⟨.fn, 1, 8, [.sc (.nilFunc)]⟩),
 (64, ⟨.fn, 1, 8, [.sc (.nilFunc)]⟩),
 (65, ⟨.fn, 1, 8, [.sc (.nilFunc)]⟩),
 (67, ⟨.fn, 1, 8, [.sc (.nilFunc)]⟩),
 (68, ⟨.st [(0, 38), (34, 43), (35, 52), (52, 3)] false, 53, 632, [.sc (.string ⟨#[]⟩), .sc (.int .i64 0), .sc (.int .i64 0), .sc (.int .i64 0), .sc (.int .i64 0), .sc (.int .i64 0), .sc (.int .i64 0), .sc (.int .i64 0), .sc (.int .i64 0), .sc (.string ⟨#[]⟩), .sc (.int .i64 0), .sc (.int .i64 0), .sc (.int .u64 0), .sc (.string ⟨#[]⟩), .sl 5 64 [], .sc (.int .i64 0), .sc (.int .u64 0), .sc (.int .i64 0), .sc (.int .i64 0), .sc (.int .i64 0), .sc (.int .i64 0), .sc (.int .i64 0), .sc (.int .i64 0), .sc (.bool false), .sc (.bool false), .sl 2 24 [], .sl 12 152 [], .sc (.int .i64 0), .sc (.int .i64 0), .sc (.int .u64 0), .sc (.string ⟨#[]⟩), .sl 5 64 [], .sc (.string ⟨#[]⟩), .sl 4 56 [], .sl 13 136 [], .sc (.int .i64 0), .sc (.string ⟨#[]⟩), .sc (.string ⟨#[]⟩), .sc (.string ⟨#[]⟩), .sc (.int .i64 0), .sc (.int .i64 0), .sc (.int .u64 0), .sc (.string ⟨#[]⟩), .sl 5 64 [], .sc (.int .i64 0), .sc (.int .i64 0), .sc (.int .i64 0), .sc (.int .i64 0), .sc (.int .u64 0), .sc (.int .i64 0), .sl 8 96 [], .sl 6 72 [], .sc (.int .i64 0)]⟩),
 (69, ⟨.st [(0, 38), (34, 43), (35, 52), (52, 3)] false, 53, 632, [.sc (.string ⟨#[]⟩), .sc (.int .i64 0), .sc (.int .i64 0), .sc (.int .i64 0), .sc (.int .i64 0), .sc (.int .i64 0), .sc (.int .i64 0), .sc (.int .i64 0), .sc (.int .i64 0), .sc (.string ⟨#[]⟩), .sc (.int .i64 0), .sc (.int .i64 0), .sc (.int .u64 0), .sc (.string ⟨#[]⟩), .sl 5 64 [], .sc (.int .i64 0), .sc (.int .u64 0), .sc (.int .i64 0), .sc (.int .i64 0), .sc (.int .i64 0), .sc (.int .i64 0), .sc (.int .i64 0), .sc (.int .i64 0), .sc (.bool false), .sc (.bool false), .sl 2 24 [], .sl 12 152 [], .sc (.int .i64 0), .sc (.int .i64 0), .sc (.int .u64 0), .sc (.string ⟨#[]⟩), .sl 5 64 [], .sc (.string ⟨#[]⟩), .sl 4 56 [], .sl 13 136 [], .sc (.int .i64 0), .sc (.string ⟨#[]⟩), .sc (.string ⟨#[]⟩), .sc (.string ⟨#[]⟩), .sc (.int .i64 0), .sc (.int .i64 0), .sc (.int .u64 0), .sc (.string ⟨#[]⟩), .sl 5 64 [], .sc (.int .i64 0), .sc (.int .i64 0), .sc (.int .i64 0), .sc (.int .i64 0), .sc (.int .u64 0), .sc (.int .i64 0), .sl 8 96 [], .sl 6 72 [], .sc (.int .i64 0)]⟩),
 (70, ⟨.fn, 1, 8, [.sc (.nilFunc)]⟩),
 (71, ⟨.fn, 1, 8, [.sc (.nilFunc)]⟩),
 (72, ⟨.fn, 1, 8, [.sc (.nilFunc)]⟩),
 (73, ⟨.fn, 1, 8, [.sc (.nilFunc)]⟩),
 (74, ⟨.fn, 1, 8, [.sc (.nilFunc)]⟩),
 (75, ⟨.fn, 1, 8, [.sc (.nilFunc)]⟩),
 (76, ⟨.fn, 1, 8, [.sc (.nilFunc)]⟩),
 (77, ⟨.st [(0, 9), (1, 3)] false, 2, 24, [.sc (.string ⟨#[]⟩), .sc (.int .i64 0)]⟩),
 (78, ⟨.st [(0, 9), (1, 3)] true, 2, 24, [.sc (.string ⟨#[]⟩), .sc (.int .i64 0)]⟩),
 (79, ⟨.st [(0, 9), (1, 27), (6, 3), (7, 27)] false, 12, 152, [.sc (.string ⟨#[]⟩), .sc (.int .i64 0), .sc (.int .i64 0), .sc (.int .u64 0), .sc (.string ⟨#[]⟩), .sl 5 64 [], .sc (.int .i64 0), .sc (.int .i64 0), .sc (.int .i64 0), .sc (.int .u64 0), .sc (.string ⟨#[]⟩), .sl 5 64 []]⟩),
 (80, ⟨.st [(0, 9), (1, 27), (6, 3), (7, 27)] false, 12, 152, [.sc (.string ⟨#[]⟩), .sc (.int .i64 0), .sc (.int .i64 0), .sc (.int .u64 0), .sc (.string ⟨#[]⟩), .sl 5 64 [], .sc (.int .i64 0), .sc (.int .i64 0), .sc (.int .i64 0), .sc (.int .u64 0), .sc (.string ⟨#[]⟩), .sl 5 64 []]⟩),
 (81, ⟨.fn, 1, 8, [.sc (.nilFunc)]⟩),
 (82, ⟨.sli 5, 1, 24, [.sl 1 1 []]⟩),
 (83, ⟨.st [(0, 9), (1, 3), (2, 82), (3, 3)] false, 4, 56, [.sc (.string ⟨#[]⟩), .sc (.int .i64 0), .sl 1 1 [], .sc (.int .i64 0)]⟩),
 (84, ⟨.st [(0, 9), (1, 3), (2, 82), (3, 3)] false, 4, 56, [.sc (.string ⟨#[]⟩), .sc (.int .i64 0), .sl 1 1 [], .sc (.int .i64 0)]⟩),
 (86, ⟨.fn, 1, 8, [.sc (.nilFunc)]⟩),
 (87, ⟨.fn, 1, 8, [.sc (.nilFunc)]⟩),
 (88, ⟨.fn, 1, 8, [.sc (.nilFunc)]⟩),
 (89, ⟨.fn, 1, 8, [.sc (.nilFunc)]⟩),
 (90, ⟨.st [(0, 3), (1, 3), (2, 3), (3, 3), (4, 9), (5, 27), (10, 29)] false, 13, 136, [.sc (.int .i64 0), .sc (.int .i64 0), .sc (.int .i64 0), .sc (.int .i64 0), .sc (.string ⟨#[]⟩), .sc (.int .i64 0), .sc (.int .i64 0), .sc (.int .u64 0), .sc (.string ⟨#[]⟩), .sl 5 64 [], .sc (.int .i64 0), .sc (.int .u64 0), .sc (.int .i64 0)]⟩),
 (91, ⟨.st [(0, 3), (1, 3), (2, 3), (3, 3), (4, 9), (5, 27), (10, 29)] false, 13, 136, [.sc (.int .i64 0), .sc (.int .i64 0), .sc (.int .i64 0), .sc (.int .i64 0), .sc (.string ⟨#[]⟩), .sc (.int .i64 0), .sc (.int .i64 0), .sc (.int .u64 0), .sc (.string ⟨#[]⟩), .sl 5 64 [], .sc (.int .i64 0), .sc (.int .u64 0), .sc (.int .i64 0)]⟩),
 (92, ⟨.fn, 1, 8, [.sc (.nilFunc)]⟩),
 (93, ⟨.fn, 1, 8, [.sc (.nilFunc)]⟩),
 (94, ⟨.fn, 1, 8, [.sc (.nilFunc)]⟩),
 (95, ⟨.st [(0, 3), (1, 3), (2, 3), (3, 3), (4, 43)] false, 5, 56, [.sc (.int .i64 0), .sc (.int .i64 0), .sc (.int .i64 0), .sc (.int .i64 0), .sl 13 136 []]⟩),
 (96, ⟨.st [(0, 3), (1, 3), (2, 3), (3, 3), (4, 43)] false, 5, 56, [.sc (.int .i64 0), .sc (.int .i64 0), .sc (.int .i64 0), .sc (.int .i64 0), .sl 13 136 []]⟩),
 (98, ⟨.fn, 1, 8, [.sc (.nilFunc)]⟩),
 (100, ⟨.fn, 1, 8, [.sc (.nilFunc)]⟩),
 (102, ⟨.fn, 1, 8, [.sc (.nilFunc)]⟩),
 (104, ⟨.fn, 1, 8, [.sc (.nilFunc)]⟩),
 (105, ⟨.fn, 1, 8, [.sc (.nilFunc)]⟩),
 (106, ⟨.fn, 1, 8, [.sc (.nilFunc)]⟩),
 (107, ⟨.fn, 1, 8, [.sc (.nilFunc)]⟩),
 (108, ⟨.st [(0, 38), (34, 52), (51, 3), (52, 44)] false, 53, 632, [.sc (.string ⟨#[]⟩), .sc (.int .i64 0), .sc (.int .i64 0), .sc (.int .i64 0), .sc (.int .i64 0), .sc (.int .i64 0), .sc (.int .i64 0), .sc (.int .i64 0), .sc (.int .i64 0), .sc (.string ⟨#[]⟩), .sc (.int .i64 0), .sc (.int .i64 0), .sc (.int .u64 0), .sc (.string ⟨#[]⟩), .sl 5 64 [], .sc (.int .i64 0), .sc (.int .u64 0), .sc (.int .i64 0), .sc (.int .i64 0), .sc (.int .i64 0), .sc (.int .i64 0), .sc (.int .i64 0), .sc (.int .i64 0), .sc (.bool false), .sc (.bool false), .sl 2 24 [], .sl 12 152 [], .sc (.int .i64 0), .sc (.int .i64 0), .sc (.int .u64 0), .sc (.string ⟨#[]⟩), .sl 5 64 [], .sc (.string ⟨#[]⟩), .sl 4 56 [], .sc (.int .i64 0), .sc (.string ⟨#[]⟩), .sc (.string ⟨#[]⟩), .sc (.string ⟨#[]⟩), .sc (.int .i64 0), .sc (.int .i64 0), .sc (.int .u64 0), .sc (.string ⟨#[]⟩), .sl 5 64 [], .sc (.int .i64 0), .sc (.int .i64 0), .sc (.int .i64 0), .sc (.int .i64 0), .sc (.int .u64 0), .sc (.int .i64 0), .sl 8 96 [], .sl 6 72 [], .sc (.int .i64 0), .sl 7 88 []]⟩),
 (109, ⟨.st [(0, 38), (34, 52), (51, 3), (52, 44)] false, 53, 632, [.sc (.string ⟨#[]⟩), .sc (.int .i64 0), .sc (.int .i64 0), .sc (.int .i64 0), .sc (.int .i64 0), .sc (.int .i64 0), .sc (.int .i64 0), .sc (.int .i64 0), .sc (.int .i64 0), .sc (.string ⟨#[]⟩), .sc (.int .i64 0), .sc (.int .i64 0), .sc (.int .u64 0), .sc (.string ⟨#[]⟩), .sl 5 64 [], .sc (.int .i64 0), .sc (.int .u64 0), .sc (.int .i64 0), .sc (.int .i64 0), .sc (.int .i64 0), .sc (.int .i64 0), .sc (.int .i64 0), .sc (.int .i64 0), .sc (.bool false), .sc (.bool false), .sl 2 24 [], .sl 12 152 [], .sc (.int .i64 0), .sc (.int .i64 0), .sc (.int .u64 0), .sc (.string ⟨#[]⟩), .sl 5 64 [], .sc (.string ⟨#[]⟩), .sl 4 56 [], .sc (.int .i64 0), .sc (.string ⟨#[]⟩), .sc (.string ⟨#[]⟩), .sc (.string ⟨#[]⟩), .sc (.int .i64 0), .sc (.int .i64 0), .sc (.int .u64 0), .sc (.string ⟨#[]⟩), .sl 5 64 [], .sc (.int .i64 0), .sc (.int .i64 0), .sc (.int .i64 0), .sc (.int .i64 0), .sc (.int .u64 0), .sc (.int .i64 0), .sl 8 96 [], .sl 6 72 [], .sc (.int .i64 0), .sl 7 88 []]⟩),
 (110, ⟨.fn, 1, 8, [.sc (.nilFunc)]⟩),
 (111, ⟨.fn, 1, 8, [.sc (.nilFunc)]⟩),
 (112, ⟨.fn, 1, 8, [.sc (.nilFunc)]⟩),
 (113, ⟨.fn, 1, 8, [.sc (.nilFunc)]⟩),
 (114, ⟨.fn, 1, 8, [.sc (.nilFunc)]⟩),
 (115, ⟨.fn, 1, 8, [.sc (.nilFunc)]⟩),
 (116, ⟨.fn, 1, 8, [.sc (.nilFunc)]⟩),
 (117, ⟨.fn, 1, 8, [.sc (.nilFunc)]⟩),
 (118, ⟨.fn, 1, 8, [.sc (.nilFunc)]⟩),
 (119, ⟨.fn, 1, 8, [.sc (.nilFunc)]⟩),
 (120, ⟨.fn, 1, 8, [.sc (.nilFunc)]⟩),
 (121, ⟨.fn, 1, 8, [.sc (.nilFunc)]⟩),
 (122, ⟨.fn, 1, 8, [.sc (.nilFunc)]⟩),
 (123, ⟨.fn, 1, 8, [.sc (.nilFunc)]⟩),
 (124, ⟨.fn, 1, 8, [.sc (.nilFunc)]⟩),
 (125, ⟨.fn, 1, 8, [.sc (.nilFunc)]⟩),
 (126, ⟨.sli 3, 1, 24, [.sl 1 8 []]⟩),
 (127, ⟨.fn, 1, 8, [.sc (.nilFunc)]⟩),
 (128, ⟨.fn, 1, 8, [.sc (.nilFunc)]⟩),
 (130, ⟨.fn, 1, 8, [.sc (.nilFunc)]⟩),
 (131, ⟨.fn, 1, 8, [.sc (.nilFunc)]⟩),
 (132, ⟨.fn, 1, 8, [.sc (.nilFunc)]⟩),
 (133, ⟨.fn, 1, 8, [.sc (.nilFunc)]⟩),
 (134, ⟨.fn, 1, 8, [.sc (.nilFunc)]⟩),
 (135, ⟨.fn, 1, 8, [.sc (.nilFunc)]⟩),
 (136, ⟨.fn, 1, 8, [.sc (.nilFunc)]⟩),
 (137, ⟨.fn, 1, 8, [.sc (.nilFunc)]⟩),
 (138, ⟨.fn, 1, 8, [.sc (.nilFunc)]⟩),
 (139, ⟨.fn, 1, 8, [.sc (.nilFunc)]⟩),
 (140, ⟨.fn, 1, 8, [.sc (.nilFunc)]⟩),
 (141, ⟨.st [(0, 3), (1, 9), (2, 27)] false, 7, 88, [.sc (.int .i64 0), .sc (.string ⟨#[]⟩), .sc (.int .i64 0), .sc (.int .i64 0), .sc (.int .u64 0), .sc (.string ⟨#[]⟩), .sl 5 64 []]⟩),
 (142, ⟨.st [(0, 3), (1, 9), (2, 27)] false, 7, 88, [.sc (.int .i64 0), .sc (.string ⟨#[]⟩), .sc (.int .i64 0), .sc (.int .i64 0), .sc (.int .u64 0), .sc (.string ⟨#[]⟩), .sl 5 64 []]⟩),
 (143, ⟨.fn, 1, 8, [.sc (.nilFunc)]⟩),
 (145, ⟨.fn, 1, 8, [.sc (.nilFunc)]⟩),
 (146, ⟨.fn, 1, 8, [.sc (.nilFunc)]⟩),
 (147, ⟨.fn, 1, 8, [.sc (.nilFunc)]⟩),
 (148, ⟨.fn, 1, 8, [.sc (.nilFunc)]⟩),
 (149, ⟨.fn, 1, 8, [.sc (.nilFunc)]⟩),
 (150, ⟨.fn, 1, 8, [.sc (.nilFunc)]⟩),
 (151, ⟨.fn, 1, 8, [.sc (.nilFunc)]⟩),
 (152, ⟨.fn, 1, 8, [.sc (.nilFunc)]⟩),
 (153, ⟨.fn, 1, 8, [.sc (.nilFunc)]⟩),
 (154, ⟨.fn, 1, 8, [.sc (.nilFunc)]⟩),
 (155, ⟨.fn, 1, 8, [.sc (.nilFunc)]⟩),
 (156, ⟨.fn, 1, 8, [.sc (.nilFunc)]⟩),
 (157, ⟨.fn, 1, 8, [.sc (.nilFunc)]⟩),
 (158, ⟨.fn, 1, 8, [.sc (.nilFunc)]⟩),
 (159, ⟨.fn, 1, 8, [.sc (.nilFunc)]⟩),
 (160, ⟨.fn, 1, 8, [.sc (.nilFunc)]⟩),
 (162, ⟨.fn, 1, 8, [.sc (.nilFunc)]⟩),
 (163, ⟨.fn, 1, 8, [.sc (.nilFunc)]⟩),
 (164, ⟨.fn, 1, 8, [.sc (.nilFunc)]⟩),
 (165, ⟨.fn, 1, 8, [.sc (.nilFunc)]⟩),
 (166, ⟨.fn, 1, 8, [.sc (.nilFunc)]⟩),
 (167, ⟨.fn, 1, 8, [.sc (.nilFunc)]⟩),
 (168, ⟨.ptr 170, 1, 8, [.sc (.pointer none)]⟩),
 (169, ⟨.st [(0, 35), (31, 44), (32, 3), (33, 43), (34, 44)] false, 35, 416, [.sc (.int .i64 0), .sc (.int .i64 0), .sc (.int .i64 0), .sc (.int .i64 0), .sc (.int .i64 0), .sc (.int .i64 0), .sc (.int .i64 0), .sc (.string ⟨#[]⟩), .sc (.int .i64 0), .sc (.int .i64 0), .sc (.int .u64 0), .sc (.string ⟨#[]⟩), .sl 5 64 [], .sc (.int .i64 0), .sc (.int .u64 0), .sc (.int .i64 0), .sc (.int .i64 0), .sc (.int .i64 0), .sc (.int .i64 0), .sc (.int .i64 0), .sc (.int .i64 0), .sc (.bool false), .sc (.bool false), .sl 2 24 [], .sl 12 152 [], .sc (.int .i64 0), .sc (.int .i64 0), .sc (.int .u64 0), .sc (.string ⟨#[]⟩), .sl 5 64 [], .sc (.string ⟨#[]⟩), .sl 7 88 [], .sc (.int .i64 0), .sl 13 136 [], .sl 7 88 []]⟩),
 (170, ⟨.st [(0, 35), (31, 44), (32, 3), (33, 43), (34, 44)] false, 35, 416, [.sc (.int .i64 0), .sc (.int .i64 0), .sc (.int .i64 0), .sc (.int .i64 0), .sc (.int .i64 0), .sc (.int .i64 0), .sc (.int .i64 0), .sc (.string ⟨#[]⟩), .sc (.int .i64 0), .sc (.int .i64 0), .sc (.int .u64 0), .sc (.string ⟨#[]⟩), .sl 5 64 [], .sc (.int .i64 0), .sc (.int .u64 0), .sc (.int .i64 0), .sc (.int .i64 0), .sc (.int .i64 0), .sc (.int .i64 0), .sc (.int .i64 0), .sc (.int .i64 0), .sc (.bool false), .sc (.bool false), .sl 2 24 [], .sl 12 152 [], .sc (.int .i64 0), .sc (.int .i64 0), .sc (.int .u64 0), .sc (.string ⟨#[]⟩), .sl 5 64 [], .sc (.string ⟨#[]⟩), .sl 7 88 [], .sc (.int .i64 0), .sl 13 136 [], .sl 7 88 []]⟩),
 (171, ⟨.st [(0, 3), (1, 9), (2, 27), (7, 3)] false, 8, 96, [.sc (.int .i64 0), .sc (.string ⟨#[]⟩), .sc (.int .i64 0), .sc (.int .i64 0), .sc (.int .u64 0), .sc (.string ⟨#[]⟩), .sl 5 64 [], .sc (.int .i64 0)]⟩),
 (172, ⟨.st [(0, 3), (1, 9), (2, 27), (7, 3)] false, 8, 96, [.sc (.int .i64 0), .sc (.string ⟨#[]⟩), .sc (.int .i64 0), .sc (.int .i64 0), .sc (.int .u64 0), .sc (.string ⟨#[]⟩), .sl 5 64 [], .sc (.int .i64 0)]⟩),
 (173, ⟨.fn, 1, 8, [.sc (.nilFunc)]⟩),
 (174, ⟨.fn, 1, 8, [.sc (.nilFunc)]⟩),
 (175, ⟨.sli 43, 1, 24, [.sl 1 24 []]⟩),
 (176, ⟨.fn, 1, 8, [.sc (.nilFunc)]⟩),
 (177, ⟨.fn, 1, 8, [.sc (.nilFunc)]⟩),
 (178, ⟨.ptr 198, 1, 8, [.sc (.pointer none)]⟩),
 (179, ⟨.fn, 1, 8, [.sc (.nilFunc)]⟩),
 (180, ⟨.fn, 1, 8, [.sc (.nilFunc)]⟩),
 (181, ⟨.fn, 1, 8, [.sc (.nilFunc)]⟩),
 (182, ⟨.fn, 1, 8, [.sc (.nilFunc)]⟩),
 (183, ⟨.fn, 1, 8, [.sc (.nilFunc)]⟩),
 (184, ⟨.fn, 1, 8, [.sc (.nilFunc)]⟩),
 (185, ⟨.fn, 1, 8, [.sc (.nilFunc)]⟩),
 (186, ⟨.fn, 1, 8, [.sc (.nilFunc)]⟩),
 (187, ⟨.fn, 1, 8, [.sc (.nilFunc)]⟩),
 (188, ⟨.fn, 1, 8, [.sc (.nilFunc)]⟩),
 (190, ⟨.fn, 1, 8, [.sc (.nilFunc)]⟩),
 (191, ⟨.ifc, 1, 16, [.sc (.nilIface)]⟩),
 (192, ⟨.ifc, 1, 16, [.sc (.nilIface)]⟩),
 (193, ⟨.fn, 1, 8, [.sc (.nilFunc)]⟩),
 (194, ⟨.fn, 1, 8, [.sc (.nilFunc)]⟩),
 (195, ⟨.fn, 1, 8, [.sc (.nilFunc)]⟩),
 (196, ⟨.fn, 1, 8, [.sc (.nilFunc)]⟩),
 (197, ⟨.st [(0, 29), (3, 24)] false, 4, 32, [.sc (.int .i64 0), .sc (.int .u64 0), .sc (.int .i64 0), .sc (.int .u64 0)]⟩),
 (198, ⟨.st [(0, 29), (3, 24)] false, 4, 32, [.sc (.int .i64 0), .sc (.int .u64 0), .sc (.int .i64 0), .sc (.int .u64 0)]⟩),
 (199, ⟨.fn, 1, 8, [.sc (.nilFunc)]⟩),
 (200, ⟨.fn, 1, 8, [.sc (.nilFunc)]⟩),
 (201, ⟨.fn, 1, 8, [.sc (.nilFunc)]⟩),
 (202, ⟨.fn, 1, 8, [.sc (.nilFunc)]⟩),
 (203, ⟨.fn, 1, 8, [.sc (.nilFunc)]⟩),
 (204, ⟨.fn, 1, 8, [.sc (.nilFunc)]⟩),
 (205, ⟨.fn, 1, 8, [.sc (.nilFunc)]⟩),
 (206, ⟨.int .u64, 1, 8, [.sc (.int .u64 0)]⟩),
 (207, ⟨.fn, 1, 8, [.sc (.nilFunc)]⟩),
 (208, ⟨.fn, 1, 8, [.sc (.nilFunc)]⟩),
 (209, ⟨.fn, 1, 8, [.sc (.nilFunc)]⟩),
 (210, ⟨.fn, 1, 8, [.sc (.nilFunc)]⟩),
 (211, ⟨.ptr 35, 1, 8, [.sc (.pointer none)]⟩),
 (212, ⟨.fn, 1, 8, [.sc (.nilFunc)]⟩),
 (214, ⟨.fn, 1, 8, [.sc (.nilFunc)]⟩),
 (215, ⟨.fn, 1, 8, [.sc (.nilFunc)]⟩),
 (216, ⟨.st [] false, 0, 0, []⟩),
 (217, ⟨.st [] false, 0, 0, []⟩),
 (218, ⟨.st [(0, 3)] false, 1, 8, [.sc (.int .i64 0)]⟩),
 (219, ⟨.st [(0, 3)] false, 1, 8, [.sc (.int .i64 0)]⟩),
 (220, ⟨.st [(0, 3)] false, 1, 8, [.sc (.int .i64 0)]⟩),
 (221, ⟨.st [(0, 27)] false, 5, 64, [.sc (.int .i64 0), .sc (.int .i64 0), .sc (.int .u64 0), .sc (.string ⟨#[]⟩), .sl 5 64 []]⟩),
 (222, ⟨.st [(0, 27)] false, 5, 64, [.sc (.int .i64 0), .sc (.int .i64 0), .sc (.int .u64 0), .sc (.string ⟨#[]⟩), .sl 5 64 []]⟩),
 (223, ⟨.st [] false, 0, 0, []⟩),
 (224, ⟨.fn, 1, 8, [.sc (.nilFunc)]⟩),
 (225, ⟨.flt .f64, 1, 8, [.sc (.float .f64 0)]⟩),
 (226, ⟨.fn, 1, 8, [.sc (.nilFunc)]⟩),
 (227, ⟨.fn, 1, 8, [.sc (.nilFunc)]⟩),
 (228, ⟨.fn, 1, 8, [.sc (.nilFunc)]⟩),
 (229, ⟨.fn, 1, 8, [.sc (.nilFunc)]⟩),
 (230, ⟨.fn, 1, 8, [.sc (.nilFunc)]⟩),
 (231, ⟨.fn, 1, 8, [.sc (.nilFunc)]⟩),
 (232, ⟨.fn, 1, 8, [.sc (.nilFunc)]⟩),
 (234, ⟨.fn, 1, 8, [.sc (.nilFunc)]⟩),
 (235, ⟨.fn, 1, 8, [.sc (.nilFunc)]⟩),
 (236, ⟨.fn, 1, 8, [.sc (.nilFunc)]⟩),
 (237, ⟨.fn, 1, 8, [.sc (.nilFunc)]⟩),
 (238, ⟨.fn, 1, 8, [.sc (.nilFunc)]⟩),
 (239, ⟨.fn, 1, 8, [.sc (.nilFunc)]⟩),
 (240, ⟨.fn, 1, 8, [.sc (.nilFunc)]⟩),
 (241, ⟨.fn, 1, 8, [.sc (.nilFunc)]⟩),
 (242, ⟨.fn, 1, 8, [.sc (.nilFunc)]⟩),
 (243, ⟨.fn, 1, 8, [.sc (.nilFunc)]⟩),
 (244, ⟨.fn, 1, 8, [.sc (.nilFunc)]⟩),
 (245, ⟨.fn, 1, 8, [.sc (.nilFunc)]⟩),
 (246, ⟨.fn, 1, 8, [.sc (.nilFunc)]⟩),
 (247, ⟨.fn, 1, 8, [.sc (.nilFunc)]⟩),
 (248, ⟨.st [(0, 17), (1, 17), (2, 17), (3, 9)] false, 4, 40, [.sc (.pointer none), .sc (.pointer none), .sc (.pointer none), .sc (.string ⟨#[]⟩)]⟩),
 (249, ⟨.st [(0, 17), (1, 17), (2, 17), (3, 9)] false, 4, 40, [.sc (.pointer none), .sc (.pointer none), .sc (.pointer none), .sc (.string ⟨#[]⟩)]⟩),
 (250, ⟨.arr 0 16, 0, 0, []⟩),
 (251, ⟨.st [(0, 250)] false, 0, 0, []⟩),
 (252, ⟨.st [(0, 250)] false, 0, 0, []⟩),
 (253, ⟨.int .u32, 1, 4, [.sc (.int .u32 0)]⟩),
 (254, ⟨.int .u8, 1, 1, [.sc (.int .u8 0)]⟩),
 (255, ⟨.int .u8, 1, 1, [.sc (.int .u8 0)]⟩),
 (256, ⟨.fn, 1, 8, [.sc (.nilFunc)]⟩),
 (257, ⟨.ptr 5, 1, 8, [.sc (.pointer none)]⟩),
 (258, ⟨.int .i32, 1, 4, [.sc (.int .i32 0)]⟩),
 (259, ⟨.int .i32, 1, 4, [.sc (.int .i32 0)]⟩),
 (260, ⟨.st [(0, 12), (1, 12), (2, 253), (3, 254), (4, 5), (5, 5), (6, 255), (7, 256), (8, 257), (9, 258), (10, 259)] false, 11, 48, [.sc (.int .u64 0), .sc (.int .u64 0), .sc (.int .u32 0), .sc (.int .u8 0), .sc (.int .u8 0), .sc (.int .u8 0), .sc (.int .u8 0), .sc (.nilFunc), .sc (.pointer none), .sc (.int .i32 0), .sc (.int .i32 0)]⟩),
 (261, ⟨.st [(0, 12), (1, 12), (2, 253), (3, 254), (4, 5), (5, 5), (6, 255), (7, 256), (8, 257), (9, 258), (10, 259)] false, 11, 48, [.sc (.int .u64 0), .sc (.int .u64 0), .sc (.int .u32 0), .sc (.int .u8 0), .sc (.int .u8 0), .sc (.int .u8 0), .sc (.int .u8 0), .sc (.nilFunc), .sc (.pointer none), .sc (.int .i32 0), .sc (.int .i32 0)]⟩),
 (262, ⟨.st [(0, 3), (1, 27)] false, 6, 72, [.sc (.int .i64 0), .sc (.int .i64 0), .sc (.int .i64 0), .sc (.int .u64 0), .sc (.string ⟨#[]⟩), .sl 5 64 []]⟩),
 (263, ⟨.st [(0, 3), (1, 27)] false, 6, 72, [.sc (.int .i64 0), .sc (.int .i64 0), .sc (.int .i64 0), .sc (.int .u64 0), .sc (.string ⟨#[]⟩), .sl 5 64 []]⟩),
 (264, ⟨.oth, 1, 8, [.sc (.pointer none)]⟩)]

set_option maxRecDepth 100000 in
theorem TTok : POk PP TT := ⟨tok_of (by kernel_rfl), by kernel_rfl⟩

end Go.AW

/- Steps through a function. -/
namespace Go.AW
open Go Go.Proofs

/-- A loop with an invariant. -/
theorem aloopI {P : Program} {T : TTab} {N : Nat} {c : Code} {K : AExit → Env → Heap → Prop} {α : Type} {E : Env} {H : Heap} (EE : α → Env) (HH : α → Heap) (m : α → Nat) (I : α → Prop) (x0 : α) (i0 : I x0) (h0 : ANx N (EE x0) (HH x0) E H)
    (round : ∀ x (hx : I x), xcode P T N c (EE x) (HH x) (loopK N (fun y : {y // I y} => EE y.1) (fun y => HH y.1) (fun y => m y.1) ⟨x, hx⟩ K)) : ALoop P T N c E H K :=
  aloop (fun y : {y // I y} => EE y.1) (fun y => HH y.1) (fun y => m y.1) ⟨x0, i0⟩ h0 (fun ⟨x, hx⟩ => round x hx)

theorem b1_inj {a b : Bool} (h : a = b) : B1 a = B1 b := by rw [h]
theorem i64_inj {a b : Int} (h : a = b) : I64 a = I64 b := by rw [h]

theorem ares {x v : V} (h : x = v) : ARes x v := ⟨h⟩

abbrev U8 (c : Int) : V := .fr (.sc (.int .u8 c))
abbrev U64 (c : Int) : V := .fr (.sc (.int .u64 c))

theorem astr {s : ByteArray} {k : Nat} {i : Int} {K : Nat → Prop} (hk : k < s.size) (hi : i = k) (h : K s[k].toNat) : AStr s i K := by
  subst hi
  exact ⟨hk, Int.natCast_nonneg k, h⟩

end Go.AW

/- Loops: slots that stay, slots that move. -/
namespace Go.AW
open Go Go.Proofs

noncomputable def keepE (E : Env) (l : List Nat) : Env := List.rec (motive := fun _ => Env) [] (fun n _ ih => (n, look E n) :: ih) l
noncomputable def fcKeep (E : Env) (l : List Nat) : (Env → Prop) → Prop := List.rec (motive := fun _ => (Env → Prop) → Prop) (fun K => K []) (fun n _ ih K => fc1 (look E n) fun v => ih fun r => K ((n, v) :: r)) l
theorem fcKeep_eq (E : Env) (l : List Nat) (K : Env → Prop) : fcKeep E l K = K (keepE E l) := by
  induction l generalizing K with
  | nil => rfl
  | cons n l ih => show fc1 (look E n) (fun v => fcKeep E l fun r => K ((n, v) :: r)) = _; rw [fc1_eq, ih]; rfl

theorem subE_append {A B E : Env} (h : SubE A E) (k : SubE B E) : SubE (List.append A B) E := by
  induction A with
  | nil => exact k
  | cons p A ih => exact ⟨h.1, ih h.2⟩
theorem subE_keep (E : Env) (l : List Nat) : SubE (keepE E l) E := by
  induction l with
  | nil => trivial
  | cons n l ih => exact ⟨rfl, ih⟩

/-- A loop with an invariant: the slots 'keep' stay as they are. -/
theorem aloopK {P : Program} {T : TTab} {N : Nat} {c : Code} {K : AExit → Env → Heap → Prop} {α : Type} {E : Env} {H : Heap} (keep : List Nat) (EE : α → Env) (HH : α → Heap) (m : α → Nat) (I : α → Prop) (x0 : α) (i0 : I x0) (h0 : SubE (EE x0) E) (hH : HH x0 = H)
    (round : fcKeep E keep fun Ek => ∀ x (hx : I x), xcode P T N c (List.append (EE x) Ek) (HH x) (loopK N (fun y : {y // I y} => List.append (EE y.1) Ek) (fun y => HH y.1) (fun y => m y.1) ⟨x, hx⟩ K)) : ALoop P T N c E H K := by
  rw [fcKeep_eq] at round
  exact aloopI (fun x => List.append (EE x) (keepE E keep)) HH m I x0 i0 (.same (subE_append h0 (subE_keep E keep)) hH) round

/-- A loop from a state seen otherwise. -/
theorem aloopV {P : Program} {T : TTab} {N : Nat} {c : Code} {K : AExit → Env → Heap → Prop} {E : Env} {H : Heap} (E' : Env) (H' : Heap) (hv : ANx N E' H' E H) (h : ALoop P T N c E' H' K) : ALoop P T N c E H K := by
  constructor
  intro Γ nt a w μ hP hN hT hc hok
  obtain ⟨μ', hok'⟩ := hv.ok hN hok
  exact h.go Γ nt a w μ' hP hN hT hc hok'

theorem drop_cons {α : Type} {l : List α} {k : Nat} {x : α} (h : l[k]? = some x) : l.drop k = x :: l.drop (k + 1) := by
  obtain ⟨hk, rfl⟩ := List.getElem?_eq_some_iff.1 h
  exact List.drop_eq_getElem_cons hk
theorem getx {α : Type} (l : List α) {k : Nat} (h : k < l.length) : ∃ x, l[k]? = some x := ⟨_, List.getElem?_eq_getElem h⟩
theorem ltx {α : Type} {l : List α} {k : Nat} (h : decide ((k : Int) < (l.length : Int)) = true) : k < l.length := by simpa using h
theorem gex {α : Type} {l : List α} {k : Nat} (hk : k ≤ l.length) (h : decide ((k : Int) < (l.length : Int)) = false) : k = l.length := by simp at h; omega

theorem any_of {α : Type} {l : List α} {p : α → Bool} {k : Nat} {x : α} (hx : l[k]? = some x) (h : p x = true) : l.any p = true := List.any_eq_true.2 ⟨x, List.mem_of_getElem? hx, h⟩
theorem any_no {α : Type} {l : List α} {p : α → Bool} (h : ∀ (k : Nat) (x : α), l[k]? = some x → p x = false) : l.any p = false := by
  rw [List.any_eq_false]
  intro x hx
  obtain ⟨k, hk⟩ := List.getElem?_of_mem hx
  simp [h k x hk]


theorem fit_rows {α : Type} {enc : α → List F} {l : List α} {n b : Nat} (h : FitF (.sl n b (l.map enc))) : l.length * b ≤ 140737488355328 := by
  cases h with
  | sl n b es h k => simpa using h


end Go.AW

/- Values: a clone, sameness. -/
namespace Go.AW
open Go Go.Proofs

inductive Val where
  | mk (kind int bits : Int) (text : ByteArray) (list : List Val)
namespace Val
def kind : Val → Int | .mk k _ _ _ _ => k
def int : Val → Int | .mk _ i _ _ _ => i
def bits : Val → Int | .mk _ _ b _ _ => b
def text : Val → ByteArray | .mk _ _ _ s _ => s
def list : Val → List Val | .mk _ _ _ _ l => l
mutual
def raw : Val → List F
  | .mk k i b s l => [.sc (.int .i64 k), .sc (.int .i64 i), .sc (.int .u64 b), .sc (.string s), .sl 5 64 (raws l)]
def raws : List Val → List (List F)
  | [] => []
  | x :: r => raw x :: raws r
end
def encs (l : List Val) : List (List F) := raws l
def enc (x : Val) : List F := [.sc (.int .i64 x.kind), .sc (.int .i64 x.int), .sc (.int .u64 x.bits), .sc (.string x.text), .sl 5 64 (encs x.list)]
theorem enc_raw (x : Val) : x.raw = x.enc := by cases x; rfl
theorem encs_eq (l : List Val) : encs l = l.map enc := by
  induction l with
  | nil => rfl
  | cons x r ih => show raw x :: encs r = _; rw [ih, enc_raw]; rfl
theorem lt_of_mem {x y : Val} (h : y ∈ x.list) : SizeOf.sizeOf y < SizeOf.sizeOf x := by
  cases x with
  | mk k i b s l => have := List.sizeOf_lt_of_mem (show y ∈ l from h); simp; omega
theorem fit {x : Val} (h : Fit x.enc) : x.list.length * 64 ≤ 140737488355328 ∧ ∀ y ∈ x.list, Fit y.enc := by
  have h1 := h (.sl 5 64 (encs x.list)) (by simp [enc])
  cases h1 with
  | sl n b es h k =>
    rw [encs_eq] at h k
    refine ⟨by simpa using h, fun y hy f hf => ?_⟩
    obtain ⟨i, hi⟩ := List.getElem?_of_mem hy
    obtain ⟨j, hj⟩ := List.getElem?_of_mem hf
    exact k i y.enc j f (by rw [List.getElem?_map, hi]; rfl) hj
end Val

theorem wrap_add {k : Nat} {m : Nat} (h : k < m) (hm : m ≤ 140737488355328) : IntKind.i64.wrap ((k : Int) + 1) = ((k + 1 : Nat) : Int) := by
  rw [IntWalk.i64_in _ (by omega)]; omega

theorem take_snoc {α : Type} {l : List α} {k : Nat} {x : α} (h : l[k]? = some x) : l.take (k + 1) = l.take k ++ [x] := by
  obtain ⟨hk, rfl⟩ := List.getElem?_eq_some_iff.1 h
  exact List.take_succ_eq_append_getElem hk

theorem aidx {α : Type} {enc : α → List F} {l : List α} {es : List (List F)} {K : List F → Prop} (he : es = l.map enc) {k : Nat} {x : α} (hx : l[k]? = some x) (h : K (enc x)) : AIdx es k K :=
  ⟨enc x, Int.natCast_nonneg k, by rw [he, List.getElem?_map]; simp [hx], h⟩

theorem encs_take {l : List Val} {k : Nat} {x : Val} (h : l[k]? = some x) : (Val.encs l).take (k + 1) = (Val.encs l).take k ++ [x.enc] := take_snoc (by rw [Val.encs_eq, List.getElem?_map, h]; rfl)

theorem encs_length (l : List Val) : (Val.encs l).length = l.length := by rw [Val.encs_eq, List.length_map]

theorem value_Clone (x : Val) : PCall PP 27 [fv x.enc] (fv x.enc) := by
  refine pcall_of TTok Tryz.func27 rfl rfl rfl rfl rfl rfl (fun hfit => ?_)
  have hb := (Val.fit (fitV_fv hfit.1)).1
  have hl := encs_length x.list
  conv => whnf
  refine aloop (fun k : Nat => [(1, .ptr 0 0), (2, .ptr 1 0), (3, .buf 2), (7, .fr (.sl 5 64 (Val.encs x.list))), (8, I64 (Val.encs x.list).length), (9, I64 k)])
    (fun k => [.cells (x.enc.map .fr), .cells [I64 0, I64 0, .fr (.sc (.int .u64 0)), S1 ⟨#[]⟩, .fr (.sc (.slice none 0 0))], .buf 27 5 64 ((Val.encs x.list).take k)]) (fun k => x.list.length - k) 0 (.thaw 3 27 5 64 rfl (.same ⟨rfl, rfl, rfl, rfl, rfl, rfl, trivial⟩ rfl)) ?_
  intro k
  conv => whnf
  refine bsplit (fun h => ?_) (fun h => ?_)
  · have hk : k < x.list.length := by have := of_decide_eq_true h; omega
    obtain ⟨y, hy⟩ : ∃ y, x.list[k]? = some y := ⟨_, List.getElem?_eq_getElem hk⟩
    have : SizeOf.sizeOf y < SizeOf.sizeOf x := Val.lt_of_mem (List.mem_of_getElem? hy)
    conv => whnf
    refine aidx (Val.encs_eq _) hy ?_
    conv => whnf
    refine acall (value_Clone y) ?_
    conv => whnf
    refine ⟨by rw [List.length_take]; simp; omega, ?_⟩
    conv => whnf
    exact ⟨k + 1, by omega, .move 4 2 rfl (.trunc [_, _] ⟨rfl, rfl, rfl, rfl, rfl, congrArg _ (congrArg _ (congrArg _ (wrap_add hk (by omega)))), trivial⟩ (by rw [encs_take hy]; rfl) rfl rfl rfl)⟩
  · have e : (Val.encs x.list).take k = Val.encs x.list := List.take_of_length_le (by have := of_decide_eq_false h; omega)
    rw [e]
    conv => whnf
    refine leave ?_
    conv => whnf
    exact ⟨rfl⟩
termination_by SizeOf.sizeOf x

end Go.AW

/- The interface's structs; names; floats' kinds. -/
namespace Go.AW
open Go Go.Proofs

def inner (c : Int) : Bool :=
  (((decide (c ≥ 48) && decide (c ≤ 57)) || (decide (IntKind.u8.wrap (BitVec.ofInt 8 c ||| BitVec.ofInt 8 32).toNat ≥ 97) && decide (IntKind.u8.wrap (BitVec.ofInt 8 c ||| BitVec.ofInt 8 32).toNat ≤ 122))) || c == 95) || c == 45 || c == 46

theorem names_inner (c : Int) : PCall PP 186 [U8 c] (B1 (inner c)) := by
  refine pcall_of TTok Tryz.func186 rfl rfl rfl rfl rfl rfl (fun _ => ?_)
  (repeat' ((conv => whnf); first | refine bsplit (fun _ => ?_) (fun _ => ?_) | refine adraw ?_ | refine leave ?_ | refine And.intro (by first | assumption | omega | (simp; omega)) ?_)) <;> (try (conv => whnf))
  refine ⟨?_⟩
  simp only [inner, Bool.cond_false_right, Bool.cond_true_left]
  rfl

def first (c : Int) : Bool := (inner c && c != 45) && c != 46
theorem names_first (c : Int) : PCall PP 185 [U8 c] (B1 (first c)) := by
  refine pcall_of TTok Tryz.func185 rfl rfl rfl rfl rfl rfl (fun _ => ?_)
  (repeat' ((conv => whnf); first | refine bsplit (fun _ => ?_) (fun _ => ?_) | refine adraw ?_ | refine leave ?_ | refine acall (names_inner _) ?_ | refine dcall (names_inner _) ?_ | refine GCall.sym _ (fun hg => PC.own (names_inner _)) ?_ | refine And.intro (by first | assumption | omega | (simp; omega)) ?_)) <;> (try (conv => whnf))
  refine ⟨?_⟩
  simp only [first, Bool.cond_false_right, Bool.cond_true_left]

theorem names_Text (s : ByteArray) : PCall PP 172 [S1 s] (B1 (decide ((s.size : Int) ≤ 200))) := by
  refine pcall_of TTok Tryz.func172 rfl rfl rfl rfl rfl rfl (fun _ => ?_)
  (repeat' ((conv => whnf); first | refine bsplit (fun _ => ?_) (fun _ => ?_) | refine adraw ?_ | refine leave ?_ | refine And.intro (by first | assumption | omega | (simp; omega)) ?_)) <;> (try (conv => whnf))
  exact ⟨rfl⟩

def byteAt (s : ByteArray) (k : Nat) : Int := if h : k < s.size then (s[k]'h).toNat else 0

def nameOk (s : ByteArray) : Bool := !(decide (s = ⟨#[]⟩) || decide ((s.size : Int) > 24)) && (first (byteAt s 0) && (List.range s.size).all fun k => inner (byteAt s k))

theorem byteAt_eq {s : ByteArray} {k : Nat} (h : k < s.size) : ((s[k]'h).toNat : Int) = byteAt s k := by simp [byteAt, h]

theorem size_pos {s : ByteArray} (h : s ≠ ⟨#[]⟩) : 0 < s.size := by
  rcases Nat.eq_zero_or_pos s.size with h0 | h0
  · exfalso; apply h
    obtain ⟨⟨d⟩⟩ := s
    cases d with
    | nil => rfl
    | cons a r => simp [ByteArray.size] at h0
  · exact h0

theorem names_Name (s : ByteArray) : PCall PP 171 [S1 s] (B1 (nameOk s)) := by
  refine pcall_of TTok Tryz.func171 rfl rfl rfl rfl rfl rfl (fun hf => ?_)
  (repeat' ((conv => whnf); first | refine bsplit (fun _ => ?_) (fun _ => ?_) | refine adraw ?_ | refine leave ?_ | refine And.intro (by first | assumption | omega | (simp; omega)) ?_)) <;> (try (conv => whnf))
  · rename_i h
    refine ⟨?_⟩
    rw [Bool.cond_true_left] at h
    simp only [nameOk, h, Bool.not_true, Bool.false_and]
  · rename_i h
    rw [Bool.cond_true_left] at h
    have h0 : 0 < s.size := size_pos (by simp at h; exact h.1)
    have hsz : s.size ≤ 24 := by simp at h; omega
    have hn : nameOk s = (first (byteAt s 0) && (List.range s.size).all fun k => inner (byteAt s k)) := by simp only [nameOk, h, Bool.not_false, Bool.true_and]
    refine astr (k := 0) h0 rfl ?_
    rw [byteAt_eq h0]
    (repeat' ((conv => whnf); first | refine bsplit (fun _ => ?_) (fun _ => ?_) | refine adraw ?_ | refine leave ?_ | refine acall (names_first _) ?_ | refine dcall (names_first _) ?_ | refine GCall.sym _ (fun hg => PC.own (names_first _)) ?_ | refine And.intro (by first | assumption | omega | (simp; omega)) ?_)) <;> (try (conv => whnf))
    refine aloop (fun k : {k : Nat // k ≤ s.size ∧ ∀ j < k, inner (byteAt s j) = true} => [(0, S1 s), (3, B1 (first (byteAt s 0))), (16, I64 s.size), (17, I64 k.1)]) (fun _ => []) (fun k => s.size - k.1) ⟨0, by simp⟩ (.same ⟨rfl, rfl, rfl, rfl, trivial⟩ rfl) ?_
    rintro ⟨k, hk, hin⟩
    (repeat' ((conv => whnf); first | refine bsplit (fun _ => ?_) (fun _ => ?_) | refine adraw ?_ | refine leave ?_ | refine And.intro (by first | assumption | omega | (simp; omega)) ?_)) <;> (try (conv => whnf))
    · rename_i h1
      have hk2 : k < s.size := by simp at h1; omega
      refine astr hk2 rfl ?_
      rw [byteAt_eq hk2]
      (repeat' ((conv => whnf); first | refine bsplit (fun _ => ?_) (fun _ => ?_) | refine adraw ?_ | refine leave ?_ | refine acall (names_inner _) ?_ | refine dcall (names_inner _) ?_ | refine GCall.sym _ (fun hg => PC.own (names_inner _)) ?_ | refine And.intro (by first | assumption | omega | (simp; omega)) ?_)) <;> (try (conv => whnf))
      · rename_i h2
        refine ⟨?_⟩
        have : ((List.range s.size).all fun k => inner (byteAt s k)) = false := by
          rw [List.all_eq_false]
          exact ⟨k, by simpa using hk2, by simpa using h2⟩
        rw [hn, this, Bool.and_false]
      · rename_i h2
        refine ⟨⟨k + 1, by omega, fun j hj => ?_⟩, by show s.size - (k + 1) < s.size - k; omega, .same ⟨rfl, rfl, rfl, congrArg _ (congrArg _ (congrArg _ (wrap_add hk2 (by omega)))), trivial⟩ rfl⟩
        by_cases hjk : j = k
        · subst hjk; simpa using h2
        · exact hin j (by omega)
    · rename_i h1
      have hk2 : k = s.size := by simp at h1; omega
      refine ⟨?_⟩
      have : ((List.range s.size).all fun k => inner (byteAt s k)) = true := by
        rw [List.all_eq_true]
        intro j hj
        exact hin j (by simp at hj; omega)
      rw [hn, this, Bool.and_true]

end Go.AW

/- Floats' kinds; values that may be; sameness of values. -/
namespace Go.AW
open Go Go.Proofs

def andU (a b : Int) : Int := IntKind.u64.wrap (BitVec.ofInt 64 a &&& BitVec.ofInt 64 b).toNat

theorem andU_eq (a b : Int) : IntKind.u64.wrap (BitVec.ofInt IntKind.u64.bits a &&& BitVec.ofInt IntKind.u64.bits b).toNat = andU a b := rfl

def fkind (x : Int) : Int :=
  bif (andU x 9218868437227405312 == 9218868437227405312) && (andU x 4503599627370495 != 0) then 1
  else bif andU x 9218868437227405312 == 9218868437227405312 then 2
  else bif (andU x 9218868437227405312 == 0) && (andU x 4503599627370495 == 0) then 3
  else bif andU x 9218868437227405312 == 0 then 4 else 5

theorem floats_Kind (x : Int) : PCall PP 152 [U64 x] (I64 (fkind x)) := by
  refine pcall_of TTok Tryz.func152 rfl rfl rfl rfl rfl rfl (fun _ => ?_)
  (repeat' ((conv => whnf); first | refine bsplit (fun _ => ?_) (fun _ => ?_) | refine adraw ?_ | refine leave ?_ | refine And.intro (by first | assumption | omega | (simp; omega)) ?_)) <;> (try (conv => whnf))
  all_goals simp only [andU_eq] at *
  all_goals (refine ⟨?_⟩; (try simp only [Bool.cond_false_right, Bool.cond_true_left] at *) <;> first | (simp only [fkind, *, if_true, Bool.false_eq_true, if_false]; done) | (simp_all [Bool.cond_eq_ite, fkind]; done) | (simp_all [Bool.cond_eq_ite, fkind]; grind))

def canon (x : Int) : Int := bif fkind x == 1 then 9221120237041090560 else x
theorem floats_Canon (x : Int) : PCall PP 144 [U64 x] (U64 (canon x)) := by
  refine pcall_of TTok Tryz.func144 rfl rfl rfl rfl rfl rfl (fun _ => ?_)
  (repeat' ((conv => whnf); first | refine bsplit (fun _ => ?_) (fun _ => ?_) | refine adraw ?_ | refine leave ?_ | refine acall (floats_Kind _) ?_ | refine dcall (floats_Kind _) ?_ | refine GCall.sym _ (fun hg => PC.own (floats_Kind _)) ?_ | refine And.intro (by first | assumption | omega | (simp; omega)) ?_)) <;> (try (conv => whnf))
  all_goals (refine ⟨?_⟩; (try simp only [Bool.cond_false_right, Bool.cond_true_left] at *) <;> first | (simp only [canon, *, if_true, Bool.false_eq_true, if_false]; done) | (simp_all [Bool.cond_eq_ite, canon]; done) | (simp_all [Bool.cond_eq_ite, canon]; grind))

def okAt (v : Val) (j : Nat) : Bool := ((j : Int) == v.kind) || !(((j : Int) == 1 && v.int != 0) || ((j : Int) == 2 && v.bits != 0) || ((j : Int) == 3 && !decide (v.text = ⟨#[]⟩)) || ((j : Int) == 4 && decide ((v.list.length : Int) > 0)))
def only (v : Val) : Bool := (List.range 5).all (okAt v) && (decide (v.kind ≥ 0) && decide (v.kind ≤ 4))

theorem value_only (v : Val) : PCall PP 143 [fv v.enc] (B1 (only v)) := by
  refine pcall_of TTok Tryz.func143 rfl rfl rfl rfl rfl rfl (fun _ => ?_)
  have hl := encs_length v.list
  (repeat' ((conv => whnf); first | refine bsplit (fun _ => ?_) (fun _ => ?_) | refine adraw ?_ | refine leave ?_ | refine And.intro (by first | assumption | omega | (simp; omega)) ?_)) <;> (try (conv => whnf))
  refine aloopI (fun k : Nat => [(1, .ptr 0 0), (4, I64 k)]) (fun _ => [.cells (v.enc.map .fr)]) (fun k => 5 - k) (fun k => k ≤ 5 ∧ ∀ j < k, okAt v j = true) 0 ⟨by omega, by simp⟩ (.same ⟨rfl, rfl, trivial⟩ rfl) ?_
  rintro k ⟨hk, hin⟩
  have next : k < 5 → okAt v k = true → (k + 1 ≤ 5 ∧ ∀ j < k + 1, okAt v j = true) := fun h1 h2 => ⟨by omega, fun j hj => by
    by_cases hjk : j = k
    · subst hjk; exact h2
    · exact hin j (by omega)⟩
  have bad : k < 5 → okAt v k = false → only v = false := fun h1 h2 => by
    have : (List.range 5).all (okAt v) = false := by
      rw [List.all_eq_false]
      exact ⟨k, by simpa using h1, by simpa using h2⟩
    simp only [only, this, Bool.false_and]
  (repeat' ((conv => whnf); first | refine bsplit (fun _ => ?_) (fun _ => ?_) | refine adraw ?_ | refine leave ?_ | refine And.intro (by first | assumption | omega | (simp; omega)) ?_)) <;> (try (conv => whnf))
  · rename_i h1 h2
    have hk2 : k < 5 := by simp at h1; omega
    exact ⟨⟨k + 1, next hk2 (by simp only [okAt, h2, Bool.true_or])⟩, by show 5 - (k + 1) < 5 - k; omega, .same ⟨rfl, i64_inj (wrap_add hk2 (by omega)), trivial⟩ rfl⟩
  · rename_i h1 h2 h3
    have hk2 : k < 5 := by simp at h1; omega
    exact ⟨b1_inj (bad hk2 (by simp only [okAt]; simp_all)).symm⟩
  · rename_i h1 h2 h3 h4
    have hk2 : k < 5 := by simp at h1; omega
    exact ⟨b1_inj (bad hk2 (by simp only [okAt]; simp_all)).symm⟩
  · rename_i h1 h2 h3 h4 h5
    have hk2 : k < 5 := by simp at h1; omega
    exact ⟨b1_inj (bad hk2 (by simp only [okAt]; simp_all)).symm⟩
  · rename_i h1 h2 h3 h4 h5 h6
    have hk2 : k < 5 := by simp at h1; omega
    exact ⟨b1_inj (bad hk2 (by simp only [okAt]; simp_all)).symm⟩
  · rename_i h1 h2 h3 h4 h5 h6
    have hk2 : k < 5 := by simp at h1; omega
    exact ⟨⟨k + 1, next hk2 (by simp only [okAt]; simp_all; grind)⟩, by show 5 - (k + 1) < 5 - k; omega, .same ⟨rfl, i64_inj (wrap_add hk2 (by omega)), trivial⟩ rfl⟩
  · rename_i h1
    have hk2 : k = 5 := by simp at h1; omega
    subst hk2
    refine ⟨?_⟩
    have : (List.range 5).all (okAt v) = true := by
      rw [List.all_eq_true]
      intro j hj
      exact hin j (by simp at hj; omega)
    simp only [only, this, Bool.true_and, Bool.cond_false_right]

end Go.AW

/- Sameness of values; a value's size; whether one may be. -/
namespace Go.AW
open Go Go.Proofs

mutual
def sameV : Val → Val → Bool
  | .mk k i b t l, w => ((((k == w.kind && i == w.int) && b == w.bits) && decide (t = w.text)) && l.length == w.list.length) && sameL l w.list
def sameL : List Val → List Val → Bool
  | [], _ => true
  | x :: r, ys => (match ys with | [] => true | y :: s => sameV x y && sameL r s)
end

theorem sameL_false {l m : List Val} {k : Nat} {x y : Val} (hx : l[k]? = some x) (hy : m[k]? = some y) (h : sameV x y = false) : sameL l m = false := by
  induction l generalizing m k with
  | nil => simp at hx
  | cons a l ih =>
    cases m with
    | nil => simp at hy
    | cons b m =>
      cases k with
      | zero => simp at hx hy; subst hx; subst hy; simp [sameL, h]
      | succ k => simp only [sameL]; rw [ih (by simpa using hx) (by simpa using hy), Bool.and_false]

theorem sameL_true {l m : List Val} (h : ∀ (k : Nat) (x y : Val), l[k]? = some x → m[k]? = some y → sameV x y = true) : sameL l m = true := by
  induction l generalizing m with
  | nil => rfl
  | cons a l ih =>
    cases m with
    | nil => rfl
    | cons b m => simp only [sameL, h 0 a b rfl rfl, Bool.true_and]; exact ih fun k x y hx hy => h (k + 1) x y (by simpa using hx) (by simpa using hy)

theorem sameV_eq (a b : Val) : sameV a b = (((((a.kind == b.kind && a.int == b.int) && a.bits == b.bits) && decide (a.text = b.text)) && a.list.length == b.list.length) && sameL a.list b.list) := by
  cases a; rfl

theorem nat_bne (a b : Nat) : (((a : Int)) != (b : Int)) = !(a == b) := by
  have : ((a : Int) == (b : Int)) = (a == b) := by rw [Bool.eq_iff_iff]; simp [Int.ofNat_inj]
  rw [bne, this]

theorem nm_len (k i b : Bool) (t : Bool) (n : Bool) (h : (bif bif bif bif !k then true else !i then true else !b then true else !t then true else !n) = true) : ((((k && i) && b) && t) && n) = false := by
  cases k <;> cases i <;> cases b <;> cases t <;> cases n <;> first | rfl | cases h

theorem nm_len' (k i b : Bool) (t : Bool) (n : Bool) (h : (bif bif bif bif !k then true else !i then true else !b then true else !t then true else !n) = false) : ((((k && i) && b) && t) && n) = true := by
  cases k <;> cases i <;> cases b <;> cases t <;> cases n <;> first | rfl | cases h

theorem value_Same (a b : Val) : PCall PP 45 [fv a.enc, fv b.enc] (B1 (sameV a b)) := by
  refine pcall_of TTok Tryz.func45 rfl rfl rfl rfl rfl rfl (fun hfit => ?_)
  have hb := (Val.fit (fitV_fv hfit.1)).1
  have hla := encs_length a.list
  have hlb := encs_length b.list
  (repeat' ((conv => whnf); first | refine bsplit (fun _ => ?_) (fun _ => ?_) | refine adraw ?_ | refine leave ?_ | refine And.intro (by first | assumption | omega | (simp; omega)) ?_)) <;> (try (conv => whnf))
  · rename_i h
    refine ⟨?_⟩
    rw [hla, hlb, nat_bne] at h
    rw [sameV_eq, nm_len _ _ _ _ _ h, Bool.false_and]
  · rename_i h
    rw [hla, hlb, nat_bne] at h
    have hc := nm_len' _ _ _ _ _ h
    have hlen : a.list.length = b.list.length := by simp_all
    have hs : sameV a b = sameL a.list b.list := by rw [sameV_eq, hc, Bool.true_and]
    clear h
    refine aloopI (fun k : Nat => [(2, .ptr 0 0), (3, .ptr 1 0), (43, I64 a.list.length), (44, I64 k)]) (fun _ => [.cells (a.enc.map .fr), .cells (b.enc.map .fr)]) (fun k => a.list.length - k)
      (fun k => k ≤ a.list.length ∧ ∀ j < k, ∀ x y, a.list[j]? = some x → b.list[j]? = some y → sameV x y = true) 0 ⟨by omega, by intro j h; omega⟩ (.same ⟨rfl, rfl, congrArg (fun n : Nat => I64 n) hla, rfl, trivial⟩ rfl) ?_
    rintro k ⟨hk, hin⟩
    (repeat' ((conv => whnf); first | refine bsplit (fun _ => ?_) (fun _ => ?_) | refine adraw ?_ | refine leave ?_ | refine And.intro (by first | assumption | omega | (simp; omega)) ?_)) <;> (try (conv => whnf))
    · rename_i h1
      have hk2 : k < a.list.length := by simp at h1; omega
      obtain ⟨x, hx⟩ : ∃ x, a.list[k]? = some x := ⟨_, List.getElem?_eq_getElem hk2⟩
      obtain ⟨y, hy⟩ : ∃ y, b.list[k]? = some y := ⟨_, List.getElem?_eq_getElem (by omega)⟩
      have : SizeOf.sizeOf x < SizeOf.sizeOf a := Val.lt_of_mem (List.mem_of_getElem? hx)
      refine aidx (Val.encs_eq _) hx ?_
      conv => whnf
      refine aidx (Val.encs_eq _) hy ?_
      (repeat' ((conv => whnf); first | refine bsplit (fun _ => ?_) (fun _ => ?_) | refine adraw ?_ | refine leave ?_ | refine acall (value_Same x y) ?_ | refine dcall (value_Same x y) ?_ | refine GCall.sym _ (fun hg => PC.own (value_Same x y)) ?_ | refine And.intro (by first | assumption | omega | (simp; omega)) ?_)) <;> (try (conv => whnf))
      · rename_i h2
        refine ⟨?_⟩
        rw [hs, sameL_false hx hy (by simpa using h2)]
      · rename_i h2
        refine ⟨⟨k + 1, by omega, fun j hj x' y' hx' hy' => ?_⟩, by show a.list.length - (k + 1) < a.list.length - k; omega, .same ⟨rfl, rfl, rfl, i64_inj (wrap_add hk2 (by omega)), trivial⟩ rfl⟩
        by_cases hjk : j = k
        · subst hjk; rw [hx] at hx'; rw [hy] at hy'; cases hx'; cases hy'; simpa using h2
        · exact hin j (by omega) x' y' hx' hy'
    · rename_i h1
      have hk2 : a.list.length ≤ k := by simp at h1; omega
      refine ⟨?_⟩
      rw [hs, sameL_true fun j x y hx hy => hin j (by have := (List.getElem?_eq_some_iff.1 hx).1; omega) x y hx hy]
termination_by SizeOf.sizeOf a

end Go.AW

/- A value's size; whether one may be. -/
namespace Go.AW
open Go Go.Proofs

def badV (v : Val) : Bool := !only v || decide ((v.text.size : Int) > 200) || decide ((v.list.length : Int) > 12) || (canon v.bits != v.bits)
def szs (f : Val → Int) : Int → List Val → Int
  | acc, [] => acc
  | acc, x :: r => if f x < 0 then -1 else szs f (acc + f x) r
def sz : Nat → Val → Int
  | 0, v => if badV v = true then -1 else if (v.kind == 1) = true then 9 else if (v.kind == 2) = true then 9 else if (v.kind == 3) = true then 2 + v.text.size else if (v.kind == 4) = true then -1 else 1
  | d + 1, v => if badV v = true then -1 else if (v.kind == 1) = true then 9 else if (v.kind == 2) = true then 9 else if (v.kind == 3) = true then 2 + v.text.size else if (v.kind == 4) = true then szs (sz d) 2 v.list else 1

def bnd : Nat → Int
  | 0 => 210
  | d + 1 => 13 * bnd d

theorem bnd_pos : ∀ d, 210 ≤ bnd d
  | 0 => by simp [bnd]
  | d + 1 => by have := bnd_pos d; simp only [bnd]; omega

theorem szs_le {f : Val → Int} {B : Int} (hB : 0 ≤ B) : ∀ (l : List Val) (acc : Int), 0 ≤ acc → (∀ x ∈ l, f x ≤ B) → szs f acc l ≤ acc + l.length * B
  | [], acc, _, _ => by simp [szs]
  | x :: r, acc, h, hf => by
    simp only [szs]
    have hl : ((x :: r).length : Int) * B = r.length * B + B := by rw [List.length_cons]; push_cast; rw [Int.add_mul, Int.one_mul]
    have hm : 0 ≤ (r.length : Int) * B := Int.mul_nonneg (Int.natCast_nonneg _) hB
    have hx := hf x List.mem_cons_self
    split
    · omega
    · have ih := szs_le hB r (acc + f x) (by omega) (fun y hy => hf y (List.mem_cons_of_mem _ hy))
      omega

theorem badV_false {v : Val} (h : ¬ badV v = true) : v.text.size ≤ 200 ∧ v.list.length ≤ 12 := by
  simp only [badV, Bool.or_eq_true, not_or, decide_eq_true_eq] at h
  omega

theorem sz_le : ∀ (d : Nat) (v : Val), sz d v ≤ bnd d
  | 0, v => by
    simp only [sz, bnd]
    repeat' split
    all_goals first | omega | skip
    rename_i h _ _ _
    have := badV_false h
    omega
  | d + 1, v => by
    have h1 := bnd_pos d
    simp only [sz, bnd]
    repeat' split
    all_goals first | omega | skip
    · rename_i h _ _ _
      have := badV_false h
      omega
    · rename_i h _ _ _ _
      have h2 := (badV_false h).2
      have h3 := szs_le (f := sz d) (B := bnd d) (by omega) v.list 2 (by omega) (fun x _ => sz_le d x)
      have h4 : (v.list.length : Int) * bnd d ≤ 12 * bnd d := Int.mul_le_mul_of_nonneg_right (by omega) (by omega)
      omega

theorem i64_small {n : Int} (h : -1000000000000 ≤ n) (k : n ≤ 1000000000000) : IntKind.i64.wrap n = n := by
  rw [IntWalk.i64_in _ (by omega)]

theorem badV_eq (v : Val) : (bif bif bif !only v then true else decide ((v.text.size : Int) > 200) then true else decide (((Val.encs v.list).length : Int) > 12) then true else canon v.bits != v.bits) = badV v := by
  rw [encs_length]; simp only [badV, Bool.cond_true_left]

theorem szs_at {f : Val → Int} {l : List Val} {k : Nat} {x : Val} {acc : Int} (h : l[k]? = some x) : szs f acc (l.drop k) = if f x < 0 then -1 else szs f (acc + f x) (l.drop (k + 1)) := by
  obtain ⟨hk, rfl⟩ := List.getElem?_eq_some_iff.1 h
  rw [List.drop_eq_getElem_cons hk]; rfl

theorem value_size : ∀ (d : Nat) (v : Val), d ≤ 4 → PCall PP 126 [fv v.enc, I64 d] (I64 (sz d v))
  | 0, v, hd => by
    refine pcall_of TTok Tryz.func126 rfl rfl rfl rfl rfl rfl (fun hfit => ?_)
    (repeat' ((conv => whnf); first | refine bsplit (fun _ => ?_) (fun _ => ?_) | refine adraw ?_ | refine leave ?_ | refine acall (value_only v) ?_ | refine dcall (value_only v) ?_ | refine GCall.sym _ (fun hg => PC.own (value_only v)) ?_ | refine acall (floats_Canon _) ?_ | refine dcall (floats_Canon _) ?_ | refine GCall.sym _ (fun hg => PC.own (floats_Canon _)) ?_ | refine And.intro (by first | assumption | omega | (simp; omega)) ?_)) <;> (try (conv => whnf))
    all_goals
      rename_i h1
      simp only [badV_eq] at *
      refine ⟨?_⟩
      simp only [sz, *, if_true, Bool.false_eq_true, if_false]
      try rfl
    · have := badV_false (v := v) (by simp_all)
      rw [i64_small (n := 1 + v.text.size) (by omega) (by omega), i64_small (by omega) (by omega)]
      exact i64_inj (by omega)
  | d + 1, v, hd => by
    have hbn := bnd_pos d
    have hbn2 : bnd d ≤ 210 * 28561 := by
      have : d = 0 ∨ d = 1 ∨ d = 2 ∨ d = 3 := by omega
      rcases this with rfl | rfl | rfl | rfl <;> simp [bnd]
    refine pcall_of TTok Tryz.func126 rfl rfl rfl rfl rfl rfl (fun hfit => ?_)
    have hb := (Val.fit (fitV_fv hfit.1)).1
    have hl := encs_length v.list
    (repeat' ((conv => whnf); first | refine bsplit (fun _ => ?_) (fun _ => ?_) | refine adraw ?_ | refine leave ?_ | refine acall (value_only v) ?_ | refine dcall (value_only v) ?_ | refine GCall.sym _ (fun hg => PC.own (value_only v)) ?_ | refine acall (floats_Canon _) ?_ | refine dcall (floats_Canon _) ?_ | refine GCall.sym _ (fun hg => PC.own (floats_Canon _)) ?_ | refine And.intro (by first | assumption | omega | (simp; omega)) ?_)) <;> (try (conv => whnf))
    iterate 3
      · simp only [badV_eq] at *
        refine ⟨?_⟩
        simp only [sz, *, if_true, Bool.false_eq_true, if_false]
        try rfl
    · rename_i h0 _ _ _
      simp only [badV_eq] at *
      refine ⟨?_⟩
      simp only [sz, *, if_true, Bool.false_eq_true, if_false]
      have := badV_false (v := v) (by simp [h0])
      rw [i64_small (n := 1 + v.text.size) (by omega) (by omega), i64_small (by omega) (by omega)]
      exact i64_inj (by omega)
    · rename_i h0 h1 h2 h3 h4
      simp only [badV_eq] at h0
      have hbad := badV_false (v := v) (by simp [h0])
      have hspec : sz (d + 1) v = szs (sz d) 2 v.list := by simp only [sz, *, if_true, Bool.false_eq_true, if_false]
      refine aloopI (fun x : Nat × Int => [(1, I64 ((d + 1 : Nat) : Int)), (2, .ptr 0 0), (5, I64 x.2), (54, .fr (.sl 5 64 (Val.encs v.list))), (55, I64 v.list.length), (56, I64 x.1)]) (fun _ => [.cells (v.enc.map .fr)]) (fun x => v.list.length - x.1)
        (fun x => x.1 ≤ v.list.length ∧ 0 ≤ x.2 ∧ x.2 ≤ 2 + x.1 * bnd d ∧ szs (sz d) 2 v.list = szs (sz d) x.2 (v.list.drop x.1)) (0, 2) ⟨by simp, by simp, by simp, by simp⟩
        (.same ⟨rfl, rfl, rfl, rfl, congrArg (fun n : Nat => I64 n) hl, rfl, trivial⟩ rfl) ?_
      rintro ⟨k, acc⟩ ⟨hk, ha0, ha1, hs⟩
      simp only at hk ha0 ha1 hs
      (repeat' ((conv => whnf); first | refine bsplit (fun _ => ?_) (fun _ => ?_) | refine adraw ?_ | refine leave ?_ | refine And.intro (by first | assumption | omega | (simp; omega)) ?_)) <;> (try (conv => whnf))
      · rename_i h6
        have hk2 : k < v.list.length := by simp at h6; omega
        obtain ⟨x, hx⟩ : ∃ x, v.list[k]? = some x := ⟨_, List.getElem?_eq_getElem hk2⟩
        rw [szs_at hx] at hs
        have hsub : IntKind.i64.wrap (((d + 1 : Nat) : Int) - 1) = (d : Int) := by rw [i64_small (by omega) (by omega)]; omega
        have hkb : (k : Int) * bnd d ≤ 12 * bnd d := Int.mul_le_mul_of_nonneg_right (by omega) (by omega)
        have hsx := sz_le d x
        have hk1 : ((k + 1 : Nat) : Int) * bnd d = k * bnd d + bnd d := by push_cast; rw [Int.add_mul, Int.one_mul]
        refine aidx (Val.encs_eq _) hx ?_
        (repeat' ((conv => whnf); first | refine bsplit (fun _ => ?_) (fun _ => ?_) | refine adraw ?_ | refine leave ?_ | refine acall ((hsub ▸ value_size d x (by omega))) ?_ | refine dcall ((hsub ▸ value_size d x (by omega))) ?_ | refine GCall.sym _ (fun hg => PC.own ((hsub ▸ value_size d x (by omega)))) ?_ | refine And.intro (by first | assumption | omega | (simp; omega)) ?_)) <;> (try (conv => whnf))
        · rename_i h7
          have h7' : sz d x < 0 := by simpa using h7
          rw [if_pos h7'] at hs
          exact ⟨by rw [hspec, hs]⟩
        · rename_i h7
          have h7' : ¬ sz d x < 0 := by simpa using h7
          rw [if_neg h7'] at hs
          exact ⟨⟨(k + 1, acc + sz d x), by show k + 1 ≤ _; omega, by show 0 ≤ acc + sz d x; omega, by show acc + sz d x ≤ 2 + ((k + 1 : Nat) : Int) * bnd d; omega, hs⟩, by show v.list.length - (k + 1) < v.list.length - k; omega,
            .trunc [_] ⟨rfl, rfl, i64_inj (i64_small (n := acc + sz d x) (by omega) (by omega)), rfl, rfl, i64_inj (wrap_add hk2 (by omega)), trivial⟩ rfl rfl rfl rfl⟩
      · rename_i h6
        have hk2 : k = v.list.length := by simp at h6; omega
        subst hk2
        refine ⟨?_⟩
        rw [hspec, hs, List.drop_length]; rfl
    · simp only [badV_eq] at *
      refine ⟨?_⟩
      simp only [sz, *, if_true, Bool.false_eq_true, if_false]

def okV (v : Val) : Int := if (decide (sz 4 v < 0) || decide (sz 4 v > 1000)) = true then 1 else 0

theorem value_Check (v : Val) : PCall PP 97 [fv v.enc] (I64 (okV v)) := by
  refine pcall_of TTok Tryz.func97 rfl rfl rfl rfl rfl rfl (fun hfit => ?_)
  (repeat' ((conv => whnf); first | refine bsplit (fun _ => ?_) (fun _ => ?_) | refine adraw ?_ | refine leave ?_ | refine acall (value_size 4 v (by omega)) ?_ | refine dcall (value_size 4 v (by omega)) ?_ | refine GCall.sym _ (fun hg => PC.own (value_size 4 v (by omega))) ?_ | refine And.intro (by first | assumption | omega | (simp; omega)) ?_)) <;> (try (conv => whnf))
  all_goals (refine ⟨?_⟩; (try simp only [Bool.cond_false_right, Bool.cond_true_left] at *) <;> first | (simp only [okV, *, if_true, Bool.false_eq_true, if_false]; done) | (simp_all [Bool.cond_eq_ite, okV]; done) | (simp_all [Bool.cond_eq_ite, okV]; grind))

end Go.AW

/- Policies: what may be. -/
namespace Go.AW
open Go Go.Proofs

structure Pol where
  first : Int
  coef : Int
  most : Int
def Pol.enc (p : Pol) : List F := [.sc (.int .i64 p.first), .sc (.int .u64 p.coef), .sc (.int .i64 p.most)]

def delayOk (n : Int) : Bool := decide (n ≥ 0) && decide (n ≤ 1073741824)
theorem policy_delay (n : Int) : PCall PP 133 [I64 n] (B1 (delayOk n)) := by
  refine pcall_of TTok Tryz.func133 rfl rfl rfl rfl rfl rfl (fun _ => ?_)
  (repeat' ((conv => whnf); first | refine bsplit (fun _ => ?_) (fun _ => ?_) | refine adraw ?_ | refine leave ?_ | refine And.intro (by first | assumption | omega | (simp; omega)) ?_)) <;> (try (conv => whnf))
  (refine ⟨?_⟩; (try simp only [Bool.cond_false_right, Bool.cond_true_left] at *) <;> first | (simp only [delayOk, *, if_true, Bool.false_eq_true, if_false]; done) | (simp_all [Bool.cond_eq_ite, delayOk]; done) | (simp_all [Bool.cond_eq_ite, delayOk]; grind))

def coefOk (x : Int) : Bool := canon x == x && fkind x != 1
theorem policy_coef (x : Int) : PCall PP 134 [U64 x] (B1 (coefOk x)) := by
  refine pcall_of TTok Tryz.func134 rfl rfl rfl rfl rfl rfl (fun _ => ?_)
  (repeat' ((conv => whnf); first | refine bsplit (fun _ => ?_) (fun _ => ?_) | refine adraw ?_ | refine leave ?_ | refine acall (floats_Canon _) ?_ | refine dcall (floats_Canon _) ?_ | refine GCall.sym _ (fun hg => PC.own (floats_Canon _)) ?_ | refine acall (floats_Kind _) ?_ | refine dcall (floats_Kind _) ?_ | refine GCall.sym _ (fun hg => PC.own (floats_Kind _)) ?_ | refine And.intro (by first | assumption | omega | (simp; omega)) ?_)) <;> (try (conv => whnf))
  (refine ⟨?_⟩; (try simp only [Bool.cond_false_right, Bool.cond_true_left] at *) <;> first | (simp only [coefOk, *, if_true, Bool.false_eq_true, if_false]; done) | (simp_all [Bool.cond_eq_ite, coefOk]; done) | (simp_all [Bool.cond_eq_ite, coefOk]; grind))

def polOk (p : Pol) : Int := if (delayOk p.first && delayOk p.most && coefOk p.coef) = true then 0 else 1
theorem policy_Check (p : Pol) : PCall PP 116 [fv p.enc] (I64 (polOk p)) := by
  refine pcall_of TTok Tryz.func116 rfl rfl rfl rfl rfl rfl (fun _ => ?_)
  (repeat' ((conv => whnf); first | refine bsplit (fun _ => ?_) (fun _ => ?_) | refine adraw ?_ | refine leave ?_ | refine acall (policy_delay _) ?_ | refine dcall (policy_delay _) ?_ | refine GCall.sym _ (fun hg => PC.own (policy_delay _)) ?_ | refine acall (policy_coef _) ?_ | refine dcall (policy_coef _) ?_ | refine GCall.sym _ (fun hg => PC.own (policy_coef _)) ?_ | refine And.intro (by first | assumption | omega | (simp; omega)) ?_)) <;> (try (conv => whnf))
  all_goals (refine ⟨?_⟩; (try simp only [Bool.cond_false_right, Bool.cond_true_left] at *) <;> first | (simp only [polOk, *, if_true, Bool.false_eq_true, if_false]; done) | (simp_all [Bool.cond_eq_ite, polOk]; done) | (simp_all [Bool.cond_eq_ite, polOk]; grind))

def Val.zero : Val := .mk 0 0 0 ⟨#[]⟩ []

end Go.AW

/- Commands, answers, requests: what they hold. -/
namespace Go.AW
open Go Go.Proofs

structure Cmd where
  kind : Int
  name : ByteArray
  value : Val
  delay : Int
def Cmd.enc (c : Cmd) : List F := [.sc (.int .i64 c.kind), .sc (.string c.name), .sc (.int .i64 c.value.kind), .sc (.int .i64 c.value.int), .sc (.int .u64 c.value.bits), .sc (.string c.value.text), .sl 5 64 (Val.encs c.value.list), .sc (.int .i64 c.delay)]

structure Ans where
  op : Int
  value : Val
def Ans.enc (a : Ans) : List F := [.sc (.int .i64 a.op), .sc (.int .i64 a.value.kind), .sc (.int .i64 a.value.int), .sc (.int .u64 a.value.bits), .sc (.string a.value.text), .sl 5 64 (Val.encs a.value.list)]

structure Req where
  kind : Int
  flow : ByteArray
  request : ByteArray
  name : ByteArray
  value : Val
  run : Int
  num : Int
  wait : Int
  policy : Pol
  commands : List Cmd
  answers : List Ans
def Req.enc (r : Req) : List F := [.sc (.int .i64 r.kind), .sc (.string r.flow), .sc (.string r.request), .sc (.string r.name), .sc (.int .i64 r.value.kind), .sc (.int .i64 r.value.int), .sc (.int .u64 r.value.bits), .sc (.string r.value.text), .sl 5 64 (Val.encs r.value.list),
  .sc (.int .i64 r.run), .sc (.int .i64 r.num), .sc (.int .i64 r.wait), .sc (.int .i64 r.policy.first), .sc (.int .u64 r.policy.coef), .sc (.int .i64 r.policy.most), .sl 8 96 (r.commands.map Cmd.enc), .sl 6 72 (r.answers.map Ans.enc)]

structure Ask where
  op : Int
  name : ByteArray
  value : Val
def Ask.enc (a : Ask) : List F := [.sc (.int .i64 a.op), .sc (.string a.name), .sc (.int .i64 a.value.kind), .sc (.int .i64 a.value.int), .sc (.int .u64 a.value.bits), .sc (.string a.value.text), .sl 5 64 (Val.encs a.value.list)]
def ask0 : Ask := ⟨0, ⟨#[]⟩, Val.zero⟩
abbrev FA (l : List Ask) : V := .fr (.sl 7 88 (l.map Ask.enc))
abbrev FC (l : List Cmd) : V := .fr (.sl 8 96 (l.map Cmd.enc))

end Go.AW

/- Bytes: copied, high, a number, a text. -/
namespace Go.AW
open Go Go.Proofs

def u8E (x : Int) : List F := [.sc (.int .u8 x)]
abbrev BB (l : List Int) : Blk := .buf 5 1 1 (l.map u8E)
abbrev FB (l : List Int) : V := .fr (.sl 1 1 (l.map u8E))

def shr (x : Int) : Nat → Int
  | 0 => x
  | i + 1 => IntKind.u64.wrap ((shr x i).tdiv 256)
def dig (x : Int) (k : Nat) : Int := IntKind.u8.wrap ((shr x k).tmod 256)
/-- The first j of k digits, the highest first. -/
def his (x : Int) (k : Nat) : Nat → List Int
  | 0 => []
  | j + 1 => his x k j ++ [dig x (k - (j + 1))]
theorem his_length (x : Int) (k : Nat) : ∀ j, (his x k j).length = j
  | 0 => rfl
  | j + 1 => by simp [his, his_length x k j]

theorem sub1 {k : Nat} (h : 0 < k) (hm : k ≤ 1000000) : IntKind.i64.wrap ((k : Int) - 1) = ((k - 1 : Nat) : Int) := by
  rw [i64_small (by omega) (by omega)]; omega

theorem u8_small {n : Int} (h : 0 ≤ n) (k : n < 256) : IntKind.u8.wrap n = n := by
  simp only [IntKind.wrap, IntKind.signed, IntKind.bits]
  simp
  omega
theorem fb_eq {a b : List Int} (h : a = b) : FB a = FB b := by rw [h]

def strB (s : ByteArray) : List Int := s.data.toList.map fun b => (b.toNat : Int)
theorem strB_eq (s : ByteArray) : strE s = (strB s).map u8E := by simp [strE, strB, u8E]
theorem strB_length (s : ByteArray) : (strB s).length = s.size := by simp [strB]

end Go.AW

/- The references of floats, names, policies. -/
namespace Go.AW
open Go Go.Proofs

/-! ### Floats -/
structure U64R (x : Int) : Prop where
  lo : 0 ≤ x
  hi : x < 18446744073709551616

theorem and_exp (n : Nat) : n &&& 9218868437227405312 = (n / 2 ^ 52 % 2 ^ 11) * 2 ^ 52 := by
  apply Nat.eq_of_testBit_eq
  intro i
  have e : 9218868437227405312 = (2 ^ 11 - 1) * 2 ^ 52 := rfl
  rw [e, Nat.testBit_and, Nat.testBit_mul_two_pow, Nat.testBit_mul_two_pow, Nat.testBit_two_pow_sub_one, Nat.testBit_mod_two_pow, Nat.testBit_div_two_pow]
  by_cases h : 52 ≤ i
  · have e2 : i - 52 + 52 = i := by omega
    simp [h, e2, Bool.and_comm]
  · simp [h]
theorem and_frac (n : Nat) : n &&& 4503599627370495 = n % 2 ^ 52 := Nat.and_two_pow_sub_one_eq_mod n 52

theorem u64_wrap_nat {n : Nat} (h : n < 18446744073709551616) : IntKind.u64.wrap (n : Int) = n := by
  simp only [IntKind.wrap, IntKind.signed, IntKind.bits]
  simp
  omega

theorem andU_nat {x m : Int} (hx : U64R x) (hm : U64R m) : andU x m = ((x.toNat &&& m.toNat : Nat) : Int) := by
  obtain ⟨h1, h2⟩ := hx
  obtain ⟨h3, h4⟩ := hm
  obtain ⟨n, rfl⟩ := Int.eq_ofNat_of_zero_le h1
  obtain ⟨k, rfl⟩ := Int.eq_ofNat_of_zero_le h3
  unfold andU
  have e1 : (BitVec.ofInt 64 (n : Int) &&& BitVec.ofInt 64 (k : Int)).toNat = n &&& k := by
    rw [BitVec.toNat_and]
    congr 1
    · simp; omega
    · simp; omega
  rw [e1]
  have : n &&& k ≤ n := Nat.and_le_left
  rw [u64_wrap_nat (by omega)]
  simp

def isNaN (x : Int) : Bool := decide (x.toNat % 9223372036854775808 > 9218868437227405312)

theorem fkind_low {x : Int} (hx : U64R x) : fkind x = if x.toNat % 9223372036854775808 > 9218868437227405312 then 1 else if x.toNat % 9223372036854775808 = 9218868437227405312 then 2 else if x.toNat % 9223372036854775808 = 0 then 3 else if x.toNat % 9223372036854775808 < 4503599627370496 then 4 else 5 := by
  have h1 := andU_nat hx (m := 9218868437227405312) ⟨by omega, by omega⟩
  have h2 := andU_nat hx (m := 4503599627370495) ⟨by omega, by omega⟩
  rw [show (9218868437227405312 : Int).toNat = 9218868437227405312 from rfl, and_exp] at h1
  rw [show (4503599627370495 : Int).toNat = 4503599627370495 from rfl, and_frac] at h2
  simp only [fkind, h1, h2]
  generalize x.toNat = n
  simp only [Bool.cond_eq_ite, Bool.and_eq_true, beq_iff_eq, bne_iff_ne, ne_eq]
  repeat' split
  all_goals omega

theorem fkind_nan {x : Int} (hx : U64R x) : (fkind x == 1) = isNaN x := by
  rw [fkind_low hx]
  unfold isNaN
  repeat' split
  all_goals first | (simp; omega) | (simp_all; done) | (simp_all; omega)

theorem cmp_self_nat (a : Nat) : compare a a = .eq := by simp
theorem floatEq_self (n : Nat) : Op.floatEq .f64 n n = !decide (n % 9223372036854775808 > 9218868437227405312) := by
  have hb : (FloatKind.f64.format).binade = 4503599627370496 := rfl
  have hi : (FloatKind.f64.format).infRung = 9218868437227405312 := rfl
  have hw : (FloatKind.f64.format).signWeight = 9223372036854775808 := rfl
  simp only [Op.floatEq, Ieee.Format.order, Ieee.Format.read, hb, hi, hw]
  split
  · have : ¬ (n % 9223372036854775808 > 9218868437227405312) := by omega
    simp [Ieee.Datum.order, this]
  · split
    · have : ¬ (n % 9223372036854775808 > 9218868437227405312) := by omega
      simp [Ieee.Datum.order, this]
    · split
      · have : ¬ (n % 9223372036854775808 > 9218868437227405312) := by omega
        simp [Ieee.Datum.order, this]
      · have : n % 9223372036854775808 > 9218868437227405312 := by omega
        simp [Ieee.Datum.order, this]

theorem math_frombits (x : Int) : PCall PP 154 [U64 x] (.fr (.sc (.float .f64 x.toNat))) := by
  constructor
  intro Γ H w μ cargs hP hm hr
  right
  have e : cargs = #[.int .u64 x] := by
    have h0 := rep_sc (hr.2 0 _ rfl)
    have hs : cargs.size = 1 := hr.1
    apply Array.ext
    · simp [hs]
    · intro i h1 h2
      have : i = 0 := by omega
      subst this
      simpa [Array.getD, hs] using h0
  subst e
  refine ⟨.float .f64 x.toNat, w, ?_, hm, .refl _ _ _, .fr _ _ (.sc _ rfl)⟩
  rw [run_callFunc_extern Tryz.func154 (by kernel_rfl) (by kernel_rfl) (by kernel_rfl) (e := Extern.MathFloatBits.float64frombits) (by kernel_rfl)]
  rfl

/-! ### Names -/
def letter (c : Int) : Bool := (decide (c ≥ 97) && decide (c ≤ 122) || (decide (c ≥ 65) && decide (c ≤ 90)) || (decide (c ≥ 48) && decide (c ≤ 57)) || c == 45 || c == 95) || c == 46
theorem letter_inner : ∀ n : Fin 256, letter (n.val : Int) = inner (n.val : Int) := by decide +kernel
theorem letter_byte (s : ByteArray) (k : Nat) : letter (byteAt s k) = inner (byteAt s k) := by
  unfold byteAt
  split
  · rename_i h
    have := letter_inner ⟨(s[k]'h).toNat, UInt8.toNat_lt _⟩
    exact this
  · exact letter_inner 0

theorem size_zero {s : ByteArray} (h : s.size = 0) : s = ⟨#[]⟩ := by
  obtain ⟨⟨d⟩⟩ := s
  cases d with
  | nil => rfl
  | cons a r => simp [ByteArray.size] at h

theorem nameOk_long {s : ByteArray} (h : s.size < 1 ∨ 24 < s.size) : nameOk s = false := by
  unfold nameOk
  rcases h with h | h
  · have := size_zero (s := s) (by omega); subst this; rfl
  · have : decide ((s.size : Int) > 24) = true := by simp; omega
    rw [this]; simp
theorem nameOk_first {s : ByteArray} (h : byteAt s 0 = 46 ∨ byteAt s 0 = 45) : nameOk s = false := by
  unfold nameOk first
  rcases h with h | h <;> rw [h] <;> simp

theorem nameOk_ok {s : ByteArray} (h1 : 1 ≤ s.size) (h2 : s.size ≤ 24) (h3 : byteAt s 0 ≠ 46) (h4 : byteAt s 0 ≠ 45) : nameOk s = (List.range s.size).all fun k => letter (byteAt s k) := by
  have hne : decide (s = ⟨#[]⟩) = false := by
    simp; intro h; subst h; simp [ByteArray.size] at h1
  have hl : decide ((s.size : Int) > 24) = false := by simp; omega
  have h3' : (byteAt s 0 != 46) = true := by simpa using h3
  have h4' : (byteAt s 0 != 45) = true := by simpa using h4
  simp only [nameOk, first, hne, hl, h3', h4', letter_byte, Bool.or_false, Bool.not_false, Bool.true_and, Bool.and_true]
  rw [Bool.eq_iff_iff]
  simp only [Bool.and_eq_true, List.all_eq_true, List.mem_range]
  exact ⟨fun h => h.2, fun h => ⟨h 0 (by omega), h⟩⟩

def byteN (s : ByteArray) (k : Nat) : Nat := if h : k < s.size then (s[k]'h).toNat else 0
theorem byteN_eq (s : ByteArray) (k : Nat) : (byteN s k : Int) = byteAt s k := by unfold byteN byteAt; split <;> rfl
theorem gstr {g : Bool} {s : ByteArray} {k : Nat} {i : Int} {K : Nat → Prop} (hi : i = k) (hk : g = true → k < s.size) (h : K (byteN s k)) : GStr g s i K := by
  subst hi
  exact ⟨byteN s k, fun hg => ⟨hk hg, Int.natCast_nonneg k, by simp [byteN, hk hg]⟩, h⟩

/-! ### Policies -/
end Go.AW

/- The references of values. -/
namespace Go.AW
open Go Go.Proofs

end Go.AW

/- The references of values: which may be, and their bytes. -/
namespace Go.AW
open Go Go.Proofs

inductive Val.U : Val → Prop where
  | mk (k i b : Int) (t : ByteArray) (l : List Val) (h : U64R b) (hl : ∀ x ∈ l, Val.U x) : Val.U (.mk k i b t l)
theorem Val.U.bits {v : Val} (h : v.U) : U64R v.bits := by cases h; assumption
theorem Val.U.list {v : Val} (h : v.U) : ∀ x ∈ v.list, x.U := by cases h; assumption

def sumf (f : Val → Int) : List Val → Int
  | [] => 0
  | x :: r => f x + sumf f r
theorem szs_ok {f : Val → Int} : ∀ (l : List Val) (acc : Int), 0 ≤ acc → ((0 ≤ szs f acc l ↔ ∀ x ∈ l, 0 ≤ f x) ∧ (0 ≤ szs f acc l → szs f acc l = acc + sumf f l))
  | [], acc, h => by simp [szs, sumf, h]
  | x :: r, acc, h => by
    simp only [szs, sumf, List.mem_cons, forall_eq_or_imp]
    by_cases hx : f x < 0
    · rw [if_pos hx]
      refine ⟨⟨fun h => absurd h (by omega), fun h => absurd h.1 (by omega)⟩, fun h => absurd h (by omega)⟩
    · rw [if_neg hx]
      obtain ⟨h1, h2⟩ := szs_ok r (acc + f x) (by omega)
      refine ⟨⟨fun h => ⟨by omega, h1.1 h⟩, fun h => h1.2 h.2⟩, fun h => ?_⟩
      rw [h2 h]; omega

theorem only_eq (v : Val) : (!only v) = (decide (v.kind < 0) || decide (v.kind > 4) || (v.kind != 1 && v.int != 0) || (v.kind != 2 && v.bits != 0) || (v.kind != 3 && !decide (v.text = ⟨#[]⟩)) || (v.kind != 4 && decide ((v.list.length : Int) > 0))) := by
  simp only [only, okAt, List.range, List.range.loop, List.all_cons, List.all_nil, bne]
  generalize decide (v.text = ⟨#[]⟩) = t
  generalize decide ((v.list.length : Int) > 0) = n
  generalize (v.int == 0) = i
  generalize (v.bits == 0) = b
  by_cases h : 0 ≤ v.kind ∧ v.kind ≤ 4
  · have : v.kind = 0 ∨ v.kind = 1 ∨ v.kind = 2 ∨ v.kind = 3 ∨ v.kind = 4 := by omega
    rcases this with e | e | e | e | e <;> rw [e] <;> cases t <;> cases n <;> cases i <;> cases b <;> rfl
  · have h1 : (decide (v.kind ≥ 0) && decide (v.kind ≤ 4)) = false := by
      rw [Bool.eq_false_iff]; simp; omega
    have h2 : (decide (v.kind < 0) || decide (v.kind > 4)) = true := by simp; omega
    rw [h1, h2]; simp

theorem kinds_of {v : Val} (h : only v = true) : v.kind = 0 ∨ v.kind = 1 ∨ v.kind = 2 ∨ v.kind = 3 ∨ v.kind = 4 := by
  have := only_eq v
  rw [h] at this
  simp at this
  omega
theorem only_list {v : Val} (h : only v = true) (hk : v.kind ≠ 4) : v.list = [] := by
  have := only_eq v
  rw [h] at this
  have hk' : (v.kind != 4) = true := by simpa using hk
  simp only [hk'] at this
  simp at this
  exact List.eq_nil_of_length_eq_zero (by simp; exact this.2)

theorem sz_ok_succ {d : Nat} {v : Val} (hb : badV v = false) : decide (0 ≤ sz (d + 1) v) = v.list.all fun x => decide (0 ≤ sz d x) := by
  have ho : only v = true := by cases h : only v with | true => rfl | false => simp [badV, h] at hb
  rcases kinds_of ho with e | e | e | e | e
  · rw [only_list ho (by omega)]; simp [sz, hb, e]
  · rw [only_list ho (by omega)]; simp [sz, hb, e]
  · rw [only_list ho (by omega)]; simp [sz, hb, e]
  · rw [only_list ho (by omega)]; simp [sz, hb, e]; omega
  · simp only [sz, hb, e]
    have := (szs_ok (f := sz d) v.list 2 (by omega)).1
    rw [Bool.eq_iff_iff]
    simp only [decide_eq_true_eq, List.all_eq_true]
    exact this
theorem sz_ok_zero {v : Val} (hb : badV v = false) : decide (0 ≤ sz 0 v) = (v.kind != 4) := by
  have ho : only v = true := by cases h : only v with | true => rfl | false => simp [badV, h] at hb
  rcases kinds_of ho with e | e | e | e | e <;> simp [sz, hb, e]
  omega

theorem badV_split (v : Val) : badV v = (!only v || ((v.bits != canon v.bits) || decide ((v.text.size : Int) > 200) || decide ((v.list.length : Int) > 12))) := by
  have e : (canon v.bits != v.bits) = (v.bits != canon v.bits) := by simp only [bne, Bool.beq_comm]
  simp only [badV, e]
  generalize (v.bits != canon v.bits) = b
  generalize decide ((v.text.size : Int) > 200) = t
  generalize decide ((v.list.length : Int) > 12) = n
  cases only v <;> cases b <;> cases t <;> cases n <;> rfl

theorem sz_bad {d : Nat} {v : Val} (hb : badV v = true) : sz d v = -1 := by
  cases d <;> simp [sz, hb]

end Go.AW

/- The references of values: their bytes; which may be. -/
namespace Go.AW
open Go Go.Proofs

def xorTop (n : Int) : Int := IntKind.u64.wrap (BitVec.ofInt 64 (IntKind.u64.wrap n) ^^^ BitVec.ofInt 64 9223372036854775808).toNat
mutual
def benc : Val → List Int
  | .mk k i b t l => k :: (if k = 1 then his (xorTop i) 8 8 else if k = 2 then his b 8 8 else if k = 3 then (t.size : Int) :: strB t else if k = 4 then (l.length : Int) :: bencs l else [])
def bencs : List Val → List Int
  | [] => []
  | x :: r => benc x ++ bencs r
end
theorem benc_eq (v : Val) : benc v = v.kind :: (if v.kind = 1 then his (xorTop v.int) 8 8 else if v.kind = 2 then his v.bits 8 8 else if v.kind = 3 then (v.text.size : Int) :: strB v.text else if v.kind = 4 then (v.list.length : Int) :: bencs v.list else []) := by
  cases v; rfl

theorem bencs_snoc (l : List Val) (x : Val) : bencs (l ++ [x]) = bencs l ++ benc x := by
  induction l with
  | nil => simp [bencs]
  | cons y r ih => simp [bencs, ih]
theorem bencs_take {l : List Val} {k : Nat} {x : Val} (h : l[k]? = some x) : bencs (l.take (k + 1)) = bencs (l.take k) ++ benc x := by
  rw [take_snoc h, bencs_snoc]
theorem bencs_le (l : List Val) (k : Nat) : (bencs (l.take k)).length ≤ (bencs l).length := by
  induction l generalizing k with
  | nil => simp
  | cons x r ih =>
    cases k with
    | zero => simp [bencs]
    | succ k => have := ih k; simp [bencs]; omega

theorem bencs_len {f : Val → Int} : ∀ (l : List Val), (∀ x ∈ l, ((benc x).length : Int) = f x) → ((bencs l).length : Int) = sumf f l
  | [], _ => rfl
  | x :: r, h => by
    simp only [bencs, sumf, List.length_append]
    have h1 := h x List.mem_cons_self
    have h2 := bencs_len r fun y hy => h y (List.mem_cons_of_mem _ hy)
    push_cast; omega

theorem badV_of {d : Nat} {v : Val} (h : 0 ≤ sz d v) : badV v = false := by
  cases hb : badV v with
  | false => rfl
  | true => rw [sz_bad hb] at h; omega
theorem only_of {d : Nat} {v : Val} (h : 0 ≤ sz d v) : only v = true := by
  have hb := badV_of h
  cases ho : only v with
  | true => rfl
  | false => simp [badV, ho] at hb

theorem sz_list {d : Nat} {v : Val} (h : 0 ≤ sz (d + 1) v) (hk : v.kind = 4) : (∀ x ∈ v.list, 0 ≤ sz d x) ∧ sz (d + 1) v = 2 + sumf (sz d) v.list := by
  have hb := badV_of h
  have e : sz (d + 1) v = szs (sz d) 2 v.list := by simp [sz, hb, hk]
  rw [e] at h ⊢
  obtain ⟨h1, h2⟩ := szs_ok (f := sz d) v.list 2 (by omega)
  exact ⟨h1.1 h, h2 h⟩

theorem benc_len : ∀ (d : Nat) (v : Val), 0 ≤ sz d v → ((benc v).length : Int) = sz d v := by
  intro d
  induction d with
  | zero =>
    intro v h
    have hb := badV_of h
    rw [benc_eq]
    rcases kinds_of (only_of h) with e | e | e | e | e
    · simp [sz, hb, e]
    · simp [sz, hb, e, his_length]
    · simp [sz, hb, e, his_length]
    · simp [sz, hb, e, strB_length]; omega
    · simp [sz, hb, e] at h
  | succ d ih =>
    intro v h
    have hb := badV_of h
    rw [benc_eq]
    rcases kinds_of (only_of h) with e | e | e | e | e
    · simp [sz, hb, e]
    · simp [sz, hb, e, his_length]
    · simp [sz, hb, e, his_length]
    · simp [sz, hb, e, strB_length]; omega
    · obtain ⟨h1, h2⟩ := sz_list h e
      have := bencs_len (f := sz d) v.list fun x hx => ih x (h1 x hx)
      rw [h2, e]
      simp
      omega

theorem bnd4 : bnd 4 = 5997810 := rfl
end Go.AW

/- Events: what may be; a clone. -/
namespace Go.AW
open Go Go.Proofs

structure Ev where
  kind : Int
  time : Int
  num : Int
  due : Int
  name : ByteArray
  value : Val
  policy : Pol
def Ev.enc (e : Ev) : List F := [.sc (.int .i64 e.kind), .sc (.int .i64 e.time), .sc (.int .i64 e.num), .sc (.int .i64 e.due), .sc (.string e.name), .sc (.int .i64 e.value.kind), .sc (.int .i64 e.value.int), .sc (.int .u64 e.value.bits), .sc (.string e.value.text), .sl 5 64 (Val.encs e.value.list),
  .sc (.int .i64 e.policy.first), .sc (.int .u64 e.policy.coef), .sc (.int .i64 e.policy.most)]

def evLater (k : Int) : ByteArray :=
  if (k == 12) = true then (⟨#[97, 99, 99, 101, 112, 116, 101, 100]⟩ : ByteArray) else if (k == 13) = true then (⟨#[111, 117, 116, 99, 111, 109, 101]⟩ : ByteArray) else if (k == 14) = true then (⟨#[109, 97, 114, 107, 101, 114]⟩ : ByteArray) else if (k == 15) = true then (⟨#[99, 111, 109, 112, 108, 101, 116, 101, 100]⟩ : ByteArray) else if (k == 16) = true then (⟨#[102, 97, 105, 108, 101, 100]⟩ : ByteArray)
  else if (k == 17) = true then (⟨#[99, 97, 110, 99, 101, 108, 101, 100]⟩ : ByteArray) else if (k == 18) = true then (⟨#[116, 101, 114, 109, 105, 110, 97, 116, 101, 100]⟩ : ByteArray) else if (k == 19) = true then (⟨#[116, 105, 109, 101, 100, 79, 117, 116]⟩ : ByteArray) else ⟨#[]⟩
theorem event_later (k : Int) : PCall PP 188 [I64 k] (S1 (evLater k)) := by
  refine pcall_of TTok Tryz.func188 rfl rfl rfl rfl rfl rfl (fun _ => ?_)
  (repeat' ((conv => whnf); first | refine bsplit (fun _ => ?_) (fun _ => ?_) | refine adraw ?_ | refine leave ?_ | refine And.intro (by first | assumption | omega | (simp; omega)) ?_)) <;> (try (conv => whnf))
  all_goals (refine ⟨?_⟩; (try simp only [Bool.cond_false_right, Bool.cond_true_left] at *) <;> first | (simp only [evLater, *, if_true, Bool.false_eq_true, if_false]; done) | (simp_all [Bool.cond_eq_ite, evLater]; done) | (simp_all [Bool.cond_eq_ite, evLater]; grind))

def evName (k : Int) : ByteArray :=
  if (k == 1) = true then (⟨#[115, 116, 97, 114, 116, 101, 100]⟩ : ByteArray) else if (k == 2) = true then (⟨#[115, 99, 104, 101, 100, 117, 108, 101, 100]⟩ : ByteArray) else if (k == 3) = true then (⟨#[116, 97, 107, 101, 110]⟩ : ByteArray) else if (k == 4) = true then (⟨#[100, 111, 110, 101]⟩ : ByteArray) else if (k == 5) = true then (⟨#[116, 97, 115, 107, 70, 97, 105, 108, 101, 100]⟩ : ByteArray) else if (k == 6) = true then (⟨#[116, 97, 115, 107, 84, 105, 109, 101, 100]⟩ : ByteArray)
  else if (k == 7) = true then (⟨#[115, 105, 103, 110, 97, 108, 101, 100]⟩ : ByteArray) else if (k == 8) = true then (⟨#[99, 97, 110, 99, 101, 108]⟩ : ByteArray) else if (k == 9) = true then (⟨#[116, 105, 109, 101, 114]⟩ : ByteArray) else if (k == 10) = true then (⟨#[102, 105, 114, 101, 100]⟩ : ByteArray) else if (k == 11) = true then (⟨#[116, 105, 109, 101, 114, 79, 102, 102]⟩ : ByteArray) else evLater k
theorem event_Name (k : Int) : PCall PP 174 [I64 k] (S1 (evName k)) := by
  refine pcall_of TTok Tryz.func174 rfl rfl rfl rfl rfl rfl (fun _ => ?_)
  (repeat' ((conv => whnf); first | refine bsplit (fun _ => ?_) (fun _ => ?_) | refine adraw ?_ | refine leave ?_ | refine acall (event_later _) ?_ | refine dcall (event_later _) ?_ | refine GCall.sym _ (fun hg => PC.own (event_later _)) ?_ | refine And.intro (by first | assumption | omega | (simp; omega)) ?_)) <;> (try (conv => whnf))
  all_goals (refine ⟨?_⟩; (try simp only [Bool.cond_false_right, Bool.cond_true_left] at *) <;> first | (simp only [evName, *, if_true, Bool.false_eq_true, if_false]; done) | (simp_all [Bool.cond_eq_ite, evName]; done) | (simp_all [Bool.cond_eq_ite, evName]; grind))

theorem evName_none (k : Int) : decide (evName k = ⟨#[]⟩) = !(decide (1 ≤ k) && decide (k ≤ 19)) := by
  by_cases h : 1 ≤ k ∧ k ≤ 19
  · have : k = 1 ∨ k = 2 ∨ k = 3 ∨ k = 4 ∨ k = 5 ∨ k = 6 ∨ k = 7 ∨ k = 8 ∨ k = 9 ∨ k = 10 ∨ k = 11 ∨ k = 12 ∨ k = 13 ∨ k = 14 ∨ k = 15 ∨ k = 16 ∨ k = 17 ∨ k = 18 ∨ k = 19 := by omega
    rcases this with rfl | rfl | rfl | rfl | rfl | rfl | rfl | rfl | rfl | rfl | rfl | rfl | rfl | rfl | rfl | rfl | rfl | rfl | rfl <;> decide
  · have e : (decide (1 ≤ k) && decide (k ≤ 19)) = false := by rw [Bool.eq_false_iff]; simp; omega
    have hne : ∀ c : Int, 1 ≤ c → c ≤ 19 → (k == c) = false := fun c h1 h2 => by
      have : k ≠ c := by omega
      simpa using this
    simp [evName, evLater, hne, e]

def evHas (k : Int) : Int :=
  if (k == 1) = true then 54 else if (k == 2) = true then 3 else if (k == 3) = true then 2 else if (k == 5) = true then 9 else if (k == 7) = true then 20 else if (k == 12) = true then 20 else if (k == 13) = true then 20
  else if (k == 9) = true then 6 else if (k == 10) = true then 4 else if (k == 11) = true then 4 else if (k == 14) = true then 16 else if (k == 15) = true then 16 else if (k == 16) = true then 8 else if (k == 18) = true then 8 else 0
theorem event_has (k : Int) : PCall PP 189 [I64 k] (I64 (evHas k)) := by
  refine pcall_of TTok Tryz.func189 rfl rfl rfl rfl rfl rfl (fun _ => ?_)
  (repeat' ((conv => whnf); first | refine bsplit (fun _ => ?_) (fun _ => ?_) | refine adraw ?_ | refine leave ?_ | refine And.intro (by first | assumption | omega | (simp; omega)) ?_)) <;> (try (conv => whnf))
  all_goals (refine ⟨?_⟩; (try simp only [Bool.cond_false_right, Bool.cond_true_left] at *) <;> first | (simp only [evHas, *, if_true, Bool.false_eq_true, if_false]; done) | (simp_all [Bool.cond_eq_ite, evHas]; done) | (simp_all [Bool.cond_eq_ite, evHas]; grind))

def bitE (k f : Int) : Int := IntKind.i64.wrap (BitVec.ofInt 64 (evHas k) &&& BitVec.ofInt 64 f).toNat
theorem bitE_eq (k f : Int) : IntKind.i64.wrap (BitVec.ofInt IntKind.i64.bits (evHas k) &&& BitVec.ofInt IntKind.i64.bits f).toNat = bitE k f := rfl

def attemptOk (e : Ev) : Bool :=
  if (bitE e.kind 1 == 0) = true then e.num == 0 else if (e.kind == 5) = true then decide (e.num ≥ 0) && decide (e.num ≤ 10) else decide (e.num ≥ 1) && decide (e.num ≤ 2147483648)
theorem event_attempt (e : Ev) : PCall PP 175 [fv e.enc] (B1 (attemptOk e)) := by
  refine pcall_of TTok Tryz.func175 rfl rfl rfl rfl rfl rfl (fun _ => ?_)
  (repeat' ((conv => whnf); first | refine bsplit (fun _ => ?_) (fun _ => ?_) | refine adraw ?_ | refine leave ?_ | refine acall (event_has _) ?_ | refine dcall (event_has _) ?_ | refine GCall.sym _ (fun hg => PC.own (event_has _)) ?_ | refine And.intro (by first | assumption | omega | (simp; omega)) ?_)) <;> (try (conv => whnf))
  all_goals simp only [bitE_eq] at *
  all_goals (refine ⟨?_⟩; (try simp only [Bool.cond_false_right, Bool.cond_true_left] at *) <;> first | (simp only [attemptOk, *, if_true, Bool.false_eq_true, if_false]; done) | (simp_all [Bool.cond_eq_ite, attemptOk]; done) | (simp_all [Bool.cond_eq_ite, attemptOk]; grind))

def wordsOk (e : Ev) : Bool :=
  if (bitE e.kind 4 != 0) = true then nameOk e.name else if (bitE e.kind 8 != 0) = true then decide ((e.name.size : Int) ≤ 200) else decide (e.name = ⟨#[]⟩)
theorem event_words (e : Ev) : PCall PP 176 [fv e.enc] (B1 (wordsOk e)) := by
  refine pcall_of TTok Tryz.func176 rfl rfl rfl rfl rfl rfl (fun _ => ?_)
  (repeat' ((conv => whnf); first | refine bsplit (fun _ => ?_) (fun _ => ?_) | refine adraw ?_ | refine leave ?_ | refine acall (event_has _) ?_ | refine dcall (event_has _) ?_ | refine GCall.sym _ (fun hg => PC.own (event_has _)) ?_ | refine acall (names_Name _) ?_ | refine dcall (names_Name _) ?_ | refine GCall.sym _ (fun hg => PC.own (names_Name _)) ?_ | refine acall (names_Text _) ?_ | refine dcall (names_Text _) ?_ | refine GCall.sym _ (fun hg => PC.own (names_Text _)) ?_ | refine And.intro (by first | assumption | omega | (simp; omega)) ?_)) <;> (try (conv => whnf))
  all_goals simp only [bitE_eq] at *
  all_goals (refine ⟨?_⟩; (try simp only [Bool.cond_false_right, Bool.cond_true_left] at *) <;> first | (simp only [wordsOk, *, if_true, Bool.false_eq_true, if_false]; done) | (simp_all [Bool.cond_eq_ite, wordsOk]; done) | (simp_all [Bool.cond_eq_ite, wordsOk]; grind))

def polNone (p : Pol) : Bool := p.first == 0 && (p.coef == 0 && (p.most == 0 && true))
def restOk (e : Ev) : Bool :=
  if ((bitE e.kind 2 == 0 && e.due != 0) || decide (e.due < 0) || decide (e.due > 2199023255552)) = true then false
  else if ((bitE e.kind 16 == 0 && !sameV e.value Val.zero) || okV e.value != 0) = true then false
  else if (bitE e.kind 32 == 0) = true then polNone e.policy else polOk e.policy == 0
theorem event_rest (e : Ev) : PCall PP 177 [fv e.enc] (B1 (restOk e)) := by
  refine pcall_of TTok Tryz.func177 rfl rfl rfl rfl rfl rfl (fun _ => ?_)
  (repeat' ((conv => whnf); first | refine bsplit (fun _ => ?_) (fun _ => ?_) | refine adraw ?_ | refine leave ?_ | refine acall (event_has _) ?_ | refine dcall (event_has _) ?_ | refine GCall.sym _ (fun hg => PC.own (event_has _)) ?_ | refine acall (value_Same e.value Val.zero) ?_ | refine dcall (value_Same e.value Val.zero) ?_ | refine GCall.sym _ (fun hg => PC.own (value_Same e.value Val.zero)) ?_ | refine acall (value_Check e.value) ?_ | refine dcall (value_Check e.value) ?_ | refine GCall.sym _ (fun hg => PC.own (value_Check e.value)) ?_ | refine acall (policy_Check e.policy) ?_ | refine dcall (policy_Check e.policy) ?_ | refine GCall.sym _ (fun hg => PC.own (policy_Check e.policy)) ?_ | refine And.intro (by first | assumption | omega | (simp; omega)) ?_)) <;> (try (conv => whnf))
  all_goals simp only [bitE_eq] at *
  all_goals (refine ⟨?_⟩; (try simp only [Bool.cond_false_right, Bool.cond_true_left] at *) <;> first | (simp only [restOk, polNone, *, if_true, Bool.false_eq_true, if_false]; done) | (simp_all [Bool.cond_eq_ite, restOk, polNone]; done) | (simp_all [Bool.cond_eq_ite, restOk, polNone]; grind))

def evOk (e : Ev) : Int := if (decide (evName e.kind = ⟨#[]⟩) || decide (e.time < 0) || decide (e.time > 1099511627776) || !attemptOk e || !wordsOk e || !restOk e) = true then 1 else 0
theorem event_Check (e : Ev) : PCall PP 160 [fv e.enc] (I64 (evOk e)) := by
  refine pcall_of TTok Tryz.func160 rfl rfl rfl rfl rfl rfl (fun _ => ?_)
  (repeat' ((conv => whnf); first | refine bsplit (fun _ => ?_) (fun _ => ?_) | refine adraw ?_ | refine leave ?_ | refine acall (event_Name _) ?_ | refine dcall (event_Name _) ?_ | refine GCall.sym _ (fun hg => PC.own (event_Name _)) ?_ | refine acall (event_attempt e) ?_ | refine dcall (event_attempt e) ?_ | refine GCall.sym _ (fun hg => PC.own (event_attempt e)) ?_ | refine acall (event_words e) ?_ | refine dcall (event_words e) ?_ | refine GCall.sym _ (fun hg => PC.own (event_words e)) ?_ | refine acall (event_rest e) ?_ | refine dcall (event_rest e) ?_ | refine GCall.sym _ (fun hg => PC.own (event_rest e)) ?_ | refine And.intro (by first | assumption | omega | (simp; omega)) ?_)) <;> (try (conv => whnf))
  all_goals (refine ⟨?_⟩; (try simp only [Bool.cond_false_right, Bool.cond_true_left] at *) <;> first | (simp only [evOk, *, if_true, Bool.false_eq_true, if_false]; done) | (simp_all [Bool.cond_eq_ite, evOk]; done) | (simp_all [Bool.cond_eq_ite, evOk]; grind))

theorem event_Clone (e : Ev) : PCall PP 51 [fv e.enc] (fv e.enc) := by
  refine pcall_of TTok Tryz.func51 rfl rfl rfl rfl rfl rfl (fun _ => ?_)
  (repeat' ((conv => whnf); first | refine bsplit (fun _ => ?_) (fun _ => ?_) | refine adraw ?_ | refine leave ?_ | refine acall (value_Clone e.value) ?_ | refine dcall (value_Clone e.value) ?_ | refine GCall.sym _ (fun hg => PC.own (value_Clone e.value)) ?_ | refine And.intro (by first | assumption | omega | (simp; omega)) ?_)) <;> (try (conv => whnf))
  exact ⟨rfl⟩

end Go.AW

/- States: what can be. -/
namespace Go.AW
open Go Go.Proofs

structure Tsk where
  state : Int
  attempt : Int
  due : Int
  event : Int
  seen : Int
structure Tim where
  name : ByteArray
  due : Int
structure Upd where
  name : ByteArray
  value : Val
  stage : Int
  outcome : Val
structure St where
  run : Int
  status : Int
  count : Int
  time : Int
  deadline : Int
  from_ : Int
  signals : Int
  type : ByteArray
  input : Val
  policy : Pol
  task : Tsk
  fresh : Bool
  cancel : Bool
  timers : List Tim
  updates : List Upd
  result : Val
  reason : ByteArray
def Tim.enc (t : Tim) : List F := [.sc (.string t.name), .sc (.int .i64 t.due)]
def Upd.enc (u : Upd) : List F := [.sc (.string u.name), .sc (.int .i64 u.value.kind), .sc (.int .i64 u.value.int), .sc (.int .u64 u.value.bits), .sc (.string u.value.text), .sl 5 64 (Val.encs u.value.list), .sc (.int .i64 u.stage),
  .sc (.int .i64 u.outcome.kind), .sc (.int .i64 u.outcome.int), .sc (.int .u64 u.outcome.bits), .sc (.string u.outcome.text), .sl 5 64 (Val.encs u.outcome.list)]
def St.enc (s : St) : List F := [.sc (.int .i64 s.run), .sc (.int .i64 s.status), .sc (.int .i64 s.count), .sc (.int .i64 s.time), .sc (.int .i64 s.deadline), .sc (.int .i64 s.from_), .sc (.int .i64 s.signals), .sc (.string s.type),
  .sc (.int .i64 s.input.kind), .sc (.int .i64 s.input.int), .sc (.int .u64 s.input.bits), .sc (.string s.input.text), .sl 5 64 (Val.encs s.input.list),
  .sc (.int .i64 s.policy.first), .sc (.int .u64 s.policy.coef), .sc (.int .i64 s.policy.most),
  .sc (.int .i64 s.task.state), .sc (.int .i64 s.task.attempt), .sc (.int .i64 s.task.due), .sc (.int .i64 s.task.event), .sc (.int .i64 s.task.seen), .sc (.bool s.fresh), .sc (.bool s.cancel),
  .sl 2 24 (s.timers.map Tim.enc), .sl 12 152 (s.updates.map Upd.enc),
  .sc (.int .i64 s.result.kind), .sc (.int .i64 s.result.int), .sc (.int .u64 s.result.bits), .sc (.string s.result.text), .sl 5 64 (Val.encs s.result.list), .sc (.string s.reason)]
abbrev FT (l : List Tim) : V := .fr (.sl 2 24 (l.map Tim.enc))
abbrev FU (l : List Upd) : V := .fr (.sl 12 152 (l.map Upd.enc))

theorem st_fit {s : St} (h : Fit s.enc) : s.timers.length * 24 ≤ 140737488355328 ∧ s.updates.length * 152 ≤ 140737488355328 :=
  ⟨fit_rows (h (.sl 2 24 (s.timers.map Tim.enc)) (by simp [St.enc])), fit_rows (h (.sl 12 152 (s.updates.map Upd.enc)) (by simp [St.enc]))⟩

def within (n l h : Int) : Bool := decide (n ≥ l) && decide (n ≤ h)
theorem state_Running (s : St) : PCall PP 47 [fv s.enc] (B1 (s.status == 1)) := by
  refine pcall_of TTok Tryz.func47 rfl rfl rfl rfl rfl rfl (fun _ => ?_)
  (repeat' ((conv => whnf); first | refine bsplit (fun _ => ?_) (fun _ => ?_) | refine adraw ?_ | refine leave ?_ | refine And.intro (by first | assumption | omega | (simp; omega)) ?_)) <;> (try (conv => whnf))
  exact ⟨rfl⟩

def numbersOk (s : St) : Bool :=
  within s.run 1 10 && within s.from_ 0 10 && within s.status 1 6 && (within s.count 1 120 && within s.signals 0 s.count && within s.time 0 1099511627776 && within s.deadline 0 2199023255552)
def partsOk (s : St) : Bool := nameOk s.type && okV s.input == 0 && polOk s.policy == 0
def tskNone (t : Tsk) : Bool := t.state == 0 && (t.attempt == 0 && (t.due == 0 && (t.event == 0 && (t.seen == 0 && true))))
def tskRest (t : Tsk) : Bool := within t.attempt 1 2147483648 && within t.due 0 2199023255552
def tskOk (s : St) : Bool :=
  if (s.task.state == 0) = true then tskNone s.task
  else if (s.task.state == 1) = true then (if (s.task.event != 0 || s.task.seen != 0) = true then false else tskRest s.task)
  else if (s.task.state == 2) = true then (if (!within s.task.event 1 s.count || s.task.seen != s.task.event) = true then false else tskRest s.task)
  else false
def timBad (last : ByteArray) (t : Tim) : Bool := !nameOk t.name || (sless t.name last || decide (t.name = last)) || !within t.due 0 2199023255552
def timersGo : ByteArray → List Tim → Bool
  | _, [] => true
  | last, t :: r => if timBad last t = true then false else timersGo t.name r
def timersOk (s : St) : Bool := timersGo ⟨#[]⟩ s.timers && decide ((s.timers.length : Int) ≤ 10)
def updBad1 (last : ByteArray) (u : Upd) : Bool := !nameOk u.name || (sless u.name last || decide (u.name = last)) || okV u.value != 0 || okV u.outcome != 0
def updBad2 (u : Upd) : Bool := !within u.stage 1 2 || (u.stage == 1 && !sameV u.outcome Val.zero)
def updatesGo : ByteArray → List Upd → Bool
  | _, [] => true
  | last, u :: r => if updBad1 last u = true then false else if updBad2 u = true then false else updatesGo u.name r
def updatesOk (s : St) : Bool := updatesGo ⟨#[]⟩ s.updates && decide ((s.updates.length : Int) ≤ 10)
def endedOk (s : St) : Bool :=
  if (okV s.result != 0 || !decide ((s.reason.size : Int) ≤ 200)) = true then false
  else if (s.status != 2 && !sameV s.result Val.zero) = true then false
  else if ((s.status != 3 && s.status != 5) && !decide (s.reason = ⟨#[]⟩)) = true then false
  else s.status == 1 || (s.task.state == 0 && (s.timers.length : Int) == 0)
def canSt (s : St) : Bool := numbersOk s && partsOk s && tskOk s && timersOk s && updatesOk s && endedOk s
end Go.AW

/- States: which are the same. -/
namespace Go.AW
open Go Go.Proofs

def eqL {α : Type} (p : α → α → Bool) : List α → List α → Bool
  | [], [] => true
  | x :: r, y :: s => p x y && eqL p r s
  | _, _ => false
theorem eqL_len {α : Type} {p : α → α → Bool} : ∀ {a b : List α}, a.length ≠ b.length → eqL p a b = false
  | [], [], h => absurd rfl h
  | [], _ :: _, _ => rfl
  | _ :: _, [], _ => rfl
  | x :: r, y :: s, h => by simp only [eqL]; rw [eqL_len (by simpa using h), Bool.and_false]
theorem eqL_drop {α : Type} {p : α → α → Bool} {a b : List α} {k : Nat} {x y : α} (hx : a[k]? = some x) (hy : b[k]? = some y) : eqL p (a.drop k) (b.drop k) = (p x y && eqL p (a.drop (k + 1)) (b.drop (k + 1))) := by
  rw [drop_cons hx, drop_cons hy]; rfl
theorem eqL_end {α : Type} {p : α → α → Bool} {a b : List α} {k : Nat} (h : k = a.length) (hl : a.length = b.length) : eqL p (a.drop k) (b.drop k) = true := by
  rw [h, List.drop_length, hl, List.drop_length]; rfl

def timEq (t u : Tim) : Bool := decide (t.name = u.name) && (t.due == u.due && true)
def updEq (x y : Upd) : Bool := decide (x.name = y.name) && x.stage == y.stage && sameV x.value y.value && sameV x.outcome y.outcome

def St.plain (s : St) : List F := [.sc (.int .i64 s.run), .sc (.int .i64 s.status), .sc (.int .i64 s.count), .sc (.int .i64 s.time), .sc (.int .i64 s.deadline), .sc (.int .i64 s.from_), .sc (.int .i64 s.signals), .sc (.string s.type), .sc (.string s.reason),
  .sc (.int .i64 s.policy.first), .sc (.int .u64 s.policy.coef), .sc (.int .i64 s.policy.most), .sc (.int .i64 s.task.state), .sc (.int .i64 s.task.attempt), .sc (.int .i64 s.task.due), .sc (.int .i64 s.task.event), .sc (.int .i64 s.task.seen), .sc (.bool s.fresh), .sc (.bool s.cancel)]
def polEq (a b : Pol) : Bool := a.first == b.first && (a.coef == b.coef && (a.most == b.most && true))
def tskEq (a b : Tsk) : Bool := a.state == b.state && (a.attempt == b.attempt && (a.due == b.due && (a.event == b.event && (a.seen == b.seen && true))))
def plainEq (a b : St) : Bool := a.run == b.run && a.status == b.status && a.count == b.count && a.time == b.time && a.deadline == b.deadline && a.from_ == b.from_ && a.signals == b.signals && decide (a.type = b.type) && polEq a.policy b.policy && tskEq a.task b.task && a.fresh == b.fresh && a.cancel == b.cancel && decide (a.reason = b.reason)
def sameSt (a b : St) : Bool := plainEq a b && sameV a.input b.input && sameV a.result b.result && eqL timEq a.timers b.timers && eqL updEq a.updates b.updates

theorem plain_eq (a b : St) : (a.run == b.run && (a.status == b.status && (a.count == b.count && (a.time == b.time && (a.deadline == b.deadline && (a.from_ == b.from_ && (a.signals == b.signals && true)))))) &&
    (decide (a.type = b.type) && (decide (a.reason = b.reason) && (polEq a.policy b.policy && (tskEq a.task b.task && (a.fresh == b.fresh && (a.cancel == b.cancel && true))))))) = plainEq a b := by
  simp only [plainEq, Bool.and_true]
  ac_rfl

end Go.AW

/- States: the reference's word on which can be. -/
namespace Go.AW
open Go Go.Proofs

theorem less_total : ∀ x y : List UInt8, Op.bytesLess x y = !(Op.bytesLess y x || x == y)
  | [], [] => rfl
  | [], _ :: _ => by simp [Op.bytesLess]
  | _ :: _, [] => by simp [Op.bytesLess]
  | a :: x, b :: y => by
    simp only [Op.bytesLess, less_total x y]
    by_cases h : a < b
    · have h2 : ¬ b < a := fun h3 => by have := UInt8.lt_asymm h h3; exact this
      have h3 : (b == a) = false := by simp; intro e; subst e; exact absurd h (UInt8.lt_irrefl _)
      have h4 : (a :: x == b :: y) = false := by simp; intro e; subst e; exact absurd h (UInt8.lt_irrefl _)
      simp [h, h2, h3]
      exact .inl fun e => by subst e; exact absurd h (UInt8.lt_irrefl _)
    · by_cases h2 : b < a
      · have h3 : (a == b) = false := by simp; intro e; subst e; exact absurd h2 (UInt8.lt_irrefl _)
        simp [h, h2, h3]
      · have e : a = b := by
          have h5 := UInt8.not_lt.1 h
          have h6 := UInt8.not_lt.1 h2
          exact UInt8.le_antisymm h6 h5
        subst e
        simp [h]
theorem sless_total (a b : ByteArray) : sless a b = !(sless b a || decide (a = b)) := by
  unfold sless
  rw [less_total, bytes_eq]
theorem sless_total' (a b : ByteArray) : sless a b = !(sless b a || decide (b = a)) := by
  rw [sless_total a b]
  have e : decide (a = b) = decide (b = a) := by rw [Bool.eq_iff_iff]; simp [eq_comm]
  rw [e]
theorem sless_none (a : ByteArray) : sless a ⟨#[]⟩ = false := by
  unfold sless
  have e : (⟨#[]⟩ : ByteArray).toList = [] := by decide +kernel
  rw [e]; cases a.toList <;> rfl

def prevOf {α : Type} (d : α) (l : List α) (k : Nat) : α := if k = 0 then d else l.getD (k - 1) d
theorem prevOf_get {α : Type} {d : α} {l : List α} {k : Nat} (h : 0 < k) (hk : k ≤ l.length) : l[k - 1]? = some (prevOf d l k) := by
  unfold prevOf
  rw [if_neg (by omega)]
  simp [List.getD, List.getElem?_eq_getElem (show k - 1 < l.length by omega)]
theorem prevOf_succ {α : Type} {d : α} {l : List α} {k : Nat} {x : α} (h : l[k]? = some x) : prevOf d l (k + 1) = x := by
  unfold prevOf
  rw [if_neg (by omega)]
  simp [List.getD, h]
theorem pred_wrap {k : Nat} (h : 0 < k) (hk : (k : Int) ≤ 1000000000000) : IntKind.i64.wrap ((k : Int) - 1) = ((k - 1 : Nat) : Int) := by
  rw [i64_small (by omega) (by omega)]; omega

theorem same_zero {v : Val} (h : sameV v Val.zero = true) : v = Val.zero := by
  obtain ⟨k, i, b, t, l⟩ := v
  rw [sameV_eq] at h
  simp only [Val.zero, Val.kind, Val.int, Val.bits, Val.text, Val.list, Bool.and_eq_true, beq_iff_eq, decide_eq_true_eq, List.length_nil] at h
  obtain ⟨⟨⟨⟨⟨rfl, rfl⟩, rfl⟩, h4⟩, h5⟩, _⟩ := h
  have h4 : t = ⟨#[]⟩ := of_decide_eq_true h4
  subst h4
  have := List.eq_nil_of_length_eq_zero h5
  subst this; rfl
theorem okV_zero : okV Val.zero = 0 := by decide +kernel

structure St.U (s : St) : Prop where
  input : s.input.U
  result : s.result.U
  coef : U64R s.policy.coef
  upds : ∀ u ∈ s.updates, u.value.U ∧ u.outcome.U

def updOkR (u : Upd) : Bool := (nameOk u.name && okV u.value == 0) && (if (u.stage == 1) = true then sameV u.outcome Val.zero else u.stage == 2 && okV u.outcome == 0)

theorem upd_bad (last : ByteArray) (u : Upd) : (updBad1 last u || updBad2 u) = (!updOkR u || (sless u.name last || decide (u.name = last))) := by
  unfold updBad1 updBad2 updOkR within
  have hb : (!(decide (u.stage ≥ 1) && decide (u.stage ≤ 2))) = !(u.stage == 1 || u.stage == 2) := by
    congr 1; rw [Bool.eq_iff_iff]; simp; omega
  rw [hb]
  cases h1 : (u.stage == 1) with
  | true =>
    have h2 : (u.stage == 2) = false := by
      have e : u.stage = 1 := by simpa using h1
      rw [e]; rfl
    cases hz : sameV u.outcome Val.zero with
    | true =>
      have hk := okV_zero
      rw [← same_zero hz] at hk
      simp only [hk, bne]
      generalize nameOk u.name = a
      generalize (sless u.name last || decide (u.name = last)) = b
      generalize (okV u.value == 0) = c
      cases a <;> cases b <;> cases c <;> rfl
    | false =>
      simp only [bne]
      generalize nameOk u.name = a
      generalize (sless u.name last || decide (u.name = last)) = b
      generalize (okV u.value == 0) = c
      generalize (okV u.outcome == 0) = d
      cases a <;> cases b <;> cases c <;> cases d <;> rfl
  | false =>
    simp only [bne]
    generalize nameOk u.name = a
    generalize (sless u.name last || decide (u.name = last)) = b
    generalize (okV u.value == 0) = c
    generalize (okV u.outcome == 0) = d
    generalize (u.stage == 2) = e
    generalize sameV u.outcome Val.zero = f
    cases a <;> cases b <;> cases c <;> cases d <;> cases e <;> cases f <;> rfl

theorem name_none {s : ByteArray} (h : s = ⟨#[]⟩) : nameOk s = false := by subst h; rfl

def tim0 : Tim := ⟨⟨#[]⟩, 0⟩
def upd0 : Upd := ⟨⟨#[]⟩, Val.zero, 0, Val.zero⟩


end Go.AW

/- States: an update by its name; clones. -/
namespace Go.AW
open Go Go.Proofs

def idxI {α : Type} (p : α → Bool) : List α → Int → Int
  | [], _ => -1
  | x :: r, k => if p x = true then k else idxI p r (k + 1)

theorem upd_IndexFunc (g : Nat) (name : ByteArray) (p : Upd → Bool) (l : List Upd) (h : ∀ x, HCall PP g [fv x.enc, .ptr 0 0] [.cells [S1 name]] (B1 (p x)) [.cells [S1 name]]) :
    HCall PP 78 [FU l, .clo g [.ptr 0 0]] [.cells [S1 name]] (I64 (idxI p l 0)) [.cells [S1 name]] := by
  refine hcall_of TTok Tryz.func78 rfl rfl rfl rfl rfl (fun hfit => ?_)
  have hb : l.length * 152 ≤ 140737488355328 := fit_rows (show FitF _ from hfit.1)
  have hl : (l.map Upd.enc).length = l.length := List.length_map _
  (repeat' ((conv => whnf); first | refine bsplit (fun _ => ?_) (fun _ => ?_) | refine adraw ?_ | refine leave ?_ | refine And.intro (by first | assumption | omega | (simp; omega)) ?_)) <;> (try (conv => whnf))
  refine aloopK [0, 1, 7] (fun k : Nat => [(8, I64 k)]) (fun _ => _) (fun k => l.length - k) (fun k => k ≤ l.length ∧ idxI p l 0 = idxI p (l.drop k) k) 0 ⟨by omega, rfl⟩ ⟨rfl, trivial⟩ rfl ?_
  conv => whnf
  rintro k ⟨hk, hR⟩
  (repeat' ((conv => whnf); first | refine bsplit (fun _ => ?_) (fun _ => ?_) | refine adraw ?_ | refine leave ?_ | refine And.intro (by first | assumption | omega | (simp; omega)) ?_)) <;> (try (conv => whnf))
  · rename_i h1
    rw [hl] at h1
    have hk2 := ltx h1
    obtain ⟨x, hx⟩ := getx l hk2
    rw [drop_cons hx] at hR
    simp only [idxI] at hR
    refine aidx rfl hx ?_
    (repeat' ((conv => whnf); first | refine bsplit (fun _ => ?_) (fun _ => ?_) | refine adraw ?_ | refine leave ?_ | refine ahcall [0] (h x) ?_ | refine And.intro (by first | assumption | omega | (simp; omega)) ?_)) <;> (try (conv => whnf))
    · rename_i h2
      rw [h2, if_pos rfl] at hR
      rw [hR]
      exact ⟨[(4, I64 k)], _, .trunc [_] ⟨rfl, trivial⟩ rfl rfl rfl rfl, rfl, rfl⟩
    · rename_i h2
      rw [h2] at hR
      exact ⟨⟨k + 1, by omega, by rw [hR]; rfl⟩, by show l.length - (k + 1) < l.length - k; omega, (.trunc [_] (subE_append ⟨i64_inj (wrap_add hk2 (by omega)), trivial⟩ (by repeat' (first | exact trivial | refine ⟨rfl, ?_⟩))) rfl rfl rfl rfl)⟩
  · rename_i h1
    rw [hl] at h1
    have hk2 := gex hk h1
    rw [hk2, List.drop_length] at hR
    rw [hR]
    exact ⟨[(4, I64 (-1))], _, .same ⟨rfl, trivial⟩ rfl, rfl, rfl⟩

theorem state_Update1 (name : ByteArray) (u : Upd) : HCall PP 79 [fv u.enc, .ptr 0 0] [.cells [S1 name]] (B1 (decide (u.name = name))) [.cells [S1 name]] := by
  refine hcall_of TTok Tryz.func79 rfl rfl rfl rfl rfl (fun hfit => ?_)
  (repeat' ((conv => whnf); first | refine bsplit (fun _ => ?_) (fun _ => ?_) | refine adraw ?_ | refine leave ?_ | refine And.intro (by first | assumption | omega | (simp; omega)) ?_)) <;> (try (conv => whnf))
  exact ⟨[(3, B1 _)], _, .trunc [_] ⟨rfl, trivial⟩ rfl rfl rfl rfl, rfl, rfl⟩

theorem state_clone (u : Upd) : PCall PP 29 [fv u.enc] (fv u.enc) := by
  refine pcall_of TTok Tryz.func29 rfl rfl rfl rfl rfl rfl (fun _ => ?_)
  (repeat' ((conv => whnf); first | refine bsplit (fun _ => ?_) (fun _ => ?_) | refine adraw ?_ | refine leave ?_ | refine acall (value_Clone _) ?_ | refine dcall (value_Clone _) ?_ | refine GCall.sym _ (fun hg => PC.own (value_Clone _)) ?_ | refine And.intro (by first | assumption | omega | (simp; omega)) ?_)) <;> (try (conv => whnf))
  exact ⟨rfl⟩

def findU (name : ByteArray) : List Upd → Option Upd
  | [] => none
  | u :: r => if u.name = name then some u else findU name r
def updOf : Option Upd → Upd
  | some u => u
  | none => upd0
theorem idxI_find (name : ByteArray) : ∀ (l : List Upd) (k : Nat), (findU name l = none ∧ idxI (fun u => decide (u.name = name)) l k = -1) ∨ ∃ i u, l[i]? = some u ∧ findU name l = some u ∧ u.name = name ∧ idxI (fun u => decide (u.name = name)) l k = ((k + i : Nat) : Int)
  | [], k => .inl ⟨rfl, rfl⟩
  | x :: r, k => by
    by_cases h : x.name = name
    · right
      exact ⟨0, x, rfl, by simp [findU, h], h, by simp [idxI, h]⟩
    · rcases idxI_find name r (k + 1) with ⟨h1, h2⟩ | ⟨i, u, h1, h2, h3, h4⟩
      · left; exact ⟨by simp [findU, h, h1], by simp only [idxI, h, decide_false, Bool.false_eq_true, if_false]; exact_mod_cast h2⟩
      · right
        refine ⟨i + 1, u, by simpa using h1, by simp [findU, h, h2], h3, ?_⟩
        simp only [idxI, h, decide_false, Bool.false_eq_true, if_false]
        have h5 : idxI (fun u => decide (u.name = name)) r (((k + 1 : Nat) : Int)) = ((k + 1 + i : Nat) : Int) := h4
        push_cast at h5 ⊢
        rw [h5]; omega

set_option maxRecDepth 100000 in
theorem state_Update (s : St) (name : ByteArray) : PCall PP 44 [fv s.enc, S1 name] (.tup [fv (updOf (findU name s.updates)).enc, B1 (findU name s.updates).isSome]) := by
  refine pcall_of TTok Tryz.func44 rfl rfl rfl rfl rfl rfl (fun hfit => ?_)
  have hi := idxI_find name s.updates 0
  have hl : (s.updates.map Upd.enc).length = s.updates.length := List.length_map _
  (repeat' ((conv => whnf); first | refine bsplit (fun _ => ?_) (fun _ => ?_) | refine adraw ?_ | refine leave ?_ | refine ahcall [1] (upd_IndexFunc _ name _ s.updates (state_Update1 name)) ?_ | refine And.intro (by first | assumption | omega | (simp; omega)) ?_)) <;> (try (conv => whnf))
  · rename_i h
    rcases hi with ⟨h1, h2⟩ | ⟨i, u, h1, h2, h3, h4⟩
    · rw [h1]; exact ⟨rfl⟩
    · exfalso
      rw [show ((0 : Nat) : Int) = 0 from rfl] at h4
      rw [h4] at h; simp at h; omega
  · rename_i h
    rcases hi with ⟨h1, h2⟩ | ⟨i, u, h1, h2, h3, h4⟩
    · exfalso
      rw [show ((0 : Nat) : Int) = 0 from rfl] at h2
      rw [h2] at h; simp at h
    · rw [show ((0 : Nat) : Int) = 0 from rfl, Nat.zero_add] at h4
      rw [h4]
      refine aidx rfl h1 ?_
      (repeat' ((conv => whnf); first | refine bsplit (fun _ => ?_) (fun _ => ?_) | refine adraw ?_ | refine leave ?_ | refine acall (state_clone u) ?_ | refine dcall (state_clone u) ?_ | refine GCall.sym _ (fun hg => PC.own (state_clone u)) ?_ | refine And.intro (by first | assumption | omega | (simp; omega)) ?_)) <;> (try (conv => whnf))
      rw [h2]
      exact ⟨rfl⟩

end Go.AW

/- States: clones in new memory. -/
namespace Go.AW
open Go Go.Proofs

abbrev BT (l : List Tim) : Blk := .buf 78 2 24 (l.map Tim.enc)
abbrev BU (l : List Upd) : Blk := .buf 80 12 152 (l.map Upd.enc)

theorem timers_Clone (l : List Tim) : HCall PP 28 [FT l] [] (.buf 0) [BT l] := by
  refine hcall_of TTok Tryz.func28 rfl rfl rfl rfl rfl (fun hfit => ?_)
  have hb : l.length * 24 ≤ 140737488355328 := fit_rows (show FitF _ from hfit.1)
  have hl : (l.map Tim.enc).length = l.length := List.length_map _
  conv => whnf
  refine aop_eqnil TTok.tok rfl rfl (fun r hr => ?_)
  (repeat' ((conv => whnf); first | refine bsplit (fun _ => ?_) (fun _ => ?_) | refine adraw ?_ | refine leave ?_ | refine aop_make0 TTok.tok rfl rfl ?_ | refine And.intro (by first | assumption | omega | (simp; omega)) ?_)) <;> (try (conv => whnf))
  · rename_i h
    have h0 : l.map Tim.enc = [] := hr h
    exact ⟨[(2, .buf 0)], _, .thaw 2 78 2 24 rfl (.same ⟨rfl, trivial⟩ (by
      show [BT l] = [.buf 78 2 24 []]
      rw [BT, h0])), rfl, rfl⟩
  · exact ⟨[(2, .buf 0)], _, .move 1 0 rfl (.trunc [.dead] ⟨rfl, trivial⟩ rfl rfl rfl rfl), rfl, rfl⟩

/-- A state's cells, its lists in blocks of the call's own. -/
def stV (s : St) (i j : Nat) : List V := [I64 s.run, I64 s.status, I64 s.count, I64 s.time, I64 s.deadline, I64 s.from_, I64 s.signals, S1 s.type,
  I64 s.input.kind, I64 s.input.int, .fr (.sc (.int .u64 s.input.bits)), S1 s.input.text, .fr (.sl 5 64 (Val.encs s.input.list)),
  I64 s.policy.first, .fr (.sc (.int .u64 s.policy.coef)), I64 s.policy.most, I64 s.task.state, I64 s.task.attempt, I64 s.task.due, I64 s.task.event, I64 s.task.seen, B1 s.fresh, B1 s.cancel,
  .buf i, .buf j, I64 s.result.kind, I64 s.result.int, .fr (.sc (.int .u64 s.result.bits)), S1 s.result.text, .fr (.sl 5 64 (Val.encs s.result.list)), S1 s.reason]

set_option maxRecDepth 100000 in
theorem state_CloneH (s : St) : HCall PP 16 [fv s.enc] [] (.agg (stV s 2 3)) [.cells (stV s 2 3), .cells (stV s 2 3), BT s.timers, BU s.updates] := by
  refine hcall_of TTok Tryz.func16 rfl rfl rfl rfl rfl (fun hfit => ?_)
  have hf0 : FitV (fv s.enc) := hfit.1
  have hb := (st_fit (s := s) (fitV_fv (l := s.enc) hf0)).2
  have hl : (s.updates.map Upd.enc).length = s.updates.length := List.length_map _
  (repeat' ((conv => whnf); first | refine bsplit (fun _ => ?_) (fun _ => ?_) | refine adraw ?_ | refine leave ?_ | refine acall (value_Clone _) ?_ | refine dcall (value_Clone _) ?_ | refine GCall.sym _ (fun hg => PC.own (value_Clone _)) ?_ | refine ahcall [] (timers_Clone s.timers) ?_ | refine And.intro (by first | assumption | omega | (simp; omega)) ?_)) <;> (try (conv => whnf))
  refine aloopV _ _ (.thaw 3 80 12 152 rfl .refl) ?_
  refine aloopK [1, 2, 19, 20] (fun k : Nat => [(3, .buf 3), (21, I64 k)]) (fun k => [_, _, _, .buf 80 12 152 ((s.updates.map Upd.enc).take k)]) (fun k => s.updates.length - k) (fun k => k ≤ s.updates.length) 0 (by omega) ⟨rfl, rfl, trivial⟩ rfl ?_
  conv => whnf
  intro k hk
  (repeat' ((conv => whnf); first | refine bsplit (fun _ => ?_) (fun _ => ?_) | refine adraw ?_ | refine leave ?_ | refine And.intro (by first | assumption | omega | (simp; omega)) ?_)) <;> (try (conv => whnf))
  · rename_i h1
    rw [hl] at h1
    have hk2 := ltx h1
    obtain ⟨x, hx⟩ := getx s.updates hk2
    have ht : (s.updates.map Upd.enc).take (k + 1) = (s.updates.map Upd.enc).take k ++ [x.enc] := take_snoc (by rw [List.getElem?_map, hx]; rfl)
    refine aidx rfl hx ?_
    (repeat' ((conv => whnf); first | refine bsplit (fun _ => ?_) (fun _ => ?_) | refine adraw ?_ | refine leave ?_ | refine acall (state_clone x) ?_ | refine dcall (state_clone x) ?_ | refine GCall.sym _ (fun hg => PC.own (state_clone x)) ?_ | refine And.intro (by first | assumption | omega | (simp; omega)) ?_)) <;> (try (conv => whnf))
    exact ⟨⟨k + 1, by omega⟩, by show s.updates.length - (k + 1) < s.updates.length - k; omega, .move 5 3 rfl (.trunc [_, _] (subE_append ⟨rfl, i64_inj (wrap_add hk2 (by omega)), trivial⟩ (by repeat' (first | exact trivial | refine ⟨rfl, ?_⟩))) (by rw [ht]; rfl) rfl rfl rfl)⟩
  · rename_i h1
    rw [hl] at h1
    have hk2 := gex hk h1
    have e : (s.updates.map Upd.enc).take k = s.updates.map Upd.enc := List.take_of_length_le (by rw [hl]; omega)
    rw [e]
    (repeat' ((conv => whnf); first | refine bsplit (fun _ => ?_) (fun _ => ?_) | refine adraw ?_ | refine leave ?_ | refine And.intro (by first | assumption | omega | (simp; omega)) ?_)) <;> (try (conv => whnf))
    exact ⟨[(2, .ptr 1 0)], _, .same ⟨rfl, trivial⟩ rfl, rfl, rfl⟩

theorem state_Clone (s : St) : PCall PP 16 [fv s.enc] (fv s.enc) := pcall_of_hcall (state_CloneH s) rfl

end Go.AW

/- States: what an event makes of one, but for timers and updates. -/
namespace Go.AW
open Go Go.Proofs

def maySt (s : St) (e : Ev) : Int :=
  if (evOk e != 0) = true then 1 else if decide (s.count ≥ 120) = true then 7 else if (e.kind == 1 && s.count != 0) = true then 20
  else if (e.kind != 1 && (s.count == 0 || !(s.status == 1))) = true then 20 else if decide (e.time < s.time) = true then 20 else 0
theorem state_may (s : St) (e : Ev) : PCall PP 146 [fv s.enc, fv e.enc] (I64 (maySt s e)) := by
  refine pcall_of TTok Tryz.func146 rfl rfl rfl rfl rfl rfl (fun _ => ?_)
  (repeat' ((conv => whnf); first | refine bsplit (fun _ => ?_) (fun _ => ?_) | refine adraw ?_ | refine leave ?_ | refine acall (event_Check e) ?_ | refine dcall (event_Check e) ?_ | refine GCall.sym _ (fun hg => PC.own (event_Check e)) ?_ | refine acall (state_Running s) ?_ | refine dcall (state_Running s) ?_ | refine GCall.sym _ (fun hg => PC.own (state_Running s)) ?_ | refine And.intro (by first | assumption | omega | (simp; omega)) ?_)) <;> (try (conv => whnf))
  all_goals (refine ⟨?_⟩; (try simp only [Bool.cond_false_right, Bool.cond_true_left] at *) <;> first | (simp only [maySt, *, if_true, Bool.false_eq_true, if_false]; done) | (simp_all [Bool.cond_eq_ite, maySt]; done) | (simp_all [Bool.cond_eq_ite, maySt]; grind))

theorem state_so (b : Bool) : PCall PP 184 [B1 b] (I64 (if b = true then 0 else 20)) := by
  refine pcall_of TTok Tryz.func184 rfl rfl rfl rfl rfl rfl (fun _ => ?_)
  (repeat' ((conv => whnf); first | refine bsplit (fun _ => ?_) (fun _ => ?_) | refine adraw ?_ | refine leave ?_ | refine And.intro (by first | assumption | omega | (simp; omega)) ?_)) <;> (try (conv => whnf))
  all_goals (rename_i h; subst h; exact ⟨rfl⟩)

abbrev HS (s : St) : Heap := [.cells (stV s 1 2), BT s.timers, BU s.updates]

def startedSt (s : St) (e : Ev) : St := { s with status := 1, type := e.name, input := e.value, deadline := e.due, policy := e.policy, fresh := true }
set_option maxRecDepth 100000 in
theorem state_started (s : St) (e : Ev) : HCall PP 161 [.ptr 0 0, fv e.enc] (HS s) (I64 0) (HS (startedSt s e)) := by
  refine hcall_of TTok Tryz.func161 rfl rfl rfl rfl rfl (fun _ => ?_)
  (repeat' ((conv => whnf); first | refine bsplit (fun _ => ?_) (fun _ => ?_) | refine adraw ?_ | refine leave ?_ | refine And.intro (by first | assumption | omega | (simp; omega)) ?_)) <;> (try (conv => whnf))
  exact ⟨[(4, I64 0)], _, .trunc [_] ⟨rfl, trivial⟩ rfl rfl rfl rfl, rfl, rfl⟩

def scheduledSt (s : St) (e : Ev) : St := if (s.task.state != 0) = true then s else { s with task := ⟨1, e.num, e.due, 0, 0⟩ }
theorem state_scheduled (s : St) (e : Ev) : HCall PP 162 [.ptr 0 0, fv e.enc] (HS s) (I64 (if (s.task.state != 0) = true then 20 else 0)) (HS (scheduledSt s e)) := by
  refine hcall_of TTok Tryz.func162 rfl rfl rfl rfl rfl (fun _ => ?_)
  unfold scheduledSt
  (repeat' ((conv => whnf); first | refine bsplit (fun _ => ?_) (fun _ => ?_) | refine adraw ?_ | refine leave ?_ | refine And.intro (by first | assumption | omega | (simp; omega)) ?_)) <;> (try (conv => whnf))
  · rename_i h
    rw [h]
    exact ⟨[(4, I64 20)], _, .trunc [_] ⟨rfl, trivial⟩ rfl rfl rfl rfl, rfl, rfl⟩
  · rename_i h
    rw [h]
    exact ⟨[(4, I64 0)], _, .trunc [_] ⟨rfl, trivial⟩ rfl rfl rfl rfl, rfl, rfl⟩

def takenSt (s : St) (e : Ev) : St := if (s.task.state != 1) = true then s else { s with task := ⟨2, s.task.attempt, e.due, IntKind.i64.wrap (s.count + 1), IntKind.i64.wrap (s.count + 1)⟩, fresh := false }
theorem state_taken (s : St) (e : Ev) : HCall PP 163 [.ptr 0 0, fv e.enc] (HS s) (I64 (if (s.task.state != 1) = true then 20 else 0)) (HS (takenSt s e)) := by
  refine hcall_of TTok Tryz.func163 rfl rfl rfl rfl rfl (fun _ => ?_)
  unfold takenSt
  (repeat' ((conv => whnf); first | refine bsplit (fun _ => ?_) (fun _ => ?_) | refine adraw ?_ | refine leave ?_ | refine And.intro (by first | assumption | omega | (simp; omega)) ?_)) <;> (try (conv => whnf))
  · rename_i h
    rw [h]
    exact ⟨[(4, I64 20)], _, .trunc [_] ⟨rfl, trivial⟩ rfl rfl rfl rfl, rfl, rfl⟩
  · rename_i h
    rw [h]
    exact ⟨[(4, I64 0)], _, .trunc [_] ⟨rfl, trivial⟩ rfl rfl rfl rfl, rfl, rfl⟩

def goneBad (s : St) (e : Ev) : Bool := s.task.state != 2 || (e.kind == 6 && decide (e.time < s.task.due))
def goneSt (s : St) (e : Ev) : St := if goneBad s e = true then s else if (e.kind == 5 && decide (e.num > 0)) = true then { s with task := ⟨0, 0, 0, 0, 0⟩, from_ := e.num } else { s with task := ⟨0, 0, 0, 0, 0⟩ }
theorem state_gone (s : St) (e : Ev) : HCall PP 164 [.ptr 0 0, fv e.enc] (HS s) (I64 (if goneBad s e = true then 20 else 0)) (HS (goneSt s e)) := by
  refine hcall_of TTok Tryz.func164 rfl rfl rfl rfl rfl (fun _ => ?_)
  unfold goneSt
  (repeat' ((conv => whnf); first | refine bsplit (fun _ => ?_) (fun _ => ?_) | refine adraw ?_ | refine leave ?_ | refine And.intro (by first | assumption | omega | (simp; omega)) ?_)) <;> (try (conv => whnf))
  · rename_i h
    simp only [Bool.cond_true_left, Bool.cond_false_right] at h
    have h' : goneBad s e = true := h
    rw [h']
    exact ⟨[(4, I64 20)], _, .trunc [_] ⟨rfl, trivial⟩ rfl rfl rfl rfl, rfl, rfl⟩
  · rename_i h h2
    simp only [Bool.cond_true_left, Bool.cond_false_right] at h h2
    have h' : goneBad s e = false := h
    rw [h', h2]
    exact ⟨[(4, I64 0)], _, .trunc [_] ⟨rfl, trivial⟩ rfl rfl rfl rfl, rfl, rfl⟩
  · rename_i h h2
    simp only [Bool.cond_true_left, Bool.cond_false_right] at h h2
    have h' : goneBad s e = false := h
    rw [h', h2]
    exact ⟨[(4, I64 0)], _, .trunc [_] ⟨rfl, trivial⟩ rfl rfl rfl rfl, rfl, rfl⟩

def toldSt (s : St) (e : Ev) : St := if (e.kind == 8) = true then (if s.cancel = true then s else { s with cancel := true, fresh := true }) else { s with signals := IntKind.i64.wrap (s.signals + 1), fresh := true }
theorem state_told (s : St) (e : Ev) : HCall PP 165 [.ptr 0 0, fv e.enc] (HS s) (I64 (if (e.kind == 8 && s.cancel) = true then 20 else 0)) (HS (toldSt s e)) := by
  refine hcall_of TTok Tryz.func165 rfl rfl rfl rfl rfl (fun _ => ?_)
  unfold toldSt
  (repeat' ((conv => whnf); first | refine bsplit (fun _ => ?_) (fun _ => ?_) | refine adraw ?_ | refine leave ?_ | refine And.intro (by first | assumption | omega | (simp; omega)) ?_)) <;> (try (conv => whnf))
  · rename_i h h2
    rw [h, h2]
    exact ⟨[(4, I64 20)], _, .trunc [_] ⟨rfl, trivial⟩ (by simp only [if_true]; rfl) rfl rfl rfl, rfl, rfl⟩
  · rename_i h h2
    rw [h, h2]
    exact ⟨[(4, I64 0)], _, .trunc [_] ⟨rfl, trivial⟩ rfl rfl rfl rfl, rfl, rfl⟩
  · rename_i h
    rw [h]
    exact ⟨[(4, I64 0)], _, .trunc [_] ⟨rfl, trivial⟩ rfl rfl rfl rfl, rfl, rfl⟩

end Go.AW

