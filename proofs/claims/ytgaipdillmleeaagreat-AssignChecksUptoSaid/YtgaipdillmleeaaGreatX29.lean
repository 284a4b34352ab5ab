/- Joined by my own program, in build order: Vt, Vi, Vj, Vk, Vl, Vm, Vn, Vo, Vp, Vr, Vq, Bulk, Top, Vmap, Vnm, AP, Clone, Frz, Veff, Vnk, Vnil, Frzb, Rwb, OwnE. -/
import Derived.Test.YtgaipdillmleeaaGreatX28
import Derived.KernelRfl
import Derived.Shelf.Abstract
import Derived.Test.YtgaipdillmleeaaGreatX1
import Derived.Test.YtgaipdillmleeaaGreatRows
import Derived.Test.YtgaipdillmleeaaGreatX2
import Derived.ProofKit
import Derived.OpenShut
import Derived.HandedShaped
import Derived.Deep.DeepHandedRow
import Derived.LaidLaws
import Derived.Test.YtgaipdillmleeaaGreatX5
import Derived.Test.YtgaipdillmleeaaGreatX4
import Derived.Maps.AppendAt
set_option linter.unusedVariables false
set_option linter.unusedSimpArgs false
section
namespace Go.Proofs.YtgaipdillmleeaaGreat
namespace V
open Go.RowKit
def lists : Lists where
 ty := [(2, 1, false), (3, 1, false), (4, 1, false), (5, 1, false), (9, 1, false), (12, 1, false), (13, 2, true), (17, 1, false), (18, 1, true), (20, 1, false), (21, 1, false), (22, 1, false), (23, 1, false), (25, 2, true), (27, 1, false), (30, 1, false), (33, 1, false), (35, 4, true), (37, 7, true), (39, 1, false), (40, 1, false), (42, 4, true), (44, 4, true), (46, 2, true), (47, 1, false), (48, 1, false), (53, 1, false), (56, 1, false), (58, 3, true), (60, 1, false), (62, 1, false), (64, 5, true), (66, 1, false), (77, 1, false), (93, 1, false), (99, 1, false), (101, 1, false), (108, 1, false), (120, 1, false), (125, 1, false), (135, 1, false), (139, 1, false), (140, 1, false), (143, 1, false), (145, 1, false), (151, 1, false), (174, 6, true), (178, 1, false)]
 zero := [(2, [.int .i64 0]), (3, [.int .i64 0]), (4, [.bool false]), (5, [.int .u8 0]), (9, [.string ⟨#[]⟩]), (12, [.int .u64 0]), (13, [.string ⟨#[]⟩, .int .u64 0]), (17, [.pointer none]), (18, [.pointer none]), (20, [.nilIface]), (21, [.int .i32 0]), (22, [.slice none 0 0]), (23, [.slice none 0 0]), (25, [.slice none 0 0, .slice none 0 0]), (27, [.int .i64 0]), (30, [.slice none 0 0]), (33, [.slice none 0 0]), (35, [.int .i64 0, .int .i64 0, .string ⟨#[]⟩, .slice none 0 0]), (37, [.int .i64 0, .int .i64 0, .string ⟨#[]⟩, .string ⟨#[]⟩, .slice none 0 0, .slice none 0 0, .slice none 0 0]), (39, [.slice none 0 0]), (40, [.slice none 0 0]), (42, [.string ⟨#[]⟩, .string ⟨#[]⟩, .slice none 0 0, .slice none 0 0]), (44, [.string ⟨#[]⟩, .string ⟨#[]⟩, .slice none 0 0, .slice none 0 0]), (46, [.string ⟨#[]⟩, .string ⟨#[]⟩]), (47, [.map none]), (48, [.map none]), (53, [.nilFunc]), (56, [.slice none 0 0]), (58, [.slice none 0 0, .slice none 0 0, .slice none 0 0]), (60, [.pointer none]), (62, [.pointer none]), (64, [.slice none 0 0, .slice none 0 0, .string ⟨#[]⟩, .string ⟨#[]⟩, .slice none 0 0]), (66, [.nilFunc]), (77, [.nilFunc]), (93, [.nilFunc]), (99, [.int .u64 0]), (101, [.nilFunc]), (108, [.nilFunc]), (120, [.slice none 0 0]), (125, [.nilFunc]), (135, [.int .u32 0]), (139, [.nilFunc]), (140, [.nilFunc]), (143, [.nilFunc]), (145, [.nilFunc]), (151, [.nilFunc]), (174, [.int .i64 0, .int .i64 0, .bool false, .int .i64 0, .int .i64 0, .string ⟨#[]⟩]), (178, [.slice none 0 0])]
 elem := [(22, 42, 4), (23, 37, 7), (30, 9, 1), (33, 35, 4), (39, 46, 2), (40, 44, 4), (56, 3, 1), (120, 33, 1), (178, 39, 1)]
 off := [((13, 0), 0, 1, false), ((13, 1), 1, 1, false), ((18, 0), 0, 1, false), ((25, 0), 0, 1, false), ((25, 1), 1, 1, false), ((35, 0), 0, 1, false), ((35, 1), 1, 1, false), ((35, 2), 2, 1, false), ((35, 3), 3, 1, false), ((37, 0), 0, 1, false), ((37, 1), 1, 1, false), ((37, 2), 2, 1, false), ((37, 3), 3, 1, false), ((37, 4), 4, 1, false), ((37, 5), 5, 1, false), ((37, 6), 6, 1, false), ((42, 0), 0, 1, false), ((42, 1), 1, 1, false), ((42, 2), 2, 1, false), ((42, 3), 3, 1, false), ((44, 0), 0, 1, false), ((44, 1), 1, 1, false), ((44, 2), 2, 1, false), ((44, 3), 3, 1, false), ((46, 0), 0, 1, false), ((46, 1), 1, 1, false), ((58, 0), 0, 1, false), ((58, 1), 1, 1, false), ((58, 2), 2, 1, false), ((64, 0), 0, 2, true), ((64, 1), 2, 1, false), ((64, 2), 3, 1, false), ((64, 3), 4, 1, false), ((174, 0), 0, 1, false), ((174, 1), 1, 1, false), ((174, 2), 2, 1, false), ((174, 3), 3, 1, false), ((174, 4), 4, 1, false), ((174, 5), 5, 1, false)]
 bool := [4]
 fields := [(13, [(0, 1), (1, 1)]), (18, [(0, 1)]), (25, [(0, 1), (1, 1)]), (35, [(0, 1), (1, 1), (2, 1), (3, 1)]), (37, [(0, 1), (1, 1), (2, 1), (3, 1), (4, 1), (5, 1), (6, 1)]), (42, [(0, 1), (1, 1), (2, 1), (3, 1)]), (44, [(0, 1), (1, 1), (2, 1), (3, 1)]), (46, [(0, 1), (1, 1)]), (58, [(0, 1), (1, 1), (2, 1)]), (64, [(0, 2), (2, 1), (3, 1), (4, 1)]), (174, [(0, 1), (1, 1), (2, 1), (3, 1), (4, 1), (5, 1)])]
 bytes := [(2, 8), (3, 8), (4, 1), (5, 1), (9, 16), (12, 8), (13, 24), (17, 8), (18, 8), (20, 16), (21, 4), (22, 24), (23, 24), (25, 48), (27, 8), (30, 24), (33, 24), (35, 56), (37, 120), (39, 24), (40, 24), (42, 80), (44, 80), (46, 32), (47, 8), (48, 8), (53, 8), (56, 24), (58, 72), (60, 8), (62, 8), (64, 104), (66, 8), (77, 8), (93, 8), (99, 8), (101, 8), (108, 8), (120, 24), (125, 8), (135, 4), (139, 8), (140, 8), (143, 8), (145, 8), (151, 8), (174, 56), (178, 24)]
 nilk := [(17, 0), (20, 4), (22, 1), (23, 1), (30, 1), (33, 1), (39, 1), (40, 1), (47, 2), (48, 2), (53, 3), (56, 1), (60, 0), (62, 0), (66, 3), (77, 3), (93, 3), (101, 3), (108, 3), (120, 1), (125, 3), (139, 3), (140, 3), (143, 3), (145, 3), (151, 3), (178, 1)]
 int := [(2, .i64), (3, .i64), (5, .u8), (12, .u64), (21, .i32), (27, .i64), (99, .u64), (135, .u32)]
 map := [(47, 9, 3), (48, 9, 3)]
 str := [9]
 one := [(2, .int .i64 0), (3, .int .i64 0), (4, .bool false), (5, .int .u8 0), (9, .string ⟨#[]⟩), (12, .int .u64 0), (17, .pointer none), (20, .nilIface), (21, .int .i32 0), (22, .slice none 0 0), (23, .slice none 0 0), (27, .int .i64 0), (30, .slice none 0 0), (33, .slice none 0 0), (39, .slice none 0 0), (40, .slice none 0 0), (47, .map none), (48, .map none), (53, .nilFunc), (56, .slice none 0 0), (60, .pointer none), (62, .pointer none), (66, .nilFunc), (77, .nilFunc), (93, .nilFunc), (99, .int .u64 0), (101, .nilFunc), (108, .nilFunc), (120, .slice none 0 0), (125, .nilFunc), (135, .int .u32 0), (139, .nilFunc), (140, .nilFunc), (143, .nilFunc), (145, .nilFunc), (151, .nilFunc), (178, .slice none 0 0)]
 seq := [(46, [(9, 0), (9, 1)]), (174, [(3, 0), (3, 1), (4, 2), (2, 3), (3, 4), (9, 5)])]
 eff := [64, 12, 26, 52, 53, 87, 55, 90, 54, 89, 14, 13, 51, 86, 85, 83]
def tab : Tab := lists.tab
theorem ah : tab.Ok Tryz.prog :=
 Lists.ok (by kernel_rfl) (⟨⟨by kernel_rfl, rfl⟩, ⟨⟨by kernel_rfl, rfl⟩, ⟨⟨by kernel_rfl, rfl⟩, ⟨⟨by kernel_rfl, rfl⟩, ⟨⟨by kernel_rfl, rfl⟩, ⟨⟨by kernel_rfl, rfl⟩, ⟨⟨by kernel_rfl, rfl⟩, ⟨⟨by kernel_rfl, rfl⟩, ⟨⟨by kernel_rfl, rfl⟩, ⟨⟨by kernel_rfl, rfl⟩, ⟨⟨by kernel_rfl, rfl⟩, ⟨⟨by kernel_rfl, rfl⟩, ⟨⟨by kernel_rfl, rfl⟩, ⟨⟨by kernel_rfl, rfl⟩, ⟨⟨by kernel_rfl, rfl⟩, ⟨⟨by kernel_rfl, rfl⟩, ⟨⟨by kernel_rfl, rfl⟩, ⟨⟨by kernel_rfl, rfl⟩, ⟨⟨by kernel_rfl, rfl⟩, ⟨⟨by kernel_rfl, rfl⟩, ⟨⟨by kernel_rfl, rfl⟩, ⟨⟨by kernel_rfl, rfl⟩, ⟨⟨by kernel_rfl, rfl⟩, ⟨⟨by kernel_rfl, rfl⟩, ⟨⟨by kernel_rfl, rfl⟩, ⟨⟨by kernel_rfl, rfl⟩, ⟨⟨by kernel_rfl, rfl⟩, ⟨⟨by kernel_rfl, rfl⟩, ⟨⟨by kernel_rfl, rfl⟩, ⟨⟨by kernel_rfl, rfl⟩, ⟨⟨by kernel_rfl, rfl⟩, ⟨⟨by kernel_rfl, rfl⟩, ⟨⟨by kernel_rfl, rfl⟩, ⟨⟨by kernel_rfl, rfl⟩, ⟨⟨by kernel_rfl, rfl⟩, ⟨⟨by kernel_rfl, rfl⟩, ⟨⟨by kernel_rfl, rfl⟩, ⟨⟨by kernel_rfl, rfl⟩, ⟨⟨by kernel_rfl, rfl⟩, ⟨⟨by kernel_rfl, rfl⟩, ⟨⟨by kernel_rfl, rfl⟩, ⟨⟨by kernel_rfl, rfl⟩, ⟨⟨by kernel_rfl, rfl⟩, ⟨⟨by kernel_rfl, rfl⟩, ⟨⟨by kernel_rfl, rfl⟩, ⟨⟨by kernel_rfl, rfl⟩, ⟨⟨by kernel_rfl, rfl⟩, ⟨⟨by kernel_rfl, rfl⟩, trivial⟩⟩⟩⟩⟩⟩⟩⟩⟩⟩⟩⟩⟩⟩⟩⟩⟩⟩⟩⟩⟩⟩⟩⟩⟩⟩⟩⟩⟩⟩⟩⟩⟩⟩⟩⟩⟩⟩⟩⟩⟩⟩⟩⟩⟩⟩⟩⟩) (by kernel_rfl) (by kernel_rfl) (by kernel_rfl) (by kernel_rfl) (by kernel_rfl) (by kernel_rfl) (by kernel_rfl) (by kernel_rfl) (by kernel_rfl) (⟨⟨by kernel_rfl, rfl⟩, ⟨⟨by kernel_rfl, rfl⟩, ⟨⟨by kernel_rfl, rfl⟩, ⟨⟨by kernel_rfl, rfl⟩, ⟨⟨by kernel_rfl, rfl⟩, ⟨⟨by kernel_rfl, rfl⟩, ⟨⟨by kernel_rfl, rfl⟩, ⟨⟨by kernel_rfl, rfl⟩, ⟨⟨by kernel_rfl, rfl⟩, ⟨⟨by kernel_rfl, rfl⟩, ⟨⟨by kernel_rfl, rfl⟩, ⟨⟨by kernel_rfl, rfl⟩, ⟨⟨by kernel_rfl, rfl⟩, ⟨⟨by kernel_rfl, rfl⟩, ⟨⟨by kernel_rfl, rfl⟩, ⟨⟨by kernel_rfl, rfl⟩, ⟨⟨by kernel_rfl, rfl⟩, ⟨⟨by kernel_rfl, rfl⟩, ⟨⟨by kernel_rfl, rfl⟩, ⟨⟨by kernel_rfl, rfl⟩, ⟨⟨by kernel_rfl, rfl⟩, ⟨⟨by kernel_rfl, rfl⟩, ⟨⟨by kernel_rfl, rfl⟩, ⟨⟨by kernel_rfl, rfl⟩, ⟨⟨by kernel_rfl, rfl⟩, ⟨⟨by kernel_rfl, rfl⟩, ⟨⟨by kernel_rfl, rfl⟩, ⟨⟨by kernel_rfl, rfl⟩, ⟨⟨by kernel_rfl, rfl⟩, ⟨⟨by kernel_rfl, rfl⟩, ⟨⟨by kernel_rfl, rfl⟩, ⟨⟨by kernel_rfl, rfl⟩, ⟨⟨by kernel_rfl, rfl⟩, ⟨⟨by kernel_rfl, rfl⟩, ⟨⟨by kernel_rfl, rfl⟩, ⟨⟨by kernel_rfl, rfl⟩, ⟨⟨by kernel_rfl, rfl⟩, trivial⟩⟩⟩⟩⟩⟩⟩⟩⟩⟩⟩⟩⟩⟩⟩⟩⟩⟩⟩⟩⟩⟩⟩⟩⟩⟩⟩⟩⟩⟩⟩⟩⟩⟩⟩⟩⟩) (by kernel_rfl)
set_option maxRecDepth 10000 in
theorem tabs : tab.ty 2 = some (1, false) ∧ tab.ty 3 = some (1, false) ∧ tab.ty 4 = some (1, false) ∧ tab.ty 5 = some (1, false) ∧ tab.ty 9 = some (1, false) ∧ tab.ty 12 = some (1, false) ∧ tab.ty 13 = some (2, true) ∧ tab.ty 17 = some (1, false) ∧ tab.ty 18 = some (1, true) ∧ tab.ty 20 = some (1, false) ∧ tab.ty 21 = some (1, false) ∧ tab.ty 22 = some (1, false) ∧ tab.ty 23 = some (1, false) ∧ tab.ty 25 = some (2, true) ∧ tab.ty 27 = some (1, false) ∧ tab.ty 30 = some (1, false) ∧ tab.ty 33 = some (1, false) ∧ tab.ty 35 = some (4, true) ∧ tab.ty 37 = some (7, true) ∧ tab.ty 39 = some (1, false) ∧ tab.ty 40 = some (1, false) ∧ tab.ty 42 = some (4, true) ∧ tab.ty 44 = some (4, true) ∧ tab.ty 46 = some (2, true) ∧ tab.ty 47 = some (1, false) ∧ tab.ty 48 = some (1, false) ∧ tab.ty 53 = some (1, false) ∧ tab.ty 56 = some (1, false) ∧ tab.ty 58 = some (3, true) ∧ tab.ty 60 = some (1, false) ∧ tab.ty 62 = some (1, false) ∧ tab.ty 64 = some (5, true) ∧ tab.ty 66 = some (1, false) ∧ tab.ty 77 = some (1, false) ∧ tab.ty 93 = some (1, false) ∧ tab.ty 99 = some (1, false) ∧ tab.ty 101 = some (1, false) ∧ tab.ty 108 = some (1, false) ∧ tab.ty 120 = some (1, false) ∧ tab.ty 125 = some (1, false) ∧ tab.ty 135 = some (1, false) ∧ tab.ty 139 = some (1, false) ∧ tab.ty 140 = some (1, false) ∧ tab.ty 143 = some (1, false) ∧ tab.ty 145 = some (1, false) ∧ tab.ty 151 = some (1, false) ∧ tab.ty 174 = some (6, true) ∧ tab.ty 178 = some (1, false) ∧ tab.elem 22 = some (42, 4) ∧ tab.elem 23 = some (37, 7) ∧ tab.elem 30 = some (9, 1) ∧ tab.elem 33 = some (35, 4) ∧ tab.elem 39 = some (46, 2) ∧ tab.elem 40 = some (44, 4) ∧ tab.elem 56 = some (3, 1) ∧ tab.elem 120 = some (33, 1) ∧ tab.elem 178 = some (39, 1) ∧ tab.off 13 0 = some (0, 1, false) ∧ tab.off 13 1 = some (1, 1, false) ∧ tab.off 18 0 = some (0, 1, false) ∧ tab.off 25 0 = some (0, 1, false) ∧ tab.off 25 1 = some (1, 1, false) ∧ tab.off 35 0 = some (0, 1, false) ∧ tab.off 35 1 = some (1, 1, false) ∧ tab.off 35 2 = some (2, 1, false) ∧ tab.off 35 3 = some (3, 1, false) ∧ tab.off 37 0 = some (0, 1, false) ∧ tab.off 37 1 = some (1, 1, false) ∧ tab.off 37 2 = some (2, 1, false) ∧ tab.off 37 3 = some (3, 1, false) ∧ tab.off 37 4 = some (4, 1, false) ∧ tab.off 37 5 = some (5, 1, false) ∧ tab.off 37 6 = some (6, 1, false) ∧ tab.off 42 0 = some (0, 1, false) ∧ tab.off 42 1 = some (1, 1, false) ∧ tab.off 42 2 = some (2, 1, false) ∧ tab.off 42 3 = some (3, 1, false) ∧ tab.off 44 0 = some (0, 1, false) ∧ tab.off 44 1 = some (1, 1, false) ∧ tab.off 44 2 = some (2, 1, false) ∧ tab.off 44 3 = some (3, 1, false) ∧ tab.off 46 0 = some (0, 1, false) ∧ tab.off 46 1 = some (1, 1, false) ∧ tab.off 58 0 = some (0, 1, false) ∧ tab.off 58 1 = some (1, 1, false) ∧ tab.off 58 2 = some (2, 1, false) ∧ tab.off 64 0 = some (0, 2, true) ∧ tab.off 64 1 = some (2, 1, false) ∧ tab.off 64 2 = some (3, 1, false) ∧ tab.off 64 3 = some (4, 1, false) ∧ tab.off 174 0 = some (0, 1, false) ∧ tab.off 174 1 = some (1, 1, false) ∧ tab.off 174 2 = some (2, 1, false) ∧ tab.off 174 3 = some (3, 1, false) ∧ tab.off 174 4 = some (4, 1, false) ∧ tab.off 174 5 = some (5, 1, false) ∧ tab.bytes 3 = some 8 ∧ tab.bytes 9 = some 16 ∧ tab.bytes 33 = some 24 ∧ tab.bytes 35 = some 56 ∧ tab.bytes 37 = some 120 ∧ tab.bytes 39 = some 24 ∧ tab.bytes 42 = some 80 ∧ tab.bytes 44 = some 80 ∧ tab.bytes 46 = some 32 ∧ tab.fields 13 = some [(0, 1), (1, 1)] ∧ tab.fields 18 = some [(0, 1)] ∧ tab.fields 25 = some [(0, 1), (1, 1)] ∧ tab.fields 35 = some [(0, 1), (1, 1), (2, 1), (3, 1)] ∧ tab.fields 37 = some [(0, 1), (1, 1), (2, 1), (3, 1), (4, 1), (5, 1), (6, 1)] ∧ tab.fields 42 = some [(0, 1), (1, 1), (2, 1), (3, 1)] ∧ tab.fields 44 = some [(0, 1), (1, 1), (2, 1), (3, 1)] ∧ tab.fields 46 = some [(0, 1), (1, 1)] ∧ tab.fields 58 = some [(0, 1), (1, 1), (2, 1)] ∧ tab.fields 64 = some [(0, 2), (2, 1), (3, 1), (4, 1)] ∧ tab.fields 174 = some [(0, 1), (1, 1), (2, 1), (3, 1), (4, 1), (5, 1)] ∧ tab.zero 2 = some [.int .i64 0] ∧ tab.zero 3 = some [.int .i64 0] ∧ tab.zero 4 = some [.bool false] ∧ tab.zero 5 = some [.int .u8 0] ∧ tab.zero 9 = some [.string ⟨#[]⟩] ∧ tab.zero 12 = some [.int .u64 0] ∧ tab.zero 13 = some [.string ⟨#[]⟩, .int .u64 0] ∧ tab.zero 17 = some [.pointer none] ∧ tab.zero 18 = some [.pointer none] ∧ tab.zero 20 = some [.nilIface] ∧ tab.zero 21 = some [.int .i32 0] ∧ tab.zero 22 = some [.slice none 0 0] ∧ tab.zero 23 = some [.slice none 0 0] ∧ tab.zero 25 = some [.slice none 0 0, .slice none 0 0] ∧ tab.zero 27 = some [.int .i64 0] ∧ tab.zero 30 = some [.slice none 0 0] ∧ tab.zero 33 = some [.slice none 0 0] ∧ tab.zero 35 = some [.int .i64 0, .int .i64 0, .string ⟨#[]⟩, .slice none 0 0] ∧ tab.zero 37 = some [.int .i64 0, .int .i64 0, .string ⟨#[]⟩, .string ⟨#[]⟩, .slice none 0 0, .slice none 0 0, .slice none 0 0] ∧ tab.zero 39 = some [.slice none 0 0] ∧ tab.zero 40 = some [.slice none 0 0] ∧ tab.zero 42 = some [.string ⟨#[]⟩, .string ⟨#[]⟩, .slice none 0 0, .slice none 0 0] ∧ tab.zero 44 = some [.string ⟨#[]⟩, .string ⟨#[]⟩, .slice none 0 0, .slice none 0 0] ∧ tab.zero 46 = some [.string ⟨#[]⟩, .string ⟨#[]⟩] ∧ tab.zero 47 = some [.map none] ∧ tab.zero 48 = some [.map none] ∧ tab.zero 53 = some [.nilFunc] ∧ tab.zero 56 = some [.slice none 0 0] ∧ tab.zero 58 = some [.slice none 0 0, .slice none 0 0, .slice none 0 0] ∧ tab.zero 60 = some [.pointer none] ∧ tab.zero 62 = some [.pointer none] ∧ tab.zero 64 = some [.slice none 0 0, .slice none 0 0, .string ⟨#[]⟩, .string ⟨#[]⟩, .slice none 0 0] ∧ tab.zero 66 = some [.nilFunc] ∧ tab.zero 77 = some [.nilFunc] ∧ tab.zero 93 = some [.nilFunc] ∧ tab.zero 99 = some [.int .u64 0] ∧ tab.zero 101 = some [.nilFunc] ∧ tab.zero 108 = some [.nilFunc] ∧ tab.zero 120 = some [.slice none 0 0] ∧ tab.zero 125 = some [.nilFunc] ∧ tab.zero 135 = some [.int .u32 0] ∧ tab.zero 139 = some [.nilFunc] ∧ tab.zero 140 = some [.nilFunc] ∧ tab.zero 143 = some [.nilFunc] ∧ tab.zero 145 = some [.nilFunc] ∧ tab.zero 151 = some [.nilFunc] ∧ tab.zero 174 = some [.int .i64 0, .int .i64 0, .bool false, .int .i64 0, .int .i64 0, .string ⟨#[]⟩] ∧ tab.zero 178 = some [.slice none 0 0] ∧ tab.bool 4 = true ∧ tab.nilk 17 = some 0 ∧ tab.nilk 20 = some 4 ∧ tab.nilk 22 = some 1 ∧ tab.nilk 23 = some 1 ∧ tab.nilk 30 = some 1 ∧ tab.nilk 33 = some 1 ∧ tab.nilk 39 = some 1 ∧ tab.nilk 40 = some 1 ∧ tab.nilk 47 = some 2 ∧ tab.nilk 48 = some 2 ∧ tab.nilk 53 = some 3 ∧ tab.nilk 56 = some 1 ∧ tab.nilk 60 = some 0 ∧ tab.nilk 62 = some 0 ∧ tab.nilk 66 = some 3 ∧ tab.nilk 77 = some 3 ∧ tab.nilk 93 = some 3 ∧ tab.nilk 101 = some 3 ∧ tab.nilk 108 = some 3 ∧ tab.nilk 120 = some 1 ∧ tab.nilk 125 = some 3 ∧ tab.nilk 139 = some 3 ∧ tab.nilk 140 = some 3 ∧ tab.nilk 143 = some 3 ∧ tab.nilk 145 = some 3 ∧ tab.nilk 151 = some 3 ∧ tab.nilk 178 = some 1 ∧ tab.int 2 = some .i64 ∧ tab.int 3 = some .i64 ∧ tab.int 5 = some .u8 ∧ tab.int 12 = some .u64 ∧ tab.int 21 = some .i32 ∧ tab.int 27 = some .i64 ∧ tab.int 99 = some .u64 ∧ tab.int 135 = some .u32 ∧ tab.map 47 = some (9, 3) ∧ tab.map 48 = some (9, 3) ∧ tab.str 9 = true ∧ tab.one 2 = some (.int .i64 0) ∧ tab.one 3 = some (.int .i64 0) ∧ tab.one 4 = some (.bool false) ∧ tab.one 5 = some (.int .u8 0) ∧ tab.one 9 = some (.string ⟨#[]⟩) ∧ tab.one 12 = some (.int .u64 0) ∧ tab.one 17 = some (.pointer none) ∧ tab.one 20 = some (.nilIface) ∧ tab.one 21 = some (.int .i32 0) ∧ tab.one 22 = some (.slice none 0 0) ∧ tab.one 23 = some (.slice none 0 0) ∧ tab.one 27 = some (.int .i64 0) ∧ tab.one 30 = some (.slice none 0 0) ∧ tab.one 33 = some (.slice none 0 0) ∧ tab.one 39 = some (.slice none 0 0) ∧ tab.one 40 = some (.slice none 0 0) ∧ tab.one 47 = some (.map none) ∧ tab.one 48 = some (.map none) ∧ tab.one 53 = some (.nilFunc) ∧ tab.one 56 = some (.slice none 0 0) ∧ tab.one 60 = some (.pointer none) ∧ tab.one 62 = some (.pointer none) ∧ tab.one 66 = some (.nilFunc) ∧ tab.one 77 = some (.nilFunc) ∧ tab.one 93 = some (.nilFunc) ∧ tab.one 99 = some (.int .u64 0) ∧ tab.one 101 = some (.nilFunc) ∧ tab.one 108 = some (.nilFunc) ∧ tab.one 120 = some (.slice none 0 0) ∧ tab.one 125 = some (.nilFunc) ∧ tab.one 135 = some (.int .u32 0) ∧ tab.one 139 = some (.nilFunc) ∧ tab.one 140 = some (.nilFunc) ∧ tab.one 143 = some (.nilFunc) ∧ tab.one 145 = some (.nilFunc) ∧ tab.one 151 = some (.nilFunc) ∧ tab.one 178 = some (.slice none 0 0) ∧ tab.one 13 = none ∧ tab.one 18 = none ∧ tab.one 25 = none ∧ tab.one 35 = none ∧ tab.one 37 = none ∧ tab.one 42 = none ∧ tab.one 44 = none ∧ tab.one 46 = none ∧ tab.one 58 = none ∧ tab.one 64 = none ∧ tab.one 174 = none ∧ tab.seq 46 = some [(9, 0), (9, 1)] ∧ tab.seq 174 = some [(3, 0), (3, 1), (4, 2), (2, 3), (3, 4), (9, 5)] ∧ tab.eff 0 = false ∧ tab.eff 1 = false ∧ tab.eff 2 = false ∧ tab.eff 3 = false ∧ tab.eff 4 = false ∧ tab.eff 5 = false ∧ tab.eff 6 = false ∧ tab.eff 7 = false ∧ tab.eff 8 = false ∧ tab.eff 9 = false ∧ tab.eff 10 = false ∧ tab.eff 11 = false ∧ tab.eff 12 = true ∧ tab.eff 13 = true ∧ tab.eff 14 = true ∧ tab.eff 15 = false ∧ tab.eff 16 = false ∧ tab.eff 17 = false ∧ tab.eff 18 = false ∧ tab.eff 19 = false ∧ tab.eff 20 = false ∧ tab.eff 21 = false ∧ tab.eff 22 = false ∧ tab.eff 23 = false ∧ tab.eff 24 = false ∧ tab.eff 25 = false ∧ tab.eff 26 = true ∧ tab.eff 27 = false ∧ tab.eff 28 = false ∧ tab.eff 29 = false ∧ tab.eff 30 = false ∧ tab.eff 31 = false ∧ tab.eff 32 = false ∧ tab.eff 33 = false ∧ tab.eff 34 = false ∧ tab.eff 35 = false ∧ tab.eff 36 = false ∧ tab.eff 37 = false ∧ tab.eff 38 = false ∧ tab.eff 39 = false ∧ tab.eff 40 = false ∧ tab.eff 41 = false ∧ tab.eff 42 = false ∧ tab.eff 43 = false ∧ tab.eff 44 = false ∧ tab.eff 45 = false ∧ tab.eff 46 = false ∧ tab.eff 47 = false ∧ tab.eff 48 = false ∧ tab.eff 49 = false ∧ tab.eff 50 = false ∧ tab.eff 51 = true ∧ tab.eff 52 = true ∧ tab.eff 53 = true ∧ tab.eff 54 = true ∧ tab.eff 55 = true ∧ tab.eff 56 = false ∧ tab.eff 57 = false ∧ tab.eff 58 = false ∧ tab.eff 59 = false ∧ tab.eff 60 = false ∧ tab.eff 61 = false ∧ tab.eff 62 = false ∧ tab.eff 63 = false ∧ tab.eff 64 = true ∧ tab.eff 65 = false ∧ tab.eff 66 = false ∧ tab.eff 67 = false ∧ tab.eff 68 = false ∧ tab.eff 69 = false ∧ tab.eff 70 = false ∧ tab.eff 71 = false ∧ tab.eff 72 = false ∧ tab.eff 73 = false ∧ tab.eff 74 = false ∧ tab.eff 75 = false ∧ tab.eff 76 = false ∧ tab.eff 77 = false ∧ tab.eff 78 = false ∧ tab.eff 79 = false ∧ tab.eff 80 = false ∧ tab.eff 81 = false ∧ tab.eff 82 = false ∧ tab.eff 83 = true ∧ tab.eff 84 = false ∧ tab.eff 85 = true ∧ tab.eff 86 = true ∧ tab.eff 87 = true ∧ tab.eff 88 = false ∧ tab.eff 89 = true ∧ tab.eff 90 = true ∧ tab.eff 91 = false ∧ tab.eff 92 = false ∧ tab.eff 93 = false ∧ tab.eff 94 = false ∧ tab.eff 95 = false ∧ tab.eff 96 = false ∧ tab.eff 97 = false ∧ tab.eff 98 = false ∧ tab.eff 99 = false ∧ tab.eff 100 = false ∧ tab.eff 101 = false ∧ tab.eff 102 = false ∧ tab.eff 103 = false ∧ tab.eff 104 = false ∧ tab.eff 105 = false ∧ tab.eff 106 = false ∧ tab.eff 107 = false ∧ tab.eff 108 = false ∧ tab.eff 109 = false ∧ tab.eff 110 = false ∧ tab.eff 111 = false ∧ tab.eff 112 = false ∧ tab.eff 113 = false ∧ tab.eff 114 = false ∧ tab.eff 115 = false ∧ tab.eff 116 = false ∧ tab.eff 117 = false ∧ tab.eff 118 = false ∧ tab.eff 119 = false ∧ tab.eff 120 = false ∧ tab.eff 121 = false ∧ tab.eff 122 = false ∧ tab.eff 123 = false ∧ tab.eff 124 = false ∧ tab.eff 125 = false ∧ tab.eff 126 = false ∧ tab.eff 127 = false ∧ tab.eff 128 = false ∧ tab.eff 129 = false ∧ tab.eff 130 = false ∧ tab.eff 131 = false ∧ tab.eff 132 = false ∧ tab.eff 133 = false ∧ tab.eff 134 = false ∧ tab.eff 135 = false ∧ tab.eff 136 = false ∧ tab.eff 137 = false ∧ tab.eff 138 = false ∧ tab.eff 139 = false ∧ tab.eff 140 = false ∧ tab.eff 141 = false ∧ tab.eff 142 = false ∧ tab.eff 143 = false ∧ tab.eff 144 = false ∧ tab.eff 145 = false ∧ tab.eff 146 = false ∧ tab.eff 147 = false ∧ tab.eff 148 = false ∧ tab.eff 149 = false ∧ tab.eff 150 = false ∧ tab.eff 151 = false ∧ tab.eff 152 = false ∧ tab.eff 153 = false ∧ tab.eff 154 = false ∧ tab.eff 155 = false ∧ tab.eff 156 = false ∧ tab.eff 157 = false ∧ tab.eff 158 = false ∧ tab.eff 159 = false ∧ tab.eff 160 = false ∧ tab.eff 161 = false ∧ tab.eff 162 = false ∧ tab.eff 163 = false ∧ tab.eff 164 = false ∧ tab.eff 165 = false ∧ tab.eff 166 = false ∧ tab.eff 167 = false ∧ tab.eff 168 = false ∧ tab.eff 169 = false ∧ tab.eff 170 = false ∧ tab.eff 171 = false ∧ tab.eff 172 = false ∧ tab.eff 173 = false ∧ tab.eff 174 = false ∧ tab.eff 175 = false ∧ tab.eff 176 = false ∧ tab.eff 177 = false ∧ tab.eff 178 = false ∧ tab.eff 179 = false ∧ tab.eff 180 = false ∧ tab.eff 181 = false ∧ tab.eff 182 = false ∧ tab.eff 183 = false ∧ tab.eff 184 = false ∧ tab.eff 185 = false ∧ tab.eff 186 = false ∧ tab.eff 187 = false ∧ tab.eff 188 = false ∧ tab.eff 189 = false ∧ tab.eff 190 = false ∧ tab.eff 191 = false ∧ tab.eff 192 = false ∧ tab.eff 193 = false ∧ tab.eff 194 = false ∧ tab.eff 195 = false ∧ tab.lit = false :=
 ⟨rfl, rfl, rfl, rfl, rfl, rfl, rfl, rfl, rfl, rfl, rfl, rfl, rfl, rfl, rfl, rfl, rfl, rfl, rfl, rfl, rfl, rfl, rfl, rfl, rfl, rfl, rfl, rfl, rfl, rfl, rfl, rfl, rfl, rfl, rfl, rfl, rfl, rfl, rfl, rfl, rfl, rfl, rfl, rfl, rfl, rfl, rfl, rfl, rfl, rfl, rfl, rfl, rfl, rfl, rfl, rfl, rfl, rfl, rfl, rfl, rfl, rfl, rfl, rfl, rfl, rfl, rfl, rfl, rfl, rfl, rfl, rfl, rfl, rfl, rfl, rfl, rfl, rfl, rfl, rfl, rfl, rfl, rfl, rfl, rfl, rfl, rfl, rfl, rfl, rfl, rfl, rfl, rfl, rfl, rfl, rfl, rfl, rfl, rfl, rfl, rfl, rfl, rfl, rfl, rfl, rfl, rfl, rfl, rfl, rfl, rfl, rfl, rfl, rfl, rfl, rfl, rfl, rfl, rfl, rfl, rfl, rfl, rfl, rfl, rfl, rfl, rfl, rfl, rfl, rfl, rfl, rfl, rfl, rfl, rfl, rfl, rfl, rfl, rfl, rfl, rfl, rfl, rfl, rfl, rfl, rfl, rfl, rfl, rfl, rfl, rfl, rfl, rfl, rfl, rfl, rfl, rfl, rfl, rfl, rfl, rfl, rfl, rfl, rfl, rfl, rfl, rfl, rfl, rfl, rfl, rfl, rfl, rfl, rfl, rfl, rfl, rfl, rfl, rfl, rfl, rfl, rfl, rfl, rfl, rfl, rfl, rfl, rfl, rfl, rfl, rfl, rfl, rfl, rfl, rfl, rfl, rfl, rfl, rfl, rfl, rfl, rfl, rfl, rfl, rfl, rfl, rfl, rfl, rfl, rfl, rfl, rfl, rfl, rfl, rfl, rfl, rfl, rfl, rfl, rfl, rfl, rfl, rfl, rfl, rfl, rfl, rfl, rfl, rfl, rfl, rfl, rfl, rfl, rfl, rfl, rfl, rfl, rfl, rfl, rfl, rfl, rfl, rfl, rfl, rfl, rfl, rfl, rfl, rfl, rfl, rfl, rfl, rfl, rfl, rfl, rfl, rfl, rfl, rfl, rfl, rfl, rfl, rfl, rfl, rfl, rfl, rfl, rfl, rfl, rfl, rfl, rfl, rfl, rfl, rfl, rfl, rfl, rfl, rfl, rfl, rfl, rfl, rfl, rfl, rfl, rfl, rfl, rfl, rfl, rfl, rfl, rfl, rfl, rfl, rfl, rfl, rfl, rfl, rfl, rfl, rfl, rfl, rfl, rfl, rfl, rfl, rfl, rfl, rfl, rfl, rfl, rfl, rfl, rfl, rfl, rfl, rfl, rfl, rfl, rfl, rfl, rfl, rfl, rfl, rfl, rfl, rfl, rfl, rfl, rfl, rfl, rfl, rfl, rfl, rfl, rfl, rfl, rfl, rfl, rfl, rfl, rfl, rfl, rfl, rfl, rfl, rfl, rfl, rfl, rfl, rfl, rfl, rfl, rfl, rfl, rfl, rfl, rfl, rfl, rfl, rfl, rfl, rfl, rfl, rfl, rfl, rfl, rfl, rfl, rfl, rfl, rfl, rfl, rfl, rfl, rfl, rfl, rfl, rfl, rfl, rfl, rfl, rfl, rfl, rfl, rfl, rfl, rfl, rfl, rfl, rfl, rfl, rfl, rfl, rfl, rfl, rfl, rfl, rfl, rfl, rfl, rfl, rfl, rfl, rfl, rfl, rfl, rfl, rfl, rfl, rfl, rfl, rfl, rfl, rfl, rfl, rfl, rfl, rfl, rfl, rfl, rfl, rfl, rfl, rfl, rfl, rfl, rfl, rfl, rfl, rfl, rfl, rfl, rfl, rfl, rfl, rfl, rfl, rfl, rfl, rfl, rfl, rfl, rfl, rfl, rfl, rfl, rfl, rfl, rfl⟩
theorem bC : Tryz.prog.follows .mixedOrders = true := by kernel_rfl
def Jw (T : Tab) (base : Nat) (ops : Array Oper) (o : Oper) (st : St) : Option St :=
 match eH ops o st.s with
 | some true => (match kind T o.op with
   | .store => (match o.op with
     | .store ty x v => (match qM (ev st.s x), o.dst with
       | some j, none => (match st.m j with
         | some b => (match stO T ty (ev st.s x) (ev st.s v) b with | some b' => some ⟨st.s, upd st.m j (some b')⟩ | none => none)
         | none => none)
       | _, _ => none)
     | _ => none)
   | .barrier => none
   | _ => (match o.dst with
     | some d => (match qv T st.s st.m (base + d) o.op with
       | some (r, none) => some ⟨upd st.s d r, st.m⟩
       | some (r, some x) => (match st.m (base + d) with | none => some ⟨upd st.s d r, upd st.m (base + d) (some x)⟩ | some _ => none)
       | none => none)
     | none => none))
 | some false => (match o.dst with | some d => some ⟨upd st.s d .undef, st.m⟩ | none => some st)
 | none => none
def exec (T : Tab) (base : Nat) (ops : Array Oper) : List Oper → St → Option St
 | [], st => some st
 | o :: l, st => match Jw T base ops o st with | some st1 => exec T base ops l st1 | none => none
section
variable {P : Go.Program} {T : Tab} {kp : Nat → Prop} {base : Nat} {ops : Array Oper}
theorem O1 {o : Oper} {st st' : St} (h : Jw T base ops o st = some st') : HS P T kp base ops o st st' := by
 unfold Jw at h;split at h
 ·rename_i hw;split at h
  ·split at h
   ·rename_i ty x v hop;split at h
    ·rename_i j hx hd;split at h
     ·rename_i b hj;split at h
      ·rename_i b' hn;cases h
       exact .store ⟨hw, hop, hd, hx, hj, hn⟩
      ·cases h
     ·cases h
    ·cases h
   ·cases h
  ·cases h
  ·split at h
   ·rename_i d hd;have hid : lH base o = base + d := by simp [lH, hd]
    split at h
    ·rename_i r hq;cases h
     have := HS.val (P := P) (T := T) (kp := kp) (HV.val (base := base) hw (by rw [hid]; exact hq) (fun h => by cases h) (fun h => by cases h));rw [hd] at this;exact this
    ·rename_i r x hq;split at h
     ·rename_i hm;cases h
      have := HS.val (P := P) (T := T) (kp := kp) (HV.val (base := base) hw (by rw [hid]; exact hq) (fun _ => by rw [hid]; exact hm) (fun _ => by rw [hd]; rfl));rw [hd, hid] at this;exact this
     ·cases h
    ·cases h
   ·cases h
 ·rename_i hw;have := HS.val (P := P) (T := T) (base := base) (kp := kp) (HV.skip hw);split at h
  ·rename_i d hd;cases h
   rw [hd] at this;exact this
  ·rename_i hd;cases h
   rw [hd] at this;exact this
 ·cases h
theorem aR : ∀ {l : List Oper} {st st' : St}, exec T base ops l st = some st' → RunL P T kp base ops l st st'
 | [], st, st', h => by simp [exec] at h; subst h; exact .nil _
 | o :: l, st, st', h => by
   simp only [exec] at h;split at h
   ·rename_i st1 h1;exact .cons (O1 h1) (aR h)
   ·cases h
theorem RunL.append {l1 l2 : List Oper} {st st1 st2 : St} (h : RunL P T kp base ops l1 st st1) (k : RunL P T kp base ops l2 st1 st2) : RunL P T kp base ops (l1 ++ l2) st st2 := by
 induction h with
 | nil => exact k
 | cons h _ ih => exact .cons h (ih k)
theorem Lr {l : List Oper} {st st1 st2 : St} (i : Nat) (h : exec T base ops (l.take i) st = some st1) (k : RunL P T kp base ops (l.drop i) st1 st2) : RunL P T kp base ops l st st2 := by
 have := (aR (P := P) (kp := kp) h).append k
 rwa [List.take_append_drop] at this
def je (P : Go.Program) (T : Tab) (kp : Nat → Prop) (base : Nat) (ops : Array Oper) (l : List Oper) (st : St) (k : St → Prop) : Prop := ∃ st', RunL P T kp base ops l st st' ∧ k st'
theorem aA {l : List Oper} {st st' : St} {k : St → Prop} (h : exec T base ops l st = some st') (hk : k st') : je P T kp base ops l st k := ⟨st', aR h, hk⟩
theorem aj {l : List Oper} {st st1 : St} {k : St → Prop} (i : Nat) (h : exec T base ops (l.take i) st = some st1) (hk : je P T kp base ops (l.drop i) st1 k) : je P T kp base ops l st k :=
 let ⟨st', h1, h2⟩ := hk
 ⟨st', Lr i h h1, h2⟩
theorem jv {o : Oper} {l : List Oper} {st st1 : St} {k : St → Prop} (h : HS P T kp base ops o st st1) (ht : je P T kp base ops l st1 k) : je P T kp base ops (o :: l) st k :=
 let ⟨st', h1, h2⟩ := ht
 ⟨st', .cons h h1, h2⟩
theorem av {o : Oper} {l : List Oper} {st : St} {k : St → Prop} {r : A} {c : Call} {x : Operand} {f : FuncId} {ids : List Nat} {args : List A} {d : Nat} (h : eH ops o st.s = some true) (hop : o.op = .call c) (hc : c.callee = .value x) (hx : ev st.s x = .fn f ids) (hd : o.dst = some d) (hb : ∀ j ∈ ids, ∃ ty cells, st.m j = some (.box ty cells))
 (ha : Cvs st.m (c.args.toList.map (ev st.s) ++ ids.map (A.ptr · 0)) args) (hk : COk P f args st.m r) (ht : je P T kp base ops l ⟨upd st.s d r, st.m⟩ k) : je P T kp base ops (o :: l) st k := by
 refine jv (st1 := ⟨upd st.s d r, st.m⟩) ?_ ht
 have := HS.val (P := P) (T := T) (base := base) (ops := ops) (o := o) (kp := kp) (HV.call h hop hc hx hb ha hk)
 rw [hd] at this
 exact this
theorem H7 {o : Oper} {l : List Oper} {st : St} {k : St → Prop} {r : A} {c : Call} {x : Operand} {f : FuncId} {caps : List (List C)} {args : List A} {d : Nat} (h : eH ops o st.s = some true) (hop : o.op = .call c) (hc : c.callee = .value x) (hx : ev st.s x = .fnR f caps) (hd : o.dst = some d)
 (ha : Cvs st.m (c.args.toList.map (ev st.s) ++ caps.map A.rptr) args) (hk : COk P f args st.m r) (ht : je P T kp base ops l ⟨upd st.s d r, st.m⟩ k) : je P T kp base ops (o :: l) st k := by
 refine jv (st1 := ⟨upd st.s d r, st.m⟩) ?_ ht
 have := HS.val (P := P) (T := T) (base := base) (ops := ops) (o := o) (kp := kp) (HV.callF h hop hc hx ha hk)
 rw [hd] at this
 exact this
theorem fJ {o : Oper} {l : List Oper} {st : St} {k : St → Prop} {r : A} {c : Call} {x : Operand} {f : FuncId} {ids : List Nat} {args : List A} {d : Nat} (h : eH ops o st.s = some true) (hop : o.op = .call c) (hc : c.callee = .value x) (hx : ev st.s x = .fn f ids) (hd : o.dst = some d) (hb : ∀ j ∈ ids, ∃ ty cells, st.m j = some (.box ty cells))
 (ha : BU st.m (c.args.toList.map (ev st.s) ++ ids.map (A.ptr · 0)) args) (hi : args.all (fun a => a.ids.isEmpty) = true) (hf : PO r = true) (hk : ∀ m, COk P f args m r) (ht : je P T kp base ops l ⟨upd st.s d r, st.m⟩ k) : je P T kp base ops (o :: l) st k := by
 refine jv (st1 := ⟨upd st.s d r, st.m⟩) ?_ ht
 have := HS.val (P := P) (T := T) (base := base) (ops := ops) (o := o) (kp := kp) (HV.callR h hop hc hx hb ha (fun a ha => by have := List.all_eq_true.1 hi a ha; simpa using this) hf hk)
 rw [hd] at this
 exact this
theorem bW {o : Oper} {l : List Oper} {st : St} {k : St → Prop} {r : A} {c : Call} {x : Operand} {f : FuncId} {ids : List Nat} {args : List A} {D : List Nat} {M' : Mem} (h : eH ops o st.s = some true) (hop : o.op = .call c) (hc : c.callee = .value x) (hbar : kind T o.op = .barrier) (hx : ev st.s x = .fn f ids) (hkp : ∀ j ∈ D, ¬ kp j) (hb : ∀ j ∈ ids, ∃ ty cells, st.m j = some (.box ty cells))
 (ha : Cvs st.m (c.args.toList.map (ev st.s) ++ ids.map (A.ptr · 0)) args) (hk : dJ P f args st.m D r M') (ht : je P T kp base ops l ⟨eY (dw D st.s) o.dst r, M'⟩ k) : je P T kp base ops (o :: l) st k :=
 jv (.eff (BM hkp hbar h hop hc hx hb ha hk)) ht
theorem jo {o : Oper} {l : List Oper} {st : St} {k : St → Prop} {r : A} {c : Call} {x : Operand} {f : FuncId} {ids : List Nat} {args : List A} {M' : Mem} {d : Nat} (h : eH ops o st.s = some true) (hop : o.op = .call c) (hc : c.callee = .value x) (hbar : kind T o.op = .barrier) (hx : ev st.s x = .fn f ids) (hd : o.dst = some d) (hb : ∀ j ∈ ids, ∃ ty cells, st.m j = some (.box ty cells))
 (ha : Cvs st.m (c.args.toList.map (ev st.s) ++ ids.map (A.ptr · 0)) args) (hk : dJ P f args st.m [] r M') (ht : je P T kp base ops l ⟨upd st.s d r, M'⟩ k) : je P T kp base ops (o :: l) st k :=
 bW (D := []) h hop hc hbar hx (fun j hj => by simp at hj) hb ha hk (by rw [hd]; exact ht)
theorem sN {n b : Nat} (h : n * b ≤ 140737488355328) (h0 : 0 < b) : n ≤ maxLen := by
 have : n * 1 ≤ n * b := Nat.mul_le_mul_left _ h0;unfold maxLen; omega
theorem EF (hT : T.Ok P) {o : Oper} {l : List Oper} {st : St} {k : St → Prop} {c : Call} {x y : Operand} {t d : Nat} (id : Nat) {e n b : Nat} (fz : Bool) {zs : List Value} {xs ys : List (List C)} (h : eH ops o st.s = some true) (hop : o.op = .call c) (hc : c.callee = .builtin .append) (ha : c.args = #[x, y]) (ht : c.argTypes = #[t, t]) (hd : o.dst = some d)
 (hx : ev st.s x = .own id) (hm : st.m id = some (dW fz e n xs)) (hy : asC st.m (ev st.s y) = some (.sl ys)) (h1 : T.elem t = some (e, n)) (h2 : T.bytes e = some b) (h3 : T.zero e = some zs) (h4 : zs.length = n) (hkp : ¬ kp id) (hl : ∀ z ∈ ys, z.length = n) (hb : (xs.length + ys.length) * b ≤ 140737488355328) (hb0 : 0 < b)
 (ht2 : je P T kp base ops l ⟨upd (iy id st.s) d (.own id), upd (fq id st.m) id (some (dW fz e n (xs ++ ys)))⟩ k) : je P T kp base ops (o :: l) st k :=
 jv (.eff (BI hT hkp ⟨h, hop, hc, ha, ht, hd, hx, hm, hy, h1, h2, h3, h4, hl, hb, sN hb hb0⟩)) ht2
theorem cK (hT : T.Ok P) {o : Oper} {l : List Oper} {st : St} {k : St → Prop} {c : Call} {x y : Operand} {t d : Nat} (id : Nat) {e n b : Nat} {zs : List Value} {xs ys : List (List C)} (h : eH ops o st.s = some true) (hop : o.op = .call c) (hc : c.callee = .builtin .append) (ha : c.args = #[x, y]) (ht : c.argTypes = #[t, t]) (hd : o.dst = some d)
 (hx : ev st.s x = .own id) (hm : st.m id = some (.arr e n xs)) (hy : asC st.m (ev st.s y) = some (.sl ys)) (h1 : T.elem t = some (e, n)) (h2 : T.bytes e = some b) (h3 : T.zero e = some zs) (h4 : zs.length = n) (hkp : ¬ kp id) (hl : ∀ z ∈ ys, z.length = n) (hb : (xs.length + ys.length) * b ≤ 140737488355328) (hb0 : 0 < b)
 (ht2 : je P T kp base ops l ⟨upd (iy id st.s) d (.own id), upd (fq id st.m) id (some (.arr e n (xs ++ ys)))⟩ k) : je P T kp base ops (o :: l) st k :=
 EF hT id true h hop hc ha ht hd hx hm hy h1 h2 h3 h4 hkp hl hb hb0 ht2
theorem W.bR {R : Ref} {n : Nat} {ds : List Deferred} {st : St} {K : Exit → St → Prop} (hT : T.Ok P) (base : Nat) {id : Nat} (hd : jX n ops = true) (h : je P T R.keep base ops ops.toList st (K .normal)) : W P R n ds st (.region id ops false) K :=
 let ⟨_, h1, h2⟩ := h
 W.region hT base hd h1 h2
theorem W.oK {R : Ref} {n : Nat} {ds : List Deferred} {st : St} {K : Exit → St → Prop} (hT : T.Ok P) (base : Nat) {id : Nat} (hm : P.follows .mixedOrders = true) (hok : q9 T ops = true) (hd : jX n ops = true) (h : je P T R.keep base ops ops.toList st (K .normal)) : W P R n ds st (.region id ops true) K :=
 let ⟨_, h1, h2⟩ := h
 W.Ep hT base hm hok hd h1 h2
theorem W.newRow {R : Ref} {n : Nat} {ds : List Deferred} {st : St} {c : Code} {K : Exit → St → Prop} (fz : Bool) (t id ty e : Nat) (ht : st.s t = .nil) (hid : st.m id = none) (h : W P R n ds ⟨upd st.s t (.own id), upd st.m id (some (dW fz ty e []))⟩ c K) : W P R n ds st c K := by
 intro a w hr;refine h a w ?_;obtain ⟨⟨B, I, hm, hx0, hkp, hs⟩, h2, h3, hnn, h4, h5⟩ := hr;have hne : ∀ j, (st.m j).isSome = true → j ≠ id := fun j hj e' => by subst e'; rw [hid] at hj; cases hj
 have hB : ∀ j, (st.m j).isSome = true → upd B id (.slice none 0 0) j = B j := fun j hj => upd_ne _ _ (hne j hj)
 have liv : ∀ j, (st.m j).isSome = true → (upd st.m id (some (dW fz ty e [])) j).isSome = true := fun j hj => by rw [upd_ne _ _ (hne j hj)]; exact hj
 have other : ∀ {j : Nat} {z : O}, upd st.m id (some (dW fz ty e [])) j = some z → (j = id ∧ z = dW fz ty e []) ∨ (j ≠ id ∧ st.m j = some z) := fun {j z} hz => by
  exact Un
 have nofoot : ∀ {k : Nat}, ¬ foot (upd B id (.slice none 0 0)) id (dW fz ty e []) k := fun {k} hk => by cases fz <;> simp [dW, foot, upd_same, Value.ownBlock] at hk
 have live : ∀ {j : Nat} {z : O}, st.m j = some z → (st.m j).isSome = true := fun {j z} hj => by simp [hj]
 refine ⟨⟨upd B id (.slice none 0 0), I, ⟨hm.below, hm.glob, hm.base, hm.old, hm.there, fun j z hz => ?_, fun j z hz k hk => ?_, fun j z j' z' hz hz' hne' k hk hk' => ?_, fun j z hz i hi => ?_⟩, hx0, fun j hj => (hB j (h5 j hj)).trans (hkp j hj), fun u => ?_⟩, fun u j hj => ?_, h3, hnn, ?_, fun j hj => liv j (h5 j hj)⟩
 ·exact Y9
 ·exact TT
 ·exact aaP
 ·exact VA
 ·show RV _ _ _ (upd st.s t (A.own id) u) _;by_cases hu : u = t
  ·subst hu;rw [upd_same];have := hs u;rw [ht] at this;exact ⟨this.trans (upd_same ..).symm, none, 0, 0, this⟩
  ·rw [upd_ne _ _ hu];exact (hs u).mono (Ext.refl _ _) fun j hj => hB j (h2 u j hj)
 ·replace hj : j ∈ (upd st.s t (A.own id) u).ids := hj;show (upd st.m id (some (dW fz ty e [])) j).isSome = true;by_cases hu : u = t
  ·subst hu;rw [upd_same] at hj;simp [A.ids] at hj;subst hj;simp [upd_same]
  ·rw [upd_ne _ _ hu] at hj;exact liv j (h2 u j hj)
 ·show _ = dfs (upd st.s t (A.own id) DID) ++ ds;by_cases hu : DID = t
  ·have : dfs (st.s DID) = [] := by rw [hu, ht]; rfl
   rw [h4, this, hu, upd_same]; rfl
  ·rw [upd_ne _ _ hu]; exact h4
theorem MR.G8 {w0 w : World} {I0 I : Nat → Nat → Prop} {B : Nat → Value} {m : Mem} (hm : MR w0 I0 B I m w) {id : Nat} (hid : m id = none) (fz : Bool) (ty e : Nat) : MR w0 I0 (upd B id (.slice none 0 0)) I (upd m id (some (dW fz ty e []))) w := by
 have hne : ∀ j, (m j).isSome = true → j ≠ id := fun j hj e' => by subst e'; rw [hid] at hj; cases hj
 have hB : ∀ j, (m j).isSome = true → upd B id (.slice none 0 0) j = B j := fun j hj => upd_ne _ _ (hne j hj)
 have liv : ∀ j, (m j).isSome = true → (upd m id (some (dW fz ty e [])) j).isSome = true := fun j hj => by rw [upd_ne _ _ (hne j hj)]; exact hj
 have other : ∀ {j : Nat} {z : O}, upd m id (some (dW fz ty e [])) j = some z → (j = id ∧ z = dW fz ty e []) ∨ (j ≠ id ∧ m j = some z) := fun {j z} hz => by
  exact Un
 have nofoot : ∀ {k : Nat}, ¬ foot (upd B id (.slice none 0 0)) id (dW fz ty e []) k := fun {k} hk => by cases fz <;> simp [dW, foot, upd_same, Value.ownBlock] at hk
 have live : ∀ {j : Nat} {z : O}, m j = some z → (m j).isSome = true := fun {j z} hj => by simp [hj]
 refine ⟨hm.below, hm.glob, hm.base, hm.old, hm.there, fun j z hz => ?_, fun j z hz k hk => ?_, fun j z j' z' hz hz' hne' k hk hk' => ?_, fun j z hz i hi => ?_⟩
 ·exact Y9
 ·exact TT
 ·exact aaP
 ·exact VA
theorem W.Du {R : Ref} {n : Nat} {ds : List Deferred} {st : St} {c : Code} {K : Exit → St → Prop} (fz : Bool) (j k id ty e : Nat) {tyb : TypeId} {cells : List A} (hj : st.m j = some (.box tyb cells)) (hk : cells[k]? = some .nil) (hid : st.m id = none)
 (h : W P R n ds ⟨st.s, upd (upd st.m id (some (dW fz ty e []))) j (some (.box tyb (cells.set k (.own id))))⟩ c K) : W P R n ds st c K := by
 intro a w hr
 refine h a w ?_
 obtain ⟨⟨B, I, hm, hx0, hkp, hs⟩, h2, h3, hnn, h4, h5⟩ := hr
 have hne : ∀ i, (st.m i).isSome = true → i ≠ id := fun i hi e' => by subst e'; rw [hid] at hi; cases hi
 have hB : ∀ i, (st.m i).isSome = true → upd B id (.slice none 0 0) i = B i := fun i hi => upd_ne _ _ (hne i hi)
 have hm1 := hm.G8 hid fz ty e
 have hj1 : upd st.m id (some (dW fz ty e [])) j = some (.box tyb cells) := by rw [upd_ne _ _ (hne j (by simp [hj]))]; exact hj
 obtain ⟨b, vs, e1, e2, e3, e4⟩ := hm1.objs j _ hj1
 have liv : ∀ i, (st.m i).isSome = true → (upd (upd st.m id (some (dW fz ty e []))) j (some (.box tyb (cells.set k (.own id)))) i).isSome = true := fun i hi => by
  unfold upd; split
  ·rfl
  ·split
   ·rfl
   ·exact hi
 have hm2 := hm1.turn (o' := .box tyb (cells.set k (.own id))) hj1 ⟨0, e1⟩ (fun q hq => by obtain ⟨off, hq⟩ := hq; rw [e1] at hq; cases hq; rfl) e4 rfl rfl rfl rfl (fun _ _ => rfl) (fun i hi => by
  obtain ⟨a', ha', hi'⟩ := List.mem_flatMap.1 hi;rcases List.mem_or_eq_of_mem_set ha' with ha' | rfl
  ·exact hm1.live j _ hj1 i (List.mem_flatMap.2 ⟨a', ha', hi'⟩)
  ·simp [A.ids] at hi'; subst hi'; rw [upd_same]; rfl) (fun _ => by
  refine ⟨b, vs, e1, e2, ?_, e4⟩;have hl := e3.length;refine RVs.of Kr fun q a' v' ha' hv' => ?_;rw [List.getElem?_set] at ha';split at ha'
  ·rename_i hq;subst hq;split at ha'
   ·cases ha'
    obtain ⟨v2, q1, q2, q3⟩ := e3.at k _ hk;rw [hv'] at q1; cases q1;have hv : v' = .slice none 0 0 := q2;exact ⟨⟨hv.trans (upd_same ..).symm, none, 0, 0, hv⟩, q3⟩
   ·cases ha'
  ·obtain ⟨v2, q1, q2, q3⟩ := e3.at q _ ha';rw [hv'] at q1; cases q1;exact ⟨q2, q3⟩)
 exact ⟨⟨_, I, hm2.1, hx0, fun i hi => (hB i (h5 i hi)).trans (hkp i hi), fun t => (hs t).mono (Ext.refl _ _) fun i hi => hB i (h2 t i hi)⟩, fun t i hi => liv i (h2 t i hi), h3, hnn, h4, fun i hi => liv i (h5 i hi)⟩
theorem W.mZ {R : Ref} {n : Nat} {ds : List Deferred} {st : St} {c : Code} {K : Exit → St → Prop} (t id ty e : Nat) (ht : st.s t = .nil) (hid : st.m id = none) (h : W P R n ds ⟨upd st.s t (.own id), upd st.m id (some (.arr ty e []))⟩ c K) : W P R n ds st c K := W.newRow true t id ty e ht hid h
end
theorem LV (a b : Bool) : (some a == some b) = (a == b) := rfl
theorem ab6 (b : Bool) : (b == true) = b := by cases b <;> rfl
theorem abO (b : Bool) : (b == false) = !b := by cases b <;> rfl
theorem K4 (b : Bool) : ((none : Option Bool) == some b) = false := rfl
theorem eG : (⟨#[]⟩ : ByteArray).toList = [] := by
 unfold ByteArray.toList ByteArray.toList.loop;rfl
theorem qL (j : Nat) : (((j + 1 : Nat) : Int) - 1) = (j : Int) := by omega
theorem ak {α : Type} (f : Nat → α) (t : Nat) (x : α) (u : Nat) : upd f t x u = if u = t then x else f u := rfl
theorem aD (a : A) (l : List A) : entry (a :: l) 0 = a := rfl
theorem aC (a : A) (l : List A) (n : Nat) : entry (a :: l) (n + 1) = entry l n := rfl
theorem KO (n : Nat) : entry [] n = .undef := by simp [entry]
theorem jL {m : Mem} : Cvs m [] [] := trivial
theorem bg {m : Mem} {a a' : A} {l l' : List A} (h : Cv m a a') (k : Cvs m l l') : Cvs m (a :: l) (a' :: l') := ⟨h, k⟩
theorem dG {m : Mem} {a : A} : Cv m a a := .inl rfl
theorem gJ {m : Mem} : BU m [] [] := trivial
theorem bM {m : Mem} {a a' : A} {l l' : List A} (h : CvR m a a') (k : BU m l l') : BU m (a :: l) (a' :: l') := ⟨h, k⟩
theorem fO {m : Mem} {a : A} : CvR m a a := .inl (.inl rfl)
theorem nM {m : Mem} {j : Nat} {ty : TypeId} {cells : List A} {xs : List C} (hj : m j = some (.box ty cells)) (hx : xJ m cells = some xs) : CvR m (.ptr j 0) (.rptr xs) := .inr (.inl ⟨j, ty, cells, xs, rfl, hj, hx, rfl⟩)
theorem Ar {m : Mem} {f : FuncId} {ids : List Nat} {caps : List (List C)} (h : nE m ids = some caps) : CvR m (.fn f ids) (.fnR f caps) := .inr (.inr (.inl ⟨f, ids, caps, rfl, h, rfl⟩))
theorem qB {m : Mem} {j : Nat} {ty : TypeId} {cells : List A} {xs : List C} (hj : m j = some (.box ty cells)) (hx : qJ m cells = some xs) : nE m [j] = some [xs] := by simp [nE, hj, hx]
theorem Jh {m : Mem} : Cv m .nil (.c (.sl [])) := .inr (.inr ⟨_, rfl, rfl⟩)
theorem o8 {m : Mem} {id ty e : Nat} {xs : List (List C)} (h : m id = some (.arr ty e xs)) : Cv m (.own id) (.c (.sl xs)) := .inr (.inr ⟨_, by simp [asC, h], rfl⟩)
theorem yj (j : Nat) : Mem.nil j = none := rfl
theorem QA (t : Nat) : (fun _ : Nat => A.top) t = .top := rfl
def SLe (s s' : Nat → A) : Prop := ∀ t, s' t = .top ∨ s' t = s t
def MLe (m m' : Mem) : Prop := ∀ j, m' j = none ∨ m' j = m j
theorem aM (s : Nat → A) : SLe s (fun _ => .top) := fun _ => .inl rfl
theorem aH (s : Nat → A) : SLe s s := fun _ => .inr rfl
theorem aL {s s' : Nat → A} {t : Nat} {x : A} (h : SLe s s') (hx : s t = x) : SLe s (upd s' t x) := fun u => by
 unfold upd; split
 ·rename_i e; subst e; exact .inr hx.symm
 ·exact h u
theorem aV (m : Mem) : MLe m Mem.nil := fun _ => .inl rfl
theorem aF (m : Mem) : MLe m m := fun _ => .inr rfl
theorem aT {m m' : Mem} {j : Nat} {o : O} (h : MLe m m') (ho : m j = some o) : MLe m (upd m' j (some o)) := fun u => by
 unfold upd; split
 ·rename_i e; subst e; exact .inr ho.symm
 ·exact h u
def SWf (m : Mem) (s : Nat → A) : Prop := ∀ t, ∀ j ∈ (s t).ids, (m j).isSome = true
def MWf (m m' : Mem) : Prop := ∀ id o, m' id = some o → ∀ j ∈ o.ids, (m j).isSome = true
theorem bP (m : Mem) : SWf m (fun _ => .top) := fun _ j hj => by simp [A.ids] at hj
theorem bQ {m : Mem} {s : Nat → A} {t : Nat} {x : A} (h : SWf m s) (hx : ∀ j ∈ x.ids, (m j).isSome = true) : SWf m (upd s t x) := fun u j hj => by
 unfold upd at hj; split at hj
 ·exact hx j hj
 ·exact h u j hj
theorem d9 (m : Mem) : MWf m Mem.nil := fun _ _ h => absurd h (bV _)
theorem dS {m m' : Mem} {i : Nat} {o : O} (h : MWf m m') (ho : ∀ j ∈ o.ids, (m j).isSome = true) : MWf m (upd m' i (some o)) := fun id x hx j hj => by
 unfold upd at hx; split at hx
 ·cases hx; exact ho j hj
 ·exact h id x hx j hj
theorem dU {kp : Nat → Prop} {st st' : St} (h1 : SLe st.s st'.s) (h2 : MLe st.m st'.m) (h3 : SWf st'.m st'.s) (h4 : MWf st'.m st'.m) (h5 : ∀ j, kp j → (st'.m j).isSome = true) (h6 : dfs (st'.s DID) = dfs (st.s DID)) : Le kp st st' := ⟨h1, h2, ⟨h3, h4⟩, h5, h6⟩
theorem aQ {kp : Nat → Prop} (h : kp = fun _ => False) {m : Mem} : ∀ j, kp j → (m j).isSome = true := fun j hj => by rw [h] at hj; exact hj.elim
theorem cu {kp : Nat → Prop} (h : kp = fun _ => False) {j : Nat} : ¬ kp j := by rw [h]; exact fun h => h
theorem rU {k : Nat} (h : k < 9223372036854775808) : IntKind.i64.wrap (k : Int) = k := by
 have h2 : (k : Int) % 18446744073709551616 = k := by omega
 have h3 : ¬ ((k : Int) ≥ 9223372036854775808) := by omega
 simp [IntKind.wrap, IntKind.bits, IntKind.signed, h2];omega
theorem aS {P : Go.Program} {T : Tab} (hT : T.Ok P) {f : FuncId} {fn : Func} {c : Code} {l : List ResultVar} {args : List A} {r : A} (hf : P.funcs[f]? = some fn) (hn : (fn.name == "runtime.NumGoroutine") = false) (hb : fn.body = some c) (hl : fn.results.toList = l) (hd : args.all (fun a => a.ids.isEmpty && !(match a with | .defs _ => true | _ => false)) = true) (hr : r.ids = []) (hle : decide (args.length ≤ fn.ntmps ∧ fn.ntmps ≤ DID) = true)
 (hW : ∀ R : Ref, R.keep = (fun _ => False) → W P R fn.ntmps [] ⟨entry args, Mem.nil⟩ c (fun e st => (e = .normal ∨ e = .ret) ∧ dfs (st.s DID) = [] ∧ aU T st l = some r)) (m : Mem) : COk P f args m r :=
 ⟨enters_of hf hn hb, hr, fun m' _ => KV hT hf hb hl (fun a ha => by have := List.all_eq_true.1 hd a ha; simp only [Bool.and_eq_true] at this; simpa using this.1) (fun a ha l e => by have := List.all_eq_true.1 hd a ha; subst e; simp at this) (of_decide_eq_true hle).1 (of_decide_eq_true hle).2 hW m'⟩
theorem aP {k : Nat} (h : k + 1 < 9223372036854775808) : IntKind.i64.wrap ((k : Int) + 1) = ((k + 1 : Nat) : Int) := by
 have := rU h;simpa using this
theorem Cw {k : Nat} (h : k < 9223372036854775808) : IntKind.i64.wrap ((k : Int) - 1) = (k : Int) - 1 := by
 cases k with
 | zero => rfl
 | succ j => rw [qL]; exact rU (by omega)
theorem wf_i64 {n : Int} (h1 : -9223372036854775808 ≤ n) (h2 : n ≤ 9223372036854775807) : (Lit.int .i64 n).wf = true := by
 exact Wz
theorem bA {α β : Type} {f : α → β} {l : List α} {k : Nat} {x : α} (h : l[k]? = some x) : (l.map f)[k]? = some (f x) := by simp [h]
theorem exs : (∀ (α : Type) (l : List α) (i : Nat), l.toArray[i]? = l[i]?) ∧ (∀ (α : Type) (a : α) (l : List α) (i : Nat), (a :: l)[i + 1]? = l[i]?) ∧ (∀ (α : Type) (a : α) (l : List α), (a :: l)[0]? = some a) ∧
 (∀ (α β : Type) (a : α) (f : α → Option β), (some a).bind f = f a) ∧ (∀ (α : Type) (l : List α), l.toArray.size = l.length) ∧ (∀ (α β : Type) (f : α → β) (a : α) (l : List α), (a :: l).map f = f a :: l.map f) ∧ (∀ (α β : Type) (f : α → β), ([] : List α).map f = []) ∧
 (∀ (α : Type) (l : List α), l.drop 0 = l) ∧ (∀ (α : Type) (a : α) (l : List α) (i : Nat), (a :: l).drop (i + 1) = l.drop i) ∧ (∀ (α : Type) (i : Nat), ([] : List α).drop i = []) ∧
 (∀ (α : Type) (a : α) (l : List α) (i : Nat), (a :: l).take (i + 1) = a :: l.take i) ∧ (∀ (α : Type) (l : List α), l.take 0 = []) ∧ (∀ (α : Type) (i : Nat), ([] : List α).take i = []) ∧ (∀ (α : Type) (a : α) (l : List α), (a :: l).head? = some a) ∧
 (∀ (α : Type) (a : α) (n : Nat), List.replicate (n + 1) a = a :: List.replicate n a) ∧ (∀ (α : Type) (a : α), List.replicate 0 a = []) ∧ (∀ (α : Type) (l : List α) (r : List (List α)), (l :: r).flatten = l ++ r.flatten) ∧ (∀ (α : Type), ([] : List (List α)).flatten = []) ∧
 (∀ (α : Type) (a : α) (l : List α), (a :: l).length = l.length + 1) ∧ (∀ (α : Type), ([] : List α).length = 0) ∧ (∀ (α β : Type) (f : α → β) (l : List α), (l.map f).length = l.length) ∧ (∀ (α : Type) (l : List α), [] ++ l = l) ∧ (∀ (α : Type) (a : α) (l r : List α), a :: l ++ r = a :: (l ++ r)) ∧ (∀ (α : Type) (l : List α), l ++ [] = l) ∧
 (∀ (α β : Type) (f : α → β) (a : α), (some a).map f = some (f a)) ∧ (∀ (α β : Type) (f : α → β), (none : Option α).map f = none) ∧ (∀ n : Nat, 0 * n = 0) ∧ (∀ n : Nat, 1 * n = n) ∧ (∀ n : Nat, n * 1 = n) ∧ (∀ n : Nat, 0 + n = n) ∧ (∀ n : Nat, n + 0 = n) ∧ (∀ n : Nat, (n : Int).toNat = n) ∧ (∀ n : Nat, (0 ≤ (n : Int)) = True) ∧
 (∀ p : Prop, (p ∨ True) = True) ∧ (∀ p : Prop, (True ∧ p) = p) ∧ (∀ p : Prop, (p ∧ True) = p) ∧ (∀ p : Prop, (p ∧ p) = p) ∧ (∀ (α : Type) (a b : α), (if True then a else b) = a) ∧ (∀ (α : Type) (a b : α), (if False then a else b) = b) ∧ ((!true) = false) ∧ ((!false) = true) :=
 ⟨fun _ _ _ => by simp, fun _ _ _ _ => rfl, fun _ _ _ => rfl, fun _ _ _ _ => rfl, fun _ _ => rfl, fun _ _ _ _ _ => rfl, fun _ _ _ => rfl, fun _ _ => rfl, fun _ _ _ _ => rfl, fun _ _ => by simp, fun _ _ _ _ => rfl, fun _ _ => by simp, fun _ _ => by simp, fun _ _ _ => rfl,
   fun _ _ _ => rfl, fun _ _ => rfl, fun _ _ _ => by simp, fun _ => rfl, fun _ _ _ => rfl, fun _ => rfl, fun _ _ _ _ => by simp, fun _ _ => rfl, fun _ _ _ _ => rfl, fun _ _ => by simp, fun _ _ _ _ => rfl, fun _ _ _ => rfl, fun _ => by simp, fun _ => by simp, fun _ => by simp, fun _ => by simp, fun _ => rfl, fun _ => rfl, fun _ => by simp,
   fun _ => by simp, fun _ => by simp, fun _ => by simp, fun _ => by simp, fun _ _ _ => rfl, fun _ _ _ => rfl, rfl, rfl⟩
theorem Iz (place : Nat → Option (Nat × Nat)) (cells : List C) (i : Nat) (v : Option (List C)) (rest : List (Nat × Option (List C))) : oU place cells ((i, v) :: rest) = match place i, v with
 | some (o, n), some xs => if xs.length = n ∧ o + n ≤ cells.length then oU place (cells.take o ++ (xs ++ cells.drop (o + n))) rest else none
 | _, _ => none := rfl
theorem IX (place : Nat → Option (Nat × Nat)) (cells : List A1) (i : Nat) (v : Option (List A1)) (rest : List (Nat × Option (List A1))) : rF place cells ((i, v) :: rest) = match place i, v with
 | some (o, n), some xs => if xs.length = n ∧ o + n ≤ cells.length then rF place (cells.take o ++ (xs ++ cells.drop (o + n))) rest else none
 | _, _ => none := rfl
theorem Qt (T : Tab) (ty : Nat) (a v : A) (ty0 : TypeId) (cells : List A) : stO T ty a v (.box ty0 cells) = match a, T.ty ty, gG v with
 | .ptr _ off, some (n, _), some l => if l.length = n ∧ off + l.length ≤ cells.length then some (.box ty0 (wm cells off l)) else none
 | _, _, _ => none := rfl
theorem Mr (T : Tab) (ty : Nat) (a v : A) (ty0 : TypeId) (e : Nat) (xs : List (List C)) : stO T ty a v (.mrow ty0 e xs) = match a, T.ty ty, yx v with
 | .eptr _ e' i f, some (n, _), some l => if e' = e ∧ l.length = n ∧ f + l.length ≤ e then (match xs[i]? with | some cs => some (.mrow ty0 e (xs.set i (rG cs f l))) | none => none) else none
 | _, _, _ => none := rfl
theorem NU (T : Tab) (ty : Nat) (a v : A) (ty0 : TypeId) (xs : List A1) : stO T ty a v (.rows ty0 xs) = match a, T.ty ty, gG v with
 | .eptr _ e i f, some (n, _), some [b] => if e = 1 ∧ n = 1 ∧ f = 0 ∧ i < xs.length then (match b.down with | some y => some (.rows ty0 (xs.set i y)) | none => none) else none
 | _, _, _ => none := rfl
set_option linter.defProp false in
def exa :=
 And.intro (And.intro (And.intro @qv2.eq_17 @qv2.eq_18) (And.intro @A.kill.eq_9 (And.intro @A.kill.eq_10 (And.intro @wF.eq_1 (And.intro @rF.eq_1 (And.intro @IX (And.intro @Iz (And.intro @Qt (And.intro @Mr @NU))))))))) (And.intro (And.intro (And.intro (And.intro (And.intro (And.intro (And.intro (And.intro @exec.eq_1 @exec.eq_2) (And.intro @Jw.eq_1 @eH.eq_1)) (And.intro (And.intro @wV.eq_1 @kind.eq_1) (And.intro @kind.eq_2 @kind.eq_3))) (And.intro (And.intro (And.intro @kind.eq_4 @kind.eq_5) (And.intro @kind.eq_6 @kind.eq_7)) (And.intro (And.intro @kind.eq_8 @kind.eq_9) (And.intro @kind.eq_10 @kind.eq_11)))) (And.intro (And.intro (And.intro (And.intro @kind.eq_12 @kind.eq_13) (And.intro @kind.eq_14 @kind.eq_15)) (And.intro (And.intro @kind.eq_16 @kind.eq_17) (And.intro @kind.eq_18 @kind.eq_19))) (And.intro (And.intro (And.intro @kind.eq_20 @kind.eq_21) (And.intro @kind.eq_22 @kind.eq_23)) (And.intro (And.intro @kind.eq_24 @kind.eq_25) (And.intro @qv.eq_1 (And.intro @qv1.eq_1 @qv1.eq_2)))))) (And.intro (And.intro (And.intro (And.intro (And.intro @qv1.eq_3 @qv1.eq_4) (And.intro @qv1.eq_5 @qv1.eq_6)) (And.intro (And.intro @qv1.eq_7 @qv1.eq_8) (And.intro @qv1.eq_9 @qv1.eq_10))) (And.intro (And.intro (And.intro @qv1.eq_11 @qv1.eq_12) (And.intro @qv1.eq_13 @qv1.eq_14)) (And.intro (And.intro @qv1.eq_15 @qv1.eq_16) (And.intro @qv1.eq_17 @qv1.eq_18)))) (And.intro (And.intro (And.intro (And.intro @qv1.eq_19 @qv2.eq_1) (And.intro @qv2.eq_2 @qv2.eq_3)) (And.intro (And.intro @qv2.eq_4 @qv2.eq_5) (And.intro @qv2.eq_6 @qv2.eq_7))) (And.intro (And.intro (And.intro @qv2.eq_8 @qv2.eq_9) (And.intro @qv2.eq_10 @qv2.eq_11)) (And.intro (And.intro @qv2.eq_12 @qv2.eq_13) (And.intro @qv2.eq_14 (And.intro @qv2.eq_15 @qv2.eq_16))))))) (And.intro (And.intro (And.intro (And.intro (And.intro (And.intro @stO.eq_1 @stO.eq_2) (And.intro @stO.eq_3 @stO.eq_4)) (And.intro (And.intro @stO.eq_5 @stO.eq_6) (And.intro @stO.eq_7 @qM.eq_1))) (And.intro (And.intro (And.intro @qM.eq_2 @qM.eq_3) (And.intro @yx.eq_1 @yx.eq_2)) (And.intro (And.intro @yx.eq_3 @yx.eq_4) (And.intro @yx.eq_5 @rG.eq_1)))) (And.intro (And.intro (And.intro (And.intro @eqNil.eq_1 @eqNil.eq_2) (And.intro @eqNil.eq_3 @eqNil.eq_4)) (And.intro (And.intro @eqNil.eq_5 @eqNil.eq_6) (And.intro @eqNil.eq_7 @eqNil.eq_8))) (And.intro (And.intro (And.intro @eqNil.eq_9 @eqNil.eq_10) (And.intro @eqNil.eq_11 @eqNil.eq_12)) (And.intro (And.intro @eqNil.eq_13 @zJ.eq_1) (And.intro @zJ.eq_2 (And.intro @zJ.eq_3 @mG.eq_1)))))) (And.intro (And.intro (And.intro (And.intro (And.intro @mG.eq_2 @mG.eq_3) (And.intro @A.down.eq_1 @A.down.eq_2)) (And.intro (And.intro @A.down.eq_3 @A.down.eq_4) (And.intro @A.down.eq_5 @A.down.eq_6))) (And.intro (And.intro (And.intro @A.down.eq_7 @A.down.eq_8) (And.intro @A.down.eq_9 @A1.up.eq_1)) (And.intro (And.intro @A1.up.eq_2 @A1.up.eq_3) (And.intro @A1.up.eq_4 @A1.up.eq_5)))) (And.intro (And.intro (And.intro (And.intro @A1.up.eq_6 @A1.up.eq_7) (And.intro @A1.up.eq_8 @oQ.eq_1)) (And.intro (And.intro @oQ.eq_2 @toR.eq_1) (And.intro @toR.eq_2 @ev.eq_1))) (And.intro (And.intro (And.intro @ev.eq_2 @ev.eq_3) (And.intro @ev.eq_4 @eY.eq_1)) (And.intro (And.intro @eY.eq_2 @dW.eq_1) (And.intro @ofConst.eq_1 (And.intro @ofConst.eq_2 @ofConst.eq_3)))))))) (And.intro (And.intro (And.intro (And.intro (And.intro (And.intro (And.intro @ofConst.eq_4 @ofConst.eq_5) (And.intro @ofConst.eq_6 @ofConst.eq_7)) (And.intro (And.intro @ofConst.eq_8 @ofConst.eq_9) (And.intro @gG.eq_1 @gG.eq_2))) (And.intro (And.intro (And.intro @gG.eq_3 @gG.eq_4) (And.intro @gG.eq_5 @gG.eq_6)) (And.intro (And.intro @gG.eq_7 @gG.eq_8) (And.intro @gG.eq_9 @gG.eq_10)))) (And.intro (And.intro (And.intro (And.intro @gG.eq_11 @gG.eq_12) (And.intro @j3.eq_1 @j3.eq_2)) (And.intro (And.intro @asC.eq_1 @asC.eq_2) (And.intro @asC.eq_3 @asC.eq_4))) (And.intro (And.intro (And.intro @asC.eq_5 @qJ.eq_1) (And.intro @qJ.eq_2 @ld.eq_1)) (And.intro (And.intro @ldR.eq_1 @ldR.eq_2) (And.intro @bin.eq_1 (And.intro @bin.eq_2 @bin.eq_3)))))) (And.intro (And.intro (And.intro (And.intro (And.intro @bin.eq_4 @bin.eq_5) (And.intro @bin.eq_6 @bin.eq_7)) (And.intro (And.intro @iX.eq_1 @iX.eq_2) (And.intro @iX.eq_3 @iX.eq_4))) (And.intro (And.intro (And.intro @iX.eq_5 @iX.eq_6) (And.intro @iX.eq_7 @iX.eq_8)) (And.intro (And.intro @iX.eq_9 @iX.eq_10) (And.intro @iX.eq_11 @iX.eq_12)))) (And.intro (And.intro (And.intro (And.intro @iX.eq_13 @iX.eq_14) (And.intro @iX.eq_15 @iX.eq_16)) (And.intro (And.intro @oo.eq_1 @oo.eq_2) (And.intro @oo.eq_3 @oo.eq_4))) (And.intro (And.intro (And.intro @oo.eq_5 @oo.eq_6) (And.intro @oo.eq_7 @oo.eq_8)) (And.intro (And.intro @vB.eq_1 @vB.eq_2) (And.intro @vB.eq_3 (And.intro @zm.eq_1 @tV.eq_1))))))) (And.intro (And.intro (And.intro (And.intro (And.intro (And.intro @tV.eq_2 @tV.eq_3) (And.intro @wm.eq_1 @oU.eq_1)) (And.intro (And.intro @oU.eq_2 @oU.eq_3) (And.intro @yH.eq_1 @chunks.eq_1))) (And.intro (And.intro (And.intro @chunks.eq_2 @jP.eq_1) (And.intro @jP.eq_2 @jP.eq_3)) (And.intro (And.intro @A.kill.eq_1 @A.kill.eq_2) (And.intro @A.kill.eq_3 @A.kill.eq_4)))) (And.intro (And.intro (And.intro (And.intro @A.kill.eq_5 @A.kill.eq_6) (And.intro @A.kill.eq_7 @A.kill.eq_8)) (And.intro (And.intro @A.kill.eq_9 @A.kill.eq_10) (And.intro @O.kill.eq_1 @O.kill.eq_2))) (And.intro (And.intro (And.intro @O.kill.eq_3 @O.kill.eq_4) (And.intro @gP.eq_1 @toKey.eq_1)) (And.intro (And.intro @toKey.eq_2 (And.intro @toKey.eq_3 @toKey.eq_4)) (And.intro (And.intro @jW.eq_1 (And.intro @BX.eq_1 (And.intro @BX.eq_2 (And.intro @BX.eq_3 @nH.eq_1)))) (And.intro (And.intro @jW.eq_2 (And.intro @nH.eq_2 @nH.eq_3)) (And.intro @jW.eq_3 @jW.eq_4))))))) (And.intro (And.intro (And.intro (And.intro (And.intro @yu.eq_1 @nL.eq_1) (And.intro @vI.eq_1 @vI.eq_2)) (And.intro (And.intro @vI.eq_3 @eqT.eq_1) (And.intro @eqT.eq_2 @eqT.eq_3))) (And.intro (And.intro (And.intro @eqT.eq_4 @FI.eq_1) (And.intro @FI.eq_2 @FI.eq_3)) (And.intro (And.intro @Ci.eq_1 @Ci.eq_2) (And.intro @ak (And.intro @yj @aD))))) (And.intro (And.intro (And.intro (And.intro @aC @KO) (And.intro @QA @bB)) (And.intro (And.intro @aB @wf_i64) (And.intro @decide_true @decide_false))) (And.intro (And.intro (And.intro @LV @K4) (And.intro @ab6 @abO)) (And.intro (And.intro @eG exs) (And.intro tabs (And.intro @vO.eq_1 @vO.eq_2)))))))))
set_option linter.defProp false in
def exb := And.intro exa (And.intro (@beq_self_eq_true.{0}) (@ByteArray.size.eq_1))
section
variable {P : Go.Program} {T : Tab} {kp : Nat → Prop} {base : Nat} {ops : Array Oper}
theorem xr0 {l : List Oper} {st st' : St} (h : exec T base ops l st = some st' := by (simp only [exb, simprocAttr]; rfl)) : RunL P T kp base ops l st st' := aR h
theorem xe0 {l : List Oper} {st st' : St} {k : St → Prop} (hk : k st') (h : exec T base ops l st = some st' := by (simp only [exb, simprocAttr]; rfl)) : je P T kp base ops l st k := aA h hk
theorem xs0 {l : List Oper} {st st1 : St} {k : St → Prop} (i : Nat) (hk : je P T kp base ops (l.drop i) st1 k) (h : exec T base ops (l.take i) st = some st1 := by (simp only [exb, simprocAttr]; rfl)) : je P T kp base ops l st k := aj i h hk
theorem W.g {R : Ref} {n : Nat} {ds : List Deferred} {st st' : St} {K : Exit → St → Prop} {id : Nat} (hk : K .normal st') (h : exec tab 0 ops ops.toList st = some st' := by (simp only [exb, simprocAttr]; rfl)) (hd : jX n ops = true := by decide) : W Tryz.prog R n ds st (.region id ops false) K := W.region ah 0 hd (aR h) hk
theorem W.ct {R : Ref} {n : Nat} {ds : List Deferred} {st : St} {K : Exit → St → Prop} {c : Operand} {x y : Code} {b : Bool} (hc : ev st.s c = .c (.bool b)) (ht : W P R n ds st x K) (hn : ¬ b = false := by simp) : W P R n ds st (.cond c x y) K := W.cond hc (fun _ => ht) (fun h => absurd h hn)
theorem W.cf {R : Ref} {n : Nat} {ds : List Deferred} {st : St} {K : Exit → St → Prop} {c : Operand} {x y : Code} {b : Bool} (hc : ev st.s c = .c (.bool b)) (ht : W P R n ds st y K) (hn : ¬ b = true := by simp) : W P R n ds st (.cond c x y) K := W.cond hc (fun h => absurd h hn) (fun _ => ht)
theorem dnl {a b : Nat} (h : decide ((a : Int) < (b : Int)) = false) : ¬ a < b := by simpa using h
theorem dtl {a b : Nat} (h : decide ((a : Int) < (b : Int)) = true) : a < b := by simpa using h
theorem W.rt {p q : Prop} (h : q) (g : q → p := by (intro zh; exact W.ret ⟨.inr rfl, by rfl, zh⟩)) : p := g h
theorem W.q {Q : Prop} {R : Ref} {n : Nat} {ds : List Deferred} {st : St} {c : Code} {K : Exit → St → Prop} (h : Q) (g : Q → W Tryz.prog R n ds st c K := by (first | exact W.seq | exact W.block | exact W.skip | exact W.exit)) : W Tryz.prog R n ds st c K := g h
theorem W.go {Q : Prop} {R : Ref} {n : Nat} {ds : List Deferred} {st : St} {c : Code} {K : Exit → St → Prop} (h : Q) (g : Q → W Tryz.prog R n ds st c K := by (intro h; (repeat (first | refine W.seq ?_ | refine W.g ?_ | refine W.block ?_ | refine W.skip ?_ | refine W.exit ?_)); exact h)) : W Tryz.prog R n ds st c K := g h
theorem W.bl {Q : Prop} {R : Ref} {n : Nat} {ds : List Deferred} {st : St} {c : Code} {K : Exit → St → Prop} (h : Q) (g : Q → W Tryz.prog R n ds st c K := by (intro h; (repeat (first | refine W.seq ?_ | refine W.block ?_ | refine W.skip ?_)); exact h)) : W Tryz.prog R n ds st c K := g h
theorem cw1 {m : Mem} {a : A} : Cvs m [a] [a] := bg dG jL
theorem cw2 {m : Mem} {a b : A} : Cvs m [a, b] [a, b] := bg dG cw1
theorem cw3 {m : Mem} {a b c : A} : Cvs m [a, b, c] [a, b, c] := bg dG cw2
theorem cw4 {m : Mem} {a b c d : A} : Cvs m [a, b, c, d] [a, b, c, d] := bg dG cw3
theorem cw5 {m : Mem} {a b c d e : A} : Cvs m [a, b, c, d, e] [a, b, c, d, e] := bg dG cw4
theorem cw6 {m : Mem} {a b c d e f : A} : Cvs m [a, b, c, d, e, f] [a, b, c, d, e, f] := bg dG cw5
theorem X4 {kp : Nat → Prop} {st st' : St} (h5 : ∀ j, kp j → (st'.m j).isSome = true) (h1 : SLe st.s st'.s := by (repeat (first | exact aM _ | exact aH _ | refine aL ?_ (by first | rfl | (simp only [ak, aD, aC, Nat.reduceEqDiff, reduceIte]; done))))) (h2 : MLe st.m st'.m := by (repeat (first | exact aV _ | exact aF _ | refine aT ?_ (by first | rfl | (simp only [ak, aB, Nat.reduceEqDiff, reduceIte]; done))))) (h3 : SWf st'.m st'.s := by (repeat (first | exact bP _ | refine bQ ?_ (by simp [A.ids, ak])))) (h4 : MWf st'.m st'.m := by (repeat (first | exact d9 _ | refine dS ?_ (by simp [A.ids, O.ids, ak])))) (h6 : dfs (st'.s DID) = dfs (st.s DID) := by rfl) : Le kp st st' := dU h1 h2 h3 h4 h5 h6
theorem Ui {kp : Nat → Prop} {st st' : St} (h5 : ∀ j, kp j → (st'.m j).isSome = true) (h1 : SLe st.s st'.s := by (repeat (first | exact aM _ | exact aH _ | refine aL ?_ (by first | rfl | (simp only [ak, aD, aC, Nat.reduceEqDiff, reduceIte, aP (show k + 1 < 9223372036854775808 by omega)]; done))))) (h2 : MLe st.m st'.m := by (repeat (first | exact aV _ | exact aF _ | refine aT ?_ (by first | rfl | (simp only [ak, aB, Nat.reduceEqDiff, reduceIte, aP (show k + 1 < 9223372036854775808 by omega)]; done))))) (h3 : SWf st'.m st'.s := by (repeat (first | exact bP _ | refine bQ ?_ (by simp [A.ids, ak])))) (h4 : MWf st'.m st'.m := by (repeat (first | exact d9 _ | refine dS ?_ (by simp [A.ids, O.ids, ak])))) (h6 : dfs (st'.s DID) = dfs (st.s DID) := by rfl) : Le kp st st' := dU h1 h2 h3 h4 h5 h6
theorem aai {kp : Nat → Prop} {st st' : St} (h5 : ∀ j, kp j → (st'.m j).isSome = true) (h1 : SLe st.s st'.s := by (repeat (first | exact aM _ | exact aH _ | refine aL ?_ (by first | rfl | (simp only [ak, aD, aC, Nat.reduceEqDiff, reduceIte, aP (show j + 1 < 9223372036854775808 by omega)]; done))))) (h2 : MLe st.m st'.m := by (repeat (first | exact aV _ | exact aF _ | refine aT ?_ (by first | rfl | (simp only [ak, aB, Nat.reduceEqDiff, reduceIte, aP (show j + 1 < 9223372036854775808 by omega)]; done))))) (h3 : SWf st'.m st'.s := by (repeat (first | exact bP _ | refine bQ ?_ (by simp [A.ids, ak])))) (h4 : MWf st'.m st'.m := by (repeat (first | exact d9 _ | refine dS ?_ (by simp [A.ids, O.ids, ak])))) (h6 : dfs (st'.s DID) = dfs (st.s DID) := by rfl) : Le kp st st' := dU h1 h2 h3 h4 h5 h6
theorem aae {kp : Nat → Prop} {st st' : St} (h5 : ∀ j, kp j → (st'.m j).isSome = true) (h1 : SLe st.s st'.s := by (repeat (first | exact aM _ | exact aH _ | refine aL ?_ (by first | rfl | (simp only [ak, aD, aC, Nat.reduceEqDiff, reduceIte, aP (show i + 1 < 9223372036854775808 by omega)]; done))))) (h2 : MLe st.m st'.m := by (repeat (first | exact aV _ | exact aF _ | refine aT ?_ (by first | rfl | (simp only [ak, aB, Nat.reduceEqDiff, reduceIte, aP (show i + 1 < 9223372036854775808 by omega)]; done))))) (h3 : SWf st'.m st'.s := by (repeat (first | exact bP _ | refine bQ ?_ (by simp [A.ids, ak])))) (h4 : MWf st'.m st'.m := by (repeat (first | exact d9 _ | refine dS ?_ (by simp [A.ids, O.ids, ak])))) (h6 : dfs (st'.s DID) = dfs (st.s DID) := by rfl) : Le kp st st' := dU h1 h2 h3 h4 h5 h6
theorem iM {kp : Nat → Prop} {st st' : St} (h1 : SLe st.s st'.s) (h2 : MLe st.m st'.m) (h5 : ∀ j, kp j → (st'.m j).isSome = true) (h3 : SWf st'.m st'.s := by (repeat (first | exact bP _ | refine bQ ?_ (by simp [A.ids, ak])))) (h4 : MWf st'.m st'.m := by (repeat (first | exact d9 _ | refine dS ?_ (by simp [A.ids, O.ids, ak])))) (h6 : dfs (st'.s DID) = dfs (st.s DID) := by rfl) : Le kp st st' := dU h1 h2 h3 h4 h5 h6
end
def aJ (s : Slot) : List C := [.str s.type, .str s.name]
mutual
def cExpr : Expr → List C
 | ⟨k, n, nm, kids⟩ => [.int .i64 k, .int .i64 n, .str nm, .sl (pK kids)]
def pK : List Expr → List (List C)
 | [] => []
 | x :: l => cExpr x :: pK l
end
mutual
def aW : Stmt → List C
 | ⟨k, n, ty, nm, es, th, el⟩ => [.int .i64 k, .int .i64 n, .str ty, .str nm, .sl (pK es), .sl (aO th), .sl (aO el)]
def aO : List Stmt → List (List C)
 | [] => []
 | x :: l => aW x :: aO l
end
def aI (m : Method) : List C := [.str m.type, .str m.name, .sl (m.params.map aJ), .sl (aO m.body)]
def au (c : Class) : List C := [.str c.name, .str c.super, .sl (c.fields.map aJ), .sl (c.methods.map aI)]
def bI (p : Program) : List C := [.sl (p.classes.map au), .sl (aO p.main)]
theorem aX (l : List Expr) : pK l = l.map cExpr := by induction l with | nil => rfl | cons x l ih => simp [pK, ih]
theorem bf (l : List Stmt) : aO l = l.map aW := by induction l with | nil => rfl | cons x l ih => simp [aO, ih]
def dB (name : ByteArray) (c : Class) : Bool := c.name.toList == name.toList
def dX (cs : List Class) (name : ByteArray) : Class := (cs.find? (dB name)).getD ⟨⟨#[]⟩, ⟨#[]⟩, [], []⟩
def wT (cs : List Class) (name : ByteArray) : List C := au (dX cs name)
theorem oF {α : Type} {p : α → Bool} {l : List α} {k : Nat} {x : α} (h : (l.take k).find? p = none) (hx : l[k]? = some x) : (p x = true → l.find? p = some x) ∧ (p x = false → (l.take (k + 1)).find? p = none) := by
 constructor
 ·intro hp;have e : l = l.take k ++ (x :: l.drop (k + 1)) := by
   rw [← drop_of_getElem? hx, List.take_append_drop]
  rw [e, List.find?_append, h];simp [hp]
 ·intro hp;rw [List.take_add_one, hx, List.find?_append, h];simp [hp]
theorem find_ok (cs : List Class) (mn : C) (name : ByteArray) (hlen : cs.length ≤ 1000000000000) (m : Mem) : COk Tryz.prog 77 [.agg [.sl (cs.map au), mn], .c (.str name)] m (.tup [(true, wT cs name), (false, [.bool (cs.find? (dB name)).isSome])]) := by
 refine (aS ah Tryz.func77 (by kernel_rfl) rfl rfl (by rfl) (by rfl) (by rfl) (fun R hkeep => ?_) m);refine W.go ?_;refine W.loop (ι := Nat) (fun k => ⟨upd (upd (upd (upd (upd (fun _ => .top) 1 (.c (.str name))) 4 (.ptr 4 0)) 9 (.c (.sl (cs.map au)))) 10 (.c (.int .i64 cs.length))) 11 (.c (.int .i64 k)), 
  upd Mem.nil 4 (some (.box 42 [.c (.str ⟨#[]⟩), .c (.str ⟨#[]⟩), .nil, .nil]))⟩) (fun k => k ≤ cs.length ∧ (cs.take k).find? (dB name) = none) (fun k => cs.length - k) 0 ?start ⟨Nat.zero_le _, rfl⟩ ?round
 case start =>
  exact Ae
 case round =>
  rintro k ⟨hk, hall⟩;refine W.go ?_;refine W.cond rfl ?_ ?_
  ·intro hlt;replace hlt := dtl hlt;obtain ⟨x, hx⟩ : ∃ x, cs[k]? = some x := ⟨_, List.getElem?_eq_getElem hlt⟩
   repeat (first | refine W.q ?_ | refine W.g ?_ JQ)
   refine W.cond rfl ?_ ?_
   ·intro heq;refine zm6 ?_;simp only [Tryz.f77, aU, ay, toT, fin, exb, simprocAttr];simp [(oF hall hx).1 heq, wT, dX, au]
   ·exact Ul
  ·intro hge;replace hge := dnl hge;obtain rfl : k = cs.length := by omega
   rw [List.take_length] at hall;refine zm6 ?_;simp only [Tryz.f77, aU, ay, toT, fin, exb, simprocAttr];simp [hall, wT, dX, au]
def gN (cs : List Class) : Nat → ByteArray → List ByteArray
 | 0, _ => []
 | k + 1, name => match cs.find? (dB name) with
   | none => []
   | some c => name :: gN cs k c.super
def cStr (s : ByteArray) : List C := [.str s]
theorem Gb (cs : List Class) (mn : C) (name : ByteArray) (hlen : cs.length ≤ 1000000000) (m : Mem) : COk Tryz.prog 41 [.agg [.sl (cs.map au), mn], .c (.str name)] m (.c (.sl ((gN cs (cs.length + 1) name).map cStr))) := by
 refine (aS ah Tryz.func41 (by kernel_rfl) rfl rfl (by rfl) (by rfl) (by rfl) (fun R hkeep => ?_) m)
 repeat (first | refine W.q ?_ | refine W.g ?_ (by simp only [exb, simprocAttr, aP (show cs.length + 1 < 9223372036854775808 by omega)]; rfl))
 refine W.mZ 5 5 9 1 rfl rfl ?_;refine W.loop (ι := Nat × ByteArray × List ByteArray) (fun i => ⟨upd (upd (upd (upd (upd (fun _ => .top) 1 (.c (.str i.2.1))) 2 (.ptr 2 0)) 5 (.own 5)) 11 (.c (.int .i64 ((cs.length + 1 : Nat) : Int)))) 12 (.c (.int .i64 i.1)), 
  upd (upd Mem.nil 2 (some (.box 25 [.c (.sl (cs.map au)), .c mn]))) 5 (some (.arr 9 1 (i.2.2.map cStr)))⟩) (fun i => i.1 ≤ cs.length + 1 ∧ i.2.2.length = i.1 ∧ gN cs (cs.length + 1) name = i.2.2 ++ gN cs (cs.length + 1 - i.1) i.2.1) (fun i => cs.length + 1 - i.1) (0, name, []) ?start ⟨Nat.zero_le _, rfl, rfl⟩ ?round
 case start =>
  exact Ae
 case round =>
  rintro ⟨k, nm, acc⟩ ⟨hk, hl, hall⟩;dsimp only at hk hl hall ⊢;refine W.go ?_;refine W.cond rfl ?_ ?_
  ·intro hlt;replace hlt := dtl hlt;refine W.go ?_;cases hf : cs.find? (dB nm) with
   | none =>
     refine zm1 ?_;refine aaO ?_;refine aA (by simp only [exb, simprocAttr, wT, hf, au, Option.isSome_none]; rfl) ?_;refine W.go ?_;refine W.cond rfl ?_ ?_
     ·intro _;refine zm6 ?_;simp only [Tryz.f41, aU, ay, toT, fin, exb, simprocAttr];have e : cs.length + 1 - k = (cs.length - k) + 1 := by omega
      rw [hall, e];simp [gN, hf]
     ·intro h; cases h
   | some c =>
     refine zm1 ?_;refine aaO ?_;refine aA (by simp only [exb, simprocAttr, wT, hf, au, Option.isSome_some]; rfl) ?_;refine W.go ?_;refine W.cond rfl ?_ ?_
     ·intro h; cases h
     ·intro _;refine W.go ?_;refine zm1 ?_;refine xs0 3 ?_;refine cK ah 5 rfl rfl rfl rfl rfl rfl rfl rfl nR rfl rfl rfl rfl (cu hkeep) (by simp) (by simp; omega) (by decide) ?_;refine mU ?_;refine ⟨(k + 1, (dX cs nm).super, acc ++ [nm]), ⟨hlt, by simp [hl], ?_⟩, by dsimp only; omega, ?_⟩
      ·have e : cs.length + 1 - k = (cs.length + 1 - (k + 1)) + 1 := by omega
       rw [hall, e];simp [gN, hf, dX]
      refine iM ?sle ?mle (aQ hkeep)
      case mle => repeat (first | exact aV _ | exact aF _ | refine aT ?_ (by first | rfl | (simp only [ak, aB, Nat.reduceEqDiff, reduceIte, aP (show k + 1 < 9223372036854775808 by omega), List.map_append, List.map_cons, List.map_nil, cStr]; done)))
      case sle => repeat (first | exact aM _ | exact aH _ | refine aL ?_ (by first | rfl | (simp only [ak, aD, aC, Nat.reduceEqDiff, reduceIte, aP (show k + 1 < 9223372036854775808 by omega), List.map_append, List.map_cons, List.map_nil, cStr]; done)))
  ·intro hge;replace hge := dnl hge;obtain rfl : k = cs.length + 1 := by omega
   refine zm6 ?_;simp only [Tryz.f41, aU, ay, toT, fin, exb, simprocAttr];rw [hall];simp [gN]
def Bz (l : List Slot) (i k : Nat) : Bool := match l[i]?, l[k]? with | some x, some y => x.name.toList == y.name.toList | _, _ => false
def jO (l : List Slot) : Bool := (List.range l.length).any fun i => (List.range i).any fun k => Bz l i k
theorem sZ {p : Nat → Bool} {n i : Nat} (hi : i < n) (h : p i = true) : (List.range n).any p = true := List.any_eq_true.2 ⟨i, List.mem_range.2 hi, h⟩
theorem uX {p : Nat → Bool} {n : Nat} (h : ∀ i < n, p i = false) : (List.range n).any p = false := List.any_eq_false.2 fun i hi => by simp [h i (List.mem_range.1 hi)]
theorem F5 (l : List Slot) (hlen : l.length ≤ 1000000000000) (m : Mem) : COk Tryz.prog 42 [.c (.sl (l.map aJ))] m (.c (.bool (jO l))) := by
 refine (aS ah Tryz.func42 (by kernel_rfl) rfl rfl (by rfl) (by rfl) (by rfl) (fun R hkeep => ?_) m);refine W.go ?_;refine W.loop (ι := Nat) (fun i => ⟨upd (upd (upd (fun _ => .top) 0 (.c (.sl (l.map aJ)))) 6 (.c (.int .i64 l.length))) 7 (.c (.int .i64 i)), Mem.nil⟩)
  (fun i => i ≤ l.length ∧ ∀ j < i, (List.range j).any (Bz l j) = false) (fun i => l.length - i) 0 ?start ⟨Nat.zero_le _, fun j hj => by omega⟩ ?round
 case start =>
  exact Ae
 case round =>
  rintro i ⟨hi, hall⟩;refine W.go ?_;refine W.cond rfl ?_ ?_
  ·intro hlt;replace hlt := dtl hlt;obtain ⟨x, hx⟩ : ∃ x, l[i]? = some x := ⟨_, List.getElem?_eq_getElem hlt⟩;refine W.go ?_;refine W.loop (ι := Nat) (fun k => ⟨upd (upd (upd (upd (upd (upd (fun _ => .top) 0 (.c (.sl (l.map aJ)))) 6 (.c (.int .i64 l.length))) 7 (.c (.int .i64 i))) 3 (.c (.int .i64 i))) 10 (.c (.int .i64 i))) 11 (.c (.int .i64 k)), Mem.nil⟩)
    (fun k => k ≤ i ∧ ∀ j < k, Bz l i j = false) (fun k => i - k) 0 ?start ⟨Nat.zero_le _, fun j hj => by omega⟩ ?round
   case start =>
    exact Ae
   case round =>
    rintro k ⟨hk, hin⟩;refine W.go ?_;refine W.cond rfl ?_ ?_
    ·intro hlk;replace hlk := dtl hlk;obtain ⟨y, hy⟩ : ∃ y, l[k]? = some y := ⟨_, List.getElem?_eq_getElem (by omega)⟩;have he : Bz l i k = (x.name.toList == y.name.toList) := by simp [Bz, hx, hy]
     refine W.go ?_;refine zm5 ?_;refine aA Wm ?_;refine W.cond rfl ?_ ?_
     ·intro heq;refine zm6 ?_;simp only [Tryz.f42, aU, ay, toT, fin, exb, simprocAttr];have : jO l = true := sZ hlt (sZ hlk (he.trans heq));rw [this]
     ·exact X9
    ·exact ZK
  ·intro hge;replace hge := dnl hge;obtain rfl : i = l.length := by omega
   refine zm6 ?_;simp only [Tryz.f42, aU, ay, toT, fin, exb, simprocAttr];have : jO l = false := uX hall;rw [this]
def kS (l : List Slot) : List (List UInt8) := l.map fun s => s.type.toList
def vJ (x y : Method) : Bool := (x.type.toList == y.type.toList) && decide (kS x.params = kS y.params)
theorem KZ {l m : List Slot} {i : Nat} {x y : Slot} (hx : l[i]? = some x) (hy : m[i]? = some y) (h : (x.type.toList == y.type.toList) = false) : decide (kS l = kS m) = false := by
 rw [decide_eq_false_iff_not];intro e;have : (kS l)[i]? = (kS m)[i]? := by rw [e]
 simp [kS, hx, hy] at this;simp [this] at h
theorem K7 {l m : List Slot} (hl : l.length = m.length) (h : ∀ (i : Nat) x y, l[i]? = some x → m[i]? = some y → (x.type.toList == y.type.toList) = true) : decide (kS l = kS m) = true := by
 rw [decide_eq_true_iff];apply List.ext_getElem?;intro i;simp only [kS, List.getElem?_map];by_cases hi : i < l.length
 ·rw [List.getElem?_eq_getElem hi, List.getElem?_eq_getElem (by omega)];have := h i _ _ (List.getElem?_eq_getElem hi) (List.getElem?_eq_getElem (by omega : i < m.length));simpa using this
 ·exact OB
theorem RG (x y : Method) (hlen : x.params.length ≤ 1000000000000) (m : Mem) : COk Tryz.prog 79 [.agg (aI x), .agg (aI y)] m (.c (.bool (vJ x y))) := by
 refine (aS ah Tryz.func79 (by kernel_rfl) rfl rfl (by rfl) (by rfl) (by rfl) (fun R hkeep => ?_) m);refine Xx ?_;refine zm1 ?_;cases ht : (x.type.toList == y.type.toList) with
 | false =>
   refine aA Ug ?_;refine W.go ?_;refine W.cond rfl ?_ ?_
   ·intro _;refine zm6 ?_;simp only [Tryz.f79, aU, ay, toT, fin, exb, simprocAttr];simp [vJ, ht]
   ·intro h; cases h
 | true =>
   refine aA Ug ?_;refine W.go ?_;refine W.cond rfl ?_ ?_
   ·intro hl;refine zm6 ?_;simp only [Tryz.f79, aU, ay, toT, fin, exb, simprocAttr];have : decide (kS x.params = kS y.params) = false := by
     rw [decide_eq_false_iff_not];intro e;have := congrArg List.length e;simp [kS] at this;simp [this] at hl
    simp [vJ, this]
   ·intro hl;have hll : x.params.length = y.params.length := by simp at hl; omega
    refine W.go ?_;refine W.loop (ι := Nat) (fun k => ⟨upd (upd (upd (upd (fun _ => .top) 2 (.ptr 2 0)) 3 (.ptr 3 0)) 22 (.c (.int .i64 x.params.length))) 23 (.c (.int .i64 k)),
     upd (upd Mem.nil 2 (some (.box 44 ((aI x).map .c)))) 3 (some (.box 44 ((aI y).map .c)))⟩)
     (fun k => k ≤ x.params.length ∧ ∀ (i : Nat) u v, i < k → x.params[i]? = some u → y.params[i]? = some v → (u.type.toList == v.type.toList) = true) (fun k => x.params.length - k) 0 ?start ⟨Nat.zero_le _, fun i u v hi => by omega⟩ ?round
    case start =>
     exact Ae
    case round =>
     rintro k ⟨hk, hall⟩;refine Xx ?_;refine W.cond rfl ?_ ?_
     ·intro hlt;replace hlt := dtl hlt;obtain ⟨u, hu⟩ : ∃ u, x.params[k]? = some u := ⟨_, List.getElem?_eq_getElem hlt⟩;obtain ⟨v, hv⟩ : ∃ v, y.params[k]? = some v := ⟨_, List.getElem?_eq_getElem (by omega)⟩;refine W.go ?_;refine zm5 ?_;refine aA (by simp only [exb, simprocAttr, bA hu, bA hv, aJ, aI]; rfl) ?_;refine W.cond rfl ?_ ?_
      ·intro hne;refine zm6 ?_;simp only [Tryz.f79, aU, ay, toT, fin, exb, simprocAttr];simp [vJ, KZ hu hv (by simpa using hne)]
      ·intro heq;refine W.go ?_;refine ⟨k + 1, ⟨hlt, fun i u' v' hi hu' hv' => ?_⟩, by omega, ?_⟩
       ·rcases Nat.lt_succ_iff_lt_or_eq.1 hi with h | h
        ·exact hall i u' v' h hu' hv'
        ·subst h;rw [hu] at hu'; rw [hv] at hv'; cases hu'; cases hv';simpa using heq
       exact O9
     ·intro hge;replace hge := dnl hge;obtain rfl : k = x.params.length := by omega
      refine zm6 ?_;simp only [Tryz.f79, aU, ay, toT, fin, exb, simprocAttr];have := K7 hll fun i u v hu hv => hall i u v (List.getElem?_eq_some_iff.1 hu).1 hu hv
      simp [vJ, ht, this]
def fV (name : ByteArray) (m : Method) : Bool := m.name.toList == name.toList
def eB (cs : List Class) (name : ByteArray) : List ByteArray → Option (Method × ByteArray)
 | [] => none
 | n :: l => match (dX cs n).methods.find? (fV name) with | some x => some (x, n) | none => eB cs name l
def zeroMethod : Method := ⟨⟨#[]⟩, ⟨#[]⟩, [], []⟩
def iR (o : Option (Method × ByteArray)) : List (Bool × List C) := match o with
 | some (x, n) => [(true, aI x), (false, [.str n]), (false, [.bool true])]
 | none => [(true, aI zeroMethod), (false, [.str ⟨#[]⟩]), (false, [.bool false])]
theorem DX {cs : List Class} {name n : ByteArray} {l : List ByteArray} (h : (dX cs n).methods.find? (fV name) = none) : eB cs name (n :: l) = eB cs name l := by simp [eB, h]
theorem CU (cs : List Class) (mn : C) (l : List ByteArray) (name : ByteArray) (hlen : cs.length ≤ 1000000000000) (hl : l.length ≤ 1000000000000) (hm : ∀ n, (dX cs n).methods.length ≤ 1000000000000) (m : Mem) :
 COk Tryz.prog 78 [.agg [.sl (cs.map au), mn], .c (.sl (l.map cStr)), .c (.str name)] m (.tup (iR (eB cs name l))) := by
 refine (aS ah Tryz.func78 (by kernel_rfl) rfl rfl (by rfl) (by rfl) (by rfl) (fun R hkeep => ?_) m)
 refine W.go ?_
 refine W.loop (ι := Nat) (fun k => ⟨upd (upd (upd (upd (upd (upd (fun _ => .top) 2 (.c (.str name))) 3 (.ptr 3 0)) 6 (.ptr 6 0)) 15 (.c (.sl (l.map cStr)))) 16 (.c (.int .i64 l.length))) 17 (.c (.int .i64 k)),
  upd (upd Mem.nil 3 (some (.box 25 [.c (.sl (cs.map au)), .c mn]))) 6 (some (.box 44 [.c (.str ⟨#[]⟩), .c (.str ⟨#[]⟩), .nil, .nil]))⟩)
  (fun k => k ≤ l.length ∧ eB cs name l = eB cs name (l.drop k)) (fun k => l.length - k) 0 ?start ⟨Nat.zero_le _, rfl⟩ ?round
 case start =>
  exact Ae
 case round =>
  rintro k ⟨hk, hall⟩;refine W.go ?_;refine W.cond rfl ?_ ?_
  ·intro hlt;replace hlt := dtl hlt;obtain ⟨n, hn⟩ : ∃ n, l[k]? = some n := ⟨_, List.getElem?_eq_getElem hlt⟩;have hd := drop_of_getElem? hn;have hmn := hm n
   repeat (first | refine W.q ?_ | refine W.g ?_ (by simp only [exb, simprocAttr, bA hn, cStr]; rfl))
   refine zm1 ?_;refine xs0 2 ?_;refine Yz ?_;refine W.loop (ι := Nat) (fun j => ⟨upd (upd (upd (upd (upd (upd (upd (upd (upd (upd (fun _ => .top) 2 (.c (.str name))) 3 (.ptr 3 0)) 6 (.ptr 6 0)) 15 (.c (.sl (l.map cStr)))) 16 (.c (.int .i64 l.length))) 17 (.c (.int .i64 k))) 10 (.c (.str n))) 28 (.c (.sl ((dX cs n).methods.map aI)))) 29 (.c (.int .i64 (dX cs n).methods.length))) 30 (.c (.int .i64 j)),
    upd (upd Mem.nil 3 (some (.box 25 [.c (.sl (cs.map au)), .c mn]))) 6 (some (.box 44 [.c (.str ⟨#[]⟩), .c (.str ⟨#[]⟩), .nil, .nil]))⟩)
    (fun j => j ≤ (dX cs n).methods.length ∧ ((dX cs n).methods.take j).find? (fV name) = none) (fun j => (dX cs n).methods.length - j) 0 ?start ⟨Nat.zero_le _, rfl⟩ ?round
   case start =>
    exact Ae
   case round =>
    rintro j ⟨hj, hin⟩;refine W.go ?_;refine W.cond rfl ?_ ?_
    ·intro hlj;replace hlj := dtl hlj;obtain ⟨x, hx⟩ : ∃ x, (dX cs n).methods[j]? = some x := ⟨_, List.getElem?_eq_getElem hlj⟩
     repeat (first | refine W.q ?_ | refine W.g ?_ TW)
     refine W.cond rfl ?_ ?_
     ·intro heq;refine zm6 ?_;simp only [Tryz.f78, aU, ay, toT, fin, exb, simprocAttr];rw [hall, hd];simp [eB, iR, (oF hin hx).1 heq, aI]
     ·intro hne;refine W.go ?_;refine ⟨j + 1, ⟨hlj, (oF hin hx).2 hne⟩, by omega, ?_⟩;exact PD
    ·intro hge;replace hge := dnl hge;obtain rfl : j = (dX cs n).methods.length := by omega
     rw [List.take_length] at hin;refine W.go ?_;refine ⟨k + 1, ⟨hlt, by rw [hall, hd, DX hin]⟩, by omega, ?_⟩;exact O9
  ·intro hge;replace hge := dnl hge;obtain rfl : k = l.length := by omega
   rw [List.drop_length] at hall;refine zm6 ?_;simp only [Tryz.f78, aU, ay, toT, fin, exb, simprocAttr];rw [hall];simp [eB, iR, aI, zeroMethod, aO]
def kX (cs : List Class) (above : List ByteArray) (l : List Method) (i : Nat) : Bool :=
 match l[i]? with
 | none => true
 | some x => !((l.take i).any fun o => o.name.toList == x.name.toList) && !((match eB cs x.name above with | some (o, _) => !(vJ x o) | none => false) || jO x.params)
def jm (cs : List Class) (above : List ByteArray) (l : List Method) : Bool := (List.range l.length).all (kX cs above l)
theorem x9 {p : Nat → Bool} {n : Nat} (h : ∀ i < n, p i = true) : (List.range n).all p = true := List.all_eq_true.2 fun i hi => h i (List.mem_range.1 hi)
theorem l9 {p : Nat → Bool} {n i : Nat} (hi : i < n) (h : p i = false) : (List.range n).all p = false := List.all_eq_false.2 ⟨i, List.mem_range.2 hi, by simp [h]⟩
theorem MJ {α : Type} {p : α → Bool} {l : List α} {k : Nat} {x : α} (h : (l.take k).any p = false) (hx : l[k]? = some x) (hp : p x = false) : (l.take (k + 1)).any p = false := by
 rw [List.take_add_one, hx, List.any_append, h];simp [hp]
theorem MS {α : Type} {p : α → Bool} {l : List α} {k i : Nat} {x : α} (hk : k < i) (hx : l[k]? = some x) (hp : p x = true) : (l.take i).any p = true :=
 List.any_eq_true.2 ⟨x, List.mem_of_getElem? (i := k) (by rw [List.getElem?_take, if_pos hk]; exact hx), hp⟩
theorem Ic (cs : List Class) (mn : C) (c : Class) (l : List ByteArray) (hlen : cs.length ≤ 1000000000000) (hl : l.length ≤ 1000000000000) (hm : ∀ n, (dX cs n).methods.length ≤ 1000000000000) (hc : c.methods.length ≤ 1000000000000) (hp : ∀ x ∈ c.methods, x.params.length ≤ 1000000000000) (m : Mem) :
 COk Tryz.prog 44 [.agg [.sl (cs.map au), mn], .agg (au c), .c (.sl (l.map cStr))] m (.c (.bool (jm cs l c.methods))) := by
 refine (aS ah Tryz.func44 (by kernel_rfl) rfl rfl (by rfl) (by rfl) (by rfl) (fun R hkeep => ?_) m)
 repeat (first | refine W.q ?_ | refine W.g ?_ CV)
 refine W.loop (ι := Nat) (fun k => ⟨upd (upd (upd (upd (upd (upd (fun _ => .top) 2 (.c (.sl (l.map cStr)))) 3 (.ptr 3 0)) 4 (.ptr 4 0)) 15 (.c (.sl (c.methods.map aI)))) 16 (.c (.int .i64 c.methods.length))) 17 (.c (.int .i64 k)),
  upd (upd Mem.nil 3 (some (.box 25 [.c (.sl (cs.map au)), .c mn]))) 4 (some (.box 42 ((au c).map .c)))⟩)
  (fun k => k ≤ c.methods.length ∧ ∀ i < k, kX cs l c.methods i = true) (fun k => c.methods.length - k) 0 ?start ⟨Nat.zero_le _, fun i hi => by omega⟩ ?round
 case start =>
  exact Ae
 case round =>
  rintro k ⟨hk, hall⟩;refine W.go ?_;refine W.cond rfl ?_ ?_
  ·intro hlt;replace hlt := dtl hlt;obtain ⟨x, hx⟩ : ∃ x, c.methods[k]? = some x := ⟨_, List.getElem?_eq_getElem hlt⟩;have hpx := hp x (List.mem_of_getElem? hx);have hkl : k ≤ c.methods.length := hk
   repeat (first | refine W.q ?_ | refine W.g ?_ (by simp only [exb, simprocAttr, bA hx, aI, au, Nat.zero_le, true_or, hkl, ← List.map_take, List.length_take, Nat.min_eq_left hkl]; rfl))
   refine W.loop (ι := Nat) (fun j => ⟨upd (upd (upd (upd (upd (upd (upd (upd (upd (upd (fun _ => .top) 2 (.c (.sl (l.map cStr)))) 3 (.ptr 3 0)) 4 (.ptr 4 0)) 15 (.c (.sl (c.methods.map aI)))) 16 (.c (.int .i64 c.methods.length))) 17 (.c (.int .i64 k))) 8 (.ptr 8 0)) 25 (.c (.sl ((c.methods.take k).map aI)))) 26 (.c (.int .i64 k))) 27 (.c (.int .i64 j)),
    upd (upd (upd Mem.nil 3 (some (.box 25 [.c (.sl (cs.map au)), .c mn]))) 4 (some (.box 42 ((au c).map .c)))) 8 (some (.box 44 ((aI x).map .c)))⟩)
    (fun j => j ≤ k ∧ (c.methods.take j).any (fun o => o.name.toList == x.name.toList) = false) (fun j => k - j) 0 ?start ⟨Nat.zero_le _, rfl⟩ ?round
   case start =>
    exact Ae
   case round =>
    rintro j ⟨hj, hin⟩;refine W.go ?_;refine W.cond rfl ?_ ?_
    ·intro hlj;replace hlj := dtl hlj;obtain ⟨y, hy⟩ : ∃ y, c.methods[j]? = some y := ⟨_, List.getElem?_eq_getElem (by omega)⟩;have hy' : (c.methods.take k)[j]? = some y := by rw [List.getElem?_take, if_pos hlj]; exact hy
     repeat (first | refine W.q ?_ | refine W.g ?_ (by simp only [exb, simprocAttr, bA hy', aI]; rfl))
     refine W.cond rfl ?_ ?_
     ·intro heq;refine zm6 ?_;simp only [Tryz.f44, aU, ay, toT, fin, exb, simprocAttr];have : jm cs l c.methods = false := l9 hlt (by simp only [kX, hx]; rw [MS hlj hy heq]; rfl);rw [this]
     ·exact U4
    ·intro hge;replace hge := dnl hge;obtain rfl : j = k := by omega
     have hrow : kX cs l c.methods j = !((match eB cs x.name l with | some (o, _) => !(vJ x o) | none => false) || jO x.params) := by
      simp only [kX, hx]; rw [hin]; rfl
     refine W.go ?_;refine zm1 ?_;refine aj 4 PX ?_;refine av rfl rfl rfl rfl rfl (by simp) cw3 (CU cs mn l x.name hlen hl hm _) ?_;cases hf : eB cs x.name l with
     | none =>
       refine aA (by simp only [exb, simprocAttr, iR, hf, aI, zeroMethod]; rfl) ?_;rw [hf] at hrow;refine W.go ?_;refine zm1 ?_;refine aj 10 PX ?_;exact aa4
     | some p =>
       obtain ⟨o, nm⟩ := p;rw [hf] at hrow;refine aA (by simp only [exb, simprocAttr, iR, hf, aI]; rfl) ?_;refine W.go ?_;refine zm1 ?_;refine xs0 4 ?_;refine av rfl rfl rfl rfl rfl (by simp) cw2 (RG x o hpx _) ?_;cases hlk : vJ x o with
       | false =>
         refine aA (by simp only [exb, simprocAttr, hlk]; rfl) ?_;refine W.cond rfl ?_ ?_
         ·intro _;refine zm6 ?_;simp only [Tryz.f44, aU, ay, toT, fin, exb, simprocAttr];have : jm cs l c.methods = false := l9 hlt (by rw [hrow]; simp [hlk]);rw [this]
         ·intro h; cases h
       | true =>
         have hrow : kX cs l c.methods j = !(jO x.params) := by rw [hrow]; simp [hlk]
         refine aj 5 (by simp only [exb, simprocAttr, hlk, aI]; rfl) ?_;exact aa4
  ·intro hge;replace hge := dnl hge;obtain rfl : k = c.methods.length := by omega
   refine zm6 ?_;simp only [Tryz.f44, aU, ay, toT, fin, exb, simprocAttr];rw [show jm cs l c.methods = true from x9 hall]
def mF (cs : List Class) (i : Nat) : Bool :=
 match cs[i]? with
 | none => true
 | some c => !((cs.take i).any fun d => c.name.toList == d.name.toList) && (c.super.toList == [] || (cs.find? (dB c.super)).isSome)
def mM (cs : List Class) : Bool := (List.range cs.length).all (mF cs)
theorem Qe (cs : List Class) (mn : C) (hlen : cs.length ≤ 1000000000000) (m : Mem) : COk Tryz.prog 40 [.agg [.sl (cs.map au), mn]] m (.c (.bool (mM cs))) := by
 refine (aS ah Tryz.func40 (by kernel_rfl) rfl rfl (by rfl) (by rfl) (by rfl) (fun R hkeep => ?_) m);refine W.go ?_;refine W.loop (ι := Nat) (fun k => ⟨upd (upd (upd (upd (fun _ => .top) 1 (.ptr 1 0)) 10 (.c (.sl (cs.map au)))) 11 (.c (.int .i64 cs.length))) 12 (.c (.int .i64 k)),
  upd Mem.nil 1 (some (.box 25 [.c (.sl (cs.map au)), .c mn]))⟩)
  (fun k => k ≤ cs.length ∧ ∀ i < k, mF cs i = true) (fun k => cs.length - k) 0 ?start ⟨Nat.zero_le _, fun i hi => by omega⟩ ?round
 case start =>
  exact Ae
 case round =>
  rintro k ⟨hk, hall⟩;refine W.go ?_;refine W.cond rfl ?_ ?_
  ·intro hlt;replace hlt := dtl hlt;obtain ⟨x, hx⟩ : ∃ x, cs[k]? = some x := ⟨_, List.getElem?_eq_getElem hlt⟩;have hkl : k ≤ cs.length := hk
   repeat (first | refine W.q ?_ | refine W.g ?_ (by simp only [exb, simprocAttr, bA hx, au, Nat.zero_le, true_or, hkl, ← List.map_take, List.length_take, Nat.min_eq_left hkl]; rfl))
   refine W.loop (ι := Nat) (fun j => ⟨upd (upd (upd (upd (upd (upd (upd (upd (fun _ => .top) 1 (.ptr 1 0)) 10 (.c (.sl (cs.map au)))) 11 (.c (.int .i64 cs.length))) 12 (.c (.int .i64 k))) 4 (.ptr 4 0)) 20 (.c (.sl ((cs.take k).map au)))) 21 (.c (.int .i64 k))) 22 (.c (.int .i64 j)),
    upd (upd Mem.nil 1 (some (.box 25 [.c (.sl (cs.map au)), .c mn]))) 4 (some (.box 42 ((au x).map .c)))⟩)
    (fun j => j ≤ k ∧ (cs.take j).any (fun d => x.name.toList == d.name.toList) = false) (fun j => k - j) 0 ?start ⟨Nat.zero_le _, rfl⟩ ?round
   case start =>
    exact Ae
   case round =>
    rintro j ⟨hj, hin⟩;refine W.go ?_;refine W.cond rfl ?_ ?_
    ·intro hlj;replace hlj := dtl hlj;obtain ⟨y, hy⟩ : ∃ y, cs[j]? = some y := ⟨_, List.getElem?_eq_getElem (by omega)⟩;have hy' : (cs.take k)[j]? = some y := by rw [List.getElem?_take, if_pos hlj]; exact hy
     repeat (first | refine W.q ?_ | refine W.g ?_ (by simp only [exb, simprocAttr, bA hy', au]; rfl))
     refine W.cond rfl ?_ ?_
     ·intro heq;refine zm6 ?_;simp only [Tryz.f40, aU, ay, toT, fin, exb, simprocAttr];have : mM cs = false := l9 hlt (by simp only [mF, hx]; rw [MS hlj hy heq]; rfl);rw [this]
     ·exact U4
    ·intro hge;replace hge := dnl hge;obtain rfl : j = k := by omega
     have hrow : mF cs j = (x.super.toList == [] || (cs.find? (dB x.super)).isSome) := by
      simp only [mF, hx]; rw [hin]; rfl
     refine W.go ?_;refine zm1 ?_;refine aj 3 CV ?_;refine av rfl rfl rfl rfl rfl (by simp) cw2 (find_ok cs mn x.super hlen _) ?_;refine aA TM ?_;cases hs : (x.super.toList == []) with
     | true =>
       repeat (first | refine W.q ?_ | refine W.g ?_ VT)
       refine W.cond rfl ?_ ?_
       ·intro h; cases h
       ·intro _;refine W.go ?_;refine ⟨j + 1, ⟨hlt, fun i hi => ?_⟩, by omega, ?_⟩
        ·rcases Nat.lt_succ_iff_lt_or_eq.1 hi with h | h
         ·exact hall i h
         ·subst h; rw [hrow, hs]; rfl
        exact PD
     | false =>
       repeat (first | refine W.q ?_ | refine W.g ?_ VT)
       refine W.cond rfl ?_ ?_
       ·intro ht;refine zm6 ?_;simp only [Tryz.f40, aU, ay, toT, fin, exb, simprocAttr];have : mM cs = false := l9 hlt (by rw [hrow, hs]; simpa using ht);rw [this]
       ·intro ht;refine W.go ?_;refine ⟨j + 1, ⟨hlt, fun i hi => ?_⟩, by omega, ?_⟩
        ·rcases Nat.lt_succ_iff_lt_or_eq.1 hi with h | h
         ·exact hall i h
         ·subst h; rw [hrow, hs]; simpa using ht
        exact PD
  ·intro hge;replace hge := dnl hge;obtain rfl : k = cs.length := by omega
   refine zm6 ?_;simp only [Tryz.f40, aU, ay, toT, fin, exb, simprocAttr];rw [show mM cs = true from x9 hall]
def dh (cs : List Class) (l : List ByteArray) : List Slot := l.reverse.flatMap fun n => (dX cs n).fields
theorem Cj (cs : List Class) (mn : C) (l : List ByteArray) (hlen : cs.length ≤ 1000000000000) (hl : l.length ≤ 1000000000000) (hf : (dh cs l).length ≤ 1000000000) (m : Mem) :
 COk Tryz.prog 43 [.agg [.sl (cs.map au), mn], .c (.sl (l.map cStr))] m (.c (.sl ((dh cs l).map aJ))) := by
 refine (aS ah Tryz.func43 (by kernel_rfl) rfl rfl (by rfl) (by rfl) (by rfl) (fun R hkeep => ?_) m)
 repeat (first | refine W.q ?_ | refine W.g ?_ (by simp only [exb, simprocAttr, Cw (show l.length < 9223372036854775808 by omega)]; rfl))
 refine W.mZ 5 5 46 2 rfl rfl ?_
 refine W.loop (ι := Nat) (fun k => ⟨upd (upd (upd (upd (fun _ => .top) 1 (.c (.sl (l.map cStr)))) 2 (.ptr 2 0)) 5 (.own 5)) 6 (.c (.int .i64 ((k : Int) - 1))),
  upd (upd Mem.nil 2 (some (.box 25 [.c (.sl (cs.map au)), .c mn]))) 5 (some (.arr 46 2 ((dh cs (l.drop k)).map aJ)))⟩)
  (fun k => k ≤ l.length) (fun k => k) l.length ?start (Nat.le_refl _) ?round
 case start =>
  refine iM ?sle ?mle (aQ hkeep)
  case mle => repeat (first | exact aV _ | exact aF _ | refine aT ?_ (by first | rfl | (simp only [ak, aB, Nat.reduceEqDiff, reduceIte, List.drop_length, dh, List.reverse_nil, List.flatMap_nil, List.map_nil]; done)))
  case sle => repeat (first | exact aM _ | exact aH _ | refine aL ?_ (by first | rfl | (simp only [ak, aD, aC, Nat.reduceEqDiff, reduceIte, List.drop_length, dh, List.reverse_nil, List.flatMap_nil, List.map_nil]; done)))
 case round =>
  intro k hk;cases k with
  | zero =>
    refine W.go ?_;refine W.cond rfl ?_ ?_
    ·intro h; exact absurd h (by decide)
    ·intro _;refine W.go ?_;refine W.rt ?_;simp only [Tryz.f43, aU, ay, toT, fin, exb, simprocAttr]
  | succ j =>
    obtain ⟨n, hn⟩ : ∃ n, l[j]? = some n := ⟨_, List.getElem?_eq_getElem (by omega)⟩;have hd := drop_of_getElem? hn;have hff : dh cs (l.drop j) = dh cs (l.drop (j + 1)) ++ (dX cs n).fields := by rw [hd]; simp [dh]
    have hle : (dh cs (l.drop j)).length ≤ (dh cs l).length := by
     have : dh cs l = dh cs (l.drop j) ++ dh cs (l.take j) := by
      unfold dh;rw [← List.flatMap_append, ← List.reverse_append, List.take_append_drop]
     rw [this, List.length_append]; omega
    have hl2 : (dh cs (l.drop j)).length = (dh cs (l.drop (j + 1))).length + (dX cs n).fields.length := by rw [hff, List.length_append]
    repeat (first | refine W.q ?_ | refine W.g ?_ (by simp only [exb, simprocAttr, qL]; rfl))
    refine W.cond rfl ?_ ?_
    ·intro _;refine W.go ?_;refine zm5 ?_;refine aj 5 (by simp only [exb, simprocAttr, qL, bA hn, cStr]; rfl) ?_;refine Yz ?_;refine zm1 ?_;refine xs0 3 ?_;refine cK ah 5 rfl rfl rfl rfl rfl rfl rfl rfl nR rfl rfl rfl rfl (cu hkeep) (by simp [aJ]) Ai (by decide) ?_;refine xe0 ?_
     repeat (first | refine W.q ?_ | refine W.g ?_ (by simp only [exb, simprocAttr, qL, Cw (show j < 9223372036854775808 by omega)]; rfl))
     refine ⟨j, by omega, by omega, ?_⟩;refine iM ?sle ?mle (aQ hkeep)
     case mle => repeat (first | exact aV _ | exact aF _ | refine aT ?_ (by first | rfl | (simp only [ak, aB, Nat.reduceEqDiff, reduceIte, hff, List.map_append]; done)))
     case sle => repeat (first | exact aM _ | exact aH _ | refine aL ?_ (by first | rfl | (simp only [ak, aD, aC, Nat.reduceEqDiff, reduceIte, hff, List.map_append]; done)))
    ·intro h; simp at h
def fu (cs : List Class) : Prop := ∀ c ∈ cs, c.fields.length ≤ 1048576 ∧ c.methods.length ≤ 1048576 ∧ ∀ m ∈ c.methods, m.params.length ≤ 1048576
theorem fu.dX {cs : List Class} (h : fu cs) (n : ByteArray) : (dX cs n).fields.length ≤ 1048576 ∧ (dX cs n).methods.length ≤ 1048576 := by
 unfold V.dX;cases hf : cs.find? (dB n) with
 | none => simp
 | some c => have := h c (List.mem_of_find?_eq_some hf); exact ⟨this.1, this.2.1⟩
theorem nu (cs : List Class) : ∀ (k : Nat) (n : ByteArray), (gN cs k n).length ≤ k
 | 0, _ => Nat.le_refl _
 | k + 1, n => by
   unfold gN;cases cs.find? (dB n) with
   | none => simp
   | some c => have := nu cs k c.super; simp; omega
theorem nP {cs : List Class} (h : fu cs) : ∀ l : List ByteArray, (dh cs l).length ≤ l.length * 1048576
 | [] => by simp [dh]
 | n :: l => by
   have ih := nP h l;have := (h.dX n).1;unfold dh at *;rw [List.reverse_cons, List.flatMap_append, List.length_append, List.length_cons];have e : ([n].flatMap fun n => (V.dX cs n).fields).length = (V.dX cs n).fields.length := by simp
   rw [e, Nat.add_mul];omega
def jy (cs : List Class) (i : Nat) : Bool :=
 match cs[i]? with
 | none => true
 | some c => !(decide (cs.length < (gN cs (cs.length + 1) c.name).length) || jO (dh cs (gN cs (cs.length + 1) c.name))) && jm cs ((gN cs (cs.length + 1) c.name).drop 1) c.methods
def qj (e : Int) (cs : List Class) : Int :=
 if e = 0 then (if 16 < cs.length then 6 else if mM cs = false then 60 else if (List.range cs.length).all (jy cs) = true then 0 else 60) else e
theorem C9 {cs : List Class} {c : Class} (h : c ∈ cs) : ∃ d, cs.find? (dB c.name) = some d := by
 cases hf : cs.find? (dB c.name) with
 | some d => exact ⟨d, rfl⟩
 | none =>
   have := List.find?_eq_none.1 hf c h;simp [dB] at this
theorem FM (p : Program) (e : Int) (he : (Lit.int .i64 e).wf = true) (hS : fu p.classes) (hlen : p.classes.length ≤ 1000000000) (hck : ∀ m, COk Tryz.prog 39 [.agg (bI p)] m (.c (.int .i64 e))) (m : Mem) :
 COk Tryz.prog 21 [.agg (bI p)] m (.c (.int .i64 (qj e p.classes))) := by
 obtain ⟨cs, mn⟩ := p
 dsimp only at hS hlen hck ⊢
 refine (aS ah Tryz.func21 (by kernel_rfl) rfl rfl (by rfl) (by rfl) (by rfl) (fun R hkeep => ?_) m)
 repeat (first | refine W.q ?_ | refine W.g ?_ jJ)
 refine W.bR ah 0 (by decide) ?_
 refine aj 1 jJ ?_
 refine av rfl rfl rfl rfl rfl (by simp) cw1 (hck _) ?_
 refine xe0 ?_
 refine W.go ?_
 refine W.cond rfl ?_ ?_
 ·intro h
  have he : e ≠ 0 := by simpa using h
  refine W.go ?_
  refine W.rt ?_
  simp only [Tryz.f21, aU, ay, toT, fin, exb, simprocAttr]
  simp [qj, he]
 intro h
 have he : e = 0 := by simpa using h
 subst he
 repeat (first | refine W.q ?_ | refine W.g ?_ jJ)
 refine W.cond rfl ?_ ?_
 ·intro h
  have h16 : 16 < cs.length := by simp at h; omega
  refine W.go ?_
  refine W.rt ?_
  simp only [Tryz.f21, aU, ay, toT, fin, exb, simprocAttr]
  simp [qj, h16]
 intro h
 have h16 : ¬ 16 < cs.length := by simp at h; omega
 refine W.go ?_
 refine W.bR ah 0 (by decide) ?_
 refine aj 1 jJ ?_
 refine av rfl rfl rfl rfl rfl (by simp) cw1 (Qe cs (.sl (aO mn)) (by omega) _) ?_
 refine xe0 ?_
 refine W.cond rfl ?_ ?_
 ·intro h
  have hn : mM cs = false := by simpa using h
  refine W.go ?_
  refine W.rt ?_
  simp only [Tryz.f21, aU, ay, toT, fin, exb, simprocAttr]
  simp [qj, h16, hn]
 intro h
 have hn : mM cs = true := by simpa using h
 repeat (first | refine W.q ?_ | refine W.g ?_ jJ)
 refine W.loop (ι := Nat) (fun k => ⟨upd (upd (upd (upd (fun _ => .top) 1 (.ptr 1 0)) 20 (.c (.sl (cs.map au)))) 21 (.c (.int .i64 cs.length))) 22 (.c (.int .i64 k)),
  upd Mem.nil 1 (some (.box 25 [.c (.sl (cs.map au)), .c (.sl (aO mn))]))⟩)
  (fun k => k ≤ cs.length ∧ ∀ i < k, jy cs i = true) (fun k => cs.length - k) 0 ?start ⟨Nat.zero_le _, fun i hi => by omega⟩ ?round
 case start =>
  exact Ae
 case round =>
  rintro k ⟨hk, hall⟩;refine W.go ?_;refine W.cond rfl ?_ ?_
  ·intro hlt;replace hlt := dtl hlt;obtain ⟨x, hx⟩ : ∃ x, cs[k]? = some x := ⟨_, List.getElem?_eq_getElem hlt⟩;have hmem := List.mem_of_getElem? hx;have hSx := hS x hmem;have hcl := nu cs (cs.length + 1) x.name;have hfl := nP hS (gN cs (cs.length + 1) x.name);have hfl2 : (dh cs (gN cs (cs.length + 1) x.name)).length ≤ 1000000000 := by
    have : (gN cs (cs.length + 1) x.name).length * 1048576 ≤ 17 * 1048576 := Nat.mul_le_mul_right _ (by omega);omega
   have hpos : 1 ≤ (gN cs (cs.length + 1) x.name).length := by
    obtain ⟨d, hd⟩ := C9 hmem;simp [gN, hd]
   generalize hch : gN cs (cs.length + 1) x.name = ch at *;have hrow : jy cs k = (!(decide (cs.length < ch.length) || jO (dh cs ch)) && jm cs (ch.drop 1) x.methods) := by simp only [jy, hx, hch]
   repeat (first | refine W.q ?_ | refine W.g ?_ JQ)
   refine zm1 ?_;refine aj 3 CV ?_;refine av rfl rfl rfl rfl rfl (by simp) cw2 (hch ▸ Gb cs (.sl (aO mn)) x.name hlen _) ?_;refine xe0 ?_;have bad : jy cs k = false → qj 0 cs = 60 := fun h => by simp [qj, h16, hn, l9 hlt h]
   by_cases hlong : cs.length < ch.length
   ·have hl' : decide ((cs.length : Int) < (ch.length : Int)) = true := by simp; omega
    repeat (first | refine W.q ?_ | refine W.g ?_ Vv)
    refine W.cond rfl ?_ ?_
    ·intro _;refine zm6 ?_;simp only [Tryz.f21, aU, ay, toT, fin, exb, simprocAttr];rw [bad (by rw [hrow]; simp [hlong])]
    ·intro h; cases h
   ·have hl' : decide ((cs.length : Int) < (ch.length : Int)) = false := by simp; omega
    refine W.go ?_;refine zm1 ?_;refine aj 9 Vv ?_;refine av rfl rfl rfl rfl rfl (by simp) cw2 (Cj cs (.sl (aO mn)) ch (by omega) (by omega) hfl2 _) ?_;refine xs0 0 ?_;refine av rfl rfl rfl rfl rfl (by simp) cw1 (F5 (dh cs ch) (by omega) _) ?_;refine xe0 ?_;refine W.cond rfl ?_ ?_
    ·intro h;refine zm6 ?_;simp only [Tryz.f21, aU, ay, toT, fin, exb, simprocAttr];rw [bad (by rw [hrow, h]; simp)]
    ·intro htw;refine W.go ?_;have hcs : ∀ x ∈ ch.map cStr, x.length = 1 := by simp [cStr]
     refine zm5 ?_;refine aj 4 (by simp only [exb, simprocAttr, hpos, eq_true hcs, Nat.le_refl, ← List.map_take, List.take_length, ← List.map_drop]; rfl) ?_;refine av rfl rfl rfl rfl rfl (by simp) cw3 (Ic cs (.sl (aO mn)) x (ch.drop 1) (by omega) N7 (fun n => Nat.le_trans (hS.dX n).2 (by omega)) (by omega) (fun m hm => Nat.le_trans (hSx.2.2 m hm) (by omega)) _) ?_;refine xe0 ?_;refine W.cond rfl ?_ ?_
     ·intro h;refine zm6 ?_;simp only [Tryz.f21, aU, ay, toT, fin, exb, simprocAttr];have h' : jm cs (ch.drop 1) x.methods = false := by simpa using h
      rw [bad (by rw [hrow, h']; simp)]
     ·intro h;have h' : jm cs (ch.drop 1) x.methods = true := by simpa using h
      refine W.go ?_;refine ⟨k + 1, ⟨hlt, fun i hi => ?_⟩, by omega, ?_⟩
      ·rcases Nat.lt_succ_iff_lt_or_eq.1 hi with q | q
       ·exact hall i q
       ·subst q; rw [hrow, h', htw]; simp [hlong]
      exact O9
  ·intro hge;replace hge := dnl hge;obtain rfl : k = cs.length := by omega
   refine zm6 ?_;simp only [Tryz.f21, aU, ay, toT, fin, exb, simprocAttr];simp [qj, h16, hn, x9 hall]
theorem mO {w : World} {b : Nat} : ∀ {cs : List Value} {o : Nat}, (∀ (j : Nat) v, cs[j]? = some v → w.cell? ⟨b, o + j, none⟩ = some v) → fZ w b o cs
 | [], _, _ => trivial
 | v :: cs, o, h => ⟨by simpa using h 0 v rfl, mO fun j u hj => by have := h (j + 1) u (by simpa using hj); rwa [show o + (j + 1) = o + 1 + j by omega] at this⟩
theorem rQ {w : World} {b : Nat} : ∀ {cs : List Value} {o : Nat}, fZ w b o cs → ∀ (j : Nat) v, cs[j]? = some v → w.cell? ⟨b, o + j, none⟩ = some v
 | [], _, _, j, v, h => by simp at h
 | u :: cs, o, h, 0, v, hv => by simp at hv; subst hv; exact h.1
 | u :: cs, o, h, j + 1, v, hv => by
   have := rQ h.2 j v (by simpa using hv)
   rwa [show o + (j + 1) = o + 1 + j by omega]
section
variable {w : World} {I : Nat → Nat → Prop}
theorem ql {α : Type} {f : α → List C} {sz : Nat} {R : List Value → α → Prop} {J : Nat → Prop} {v : Value} {l : List α} (hI : ∀ b o, I b o → J b) (hz : 0 < sz) (hf : ∀ x ∈ l, (f x).length = sz) (hR : ∀ cs x, x ∈ l → RCs w I cs (f x) → R cs x) (h : RC w I v (.sl (l.map f))) : RSl sz R w J v l := by
 cases h with
 | @sl a n cap e _ g h1 h2 h3 h4 h5 h6 =>
   refine ⟨a, n, cap, rfl, by simpa using h1, h2, by unfold lU; unfold maxLen at h3; omega, fun i x hx => ?_⟩;have hx' := bA (f := f) hx;have hm := List.mem_of_getElem? hx;have he : e = sz := by rw [← hf x hm, h4 _ (List.mem_of_getElem? hx')]
   subst he;obtain ⟨b, off, rfl, hc⟩ := h5 _ _ hx';refine ⟨b, off, (List.range e).map (g i), rfl, hI b _ (hc 0 hz).1, mO fun j u hj => ?_, hR _ _ hm (RCs.of (by simp [hf x hm]) fun j u c hj hcj => ?_)⟩
   ·rw [List.getElem?_map] at hj;by_cases hje : j < e
    ·rw [List.getElem?_range hje] at hj; cases hj; exact (hc j hje).2
    ·exact Ur
   ·rw [List.getElem?_map] at hj;by_cases hje : j < e
    ·rw [List.getElem?_range hje] at hj; cases hj; exact h6 _ _ _ _ hx' hcj
    ·exact Ur
theorem nY {α : Type} {f : α → List C} {sz : Nat} {R : List Value → α → Prop} {J : Nat → Prop} {v : Value} {l : List α} (hI : ∀ b o, J b → I b o) (hR : ∀ cs x, x ∈ l → R cs x → cs.length = sz ∧ RCs w I cs (f x)) (h : RSl sz R w J v l) : RC w I v (.sl (l.map f)) := by
 obtain ⟨a, n, cap, rfl, h1, h2, h3, h4⟩ := h;have hch : ∀ (i : Nat) x, l[i]? = some x → ∃ cs : List Value, ∃ b off, a = some ⟨b, off, none⟩ ∧ J b ∧ fZ w b (off + i * sz) cs ∧ cs.length = sz ∧ RCs w I cs (f x) := fun i x hx => by
  obtain ⟨b, off, cs, e1, e2, e3, e4⟩ := h4 i x hx;obtain ⟨e5, e6⟩ := hR cs x (List.mem_of_getElem? hx) e4;exact ⟨cs, b, off, e1, e2, e3, e5, e6⟩
 obtain ⟨g, hg⟩ : ∃ g : Nat → List Value, ∀ (i : Nat) x, l[i]? = some x → ∃ b off, a = some ⟨b, off, none⟩ ∧ J b ∧ fZ w b (off + i * sz) (g i) ∧ (g i).length = sz ∧ RCs w I (g i) (f x) := by
  have : ∀ i, ∃ g : List Value, ∀ x, l[i]? = some x → ∃ b off, a = some ⟨b, off, none⟩ ∧ J b ∧ fZ w b (off + i * sz) g ∧ g.length = sz ∧ RCs w I g (f x) := fun i => by
   cases hx : l[i]? with
   | none => exact ⟨[], fun x h => by cases h⟩
   | some x =>
     obtain ⟨cs, b, off, q⟩ := hch i x hx;exact ⟨cs, fun y hy => by cases hy; exact ⟨b, off, q⟩⟩
  exact Classical.skolem.1 this
 have el : ∀ (i : Nat) y, (l.map f)[i]? = some y → ∃ x, l[i]? = some x ∧ y = f x := fun i y hy => by
  rw [List.getElem?_map] at hy;cases hx : l[i]? with
  | none => rw [hx] at hy; cases hy
  | some x => rw [hx] at hy; exact ⟨x, rfl, (Option.some.inj hy).symm⟩
 refine .sl (e := sz) (fun i j => (g i).getD j undef) DJ h2 (by unfold maxLen; unfold lU at h3; omega) (fun y hy => ?_) (fun i y hy => ?_) (fun i j y c hy hc => ?_)
 ·obtain ⟨i, hi⟩ := List.getElem?_of_mem hy;obtain ⟨x, hx, rfl⟩ := el i y hi;obtain ⟨b, off, -, -, -, q1, q2⟩ := hg i x hx;rw [← q2.length, q1]
 ·obtain ⟨x, hx, rfl⟩ := el i y hy;obtain ⟨b, off, q1, q2, q3, q4, -⟩ := hg i x hx;refine ⟨b, off, q1, fun j hj => ⟨hI b _ q2, ?_⟩⟩;have hj' : j < (g i).length := by omega
  rw [rQ q3 j _ (List.getElem?_eq_getElem hj')];simp [hj']
 ·obtain ⟨x, hx, rfl⟩ := el i y hy;obtain ⟨b, off, -, -, -, -, q2⟩ := hg i x hx;obtain ⟨u, h5, h6⟩ := q2.at j c hc;simp [h5]; exact h6
variable (hI : ∀ b o, I b o → b < w.heap.size)
theorem Oh {cs : List Value} {x : Slot} (h : RCs w I cs (aJ x)) : EH cs x := by
 match cs, h with
 | [a, b], ⟨h1, h2, _⟩ => exact ⟨by rw [h1.toStr.1, h2.toStr.1], h1.toStr.2, h2.toStr.2⟩
theorem Fw {cs : List Value} {x : Slot} (h : EH cs x) : cs.length = 2 ∧ RCs w I cs (aJ x) := by
 obtain ⟨rfl, h1, h2⟩ := h;exact ⟨rfl, .str h1, .str h2, trivial⟩
include hI in
theorem GD {v : Value} {l : List Slot} (h : RC w I v (.sl (l.map aJ))) : lI w (· < w.heap.size) v l := ql hI (by decide) (fun _ _ => rfl) (fun _ _ _ h => Oh h) h
mutual
def wO : Expr → Nat
 | ⟨_, _, _, kids⟩ => mR kids + 1
def mR : List Expr → Nat
 | [] => 0
 | x :: l => max (wO x) (mR l)
end
theorem uT {l : List Expr} {x : Expr} (h : x ∈ l) : wO x ≤ mR l := by
 induction l with
 | nil => simp at h
 | cons y l ih =>
   simp only [mR];exact ML
include hI in
theorem GQ : ∀ (d : Nat) {cs : List Value} {x : Expr}, wO x ≤ d → RCs w I cs (cExpr x) → iF d w (· < w.heap.size) cs x
 | 0, cs, ⟨k, n, nm, kids⟩, hd, _ => by simp [wO] at hd
 | d + 1, cs, ⟨k, n, nm, kids⟩, hd, h => by
   simp only [cExpr] at h;match cs, h with
   | [a, b, c, e], ⟨h1, h2, h3, h4, _⟩ =>
     simp only [wO] at hd;rw [aX] at h4;refine ⟨e, by rw [h1.toInt.1, h2.toInt.1, h3.toStr.1], h1.toInt.2, h2.toInt.2, h3.toStr.2, ql hI (by decide) (fun x _ => by cases x; rfl) (fun cs x hx hc => GQ d (by have h' : wO x ≤ mR kids := uT hx; omega) hc) h4⟩
theorem FV (hJ : ∀ b o, b < w.heap.size → I b o) : ∀ (d : Nat) {cs : List Value} {x : Expr}, iF d w (· < w.heap.size) cs x → cs.length = 4 ∧ RCs w I cs (cExpr x)
 | 0, _, _, h => h.elim
 | d + 1, cs, ⟨k, n, nm, kids⟩, ⟨kv, h1, h2, h3, h4, h5⟩ => by
   subst h1;refine ⟨rfl, .int h2, .int h3, .str h4, ?_, trivial⟩;rw [aX];exact nY hJ (fun _ _ _ h => FV hJ d h) h5
mutual
def tX : Stmt → Nat
 | ⟨_, _, _, _, es, th, el⟩ => max (mR es) (max (jE th) (jE el)) + 1
def jE : List Stmt → Nat
 | [] => 0
 | x :: l => max (tX x) (jE l)
end
theorem pQ {l : List Stmt} {x : Stmt} (h : x ∈ l) : tX x ≤ jE l := by
 induction l with
 | nil => simp at h
 | cons y l ih =>
   simp only [jE];exact ML
include hI in
theorem A8 : ∀ (d : Nat) {cs : List Value} {x : Stmt}, tX x ≤ d → RCs w I cs (aW x) → gW d w (· < w.heap.size) cs x
 | 0, cs, ⟨k, n, ty, nm, es, th, el⟩, hd, _ => by simp [tX] at hd
 | d + 1, cs, ⟨k, n, ty, nm, es, th, el⟩, hd, h => by
   simp only [aW] at h;match cs, h with
   | [a, b, c, e, f, g, i], ⟨h1, h2, h3, h4, h5, h6, h7, _⟩ =>
     simp only [tX] at hd;rw [aX] at h5;rw [bf] at h6 h7;refine ⟨f, g, i, by rw [h1.toInt.1, h2.toInt.1, h3.toStr.1, h4.toStr.1], h1.toInt.2, h2.toInt.2, h3.toStr.2, h4.toStr.2, ql hI (by decide) (fun x _ => by cases x; rfl) (fun cs x hx hc => GQ hI d (by have h' : wO x ≤ mR es := uT hx; omega) hc) h5,
      ql hI (by decide) (fun x _ => by cases x; rfl) (fun cs x hx hc => A8 d (by have h' : tX x ≤ jE th := pQ hx; omega) hc) h6, ql hI (by decide) (fun x _ => by cases x; rfl) (fun cs x hx hc => A8 d (by have h' : tX x ≤ jE el := pQ hx; omega) hc) h7⟩
theorem wD (hJ : ∀ b o, b < w.heap.size → I b o) : ∀ (d : Nat) {cs : List Value} {x : Stmt}, gW d w (· < w.heap.size) cs x → cs.length = 7 ∧ RCs w I cs (aW x)
 | 0, _, _, h => h.elim
 | d + 1, cs, ⟨k, n, ty, nm, es, th, el⟩, ⟨ev, tv, fv, h1, h2, h3, h4, h5, h6, h7, h8⟩ => by
   subst h1;refine ⟨rfl, .int h2, .int h3, .str h4, .str h5, ?_, ?_, ?_, trivial⟩
   ·rw [aX]; exact nY hJ (fun _ _ _ h => FV hJ d h) h6
   ·rw [bf]; exact nY hJ (fun _ _ _ h => wD hJ d h) h7
   ·rw [bf]; exact nY hJ (fun _ _ _ h => wD hJ d h) h8
include hI in
theorem F9 {v : Value} {l : List Stmt} {d : Nat} (hd : jE l ≤ d) (h : RC w I v (.sl (aO l))) : jD d w (· < w.heap.size) v l := by
 rw [bf] at h;exact ql hI (by decide) (fun x _ => by cases x; rfl) (fun cs x hx hc => A8 hI d (by have h' : tX x ≤ jE l := pQ hx; omega) hc) h
def zy (x : Method) : Nat := jE x.body
include hI in
theorem uF {cs : List Value} {x : Method} {d : Nat} (hd : zy x ≤ d) (h : RCs w I cs (aI x)) : iZ d w (· < w.heap.size) cs x := by
 match cs, h with
 | [a, b, c, e], ⟨h1, h2, h3, h4, _⟩ => exact ⟨c, e, by rw [h1.toStr.1, h2.toStr.1], h1.toStr.2, h2.toStr.2, GD hI h3, F9 hI hd h4⟩
theorem Ip (hJ : ∀ b o, b < w.heap.size → I b o) {d : Nat} {cs : List Value} {x : Method} (h : iZ d w (· < w.heap.size) cs x) : cs.length = 4 ∧ RCs w I cs (aI x) := by
 obtain ⟨pv, bv, rfl, h1, h2, h3, h4⟩ := h;refine ⟨rfl, .str h1, .str h2, nY hJ (fun _ _ _ h => Fw h) h3, ?_, trivial⟩;rw [bf]; exact nY hJ (fun _ _ _ h => wD hJ d h) h4
def Qm (l : List Nat) : Nat := l.foldr max 0
theorem BJ {l : List Nat} {x : Nat} (h : x ∈ l) : x ≤ Qm l := by
 induction l with
 | nil => simp at h
 | cons y l ih =>
   simp only [Qm, List.foldr_cons] at ih ⊢;exact ML
def Ei (x : Class) : Nat := Qm (x.methods.map zy)
include hI in
theorem Ck {cs : List Value} {x : Class} {d : Nat} (hd : Ei x ≤ d) (h : RCs w I cs (au x)) : j4 d w (· < w.heap.size) cs x := by
 match cs, h with
 | [a, b, c, e], ⟨h1, h2, h3, h4, _⟩ =>
   exact ⟨c, e, by rw [h1.toStr.1, h2.toStr.1], h1.toStr.2, h2.toStr.2, GD hI h3, ql hI (by decide) (fun _ _ => rfl) (fun cs m hm hc => uF hI (Nat.le_trans (BJ (List.mem_map_of_mem hm)) hd) hc) h4⟩
theorem L6 (hJ : ∀ b o, b < w.heap.size → I b o) {d : Nat} {cs : List Value} {x : Class} (h : j4 d w (· < w.heap.size) cs x) : cs.length = 4 ∧ RCs w I cs (au x) := by
 obtain ⟨pv, bv, rfl, h1, h2, h3, h4⟩ := h;exact ⟨rfl, .str h1, .str h2, nY hJ (fun _ _ _ h => Fw h) h3, nY hJ (fun _ _ _ h => Ip hJ h) h4, trivial⟩
include hI in
theorem Bo {v : Value} {l : List Class} : ∃ d, RC w I v (.sl (l.map au)) → mD d w (· < w.heap.size) v l :=
 ⟨Qm (l.map Ei), fun h => ql hI (by decide) (fun _ _ => rfl) (fun _ _ hm hc => Ck hI (BJ (List.mem_map_of_mem hm)) hc) h⟩
theorem Fg {v : Value} {p : Program} (hI : ∀ b o, I b o → b < w.heap.size) (h : ∃ us, v = .agg us.toArray ∧ RCs w I us (bI p)) : ∃ d, iT d w (· < w.heap.size) v p := by
 obtain ⟨us, rfl, h⟩ := h;match us, h with
 | [a, b], ⟨h1, h2, _⟩ =>
   refine ⟨max (Qm (p.classes.map Ei)) (jE p.main), a, b, rfl, ?_, F9 hI (by omega) h2⟩;exact ql hI (by decide) (fun _ _ => rfl) (fun _ _ hm hc => Ck hI (by have := BJ (List.mem_map_of_mem (f := Ei) hm); omega) hc) h1
theorem Oe (hJ : ∀ b o, b < w.heap.size → I b o) {d : Nat} {v : Value} {p : Program} (h : iT d w (· < w.heap.size) v p) : ∃ us, v = .agg us.toArray ∧ RCs w I us (bI p) := by
 obtain ⟨cv, mv, rfl, h1, h2⟩ := h;refine ⟨[cv, mv], rfl, nY hJ (fun _ _ _ h => L6 hJ h) h1, ?_, trivial⟩;rw [bf]; exact nY hJ (fun _ _ _ h => wD hJ d h) h2
end
section
variable {H : Type} {enc : TypeId × Value → H} {w : World} {held : Bool}
theorem FK (d : DataW H) : 1 ≤ Rows.uptoBulk d := by
 cases d with
 | lit l => cases l <;> simp [Rows.uptoBulk]
 | _ => simp [Rows.uptoBulk]
theorem oH {d : DataW H} {l : List (DataW H)} (h : d ∈ l) : Rows.uptoBulk d ≤ Rows.uptoBulkAll l := by
 induction l with
 | nil => cases h
 | cons x r ih =>
   simp only [Rows.uptoBulkAll];rcases List.mem_cons.1 h with rfl | e
   ·omega
   ·have := ih e; omega
theorem MQ (l : List (DataW H)) : l.length ≤ Rows.uptoBulkAll l := by
 induction l with
 | nil => simp [Rows.uptoBulkAll]
 | cons x r ih => have := FK x; simp only [Rows.uptoBulkAll, List.length_cons]; omega
theorem Bq {b off : Nat} {cs cs' : List Value} (h : fZ w b off cs) (k : ∀ i, i < cs'.length → w.cell? ⟨b, off + i, none⟩ = cs'[i]?) (hl : cs.length = cs'.length) : cs = cs' := by
 refine List.ext_getElem? fun i => ?_;by_cases hi : i < cs.length
 ·have h1 := rQ h i _ (List.getElem?_eq_getElem hi);have h2 := k i (by omega);rw [List.getElem?_eq_getElem hi, ← h2, ← h1]
 ·exact OB
theorem eF {α : Type} {P : Go.Program} {t e : TypeId} {sz fuel : Nat} {v : Value} {x : DataW H × List MemPlace} {R : List Value → α → Prop} {J : Nat → Prop} {l : List α} (ht : P.underlying t = some (.slice e)) (hsz : P.cellsOf e = sz) (hpos : 0 < sz)
 (hlen : ∀ cs y, R cs y → cs.length = sz) (h : DataW.trod enc P w 0 (fun _ => true) held fuel t [v] = some x) (hR : RSl sz R w J v l) :
 l.length ≤ Rows.uptoBulk x.1 ∧ ∀ y ∈ l, ∃ n cs z, R cs y ∧ DataW.trod enc P w 0 (fun _ => true) held n e cs = some z ∧ Rows.uptoBulk z.1 ≤ Rows.uptoBulk x.1 := by
 obtain ⟨a, n, cap, rfl, hn, -, -, hel⟩ := hR
 rcases DataW.trod_slice ht h with ⟨e1, rfl⟩ | ⟨a', len, cap', elems, rest, m, -, e1, hxe, -, -, -, hlen', hall, -, -⟩
 ·simp only [List.cons.injEq, Value.slice.injEq, and_true] at e1
  obtain ⟨-, rfl, -⟩ := e1
  obtain rfl : l = [] := List.length_eq_zero_iff.1 hn
  exact ⟨Nat.zero_le _, fun y hy => by cases hy⟩
 ·simp only [List.cons.injEq, Value.slice.injEq, and_true] at e1
  obtain ⟨rfl, rfl, rfl⟩ := e1
  subst hxe
  have hb : Rows.uptoBulkAll (elems.map (·.1)) ≤ Rows.uptoBulk (DataW.slice (elems.map (·.1)) (rest.map (·.1))) := by simp only [Rows.uptoBulk]; omega
  refine ⟨?_, fun y hy => ?_⟩
  ·refine Nat.le_trans ?_ hb
   have := MQ (elems.map (·.1))
   rw [List.length_map] at this
   omega
  ·obtain ⟨i, hi⟩ := List.getElem?_of_mem hy
   have hil := (List.getElem?_eq_some_iff.1 hi).1
   obtain ⟨b, off, cs, ea, -, hc, hr⟩ := hel i y hi
   cases ea
   have h1 := hall i (by omega)
   rw [hsz] at h1
   have hz : ∃ z, elems[i]? = some z := ⟨elems[i]'(by omega), List.getElem?_eq_getElem (by omega)⟩
   obtain ⟨z, hz⟩ := hz
   rw [hz] at h1
   cases hcell : w.cells? 0 ((⟨b, off, none⟩ : Addr).add (i * sz)) sz with
   | none => rw [hcell] at h1; simp at h1
   | some cs' =>
     rw [hcell] at h1;have h1' : DataW.trod enc P w 0 (fun _ => true) held m e cs' = some z := by simpa using h1
     obtain ⟨_, hlen2, hcs⟩ := World.cells?_some hcell;have : cs = cs' := Bq hc (fun j hj => by
      have := hcs j (by omega);rw [← this]
      congr 1
      have h3 : ∀ (o k : Nat), (⟨b, o, none⟩ : Addr).add k = ⟨b, o + k, none⟩ := fun o k => by
       exact Wo
      rw [h3, h3]) (by rw [hlen _ _ hr, hlen2])
     subst this;exact ⟨m, cs, z, hr, h1', Nat.le_trans (oH (List.mem_map_of_mem (List.mem_of_getElem? hz))) hb⟩
theorem dI {P : Go.Program} {t : TypeId} {fl : List (TypeId × Nat)} {fuel : Nat} {cs : List Value} {x : DataW H × List MemPlace}
 (hf : (P.underlying t).map (fun d => match d with | .struct fs => fs.toList.map (fun f => (f.type, f.offset)) | _ => []) = some fl) (hne : fl ≠ [])
 (h : DataW.trod enc P w 0 (fun _ => true) held fuel t cs = some x) : ∀ k ∈ fl, ∃ n y, DataW.trod enc P w 0 (fun _ => true) held n k.1 ((cs.drop k.2).take (P.cellsOf k.1)) = some y ∧ Rows.uptoBulk y.1 ≤ Rows.uptoBulk x.1 := by
 cases hu : P.underlying t with
 | none => rw [hu] at hf; simp at hf
 | some d =>
   rw [hu] at hf;simp only [Option.map_some, Option.some.injEq] at hf;cases d with
   | struct fs =>
     simp only at hf;obtain ⟨xs, n, hfu, hxe, hl, hlen, hall⟩ := DataW.trod_struct hu h;intro k hk;rw [← hf] at hk;obtain ⟨f, hfm, rfl⟩ := List.mem_map.1 hk;obtain ⟨i, hi⟩ := List.mem_iff_getElem?.1 hfm;have hi' : fs[i]? = some f := by rw [← Array.getElem?_toList]; exact hi
     have := hall i f hi';have hlt : i < xs.length := by
      rw [hlen];exact (Array.getElem?_eq_some_iff.1 hi').1
     refine ⟨n, xs[i], by simpa [List.getElem?_eq_getElem hlt] using this, ?_⟩;have h1 : xs[i].1 ∈ xs.map (·.1) := List.mem_map_of_mem (List.getElem_mem hlt);have h2 := oH h1;exact V9
   | _ => simp only at hf; exact absurd hf.symm hne
theorem Pt {d fuel N : Nat} {cs : List Value} {x : DataW H × List MemPlace} {p : Program} (hp : iT d w (· < w.heap.size) (.agg cs.toArray) p) (h : DataW.trod enc Tryz.prog w 0 (fun _ => true) held fuel 25 cs = some x) (hN : Rows.uptoBulk x.1 ≤ N) :
 p.classes.length ≤ N ∧ ∀ c ∈ p.classes, c.fields.length ≤ N ∧ c.methods.length ≤ N ∧ ∀ m ∈ c.methods, m.params.length ≤ N := by
 obtain ⟨cv, mv, e1, h1, -⟩ := hp
 have e2 : cs = [cv, mv] := by simpa using congrArg Array.toList (Value.agg.inj e1)
 subst e2
 obtain ⟨n1, y1, k1, b1⟩ := dI jI (by simp) h (22, 0) (by simp)
 rw [aZ _ sS _ _ _ rfl] at k1
 obtain ⟨l1, hall⟩ := eF Tryz.underlying22 vF (by decide) (fun cs y hy => by obtain ⟨_, _, rfl, -⟩ := hy; rfl) k1 h1
 refine ⟨by omega, fun c hc => ?_⟩
 obtain ⟨n2, cs2, y2, hc2, k2, b2⟩ := hall c hc
 obtain ⟨fv, mv2, rfl, -, -, hf, hm⟩ := hc2
 obtain ⟨n3, y3, k3, b3⟩ := dI kZ (by simp) k2 (39, 2) (by simp)
 obtain ⟨n4, y4, k4, b4⟩ := dI kZ (by simp) k2 (40, 3) (by simp)
 rw [aZ _ zf _ _ _ rfl] at k3
 rw [aZ _ sJ _ _ _ rfl] at k4
 obtain ⟨l3, -⟩ := eF Tryz.underlying39 EG (by decide) (fun cs y hy => by obtain ⟨rfl, -⟩ := hy; rfl) k3 hf
 obtain ⟨l4, hall4⟩ := eF Tryz.underlying40 qC (by decide) (fun cs y hy => by obtain ⟨_, _, rfl, -⟩ := hy; rfl) k4 hm
 refine ⟨by omega, by omega, fun m hmm => ?_⟩
 obtain ⟨n5, cs5, y5, hc5, k5, b5⟩ := hall4 m hmm
 obtain ⟨pv, bv, rfl, -, -, hps, -⟩ := hc5
 obtain ⟨n6, y6, k6, b6⟩ := dI lS (by simp) k5 (39, 2) (by simp)
 rw [aZ _ zf _ _ _ rfl] at k6
 obtain ⟨l6, -⟩ := eF Tryz.underlying39 EG (by decide) (fun cs y hy => by obtain ⟨rfl, -⟩ := hy; rfl) k6 hps
 omega
end
end V
end Go.Proofs.YtgaipdillmleeaaGreat
end
section
namespace Go.Proofs.YtgaipdillmleeaaGreat
open Go.ChangeShapes Go.WideShapes Go.ChangeAt Go.RowKit
open Go.ChangeMaps (open_string shut_string)
theorem own : ownKnob Tryz.prog.godebug = none := by kernel_rfl
theorem laidOut : laidOutB Tryz.prog = true := by kernel_rfl
namespace V
theorem RA {f : FuncId} {args : List A} {r : A} {W : World} {vals : List Value} (h : COk Tryz.prog f args Mem.nil r) (hg : rz W) (hv : ∀ B, RVl B W (fun b _ => b < W.heap.size) args vals) :
 Calls Tryz.prog f vals.toArray W fun e w' => ∃ v, e = .returned v ∧ Below W.heap.size W w' ∧ ∃ B I', RV B w' I' r v := by
 obtain ⟨-, -, h⟩ := h
 have hm : MR W (fun b _ => b < W.heap.size) (fun _ => undef) (fun b _ => b < W.heap.size) Mem.nil W :=
  ⟨Below.refl _ _, hg, fun _ _ h => h, fun _ _ h => .inl h, fun _ _ h => h, (fun _ _ h => by simp [Mem.nil] at h), (fun _ _ h => by simp [Mem.nil] at h), (fun _ _ _ _ h => by simp [Mem.nil] at h), (fun _ _ h => by simp [Mem.nil] at h)⟩
 refine (h Mem.nil (fun _ _ => rfl) W _ _ _ W vals hm (hv _)).mono ?_
 rintro e w' ⟨v, I', rfl, hb, -, -, hr⟩
 exact ⟨v, rfl, hb, _, _, hr⟩
theorem OI {f : FuncId} {args : List A} {W : World} {vals : List Value} (h : COk Tryz.prog f args Mem.nil (.c (.bool true))) (hg : rz W) (hv : ∀ B, RVl B W (fun b _ => b < W.heap.size) args vals) :
 Calls Tryz.prog f vals.toArray W fun e w' => e = .returned (.bool true) ∧ Below W.heap.size W w' := by
 refine (RA h hg hv).mono ?_
 rintro e w' ⟨v, rfl, hb, B, I', hr⟩
 have hr : RC w' I' v (.bool true) := hr
 cases hr
 exact ⟨rfl, hb⟩
theorem Rh {B : Nat → Value} {W : World} {d : Nat} {v : Value} {p : Program} (h : iT d W (· < W.heap.size) v p) : RV B W (fun b _ => b < W.heap.size) (.agg (bI p)) v :=
 Oe (fun _ _ h => h) h
end V
end Go.Proofs.YtgaipdillmleeaaGreat
end
section
namespace Go.Proofs.YtgaipdillmleeaaGreat
namespace V
open Go.RowKit
def KS : A → Option A1
 | .agg xs => some (.agg xs)
 | a => a.down
def vK (key y : A1) (ents : List (A1 × A1)) : Option (Nat × A1) → List (A1 × A1)
 | some (i, _) => ents.set i (key, y)
 | none => ents ++ [(key, y)]
structure HPut (T : Tab) (ops : Array Oper) (o : Oper) (st : St) (t : Nat) (x k v : Operand) (j kt e : Nat) (key y : A1) (ents : List (A1 × A1)) (r : Option (Nat × A1)) : Prop where
 want : eH ops o st.s = some true
 op : o.op = .mapUpdate t x k v ∨ o.op = .insert t x k v
 dst : o.dst = none
 at_ : ev st.s x = .map j
 obj : st.m j = some (.map ents)
 map : T.map t = some (kt, e)
 keyed : toKey (ev st.s k) = some key
 kty : jW T kt key = true
 val : KS (ev st.s v) = some y
 find : gu key ents = some r
section
variable {P : Go.Program} {T : Tab} {w0 w : World} {I0 I : Nat → Nat → Prop} {B : Nat → Value} {m : Mem}
theorem Rq {a : A} {y : A1} {v : Value} (h : KS a = some y) (hv : RV B w I a v) : R1 B w I y v ∧ ∀ j ∈ y.ids, j ∈ a.ids := by
 unfold KS at h;split at h
 ·cases h; exact ⟨hv, fun j hj => by simp [A1.ids] at hj⟩
 ·exact ⟨kU h hv, iU h⟩
theorem REs.set : ∀ {l : List (A1 × A1)} {es : List MapEntry} (i : Nat) (p : A1 × A1) (e : MapEntry), REs B w I l es → R1 B w I p.1 e.key → R1 B w I p.2 e.val → REs B w I (l.set i p) (es.set i e)
 | [], [], _, _, _, _, _, _ => trivial
 | _ :: _, _ :: _, 0, _, _, h, h1, h2 => ⟨⟨h1, h2⟩, h.2⟩
 | _ :: _, _ :: _, i + 1, p, e, h, h1, h2 => ⟨h.1, REs.set i p e h.2 h1 h2⟩
theorem REs.erase : ∀ {l : List (A1 × A1)} {es : List MapEntry} (i : Nat), REs B w I l es → REs B w I (l.eraseIdx i) (es.eraseIdx i)
 | [], [], _, _ => trivial
 | _ :: _, _ :: _, 0, h => h.2
 | _ :: _, _ :: _, i + 1, h => ⟨h.1, REs.erase i h.2⟩
theorem REs.push : ∀ {l : List (A1 × A1)} {es : List MapEntry} (p : A1 × A1) (e : MapEntry), REs B w I l es → R1 B w I p.1 e.key → R1 B w I p.2 e.val → REs B w I (l ++ [p]) (es ++ [e])
 | [], [], _, _, _, h1, h2 => ⟨⟨h1, h2⟩, trivial⟩
 | _ :: _, _ :: _, p, e, h, h1, h2 => ⟨h.1, REs.push p e h.2 h1 h2⟩
theorem MR.QY (h : MR w0 I0 B I m w) {j r : Nat} {ents ents' : List (A1 × A1)} {es es' : Array MapEntry} {clock clock' : Nat} (hj : m j = some (.map ents)) (hB : B j = .map (some r)) (hh : w.heap[r]? = some (.map es clock)) (hno : ∀ p, ¬ I r p) (hes : REs B w I ents' es'.toList) (hl : ∀ i ∈ (O.map ents').ids, (m i).isSome = true) :
 MR w0 I0 B I (upd m j (some (.map ents'))) { w with heap := w.heap.setIfInBounds r (.map es' clock') } ∧ Ext w { w with heap := w.heap.setIfInBounds r (.map es' clock') } I I := by
 have hs := MapKept.heap_set (o' := .map es' clock') hh
 refine h.turn hj (b := r) hB (fun k hk => ?_) hno rfl rfl rfl (by simp) (fun k hk => hs.2 k hk) hl (fun hE => ⟨r, es', clock', hB, hs.1, hes.mono hE (fun _ _ => rfl), hno⟩)
 have hk : B j = .map (some k) := hk
 rw [hB] at hk; cases hk; rfl
end
variable {P : Go.Program} {T : Tab} (hT : T.Ok P) {kp : Nat → Prop} {ops : Array Oper}
theorem FR {key y : A1} {ents : List (A1 × A1)} {r : Option (Nat × A1)} : ∀ i ∈ (O.map (vK key y ents r)).ids, i ∈ (O.map ents).ids ∨ i ∈ key.ids ∨ i ∈ y.ids := by
 intro i hi;obtain ⟨p, hp, hq⟩ := List.mem_flatMap.1 hi;have : p ∈ ents ∨ p = (key, y) := by
  unfold vK at hp;split at hp
  ·exact List.mem_or_eq_of_mem_set hp
  ·simpa using hp
 rcases this with h | rfl
 ·exact .inl (List.mem_flatMap.2 ⟨p, h, hq⟩)
 ·exact .inr (by simpa using hq)
include hT
theorem Sm {o : Oper} {st : St} {t : Nat} {x k v : Operand} {j kt e : Nat} {key y : A1} {ents : List (A1 × A1)} {r : Option (Nat × A1)} (h : HPut T ops o st t x k v j kt e key y ents r) :
 Eff P T kp ops o st ⟨st.s, upd st.m j (some (.map (vK key y ents r)))⟩ := by
 have yl : ∀ {i : Nat}, WF st → i ∈ y.ids → (st.m i).isSome = true := fun {i} hw hi => by
  have : ∀ {a : A}, KS a = some y → i ∈ a.ids := fun {a} ha => by
   unfold KS at ha;split at ha
   ·cases ha; simp [A1.ids] at hi
   ·exact iU ha i hi
  have hi' := this h.val;cases hv : v with
  | tmp t => rw [hv] at hi'; exact hw.ids t i hi'
  | const c => rw [hv] at hi'; simp only [ev, iH] at hi'; simp at hi'
  | func f => rw [hv] at hi'; simp [ev, A.ids] at hi'
  | global g => rw [hv] at hi'; simp [ev, A.ids] at hi'
 have kl : key.ids = [] := by
  have := h.keyed;unfold toKey at this;split at this <;> cases this <;> rfl
 have live : WF st → ∀ i ∈ (O.map (vK key y ents r)).ids, (st.m i).isSome = true := fun hw i hi => by
  rcases FR i hi with q | q | q
  ·exact hw.live j _ h.obj i q
  ·rw [kl] at q; simp at q
  ·exact yl hw q
 have liv : ∀ i, (st.m i).isSome = true → (upd st.m j (some (O.map (vK key y ents r))) i).isSome = true := fun i hi => by
  exact Kk
 have wf : WF st → WF ⟨st.s, upd st.m j (some (.map (vK key y ents r)))⟩ := fun hw => ⟨fun t i hi => liv i (hw.ids t i hi), fun id z hz i hi => by
  have hz : upd st.m j (some (O.map (vK key y ents r))) id = some z := hz;unfold upd at hz;split at hz
  ·cases hz; exact liv i (live hw i hi)
  ·exact liv i (hw.live id z hz i hi)⟩
 refine ⟨by rcases h.op with e | e <;> rw [e] <;> rfl, wf, fun R n0 ds a w K Q hR hr hd hK => ?_⟩
 obtain ⟨B, I, hm, hx0, hkp0, hs⟩ := hr.ex
 rw [fC hs h.want, if_pos rfl]
 have hx := gM hs x
 rw [h.at_] at hx
 obtain ⟨hkr, -⟩ := GI h.keyed (gM hs k)
 obtain ⟨hyr, -⟩ := Rq h.val (gM hs v)
 have hfine := qh (P := P) hT h.kty hkr
 have hmap := hT.map _ _ _ h.map
 obtain ⟨q, es, clock, hB, hheap, hes, hno⟩ := hm.objs j _ h.obj
 have hxv : a.eval x = .map (some q) := hx.1.trans hB
 have fin : ∃ es' clock', (Instr.mapUpdate t (a.eval x) (a.eval k) (a.eval v)).run P w = .ok () { w with heap := w.heap.setIfInBounds q (.map es' clock') } ∧ REs B w I (vK key y ents r) es'.toList := by
  rw [hxv];rcases lC hT h.kty hkr hes h.find with ⟨e1, e2⟩ | ⟨i, v', e', k', e1, e2, e3, e4, e5, e6⟩
  ·subst e1;refine ⟨es.push ⟨a.eval k, a.eval v, clock⟩, clock + 1, ?_, by simpa [vK] using hes.push (key, y) ⟨a.eval k, a.eval v, clock⟩ hkr hyr⟩;exact Zi
  ·subst e1;have hj : es[i]? = some e' := by simpa using e3
   refine ⟨es.modify i (fun z => { z with key := a.eval k, val := a.eval v }), clock, ?_, ?_⟩
   ·exact Z4
   ·rw [Array.toList_modify, ChangeMaps.modify_eq_set _ _ _ _ e3];exact hes.set i (key, y) _ hkr hyr
 obtain ⟨es', clock', r1, r2⟩ := fin
 obtain ⟨hm', hE⟩ := hm.QY (clock' := clock') h.obj hB hheap hno r2 (live hr.wf)
 have hrun : (execOp a.eval o).run P w = .ok .skip { w with heap := w.heap.setIfInBounds q (.map es' clock') } := by
  rcases h.op with e | e <;> simp only [execOp, e, Sem.run_bind, r1, Result.andThen_ok] <;> rfl
 unfold Oper.wp Oper.upon
 rw [hrun]
 have hput : a.put o.dst undef = a := by rw [h.dst]; rfl
 show K (a.put o.dst undef) _
 rw [hput]
 exact hK _ _ ⟨⟨B, I, hm', hx0.trans hE, hkp0, fun t => (hs t).mono hE (fun _ _ => rfl)⟩, (wf hr.wf).ids, hr.size, hr.nn, hr.defs, fun j' hj' => liv j' (hr.kept j' hj')⟩
omit hT in
theorem SR.Kc {R : Ref} {n : Nat} {ds : List Deferred} {st : St} {a : Act} {w : World} (t id : Nat) {ty e lo hi : Nat} {xs : List (List C)} (hr : SR R n ds st a w) (htn : t ≠ DID) (ht : st.s t = .win id e lo hi) (hj : st.m id = some (.mrow ty e xs)) (hh : hi ≤ xs.length) (hkp : ¬ R.keep id) :
 SR R n ds ⟨upd (iy id st.s) t (.own id), upd (fq id st.m) id (some (.mrow ty e ((xs.take hi).drop lo)))⟩ a w := by
 obtain ⟨B, I, hm, hx0, hkp0, hs⟩ := hr.ex
 have hx := hs t
 rw [ht] at hx
 obtain ⟨ad, n0, cap, hB, hlo, hhi, hv⟩ := hx
 obtain ⟨vs, hrow, hvs, hlx, hno⟩ := hm.objs id _ hj
 have hn0 : n0 = xs.length ∧ xs.length ≤ cap := by
  exact TP
 obtain ⟨rfl, hnc⟩ := hn0
 have hvl := hvs.length
 have hfl := kW hlx
 have hlen : ((xs.take hi).drop lo).length = hi - lo := by simp; omega
 have hl1 : vs.length = xs.length * e := hrow.1
 have hle1 : hi * e ≤ xs.length * e := Nat.mul_le_mul_right e hh
 have hle2 : lo * e ≤ hi * e := Nat.mul_le_mul_right e hlo
 have hsub : (hi - lo) * e = hi * e - lo * e := Nat.sub_mul ..
 generalize hv' : a.tmps.getD t undef = v' at hv
 have hvl' : ((vs.take (hi * e)).drop (lo * e)).length = (hi - lo) * e := by simp; omega
 have hrow' : rowAt w ty e v' (hi - lo) ((vs.take (hi * e)).drop (lo * e)) := by
  exact aao
 have hob : v'.ownBlock = (B id).ownBlock ∨ v'.ownBlock = none := by
  exact PL
 have hflat : flat ((xs.take hi).drop lo) = ((flat xs).take (hi * e)).drop (lo * e) := by
  exact zt8
 have hm' := hm.EZ (id := id) (o' := .mrow ty e ((xs.take hi).drop lo)) (v' := v') (w' := w) (I' := I) hj rfl rfl rfl (Nat.le_refl _) (fun _ _ _ => rfl)
  (fun k hk => by
    have hk : (upd B id v' id).ownBlock = some k := hk;rw [upd_same] at hk;rcases hob with q | q
    ·exact Wq
    ·rw [q] at hk; cases hk)
  (Ext.refl _ _) (fun b p hp => .inl hp)
  ⟨_, by rw [upd_same, hlen]; exact hrow', by rw [hflat]; exact (hvs.take _).drop _, fun x hx => hlx x (List.mem_of_mem_take (List.mem_of_mem_drop hx)), fun b hb p hp => by
    rw [upd_same] at hb;rcases hob with q | q
    ·rw [q] at hb; exact hno b hb p hp
    ·rw [q] at hb; cases hb⟩ (fun i hi => by simp [O.ids] at hi)
 have hwf := Nj hr.wf hj (o' := .mrow ty e ((xs.take hi).drop lo)) (fun i hi => by simp [O.ids] at hi) t (.own id) (fun i hi => by simp [A.ids] at hi; subst hi; simp [hj])
 refine ⟨⟨_, I, hm', hx0, fun j hj' => ?_, fun t' => ?_⟩, hwf.ids, hr.size, hr.nn, ?_, fun j hj' => ?_⟩
 ·rw [upd_ne _ _ (fun e => by subst e; exact hkp hj')]; exact hkp0 j hj'
 ·by_cases htt : t' = t
  ·subst htt
   show RV _ _ _ (upd _ t' _ t') _
   rw [upd_same, hv']
   obtain ⟨ad', cp', q, -⟩ := hrow'.shape
   exact ⟨(upd_same ..).symm, _, _, _, q⟩
  ·show RV _ _ _ (upd _ t _ t') _
   rw [upd_ne _ _ htt]
   rcases (A.dx (id := id) (a := st.s t')).2 with q | ⟨q, hnn⟩
   ·rw [bB, q]; trivial
   ·rw [bB, q]
    exact (hs t').mono (Ext.refl _ _) fun j hj => upd_ne _ _ (fun e => hnn (e ▸ hj))
 ·show a.defers = dfs (upd (iy id st.s) t (.own id) DID) ++ ds
  rw [upd_ne _ _ (fun q => htn q.symm), bB, oL]; exact hr.defs
 ·have := hr.kept j hj'
  show (upd (fq id st.m) id _ j).isSome = true
  unfold upd; split
  ·rfl
  ·simpa [aB] using this
omit hT in
theorem W.Kc {R : Ref} {n : Nat} {ds : List Deferred} {st : St} {c : Code} {K : Exit → St → Prop} (t id : Nat) {ty e lo hi : Nat} {xs : List (List C)} (htn : t ≠ DID) (ht : st.s t = .win id e lo hi) (hj : st.m id = some (.mrow ty e xs)) (hh : hi ≤ xs.length) (hkp : ¬ R.keep id)
 (h : W P R n ds ⟨upd (iy id st.s) t (.own id), upd (fq id st.m) id (some (.mrow ty e ((xs.take hi).drop lo)))⟩ c K) : W P R n ds st c K :=
 fun a w hr => h a w (hr.Kc t id htn ht hj hh hkp)
theorem Fq {base : Nat} {o : Oper} {l : List Oper} {st : St} {k : St → Prop} {t : Nat} {x kx v : Operand} {j kt e : Nat} {key y : A1} {ents : List (A1 × A1)} {r : Option (Nat × A1)} (h : eH ops o st.s = some true) (hop : o.op = .mapUpdate t x kx v ∨ o.op = .insert t x kx v) (hd : o.dst = none)
 (hx : ev st.s x = .map j) (hm : st.m j = some (.map ents)) (h1 : T.map t = some (kt, e)) (hk : toKey (ev st.s kx) = some key) (hkt : jW T kt key = true) (hv : KS (ev st.s v) = some y) (hf : gu key ents = some r)
 (ht2 : je P T kp base ops l ⟨st.s, upd st.m j (some (.map (vK key y ents r)))⟩ k) : je P T kp base ops (o :: l) st k :=
 jv (.eff (Sm hT ⟨h, hop, hd, hx, hm, h1, hk, hkt, hv, hf⟩)) ht2
end V
end Go.Proofs.YtgaipdillmleeaaGreat
end
section
namespace Go.Proofs.YtgaipdillmleeaaGreat
namespace V
open Go.RowKit
def bs (s : ByteArray) : List UInt8 := s.data.toList
def fQ (s : List UInt8) : List (List UInt8) → List (List UInt8)
 | [] => [s]
 | t :: l => if s = t then t :: l else if s < t then s :: t :: l else t :: fQ s l
def iE (s : List UInt8) (L : List (List UInt8)) : List (List UInt8) := L.filter fun t => t != s
theorem mW {s x : List UInt8} : ∀ {L : List (List UInt8)}, x ∈ fQ s L ↔ x = s ∨ x ∈ L
 | [] => by simp [fQ]
 | t :: l => by
   have ih := mW (s := s) (x := x) (L := l);unfold fQ;split
   ·rename_i e; subst e; simp
   ·split
    ·simp
    ·rw [List.mem_cons, ih, List.mem_cons];constructor
     ·exact UA
     ·exact UA
theorem ng {s x : List UInt8} {L : List (List UInt8)} : x ∈ iE s L ↔ x ∈ L ∧ x ≠ s := by unfold iE; simp
theorem xA {a b : ByteArray} (h : bs a = bs b) : a = b := WideShapes.bytes_inj h
theorem NM.empty {clock : Nat} : NM #[] clock (some []) := ⟨MapKept.stamped_empty _, fun e he => by simp at he, fun L hL s => by cases hL; simp⟩
theorem NM.forget {es : Array MapEntry} {clock : Nat} {o : Option (List (List UInt8))} (h : NM es clock o) : NM es clock none := ⟨h.stamped, h.each, fun L hL => by cases hL⟩
theorem NM.push {es : Array MapEntry} {clock : Nat} {L : List (List UInt8)} (h : NM es clock (some L)) {s : ByteArray} (hs : s.size ≤ gP) (hn : ∀ e ∈ es.toList, e.key ≠ .string s) : NM (es.push ⟨.string s, .int .i64 1, clock⟩) (clock + 1) (some (fQ (bs s) L)) := by
 refine ⟨MapKept.stamped_push h.stamped hn, fun e he => ?_, fun L' hL t => ?_⟩
 ·rw [Array.toList_push] at he;rcases List.mem_append.1 he with he | he
  ·exact h.each e he
  ·obtain rfl := List.mem_singleton.1 he;exact ⟨s, rfl, hs, rfl⟩
 ·cases hL
  rw [mW, Array.toList_push];constructor
  ·rintro ⟨e, he, hk⟩;rcases List.mem_append.1 he with he | he
   ·exact .inr ((h.told L rfl t).1 ⟨e, he, hk⟩)
   ·obtain rfl := List.mem_singleton.1 he;cases hk; exact .inl rfl
  ·rintro (e | ht)
   ·have e := xA (show bs t = bs s from e);exact ⟨⟨.string s, .int .i64 1, clock⟩, List.mem_append_right _ (by simp), by rw [e]⟩
   ·obtain ⟨e, he, hk⟩ := (h.told L rfl t).2 ht;exact ⟨e, List.mem_append_left _ he, hk⟩
theorem NM.again {es : Array MapEntry} {clock : Nat} {L : List (List UInt8)} (h : NM es clock (some L)) {s : ByteArray} {i : Nat} {e : MapEntry} (hi : es[i]? = some e) (hk : e.key = .string s) : NM (es.modify i fun z => { z with key := .string s, val := .int .i64 1 }) clock (some (fQ (bs s) L)) := by
 have hst := MapKept.stamped_modify h.stamped i (fun z => { z with key := .string s, val := .int .i64 1 }) (fun _ _ => rfl) (fun x _ hx => by rw [hi] at hx; cases hx; exact hk.symm);have hi' : es.toList[i]? = some e := by simpa using hi
 have hv : e.val = .int .i64 1 := by obtain ⟨_, _, _, h3⟩ := h.each e (List.mem_of_getElem? hi'); exact h3
 have he : { e with key := Value.string s, val := Value.int .i64 1 } = e := by rw [← hk, ← hv]
 have hsame : (es.modify i fun z => { z with key := .string s, val := .int .i64 1 }).toList = es.toList := by
  rw [Array.toList_modify, ChangeMaps.modify_eq_set _ _ _ _ hi', he];refine List.ext_getElem? fun k => ?_;rw [List.getElem?_set];split
  ·rename_i e2; subst e2;rw [if_pos (List.getElem?_eq_some_iff.1 hi').1, hi']
  ·rfl
 refine ⟨hst, fun x hx => h.each x (by rw [hsame] at hx; exact hx), fun L' hL t => ?_⟩;cases hL
 rw [hsame, h.told L rfl t, mW];refine ⟨.inr, fun q => q.elim (fun q => ?_) id⟩;obtain rfl := xA (show bs t = bs s from q);exact (h.told L rfl t).1 ⟨e, List.mem_of_getElem? hi', hk⟩
theorem NM.absent {es : Array MapEntry} {clock : Nat} {L : List (List UInt8)} (h : NM es clock (some L)) {s : ByteArray} (hn : ∀ e ∈ es.toList, e.key ≠ .string s) : NM es clock (some (iE (bs s) L)) := by
 refine ⟨h.stamped, h.each, fun L' hL t => ?_⟩;cases hL
 rw [ng, h.told L rfl t];refine ⟨fun q => ⟨q, fun e => ?_⟩, fun q => q.1⟩;obtain rfl := xA (show bs t = bs s from e);obtain ⟨e, he, hk⟩ := (h.told L rfl t).2 q;exact hn e he hk
theorem NM.strike {es : Array MapEntry} {clock : Nat} {L : List (List UInt8)} (h : NM es clock (some L)) {s : ByteArray} {i : Nat} {e : MapEntry} (hi : es[i]? = some e) (hk : e.key = .string s) : NM (es.eraseIdxIfInBounds i) clock (some (iE (bs s) L)) := by
 have hi' : es.toList[i]? = some e := by simpa using hi
 have hlt : i < es.size := (Array.getElem?_eq_some_iff.1 hi).1;have hl : (es.eraseIdxIfInBounds i).toList = es.toList.eraseIdx i := by
  unfold Array.eraseIdxIfInBounds;rw [dif_pos hlt, Array.toList_eraseIdx]
 have hnd := (MapKept.stamped_iff es clock).1 h.stamped |>.2.2;have hmem : ∀ x, x ∈ es.toList.eraseIdx i ↔ x ∈ es.toList ∧ x.key ≠ .string s := fun x => by
  rw [List.mem_eraseIdx_iff_getElem?];constructor
  ·rintro ⟨k, hki, hkx⟩;refine ⟨List.mem_of_getElem? hkx, fun hxs => ?_⟩;obtain ⟨l1, e1⟩ := List.getElem?_eq_some_iff.1 hkx;obtain ⟨l2, e2⟩ := List.getElem?_eq_some_iff.1 hi';have hp := List.pairwise_iff_getElem.1 hnd;rcases Nat.lt_or_gt_of_ne hki with q | q
   ·have := hp k i l1 l2 q;rw [e1, e2, hk, hxs] at this; exact this rfl
   ·have := hp i k l2 l1 q;rw [e1, e2, hk, hxs] at this; exact this rfl
  ·rintro ⟨hx, hne⟩;obtain ⟨k, hkx⟩ := List.getElem?_of_mem hx;refine ⟨k, fun q => ?_, hkx⟩;subst q;rw [hi'] at hkx; cases hkx;exact hne hk
 refine ⟨MapKept.stamped_erase h.stamped i, fun x hx => h.each x (by rw [hl] at hx; exact ((hmem x).1 hx).1), fun L' hL t => ?_⟩;cases hL
 rw [hl, ng, ← show bs t = t.data.toList from rfl];constructor
 ·rintro ⟨x, hx, hxt⟩;obtain ⟨h1, h2⟩ := (hmem x).1 hx;refine ⟨(h.told L rfl t).1 ⟨x, h1, hxt⟩, fun q => h2 ?_⟩;rw [hxt, xA q]
 ·rintro ⟨ht, hne⟩;obtain ⟨x, hx, hxt⟩ := (h.told L rfl t).2 ht;exact ⟨x, (hmem x).2 ⟨hx, fun q => hne (by rw [hxt] at q; cases q; rfl)⟩, hxt⟩
section
variable {P : Go.Program} {T : Tab} {w0 w : World} {I0 I : Nat → Nat → Prop} {B : Nat → Value} {m : Mem}
theorem MR.zD (h : MR w0 I0 B I m w) {j r : Nat} {x : O} {o' : Option (List (List UInt8))} {es es' : Array MapEntry} {clock clock' : Nat} (hj : m j = some x) (hf : foot B j x r) (hB : B j = .map (some r)) (hh : w.heap[r]? = some (.map es clock)) (hno : ∀ p, ¬ I r p) (hn : NM es' clock' o') :
 MR w0 I0 B I (upd m j (some (.names o'))) { w with heap := w.heap.setIfInBounds r (.map es' clock') } ∧ Ext w { w with heap := w.heap.setIfInBounds r (.map es' clock') } I I := by
 have hs := MapKept.heap_set (o' := .map es' clock') hh
 refine h.turn hj (b := r) hf (fun k hk => ?_) hno rfl rfl rfl (by simp) (fun k hk => hs.2 k hk) (fun i hi => by simp [O.ids] at hi) (fun hE => ⟨r, es', clock', hB, hs.1, hn, hno⟩)
 have hk : B j = .map (some k) := hk
 rw [hB] at hk; cases hk; rfl
theorem MR.MF (h : MR w0 I0 B I m w) {j : Nat} {x y : O} (hj : m j = some x) (hy : y.ids = []) (hf : ∀ k, foot B j y k → foot B j x k) (hr : RO B w I j x → RO B w I j y) : MR w0 I0 B I (upd m j (some y)) w := by
 have other : ∀ {i : Nat} {z : O}, upd m j (some y) i = some z → (i = j ∧ z = y) ∨ (i ≠ j ∧ m i = some z) := fun {i z} hz => by
  exact Ve
 refine ⟨h.below, h.glob, h.base, h.old, h.there, fun i z hz => ?_, fun i z hz k hk => ?_, fun i z i' z' hz hz' hne k hk hk' => ?_, fun i z hz q hq => ?_⟩
 ·rcases other hz with ⟨rfl, rfl⟩ | ⟨-, hz⟩
  ·exact hr (h.objs _ x hj)
  ·exact h.objs i z hz
 ·rcases other hz with ⟨rfl, rfl⟩ | ⟨-, hz⟩
  ·exact h.low _ x hj k (hf k hk)
  ·exact h.low i z hz k hk
 ·rcases other hz with ⟨e1, e2⟩ | ⟨-, hz1⟩
  ·rcases other hz' with ⟨e3, e4⟩ | ⟨-, hz2⟩
   ·exact hne (e1.trans e3.symm)
   ·rw [e1, e2] at hk;exact h.apart j x i' z' hj hz2 (fun q => hne (e1.trans q)) k (hf k hk) hk'
  ·rcases other hz' with ⟨e3, e4⟩ | ⟨-, hz2⟩
   ·rw [e3, e4] at hk';exact h.apart i z j x hz1 hj (fun q => hne (q.trans e3.symm)) k hk (hf k hk')
   ·exact h.apart i z i' z' hz1 hz2 hne k hk hk'
 ·rcases other hz with ⟨rfl, rfl⟩ | ⟨-, hz⟩
  ·rw [hy] at hq; cases hq
  ·have := h.live i z hz q hq;unfold upd; split
   ·rfl
   ·exact this
theorem SR.MF {R : Ref} {n : Nat} {ds : List Deferred} {st : St} {a : Act} {w : World} (hr : SR R n ds st a w) {j : Nat} {x y : O} (hj : st.m j = some x) (hy : y.ids = []) (hf : ∀ B k, foot B j y k → foot B j x k) (hro : ∀ B w I, RO B w I j x → RO B w I j y) : SR R n ds ⟨st.s, upd st.m j (some y)⟩ a w := by
 obtain ⟨B, I, hm, hx0, hkp0, hs⟩ := hr.ex;have liv : ∀ i, (st.m i).isSome = true → (upd st.m j (some y) i).isSome = true := fun i hi => by
  exact Kk
 exact ⟨⟨B, I, hm.MF hj hy (hf B) (hro B w I), hx0, hkp0, hs⟩, fun t i hi => liv i (hr.wf.ids t i hi), hr.size, hr.nn, hr.defs, fun k hk => liv k (hr.kept k hk)⟩
theorem W.N9 {R : Ref} {n : Nat} {ds : List Deferred} {st : St} {c : Code} {K : Exit → St → Prop} (j : Nat) (hj : st.m j = some (.map [])) (h : W P R n ds ⟨st.s, upd st.m j (some (.names (some [])))⟩ c K) : W P R n ds st c K := fun a w hr =>
 h a w (hr.MF hj rfl (fun B k hk => hk) fun B w I ⟨r, es, clock, h1, h2, h3, h4⟩ => by
   have he : es = #[] := by
    have : es.toList = [] := by
     cases hl : es.toList with
     | nil => rfl
     | cons e l => rw [hl] at h3; exact absurd h3 (fun q => q)
    exact Array.toList_eq_nil_iff.1 this
   subst he;exact ⟨r, _, clock, h1, h2, NM.empty, h4⟩)
end
variable {P : Go.Program} {T : Tab} (hT : T.Ok P) {kp : Nat → Prop} {ops : Array Oper}
structure HNm (T : Tab) (ops : Array Oper) (o : Oper) (st : St) (t : Nat) (x k : Operand) (j kt e : Nat) (s : ByteArray) (L : List (List UInt8)) : Prop where
 want : eH ops o st.s = some true
 dst : o.dst = none
 at_ : ev st.s x = .map j
 obj : st.m j = some (.names (some L))
 map : T.map t = some (kt, e)
 keyed : ev st.s k = .c (.str s)
 kty : jW T kt (.c (.str s)) = true
include hT
theorem JL {B : Nat → Value} {w : World} {I : Nat → Nat → Prop} {es : Array MapEntry} {clock kt : Nat} {L : List (List UInt8)} (hn : NM es clock (some L)) {s : ByteArray} (hk : jW T kt (.c (.str s)) = true) (hr : R1 B w I (.c (.str s)) (.string s)) :
 ((Instr.findKey kt (.string s) es.toList).run P w = .ok none w ∧ ∀ e ∈ es.toList, e.key ≠ .string s) ∨ ∃ q e, (Instr.findKey kt (.string s) es.toList).run P w = .ok (some (q, e.val)) w ∧ es[q]? = some e ∧ e.key = .string s := by
 have hes := CW (B := B) (w := w) (I := I) hn.each
 rcases Vw hn.each s with ⟨hf, hno⟩ | ⟨q, e, hf, hq', hk'⟩
 ·rcases lC hT hk hr hes hf with ⟨-, e2⟩ | ⟨q', v', e', k', e1, -⟩
  ·exact .inl ⟨e2, hno⟩
  ·cases e1
 ·rcases lC hT hk hr hes hf with ⟨e1, -⟩ | ⟨q', v', e', k', e1, e2, e3, e4, e5, e6⟩
  ·cases e1
  ·cases e1
   exact .inr ⟨_, e', e2, by simpa using e3, e5⟩
omit hT in
theorem Kl {st : St} {j : Nat} {o : Option (List (List UInt8))} (hw : WF st) : WF ⟨st.s, upd st.m j (some (.names o))⟩ := by
 have liv : ∀ i, (st.m i).isSome = true → (upd st.m j (some (O.names o)) i).isSome = true := fun i hi => by
  exact Kk
 refine ⟨fun t i hi => liv i (hw.ids t i hi), fun id z hz i hi => ?_⟩;have hz : upd st.m j (some (O.names o)) id = some z := hz;unfold upd at hz;split at hz
 ·cases hz; simp [O.ids] at hi
 ·exact liv i (hw.live id z hz i hi)
theorem PI {o : Oper} {st : St} {t : Nat} {x k v : Operand} {j kt e : Nat} {s : ByteArray} {L : List (List UInt8)} (h : HNm T ops o st t x k j kt e s L) (hop : o.op = .mapUpdate t x k v) (hv : ev st.s v = .c (.int .i64 1)) :
 Eff P T kp ops o st ⟨st.s, upd st.m j (some (.names (some (fQ (bs s) L))))⟩ := by
 refine ⟨by rw [hop]; rfl, Kl, fun R n0 ds a w K Q hR hr hd hK => ?_⟩
 obtain ⟨B, I, hm, hx0, hkp0, hs⟩ := hr.ex
 rw [fC hs h.want, if_pos rfl]
 have hx := gM hs x
 rw [h.at_] at hx
 have hkr := gM hs k
 rw [h.keyed] at hkr
 have hks : a.eval k = .string s ∧ s.size ≤ gP := by
  exact Nb
 have hvr := gM hs v
 rw [hv] at hvr
 have hvs : a.eval v = .int .i64 1 := by
  have hvr : RC w I (a.eval v) (.int .i64 1) := hvr;generalize a.eval v = vv at hvr;cases hvr; rfl
 have hk1 : R1 B w I (.c (.str s)) (.string s) := .str hks.2
 have hfine := qh (P := P) hT h.kty hk1
 have hmap := hT.map _ _ _ h.map
 obtain ⟨q, es, clock, hB, hheap, hnm, hno⟩ := hm.objs j _ h.obj
 have hxv : a.eval x = .map (some q) := hx.1.trans hB
 have fin : ∃ es' clock', (Instr.mapUpdate t (a.eval x) (a.eval k) (a.eval v)).run P w = .ok () { w with heap := w.heap.setIfInBounds q (.map es' clock') } ∧ NM es' clock' (some (fQ (bs s) L)) := by
  rw [hxv, hks.1, hvs];rcases JL hT hnm h.kty hk1 with ⟨e2, e3⟩ | ⟨i, e', e2, hj, e5⟩
  ·refine ⟨_, clock + 1, ?_, hnm.push hks.2 e3⟩;exact Zi
  ·refine ⟨_, clock, ?_, hnm.again hj e5⟩;exact Z4
 obtain ⟨es', clock', r1, r2⟩ := fin
 obtain ⟨hm', hE⟩ := hm.zD (clock' := clock') h.obj hB hB hheap hno r2
 have hrun : (execOp a.eval o).run P w = .ok .skip { w with heap := w.heap.setIfInBounds q (.map es' clock') } := by
  simp only [execOp, hop, Sem.run_bind, r1, Result.andThen_ok]; rfl
 unfold Oper.wp Oper.upon
 rw [hrun]
 have hput : a.put o.dst undef = a := by rw [h.dst]; rfl
 show K (a.put o.dst undef) _
 rw [hput]
 have liv : ∀ i, (st.m i).isSome = true → (upd st.m j (some (O.names (some (fQ (bs s) L)))) i).isSome = true := fun i hi => by
  exact Kk
 exact hK _ _ ⟨⟨B, I, hm', hx0.trans hE, hkp0, fun t => (hs t).mono hE (fun _ _ => rfl)⟩, (Kl hr.wf).ids, hr.size, hr.nn, hr.defs, fun j' hj' => liv j' (hr.kept j' hj')⟩
theorem Od {o : Oper} {st : St} {c : Call} {t kt' : Nat} {x k : Operand} {j kt e : Nat} {s : ByteArray} {L : List (List UInt8)} (h : HNm T ops o st t x k j kt e s L) (hop : o.op = .call c) (hc : c.callee = .builtin .delete) (ha : c.args = #[x, k]) (ht : c.argTypes = #[t, kt']) :
 Eff P T kp ops o st ⟨st.s, upd st.m j (some (.names (some (iE (bs s) L))))⟩ := by
 refine ⟨by rw [hop]; simp [kind, hc], Kl, fun R n0 ds a w K Q hR hr hd hK => ?_⟩
 obtain ⟨B, I, hm, hx0, hkp0, hs⟩ := hr.ex
 rw [fC hs h.want, if_pos rfl]
 have hx := gM hs x
 rw [h.at_] at hx
 have hkr := gM hs k
 rw [h.keyed] at hkr
 have hks : a.eval k = .string s ∧ s.size ≤ gP := by
  exact Nb
 have hk1 : R1 B w I (.c (.str s)) (.string s) := .str hks.2
 have hfine := qh (P := P) hT h.kty hk1
 have hmap := hT.map _ _ _ h.map
 obtain ⟨q, es, clock, hB, hheap, hnm, hno⟩ := hm.objs j _ h.obj
 have hxv : a.eval x = .map (some q) := hx.1.trans hB
 have fin : ∃ es' clock', (Builtin.delete_ #[t, kt'] o.type #[a.eval x, a.eval k]).run P w = .ok (.tuple #[]) { w with heap := w.heap.setIfInBounds q (.map es' clock') } ∧ NM es' clock' (some (iE (bs s) L)) := by
  rw [hxv, hks.1];rcases JL hT hnm h.kty hk1 with ⟨e2, e3⟩ | ⟨i, e', e2, hj, e5⟩
  ·refine ⟨es, clock, ?_, hnm.absent e3⟩;exact aag
  ·refine ⟨es.eraseIdxIfInBounds i, clock, ?_, hnm.strike hj e5⟩;exact aag
 obtain ⟨es', clock', r1, r2⟩ := fin
 obtain ⟨hm', hE⟩ := hm.zD (clock' := clock') h.obj hB hB hheap hno r2
 have hrun : (execOp a.eval o).run P w = .ok (.value (.tuple #[])) { w with heap := w.heap.setIfInBounds q (.map es' clock') } := by
  obtain ⟨cal, args, tys⟩ := c;simp only at hc ha ht;subst hc ha ht;simp only [execOp, hop, resolve, invoke, builtin, Sem.run_bind, Sem.run_pure, Result.andThen_ok, List.map_toArray, List.map_cons, List.map_nil, r1]
 unfold Oper.wp Oper.upon
 rw [hrun]
 have hput : a.put o.dst (.tuple #[]) = a := by rw [h.dst]; rfl
 show K (a.put o.dst (.tuple #[])) _
 rw [hput]
 have liv : ∀ i, (st.m i).isSome = true → (upd st.m j (some (O.names (some (iE (bs s) L)))) i).isSome = true := fun i hi => by
  exact Kk
 exact hK _ _ ⟨⟨B, I, hm', hx0.trans hE, hkp0, fun t => (hs t).mono hE (fun _ _ => rfl)⟩, (Kl hr.wf).ids, hr.size, hr.nn, hr.defs, fun j' hj' => liv j' (hr.kept j' hj')⟩
theorem yg {base : Nat} {o : Oper} {l : List Oper} {st : St} {K : St → Prop} {t : Nat} {x kx v : Operand} {j kt e : Nat} {s : ByteArray} {L : List (List UInt8)} (h : eH ops o st.s = some true) (hop : o.op = .mapUpdate t x kx v) (hd : o.dst = none)
 (hx : ev st.s x = .map j) (hm : st.m j = some (.names (some L))) (h1 : T.map t = some (kt, e)) (hk : ev st.s kx = .c (.str s)) (hkt : jW T kt (.c (.str s)) = true) (hv : ev st.s v = .c (.int .i64 1))
 (ht2 : je P T kp base ops l ⟨st.s, upd st.m j (some (.names (some (fQ (bs s) L))))⟩ K) : je P T kp base ops (o :: l) st K :=
 jv (.eff (PI hT ⟨h, hd, hx, hm, h1, hk, hkt⟩ hop hv)) ht2
theorem KP {base : Nat} {o : Oper} {l : List Oper} {st : St} {K : St → Prop} {c : Call} {t kt' : Nat} {x kx : Operand} {j kt e : Nat} {s : ByteArray} {L : List (List UInt8)} (h : eH ops o st.s = some true) (hop : o.op = .call c) (hc : c.callee = .builtin .delete) (ha : c.args = #[x, kx]) (ht : c.argTypes = #[t, kt']) (hd : o.dst = none)
 (hx : ev st.s x = .map j) (hm : st.m j = some (.names (some L))) (h1 : T.map t = some (kt, e)) (hk : ev st.s kx = .c (.str s)) (hkt : jW T kt (.c (.str s)) = true)
 (ht2 : je P T kp base ops l ⟨st.s, upd st.m j (some (.names (some (iE (bs s) L))))⟩ K) : je P T kp base ops (o :: l) st K :=
 jv (.eff (Od hT ⟨h, hd, hx, hm, h1, hk, hkt⟩ hop hc ha ht)) ht2
end V
end Go.Proofs.YtgaipdillmleeaaGreat
end
section
namespace Go.Proofs.YtgaipdillmleeaaGreat
namespace AS
open V
abbrev Nm := List UInt8
def hasB (L : List Nm) (s : ByteArray) : Bool := L.contains (bs s)
mutual
def kC (L : List Nm) : Expr → Bool
 | ⟨k, _, nm, kids⟩ => (!decide (k = 4) || hasB L nm) && gL L kids
def gL (L : List Nm) : List Expr → Bool
 | [] => true
 | x :: l => kC L x && gL L l
end
def ownB (k : Int) : List Expr → Bool
 | x :: _ => decide (k = 2) && decide (x.kind = 4)
 | [] => false
def jh (k : Int) (es : List Expr) : List Expr := if ownB k es = true then (match es with | x :: l => x.kids ++ l | [] => []) else es
def yI : List Expr → Nm
 | x :: _ => bs x.name
 | [] => []
def tN : Option (List Nm) → Option (List Nm) → Option (List Nm)
 | none, b => b
 | a, none => a
 | some A, some B => some (A.filter fun s => B.contains s)
mutual
def jH (L : List Nm) : Stmt → Option (List Nm) × Bool
 | ⟨k, _, _, nm, es, th, el⟩ =>
   if gL L (jh k es) = false then (none, false)
   else if k = 1 then (some (if es.isEmpty = true then iE (bs nm) L else fQ (bs nm) (iE (bs nm) L)), true)
   else if k = 2 then (some (if ownB k es = true then fQ (yI es) L else L), true)
   else if k = 3 then (tN (fD L th).1 (fD L el).1, (fD L th).2 && (fD L el).2)
   else if k = 4 then (some L, (fD L th).2)
   else if k = 6 then (none, true)
   else (some L, true)
def fD (L : List Nm) : List Stmt → Option (List Nm) × Bool
 | [] => (some L, true)
 | x :: l =>
   match jH L x with
   | (_, false) => (none, false)
   | (none, true) => (match l with | [] => (none, true) | _ :: _ => (none, false))
   | (some L', true) => fD L' l
end
def fT : List Nm → List Nm → List Nm
 | L, [] => L
 | L, s :: l => fT (fQ s L) l
end AS
end Go.Proofs.YtgaipdillmleeaaGreat
end
section
namespace Go.Proofs.YtgaipdillmleeaaGreat
open Go.Shelf Go.RowKit Go.Lib
section
variable {P : Go.Program} {ρ : Ren}
set_option maxHeartbeats 2000000 in
set_option maxRecDepth 100000 in
theorem IC (L : SlLaysE0.n41 P ρ) (i0 : TypeInfo) (z : Value) (size bytes : Nat) (hi : P.info? (ρ.t 23) = some i0) (hz0 : i0.zero = some z) (hz1 : i0.size = size) (hz2 : i0.bytes = bytes) (hzs : z.cells.size = size) (hsz : 0 < size)
 (z23 : ∀ w, (Go.sizeOf (ρ.t 23)).run P w = .ok size w) (p : Addr) (c : Nat) (w : World) :
 Calls P (ρ.f 41) #[.slice (some p) 0 c] w fun e w' => ∃ v', e = .returned v' ∧ w'.ownsRow w.heap.size (ρ.t 23) size v' 0 [] ∧ Below w.heap.size w w' := by
 have mixed := L.mixed; have t4 := L.t4; have a4 := L.a4; have z4 := L.z4; have v4 := L.v4; have t22 := L.t22; have a22 := L.a22; have z22 := L.z22; have v22 := L.v22
 have q22 : ∀ (w : World) (a : Option Addr) (n c n' c' : Nat), (binOp .eql (ρ.t 22) (.slice a n c) (.slice none n' c')).run P w = .ok (.bool a.isNone) w := fun w a n c n' c' => Lib.run_eql_slice_nil w _ _ a n c n' c' L.t22
 have u22 : ∀ w, Sem.run P (underlying (ρ.t 22)) w = .ok (TypeDesc.slice (ρ.t 23)) w := run_underlying t22
 obtain ⟨_, _, FG⟩ := L.f41
 go_enter FG, SlBodyN.n41_ntmps ρ
 go_wp2_with (at_builtin; refine wpList_append_own _ rfl _ _ (ρ.t 22) rfl w.heap.size (ρ.t 23) i0 z size bytes t22 hi hz0 hz1 hz2 hzs hsz _ _ _ rfl (World.ownsRow_made w #[] 0 (Nat.le_refl _) (Nat.zero_le _) (by simp)) p 0 c [] rfl ?qc1 ?qc2 ?qc3 ?qc4 ?qc5 ?qc6 ?_)
 case qc1 => simp
 case qc2 =>
  intro j u hj;simp at hj
 case qc3 => intro u hu; cases hu
 case qc4 => rw [Nat.zero_add]; exact Nat.zero_le _
 case qc5 => rw [Nat.zero_add, Nat.zero_mul]; exact Nat.zero_le _
 case qc6 => simp
 intro v' w1 hown hgrow hnil
 go_wp2
 go_ret
 exact ⟨v', rfl, by simpa using hown, ((Below.refl _ w).alloc (Nat.le_refl _) _).grown hgrow (by simp) (by intro k hk; simp [Value.ownBlock] at hk; omega)⟩
end
namespace V
section
variable {w0 w w' : World} {I0 I I' : Nat → Nat → Prop} {B : Nat → Value} {M : Mem}
theorem jg {B B' : Nat → Value} {j : Nat} {o : O} {k : Nat} (h : B' j = B j) : foot B' j o k = foot B j o k := by
 cases o <;> simp only [foot, h]
theorem MR.fresh (h : MR w0 I0 B I M w) {id : Nat} (hid : M id = none) {v : Value} {o' : O} (hb : Below w.heap.size w w') (hf : ∀ k, foot (upd B id v) id o' k → w.heap.size ≤ k ∧ k < w'.heap.size) (hE : Ext w w' I I')
 (hI' : ∀ b p, I' b p → I b p ∨ foot (upd B id v) id o' b) (hob : RO (upd B id v) w' I' id o') (hl : o'.ids = []) : MR w0 I0 (upd B id v) I' (upd M id (some o')) w' := by
 have hne : ∀ j, (M j).isSome = true → j ≠ id := fun j hj e => by subst e; rw [hid] at hj; cases hj
 have hB : ∀ j, (M j).isSome = true → upd B id v j = B j := fun j hj => upd_ne _ _ (hne j hj)
 have liv : ∀ j, (M j).isSome = true → (upd M id (some o') j).isSome = true := fun j hj => by rw [upd_ne _ _ (hne j hj)]; exact hj
 have other : ∀ {j : Nat} {z : O}, upd M id (some o') j = some z → (j = id ∧ z = o') ∨ (j ≠ id ∧ M j = some z) := fun {j z} hz => by
  exact Ve
 have hs0 := h.below.size
 refine ⟨h.below.trans ⟨hb.os, hb.tape, hb.output, hb.size, fun b hlt => hb.block b (Nat.lt_of_lt_of_le hlt hs0)⟩, h.glob, fun b o h0 => hE.more _ _ (h.base b o h0), fun b o hi => ?_, fun b o hi => ?_, fun j z hz => ?_, fun j z hz k hk => ?_, fun j z j' z' hz hz' hjj k hk hk' => ?_, fun j z hz i hi => ?_⟩
 ·rcases hI' b o hi with hi | hi
  ·exact h.old b o hi
  ·exact .inr (Nat.le_trans hs0 (hf b hi).1)
 ·rcases hI' b o hi with hi | hi
  ·exact Nat.lt_of_lt_of_le (h.there b o hi) hb.size
  ·exact (hf b hi).2
 ·rcases other hz with ⟨rfl, rfl⟩ | ⟨hj, hz⟩
  ·exact hob
  ·refine RO.mono hE (hB j (by simp [hz])) (fun i hi => hB i (h.live j z hz i hi)) (fun k hk => hb.block k (h.low j z hz k hk).2) (fun k hk p hp => ?_) (h.objs j z hz)
   rcases hI' k p hp with hp | hp
   ·exact hp
   ·exact absurd (hf k hp).1 (Nat.not_le.2 (h.low j z hz k hk).2)
 ·rcases other hz with ⟨rfl, rfl⟩ | ⟨hj, hz⟩
  ·exact ⟨Nat.le_trans hs0 (hf k hk).1, (hf k hk).2⟩
  ·rw [jg (hB j (by simp [hz]))] at hk
   exact ⟨(h.low j z hz k hk).1, Nat.lt_of_lt_of_le (h.low j z hz k hk).2 hb.size⟩
 ·rcases other hz with ⟨e1, e2⟩ | ⟨hj, hy⟩
  ·rcases other hz' with ⟨e3, e4⟩ | ⟨hj', hy'⟩
   ·exact hjj (e1.trans e3.symm)
   ·rw [jg (hB j' (by simp [hy']))] at hk'
    rw [e1, e2] at hk
    exact absurd (hf k hk).1 (Nat.not_le.2 (h.low j' z' hy' k hk').2)
  ·rw [jg (hB j (by simp [hy]))] at hk
   rcases other hz' with ⟨e3, e4⟩ | ⟨hj', hy'⟩
   ·rw [e3, e4] at hk'
    exact absurd (hf k hk').1 (Nat.not_le.2 (h.low j z hy k hk).2)
   ·rw [jg (hB j' (by simp [hy']))] at hk'
    exact h.apart j z j' z' hy hy' hjj k hk hk'
 ·rcases other hz with ⟨rfl, rfl⟩ | ⟨hj, hz⟩
  ·rw [hl] at hi; cases hi
  ·exact liv i (h.live j z hz i hi)
end
section
variable {P : Go.Program} {ρ : Ren}
theorem CS (L : SlLaysE0.n41 P ρ) {size bytes : Nat} (hty : ∃ i z, P.info? (ρ.t 23) = some i ∧ i.zero = some z ∧ i.size = size ∧ i.bytes = bytes ∧ z.cells.size = size) (hsz : 0 < size) {w : World} {I : Nat → Nat → Prop} {v : Value} {rows : List (List C)}
 (h : RC w I v (.sl rows)) (hrow : ∀ x ∈ rows, x.length = size) (hbig : rows.length * bytes ≤ 140737488355328) :
 Calls P (ρ.f 41) #[v] w fun e w' => ∃ v' vs, e = .returned v' ∧ w'.ownsRow w.heap.size (ρ.t 23) size v' rows.length vs ∧ RCs w I vs (flat rows) ∧ Below w.heap.size w w' := by
 obtain ⟨i, z, hi, hz, hs, hb, hzs⟩ := hty
 have z23 : ∀ w, (Go.sizeOf (ρ.t 23)).run P w = .ok size w := fun w => by simp [Go.sizeOf, typeInfo, hi, hs]
 obtain ⟨ad, my, cap, news, rfl, h1, h2, h3, h4, h5⟩ := DZ hsz h hrow
 cases h with
 | @sl _ _ _ e' _ f hn hc hmx hln ha hrr =>
   subst hn;cases ad with
   | none =>
     have hr : rows = [] := by
      cases rows with
      | nil => rfl
      | cons x l => obtain ⟨b, off, e, -⟩ := ha 0 x rfl; cases e
     subst hr;refine (AnyE.slices_Clone_nil L _ cap w).mono ?_;rintro e w' ⟨rfl, rfl⟩;exact ⟨_, [], rfl, ⟨by simp, .inl ⟨rfl, rfl⟩⟩, trivial, Below.refl _ _⟩
   | some p =>
     cases rows with
     | nil =>
       refine (IC L i z size bytes hi hz hs hb hzs hsz z23 p cap w).mono ?_;rintro e w' ⟨v', rfl, ho, hbl⟩;exact ⟨v', [], rfl, ho, trivial, hbl⟩
     | cons x l =>
       obtain ⟨b, off, e, -⟩ := ha 0 x rfl;cases e
       refine (AnyE.slices_Clone L i z size bytes hi hz hs hb hzs hsz z23 b off (x :: l).length cap news w h2 (Nat.le_trans hc hmx) hbig (fun j u hj => ?_) h5).mono ?_
       ·obtain ⟨a, e, hcell⟩ := h3 j u hj;cases e
        rw [Addr.add_lit] at hcell;exact hcell
       ·rintro e w' ⟨v', rfl, ho, -, hbl⟩;exact ⟨v', news, rfl, ho, h4, hbl⟩
theorem wU (L : SlLaysE0.n41 P ρ) {size bytes : Nat} (hty : ∃ i z, P.info? (ρ.t 23) = some i ∧ i.zero = some z ∧ i.size = size ∧ i.bytes = bytes ∧ z.cells.size = size) (hsz : 0 < size) (hen : ∀ args w, (callFunc (ρ.f 41) args).run P w = .ok (.enter (ρ.f 41) args) w)
 (rows : List (List C)) (hrow : ∀ x ∈ rows, x.length = size) (hbig : rows.length * bytes ≤ 140737488355328) (M : Mem) (id : Nat) (hid : M id = none) : dJ P (ρ.f 41) [.c (.sl rows)] M [] (.own id) (upd M id (some (.mrow (ρ.t 23) size rows))) := by
 have hne : ∀ j, (M j).isSome = true → j ≠ id := fun j hj e => by subst e; rw [hid] at hj; cases hj
 have liv : ∀ j, (M j).isSome = true → (upd M id (some (.mrow (ρ.t 23) size rows)) j).isSome = true := fun j hj => by rw [upd_ne _ _ (hne j hj)]; exact hj
 refine ⟨hen, fun j hj => ?_, liv, fun hw i o ho j hj => ?_, ?_⟩
 ·obtain rfl : j = id := by simpa [A.ids] using hj
  rw [upd_same]; rfl
 ·unfold upd at ho
  split at ho
  ·cases ho; simp [O.ids] at hj
  ·exact liv j (hw i o ho j hj)
 ·intro w0 I0 B I w vals hm hv
  match vals, hv with
  | [v], ⟨h1, _⟩ =>
    have h1 : RC w I v (.sl rows) := h1;refine (CS L hty hsz h1 hrow hbig).mono ?_;rintro e w' ⟨v', vs, rfl, ⟨hl, ho⟩, hvs, hbl⟩;have hE : Ext w w' I I := ⟨fun _ _ k => k, fun b o k => hbl.cell (p := ⟨b, o, none⟩) (hm.there b o k)⟩;have hf : ∀ k, v'.ownBlock = some k → w.heap.size ≤ k ∧ k < w'.heap.size := fun k hk => by
     rcases ho with ⟨rfl, -⟩ | ⟨g, cap, cur, rfl, hg, hcell, -⟩
     ·cases hk
     ·obtain rfl : g = k := by simpa [Value.ownBlock] using hk
      exact ⟨hg, (Array.getElem?_eq_some_iff.1 hcell).1⟩
    refine ⟨v', upd B id v', I, rfl, hm.fresh hid hbl (fun k hk => hf k (by have hk : (upd B id v' id).ownBlock = some k := hk; rwa [upd_same] at hk)) hE (fun b p k => .inl k) ⟨vs, ⟨hl, ?_⟩, hvs.mono hE, hrow, fun b hb o => ?_⟩ rfl, hE, fun j hj _ => upd_ne _ _ (hne j hj), (upd_same ..).symm, ?_⟩
    ·rw [upd_same];rcases ho with ⟨e, hn⟩ | ⟨g, cap, cur, e, hg, hcell, q1, q2, q3, q4⟩
     ·exact .inl ⟨e, hn⟩
     ·exact .inr ⟨g, 0, cap, cur, e, hcell, q1, q2, by omega, by simpa using q4⟩
    ·rw [upd_same] at hb;exact fun k => absurd (hm.there _ _ k) (Nat.not_lt.2 (hf b hb).1)
    ·rcases ho with ⟨e, hn⟩ | ⟨g, cap, cur, e, -⟩
     ·exact ⟨none, 0, 0, e⟩
     ·exact ⟨_, _, _, e⟩
theorem Qk (L : SlLaysE0.n41 P ρ) {size bytes : Nat} (hty : ∃ i z, P.info? (ρ.t 23) = some i ∧ i.zero = some z ∧ i.size = size ∧ i.bytes = bytes ∧ z.cells.size = size) (hsz : 0 < size) (hen : ∀ args w, (callFunc (ρ.f 41) args).run P w = .ok (.enter (ρ.f 41) args) w)
 (rows : List (List C)) (hrow : ∀ x ∈ rows, x.length = size) (hbig : rows.length * bytes ≤ 140737488355328) (m : Mem) : COk P (ρ.f 41) [.c (.sl rows)] m (.c (.sl rows)) := by
 refine ⟨hen, rfl, fun m' _ => ?_⟩
 intro w0 I0 B I w vals hm hv
 match vals, hv with
 | [v], ⟨h1, _⟩ =>
   have h1 : RC w I v (.sl rows) := h1;refine (CS L hty hsz h1 hrow hbig).mono ?_;rintro e w' ⟨v', vs, rfl, ⟨hl, ho⟩, hvs, hbl⟩
   let I' : Nat → Nat → Prop := fun b o => I b o ∨ (v'.ownBlock = some b ∧ o < rows.length * size)
   have hE : Ext w w' I I' := ⟨fun _ _ k => .inl k, fun b o k => hbl.cell (p := ⟨b, o, none⟩) (hm.there b o k)⟩;refine ⟨v', I', rfl, hbl, hE.more, fun b o k => ?_, ?_⟩
   ·rcases k with k | ⟨k, -⟩
    ·exact .inl k
    ·rcases ho with ⟨rfl, -⟩ | ⟨g, cap, cur, rfl, hg, hcell, -⟩
     ·cases k
     ·obtain rfl : g = b := by simpa [Value.ownBlock] using k
      exact .inr ⟨hg, (Array.getElem?_eq_some_iff.1 hcell).1⟩
   ·show RC w' I' v' (.sl rows);have hvs' := hvs.mono hE;rcases ho with ⟨rfl, hn⟩ | ⟨g, cap, cur, rfl, hg, hcell, q1, q2, q3, q4⟩
    ·obtain rfl : rows = [] := List.length_eq_zero_iff.1 hn;exact ZT
    ·have hat : ∀ i j x, rows[i]? = some x → j < size → i * size + j < rows.length * size := fun i j x hx hj => by
      have hi := (List.getElem?_eq_some_iff.1 hx).1;have : (i + 1) * size ≤ rows.length * size := Nat.mul_le_mul_right _ hi;rw [Nat.add_mul] at this;omega
     refine RC.sl (e := size) (fun i j => vs.getD (i * size + j) undef) rfl q1 q2 hrow (fun i x hx => ⟨g, 0, rfl, fun j hj => ⟨.inr ⟨rfl, by have := hat i j x hx hj; omega⟩, ?_⟩⟩) (fun i j x c hx hc => ?_)
     ·have hlt := hat i j x hx hj;have hcur : cur[i * size + j]? = vs[i * size + j]? := by
       exact SF
      show w'.cell? ⟨g, 0 + i * size + j, none⟩ = some (vs.getD (i * size + j) undef);rw [Nat.zero_add];have hv : vs[i * size + j]? = some (vs.getD (i * size + j) undef) := by
       exact Wj
      exact Tp
     ·have hj : j < size := by rw [← hrow x (List.mem_of_getElem? hx)]; exact (List.getElem?_eq_some_iff.1 hc).1
      have hlt := hat i j x hx hj;have hfl := kT hrow i j x hx hj;exact UG
end
end V
end Go.Proofs.YtgaipdillmleeaaGreat
end
section
namespace Go.Proofs.YtgaipdillmleeaaGreat
namespace V
open Go.RowKit
section
variable {w0 w : World} {I0 I : Nat → Nat → Prop} {B : Nat → Value} {m : Mem}
theorem MR.Zf (h : MR w0 I0 B I m w) {N : Nat → Nat → Prop} (hN : ∀ b o, N b o → w0.heap.size ≤ b ∧ b < w.heap.size ∧ ∀ j z, m j = some z → ¬ foot B j z b) : MR w0 I0 B (fun b o => I b o ∨ N b o) m w :=
 ⟨h.below, h.glob, fun b o k => .inl (h.base b o k), fun b o k => k.elim (h.old b o) fun k => .inr (hN b o k).1, fun b o k => k.elim (h.there b o) fun k => (hN b o k).2.1,
   fun j z hz => RO.mono ⟨fun _ _ k => .inl k, fun _ _ _ => rfl⟩ rfl (fun _ _ => rfl) (fun _ _ => rfl) (fun k hk p hp => hp.elim id fun hp => absurd hk ((hN k p hp).2.2 j z hz)) (h.objs j z hz), h.low, h.apart, h.live⟩
theorem MR.freeze (h : MR w0 I0 B I m w) {id : Nat} {ty : TypeId} {e : Nat} {xs : List (List C)} (hid : m id = some (.mrow ty e xs)) :
 ∃ I', MR w0 I0 (upd B id (.slice none 0 0)) I' (upd (fq id m) id (some (.arr ty e []))) w ∧ Ext w w I I' ∧ RC w I' (B id) (.sl xs) := by
 have hob := h.objs id _ hid
 obtain ⟨vs, hrow, hvs, hlx, hnI⟩ := hob
 have hnew : RO (upd B id (.slice none 0 0)) w I id (.arr ty e []) := ⟨[], ⟨by simp, .inl ⟨upd_same .., rfl⟩⟩, trivial, (fun x hx => by cases hx), (fun b hb o => by rw [upd_same] at hb; cases hb)⟩
 have h1 := h.EZ (v' := .slice none 0 0) (o' := .arr ty e []) (w' := w) (I' := I) hid rfl rfl rfl (Nat.le_refl _) (fun _ _ _ => rfl) (fun k hk => by
  have hk : (upd B id (.slice none 0 0) id).ownBlock = some k := hk
  rw [upd_same] at hk; cases hk) (Ext.refl _ _) (fun b p k => .inl k)
  hnew (fun i hi => by simp [O.ids] at hi)
 have h2 := h1.Zf (N := fun b o => (B id).ownBlock = some b) (fun b o hb => by
  have hf : foot B id (.mrow ty e xs) b := hb;refine ⟨(h.low id _ hid b hf).1, (h.low id _ hid b hf).2, fun j z hz hk => ?_⟩;unfold upd at hz;split at hz
  ·rename_i ej;cases hz
   subst ej;have hk : (upd B j (.slice none 0 0) j).ownBlock = some b := hk;rw [upd_same] at hk; cases hk
  ·rename_i ej;rw [aB] at hz;cases hmj : m j with
   | none => rw [hmj] at hz; cases hz
   | some z0 =>
     rw [hmj] at hz;cases hz
     exact h.apart j z0 id _ hmj hid ej b ((sI (upd_ne _ _ ej)).1 hk) hf)
 refine ⟨_, h2, ⟨fun _ _ k => .inl k, fun _ _ _ => rfl⟩, ?_⟩
 have hvs' : RCs w (fun b o => I b o ∨ (B id).ownBlock = some b) vs (flat xs) := hvs.mono ⟨fun _ _ k => .inl k, fun _ _ _ => rfl⟩
 obtain ⟨hl, ho⟩ := hrow
 rcases ho with ⟨ev, hn⟩ | ⟨g, off, cap, cur, ev, hcell, q1, q2, q3, q4⟩
 ·obtain rfl : xs = [] := List.length_eq_zero_iff.1 hn
  rw [ev]
  exact RC.sl (e := 0) (fun _ _ => undef) rfl (Nat.le_refl _) (Nat.zero_le _) (fun x hx => by cases hx) (fun i x hx => by simp at hx) (fun i j x c hx _ => by simp at hx)
 ·have hat : ∀ i j x, xs[i]? = some x → j < e → i * e + j < xs.length * e := fun i j x hx hj => by
   exact aaK
  rw [ev] at hvs' ⊢
  refine RC.sl (e := e) (fun i j => vs.getD (i * e + j) undef) rfl q1 q2 hlx (fun i x hx => ⟨g, off, rfl, fun j hj => ⟨.inr rfl, ?_⟩⟩) (fun i j x c hx hc => ?_)
  ·have hlt := hat i j x hx hj
   have hcur : cur[off + (i * e + j)]? = vs[i * e + j]? := by
    exact J2
   rw [Nat.add_assoc]
   have hv : vs[i * e + j]? = some (vs.getD (i * e + j) undef) := by
    exact Wj
   rw [← hv, ← hcur]
   simp [World.cell?, hcell]
  ·have hj : j < e := by rw [← hlx x (List.mem_of_getElem? hx)]; exact (List.getElem?_eq_some_iff.1 hc).1
   have hfl := kT hlx i j x hx hj
   rw [hc] at hfl
   obtain ⟨u, hu, hr⟩ := hvs'.at _ _ hfl
   rw [List.getD_eq_getElem?_getD, hu]
   exact hr
end
section
variable {P : Go.Program}
theorem W.freeze {R : Ref} {n : Nat} {ds : List Deferred} {st : St} {c : Code} {K : Exit → St → Prop} (t id : Nat) {ty : TypeId} {e : Nat} {xs : List (List C)} (ht : st.s t = .own id) (hid : st.m id = some (.mrow ty e xs)) (hkp : ¬ R.keep id)
 (h : W P R n ds ⟨upd (iy id st.s) t (.c (.sl xs)), upd (fq id st.m) id (some (.arr ty e []))⟩ c K) : W P R n ds st c K := by
 intro a w hr
 refine h a w ?_
 obtain ⟨⟨B, I, hm, hx0, hkp0, hs⟩, h2, h3, hnn, h4, h5⟩ := hr
 obtain ⟨I', hm', hE, hrc⟩ := hm.freeze hid
 have hBne : ∀ j, j ≠ id → upd B id (.slice none 0 0) j = B j := fun j hj => upd_ne _ _ hj
 have liv : ∀ i, (st.m i).isSome = true → (upd (fq id st.m) id (some (.arr ty e [])) i).isSome = true := fun i hi => by
  exact UK
 have hown : RV B w I (.own id) (a.tmps.getD t undef) := ht ▸ hs t
 have hval : a.tmps.getD t undef = B id := hown.1
 refine ⟨⟨_, I', hm', hx0.trans hE, fun j hj => (hBne j (fun e => hkp (e ▸ hj))).trans (hkp0 j hj), fun u => ?_⟩, fun u j hj => ?_, h3, hnn, ?_, fun i hi => liv i (h5 i hi)⟩
 ·show RV _ w I' (upd (iy id st.s) t (.c (.sl xs)) u) _
  by_cases hu : u = t
  ·subst hu
   rw [upd_same, hval]
   exact hrc
  ·rw [upd_ne _ _ hu, bB]
   rcases (A.dx (id := id) (a := st.s u)).2 with k | ⟨k, hn⟩
   ·rw [k]; trivial
   ·rw [k]
    exact (hs u).mono hE fun i hi => hBne i (fun e => hn (e ▸ hi))
 ·have hj : j ∈ (upd (iy id st.s) t (.c (.sl xs)) u).ids := hj
  by_cases hu : u = t
  ·subst hu; rw [upd_same] at hj; simp [A.ids] at hj
  ·rw [upd_ne _ _ hu, bB] at hj
   exact liv j (h2 u j ((A.dx (id := id) (a := st.s u)).1 j hj).1)
 ·show _ = dfs (upd (iy id st.s) t (.c (.sl xs)) DID) ++ ds
  by_cases e : DID = t
  ·rw [← e, upd_same]
   rw [← e] at ht
   rw [ht] at h4
   exact h4
  ·rw [upd_ne _ _ e, bB, oL]
   exact h4
end
theorem dY {m m' : Mem} (h : m = m') : MLe m m' := h ▸ aF m
theorem gY {m m' : Mem} {j : Nat} {x : Option O} (h : MLe m m') (hj : m' j = none) : MLe (upd m j x) m' := fun u => by
 unfold upd; split
 ·rename_i e; subst e; exact .inl hj
 ·exact h u
theorem bS {α : Type} (f : Nat → α) (t : Nat) (x y : α) : upd (upd f t x) t y = upd f t y := by
 funext u; unfold upd; split <;> rfl
theorem MC {α : Type} (f : Nat → α) {s t : Nat} (x y : α) (h : s ≠ t) : upd (upd f s x) t y = upd (upd f t y) s x := by
 funext u; unfold upd
 by_cases e1 : u = t
 ·by_cases e2 : u = s
  ·exact absurd (e2.symm.trans e1) h
  ·simp [e1, Ne.symm h]
 ·simp [e1]
theorem IY {α : Type} (f : Nat → α) {t : Nat} {x : α} (h : f t = x) : upd f t x = f := by
 funext u; unfold upd; split
 ·rename_i e; subst e; exact h.symm
 ·rfl
theorem jK {M : Mem} {b0 : Nat} (hM : ∀ d, M (b0 + d) = none) {p : Nat} {o : O} (h : M p = some o) (d : Nat) : (p = b0 + d) = False := by
 exact PN
theorem nG {M : Mem} {b0 : Nat} (hM : ∀ d, M (b0 + d) = none) {p : Nat} {o : O} (h : M p = some o) (d : Nat) : (b0 + d = p) = False := by
 exact PN
theorem Ab {M : Mem} {b0 k : Nat} (hM : ∀ d, M (b0 + d) = none) {j : Nat} {o : Option O} (hj : j < b0 + k) : ∀ d, (upd M j o) (b0 + k + d) = none := fun d => by
 rw [upd_ne _ _ (by omega), Nat.add_assoc]; exact hM _
theorem dH {M : Mem} {j : Nat} {o : O} (hw : WFm M) (ho : ∀ i ∈ o.ids, (upd M j (some o) i).isSome = true) : WFm (upd M j (some o)) := fun id z hz i hi => by
 unfold upd at hz;split at hz
 ·cases hz; exact ho i hi
 ·have := hw id z hz i hi;unfold upd; split
  ·rfl
  ·exact this
theorem cO {M : Mem} {j : Nat} {o : O} : ∀ i, (M i).isSome = true → (upd M j (some o) i).isSome = true := fun i hi => by
 exact Kk
theorem JG : A1.ren (fun j => j) = id := funext fun a => by cases a <;> rfl
theorem mH : A.ren (fun j => j) = id := funext fun a => by cases a <;> simp [A.ren, JG]
theorem RL (o : O) : O.ren (fun j => j) o = o := by cases o <;> simp [O.ren, JG, mH]
theorem jN {P : Go.Program} {T : Tab} (hT : T.Ok P) {f : FuncId} {fn : Func} {c : Code} {l : List ResultVar} {args : List A} {M : Mem} (D : List Nat) {r : A} {M' : Mem} (hf : P.funcs[f]? = some fn) (hn : (fn.name == "runtime.NumGoroutine") = false) (hb : fn.body = some c) (hl : fn.results.toList = l)
 (hle : decide (args.length ≤ fn.ntmps ∧ fn.ntmps ≤ DID) = true) (hdf : args.all (fun a => !(match a with | .defs _ => true | _ => false)) = true) (hids : ∀ a ∈ args, ∀ j ∈ a.ids, (M j).isSome = true) (hr : ∀ j ∈ r.ids, (M' j).isSome = true) (hsub : ∀ j, (M j).isSome = true → (M' j).isSome = true) (hwm : WFm M → WFm M')
 (hW : WFm M → ∀ R : Ref, R.keep = (fun j => (M j).isSome = true ∧ j ∉ D) → W P R fn.ntmps [] ⟨entry args, M⟩ c (fun e st => (e = .normal ∨ e = .ret) ∧ dfs (st.s DID) = [] ∧ resE T st l = some r ∧ MLe st.m M')) : dJ P f args M D r M' := by
 refine ⟨enters_of hf hn hb, hr, hsub, hwm, ?_⟩
 intro w0 I0 B I w vals hm hv
 have hWF : WFm M := hm.live
 refine (OQ hT (D := D) hf hb hl (of_decide_eq_true hle).1 (of_decide_eq_true hle).2 hids (fun a ha l e => by have := List.all_eq_true.1 hdf a ha; subst e; simp at this) (enters_of hf hn hb) hr hsub hwm (fun R hR => ?_)).2.2.2.2 w0 I0 B I w vals hm hv
 refine W.mono (hW hWF R hR) fun e st ⟨h1, h2, h3, h4⟩ => ⟨h1, h2, fun j => j, r, h3, ?_⟩
 have hwf' : WFm M' := hwm hWF
 refine ⟨fun t => .inr ?_, fun j o ho => ?_, fun i j _ _ e => e, ⟨fun t j hj => ?_, hwf'⟩, fun j hj => ?_, ?_⟩
 ·show (upd (fun _ => A.top) 0 r t).ren (fun j => j) = _
  rw [mH]; rfl
 ·rw [RL]
  rcases h4 j with q | q
  ·rw [show (⟨upd (fun _ => A.top) 0 r, M'⟩ : St).m j = M' j from rfl, q] at ho; cases ho
  ·exact q.symm.trans ho
 ·show (M' j).isSome = true
  have hj : j ∈ (upd (fun _ => A.top) 0 r t).ids := hj
  unfold upd at hj
  split at hj
  ·exact hr j hj
  ·simp [A.ids] at hj
 ·rw [hR] at hj
  exact ⟨rfl, hsub j hj.1⟩
 ·show dfs (upd (fun _ => A.top) 0 r DID) = dfs (upd (fun _ => A.top) 0 r DID)
  rfl
theorem FH {M m : Mem} (hw : WFm M) (h : ∀ i, (M i).isSome = true → (m i).isSome = true) : MWf m M := fun id o ho j hj => h j (hw id o ho j hj)
theorem CG {M : Mem} {id : Nat} (hw : WFm M) (hM : M id = none) : fq id M = M := by
 funext j
 rw [aB]
 cases hj : M j with
 | none => rfl
 | some o =>
   rw [Option.map_some]
   congr 1
   have hno : id ∉ o.ids := fun h => by have := hw j o hj id h; rw [hM] at this; cases this
   cases o with
   | box ty cells =>
     simp only [O.kill, O.box.injEq, true_and];refine (List.map_congr_left fun a ha => ?_).trans (List.map_id _);rcases (A.dx (id := id) (a := a)).2 with e | ⟨e, -⟩
     ·have hn : id ∉ a.ids := fun h => hno (List.mem_flatMap.2 ⟨a, ha, h⟩)
      have : ∀ a : A, id ∉ a.ids → a.kill id = a := fun a hn => by
       cases a with
       | ptr j off => simp only [A.ids, List.mem_singleton] at hn; simp [A.kill, Ne.symm hn]
       | own j => simp only [A.ids, List.mem_singleton] at hn; simp [A.kill, Ne.symm hn]
       | fn f ids => simp only [A.ids] at hn; simp [A.kill, hn]
       | pinP v j off => simp only [A.ids, List.mem_singleton] at hn; simp [A.kill, Ne.symm hn]
       | eptr j e i f => simp only [A.ids, List.mem_singleton] at hn; simp [A.kill, Ne.symm hn]
       | win j e lo hi => simp only [A.ids, List.mem_singleton] at hn; simp [A.kill, Ne.symm hn]
       | map j => simp only [A.ids, List.mem_singleton] at hn; simp [A.kill, Ne.symm hn]
       | tupA xs => simp only [A.ids] at hn; simp only [A.kill]; rw [if_neg (by simpa using hn)]
       | aggA xs => simp only [A.ids] at hn; simp only [A.kill]; rw [if_neg (by simpa using hn)]
       | _ => rfl
      exact this a hn
     ·exact e
   | rows ty xs =>
     simp only [O.kill, O.rows.injEq, true_and];refine (List.map_congr_left fun a ha => ?_).trans (List.map_id _);have hn : id ∉ a.ids := fun h => hno (List.mem_flatMap.2 ⟨a, ha, h⟩)
     unfold A1.kill;rw [if_neg (by simpa using hn)]; rfl
   | map ents =>
     simp only [O.kill, O.map.injEq];refine (List.map_congr_left fun p hp => ?_).trans (List.map_id _);have hn : id ∉ p.1.ids ++ p.2.ids := fun h => hno (List.mem_flatMap.2 ⟨p, hp, h⟩)
     rw [List.mem_append, not_or] at hn;unfold A1.kill;rw [if_neg (by simpa using hn.1), if_neg (by simpa using hn.2)]; rfl
   | _ => rfl
theorem AY {M : Mem} {id : Nat} {x y : Option O} (hw : WFm M) (hM : M id = none) : upd (fq id (upd M id x)) id y = upd M id y := by
 funext j
 unfold upd
 split
 ·rfl
 ·rename_i e;show ((if j = id then x else M j).map (O.kill id)) = M j;rw [if_neg e];exact congrFun (CG hw hM) j
theorem W.asData {P : Go.Program} {R : Ref} {n : Nat} {ds : List Deferred} {st : St} {c : Code} {K : Exit → St → Prop} (t : Nat) {x : C} (h : asC st.m (st.s t) = some x) (hc : W P R n ds ⟨upd st.s t (.c x), st.m⟩ c K) (htd : t ≠ DID) : W P R n ds st c K := by
 intro a w hr;refine hc a w ?_;obtain ⟨⟨B, I, hm, hx0, hkp0, hs⟩, h2, h3, hnn, h4, h5⟩ := hr;refine ⟨⟨B, I, hm, hx0, hkp0, fun u => ?_⟩, fun u j hj => ?_, h3, hnn, ?_, h5⟩
 ·show RV B w I (upd st.s t (.c x) u) _;by_cases hu : u = t
  ·subst hu; rw [upd_same]; exact ku hm h (hs u)
  ·rw [upd_ne _ _ hu]; exact hs u
 ·replace hj : j ∈ (upd st.s t (.c x) u).ids := hj;by_cases hu : u = t
  ·subst hu; rw [upd_same] at hj; simp [A.ids] at hj
  ·rw [upd_ne _ _ hu] at hj; exact h2 u j hj
 ·show _ = dfs (upd st.s t (.c x) DID) ++ ds;rw [upd_ne _ _ (fun e => htd e.symm)]; exact h4
end V
end Go.Proofs.YtgaipdillmleeaaGreat
end
section
namespace Go.Proofs.YtgaipdillmleeaaGreat
namespace V
open Go.RowKit Go.Maps Go.WideElems
section
variable {P : Go.Program} {k e : TypeId} (hk : P.underlying k = some .string) (he : P.underlying e = some (.int .i64))
abbrev RN (P : Go.Program) (e : TypeId) : Value → Option (DataW Unit × List MemPlace) := plainElem P e
theorem DF {α : Type} [BEq α] [LawfulBEq α] : ∀ {l L : List α}, l.Nodup → (∀ x ∈ l, x ∈ L) → l.length ≤ L.length
 | [], _, _, _ => Nat.zero_le _
 | x :: l, L, h, hs => by
   rw [List.nodup_cons] at h;have hx := hs x (by simp);have ih := DF (l := l) (L := L.erase x) h.2 fun y hy => by
    have hne : y ≠ x := fun e => h.1 (e ▸ hy)
    exact (List.mem_erase_of_ne hne).2 (hs y (List.mem_cons_of_mem _ hy))
   have h1 := List.length_erase_of_mem hx;have h2 : 0 < L.length := List.length_pos_of_mem hx;rw [List.length_cons]; omega
def Fy (x : MapEntry) : List UInt8 := match x.key with | .string s => bs s | _ => []
theorem NM.len {es : Array MapEntry} {clock : Nat} {L : List (List UInt8)} (h : NM es clock (some L)) : es.size ≤ L.length := by
 have hnd := (MapKept.stamped_iff es clock).1 h.stamped |>.2.2
 have h1 : (es.toList.map Fy).Nodup := by
  rw [List.Nodup, List.pairwise_map];refine List.Pairwise.imp_of_mem (fun {a b} ha hb hab => ?_) hnd;obtain ⟨s, h1, -⟩ := h.each a ha;obtain ⟨t, h2, -⟩ := h.each b hb;exact SX
 have := DF h1 (L := L) fun x hx => by
  obtain ⟨y, hy, rfl⟩ := List.mem_map.1 hx;obtain ⟨s, h1, -⟩ := h.each y hy;unfold Fy;rw [h1];exact (h.told L rfl s).1 ⟨y, hy, h1⟩
 rwa [List.length_map, Array.length_toList] at this
include hk he
theorem FU {x : MapEntry} {s : ByteArray} (h1 : x.key = .string s) (h2 : s.size ≤ gP) (h3 : x.val = .int .i64 1) : rd P k (RN P e) x = some (.string (bs s), .lit (.int .i64 1)) := by
 obtain ⟨key, val, born⟩ := x;simp only at h1 h3;subst h1 h3;exact rd_mk (WideMaps.keyOf_string_mk hk (by unfold gP at h2; unfold maxLen; omega)) (plainElem_int he (by decide))
theorem NM.fit {es : Array MapEntry} {clock : Nat} {o : Option (List (List UInt8))} (h : NM es clock o) (hs : es.size ≤ maxLen) : Fit P k (RN P e) es clock :=
 ⟨hs, h.stamped, fun x hx => by obtain ⟨s, h1, h2, h3⟩ := h.each x hx; exact ⟨_, FU hk he h1 h2 h3⟩⟩
omit hk he in
def dN (P : Go.Program) (k e : TypeId) (es : Array MapEntry) : List (Lit × DataW Unit) := (es.toList.map (rg P k (RN P e))).foldr DataW.insert []
theorem XM {es : Array MapEntry} {clock : Nat} {o : Option (List (List UInt8))} (h : NM es clock o) {q : Lit × DataW Unit} : q ∈ dN P k e es ↔ ∃ x ∈ es.toList, ∃ s : ByteArray, x.key = .string s ∧ s.size ≤ gP ∧ q = (.string (bs s), .lit (.int .i64 1)) := by
 unfold dN;rw [(WideShapes.sorted_perm _).mem_iff, List.mem_map];constructor
 ·rintro ⟨x, hx, rfl⟩;obtain ⟨s, h1, h2, h3⟩ := h.each x hx;exact ⟨x, hx, s, h1, h2, rg_of (FU hk he h1 h2 h3)⟩
 ·rintro ⟨x, hx, s, h1, h2, rfl⟩;obtain ⟨s', h1', -, h3⟩ := h.each x hx;exact ⟨x, hx, rg_of (FU hk he h1 h2 h3)⟩
theorem NM.owns {w : World} {r : Nat} {es : Array MapEntry} {clock : Nat} {o : Option (List (List UInt8))} (h : NM es clock o) (hs : es.size ≤ maxLen) (hh : w.heap[r]? = some (.map es clock)) : w.ownsMap P k (RN P e) r es.size (.map (dN P k e es)) :=
 ⟨es, clock, hh, h.fit hk he hs, Nat.le_refl _, rfl⟩
theorem NM.Xv {w' : World} {r n : Nat} {es : Array MapEntry} {clock : Nat} {L : List (List UInt8)} (h : NM es clock (some L)) {p : List UInt8 → Bool} (ho : w'.ownsMap P k (RN P e) r n (.map ((dN P k e es).filter fun q => !(match q.1 with | .string b => p b | _ => false)))) : ∃ es' clock', w'.heap[r]? = some (.map es' clock') ∧ NM es' clock' (some (L.filter fun b => !p b)) := by
 obtain ⟨es', clock', hh, F, -, hD⟩ := ho;have hD : (dN P k e es).filter _ = (es'.toList.map (rg P k (RN P e))).foldr DataW.insert [] := DataW.map.inj hD;have hm : ∀ q, q ∈ es'.toList.map (rg P k (RN P e)) ↔ ∃ x ∈ es.toList, ∃ s : ByteArray, x.key = .string s ∧ s.size ≤ gP ∧ q = (.string (bs s), .lit (.int .i64 1)) ∧ p (bs s) = false := fun q => by
  rw [← (WideShapes.sorted_perm _).mem_iff, ← hD, List.mem_filter, XM hk he h];constructor
  ·rintro ⟨⟨x, hx, s, h1, h2, rfl⟩, h3⟩;exact ⟨x, hx, s, h1, h2, rfl, by simpa using h3⟩
  ·rintro ⟨x, hx, s, h1, h2, rfl, h3⟩;exact ⟨⟨x, hx, s, h1, h2, rfl⟩, by simp [h3]⟩
 have he' : ∀ x ∈ es'.toList, ∃ s : ByteArray, x.key = .string s ∧ s.size ≤ gP ∧ x.val = .int .i64 1 ∧ (∃ y ∈ es.toList, y.key = .string s) ∧ p (bs s) = false := fun x hx => by
  obtain ⟨y, hy⟩ := F.reads x hx;obtain ⟨x0, hx0, s, h1, h2, h3, h4⟩ := (hm (rg P k (RN P e) x)).1 (List.mem_map_of_mem hx);rw [rg_of hy] at h3;subst h3;obtain ⟨u, hu1, hu2, -⟩ := Maps.keyOf_str hk (rd_key hy);obtain ⟨z, hz1, hz2⟩ := rd_val hy;obtain ⟨a, ha1, ha2, -⟩ := plainElem_int_inv he hz1;rw [ha2] at hz2;have ha : a = 1 := by simpa using hz2.symm
  have hus : u = bs s := by simpa using hu2.symm
  have hkey : x.key = .string s := by
   rw [hu1, hus];show Value.string ⟨(bs s).toArray⟩ = _;unfold bs;rw [Array.toArray_toList]
  exact ⟨s, hkey, h2, by rw [ha1, ha], ⟨x0, hx0, h1⟩, h4⟩
 refine ⟨es', clock', hh, F.stamped, fun x hx => ?_, fun L' hL t => ?_⟩
 ·obtain ⟨s, h1, h2, h3, -⟩ := he' x hx;exact ⟨s, h1, h2, h3⟩
 ·cases hL
  rw [List.mem_filter];constructor
  ·rintro ⟨x, hx, hxt⟩;obtain ⟨s, h1, h2, h3, ⟨y, hy, hys⟩, h4⟩ := he' x hx;rw [h1] at hxt;cases hxt
   exact ⟨(h.told L rfl _).1 ⟨y, hy, hys⟩, by show (!p (bs t)) = true; rw [h4]; rfl⟩
  ·rintro ⟨ht, hp⟩;obtain ⟨y, hy, hyt⟩ := (h.told L rfl t).2 ht;obtain ⟨s', h1', h2', -⟩ := h.each y hy;rw [hyt] at h1';cases h1'
   obtain ⟨x, hx, hxe⟩ := List.mem_map.1 ((hm (.string (bs t), .lit (.int .i64 1))).2 ⟨y, hy, t, hyt, h2', rfl, by have hp : (!p (bs t)) = true := hp; simpa using hp⟩);obtain ⟨s, h1, h2, h3, -⟩ := he' x hx;refine ⟨x, hx, ?_⟩;rw [rg_of (FU hk he h1 h2 h3)] at hxe;have : bs s = bs t := by simpa using (congrArg Prod.fst hxe)
   rw [h1, xA this]
end
theorem Ey : Tryz.prog.underlying 9 = some .string := Tryz.underlying9
theorem NQ : Tryz.prog.underlying 3 = some (.int .i64) := Tryz.underlying3
theorem Dv {M : Mem} {j q : Nat} {o : Option (List (List UInt8))} (hj : M j = some (.names o)) (hq : M q = none) : dJ Tryz.prog 54 [.map j] M [] (.map q) (upd M q (some (.names o))) := by
 refine ⟨enters_of Tryz.func54 (by kernel_rfl) rfl, fun i hi => ?_, fun i hi => cO i hi, fun hw => dH hw (fun i hi => by simp [O.ids] at hi), ?_⟩
 ·simp [A.ids] at hi; subst hi; rw [upd_same]; rfl
 intro w0 I0 B I w vals hm hv;match vals, hv with
 | [v], ⟨h1, _⟩ =>
   obtain ⟨r, es, clock, hB, hh, hn, hno⟩ := hm.objs j _ hj;obtain rfl : v = .map (some r) := h1.1.trans hB;have hc := AnyW.maps_Clone Tryz.H9 r es clock w hh;refine Calls.mono (P := Tryz.prog) (f := 54) hc ?_;rintro e w' ⟨rfl, rfl⟩;have hal := MapKept.heap_alloc w (.map es clock);have hb : Below w.heap.size w (w.alloc (.map es clock)) := (Below.refl _ w).alloc (Nat.le_refl _) _;have hE : Ext w (w.alloc (.map es clock)) I I := ⟨fun _ _ k => k, fun b p k => hb.cell (p := ⟨b, p, none⟩) (hm.there b p k)⟩;have hmr := hm.fresh (id := q) hq (v := .map (some w.heap.size)) (o' := .names o) hb (fun k hk => by
    have hk : upd B q (Value.map (some w.heap.size)) q = .map (some k) := hk;rw [upd_same] at hk; cases hk;exact ⟨Nat.le_refl _, by simp⟩) hE (fun b p hp => .inl hp) ⟨_, es, clock, upd_same .., hal.1, hn, fun p hp => by have := hm.there _ _ hp; omega⟩ rfl
   exact ⟨_, _, I, rfl, hmr, hE, fun i hi _ => upd_ne _ _ (fun e => by subst e; rw [hq] at hi; cases hi), (upd_same ..).symm, _, rfl⟩
theorem Rf {M : Mem} {j q b g : Nat} {L Lb : List (List UInt8)} {ty : TypeId} (hj : M j = some (.names (some L))) (hL : L.length ≤ 1000000000000) (hq : M q = some (.box ty [.map b])) (hb : M b = some (.names (some Lb))) (hjb : j ≠ b) (eg : ∀ args w, (callFunc g args).run Tryz.prog w = .ok (.enter g args) w) {p : List UInt8 → Bool}
 (hg : ∀ (s : ByteArray) (a : Int) (W : World) (bx rb : Nat) (es : Array MapEntry) (clock : Nat), W.cell? ⟨bx, 0, none⟩ = some (.map (some rb)) → W.heap[rb]? = some (.map es clock) → NM es clock (some Lb) →
   Calls Tryz.prog g (#[.string s, .int .i64 a] ++ #[.pointer (some ⟨bx, 0, none⟩)]) W fun e w' => e = .returned (.bool (p (bs s))) ∧ w' = W) :
 dJ Tryz.prog 89 [.map j, .fn g [q]] M [] (.tup []) (upd M j (some (.names (some (L.filter fun s => !p s))))) := by
 refine ⟨enters_of Tryz.func89 (by kernel_rfl) rfl, fun i hi => by simp [A.ids] at hi, fun i hi => cO i hi, fun hw => dH hw (fun i hi => by simp [O.ids] at hi), ?_⟩
 intro w0 I0 B I w vals hm hv
 match vals, hv with
 | [v, v2], ⟨h1, h2, _⟩ =>
   obtain ⟨r, es, clock, hB, hh, hn, hno⟩ := hm.objs j _ hj
   obtain rfl : v = .map (some r) := h1.1.trans hB
   obtain ⟨bx, vs, hBq, hhq, hvs, hnq⟩ := hm.objs q _ hq
   obtain ⟨rb, esb, clockb, hBb, hhb, hnb, hnob⟩ := hm.objs b _ hb
   have h2 : v2 = .func (.func g) #[] ([q].map B).toArray := h2
   have h2 : v2 = .func (.func g) #[] #[.pointer (some ⟨bx, 0, none⟩)] := by rw [h2]; simp [hBq]
   subst h2
   have hcell : w.cell? ⟨bx, 0, none⟩ = some (.map (some rb)) := by
    match vs, hvs with
    | [u], ⟨⟨hu, _⟩, _⟩ =>
      have hu : u = .map (some rb) := hu.1.trans hBb;exact TH
   have hrb : r ≠ rb := fun e => hm.apart j _ b _ hj hb hjb r (show B j = .map (some r) from hB) (show B b = .map (some r) from by rw [e]; exact hBb)
   have hrq : r ≠ bx := fun e => by subst e; rw [hh] at hhq; cases hhq
   have hsz : es.size ≤ maxLen := by have := hn.len; unfold maxLen; omega
   have hown := hn.owns Ey NQ hsz hh
   have hcon : Calls Tryz.prog 89 #[.map (some r), .func (.func g) #[] #[.pointer (some ⟨bx, 0, none⟩)]] w fun e w' => e = .returned (.tuple #[]) ∧ w'.ownsMap Tryz.prog 9 (RN Tryz.prog 3) r es.size (Lib.deleteFuncD (fun l _ => match l with | .string b => p b | _ => false) (.map (dN Tryz.prog 9 3 es))) ∧ w.grownBy w' (some r) :=
    AnyDf.maps_DeleteFunc Tryz.Nc (string_keyed Ey) (RN Tryz.prog 3) (fun l _ => match l with | .string b => p b | _ => false) g #[.pointer (some ⟨bx, 0, none⟩)] r es.size _ w eg hown (fun W key val kl yd yp hgW hkl hvl => by
     obtain ⟨u, rfl, rfl, -⟩ := Maps.keyOf_str Ey hkl;obtain ⟨a, rfl, -, -⟩ := plainElem_int_inv NQ hvl;refine (hg ⟨u.toArray⟩ a W bx rb esb clockb (hgW.cell hcell (fun e => hrq (Option.some.inj e).symm)) ((hgW.block rb (Array.getElem?_eq_some_iff.1 hhb).1 (fun e => hrb (Option.some.inj e).symm)).trans hhb) hnb).mono ?_;rintro e w' ⟨rfl, rfl⟩;exact ⟨by simp [bs], World.grownBy.refl _ _⟩)
   refine hcon.mono ?_
   rintro e w' ⟨rfl, ho, hgr⟩
   obtain ⟨es', clock', hh', hn'⟩ := hn.Xv Ey NQ ho
   have hr' : r < w'.heap.size := (Array.getElem?_eq_some_iff.1 hh').1
   have hlt : r < w.heap.size := (Array.getElem?_eq_some_iff.1 hh).1
   -- first what is new beside, then the block itself
   obtain ⟨w1, hw1⟩ : ∃ w1 : World, w1 = { w' with heap := w'.heap.setIfInBounds r (.map es clock) } := ⟨_, rfl⟩
   have hs1 := MapKept.heap_set (w := w') (o' := .map es clock) hh'
   have hb1 : Below w.heap.size w w1 := by
    subst hw1;refine ⟨hgr.os, hgr.tape, hgr.output, by simpa using hgr.size, fun k hk => ?_⟩;by_cases e : k = r
    ·subst e; exact hs1.1.trans hh.symm
    ·exact (hs1.2 k e).trans (hgr.block k hk (fun q => e (Option.some.inj q)))
   have hm1 := hm.grow hb1 (fun _ _ h => h) (fun _ _ h => .inl h)
   have hE1 : Ext w w1 I I := ⟨fun _ _ k => k, fun b p k => hb1.cell (p := ⟨b, p, none⟩) (hm.there b p k)⟩
   have hh1 : w1.heap[r]? = some (.map es clock) := by subst hw1; exact hs1.1
   obtain ⟨hm2, hE2⟩ := hm1.zD (es' := es') (clock' := clock') hj hB hB hh1 hno hn'
   have hw2 : { w1 with heap := w1.heap.setIfInBounds r (.map es' clock') } = w' := by
    subst hw1;have : (w'.heap.setIfInBounds r (.map es clock)).setIfInBounds r (.map es' clock') = w'.heap := by
     refine Array.ext_getElem? fun k => ?_;by_cases e : r = k
     ·subst e;rw [hh']; simp [hr']
     ·simp [e]
    simp only [this]
   rw [hw2] at hm2 hE2
   exact ⟨_, B, I, rfl, hm2, hE1.trans hE2, fun _ _ _ => rfl, [], rfl, trivial⟩
theorem K3 {Lb : List (List UInt8)} (s : ByteArray) (a : Int) (W : World) (bx rb : Nat) (es : Array MapEntry) (clock : Nat) (hc : W.cell? ⟨bx, 0, none⟩ = some (.map (some rb))) (hh : W.heap[rb]? = some (.map es clock)) (hn : NM es clock (some Lb)) :
 Calls Tryz.prog 90 (#[.string s, .int .i64 a] ++ #[.pointer (some ⟨bx, 0, none⟩)]) W fun e w' => e = .returned (.bool (!Lb.contains (bs s))) ∧ w' = W := by
 have hks : ∀ x ∈ es.toList, MapKept.IsKey .string x.key := fun x hx => by
  obtain ⟨t, h1, -⟩ := hn.each x hx;rw [h1]; trivial
 have hl : (Instr.lookup 48 (.map (some rb)) (.string s) false).run Tryz.prog W = .ok (.int .i64 (if Lb.contains (bs s) = true then 1 else 0)) W := by
  have hck : ∀ e, (Instr.checkKey e 10000 9 (.string s)).run Tryz.prog W = .ok () W := fun e => MapKept.run_checkKey (d := .string) Ey (by simp [MapKept.IsKey]) e 9999
  rcases MapKept.findNow_spec (d := .string) (k := .string s) trivial es.toList 0 hks with ⟨h1, h2⟩ | ⟨j, e, h1, h2, h3⟩
  ·have hnl : bs s ∉ Lb := fun h => by
    obtain ⟨e, he, hk'⟩ := (hn.told Lb rfl s).2 h;exact h2 e he hk'
   rw [if_neg (by simpa using hnl)];simp [Instr.lookup, run_underlying Tryz.underlying48, MapKept.run_getObj_map hh, MapKept.run_findKey Ey h1, Result.andThen, hck, Tryz.zeroValue3]
  ·have hl : bs s ∈ Lb := (hn.told Lb rfl s).1 ⟨e, List.mem_of_getElem? h2, h3⟩;obtain ⟨t, -, -, hv⟩ := hn.each e (List.mem_of_getElem? h2);rw [if_pos yF];simp [Instr.lookup, run_underlying Tryz.underlying48, MapKept.run_getObj_map hh, MapKept.run_findKey Ey h1, Result.andThen, hck, hv]
 obtain ⟨nn, hnn⟩ : ∃ nn : Int, nn = (if Lb.contains (bs s) = true then 1 else 0) := ⟨_, rfl⟩
 rw [← hnn] at hl
 have hp : (!Lb.contains (bs s)) = (nn == 0) := by
  rw [hnn]; cases Lb.contains (bs s) <;> rfl
 rw [hp]
 clear hp hnn hks hn hh
 go_enter Tryz.func90, Tryz.ntmps90
 go_wp2_with fail
 go_ret
 exact ⟨rfl, rfl⟩
def cB (b : List UInt8) : List C := [.str ⟨b.toArray⟩]
theorem Gw {w0 w w' : World} {I0 I : Nat → Nat → Prop} {B : Nat → Value} {M : Mem} (hm : MR w0 I0 B I M w) {ty : TypeId} {v : Value} {vs : List Value} {rows : List (List C)} (ho : w'.ownsRow w.heap.size ty 1 v rows.length vs) (hr : ∀ x ∈ rows, x.length = 1) (hvs : RCs w I vs (flat rows)) (hbl : Below w.heap.size w w') :
 ∃ I', (∀ b o, I b o → I' b o) ∧ (∀ b o, I' b o → I b o ∨ (w.heap.size ≤ b ∧ b < w'.heap.size)) ∧ RC w' I' v (.sl rows) := by
 obtain ⟨hl, ho⟩ := ho
 let I' : Nat → Nat → Prop := fun b o => I b o ∨ (v.ownBlock = some b ∧ o < rows.length * 1)
 have hE : Ext w w' I I' := ⟨fun _ _ k => .inl k, fun b o k => hbl.cell (p := ⟨b, o, none⟩) (hm.there b o k)⟩
 refine ⟨I', hE.more, fun b o k => ?_, ?_⟩
 ·rcases k with k | ⟨k, -⟩
  ·exact .inl k
  ·rcases ho with ⟨rfl, -⟩ | ⟨g, cap, cur, rfl, hg, hcell, -⟩
   ·cases k
   ·obtain rfl : g = b := by simpa [Value.ownBlock] using k
    exact .inr ⟨hg, (Array.getElem?_eq_some_iff.1 hcell).1⟩
 ·have hvs' := hvs.mono hE
  rcases ho with ⟨rfl, hn⟩ | ⟨g, cap, cur, rfl, hg, hcell, q1, q2, q3, q4⟩
  ·obtain rfl : rows = [] := List.length_eq_zero_iff.1 hn
   exact RC.sl (e := 0) (fun _ _ => undef) rfl (Nat.le_refl _) (Nat.zero_le _) (fun x hx => by cases hx) (fun i x hx => by simp at hx) (fun i j x c hx _ => by simp at hx)
  ·refine RC.sl (e := 1) (fun i j => vs.getD (i * 1 + j) undef) rfl q1 q2 hr (fun i x hx => ⟨g, 0, rfl, fun j hj => ?_⟩) (fun i j x c hx hc => ?_)
   ·have hi := (List.getElem?_eq_some_iff.1 hx).1
    have hlt : i * 1 + j < rows.length * 1 := by omega
    refine ⟨.inr ⟨rfl, by omega⟩, ?_⟩
    have hcur : cur[i * 1 + j]? = vs[i * 1 + j]? := by
     exact SF
    show w'.cell? ⟨g, 0 + i * 1 + j, none⟩ = some (vs.getD (i * 1 + j) undef)
    rw [Nat.zero_add]
    have hv : vs[i * 1 + j]? = some (vs.getD (i * 1 + j) undef) := by
     exact Wj
    rw [← hv, ← hcur]
    simp [World.cell?, hcell]
   ·have hi := (List.getElem?_eq_some_iff.1 hx).1
    have hj : j < 1 := by rw [← hr x (List.mem_of_getElem? hx)]; exact (List.getElem?_eq_some_iff.1 hc).1
    have hfl := kT hr i j x hx hj
    rw [hc] at hfl
    obtain ⟨u, h1, h2⟩ := hvs'.at _ _ hfl
    show RC w' I' (vs.getD (i * 1 + j) undef) c
    rw [List.getD_eq_getElem?_getD, h1]
    exact h2
theorem AZ (b : List UInt8) : bs ⟨b.toArray⟩ = b := by simp [bs]
theorem Cz {w : World} {I : Nat → Nat → Prop} : ∀ {L : List (List UInt8)}, (∀ b ∈ L, (⟨b.toArray⟩ : ByteArray).size ≤ gP) → RCs w I (L.map encStr) (flat (L.map cB))
 | [], _ => trivial
 | b :: L, h => ⟨.str (h b (by simp)), Cz fun b hb => h b (List.mem_cons_of_mem _ hb)⟩
theorem GA {L ss : List (List UInt8)} (hL : L.Pairwise fun x y => x < y) (h : ss.Perm L) : ss.mergeSort (fun x y => decide (x ≤ y)) = L := by
 have tr : ∀ a b c : List UInt8, decide (a ≤ b) = true → decide (b ≤ c) = true → decide (a ≤ c) = true := fun a b c h1 h2 => by simp only [decide_eq_true_eq] at *; exact List.le_trans h1 h2
 have to : ∀ a b : List UInt8, (decide (a ≤ b) || decide (b ≤ a)) = true := fun a b => by simp only [Bool.or_eq_true, decide_eq_true_eq]; exact List.le_total a b
 refine List.Perm.eq_of_pairwise (le := fun a b => decide (a ≤ b) = true) (fun a b _ _ h1 h2 => ?_) (List.pairwise_mergeSort tr to ss) (hL.imp fun {a b} h => ?_) ((List.mergeSort_perm ss _).trans h)
 ·simp only [decide_eq_true_eq] at h1 h2;exact List.le_antisymm h1 h2
 ·simp only [decide_eq_true_eq];exact List.le_of_lt h
theorem OG (m : Nat) : AnyZ.SortsIn Tryz.prog Tryz.qH Fence.wide m :=
 ⟨fun blk off cap ss W hH hblk hsz => callsIn_wide.2 (AnyM.slices_Sort_string Tryz.Gl blk off cap ss W hH hblk hsz),
  fun p cap W => callsIn_wide.2 (AnyM.slices_Sort_string_none Tryz.Gl p cap W)⟩
theorem Jm {M : Mem} {j q : Nat} {ty : TypeId} {L : List (List UInt8)} (hq : M q = some (.box ty [.map j])) (hj : M j = some (.names (some L))) (hL : L.Pairwise fun x y => x < y) (hl : L.length ≤ 1000000000000) : COk Tryz.prog 13 [.fn 29 [q]] M (.c (.sl (L.map cB))) := by
 refine ⟨enters_of Tryz.func13 (by kernel_rfl) rfl, rfl, fun m' hag => ?_⟩;have r1 : Reach M [A.fn 29 [q]]  q := .arg (a := .fn 29 [q]) (by simp) (by simp [A.ids]);have hq' : m' q = some (.box ty [.map j]) := (hag q r1).trans hq;have hj' : m' j = some (.names (some L)) := (hag j (.obj r1 hq (by simp [O.ids, A.ids]))).trans hj;intro w0 I0 B I w vals hm hv;match vals, hv with
 | [v], ⟨h2, _⟩ =>
   obtain ⟨bx, vs, hBq, hhq, hvs, hnq⟩ := hm.objs q _ hq';obtain ⟨r, es, clock, hB, hh, hn, hno⟩ := hm.objs j _ hj';have h2 : v = .func (.func 29) #[] ([q].map B).toArray := h2;have h2 : v = .func (.func 29) #[] #[.pointer (some ⟨bx, 0, none⟩)] := by rw [h2]; simp [hBq]
   subst h2;have hcell : w.cell? ⟨bx, 0, none⟩ = some (.map (some r)) := by
    match vs, hvs with
    | [u], ⟨⟨hu, _⟩, _⟩ =>
      have hu : u = .map (some r) := hu.1.trans hB;exact TH
   have hbx : bx < w.heap.size := (Array.getElem?_eq_some_iff.1 hhq).1;have hlen := hn.len;have hsz : es.size ≤ maxLen := by unfold maxLen; omega
   have hown := hn.owns Ey NQ hsz hh;have hperm : (dN Tryz.prog 9 3 es).Perm (es.toList.map (Go.WideElems.rg Tryz.prog 9 (RN Tryz.prog 3))) := WideShapes.sorted_perm _;have hsd : Maps.size (DataW.map (dN Tryz.prog 9 3 es)) = es.size := by
    rw [Maps.size_eq, hperm.length_eq, List.length_map, Array.length_toList]
   have hmax : Maps.size (DataW.map (dN Tryz.prog 9 3 es)) ≤ maxLen := by rw [hsd]; exact hsz
   have hbytes : Maps.size (DataW.map (dN Tryz.prog 9 3 es)) * 16 ≤ 140737488355328 := by rw [hsd]; omega
   have hkeys : (strKeys (DataW.map (dN Tryz.prog 9 3 es))).Perm L := by
    have h1 : (strKeys (DataW.map (dN Tryz.prog 9 3 es))).Perm (es.toList.map Fy) := by
     show ((dN Tryz.prog 9 3 es).map fun p => strOf p.1).Perm _;refine (hperm.map _).trans (List.Perm.of_eq ?_);rw [List.map_map];refine List.map_congr_left fun x hx => ?_;obtain ⟨s, e1, e2, e3⟩ := hn.each x hx;simp only [Function.comp, Go.WideElems.rg_of (FU Ey NQ e1 e2 e3)];unfold Fy;rw [e1]; rfl
    refine h1.trans ?_;have hnd := (MapKept.stamped_iff es clock).1 hn.stamped |>.2.2;have hnd1 : (es.toList.map Fy).Nodup := by
     rw [List.Nodup, List.pairwise_map];refine List.Pairwise.imp_of_mem (fun {a b} ha hb hab => ?_) hnd;obtain ⟨s, h1, -⟩ := hn.each a ha;obtain ⟨t, h2, -⟩ := hn.each b hb;exact SX
    have hnd2 : L.Nodup := hL.imp fun {a b} h e => by subst e; exact List.lt_irrefl _ h
    refine (List.perm_ext_iff_of_nodup hnd1 hnd2).2 fun b => ?_;rw [List.mem_map];constructor
    ·rintro ⟨x, hx, rfl⟩;obtain ⟨s, e1, -⟩ := hn.each x hx;unfold Fy;rw [e1];exact (hn.told L rfl s).1 ⟨x, hx, e1⟩
    ·intro hb;obtain ⟨x, hx, e1⟩ := (hn.told L rfl ⟨b.toArray⟩).2 Jo;exact ⟨x, hx, by unfold Fy; rw [e1]; exact AZ b⟩
   have hstr : ∀ b ∈ L, (⟨b.toArray⟩ : ByteArray).size ≤ gP := fun b hb => by
    obtain ⟨x, hx, e1⟩ := (hn.told L rfl ⟨b.toArray⟩).2 Jo;obtain ⟨s, h1, h2, -⟩ := hn.each x hx;rw [e1] at h1;cases h1
    exact h2
   have hseq : SeqGives Fence.wide 2 Tryz.prog 29 #[.pointer (some ⟨bx, 0, none⟩)] encStr (fun ss => ss.Perm (strKeys (DataW.map (dN Tryz.prog 9 3 es)))) (Maps.size (DataW.map (dN Tryz.prog 9 3 es))) w :=
    AnyZ.keys_gives (ρ := Tryz.pV) { Tryz.Gq with } Fence.wide _ trivial rfl (by omega) bx r es.size _ w hbx hcell hown
   have cS := AnyZ.sorted_in Tryz.Ag Fence.wide 5 trivial trivial trivial trivial rfl (by omega) (OG _) (enters_of Tryz.func28 (by kernel_rfl) rfl) 29 #[.pointer (some ⟨bx, 0, none⟩)] trivial (enters_of Tryz.func29 (by kernel_rfl) rfl) _ _ hmax hbytes _ hseq;change CallsIn _ _ Tryz.prog 13 _ _ _ at cS;refine Calls.mono (callsIn_wide.1 cS) ?_;rintro e w' ⟨v, ss, rfl, hS, hrow, hnil, hb⟩;have hsame := GA hL (hS.trans hkeys);rw [hsame] at hrow;have hln : ss.length = (L.map cB).length := by rw [(hS.trans hkeys).length_eq, List.length_map]
   rw [hln] at hrow;obtain ⟨I', q1, q2, q3⟩ := Gw hm hrow (fun x hx => by obtain ⟨b, -, rfl⟩ := List.mem_map.1 hx; rfl) (Cz hstr) hb;exact ⟨v, I', rfl, hb, q1, q2, q3⟩
theorem EA {M : Mem} {q : Nat} {ty : TypeId} (hq : M q = some (.box ty [.nilv (.map none)])) : COk Tryz.prog 13 [.fn 29 [q]] M (.c (.sl [])) := by
 refine ⟨enters_of Tryz.func13 (by kernel_rfl) rfl, rfl, fun m' hag => ?_⟩;have r1 : Reach M [A.fn 29 [q]] q := .arg (a := .fn 29 [q]) (by simp) (by simp [A.ids]);have hq' : m' q = some (.box ty [.nilv (.map none)]) := (hag q r1).trans hq;intro w0 I0 B I w vals hm hv;match vals, hv with
 | [v], ⟨h2, _⟩ =>
   obtain ⟨bx, vs, hBq, hhq, hvs, hnq⟩ := hm.objs q _ hq';have h2 : v = .func (.func 29) #[] ([q].map B).toArray := h2;have h2 : v = .func (.func 29) #[] #[.pointer (some ⟨bx, 0, none⟩)] := by rw [h2]; simp [hBq]
   subst h2;have hcell : w.cell? ⟨bx, 0, none⟩ = some (.map none) := by
    match vs, hvs with
    | [u], ⟨⟨hu, _⟩, _⟩ =>
      have hu : u = .map none := hu;exact TH
   have hbx : bx < w.heap.size := (Array.getElem?_eq_some_iff.1 hhq).1;have hseq : SeqGives Fence.wide 2 Tryz.prog 29 #[.pointer (some ⟨bx, 0, none⟩)] encStr (fun ss : List (List UInt8) => ss = []) 0 w :=
    AnyZ.keys_gives_nil (ρ := Tryz.pV) { Tryz.Gq with } Fence.wide _ trivial rfl bx w hbx hcell
   have cS := AnyZ.sorted_in Tryz.Ag Fence.wide 5 trivial trivial trivial trivial rfl (by omega) (OG _) (enters_of Tryz.func28 (by kernel_rfl) rfl) 29 #[.pointer (some ⟨bx, 0, none⟩)] trivial (enters_of Tryz.func29 (by kernel_rfl) rfl) _ _ Nl (by omega) _ hseq;change CallsIn _ _ Tryz.prog 13 _ _ _ at cS;refine Calls.mono (callsIn_wide.1 cS) ?_;rintro e w' ⟨v, ss, rfl, rfl, hrow, hnil, hb⟩;obtain ⟨I', q1, q2, q3⟩ := Gw (rows := []) hm hrow (fun x hx => by cases hx) (by simp [flat]; trivial) hb;exact ⟨v, I', rfl, hb, q1, q2, q3⟩
end V
end Go.Proofs.YtgaipdillmleeaaGreat
end
section
namespace Go.Proofs.YtgaipdillmleeaaGreat
namespace V
open Go.RowKit
structure HAppendNil (T : Tab) (ops : Array Oper) (o : Oper) (st : St) (c : Call) (x y : Operand) (t d id e n b : Nat) (zs : List Value) (ys : List (List C)) : Prop where
 want : eH ops o st.s = some true
 op : o.op = .call c
 callee : c.callee = .builtin .append
 args : c.args = #[x, y]
 tys : c.argTypes = #[t, t]
 dst : o.dst = some d
 at_ : ev st.s x = .nil
 free : st.m id = none
 val : asC st.m (ev st.s y) = some (.sl ys)
 elem : T.elem t = some (e, n)
 bytes : T.bytes e = some b
 zero : T.zero e = some zs
 zlen : zs.length = n
 lens : ∀ z ∈ ys, z.length = n
 bound : ys.length * b ≤ 140737488355328
 small : ys.length ≤ maxLen
section
variable {P : Go.Program} {T : Tab} (hT : T.Ok P) {kp : Nat → Prop} {ops : Array Oper}
theorem FX {m : Mem} {id : Nat} (hw : ∀ i o, m i = some o → ∀ j ∈ o.ids, (m j).isSome = true) (hM : m id = none) (j : Nat) : (m j).map (O.kill id) = m j := congrFun (CG hw hM) j
theorem aaW {st : St} {id : Nat} {o' : O} (hw : WF st) (hl : ∀ i ∈ o'.ids, (st.m i).isSome = true) (d : Nat) : WF ⟨upd st.s d (.own id), upd st.m id (some o')⟩ := by
 have hlv : ∀ i, (st.m i).isSome = true → (upd st.m id (some o') i).isSome = true := fun i hi => cO i hi
 refine ⟨fun t i hi => ?_, fun k z hz i hi => hlv i ?_⟩
 ·dsimp only at hi;unfold upd at hi;split at hi
  ·simp [A.ids] at hi; subst hi; show (upd st.m i (some o') i).isSome = true; rw [upd_same]; rfl
  ·exact hlv i (hw.ids t i hi)
 ·dsimp only at hz;unfold upd at hz;split at hz
  ·cases hz; exact hl i hi
  ·exact hw.live k z hz i hi
include hT
theorem tZ {o : Oper} {st : St} {c : Call} {x y : Operand} {t d id e n b : Nat} (fz : Bool) {zs : List Value} {ys : List (List C)} (h : HAppendNil T ops o st c x y t d id e n b zs ys) :
 Eff P T kp ops o st ⟨upd st.s d (.own id), upd st.m id (some (dW fz e n ys))⟩ := by
 refine ⟨by rw [h.op]; simp [kind, h.callee], fun hw => ?_, fun R n0 ds a w K Q hR hr hd hK => ?_⟩
 ·exact aaW hw (fun i hi => by cases fz <;> simp [dW, O.ids] at hi) d
 ·obtain ⟨B0, I, hm0, hx0, hkp0, hs0⟩ := hr.ex
  rw [fC hs0 h.want, if_pos rfl]
  have hne : ∀ j, (st.m j).isSome = true → j ≠ id := fun j hj e' => by subst e'; rw [h.free] at hj; cases hj
  obtain ⟨hu, hn0, i, hi, hin⟩ := hT.elem _ _ _ h.elem
  obtain ⟨i2, hi2, hib⟩ := hT.bytes _ _ h.bytes
  obtain ⟨i3, z, hi3, hz, hzc, -⟩ := hT.zero _ _ h.zero
  have e1 : i2 = i := Option.some.inj (hi2.symm.trans hi)
  have e2 : i3 = i := Option.some.inj (hi3.symm.trans hi)
  subst e1 e2
  have hxn : a.eval x = .slice none 0 0 := by have := gM hs0 x; rw [h.at_] at this; exact this
  obtain ⟨ad, my, cap, news, hyv, hn, hnl, hcellsN, hrcs, hone⟩ := DZ hn0 (ku hm0 h.val (gM hs0 y)) h.lens
  have hm1 := hm0.G8 (id := id) h.free fz e n
  generalize hB : upd B0 id (Value.slice none 0 0) = B at hm1
  have hx : a.eval x = B id := by rw [hxn, ← hB, upd_same]
  have harr : upd st.m id (some (dW fz e n [])) id = some (dW fz e n []) := upd_same ..
  have hm := hm1
  have fin : ∃ v' w' I', (Builtin.append_ #[t, t] o.type #[B id, .slice ad my cap]).run P w = .ok v' w' ∧ (∃ aa nn cc, v' = .slice aa nn cc) ∧ MR R.w0 R.I0 (upd B id v') I' (upd (fq id (upd st.m id (some (dW fz e n [])))) id (some (dW fz e n ([] ++ ys)))) w' ∧ Ext w w' I I' := by
   cases fz with
   | true =>
     obtain ⟨vs, hv, hvs, hlx, hiff⟩ := hm.objs id _ harr;obtain ⟨v', w', r1, r2, r3, r4, r5, r6⟩ := qG (P := P) w t o.type e i3 z n b hu hi3 hz hin hib Ku hn0 (B id) 0 vs hv ad my cap news hnl hcellsN hone U0 WH;rw [← hn] at r2;obtain ⟨I', hm', hE⟩ := hm.append harr hv hvs hlx hiff r2 hrcs h.lens r3 r4 r5 r6;exact ZF
   | false =>
     obtain ⟨vs, hv, hvs, hlx, hI⟩ := hm.objs id _ harr;obtain ⟨v', w', r1, r2, r3, r4, r5, r6⟩ := tO (P := P) w t o.type e i3 z n b hu hi3 hz hin hib Ku hn0 (B id) 0 vs hv ad my cap news hnl hcellsN hone U0 WH;rw [← hn] at r2;obtain ⟨hm', hE⟩ := hm.JN harr hvs hlx hI r2 hrcs h.lens r3 r4 r5 r6;exact TV
  obtain ⟨v', w', I', r1, hsh, hm', hE⟩ := fin
  have hrun : (execOp a.eval o).run P w = .ok (.value v') w' := by
   exact MI
  unfold Oper.wp Oper.upon
  rw [hrun]
  have hdlt : ∀ q, o.dst = some q → q < a.tmps.size := fun q hq => by rw [hr.size]; exact hd q hq
  have hmem : upd (fq id (upd st.m id (some (dW fz e n [])))) id (some (dW fz e n ([] ++ ys))) = upd st.m id (some (dW fz e n ys)) := by
   funext j
   unfold upd
   split
   ·rfl
   ·rename_i e';show ((if j = id then _ else st.m j).map (O.kill id)) = st.m j;rw [if_neg e'];exact FX hr.wf.live h.free j
  rw [hmem] at hm'
  have hput := za (dst := o.dst) (r := A.own id) (v := v') (B := upd B id v') (w := w') (I := I') (s := st.s) (fun t' => (hs0 t').mono hE fun j hj => by
   rw [upd_ne _ _ (hne j (hr.ids t' j hj)), ← hB, upd_ne _ _ (hne j (hr.ids t' j hj))]) ⟨(upd_same B id v').symm, hsh⟩ hdlt
  rw [h.dst] at hput
  have hwf : WF ⟨upd st.s d (.own id), upd st.m id (some (dW fz e n ys))⟩ := aaW hr.wf (fun i hi => by cases fz <;> simp [dW, O.ids] at hi) d
  refine hK _ _ ⟨⟨_, I', hm', hx0.trans hE, fun j hj => ?_, by rw [h.dst]; exact hput⟩, hwf.ids, by rw [(gX _ _ _).1]; exact hr.size, hr.nn, by
   rw [(gX _ _ _).2];have hdd : DID ≠ d := fun q => absurd (hd d h.dst) (Nat.not_lt.2 (q ▸ hr.nn))
   show a.defers = dfs (upd st.s d (.own id) DID) ++ ds;rw [upd_ne _ _ hdd]; exact hr.defs, fun j hj => ?_⟩
  ·rw [upd_ne _ _ (hne j (hr.kept j hj)), ← hB, upd_ne _ _ (hne j (hr.kept j hj))]; exact hkp0 j hj
  ·have := hr.kept j hj
   show (upd st.m id _ j).isSome = true
   unfold upd; split
   ·rfl
   ·exact this
theorem Bf {base : Nat} {o : Oper} {l : List Oper} {st : St} {k : St → Prop} {c : Call} {x y : Operand} {t d : Nat} (id : Nat) {e n b : Nat} (fz : Bool) {zs : List Value} {ys : List (List C)} (h : eH ops o st.s = some true) (hop : o.op = .call c) (hc : c.callee = .builtin .append) (ha : c.args = #[x, y]) (ht : c.argTypes = #[t, t]) (hd : o.dst = some d)
 (hx : ev st.s x = .nil) (hm : st.m id = none) (hy : asC st.m (ev st.s y) = some (.sl ys)) (h1 : T.elem t = some (e, n)) (h2 : T.bytes e = some b) (h3 : T.zero e = some zs) (h4 : zs.length = n) (hl : ∀ z ∈ ys, z.length = n) (hb : ys.length * b ≤ 140737488355328) (hb0 : 0 < b)
 (ht2 : je P T kp base ops l ⟨upd st.s d (.own id), upd st.m id (some (dW fz e n ys))⟩ k) : je P T kp base ops (o :: l) st k :=
 jv (.eff (tZ hT fz ⟨h, hop, hc, ha, ht, hd, hx, hm, hy, h1, h2, h3, h4, hl, hb, sN hb hb0⟩)) ht2
end
def tL : Tab := { tab with lit := true }
namespace L
theorem ah : tL.Ok Tryz.prog := ⟨V.ah.ty, V.ah.zero, V.ah.elem, V.ah.off, V.ah.bool, V.ah.fields, V.ah.bytes, V.ah.nilk, V.ah.int, V.ah.map, V.ah.str, V.ah.one, V.ah.seq⟩
theorem tabs : tL.ty = tab.ty ∧ tL.zero = tab.zero ∧ tL.elem = tab.elem ∧ tL.off = tab.off ∧ tL.bool = tab.bool ∧ tL.fields = tab.fields ∧ tL.bytes = tab.bytes ∧ tL.nilk = tab.nilk ∧ tL.int = tab.int ∧ tL.map = tab.map ∧ tL.str = tab.str ∧ tL.one = tab.one ∧ tL.seq = tab.seq ∧ tL.eff = tab.eff ∧ tL.lit = true := ⟨rfl, rfl, rfl, rfl, rfl, rfl, rfl, rfl, rfl, rfl, rfl, rfl, rfl, rfl, rfl⟩
end L
theorem W.LW {P : Go.Program} {R : Ref} {n : Nat} {ds : List Deferred} {st : St} {c : Code} {K : Exit → St → Prop} (j k id : Nat) {tyb ty : TypeId} {e : Nat} {cells : List A} {xs : List (List C)} (hj : st.m j = some (.box tyb cells)) (hk : cells[k]? = some (.own id)) (hid : st.m id = some (.mrow ty e xs)) (hji : j ≠ id) (hkp : ¬ R.keep id)
 (h : W P R n ds ⟨iy id st.s, upd (upd (fq id st.m) id (some (.arr ty e []))) j (some (.box tyb ((cells.map (A.kill id)).set k (.c (.sl xs)))))⟩ c K) : W P R n ds st c K := by
 intro a w hr
 refine h a w ?_
 obtain ⟨⟨B, I, hm, hx0, hkp0, hs⟩, h2, h3, hnn, h4, h5⟩ := hr
 obtain ⟨I', hm', hE, hrc⟩ := hm.freeze hid
 have hBne : ∀ i, i ≠ id → upd B id (.slice none 0 0) i = B i := fun i hi => upd_ne _ _ hi
 have hj' : upd (fq id st.m) id (some (.arr ty e [])) j = some (.box tyb (cells.map (A.kill id))) := by
  rw [upd_ne _ _ hji, aB, hj]; rfl
 obtain ⟨b, vs, q1, q2, q3, q4⟩ := hm'.objs j _ hj'
 obtain ⟨b0, vs0, p1, p2, p3, p4⟩ := hm.objs j _ hj
 have hbb : b0 = b := by
  rw [hBne j hji, p1] at q1; cases q1; rfl
 subst hbb
 have hvv : vs0 = vs := by
  exact Qo
 subst hvv
 have liv0 : ∀ i, (st.m i).isSome = true → (upd (fq id st.m) id (some (.arr ty e [])) i).isSome = true := fun i hi => by
  exact UK
 obtain ⟨hm2, hE2⟩ := hm'.turn (w' := w) (o' := .box tyb ((cells.map (A.kill id)).set k (.c (.sl xs)))) hj' ⟨0, q1⟩ (fun q hq => by obtain ⟨off, hq⟩ := hq; rw [q1] at hq; cases hq; rfl) q4 rfl rfl rfl rfl (fun _ _ => rfl) (fun i hi => by
  obtain ⟨a', ha', hi'⟩ := List.mem_flatMap.1 hi;rcases List.mem_or_eq_of_mem_set ha' with ha' | rfl
  ·exact MZ
  ·simp [A.ids] at hi') (fun _ => by
  refine ⟨b0, vs0, q1, q2, ?_, q4⟩;have hl := q3.length;refine RVs.of Kr fun q a' v' ha' hv' => ?_;rw [List.getElem?_set] at ha';split at ha'
  ·rename_i hq;subst hq;split at ha'
   ·cases ha'
    obtain ⟨v2, r1, r2, r3⟩ := p3.at k _ hk;rw [hv'] at r1; cases r1;have hv : v' = B id := r2.1;exact ⟨by show RC _ _ _ _; rw [hv]; exact hrc, r3⟩
   ·cases ha'
  ·obtain ⟨v2, r1, r2, r3⟩ := q3.at q _ ha';rw [hv'] at r1; cases r1;exact ⟨r2, r3⟩)
 have liv : ∀ i, (st.m i).isSome = true → (upd (upd (fq id st.m) id (some (.arr ty e []))) j (some (.box tyb ((cells.map (A.kill id)).set k (.c (.sl xs))))) i).isSome = true := fun i hi => cO i (liv0 i hi)
 refine ⟨⟨_, I', hm2, hx0.trans hE, fun i hi => (hBne i (fun e => hkp (e ▸ hi))).trans (hkp0 i hi), fun u => ?_⟩, fun u i hi => ?_, h3, hnn, ?_, fun i hi => liv i (h5 i hi)⟩
 ·show RV _ w I' (iy id st.s u) _
  rw [bB]
  rcases (A.dx (id := id) (a := st.s u)).2 with q | ⟨q, hn⟩
  ·rw [q]; trivial
  ·rw [q]
   exact (hs u).mono hE fun i hi => hBne i (fun e => hn (e ▸ hi))
 ·replace hi : i ∈ (iy id st.s u).ids := hi
  rw [bB] at hi
  exact liv i (h2 u i ((A.dx (id := id) (a := st.s u)).1 i hi).1)
 ·show _ = dfs (iy id st.s DID) ++ ds
  rw [bB, oL]; exact h4
theorem MR.Kc {w0 w : World} {I0 I : Nat → Nat → Prop} {B : Nat → Value} {m : Mem} (hm : MR w0 I0 B I m w) {id : Nat} {ty e lo hi : Nat} {xs : List (List C)} (hj : m id = some (.mrow ty e xs)) (hh : hi ≤ xs.length) {v' : Value} (hx : RV B w I (.win id e lo hi) v') :
 MR w0 I0 (upd B id v') I (upd (fq id m) id (some (.mrow ty e ((xs.take hi).drop lo)))) w ∧ ∃ ad n cap, v' = .slice ad n cap := by
 obtain ⟨ad, n0, cap, hB, hlo, hhi, hv⟩ := hx
 obtain ⟨vs, hrow, hvs, hlx, hno⟩ := hm.objs id _ hj
 have hn0 : n0 = xs.length ∧ xs.length ≤ cap := by
  exact TP
 obtain ⟨rfl, hnc⟩ := hn0
 have hvl := hvs.length
 have hfl := kW hlx
 have hlen : ((xs.take hi).drop lo).length = hi - lo := by simp; omega
 have hl1 : vs.length = xs.length * e := hrow.1
 have hle1 : hi * e ≤ xs.length * e := Nat.mul_le_mul_right e hh
 have hle2 : lo * e ≤ hi * e := Nat.mul_le_mul_right e hlo
 have hsub : (hi - lo) * e = hi * e - lo * e := Nat.sub_mul ..
 have hvl' : ((vs.take (hi * e)).drop (lo * e)).length = (hi - lo) * e := by simp; omega
 have hrow' : rowAt w ty e v' (hi - lo) ((vs.take (hi * e)).drop (lo * e)) := by
  exact aao
 have hob : v'.ownBlock = (B id).ownBlock ∨ v'.ownBlock = none := by
  exact PL
 have hflat : flat ((xs.take hi).drop lo) = ((flat xs).take (hi * e)).drop (lo * e) := by
  exact zt8
 have hm' := hm.EZ (id := id) (o' := .mrow ty e ((xs.take hi).drop lo)) (v' := v') (w' := w) (I' := I) hj rfl rfl rfl (Nat.le_refl _) (fun _ _ _ => rfl)
  (fun k hk => by
    have hk : (upd B id v' id).ownBlock = some k := hk;rw [upd_same] at hk;rcases hob with q | q
    ·exact Wq
    ·rw [q] at hk; cases hk)
  (Ext.refl _ _) (fun b p hp => .inl hp)
  ⟨_, by rw [upd_same, hlen]; exact hrow', by rw [hflat]; exact (hvs.take _).drop _, fun x hx => hlx x (List.mem_of_mem_take (List.mem_of_mem_drop hx)), fun b hb p hp => by
    rw [upd_same] at hb;rcases hob with q | q
    ·rw [q] at hb; exact hno b hb p hp
    ·rw [q] at hb; cases hb⟩ (fun i hi => by simp [O.ids] at hi)
 obtain ⟨ad', cp', q, -⟩ := hrow'.shape
 exact ⟨hm', _, _, _, q⟩
theorem SR.BR {R : Ref} {n : Nat} {ds : List Deferred} {st : St} {a : Act} {w : World} (j k id : Nat) {tyb ty e lo hi : Nat} {cells : List A} {xs : List (List C)} (hr : SR R n ds st a w) (hjb : st.m j = some (.box tyb cells)) (hk : cells[k]? = some (.win id e lo hi)) (hid : st.m id = some (.mrow ty e xs)) (hh : hi ≤ xs.length) (hji : j ≠ id) (hkp : ¬ R.keep id) :
 SR R n ds ⟨iy id st.s, upd (upd (fq id st.m) id (some (.mrow ty e ((xs.take hi).drop lo)))) j (some (.box tyb ((cells.map (A.kill id)).set k (.own id))))⟩ a w := by
 obtain ⟨⟨B, I, hm, hx0, hkp0, hs⟩, h2, h3, hnn, h4, h5⟩ := hr
 obtain ⟨b0, vs0, p1, p2, p3, p4⟩ := hm.objs j _ hjb
 obtain ⟨v', u1, u2, u3⟩ := p3.at k _ hk
 obtain ⟨hm', ad, nn, cap, hsh⟩ := hm.Kc hid hh u2
 have hBne : ∀ i, i ≠ id → upd B id v' i = B i := fun i hi => upd_ne _ _ hi
 have hj' : upd (fq id st.m) id (some (.mrow ty e ((xs.take hi).drop lo))) j = some (.box tyb (cells.map (A.kill id))) := by
  rw [upd_ne _ _ hji, aB, hjb]; rfl
 obtain ⟨b, vs, q1, q2, q3, q4⟩ := hm'.objs j _ hj'
 have hbb : b0 = b := by
  rw [hBne j hji, p1] at q1; cases q1; rfl
 subst hbb
 have hvv : vs0 = vs := by
  exact Qo
 subst hvv
 have liv0 : ∀ i, (st.m i).isSome = true → (upd (fq id st.m) id (some (.mrow ty e ((xs.take hi).drop lo))) i).isSome = true := fun i hi => by
  exact UK
 obtain ⟨hm2, hE2⟩ := hm'.turn (w' := w) (o' := .box tyb ((cells.map (A.kill id)).set k (.own id))) hj' ⟨0, q1⟩ (fun q hq => by obtain ⟨off, hq⟩ := hq; rw [q1] at hq; cases hq; rfl) q4 rfl rfl rfl rfl (fun _ _ => rfl) (fun i hi => by
  obtain ⟨a', ha', hi'⟩ := List.mem_flatMap.1 hi;rcases List.mem_or_eq_of_mem_set ha' with ha' | rfl
  ·exact MZ
  ·simp [A.ids] at hi'; subst hi'; rw [upd_same]; rfl) (fun _ => by
  refine ⟨b0, vs0, q1, q2, ?_, q4⟩;have hl := q3.length;refine RVs.of Kr fun q a' v2 ha' hv2 => ?_;rw [List.getElem?_set] at ha';split at ha'
  ·rename_i hq;subst hq;split at ha'
   ·cases ha'
    rw [hv2] at u1; cases u1;exact ⟨⟨(upd_same ..).symm, _, _, _, hsh⟩, u3⟩
   ·cases ha'
  ·obtain ⟨v3, r1, r2, r3⟩ := q3.at q _ ha';rw [hv2] at r1; cases r1;exact ⟨r2, r3⟩)
 have liv : ∀ i, (st.m i).isSome = true → (upd (upd (fq id st.m) id (some (.mrow ty e ((xs.take hi).drop lo)))) j (some (.box tyb ((cells.map (A.kill id)).set k (.own id)))) i).isSome = true := fun i hi => cO i (liv0 i hi)
 refine ⟨⟨_, I, hm2, hx0, fun i hi => (hBne i (fun e => hkp (e ▸ hi))).trans (hkp0 i hi), fun u => ?_⟩, fun u i hi => ?_, h3, hnn, ?_, fun i hi => liv i (h5 i hi)⟩
 ·show RV _ w I (iy id st.s u) _
  rw [bB]
  rcases (A.dx (id := id) (a := st.s u)).2 with q | ⟨q, hn⟩
  ·rw [q]; trivial
  ·rw [q]
   exact (hs u).mono (Ext.refl _ _) fun i hi => hBne i (fun e => hn (e ▸ hi))
 ·replace hi : i ∈ (iy id st.s u).ids := hi
  rw [bB] at hi
  exact liv i (h2 u i ((A.dx (id := id) (a := st.s u)).1 i hi).1)
 ·show _ = dfs (iy id st.s DID) ++ ds
  rw [bB, oL]; exact h4
theorem W.BR {P : Go.Program} {R : Ref} {n : Nat} {ds : List Deferred} {st : St} {c : Code} {K : Exit → St → Prop} (j k id : Nat) {tyb ty e lo hi : Nat} {cells : List A} {xs : List (List C)} (hjb : st.m j = some (.box tyb cells)) (hk : cells[k]? = some (.win id e lo hi)) (hid : st.m id = some (.mrow ty e xs)) (hh : hi ≤ xs.length) (hji : j ≠ id) (hkp : ¬ R.keep id)
 (h : W P R n ds ⟨iy id st.s, upd (upd (fq id st.m) id (some (.mrow ty e ((xs.take hi).drop lo)))) j (some (.box tyb ((cells.map (A.kill id)).set k (.own id))))⟩ c K) : W P R n ds st c K := fun a w hr => h a w (hr.BR j k id hjb hk hid hh hji hkp)
end V
end Go.Proofs.YtgaipdillmleeaaGreat
end
section
namespace Go.Proofs.YtgaipdillmleeaaGreat
open Go.RowKit
namespace V
section
variable {w0 w w' : World} {I0 I I' : Nat → Nat → Prop} {B : Nat → Value} {M : Mem}
theorem MR.Xn (h : MR w0 I0 B I M w) {id : Nat} (hid : M id = none) {v : Value} {o' : O} (hb : Below w.heap.size w w') (hf : ∀ k, foot (upd B id v) id o' k → w.heap.size ≤ k ∧ k < w'.heap.size) (hE : Ext w w' I I')
 (hI' : ∀ b p, I' b p → I b p ∨ (w.heap.size ≤ b ∧ b < w'.heap.size)) (hob : RO (upd B id v) w' I' id o') (hl : o'.ids = []) : MR w0 I0 (upd B id v) I' (upd M id (some o')) w' := by
 have hne : ∀ j, (M j).isSome = true → j ≠ id := fun j hj e => by subst e; rw [hid] at hj; cases hj
 have hB : ∀ j, (M j).isSome = true → upd B id v j = B j := fun j hj => upd_ne _ _ (hne j hj)
 have liv : ∀ j, (M j).isSome = true → (upd M id (some o') j).isSome = true := fun j hj => by rw [upd_ne _ _ (hne j hj)]; exact hj
 have other : ∀ {j : Nat} {z : O}, upd M id (some o') j = some z → (j = id ∧ z = o') ∨ (j ≠ id ∧ M j = some z) := fun {j z} hz => by
  exact Ve
 have hs0 := h.below.size
 refine ⟨h.below.trans ⟨hb.os, hb.tape, hb.output, hb.size, fun b hlt => hb.block b (Nat.lt_of_lt_of_le hlt hs0)⟩, h.glob, fun b o h0 => hE.more _ _ (h.base b o h0), fun b o hi => ?_, fun b o hi => ?_, fun j z hz => ?_, fun j z hz k hk => ?_, fun j z j' z' hz hz' hjj k hk hk' => ?_, fun j z hz i hi => ?_⟩
 ·rcases hI' b o hi with hi | hi
  ·exact h.old b o hi
  ·exact .inr (Nat.le_trans hs0 hi.1)
 ·rcases hI' b o hi with hi | hi
  ·exact Nat.lt_of_lt_of_le (h.there b o hi) hb.size
  ·exact hi.2
 ·rcases other hz with ⟨rfl, rfl⟩ | ⟨hj, hz⟩
  ·exact hob
  ·refine RO.mono hE (hB j (by simp [hz])) (fun i hi => hB i (h.live j z hz i hi)) (fun k hk => hb.block k (h.low j z hz k hk).2) (fun k hk p hp => ?_) (h.objs j z hz)
   rcases hI' k p hp with hp | hp
   ·exact hp
   ·exact absurd hp.1 (Nat.not_le.2 (h.low j z hz k hk).2)
 ·rcases other hz with ⟨rfl, rfl⟩ | ⟨hj, hz⟩
  ·exact ⟨Nat.le_trans hs0 (hf k hk).1, (hf k hk).2⟩
  ·rw [jg (hB j (by simp [hz]))] at hk
   exact ⟨(h.low j z hz k hk).1, Nat.lt_of_lt_of_le (h.low j z hz k hk).2 hb.size⟩
 ·rcases other hz with ⟨e1, e2⟩ | ⟨hj, hy⟩
  ·rcases other hz' with ⟨e3, e4⟩ | ⟨hj', hy'⟩
   ·exact hjj (e1.trans e3.symm)
   ·rw [jg (hB j' (by simp [hy']))] at hk'
    rw [e1, e2] at hk
    exact absurd (hf k hk).1 (Nat.not_le.2 (h.low j' z' hy' k hk').2)
  ·rw [jg (hB j (by simp [hy]))] at hk
   rcases other hz' with ⟨e3, e4⟩ | ⟨hj', hy'⟩
   ·rw [e3, e4] at hk'
    exact absurd (hf k hk').1 (Nat.not_le.2 (h.low j z hy k hk).2)
   ·rw [jg (hB j' (by simp [hy']))] at hk'
    exact h.apart j z j' z' hy hy' hjj k hk hk'
 ·rcases other hz with ⟨rfl, rfl⟩ | ⟨hj, hz⟩
  ·rw [hl] at hi; cases hi
  ·exact liv i (h.live j z hz i hi)
end
theorem XT {P : Go.Program} {T : Tab} (hT : T.Ok P) {f : FuncId} {fn : Func} {c : Code} {l : List ResultVar} {args : List A} {o : O} (hf : P.funcs[f]? = some fn) (hn : (fn.name == "runtime.NumGoroutine") = false) (hb : fn.body = some c) (hl : fn.results.toList = l) (hd : args.all (fun a => a.ids.isEmpty && !(match a with | .defs _ => true | _ => false)) = true) (hle : decide (args.length ≤ fn.ntmps ∧ fn.ntmps ≤ DID) = true) (ho : ∃ ty e xs, o = .arr ty e xs ∨ o = .mrow ty e xs)
 (hW : ∀ R : Ref, R.keep = (fun _ => False) → W P R fn.ntmps [] ⟨entry args, Mem.nil⟩ c (fun e st => (e = .normal ∨ e = .ret) ∧ dfs (st.s DID) = [] ∧ ∃ id, resE T st l = some (.own id) ∧ st.m id = some o)) (M : Mem) (b : Nat) (hM : M b = none) : dJ P f args M [] (.own b) (upd M b (some o)) := by
 have hoi : o.ids = [] := by obtain ⟨ty, e, xs, rfl | rfl⟩ := ho <;> rfl
 refine ⟨enters_of hf hn hb, fun j hj => by simp [A.ids] at hj; subst hj; rw [upd_same]; rfl, fun j hj => cO j hj, fun hw => dH hw (fun i hi => by rw [hoi] at hi; cases hi), ?_⟩
 intro w0 I0 B I w vals hm hv
 have hd1 : ∀ a ∈ args, a.ids = [] := fun a ha => by have := List.all_eq_true.1 hd a ha; simp only [Bool.and_eq_true] at this; simpa using this.1
 have hd2 : ∀ a ∈ args, ∀ l, a ≠ .defs l := fun a ha l e => by have := List.all_eq_true.1 hd a ha; subst e; simp at this
 obtain ⟨hl1, hl2⟩ := of_decide_eq_true hle
 have hlen := lQ hv
 refine calls_of_wp hf hb ?_
 have h0 : SR ⟨w, I, w, I, B, fun _ => False⟩ fn.ntmps [] ⟨entry args, Mem.nil⟩ { tmps := vals.toArray ++ Array.replicate (fn.ntmps - vals.toArray.size) undef, defers := [] } w := by
  exact aaY
 refine wp_mono (hW _ rfl _ w h0) ?_
 rintro e a' w' ⟨st', ⟨he, hdn, id, hres, hid⟩, ⟨⟨B', I', hm', hx', -, hs'⟩, -, -, -, hds, -⟩⟩
 rw [hdn] at hds
 obtain ⟨v, h1, h2⟩ := zO hT hm' hs' hl hres
 obtain ⟨hvB, hsh⟩ : v = B' id ∧ ∃ a n cap, v = .slice a n cap := h2
 have hfoot : ∀ k, foot (upd B b v) b o k → foot B' id o k := fun k hk => by
  obtain ⟨ty, e, xs, rfl | rfl⟩ := ho
  ·exact VP
  ·exact VP
 have hE : Ext w w' I I' := ⟨hm'.base, fun q p hq => World.cell?_of_block (w := w) (hm'.below.block q (hm.there q p hq))⟩
 have hob : RO (upd B b v) w' I' b o := by
  have := hm'.objs id o hid;obtain ⟨ty, e, xs, rfl | rfl⟩ := ho
  ·exact YA
  ·exact YA
 have hmr := hm.Xn (id := b) hM (v := v) (o' := o) hm'.below (fun k hk => hm'.low id o hid k (hfoot k hk)) hE (fun q p hq => (hm'.old q p hq).imp (fun k => k) fun k => ⟨k, hm'.there q p hq⟩) hob hoi
 have hpost : a'.defers = [] ∧ ∃ v, (results fn a'.tmps).run P w' = .ok v w' ∧ ∃ v' B'' I'', Ending.returned v = .returned v' ∧ MR w0 I0 B'' I'' (upd M b (some o)) w' ∧ Ext w w' I I'' ∧ (∀ j, (M j).isSome = true → j ∉ ([] : List Nat) → B'' j = B j) ∧ RV B'' w' I'' (.own b) v' :=
  ⟨hds, v, h1, v, _, I', rfl, hmr, hE, fun j hj _ => upd_ne _ _ (fun e => by subst e; rw [hM] at hj; cases hj), (upd_same B b v).symm, hsh⟩
 rcases he with rfl | rfl
 ·exact hpost
 ·exact hpost
end V
end Go.Proofs.YtgaipdillmleeaaGreat
end
