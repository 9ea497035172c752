/-
  GL, one seat's table of types, its special functions, its machine. Printed by glseat.py.
-/
import Derived.Test.YtafgloejojikoaaMGlSp
import Derived.Test.YtafgloejojikoaaMGlNl
import Derived.Test.YtafgloejojikoaaChecked
import Derived.KernelRfl
set_option linter.unusedSimpArgs false
set_option linter.unusedVariables false
/-! GL, one seat's table of types, its special functions, its machine. Printed by glseat.py. -/
namespace Go.GL.Seat
open Go.Proofs
set_option maxRecDepth 100000
@[irreducible] def tabL : List (Nat × TI) := [
  (1, { td := .func, size := 1, bytes := 8, zero := .nilFunc }),
  (2, { td := (.int .i64), size := 1, bytes := 8, zero := .int .i64 0 }),
  (3, { td := (.int .i64), size := 1, bytes := 8, zero := .int .i64 0 }),
  (4, { td := .bool, size := 1, bytes := 1, zero := .bool false }),
  (5, { td := (.int .u8), size := 1, bytes := 1, zero := .int .u8 0 }),
  (6, { td := (.int .u8), size := 1, bytes := 1, zero := .int .u8 0 }),
  (7, { td := (.struct [(0, 2), (1, 3), (2, 4), (3, 6)]), size := 4, bytes := 24, zero := .agg [.int .i64 0, .int .i64 0, .bool false, .int .u8 0] }),
  (8, { td := (.struct [(0, 2), (1, 3), (2, 4), (3, 6)]), size := 4, bytes := 24, zero := .agg [.int .i64 0, .int .i64 0, .bool false, .int .u8 0] }),
  (9, { td := .str, size := 1, bytes := 16, zero := .str ⟨#[]⟩ }),
  (10, { td := .str, size := 1, bytes := 16, zero := .str ⟨#[]⟩ }),
  (11, { td := .str, size := 1, bytes := 16, zero := .str ⟨#[]⟩ }),
  (12, { td := (.int .u64), size := 1, bytes := 8, zero := .int .u64 0 }),
  (13, { td := (.struct [(0, 9), (1, 12)]), size := 2, bytes := 24, zero := .agg [.str ⟨#[]⟩, .int .u64 0] }),
  (14, { td := (.struct [(0, 9), (1, 12)]), size := 2, bytes := 24, zero := .agg [.str ⟨#[]⟩, .int .u64 0] }),
  (15, { td := (.ptr 216), size := 1, bytes := 8, zero := .nilp }),
  (16, { td := (.ptr 219), size := 1, bytes := 8, zero := .nilp }),
  (17, { td := (.ptr 228), size := 1, bytes := 8, zero := .nilp }),
  (18, { td := (.struct [(0, 17)]), size := 1, bytes := 8, zero := .agg [.nilp] }),
  (19, { td := (.struct [(0, 17)]), size := 1, bytes := 8, zero := .agg [.nilp] }),
  (20, { td := .iface, size := 1, bytes := 16, zero := .nilIface }),
  (21, { td := (.int .i32), size := 1, bytes := 4, zero := .int .i32 0 }),
  (22, { td := .func, size := 1, bytes := 8, zero := .nilFunc }),
  (23, { td := (.struct [(0, 9), (1, 9)]), size := 2, bytes := 32, zero := .agg [.str ⟨#[]⟩, .str ⟨#[]⟩] }),
  (24, { td := (.struct [(0, 9), (1, 9)]), size := 2, bytes := 32, zero := .agg [.str ⟨#[]⟩, .str ⟨#[]⟩], cmp := true }),
  (25, { td := (.slice 24), size := 1, bytes := 24, zero := .lst true [] }),
  (26, { td := (.int .u8), size := 1, bytes := 1, zero := .int .u8 0 }),
  (27, { td := (.slice 113), size := 1, bytes := 24, zero := .lst true [] }),
  (28, { td := (.struct [(0, 4), (1, 27)]), size := 2, bytes := 32, zero := .agg [.bool false, .lst true []] }),
  (29, { td := (.struct [(0, 4), (1, 27)]), size := 2, bytes := 32, zero := .agg [.bool false, .lst true []] }),
  (30, { td := (.slice 32), size := 1, bytes := 24, zero := .lst true [] }),
  (31, { td := (.struct [(0, 26), (1, 9), (2, 29), (4, 30)]), size := 5, bytes := 80, zero := .agg [.int .u8 0, .str ⟨#[]⟩, .bool false, .lst true [], .lst true []] }),
  (32, { td := (.struct [(0, 26), (1, 9), (2, 29), (4, 30)]), size := 5, bytes := 80, zero := .agg [.int .u8 0, .str ⟨#[]⟩, .bool false, .lst true [], .lst true []] }),
  (33, { td := .func, size := 1, bytes := 8, zero := .nilFunc }),
  (34, { td := .func, size := 1, bytes := 8, zero := .nilFunc }),
  (35, { td := .func, size := 1, bytes := 8, zero := .nilFunc }),
  (36, { td := (.int .i64), size := 1, bytes := 8, zero := .int .i64 0 }),
  (38, { td := .func, size := 1, bytes := 8, zero := .nilFunc }),
  (39, { td := .func, size := 1, bytes := 8, zero := .nilFunc }),
  (40, { td := .func, size := 1, bytes := 8, zero := .nilFunc }),
  (41, { td := (.slice 129), size := 1, bytes := 24, zero := .lst true [] }),
  (42, { td := (.slice 71), size := 1, bytes := 24, zero := .lst true [] }),
  (43, { td := .func, size := 1, bytes := 8, zero := .nilFunc }),
  (44, { td := .func, size := 1, bytes := 8, zero := .nilFunc }),
  (45, { td := (.int .u8), size := 1, bytes := 1, zero := .int .u8 0 }),
  (46, { td := (.slice 48), size := 1, bytes := 24, zero := .lst true [] }),
  (47, { td := (.struct [(0, 45), (1, 29), (3, 4), (4, 9), (5, 46)]), size := 6, bytes := 88, zero := .agg [.int .u8 0, .bool false, .lst true [], .bool false, .str ⟨#[]⟩, .lst true []] }),
  (48, { td := (.struct [(0, 45), (1, 29), (3, 4), (4, 9), (5, 46)]), size := 6, bytes := 88, zero := .agg [.int .u8 0, .bool false, .lst true [], .bool false, .str ⟨#[]⟩, .lst true []] }),
  (50, { td := .func, size := 1, bytes := 8, zero := .nilFunc }),
  (51, { td := .func, size := 1, bytes := 8, zero := .nilFunc }),
  (52, { td := .func, size := 1, bytes := 8, zero := .nilFunc }),
  (53, { td := .func, size := 1, bytes := 8, zero := .nilFunc }),
  (54, { td := .func, size := 1, bytes := 8, zero := .nilFunc }),
  (55, { td := (.struct [(0, 41), (1, 25)]), size := 2, bytes := 48, zero := .agg [.lst true [], .lst true []] }),
  (56, { td := (.struct [(0, 41), (1, 25)]), size := 2, bytes := 48, zero := .agg [.lst true [], .lst true []] }),
  (57, { td := (.struct [(0, 56), (2, 32)]), size := 7, bytes := 128, zero := .agg [.lst true [], .lst true [], .int .u8 0, .str ⟨#[]⟩, .bool false, .lst true [], .lst true []] }),
  (58, { td := (.struct [(0, 56), (2, 32)]), size := 7, bytes := 128, zero := .agg [.lst true [], .lst true [], .int .u8 0, .str ⟨#[]⟩, .bool false, .lst true [], .lst true []] }),
  (60, { td := .func, size := 1, bytes := 8, zero := .nilFunc }),
  (62, { td := .func, size := 1, bytes := 8, zero := .nilFunc }),
  (63, { td := .func, size := 1, bytes := 8, zero := .nilFunc }),
  (64, { td := .func, size := 1, bytes := 8, zero := .nilFunc }),
  (65, { td := .func, size := 1, bytes := 8, zero := .nilFunc }),
  (66, { td := .func, size := 1, bytes := 8, zero := .nilFunc }),
  (67, { td := .func, size := 1, bytes := 8, zero := .nilFunc }),
  (68, { td := .func, size := 1, bytes := 8, zero := .nilFunc }),
  (69, { td := .func, size := 1, bytes := 8, zero := .nilFunc }),
  (70, { td := (.struct [(0, 9), (1, 48)]), size := 7, bytes := 104, zero := .agg [.str ⟨#[]⟩, .int .u8 0, .bool false, .lst true [], .bool false, .str ⟨#[]⟩, .lst true []] }),
  (71, { td := (.struct [(0, 9), (1, 48)]), size := 7, bytes := 104, zero := .agg [.str ⟨#[]⟩, .int .u8 0, .bool false, .lst true [], .bool false, .str ⟨#[]⟩, .lst true []] }),
  (72, { td := .func, size := 1, bytes := 8, zero := .nilFunc }),
  (73, { td := .func, size := 1, bytes := 8, zero := .nilFunc }),
  (74, { td := .func, size := 1, bytes := 8, zero := .nilFunc }),
  (75, { td := .func, size := 1, bytes := 8, zero := .nilFunc }),
  (76, { td := .func, size := 1, bytes := 8, zero := .nilFunc }),
  (77, { td := .func, size := 1, bytes := 8, zero := .nilFunc }),
  (78, { td := .func, size := 1, bytes := 8, zero := .nilFunc }),
  (79, { td := .func, size := 1, bytes := 8, zero := .nilFunc }),
  (80, { td := .func, size := 1, bytes := 8, zero := .nilFunc }),
  (81, { td := (.slice 129), size := 1, bytes := 24, zero := .lst true [] }),
  (82, { td := .func, size := 1, bytes := 8, zero := .nilFunc }),
  (83, { td := .func, size := 1, bytes := 8, zero := .nilFunc }),
  (84, { td := (.struct [(0, 81), (1, 32), (6, 46)]), size := 7, bytes := 128, zero := .agg [.lst true [], .int .u8 0, .str ⟨#[]⟩, .bool false, .lst true [], .lst true [], .lst true []] }),
  (85, { td := (.struct [(0, 81), (1, 32), (6, 46)]), size := 7, bytes := 128, zero := .agg [.lst true [], .int .u8 0, .str ⟨#[]⟩, .bool false, .lst true [], .lst true [], .lst true []] }),
  (87, { td := (.map 26 3), size := 1, bytes := 8, zero := .nilm }),
  (89, { td := .func, size := 1, bytes := 8, zero := .nilFunc }),
  (90, { td := (.map 26 89), size := 1, bytes := 8, zero := .nilm }),
  (91, { td := .func, size := 1, bytes := 8, zero := .nilFunc }),
  (92, { td := (.struct [(0, 27)]), size := 1, bytes := 24, zero := .agg [.lst true []] }),
  (93, { td := (.struct [(0, 27)]), size := 1, bytes := 24, zero := .agg [.lst true []] }),
  (94, { td := (.struct [(0, 93), (1, 4)]), size := 2, bytes := 32, zero := .agg [.lst true [], .bool false] }),
  (95, { td := (.struct [(0, 93), (1, 4)]), size := 2, bytes := 32, zero := .agg [.lst true [], .bool false] }),
  (96, { td := .func, size := 1, bytes := 8, zero := .nilFunc }),
  (97, { td := .func, size := 1, bytes := 8, zero := .nilFunc }),
  (98, { td := .func, size := 1, bytes := 8, zero := .nilFunc }),
  (99, { td := .func, size := 1, bytes := 8, zero := .nilFunc }),
  (100, { td := .func, size := 1, bytes := 8, zero := .nilFunc }),
  (101, { td := (.int .u64), size := 1, bytes := 8, zero := .int .u64 0 }),
  (102, { td := (.ptr 104), size := 1, bytes := 8, zero := .nilp }),
  (103, { td := (.struct [(0, 41), (1, 25)]), size := 2, bytes := 48, zero := .agg [.lst true [], .lst true []] }),
  (104, { td := (.struct [(0, 41), (1, 25)]), size := 2, bytes := 48, zero := .agg [.lst true [], .lst true []] }),
  (105, { td := .func, size := 1, bytes := 8, zero := .nilFunc }),
  (106, { td := .func, size := 1, bytes := 8, zero := .nilFunc }),
  (107, { td := .func, size := 1, bytes := 8, zero := .nilFunc }),
  (108, { td := .func, size := 1, bytes := 8, zero := .nilFunc }),
  (109, { td := .func, size := 1, bytes := 8, zero := .nilFunc }),
  (110, { td := .func, size := 1, bytes := 8, zero := .nilFunc }),
  (111, { td := .func, size := 1, bytes := 8, zero := .nilFunc }),
  (112, { td := .func, size := 1, bytes := 8, zero := .nilFunc }),
  (113, { td := (.int .u32), size := 1, bytes := 4, zero := .int .u32 0 }),
  (114, { td := .func, size := 1, bytes := 8, zero := .nilFunc }),
  (115, { td := .func, size := 1, bytes := 8, zero := .nilFunc }),
  (116, { td := .func, size := 1, bytes := 8, zero := .nilFunc }),
  (117, { td := .func, size := 1, bytes := 8, zero := .nilFunc }),
  (118, { td := .func, size := 1, bytes := 8, zero := .nilFunc }),
  (119, { td := .func, size := 1, bytes := 8, zero := .nilFunc }),
  (120, { td := (.slice 9), size := 1, bytes := 24, zero := .lst true [] }),
  (121, { td := .func, size := 1, bytes := 8, zero := .nilFunc }),
  (122, { td := .func, size := 1, bytes := 8, zero := .nilFunc }),
  (123, { td := .func, size := 1, bytes := 8, zero := .nilFunc }),
  (124, { td := .func, size := 1, bytes := 8, zero := .nilFunc }),
  (125, { td := (.struct [(0, 9), (1, 120)]), size := 2, bytes := 40, zero := .agg [.str ⟨#[]⟩, .lst true []] }),
  (126, { td := (.struct [(0, 9), (1, 120)]), size := 2, bytes := 40, zero := .agg [.str ⟨#[]⟩, .lst true []] }),
  (127, { td := (.slice 126), size := 1, bytes := 24, zero := .lst true [] }),
  (128, { td := (.struct [(0, 9), (1, 127)]), size := 2, bytes := 40, zero := .agg [.str ⟨#[]⟩, .lst true []] }),
  (129, { td := (.struct [(0, 9), (1, 127)]), size := 2, bytes := 40, zero := .agg [.str ⟨#[]⟩, .lst true []] }),
  (130, { td := .func, size := 1, bytes := 8, zero := .nilFunc }),
  (131, { td := .func, size := 1, bytes := 8, zero := .nilFunc }),
  (132, { td := .func, size := 1, bytes := 8, zero := .nilFunc }),
  (133, { td := .func, size := 1, bytes := 8, zero := .nilFunc }),
  (134, { td := .func, size := 1, bytes := 8, zero := .nilFunc }),
  (135, { td := .func, size := 1, bytes := 8, zero := .nilFunc }),
  (136, { td := .func, size := 1, bytes := 8, zero := .nilFunc }),
  (137, { td := .func, size := 1, bytes := 8, zero := .nilFunc }),
  (138, { td := .func, size := 1, bytes := 8, zero := .nilFunc }),
  (139, { td := .func, size := 1, bytes := 8, zero := .nilFunc }),
  (140, { td := (.slice 29), size := 1, bytes := 24, zero := .lst true [] }),
  (141, { td := .func, size := 1, bytes := 8, zero := .nilFunc }),
  (142, { td := .func, size := 1, bytes := 8, zero := .nilFunc }),
  (143, { td := (.struct [(0, 3), (1, 3)]), size := 2, bytes := 16, zero := .agg [.int .i64 0, .int .i64 0] }),
  (144, { td := (.struct [(0, 3), (1, 3)]), size := 2, bytes := 16, zero := .agg [.int .i64 0, .int .i64 0], cmp := true }),
  (146, { td := .func, size := 1, bytes := 8, zero := .nilFunc }),
  (148, { td := .func, size := 1, bytes := 8, zero := .nilFunc }),
  (149, { td := .func, size := 1, bytes := 8, zero := .nilFunc }),
  (150, { td := .func, size := 1, bytes := 8, zero := .nilFunc }),
  (151, { td := .func, size := 1, bytes := 8, zero := .nilFunc }),
  (152, { td := .func, size := 1, bytes := 8, zero := .nilFunc }),
  (153, { td := .func, size := 1, bytes := 8, zero := .nilFunc }),
  (154, { td := .func, size := 1, bytes := 8, zero := .nilFunc }),
  (155, { td := .func, size := 1, bytes := 8, zero := .nilFunc }),
  (156, { td := .func, size := 1, bytes := 8, zero := .nilFunc }),
  (158, { td := .func, size := 1, bytes := 8, zero := .nilFunc }),
  (160, { td := .func, size := 1, bytes := 8, zero := .nilFunc }),
  (161, { td := .func, size := 1, bytes := 8, zero := .nilFunc }),
  (162, { td := .func, size := 1, bytes := 8, zero := .nilFunc }),
  (163, { td := .func, size := 1, bytes := 8, zero := .nilFunc }),
  (164, { td := (.slice 3), size := 1, bytes := 24, zero := .lst true [] }),
  (165, { td := .func, size := 1, bytes := 8, zero := .nilFunc }),
  (166, { td := .func, size := 1, bytes := 8, zero := .nilFunc }),
  (167, { td := .func, size := 1, bytes := 8, zero := .nilFunc }),
  (168, { td := .func, size := 1, bytes := 8, zero := .nilFunc }),
  (169, { td := .func, size := 1, bytes := 8, zero := .nilFunc }),
  (171, { td := .func, size := 1, bytes := 8, zero := .nilFunc }),
  (172, { td := .func, size := 1, bytes := 8, zero := .nilFunc }),
  (173, { td := .func, size := 1, bytes := 8, zero := .nilFunc }),
  (174, { td := .func, size := 1, bytes := 8, zero := .nilFunc }),
  (175, { td := .func, size := 1, bytes := 8, zero := .nilFunc }),
  (176, { td := .func, size := 1, bytes := 8, zero := .nilFunc }),
  (177, { td := .func, size := 1, bytes := 8, zero := .nilFunc }),
  (178, { td := .func, size := 1, bytes := 8, zero := .nilFunc }),
  (179, { td := .func, size := 1, bytes := 8, zero := .nilFunc }),
  (180, { td := (.map 9 48), size := 1, bytes := 8, zero := .nilm }),
  (181, { td := (.slice 27), size := 1, bytes := 24, zero := .lst true [] }),
  (182, { td := .func, size := 1, bytes := 8, zero := .nilFunc }),
  (183, { td := (.slice 101), size := 1, bytes := 24, zero := .lst true [] }),
  (184, { td := (.slice 101), size := 1, bytes := 24, zero := .lst true [] }),
  (185, { td := (.struct [(0, 184)]), size := 1, bytes := 24, zero := .agg [.lst true []] }),
  (186, { td := (.struct [(0, 184)]), size := 1, bytes := 24, zero := .agg [.lst true []] }),
  (187, { td := .func, size := 1, bytes := 8, zero := .nilFunc }),
  (188, { td := .func, size := 1, bytes := 8, zero := .nilFunc }),
  (189, { td := .func, size := 1, bytes := 8, zero := .nilFunc }),
  (190, { td := .func, size := 1, bytes := 8, zero := .nilFunc }),
  (191, { td := .func, size := 1, bytes := 8, zero := .nilFunc }),
  (192, { td := .func, size := 1, bytes := 8, zero := .nilFunc }),
  (193, { td := .func, size := 1, bytes := 8, zero := .nilFunc }),
  (194, { td := .func, size := 1, bytes := 8, zero := .nilFunc }),
  (195, { td := .func, size := 1, bytes := 8, zero := .nilFunc }),
  (197, { td := .func, size := 1, bytes := 8, zero := .nilFunc }),
  (198, { td := .func, size := 1, bytes := 8, zero := .nilFunc }),
  (199, { td := .func, size := 1, bytes := 8, zero := .nilFunc }),
  (200, { td := .func, size := 1, bytes := 8, zero := .nilFunc }),
  (201, { td := .func, size := 1, bytes := 8, zero := .nilFunc }),
  (202, { td := .func, size := 1, bytes := 8, zero := .nilFunc }),
  (203, { td := .func, size := 1, bytes := 8, zero := .nilFunc }),
  (204, { td := .func, size := 1, bytes := 8, zero := .nilFunc }),
  (205, { td := .func, size := 1, bytes := 8, zero := .nilFunc }),
  (206, { td := .func, size := 1, bytes := 8, zero := .nilFunc }),
  (207, { td := .func, size := 1, bytes := 8, zero := .nilFunc }),
  (208, { td := .func, size := 1, bytes := 8, zero := .nilFunc }),
  (209, { td := .func, size := 1, bytes := 8, zero := .nilFunc }),
  (210, { td := (.slice 5), size := 1, bytes := 24, zero := .lst true [] }),
  (211, { td := (.slice 5), size := 1, bytes := 24, zero := .lst true [] }),
  (212, { td := .func, size := 1, bytes := 8, zero := .nilFunc }),
  (213, { td := .func, size := 1, bytes := 8, zero := .nilFunc }),
  (214, { td := .func, size := 1, bytes := 8, zero := .nilFunc }),
  (220, { td := .func, size := 1, bytes := 8, zero := .nilFunc }),
  (221, { td := (.int .u8), size := 1, bytes := 1, zero := .int .u8 0 }),
  (222, { td := (.int .u8), size := 1, bytes := 1, zero := .int .u8 0 }),
  (223, { td := .func, size := 1, bytes := 8, zero := .nilFunc }),
  (224, { td := (.ptr 5), size := 1, bytes := 8, zero := .nilp }),
  (225, { td := (.int .i32), size := 1, bytes := 4, zero := .int .i32 0 }),
  (226, { td := (.int .i32), size := 1, bytes := 4, zero := .int .i32 0 })]
@[irreducible] def tab : Tab := fun t => tabL.lookup t
@[simp] theorem tab_1 : tab 1 = some { td := .func, size := 1, bytes := 8, zero := .nilFunc } := by unfold tab; kernel_rfl
@[simp] theorem tab_2 : tab 2 = some { td := (.int .i64), size := 1, bytes := 8, zero := .int .i64 0 } := by unfold tab; kernel_rfl
@[simp] theorem tab_3 : tab 3 = some { td := (.int .i64), size := 1, bytes := 8, zero := .int .i64 0 } := by unfold tab; kernel_rfl
@[simp] theorem tab_4 : tab 4 = some { td := .bool, size := 1, bytes := 1, zero := .bool false } := by unfold tab; kernel_rfl
@[simp] theorem tab_5 : tab 5 = some { td := (.int .u8), size := 1, bytes := 1, zero := .int .u8 0 } := by unfold tab; kernel_rfl
@[simp] theorem tab_6 : tab 6 = some { td := (.int .u8), size := 1, bytes := 1, zero := .int .u8 0 } := by unfold tab; kernel_rfl
@[simp] theorem tab_7 : tab 7 = some { td := (.struct [(0, 2), (1, 3), (2, 4), (3, 6)]), size := 4, bytes := 24, zero := .agg [.int .i64 0, .int .i64 0, .bool false, .int .u8 0] } := by unfold tab; kernel_rfl
@[simp] theorem tab_8 : tab 8 = some { td := (.struct [(0, 2), (1, 3), (2, 4), (3, 6)]), size := 4, bytes := 24, zero := .agg [.int .i64 0, .int .i64 0, .bool false, .int .u8 0] } := by unfold tab; kernel_rfl
@[simp] theorem tab_9 : tab 9 = some { td := .str, size := 1, bytes := 16, zero := .str ⟨#[]⟩ } := by unfold tab; kernel_rfl
@[simp] theorem tab_10 : tab 10 = some { td := .str, size := 1, bytes := 16, zero := .str ⟨#[]⟩ } := by unfold tab; kernel_rfl
@[simp] theorem tab_11 : tab 11 = some { td := .str, size := 1, bytes := 16, zero := .str ⟨#[]⟩ } := by unfold tab; kernel_rfl
@[simp] theorem tab_12 : tab 12 = some { td := (.int .u64), size := 1, bytes := 8, zero := .int .u64 0 } := by unfold tab; kernel_rfl
@[simp] theorem tab_13 : tab 13 = some { td := (.struct [(0, 9), (1, 12)]), size := 2, bytes := 24, zero := .agg [.str ⟨#[]⟩, .int .u64 0] } := by unfold tab; kernel_rfl
@[simp] theorem tab_14 : tab 14 = some { td := (.struct [(0, 9), (1, 12)]), size := 2, bytes := 24, zero := .agg [.str ⟨#[]⟩, .int .u64 0] } := by unfold tab; kernel_rfl
@[simp] theorem tab_15 : tab 15 = some { td := (.ptr 216), size := 1, bytes := 8, zero := .nilp } := by unfold tab; kernel_rfl
@[simp] theorem tab_16 : tab 16 = some { td := (.ptr 219), size := 1, bytes := 8, zero := .nilp } := by unfold tab; kernel_rfl
@[simp] theorem tab_17 : tab 17 = some { td := (.ptr 228), size := 1, bytes := 8, zero := .nilp } := by unfold tab; kernel_rfl
@[simp] theorem tab_18 : tab 18 = some { td := (.struct [(0, 17)]), size := 1, bytes := 8, zero := .agg [.nilp] } := by unfold tab; kernel_rfl
@[simp] theorem tab_19 : tab 19 = some { td := (.struct [(0, 17)]), size := 1, bytes := 8, zero := .agg [.nilp] } := by unfold tab; kernel_rfl
@[simp] theorem tab_20 : tab 20 = some { td := .iface, size := 1, bytes := 16, zero := .nilIface } := by unfold tab; kernel_rfl
@[simp] theorem tab_21 : tab 21 = some { td := (.int .i32), size := 1, bytes := 4, zero := .int .i32 0 } := by unfold tab; kernel_rfl
@[simp] theorem tab_22 : tab 22 = some { td := .func, size := 1, bytes := 8, zero := .nilFunc } := by unfold tab; kernel_rfl
@[simp] theorem tab_23 : tab 23 = some { td := (.struct [(0, 9), (1, 9)]), size := 2, bytes := 32, zero := .agg [.str ⟨#[]⟩, .str ⟨#[]⟩] } := by unfold tab; kernel_rfl
@[simp] theorem tab_24 : tab 24 = some { td := (.struct [(0, 9), (1, 9)]), size := 2, bytes := 32, zero := .agg [.str ⟨#[]⟩, .str ⟨#[]⟩], cmp := true } := by unfold tab; kernel_rfl
@[simp] theorem tab_25 : tab 25 = some { td := (.slice 24), size := 1, bytes := 24, zero := .lst true [] } := by unfold tab; kernel_rfl
@[simp] theorem tab_26 : tab 26 = some { td := (.int .u8), size := 1, bytes := 1, zero := .int .u8 0 } := by unfold tab; kernel_rfl
@[simp] theorem tab_27 : tab 27 = some { td := (.slice 113), size := 1, bytes := 24, zero := .lst true [] } := by unfold tab; kernel_rfl
@[simp] theorem tab_28 : tab 28 = some { td := (.struct [(0, 4), (1, 27)]), size := 2, bytes := 32, zero := .agg [.bool false, .lst true []] } := by unfold tab; kernel_rfl
@[simp] theorem tab_29 : tab 29 = some { td := (.struct [(0, 4), (1, 27)]), size := 2, bytes := 32, zero := .agg [.bool false, .lst true []] } := by unfold tab; kernel_rfl
@[simp] theorem tab_30 : tab 30 = some { td := (.slice 32), size := 1, bytes := 24, zero := .lst true [] } := by unfold tab; kernel_rfl
@[simp] theorem tab_31 : tab 31 = some { td := (.struct [(0, 26), (1, 9), (2, 29), (4, 30)]), size := 5, bytes := 80, zero := .agg [.int .u8 0, .str ⟨#[]⟩, .bool false, .lst true [], .lst true []] } := by unfold tab; kernel_rfl
@[simp] theorem tab_32 : tab 32 = some { td := (.struct [(0, 26), (1, 9), (2, 29), (4, 30)]), size := 5, bytes := 80, zero := .agg [.int .u8 0, .str ⟨#[]⟩, .bool false, .lst true [], .lst true []] } := by unfold tab; kernel_rfl
@[simp] theorem tab_33 : tab 33 = some { td := .func, size := 1, bytes := 8, zero := .nilFunc } := by unfold tab; kernel_rfl
@[simp] theorem tab_34 : tab 34 = some { td := .func, size := 1, bytes := 8, zero := .nilFunc } := by unfold tab; kernel_rfl
@[simp] theorem tab_35 : tab 35 = some { td := .func, size := 1, bytes := 8, zero := .nilFunc } := by unfold tab; kernel_rfl
@[simp] theorem tab_36 : tab 36 = some { td := (.int .i64), size := 1, bytes := 8, zero := .int .i64 0 } := by unfold tab; kernel_rfl
@[simp] theorem tab_38 : tab 38 = some { td := .func, size := 1, bytes := 8, zero := .nilFunc } := by unfold tab; kernel_rfl
@[simp] theorem tab_39 : tab 39 = some { td := .func, size := 1, bytes := 8, zero := .nilFunc } := by unfold tab; kernel_rfl
@[simp] theorem tab_40 : tab 40 = some { td := .func, size := 1, bytes := 8, zero := .nilFunc } := by unfold tab; kernel_rfl
@[simp] theorem tab_41 : tab 41 = some { td := (.slice 129), size := 1, bytes := 24, zero := .lst true [] } := by unfold tab; kernel_rfl
@[simp] theorem tab_42 : tab 42 = some { td := (.slice 71), size := 1, bytes := 24, zero := .lst true [] } := by unfold tab; kernel_rfl
@[simp] theorem tab_43 : tab 43 = some { td := .func, size := 1, bytes := 8, zero := .nilFunc } := by unfold tab; kernel_rfl
@[simp] theorem tab_44 : tab 44 = some { td := .func, size := 1, bytes := 8, zero := .nilFunc } := by unfold tab; kernel_rfl
@[simp] theorem tab_45 : tab 45 = some { td := (.int .u8), size := 1, bytes := 1, zero := .int .u8 0 } := by unfold tab; kernel_rfl
@[simp] theorem tab_46 : tab 46 = some { td := (.slice 48), size := 1, bytes := 24, zero := .lst true [] } := by unfold tab; kernel_rfl
@[simp] theorem tab_47 : tab 47 = some { td := (.struct [(0, 45), (1, 29), (3, 4), (4, 9), (5, 46)]), size := 6, bytes := 88, zero := .agg [.int .u8 0, .bool false, .lst true [], .bool false, .str ⟨#[]⟩, .lst true []] } := by unfold tab; kernel_rfl
@[simp] theorem tab_48 : tab 48 = some { td := (.struct [(0, 45), (1, 29), (3, 4), (4, 9), (5, 46)]), size := 6, bytes := 88, zero := .agg [.int .u8 0, .bool false, .lst true [], .bool false, .str ⟨#[]⟩, .lst true []] } := by unfold tab; kernel_rfl
@[simp] theorem tab_50 : tab 50 = some { td := .func, size := 1, bytes := 8, zero := .nilFunc } := by unfold tab; kernel_rfl
@[simp] theorem tab_51 : tab 51 = some { td := .func, size := 1, bytes := 8, zero := .nilFunc } := by unfold tab; kernel_rfl
@[simp] theorem tab_52 : tab 52 = some { td := .func, size := 1, bytes := 8, zero := .nilFunc } := by unfold tab; kernel_rfl
@[simp] theorem tab_53 : tab 53 = some { td := .func, size := 1, bytes := 8, zero := .nilFunc } := by unfold tab; kernel_rfl
@[simp] theorem tab_54 : tab 54 = some { td := .func, size := 1, bytes := 8, zero := .nilFunc } := by unfold tab; kernel_rfl
@[simp] theorem tab_55 : tab 55 = some { td := (.struct [(0, 41), (1, 25)]), size := 2, bytes := 48, zero := .agg [.lst true [], .lst true []] } := by unfold tab; kernel_rfl
@[simp] theorem tab_56 : tab 56 = some { td := (.struct [(0, 41), (1, 25)]), size := 2, bytes := 48, zero := .agg [.lst true [], .lst true []] } := by unfold tab; kernel_rfl
@[simp] theorem tab_57 : tab 57 = some { td := (.struct [(0, 56), (2, 32)]), size := 7, bytes := 128, zero := .agg [.lst true [], .lst true [], .int .u8 0, .str ⟨#[]⟩, .bool false, .lst true [], .lst true []] } := by unfold tab; kernel_rfl
@[simp] theorem tab_58 : tab 58 = some { td := (.struct [(0, 56), (2, 32)]), size := 7, bytes := 128, zero := .agg [.lst true [], .lst true [], .int .u8 0, .str ⟨#[]⟩, .bool false, .lst true [], .lst true []] } := by unfold tab; kernel_rfl
@[simp] theorem tab_60 : tab 60 = some { td := .func, size := 1, bytes := 8, zero := .nilFunc } := by unfold tab; kernel_rfl
@[simp] theorem tab_62 : tab 62 = some { td := .func, size := 1, bytes := 8, zero := .nilFunc } := by unfold tab; kernel_rfl
@[simp] theorem tab_63 : tab 63 = some { td := .func, size := 1, bytes := 8, zero := .nilFunc } := by unfold tab; kernel_rfl
@[simp] theorem tab_64 : tab 64 = some { td := .func, size := 1, bytes := 8, zero := .nilFunc } := by unfold tab; kernel_rfl
@[simp] theorem tab_65 : tab 65 = some { td := .func, size := 1, bytes := 8, zero := .nilFunc } := by unfold tab; kernel_rfl
@[simp] theorem tab_66 : tab 66 = some { td := .func, size := 1, bytes := 8, zero := .nilFunc } := by unfold tab; kernel_rfl
@[simp] theorem tab_67 : tab 67 = some { td := .func, size := 1, bytes := 8, zero := .nilFunc } := by unfold tab; kernel_rfl
@[simp] theorem tab_68 : tab 68 = some { td := .func, size := 1, bytes := 8, zero := .nilFunc } := by unfold tab; kernel_rfl
@[simp] theorem tab_69 : tab 69 = some { td := .func, size := 1, bytes := 8, zero := .nilFunc } := by unfold tab; kernel_rfl
@[simp] theorem tab_70 : tab 70 = some { td := (.struct [(0, 9), (1, 48)]), size := 7, bytes := 104, zero := .agg [.str ⟨#[]⟩, .int .u8 0, .bool false, .lst true [], .bool false, .str ⟨#[]⟩, .lst true []] } := by unfold tab; kernel_rfl
@[simp] theorem tab_71 : tab 71 = some { td := (.struct [(0, 9), (1, 48)]), size := 7, bytes := 104, zero := .agg [.str ⟨#[]⟩, .int .u8 0, .bool false, .lst true [], .bool false, .str ⟨#[]⟩, .lst true []] } := by unfold tab; kernel_rfl
@[simp] theorem tab_72 : tab 72 = some { td := .func, size := 1, bytes := 8, zero := .nilFunc } := by unfold tab; kernel_rfl
@[simp] theorem tab_73 : tab 73 = some { td := .func, size := 1, bytes := 8, zero := .nilFunc } := by unfold tab; kernel_rfl
@[simp] theorem tab_74 : tab 74 = some { td := .func, size := 1, bytes := 8, zero := .nilFunc } := by unfold tab; kernel_rfl
@[simp] theorem tab_75 : tab 75 = some { td := .func, size := 1, bytes := 8, zero := .nilFunc } := by unfold tab; kernel_rfl
@[simp] theorem tab_76 : tab 76 = some { td := .func, size := 1, bytes := 8, zero := .nilFunc } := by unfold tab; kernel_rfl
@[simp] theorem tab_77 : tab 77 = some { td := .func, size := 1, bytes := 8, zero := .nilFunc } := by unfold tab; kernel_rfl
@[simp] theorem tab_78 : tab 78 = some { td := .func, size := 1, bytes := 8, zero := .nilFunc } := by unfold tab; kernel_rfl
@[simp] theorem tab_79 : tab 79 = some { td := .func, size := 1, bytes := 8, zero := .nilFunc } := by unfold tab; kernel_rfl
@[simp] theorem tab_80 : tab 80 = some { td := .func, size := 1, bytes := 8, zero := .nilFunc } := by unfold tab; kernel_rfl
@[simp] theorem tab_81 : tab 81 = some { td := (.slice 129), size := 1, bytes := 24, zero := .lst true [] } := by unfold tab; kernel_rfl
@[simp] theorem tab_82 : tab 82 = some { td := .func, size := 1, bytes := 8, zero := .nilFunc } := by unfold tab; kernel_rfl
@[simp] theorem tab_83 : tab 83 = some { td := .func, size := 1, bytes := 8, zero := .nilFunc } := by unfold tab; kernel_rfl
@[simp] theorem tab_84 : tab 84 = some { td := (.struct [(0, 81), (1, 32), (6, 46)]), size := 7, bytes := 128, zero := .agg [.lst true [], .int .u8 0, .str ⟨#[]⟩, .bool false, .lst true [], .lst true [], .lst true []] } := by unfold tab; kernel_rfl
@[simp] theorem tab_85 : tab 85 = some { td := (.struct [(0, 81), (1, 32), (6, 46)]), size := 7, bytes := 128, zero := .agg [.lst true [], .int .u8 0, .str ⟨#[]⟩, .bool false, .lst true [], .lst true [], .lst true []] } := by unfold tab; kernel_rfl
@[simp] theorem tab_87 : tab 87 = some { td := (.map 26 3), size := 1, bytes := 8, zero := .nilm } := by unfold tab; kernel_rfl
@[simp] theorem tab_89 : tab 89 = some { td := .func, size := 1, bytes := 8, zero := .nilFunc } := by unfold tab; kernel_rfl
@[simp] theorem tab_90 : tab 90 = some { td := (.map 26 89), size := 1, bytes := 8, zero := .nilm } := by unfold tab; kernel_rfl
@[simp] theorem tab_91 : tab 91 = some { td := .func, size := 1, bytes := 8, zero := .nilFunc } := by unfold tab; kernel_rfl
@[simp] theorem tab_92 : tab 92 = some { td := (.struct [(0, 27)]), size := 1, bytes := 24, zero := .agg [.lst true []] } := by unfold tab; kernel_rfl
@[simp] theorem tab_93 : tab 93 = some { td := (.struct [(0, 27)]), size := 1, bytes := 24, zero := .agg [.lst true []] } := by unfold tab; kernel_rfl
@[simp] theorem tab_94 : tab 94 = some { td := (.struct [(0, 93), (1, 4)]), size := 2, bytes := 32, zero := .agg [.lst true [], .bool false] } := by unfold tab; kernel_rfl
@[simp] theorem tab_95 : tab 95 = some { td := (.struct [(0, 93), (1, 4)]), size := 2, bytes := 32, zero := .agg [.lst true [], .bool false] } := by unfold tab; kernel_rfl
@[simp] theorem tab_96 : tab 96 = some { td := .func, size := 1, bytes := 8, zero := .nilFunc } := by unfold tab; kernel_rfl
@[simp] theorem tab_97 : tab 97 = some { td := .func, size := 1, bytes := 8, zero := .nilFunc } := by unfold tab; kernel_rfl
@[simp] theorem tab_98 : tab 98 = some { td := .func, size := 1, bytes := 8, zero := .nilFunc } := by unfold tab; kernel_rfl
@[simp] theorem tab_99 : tab 99 = some { td := .func, size := 1, bytes := 8, zero := .nilFunc } := by unfold tab; kernel_rfl
@[simp] theorem tab_100 : tab 100 = some { td := .func, size := 1, bytes := 8, zero := .nilFunc } := by unfold tab; kernel_rfl
@[simp] theorem tab_101 : tab 101 = some { td := (.int .u64), size := 1, bytes := 8, zero := .int .u64 0 } := by unfold tab; kernel_rfl
@[simp] theorem tab_102 : tab 102 = some { td := (.ptr 104), size := 1, bytes := 8, zero := .nilp } := by unfold tab; kernel_rfl
@[simp] theorem tab_103 : tab 103 = some { td := (.struct [(0, 41), (1, 25)]), size := 2, bytes := 48, zero := .agg [.lst true [], .lst true []] } := by unfold tab; kernel_rfl
@[simp] theorem tab_104 : tab 104 = some { td := (.struct [(0, 41), (1, 25)]), size := 2, bytes := 48, zero := .agg [.lst true [], .lst true []] } := by unfold tab; kernel_rfl
@[simp] theorem tab_105 : tab 105 = some { td := .func, size := 1, bytes := 8, zero := .nilFunc } := by unfold tab; kernel_rfl
@[simp] theorem tab_106 : tab 106 = some { td := .func, size := 1, bytes := 8, zero := .nilFunc } := by unfold tab; kernel_rfl
@[simp] theorem tab_107 : tab 107 = some { td := .func, size := 1, bytes := 8, zero := .nilFunc } := by unfold tab; kernel_rfl
@[simp] theorem tab_108 : tab 108 = some { td := .func, size := 1, bytes := 8, zero := .nilFunc } := by unfold tab; kernel_rfl
@[simp] theorem tab_109 : tab 109 = some { td := .func, size := 1, bytes := 8, zero := .nilFunc } := by unfold tab; kernel_rfl
@[simp] theorem tab_110 : tab 110 = some { td := .func, size := 1, bytes := 8, zero := .nilFunc } := by unfold tab; kernel_rfl
@[simp] theorem tab_111 : tab 111 = some { td := .func, size := 1, bytes := 8, zero := .nilFunc } := by unfold tab; kernel_rfl
@[simp] theorem tab_112 : tab 112 = some { td := .func, size := 1, bytes := 8, zero := .nilFunc } := by unfold tab; kernel_rfl
@[simp] theorem tab_113 : tab 113 = some { td := (.int .u32), size := 1, bytes := 4, zero := .int .u32 0 } := by unfold tab; kernel_rfl
@[simp] theorem tab_114 : tab 114 = some { td := .func, size := 1, bytes := 8, zero := .nilFunc } := by unfold tab; kernel_rfl
@[simp] theorem tab_115 : tab 115 = some { td := .func, size := 1, bytes := 8, zero := .nilFunc } := by unfold tab; kernel_rfl
@[simp] theorem tab_116 : tab 116 = some { td := .func, size := 1, bytes := 8, zero := .nilFunc } := by unfold tab; kernel_rfl
@[simp] theorem tab_117 : tab 117 = some { td := .func, size := 1, bytes := 8, zero := .nilFunc } := by unfold tab; kernel_rfl
@[simp] theorem tab_118 : tab 118 = some { td := .func, size := 1, bytes := 8, zero := .nilFunc } := by unfold tab; kernel_rfl
@[simp] theorem tab_119 : tab 119 = some { td := .func, size := 1, bytes := 8, zero := .nilFunc } := by unfold tab; kernel_rfl
@[simp] theorem tab_120 : tab 120 = some { td := (.slice 9), size := 1, bytes := 24, zero := .lst true [] } := by unfold tab; kernel_rfl
@[simp] theorem tab_121 : tab 121 = some { td := .func, size := 1, bytes := 8, zero := .nilFunc } := by unfold tab; kernel_rfl
@[simp] theorem tab_122 : tab 122 = some { td := .func, size := 1, bytes := 8, zero := .nilFunc } := by unfold tab; kernel_rfl
@[simp] theorem tab_123 : tab 123 = some { td := .func, size := 1, bytes := 8, zero := .nilFunc } := by unfold tab; kernel_rfl
@[simp] theorem tab_124 : tab 124 = some { td := .func, size := 1, bytes := 8, zero := .nilFunc } := by unfold tab; kernel_rfl
@[simp] theorem tab_125 : tab 125 = some { td := (.struct [(0, 9), (1, 120)]), size := 2, bytes := 40, zero := .agg [.str ⟨#[]⟩, .lst true []] } := by unfold tab; kernel_rfl
@[simp] theorem tab_126 : tab 126 = some { td := (.struct [(0, 9), (1, 120)]), size := 2, bytes := 40, zero := .agg [.str ⟨#[]⟩, .lst true []] } := by unfold tab; kernel_rfl
@[simp] theorem tab_127 : tab 127 = some { td := (.slice 126), size := 1, bytes := 24, zero := .lst true [] } := by unfold tab; kernel_rfl
@[simp] theorem tab_128 : tab 128 = some { td := (.struct [(0, 9), (1, 127)]), size := 2, bytes := 40, zero := .agg [.str ⟨#[]⟩, .lst true []] } := by unfold tab; kernel_rfl
@[simp] theorem tab_129 : tab 129 = some { td := (.struct [(0, 9), (1, 127)]), size := 2, bytes := 40, zero := .agg [.str ⟨#[]⟩, .lst true []] } := by unfold tab; kernel_rfl
@[simp] theorem tab_130 : tab 130 = some { td := .func, size := 1, bytes := 8, zero := .nilFunc } := by unfold tab; kernel_rfl
@[simp] theorem tab_131 : tab 131 = some { td := .func, size := 1, bytes := 8, zero := .nilFunc } := by unfold tab; kernel_rfl
@[simp] theorem tab_132 : tab 132 = some { td := .func, size := 1, bytes := 8, zero := .nilFunc } := by unfold tab; kernel_rfl
@[simp] theorem tab_133 : tab 133 = some { td := .func, size := 1, bytes := 8, zero := .nilFunc } := by unfold tab; kernel_rfl
@[simp] theorem tab_134 : tab 134 = some { td := .func, size := 1, bytes := 8, zero := .nilFunc } := by unfold tab; kernel_rfl
@[simp] theorem tab_135 : tab 135 = some { td := .func, size := 1, bytes := 8, zero := .nilFunc } := by unfold tab; kernel_rfl
@[simp] theorem tab_136 : tab 136 = some { td := .func, size := 1, bytes := 8, zero := .nilFunc } := by unfold tab; kernel_rfl
@[simp] theorem tab_137 : tab 137 = some { td := .func, size := 1, bytes := 8, zero := .nilFunc } := by unfold tab; kernel_rfl
@[simp] theorem tab_138 : tab 138 = some { td := .func, size := 1, bytes := 8, zero := .nilFunc } := by unfold tab; kernel_rfl
@[simp] theorem tab_139 : tab 139 = some { td := .func, size := 1, bytes := 8, zero := .nilFunc } := by unfold tab; kernel_rfl
@[simp] theorem tab_140 : tab 140 = some { td := (.slice 29), size := 1, bytes := 24, zero := .lst true [] } := by unfold tab; kernel_rfl
@[simp] theorem tab_141 : tab 141 = some { td := .func, size := 1, bytes := 8, zero := .nilFunc } := by unfold tab; kernel_rfl
@[simp] theorem tab_142 : tab 142 = some { td := .func, size := 1, bytes := 8, zero := .nilFunc } := by unfold tab; kernel_rfl
@[simp] theorem tab_143 : tab 143 = some { td := (.struct [(0, 3), (1, 3)]), size := 2, bytes := 16, zero := .agg [.int .i64 0, .int .i64 0] } := by unfold tab; kernel_rfl
@[simp] theorem tab_144 : tab 144 = some { td := (.struct [(0, 3), (1, 3)]), size := 2, bytes := 16, zero := .agg [.int .i64 0, .int .i64 0], cmp := true } := by unfold tab; kernel_rfl
@[simp] theorem tab_146 : tab 146 = some { td := .func, size := 1, bytes := 8, zero := .nilFunc } := by unfold tab; kernel_rfl
@[simp] theorem tab_148 : tab 148 = some { td := .func, size := 1, bytes := 8, zero := .nilFunc } := by unfold tab; kernel_rfl
@[simp] theorem tab_149 : tab 149 = some { td := .func, size := 1, bytes := 8, zero := .nilFunc } := by unfold tab; kernel_rfl
@[simp] theorem tab_150 : tab 150 = some { td := .func, size := 1, bytes := 8, zero := .nilFunc } := by unfold tab; kernel_rfl
@[simp] theorem tab_151 : tab 151 = some { td := .func, size := 1, bytes := 8, zero := .nilFunc } := by unfold tab; kernel_rfl
@[simp] theorem tab_152 : tab 152 = some { td := .func, size := 1, bytes := 8, zero := .nilFunc } := by unfold tab; kernel_rfl
@[simp] theorem tab_153 : tab 153 = some { td := .func, size := 1, bytes := 8, zero := .nilFunc } := by unfold tab; kernel_rfl
@[simp] theorem tab_154 : tab 154 = some { td := .func, size := 1, bytes := 8, zero := .nilFunc } := by unfold tab; kernel_rfl
@[simp] theorem tab_155 : tab 155 = some { td := .func, size := 1, bytes := 8, zero := .nilFunc } := by unfold tab; kernel_rfl
@[simp] theorem tab_156 : tab 156 = some { td := .func, size := 1, bytes := 8, zero := .nilFunc } := by unfold tab; kernel_rfl
@[simp] theorem tab_158 : tab 158 = some { td := .func, size := 1, bytes := 8, zero := .nilFunc } := by unfold tab; kernel_rfl
@[simp] theorem tab_160 : tab 160 = some { td := .func, size := 1, bytes := 8, zero := .nilFunc } := by unfold tab; kernel_rfl
@[simp] theorem tab_161 : tab 161 = some { td := .func, size := 1, bytes := 8, zero := .nilFunc } := by unfold tab; kernel_rfl
@[simp] theorem tab_162 : tab 162 = some { td := .func, size := 1, bytes := 8, zero := .nilFunc } := by unfold tab; kernel_rfl
@[simp] theorem tab_163 : tab 163 = some { td := .func, size := 1, bytes := 8, zero := .nilFunc } := by unfold tab; kernel_rfl
@[simp] theorem tab_164 : tab 164 = some { td := (.slice 3), size := 1, bytes := 24, zero := .lst true [] } := by unfold tab; kernel_rfl
@[simp] theorem tab_165 : tab 165 = some { td := .func, size := 1, bytes := 8, zero := .nilFunc } := by unfold tab; kernel_rfl
@[simp] theorem tab_166 : tab 166 = some { td := .func, size := 1, bytes := 8, zero := .nilFunc } := by unfold tab; kernel_rfl
@[simp] theorem tab_167 : tab 167 = some { td := .func, size := 1, bytes := 8, zero := .nilFunc } := by unfold tab; kernel_rfl
@[simp] theorem tab_168 : tab 168 = some { td := .func, size := 1, bytes := 8, zero := .nilFunc } := by unfold tab; kernel_rfl
@[simp] theorem tab_169 : tab 169 = some { td := .func, size := 1, bytes := 8, zero := .nilFunc } := by unfold tab; kernel_rfl
@[simp] theorem tab_171 : tab 171 = some { td := .func, size := 1, bytes := 8, zero := .nilFunc } := by unfold tab; kernel_rfl
@[simp] theorem tab_172 : tab 172 = some { td := .func, size := 1, bytes := 8, zero := .nilFunc } := by unfold tab; kernel_rfl
@[simp] theorem tab_173 : tab 173 = some { td := .func, size := 1, bytes := 8, zero := .nilFunc } := by unfold tab; kernel_rfl
@[simp] theorem tab_174 : tab 174 = some { td := .func, size := 1, bytes := 8, zero := .nilFunc } := by unfold tab; kernel_rfl
@[simp] theorem tab_175 : tab 175 = some { td := .func, size := 1, bytes := 8, zero := .nilFunc } := by unfold tab; kernel_rfl
@[simp] theorem tab_176 : tab 176 = some { td := .func, size := 1, bytes := 8, zero := .nilFunc } := by unfold tab; kernel_rfl
@[simp] theorem tab_177 : tab 177 = some { td := .func, size := 1, bytes := 8, zero := .nilFunc } := by unfold tab; kernel_rfl
@[simp] theorem tab_178 : tab 178 = some { td := .func, size := 1, bytes := 8, zero := .nilFunc } := by unfold tab; kernel_rfl
@[simp] theorem tab_179 : tab 179 = some { td := .func, size := 1, bytes := 8, zero := .nilFunc } := by unfold tab; kernel_rfl
@[simp] theorem tab_180 : tab 180 = some { td := (.map 9 48), size := 1, bytes := 8, zero := .nilm } := by unfold tab; kernel_rfl
@[simp] theorem tab_181 : tab 181 = some { td := (.slice 27), size := 1, bytes := 24, zero := .lst true [] } := by unfold tab; kernel_rfl
@[simp] theorem tab_182 : tab 182 = some { td := .func, size := 1, bytes := 8, zero := .nilFunc } := by unfold tab; kernel_rfl
@[simp] theorem tab_183 : tab 183 = some { td := (.slice 101), size := 1, bytes := 24, zero := .lst true [] } := by unfold tab; kernel_rfl
@[simp] theorem tab_184 : tab 184 = some { td := (.slice 101), size := 1, bytes := 24, zero := .lst true [] } := by unfold tab; kernel_rfl
@[simp] theorem tab_185 : tab 185 = some { td := (.struct [(0, 184)]), size := 1, bytes := 24, zero := .agg [.lst true []] } := by unfold tab; kernel_rfl
@[simp] theorem tab_186 : tab 186 = some { td := (.struct [(0, 184)]), size := 1, bytes := 24, zero := .agg [.lst true []] } := by unfold tab; kernel_rfl
@[simp] theorem tab_187 : tab 187 = some { td := .func, size := 1, bytes := 8, zero := .nilFunc } := by unfold tab; kernel_rfl
@[simp] theorem tab_188 : tab 188 = some { td := .func, size := 1, bytes := 8, zero := .nilFunc } := by unfold tab; kernel_rfl
@[simp] theorem tab_189 : tab 189 = some { td := .func, size := 1, bytes := 8, zero := .nilFunc } := by unfold tab; kernel_rfl
@[simp] theorem tab_190 : tab 190 = some { td := .func, size := 1, bytes := 8, zero := .nilFunc } := by unfold tab; kernel_rfl
@[simp] theorem tab_191 : tab 191 = some { td := .func, size := 1, bytes := 8, zero := .nilFunc } := by unfold tab; kernel_rfl
@[simp] theorem tab_192 : tab 192 = some { td := .func, size := 1, bytes := 8, zero := .nilFunc } := by unfold tab; kernel_rfl
@[simp] theorem tab_193 : tab 193 = some { td := .func, size := 1, bytes := 8, zero := .nilFunc } := by unfold tab; kernel_rfl
@[simp] theorem tab_194 : tab 194 = some { td := .func, size := 1, bytes := 8, zero := .nilFunc } := by unfold tab; kernel_rfl
@[simp] theorem tab_195 : tab 195 = some { td := .func, size := 1, bytes := 8, zero := .nilFunc } := by unfold tab; kernel_rfl
@[simp] theorem tab_197 : tab 197 = some { td := .func, size := 1, bytes := 8, zero := .nilFunc } := by unfold tab; kernel_rfl
@[simp] theorem tab_198 : tab 198 = some { td := .func, size := 1, bytes := 8, zero := .nilFunc } := by unfold tab; kernel_rfl
@[simp] theorem tab_199 : tab 199 = some { td := .func, size := 1, bytes := 8, zero := .nilFunc } := by unfold tab; kernel_rfl
@[simp] theorem tab_200 : tab 200 = some { td := .func, size := 1, bytes := 8, zero := .nilFunc } := by unfold tab; kernel_rfl
@[simp] theorem tab_201 : tab 201 = some { td := .func, size := 1, bytes := 8, zero := .nilFunc } := by unfold tab; kernel_rfl
@[simp] theorem tab_202 : tab 202 = some { td := .func, size := 1, bytes := 8, zero := .nilFunc } := by unfold tab; kernel_rfl
@[simp] theorem tab_203 : tab 203 = some { td := .func, size := 1, bytes := 8, zero := .nilFunc } := by unfold tab; kernel_rfl
@[simp] theorem tab_204 : tab 204 = some { td := .func, size := 1, bytes := 8, zero := .nilFunc } := by unfold tab; kernel_rfl
@[simp] theorem tab_205 : tab 205 = some { td := .func, size := 1, bytes := 8, zero := .nilFunc } := by unfold tab; kernel_rfl
@[simp] theorem tab_206 : tab 206 = some { td := .func, size := 1, bytes := 8, zero := .nilFunc } := by unfold tab; kernel_rfl
@[simp] theorem tab_207 : tab 207 = some { td := .func, size := 1, bytes := 8, zero := .nilFunc } := by unfold tab; kernel_rfl
@[simp] theorem tab_208 : tab 208 = some { td := .func, size := 1, bytes := 8, zero := .nilFunc } := by unfold tab; kernel_rfl
@[simp] theorem tab_209 : tab 209 = some { td := .func, size := 1, bytes := 8, zero := .nilFunc } := by unfold tab; kernel_rfl
@[simp] theorem tab_210 : tab 210 = some { td := (.slice 5), size := 1, bytes := 24, zero := .lst true [] } := by unfold tab; kernel_rfl
@[simp] theorem tab_211 : tab 211 = some { td := (.slice 5), size := 1, bytes := 24, zero := .lst true [] } := by unfold tab; kernel_rfl
@[simp] theorem tab_212 : tab 212 = some { td := .func, size := 1, bytes := 8, zero := .nilFunc } := by unfold tab; kernel_rfl
@[simp] theorem tab_213 : tab 213 = some { td := .func, size := 1, bytes := 8, zero := .nilFunc } := by unfold tab; kernel_rfl
@[simp] theorem tab_214 : tab 214 = some { td := .func, size := 1, bytes := 8, zero := .nilFunc } := by unfold tab; kernel_rfl
@[simp] theorem tab_220 : tab 220 = some { td := .func, size := 1, bytes := 8, zero := .nilFunc } := by unfold tab; kernel_rfl
@[simp] theorem tab_221 : tab 221 = some { td := (.int .u8), size := 1, bytes := 1, zero := .int .u8 0 } := by unfold tab; kernel_rfl
@[simp] theorem tab_222 : tab 222 = some { td := (.int .u8), size := 1, bytes := 1, zero := .int .u8 0 } := by unfold tab; kernel_rfl
@[simp] theorem tab_223 : tab 223 = some { td := .func, size := 1, bytes := 8, zero := .nilFunc } := by unfold tab; kernel_rfl
@[simp] theorem tab_224 : tab 224 = some { td := (.ptr 5), size := 1, bytes := 8, zero := .nilp } := by unfold tab; kernel_rfl
@[simp] theorem tab_225 : tab 225 = some { td := (.int .i32), size := 1, bytes := 4, zero := .int .i32 0 } := by unfold tab; kernel_rfl
@[simp] theorem tab_226 : tab 226 = some { td := (.int .i32), size := 1, bytes := 4, zero := .int .i32 0 } := by unfold tab; kernel_rfl
theorem info_1 : (Go.Proofs.Try.prog.info? 1).map (fun i => (i.size, i.bytes, i.zero)) = some (1, 8, some (zeroV (.nilFunc))) := by kernel_rfl
theorem und_1 : (Go.Proofs.Try.prog.underlying 1).map tdOf = some .func := by kernel_rfl
theorem info_2 : (Go.Proofs.Try.prog.info? 2).map (fun i => (i.size, i.bytes, i.zero)) = some (1, 8, some (zeroV (.int .i64 0))) := by kernel_rfl
theorem und_2 : (Go.Proofs.Try.prog.underlying 2).map tdOf = some (.int .i64) := by kernel_rfl
theorem info_3 : (Go.Proofs.Try.prog.info? 3).map (fun i => (i.size, i.bytes, i.zero)) = some (1, 8, some (zeroV (.int .i64 0))) := by kernel_rfl
theorem und_3 : (Go.Proofs.Try.prog.underlying 3).map tdOf = some (.int .i64) := by kernel_rfl
theorem info_4 : (Go.Proofs.Try.prog.info? 4).map (fun i => (i.size, i.bytes, i.zero)) = some (1, 1, some (zeroV (.bool false))) := by kernel_rfl
theorem und_4 : (Go.Proofs.Try.prog.underlying 4).map tdOf = some .bool := by kernel_rfl
theorem info_5 : (Go.Proofs.Try.prog.info? 5).map (fun i => (i.size, i.bytes, i.zero)) = some (1, 1, some (zeroV (.int .u8 0))) := by kernel_rfl
theorem und_5 : (Go.Proofs.Try.prog.underlying 5).map tdOf = some (.int .u8) := by kernel_rfl
theorem info_6 : (Go.Proofs.Try.prog.info? 6).map (fun i => (i.size, i.bytes, i.zero)) = some (1, 1, some (zeroV (.int .u8 0))) := by kernel_rfl
theorem und_6 : (Go.Proofs.Try.prog.underlying 6).map tdOf = some (.int .u8) := by kernel_rfl
theorem info_7 : (Go.Proofs.Try.prog.info? 7).map (fun i => (i.size, i.bytes, i.zero)) = some (4, 24, some (zeroV (.agg [.int .i64 0, .int .i64 0, .bool false, .int .u8 0]))) := by kernel_rfl
theorem und_7 : (Go.Proofs.Try.prog.underlying 7).map tdOf = some (.struct [(0, 2), (1, 3), (2, 4), (3, 6)]) := by kernel_rfl
theorem info_8 : (Go.Proofs.Try.prog.info? 8).map (fun i => (i.size, i.bytes, i.zero)) = some (4, 24, some (zeroV (.agg [.int .i64 0, .int .i64 0, .bool false, .int .u8 0]))) := by kernel_rfl
theorem und_8 : (Go.Proofs.Try.prog.underlying 8).map tdOf = some (.struct [(0, 2), (1, 3), (2, 4), (3, 6)]) := by kernel_rfl
theorem info_9 : (Go.Proofs.Try.prog.info? 9).map (fun i => (i.size, i.bytes, i.zero)) = some (1, 16, some (zeroV (.str ⟨#[]⟩))) := by kernel_rfl
theorem und_9 : (Go.Proofs.Try.prog.underlying 9).map tdOf = some .str := by kernel_rfl
theorem info_10 : (Go.Proofs.Try.prog.info? 10).map (fun i => (i.size, i.bytes, i.zero)) = some (1, 16, some (zeroV (.str ⟨#[]⟩))) := by kernel_rfl
theorem und_10 : (Go.Proofs.Try.prog.underlying 10).map tdOf = some .str := by kernel_rfl
theorem info_11 : (Go.Proofs.Try.prog.info? 11).map (fun i => (i.size, i.bytes, i.zero)) = some (1, 16, some (zeroV (.str ⟨#[]⟩))) := by kernel_rfl
theorem und_11 : (Go.Proofs.Try.prog.underlying 11).map tdOf = some .str := by kernel_rfl
theorem info_12 : (Go.Proofs.Try.prog.info? 12).map (fun i => (i.size, i.bytes, i.zero)) = some (1, 8, some (zeroV (.int .u64 0))) := by kernel_rfl
theorem und_12 : (Go.Proofs.Try.prog.underlying 12).map tdOf = some (.int .u64) := by kernel_rfl
theorem info_13 : (Go.Proofs.Try.prog.info? 13).map (fun i => (i.size, i.bytes, i.zero)) = some (2, 24, some (zeroV (.agg [.str ⟨#[]⟩, .int .u64 0]))) := by kernel_rfl
theorem und_13 : (Go.Proofs.Try.prog.underlying 13).map tdOf = some (.struct [(0, 9), (1, 12)]) := by kernel_rfl
theorem info_14 : (Go.Proofs.Try.prog.info? 14).map (fun i => (i.size, i.bytes, i.zero)) = some (2, 24, some (zeroV (.agg [.str ⟨#[]⟩, .int .u64 0]))) := by kernel_rfl
theorem und_14 : (Go.Proofs.Try.prog.underlying 14).map tdOf = some (.struct [(0, 9), (1, 12)]) := by kernel_rfl
theorem info_15 : (Go.Proofs.Try.prog.info? 15).map (fun i => (i.size, i.bytes, i.zero)) = some (1, 8, some (zeroV (.nilp))) := by kernel_rfl
theorem und_15 : (Go.Proofs.Try.prog.underlying 15).map tdOf = some (.ptr 216) := by kernel_rfl
theorem info_16 : (Go.Proofs.Try.prog.info? 16).map (fun i => (i.size, i.bytes, i.zero)) = some (1, 8, some (zeroV (.nilp))) := by kernel_rfl
theorem und_16 : (Go.Proofs.Try.prog.underlying 16).map tdOf = some (.ptr 219) := by kernel_rfl
theorem info_17 : (Go.Proofs.Try.prog.info? 17).map (fun i => (i.size, i.bytes, i.zero)) = some (1, 8, some (zeroV (.nilp))) := by kernel_rfl
theorem und_17 : (Go.Proofs.Try.prog.underlying 17).map tdOf = some (.ptr 228) := by kernel_rfl
theorem info_18 : (Go.Proofs.Try.prog.info? 18).map (fun i => (i.size, i.bytes, i.zero)) = some (1, 8, some (zeroV (.agg [.nilp]))) := by kernel_rfl
theorem und_18 : (Go.Proofs.Try.prog.underlying 18).map tdOf = some (.struct [(0, 17)]) := by kernel_rfl
theorem info_19 : (Go.Proofs.Try.prog.info? 19).map (fun i => (i.size, i.bytes, i.zero)) = some (1, 8, some (zeroV (.agg [.nilp]))) := by kernel_rfl
theorem und_19 : (Go.Proofs.Try.prog.underlying 19).map tdOf = some (.struct [(0, 17)]) := by kernel_rfl
theorem info_20 : (Go.Proofs.Try.prog.info? 20).map (fun i => (i.size, i.bytes, i.zero)) = some (1, 16, some (zeroV (.nilIface))) := by kernel_rfl
theorem und_20 : (Go.Proofs.Try.prog.underlying 20).map tdOf = some .iface := by kernel_rfl
theorem info_21 : (Go.Proofs.Try.prog.info? 21).map (fun i => (i.size, i.bytes, i.zero)) = some (1, 4, some (zeroV (.int .i32 0))) := by kernel_rfl
theorem und_21 : (Go.Proofs.Try.prog.underlying 21).map tdOf = some (.int .i32) := by kernel_rfl
theorem info_22 : (Go.Proofs.Try.prog.info? 22).map (fun i => (i.size, i.bytes, i.zero)) = some (1, 8, some (zeroV (.nilFunc))) := by kernel_rfl
theorem und_22 : (Go.Proofs.Try.prog.underlying 22).map tdOf = some .func := by kernel_rfl
theorem info_23 : (Go.Proofs.Try.prog.info? 23).map (fun i => (i.size, i.bytes, i.zero)) = some (2, 32, some (zeroV (.agg [.str ⟨#[]⟩, .str ⟨#[]⟩]))) := by kernel_rfl
theorem und_23 : (Go.Proofs.Try.prog.underlying 23).map tdOf = some (.struct [(0, 9), (1, 9)]) := by kernel_rfl
theorem info_24 : (Go.Proofs.Try.prog.info? 24).map (fun i => (i.size, i.bytes, i.zero)) = some (2, 32, some (zeroV (.agg [.str ⟨#[]⟩, .str ⟨#[]⟩]))) := by kernel_rfl
theorem und_24 : (Go.Proofs.Try.prog.underlying 24).map tdOf = some (.struct [(0, 9), (1, 9)]) := by kernel_rfl
theorem info_25 : (Go.Proofs.Try.prog.info? 25).map (fun i => (i.size, i.bytes, i.zero)) = some (1, 24, some (zeroV (.lst true []))) := by kernel_rfl
theorem und_25 : (Go.Proofs.Try.prog.underlying 25).map tdOf = some (.slice 24) := by kernel_rfl
theorem info_26 : (Go.Proofs.Try.prog.info? 26).map (fun i => (i.size, i.bytes, i.zero)) = some (1, 1, some (zeroV (.int .u8 0))) := by kernel_rfl
theorem und_26 : (Go.Proofs.Try.prog.underlying 26).map tdOf = some (.int .u8) := by kernel_rfl
theorem info_27 : (Go.Proofs.Try.prog.info? 27).map (fun i => (i.size, i.bytes, i.zero)) = some (1, 24, some (zeroV (.lst true []))) := by kernel_rfl
theorem und_27 : (Go.Proofs.Try.prog.underlying 27).map tdOf = some (.slice 113) := by kernel_rfl
theorem info_28 : (Go.Proofs.Try.prog.info? 28).map (fun i => (i.size, i.bytes, i.zero)) = some (2, 32, some (zeroV (.agg [.bool false, .lst true []]))) := by kernel_rfl
theorem und_28 : (Go.Proofs.Try.prog.underlying 28).map tdOf = some (.struct [(0, 4), (1, 27)]) := by kernel_rfl
theorem info_29 : (Go.Proofs.Try.prog.info? 29).map (fun i => (i.size, i.bytes, i.zero)) = some (2, 32, some (zeroV (.agg [.bool false, .lst true []]))) := by kernel_rfl
theorem und_29 : (Go.Proofs.Try.prog.underlying 29).map tdOf = some (.struct [(0, 4), (1, 27)]) := by kernel_rfl
theorem info_30 : (Go.Proofs.Try.prog.info? 30).map (fun i => (i.size, i.bytes, i.zero)) = some (1, 24, some (zeroV (.lst true []))) := by kernel_rfl
theorem und_30 : (Go.Proofs.Try.prog.underlying 30).map tdOf = some (.slice 32) := by kernel_rfl
theorem info_31 : (Go.Proofs.Try.prog.info? 31).map (fun i => (i.size, i.bytes, i.zero)) = some (5, 80, some (zeroV (.agg [.int .u8 0, .str ⟨#[]⟩, .bool false, .lst true [], .lst true []]))) := by kernel_rfl
theorem und_31 : (Go.Proofs.Try.prog.underlying 31).map tdOf = some (.struct [(0, 26), (1, 9), (2, 29), (4, 30)]) := by kernel_rfl
theorem info_32 : (Go.Proofs.Try.prog.info? 32).map (fun i => (i.size, i.bytes, i.zero)) = some (5, 80, some (zeroV (.agg [.int .u8 0, .str ⟨#[]⟩, .bool false, .lst true [], .lst true []]))) := by kernel_rfl
theorem und_32 : (Go.Proofs.Try.prog.underlying 32).map tdOf = some (.struct [(0, 26), (1, 9), (2, 29), (4, 30)]) := by kernel_rfl
theorem info_33 : (Go.Proofs.Try.prog.info? 33).map (fun i => (i.size, i.bytes, i.zero)) = some (1, 8, some (zeroV (.nilFunc))) := by kernel_rfl
theorem und_33 : (Go.Proofs.Try.prog.underlying 33).map tdOf = some .func := by kernel_rfl
theorem info_34 : (Go.Proofs.Try.prog.info? 34).map (fun i => (i.size, i.bytes, i.zero)) = some (1, 8, some (zeroV (.nilFunc))) := by kernel_rfl
theorem und_34 : (Go.Proofs.Try.prog.underlying 34).map tdOf = some .func := by kernel_rfl
theorem info_35 : (Go.Proofs.Try.prog.info? 35).map (fun i => (i.size, i.bytes, i.zero)) = some (1, 8, some (zeroV (.nilFunc))) := by kernel_rfl
theorem und_35 : (Go.Proofs.Try.prog.underlying 35).map tdOf = some .func := by kernel_rfl
theorem info_36 : (Go.Proofs.Try.prog.info? 36).map (fun i => (i.size, i.bytes, i.zero)) = some (1, 8, some (zeroV (.int .i64 0))) := by kernel_rfl
theorem und_36 : (Go.Proofs.Try.prog.underlying 36).map tdOf = some (.int .i64) := by kernel_rfl
theorem info_38 : (Go.Proofs.Try.prog.info? 38).map (fun i => (i.size, i.bytes, i.zero)) = some (1, 8, some (zeroV (.nilFunc))) := by kernel_rfl
theorem und_38 : (Go.Proofs.Try.prog.underlying 38).map tdOf = some .func := by kernel_rfl
theorem info_39 : (Go.Proofs.Try.prog.info? 39).map (fun i => (i.size, i.bytes, i.zero)) = some (1, 8, some (zeroV (.nilFunc))) := by kernel_rfl
theorem und_39 : (Go.Proofs.Try.prog.underlying 39).map tdOf = some .func := by kernel_rfl
theorem info_40 : (Go.Proofs.Try.prog.info? 40).map (fun i => (i.size, i.bytes, i.zero)) = some (1, 8, some (zeroV (.nilFunc))) := by kernel_rfl
theorem und_40 : (Go.Proofs.Try.prog.underlying 40).map tdOf = some .func := by kernel_rfl
theorem info_41 : (Go.Proofs.Try.prog.info? 41).map (fun i => (i.size, i.bytes, i.zero)) = some (1, 24, some (zeroV (.lst true []))) := by kernel_rfl
theorem und_41 : (Go.Proofs.Try.prog.underlying 41).map tdOf = some (.slice 129) := by kernel_rfl
theorem info_42 : (Go.Proofs.Try.prog.info? 42).map (fun i => (i.size, i.bytes, i.zero)) = some (1, 24, some (zeroV (.lst true []))) := by kernel_rfl
theorem und_42 : (Go.Proofs.Try.prog.underlying 42).map tdOf = some (.slice 71) := by kernel_rfl
theorem info_43 : (Go.Proofs.Try.prog.info? 43).map (fun i => (i.size, i.bytes, i.zero)) = some (1, 8, some (zeroV (.nilFunc))) := by kernel_rfl
theorem und_43 : (Go.Proofs.Try.prog.underlying 43).map tdOf = some .func := by kernel_rfl
theorem info_44 : (Go.Proofs.Try.prog.info? 44).map (fun i => (i.size, i.bytes, i.zero)) = some (1, 8, some (zeroV (.nilFunc))) := by kernel_rfl
theorem und_44 : (Go.Proofs.Try.prog.underlying 44).map tdOf = some .func := by kernel_rfl
theorem info_45 : (Go.Proofs.Try.prog.info? 45).map (fun i => (i.size, i.bytes, i.zero)) = some (1, 1, some (zeroV (.int .u8 0))) := by kernel_rfl
theorem und_45 : (Go.Proofs.Try.prog.underlying 45).map tdOf = some (.int .u8) := by kernel_rfl
theorem info_46 : (Go.Proofs.Try.prog.info? 46).map (fun i => (i.size, i.bytes, i.zero)) = some (1, 24, some (zeroV (.lst true []))) := by kernel_rfl
theorem und_46 : (Go.Proofs.Try.prog.underlying 46).map tdOf = some (.slice 48) := by kernel_rfl
theorem info_47 : (Go.Proofs.Try.prog.info? 47).map (fun i => (i.size, i.bytes, i.zero)) = some (6, 88, some (zeroV (.agg [.int .u8 0, .bool false, .lst true [], .bool false, .str ⟨#[]⟩, .lst true []]))) := by kernel_rfl
theorem und_47 : (Go.Proofs.Try.prog.underlying 47).map tdOf = some (.struct [(0, 45), (1, 29), (3, 4), (4, 9), (5, 46)]) := by kernel_rfl
theorem info_48 : (Go.Proofs.Try.prog.info? 48).map (fun i => (i.size, i.bytes, i.zero)) = some (6, 88, some (zeroV (.agg [.int .u8 0, .bool false, .lst true [], .bool false, .str ⟨#[]⟩, .lst true []]))) := by kernel_rfl
theorem und_48 : (Go.Proofs.Try.prog.underlying 48).map tdOf = some (.struct [(0, 45), (1, 29), (3, 4), (4, 9), (5, 46)]) := by kernel_rfl
theorem info_50 : (Go.Proofs.Try.prog.info? 50).map (fun i => (i.size, i.bytes, i.zero)) = some (1, 8, some (zeroV (.nilFunc))) := by kernel_rfl
theorem und_50 : (Go.Proofs.Try.prog.underlying 50).map tdOf = some .func := by kernel_rfl
theorem info_51 : (Go.Proofs.Try.prog.info? 51).map (fun i => (i.size, i.bytes, i.zero)) = some (1, 8, some (zeroV (.nilFunc))) := by kernel_rfl
theorem und_51 : (Go.Proofs.Try.prog.underlying 51).map tdOf = some .func := by kernel_rfl
theorem info_52 : (Go.Proofs.Try.prog.info? 52).map (fun i => (i.size, i.bytes, i.zero)) = some (1, 8, some (zeroV (.nilFunc))) := by kernel_rfl
theorem und_52 : (Go.Proofs.Try.prog.underlying 52).map tdOf = some .func := by kernel_rfl
theorem info_53 : (Go.Proofs.Try.prog.info? 53).map (fun i => (i.size, i.bytes, i.zero)) = some (1, 8, some (zeroV (.nilFunc))) := by kernel_rfl
theorem und_53 : (Go.Proofs.Try.prog.underlying 53).map tdOf = some .func := by kernel_rfl
theorem info_54 : (Go.Proofs.Try.prog.info? 54).map (fun i => (i.size, i.bytes, i.zero)) = some (1, 8, some (zeroV (.nilFunc))) := by kernel_rfl
theorem und_54 : (Go.Proofs.Try.prog.underlying 54).map tdOf = some .func := by kernel_rfl
theorem info_55 : (Go.Proofs.Try.prog.info? 55).map (fun i => (i.size, i.bytes, i.zero)) = some (2, 48, some (zeroV (.agg [.lst true [], .lst true []]))) := by kernel_rfl
theorem und_55 : (Go.Proofs.Try.prog.underlying 55).map tdOf = some (.struct [(0, 41), (1, 25)]) := by kernel_rfl
theorem info_56 : (Go.Proofs.Try.prog.info? 56).map (fun i => (i.size, i.bytes, i.zero)) = some (2, 48, some (zeroV (.agg [.lst true [], .lst true []]))) := by kernel_rfl
theorem und_56 : (Go.Proofs.Try.prog.underlying 56).map tdOf = some (.struct [(0, 41), (1, 25)]) := by kernel_rfl
theorem info_57 : (Go.Proofs.Try.prog.info? 57).map (fun i => (i.size, i.bytes, i.zero)) = some (7, 128, some (zeroV (.agg [.lst true [], .lst true [], .int .u8 0, .str ⟨#[]⟩, .bool false, .lst true [], .lst true []]))) := by kernel_rfl
theorem und_57 : (Go.Proofs.Try.prog.underlying 57).map tdOf = some (.struct [(0, 56), (2, 32)]) := by kernel_rfl
theorem info_58 : (Go.Proofs.Try.prog.info? 58).map (fun i => (i.size, i.bytes, i.zero)) = some (7, 128, some (zeroV (.agg [.lst true [], .lst true [], .int .u8 0, .str ⟨#[]⟩, .bool false, .lst true [], .lst true []]))) := by kernel_rfl
theorem und_58 : (Go.Proofs.Try.prog.underlying 58).map tdOf = some (.struct [(0, 56), (2, 32)]) := by kernel_rfl
theorem info_60 : (Go.Proofs.Try.prog.info? 60).map (fun i => (i.size, i.bytes, i.zero)) = some (1, 8, some (zeroV (.nilFunc))) := by kernel_rfl
theorem und_60 : (Go.Proofs.Try.prog.underlying 60).map tdOf = some .func := by kernel_rfl
theorem info_62 : (Go.Proofs.Try.prog.info? 62).map (fun i => (i.size, i.bytes, i.zero)) = some (1, 8, some (zeroV (.nilFunc))) := by kernel_rfl
theorem und_62 : (Go.Proofs.Try.prog.underlying 62).map tdOf = some .func := by kernel_rfl
theorem info_63 : (Go.Proofs.Try.prog.info? 63).map (fun i => (i.size, i.bytes, i.zero)) = some (1, 8, some (zeroV (.nilFunc))) := by kernel_rfl
theorem und_63 : (Go.Proofs.Try.prog.underlying 63).map tdOf = some .func := by kernel_rfl
theorem info_64 : (Go.Proofs.Try.prog.info? 64).map (fun i => (i.size, i.bytes, i.zero)) = some (1, 8, some (zeroV (.nilFunc))) := by kernel_rfl
theorem und_64 : (Go.Proofs.Try.prog.underlying 64).map tdOf = some .func := by kernel_rfl
theorem info_65 : (Go.Proofs.Try.prog.info? 65).map (fun i => (i.size, i.bytes, i.zero)) = some (1, 8, some (zeroV (.nilFunc))) := by kernel_rfl
theorem und_65 : (Go.Proofs.Try.prog.underlying 65).map tdOf = some .func := by kernel_rfl
theorem info_66 : (Go.Proofs.Try.prog.info? 66).map (fun i => (i.size, i.bytes, i.zero)) = some (1, 8, some (zeroV (.nilFunc))) := by kernel_rfl
theorem und_66 : (Go.Proofs.Try.prog.underlying 66).map tdOf = some .func := by kernel_rfl
theorem info_67 : (Go.Proofs.Try.prog.info? 67).map (fun i => (i.size, i.bytes, i.zero)) = some (1, 8, some (zeroV (.nilFunc))) := by kernel_rfl
theorem und_67 : (Go.Proofs.Try.prog.underlying 67).map tdOf = some .func := by kernel_rfl
theorem info_68 : (Go.Proofs.Try.prog.info? 68).map (fun i => (i.size, i.bytes, i.zero)) = some (1, 8, some (zeroV (.nilFunc))) := by kernel_rfl
theorem und_68 : (Go.Proofs.Try.prog.underlying 68).map tdOf = some .func := by kernel_rfl
theorem info_69 : (Go.Proofs.Try.prog.info? 69).map (fun i => (i.size, i.bytes, i.zero)) = some (1, 8, some (zeroV (.nilFunc))) := by kernel_rfl
theorem und_69 : (Go.Proofs.Try.prog.underlying 69).map tdOf = some .func := by kernel_rfl
theorem info_70 : (Go.Proofs.Try.prog.info? 70).map (fun i => (i.size, i.bytes, i.zero)) = some (7, 104, some (zeroV (.agg [.str ⟨#[]⟩, .int .u8 0, .bool false, .lst true [], .bool false, .str ⟨#[]⟩, .lst true []]))) := by kernel_rfl
theorem und_70 : (Go.Proofs.Try.prog.underlying 70).map tdOf = some (.struct [(0, 9), (1, 48)]) := by kernel_rfl
theorem info_71 : (Go.Proofs.Try.prog.info? 71).map (fun i => (i.size, i.bytes, i.zero)) = some (7, 104, some (zeroV (.agg [.str ⟨#[]⟩, .int .u8 0, .bool false, .lst true [], .bool false, .str ⟨#[]⟩, .lst true []]))) := by kernel_rfl
theorem und_71 : (Go.Proofs.Try.prog.underlying 71).map tdOf = some (.struct [(0, 9), (1, 48)]) := by kernel_rfl
theorem info_72 : (Go.Proofs.Try.prog.info? 72).map (fun i => (i.size, i.bytes, i.zero)) = some (1, 8, some (zeroV (.nilFunc))) := by kernel_rfl
theorem und_72 : (Go.Proofs.Try.prog.underlying 72).map tdOf = some .func := by kernel_rfl
theorem info_73 : (Go.Proofs.Try.prog.info? 73).map (fun i => (i.size, i.bytes, i.zero)) = some (1, 8, some (zeroV (.nilFunc))) := by kernel_rfl
theorem und_73 : (Go.Proofs.Try.prog.underlying 73).map tdOf = some .func := by kernel_rfl
theorem info_74 : (Go.Proofs.Try.prog.info? 74).map (fun i => (i.size, i.bytes, i.zero)) = some (1, 8, some (zeroV (.nilFunc))) := by kernel_rfl
theorem und_74 : (Go.Proofs.Try.prog.underlying 74).map tdOf = some .func := by kernel_rfl
theorem info_75 : (Go.Proofs.Try.prog.info? 75).map (fun i => (i.size, i.bytes, i.zero)) = some (1, 8, some (zeroV (.nilFunc))) := by kernel_rfl
theorem und_75 : (Go.Proofs.Try.prog.underlying 75).map tdOf = some .func := by kernel_rfl
theorem info_76 : (Go.Proofs.Try.prog.info? 76).map (fun i => (i.size, i.bytes, i.zero)) = some (1, 8, some (zeroV (.nilFunc))) := by kernel_rfl
theorem und_76 : (Go.Proofs.Try.prog.underlying 76).map tdOf = some .func := by kernel_rfl
theorem info_77 : (Go.Proofs.Try.prog.info? 77).map (fun i => (i.size, i.bytes, i.zero)) = some (1, 8, some (zeroV (.nilFunc))) := by kernel_rfl
theorem und_77 : (Go.Proofs.Try.prog.underlying 77).map tdOf = some .func := by kernel_rfl
theorem info_78 : (Go.Proofs.Try.prog.info? 78).map (fun i => (i.size, i.bytes, i.zero)) = some (1, 8, some (zeroV (.nilFunc))) := by kernel_rfl
theorem und_78 : (Go.Proofs.Try.prog.underlying 78).map tdOf = some .func := by kernel_rfl
theorem info_79 : (Go.Proofs.Try.prog.info? 79).map (fun i => (i.size, i.bytes, i.zero)) = some (1, 8, some (zeroV (.nilFunc))) := by kernel_rfl
theorem und_79 : (Go.Proofs.Try.prog.underlying 79).map tdOf = some .func := by kernel_rfl
theorem info_80 : (Go.Proofs.Try.prog.info? 80).map (fun i => (i.size, i.bytes, i.zero)) = some (1, 8, some (zeroV (.nilFunc))) := by kernel_rfl
theorem und_80 : (Go.Proofs.Try.prog.underlying 80).map tdOf = some .func := by kernel_rfl
theorem info_81 : (Go.Proofs.Try.prog.info? 81).map (fun i => (i.size, i.bytes, i.zero)) = some (1, 24, some (zeroV (.lst true []))) := by kernel_rfl
theorem und_81 : (Go.Proofs.Try.prog.underlying 81).map tdOf = some (.slice 129) := by kernel_rfl
theorem info_82 : (Go.Proofs.Try.prog.info? 82).map (fun i => (i.size, i.bytes, i.zero)) = some (1, 8, some (zeroV (.nilFunc))) := by kernel_rfl
theorem und_82 : (Go.Proofs.Try.prog.underlying 82).map tdOf = some .func := by kernel_rfl
theorem info_83 : (Go.Proofs.Try.prog.info? 83).map (fun i => (i.size, i.bytes, i.zero)) = some (1, 8, some (zeroV (.nilFunc))) := by kernel_rfl
theorem und_83 : (Go.Proofs.Try.prog.underlying 83).map tdOf = some .func := by kernel_rfl
theorem info_84 : (Go.Proofs.Try.prog.info? 84).map (fun i => (i.size, i.bytes, i.zero)) = some (7, 128, some (zeroV (.agg [.lst true [], .int .u8 0, .str ⟨#[]⟩, .bool false, .lst true [], .lst true [], .lst true []]))) := by kernel_rfl
theorem und_84 : (Go.Proofs.Try.prog.underlying 84).map tdOf = some (.struct [(0, 81), (1, 32), (6, 46)]) := by kernel_rfl
theorem info_85 : (Go.Proofs.Try.prog.info? 85).map (fun i => (i.size, i.bytes, i.zero)) = some (7, 128, some (zeroV (.agg [.lst true [], .int .u8 0, .str ⟨#[]⟩, .bool false, .lst true [], .lst true [], .lst true []]))) := by kernel_rfl
theorem und_85 : (Go.Proofs.Try.prog.underlying 85).map tdOf = some (.struct [(0, 81), (1, 32), (6, 46)]) := by kernel_rfl
theorem info_87 : (Go.Proofs.Try.prog.info? 87).map (fun i => (i.size, i.bytes, i.zero)) = some (1, 8, some (zeroV (.nilm))) := by kernel_rfl
theorem und_87 : (Go.Proofs.Try.prog.underlying 87).map tdOf = some (.map 26 3) := by kernel_rfl
theorem info_89 : (Go.Proofs.Try.prog.info? 89).map (fun i => (i.size, i.bytes, i.zero)) = some (1, 8, some (zeroV (.nilFunc))) := by kernel_rfl
theorem und_89 : (Go.Proofs.Try.prog.underlying 89).map tdOf = some .func := by kernel_rfl
theorem info_90 : (Go.Proofs.Try.prog.info? 90).map (fun i => (i.size, i.bytes, i.zero)) = some (1, 8, some (zeroV (.nilm))) := by kernel_rfl
theorem und_90 : (Go.Proofs.Try.prog.underlying 90).map tdOf = some (.map 26 89) := by kernel_rfl
theorem info_91 : (Go.Proofs.Try.prog.info? 91).map (fun i => (i.size, i.bytes, i.zero)) = some (1, 8, some (zeroV (.nilFunc))) := by kernel_rfl
theorem und_91 : (Go.Proofs.Try.prog.underlying 91).map tdOf = some .func := by kernel_rfl
theorem info_92 : (Go.Proofs.Try.prog.info? 92).map (fun i => (i.size, i.bytes, i.zero)) = some (1, 24, some (zeroV (.agg [.lst true []]))) := by kernel_rfl
theorem und_92 : (Go.Proofs.Try.prog.underlying 92).map tdOf = some (.struct [(0, 27)]) := by kernel_rfl
theorem info_93 : (Go.Proofs.Try.prog.info? 93).map (fun i => (i.size, i.bytes, i.zero)) = some (1, 24, some (zeroV (.agg [.lst true []]))) := by kernel_rfl
theorem und_93 : (Go.Proofs.Try.prog.underlying 93).map tdOf = some (.struct [(0, 27)]) := by kernel_rfl
theorem info_94 : (Go.Proofs.Try.prog.info? 94).map (fun i => (i.size, i.bytes, i.zero)) = some (2, 32, some (zeroV (.agg [.lst true [], .bool false]))) := by kernel_rfl
theorem und_94 : (Go.Proofs.Try.prog.underlying 94).map tdOf = some (.struct [(0, 93), (1, 4)]) := by kernel_rfl
theorem info_95 : (Go.Proofs.Try.prog.info? 95).map (fun i => (i.size, i.bytes, i.zero)) = some (2, 32, some (zeroV (.agg [.lst true [], .bool false]))) := by kernel_rfl
theorem und_95 : (Go.Proofs.Try.prog.underlying 95).map tdOf = some (.struct [(0, 93), (1, 4)]) := by kernel_rfl
theorem info_96 : (Go.Proofs.Try.prog.info? 96).map (fun i => (i.size, i.bytes, i.zero)) = some (1, 8, some (zeroV (.nilFunc))) := by kernel_rfl
theorem und_96 : (Go.Proofs.Try.prog.underlying 96).map tdOf = some .func := by kernel_rfl
theorem info_97 : (Go.Proofs.Try.prog.info? 97).map (fun i => (i.size, i.bytes, i.zero)) = some (1, 8, some (zeroV (.nilFunc))) := by kernel_rfl
theorem und_97 : (Go.Proofs.Try.prog.underlying 97).map tdOf = some .func := by kernel_rfl
theorem info_98 : (Go.Proofs.Try.prog.info? 98).map (fun i => (i.size, i.bytes, i.zero)) = some (1, 8, some (zeroV (.nilFunc))) := by kernel_rfl
theorem und_98 : (Go.Proofs.Try.prog.underlying 98).map tdOf = some .func := by kernel_rfl
theorem info_99 : (Go.Proofs.Try.prog.info? 99).map (fun i => (i.size, i.bytes, i.zero)) = some (1, 8, some (zeroV (.nilFunc))) := by kernel_rfl
theorem und_99 : (Go.Proofs.Try.prog.underlying 99).map tdOf = some .func := by kernel_rfl
theorem info_100 : (Go.Proofs.Try.prog.info? 100).map (fun i => (i.size, i.bytes, i.zero)) = some (1, 8, some (zeroV (.nilFunc))) := by kernel_rfl
theorem und_100 : (Go.Proofs.Try.prog.underlying 100).map tdOf = some .func := by kernel_rfl
theorem info_101 : (Go.Proofs.Try.prog.info? 101).map (fun i => (i.size, i.bytes, i.zero)) = some (1, 8, some (zeroV (.int .u64 0))) := by kernel_rfl
theorem und_101 : (Go.Proofs.Try.prog.underlying 101).map tdOf = some (.int .u64) := by kernel_rfl
theorem info_102 : (Go.Proofs.Try.prog.info? 102).map (fun i => (i.size, i.bytes, i.zero)) = some (1, 8, some (zeroV (.nilp))) := by kernel_rfl
theorem und_102 : (Go.Proofs.Try.prog.underlying 102).map tdOf = some (.ptr 104) := by kernel_rfl
theorem info_103 : (Go.Proofs.Try.prog.info? 103).map (fun i => (i.size, i.bytes, i.zero)) = some (2, 48, some (zeroV (.agg [.lst true [], .lst true []]))) := by kernel_rfl
theorem und_103 : (Go.Proofs.Try.prog.underlying 103).map tdOf = some (.struct [(0, 41), (1, 25)]) := by kernel_rfl
theorem info_104 : (Go.Proofs.Try.prog.info? 104).map (fun i => (i.size, i.bytes, i.zero)) = some (2, 48, some (zeroV (.agg [.lst true [], .lst true []]))) := by kernel_rfl
theorem und_104 : (Go.Proofs.Try.prog.underlying 104).map tdOf = some (.struct [(0, 41), (1, 25)]) := by kernel_rfl
theorem info_105 : (Go.Proofs.Try.prog.info? 105).map (fun i => (i.size, i.bytes, i.zero)) = some (1, 8, some (zeroV (.nilFunc))) := by kernel_rfl
theorem und_105 : (Go.Proofs.Try.prog.underlying 105).map tdOf = some .func := by kernel_rfl
theorem info_106 : (Go.Proofs.Try.prog.info? 106).map (fun i => (i.size, i.bytes, i.zero)) = some (1, 8, some (zeroV (.nilFunc))) := by kernel_rfl
theorem und_106 : (Go.Proofs.Try.prog.underlying 106).map tdOf = some .func := by kernel_rfl
theorem info_107 : (Go.Proofs.Try.prog.info? 107).map (fun i => (i.size, i.bytes, i.zero)) = some (1, 8, some (zeroV (.nilFunc))) := by kernel_rfl
theorem und_107 : (Go.Proofs.Try.prog.underlying 107).map tdOf = some .func := by kernel_rfl
theorem info_108 : (Go.Proofs.Try.prog.info? 108).map (fun i => (i.size, i.bytes, i.zero)) = some (1, 8, some (zeroV (.nilFunc))) := by kernel_rfl
theorem und_108 : (Go.Proofs.Try.prog.underlying 108).map tdOf = some .func := by kernel_rfl
theorem info_109 : (Go.Proofs.Try.prog.info? 109).map (fun i => (i.size, i.bytes, i.zero)) = some (1, 8, some (zeroV (.nilFunc))) := by kernel_rfl
theorem und_109 : (Go.Proofs.Try.prog.underlying 109).map tdOf = some .func := by kernel_rfl
theorem info_110 : (Go.Proofs.Try.prog.info? 110).map (fun i => (i.size, i.bytes, i.zero)) = some (1, 8, some (zeroV (.nilFunc))) := by kernel_rfl
theorem und_110 : (Go.Proofs.Try.prog.underlying 110).map tdOf = some .func := by kernel_rfl
theorem info_111 : (Go.Proofs.Try.prog.info? 111).map (fun i => (i.size, i.bytes, i.zero)) = some (1, 8, some (zeroV (.nilFunc))) := by kernel_rfl
theorem und_111 : (Go.Proofs.Try.prog.underlying 111).map tdOf = some .func := by kernel_rfl
theorem info_112 : (Go.Proofs.Try.prog.info? 112).map (fun i => (i.size, i.bytes, i.zero)) = some (1, 8, some (zeroV (.nilFunc))) := by kernel_rfl
theorem und_112 : (Go.Proofs.Try.prog.underlying 112).map tdOf = some .func := by kernel_rfl
theorem info_113 : (Go.Proofs.Try.prog.info? 113).map (fun i => (i.size, i.bytes, i.zero)) = some (1, 4, some (zeroV (.int .u32 0))) := by kernel_rfl
theorem und_113 : (Go.Proofs.Try.prog.underlying 113).map tdOf = some (.int .u32) := by kernel_rfl
theorem info_114 : (Go.Proofs.Try.prog.info? 114).map (fun i => (i.size, i.bytes, i.zero)) = some (1, 8, some (zeroV (.nilFunc))) := by kernel_rfl
theorem und_114 : (Go.Proofs.Try.prog.underlying 114).map tdOf = some .func := by kernel_rfl
theorem info_115 : (Go.Proofs.Try.prog.info? 115).map (fun i => (i.size, i.bytes, i.zero)) = some (1, 8, some (zeroV (.nilFunc))) := by kernel_rfl
theorem und_115 : (Go.Proofs.Try.prog.underlying 115).map tdOf = some .func := by kernel_rfl
theorem info_116 : (Go.Proofs.Try.prog.info? 116).map (fun i => (i.size, i.bytes, i.zero)) = some (1, 8, some (zeroV (.nilFunc))) := by kernel_rfl
theorem und_116 : (Go.Proofs.Try.prog.underlying 116).map tdOf = some .func := by kernel_rfl
theorem info_117 : (Go.Proofs.Try.prog.info? 117).map (fun i => (i.size, i.bytes, i.zero)) = some (1, 8, some (zeroV (.nilFunc))) := by kernel_rfl
theorem und_117 : (Go.Proofs.Try.prog.underlying 117).map tdOf = some .func := by kernel_rfl
theorem info_118 : (Go.Proofs.Try.prog.info? 118).map (fun i => (i.size, i.bytes, i.zero)) = some (1, 8, some (zeroV (.nilFunc))) := by kernel_rfl
theorem und_118 : (Go.Proofs.Try.prog.underlying 118).map tdOf = some .func := by kernel_rfl
theorem info_119 : (Go.Proofs.Try.prog.info? 119).map (fun i => (i.size, i.bytes, i.zero)) = some (1, 8, some (zeroV (.nilFunc))) := by kernel_rfl
theorem und_119 : (Go.Proofs.Try.prog.underlying 119).map tdOf = some .func := by kernel_rfl
theorem info_120 : (Go.Proofs.Try.prog.info? 120).map (fun i => (i.size, i.bytes, i.zero)) = some (1, 24, some (zeroV (.lst true []))) := by kernel_rfl
theorem und_120 : (Go.Proofs.Try.prog.underlying 120).map tdOf = some (.slice 9) := by kernel_rfl
theorem info_121 : (Go.Proofs.Try.prog.info? 121).map (fun i => (i.size, i.bytes, i.zero)) = some (1, 8, some (zeroV (.nilFunc))) := by kernel_rfl
theorem und_121 : (Go.Proofs.Try.prog.underlying 121).map tdOf = some .func := by kernel_rfl
theorem info_122 : (Go.Proofs.Try.prog.info? 122).map (fun i => (i.size, i.bytes, i.zero)) = some (1, 8, some (zeroV (.nilFunc))) := by kernel_rfl
theorem und_122 : (Go.Proofs.Try.prog.underlying 122).map tdOf = some .func := by kernel_rfl
theorem info_123 : (Go.Proofs.Try.prog.info? 123).map (fun i => (i.size, i.bytes, i.zero)) = some (1, 8, some (zeroV (.nilFunc))) := by kernel_rfl
theorem und_123 : (Go.Proofs.Try.prog.underlying 123).map tdOf = some .func := by kernel_rfl
theorem info_124 : (Go.Proofs.Try.prog.info? 124).map (fun i => (i.size, i.bytes, i.zero)) = some (1, 8, some (zeroV (.nilFunc))) := by kernel_rfl
theorem und_124 : (Go.Proofs.Try.prog.underlying 124).map tdOf = some .func := by kernel_rfl
theorem info_125 : (Go.Proofs.Try.prog.info? 125).map (fun i => (i.size, i.bytes, i.zero)) = some (2, 40, some (zeroV (.agg [.str ⟨#[]⟩, .lst true []]))) := by kernel_rfl
theorem und_125 : (Go.Proofs.Try.prog.underlying 125).map tdOf = some (.struct [(0, 9), (1, 120)]) := by kernel_rfl
theorem info_126 : (Go.Proofs.Try.prog.info? 126).map (fun i => (i.size, i.bytes, i.zero)) = some (2, 40, some (zeroV (.agg [.str ⟨#[]⟩, .lst true []]))) := by kernel_rfl
theorem und_126 : (Go.Proofs.Try.prog.underlying 126).map tdOf = some (.struct [(0, 9), (1, 120)]) := by kernel_rfl
theorem info_127 : (Go.Proofs.Try.prog.info? 127).map (fun i => (i.size, i.bytes, i.zero)) = some (1, 24, some (zeroV (.lst true []))) := by kernel_rfl
theorem und_127 : (Go.Proofs.Try.prog.underlying 127).map tdOf = some (.slice 126) := by kernel_rfl
theorem info_128 : (Go.Proofs.Try.prog.info? 128).map (fun i => (i.size, i.bytes, i.zero)) = some (2, 40, some (zeroV (.agg [.str ⟨#[]⟩, .lst true []]))) := by kernel_rfl
theorem und_128 : (Go.Proofs.Try.prog.underlying 128).map tdOf = some (.struct [(0, 9), (1, 127)]) := by kernel_rfl
theorem info_129 : (Go.Proofs.Try.prog.info? 129).map (fun i => (i.size, i.bytes, i.zero)) = some (2, 40, some (zeroV (.agg [.str ⟨#[]⟩, .lst true []]))) := by kernel_rfl
theorem und_129 : (Go.Proofs.Try.prog.underlying 129).map tdOf = some (.struct [(0, 9), (1, 127)]) := by kernel_rfl
theorem info_130 : (Go.Proofs.Try.prog.info? 130).map (fun i => (i.size, i.bytes, i.zero)) = some (1, 8, some (zeroV (.nilFunc))) := by kernel_rfl
theorem und_130 : (Go.Proofs.Try.prog.underlying 130).map tdOf = some .func := by kernel_rfl
theorem info_131 : (Go.Proofs.Try.prog.info? 131).map (fun i => (i.size, i.bytes, i.zero)) = some (1, 8, some (zeroV (.nilFunc))) := by kernel_rfl
theorem und_131 : (Go.Proofs.Try.prog.underlying 131).map tdOf = some .func := by kernel_rfl
theorem info_132 : (Go.Proofs.Try.prog.info? 132).map (fun i => (i.size, i.bytes, i.zero)) = some (1, 8, some (zeroV (.nilFunc))) := by kernel_rfl
theorem und_132 : (Go.Proofs.Try.prog.underlying 132).map tdOf = some .func := by kernel_rfl
theorem info_133 : (Go.Proofs.Try.prog.info? 133).map (fun i => (i.size, i.bytes, i.zero)) = some (1, 8, some (zeroV (.nilFunc))) := by kernel_rfl
theorem und_133 : (Go.Proofs.Try.prog.underlying 133).map tdOf = some .func := by kernel_rfl
theorem info_134 : (Go.Proofs.Try.prog.info? 134).map (fun i => (i.size, i.bytes, i.zero)) = some (1, 8, some (zeroV (.nilFunc))) := by kernel_rfl
theorem und_134 : (Go.Proofs.Try.prog.underlying 134).map tdOf = some .func := by kernel_rfl
theorem info_135 : (Go.Proofs.Try.prog.info? 135).map (fun i => (i.size, i.bytes, i.zero)) = some (1, 8, some (zeroV (.nilFunc))) := by kernel_rfl
theorem und_135 : (Go.Proofs.Try.prog.underlying 135).map tdOf = some .func := by kernel_rfl
theorem info_136 : (Go.Proofs.Try.prog.info? 136).map (fun i => (i.size, i.bytes, i.zero)) = some (1, 8, some (zeroV (.nilFunc))) := by kernel_rfl
theorem und_136 : (Go.Proofs.Try.prog.underlying 136).map tdOf = some .func := by kernel_rfl
theorem info_137 : (Go.Proofs.Try.prog.info? 137).map (fun i => (i.size, i.bytes, i.zero)) = some (1, 8, some (zeroV (.nilFunc))) := by kernel_rfl
theorem und_137 : (Go.Proofs.Try.prog.underlying 137).map tdOf = some .func := by kernel_rfl
theorem info_138 : (Go.Proofs.Try.prog.info? 138).map (fun i => (i.size, i.bytes, i.zero)) = some (1, 8, some (zeroV (.nilFunc))) := by kernel_rfl
theorem und_138 : (Go.Proofs.Try.prog.underlying 138).map tdOf = some .func := by kernel_rfl
theorem info_139 : (Go.Proofs.Try.prog.info? 139).map (fun i => (i.size, i.bytes, i.zero)) = some (1, 8, some (zeroV (.nilFunc))) := by kernel_rfl
theorem und_139 : (Go.Proofs.Try.prog.underlying 139).map tdOf = some .func := by kernel_rfl
theorem info_140 : (Go.Proofs.Try.prog.info? 140).map (fun i => (i.size, i.bytes, i.zero)) = some (1, 24, some (zeroV (.lst true []))) := by kernel_rfl
theorem und_140 : (Go.Proofs.Try.prog.underlying 140).map tdOf = some (.slice 29) := by kernel_rfl
theorem info_141 : (Go.Proofs.Try.prog.info? 141).map (fun i => (i.size, i.bytes, i.zero)) = some (1, 8, some (zeroV (.nilFunc))) := by kernel_rfl
theorem und_141 : (Go.Proofs.Try.prog.underlying 141).map tdOf = some .func := by kernel_rfl
theorem info_142 : (Go.Proofs.Try.prog.info? 142).map (fun i => (i.size, i.bytes, i.zero)) = some (1, 8, some (zeroV (.nilFunc))) := by kernel_rfl
theorem und_142 : (Go.Proofs.Try.prog.underlying 142).map tdOf = some .func := by kernel_rfl
theorem info_143 : (Go.Proofs.Try.prog.info? 143).map (fun i => (i.size, i.bytes, i.zero)) = some (2, 16, some (zeroV (.agg [.int .i64 0, .int .i64 0]))) := by kernel_rfl
theorem und_143 : (Go.Proofs.Try.prog.underlying 143).map tdOf = some (.struct [(0, 3), (1, 3)]) := by kernel_rfl
theorem info_144 : (Go.Proofs.Try.prog.info? 144).map (fun i => (i.size, i.bytes, i.zero)) = some (2, 16, some (zeroV (.agg [.int .i64 0, .int .i64 0]))) := by kernel_rfl
theorem und_144 : (Go.Proofs.Try.prog.underlying 144).map tdOf = some (.struct [(0, 3), (1, 3)]) := by kernel_rfl
theorem info_146 : (Go.Proofs.Try.prog.info? 146).map (fun i => (i.size, i.bytes, i.zero)) = some (1, 8, some (zeroV (.nilFunc))) := by kernel_rfl
theorem und_146 : (Go.Proofs.Try.prog.underlying 146).map tdOf = some .func := by kernel_rfl
theorem info_148 : (Go.Proofs.Try.prog.info? 148).map (fun i => (i.size, i.bytes, i.zero)) = some (1, 8, some (zeroV (.nilFunc))) := by kernel_rfl
theorem und_148 : (Go.Proofs.Try.prog.underlying 148).map tdOf = some .func := by kernel_rfl
theorem info_149 : (Go.Proofs.Try.prog.info? 149).map (fun i => (i.size, i.bytes, i.zero)) = some (1, 8, some (zeroV (.nilFunc))) := by kernel_rfl
theorem und_149 : (Go.Proofs.Try.prog.underlying 149).map tdOf = some .func := by kernel_rfl
theorem info_150 : (Go.Proofs.Try.prog.info? 150).map (fun i => (i.size, i.bytes, i.zero)) = some (1, 8, some (zeroV (.nilFunc))) := by kernel_rfl
theorem und_150 : (Go.Proofs.Try.prog.underlying 150).map tdOf = some .func := by kernel_rfl
theorem info_151 : (Go.Proofs.Try.prog.info? 151).map (fun i => (i.size, i.bytes, i.zero)) = some (1, 8, some (zeroV (.nilFunc))) := by kernel_rfl
theorem und_151 : (Go.Proofs.Try.prog.underlying 151).map tdOf = some .func := by kernel_rfl
theorem info_152 : (Go.Proofs.Try.prog.info? 152).map (fun i => (i.size, i.bytes, i.zero)) = some (1, 8, some (zeroV (.nilFunc))) := by kernel_rfl
theorem und_152 : (Go.Proofs.Try.prog.underlying 152).map tdOf = some .func := by kernel_rfl
theorem info_153 : (Go.Proofs.Try.prog.info? 153).map (fun i => (i.size, i.bytes, i.zero)) = some (1, 8, some (zeroV (.nilFunc))) := by kernel_rfl
theorem und_153 : (Go.Proofs.Try.prog.underlying 153).map tdOf = some .func := by kernel_rfl
theorem info_154 : (Go.Proofs.Try.prog.info? 154).map (fun i => (i.size, i.bytes, i.zero)) = some (1, 8, some (zeroV (.nilFunc))) := by kernel_rfl
theorem und_154 : (Go.Proofs.Try.prog.underlying 154).map tdOf = some .func := by kernel_rfl
theorem info_155 : (Go.Proofs.Try.prog.info? 155).map (fun i => (i.size, i.bytes, i.zero)) = some (1, 8, some (zeroV (.nilFunc))) := by kernel_rfl
theorem und_155 : (Go.Proofs.Try.prog.underlying 155).map tdOf = some .func := by kernel_rfl
theorem info_156 : (Go.Proofs.Try.prog.info? 156).map (fun i => (i.size, i.bytes, i.zero)) = some (1, 8, some (zeroV (.nilFunc))) := by kernel_rfl
theorem und_156 : (Go.Proofs.Try.prog.underlying 156).map tdOf = some .func := by kernel_rfl
theorem info_158 : (Go.Proofs.Try.prog.info? 158).map (fun i => (i.size, i.bytes, i.zero)) = some (1, 8, some (zeroV (.nilFunc))) := by kernel_rfl
theorem und_158 : (Go.Proofs.Try.prog.underlying 158).map tdOf = some .func := by kernel_rfl
theorem info_160 : (Go.Proofs.Try.prog.info? 160).map (fun i => (i.size, i.bytes, i.zero)) = some (1, 8, some (zeroV (.nilFunc))) := by kernel_rfl
theorem und_160 : (Go.Proofs.Try.prog.underlying 160).map tdOf = some .func := by kernel_rfl
theorem info_161 : (Go.Proofs.Try.prog.info? 161).map (fun i => (i.size, i.bytes, i.zero)) = some (1, 8, some (zeroV (.nilFunc))) := by kernel_rfl
theorem und_161 : (Go.Proofs.Try.prog.underlying 161).map tdOf = some .func := by kernel_rfl
theorem info_162 : (Go.Proofs.Try.prog.info? 162).map (fun i => (i.size, i.bytes, i.zero)) = some (1, 8, some (zeroV (.nilFunc))) := by kernel_rfl
theorem und_162 : (Go.Proofs.Try.prog.underlying 162).map tdOf = some .func := by kernel_rfl
theorem info_163 : (Go.Proofs.Try.prog.info? 163).map (fun i => (i.size, i.bytes, i.zero)) = some (1, 8, some (zeroV (.nilFunc))) := by kernel_rfl
theorem und_163 : (Go.Proofs.Try.prog.underlying 163).map tdOf = some .func := by kernel_rfl
theorem info_164 : (Go.Proofs.Try.prog.info? 164).map (fun i => (i.size, i.bytes, i.zero)) = some (1, 24, some (zeroV (.lst true []))) := by kernel_rfl
theorem und_164 : (Go.Proofs.Try.prog.underlying 164).map tdOf = some (.slice 3) := by kernel_rfl
theorem info_165 : (Go.Proofs.Try.prog.info? 165).map (fun i => (i.size, i.bytes, i.zero)) = some (1, 8, some (zeroV (.nilFunc))) := by kernel_rfl
theorem und_165 : (Go.Proofs.Try.prog.underlying 165).map tdOf = some .func := by kernel_rfl
theorem info_166 : (Go.Proofs.Try.prog.info? 166).map (fun i => (i.size, i.bytes, i.zero)) = some (1, 8, some (zeroV (.nilFunc))) := by kernel_rfl
theorem und_166 : (Go.Proofs.Try.prog.underlying 166).map tdOf = some .func := by kernel_rfl
theorem info_167 : (Go.Proofs.Try.prog.info? 167).map (fun i => (i.size, i.bytes, i.zero)) = some (1, 8, some (zeroV (.nilFunc))) := by kernel_rfl
theorem und_167 : (Go.Proofs.Try.prog.underlying 167).map tdOf = some .func := by kernel_rfl
theorem info_168 : (Go.Proofs.Try.prog.info? 168).map (fun i => (i.size, i.bytes, i.zero)) = some (1, 8, some (zeroV (.nilFunc))) := by kernel_rfl
theorem und_168 : (Go.Proofs.Try.prog.underlying 168).map tdOf = some .func := by kernel_rfl
theorem info_169 : (Go.Proofs.Try.prog.info? 169).map (fun i => (i.size, i.bytes, i.zero)) = some (1, 8, some (zeroV (.nilFunc))) := by kernel_rfl
theorem und_169 : (Go.Proofs.Try.prog.underlying 169).map tdOf = some .func := by kernel_rfl
theorem info_171 : (Go.Proofs.Try.prog.info? 171).map (fun i => (i.size, i.bytes, i.zero)) = some (1, 8, some (zeroV (.nilFunc))) := by kernel_rfl
theorem und_171 : (Go.Proofs.Try.prog.underlying 171).map tdOf = some .func := by kernel_rfl
theorem info_172 : (Go.Proofs.Try.prog.info? 172).map (fun i => (i.size, i.bytes, i.zero)) = some (1, 8, some (zeroV (.nilFunc))) := by kernel_rfl
theorem und_172 : (Go.Proofs.Try.prog.underlying 172).map tdOf = some .func := by kernel_rfl
theorem info_173 : (Go.Proofs.Try.prog.info? 173).map (fun i => (i.size, i.bytes, i.zero)) = some (1, 8, some (zeroV (.nilFunc))) := by kernel_rfl
theorem und_173 : (Go.Proofs.Try.prog.underlying 173).map tdOf = some .func := by kernel_rfl
theorem info_174 : (Go.Proofs.Try.prog.info? 174).map (fun i => (i.size, i.bytes, i.zero)) = some (1, 8, some (zeroV (.nilFunc))) := by kernel_rfl
theorem und_174 : (Go.Proofs.Try.prog.underlying 174).map tdOf = some .func := by kernel_rfl
theorem info_175 : (Go.Proofs.Try.prog.info? 175).map (fun i => (i.size, i.bytes, i.zero)) = some (1, 8, some (zeroV (.nilFunc))) := by kernel_rfl
theorem und_175 : (Go.Proofs.Try.prog.underlying 175).map tdOf = some .func := by kernel_rfl
theorem info_176 : (Go.Proofs.Try.prog.info? 176).map (fun i => (i.size, i.bytes, i.zero)) = some (1, 8, some (zeroV (.nilFunc))) := by kernel_rfl
theorem und_176 : (Go.Proofs.Try.prog.underlying 176).map tdOf = some .func := by kernel_rfl
theorem info_177 : (Go.Proofs.Try.prog.info? 177).map (fun i => (i.size, i.bytes, i.zero)) = some (1, 8, some (zeroV (.nilFunc))) := by kernel_rfl
theorem und_177 : (Go.Proofs.Try.prog.underlying 177).map tdOf = some .func := by kernel_rfl
theorem info_178 : (Go.Proofs.Try.prog.info? 178).map (fun i => (i.size, i.bytes, i.zero)) = some (1, 8, some (zeroV (.nilFunc))) := by kernel_rfl
theorem und_178 : (Go.Proofs.Try.prog.underlying 178).map tdOf = some .func := by kernel_rfl
theorem info_179 : (Go.Proofs.Try.prog.info? 179).map (fun i => (i.size, i.bytes, i.zero)) = some (1, 8, some (zeroV (.nilFunc))) := by kernel_rfl
theorem und_179 : (Go.Proofs.Try.prog.underlying 179).map tdOf = some .func := by kernel_rfl
theorem info_180 : (Go.Proofs.Try.prog.info? 180).map (fun i => (i.size, i.bytes, i.zero)) = some (1, 8, some (zeroV (.nilm))) := by kernel_rfl
theorem und_180 : (Go.Proofs.Try.prog.underlying 180).map tdOf = some (.map 9 48) := by kernel_rfl
theorem info_181 : (Go.Proofs.Try.prog.info? 181).map (fun i => (i.size, i.bytes, i.zero)) = some (1, 24, some (zeroV (.lst true []))) := by kernel_rfl
theorem und_181 : (Go.Proofs.Try.prog.underlying 181).map tdOf = some (.slice 27) := by kernel_rfl
theorem info_182 : (Go.Proofs.Try.prog.info? 182).map (fun i => (i.size, i.bytes, i.zero)) = some (1, 8, some (zeroV (.nilFunc))) := by kernel_rfl
theorem und_182 : (Go.Proofs.Try.prog.underlying 182).map tdOf = some .func := by kernel_rfl
theorem info_183 : (Go.Proofs.Try.prog.info? 183).map (fun i => (i.size, i.bytes, i.zero)) = some (1, 24, some (zeroV (.lst true []))) := by kernel_rfl
theorem und_183 : (Go.Proofs.Try.prog.underlying 183).map tdOf = some (.slice 101) := by kernel_rfl
theorem info_184 : (Go.Proofs.Try.prog.info? 184).map (fun i => (i.size, i.bytes, i.zero)) = some (1, 24, some (zeroV (.lst true []))) := by kernel_rfl
theorem und_184 : (Go.Proofs.Try.prog.underlying 184).map tdOf = some (.slice 101) := by kernel_rfl
theorem info_185 : (Go.Proofs.Try.prog.info? 185).map (fun i => (i.size, i.bytes, i.zero)) = some (1, 24, some (zeroV (.agg [.lst true []]))) := by kernel_rfl
theorem und_185 : (Go.Proofs.Try.prog.underlying 185).map tdOf = some (.struct [(0, 184)]) := by kernel_rfl
theorem info_186 : (Go.Proofs.Try.prog.info? 186).map (fun i => (i.size, i.bytes, i.zero)) = some (1, 24, some (zeroV (.agg [.lst true []]))) := by kernel_rfl
theorem und_186 : (Go.Proofs.Try.prog.underlying 186).map tdOf = some (.struct [(0, 184)]) := by kernel_rfl
theorem info_187 : (Go.Proofs.Try.prog.info? 187).map (fun i => (i.size, i.bytes, i.zero)) = some (1, 8, some (zeroV (.nilFunc))) := by kernel_rfl
theorem und_187 : (Go.Proofs.Try.prog.underlying 187).map tdOf = some .func := by kernel_rfl
theorem info_188 : (Go.Proofs.Try.prog.info? 188).map (fun i => (i.size, i.bytes, i.zero)) = some (1, 8, some (zeroV (.nilFunc))) := by kernel_rfl
theorem und_188 : (Go.Proofs.Try.prog.underlying 188).map tdOf = some .func := by kernel_rfl
theorem info_189 : (Go.Proofs.Try.prog.info? 189).map (fun i => (i.size, i.bytes, i.zero)) = some (1, 8, some (zeroV (.nilFunc))) := by kernel_rfl
theorem und_189 : (Go.Proofs.Try.prog.underlying 189).map tdOf = some .func := by kernel_rfl
theorem info_190 : (Go.Proofs.Try.prog.info? 190).map (fun i => (i.size, i.bytes, i.zero)) = some (1, 8, some (zeroV (.nilFunc))) := by kernel_rfl
theorem und_190 : (Go.Proofs.Try.prog.underlying 190).map tdOf = some .func := by kernel_rfl
theorem info_191 : (Go.Proofs.Try.prog.info? 191).map (fun i => (i.size, i.bytes, i.zero)) = some (1, 8, some (zeroV (.nilFunc))) := by kernel_rfl
theorem und_191 : (Go.Proofs.Try.prog.underlying 191).map tdOf = some .func := by kernel_rfl
theorem info_192 : (Go.Proofs.Try.prog.info? 192).map (fun i => (i.size, i.bytes, i.zero)) = some (1, 8, some (zeroV (.nilFunc))) := by kernel_rfl
theorem und_192 : (Go.Proofs.Try.prog.underlying 192).map tdOf = some .func := by kernel_rfl
theorem info_193 : (Go.Proofs.Try.prog.info? 193).map (fun i => (i.size, i.bytes, i.zero)) = some (1, 8, some (zeroV (.nilFunc))) := by kernel_rfl
theorem und_193 : (Go.Proofs.Try.prog.underlying 193).map tdOf = some .func := by kernel_rfl
theorem info_194 : (Go.Proofs.Try.prog.info? 194).map (fun i => (i.size, i.bytes, i.zero)) = some (1, 8, some (zeroV (.nilFunc))) := by kernel_rfl
theorem und_194 : (Go.Proofs.Try.prog.underlying 194).map tdOf = some .func := by kernel_rfl
theorem info_195 : (Go.Proofs.Try.prog.info? 195).map (fun i => (i.size, i.bytes, i.zero)) = some (1, 8, some (zeroV (.nilFunc))) := by kernel_rfl
theorem und_195 : (Go.Proofs.Try.prog.underlying 195).map tdOf = some .func := by kernel_rfl
theorem info_197 : (Go.Proofs.Try.prog.info? 197).map (fun i => (i.size, i.bytes, i.zero)) = some (1, 8, some (zeroV (.nilFunc))) := by kernel_rfl
theorem und_197 : (Go.Proofs.Try.prog.underlying 197).map tdOf = some .func := by kernel_rfl
theorem info_198 : (Go.Proofs.Try.prog.info? 198).map (fun i => (i.size, i.bytes, i.zero)) = some (1, 8, some (zeroV (.nilFunc))) := by kernel_rfl
theorem und_198 : (Go.Proofs.Try.prog.underlying 198).map tdOf = some .func := by kernel_rfl
theorem info_199 : (Go.Proofs.Try.prog.info? 199).map (fun i => (i.size, i.bytes, i.zero)) = some (1, 8, some (zeroV (.nilFunc))) := by kernel_rfl
theorem und_199 : (Go.Proofs.Try.prog.underlying 199).map tdOf = some .func := by kernel_rfl
theorem info_200 : (Go.Proofs.Try.prog.info? 200).map (fun i => (i.size, i.bytes, i.zero)) = some (1, 8, some (zeroV (.nilFunc))) := by kernel_rfl
theorem und_200 : (Go.Proofs.Try.prog.underlying 200).map tdOf = some .func := by kernel_rfl
theorem info_201 : (Go.Proofs.Try.prog.info? 201).map (fun i => (i.size, i.bytes, i.zero)) = some (1, 8, some (zeroV (.nilFunc))) := by kernel_rfl
theorem und_201 : (Go.Proofs.Try.prog.underlying 201).map tdOf = some .func := by kernel_rfl
theorem info_202 : (Go.Proofs.Try.prog.info? 202).map (fun i => (i.size, i.bytes, i.zero)) = some (1, 8, some (zeroV (.nilFunc))) := by kernel_rfl
theorem und_202 : (Go.Proofs.Try.prog.underlying 202).map tdOf = some .func := by kernel_rfl
theorem info_203 : (Go.Proofs.Try.prog.info? 203).map (fun i => (i.size, i.bytes, i.zero)) = some (1, 8, some (zeroV (.nilFunc))) := by kernel_rfl
theorem und_203 : (Go.Proofs.Try.prog.underlying 203).map tdOf = some .func := by kernel_rfl
theorem info_204 : (Go.Proofs.Try.prog.info? 204).map (fun i => (i.size, i.bytes, i.zero)) = some (1, 8, some (zeroV (.nilFunc))) := by kernel_rfl
theorem und_204 : (Go.Proofs.Try.prog.underlying 204).map tdOf = some .func := by kernel_rfl
theorem info_205 : (Go.Proofs.Try.prog.info? 205).map (fun i => (i.size, i.bytes, i.zero)) = some (1, 8, some (zeroV (.nilFunc))) := by kernel_rfl
theorem und_205 : (Go.Proofs.Try.prog.underlying 205).map tdOf = some .func := by kernel_rfl
theorem info_206 : (Go.Proofs.Try.prog.info? 206).map (fun i => (i.size, i.bytes, i.zero)) = some (1, 8, some (zeroV (.nilFunc))) := by kernel_rfl
theorem und_206 : (Go.Proofs.Try.prog.underlying 206).map tdOf = some .func := by kernel_rfl
theorem info_207 : (Go.Proofs.Try.prog.info? 207).map (fun i => (i.size, i.bytes, i.zero)) = some (1, 8, some (zeroV (.nilFunc))) := by kernel_rfl
theorem und_207 : (Go.Proofs.Try.prog.underlying 207).map tdOf = some .func := by kernel_rfl
theorem info_208 : (Go.Proofs.Try.prog.info? 208).map (fun i => (i.size, i.bytes, i.zero)) = some (1, 8, some (zeroV (.nilFunc))) := by kernel_rfl
theorem und_208 : (Go.Proofs.Try.prog.underlying 208).map tdOf = some .func := by kernel_rfl
theorem info_209 : (Go.Proofs.Try.prog.info? 209).map (fun i => (i.size, i.bytes, i.zero)) = some (1, 8, some (zeroV (.nilFunc))) := by kernel_rfl
theorem und_209 : (Go.Proofs.Try.prog.underlying 209).map tdOf = some .func := by kernel_rfl
theorem info_210 : (Go.Proofs.Try.prog.info? 210).map (fun i => (i.size, i.bytes, i.zero)) = some (1, 24, some (zeroV (.lst true []))) := by kernel_rfl
theorem und_210 : (Go.Proofs.Try.prog.underlying 210).map tdOf = some (.slice 5) := by kernel_rfl
theorem info_211 : (Go.Proofs.Try.prog.info? 211).map (fun i => (i.size, i.bytes, i.zero)) = some (1, 24, some (zeroV (.lst true []))) := by kernel_rfl
theorem und_211 : (Go.Proofs.Try.prog.underlying 211).map tdOf = some (.slice 5) := by kernel_rfl
theorem info_212 : (Go.Proofs.Try.prog.info? 212).map (fun i => (i.size, i.bytes, i.zero)) = some (1, 8, some (zeroV (.nilFunc))) := by kernel_rfl
theorem und_212 : (Go.Proofs.Try.prog.underlying 212).map tdOf = some .func := by kernel_rfl
theorem info_213 : (Go.Proofs.Try.prog.info? 213).map (fun i => (i.size, i.bytes, i.zero)) = some (1, 8, some (zeroV (.nilFunc))) := by kernel_rfl
theorem und_213 : (Go.Proofs.Try.prog.underlying 213).map tdOf = some .func := by kernel_rfl
theorem info_214 : (Go.Proofs.Try.prog.info? 214).map (fun i => (i.size, i.bytes, i.zero)) = some (1, 8, some (zeroV (.nilFunc))) := by kernel_rfl
theorem und_214 : (Go.Proofs.Try.prog.underlying 214).map tdOf = some .func := by kernel_rfl
theorem info_220 : (Go.Proofs.Try.prog.info? 220).map (fun i => (i.size, i.bytes, i.zero)) = some (1, 8, some (zeroV (.nilFunc))) := by kernel_rfl
theorem und_220 : (Go.Proofs.Try.prog.underlying 220).map tdOf = some .func := by kernel_rfl
theorem info_221 : (Go.Proofs.Try.prog.info? 221).map (fun i => (i.size, i.bytes, i.zero)) = some (1, 1, some (zeroV (.int .u8 0))) := by kernel_rfl
theorem und_221 : (Go.Proofs.Try.prog.underlying 221).map tdOf = some (.int .u8) := by kernel_rfl
theorem info_222 : (Go.Proofs.Try.prog.info? 222).map (fun i => (i.size, i.bytes, i.zero)) = some (1, 1, some (zeroV (.int .u8 0))) := by kernel_rfl
theorem und_222 : (Go.Proofs.Try.prog.underlying 222).map tdOf = some (.int .u8) := by kernel_rfl
theorem info_223 : (Go.Proofs.Try.prog.info? 223).map (fun i => (i.size, i.bytes, i.zero)) = some (1, 8, some (zeroV (.nilFunc))) := by kernel_rfl
theorem und_223 : (Go.Proofs.Try.prog.underlying 223).map tdOf = some .func := by kernel_rfl
theorem info_224 : (Go.Proofs.Try.prog.info? 224).map (fun i => (i.size, i.bytes, i.zero)) = some (1, 8, some (zeroV (.nilp))) := by kernel_rfl
theorem und_224 : (Go.Proofs.Try.prog.underlying 224).map tdOf = some (.ptr 5) := by kernel_rfl
theorem info_225 : (Go.Proofs.Try.prog.info? 225).map (fun i => (i.size, i.bytes, i.zero)) = some (1, 4, some (zeroV (.int .i32 0))) := by kernel_rfl
theorem und_225 : (Go.Proofs.Try.prog.underlying 225).map tdOf = some (.int .i32) := by kernel_rfl
theorem info_226 : (Go.Proofs.Try.prog.info? 226).map (fun i => (i.size, i.bytes, i.zero)) = some (1, 4, some (zeroV (.int .i32 0))) := by kernel_rfl
theorem und_226 : (Go.Proofs.Try.prog.underlying 226).map tdOf = some (.int .i32) := by kernel_rfl
theorem tok_info : ∀ p ∈ tabL, (Go.Proofs.Try.prog.info? p.1).map (fun i => (i.size, i.bytes, i.zero)) = some (p.2.size, p.2.bytes, some (zeroV p.2.zero)) := by
  unfold tabL
  repeat rw [List.forall_mem_cons]
  exact ⟨info_1, info_2, info_3, info_4, info_5, info_6, info_7, info_8, info_9, info_10, info_11, info_12, info_13, info_14, info_15, info_16, info_17, info_18, info_19, info_20, info_21, info_22, info_23, info_24, info_25, info_26, info_27, info_28, info_29, info_30, info_31, info_32, info_33, info_34, info_35, info_36, info_38, info_39, info_40, info_41, info_42, info_43, info_44, info_45, info_46, info_47, info_48, info_50, info_51, info_52, info_53, info_54, info_55, info_56, info_57, info_58, info_60, info_62, info_63, info_64, info_65, info_66, info_67, info_68, info_69, info_70, info_71, info_72, info_73, info_74, info_75, info_76, info_77, info_78, info_79, info_80, info_81, info_82, info_83, info_84, info_85, info_87, info_89, info_90, info_91, info_92, info_93, info_94, info_95, info_96, info_97, info_98, info_99, info_100, info_101, info_102, info_103, info_104, info_105, info_106, info_107, info_108, info_109, info_110, info_111, info_112, info_113, info_114, info_115, info_116, info_117, info_118, info_119, info_120, info_121, info_122, info_123, info_124, info_125, info_126, info_127, info_128, info_129, info_130, info_131, info_132, info_133, info_134, info_135, info_136, info_137, info_138, info_139, info_140, info_141, info_142, info_143, info_144, info_146, info_148, info_149, info_150, info_151, info_152, info_153, info_154, info_155, info_156, info_158, info_160, info_161, info_162, info_163, info_164, info_165, info_166, info_167, info_168, info_169, info_171, info_172, info_173, info_174, info_175, info_176, info_177, info_178, info_179, info_180, info_181, info_182, info_183, info_184, info_185, info_186, info_187, info_188, info_189, info_190, info_191, info_192, info_193, info_194, info_195, info_197, info_198, info_199, info_200, info_201, info_202, info_203, info_204, info_205, info_206, info_207, info_208, info_209, info_210, info_211, info_212, info_213, info_214, info_220, info_221, info_222, info_223, info_224, info_225, info_226, by simp⟩
theorem tok_und : ∀ p ∈ tabL, (Go.Proofs.Try.prog.underlying p.1).map tdOf = some p.2.td := by
  unfold tabL
  repeat rw [List.forall_mem_cons]
  exact ⟨und_1, und_2, und_3, und_4, und_5, und_6, und_7, und_8, und_9, und_10, und_11, und_12, und_13, und_14, und_15, und_16, und_17, und_18, und_19, und_20, und_21, und_22, und_23, und_24, und_25, und_26, und_27, und_28, und_29, und_30, und_31, und_32, und_33, und_34, und_35, und_36, und_38, und_39, und_40, und_41, und_42, und_43, und_44, und_45, und_46, und_47, und_48, und_50, und_51, und_52, und_53, und_54, und_55, und_56, und_57, und_58, und_60, und_62, und_63, und_64, und_65, und_66, und_67, und_68, und_69, und_70, und_71, und_72, und_73, und_74, und_75, und_76, und_77, und_78, und_79, und_80, und_81, und_82, und_83, und_84, und_85, und_87, und_89, und_90, und_91, und_92, und_93, und_94, und_95, und_96, und_97, und_98, und_99, und_100, und_101, und_102, und_103, und_104, und_105, und_106, und_107, und_108, und_109, und_110, und_111, und_112, und_113, und_114, und_115, und_116, und_117, und_118, und_119, und_120, und_121, und_122, und_123, und_124, und_125, und_126, und_127, und_128, und_129, und_130, und_131, und_132, und_133, und_134, und_135, und_136, und_137, und_138, und_139, und_140, und_141, und_142, und_143, und_144, und_146, und_148, und_149, und_150, und_151, und_152, und_153, und_154, und_155, und_156, und_158, und_160, und_161, und_162, und_163, und_164, und_165, und_166, und_167, und_168, und_169, und_171, und_172, und_173, und_174, und_175, und_176, und_177, und_178, und_179, und_180, und_181, und_182, und_183, und_184, und_185, und_186, und_187, und_188, und_189, und_190, und_191, und_192, und_193, und_194, und_195, und_197, und_198, und_199, und_200, und_201, und_202, und_203, und_204, und_205, und_206, und_207, und_208, und_209, und_210, und_211, und_212, und_213, und_214, und_220, und_221, und_222, und_223, und_224, und_225, und_226, by simp⟩
theorem tok_ok : (tabL.all fun p => (p.2.td != .other) && zeroOk p.2.zero && decide ((cellsOf p.2.zero).length = p.2.size) && decide (0 < p.2.size)) = true := by kernel_rfl
theorem cmp_24 : (!Go.Proofs.Try.prog.stoodInHeld 24 && !Go.Proofs.Try.prog.eqGuardType Go.Proofs.Try.prog.depth 24 && (Go.Proofs.Try.prog.fieldsOf 24).toList.all (fun f => f.name != "_")) = true := by kernel_rfl
theorem cmp_144 : (!Go.Proofs.Try.prog.stoodInHeld 144 && !Go.Proofs.Try.prog.eqGuardType Go.Proofs.Try.prog.depth 144 && (Go.Proofs.Try.prog.fieldsOf 144).toList.all (fun f => f.name != "_")) = true := by kernel_rfl
theorem tok_cmp : ∀ p ∈ tabL, p.2.cmp = true → (!Go.Proofs.Try.prog.stoodInHeld p.1 && !Go.Proofs.Try.prog.eqGuardType Go.Proofs.Try.prog.depth p.1 && (Go.Proofs.Try.prog.fieldsOf p.1).toList.all (fun f => f.name != "_")) = true := by
  unfold tabL
  repeat rw [List.forall_mem_cons]
  exact ⟨fun h => (by cases h), fun h => (by cases h), fun h => (by cases h), fun h => (by cases h), fun h => (by cases h), fun h => (by cases h), fun h => (by cases h), fun h => (by cases h), fun h => (by cases h), fun h => (by cases h), fun h => (by cases h), fun h => (by cases h), fun h => (by cases h), fun h => (by cases h), fun h => (by cases h), fun h => (by cases h), fun h => (by cases h), fun h => (by cases h), fun h => (by cases h), fun h => (by cases h), fun h => (by cases h), fun h => (by cases h), fun h => (by cases h), fun _ => cmp_24, fun h => (by cases h), fun h => (by cases h), fun h => (by cases h), fun h => (by cases h), fun h => (by cases h), fun h => (by cases h), fun h => (by cases h), fun h => (by cases h), fun h => (by cases h), fun h => (by cases h), fun h => (by cases h), fun h => (by cases h), fun h => (by cases h), fun h => (by cases h), fun h => (by cases h), fun h => (by cases h), fun h => (by cases h), fun h => (by cases h), fun h => (by cases h), fun h => (by cases h), fun h => (by cases h), fun h => (by cases h), fun h => (by cases h), fun h => (by cases h), fun h => (by cases h), fun h => (by cases h), fun h => (by cases h), fun h => (by cases h), fun h => (by cases h), fun h => (by cases h), fun h => (by cases h), fun h => (by cases h), fun h => (by cases h), fun h => (by cases h), fun h => (by cases h), fun h => (by cases h), fun h => (by cases h), fun h => (by cases h), fun h => (by cases h), fun h => (by cases h), fun h => (by cases h), fun h => (by cases h), fun h => (by cases h), fun h => (by cases h), fun h => (by cases h), fun h => (by cases h), fun h => (by cases h), fun h => (by cases h), fun h => (by cases h), fun h => (by cases h), fun h => (by cases h), fun h => (by cases h), fun h => (by cases h), fun h => (by cases h), fun h => (by cases h), fun h => (by cases h), fun h => (by cases h), fun h => (by cases h), fun h => (by cases h), fun h => (by cases h), fun h => (by cases h), fun h => (by cases h), fun h => (by cases h), fun h => (by cases h), fun h => (by cases h), fun h => (by cases h), fun h => (by cases h), fun h => (by cases h), fun h => (by cases h), fun h => (by cases h), fun h => (by cases h), fun h => (by cases h), fun h => (by cases h), fun h => (by cases h), fun h => (by cases h), fun h => (by cases h), fun h => (by cases h), fun h => (by cases h), fun h => (by cases h), fun h => (by cases h), fun h => (by cases h), fun h => (by cases h), fun h => (by cases h), fun h => (by cases h), fun h => (by cases h), fun h => (by cases h), fun h => (by cases h), fun h => (by cases h), fun h => (by cases h), fun h => (by cases h), fun h => (by cases h), fun h => (by cases h), fun h => (by cases h), fun h => (by cases h), fun h => (by cases h), fun h => (by cases h), fun h => (by cases h), fun h => (by cases h), fun h => (by cases h), fun h => (by cases h), fun h => (by cases h), fun h => (by cases h), fun h => (by cases h), fun h => (by cases h), fun h => (by cases h), fun h => (by cases h), fun h => (by cases h), fun h => (by cases h), fun h => (by cases h), fun h => (by cases h), fun h => (by cases h), fun h => (by cases h), fun h => (by cases h), fun _ => cmp_144, fun h => (by cases h), fun h => (by cases h), fun h => (by cases h), fun h => (by cases h), fun h => (by cases h), fun h => (by cases h), fun h => (by cases h), fun h => (by cases h), fun h => (by cases h), fun h => (by cases h), fun h => (by cases h), fun h => (by cases h), fun h => (by cases h), fun h => (by cases h), fun h => (by cases h), fun h => (by cases h), fun h => (by cases h), fun h => (by cases h), fun h => (by cases h), fun h => (by cases h), fun h => (by cases h), fun h => (by cases h), fun h => (by cases h), fun h => (by cases h), fun h => (by cases h), fun h => (by cases h), fun h => (by cases h), fun h => (by cases h), fun h => (by cases h), fun h => (by cases h), fun h => (by cases h), fun h => (by cases h), fun h => (by cases h), fun h => (by cases h), fun h => (by cases h), fun h => (by cases h), fun h => (by cases h), fun h => (by cases h), fun h => (by cases h), fun h => (by cases h), fun h => (by cases h), fun h => (by cases h), fun h => (by cases h), fun h => (by cases h), fun h => (by cases h), fun h => (by cases h), fun h => (by cases h), fun h => (by cases h), fun h => (by cases h), fun h => (by cases h), fun h => (by cases h), fun h => (by cases h), fun h => (by cases h), fun h => (by cases h), fun h => (by cases h), fun h => (by cases h), fun h => (by cases h), fun h => (by cases h), fun h => (by cases h), fun h => (by cases h), fun h => (by cases h), fun h => (by cases h), fun h => (by cases h), fun h => (by cases h), fun h => (by cases h), fun h => (by cases h), fun h => (by cases h), fun h => (by cases h), fun h => (by cases h), fun h => (by cases h), fun h => (by cases h), by simp⟩
theorem tok : TOk Go.Proofs.Try.prog tab where
  info := fun t ti h => tok_info (t, ti) (lookup_mem (by unfold tab at h; exact h))
  und := fun t ti h => tok_und (t, ti) (lookup_mem (by unfold tab at h; exact h))
  cmp := fun t ti h hc => by
    have := tok_cmp (t, ti) (lookup_mem (by unfold tab at h; exact h)) hc
    simp only [Bool.and_eq_true, Bool.not_eq_true'] at this
    exact ⟨this.1.1, this.1.2, this.2⟩
  ok := fun t ti h => by
    have := List.all_eq_true.1 tok_ok _ (lookup_mem (by unfold tab at h; exact h))
    simp only [Bool.and_eq_true, bne_iff_ne, ne_eq, decide_eq_true_eq] at this
    exact ⟨this.1.1.1, this.1.1.2, this.1.2, this.2⟩
theorem mixed : Go.Proofs.Try.prog.follows .mixedOrders = true := by kernel_rfl
noncomputable def fns : FuncId → Option Func := fun f => Go.Proofs.Try.prog.funcs[f]?
theorem fns_ok : ∀ f fn, fns f = some fn → Go.Proofs.Try.prog.funcs[f]? = some fn := fun _ _ h => h
theorem back_85 : RowsBack Go.Proofs.Try.prog tab 85 71 := rows_back tok (fn := Try.f85) Try.func85 (by kernel_rfl) rfl rfl tab_42 rfl tab_71 (by exact rfl) ⟨rfl, rfl, rfl⟩ ⟨rfl, rfl, rfl⟩ ⟨rfl, rfl, rfl⟩ ⟨rfl, rfl, rfl⟩ ⟨rfl, rfl, rfl⟩ ⟨rfl, rfl, rfl⟩ ⟨rfl, rfl, rfl⟩ ⟨rfl, rfl, rfl⟩ ⟨rfl, rfl, rfl⟩ ⟨rfl, rfl, rfl⟩ ⟨rfl, rfl, rfl⟩ ⟨rfl, rfl, rfl⟩ ⟨rfl, rfl, rfl⟩ ⟨rfl, rfl, rfl⟩ ⟨rfl, rfl, rfl⟩ ⟨rfl, rfl, rfl⟩ ⟨rfl, rfl, rfl⟩
theorem maker_37 : GHolds Go.Proofs.Try.prog tab 37 (backG 85) := by
  intro O hO hL hB wl args H out H' hg F φ w vs hI hr
  exact backG_ok tok mixed (fn := Try.f37) Try.func37 (by kernel_rfl) rfl rfl tab_42 rfl (by exact rfl) ⟨rfl, rfl, rfl⟩ ⟨rfl, rfl, rfl⟩ ⟨rfl, rfl, rfl⟩ ⟨rfl, rfl, rfl⟩ hO hL hB hg hI hr
theorem back_156 : RowsBack Go.Proofs.Try.prog tab 156 24 := rows_back tok (fn := Try.f156) Try.func156 (by kernel_rfl) rfl rfl tab_25 rfl tab_24 (by exact rfl) ⟨rfl, rfl, rfl⟩ ⟨rfl, rfl, rfl⟩ ⟨rfl, rfl, rfl⟩ ⟨rfl, rfl, rfl⟩ ⟨rfl, rfl, rfl⟩ ⟨rfl, rfl, rfl⟩ ⟨rfl, rfl, rfl⟩ ⟨rfl, rfl, rfl⟩ ⟨rfl, rfl, rfl⟩ ⟨rfl, rfl, rfl⟩ ⟨rfl, rfl, rfl⟩ ⟨rfl, rfl, rfl⟩ ⟨rfl, rfl, rfl⟩ ⟨rfl, rfl, rfl⟩ ⟨rfl, rfl, rfl⟩ ⟨rfl, rfl, rfl⟩ ⟨rfl, rfl, rfl⟩
theorem maker_142 : GHolds Go.Proofs.Try.prog tab 142 (backG 156) := by
  intro O hO hL hB wl args H out H' hg F φ w vs hI hr
  exact backG_ok tok mixed (fn := Try.f142) Try.func142 (by kernel_rfl) rfl rfl tab_25 rfl (by exact rfl) ⟨rfl, rfl, rfl⟩ ⟨rfl, rfl, rfl⟩ ⟨rfl, rfl, rfl⟩ ⟨rfl, rfl, rfl⟩ hO hL hB hg hI hr
noncomputable def try58 : Try := ⟨codeL (bodyOf Try.f58), 4, 108, [.tmp 3, .tmp 2], codeR (codeR (bodyOf Try.f58)), [.cell 2 9, .cell 3 36], 5, 2, codeR (bodyOf Try.f108)⟩
theorem tryh_58 : GHolds Go.Proofs.Try.prog tab 58 (tryX tab try58 7) := tryX_holds tok mixed (fn := Try.f58) (fk := Try.f108) (k := 108) Try.func58 (by kernel_rfl) Try.func108 (by kernel_rfl) (by exact rfl) ⟨rfl, rfl, rfl⟩ ⟨rfl, rfl, rfl⟩ (by decide) (by kernel_rfl) (by kernel_rfl) (by exact rfl) ⟨rfl, rfl, rfl⟩ ⟨rfl, rfl, rfl⟩ (by decide) (by decide) (by decide) rfl (by kernel_rfl) (by decide) (by exact rfl)
noncomputable def nil65 : NilT := ⟨codeL (bodyOf Try.f65), 0, 3, 4, .seq (codeR (codeL (codeR (bodyOf Try.f65)))) (codeR (codeR (bodyOf Try.f65))), [.tmp 2]⟩
theorem nilh_65 : GHolds Go.Proofs.Try.prog tab 65 (nilG tab nil65 8) := nilG_holds tok mixed (fn := Try.f65) (te := 113) Try.func65 (by kernel_rfl) (by exact rfl) ⟨rfl, rfl, rfl⟩ ⟨rfl, rfl, rfl⟩ (by kernel_rfl) (by decide) (by decide) (by kernel_rfl) (by kernel_rfl) (by kernel_rfl) (by exact rfl)
noncomputable def Xl : List (Nat × GSpec) := [(37, backG 85), (142, backG 156), (58, tryX tab try58 7), (65, nilG tab nil65 8)]
def Xb : List (Nat × Nat) := [(85, 71), (156, 24)]
noncomputable def X : Spec := Spec.ofList Xl Xb
theorem X_ok : SpecOk X := specOk_list (by
  unfold Xl
  repeat rw [List.forall_mem_cons]
  exact ⟨backG_gok 85, backG_gok 156, tryX_gok tab try58 7, nilG_gok tab nil65 8, by simp⟩)
theorem X_holds : SpecHolds Go.Proofs.Try.prog tab X := specHolds_list (by
  unfold Xl
  repeat rw [List.forall_mem_cons]
  exact ⟨maker_37, maker_142, tryh_58, nilh_65, by simp⟩) (by
  unfold Xb
  repeat rw [List.forall_mem_cons]
  exact ⟨back_85, back_156, by simp⟩)
def keep : FuncId → Bool := fun f => f == 93
noncomputable def E : Orc := ev tab fns keep X
theorem E_ok : CallOk Go.Proofs.Try.prog E := ev_ok tok mixed fns_ok X_ok X_holds
theorem E_call {f : FuncId} {fn : Func} {c : Code} {rs : List ResultVar} {wl : Nat} (hf : fns f = some fn) (hx : X.call f = none) (hb : fn.body = some c) (hw : wfFunc fn = true) (hr : fn.results = rs.toArray) (args : List PV) (ha : args.length ≤ fn.ntmps) (H : Heap) :
    E.call f wl args H = bodyK tab keep f rs (run tab E wl c { env := fun i => (args[i]?).getD undefP, L := [], H := H }) :=
  (ev_call X_ok hx).trans (callBody_eq hf hb hw hr args ha H)
theorem E_spec {f : FuncId} {g : GSpec} {wl : Nat} {args : List PV} {H : Heap} (hx : X.call f = some g) : E.call f wl args H = g E wl args H := ev_spec X_ok hx
@[simp] theorem E_back_85 : E.back 85 = some 71 := rfl
@[simp] theorem E_rows_37 (wl : Nat) (fl : Bool) (xs : List PV) (H : Heap) : E.call 37 wl [.lst fl xs] H = some (.ret (.func (.func 85) [] [.rptr [.lst fl xs] 0]), H) := (E_spec (g := backG 85) rfl).trans rfl
@[simp] theorem E_back_156 : E.back 156 = some 24 := rfl
@[simp] theorem E_rows_142 (wl : Nat) (fl : Bool) (xs : List PV) (H : Heap) : E.call 142 wl [.lst fl xs] H = some (.ret (.func (.func 156) [] [.rptr [.lst fl xs] 0]), H) := (E_spec (g := backG 156) rfl).trans rfl
def leaveKp (f : FuncId) (s : St) (v : PV) : Option (Out × Heap) := leave keep f s v
@[simp] theorem leave_k (f : FuncId) (s : St) (v : PV) : leave keep f s v = bif keep f then leaveKp f s v else leaveV s.H.length s.H (frz (s.L :: s.H) s.H.length false v) := by
  cases h : keep f with
  | true => rfl
  | false => exact leave_eq h s v
@[simp] theorem keep_eq (f : FuncId) : keep f = (f == 93) := rfl
@[simp] theorem E_loop {wl c s} : E.loop wl c s = run tab E wl (.loop c) s := ev_loop X_ok
end Go.GL.Seat
