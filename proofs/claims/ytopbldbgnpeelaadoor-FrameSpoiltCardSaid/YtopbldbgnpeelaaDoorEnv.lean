/- The types of this seat's program, as far as the machine of plain values wants them; held against the program by the kernel. No condition. -/
import Derived.Test.YtopbldbgnpeelaaDoorEv
import Derived.Test.YtopbldbgnpeelaaDoorAs
import Derived.Test.YtopbldbgnpeelaaDoorProg
set_option linter.unusedVariables false
set_option maxRecDepth 100000
namespace Go.Proofs.YtopbldbgnpeelaaDoor.V
open Go Go.Proofs.AbsV
def types : List (TypeId × TI) := [
  (1, { k := .func, size := 1, bytes := 8, zero := [.nilfn], ty := none }),
  (2, { k := .int .i64, size := 1, bytes := 8, zero := [.int .i64 0], ty := some (.int .i64) }),
  (3, { k := .int .i64, size := 1, bytes := 8, zero := [.int .i64 0], ty := some (.int .i64) }),
  (4, { k := .bool, size := 1, bytes := 1, zero := [.bool false], ty := some .bool }),
  (5, { k := .int .u8, size := 1, bytes := 1, zero := [.int .u8 0], ty := some (.int .u8) }),
  (6, { k := .int .u8, size := 1, bytes := 1, zero := [.int .u8 0], ty := some (.int .u8) }),
  (7, { k := .struct [(0, 2), (1, 3), (2, 4), (3, 6)], size := 4, bytes := 24, zero := [.int .i64 0, .int .i64 0, .bool false, .int .u8 0], ty := none }),
  (8, { k := .struct [(0, 2), (1, 3), (2, 4), (3, 6)], size := 4, bytes := 24, zero := [.int .i64 0, .int .i64 0, .bool false, .int .u8 0], ty := none }),
  (9, { k := .str, size := 1, bytes := 16, zero := [.str ByteArray.empty], ty := some .str }),
  (10, { k := .str, size := 1, bytes := 16, zero := [.str ByteArray.empty], ty := some .str }),
  (11, { k := .str, size := 1, bytes := 16, zero := [.str ByteArray.empty], ty := some .str }),
  (12, { k := .int .u64, size := 1, bytes := 8, zero := [.int .u64 0], ty := some (.int .u64) }),
  (13, { k := .struct [(0, 9), (1, 12)], size := 2, bytes := 24, zero := [.str ByteArray.empty, .int .u64 0], ty := none }),
  (14, { k := .struct [(0, 9), (1, 12)], size := 2, bytes := 24, zero := [.str ByteArray.empty, .int .u64 0], ty := none }),
  (15, { k := .ptr 60, size := 1, bytes := 8, zero := [.nilp], ty := none }),
  (16, { k := .ptr 63, size := 1, bytes := 8, zero := [.nilp], ty := none }),
  (17, { k := .ptr 72, size := 1, bytes := 8, zero := [.nilp], ty := none }),
  (18, { k := .struct [(0, 17)], size := 1, bytes := 8, zero := [.nilp], ty := none }),
  (19, { k := .struct [(0, 17)], size := 1, bytes := 8, zero := [.nilp], ty := none }),
  (20, { k := .iface, size := 1, bytes := 16, zero := [.niliface], ty := none }),
  (21, { k := .int .i32, size := 1, bytes := 4, zero := [.int .i32 0], ty := some (.int .i32) }),
  (22, { k := .slice 5, size := 1, bytes := 24, zero := [.nilsl], ty := some (.sl (.int .u8)) }),
  (23, { k := .func, size := 1, bytes := 8, zero := [.nilfn], ty := none }),
  (24, { k := .int .i64, size := 1, bytes := 8, zero := [.int .i64 0], ty := some (.int .i64) }),
  (26, { k := .func, size := 1, bytes := 8, zero := [.nilfn], ty := none }),
  (27, { k := .func, size := 1, bytes := 8, zero := [.nilfn], ty := none }),
  (28, { k := .func, size := 1, bytes := 8, zero := [.nilfn], ty := none }),
  (29, { k := .func, size := 1, bytes := 8, zero := [.nilfn], ty := none }),
  (30, { k := .array 4 5, size := 4, bytes := 4, zero := [.int .u8 0, .int .u8 0, .int .u8 0, .int .u8 0], ty := some (.pair (.int .u8) (.pair (.int .u8) (.pair (.int .u8) (.pair (.int .u8) .unit)))) }),
  (32, { k := .func, size := 1, bytes := 8, zero := [.nilfn], ty := none }),
  (33, { k := .func, size := 1, bytes := 8, zero := [.nilfn], ty := none }),
  (34, { k := .slice 22, size := 1, bytes := 24, zero := [.nilsl], ty := some (.sl (.sl (.int .u8))) }),
  (36, { k := .func, size := 1, bytes := 8, zero := [.nilfn], ty := none }),
  (37, { k := .func, size := 1, bytes := 8, zero := [.nilfn], ty := none }),
  (38, { k := .func, size := 1, bytes := 8, zero := [.nilfn], ty := none }),
  (39, { k := .func, size := 1, bytes := 8, zero := [.nilfn], ty := none }),
  (40, { k := .func, size := 1, bytes := 8, zero := [.nilfn], ty := none }),
  (41, { k := .func, size := 1, bytes := 8, zero := [.nilfn], ty := none }),
  (42, { k := .func, size := 1, bytes := 8, zero := [.nilfn], ty := none }),
  (43, { k := .func, size := 1, bytes := 8, zero := [.nilfn], ty := none }),
  (44, { k := .int .u32, size := 1, bytes := 4, zero := [.int .u32 0], ty := some (.int .u32) }),
  (45, { k := .func, size := 1, bytes := 8, zero := [.nilfn], ty := none }),
  (47, { k := .func, size := 1, bytes := 8, zero := [.nilfn], ty := none }),
  (48, { k := .func, size := 1, bytes := 8, zero := [.nilfn], ty := none }),
  (49, { k := .func, size := 1, bytes := 8, zero := [.nilfn], ty := none }),
  (50, { k := .func, size := 1, bytes := 8, zero := [.nilfn], ty := none }),
  (51, { k := .int .u64, size := 1, bytes := 8, zero := [.int .u64 0], ty := some (.int .u64) }),
  (52, { k := .func, size := 1, bytes := 8, zero := [.nilfn], ty := none }),
  (53, { k := .int .u64, size := 1, bytes := 8, zero := [.int .u64 0], ty := some (.int .u64) }),
  (54, { k := .func, size := 1, bytes := 8, zero := [.nilfn], ty := none }),
  (55, { k := .func, size := 1, bytes := 8, zero := [.nilfn], ty := none }),
  (56, { k := .func, size := 1, bytes := 8, zero := [.nilfn], ty := none }),
  (57, { k := .array 16 44, size := 16, bytes := 64, zero := [.int .u32 0, .int .u32 0, .int .u32 0, .int .u32 0, .int .u32 0, .int .u32 0, .int .u32 0, .int .u32 0, .int .u32 0, .int .u32 0, .int .u32 0, .int .u32 0, .int .u32 0, .int .u32 0, .int .u32 0, .int .u32 0], ty := some (.pair (.int .u32) (.pair (.int .u32) (.pair (.int .u32) (.pair (.int .u32) (.pair (.int .u32) (.pair (.int .u32) (.pair (.int .u32) (.pair (.int .u32) (.pair (.int .u32) (.pair (.int .u32) (.pair (.int .u32) (.pair (.int .u32) (.pair (.int .u32) (.pair (.int .u32) (.pair (.int .u32) (.pair (.int .u32) .unit)))))))))))))))) }),
  (58, { k := .func, size := 1, bytes := 8, zero := [.nilfn], ty := none }),
  (59, { k := .struct [(0, 17), (1, 17), (2, 17), (3, 9)], size := 4, bytes := 40, zero := [.nilp, .nilp, .nilp, .str ByteArray.empty], ty := none }),
  (60, { k := .struct [(0, 17), (1, 17), (2, 17), (3, 9)], size := 4, bytes := 40, zero := [.nilp, .nilp, .nilp, .str ByteArray.empty], ty := none }),
  (61, { k := .array 0 16, size := 0, bytes := 0, zero := [], ty := none }),
  (62, { k := .struct [(0, 61)], size := 0, bytes := 0, zero := [], ty := none }),
  (63, { k := .struct [(0, 61)], size := 0, bytes := 0, zero := [], ty := none }),
  (64, { k := .func, size := 1, bytes := 8, zero := [.nilfn], ty := none }),
  (65, { k := .int .u8, size := 1, bytes := 1, zero := [.int .u8 0], ty := some (.int .u8) }),
  (66, { k := .int .u8, size := 1, bytes := 1, zero := [.int .u8 0], ty := some (.int .u8) }),
  (67, { k := .func, size := 1, bytes := 8, zero := [.nilfn], ty := none }),
  (68, { k := .ptr 5, size := 1, bytes := 8, zero := [.nilp], ty := none }),
  (69, { k := .int .i32, size := 1, bytes := 4, zero := [.int .i32 0], ty := some (.int .i32) }),
  (70, { k := .int .i32, size := 1, bytes := 4, zero := [.int .i32 0], ty := some (.int .i32) }),
  (71, { k := .struct [(0, 12), (1, 12), (2, 44), (3, 65), (4, 5), (5, 5), (6, 66), (7, 67), (8, 68), (9, 69), (10, 70)], size := 11, bytes := 48, zero := [.int .u64 0, .int .u64 0, .int .u32 0, .int .u8 0, .int .u8 0, .int .u8 0, .int .u8 0, .nilfn, .nilp, .int .i32 0, .int .i32 0], ty := none }),
  (72, { k := .struct [(0, 12), (1, 12), (2, 44), (3, 65), (4, 5), (5, 5), (6, 66), (7, 67), (8, 68), (9, 69), (10, 70)], size := 11, bytes := 48, zero := [.int .u64 0, .int .u64 0, .int .u32 0, .int .u8 0, .int .u8 0, .int .u8 0, .int .u8 0, .nilfn, .nilp, .int .i32 0, .int .i32 0], ty := none })]
def tab32 : List Int := [0, 498536548, 997073096, 651767980, 1994146192, 1802195444, 1303535960, 1342533948, 3988292384, 4027552580, 3604390888, 3412177804, 2607071920, 2262029012, 2685067896, 3183342108]
def env : Env := { ti := fun t => lookT types t, gl := fun g => (match Nat.beq g 0 with | true => some (IntKind.u32, tab32) | false => none) }
theorem envOK : EnvOK Tryd.prog env := envOK_of_check types _ rfl (by kernel_rfl)
def gl_tab32 : Nat := 0
def glAt : Nat := 0
theorem gl_of {C : Stab} (htab32 : ∀ j, j < tab32.length → C 0 j = some (.int .u32 (tab32.getD j 0))) : GlOK env C := fun g k tab hg => by
  have hg : (match Nat.beq g 0 with | true => some (IntKind.u32, tab32) | false => none) = some (k, tab) := hg
  cases hb0 : Nat.beq g 0 with
  | true =>
    rw [hb0] at hg; cases hg; rw [Nat.eq_of_beq_eq_true hb0]; exact htab32
  | false =>
    rw [hb0] at hg
    cases hg
end Go.Proofs.YtopbldbgnpeelaaDoor.V
