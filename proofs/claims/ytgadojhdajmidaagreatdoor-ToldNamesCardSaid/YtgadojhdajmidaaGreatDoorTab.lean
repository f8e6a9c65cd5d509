/- Tables of the types and functions of a seat, and that they are those of its program. Printed by a program. -/
import Derived.Test.YtgadojhdajmidaaGreatDoorProg
import Derived.Test.YtgadojhdajmidaaGreatDoorCloM
import Derived.KernelRfl
set_option linter.unusedSimpArgs false
set_option linter.unusedVariables false
namespace Go.Sep
open Go.Proofs
def tl0 : List (Nat × TInf) := [(1, ⟨1, 8, .func, [.nilFunc], [], false⟩),
 (2, ⟨1, 8, (.int .i64), [.int .i64 0], [], false⟩),
 (3, ⟨1, 8, (.int .i64), [.int .i64 0], [], false⟩),
 (4, ⟨1, 1, .bool, [.bool false], [], false⟩),
 (5, ⟨1, 1, (.int .u8), [.int .u8 0], [(0, 5)], false⟩),
 (6, ⟨1, 1, (.int .u8), [.int .u8 0], [(0, 6)], false⟩),
 (7, ⟨4, 24, (.struct [(0, 2), (1, 3), (2, 4), (3, 6)]), [.int .i64 0, .int .i64 0, .bool false, .int .u8 0], [], true⟩),
 (8, ⟨4, 24, (.struct [(0, 2), (1, 3), (2, 4), (3, 6)]), [.int .i64 0, .int .i64 0, .bool false, .int .u8 0], [], true⟩),
 (9, ⟨1, 16, .string, [.string ⟨⟨[]⟩⟩], [], false⟩),
 (10, ⟨1, 16, .string, [.string ⟨⟨[]⟩⟩], [], false⟩),
 (11, ⟨1, 16, .string, [.string ⟨⟨[]⟩⟩], [], false⟩),
 (12, ⟨1, 8, (.int .u64), [.int .u64 0], [], false⟩),
 (13, ⟨2, 24, (.struct [(0, 9), (1, 12)]), [.string ⟨⟨[]⟩⟩, .int .u64 0], [], false⟩),
 (14, ⟨2, 24, (.struct [(0, 9), (1, 12)]), [.string ⟨⟨[]⟩⟩, .int .u64 0], [], false⟩),
 (15, ⟨1, 8, (.ptr 522), [.pointer none], [], false⟩),
 (16, ⟨1, 8, (.ptr 525), [.pointer none], [], false⟩),
 (17, ⟨1, 8, (.ptr 532), [.pointer none], [], false⟩),
 (18, ⟨1, 8, (.struct [(0, 17)]), [.pointer none], [], false⟩),
 (19, ⟨1, 8, (.struct [(0, 17)]), [.pointer none], [], false⟩),
 (20, ⟨1, 16, (.iface true), [.nilIface], [], false⟩),
 (21, ⟨1, 4, (.int .i32), [.int .i32 0], [], false⟩),
 (22, ⟨1, 24, (.slice 30), [.slice none 0 0], [], false⟩),
 (23, ⟨1, 8, (.int .i64), [.int .i64 0], [], false⟩),
 (25, ⟨1, 8, .func, [.nilFunc], [], false⟩),
 (27, ⟨1, 8, .func, [.nilFunc], [], false⟩),
 (28, ⟨1, 24, (.slice 40), [.slice none 0 0], [], false⟩),
 (29, ⟨2, 40, (.struct [(0, 9), (1, 28)]), [.string ⟨⟨[]⟩⟩, .slice none 0 0], [], true⟩),
 (30, ⟨2, 40, (.struct [(0, 9), (1, 28)]), [.string ⟨⟨[]⟩⟩, .slice none 0 0], [], true⟩),
 (31, ⟨1, 24, (.slice 35), [.slice none 0 0], [], false⟩),
 (33, ⟨1, 8, .func, [.nilFunc], [], false⟩),
 (34, ⟨2, 32, (.struct [(0, 9), (1, 9)]), [.string ⟨⟨[]⟩⟩, .string ⟨⟨[]⟩⟩], [], true⟩),
 (35, ⟨2, 32, (.struct [(0, 9), (1, 9)]), [.string ⟨⟨[]⟩⟩, .string ⟨⟨[]⟩⟩], [], true⟩),
 (36, ⟨1, 8, .func, [.nilFunc], [], false⟩),
 (38, ⟨1, 8, .func, [.nilFunc], [], false⟩),
 (39, ⟨3, 32, (.struct [(0, 3), (1, 3), (2, 9)]), [.int .i64 0, .int .i64 0, .string ⟨⟨[]⟩⟩], [], true⟩),
 (40, ⟨3, 32, (.struct [(0, 3), (1, 3), (2, 9)]), [.int .i64 0, .int .i64 0, .string ⟨⟨[]⟩⟩], [], true⟩),
 (41, ⟨1, 8, .func, [.nilFunc], [], false⟩),
 (42, ⟨1, 24, (.slice 5), [.slice none 0 0], [], false⟩),
 (43, ⟨5, 72, (.struct [(0, 22), (1, 3), (2, 3), (3, 42), (4, 4)]), [.slice none 0 0, .int .i64 0, .int .i64 0, .slice none 0 0, .bool false], [], true⟩),
 (44, ⟨5, 72, (.struct [(0, 22), (1, 3), (2, 3), (3, 42), (4, 4)]), [.slice none 0 0, .int .i64 0, .int .i64 0, .slice none 0 0, .bool false], [], true⟩)]
theorem tl0_ok : AllOk (fun t i => i.ok Tryz.prog t) tl0 :=
  .cons (tinf_ok Tryz.typeInfo1 Tryz.underlying1 Tryz.zeroValue1 (by kernel_rfl) (by kernel_rfl) (by kernel_rfl) (by kernel_rfl)) <|
  .cons (tinf_ok Tryz.typeInfo2 Tryz.underlying2 Tryz.zeroValue2 (by kernel_rfl) (by kernel_rfl) (by kernel_rfl) (by kernel_rfl)) <|
  .cons (tinf_ok Tryz.typeInfo3 Tryz.underlying3 Tryz.zeroValue3 (by kernel_rfl) (by kernel_rfl) (by kernel_rfl) (by kernel_rfl)) <|
  .cons (tinf_ok Tryz.typeInfo4 Tryz.underlying4 Tryz.zeroValue4 (by kernel_rfl) (by kernel_rfl) (by kernel_rfl) (by kernel_rfl)) <|
  .cons (tinf_ok Tryz.typeInfo5 Tryz.underlying5 Tryz.zeroValue5 (by kernel_rfl) (by kernel_rfl) (by kernel_rfl) (by kernel_rfl)) <|
  .cons (tinf_ok Tryz.typeInfo6 Tryz.underlying6 Tryz.zeroValue6 (by kernel_rfl) (by kernel_rfl) (by kernel_rfl) (by kernel_rfl)) <|
  .cons (tinf_ok Tryz.typeInfo7 Tryz.underlying7 Tryz.zeroValue7 (by kernel_rfl) (by kernel_rfl) (by kernel_rfl) (by kernel_rfl)) <|
  .cons (tinf_ok Tryz.typeInfo8 Tryz.underlying8 Tryz.zeroValue8 (by kernel_rfl) (by kernel_rfl) (by kernel_rfl) (by kernel_rfl)) <|
  .cons (tinf_ok Tryz.typeInfo9 Tryz.underlying9 Tryz.zeroValue9 (by kernel_rfl) (by kernel_rfl) (by kernel_rfl) (by kernel_rfl)) <|
  .cons (tinf_ok Tryz.typeInfo10 Tryz.underlying10 Tryz.zeroValue10 (by kernel_rfl) (by kernel_rfl) (by kernel_rfl) (by kernel_rfl)) <|
  .cons (tinf_ok Tryz.typeInfo11 Tryz.underlying11 Tryz.zeroValue11 (by kernel_rfl) (by kernel_rfl) (by kernel_rfl) (by kernel_rfl)) <|
  .cons (tinf_ok Tryz.typeInfo12 Tryz.underlying12 Tryz.zeroValue12 (by kernel_rfl) (by kernel_rfl) (by kernel_rfl) (by kernel_rfl)) <|
  .cons (tinf_ok Tryz.typeInfo13 Tryz.underlying13 Tryz.zeroValue13 (by kernel_rfl) (by kernel_rfl) (by kernel_rfl) (by kernel_rfl)) <|
  .cons (tinf_ok Tryz.typeInfo14 Tryz.underlying14 Tryz.zeroValue14 (by kernel_rfl) (by kernel_rfl) (by kernel_rfl) (by kernel_rfl)) <|
  .cons (tinf_ok Tryz.typeInfo15 Tryz.underlying15 Tryz.zeroValue15 (by kernel_rfl) (by kernel_rfl) (by kernel_rfl) (by kernel_rfl)) <|
  .cons (tinf_ok Tryz.typeInfo16 Tryz.underlying16 Tryz.zeroValue16 (by kernel_rfl) (by kernel_rfl) (by kernel_rfl) (by kernel_rfl)) <|
  .cons (tinf_ok Tryz.typeInfo17 Tryz.underlying17 Tryz.zeroValue17 (by kernel_rfl) (by kernel_rfl) (by kernel_rfl) (by kernel_rfl)) <|
  .cons (tinf_ok Tryz.typeInfo18 Tryz.underlying18 Tryz.zeroValue18 (by kernel_rfl) (by kernel_rfl) (by kernel_rfl) (by kernel_rfl)) <|
  .cons (tinf_ok Tryz.typeInfo19 Tryz.underlying19 Tryz.zeroValue19 (by kernel_rfl) (by kernel_rfl) (by kernel_rfl) (by kernel_rfl)) <|
  .cons (tinf_ok Tryz.typeInfo20 Tryz.underlying20 Tryz.zeroValue20 (by kernel_rfl) (by kernel_rfl) (by kernel_rfl) (by kernel_rfl)) <|
  .cons (tinf_ok Tryz.typeInfo21 Tryz.underlying21 Tryz.zeroValue21 (by kernel_rfl) (by kernel_rfl) (by kernel_rfl) (by kernel_rfl)) <|
  .cons (tinf_ok Tryz.typeInfo22 Tryz.underlying22 Tryz.zeroValue22 (by kernel_rfl) (by kernel_rfl) (by kernel_rfl) (by kernel_rfl)) <|
  .cons (tinf_ok Tryz.typeInfo23 Tryz.underlying23 Tryz.zeroValue23 (by kernel_rfl) (by kernel_rfl) (by kernel_rfl) (by kernel_rfl)) <|
  .cons (tinf_ok Tryz.typeInfo25 Tryz.underlying25 Tryz.zeroValue25 (by kernel_rfl) (by kernel_rfl) (by kernel_rfl) (by kernel_rfl)) <|
  .cons (tinf_ok Tryz.typeInfo27 Tryz.underlying27 Tryz.zeroValue27 (by kernel_rfl) (by kernel_rfl) (by kernel_rfl) (by kernel_rfl)) <|
  .cons (tinf_ok Tryz.typeInfo28 Tryz.underlying28 Tryz.zeroValue28 (by kernel_rfl) (by kernel_rfl) (by kernel_rfl) (by kernel_rfl)) <|
  .cons (tinf_ok Tryz.typeInfo29 Tryz.underlying29 Tryz.zeroValue29 (by kernel_rfl) (by kernel_rfl) (by kernel_rfl) (by kernel_rfl)) <|
  .cons (tinf_ok Tryz.typeInfo30 Tryz.underlying30 Tryz.zeroValue30 (by kernel_rfl) (by kernel_rfl) (by kernel_rfl) (by kernel_rfl)) <|
  .cons (tinf_ok Tryz.typeInfo31 Tryz.underlying31 Tryz.zeroValue31 (by kernel_rfl) (by kernel_rfl) (by kernel_rfl) (by kernel_rfl)) <|
  .cons (tinf_ok Tryz.typeInfo33 Tryz.underlying33 Tryz.zeroValue33 (by kernel_rfl) (by kernel_rfl) (by kernel_rfl) (by kernel_rfl)) <|
  .cons (tinf_ok Tryz.typeInfo34 Tryz.underlying34 Tryz.zeroValue34 (by kernel_rfl) (by kernel_rfl) (by kernel_rfl) (by kernel_rfl)) <|
  .cons (tinf_ok Tryz.typeInfo35 Tryz.underlying35 Tryz.zeroValue35 (by kernel_rfl) (by kernel_rfl) (by kernel_rfl) (by kernel_rfl)) <|
  .cons (tinf_ok Tryz.typeInfo36 Tryz.underlying36 Tryz.zeroValue36 (by kernel_rfl) (by kernel_rfl) (by kernel_rfl) (by kernel_rfl)) <|
  .cons (tinf_ok Tryz.typeInfo38 Tryz.underlying38 Tryz.zeroValue38 (by kernel_rfl) (by kernel_rfl) (by kernel_rfl) (by kernel_rfl)) <|
  .cons (tinf_ok Tryz.typeInfo39 Tryz.underlying39 Tryz.zeroValue39 (by kernel_rfl) (by kernel_rfl) (by kernel_rfl) (by kernel_rfl)) <|
  .cons (tinf_ok Tryz.typeInfo40 Tryz.underlying40 Tryz.zeroValue40 (by kernel_rfl) (by kernel_rfl) (by kernel_rfl) (by kernel_rfl)) <|
  .cons (tinf_ok Tryz.typeInfo41 Tryz.underlying41 Tryz.zeroValue41 (by kernel_rfl) (by kernel_rfl) (by kernel_rfl) (by kernel_rfl)) <|
  .cons (tinf_ok Tryz.typeInfo42 Tryz.underlying42 Tryz.zeroValue42 (by kernel_rfl) (by kernel_rfl) (by kernel_rfl) (by kernel_rfl)) <|
  .cons (tinf_ok Tryz.typeInfo43 Tryz.underlying43 Tryz.zeroValue43 (by kernel_rfl) (by kernel_rfl) (by kernel_rfl) (by kernel_rfl)) <|
  .cons (tinf_ok Tryz.typeInfo44 Tryz.underlying44 Tryz.zeroValue44 (by kernel_rfl) (by kernel_rfl) (by kernel_rfl) (by kernel_rfl)) <|
  .nil
def tl1 : List (Nat × TInf) := [(45, ⟨1, 8, .func, [.nilFunc], [], false⟩),
 (46, ⟨1, 8, .func, [.nilFunc], [], false⟩),
 (47, ⟨1, 8, .func, [.nilFunc], [], false⟩),
 (48, ⟨1, 8, .func, [.nilFunc], [], false⟩),
 (49, ⟨1, 8, .func, [.nilFunc], [], false⟩),
 (50, ⟨1, 8, .func, [.nilFunc], [], false⟩),
 (51, ⟨1, 8, (.ptr 53), [.pointer none], [], false⟩),
 (52, ⟨2, 32, (.struct [(0, 51), (1, 42)]), [.pointer none, .slice none 0 0], [], true⟩),
 (53, ⟨2, 32, (.struct [(0, 51), (1, 42)]), [.pointer none, .slice none 0 0], [(0, 53)], true⟩),
 (54, ⟨1, 16, (.iface false), [.nilIface], [], false⟩),
 (55, ⟨1, 16, (.iface false), [.nilIface], [], false⟩),
 (57, ⟨1, 8, .func, [.nilFunc], [], false⟩),
 (58, ⟨1, 8, .func, [.nilFunc], [], false⟩),
 (59, ⟨1, 8, .func, [.nilFunc], [], false⟩),
 (60, ⟨1, 8, .func, [.nilFunc], [], false⟩),
 (61, ⟨1, 8, (.map 9 3), [.map none], [], false⟩),
 (62, ⟨1, 8, .func, [.nilFunc], [], false⟩),
 (64, ⟨1, 8, .func, [.nilFunc], [], false⟩),
 (65, ⟨1, 8, (.ptr 35), [.pointer none], [], false⟩),
 (66, ⟨1, 8, .func, [.nilFunc], [], false⟩),
 (67, ⟨1, 24, (.slice 71), [.slice none 0 0], [], false⟩),
 (69, ⟨1, 8, .func, [.nilFunc], [], false⟩),
 (70, ⟨6, 64, (.struct [(0, 9), (1, 9), (2, 4), (3, 3), (4, 3), (5, 23)]), [.string ⟨⟨[]⟩⟩, .string ⟨⟨[]⟩⟩, .bool false, .int .i64 0, .int .i64 0, .int .i64 0], [], true⟩),
 (71, ⟨6, 64, (.struct [(0, 9), (1, 9), (2, 4), (3, 3), (4, 3), (5, 23)]), [.string ⟨⟨[]⟩⟩, .string ⟨⟨[]⟩⟩, .bool false, .int .i64 0, .int .i64 0, .int .i64 0], [], true⟩),
 (73, ⟨1, 8, .func, [.nilFunc], [], false⟩),
 (74, ⟨1, 8, .func, [.nilFunc], [], false⟩),
 (75, ⟨1, 24, (.slice 9), [.slice none 0 0], [], false⟩),
 (76, ⟨1, 8, .func, [.nilFunc], [], false⟩),
 (77, ⟨1, 8, (.ptr 44), [.pointer none], [], false⟩),
 (79, ⟨1, 8, .func, [.nilFunc], [], false⟩),
 (80, ⟨1, 8, .func, [.nilFunc], [], false⟩),
 (81, ⟨1, 8, .func, [.nilFunc], [], false⟩),
 (82, ⟨1, 8, .func, [.nilFunc], [], false⟩),
 (83, ⟨1, 8, .func, [.nilFunc], [], false⟩),
 (84, ⟨1, 8, .func, [.nilFunc], [], false⟩),
 (85, ⟨1, 8, (.ptr 5), [.pointer none], [], false⟩),
 (86, ⟨1, 8, .func, [.nilFunc], [], false⟩),
 (88, ⟨1, 8, .func, [.nilFunc], [], false⟩),
 (89, ⟨1, 8, .func, [.nilFunc], [], false⟩),
 (90, ⟨1, 8, .func, [.nilFunc], [], false⟩)]
theorem tl1_ok : AllOk (fun t i => i.ok Tryz.prog t) tl1 :=
  .cons (tinf_ok Tryz.typeInfo45 Tryz.underlying45 Tryz.zeroValue45 (by kernel_rfl) (by kernel_rfl) (by kernel_rfl) (by kernel_rfl)) <|
  .cons (tinf_ok Tryz.typeInfo46 Tryz.underlying46 Tryz.zeroValue46 (by kernel_rfl) (by kernel_rfl) (by kernel_rfl) (by kernel_rfl)) <|
  .cons (tinf_ok Tryz.typeInfo47 Tryz.underlying47 Tryz.zeroValue47 (by kernel_rfl) (by kernel_rfl) (by kernel_rfl) (by kernel_rfl)) <|
  .cons (tinf_ok Tryz.typeInfo48 Tryz.underlying48 Tryz.zeroValue48 (by kernel_rfl) (by kernel_rfl) (by kernel_rfl) (by kernel_rfl)) <|
  .cons (tinf_ok Tryz.typeInfo49 Tryz.underlying49 Tryz.zeroValue49 (by kernel_rfl) (by kernel_rfl) (by kernel_rfl) (by kernel_rfl)) <|
  .cons (tinf_ok Tryz.typeInfo50 Tryz.underlying50 Tryz.zeroValue50 (by kernel_rfl) (by kernel_rfl) (by kernel_rfl) (by kernel_rfl)) <|
  .cons (tinf_ok Tryz.typeInfo51 Tryz.underlying51 Tryz.zeroValue51 (by kernel_rfl) (by kernel_rfl) (by kernel_rfl) (by kernel_rfl)) <|
  .cons (tinf_ok Tryz.typeInfo52 Tryz.underlying52 Tryz.zeroValue52 (by kernel_rfl) (by kernel_rfl) (by kernel_rfl) (by kernel_rfl)) <|
  .cons (tinf_ok Tryz.typeInfo53 Tryz.underlying53 Tryz.zeroValue53 (by kernel_rfl) (by kernel_rfl) (by kernel_rfl) (by kernel_rfl)) <|
  .cons (tinf_ok Tryz.typeInfo54 Tryz.underlying54 Tryz.zeroValue54 (by kernel_rfl) (by kernel_rfl) (by kernel_rfl) (by kernel_rfl)) <|
  .cons (tinf_ok Tryz.typeInfo55 Tryz.underlying55 Tryz.zeroValue55 (by kernel_rfl) (by kernel_rfl) (by kernel_rfl) (by kernel_rfl)) <|
  .cons (tinf_ok Tryz.typeInfo57 Tryz.underlying57 Tryz.zeroValue57 (by kernel_rfl) (by kernel_rfl) (by kernel_rfl) (by kernel_rfl)) <|
  .cons (tinf_ok Tryz.typeInfo58 Tryz.underlying58 Tryz.zeroValue58 (by kernel_rfl) (by kernel_rfl) (by kernel_rfl) (by kernel_rfl)) <|
  .cons (tinf_ok Tryz.typeInfo59 Tryz.underlying59 Tryz.zeroValue59 (by kernel_rfl) (by kernel_rfl) (by kernel_rfl) (by kernel_rfl)) <|
  .cons (tinf_ok Tryz.typeInfo60 Tryz.underlying60 Tryz.zeroValue60 (by kernel_rfl) (by kernel_rfl) (by kernel_rfl) (by kernel_rfl)) <|
  .cons (tinf_ok Tryz.typeInfo61 Tryz.underlying61 Tryz.zeroValue61 (by kernel_rfl) (by kernel_rfl) (by kernel_rfl) (by kernel_rfl)) <|
  .cons (tinf_ok Tryz.typeInfo62 Tryz.underlying62 Tryz.zeroValue62 (by kernel_rfl) (by kernel_rfl) (by kernel_rfl) (by kernel_rfl)) <|
  .cons (tinf_ok Tryz.typeInfo64 Tryz.underlying64 Tryz.zeroValue64 (by kernel_rfl) (by kernel_rfl) (by kernel_rfl) (by kernel_rfl)) <|
  .cons (tinf_ok Tryz.typeInfo65 Tryz.underlying65 Tryz.zeroValue65 (by kernel_rfl) (by kernel_rfl) (by kernel_rfl) (by kernel_rfl)) <|
  .cons (tinf_ok Tryz.typeInfo66 Tryz.underlying66 Tryz.zeroValue66 (by kernel_rfl) (by kernel_rfl) (by kernel_rfl) (by kernel_rfl)) <|
  .cons (tinf_ok Tryz.typeInfo67 Tryz.underlying67 Tryz.zeroValue67 (by kernel_rfl) (by kernel_rfl) (by kernel_rfl) (by kernel_rfl)) <|
  .cons (tinf_ok Tryz.typeInfo69 Tryz.underlying69 Tryz.zeroValue69 (by kernel_rfl) (by kernel_rfl) (by kernel_rfl) (by kernel_rfl)) <|
  .cons (tinf_ok Tryz.typeInfo70 Tryz.underlying70 Tryz.zeroValue70 (by kernel_rfl) (by kernel_rfl) (by kernel_rfl) (by kernel_rfl)) <|
  .cons (tinf_ok Tryz.typeInfo71 Tryz.underlying71 Tryz.zeroValue71 (by kernel_rfl) (by kernel_rfl) (by kernel_rfl) (by kernel_rfl)) <|
  .cons (tinf_ok Tryz.typeInfo73 Tryz.underlying73 Tryz.zeroValue73 (by kernel_rfl) (by kernel_rfl) (by kernel_rfl) (by kernel_rfl)) <|
  .cons (tinf_ok Tryz.typeInfo74 Tryz.underlying74 Tryz.zeroValue74 (by kernel_rfl) (by kernel_rfl) (by kernel_rfl) (by kernel_rfl)) <|
  .cons (tinf_ok Tryz.typeInfo75 Tryz.underlying75 Tryz.zeroValue75 (by kernel_rfl) (by kernel_rfl) (by kernel_rfl) (by kernel_rfl)) <|
  .cons (tinf_ok Tryz.typeInfo76 Tryz.underlying76 Tryz.zeroValue76 (by kernel_rfl) (by kernel_rfl) (by kernel_rfl) (by kernel_rfl)) <|
  .cons (tinf_ok Tryz.typeInfo77 Tryz.underlying77 Tryz.zeroValue77 (by kernel_rfl) (by kernel_rfl) (by kernel_rfl) (by kernel_rfl)) <|
  .cons (tinf_ok Tryz.typeInfo79 Tryz.underlying79 Tryz.zeroValue79 (by kernel_rfl) (by kernel_rfl) (by kernel_rfl) (by kernel_rfl)) <|
  .cons (tinf_ok Tryz.typeInfo80 Tryz.underlying80 Tryz.zeroValue80 (by kernel_rfl) (by kernel_rfl) (by kernel_rfl) (by kernel_rfl)) <|
  .cons (tinf_ok Tryz.typeInfo81 Tryz.underlying81 Tryz.zeroValue81 (by kernel_rfl) (by kernel_rfl) (by kernel_rfl) (by kernel_rfl)) <|
  .cons (tinf_ok Tryz.typeInfo82 Tryz.underlying82 Tryz.zeroValue82 (by kernel_rfl) (by kernel_rfl) (by kernel_rfl) (by kernel_rfl)) <|
  .cons (tinf_ok Tryz.typeInfo83 Tryz.underlying83 Tryz.zeroValue83 (by kernel_rfl) (by kernel_rfl) (by kernel_rfl) (by kernel_rfl)) <|
  .cons (tinf_ok Tryz.typeInfo84 Tryz.underlying84 Tryz.zeroValue84 (by kernel_rfl) (by kernel_rfl) (by kernel_rfl) (by kernel_rfl)) <|
  .cons (tinf_ok Tryz.typeInfo85 Tryz.underlying85 Tryz.zeroValue85 (by kernel_rfl) (by kernel_rfl) (by kernel_rfl) (by kernel_rfl)) <|
  .cons (tinf_ok Tryz.typeInfo86 Tryz.underlying86 Tryz.zeroValue86 (by kernel_rfl) (by kernel_rfl) (by kernel_rfl) (by kernel_rfl)) <|
  .cons (tinf_ok Tryz.typeInfo88 Tryz.underlying88 Tryz.zeroValue88 (by kernel_rfl) (by kernel_rfl) (by kernel_rfl) (by kernel_rfl)) <|
  .cons (tinf_ok Tryz.typeInfo89 Tryz.underlying89 Tryz.zeroValue89 (by kernel_rfl) (by kernel_rfl) (by kernel_rfl) (by kernel_rfl)) <|
  .cons (tinf_ok Tryz.typeInfo90 Tryz.underlying90 Tryz.zeroValue90 (by kernel_rfl) (by kernel_rfl) (by kernel_rfl) (by kernel_rfl)) <|
  .nil
def tl2 : List (Nat × TInf) := [(91, ⟨1, 8, .func, [.nilFunc], [], false⟩),
 (92, ⟨1, 8, .func, [.nilFunc], [], false⟩),
 (93, ⟨1, 8, .func, [.nilFunc], [], false⟩),
 (94, ⟨2, 32, (.struct [(0, 31), (1, 61)]), [.slice none 0 0, .map none], [], true⟩),
 (95, ⟨2, 32, (.struct [(0, 31), (1, 61)]), [.slice none 0 0, .map none], [], true⟩),
 (96, ⟨1, 8, .func, [.nilFunc], [], false⟩),
 (97, ⟨1, 24, (.slice 3), [.slice none 0 0], [], false⟩),
 (99, ⟨1, 8, .func, [.nilFunc], [], false⟩),
 (100, ⟨1, 24, (.slice 103), [.slice none 0 0], [], false⟩),
 (101, ⟨1, 8, .func, [.nilFunc], [], false⟩),
 (102, ⟨2, 16, (.struct [(0, 3), (1, 3)]), [.int .i64 0, .int .i64 0], [], true⟩),
 (103, ⟨2, 16, (.struct [(0, 3), (1, 3)]), [.int .i64 0, .int .i64 0], [], true⟩),
 (104, ⟨1, 8, .func, [.nilFunc], [], false⟩),
 (105, ⟨1, 8, .func, [.nilFunc], [], false⟩),
 (107, ⟨1, 8, .func, [.nilFunc], [], false⟩),
 (108, ⟨1, 8, .func, [.nilFunc], [], false⟩),
 (109, ⟨1, 8, (.ptr 30), [.pointer none], [], false⟩),
 (110, ⟨1, 8, .func, [.nilFunc], [], false⟩),
 (111, ⟨1, 8, .func, [.nilFunc], [], false⟩),
 (112, ⟨1, 8, .uptr, [.pointer none], [], false⟩),
 (113, ⟨1, 8, .func, [.nilFunc], [], false⟩),
 (114, ⟨1, 8, .func, [.nilFunc], [], false⟩),
 (115, ⟨18, 128, (.struct [(0, 3), (1, 3), (2, 3), (3, 3), (4, 4), (5, 4), (6, 4), (7, 3), (8, 3), (9, 3), (10, 3), (11, 3), (12, 3), (13, 3), (14, 3), (15, 3), (16, 3), (17, 3)]), [.int .i64 0, .int .i64 0, .int .i64 0, .int .i64 0, .bool false, .bool false, .bool false, .int .i64 0, .int .i64 0, .int .i64 0, .int .i64 0, .int .i64 0, .int .i64 0, .int .i64 0, .int .i64 0, .int .i64 0, .int .i64 0, .int .i64 0], [], true⟩),
 (116, ⟨18, 128, (.struct [(0, 3), (1, 3), (2, 3), (3, 3), (4, 4), (5, 4), (6, 4), (7, 3), (8, 3), (9, 3), (10, 3), (11, 3), (12, 3), (13, 3), (14, 3), (15, 3), (16, 3), (17, 3)]), [.int .i64 0, .int .i64 0, .int .i64 0, .int .i64 0, .bool false, .bool false, .bool false, .int .i64 0, .int .i64 0, .int .i64 0, .int .i64 0, .int .i64 0, .int .i64 0, .int .i64 0, .int .i64 0, .int .i64 0, .int .i64 0, .int .i64 0], [], true⟩),
 (118, ⟨1, 8, .func, [.nilFunc], [], false⟩),
 (119, ⟨1, 8, .func, [.nilFunc], [], false⟩),
 (121, ⟨1, 8, .func, [.nilFunc], [], false⟩),
 (123, ⟨1, 8, .func, [.nilFunc], [], false⟩),
 (124, ⟨1, 8, .func, [.nilFunc], [], false⟩),
 (125, ⟨1, 24, (.slice 21), [.slice none 0 0], [], false⟩),
 (126, ⟨1, 8, .func, [.nilFunc], [], false⟩),
 (127, ⟨1, 8, .func, [.nilFunc], [], false⟩),
 (128, ⟨1, 8, .func, [.nilFunc], [], false⟩),
 (129, ⟨1, 8, .func, [.nilFunc], [], false⟩),
 (130, ⟨1, 8, .func, [.nilFunc], [], false⟩),
 (131, ⟨1, 8, .func, [.nilFunc], [], false⟩),
 (132, ⟨1, 8, (.int .u64), [.int .u64 0], [], false⟩),
 (133, ⟨1, 8, .func, [.nilFunc], [], false⟩),
 (135, ⟨1, 8, .func, [.nilFunc], [], false⟩),
 (136, ⟨1, 8, .func, [.nilFunc], [], false⟩)]
theorem tl2_ok : AllOk (fun t i => i.ok Tryz.prog t) tl2 :=
  .cons (tinf_ok Tryz.typeInfo91 Tryz.underlying91 Tryz.zeroValue91 (by kernel_rfl) (by kernel_rfl) (by kernel_rfl) (by kernel_rfl)) <|
  .cons (tinf_ok Tryz.typeInfo92 Tryz.underlying92 Tryz.zeroValue92 (by kernel_rfl) (by kernel_rfl) (by kernel_rfl) (by kernel_rfl)) <|
  .cons (tinf_ok Tryz.typeInfo93 Tryz.underlying93 Tryz.zeroValue93 (by kernel_rfl) (by kernel_rfl) (by kernel_rfl) (by kernel_rfl)) <|
  .cons (tinf_ok Tryz.typeInfo94 Tryz.underlying94 Tryz.zeroValue94 (by kernel_rfl) (by kernel_rfl) (by kernel_rfl) (by kernel_rfl)) <|
  .cons (tinf_ok Tryz.typeInfo95 Tryz.underlying95 Tryz.zeroValue95 (by kernel_rfl) (by kernel_rfl) (by kernel_rfl) (by kernel_rfl)) <|
  .cons (tinf_ok Tryz.typeInfo96 Tryz.underlying96 Tryz.zeroValue96 (by kernel_rfl) (by kernel_rfl) (by kernel_rfl) (by kernel_rfl)) <|
  .cons (tinf_ok Tryz.typeInfo97 Tryz.underlying97 Tryz.zeroValue97 (by kernel_rfl) (by kernel_rfl) (by kernel_rfl) (by kernel_rfl)) <|
  .cons (tinf_ok Tryz.typeInfo99 Tryz.underlying99 Tryz.zeroValue99 (by kernel_rfl) (by kernel_rfl) (by kernel_rfl) (by kernel_rfl)) <|
  .cons (tinf_ok Tryz.typeInfo100 Tryz.underlying100 Tryz.zeroValue100 (by kernel_rfl) (by kernel_rfl) (by kernel_rfl) (by kernel_rfl)) <|
  .cons (tinf_ok Tryz.typeInfo101 Tryz.underlying101 Tryz.zeroValue101 (by kernel_rfl) (by kernel_rfl) (by kernel_rfl) (by kernel_rfl)) <|
  .cons (tinf_ok Tryz.typeInfo102 Tryz.underlying102 Tryz.zeroValue102 (by kernel_rfl) (by kernel_rfl) (by kernel_rfl) (by kernel_rfl)) <|
  .cons (tinf_ok Tryz.typeInfo103 Tryz.underlying103 Tryz.zeroValue103 (by kernel_rfl) (by kernel_rfl) (by kernel_rfl) (by kernel_rfl)) <|
  .cons (tinf_ok Tryz.typeInfo104 Tryz.underlying104 Tryz.zeroValue104 (by kernel_rfl) (by kernel_rfl) (by kernel_rfl) (by kernel_rfl)) <|
  .cons (tinf_ok Tryz.typeInfo105 Tryz.underlying105 Tryz.zeroValue105 (by kernel_rfl) (by kernel_rfl) (by kernel_rfl) (by kernel_rfl)) <|
  .cons (tinf_ok Tryz.typeInfo107 Tryz.underlying107 Tryz.zeroValue107 (by kernel_rfl) (by kernel_rfl) (by kernel_rfl) (by kernel_rfl)) <|
  .cons (tinf_ok Tryz.typeInfo108 Tryz.underlying108 Tryz.zeroValue108 (by kernel_rfl) (by kernel_rfl) (by kernel_rfl) (by kernel_rfl)) <|
  .cons (tinf_ok Tryz.typeInfo109 Tryz.underlying109 Tryz.zeroValue109 (by kernel_rfl) (by kernel_rfl) (by kernel_rfl) (by kernel_rfl)) <|
  .cons (tinf_ok Tryz.typeInfo110 Tryz.underlying110 Tryz.zeroValue110 (by kernel_rfl) (by kernel_rfl) (by kernel_rfl) (by kernel_rfl)) <|
  .cons (tinf_ok Tryz.typeInfo111 Tryz.underlying111 Tryz.zeroValue111 (by kernel_rfl) (by kernel_rfl) (by kernel_rfl) (by kernel_rfl)) <|
  .cons (tinf_ok Tryz.typeInfo112 Tryz.underlying112 Tryz.zeroValue112 (by kernel_rfl) (by kernel_rfl) (by kernel_rfl) (by kernel_rfl)) <|
  .cons (tinf_ok Tryz.typeInfo113 Tryz.underlying113 Tryz.zeroValue113 (by kernel_rfl) (by kernel_rfl) (by kernel_rfl) (by kernel_rfl)) <|
  .cons (tinf_ok Tryz.typeInfo114 Tryz.underlying114 Tryz.zeroValue114 (by kernel_rfl) (by kernel_rfl) (by kernel_rfl) (by kernel_rfl)) <|
  .cons (tinf_ok Tryz.typeInfo115 Tryz.underlying115 Tryz.zeroValue115 (by kernel_rfl) (by kernel_rfl) (by kernel_rfl) (by kernel_rfl)) <|
  .cons (tinf_ok Tryz.typeInfo116 Tryz.underlying116 Tryz.zeroValue116 (by kernel_rfl) (by kernel_rfl) (by kernel_rfl) (by kernel_rfl)) <|
  .cons (tinf_ok Tryz.typeInfo118 Tryz.underlying118 Tryz.zeroValue118 (by kernel_rfl) (by kernel_rfl) (by kernel_rfl) (by kernel_rfl)) <|
  .cons (tinf_ok Tryz.typeInfo119 Tryz.underlying119 Tryz.zeroValue119 (by kernel_rfl) (by kernel_rfl) (by kernel_rfl) (by kernel_rfl)) <|
  .cons (tinf_ok Tryz.typeInfo121 Tryz.underlying121 Tryz.zeroValue121 (by kernel_rfl) (by kernel_rfl) (by kernel_rfl) (by kernel_rfl)) <|
  .cons (tinf_ok Tryz.typeInfo123 Tryz.underlying123 Tryz.zeroValue123 (by kernel_rfl) (by kernel_rfl) (by kernel_rfl) (by kernel_rfl)) <|
  .cons (tinf_ok Tryz.typeInfo124 Tryz.underlying124 Tryz.zeroValue124 (by kernel_rfl) (by kernel_rfl) (by kernel_rfl) (by kernel_rfl)) <|
  .cons (tinf_ok Tryz.typeInfo125 Tryz.underlying125 Tryz.zeroValue125 (by kernel_rfl) (by kernel_rfl) (by kernel_rfl) (by kernel_rfl)) <|
  .cons (tinf_ok Tryz.typeInfo126 Tryz.underlying126 Tryz.zeroValue126 (by kernel_rfl) (by kernel_rfl) (by kernel_rfl) (by kernel_rfl)) <|
  .cons (tinf_ok Tryz.typeInfo127 Tryz.underlying127 Tryz.zeroValue127 (by kernel_rfl) (by kernel_rfl) (by kernel_rfl) (by kernel_rfl)) <|
  .cons (tinf_ok Tryz.typeInfo128 Tryz.underlying128 Tryz.zeroValue128 (by kernel_rfl) (by kernel_rfl) (by kernel_rfl) (by kernel_rfl)) <|
  .cons (tinf_ok Tryz.typeInfo129 Tryz.underlying129 Tryz.zeroValue129 (by kernel_rfl) (by kernel_rfl) (by kernel_rfl) (by kernel_rfl)) <|
  .cons (tinf_ok Tryz.typeInfo130 Tryz.underlying130 Tryz.zeroValue130 (by kernel_rfl) (by kernel_rfl) (by kernel_rfl) (by kernel_rfl)) <|
  .cons (tinf_ok Tryz.typeInfo131 Tryz.underlying131 Tryz.zeroValue131 (by kernel_rfl) (by kernel_rfl) (by kernel_rfl) (by kernel_rfl)) <|
  .cons (tinf_ok Tryz.typeInfo132 Tryz.underlying132 Tryz.zeroValue132 (by kernel_rfl) (by kernel_rfl) (by kernel_rfl) (by kernel_rfl)) <|
  .cons (tinf_ok Tryz.typeInfo133 Tryz.underlying133 Tryz.zeroValue133 (by kernel_rfl) (by kernel_rfl) (by kernel_rfl) (by kernel_rfl)) <|
  .cons (tinf_ok Tryz.typeInfo135 Tryz.underlying135 Tryz.zeroValue135 (by kernel_rfl) (by kernel_rfl) (by kernel_rfl) (by kernel_rfl)) <|
  .cons (tinf_ok Tryz.typeInfo136 Tryz.underlying136 Tryz.zeroValue136 (by kernel_rfl) (by kernel_rfl) (by kernel_rfl) (by kernel_rfl)) <|
  .nil
def tl3 : List (Nat × TInf) := [(137, ⟨2, 16, (.struct [(0, 3), (1, 3)]), [.int .i64 0, .int .i64 0], [], true⟩),
 (138, ⟨2, 16, (.struct [(0, 3), (1, 3)]), [.int .i64 0, .int .i64 0], [], true⟩),
 (139, ⟨1, 24, (.slice 138), [.slice none 0 0], [], false⟩),
 (140, ⟨1, 8, .func, [.nilFunc], [], false⟩),
 (142, ⟨1, 8, .func, [.nilFunc], [], false⟩),
 (143, ⟨24, 24, (.arr 24 5), [.int .u8 0, .int .u8 0, .int .u8 0, .int .u8 0, .int .u8 0, .int .u8 0, .int .u8 0, .int .u8 0, .int .u8 0, .int .u8 0, .int .u8 0, .int .u8 0, .int .u8 0, .int .u8 0, .int .u8 0, .int .u8 0, .int .u8 0, .int .u8 0, .int .u8 0, .int .u8 0, .int .u8 0, .int .u8 0, .int .u8 0, .int .u8 0], [], false⟩),
 (144, ⟨1, 8, (.int .u64), [.int .u64 0], [], false⟩),
 (145, ⟨1, 8, .func, [.nilFunc], [], false⟩),
 (146, ⟨1, 8, .func, [.nilFunc], [], false⟩),
 (148, ⟨1, 8, .func, [.nilFunc], [], false⟩),
 (149, ⟨1, 8, .func, [.nilFunc], [], false⟩),
 (150, ⟨1, 8, (.int .i64), [.int .i64 0], [], false⟩),
 (152, ⟨1, 8, .func, [.nilFunc], [], false⟩),
 (153, ⟨1, 8, .func, [.nilFunc], [], false⟩),
 (154, ⟨1, 8, .func, [.nilFunc], [], false⟩),
 (155, ⟨1, 8, .func, [.nilFunc], [], false⟩),
 (156, ⟨1, 8, .func, [.nilFunc], [], false⟩),
 (157, ⟨1, 4, (.int .u32), [.int .u32 0], [], false⟩),
 (158, ⟨1, 8, .func, [.nilFunc], [], false⟩),
 (159, ⟨1, 8, .func, [.nilFunc], [], false⟩),
 (160, ⟨1, 8, .func, [.nilFunc], [], false⟩),
 (161, ⟨1, 8, (.ptr 116), [.pointer none], [], false⟩),
 (162, ⟨1, 8, .func, [.nilFunc], [], false⟩),
 (163, ⟨1, 24, (.slice 213), [.slice none 0 0], [], false⟩),
 (165, ⟨1, 8, .func, [.nilFunc], [], false⟩),
 (167, ⟨1, 8, .func, [.nilFunc], [], false⟩),
 (168, ⟨1, 8, .func, [.nilFunc], [], false⟩),
 (169, ⟨1, 8, .func, [.nilFunc], [], false⟩),
 (170, ⟨1, 8, .func, [.nilFunc], [], false⟩),
 (171, ⟨1, 8, .func, [.nilFunc], [], false⟩),
 (173, ⟨1, 8, .func, [.nilFunc], [], false⟩),
 (174, ⟨1, 8, .func, [.nilFunc], [], false⟩),
 (175, ⟨20, 160, (.arr 20 144), [.int .u64 0, .int .u64 0, .int .u64 0, .int .u64 0, .int .u64 0, .int .u64 0, .int .u64 0, .int .u64 0, .int .u64 0, .int .u64 0, .int .u64 0, .int .u64 0, .int .u64 0, .int .u64 0, .int .u64 0, .int .u64 0, .int .u64 0, .int .u64 0, .int .u64 0, .int .u64 0], [], false⟩),
 (176, ⟨65, 65, (.arr 65 5), [.int .u8 0, .int .u8 0, .int .u8 0, .int .u8 0, .int .u8 0, .int .u8 0, .int .u8 0, .int .u8 0, .int .u8 0, .int .u8 0, .int .u8 0, .int .u8 0, .int .u8 0, .int .u8 0, .int .u8 0, .int .u8 0, .int .u8 0, .int .u8 0, .int .u8 0, .int .u8 0, .int .u8 0, .int .u8 0, .int .u8 0, .int .u8 0, .int .u8 0, .int .u8 0, .int .u8 0, .int .u8 0, .int .u8 0, .int .u8 0, .int .u8 0, .int .u8 0, .int .u8 0, .int .u8 0, .int .u8 0, .int .u8 0, .int .u8 0, .int .u8 0, .int .u8 0, .int .u8 0, .int .u8 0, .int .u8 0, .int .u8 0, .int .u8 0, .int .u8 0, .int .u8 0, .int .u8 0, .int .u8 0, .int .u8 0, .int .u8 0, .int .u8 0, .int .u8 0, .int .u8 0, .int .u8 0, .int .u8 0, .int .u8 0, .int .u8 0, .int .u8 0, .int .u8 0, .int .u8 0, .int .u8 0, .int .u8 0, .int .u8 0, .int .u8 0, .int .u8 0], [], false⟩),
 (177, ⟨1, 8, .func, [.nilFunc], [], false⟩),
 (178, ⟨1, 8, (.int .u64), [.int .u64 0], [], false⟩),
 (179, ⟨1, 8, .func, [.nilFunc], [], false⟩),
 (180, ⟨1, 8, .func, [.nilFunc], [], false⟩),
 (181, ⟨1, 8, .func, [.nilFunc], [], false⟩),
 (182, ⟨1, 8, (.ptr 3), [.pointer none], [], false⟩)]
theorem tl3_ok : AllOk (fun t i => i.ok Tryz.prog t) tl3 :=
  .cons (tinf_ok Tryz.typeInfo137 Tryz.underlying137 Tryz.zeroValue137 (by kernel_rfl) (by kernel_rfl) (by kernel_rfl) (by kernel_rfl)) <|
  .cons (tinf_ok Tryz.typeInfo138 Tryz.underlying138 Tryz.zeroValue138 (by kernel_rfl) (by kernel_rfl) (by kernel_rfl) (by kernel_rfl)) <|
  .cons (tinf_ok Tryz.typeInfo139 Tryz.underlying139 Tryz.zeroValue139 (by kernel_rfl) (by kernel_rfl) (by kernel_rfl) (by kernel_rfl)) <|
  .cons (tinf_ok Tryz.typeInfo140 Tryz.underlying140 Tryz.zeroValue140 (by kernel_rfl) (by kernel_rfl) (by kernel_rfl) (by kernel_rfl)) <|
  .cons (tinf_ok Tryz.typeInfo142 Tryz.underlying142 Tryz.zeroValue142 (by kernel_rfl) (by kernel_rfl) (by kernel_rfl) (by kernel_rfl)) <|
  .cons (tinf_ok Tryz.typeInfo143 Tryz.underlying143 Tryz.zeroValue143 (by kernel_rfl) (by kernel_rfl) (by kernel_rfl) (by kernel_rfl)) <|
  .cons (tinf_ok Tryz.typeInfo144 Tryz.underlying144 Tryz.zeroValue144 (by kernel_rfl) (by kernel_rfl) (by kernel_rfl) (by kernel_rfl)) <|
  .cons (tinf_ok Tryz.typeInfo145 Tryz.underlying145 Tryz.zeroValue145 (by kernel_rfl) (by kernel_rfl) (by kernel_rfl) (by kernel_rfl)) <|
  .cons (tinf_ok Tryz.typeInfo146 Tryz.underlying146 Tryz.zeroValue146 (by kernel_rfl) (by kernel_rfl) (by kernel_rfl) (by kernel_rfl)) <|
  .cons (tinf_ok Tryz.typeInfo148 Tryz.underlying148 Tryz.zeroValue148 (by kernel_rfl) (by kernel_rfl) (by kernel_rfl) (by kernel_rfl)) <|
  .cons (tinf_ok Tryz.typeInfo149 Tryz.underlying149 Tryz.zeroValue149 (by kernel_rfl) (by kernel_rfl) (by kernel_rfl) (by kernel_rfl)) <|
  .cons (tinf_ok Tryz.typeInfo150 Tryz.underlying150 Tryz.zeroValue150 (by kernel_rfl) (by kernel_rfl) (by kernel_rfl) (by kernel_rfl)) <|
  .cons (tinf_ok Tryz.typeInfo152 Tryz.underlying152 Tryz.zeroValue152 (by kernel_rfl) (by kernel_rfl) (by kernel_rfl) (by kernel_rfl)) <|
  .cons (tinf_ok Tryz.typeInfo153 Tryz.underlying153 Tryz.zeroValue153 (by kernel_rfl) (by kernel_rfl) (by kernel_rfl) (by kernel_rfl)) <|
  .cons (tinf_ok Tryz.typeInfo154 Tryz.underlying154 Tryz.zeroValue154 (by kernel_rfl) (by kernel_rfl) (by kernel_rfl) (by kernel_rfl)) <|
  .cons (tinf_ok Tryz.typeInfo155 Tryz.underlying155 Tryz.zeroValue155 (by kernel_rfl) (by kernel_rfl) (by kernel_rfl) (by kernel_rfl)) <|
  .cons (tinf_ok Tryz.typeInfo156 Tryz.underlying156 Tryz.zeroValue156 (by kernel_rfl) (by kernel_rfl) (by kernel_rfl) (by kernel_rfl)) <|
  .cons (tinf_ok Tryz.typeInfo157 Tryz.underlying157 Tryz.zeroValue157 (by kernel_rfl) (by kernel_rfl) (by kernel_rfl) (by kernel_rfl)) <|
  .cons (tinf_ok Tryz.typeInfo158 Tryz.underlying158 Tryz.zeroValue158 (by kernel_rfl) (by kernel_rfl) (by kernel_rfl) (by kernel_rfl)) <|
  .cons (tinf_ok Tryz.typeInfo159 Tryz.underlying159 Tryz.zeroValue159 (by kernel_rfl) (by kernel_rfl) (by kernel_rfl) (by kernel_rfl)) <|
  .cons (tinf_ok Tryz.typeInfo160 Tryz.underlying160 Tryz.zeroValue160 (by kernel_rfl) (by kernel_rfl) (by kernel_rfl) (by kernel_rfl)) <|
  .cons (tinf_ok Tryz.typeInfo161 Tryz.underlying161 Tryz.zeroValue161 (by kernel_rfl) (by kernel_rfl) (by kernel_rfl) (by kernel_rfl)) <|
  .cons (tinf_ok Tryz.typeInfo162 Tryz.underlying162 Tryz.zeroValue162 (by kernel_rfl) (by kernel_rfl) (by kernel_rfl) (by kernel_rfl)) <|
  .cons (tinf_ok Tryz.typeInfo163 Tryz.underlying163 Tryz.zeroValue163 (by kernel_rfl) (by kernel_rfl) (by kernel_rfl) (by kernel_rfl)) <|
  .cons (tinf_ok Tryz.typeInfo165 Tryz.underlying165 Tryz.zeroValue165 (by kernel_rfl) (by kernel_rfl) (by kernel_rfl) (by kernel_rfl)) <|
  .cons (tinf_ok Tryz.typeInfo167 Tryz.underlying167 Tryz.zeroValue167 (by kernel_rfl) (by kernel_rfl) (by kernel_rfl) (by kernel_rfl)) <|
  .cons (tinf_ok Tryz.typeInfo168 Tryz.underlying168 Tryz.zeroValue168 (by kernel_rfl) (by kernel_rfl) (by kernel_rfl) (by kernel_rfl)) <|
  .cons (tinf_ok Tryz.typeInfo169 Tryz.underlying169 Tryz.zeroValue169 (by kernel_rfl) (by kernel_rfl) (by kernel_rfl) (by kernel_rfl)) <|
  .cons (tinf_ok Tryz.typeInfo170 Tryz.underlying170 Tryz.zeroValue170 (by kernel_rfl) (by kernel_rfl) (by kernel_rfl) (by kernel_rfl)) <|
  .cons (tinf_ok Tryz.typeInfo171 Tryz.underlying171 Tryz.zeroValue171 (by kernel_rfl) (by kernel_rfl) (by kernel_rfl) (by kernel_rfl)) <|
  .cons (tinf_ok Tryz.typeInfo173 Tryz.underlying173 Tryz.zeroValue173 (by kernel_rfl) (by kernel_rfl) (by kernel_rfl) (by kernel_rfl)) <|
  .cons (tinf_ok Tryz.typeInfo174 Tryz.underlying174 Tryz.zeroValue174 (by kernel_rfl) (by kernel_rfl) (by kernel_rfl) (by kernel_rfl)) <|
  .cons (tinf_ok Tryz.typeInfo175 Tryz.underlying175 Tryz.zeroValue175 (by kernel_rfl) (by kernel_rfl) (by kernel_rfl) (by kernel_rfl)) <|
  .cons (tinf_ok Tryz.typeInfo176 Tryz.underlying176 Tryz.zeroValue176 (by kernel_rfl) (by kernel_rfl) (by kernel_rfl) (by kernel_rfl)) <|
  .cons (tinf_ok Tryz.typeInfo177 Tryz.underlying177 Tryz.zeroValue177 (by kernel_rfl) (by kernel_rfl) (by kernel_rfl) (by kernel_rfl)) <|
  .cons (tinf_ok Tryz.typeInfo178 Tryz.underlying178 Tryz.zeroValue178 (by kernel_rfl) (by kernel_rfl) (by kernel_rfl) (by kernel_rfl)) <|
  .cons (tinf_ok Tryz.typeInfo179 Tryz.underlying179 Tryz.zeroValue179 (by kernel_rfl) (by kernel_rfl) (by kernel_rfl) (by kernel_rfl)) <|
  .cons (tinf_ok Tryz.typeInfo180 Tryz.underlying180 Tryz.zeroValue180 (by kernel_rfl) (by kernel_rfl) (by kernel_rfl) (by kernel_rfl)) <|
  .cons (tinf_ok Tryz.typeInfo181 Tryz.underlying181 Tryz.zeroValue181 (by kernel_rfl) (by kernel_rfl) (by kernel_rfl) (by kernel_rfl)) <|
  .cons (tinf_ok Tryz.typeInfo182 Tryz.underlying182 Tryz.zeroValue182 (by kernel_rfl) (by kernel_rfl) (by kernel_rfl) (by kernel_rfl)) <|
  .nil
def tl4 : List (Nat × TInf) := [(183, ⟨1, 8, .func, [.nilFunc], [], false⟩),
 (184, ⟨1, 8, .func, [.nilFunc], [], false⟩),
 (185, ⟨1, 8, .func, [.nilFunc], [], false⟩),
 (186, ⟨1, 8, .func, [.nilFunc], [], false⟩),
 (187, ⟨1, 8, .func, [.nilFunc], [], false⟩),
 (188, ⟨1, 8, (.ptr 4), [.pointer none], [], false⟩),
 (189, ⟨6, 56, (.struct [(0, 9), (1, 3), (2, 3), (3, 3), (4, 182), (5, 188)]), [.string ⟨⟨[]⟩⟩, .int .i64 0, .int .i64 0, .int .i64 0, .pointer none, .pointer none], [], true⟩),
 (190, ⟨6, 56, (.struct [(0, 9), (1, 3), (2, 3), (3, 3), (4, 182), (5, 188)]), [.string ⟨⟨[]⟩⟩, .int .i64 0, .int .i64 0, .int .i64 0, .pointer none, .pointer none], [], true⟩),
 (191, ⟨1, 8, .func, [.nilFunc], [], false⟩),
 (195, ⟨1, 8, .func, [.nilFunc], [], false⟩),
 (196, ⟨1, 8, .func, [.nilFunc], [], false⟩),
 (197, ⟨1, 8, (.ptr 193), [.pointer none], [], false⟩),
 (198, ⟨1, 8, .func, [.nilFunc], [], false⟩),
 (199, ⟨1, 8, .func, [.nilFunc], [], false⟩),
 (200, ⟨1, 8, .func, [.nilFunc], [], false⟩),
 (201, ⟨1, 8, .func, [.nilFunc], [], false⟩),
 (202, ⟨1, 24, (.slice 206), [.slice none 0 0], [], false⟩),
 (204, ⟨1, 8, .func, [.nilFunc], [], false⟩),
 (205, ⟨3, 24, (.struct [(0, 5), (1, 3), (2, 3)]), [.int .u8 0, .int .i64 0, .int .i64 0], [], true⟩),
 (206, ⟨3, 24, (.struct [(0, 5), (1, 3), (2, 3)]), [.int .u8 0, .int .i64 0, .int .i64 0], [], true⟩),
 (207, ⟨1, 8, .func, [.nilFunc], [], false⟩),
 (208, ⟨1, 8, .func, [.nilFunc], [], false⟩),
 (209, ⟨1, 8, .func, [.nilFunc], [], false⟩),
 (210, ⟨3, 24, (.struct [(0, 3), (1, 3), (2, 3)]), [.int .i64 0, .int .i64 0, .int .i64 0], [], true⟩),
 (211, ⟨3, 24, (.struct [(0, 3), (1, 3), (2, 3)]), [.int .i64 0, .int .i64 0, .int .i64 0], [], true⟩),
 (212, ⟨5, 48, (.struct [(0, 3), (1, 9), (2, 3), (3, 3), (4, 4)]), [.int .i64 0, .string ⟨⟨[]⟩⟩, .int .i64 0, .int .i64 0, .bool false], [], true⟩),
 (213, ⟨5, 48, (.struct [(0, 3), (1, 9), (2, 3), (3, 3), (4, 4)]), [.int .i64 0, .string ⟨⟨[]⟩⟩, .int .i64 0, .int .i64 0, .bool false], [], true⟩),
 (214, ⟨1, 8, .func, [.nilFunc], [], false⟩),
 (215, ⟨1, 8, .func, [.nilFunc], [], false⟩),
 (216, ⟨1, 8, .func, [.nilFunc], [], false⟩),
 (217, ⟨1, 8, .func, [.nilFunc], [], false⟩),
 (218, ⟨1, 8, .func, [.nilFunc], [], false⟩),
 (219, ⟨1, 8, .func, [.nilFunc], [], false⟩),
 (220, ⟨1, 24, (.slice 225), [.slice none 0 0], [], false⟩),
 (221, ⟨1, 8, .func, [.nilFunc], [], false⟩),
 (222, ⟨1, 24, (.slice 278), [.slice none 0 0], [], false⟩),
 (223, ⟨1, 8, .func, [.nilFunc], [], false⟩),
 (224, ⟨2, 16, (.struct [(0, 3), (1, 3)]), [.int .i64 0, .int .i64 0], [], true⟩),
 (225, ⟨2, 16, (.struct [(0, 3), (1, 3)]), [.int .i64 0, .int .i64 0], [], true⟩),
 (226, ⟨1, 8, .func, [.nilFunc], [], false⟩)]
theorem tl4_ok : AllOk (fun t i => i.ok Tryz.prog t) tl4 :=
  .cons (tinf_ok Tryz.typeInfo183 Tryz.underlying183 Tryz.zeroValue183 (by kernel_rfl) (by kernel_rfl) (by kernel_rfl) (by kernel_rfl)) <|
  .cons (tinf_ok Tryz.typeInfo184 Tryz.underlying184 Tryz.zeroValue184 (by kernel_rfl) (by kernel_rfl) (by kernel_rfl) (by kernel_rfl)) <|
  .cons (tinf_ok Tryz.typeInfo185 Tryz.underlying185 Tryz.zeroValue185 (by kernel_rfl) (by kernel_rfl) (by kernel_rfl) (by kernel_rfl)) <|
  .cons (tinf_ok Tryz.typeInfo186 Tryz.underlying186 Tryz.zeroValue186 (by kernel_rfl) (by kernel_rfl) (by kernel_rfl) (by kernel_rfl)) <|
  .cons (tinf_ok Tryz.typeInfo187 Tryz.underlying187 Tryz.zeroValue187 (by kernel_rfl) (by kernel_rfl) (by kernel_rfl) (by kernel_rfl)) <|
  .cons (tinf_ok Tryz.typeInfo188 Tryz.underlying188 Tryz.zeroValue188 (by kernel_rfl) (by kernel_rfl) (by kernel_rfl) (by kernel_rfl)) <|
  .cons (tinf_ok Tryz.typeInfo189 Tryz.underlying189 Tryz.zeroValue189 (by kernel_rfl) (by kernel_rfl) (by kernel_rfl) (by kernel_rfl)) <|
  .cons (tinf_ok Tryz.typeInfo190 Tryz.underlying190 Tryz.zeroValue190 (by kernel_rfl) (by kernel_rfl) (by kernel_rfl) (by kernel_rfl)) <|
  .cons (tinf_ok Tryz.typeInfo191 Tryz.underlying191 Tryz.zeroValue191 (by kernel_rfl) (by kernel_rfl) (by kernel_rfl) (by kernel_rfl)) <|
  .cons (tinf_ok Tryz.typeInfo195 Tryz.underlying195 Tryz.zeroValue195 (by kernel_rfl) (by kernel_rfl) (by kernel_rfl) (by kernel_rfl)) <|
  .cons (tinf_ok Tryz.typeInfo196 Tryz.underlying196 Tryz.zeroValue196 (by kernel_rfl) (by kernel_rfl) (by kernel_rfl) (by kernel_rfl)) <|
  .cons (tinf_ok Tryz.typeInfo197 Tryz.underlying197 Tryz.zeroValue197 (by kernel_rfl) (by kernel_rfl) (by kernel_rfl) (by kernel_rfl)) <|
  .cons (tinf_ok Tryz.typeInfo198 Tryz.underlying198 Tryz.zeroValue198 (by kernel_rfl) (by kernel_rfl) (by kernel_rfl) (by kernel_rfl)) <|
  .cons (tinf_ok Tryz.typeInfo199 Tryz.underlying199 Tryz.zeroValue199 (by kernel_rfl) (by kernel_rfl) (by kernel_rfl) (by kernel_rfl)) <|
  .cons (tinf_ok Tryz.typeInfo200 Tryz.underlying200 Tryz.zeroValue200 (by kernel_rfl) (by kernel_rfl) (by kernel_rfl) (by kernel_rfl)) <|
  .cons (tinf_ok Tryz.typeInfo201 Tryz.underlying201 Tryz.zeroValue201 (by kernel_rfl) (by kernel_rfl) (by kernel_rfl) (by kernel_rfl)) <|
  .cons (tinf_ok Tryz.typeInfo202 Tryz.underlying202 Tryz.zeroValue202 (by kernel_rfl) (by kernel_rfl) (by kernel_rfl) (by kernel_rfl)) <|
  .cons (tinf_ok Tryz.typeInfo204 Tryz.underlying204 Tryz.zeroValue204 (by kernel_rfl) (by kernel_rfl) (by kernel_rfl) (by kernel_rfl)) <|
  .cons (tinf_ok Tryz.typeInfo205 Tryz.underlying205 Tryz.zeroValue205 (by kernel_rfl) (by kernel_rfl) (by kernel_rfl) (by kernel_rfl)) <|
  .cons (tinf_ok Tryz.typeInfo206 Tryz.underlying206 Tryz.zeroValue206 (by kernel_rfl) (by kernel_rfl) (by kernel_rfl) (by kernel_rfl)) <|
  .cons (tinf_ok Tryz.typeInfo207 Tryz.underlying207 Tryz.zeroValue207 (by kernel_rfl) (by kernel_rfl) (by kernel_rfl) (by kernel_rfl)) <|
  .cons (tinf_ok Tryz.typeInfo208 Tryz.underlying208 Tryz.zeroValue208 (by kernel_rfl) (by kernel_rfl) (by kernel_rfl) (by kernel_rfl)) <|
  .cons (tinf_ok Tryz.typeInfo209 Tryz.underlying209 Tryz.zeroValue209 (by kernel_rfl) (by kernel_rfl) (by kernel_rfl) (by kernel_rfl)) <|
  .cons (tinf_ok Tryz.typeInfo210 Tryz.underlying210 Tryz.zeroValue210 (by kernel_rfl) (by kernel_rfl) (by kernel_rfl) (by kernel_rfl)) <|
  .cons (tinf_ok Tryz.typeInfo211 Tryz.underlying211 Tryz.zeroValue211 (by kernel_rfl) (by kernel_rfl) (by kernel_rfl) (by kernel_rfl)) <|
  .cons (tinf_ok Tryz.typeInfo212 Tryz.underlying212 Tryz.zeroValue212 (by kernel_rfl) (by kernel_rfl) (by kernel_rfl) (by kernel_rfl)) <|
  .cons (tinf_ok Tryz.typeInfo213 Tryz.underlying213 Tryz.zeroValue213 (by kernel_rfl) (by kernel_rfl) (by kernel_rfl) (by kernel_rfl)) <|
  .cons (tinf_ok Tryz.typeInfo214 Tryz.underlying214 Tryz.zeroValue214 (by kernel_rfl) (by kernel_rfl) (by kernel_rfl) (by kernel_rfl)) <|
  .cons (tinf_ok Tryz.typeInfo215 Tryz.underlying215 Tryz.zeroValue215 (by kernel_rfl) (by kernel_rfl) (by kernel_rfl) (by kernel_rfl)) <|
  .cons (tinf_ok Tryz.typeInfo216 Tryz.underlying216 Tryz.zeroValue216 (by kernel_rfl) (by kernel_rfl) (by kernel_rfl) (by kernel_rfl)) <|
  .cons (tinf_ok Tryz.typeInfo217 Tryz.underlying217 Tryz.zeroValue217 (by kernel_rfl) (by kernel_rfl) (by kernel_rfl) (by kernel_rfl)) <|
  .cons (tinf_ok Tryz.typeInfo218 Tryz.underlying218 Tryz.zeroValue218 (by kernel_rfl) (by kernel_rfl) (by kernel_rfl) (by kernel_rfl)) <|
  .cons (tinf_ok Tryz.typeInfo219 Tryz.underlying219 Tryz.zeroValue219 (by kernel_rfl) (by kernel_rfl) (by kernel_rfl) (by kernel_rfl)) <|
  .cons (tinf_ok Tryz.typeInfo220 Tryz.underlying220 Tryz.zeroValue220 (by kernel_rfl) (by kernel_rfl) (by kernel_rfl) (by kernel_rfl)) <|
  .cons (tinf_ok Tryz.typeInfo221 Tryz.underlying221 Tryz.zeroValue221 (by kernel_rfl) (by kernel_rfl) (by kernel_rfl) (by kernel_rfl)) <|
  .cons (tinf_ok Tryz.typeInfo222 Tryz.underlying222 Tryz.zeroValue222 (by kernel_rfl) (by kernel_rfl) (by kernel_rfl) (by kernel_rfl)) <|
  .cons (tinf_ok Tryz.typeInfo223 Tryz.underlying223 Tryz.zeroValue223 (by kernel_rfl) (by kernel_rfl) (by kernel_rfl) (by kernel_rfl)) <|
  .cons (tinf_ok Tryz.typeInfo224 Tryz.underlying224 Tryz.zeroValue224 (by kernel_rfl) (by kernel_rfl) (by kernel_rfl) (by kernel_rfl)) <|
  .cons (tinf_ok Tryz.typeInfo225 Tryz.underlying225 Tryz.zeroValue225 (by kernel_rfl) (by kernel_rfl) (by kernel_rfl) (by kernel_rfl)) <|
  .cons (tinf_ok Tryz.typeInfo226 Tryz.underlying226 Tryz.zeroValue226 (by kernel_rfl) (by kernel_rfl) (by kernel_rfl) (by kernel_rfl)) <|
  .nil
def tl5 : List (Nat × TInf) := [(227, ⟨1, 24, (.slice 280), [.slice none 0 0], [], false⟩),
 (228, ⟨1, 8, .func, [.nilFunc], [], false⟩),
 (229, ⟨1, 8, .func, [.nilFunc], [], false⟩),
 (230, ⟨1, 8, .func, [.nilFunc], [], false⟩),
 (231, ⟨1, 8, .func, [.nilFunc], [], false⟩),
 (233, ⟨2, 2, (.struct [(0, 5), (1, 5)]), [.int .u8 0, .int .u8 0], [], true⟩),
 (234, ⟨2, 2, (.struct [(0, 5), (1, 5)]), [.int .u8 0, .int .u8 0], [], true⟩),
 (235, ⟨32, 32, (.arr 16 234), [.int .u8 0, .int .u8 0, .int .u8 0, .int .u8 0, .int .u8 0, .int .u8 0, .int .u8 0, .int .u8 0, .int .u8 0, .int .u8 0, .int .u8 0, .int .u8 0, .int .u8 0, .int .u8 0, .int .u8 0, .int .u8 0, .int .u8 0, .int .u8 0, .int .u8 0, .int .u8 0, .int .u8 0, .int .u8 0, .int .u8 0, .int .u8 0, .int .u8 0, .int .u8 0, .int .u8 0, .int .u8 0, .int .u8 0, .int .u8 0, .int .u8 0, .int .u8 0], [], false⟩),
 (236, ⟨1, 8, (.ptr 178), [.pointer none], [], false⟩),
 (238, ⟨1, 8, .func, [.nilFunc], [], false⟩),
 (239, ⟨1, 8, .func, [.nilFunc], [], false⟩),
 (240, ⟨1, 24, (.slice 190), [.slice none 0 0], [], false⟩),
 (241, ⟨1, 8, .func, [.nilFunc], [], false⟩),
 (242, ⟨1, 8, .func, [.nilFunc], [], false⟩),
 (243, ⟨1, 8, .func, [.nilFunc], [], false⟩),
 (244, ⟨1, 8, (.ptr 299), [.pointer none], [], false⟩),
 (246, ⟨1, 8, .func, [.nilFunc], [], false⟩),
 (247, ⟨1, 24, (.slice 255), [.slice none 0 0], [], false⟩),
 (248, ⟨1, 8, .func, [.nilFunc], [], false⟩),
 (249, ⟨1, 24, (.slice 344), [.slice none 0 0], [], false⟩),
 (250, ⟨6, 80, (.struct [(0, 3), (1, 3), (2, 4), (3, 3), (4, 75), (5, 249)]), [.int .i64 0, .int .i64 0, .bool false, .int .i64 0, .slice none 0 0, .slice none 0 0], [], true⟩),
 (251, ⟨6, 80, (.struct [(0, 3), (1, 3), (2, 4), (3, 3), (4, 75), (5, 249)]), [.int .i64 0, .int .i64 0, .bool false, .int .i64 0, .slice none 0 0, .slice none 0 0], [], true⟩),
 (252, ⟨11, 120, (.struct [(0, 3), (1, 3), (2, 3), (3, 3), (4, 3), (5, 251)]), [.int .i64 0, .int .i64 0, .int .i64 0, .int .i64 0, .int .i64 0, .int .i64 0, .int .i64 0, .bool false, .int .i64 0, .slice none 0 0, .slice none 0 0], [], true⟩),
 (253, ⟨11, 120, (.struct [(0, 3), (1, 3), (2, 3), (3, 3), (4, 3), (5, 251)]), [.int .i64 0, .int .i64 0, .int .i64 0, .int .i64 0, .int .i64 0, .int .i64 0, .int .i64 0, .bool false, .int .i64 0, .slice none 0 0, .slice none 0 0], [], true⟩),
 (254, ⟨15, 168, (.struct [(0, 253), (11, 3), (12, 9), (13, 9), (14, 3)]), [.int .i64 0, .int .i64 0, .int .i64 0, .int .i64 0, .int .i64 0, .int .i64 0, .int .i64 0, .bool false, .int .i64 0, .slice none 0 0, .slice none 0 0, .int .i64 0, .string ⟨⟨[]⟩⟩, .string ⟨⟨[]⟩⟩, .int .i64 0], [], true⟩),
 (255, ⟨15, 168, (.struct [(0, 253), (11, 3), (12, 9), (13, 9), (14, 3)]), [.int .i64 0, .int .i64 0, .int .i64 0, .int .i64 0, .int .i64 0, .int .i64 0, .int .i64 0, .bool false, .int .i64 0, .slice none 0 0, .slice none 0 0, .int .i64 0, .string ⟨⟨[]⟩⟩, .string ⟨⟨[]⟩⟩, .int .i64 0], [], true⟩),
 (256, ⟨1, 8, .func, [.nilFunc], [], false⟩),
 (257, ⟨1, 8, .func, [.nilFunc], [], false⟩),
 (258, ⟨1, 8, .func, [.nilFunc], [], false⟩),
 (259, ⟨1, 8, .func, [.nilFunc], [], false⟩),
 (260, ⟨1, 8, .func, [.nilFunc], [], false⟩),
 (261, ⟨1, 8, .func, [.nilFunc], [], false⟩),
 (262, ⟨4, 32, (.struct [(0, 206), (3, 4)]), [.int .u8 0, .int .i64 0, .int .i64 0, .bool false], [], true⟩),
 (263, ⟨4, 32, (.struct [(0, 206), (3, 4)]), [.int .u8 0, .int .i64 0, .int .i64 0, .bool false], [], true⟩),
 (264, ⟨1, 8, .func, [.nilFunc], [], false⟩),
 (266, ⟨1, 8, .func, [.nilFunc], [], false⟩),
 (267, ⟨1, 8, .func, [.nilFunc], [], false⟩),
 (268, ⟨1, 8, .func, [.nilFunc], [], false⟩),
 (269, ⟨1, 8, .func, [.nilFunc], [], false⟩),
 (270, ⟨1, 8, .func, [.nilFunc], [], false⟩)]
theorem tl5_ok : AllOk (fun t i => i.ok Tryz.prog t) tl5 :=
  .cons (tinf_ok Tryz.typeInfo227 Tryz.underlying227 Tryz.zeroValue227 (by kernel_rfl) (by kernel_rfl) (by kernel_rfl) (by kernel_rfl)) <|
  .cons (tinf_ok Tryz.typeInfo228 Tryz.underlying228 Tryz.zeroValue228 (by kernel_rfl) (by kernel_rfl) (by kernel_rfl) (by kernel_rfl)) <|
  .cons (tinf_ok Tryz.typeInfo229 Tryz.underlying229 Tryz.zeroValue229 (by kernel_rfl) (by kernel_rfl) (by kernel_rfl) (by kernel_rfl)) <|
  .cons (tinf_ok Tryz.typeInfo230 Tryz.underlying230 Tryz.zeroValue230 (by kernel_rfl) (by kernel_rfl) (by kernel_rfl) (by kernel_rfl)) <|
  .cons (tinf_ok Tryz.typeInfo231 Tryz.underlying231 Tryz.zeroValue231 (by kernel_rfl) (by kernel_rfl) (by kernel_rfl) (by kernel_rfl)) <|
  .cons (tinf_ok Tryz.typeInfo233 Tryz.underlying233 Tryz.zeroValue233 (by kernel_rfl) (by kernel_rfl) (by kernel_rfl) (by kernel_rfl)) <|
  .cons (tinf_ok Tryz.typeInfo234 Tryz.underlying234 Tryz.zeroValue234 (by kernel_rfl) (by kernel_rfl) (by kernel_rfl) (by kernel_rfl)) <|
  .cons (tinf_ok Tryz.typeInfo235 Tryz.underlying235 Tryz.zeroValue235 (by kernel_rfl) (by kernel_rfl) (by kernel_rfl) (by kernel_rfl)) <|
  .cons (tinf_ok Tryz.typeInfo236 Tryz.underlying236 Tryz.zeroValue236 (by kernel_rfl) (by kernel_rfl) (by kernel_rfl) (by kernel_rfl)) <|
  .cons (tinf_ok Tryz.typeInfo238 Tryz.underlying238 Tryz.zeroValue238 (by kernel_rfl) (by kernel_rfl) (by kernel_rfl) (by kernel_rfl)) <|
  .cons (tinf_ok Tryz.typeInfo239 Tryz.underlying239 Tryz.zeroValue239 (by kernel_rfl) (by kernel_rfl) (by kernel_rfl) (by kernel_rfl)) <|
  .cons (tinf_ok Tryz.typeInfo240 Tryz.underlying240 Tryz.zeroValue240 (by kernel_rfl) (by kernel_rfl) (by kernel_rfl) (by kernel_rfl)) <|
  .cons (tinf_ok Tryz.typeInfo241 Tryz.underlying241 Tryz.zeroValue241 (by kernel_rfl) (by kernel_rfl) (by kernel_rfl) (by kernel_rfl)) <|
  .cons (tinf_ok Tryz.typeInfo242 Tryz.underlying242 Tryz.zeroValue242 (by kernel_rfl) (by kernel_rfl) (by kernel_rfl) (by kernel_rfl)) <|
  .cons (tinf_ok Tryz.typeInfo243 Tryz.underlying243 Tryz.zeroValue243 (by kernel_rfl) (by kernel_rfl) (by kernel_rfl) (by kernel_rfl)) <|
  .cons (tinf_ok Tryz.typeInfo244 Tryz.underlying244 Tryz.zeroValue244 (by kernel_rfl) (by kernel_rfl) (by kernel_rfl) (by kernel_rfl)) <|
  .cons (tinf_ok Tryz.typeInfo246 Tryz.underlying246 Tryz.zeroValue246 (by kernel_rfl) (by kernel_rfl) (by kernel_rfl) (by kernel_rfl)) <|
  .cons (tinf_ok Tryz.typeInfo247 Tryz.underlying247 Tryz.zeroValue247 (by kernel_rfl) (by kernel_rfl) (by kernel_rfl) (by kernel_rfl)) <|
  .cons (tinf_ok Tryz.typeInfo248 Tryz.underlying248 Tryz.zeroValue248 (by kernel_rfl) (by kernel_rfl) (by kernel_rfl) (by kernel_rfl)) <|
  .cons (tinf_ok Tryz.typeInfo249 Tryz.underlying249 Tryz.zeroValue249 (by kernel_rfl) (by kernel_rfl) (by kernel_rfl) (by kernel_rfl)) <|
  .cons (tinf_ok Tryz.typeInfo250 Tryz.underlying250 Tryz.zeroValue250 (by kernel_rfl) (by kernel_rfl) (by kernel_rfl) (by kernel_rfl)) <|
  .cons (tinf_ok Tryz.typeInfo251 Tryz.underlying251 Tryz.zeroValue251 (by kernel_rfl) (by kernel_rfl) (by kernel_rfl) (by kernel_rfl)) <|
  .cons (tinf_ok Tryz.typeInfo252 Tryz.underlying252 Tryz.zeroValue252 (by kernel_rfl) (by kernel_rfl) (by kernel_rfl) (by kernel_rfl)) <|
  .cons (tinf_ok Tryz.typeInfo253 Tryz.underlying253 Tryz.zeroValue253 (by kernel_rfl) (by kernel_rfl) (by kernel_rfl) (by kernel_rfl)) <|
  .cons (tinf_ok Tryz.typeInfo254 Tryz.underlying254 Tryz.zeroValue254 (by kernel_rfl) (by kernel_rfl) (by kernel_rfl) (by kernel_rfl)) <|
  .cons (tinf_ok Tryz.typeInfo255 Tryz.underlying255 Tryz.zeroValue255 (by kernel_rfl) (by kernel_rfl) (by kernel_rfl) (by kernel_rfl)) <|
  .cons (tinf_ok Tryz.typeInfo256 Tryz.underlying256 Tryz.zeroValue256 (by kernel_rfl) (by kernel_rfl) (by kernel_rfl) (by kernel_rfl)) <|
  .cons (tinf_ok Tryz.typeInfo257 Tryz.underlying257 Tryz.zeroValue257 (by kernel_rfl) (by kernel_rfl) (by kernel_rfl) (by kernel_rfl)) <|
  .cons (tinf_ok Tryz.typeInfo258 Tryz.underlying258 Tryz.zeroValue258 (by kernel_rfl) (by kernel_rfl) (by kernel_rfl) (by kernel_rfl)) <|
  .cons (tinf_ok Tryz.typeInfo259 Tryz.underlying259 Tryz.zeroValue259 (by kernel_rfl) (by kernel_rfl) (by kernel_rfl) (by kernel_rfl)) <|
  .cons (tinf_ok Tryz.typeInfo260 Tryz.underlying260 Tryz.zeroValue260 (by kernel_rfl) (by kernel_rfl) (by kernel_rfl) (by kernel_rfl)) <|
  .cons (tinf_ok Tryz.typeInfo261 Tryz.underlying261 Tryz.zeroValue261 (by kernel_rfl) (by kernel_rfl) (by kernel_rfl) (by kernel_rfl)) <|
  .cons (tinf_ok Tryz.typeInfo262 Tryz.underlying262 Tryz.zeroValue262 (by kernel_rfl) (by kernel_rfl) (by kernel_rfl) (by kernel_rfl)) <|
  .cons (tinf_ok Tryz.typeInfo263 Tryz.underlying263 Tryz.zeroValue263 (by kernel_rfl) (by kernel_rfl) (by kernel_rfl) (by kernel_rfl)) <|
  .cons (tinf_ok Tryz.typeInfo264 Tryz.underlying264 Tryz.zeroValue264 (by kernel_rfl) (by kernel_rfl) (by kernel_rfl) (by kernel_rfl)) <|
  .cons (tinf_ok Tryz.typeInfo266 Tryz.underlying266 Tryz.zeroValue266 (by kernel_rfl) (by kernel_rfl) (by kernel_rfl) (by kernel_rfl)) <|
  .cons (tinf_ok Tryz.typeInfo267 Tryz.underlying267 Tryz.zeroValue267 (by kernel_rfl) (by kernel_rfl) (by kernel_rfl) (by kernel_rfl)) <|
  .cons (tinf_ok Tryz.typeInfo268 Tryz.underlying268 Tryz.zeroValue268 (by kernel_rfl) (by kernel_rfl) (by kernel_rfl) (by kernel_rfl)) <|
  .cons (tinf_ok Tryz.typeInfo269 Tryz.underlying269 Tryz.zeroValue269 (by kernel_rfl) (by kernel_rfl) (by kernel_rfl) (by kernel_rfl)) <|
  .cons (tinf_ok Tryz.typeInfo270 Tryz.underlying270 Tryz.zeroValue270 (by kernel_rfl) (by kernel_rfl) (by kernel_rfl) (by kernel_rfl)) <|
  .nil
def tl6 : List (Nat × TInf) := [(271, ⟨1, 24, (.slice 4), [.slice none 0 0], [], false⟩),
 (272, ⟨1, 8, .func, [.nilFunc], [], false⟩),
 (273, ⟨1, 8, .func, [.nilFunc], [], false⟩),
 (274, ⟨1, 8, .func, [.nilFunc], [], false⟩),
 (275, ⟨1, 8, .func, [.nilFunc], [], false⟩),
 (276, ⟨1, 8, .func, [.nilFunc], [], false⟩),
 (277, ⟨2, 16, (.struct [(0, 3), (1, 3)]), [.int .i64 0, .int .i64 0], [], true⟩),
 (278, ⟨2, 16, (.struct [(0, 3), (1, 3)]), [.int .i64 0, .int .i64 0], [], true⟩),
 (279, ⟨3, 48, (.struct [(0, 4), (1, 9), (2, 163)]), [.bool false, .string ⟨⟨[]⟩⟩, .slice none 0 0], [], true⟩),
 (280, ⟨3, 48, (.struct [(0, 4), (1, 9), (2, 163)]), [.bool false, .string ⟨⟨[]⟩⟩, .slice none 0 0], [], true⟩),
 (281, ⟨1, 8, .func, [.nilFunc], [], false⟩),
 (282, ⟨1, 8, .func, [.nilFunc], [], false⟩),
 (283, ⟨1, 8, .func, [.nilFunc], [], false⟩),
 (284, ⟨1, 8, .func, [.nilFunc], [], false⟩),
 (285, ⟨1, 8, .func, [.nilFunc], [], false⟩),
 (286, ⟨1, 8, .func, [.nilFunc], [], false⟩),
 (287, ⟨1, 8, (.ptr 280), [.pointer none], [], false⟩),
 (288, ⟨1, 8, .func, [.nilFunc], [], false⟩),
 (289, ⟨1, 8, .func, [.nilFunc], [], false⟩),
 (290, ⟨1, 8, .func, [.nilFunc], [], false⟩),
 (291, ⟨1, 24, (.slice 75), [.slice none 0 0], [], false⟩),
 (293, ⟨1, 8, .func, [.nilFunc], [], false⟩),
 (294, ⟨1, 8, .func, [.nilFunc], [], false⟩),
 (295, ⟨32, 32, (.arr 32 5), [.int .u8 0, .int .u8 0, .int .u8 0, .int .u8 0, .int .u8 0, .int .u8 0, .int .u8 0, .int .u8 0, .int .u8 0, .int .u8 0, .int .u8 0, .int .u8 0, .int .u8 0, .int .u8 0, .int .u8 0, .int .u8 0, .int .u8 0, .int .u8 0, .int .u8 0, .int .u8 0, .int .u8 0, .int .u8 0, .int .u8 0, .int .u8 0, .int .u8 0, .int .u8 0, .int .u8 0, .int .u8 0, .int .u8 0, .int .u8 0, .int .u8 0, .int .u8 0], [], false⟩),
 (296, ⟨64, 64, (.arr 64 5), [.int .u8 0, .int .u8 0, .int .u8 0, .int .u8 0, .int .u8 0, .int .u8 0, .int .u8 0, .int .u8 0, .int .u8 0, .int .u8 0, .int .u8 0, .int .u8 0, .int .u8 0, .int .u8 0, .int .u8 0, .int .u8 0, .int .u8 0, .int .u8 0, .int .u8 0, .int .u8 0, .int .u8 0, .int .u8 0, .int .u8 0, .int .u8 0, .int .u8 0, .int .u8 0, .int .u8 0, .int .u8 0, .int .u8 0, .int .u8 0, .int .u8 0, .int .u8 0, .int .u8 0, .int .u8 0, .int .u8 0, .int .u8 0, .int .u8 0, .int .u8 0, .int .u8 0, .int .u8 0, .int .u8 0, .int .u8 0, .int .u8 0, .int .u8 0, .int .u8 0, .int .u8 0, .int .u8 0, .int .u8 0, .int .u8 0, .int .u8 0, .int .u8 0, .int .u8 0, .int .u8 0, .int .u8 0, .int .u8 0, .int .u8 0, .int .u8 0, .int .u8 0, .int .u8 0, .int .u8 0, .int .u8 0, .int .u8 0, .int .u8 0, .int .u8 0], [], false⟩),
 (297, ⟨1, 8, .func, [.nilFunc], [], false⟩),
 (298, ⟨20, 168, (.struct [(0, 9), (1, 163), (2, 116)]), [.string ⟨⟨[]⟩⟩, .slice none 0 0, .int .i64 0, .int .i64 0, .int .i64 0, .int .i64 0, .bool false, .bool false, .bool false, .int .i64 0, .int .i64 0, .int .i64 0, .int .i64 0, .int .i64 0, .int .i64 0, .int .i64 0, .int .i64 0, .int .i64 0, .int .i64 0, .int .i64 0], [], true⟩),
 (299, ⟨20, 168, (.struct [(0, 9), (1, 163), (2, 116)]), [.string ⟨⟨[]⟩⟩, .slice none 0 0, .int .i64 0, .int .i64 0, .int .i64 0, .int .i64 0, .bool false, .bool false, .bool false, .int .i64 0, .int .i64 0, .int .i64 0, .int .i64 0, .int .i64 0, .int .i64 0, .int .i64 0, .int .i64 0, .int .i64 0, .int .i64 0, .int .i64 0], [], true⟩),
 (300, ⟨1, 8, .func, [.nilFunc], [], false⟩),
 (301, ⟨1, 8, .func, [.nilFunc], [], false⟩),
 (302, ⟨1, 8, .func, [.nilFunc], [], false⟩),
 (303, ⟨1, 8, .func, [.nilFunc], [], false⟩),
 (304, ⟨1, 8, .func, [.nilFunc], [], false⟩),
 (305, ⟨1, 8, .func, [.nilFunc], [], false⟩),
 (306, ⟨1, 8, .func, [.nilFunc], [], false⟩),
 (307, ⟨1, 8, .func, [.nilFunc], [], false⟩),
 (308, ⟨1, 8, .func, [.nilFunc], [], false⟩),
 (309, ⟨1, 8, .func, [.nilFunc], [], false⟩),
 (310, ⟨1, 24, (.slice 312), [.slice none 0 0], [], false⟩),
 (311, ⟨2, 16, (.struct [(0, 3), (1, 3)]), [.int .i64 0, .int .i64 0], [], true⟩)]
theorem tl6_ok : AllOk (fun t i => i.ok Tryz.prog t) tl6 :=
  .cons (tinf_ok Tryz.typeInfo271 Tryz.underlying271 Tryz.zeroValue271 (by kernel_rfl) (by kernel_rfl) (by kernel_rfl) (by kernel_rfl)) <|
  .cons (tinf_ok Tryz.typeInfo272 Tryz.underlying272 Tryz.zeroValue272 (by kernel_rfl) (by kernel_rfl) (by kernel_rfl) (by kernel_rfl)) <|
  .cons (tinf_ok Tryz.typeInfo273 Tryz.underlying273 Tryz.zeroValue273 (by kernel_rfl) (by kernel_rfl) (by kernel_rfl) (by kernel_rfl)) <|
  .cons (tinf_ok Tryz.typeInfo274 Tryz.underlying274 Tryz.zeroValue274 (by kernel_rfl) (by kernel_rfl) (by kernel_rfl) (by kernel_rfl)) <|
  .cons (tinf_ok Tryz.typeInfo275 Tryz.underlying275 Tryz.zeroValue275 (by kernel_rfl) (by kernel_rfl) (by kernel_rfl) (by kernel_rfl)) <|
  .cons (tinf_ok Tryz.typeInfo276 Tryz.underlying276 Tryz.zeroValue276 (by kernel_rfl) (by kernel_rfl) (by kernel_rfl) (by kernel_rfl)) <|
  .cons (tinf_ok Tryz.typeInfo277 Tryz.underlying277 Tryz.zeroValue277 (by kernel_rfl) (by kernel_rfl) (by kernel_rfl) (by kernel_rfl)) <|
  .cons (tinf_ok Tryz.typeInfo278 Tryz.underlying278 Tryz.zeroValue278 (by kernel_rfl) (by kernel_rfl) (by kernel_rfl) (by kernel_rfl)) <|
  .cons (tinf_ok Tryz.typeInfo279 Tryz.underlying279 Tryz.zeroValue279 (by kernel_rfl) (by kernel_rfl) (by kernel_rfl) (by kernel_rfl)) <|
  .cons (tinf_ok Tryz.typeInfo280 Tryz.underlying280 Tryz.zeroValue280 (by kernel_rfl) (by kernel_rfl) (by kernel_rfl) (by kernel_rfl)) <|
  .cons (tinf_ok Tryz.typeInfo281 Tryz.underlying281 Tryz.zeroValue281 (by kernel_rfl) (by kernel_rfl) (by kernel_rfl) (by kernel_rfl)) <|
  .cons (tinf_ok Tryz.typeInfo282 Tryz.underlying282 Tryz.zeroValue282 (by kernel_rfl) (by kernel_rfl) (by kernel_rfl) (by kernel_rfl)) <|
  .cons (tinf_ok Tryz.typeInfo283 Tryz.underlying283 Tryz.zeroValue283 (by kernel_rfl) (by kernel_rfl) (by kernel_rfl) (by kernel_rfl)) <|
  .cons (tinf_ok Tryz.typeInfo284 Tryz.underlying284 Tryz.zeroValue284 (by kernel_rfl) (by kernel_rfl) (by kernel_rfl) (by kernel_rfl)) <|
  .cons (tinf_ok Tryz.typeInfo285 Tryz.underlying285 Tryz.zeroValue285 (by kernel_rfl) (by kernel_rfl) (by kernel_rfl) (by kernel_rfl)) <|
  .cons (tinf_ok Tryz.typeInfo286 Tryz.underlying286 Tryz.zeroValue286 (by kernel_rfl) (by kernel_rfl) (by kernel_rfl) (by kernel_rfl)) <|
  .cons (tinf_ok Tryz.typeInfo287 Tryz.underlying287 Tryz.zeroValue287 (by kernel_rfl) (by kernel_rfl) (by kernel_rfl) (by kernel_rfl)) <|
  .cons (tinf_ok Tryz.typeInfo288 Tryz.underlying288 Tryz.zeroValue288 (by kernel_rfl) (by kernel_rfl) (by kernel_rfl) (by kernel_rfl)) <|
  .cons (tinf_ok Tryz.typeInfo289 Tryz.underlying289 Tryz.zeroValue289 (by kernel_rfl) (by kernel_rfl) (by kernel_rfl) (by kernel_rfl)) <|
  .cons (tinf_ok Tryz.typeInfo290 Tryz.underlying290 Tryz.zeroValue290 (by kernel_rfl) (by kernel_rfl) (by kernel_rfl) (by kernel_rfl)) <|
  .cons (tinf_ok Tryz.typeInfo291 Tryz.underlying291 Tryz.zeroValue291 (by kernel_rfl) (by kernel_rfl) (by kernel_rfl) (by kernel_rfl)) <|
  .cons (tinf_ok Tryz.typeInfo293 Tryz.underlying293 Tryz.zeroValue293 (by kernel_rfl) (by kernel_rfl) (by kernel_rfl) (by kernel_rfl)) <|
  .cons (tinf_ok Tryz.typeInfo294 Tryz.underlying294 Tryz.zeroValue294 (by kernel_rfl) (by kernel_rfl) (by kernel_rfl) (by kernel_rfl)) <|
  .cons (tinf_ok Tryz.typeInfo295 Tryz.underlying295 Tryz.zeroValue295 (by kernel_rfl) (by kernel_rfl) (by kernel_rfl) (by kernel_rfl)) <|
  .cons (tinf_ok Tryz.typeInfo296 Tryz.underlying296 Tryz.zeroValue296 (by kernel_rfl) (by kernel_rfl) (by kernel_rfl) (by kernel_rfl)) <|
  .cons (tinf_ok Tryz.typeInfo297 Tryz.underlying297 Tryz.zeroValue297 (by kernel_rfl) (by kernel_rfl) (by kernel_rfl) (by kernel_rfl)) <|
  .cons (tinf_ok Tryz.typeInfo298 Tryz.underlying298 Tryz.zeroValue298 (by kernel_rfl) (by kernel_rfl) (by kernel_rfl) (by kernel_rfl)) <|
  .cons (tinf_ok Tryz.typeInfo299 Tryz.underlying299 Tryz.zeroValue299 (by kernel_rfl) (by kernel_rfl) (by kernel_rfl) (by kernel_rfl)) <|
  .cons (tinf_ok Tryz.typeInfo300 Tryz.underlying300 Tryz.zeroValue300 (by kernel_rfl) (by kernel_rfl) (by kernel_rfl) (by kernel_rfl)) <|
  .cons (tinf_ok Tryz.typeInfo301 Tryz.underlying301 Tryz.zeroValue301 (by kernel_rfl) (by kernel_rfl) (by kernel_rfl) (by kernel_rfl)) <|
  .cons (tinf_ok Tryz.typeInfo302 Tryz.underlying302 Tryz.zeroValue302 (by kernel_rfl) (by kernel_rfl) (by kernel_rfl) (by kernel_rfl)) <|
  .cons (tinf_ok Tryz.typeInfo303 Tryz.underlying303 Tryz.zeroValue303 (by kernel_rfl) (by kernel_rfl) (by kernel_rfl) (by kernel_rfl)) <|
  .cons (tinf_ok Tryz.typeInfo304 Tryz.underlying304 Tryz.zeroValue304 (by kernel_rfl) (by kernel_rfl) (by kernel_rfl) (by kernel_rfl)) <|
  .cons (tinf_ok Tryz.typeInfo305 Tryz.underlying305 Tryz.zeroValue305 (by kernel_rfl) (by kernel_rfl) (by kernel_rfl) (by kernel_rfl)) <|
  .cons (tinf_ok Tryz.typeInfo306 Tryz.underlying306 Tryz.zeroValue306 (by kernel_rfl) (by kernel_rfl) (by kernel_rfl) (by kernel_rfl)) <|
  .cons (tinf_ok Tryz.typeInfo307 Tryz.underlying307 Tryz.zeroValue307 (by kernel_rfl) (by kernel_rfl) (by kernel_rfl) (by kernel_rfl)) <|
  .cons (tinf_ok Tryz.typeInfo308 Tryz.underlying308 Tryz.zeroValue308 (by kernel_rfl) (by kernel_rfl) (by kernel_rfl) (by kernel_rfl)) <|
  .cons (tinf_ok Tryz.typeInfo309 Tryz.underlying309 Tryz.zeroValue309 (by kernel_rfl) (by kernel_rfl) (by kernel_rfl) (by kernel_rfl)) <|
  .cons (tinf_ok Tryz.typeInfo310 Tryz.underlying310 Tryz.zeroValue310 (by kernel_rfl) (by kernel_rfl) (by kernel_rfl) (by kernel_rfl)) <|
  .cons (tinf_ok Tryz.typeInfo311 Tryz.underlying311 Tryz.zeroValue311 (by kernel_rfl) (by kernel_rfl) (by kernel_rfl) (by kernel_rfl)) <|
  .nil
def tl7 : List (Nat × TInf) := [(312, ⟨2, 16, (.struct [(0, 3), (1, 3)]), [.int .i64 0, .int .i64 0], [], true⟩),
 (313, ⟨1, 8, .func, [.nilFunc], [], false⟩),
 (314, ⟨1, 8, .func, [.nilFunc], [], false⟩),
 (315, ⟨3, 32, (.struct [(0, 3), (1, 9), (2, 4)]), [.int .i64 0, .string ⟨⟨[]⟩⟩, .bool false], [], true⟩),
 (316, ⟨3, 32, (.struct [(0, 3), (1, 9), (2, 4)]), [.int .i64 0, .string ⟨⟨[]⟩⟩, .bool false], [], true⟩),
 (317, ⟨1, 8, .func, [.nilFunc], [], false⟩),
 (318, ⟨1, 8, .func, [.nilFunc], [], false⟩),
 (319, ⟨1, 8, .func, [.nilFunc], [], false⟩),
 (320, ⟨1, 8, .func, [.nilFunc], [], false⟩),
 (321, ⟨1, 8, (.ptr 332), [.pointer none], [], false⟩),
 (322, ⟨1, 8, .func, [.nilFunc], [], false⟩),
 (323, ⟨1, 8, .func, [.nilFunc], [], false⟩),
 (324, ⟨1, 8, .func, [.nilFunc], [], false⟩),
 (325, ⟨1, 8, .func, [.nilFunc], [], false⟩),
 (326, ⟨1, 8, .func, [.nilFunc], [], false⟩),
 (328, ⟨1, 8, .func, [.nilFunc], [], false⟩),
 (329, ⟨1, 8, .func, [.nilFunc], [], false⟩),
 (330, ⟨1, 8, (.map 9 478), [.map none], [], false⟩),
 (331, ⟨3, 40, (.struct [(0, 321), (1, 330), (2, 291)]), [.pointer none, .map none, .slice none 0 0], [], true⟩),
 (332, ⟨3, 40, (.struct [(0, 321), (1, 330), (2, 291)]), [.pointer none, .map none, .slice none 0 0], [], true⟩),
 (333, ⟨1, 24, (.slice 251), [.slice none 0 0], [], false⟩),
 (335, ⟨1, 8, .func, [.nilFunc], [], false⟩),
 (336, ⟨1, 8, .func, [.nilFunc], [], false⟩),
 (337, ⟨1, 8, .func, [.nilFunc], [], false⟩),
 (338, ⟨1, 8, .func, [.nilFunc], [], false⟩),
 (339, ⟨1, 8, .func, [.nilFunc], [], false⟩),
 (340, ⟨9, 120, (.struct [(0, 251), (6, 3), (7, 271), (8, 2)]), [.int .i64 0, .int .i64 0, .bool false, .int .i64 0, .slice none 0 0, .slice none 0 0, .int .i64 0, .slice none 0 0, .int .i64 0], [], true⟩),
 (341, ⟨9, 120, (.struct [(0, 251), (6, 3), (7, 271), (8, 2)]), [.int .i64 0, .int .i64 0, .bool false, .int .i64 0, .slice none 0 0, .slice none 0 0, .int .i64 0, .slice none 0 0, .int .i64 0], [], true⟩),
 (342, ⟨1, 8, .func, [.nilFunc], [], false⟩),
 (343, ⟨6, 40, (.struct [(0, 3), (1, 3), (2, 4), (3, 4), (4, 3), (5, 3)]), [.int .i64 0, .int .i64 0, .bool false, .bool false, .int .i64 0, .int .i64 0], [], true⟩),
 (344, ⟨6, 40, (.struct [(0, 3), (1, 3), (2, 4), (3, 4), (4, 3), (5, 3)]), [.int .i64 0, .int .i64 0, .bool false, .bool false, .int .i64 0, .int .i64 0], [], true⟩),
 (345, ⟨1, 8, .func, [.nilFunc], [], false⟩),
 (347, ⟨1, 8, .func, [.nilFunc], [], false⟩),
 (349, ⟨1, 8, .func, [.nilFunc], [], false⟩),
 (350, ⟨1, 8, .func, [.nilFunc], [], false⟩),
 (351, ⟨1, 8, .func, [.nilFunc], [], false⟩),
 (352, ⟨1, 24, (.slice 360), [.slice none 0 0], [], false⟩),
 (354, ⟨1, 8, .func, [.nilFunc], [], false⟩),
 (355, ⟨1, 8, (.ptr 385), [.pointer none], [], false⟩),
 (356, ⟨1, 8, .func, [.nilFunc], [], false⟩)]
theorem tl7_ok : AllOk (fun t i => i.ok Tryz.prog t) tl7 :=
  .cons (tinf_ok Tryz.typeInfo312 Tryz.underlying312 Tryz.zeroValue312 (by kernel_rfl) (by kernel_rfl) (by kernel_rfl) (by kernel_rfl)) <|
  .cons (tinf_ok Tryz.typeInfo313 Tryz.underlying313 Tryz.zeroValue313 (by kernel_rfl) (by kernel_rfl) (by kernel_rfl) (by kernel_rfl)) <|
  .cons (tinf_ok Tryz.typeInfo314 Tryz.underlying314 Tryz.zeroValue314 (by kernel_rfl) (by kernel_rfl) (by kernel_rfl) (by kernel_rfl)) <|
  .cons (tinf_ok Tryz.typeInfo315 Tryz.underlying315 Tryz.zeroValue315 (by kernel_rfl) (by kernel_rfl) (by kernel_rfl) (by kernel_rfl)) <|
  .cons (tinf_ok Tryz.typeInfo316 Tryz.underlying316 Tryz.zeroValue316 (by kernel_rfl) (by kernel_rfl) (by kernel_rfl) (by kernel_rfl)) <|
  .cons (tinf_ok Tryz.typeInfo317 Tryz.underlying317 Tryz.zeroValue317 (by kernel_rfl) (by kernel_rfl) (by kernel_rfl) (by kernel_rfl)) <|
  .cons (tinf_ok Tryz.typeInfo318 Tryz.underlying318 Tryz.zeroValue318 (by kernel_rfl) (by kernel_rfl) (by kernel_rfl) (by kernel_rfl)) <|
  .cons (tinf_ok Tryz.typeInfo319 Tryz.underlying319 Tryz.zeroValue319 (by kernel_rfl) (by kernel_rfl) (by kernel_rfl) (by kernel_rfl)) <|
  .cons (tinf_ok Tryz.typeInfo320 Tryz.underlying320 Tryz.zeroValue320 (by kernel_rfl) (by kernel_rfl) (by kernel_rfl) (by kernel_rfl)) <|
  .cons (tinf_ok Tryz.typeInfo321 Tryz.underlying321 Tryz.zeroValue321 (by kernel_rfl) (by kernel_rfl) (by kernel_rfl) (by kernel_rfl)) <|
  .cons (tinf_ok Tryz.typeInfo322 Tryz.underlying322 Tryz.zeroValue322 (by kernel_rfl) (by kernel_rfl) (by kernel_rfl) (by kernel_rfl)) <|
  .cons (tinf_ok Tryz.typeInfo323 Tryz.underlying323 Tryz.zeroValue323 (by kernel_rfl) (by kernel_rfl) (by kernel_rfl) (by kernel_rfl)) <|
  .cons (tinf_ok Tryz.typeInfo324 Tryz.underlying324 Tryz.zeroValue324 (by kernel_rfl) (by kernel_rfl) (by kernel_rfl) (by kernel_rfl)) <|
  .cons (tinf_ok Tryz.typeInfo325 Tryz.underlying325 Tryz.zeroValue325 (by kernel_rfl) (by kernel_rfl) (by kernel_rfl) (by kernel_rfl)) <|
  .cons (tinf_ok Tryz.typeInfo326 Tryz.underlying326 Tryz.zeroValue326 (by kernel_rfl) (by kernel_rfl) (by kernel_rfl) (by kernel_rfl)) <|
  .cons (tinf_ok Tryz.typeInfo328 Tryz.underlying328 Tryz.zeroValue328 (by kernel_rfl) (by kernel_rfl) (by kernel_rfl) (by kernel_rfl)) <|
  .cons (tinf_ok Tryz.typeInfo329 Tryz.underlying329 Tryz.zeroValue329 (by kernel_rfl) (by kernel_rfl) (by kernel_rfl) (by kernel_rfl)) <|
  .cons (tinf_ok Tryz.typeInfo330 Tryz.underlying330 Tryz.zeroValue330 (by kernel_rfl) (by kernel_rfl) (by kernel_rfl) (by kernel_rfl)) <|
  .cons (tinf_ok Tryz.typeInfo331 Tryz.underlying331 Tryz.zeroValue331 (by kernel_rfl) (by kernel_rfl) (by kernel_rfl) (by kernel_rfl)) <|
  .cons (tinf_ok Tryz.typeInfo332 Tryz.underlying332 Tryz.zeroValue332 (by kernel_rfl) (by kernel_rfl) (by kernel_rfl) (by kernel_rfl)) <|
  .cons (tinf_ok Tryz.typeInfo333 Tryz.underlying333 Tryz.zeroValue333 (by kernel_rfl) (by kernel_rfl) (by kernel_rfl) (by kernel_rfl)) <|
  .cons (tinf_ok Tryz.typeInfo335 Tryz.underlying335 Tryz.zeroValue335 (by kernel_rfl) (by kernel_rfl) (by kernel_rfl) (by kernel_rfl)) <|
  .cons (tinf_ok Tryz.typeInfo336 Tryz.underlying336 Tryz.zeroValue336 (by kernel_rfl) (by kernel_rfl) (by kernel_rfl) (by kernel_rfl)) <|
  .cons (tinf_ok Tryz.typeInfo337 Tryz.underlying337 Tryz.zeroValue337 (by kernel_rfl) (by kernel_rfl) (by kernel_rfl) (by kernel_rfl)) <|
  .cons (tinf_ok Tryz.typeInfo338 Tryz.underlying338 Tryz.zeroValue338 (by kernel_rfl) (by kernel_rfl) (by kernel_rfl) (by kernel_rfl)) <|
  .cons (tinf_ok Tryz.typeInfo339 Tryz.underlying339 Tryz.zeroValue339 (by kernel_rfl) (by kernel_rfl) (by kernel_rfl) (by kernel_rfl)) <|
  .cons (tinf_ok Tryz.typeInfo340 Tryz.underlying340 Tryz.zeroValue340 (by kernel_rfl) (by kernel_rfl) (by kernel_rfl) (by kernel_rfl)) <|
  .cons (tinf_ok Tryz.typeInfo341 Tryz.underlying341 Tryz.zeroValue341 (by kernel_rfl) (by kernel_rfl) (by kernel_rfl) (by kernel_rfl)) <|
  .cons (tinf_ok Tryz.typeInfo342 Tryz.underlying342 Tryz.zeroValue342 (by kernel_rfl) (by kernel_rfl) (by kernel_rfl) (by kernel_rfl)) <|
  .cons (tinf_ok Tryz.typeInfo343 Tryz.underlying343 Tryz.zeroValue343 (by kernel_rfl) (by kernel_rfl) (by kernel_rfl) (by kernel_rfl)) <|
  .cons (tinf_ok Tryz.typeInfo344 Tryz.underlying344 Tryz.zeroValue344 (by kernel_rfl) (by kernel_rfl) (by kernel_rfl) (by kernel_rfl)) <|
  .cons (tinf_ok Tryz.typeInfo345 Tryz.underlying345 Tryz.zeroValue345 (by kernel_rfl) (by kernel_rfl) (by kernel_rfl) (by kernel_rfl)) <|
  .cons (tinf_ok Tryz.typeInfo347 Tryz.underlying347 Tryz.zeroValue347 (by kernel_rfl) (by kernel_rfl) (by kernel_rfl) (by kernel_rfl)) <|
  .cons (tinf_ok Tryz.typeInfo349 Tryz.underlying349 Tryz.zeroValue349 (by kernel_rfl) (by kernel_rfl) (by kernel_rfl) (by kernel_rfl)) <|
  .cons (tinf_ok Tryz.typeInfo350 Tryz.underlying350 Tryz.zeroValue350 (by kernel_rfl) (by kernel_rfl) (by kernel_rfl) (by kernel_rfl)) <|
  .cons (tinf_ok Tryz.typeInfo351 Tryz.underlying351 Tryz.zeroValue351 (by kernel_rfl) (by kernel_rfl) (by kernel_rfl) (by kernel_rfl)) <|
  .cons (tinf_ok Tryz.typeInfo352 Tryz.underlying352 Tryz.zeroValue352 (by kernel_rfl) (by kernel_rfl) (by kernel_rfl) (by kernel_rfl)) <|
  .cons (tinf_ok Tryz.typeInfo354 Tryz.underlying354 Tryz.zeroValue354 (by kernel_rfl) (by kernel_rfl) (by kernel_rfl) (by kernel_rfl)) <|
  .cons (tinf_ok Tryz.typeInfo355 Tryz.underlying355 Tryz.zeroValue355 (by kernel_rfl) (by kernel_rfl) (by kernel_rfl) (by kernel_rfl)) <|
  .cons (tinf_ok Tryz.typeInfo356 Tryz.underlying356 Tryz.zeroValue356 (by kernel_rfl) (by kernel_rfl) (by kernel_rfl) (by kernel_rfl)) <|
  .nil
def tl8 : List (Nat × TInf) := [(357, ⟨1, 24, (.slice 364), [.slice none 0 0], [], false⟩),
 (358, ⟨1, 24, (.slice 423), [.slice none 0 0], [], false⟩),
 (359, ⟨5, 72, (.struct [(0, 3), (1, 3), (2, 4), (3, 357), (4, 358)]), [.int .i64 0, .int .i64 0, .bool false, .slice none 0 0, .slice none 0 0], [], true⟩),
 (360, ⟨5, 72, (.struct [(0, 3), (1, 3), (2, 4), (3, 357), (4, 358)]), [.int .i64 0, .int .i64 0, .bool false, .slice none 0 0, .slice none 0 0], [], true⟩),
 (361, ⟨1, 24, (.slice 392), [.slice none 0 0], [], false⟩),
 (362, ⟨1, 8, .func, [.nilFunc], [], false⟩),
 (363, ⟨3, 24, (.struct [(0, 3), (1, 3), (2, 3)]), [.int .i64 0, .int .i64 0, .int .i64 0], [], true⟩),
 (364, ⟨3, 24, (.struct [(0, 3), (1, 3), (2, 3)]), [.int .i64 0, .int .i64 0, .int .i64 0], [], true⟩),
 (365, ⟨1, 8, .func, [.nilFunc], [], false⟩),
 (366, ⟨2, 24, (.struct [(0, 3), (1, 9)]), [.int .i64 0, .string ⟨⟨[]⟩⟩], [], true⟩),
 (367, ⟨2, 24, (.struct [(0, 3), (1, 9)]), [.int .i64 0, .string ⟨⟨[]⟩⟩], [], true⟩),
 (369, ⟨1, 8, .func, [.nilFunc], [], false⟩),
 (371, ⟨1, 8, .func, [.nilFunc], [], false⟩),
 (372, ⟨1, 8, .func, [.nilFunc], [], false⟩),
 (373, ⟨1, 8, .func, [.nilFunc], [], false⟩),
 (375, ⟨1, 8, .func, [.nilFunc], [], false⟩),
 (376, ⟨1, 8, .func, [.nilFunc], [], false⟩),
 (377, ⟨1, 8, .func, [.nilFunc], [], false⟩),
 (378, ⟨1, 24, (.slice 367), [.slice none 0 0], [], false⟩),
 (379, ⟨1, 8, .func, [.nilFunc], [], false⟩),
 (381, ⟨1, 8, .func, [.nilFunc], [], false⟩),
 (382, ⟨1, 8, .func, [.nilFunc], [], false⟩),
 (383, ⟨1, 8, .func, [.nilFunc], [], false⟩),
 (384, ⟨20, 176, (.struct [(0, 163), (1, 291), (2, 116)]), [.slice none 0 0, .slice none 0 0, .int .i64 0, .int .i64 0, .int .i64 0, .int .i64 0, .bool false, .bool false, .bool false, .int .i64 0, .int .i64 0, .int .i64 0, .int .i64 0, .int .i64 0, .int .i64 0, .int .i64 0, .int .i64 0, .int .i64 0, .int .i64 0, .int .i64 0], [], true⟩),
 (385, ⟨20, 176, (.struct [(0, 163), (1, 291), (2, 116)]), [.slice none 0 0, .slice none 0 0, .int .i64 0, .int .i64 0, .int .i64 0, .int .i64 0, .bool false, .bool false, .bool false, .int .i64 0, .int .i64 0, .int .i64 0, .int .i64 0, .int .i64 0, .int .i64 0, .int .i64 0, .int .i64 0, .int .i64 0, .int .i64 0, .int .i64 0], [], true⟩),
 (386, ⟨1, 24, (.slice 390), [.slice none 0 0], [], false⟩),
 (387, ⟨1, 8, .func, [.nilFunc], [], false⟩),
 (388, ⟨1, 8, (.int .i64), [.int .i64 0], [], false⟩),
 (389, ⟨2, 16, (.struct [(0, 388), (1, 3)]), [.int .i64 0, .int .i64 0], [], true⟩),
 (390, ⟨2, 16, (.struct [(0, 388), (1, 3)]), [.int .i64 0, .int .i64 0], [], true⟩),
 (391, ⟨4, 40, (.struct [(0, 367), (2, 390)]), [.int .i64 0, .string ⟨⟨[]⟩⟩, .int .i64 0, .int .i64 0], [], true⟩),
 (392, ⟨4, 40, (.struct [(0, 367), (2, 390)]), [.int .i64 0, .string ⟨⟨[]⟩⟩, .int .i64 0, .int .i64 0], [], true⟩),
 (393, ⟨4, 32, (.struct [(0, 9), (1, 3), (2, 4), (3, 4)]), [.string ⟨⟨[]⟩⟩, .int .i64 0, .bool false, .bool false], [], true⟩),
 (394, ⟨4, 32, (.struct [(0, 9), (1, 3), (2, 4), (3, 4)]), [.string ⟨⟨[]⟩⟩, .int .i64 0, .bool false, .bool false], [], true⟩),
 (395, ⟨1, 8, .func, [.nilFunc], [], false⟩),
 (396, ⟨1, 8, .func, [.nilFunc], [], false⟩),
 (397, ⟨1, 8, .func, [.nilFunc], [], false⟩),
 (399, ⟨1, 8, .func, [.nilFunc], [], false⟩),
 (401, ⟨1, 8, .func, [.nilFunc], [], false⟩),
 (402, ⟨1, 24, (.slice 2), [.slice none 0 0], [], false⟩)]
theorem tl8_ok : AllOk (fun t i => i.ok Tryz.prog t) tl8 :=
  .cons (tinf_ok Tryz.typeInfo357 Tryz.underlying357 Tryz.zeroValue357 (by kernel_rfl) (by kernel_rfl) (by kernel_rfl) (by kernel_rfl)) <|
  .cons (tinf_ok Tryz.typeInfo358 Tryz.underlying358 Tryz.zeroValue358 (by kernel_rfl) (by kernel_rfl) (by kernel_rfl) (by kernel_rfl)) <|
  .cons (tinf_ok Tryz.typeInfo359 Tryz.underlying359 Tryz.zeroValue359 (by kernel_rfl) (by kernel_rfl) (by kernel_rfl) (by kernel_rfl)) <|
  .cons (tinf_ok Tryz.typeInfo360 Tryz.underlying360 Tryz.zeroValue360 (by kernel_rfl) (by kernel_rfl) (by kernel_rfl) (by kernel_rfl)) <|
  .cons (tinf_ok Tryz.typeInfo361 Tryz.underlying361 Tryz.zeroValue361 (by kernel_rfl) (by kernel_rfl) (by kernel_rfl) (by kernel_rfl)) <|
  .cons (tinf_ok Tryz.typeInfo362 Tryz.underlying362 Tryz.zeroValue362 (by kernel_rfl) (by kernel_rfl) (by kernel_rfl) (by kernel_rfl)) <|
  .cons (tinf_ok Tryz.typeInfo363 Tryz.underlying363 Tryz.zeroValue363 (by kernel_rfl) (by kernel_rfl) (by kernel_rfl) (by kernel_rfl)) <|
  .cons (tinf_ok Tryz.typeInfo364 Tryz.underlying364 Tryz.zeroValue364 (by kernel_rfl) (by kernel_rfl) (by kernel_rfl) (by kernel_rfl)) <|
  .cons (tinf_ok Tryz.typeInfo365 Tryz.underlying365 Tryz.zeroValue365 (by kernel_rfl) (by kernel_rfl) (by kernel_rfl) (by kernel_rfl)) <|
  .cons (tinf_ok Tryz.typeInfo366 Tryz.underlying366 Tryz.zeroValue366 (by kernel_rfl) (by kernel_rfl) (by kernel_rfl) (by kernel_rfl)) <|
  .cons (tinf_ok Tryz.typeInfo367 Tryz.underlying367 Tryz.zeroValue367 (by kernel_rfl) (by kernel_rfl) (by kernel_rfl) (by kernel_rfl)) <|
  .cons (tinf_ok Tryz.typeInfo369 Tryz.underlying369 Tryz.zeroValue369 (by kernel_rfl) (by kernel_rfl) (by kernel_rfl) (by kernel_rfl)) <|
  .cons (tinf_ok Tryz.typeInfo371 Tryz.underlying371 Tryz.zeroValue371 (by kernel_rfl) (by kernel_rfl) (by kernel_rfl) (by kernel_rfl)) <|
  .cons (tinf_ok Tryz.typeInfo372 Tryz.underlying372 Tryz.zeroValue372 (by kernel_rfl) (by kernel_rfl) (by kernel_rfl) (by kernel_rfl)) <|
  .cons (tinf_ok Tryz.typeInfo373 Tryz.underlying373 Tryz.zeroValue373 (by kernel_rfl) (by kernel_rfl) (by kernel_rfl) (by kernel_rfl)) <|
  .cons (tinf_ok Tryz.typeInfo375 Tryz.underlying375 Tryz.zeroValue375 (by kernel_rfl) (by kernel_rfl) (by kernel_rfl) (by kernel_rfl)) <|
  .cons (tinf_ok Tryz.typeInfo376 Tryz.underlying376 Tryz.zeroValue376 (by kernel_rfl) (by kernel_rfl) (by kernel_rfl) (by kernel_rfl)) <|
  .cons (tinf_ok Tryz.typeInfo377 Tryz.underlying377 Tryz.zeroValue377 (by kernel_rfl) (by kernel_rfl) (by kernel_rfl) (by kernel_rfl)) <|
  .cons (tinf_ok Tryz.typeInfo378 Tryz.underlying378 Tryz.zeroValue378 (by kernel_rfl) (by kernel_rfl) (by kernel_rfl) (by kernel_rfl)) <|
  .cons (tinf_ok Tryz.typeInfo379 Tryz.underlying379 Tryz.zeroValue379 (by kernel_rfl) (by kernel_rfl) (by kernel_rfl) (by kernel_rfl)) <|
  .cons (tinf_ok Tryz.typeInfo381 Tryz.underlying381 Tryz.zeroValue381 (by kernel_rfl) (by kernel_rfl) (by kernel_rfl) (by kernel_rfl)) <|
  .cons (tinf_ok Tryz.typeInfo382 Tryz.underlying382 Tryz.zeroValue382 (by kernel_rfl) (by kernel_rfl) (by kernel_rfl) (by kernel_rfl)) <|
  .cons (tinf_ok Tryz.typeInfo383 Tryz.underlying383 Tryz.zeroValue383 (by kernel_rfl) (by kernel_rfl) (by kernel_rfl) (by kernel_rfl)) <|
  .cons (tinf_ok Tryz.typeInfo384 Tryz.underlying384 Tryz.zeroValue384 (by kernel_rfl) (by kernel_rfl) (by kernel_rfl) (by kernel_rfl)) <|
  .cons (tinf_ok Tryz.typeInfo385 Tryz.underlying385 Tryz.zeroValue385 (by kernel_rfl) (by kernel_rfl) (by kernel_rfl) (by kernel_rfl)) <|
  .cons (tinf_ok Tryz.typeInfo386 Tryz.underlying386 Tryz.zeroValue386 (by kernel_rfl) (by kernel_rfl) (by kernel_rfl) (by kernel_rfl)) <|
  .cons (tinf_ok Tryz.typeInfo387 Tryz.underlying387 Tryz.zeroValue387 (by kernel_rfl) (by kernel_rfl) (by kernel_rfl) (by kernel_rfl)) <|
  .cons (tinf_ok Tryz.typeInfo388 Tryz.underlying388 Tryz.zeroValue388 (by kernel_rfl) (by kernel_rfl) (by kernel_rfl) (by kernel_rfl)) <|
  .cons (tinf_ok Tryz.typeInfo389 Tryz.underlying389 Tryz.zeroValue389 (by kernel_rfl) (by kernel_rfl) (by kernel_rfl) (by kernel_rfl)) <|
  .cons (tinf_ok Tryz.typeInfo390 Tryz.underlying390 Tryz.zeroValue390 (by kernel_rfl) (by kernel_rfl) (by kernel_rfl) (by kernel_rfl)) <|
  .cons (tinf_ok Tryz.typeInfo391 Tryz.underlying391 Tryz.zeroValue391 (by kernel_rfl) (by kernel_rfl) (by kernel_rfl) (by kernel_rfl)) <|
  .cons (tinf_ok Tryz.typeInfo392 Tryz.underlying392 Tryz.zeroValue392 (by kernel_rfl) (by kernel_rfl) (by kernel_rfl) (by kernel_rfl)) <|
  .cons (tinf_ok Tryz.typeInfo393 Tryz.underlying393 Tryz.zeroValue393 (by kernel_rfl) (by kernel_rfl) (by kernel_rfl) (by kernel_rfl)) <|
  .cons (tinf_ok Tryz.typeInfo394 Tryz.underlying394 Tryz.zeroValue394 (by kernel_rfl) (by kernel_rfl) (by kernel_rfl) (by kernel_rfl)) <|
  .cons (tinf_ok Tryz.typeInfo395 Tryz.underlying395 Tryz.zeroValue395 (by kernel_rfl) (by kernel_rfl) (by kernel_rfl) (by kernel_rfl)) <|
  .cons (tinf_ok Tryz.typeInfo396 Tryz.underlying396 Tryz.zeroValue396 (by kernel_rfl) (by kernel_rfl) (by kernel_rfl) (by kernel_rfl)) <|
  .cons (tinf_ok Tryz.typeInfo397 Tryz.underlying397 Tryz.zeroValue397 (by kernel_rfl) (by kernel_rfl) (by kernel_rfl) (by kernel_rfl)) <|
  .cons (tinf_ok Tryz.typeInfo399 Tryz.underlying399 Tryz.zeroValue399 (by kernel_rfl) (by kernel_rfl) (by kernel_rfl) (by kernel_rfl)) <|
  .cons (tinf_ok Tryz.typeInfo401 Tryz.underlying401 Tryz.zeroValue401 (by kernel_rfl) (by kernel_rfl) (by kernel_rfl) (by kernel_rfl)) <|
  .cons (tinf_ok Tryz.typeInfo402 Tryz.underlying402 Tryz.zeroValue402 (by kernel_rfl) (by kernel_rfl) (by kernel_rfl) (by kernel_rfl)) <|
  .nil
def tl9 : List (Nat × TInf) := [(404, ⟨1, 8, .func, [.nilFunc], [], false⟩),
 (405, ⟨1, 8, .func, [.nilFunc], [], false⟩),
 (406, ⟨1, 8, (.ptr 410), [.pointer none], [], false⟩),
 (407, ⟨1, 8, .func, [.nilFunc], [], false⟩),
 (408, ⟨1, 8, (.ptr 476), [.pointer none], [], false⟩),
 (409, ⟨25, 248, (.struct [(0, 249), (1, 116), (19, 3), (20, 97), (21, 97), (22, 402), (23, 408), (24, 408)]), [.slice none 0 0, .int .i64 0, .int .i64 0, .int .i64 0, .int .i64 0, .bool false, .bool false, .bool false, .int .i64 0, .int .i64 0, .int .i64 0, .int .i64 0, .int .i64 0, .int .i64 0, .int .i64 0, .int .i64 0, .int .i64 0, .int .i64 0, .int .i64 0, .int .i64 0, .slice none 0 0, .slice none 0 0, .slice none 0 0, .pointer none, .pointer none], [], true⟩),
 (410, ⟨25, 248, (.struct [(0, 249), (1, 116), (19, 3), (20, 97), (21, 97), (22, 402), (23, 408), (24, 408)]), [.slice none 0 0, .int .i64 0, .int .i64 0, .int .i64 0, .int .i64 0, .bool false, .bool false, .bool false, .int .i64 0, .int .i64 0, .int .i64 0, .int .i64 0, .int .i64 0, .int .i64 0, .int .i64 0, .int .i64 0, .int .i64 0, .int .i64 0, .int .i64 0, .int .i64 0, .slice none 0 0, .slice none 0 0, .slice none 0 0, .pointer none, .pointer none], [], true⟩),
 (411, ⟨1, 8, .func, [.nilFunc], [], false⟩),
 (412, ⟨1, 8, .func, [.nilFunc], [], false⟩),
 (413, ⟨1, 8, .func, [.nilFunc], [], false⟩),
 (414, ⟨1, 8, .func, [.nilFunc], [], false⟩),
 (415, ⟨1, 8, .func, [.nilFunc], [], false⟩),
 (417, ⟨1, 8, .func, [.nilFunc], [], false⟩),
 (418, ⟨1, 8, (.ptr 421), [.pointer none], [], false⟩),
 (419, ⟨1, 24, (.slice 426), [.slice none 0 0], [], false⟩),
 (420, ⟨5, 120, (.struct [(0, 378), (1, 358), (2, 97), (3, 271), (4, 419)]), [.slice none 0 0, .slice none 0 0, .slice none 0 0, .slice none 0 0, .slice none 0 0], [], true⟩),
 (421, ⟨5, 120, (.struct [(0, 378), (1, 358), (2, 97), (3, 271), (4, 419)]), [.slice none 0 0, .slice none 0 0, .slice none 0 0, .slice none 0 0, .slice none 0 0], [], true⟩),
 (422, ⟨4, 32, (.struct [(0, 3), (1, 3), (2, 3), (3, 3)]), [.int .i64 0, .int .i64 0, .int .i64 0, .int .i64 0], [], true⟩),
 (423, ⟨4, 32, (.struct [(0, 3), (1, 3), (2, 3), (3, 3)]), [.int .i64 0, .int .i64 0, .int .i64 0, .int .i64 0], [], true⟩),
 (424, ⟨1, 8, .func, [.nilFunc], [], false⟩),
 (425, ⟨2, 16, (.struct [(0, 3), (1, 3)]), [.int .i64 0, .int .i64 0], [], true⟩),
 (426, ⟨2, 16, (.struct [(0, 3), (1, 3)]), [.int .i64 0, .int .i64 0], [], true⟩),
 (427, ⟨1, 8, .func, [.nilFunc], [], false⟩),
 (428, ⟨1, 8, .func, [.nilFunc], [], false⟩),
 (429, ⟨1, 8, .func, [.nilFunc], [], false⟩),
 (430, ⟨1, 8, (.ptr 432), [.pointer none], [], false⟩),
 (431, ⟨21, 200, (.struct [(0, 378), (1, 358), (2, 116), (20, 386)]), [.slice none 0 0, .slice none 0 0, .int .i64 0, .int .i64 0, .int .i64 0, .int .i64 0, .bool false, .bool false, .bool false, .int .i64 0, .int .i64 0, .int .i64 0, .int .i64 0, .int .i64 0, .int .i64 0, .int .i64 0, .int .i64 0, .int .i64 0, .int .i64 0, .int .i64 0, .slice none 0 0], [], true⟩),
 (432, ⟨21, 200, (.struct [(0, 378), (1, 358), (2, 116), (20, 386)]), [.slice none 0 0, .slice none 0 0, .int .i64 0, .int .i64 0, .int .i64 0, .int .i64 0, .bool false, .bool false, .bool false, .int .i64 0, .int .i64 0, .int .i64 0, .int .i64 0, .int .i64 0, .int .i64 0, .int .i64 0, .int .i64 0, .int .i64 0, .int .i64 0, .int .i64 0, .slice none 0 0], [], true⟩),
 (433, ⟨1, 8, .func, [.nilFunc], [], false⟩),
 (434, ⟨1, 8, .func, [.nilFunc], [], false⟩),
 (435, ⟨1, 8, .func, [.nilFunc], [], false⟩),
 (437, ⟨1, 8, .func, [.nilFunc], [], false⟩),
 (438, ⟨1, 8, .func, [.nilFunc], [], false⟩),
 (439, ⟨1, 8, .func, [.nilFunc], [], false⟩),
 (440, ⟨1, 8, .func, [.nilFunc], [], false⟩),
 (441, ⟨1, 8, .func, [.nilFunc], [], false⟩),
 (442, ⟨1, 8, .func, [.nilFunc], [], false⟩),
 (443, ⟨1, 8, .func, [.nilFunc], [], false⟩),
 (444, ⟨1, 8, .func, [.nilFunc], [], false⟩),
 (445, ⟨1, 8, .func, [.nilFunc], [], false⟩)]
theorem tl9_ok : AllOk (fun t i => i.ok Tryz.prog t) tl9 :=
  .cons (tinf_ok Tryz.typeInfo404 Tryz.underlying404 Tryz.zeroValue404 (by kernel_rfl) (by kernel_rfl) (by kernel_rfl) (by kernel_rfl)) <|
  .cons (tinf_ok Tryz.typeInfo405 Tryz.underlying405 Tryz.zeroValue405 (by kernel_rfl) (by kernel_rfl) (by kernel_rfl) (by kernel_rfl)) <|
  .cons (tinf_ok Tryz.typeInfo406 Tryz.underlying406 Tryz.zeroValue406 (by kernel_rfl) (by kernel_rfl) (by kernel_rfl) (by kernel_rfl)) <|
  .cons (tinf_ok Tryz.typeInfo407 Tryz.underlying407 Tryz.zeroValue407 (by kernel_rfl) (by kernel_rfl) (by kernel_rfl) (by kernel_rfl)) <|
  .cons (tinf_ok Tryz.typeInfo408 Tryz.underlying408 Tryz.zeroValue408 (by kernel_rfl) (by kernel_rfl) (by kernel_rfl) (by kernel_rfl)) <|
  .cons (tinf_ok Tryz.typeInfo409 Tryz.underlying409 Tryz.zeroValue409 (by kernel_rfl) (by kernel_rfl) (by kernel_rfl) (by kernel_rfl)) <|
  .cons (tinf_ok Tryz.typeInfo410 Tryz.underlying410 Tryz.zeroValue410 (by kernel_rfl) (by kernel_rfl) (by kernel_rfl) (by kernel_rfl)) <|
  .cons (tinf_ok Tryz.typeInfo411 Tryz.underlying411 Tryz.zeroValue411 (by kernel_rfl) (by kernel_rfl) (by kernel_rfl) (by kernel_rfl)) <|
  .cons (tinf_ok Tryz.typeInfo412 Tryz.underlying412 Tryz.zeroValue412 (by kernel_rfl) (by kernel_rfl) (by kernel_rfl) (by kernel_rfl)) <|
  .cons (tinf_ok Tryz.typeInfo413 Tryz.underlying413 Tryz.zeroValue413 (by kernel_rfl) (by kernel_rfl) (by kernel_rfl) (by kernel_rfl)) <|
  .cons (tinf_ok Tryz.typeInfo414 Tryz.underlying414 Tryz.zeroValue414 (by kernel_rfl) (by kernel_rfl) (by kernel_rfl) (by kernel_rfl)) <|
  .cons (tinf_ok Tryz.typeInfo415 Tryz.underlying415 Tryz.zeroValue415 (by kernel_rfl) (by kernel_rfl) (by kernel_rfl) (by kernel_rfl)) <|
  .cons (tinf_ok Tryz.typeInfo417 Tryz.underlying417 Tryz.zeroValue417 (by kernel_rfl) (by kernel_rfl) (by kernel_rfl) (by kernel_rfl)) <|
  .cons (tinf_ok Tryz.typeInfo418 Tryz.underlying418 Tryz.zeroValue418 (by kernel_rfl) (by kernel_rfl) (by kernel_rfl) (by kernel_rfl)) <|
  .cons (tinf_ok Tryz.typeInfo419 Tryz.underlying419 Tryz.zeroValue419 (by kernel_rfl) (by kernel_rfl) (by kernel_rfl) (by kernel_rfl)) <|
  .cons (tinf_ok Tryz.typeInfo420 Tryz.underlying420 Tryz.zeroValue420 (by kernel_rfl) (by kernel_rfl) (by kernel_rfl) (by kernel_rfl)) <|
  .cons (tinf_ok Tryz.typeInfo421 Tryz.underlying421 Tryz.zeroValue421 (by kernel_rfl) (by kernel_rfl) (by kernel_rfl) (by kernel_rfl)) <|
  .cons (tinf_ok Tryz.typeInfo422 Tryz.underlying422 Tryz.zeroValue422 (by kernel_rfl) (by kernel_rfl) (by kernel_rfl) (by kernel_rfl)) <|
  .cons (tinf_ok Tryz.typeInfo423 Tryz.underlying423 Tryz.zeroValue423 (by kernel_rfl) (by kernel_rfl) (by kernel_rfl) (by kernel_rfl)) <|
  .cons (tinf_ok Tryz.typeInfo424 Tryz.underlying424 Tryz.zeroValue424 (by kernel_rfl) (by kernel_rfl) (by kernel_rfl) (by kernel_rfl)) <|
  .cons (tinf_ok Tryz.typeInfo425 Tryz.underlying425 Tryz.zeroValue425 (by kernel_rfl) (by kernel_rfl) (by kernel_rfl) (by kernel_rfl)) <|
  .cons (tinf_ok Tryz.typeInfo426 Tryz.underlying426 Tryz.zeroValue426 (by kernel_rfl) (by kernel_rfl) (by kernel_rfl) (by kernel_rfl)) <|
  .cons (tinf_ok Tryz.typeInfo427 Tryz.underlying427 Tryz.zeroValue427 (by kernel_rfl) (by kernel_rfl) (by kernel_rfl) (by kernel_rfl)) <|
  .cons (tinf_ok Tryz.typeInfo428 Tryz.underlying428 Tryz.zeroValue428 (by kernel_rfl) (by kernel_rfl) (by kernel_rfl) (by kernel_rfl)) <|
  .cons (tinf_ok Tryz.typeInfo429 Tryz.underlying429 Tryz.zeroValue429 (by kernel_rfl) (by kernel_rfl) (by kernel_rfl) (by kernel_rfl)) <|
  .cons (tinf_ok Tryz.typeInfo430 Tryz.underlying430 Tryz.zeroValue430 (by kernel_rfl) (by kernel_rfl) (by kernel_rfl) (by kernel_rfl)) <|
  .cons (tinf_ok Tryz.typeInfo431 Tryz.underlying431 Tryz.zeroValue431 (by kernel_rfl) (by kernel_rfl) (by kernel_rfl) (by kernel_rfl)) <|
  .cons (tinf_ok Tryz.typeInfo432 Tryz.underlying432 Tryz.zeroValue432 (by kernel_rfl) (by kernel_rfl) (by kernel_rfl) (by kernel_rfl)) <|
  .cons (tinf_ok Tryz.typeInfo433 Tryz.underlying433 Tryz.zeroValue433 (by kernel_rfl) (by kernel_rfl) (by kernel_rfl) (by kernel_rfl)) <|
  .cons (tinf_ok Tryz.typeInfo434 Tryz.underlying434 Tryz.zeroValue434 (by kernel_rfl) (by kernel_rfl) (by kernel_rfl) (by kernel_rfl)) <|
  .cons (tinf_ok Tryz.typeInfo435 Tryz.underlying435 Tryz.zeroValue435 (by kernel_rfl) (by kernel_rfl) (by kernel_rfl) (by kernel_rfl)) <|
  .cons (tinf_ok Tryz.typeInfo437 Tryz.underlying437 Tryz.zeroValue437 (by kernel_rfl) (by kernel_rfl) (by kernel_rfl) (by kernel_rfl)) <|
  .cons (tinf_ok Tryz.typeInfo438 Tryz.underlying438 Tryz.zeroValue438 (by kernel_rfl) (by kernel_rfl) (by kernel_rfl) (by kernel_rfl)) <|
  .cons (tinf_ok Tryz.typeInfo439 Tryz.underlying439 Tryz.zeroValue439 (by kernel_rfl) (by kernel_rfl) (by kernel_rfl) (by kernel_rfl)) <|
  .cons (tinf_ok Tryz.typeInfo440 Tryz.underlying440 Tryz.zeroValue440 (by kernel_rfl) (by kernel_rfl) (by kernel_rfl) (by kernel_rfl)) <|
  .cons (tinf_ok Tryz.typeInfo441 Tryz.underlying441 Tryz.zeroValue441 (by kernel_rfl) (by kernel_rfl) (by kernel_rfl) (by kernel_rfl)) <|
  .cons (tinf_ok Tryz.typeInfo442 Tryz.underlying442 Tryz.zeroValue442 (by kernel_rfl) (by kernel_rfl) (by kernel_rfl) (by kernel_rfl)) <|
  .cons (tinf_ok Tryz.typeInfo443 Tryz.underlying443 Tryz.zeroValue443 (by kernel_rfl) (by kernel_rfl) (by kernel_rfl) (by kernel_rfl)) <|
  .cons (tinf_ok Tryz.typeInfo444 Tryz.underlying444 Tryz.zeroValue444 (by kernel_rfl) (by kernel_rfl) (by kernel_rfl) (by kernel_rfl)) <|
  .cons (tinf_ok Tryz.typeInfo445 Tryz.underlying445 Tryz.zeroValue445 (by kernel_rfl) (by kernel_rfl) (by kernel_rfl) (by kernel_rfl)) <|
  .nil
def tl10 : List (Nat × TInf) := [(446, ⟨1, 8, .func, [.nilFunc], [], false⟩),
 (448, ⟨1, 8, .func, [.nilFunc], [], false⟩),
 (449, ⟨1, 8, .func, [.nilFunc], [], false⟩),
 (450, ⟨1, 8, (.ptr 456), [.pointer none], [], false⟩),
 (451, ⟨1, 24, (.slice 500), [.slice none 0 0], [], false⟩),
 (452, ⟨4, 64, (.struct [(0, 321), (1, 61), (2, 451), (3, 97)]), [.pointer none, .map none, .slice none 0 0, .slice none 0 0], [], true⟩),
 (453, ⟨4, 64, (.struct [(0, 321), (1, 61), (2, 451), (3, 97)]), [.pointer none, .map none, .slice none 0 0, .slice none 0 0], [], true⟩),
 (454, ⟨1, 8, .func, [.nilFunc], [], false⟩),
 (455, ⟨7, 120, (.struct [(0, 378), (1, 3), (2, 358), (3, 453)]), [.slice none 0 0, .int .i64 0, .slice none 0 0, .pointer none, .map none, .slice none 0 0, .slice none 0 0], [], true⟩),
 (456, ⟨7, 120, (.struct [(0, 378), (1, 3), (2, 358), (3, 453)]), [.slice none 0 0, .int .i64 0, .slice none 0 0, .pointer none, .map none, .slice none 0 0, .slice none 0 0], [], true⟩),
 (457, ⟨1, 8, .func, [.nilFunc], [], false⟩),
 (458, ⟨1, 8, .func, [.nilFunc], [], false⟩),
 (459, ⟨1, 8, .func, [.nilFunc], [], false⟩),
 (460, ⟨1, 8, .func, [.nilFunc], [], false⟩),
 (461, ⟨2, 24, (.struct [(0, 9), (1, 4)]), [.string ⟨⟨[]⟩⟩, .bool false], [], true⟩),
 (462, ⟨2, 24, (.struct [(0, 9), (1, 4)]), [.string ⟨⟨[]⟩⟩, .bool false], [], true⟩),
 (463, ⟨1, 8, .func, [.nilFunc], [], false⟩),
 (464, ⟨1, 8, .func, [.nilFunc], [], false⟩),
 (465, ⟨1, 8, .func, [.nilFunc], [], false⟩),
 (466, ⟨1, 8, .func, [.nilFunc], [], false⟩),
 (467, ⟨1, 8, .func, [.nilFunc], [], false⟩),
 (468, ⟨1, 8, .func, [.nilFunc], [], false⟩),
 (469, ⟨1, 8, .func, [.nilFunc], [], false⟩),
 (470, ⟨1, 8, .func, [.nilFunc], [], false⟩),
 (471, ⟨1, 8, .func, [.nilFunc], [], false⟩),
 (472, ⟨1, 8, .func, [.nilFunc], [], false⟩),
 (474, ⟨1, 8, .func, [.nilFunc], [], false⟩),
 (475, ⟨3, 56, (.struct [(0, 3), (1, 402), (2, 97)]), [.int .i64 0, .slice none 0 0, .slice none 0 0], [], true⟩),
 (476, ⟨3, 56, (.struct [(0, 3), (1, 402), (2, 97)]), [.int .i64 0, .slice none 0 0, .slice none 0 0], [], true⟩),
 (477, ⟨1, 8, .func, [.nilFunc], [], false⟩),
 (478, ⟨1, 24, (.slice 480), [.slice none 0 0], [], false⟩),
 (479, ⟨2, 16, (.struct [(0, 3), (1, 4)]), [.int .i64 0, .bool false], [], true⟩),
 (480, ⟨2, 16, (.struct [(0, 3), (1, 4)]), [.int .i64 0, .bool false], [], true⟩),
 (481, ⟨1, 8, (.struct [(0, 3)]), [.int .i64 0], [], true⟩),
 (482, ⟨1, 8, (.struct [(0, 3)]), [.int .i64 0], [], true⟩),
 (483, ⟨2, 16, (.struct [(0, 3), (1, 3)]), [.int .i64 0, .int .i64 0], [], true⟩),
 (484, ⟨2, 16, (.struct [(0, 3), (1, 3)]), [.int .i64 0, .int .i64 0], [], true⟩),
 (485, ⟨1, 8, .func, [.nilFunc], [], false⟩),
 (486, ⟨1, 8, .func, [.nilFunc], [], false⟩),
 (487, ⟨1, 24, (.slice 462), [.slice none 0 0], [], false⟩)]
theorem tl10_ok : AllOk (fun t i => i.ok Tryz.prog t) tl10 :=
  .cons (tinf_ok Tryz.typeInfo446 Tryz.underlying446 Tryz.zeroValue446 (by kernel_rfl) (by kernel_rfl) (by kernel_rfl) (by kernel_rfl)) <|
  .cons (tinf_ok Tryz.typeInfo448 Tryz.underlying448 Tryz.zeroValue448 (by kernel_rfl) (by kernel_rfl) (by kernel_rfl) (by kernel_rfl)) <|
  .cons (tinf_ok Tryz.typeInfo449 Tryz.underlying449 Tryz.zeroValue449 (by kernel_rfl) (by kernel_rfl) (by kernel_rfl) (by kernel_rfl)) <|
  .cons (tinf_ok Tryz.typeInfo450 Tryz.underlying450 Tryz.zeroValue450 (by kernel_rfl) (by kernel_rfl) (by kernel_rfl) (by kernel_rfl)) <|
  .cons (tinf_ok Tryz.typeInfo451 Tryz.underlying451 Tryz.zeroValue451 (by kernel_rfl) (by kernel_rfl) (by kernel_rfl) (by kernel_rfl)) <|
  .cons (tinf_ok Tryz.typeInfo452 Tryz.underlying452 Tryz.zeroValue452 (by kernel_rfl) (by kernel_rfl) (by kernel_rfl) (by kernel_rfl)) <|
  .cons (tinf_ok Tryz.typeInfo453 Tryz.underlying453 Tryz.zeroValue453 (by kernel_rfl) (by kernel_rfl) (by kernel_rfl) (by kernel_rfl)) <|
  .cons (tinf_ok Tryz.typeInfo454 Tryz.underlying454 Tryz.zeroValue454 (by kernel_rfl) (by kernel_rfl) (by kernel_rfl) (by kernel_rfl)) <|
  .cons (tinf_ok Tryz.typeInfo455 Tryz.underlying455 Tryz.zeroValue455 (by kernel_rfl) (by kernel_rfl) (by kernel_rfl) (by kernel_rfl)) <|
  .cons (tinf_ok Tryz.typeInfo456 Tryz.underlying456 Tryz.zeroValue456 (by kernel_rfl) (by kernel_rfl) (by kernel_rfl) (by kernel_rfl)) <|
  .cons (tinf_ok Tryz.typeInfo457 Tryz.underlying457 Tryz.zeroValue457 (by kernel_rfl) (by kernel_rfl) (by kernel_rfl) (by kernel_rfl)) <|
  .cons (tinf_ok Tryz.typeInfo458 Tryz.underlying458 Tryz.zeroValue458 (by kernel_rfl) (by kernel_rfl) (by kernel_rfl) (by kernel_rfl)) <|
  .cons (tinf_ok Tryz.typeInfo459 Tryz.underlying459 Tryz.zeroValue459 (by kernel_rfl) (by kernel_rfl) (by kernel_rfl) (by kernel_rfl)) <|
  .cons (tinf_ok Tryz.typeInfo460 Tryz.underlying460 Tryz.zeroValue460 (by kernel_rfl) (by kernel_rfl) (by kernel_rfl) (by kernel_rfl)) <|
  .cons (tinf_ok Tryz.typeInfo461 Tryz.underlying461 Tryz.zeroValue461 (by kernel_rfl) (by kernel_rfl) (by kernel_rfl) (by kernel_rfl)) <|
  .cons (tinf_ok Tryz.typeInfo462 Tryz.underlying462 Tryz.zeroValue462 (by kernel_rfl) (by kernel_rfl) (by kernel_rfl) (by kernel_rfl)) <|
  .cons (tinf_ok Tryz.typeInfo463 Tryz.underlying463 Tryz.zeroValue463 (by kernel_rfl) (by kernel_rfl) (by kernel_rfl) (by kernel_rfl)) <|
  .cons (tinf_ok Tryz.typeInfo464 Tryz.underlying464 Tryz.zeroValue464 (by kernel_rfl) (by kernel_rfl) (by kernel_rfl) (by kernel_rfl)) <|
  .cons (tinf_ok Tryz.typeInfo465 Tryz.underlying465 Tryz.zeroValue465 (by kernel_rfl) (by kernel_rfl) (by kernel_rfl) (by kernel_rfl)) <|
  .cons (tinf_ok Tryz.typeInfo466 Tryz.underlying466 Tryz.zeroValue466 (by kernel_rfl) (by kernel_rfl) (by kernel_rfl) (by kernel_rfl)) <|
  .cons (tinf_ok Tryz.typeInfo467 Tryz.underlying467 Tryz.zeroValue467 (by kernel_rfl) (by kernel_rfl) (by kernel_rfl) (by kernel_rfl)) <|
  .cons (tinf_ok Tryz.typeInfo468 Tryz.underlying468 Tryz.zeroValue468 (by kernel_rfl) (by kernel_rfl) (by kernel_rfl) (by kernel_rfl)) <|
  .cons (tinf_ok Tryz.typeInfo469 Tryz.underlying469 Tryz.zeroValue469 (by kernel_rfl) (by kernel_rfl) (by kernel_rfl) (by kernel_rfl)) <|
  .cons (tinf_ok Tryz.typeInfo470 Tryz.underlying470 Tryz.zeroValue470 (by kernel_rfl) (by kernel_rfl) (by kernel_rfl) (by kernel_rfl)) <|
  .cons (tinf_ok Tryz.typeInfo471 Tryz.underlying471 Tryz.zeroValue471 (by kernel_rfl) (by kernel_rfl) (by kernel_rfl) (by kernel_rfl)) <|
  .cons (tinf_ok Tryz.typeInfo472 Tryz.underlying472 Tryz.zeroValue472 (by kernel_rfl) (by kernel_rfl) (by kernel_rfl) (by kernel_rfl)) <|
  .cons (tinf_ok Tryz.typeInfo474 Tryz.underlying474 Tryz.zeroValue474 (by kernel_rfl) (by kernel_rfl) (by kernel_rfl) (by kernel_rfl)) <|
  .cons (tinf_ok Tryz.typeInfo475 Tryz.underlying475 Tryz.zeroValue475 (by kernel_rfl) (by kernel_rfl) (by kernel_rfl) (by kernel_rfl)) <|
  .cons (tinf_ok Tryz.typeInfo476 Tryz.underlying476 Tryz.zeroValue476 (by kernel_rfl) (by kernel_rfl) (by kernel_rfl) (by kernel_rfl)) <|
  .cons (tinf_ok Tryz.typeInfo477 Tryz.underlying477 Tryz.zeroValue477 (by kernel_rfl) (by kernel_rfl) (by kernel_rfl) (by kernel_rfl)) <|
  .cons (tinf_ok Tryz.typeInfo478 Tryz.underlying478 Tryz.zeroValue478 (by kernel_rfl) (by kernel_rfl) (by kernel_rfl) (by kernel_rfl)) <|
  .cons (tinf_ok Tryz.typeInfo479 Tryz.underlying479 Tryz.zeroValue479 (by kernel_rfl) (by kernel_rfl) (by kernel_rfl) (by kernel_rfl)) <|
  .cons (tinf_ok Tryz.typeInfo480 Tryz.underlying480 Tryz.zeroValue480 (by kernel_rfl) (by kernel_rfl) (by kernel_rfl) (by kernel_rfl)) <|
  .cons (tinf_ok Tryz.typeInfo481 Tryz.underlying481 Tryz.zeroValue481 (by kernel_rfl) (by kernel_rfl) (by kernel_rfl) (by kernel_rfl)) <|
  .cons (tinf_ok Tryz.typeInfo482 Tryz.underlying482 Tryz.zeroValue482 (by kernel_rfl) (by kernel_rfl) (by kernel_rfl) (by kernel_rfl)) <|
  .cons (tinf_ok Tryz.typeInfo483 Tryz.underlying483 Tryz.zeroValue483 (by kernel_rfl) (by kernel_rfl) (by kernel_rfl) (by kernel_rfl)) <|
  .cons (tinf_ok Tryz.typeInfo484 Tryz.underlying484 Tryz.zeroValue484 (by kernel_rfl) (by kernel_rfl) (by kernel_rfl) (by kernel_rfl)) <|
  .cons (tinf_ok Tryz.typeInfo485 Tryz.underlying485 Tryz.zeroValue485 (by kernel_rfl) (by kernel_rfl) (by kernel_rfl) (by kernel_rfl)) <|
  .cons (tinf_ok Tryz.typeInfo486 Tryz.underlying486 Tryz.zeroValue486 (by kernel_rfl) (by kernel_rfl) (by kernel_rfl) (by kernel_rfl)) <|
  .cons (tinf_ok Tryz.typeInfo487 Tryz.underlying487 Tryz.zeroValue487 (by kernel_rfl) (by kernel_rfl) (by kernel_rfl) (by kernel_rfl)) <|
  .nil
def tl11 : List (Nat × TInf) := [(488, ⟨4, 56, (.struct [(0, 4), (1, 9), (2, 3), (3, 487)]), [.bool false, .string ⟨⟨[]⟩⟩, .int .i64 0, .slice none 0 0], [], true⟩),
 (489, ⟨4, 56, (.struct [(0, 4), (1, 9), (2, 3), (3, 487)]), [.bool false, .string ⟨⟨[]⟩⟩, .int .i64 0, .slice none 0 0], [], true⟩),
 (490, ⟨1, 8, .func, [.nilFunc], [], false⟩),
 (491, ⟨1, 8, .func, [.nilFunc], [], false⟩),
 (492, ⟨1, 8, .func, [.nilFunc], [], false⟩),
 (493, ⟨1, 8, .func, [.nilFunc], [], false⟩),
 (494, ⟨1, 8, .func, [.nilFunc], [], false⟩),
 (495, ⟨1, 8, .func, [.nilFunc], [], false⟩),
 (496, ⟨1, 8, .func, [.nilFunc], [], false⟩),
 (497, ⟨1, 8, (.ptr 453), [.pointer none], [], false⟩),
 (498, ⟨1, 8, .func, [.nilFunc], [], false⟩),
 (499, ⟨3, 32, (.struct [(0, 9), (1, 3), (2, 3)]), [.string ⟨⟨[]⟩⟩, .int .i64 0, .int .i64 0], [], true⟩),
 (500, ⟨3, 32, (.struct [(0, 9), (1, 3), (2, 3)]), [.string ⟨⟨[]⟩⟩, .int .i64 0, .int .i64 0], [], true⟩),
 (501, ⟨1, 8, .func, [.nilFunc], [], false⟩),
 (502, ⟨1, 8, .func, [.nilFunc], [], false⟩),
 (503, ⟨1, 8, .func, [.nilFunc], [], false⟩),
 (504, ⟨1, 8, .func, [.nilFunc], [], false⟩),
 (505, ⟨1, 8, .func, [.nilFunc], [], false⟩),
 (506, ⟨1, 8, .func, [.nilFunc], [], false⟩),
 (507, ⟨1, 8, .func, [.nilFunc], [], false⟩),
 (508, ⟨1, 8, .func, [.nilFunc], [], false⟩),
 (509, ⟨1, 8, .func, [.nilFunc], [], false⟩),
 (510, ⟨1, 8, .func, [.nilFunc], [], false⟩),
 (511, ⟨1, 8, .func, [.nilFunc], [], false⟩),
 (512, ⟨1, 8, .func, [.nilFunc], [], false⟩),
 (513, ⟨1, 8, .func, [.nilFunc], [], false⟩),
 (514, ⟨1, 8, (.ptr 489), [.pointer none], [], false⟩),
 (515, ⟨1, 8, .func, [.nilFunc], [], false⟩),
 (516, ⟨1, 8, .func, [.nilFunc], [], false⟩),
 (517, ⟨1, 8, .func, [.nilFunc], [], false⟩),
 (518, ⟨1, 8, .func, [.nilFunc], [], false⟩),
 (519, ⟨1, 8, .func, [.nilFunc], [], false⟩),
 (520, ⟨1, 8, .func, [.nilFunc], [], false⟩),
 (521, ⟨4, 40, (.struct [(0, 17), (1, 17), (2, 17), (3, 9)]), [.pointer none, .pointer none, .pointer none, .string ⟨⟨[]⟩⟩], [], false⟩),
 (522, ⟨4, 40, (.struct [(0, 17), (1, 17), (2, 17), (3, 9)]), [.pointer none, .pointer none, .pointer none, .string ⟨⟨[]⟩⟩], [], false⟩),
 (523, ⟨0, 0, (.arr 0 16), [], [], false⟩),
 (524, ⟨0, 0, (.struct [(0, 523)]), [], [], false⟩),
 (525, ⟨0, 0, (.struct [(0, 523)]), [], [], false⟩),
 (526, ⟨1, 1, (.int .u8), [.int .u8 0], [(0, 526)], false⟩),
 (527, ⟨1, 1, (.int .u8), [.int .u8 0], [(0, 527)], false⟩)]
theorem tl11_ok : AllOk (fun t i => i.ok Tryz.prog t) tl11 :=
  .cons (tinf_ok Tryz.typeInfo488 Tryz.underlying488 Tryz.zeroValue488 (by kernel_rfl) (by kernel_rfl) (by kernel_rfl) (by kernel_rfl)) <|
  .cons (tinf_ok Tryz.typeInfo489 Tryz.underlying489 Tryz.zeroValue489 (by kernel_rfl) (by kernel_rfl) (by kernel_rfl) (by kernel_rfl)) <|
  .cons (tinf_ok Tryz.typeInfo490 Tryz.underlying490 Tryz.zeroValue490 (by kernel_rfl) (by kernel_rfl) (by kernel_rfl) (by kernel_rfl)) <|
  .cons (tinf_ok Tryz.typeInfo491 Tryz.underlying491 Tryz.zeroValue491 (by kernel_rfl) (by kernel_rfl) (by kernel_rfl) (by kernel_rfl)) <|
  .cons (tinf_ok Tryz.typeInfo492 Tryz.underlying492 Tryz.zeroValue492 (by kernel_rfl) (by kernel_rfl) (by kernel_rfl) (by kernel_rfl)) <|
  .cons (tinf_ok Tryz.typeInfo493 Tryz.underlying493 Tryz.zeroValue493 (by kernel_rfl) (by kernel_rfl) (by kernel_rfl) (by kernel_rfl)) <|
  .cons (tinf_ok Tryz.typeInfo494 Tryz.underlying494 Tryz.zeroValue494 (by kernel_rfl) (by kernel_rfl) (by kernel_rfl) (by kernel_rfl)) <|
  .cons (tinf_ok Tryz.typeInfo495 Tryz.underlying495 Tryz.zeroValue495 (by kernel_rfl) (by kernel_rfl) (by kernel_rfl) (by kernel_rfl)) <|
  .cons (tinf_ok Tryz.typeInfo496 Tryz.underlying496 Tryz.zeroValue496 (by kernel_rfl) (by kernel_rfl) (by kernel_rfl) (by kernel_rfl)) <|
  .cons (tinf_ok Tryz.typeInfo497 Tryz.underlying497 Tryz.zeroValue497 (by kernel_rfl) (by kernel_rfl) (by kernel_rfl) (by kernel_rfl)) <|
  .cons (tinf_ok Tryz.typeInfo498 Tryz.underlying498 Tryz.zeroValue498 (by kernel_rfl) (by kernel_rfl) (by kernel_rfl) (by kernel_rfl)) <|
  .cons (tinf_ok Tryz.typeInfo499 Tryz.underlying499 Tryz.zeroValue499 (by kernel_rfl) (by kernel_rfl) (by kernel_rfl) (by kernel_rfl)) <|
  .cons (tinf_ok Tryz.typeInfo500 Tryz.underlying500 Tryz.zeroValue500 (by kernel_rfl) (by kernel_rfl) (by kernel_rfl) (by kernel_rfl)) <|
  .cons (tinf_ok Tryz.typeInfo501 Tryz.underlying501 Tryz.zeroValue501 (by kernel_rfl) (by kernel_rfl) (by kernel_rfl) (by kernel_rfl)) <|
  .cons (tinf_ok Tryz.typeInfo502 Tryz.underlying502 Tryz.zeroValue502 (by kernel_rfl) (by kernel_rfl) (by kernel_rfl) (by kernel_rfl)) <|
  .cons (tinf_ok Tryz.typeInfo503 Tryz.underlying503 Tryz.zeroValue503 (by kernel_rfl) (by kernel_rfl) (by kernel_rfl) (by kernel_rfl)) <|
  .cons (tinf_ok Tryz.typeInfo504 Tryz.underlying504 Tryz.zeroValue504 (by kernel_rfl) (by kernel_rfl) (by kernel_rfl) (by kernel_rfl)) <|
  .cons (tinf_ok Tryz.typeInfo505 Tryz.underlying505 Tryz.zeroValue505 (by kernel_rfl) (by kernel_rfl) (by kernel_rfl) (by kernel_rfl)) <|
  .cons (tinf_ok Tryz.typeInfo506 Tryz.underlying506 Tryz.zeroValue506 (by kernel_rfl) (by kernel_rfl) (by kernel_rfl) (by kernel_rfl)) <|
  .cons (tinf_ok Tryz.typeInfo507 Tryz.underlying507 Tryz.zeroValue507 (by kernel_rfl) (by kernel_rfl) (by kernel_rfl) (by kernel_rfl)) <|
  .cons (tinf_ok Tryz.typeInfo508 Tryz.underlying508 Tryz.zeroValue508 (by kernel_rfl) (by kernel_rfl) (by kernel_rfl) (by kernel_rfl)) <|
  .cons (tinf_ok Tryz.typeInfo509 Tryz.underlying509 Tryz.zeroValue509 (by kernel_rfl) (by kernel_rfl) (by kernel_rfl) (by kernel_rfl)) <|
  .cons (tinf_ok Tryz.typeInfo510 Tryz.underlying510 Tryz.zeroValue510 (by kernel_rfl) (by kernel_rfl) (by kernel_rfl) (by kernel_rfl)) <|
  .cons (tinf_ok Tryz.typeInfo511 Tryz.underlying511 Tryz.zeroValue511 (by kernel_rfl) (by kernel_rfl) (by kernel_rfl) (by kernel_rfl)) <|
  .cons (tinf_ok Tryz.typeInfo512 Tryz.underlying512 Tryz.zeroValue512 (by kernel_rfl) (by kernel_rfl) (by kernel_rfl) (by kernel_rfl)) <|
  .cons (tinf_ok Tryz.typeInfo513 Tryz.underlying513 Tryz.zeroValue513 (by kernel_rfl) (by kernel_rfl) (by kernel_rfl) (by kernel_rfl)) <|
  .cons (tinf_ok Tryz.typeInfo514 Tryz.underlying514 Tryz.zeroValue514 (by kernel_rfl) (by kernel_rfl) (by kernel_rfl) (by kernel_rfl)) <|
  .cons (tinf_ok Tryz.typeInfo515 Tryz.underlying515 Tryz.zeroValue515 (by kernel_rfl) (by kernel_rfl) (by kernel_rfl) (by kernel_rfl)) <|
  .cons (tinf_ok Tryz.typeInfo516 Tryz.underlying516 Tryz.zeroValue516 (by kernel_rfl) (by kernel_rfl) (by kernel_rfl) (by kernel_rfl)) <|
  .cons (tinf_ok Tryz.typeInfo517 Tryz.underlying517 Tryz.zeroValue517 (by kernel_rfl) (by kernel_rfl) (by kernel_rfl) (by kernel_rfl)) <|
  .cons (tinf_ok Tryz.typeInfo518 Tryz.underlying518 Tryz.zeroValue518 (by kernel_rfl) (by kernel_rfl) (by kernel_rfl) (by kernel_rfl)) <|
  .cons (tinf_ok Tryz.typeInfo519 Tryz.underlying519 Tryz.zeroValue519 (by kernel_rfl) (by kernel_rfl) (by kernel_rfl) (by kernel_rfl)) <|
  .cons (tinf_ok Tryz.typeInfo520 Tryz.underlying520 Tryz.zeroValue520 (by kernel_rfl) (by kernel_rfl) (by kernel_rfl) (by kernel_rfl)) <|
  .cons (tinf_ok Tryz.typeInfo521 Tryz.underlying521 Tryz.zeroValue521 (by kernel_rfl) (by kernel_rfl) (by kernel_rfl) (by kernel_rfl)) <|
  .cons (tinf_ok Tryz.typeInfo522 Tryz.underlying522 Tryz.zeroValue522 (by kernel_rfl) (by kernel_rfl) (by kernel_rfl) (by kernel_rfl)) <|
  .cons (tinf_ok Tryz.typeInfo523 Tryz.underlying523 Tryz.zeroValue523 (by kernel_rfl) (by kernel_rfl) (by kernel_rfl) (by kernel_rfl)) <|
  .cons (tinf_ok Tryz.typeInfo524 Tryz.underlying524 Tryz.zeroValue524 (by kernel_rfl) (by kernel_rfl) (by kernel_rfl) (by kernel_rfl)) <|
  .cons (tinf_ok Tryz.typeInfo525 Tryz.underlying525 Tryz.zeroValue525 (by kernel_rfl) (by kernel_rfl) (by kernel_rfl) (by kernel_rfl)) <|
  .cons (tinf_ok Tryz.typeInfo526 Tryz.underlying526 Tryz.zeroValue526 (by kernel_rfl) (by kernel_rfl) (by kernel_rfl) (by kernel_rfl)) <|
  .cons (tinf_ok Tryz.typeInfo527 Tryz.underlying527 Tryz.zeroValue527 (by kernel_rfl) (by kernel_rfl) (by kernel_rfl) (by kernel_rfl)) <|
  .nil
def tl12 : List (Nat × TInf) := [(528, ⟨1, 8, .func, [.nilFunc], [], false⟩),
 (529, ⟨1, 4, (.int .i32), [.int .i32 0], [], false⟩),
 (530, ⟨1, 4, (.int .i32), [.int .i32 0], [], false⟩),
 (531, ⟨11, 48, (.struct [(0, 12), (1, 12), (2, 157), (3, 526), (4, 5), (5, 5), (6, 527), (7, 528), (8, 85), (9, 529), (10, 530)]), [.int .u64 0, .int .u64 0, .int .u32 0, .int .u8 0, .int .u8 0, .int .u8 0, .int .u8 0, .nilFunc, .pointer none, .int .i32 0, .int .i32 0], [], false⟩),
 (532, ⟨11, 48, (.struct [(0, 12), (1, 12), (2, 157), (3, 526), (4, 5), (5, 5), (6, 527), (7, 528), (8, 85), (9, 529), (10, 530)]), [.int .u64 0, .int .u64 0, .int .u32 0, .int .u8 0, .int .u8 0, .int .u8 0, .int .u8 0, .nilFunc, .pointer none, .int .i32 0, .int .i32 0], [], false⟩)]
theorem tl12_ok : AllOk (fun t i => i.ok Tryz.prog t) tl12 :=
  .cons (tinf_ok Tryz.typeInfo528 Tryz.underlying528 Tryz.zeroValue528 (by kernel_rfl) (by kernel_rfl) (by kernel_rfl) (by kernel_rfl)) <|
  .cons (tinf_ok Tryz.typeInfo529 Tryz.underlying529 Tryz.zeroValue529 (by kernel_rfl) (by kernel_rfl) (by kernel_rfl) (by kernel_rfl)) <|
  .cons (tinf_ok Tryz.typeInfo530 Tryz.underlying530 Tryz.zeroValue530 (by kernel_rfl) (by kernel_rfl) (by kernel_rfl) (by kernel_rfl)) <|
  .cons (tinf_ok Tryz.typeInfo531 Tryz.underlying531 Tryz.zeroValue531 (by kernel_rfl) (by kernel_rfl) (by kernel_rfl) (by kernel_rfl)) <|
  .cons (tinf_ok Tryz.typeInfo532 Tryz.underlying532 Tryz.zeroValue532 (by kernel_rfl) (by kernel_rfl) (by kernel_rfl) (by kernel_rfl)) <|
  .nil
def tl : List (Nat × TInf) := tl0 ++ (tl1 ++ (tl2 ++ (tl3 ++ (tl4 ++ (tl5 ++ (tl6 ++ (tl7 ++ (tl8 ++ (tl9 ++ (tl10 ++ (tl11 ++ (tl12))))))))))))
noncomputable def Tb : Nat → Option TInf := fun t => (ofL tl).get t
theorem tb_ok : TOk Tryz.prog Tb := tok_of (tl0_ok.append (tl1_ok.append (tl2_ok.append (tl3_ok.append (tl4_ok.append (tl5_ok.append (tl6_ok.append (tl7_ok.append (tl8_ok.append (tl9_ok.append (tl10_ok.append (tl11_ok.append (tl12_ok)))))))))))))
theorem tb_cst : TCst Tb := tcst_of (by kernel_rfl)
noncomputable def fl0 : List (Nat × FI) := [(3, fiOf Tryz.f3), (4, fiOf Tryz.f4), (5, fiOf Tryz.f5), (6, fiOf Tryz.f6), (7, fiOf Tryz.f7), (8, fiOf Tryz.f8), (9, fiOf Tryz.f9), (10, fiOf Tryz.f10), (11, fiOf Tryz.f11), (12, fiOf Tryz.f12), (13, fiOf Tryz.f13), (14, fiOf Tryz.f14), (15, fiOf Tryz.f15), (16, fiOf Tryz.f16), (17, fiOf Tryz.f17), (18, fiOf Tryz.f18), (19, fiOf Tryz.f19), (20, fiOf Tryz.f20), (21, fiOf Tryz.f21), (22, fiOf Tryz.f22), (23, fiOf Tryz.f23), (24, fiOf Tryz.f24), (25, fiOf Tryz.f25), (26, fiOf Tryz.f26), (27, fiOf Tryz.f27), (28, fiOf Tryz.f28), (29, fiOf Tryz.f29), (30, fiOf Tryz.f30), (31, fiOf Tryz.f31), (32, fiOf Tryz.f32), (33, fiOf Tryz.f33), (34, fiOf Tryz.f34), (35, fiOf Tryz.f35), (36, fiOf Tryz.f36), (37, fiOf Tryz.f37), (38, fiOf Tryz.f38), (39, fiOf Tryz.f39), (40, fiOf Tryz.f40), (41, fiOf Tryz.f41), (42, fiOf Tryz.f42)]
theorem fl0_ok : AllOk (fun g i => FIOk Tryz.prog g i) fl0 :=
  .cons (fiOf_ok Tryz.func3 (by kernel_rfl)) <|
  .cons (fiOf_ok Tryz.func4 (by kernel_rfl)) <|
  .cons (fiOf_ok Tryz.func5 (by kernel_rfl)) <|
  .cons (fiOf_ok Tryz.func6 (by kernel_rfl)) <|
  .cons (fiOf_ok Tryz.func7 (by kernel_rfl)) <|
  .cons (fiOf_ok Tryz.func8 (by kernel_rfl)) <|
  .cons (fiOf_ok Tryz.func9 (by kernel_rfl)) <|
  .cons (fiOf_ok Tryz.func10 (by kernel_rfl)) <|
  .cons (fiOf_ok Tryz.func11 (by kernel_rfl)) <|
  .cons (fiOf_ok Tryz.func12 (by kernel_rfl)) <|
  .cons (fiOf_ok Tryz.func13 (by kernel_rfl)) <|
  .cons (fiOf_ok Tryz.func14 (by kernel_rfl)) <|
  .cons (fiOf_ok Tryz.func15 (by kernel_rfl)) <|
  .cons (fiOf_ok Tryz.func16 (by kernel_rfl)) <|
  .cons (fiOf_ok Tryz.func17 (by kernel_rfl)) <|
  .cons (fiOf_ok Tryz.func18 (by kernel_rfl)) <|
  .cons (fiOf_ok Tryz.func19 (by kernel_rfl)) <|
  .cons (fiOf_ok Tryz.func20 (by kernel_rfl)) <|
  .cons (fiOf_ok Tryz.func21 (by kernel_rfl)) <|
  .cons (fiOf_ok Tryz.func22 (by kernel_rfl)) <|
  .cons (fiOf_ok Tryz.func23 (by kernel_rfl)) <|
  .cons (fiOf_ok Tryz.func24 (by kernel_rfl)) <|
  .cons (fiOf_ok Tryz.func25 (by kernel_rfl)) <|
  .cons (fiOf_ok Tryz.func26 (by kernel_rfl)) <|
  .cons (fiOf_ok Tryz.func27 (by kernel_rfl)) <|
  .cons (fiOf_ok Tryz.func28 (by kernel_rfl)) <|
  .cons (fiOf_ok Tryz.func29 (by kernel_rfl)) <|
  .cons (fiOf_ok Tryz.func30 (by kernel_rfl)) <|
  .cons (fiOf_ok Tryz.func31 (by kernel_rfl)) <|
  .cons (fiOf_ok Tryz.func32 (by kernel_rfl)) <|
  .cons (fiOf_ok Tryz.func33 (by kernel_rfl)) <|
  .cons (fiOf_ok Tryz.func34 (by kernel_rfl)) <|
  .cons (fiOf_ok Tryz.func35 (by kernel_rfl)) <|
  .cons (fiOf_ok Tryz.func36 (by kernel_rfl)) <|
  .cons (fiOf_ok Tryz.func37 (by kernel_rfl)) <|
  .cons (fiOf_ok Tryz.func38 (by kernel_rfl)) <|
  .cons (fiOf_ok Tryz.func39 (by kernel_rfl)) <|
  .cons (fiOf_ok Tryz.func40 (by kernel_rfl)) <|
  .cons (fiOf_ok Tryz.func41 (by kernel_rfl)) <|
  .cons (fiOf_ok Tryz.func42 (by kernel_rfl)) <|
  .nil
noncomputable def fl1 : List (Nat × FI) := [(43, fiOf Tryz.f43), (44, fiOf Tryz.f44), (45, fiOf Tryz.f45), (46, fiOf Tryz.f46), (47, fiOf Tryz.f47), (48, fiOf Tryz.f48), (49, fiOf Tryz.f49), (50, fiOf Tryz.f50), (51, fiOf Tryz.f51), (52, fiOf Tryz.f52), (53, fiOf Tryz.f53), (54, fiOf Tryz.f54), (56, fiOf Tryz.f56), (57, fiOf Tryz.f57), (58, fiOf Tryz.f58), (59, fiOf Tryz.f59), (61, fiOf Tryz.f61), (62, fiOf Tryz.f62), (63, fiOf Tryz.f63), (64, fiOf Tryz.f64), (65, fiOf Tryz.f65), (66, fiOf Tryz.f66), (67, fiOf Tryz.f67), (68, fiOf Tryz.f68), (69, fiOf Tryz.f69), (70, fiOf Tryz.f70), (71, fiOf Tryz.f71), (72, fiOf Tryz.f72), (73, fiOf Tryz.f73), (74, fiOf Tryz.f74), (75, fiOf Tryz.f75), (76, fiOf Tryz.f76), (77, fiOf Tryz.f77), (78, fiOf Tryz.f78), (79, fiOf Tryz.f79), (80, fiOf Tryz.f80), (81, fiOf Tryz.f81), (82, fiOf Tryz.f82), (83, fiOf Tryz.f83), (84, fiOf Tryz.f84)]
theorem fl1_ok : AllOk (fun g i => FIOk Tryz.prog g i) fl1 :=
  .cons (fiOf_ok Tryz.func43 (by kernel_rfl)) <|
  .cons (fiOf_ok Tryz.func44 (by kernel_rfl)) <|
  .cons (fiOf_ok Tryz.func45 (by kernel_rfl)) <|
  .cons (fiOf_ok Tryz.func46 (by kernel_rfl)) <|
  .cons (fiOf_ok Tryz.func47 (by kernel_rfl)) <|
  .cons (fiOf_ok Tryz.func48 (by kernel_rfl)) <|
  .cons (fiOf_ok Tryz.func49 (by kernel_rfl)) <|
  .cons (fiOf_ok Tryz.func50 (by kernel_rfl)) <|
  .cons (fiOf_ok Tryz.func51 (by kernel_rfl)) <|
  .cons (fiOf_ok Tryz.func52 (by kernel_rfl)) <|
  .cons (fiOf_ok Tryz.func53 (by kernel_rfl)) <|
  .cons (fiOf_ok Tryz.func54 (by kernel_rfl)) <|
  .cons (fiOf_ok Tryz.func56 (by kernel_rfl)) <|
  .cons (fiOf_ok Tryz.func57 (by kernel_rfl)) <|
  .cons (fiOf_ok Tryz.func58 (by kernel_rfl)) <|
  .cons (fiOf_ok Tryz.func59 (by kernel_rfl)) <|
  .cons (fiOf_ok Tryz.func61 (by kernel_rfl)) <|
  .cons (fiOf_ok Tryz.func62 (by kernel_rfl)) <|
  .cons (fiOf_ok Tryz.func63 (by kernel_rfl)) <|
  .cons (fiOf_ok Tryz.func64 (by kernel_rfl)) <|
  .cons (fiOf_ok Tryz.func65 (by kernel_rfl)) <|
  .cons (fiOf_ok Tryz.func66 (by kernel_rfl)) <|
  .cons (fiOf_ok Tryz.func67 (by kernel_rfl)) <|
  .cons (fiOf_ok Tryz.func68 (by kernel_rfl)) <|
  .cons (fiOf_ok Tryz.func69 (by kernel_rfl)) <|
  .cons (fiOf_ok Tryz.func70 (by kernel_rfl)) <|
  .cons (fiOf_ok Tryz.func71 (by kernel_rfl)) <|
  .cons (fiOf_ok Tryz.func72 (by kernel_rfl)) <|
  .cons (fiOf_ok Tryz.func73 (by kernel_rfl)) <|
  .cons (fiOf_ok Tryz.func74 (by kernel_rfl)) <|
  .cons (fiOf_ok Tryz.func75 (by kernel_rfl)) <|
  .cons (fiOf_ok Tryz.func76 (by kernel_rfl)) <|
  .cons (fiOf_ok Tryz.func77 (by kernel_rfl)) <|
  .cons (fiOf_ok Tryz.func78 (by kernel_rfl)) <|
  .cons (fiOf_ok Tryz.func79 (by kernel_rfl)) <|
  .cons (fiOf_ok Tryz.func80 (by kernel_rfl)) <|
  .cons (fiOf_ok Tryz.func81 (by kernel_rfl)) <|
  .cons (fiOf_ok Tryz.func82 (by kernel_rfl)) <|
  .cons (fiOf_ok Tryz.func83 (by kernel_rfl)) <|
  .cons (fiOf_ok Tryz.func84 (by kernel_rfl)) <|
  .nil
noncomputable def fl2 : List (Nat × FI) := [(85, fiOf Tryz.f85), (86, fiOf Tryz.f86), (88, fiOf Tryz.f88), (89, fiOf Tryz.f89), (90, fiOf Tryz.f90), (91, fiOf Tryz.f91), (92, fiOf Tryz.f92), (93, fiOf Tryz.f93), (94, fiOf Tryz.f94), (95, fiOf Tryz.f95), (96, fiOf Tryz.f96), (97, fiOf Tryz.f97), (98, fiOf Tryz.f98), (99, fiOf Tryz.f99), (100, fiOf Tryz.f100), (101, fiOf Tryz.f101), (102, fiOf Tryz.f102), (103, fiOf Tryz.f103), (104, fiOf Tryz.f104), (105, fiOf Tryz.f105), (106, fiOf Tryz.f106), (107, fiOf Tryz.f107), (108, fiOf Tryz.f108), (109, fiOf Tryz.f109), (110, fiOf Tryz.f110), (111, fiOf Tryz.f111), (112, fiOf Tryz.f112), (113, fiOf Tryz.f113), (114, fiOf Tryz.f114), (115, fiOf Tryz.f115), (116, fiOf Tryz.f116), (117, fiOf Tryz.f117), (118, fiOf Tryz.f118), (119, fiOf Tryz.f119), (120, fiOf Tryz.f120), (121, fiOf Tryz.f121), (122, fiOf Tryz.f122), (125, fiOf Tryz.f125), (126, fiOf Tryz.f126), (127, fiOf Tryz.f127)]
theorem fl2_ok : AllOk (fun g i => FIOk Tryz.prog g i) fl2 :=
  .cons (fiOf_ok Tryz.func85 (by kernel_rfl)) <|
  .cons (fiOf_ok Tryz.func86 (by kernel_rfl)) <|
  .cons (fiOf_ok Tryz.func88 (by kernel_rfl)) <|
  .cons (fiOf_ok Tryz.func89 (by kernel_rfl)) <|
  .cons (fiOf_ok Tryz.func90 (by kernel_rfl)) <|
  .cons (fiOf_ok Tryz.func91 (by kernel_rfl)) <|
  .cons (fiOf_ok Tryz.func92 (by kernel_rfl)) <|
  .cons (fiOf_ok Tryz.func93 (by kernel_rfl)) <|
  .cons (fiOf_ok Tryz.func94 (by kernel_rfl)) <|
  .cons (fiOf_ok Tryz.func95 (by kernel_rfl)) <|
  .cons (fiOf_ok Tryz.func96 (by kernel_rfl)) <|
  .cons (fiOf_ok Tryz.func97 (by kernel_rfl)) <|
  .cons (fiOf_ok Tryz.func98 (by kernel_rfl)) <|
  .cons (fiOf_ok Tryz.func99 (by kernel_rfl)) <|
  .cons (fiOf_ok Tryz.func100 (by kernel_rfl)) <|
  .cons (fiOf_ok Tryz.func101 (by kernel_rfl)) <|
  .cons (fiOf_ok Tryz.func102 (by kernel_rfl)) <|
  .cons (fiOf_ok Tryz.func103 (by kernel_rfl)) <|
  .cons (fiOf_ok Tryz.func104 (by kernel_rfl)) <|
  .cons (fiOf_ok Tryz.func105 (by kernel_rfl)) <|
  .cons (fiOf_ok Tryz.func106 (by kernel_rfl)) <|
  .cons (fiOf_ok Tryz.func107 (by kernel_rfl)) <|
  .cons (fiOf_ok Tryz.func108 (by kernel_rfl)) <|
  .cons (fiOf_ok Tryz.func109 (by kernel_rfl)) <|
  .cons (fiOf_ok Tryz.func110 (by kernel_rfl)) <|
  .cons (fiOf_ok Tryz.func111 (by kernel_rfl)) <|
  .cons (fiOf_ok Tryz.func112 (by kernel_rfl)) <|
  .cons (fiOf_ok Tryz.func113 (by kernel_rfl)) <|
  .cons (fiOf_ok Tryz.func114 (by kernel_rfl)) <|
  .cons (fiOf_ok Tryz.func115 (by kernel_rfl)) <|
  .cons (fiOf_ok Tryz.func116 (by kernel_rfl)) <|
  .cons (fiOf_ok Tryz.func117 (by kernel_rfl)) <|
  .cons (fiOf_ok Tryz.func118 (by kernel_rfl)) <|
  .cons (fiOf_ok Tryz.func119 (by kernel_rfl)) <|
  .cons (fiOf_ok Tryz.func120 (by kernel_rfl)) <|
  .cons (fiOf_ok Tryz.func121 (by kernel_rfl)) <|
  .cons (fiOf_ok Tryz.func122 (by kernel_rfl)) <|
  .cons (fiOf_ok Tryz.func125 (by kernel_rfl)) <|
  .cons (fiOf_ok Tryz.func126 (by kernel_rfl)) <|
  .cons (fiOf_ok Tryz.func127 (by kernel_rfl)) <|
  .nil
noncomputable def fl3 : List (Nat × FI) := [(128, fiOf Tryz.f128), (129, fiOf Tryz.f129), (130, fiOf Tryz.f130), (131, fiOf Tryz.f131), (132, fiOf Tryz.f132), (133, fiOf Tryz.f133), (134, fiOf Tryz.f134), (135, fiOf Tryz.f135), (136, fiOf Tryz.f136), (137, fiOf Tryz.f137), (138, fiOf Tryz.f138), (139, fiOf Tryz.f139), (140, fiOf Tryz.f140), (141, fiOf Tryz.f141), (142, fiOf Tryz.f142), (143, fiOf Tryz.f143), (144, fiOf Tryz.f144), (145, fiOf Tryz.f145), (146, fiOf Tryz.f146), (147, fiOf Tryz.f147), (148, fiOf Tryz.f148), (149, fiOf Tryz.f149), (150, fiOf Tryz.f150), (151, fiOf Tryz.f151), (152, fiOf Tryz.f152), (153, fiOf Tryz.f153), (154, fiOf Tryz.f154), (155, fiOf Tryz.f155), (156, fiOf Tryz.f156), (157, fiOf Tryz.f157), (158, fiOf Tryz.f158), (159, fiOf Tryz.f159), (160, fiOf Tryz.f160), (161, fiOf Tryz.f161), (162, fiOf Tryz.f162), (163, fiOf Tryz.f163), (164, fiOf Tryz.f164), (165, fiOf Tryz.f165), (166, fiOf Tryz.f166), (167, fiOf Tryz.f167)]
theorem fl3_ok : AllOk (fun g i => FIOk Tryz.prog g i) fl3 :=
  .cons (fiOf_ok Tryz.func128 (by kernel_rfl)) <|
  .cons (fiOf_ok Tryz.func129 (by kernel_rfl)) <|
  .cons (fiOf_ok Tryz.func130 (by kernel_rfl)) <|
  .cons (fiOf_ok Tryz.func131 (by kernel_rfl)) <|
  .cons (fiOf_ok Tryz.func132 (by kernel_rfl)) <|
  .cons (fiOf_ok Tryz.func133 (by kernel_rfl)) <|
  .cons (fiOf_ok Tryz.func134 (by kernel_rfl)) <|
  .cons (fiOf_ok Tryz.func135 (by kernel_rfl)) <|
  .cons (fiOf_ok Tryz.func136 (by kernel_rfl)) <|
  .cons (fiOf_ok Tryz.func137 (by kernel_rfl)) <|
  .cons (fiOf_ok Tryz.func138 (by kernel_rfl)) <|
  .cons (fiOf_ok Tryz.func139 (by kernel_rfl)) <|
  .cons (fiOf_ok Tryz.func140 (by kernel_rfl)) <|
  .cons (fiOf_ok Tryz.func141 (by kernel_rfl)) <|
  .cons (fiOf_ok Tryz.func142 (by kernel_rfl)) <|
  .cons (fiOf_ok Tryz.func143 (by kernel_rfl)) <|
  .cons (fiOf_ok Tryz.func144 (by kernel_rfl)) <|
  .cons (fiOf_ok Tryz.func145 (by kernel_rfl)) <|
  .cons (fiOf_ok Tryz.func146 (by kernel_rfl)) <|
  .cons (fiOf_ok Tryz.func147 (by kernel_rfl)) <|
  .cons (fiOf_ok Tryz.func148 (by kernel_rfl)) <|
  .cons (fiOf_ok Tryz.func149 (by kernel_rfl)) <|
  .cons (fiOf_ok Tryz.func150 (by kernel_rfl)) <|
  .cons (fiOf_ok Tryz.func151 (by kernel_rfl)) <|
  .cons (fiOf_ok Tryz.func152 (by kernel_rfl)) <|
  .cons (fiOf_ok Tryz.func153 (by kernel_rfl)) <|
  .cons (fiOf_ok Tryz.func154 (by kernel_rfl)) <|
  .cons (fiOf_ok Tryz.func155 (by kernel_rfl)) <|
  .cons (fiOf_ok Tryz.func156 (by kernel_rfl)) <|
  .cons (fiOf_ok Tryz.func157 (by kernel_rfl)) <|
  .cons (fiOf_ok Tryz.func158 (by kernel_rfl)) <|
  .cons (fiOf_ok Tryz.func159 (by kernel_rfl)) <|
  .cons (fiOf_ok Tryz.func160 (by kernel_rfl)) <|
  .cons (fiOf_ok Tryz.func161 (by kernel_rfl)) <|
  .cons (fiOf_ok Tryz.func162 (by kernel_rfl)) <|
  .cons (fiOf_ok Tryz.func163 (by kernel_rfl)) <|
  .cons (fiOf_ok Tryz.func164 (by kernel_rfl)) <|
  .cons (fiOf_ok Tryz.func165 (by kernel_rfl)) <|
  .cons (fiOf_ok Tryz.func166 (by kernel_rfl)) <|
  .cons (fiOf_ok Tryz.func167 (by kernel_rfl)) <|
  .nil
noncomputable def fl4 : List (Nat × FI) := [(168, fiOf Tryz.f168), (169, fiOf Tryz.f169), (170, fiOf Tryz.f170), (171, fiOf Tryz.f171), (172, fiOf Tryz.f172), (173, fiOf Tryz.f173), (174, fiOf Tryz.f174), (175, fiOf Tryz.f175), (176, fiOf Tryz.f176), (177, fiOf Tryz.f177), (178, fiOf Tryz.f178), (179, fiOf Tryz.f179), (180, fiOf Tryz.f180), (181, fiOf Tryz.f181), (182, fiOf Tryz.f182), (183, fiOf Tryz.f183), (184, fiOf Tryz.f184), (185, fiOf Tryz.f185), (186, fiOf Tryz.f186), (187, fiOf Tryz.f187), (188, fiOf Tryz.f188), (189, fiOf Tryz.f189), (190, fiOf Tryz.f190), (191, fiOf Tryz.f191), (192, fiOf Tryz.f192), (193, fiOf Tryz.f193), (194, fiOf Tryz.f194), (195, fiOf Tryz.f195), (196, fiOf Tryz.f196), (197, fiOf Tryz.f197), (198, fiOf Tryz.f198), (199, fiOf Tryz.f199), (200, fiOf Tryz.f200), (201, fiOf Tryz.f201), (202, fiOf Tryz.f202), (203, fiOf Tryz.f203), (204, fiOf Tryz.f204), (205, fiOf Tryz.f205), (206, fiOf Tryz.f206), (207, fiOf Tryz.f207)]
theorem fl4_ok : AllOk (fun g i => FIOk Tryz.prog g i) fl4 :=
  .cons (fiOf_ok Tryz.func168 (by kernel_rfl)) <|
  .cons (fiOf_ok Tryz.func169 (by kernel_rfl)) <|
  .cons (fiOf_ok Tryz.func170 (by kernel_rfl)) <|
  .cons (fiOf_ok Tryz.func171 (by kernel_rfl)) <|
  .cons (fiOf_ok Tryz.func172 (by kernel_rfl)) <|
  .cons (fiOf_ok Tryz.func173 (by kernel_rfl)) <|
  .cons (fiOf_ok Tryz.func174 (by kernel_rfl)) <|
  .cons (fiOf_ok Tryz.func175 (by kernel_rfl)) <|
  .cons (fiOf_ok Tryz.func176 (by kernel_rfl)) <|
  .cons (fiOf_ok Tryz.func177 (by kernel_rfl)) <|
  .cons (fiOf_ok Tryz.func178 (by kernel_rfl)) <|
  .cons (fiOf_ok Tryz.func179 (by kernel_rfl)) <|
  .cons (fiOf_ok Tryz.func180 (by kernel_rfl)) <|
  .cons (fiOf_ok Tryz.func181 (by kernel_rfl)) <|
  .cons (fiOf_ok Tryz.func182 (by kernel_rfl)) <|
  .cons (fiOf_ok Tryz.func183 (by kernel_rfl)) <|
  .cons (fiOf_ok Tryz.func184 (by kernel_rfl)) <|
  .cons (fiOf_ok Tryz.func185 (by kernel_rfl)) <|
  .cons (fiOf_ok Tryz.func186 (by kernel_rfl)) <|
  .cons (fiOf_ok Tryz.func187 (by kernel_rfl)) <|
  .cons (fiOf_ok Tryz.func188 (by kernel_rfl)) <|
  .cons (fiOf_ok Tryz.func189 (by kernel_rfl)) <|
  .cons (fiOf_ok Tryz.func190 (by kernel_rfl)) <|
  .cons (fiOf_ok Tryz.func191 (by kernel_rfl)) <|
  .cons (fiOf_ok Tryz.func192 (by kernel_rfl)) <|
  .cons (fiOf_ok Tryz.func193 (by kernel_rfl)) <|
  .cons (fiOf_ok Tryz.func194 (by kernel_rfl)) <|
  .cons (fiOf_ok Tryz.func195 (by kernel_rfl)) <|
  .cons (fiOf_ok Tryz.func196 (by kernel_rfl)) <|
  .cons (fiOf_ok Tryz.func197 (by kernel_rfl)) <|
  .cons (fiOf_ok Tryz.func198 (by kernel_rfl)) <|
  .cons (fiOf_ok Tryz.func199 (by kernel_rfl)) <|
  .cons (fiOf_ok Tryz.func200 (by kernel_rfl)) <|
  .cons (fiOf_ok Tryz.func201 (by kernel_rfl)) <|
  .cons (fiOf_ok Tryz.func202 (by kernel_rfl)) <|
  .cons (fiOf_ok Tryz.func203 (by kernel_rfl)) <|
  .cons (fiOf_ok Tryz.func204 (by kernel_rfl)) <|
  .cons (fiOf_ok Tryz.func205 (by kernel_rfl)) <|
  .cons (fiOf_ok Tryz.func206 (by kernel_rfl)) <|
  .cons (fiOf_ok Tryz.func207 (by kernel_rfl)) <|
  .nil
noncomputable def fl5 : List (Nat × FI) := [(208, fiOf Tryz.f208), (209, fiOf Tryz.f209), (210, fiOf Tryz.f210), (211, fiOf Tryz.f211), (212, fiOf Tryz.f212), (213, fiOf Tryz.f213), (214, fiOf Tryz.f214), (215, fiOf Tryz.f215), (216, fiOf Tryz.f216), (217, fiOf Tryz.f217), (218, fiOf Tryz.f218), (219, fiOf Tryz.f219), (220, fiOf Tryz.f220), (221, fiOf Tryz.f221), (222, fiOf Tryz.f222), (223, fiOf Tryz.f223), (224, fiOf Tryz.f224), (225, fiOf Tryz.f225), (226, fiOf Tryz.f226), (227, fiOf Tryz.f227), (228, fiOf Tryz.f228), (229, fiOf Tryz.f229), (230, fiOf Tryz.f230), (231, fiOf Tryz.f231), (232, fiOf Tryz.f232), (233, fiOf Tryz.f233), (234, fiOf Tryz.f234), (235, fiOf Tryz.f235), (236, fiOf Tryz.f236), (237, fiOf Tryz.f237), (238, fiOf Tryz.f238), (239, fiOf Tryz.f239), (240, fiOf Tryz.f240), (241, fiOf Tryz.f241), (242, fiOf Tryz.f242), (243, fiOf Tryz.f243), (244, fiOf Tryz.f244), (245, fiOf Tryz.f245), (246, fiOf Tryz.f246), (247, fiOf Tryz.f247)]
theorem fl5_ok : AllOk (fun g i => FIOk Tryz.prog g i) fl5 :=
  .cons (fiOf_ok Tryz.func208 (by kernel_rfl)) <|
  .cons (fiOf_ok Tryz.func209 (by kernel_rfl)) <|
  .cons (fiOf_ok Tryz.func210 (by kernel_rfl)) <|
  .cons (fiOf_ok Tryz.func211 (by kernel_rfl)) <|
  .cons (fiOf_ok Tryz.func212 (by kernel_rfl)) <|
  .cons (fiOf_ok Tryz.func213 (by kernel_rfl)) <|
  .cons (fiOf_ok Tryz.func214 (by kernel_rfl)) <|
  .cons (fiOf_ok Tryz.func215 (by kernel_rfl)) <|
  .cons (fiOf_ok Tryz.func216 (by kernel_rfl)) <|
  .cons (fiOf_ok Tryz.func217 (by kernel_rfl)) <|
  .cons (fiOf_ok Tryz.func218 (by kernel_rfl)) <|
  .cons (fiOf_ok Tryz.func219 (by kernel_rfl)) <|
  .cons (fiOf_ok Tryz.func220 (by kernel_rfl)) <|
  .cons (fiOf_ok Tryz.func221 (by kernel_rfl)) <|
  .cons (fiOf_ok Tryz.func222 (by kernel_rfl)) <|
  .cons (fiOf_ok Tryz.func223 (by kernel_rfl)) <|
  .cons (fiOf_ok Tryz.func224 (by kernel_rfl)) <|
  .cons (fiOf_ok Tryz.func225 (by kernel_rfl)) <|
  .cons (fiOf_ok Tryz.func226 (by kernel_rfl)) <|
  .cons (fiOf_ok Tryz.func227 (by kernel_rfl)) <|
  .cons (fiOf_ok Tryz.func228 (by kernel_rfl)) <|
  .cons (fiOf_ok Tryz.func229 (by kernel_rfl)) <|
  .cons (fiOf_ok Tryz.func230 (by kernel_rfl)) <|
  .cons (fiOf_ok Tryz.func231 (by kernel_rfl)) <|
  .cons (fiOf_ok Tryz.func232 (by kernel_rfl)) <|
  .cons (fiOf_ok Tryz.func233 (by kernel_rfl)) <|
  .cons (fiOf_ok Tryz.func234 (by kernel_rfl)) <|
  .cons (fiOf_ok Tryz.func235 (by kernel_rfl)) <|
  .cons (fiOf_ok Tryz.func236 (by kernel_rfl)) <|
  .cons (fiOf_ok Tryz.func237 (by kernel_rfl)) <|
  .cons (fiOf_ok Tryz.func238 (by kernel_rfl)) <|
  .cons (fiOf_ok Tryz.func239 (by kernel_rfl)) <|
  .cons (fiOf_ok Tryz.func240 (by kernel_rfl)) <|
  .cons (fiOf_ok Tryz.func241 (by kernel_rfl)) <|
  .cons (fiOf_ok Tryz.func242 (by kernel_rfl)) <|
  .cons (fiOf_ok Tryz.func243 (by kernel_rfl)) <|
  .cons (fiOf_ok Tryz.func244 (by kernel_rfl)) <|
  .cons (fiOf_ok Tryz.func245 (by kernel_rfl)) <|
  .cons (fiOf_ok Tryz.func246 (by kernel_rfl)) <|
  .cons (fiOf_ok Tryz.func247 (by kernel_rfl)) <|
  .nil
noncomputable def fl6 : List (Nat × FI) := [(248, fiOf Tryz.f248), (249, fiOf Tryz.f249), (250, fiOf Tryz.f250), (251, fiOf Tryz.f251), (252, fiOf Tryz.f252), (253, fiOf Tryz.f253), (254, fiOf Tryz.f254), (255, fiOf Tryz.f255), (256, fiOf Tryz.f256), (257, fiOf Tryz.f257), (258, fiOf Tryz.f258), (259, fiOf Tryz.f259), (260, fiOf Tryz.f260), (261, fiOf Tryz.f261), (262, fiOf Tryz.f262), (263, fiOf Tryz.f263), (264, fiOf Tryz.f264), (265, fiOf Tryz.f265), (266, fiOf Tryz.f266), (267, fiOf Tryz.f267), (268, fiOf Tryz.f268), (269, fiOf Tryz.f269), (270, fiOf Tryz.f270), (271, fiOf Tryz.f271), (272, fiOf Tryz.f272), (273, fiOf Tryz.f273), (274, fiOf Tryz.f274), (275, fiOf Tryz.f275), (276, fiOf Tryz.f276), (277, fiOf Tryz.f277), (278, fiOf Tryz.f278), (279, fiOf Tryz.f279), (280, fiOf Tryz.f280), (281, fiOf Tryz.f281), (282, fiOf Tryz.f282), (283, fiOf Tryz.f283), (284, fiOf Tryz.f284), (285, fiOf Tryz.f285), (286, fiOf Tryz.f286), (287, fiOf Tryz.f287)]
theorem fl6_ok : AllOk (fun g i => FIOk Tryz.prog g i) fl6 :=
  .cons (fiOf_ok Tryz.func248 (by kernel_rfl)) <|
  .cons (fiOf_ok Tryz.func249 (by kernel_rfl)) <|
  .cons (fiOf_ok Tryz.func250 (by kernel_rfl)) <|
  .cons (fiOf_ok Tryz.func251 (by kernel_rfl)) <|
  .cons (fiOf_ok Tryz.func252 (by kernel_rfl)) <|
  .cons (fiOf_ok Tryz.func253 (by kernel_rfl)) <|
  .cons (fiOf_ok Tryz.func254 (by kernel_rfl)) <|
  .cons (fiOf_ok Tryz.func255 (by kernel_rfl)) <|
  .cons (fiOf_ok Tryz.func256 (by kernel_rfl)) <|
  .cons (fiOf_ok Tryz.func257 (by kernel_rfl)) <|
  .cons (fiOf_ok Tryz.func258 (by kernel_rfl)) <|
  .cons (fiOf_ok Tryz.func259 (by kernel_rfl)) <|
  .cons (fiOf_ok Tryz.func260 (by kernel_rfl)) <|
  .cons (fiOf_ok Tryz.func261 (by kernel_rfl)) <|
  .cons (fiOf_ok Tryz.func262 (by kernel_rfl)) <|
  .cons (fiOf_ok Tryz.func263 (by kernel_rfl)) <|
  .cons (fiOf_ok Tryz.func264 (by kernel_rfl)) <|
  .cons (fiOf_ok Tryz.func265 (by kernel_rfl)) <|
  .cons (fiOf_ok Tryz.func266 (by kernel_rfl)) <|
  .cons (fiOf_ok Tryz.func267 (by kernel_rfl)) <|
  .cons (fiOf_ok Tryz.func268 (by kernel_rfl)) <|
  .cons (fiOf_ok Tryz.func269 (by kernel_rfl)) <|
  .cons (fiOf_ok Tryz.func270 (by kernel_rfl)) <|
  .cons (fiOf_ok Tryz.func271 (by kernel_rfl)) <|
  .cons (fiOf_ok Tryz.func272 (by kernel_rfl)) <|
  .cons (fiOf_ok Tryz.func273 (by kernel_rfl)) <|
  .cons (fiOf_ok Tryz.func274 (by kernel_rfl)) <|
  .cons (fiOf_ok Tryz.func275 (by kernel_rfl)) <|
  .cons (fiOf_ok Tryz.func276 (by kernel_rfl)) <|
  .cons (fiOf_ok Tryz.func277 (by kernel_rfl)) <|
  .cons (fiOf_ok Tryz.func278 (by kernel_rfl)) <|
  .cons (fiOf_ok Tryz.func279 (by kernel_rfl)) <|
  .cons (fiOf_ok Tryz.func280 (by kernel_rfl)) <|
  .cons (fiOf_ok Tryz.func281 (by kernel_rfl)) <|
  .cons (fiOf_ok Tryz.func282 (by kernel_rfl)) <|
  .cons (fiOf_ok Tryz.func283 (by kernel_rfl)) <|
  .cons (fiOf_ok Tryz.func284 (by kernel_rfl)) <|
  .cons (fiOf_ok Tryz.func285 (by kernel_rfl)) <|
  .cons (fiOf_ok Tryz.func286 (by kernel_rfl)) <|
  .cons (fiOf_ok Tryz.func287 (by kernel_rfl)) <|
  .nil
noncomputable def fl7 : List (Nat × FI) := [(288, fiOf Tryz.f288), (289, fiOf Tryz.f289), (290, fiOf Tryz.f290), (291, fiOf Tryz.f291), (292, fiOf Tryz.f292), (293, fiOf Tryz.f293), (294, fiOf Tryz.f294), (295, fiOf Tryz.f295), (296, fiOf Tryz.f296), (297, fiOf Tryz.f297), (298, fiOf Tryz.f298), (299, fiOf Tryz.f299), (300, fiOf Tryz.f300), (301, fiOf Tryz.f301), (302, fiOf Tryz.f302), (303, fiOf Tryz.f303), (304, fiOf Tryz.f304), (305, fiOf Tryz.f305), (306, fiOf Tryz.f306), (307, fiOf Tryz.f307), (308, fiOf Tryz.f308), (309, fiOf Tryz.f309), (310, fiOf Tryz.f310), (311, fiOf Tryz.f311), (312, fiOf Tryz.f312), (313, fiOf Tryz.f313), (314, fiOf Tryz.f314), (315, fiOf Tryz.f315), (316, fiOf Tryz.f316), (317, fiOf Tryz.f317), (318, fiOf Tryz.f318), (319, fiOf Tryz.f319), (320, fiOf Tryz.f320), (321, fiOf Tryz.f321), (322, fiOf Tryz.f322), (323, fiOf Tryz.f323), (324, fiOf Tryz.f324), (325, fiOf Tryz.f325), (326, fiOf Tryz.f326), (327, fiOf Tryz.f327)]
theorem fl7_ok : AllOk (fun g i => FIOk Tryz.prog g i) fl7 :=
  .cons (fiOf_ok Tryz.func288 (by kernel_rfl)) <|
  .cons (fiOf_ok Tryz.func289 (by kernel_rfl)) <|
  .cons (fiOf_ok Tryz.func290 (by kernel_rfl)) <|
  .cons (fiOf_ok Tryz.func291 (by kernel_rfl)) <|
  .cons (fiOf_ok Tryz.func292 (by kernel_rfl)) <|
  .cons (fiOf_ok Tryz.func293 (by kernel_rfl)) <|
  .cons (fiOf_ok Tryz.func294 (by kernel_rfl)) <|
  .cons (fiOf_ok Tryz.func295 (by kernel_rfl)) <|
  .cons (fiOf_ok Tryz.func296 (by kernel_rfl)) <|
  .cons (fiOf_ok Tryz.func297 (by kernel_rfl)) <|
  .cons (fiOf_ok Tryz.func298 (by kernel_rfl)) <|
  .cons (fiOf_ok Tryz.func299 (by kernel_rfl)) <|
  .cons (fiOf_ok Tryz.func300 (by kernel_rfl)) <|
  .cons (fiOf_ok Tryz.func301 (by kernel_rfl)) <|
  .cons (fiOf_ok Tryz.func302 (by kernel_rfl)) <|
  .cons (fiOf_ok Tryz.func303 (by kernel_rfl)) <|
  .cons (fiOf_ok Tryz.func304 (by kernel_rfl)) <|
  .cons (fiOf_ok Tryz.func305 (by kernel_rfl)) <|
  .cons (fiOf_ok Tryz.func306 (by kernel_rfl)) <|
  .cons (fiOf_ok Tryz.func307 (by kernel_rfl)) <|
  .cons (fiOf_ok Tryz.func308 (by kernel_rfl)) <|
  .cons (fiOf_ok Tryz.func309 (by kernel_rfl)) <|
  .cons (fiOf_ok Tryz.func310 (by kernel_rfl)) <|
  .cons (fiOf_ok Tryz.func311 (by kernel_rfl)) <|
  .cons (fiOf_ok Tryz.func312 (by kernel_rfl)) <|
  .cons (fiOf_ok Tryz.func313 (by kernel_rfl)) <|
  .cons (fiOf_ok Tryz.func314 (by kernel_rfl)) <|
  .cons (fiOf_ok Tryz.func315 (by kernel_rfl)) <|
  .cons (fiOf_ok Tryz.func316 (by kernel_rfl)) <|
  .cons (fiOf_ok Tryz.func317 (by kernel_rfl)) <|
  .cons (fiOf_ok Tryz.func318 (by kernel_rfl)) <|
  .cons (fiOf_ok Tryz.func319 (by kernel_rfl)) <|
  .cons (fiOf_ok Tryz.func320 (by kernel_rfl)) <|
  .cons (fiOf_ok Tryz.func321 (by kernel_rfl)) <|
  .cons (fiOf_ok Tryz.func322 (by kernel_rfl)) <|
  .cons (fiOf_ok Tryz.func323 (by kernel_rfl)) <|
  .cons (fiOf_ok Tryz.func324 (by kernel_rfl)) <|
  .cons (fiOf_ok Tryz.func325 (by kernel_rfl)) <|
  .cons (fiOf_ok Tryz.func326 (by kernel_rfl)) <|
  .cons (fiOf_ok Tryz.func327 (by kernel_rfl)) <|
  .nil
noncomputable def fl8 : List (Nat × FI) := [(328, fiOf Tryz.f328), (329, fiOf Tryz.f329), (330, fiOf Tryz.f330), (331, fiOf Tryz.f331), (332, fiOf Tryz.f332), (334, fiOf Tryz.f334), (335, fiOf Tryz.f335), (336, fiOf Tryz.f336), (337, fiOf Tryz.f337), (338, fiOf Tryz.f338), (339, fiOf Tryz.f339), (340, fiOf Tryz.f340), (341, fiOf Tryz.f341), (342, fiOf Tryz.f342), (343, fiOf Tryz.f343), (344, fiOf Tryz.f344), (345, fiOf Tryz.f345), (346, fiOf Tryz.f346), (347, fiOf Tryz.f347), (348, fiOf Tryz.f348), (349, fiOf Tryz.f349), (350, fiOf Tryz.f350), (351, fiOf Tryz.f351), (352, fiOf Tryz.f352), (353, fiOf Tryz.f353), (354, fiOf Tryz.f354), (355, fiOf Tryz.f355), (356, fiOf Tryz.f356), (357, fiOf Tryz.f357), (358, fiOf Tryz.f358), (359, fiOf Tryz.f359), (360, fiOf Tryz.f360), (361, fiOf Tryz.f361), (362, fiOf Tryz.f362), (363, fiOf Tryz.f363), (364, fiOf Tryz.f364), (365, fiOf Tryz.f365), (366, fiOf Tryz.f366), (367, fiOf Tryz.f367), (368, fiOf Tryz.f368)]
theorem fl8_ok : AllOk (fun g i => FIOk Tryz.prog g i) fl8 :=
  .cons (fiOf_ok Tryz.func328 (by kernel_rfl)) <|
  .cons (fiOf_ok Tryz.func329 (by kernel_rfl)) <|
  .cons (fiOf_ok Tryz.func330 (by kernel_rfl)) <|
  .cons (fiOf_ok Tryz.func331 (by kernel_rfl)) <|
  .cons (fiOf_ok Tryz.func332 (by kernel_rfl)) <|
  .cons (fiOf_ok Tryz.func334 (by kernel_rfl)) <|
  .cons (fiOf_ok Tryz.func335 (by kernel_rfl)) <|
  .cons (fiOf_ok Tryz.func336 (by kernel_rfl)) <|
  .cons (fiOf_ok Tryz.func337 (by kernel_rfl)) <|
  .cons (fiOf_ok Tryz.func338 (by kernel_rfl)) <|
  .cons (fiOf_ok Tryz.func339 (by kernel_rfl)) <|
  .cons (fiOf_ok Tryz.func340 (by kernel_rfl)) <|
  .cons (fiOf_ok Tryz.func341 (by kernel_rfl)) <|
  .cons (fiOf_ok Tryz.func342 (by kernel_rfl)) <|
  .cons (fiOf_ok Tryz.func343 (by kernel_rfl)) <|
  .cons (fiOf_ok Tryz.func344 (by kernel_rfl)) <|
  .cons (fiOf_ok Tryz.func345 (by kernel_rfl)) <|
  .cons (fiOf_ok Tryz.func346 (by kernel_rfl)) <|
  .cons (fiOf_ok Tryz.func347 (by kernel_rfl)) <|
  .cons (fiOf_ok Tryz.func348 (by kernel_rfl)) <|
  .cons (fiOf_ok Tryz.func349 (by kernel_rfl)) <|
  .cons (fiOf_ok Tryz.func350 (by kernel_rfl)) <|
  .cons (fiOf_ok Tryz.func351 (by kernel_rfl)) <|
  .cons (fiOf_ok Tryz.func352 (by kernel_rfl)) <|
  .cons (fiOf_ok Tryz.func353 (by kernel_rfl)) <|
  .cons (fiOf_ok Tryz.func354 (by kernel_rfl)) <|
  .cons (fiOf_ok Tryz.func355 (by kernel_rfl)) <|
  .cons (fiOf_ok Tryz.func356 (by kernel_rfl)) <|
  .cons (fiOf_ok Tryz.func357 (by kernel_rfl)) <|
  .cons (fiOf_ok Tryz.func358 (by kernel_rfl)) <|
  .cons (fiOf_ok Tryz.func359 (by kernel_rfl)) <|
  .cons (fiOf_ok Tryz.func360 (by kernel_rfl)) <|
  .cons (fiOf_ok Tryz.func361 (by kernel_rfl)) <|
  .cons (fiOf_ok Tryz.func362 (by kernel_rfl)) <|
  .cons (fiOf_ok Tryz.func363 (by kernel_rfl)) <|
  .cons (fiOf_ok Tryz.func364 (by kernel_rfl)) <|
  .cons (fiOf_ok Tryz.func365 (by kernel_rfl)) <|
  .cons (fiOf_ok Tryz.func366 (by kernel_rfl)) <|
  .cons (fiOf_ok Tryz.func367 (by kernel_rfl)) <|
  .cons (fiOf_ok Tryz.func368 (by kernel_rfl)) <|
  .nil
noncomputable def fl9 : List (Nat × FI) := [(369, fiOf Tryz.f369), (370, fiOf Tryz.f370), (371, fiOf Tryz.f371), (372, fiOf Tryz.f372), (373, fiOf Tryz.f373), (374, fiOf Tryz.f374), (375, fiOf Tryz.f375), (376, fiOf Tryz.f376), (377, fiOf Tryz.f377), (378, fiOf Tryz.f378), (379, fiOf Tryz.f379), (380, fiOf Tryz.f380), (381, fiOf Tryz.f381), (382, fiOf Tryz.f382), (383, fiOf Tryz.f383), (384, fiOf Tryz.f384), (385, fiOf Tryz.f385), (386, fiOf Tryz.f386), (387, fiOf Tryz.f387), (388, fiOf Tryz.f388), (389, fiOf Tryz.f389), (390, fiOf Tryz.f390), (391, fiOf Tryz.f391), (392, fiOf Tryz.f392), (393, fiOf Tryz.f393), (394, fiOf Tryz.f394), (395, fiOf Tryz.f395), (396, fiOf Tryz.f396), (397, fiOf Tryz.f397), (398, fiOf Tryz.f398), (399, fiOf Tryz.f399), (400, fiOf Tryz.f400), (401, fiOf Tryz.f401), (402, fiOf Tryz.f402), (403, fiOf Tryz.f403), (404, fiOf Tryz.f404), (405, fiOf Tryz.f405), (406, fiOf Tryz.f406), (407, fiOf Tryz.f407), (408, fiOf Tryz.f408)]
theorem fl9_ok : AllOk (fun g i => FIOk Tryz.prog g i) fl9 :=
  .cons (fiOf_ok Tryz.func369 (by kernel_rfl)) <|
  .cons (fiOf_ok Tryz.func370 (by kernel_rfl)) <|
  .cons (fiOf_ok Tryz.func371 (by kernel_rfl)) <|
  .cons (fiOf_ok Tryz.func372 (by kernel_rfl)) <|
  .cons (fiOf_ok Tryz.func373 (by kernel_rfl)) <|
  .cons (fiOf_ok Tryz.func374 (by kernel_rfl)) <|
  .cons (fiOf_ok Tryz.func375 (by kernel_rfl)) <|
  .cons (fiOf_ok Tryz.func376 (by kernel_rfl)) <|
  .cons (fiOf_ok Tryz.func377 (by kernel_rfl)) <|
  .cons (fiOf_ok Tryz.func378 (by kernel_rfl)) <|
  .cons (fiOf_ok Tryz.func379 (by kernel_rfl)) <|
  .cons (fiOf_ok Tryz.func380 (by kernel_rfl)) <|
  .cons (fiOf_ok Tryz.func381 (by kernel_rfl)) <|
  .cons (fiOf_ok Tryz.func382 (by kernel_rfl)) <|
  .cons (fiOf_ok Tryz.func383 (by kernel_rfl)) <|
  .cons (fiOf_ok Tryz.func384 (by kernel_rfl)) <|
  .cons (fiOf_ok Tryz.func385 (by kernel_rfl)) <|
  .cons (fiOf_ok Tryz.func386 (by kernel_rfl)) <|
  .cons (fiOf_ok Tryz.func387 (by kernel_rfl)) <|
  .cons (fiOf_ok Tryz.func388 (by kernel_rfl)) <|
  .cons (fiOf_ok Tryz.func389 (by kernel_rfl)) <|
  .cons (fiOf_ok Tryz.func390 (by kernel_rfl)) <|
  .cons (fiOf_ok Tryz.func391 (by kernel_rfl)) <|
  .cons (fiOf_ok Tryz.func392 (by kernel_rfl)) <|
  .cons (fiOf_ok Tryz.func393 (by kernel_rfl)) <|
  .cons (fiOf_ok Tryz.func394 (by kernel_rfl)) <|
  .cons (fiOf_ok Tryz.func395 (by kernel_rfl)) <|
  .cons (fiOf_ok Tryz.func396 (by kernel_rfl)) <|
  .cons (fiOf_ok Tryz.func397 (by kernel_rfl)) <|
  .cons (fiOf_ok Tryz.func398 (by kernel_rfl)) <|
  .cons (fiOf_ok Tryz.func399 (by kernel_rfl)) <|
  .cons (fiOf_ok Tryz.func400 (by kernel_rfl)) <|
  .cons (fiOf_ok Tryz.func401 (by kernel_rfl)) <|
  .cons (fiOf_ok Tryz.func402 (by kernel_rfl)) <|
  .cons (fiOf_ok Tryz.func403 (by kernel_rfl)) <|
  .cons (fiOf_ok Tryz.func404 (by kernel_rfl)) <|
  .cons (fiOf_ok Tryz.func405 (by kernel_rfl)) <|
  .cons (fiOf_ok Tryz.func406 (by kernel_rfl)) <|
  .cons (fiOf_ok Tryz.func407 (by kernel_rfl)) <|
  .cons (fiOf_ok Tryz.func408 (by kernel_rfl)) <|
  .nil
noncomputable def fl10 : List (Nat × FI) := [(409, fiOf Tryz.f409), (410, fiOf Tryz.f410), (411, fiOf Tryz.f411), (412, fiOf Tryz.f412), (413, fiOf Tryz.f413), (414, fiOf Tryz.f414), (415, fiOf Tryz.f415), (416, fiOf Tryz.f416), (417, fiOf Tryz.f417), (418, fiOf Tryz.f418), (419, fiOf Tryz.f419), (420, fiOf Tryz.f420), (421, fiOf Tryz.f421), (422, fiOf Tryz.f422), (423, fiOf Tryz.f423), (424, fiOf Tryz.f424), (425, fiOf Tryz.f425), (426, fiOf Tryz.f426), (427, fiOf Tryz.f427), (428, fiOf Tryz.f428), (429, fiOf Tryz.f429), (430, fiOf Tryz.f430), (431, fiOf Tryz.f431), (432, fiOf Tryz.f432), (433, fiOf Tryz.f433), (434, fiOf Tryz.f434), (435, fiOf Tryz.f435), (436, fiOf Tryz.f436), (437, fiOf Tryz.f437), (438, fiOf Tryz.f438), (439, fiOf Tryz.f439), (440, fiOf Tryz.f440), (441, fiOf Tryz.f441), (442, fiOf Tryz.f442), (443, fiOf Tryz.f443), (444, fiOf Tryz.f444), (445, fiOf Tryz.f445), (446, fiOf Tryz.f446), (447, fiOf Tryz.f447), (448, fiOf Tryz.f448)]
theorem fl10_ok : AllOk (fun g i => FIOk Tryz.prog g i) fl10 :=
  .cons (fiOf_ok Tryz.func409 (by kernel_rfl)) <|
  .cons (fiOf_ok Tryz.func410 (by kernel_rfl)) <|
  .cons (fiOf_ok Tryz.func411 (by kernel_rfl)) <|
  .cons (fiOf_ok Tryz.func412 (by kernel_rfl)) <|
  .cons (fiOf_ok Tryz.func413 (by kernel_rfl)) <|
  .cons (fiOf_ok Tryz.func414 (by kernel_rfl)) <|
  .cons (fiOf_ok Tryz.func415 (by kernel_rfl)) <|
  .cons (fiOf_ok Tryz.func416 (by kernel_rfl)) <|
  .cons (fiOf_ok Tryz.func417 (by kernel_rfl)) <|
  .cons (fiOf_ok Tryz.func418 (by kernel_rfl)) <|
  .cons (fiOf_ok Tryz.func419 (by kernel_rfl)) <|
  .cons (fiOf_ok Tryz.func420 (by kernel_rfl)) <|
  .cons (fiOf_ok Tryz.func421 (by kernel_rfl)) <|
  .cons (fiOf_ok Tryz.func422 (by kernel_rfl)) <|
  .cons (fiOf_ok Tryz.func423 (by kernel_rfl)) <|
  .cons (fiOf_ok Tryz.func424 (by kernel_rfl)) <|
  .cons (fiOf_ok Tryz.func425 (by kernel_rfl)) <|
  .cons (fiOf_ok Tryz.func426 (by kernel_rfl)) <|
  .cons (fiOf_ok Tryz.func427 (by kernel_rfl)) <|
  .cons (fiOf_ok Tryz.func428 (by kernel_rfl)) <|
  .cons (fiOf_ok Tryz.func429 (by kernel_rfl)) <|
  .cons (fiOf_ok Tryz.func430 (by kernel_rfl)) <|
  .cons (fiOf_ok Tryz.func431 (by kernel_rfl)) <|
  .cons (fiOf_ok Tryz.func432 (by kernel_rfl)) <|
  .cons (fiOf_ok Tryz.func433 (by kernel_rfl)) <|
  .cons (fiOf_ok Tryz.func434 (by kernel_rfl)) <|
  .cons (fiOf_ok Tryz.func435 (by kernel_rfl)) <|
  .cons (fiOf_ok Tryz.func436 (by kernel_rfl)) <|
  .cons (fiOf_ok Tryz.func437 (by kernel_rfl)) <|
  .cons (fiOf_ok Tryz.func438 (by kernel_rfl)) <|
  .cons (fiOf_ok Tryz.func439 (by kernel_rfl)) <|
  .cons (fiOf_ok Tryz.func440 (by kernel_rfl)) <|
  .cons (fiOf_ok Tryz.func441 (by kernel_rfl)) <|
  .cons (fiOf_ok Tryz.func442 (by kernel_rfl)) <|
  .cons (fiOf_ok Tryz.func443 (by kernel_rfl)) <|
  .cons (fiOf_ok Tryz.func444 (by kernel_rfl)) <|
  .cons (fiOf_ok Tryz.func445 (by kernel_rfl)) <|
  .cons (fiOf_ok Tryz.func446 (by kernel_rfl)) <|
  .cons (fiOf_ok Tryz.func447 (by kernel_rfl)) <|
  .cons (fiOf_ok Tryz.func448 (by kernel_rfl)) <|
  .nil
noncomputable def fl11 : List (Nat × FI) := [(449, fiOf Tryz.f449), (450, fiOf Tryz.f450), (451, fiOf Tryz.f451), (452, fiOf Tryz.f452), (453, fiOf Tryz.f453), (454, fiOf Tryz.f454), (455, fiOf Tryz.f455), (456, fiOf Tryz.f456), (457, fiOf Tryz.f457), (458, fiOf Tryz.f458), (459, fiOf Tryz.f459), (460, fiOf Tryz.f460), (461, fiOf Tryz.f461), (462, fiOf Tryz.f462), (463, fiOf Tryz.f463), (464, fiOf Tryz.f464), (465, fiOf Tryz.f465)]
theorem fl11_ok : AllOk (fun g i => FIOk Tryz.prog g i) fl11 :=
  .cons (fiOf_ok Tryz.func449 (by kernel_rfl)) <|
  .cons (fiOf_ok Tryz.func450 (by kernel_rfl)) <|
  .cons (fiOf_ok Tryz.func451 (by kernel_rfl)) <|
  .cons (fiOf_ok Tryz.func452 (by kernel_rfl)) <|
  .cons (fiOf_ok Tryz.func453 (by kernel_rfl)) <|
  .cons (fiOf_ok Tryz.func454 (by kernel_rfl)) <|
  .cons (fiOf_ok Tryz.func455 (by kernel_rfl)) <|
  .cons (fiOf_ok Tryz.func456 (by kernel_rfl)) <|
  .cons (fiOf_ok Tryz.func457 (by kernel_rfl)) <|
  .cons (fiOf_ok Tryz.func458 (by kernel_rfl)) <|
  .cons (fiOf_ok Tryz.func459 (by kernel_rfl)) <|
  .cons (fiOf_ok Tryz.func460 (by kernel_rfl)) <|
  .cons (fiOf_ok Tryz.func461 (by kernel_rfl)) <|
  .cons (fiOf_ok Tryz.func462 (by kernel_rfl)) <|
  .cons (fiOf_ok Tryz.func463 (by kernel_rfl)) <|
  .cons (fiOf_ok Tryz.func464 (by kernel_rfl)) <|
  .cons (fiOf_ok Tryz.func465 (by kernel_rfl)) <|
  .nil
noncomputable def fl : List (Nat × FI) := fl0 ++ (fl1 ++ (fl2 ++ (fl3 ++ (fl4 ++ (fl5 ++ (fl6 ++ (fl7 ++ (fl8 ++ (fl9 ++ (fl10 ++ (fl11)))))))))))
noncomputable def Fb : Nat → Option FI := fun t => (ofL fl).get t
theorem fb_ok : FTOk Tryz.prog Fb := ftok_of (fl0_ok.append (fl1_ok.append (fl2_ok.append (fl3_ok.append (fl4_ok.append (fl5_ok.append (fl6_ok.append (fl7_ok.append (fl8_ok.append (fl9_ok.append (fl10_ok.append (fl11_ok))))))))))))
noncomputable def Xb : XT := fun g => bif Nat.beq g 123 then some (hkNoZero 5) else (fun g => bif Nat.beq g 333 then some (hkAdd) else (fun g => bif Nat.beq g 124 then some (hkIdx) else (fun g => bif Nat.beq g 60 then some (hkSame) else (fun g => bif Nat.beq g 55 then some (hkCnt) else (fun _ => none) g) g) g) g) g
theorem xb_ok : XOk Tryz.prog Tb Xb := xok_cons (hkNoZero_ok (ps := #[3]) (t := 42) (e := 5) (inf := ⟨1, 1, (.int .u8), [.int .u8 0], [(0, 5)], false⟩) Tryz.func123 (by kernel_rfl) (by kernel_rfl) (by kernel_rfl) (by kernel_rfl) Tryz.underlying42 (by kernel_rfl) rfl) (xok_cons (hkAdd_ok Tryz.func333 (by kernel_rfl) (by kernel_rfl) (by kernel_rfl) (by kernel_rfl)) (xok_cons (hkIdx_ok Tryz.func124 (by kernel_rfl) (by kernel_rfl) (by kernel_rfl) (by kernel_rfl)) (xok_cons (hkSame_ok Tryz.func60 (by kernel_rfl) (by kernel_rfl) (by kernel_rfl) (by kernel_rfl)) (xok_cons (hkCnt_ok Tryz.func55 (by kernel_rfl) (by kernel_rfl) (by kernel_rfl) (by kernel_rfl)) (xok_nil)))))
theorem mix_ok : Tryz.prog.follows .mixedOrders = true := by kernel_rfl
end Go.Sep
