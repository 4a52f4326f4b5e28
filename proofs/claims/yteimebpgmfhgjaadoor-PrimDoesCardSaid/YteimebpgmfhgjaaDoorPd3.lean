/- Texts of this session, packed: EngS, Base, DatA, DatB, Clone0, Own1, Clone1, Own2, Own3, Names1. -/
import Derived.Test.YteimebpgmfhgjaaDoorPd2
namespace Go.Proofs.YteimebpgmfhgjaaDoor
open Go.AS
set_option linter.unusedVariables false
set_option maxRecDepth 10000
namespace Seat
def d1 : TD := ⟨.func, 1, 8, [.nilfunc]⟩
theorem o1 : d1.ok Tryd.prog 1 := TD.ok_of Tryd.underlying1 ⟨_, _, _, rfl⟩ (by kernel_rfl)
def d2 : TD := ⟨.int .i64, 1, 8, [.int .i64 0]⟩
theorem o2 : d2.ok Tryd.prog 2 := TD.ok_of Tryd.underlying2 rfl (by kernel_rfl)
def d3 : TD := ⟨.int .i64, 1, 8, [.int .i64 0]⟩
theorem o3 : d3.ok Tryd.prog 3 := TD.ok_of Tryd.underlying3 rfl (by kernel_rfl)
def d4 : TD := ⟨.bool, 1, 1, [.bool false]⟩
theorem o4 : d4.ok Tryd.prog 4 := TD.ok_of Tryd.underlying4 rfl (by kernel_rfl)
def d5 : TD := ⟨.int .u8, 1, 1, [.int .u8 0]⟩
theorem o5 : d5.ok Tryd.prog 5 := TD.ok_of Tryd.underlying5 rfl (by kernel_rfl)
def d6 : TD := ⟨.int .u8, 1, 1, [.int .u8 0]⟩
theorem o6 : d6.ok Tryd.prog 6 := TD.ok_of Tryd.underlying6 rfl (by kernel_rfl)
def d7 : TD := ⟨.struct [(0, 2), (1, 3), (2, 4), (3, 6)], 4, 24, [.int .i64 0, .int .i64 0, .bool false, .int .u8 0]⟩
theorem o7 : d7.ok Tryd.prog 7 := TD.ok_of Tryd.underlying7 ⟨_, rfl, rfl⟩ (by kernel_rfl)
def d8 : TD := ⟨.struct [(0, 2), (1, 3), (2, 4), (3, 6)], 4, 24, [.int .i64 0, .int .i64 0, .bool false, .int .u8 0]⟩
theorem o8 : d8.ok Tryd.prog 8 := TD.ok_of Tryd.underlying8 ⟨_, rfl, rfl⟩ (by kernel_rfl)
def d9 : TD := ⟨.str, 1, 16, [.str ⟨#[]⟩]⟩
theorem o9 : d9.ok Tryd.prog 9 := TD.ok_of Tryd.underlying9 rfl (by kernel_rfl)
def d10 : TD := ⟨.str, 1, 16, [.str ⟨#[]⟩]⟩
theorem o10 : d10.ok Tryd.prog 10 := TD.ok_of Tryd.underlying10 rfl (by kernel_rfl)
def d11 : TD := ⟨.str, 1, 16, [.str ⟨#[]⟩]⟩
theorem o11 : d11.ok Tryd.prog 11 := TD.ok_of Tryd.underlying11 rfl (by kernel_rfl)
def d12 : TD := ⟨.int .u64, 1, 8, [.int .u64 0]⟩
theorem o12 : d12.ok Tryd.prog 12 := TD.ok_of Tryd.underlying12 rfl (by kernel_rfl)
def d13 : TD := ⟨.struct [(0, 9), (1, 12)], 2, 24, [.str ⟨#[]⟩, .int .u64 0]⟩
theorem o13 : d13.ok Tryd.prog 13 := TD.ok_of Tryd.underlying13 ⟨_, rfl, rfl⟩ (by kernel_rfl)
def d14 : TD := ⟨.struct [(0, 9), (1, 12)], 2, 24, [.str ⟨#[]⟩, .int .u64 0]⟩
theorem o14 : d14.ok Tryd.prog 14 := TD.ok_of Tryd.underlying14 ⟨_, rfl, rfl⟩ (by kernel_rfl)
def d15 : TD := ⟨.ptr 115, 1, 8, [.nilptr]⟩
theorem o15 : d15.ok Tryd.prog 15 := TD.ok_of Tryd.underlying15 rfl (by kernel_rfl)
def d16 : TD := ⟨.ptr 118, 1, 8, [.nilptr]⟩
theorem o16 : d16.ok Tryd.prog 16 := TD.ok_of Tryd.underlying16 rfl (by kernel_rfl)
def d17 : TD := ⟨.ptr 127, 1, 8, [.nilptr]⟩
theorem o17 : d17.ok Tryd.prog 17 := TD.ok_of Tryd.underlying17 rfl (by kernel_rfl)
def d18 : TD := ⟨.struct [(0, 17)], 1, 8, [.nilptr]⟩
theorem o18 : d18.ok Tryd.prog 18 := TD.ok_of Tryd.underlying18 ⟨_, rfl, rfl⟩ (by kernel_rfl)
def d19 : TD := ⟨.struct [(0, 17)], 1, 8, [.nilptr]⟩
theorem o19 : d19.ok Tryd.prog 19 := TD.ok_of Tryd.underlying19 ⟨_, rfl, rfl⟩ (by kernel_rfl)
def d20 : TD := ⟨.iface, 1, 16, [.niliface]⟩
theorem o20 : d20.ok Tryd.prog 20 := TD.ok_of Tryd.underlying20 ⟨_, rfl⟩ (by kernel_rfl)
def d21 : TD := ⟨.int .i32, 1, 4, [.int .i32 0]⟩
theorem o21 : d21.ok Tryd.prog 21 := TD.ok_of Tryd.underlying21 rfl (by kernel_rfl)
def d22 : TD := ⟨.slice 24, 1, 24, [.nil]⟩
theorem o22 : d22.ok Tryd.prog 22 := TD.ok_of Tryd.underlying22 rfl (by kernel_rfl)
def d23 : TD := ⟨.struct [(0, 3), (1, 2), (2, 9), (3, 22)], 4, 56, [.int .i64 0, .int .i64 0, .str ⟨#[]⟩, .nil]⟩
theorem o23 : d23.ok Tryd.prog 23 := TD.ok_of Tryd.underlying23 ⟨_, rfl, rfl⟩ (by kernel_rfl)
def d24 : TD := ⟨.struct [(0, 3), (1, 2), (2, 9), (3, 22)], 4, 56, [.int .i64 0, .int .i64 0, .str ⟨#[]⟩, .nil]⟩
theorem o24 : d24.ok Tryd.prog 24 := TD.ok_of Tryd.underlying24 ⟨_, rfl, rfl⟩ (by kernel_rfl)
def d25 : TD := ⟨.func, 1, 8, [.nilfunc]⟩
theorem o25 : d25.ok Tryd.prog 25 := TD.ok_of Tryd.underlying25 ⟨_, _, _, rfl⟩ (by kernel_rfl)
def d26 : TD := ⟨.int .i64, 1, 8, [.int .i64 0]⟩
theorem o26 : d26.ok Tryd.prog 26 := TD.ok_of Tryd.underlying26 rfl (by kernel_rfl)
def d28 : TD := ⟨.func, 1, 8, [.nilfunc]⟩
theorem o28 : d28.ok Tryd.prog 28 := TD.ok_of Tryd.underlying28 ⟨_, _, _, rfl⟩ (by kernel_rfl)
def d30 : TD := ⟨.func, 1, 8, [.nilfunc]⟩
theorem o30 : d30.ok Tryd.prog 30 := TD.ok_of Tryd.underlying30 ⟨_, _, _, rfl⟩ (by kernel_rfl)
def d31 : TD := ⟨.func, 1, 8, [.nilfunc]⟩
theorem o31 : d31.ok Tryd.prog 31 := TD.ok_of Tryd.underlying31 ⟨_, _, _, rfl⟩ (by kernel_rfl)
def d32 : TD := ⟨.func, 1, 8, [.nilfunc]⟩
theorem o32 : d32.ok Tryd.prog 32 := TD.ok_of Tryd.underlying32 ⟨_, _, _, rfl⟩ (by kernel_rfl)
def d33 : TD := ⟨.func, 1, 8, [.nilfunc]⟩
theorem o33 : d33.ok Tryd.prog 33 := TD.ok_of Tryd.underlying33 ⟨_, _, _, rfl⟩ (by kernel_rfl)
def d34 : TD := ⟨.func, 1, 8, [.nilfunc]⟩
theorem o34 : d34.ok Tryd.prog 34 := TD.ok_of Tryd.underlying34 ⟨_, _, _, rfl⟩ (by kernel_rfl)
def d35 : TD := ⟨.func, 1, 8, [.nilfunc]⟩
theorem o35 : d35.ok Tryd.prog 35 := TD.ok_of Tryd.underlying35 ⟨_, _, _, rfl⟩ (by kernel_rfl)
def d36 : TD := ⟨.func, 1, 8, [.nilfunc]⟩
theorem o36 : d36.ok Tryd.prog 36 := TD.ok_of Tryd.underlying36 ⟨_, _, _, rfl⟩ (by kernel_rfl)
def d37 : TD := ⟨.func, 1, 8, [.nilfunc]⟩
theorem o37 : d37.ok Tryd.prog 37 := TD.ok_of Tryd.underlying37 ⟨_, _, _, rfl⟩ (by kernel_rfl)
def d38 : TD := ⟨.func, 1, 8, [.nilfunc]⟩
theorem o38 : d38.ok Tryd.prog 38 := TD.ok_of Tryd.underlying38 ⟨_, _, _, rfl⟩ (by kernel_rfl)
def d39 : TD := ⟨.func, 1, 8, [.nilfunc]⟩
theorem o39 : d39.ok Tryd.prog 39 := TD.ok_of Tryd.underlying39 ⟨_, _, _, rfl⟩ (by kernel_rfl)
def d41 : TD := ⟨.func, 1, 8, [.nilfunc]⟩
theorem o41 : d41.ok Tryd.prog 41 := TD.ok_of Tryd.underlying41 ⟨_, _, _, rfl⟩ (by kernel_rfl)
def d42 : TD := ⟨.func, 1, 8, [.nilfunc]⟩
theorem o42 : d42.ok Tryd.prog 42 := TD.ok_of Tryd.underlying42 ⟨_, _, _, rfl⟩ (by kernel_rfl)
def d43 : TD := ⟨.func, 1, 8, [.nilfunc]⟩
theorem o43 : d43.ok Tryd.prog 43 := TD.ok_of Tryd.underlying43 ⟨_, _, _, rfl⟩ (by kernel_rfl)
def d44 : TD := ⟨.int .u64, 1, 8, [.int .u64 0]⟩
theorem o44 : d44.ok Tryd.prog 44 := TD.ok_of Tryd.underlying44 rfl (by kernel_rfl)
def d45 : TD := ⟨.func, 1, 8, [.nilfunc]⟩
theorem o45 : d45.ok Tryd.prog 45 := TD.ok_of Tryd.underlying45 ⟨_, _, _, rfl⟩ (by kernel_rfl)
def d46 : TD := ⟨.func, 1, 8, [.nilfunc]⟩
theorem o46 : d46.ok Tryd.prog 46 := TD.ok_of Tryd.underlying46 ⟨_, _, _, rfl⟩ (by kernel_rfl)
def d47 : TD := ⟨.func, 1, 8, [.nilfunc]⟩
theorem o47 : d47.ok Tryd.prog 47 := TD.ok_of Tryd.underlying47 ⟨_, _, _, rfl⟩ (by kernel_rfl)
def d48 : TD := ⟨.struct [(0, 2), (1, 2), (2, 2), (3, 24), (7, 24)], 11, 136, [.int .i64 0, .int .i64 0, .int .i64 0, .int .i64 0, .int .i64 0, .str ⟨#[]⟩, .nil, .int .i64 0, .int .i64 0, .str ⟨#[]⟩, .nil]⟩
theorem o48 : d48.ok Tryd.prog 48 := TD.ok_of Tryd.underlying48 ⟨_, rfl, rfl⟩ (by kernel_rfl)
def d49 : TD := ⟨.struct [(0, 2), (1, 2), (2, 2), (3, 24), (7, 24)], 11, 136, [.int .i64 0, .int .i64 0, .int .i64 0, .int .i64 0, .int .i64 0, .str ⟨#[]⟩, .nil, .int .i64 0, .int .i64 0, .str ⟨#[]⟩, .nil]⟩
theorem o49 : d49.ok Tryd.prog 49 := TD.ok_of Tryd.underlying49 ⟨_, rfl, rfl⟩ (by kernel_rfl)
def d50 : TD := ⟨.slice 2, 1, 24, [.nil]⟩
theorem o50 : d50.ok Tryd.prog 50 := TD.ok_of Tryd.underlying50 rfl (by kernel_rfl)
def d51 : TD := ⟨.func, 1, 8, [.nilfunc]⟩
theorem o51 : d51.ok Tryd.prog 51 := TD.ok_of Tryd.underlying51 ⟨_, _, _, rfl⟩ (by kernel_rfl)
def d52 : TD := ⟨.slice 9, 1, 24, [.nil]⟩
theorem o52 : d52.ok Tryd.prog 52 := TD.ok_of Tryd.underlying52 rfl (by kernel_rfl)
def d53 : TD := ⟨.func, 1, 8, [.nilfunc]⟩
theorem o53 : d53.ok Tryd.prog 53 := TD.ok_of Tryd.underlying53 ⟨_, _, _, rfl⟩ (by kernel_rfl)
def d54 : TD := ⟨.func, 1, 8, [.nilfunc]⟩
theorem o54 : d54.ok Tryd.prog 54 := TD.ok_of Tryd.underlying54 ⟨_, _, _, rfl⟩ (by kernel_rfl)
def d55 : TD := ⟨.func, 1, 8, [.nilfunc]⟩
theorem o55 : d55.ok Tryd.prog 55 := TD.ok_of Tryd.underlying55 ⟨_, _, _, rfl⟩ (by kernel_rfl)
def d57 : TD := ⟨.func, 1, 8, [.nilfunc]⟩
theorem o57 : d57.ok Tryd.prog 57 := TD.ok_of Tryd.underlying57 ⟨_, _, _, rfl⟩ (by kernel_rfl)
def d59 : TD := ⟨.func, 1, 8, [.nilfunc]⟩
theorem o59 : d59.ok Tryd.prog 59 := TD.ok_of Tryd.underlying59 ⟨_, _, _, rfl⟩ (by kernel_rfl)
def d60 : TD := ⟨.func, 1, 8, [.nilfunc]⟩
theorem o60 : d60.ok Tryd.prog 60 := TD.ok_of Tryd.underlying60 ⟨_, _, _, rfl⟩ (by kernel_rfl)
def d62 : TD := ⟨.func, 1, 8, [.nilfunc]⟩
theorem o62 : d62.ok Tryd.prog 62 := TD.ok_of Tryd.underlying62 ⟨_, _, _, rfl⟩ (by kernel_rfl)
def d63 : TD := ⟨.func, 1, 8, [.nilfunc]⟩
theorem o63 : d63.ok Tryd.prog 63 := TD.ok_of Tryd.underlying63 ⟨_, _, _, rfl⟩ (by kernel_rfl)
def d64 : TD := ⟨.func, 1, 8, [.nilfunc]⟩
theorem o64 : d64.ok Tryd.prog 64 := TD.ok_of Tryd.underlying64 ⟨_, _, _, rfl⟩ (by kernel_rfl)
def d65 : TD := ⟨.func, 1, 8, [.nilfunc]⟩
theorem o65 : d65.ok Tryd.prog 65 := TD.ok_of Tryd.underlying65 ⟨_, _, _, rfl⟩ (by kernel_rfl)
def d66 : TD := ⟨.func, 1, 8, [.nilfunc]⟩
theorem o66 : d66.ok Tryd.prog 66 := TD.ok_of Tryd.underlying66 ⟨_, _, _, rfl⟩ (by kernel_rfl)
def d67 : TD := ⟨.func, 1, 8, [.nilfunc]⟩
theorem o67 : d67.ok Tryd.prog 67 := TD.ok_of Tryd.underlying67 ⟨_, _, _, rfl⟩ (by kernel_rfl)
def d68 : TD := ⟨.func, 1, 8, [.nilfunc]⟩
theorem o68 : d68.ok Tryd.prog 68 := TD.ok_of Tryd.underlying68 ⟨_, _, _, rfl⟩ (by kernel_rfl)
def d69 : TD := ⟨.slice 4, 1, 24, [.nil]⟩
theorem o69 : d69.ok Tryd.prog 69 := TD.ok_of Tryd.underlying69 rfl (by kernel_rfl)
def d70 : TD := ⟨.ptr 72, 1, 8, [.nilptr]⟩
theorem o70 : d70.ok Tryd.prog 70 := TD.ok_of Tryd.underlying70 rfl (by kernel_rfl)
def d71 : TD := ⟨.struct [(0, 3)], 1, 8, [.int .i64 0]⟩
theorem o71 : d71.ok Tryd.prog 71 := TD.ok_of Tryd.underlying71 ⟨_, rfl, rfl⟩ (by kernel_rfl)
def d72 : TD := ⟨.struct [(0, 3)], 1, 8, [.int .i64 0]⟩
theorem o72 : d72.ok Tryd.prog 72 := TD.ok_of Tryd.underlying72 ⟨_, rfl, rfl⟩ (by kernel_rfl)
def d73 : TD := ⟨.func, 1, 8, [.nilfunc]⟩
theorem o73 : d73.ok Tryd.prog 73 := TD.ok_of Tryd.underlying73 ⟨_, _, _, rfl⟩ (by kernel_rfl)
def d74 : TD := ⟨.func, 1, 8, [.nilfunc]⟩
theorem o74 : d74.ok Tryd.prog 74 := TD.ok_of Tryd.underlying74 ⟨_, _, _, rfl⟩ (by kernel_rfl)
def d75 : TD := ⟨.slice 76, 1, 24, [.nil]⟩
theorem o75 : d75.ok Tryd.prog 75 := TD.ok_of Tryd.underlying75 rfl (by kernel_rfl)
def d76 : TD := ⟨.struct [(0, 9), (1, 3)], 2, 24, [.str ⟨#[]⟩, .int .i64 0]⟩
theorem o76 : d76.ok Tryd.prog 76 := TD.ok_of Tryd.underlying76 ⟨_, rfl, rfl⟩ (by kernel_rfl)
def d77 : TD := ⟨.func, 1, 8, [.nilfunc]⟩
theorem o77 : d77.ok Tryd.prog 77 := TD.ok_of Tryd.underlying77 ⟨_, _, _, rfl⟩ (by kernel_rfl)
def d78 : TD := ⟨.slice 3, 1, 24, [.nil]⟩
theorem o78 : d78.ok Tryd.prog 78 := TD.ok_of Tryd.underlying78 rfl (by kernel_rfl)
def d79 : TD := ⟨.func, 1, 8, [.nilfunc]⟩
theorem o79 : d79.ok Tryd.prog 79 := TD.ok_of Tryd.underlying79 ⟨_, _, _, rfl⟩ (by kernel_rfl)
def d80 : TD := ⟨.func, 1, 8, [.nilfunc]⟩
theorem o80 : d80.ok Tryd.prog 80 := TD.ok_of Tryd.underlying80 ⟨_, _, _, rfl⟩ (by kernel_rfl)
def d81 : TD := ⟨.func, 1, 8, [.nilfunc]⟩
theorem o81 : d81.ok Tryd.prog 81 := TD.ok_of Tryd.underlying81 ⟨_, _, _, rfl⟩ (by kernel_rfl)
def d82 : TD := ⟨.func, 1, 8, [.nilfunc]⟩
theorem o82 : d82.ok Tryd.prog 82 := TD.ok_of Tryd.underlying82 ⟨_, _, _, rfl⟩ (by kernel_rfl)
def d84 : TD := ⟨.func, 1, 8, [.nilfunc]⟩
theorem o84 : d84.ok Tryd.prog 84 := TD.ok_of Tryd.underlying84 ⟨_, _, _, rfl⟩ (by kernel_rfl)
def d85 : TD := ⟨.func, 1, 8, [.nilfunc]⟩
theorem o85 : d85.ok Tryd.prog 85 := TD.ok_of Tryd.underlying85 ⟨_, _, _, rfl⟩ (by kernel_rfl)
def d86 : TD := ⟨.func, 1, 8, [.nilfunc]⟩
theorem o86 : d86.ok Tryd.prog 86 := TD.ok_of Tryd.underlying86 ⟨_, _, _, rfl⟩ (by kernel_rfl)
def d87 : TD := ⟨.func, 1, 8, [.nilfunc]⟩
theorem o87 : d87.ok Tryd.prog 87 := TD.ok_of Tryd.underlying87 ⟨_, _, _, rfl⟩ (by kernel_rfl)
def d88 : TD := ⟨.func, 1, 8, [.nilfunc]⟩
theorem o88 : d88.ok Tryd.prog 88 := TD.ok_of Tryd.underlying88 ⟨_, _, _, rfl⟩ (by kernel_rfl)
def d89 : TD := ⟨.func, 1, 8, [.nilfunc]⟩
theorem o89 : d89.ok Tryd.prog 89 := TD.ok_of Tryd.underlying89 ⟨_, _, _, rfl⟩ (by kernel_rfl)
def d90 : TD := ⟨.func, 1, 8, [.nilfunc]⟩
theorem o90 : d90.ok Tryd.prog 90 := TD.ok_of Tryd.underlying90 ⟨_, _, _, rfl⟩ (by kernel_rfl)
def d91 : TD := ⟨.func, 1, 8, [.nilfunc]⟩
theorem o91 : d91.ok Tryd.prog 91 := TD.ok_of Tryd.underlying91 ⟨_, _, _, rfl⟩ (by kernel_rfl)
def d92 : TD := ⟨.slice 5, 1, 24, [.nil]⟩
theorem o92 : d92.ok Tryd.prog 92 := TD.ok_of Tryd.underlying92 rfl (by kernel_rfl)
def d93 : TD := ⟨.func, 1, 8, [.nilfunc]⟩
theorem o93 : d93.ok Tryd.prog 93 := TD.ok_of Tryd.underlying93 ⟨_, _, _, rfl⟩ (by kernel_rfl)
def d94 : TD := ⟨.func, 1, 8, [.nilfunc]⟩
theorem o94 : d94.ok Tryd.prog 94 := TD.ok_of Tryd.underlying94 ⟨_, _, _, rfl⟩ (by kernel_rfl)
def d95 : TD := ⟨.func, 1, 8, [.nilfunc]⟩
theorem o95 : d95.ok Tryd.prog 95 := TD.ok_of Tryd.underlying95 ⟨_, _, _, rfl⟩ (by kernel_rfl)
def d96 : TD := ⟨.func, 1, 8, [.nilfunc]⟩
theorem o96 : d96.ok Tryd.prog 96 := TD.ok_of Tryd.underlying96 ⟨_, _, _, rfl⟩ (by kernel_rfl)
def d97 : TD := ⟨.array 24 5, 24, 24, [.int .u8 0, .int .u8 0, .int .u8 0, .int .u8 0, .int .u8 0, .int .u8 0, .int .u8 0, .int .u8 0, .int .u8 0, .int .u8 0, .int .u8 0, .int .u8 0, .int .u8 0, .int .u8 0, .int .u8 0, .int .u8 0, .int .u8 0, .int .u8 0, .int .u8 0, .int .u8 0, .int .u8 0, .int .u8 0, .int .u8 0, .int .u8 0]⟩
theorem o97 : d97.ok Tryd.prog 97 := TD.ok_of Tryd.underlying97 rfl (by kernel_rfl)
def d98 : TD := ⟨.func, 1, 8, [.nilfunc]⟩
theorem o98 : d98.ok Tryd.prog 98 := TD.ok_of Tryd.underlying98 ⟨_, _, _, rfl⟩ (by kernel_rfl)
def d99 : TD := ⟨.func, 1, 8, [.nilfunc]⟩
theorem o99 : d99.ok Tryd.prog 99 := TD.ok_of Tryd.underlying99 ⟨_, _, _, rfl⟩ (by kernel_rfl)
def d101 : TD := ⟨.func, 1, 8, [.nilfunc]⟩
theorem o101 : d101.ok Tryd.prog 101 := TD.ok_of Tryd.underlying101 ⟨_, _, _, rfl⟩ (by kernel_rfl)
def d102 : TD := ⟨.func, 1, 8, [.nilfunc]⟩
theorem o102 : d102.ok Tryd.prog 102 := TD.ok_of Tryd.underlying102 ⟨_, _, _, rfl⟩ (by kernel_rfl)
def d103 : TD := ⟨.func, 1, 8, [.nilfunc]⟩
theorem o103 : d103.ok Tryd.prog 103 := TD.ok_of Tryd.underlying103 ⟨_, _, _, rfl⟩ (by kernel_rfl)
def d104 : TD := ⟨.array 20 44, 20, 160, [.int .u64 0, .int .u64 0, .int .u64 0, .int .u64 0, .int .u64 0, .int .u64 0, .int .u64 0, .int .u64 0, .int .u64 0, .int .u64 0, .int .u64 0, .int .u64 0, .int .u64 0, .int .u64 0, .int .u64 0, .int .u64 0, .int .u64 0, .int .u64 0, .int .u64 0, .int .u64 0]⟩
theorem o104 : d104.ok Tryd.prog 104 := TD.ok_of Tryd.underlying104 rfl (by kernel_rfl)
def d105 : TD := ⟨.int .u32, 1, 4, [.int .u32 0]⟩
theorem o105 : d105.ok Tryd.prog 105 := TD.ok_of Tryd.underlying105 rfl (by kernel_rfl)
def d107 : TD := ⟨.func, 1, 8, [.nilfunc]⟩
theorem o107 : d107.ok Tryd.prog 107 := TD.ok_of Tryd.underlying107 ⟨_, _, _, rfl⟩ (by kernel_rfl)
def d108 : TD := ⟨.int .u64, 1, 8, [.int .u64 0]⟩
theorem o108 : d108.ok Tryd.prog 108 := TD.ok_of Tryd.underlying108 rfl (by kernel_rfl)
def d109 : TD := ⟨.func, 1, 8, [.nilfunc]⟩
theorem o109 : d109.ok Tryd.prog 109 := TD.ok_of Tryd.underlying109 ⟨_, _, _, rfl⟩ (by kernel_rfl)
def d110 : TD := ⟨.func, 1, 8, [.nilfunc]⟩
theorem o110 : d110.ok Tryd.prog 110 := TD.ok_of Tryd.underlying110 ⟨_, _, _, rfl⟩ (by kernel_rfl)
def d111 : TD := ⟨.array 32 5, 32, 32, [.int .u8 0, .int .u8 0, .int .u8 0, .int .u8 0, .int .u8 0, .int .u8 0, .int .u8 0, .int .u8 0, .int .u8 0, .int .u8 0, .int .u8 0, .int .u8 0, .int .u8 0, .int .u8 0, .int .u8 0, .int .u8 0, .int .u8 0, .int .u8 0, .int .u8 0, .int .u8 0, .int .u8 0, .int .u8 0, .int .u8 0, .int .u8 0, .int .u8 0, .int .u8 0, .int .u8 0, .int .u8 0, .int .u8 0, .int .u8 0, .int .u8 0, .int .u8 0]⟩
theorem o111 : d111.ok Tryd.prog 111 := TD.ok_of Tryd.underlying111 rfl (by kernel_rfl)
def d112 : TD := ⟨.array 64 5, 64, 64, [.int .u8 0, .int .u8 0, .int .u8 0, .int .u8 0, .int .u8 0, .int .u8 0, .int .u8 0, .int .u8 0, .int .u8 0, .int .u8 0, .int .u8 0, .int .u8 0, .int .u8 0, .int .u8 0, .int .u8 0, .int .u8 0, .int .u8 0, .int .u8 0, .int .u8 0, .int .u8 0, .int .u8 0, .int .u8 0, .int .u8 0, .int .u8 0, .int .u8 0, .int .u8 0, .int .u8 0, .int .u8 0, .int .u8 0, .int .u8 0, .int .u8 0, .int .u8 0, .int .u8 0, .int .u8 0, .int .u8 0, .int .u8 0, .int .u8 0, .int .u8 0, .int .u8 0, .int .u8 0, .int .u8 0, .int .u8 0, .int .u8 0, .int .u8 0, .int .u8 0, .int .u8 0, .int .u8 0, .int .u8 0, .int .u8 0, .int .u8 0, .int .u8 0, .int .u8 0, .int .u8 0, .int .u8 0, .int .u8 0, .int .u8 0, .int .u8 0, .int .u8 0, .int .u8 0, .int .u8 0, .int .u8 0, .int .u8 0, .int .u8 0, .int .u8 0]⟩
theorem o112 : d112.ok Tryd.prog 112 := TD.ok_of Tryd.underlying112 rfl (by kernel_rfl)
def d113 : TD := ⟨.func, 1, 8, [.nilfunc]⟩
theorem o113 : d113.ok Tryd.prog 113 := TD.ok_of Tryd.underlying113 ⟨_, _, _, rfl⟩ (by kernel_rfl)
def d114 : TD := ⟨.struct [(0, 17), (1, 17), (2, 17), (3, 9)], 4, 40, [.nilptr, .nilptr, .nilptr, .str ⟨#[]⟩]⟩
theorem o114 : d114.ok Tryd.prog 114 := TD.ok_of Tryd.underlying114 ⟨_, rfl, rfl⟩ (by kernel_rfl)
def d115 : TD := ⟨.struct [(0, 17), (1, 17), (2, 17), (3, 9)], 4, 40, [.nilptr, .nilptr, .nilptr, .str ⟨#[]⟩]⟩
theorem o115 : d115.ok Tryd.prog 115 := TD.ok_of Tryd.underlying115 ⟨_, rfl, rfl⟩ (by kernel_rfl)
def d116 : TD := ⟨.array 0 16, 0, 0, []⟩
theorem o116 : d116.ok Tryd.prog 116 := TD.ok_of Tryd.underlying116 rfl (by kernel_rfl)
def d117 : TD := ⟨.struct [(0, 116)], 0, 0, []⟩
theorem o117 : d117.ok Tryd.prog 117 := TD.ok_of Tryd.underlying117 ⟨_, rfl, rfl⟩ (by kernel_rfl)
def d118 : TD := ⟨.struct [(0, 116)], 0, 0, []⟩
theorem o118 : d118.ok Tryd.prog 118 := TD.ok_of Tryd.underlying118 ⟨_, rfl, rfl⟩ (by kernel_rfl)
def d119 : TD := ⟨.func, 1, 8, [.nilfunc]⟩
theorem o119 : d119.ok Tryd.prog 119 := TD.ok_of Tryd.underlying119 ⟨_, _, _, rfl⟩ (by kernel_rfl)
def d120 : TD := ⟨.int .u8, 1, 1, [.int .u8 0]⟩
theorem o120 : d120.ok Tryd.prog 120 := TD.ok_of Tryd.underlying120 rfl (by kernel_rfl)
def d121 : TD := ⟨.int .u8, 1, 1, [.int .u8 0]⟩
theorem o121 : d121.ok Tryd.prog 121 := TD.ok_of Tryd.underlying121 rfl (by kernel_rfl)
def d122 : TD := ⟨.func, 1, 8, [.nilfunc]⟩
theorem o122 : d122.ok Tryd.prog 122 := TD.ok_of Tryd.underlying122 ⟨_, _, _, rfl⟩ (by kernel_rfl)
def d123 : TD := ⟨.ptr 5, 1, 8, [.nilptr]⟩
theorem o123 : d123.ok Tryd.prog 123 := TD.ok_of Tryd.underlying123 rfl (by kernel_rfl)
def d124 : TD := ⟨.int .i32, 1, 4, [.int .i32 0]⟩
theorem o124 : d124.ok Tryd.prog 124 := TD.ok_of Tryd.underlying124 rfl (by kernel_rfl)
def d125 : TD := ⟨.int .i32, 1, 4, [.int .i32 0]⟩
theorem o125 : d125.ok Tryd.prog 125 := TD.ok_of Tryd.underlying125 rfl (by kernel_rfl)
def d126 : TD := ⟨.struct [(0, 12), (1, 12), (2, 105), (3, 120), (4, 5), (5, 5), (6, 121), (7, 122), (8, 123), (9, 124), (10, 125)], 11, 48, [.int .u64 0, .int .u64 0, .int .u32 0, .int .u8 0, .int .u8 0, .int .u8 0, .int .u8 0, .nilfunc, .nilptr, .int .i32 0, .int .i32 0]⟩
theorem o126 : d126.ok Tryd.prog 126 := TD.ok_of Tryd.underlying126 ⟨_, rfl, rfl⟩ (by kernel_rfl)
def d127 : TD := ⟨.struct [(0, 12), (1, 12), (2, 105), (3, 120), (4, 5), (5, 5), (6, 121), (7, 122), (8, 123), (9, 124), (10, 125)], 11, 48, [.int .u64 0, .int .u64 0, .int .u32 0, .int .u8 0, .int .u8 0, .int .u8 0, .int .u8 0, .nilfunc, .nilptr, .int .i32 0, .int .i32 0]⟩
theorem o127 : d127.ok Tryd.prog 127 := TD.ok_of Tryd.underlying127 ⟨_, rfl, rfl⟩ (by kernel_rfl)
def tl : List (Nat × TD) := [(1, d1), (2, d2), (3, d3), (4, d4), (5, d5), (6, d6), (7, d7), (8, d8), (9, d9), (10, d10), (11, d11), (12, d12), (13, d13), (14, d14), (15, d15), (16, d16), (17, d17), (18, d18), (19, d19), (20, d20), (21, d21), (22, d22), (23, d23), (24, d24), (25, d25), (26, d26), (28, d28), (30, d30), (31, d31), (32, d32), (33, d33), (34, d34), (35, d35), (36, d36), (37, d37), (38, d38), (39, d39), (41, d41), (42, d42), (43, d43), (44, d44), (45, d45), (46, d46), (47, d47), (48, d48), (49, d49), (50, d50), (51, d51), (52, d52), (53, d53), (54, d54), (55, d55), (57, d57), (59, d59), (60, d60), (62, d62), (63, d63), (64, d64), (65, d65), (66, d66), (67, d67), (68, d68), (69, d69), (70, d70), (71, d71), (72, d72), (73, d73), (74, d74), (75, d75), (76, d76), (77, d77), (78, d78), (79, d79), (80, d80), (81, d81), (82, d82), (84, d84), (85, d85), (86, d86), (87, d87), (88, d88), (89, d89), (90, d90), (91, d91), (92, d92), (93, d93), (94, d94), (95, d95), (96, d96), (97, d97), (98, d98), (99, d99), (101, d101), (102, d102), (103, d103), (104, d104), (105, d105), (107, d107), (108, d108), (109, d109), (110, d110), (111, d111), (112, d112), (113, d113), (114, d114), (115, d115), (116, d116), (117, d117), (118, d118), (119, d119), (120, d120), (121, d121), (122, d122), (123, d123), (124, d124), (125, d125), (126, d126), (127, d127)]
def T (t : TypeId) : Option TD := tl.lookup t
theorem hT : ∀ t td, T t = some td → td.ok Tryd.prog t := lookup_ok (by
  simp only [tl, List.forall_mem_cons, List.not_mem_nil, false_imp_iff, implies_true, and_true]
  exact ⟨o1, o2, o3, o4, o5, o6, o7, o8, o9, o10, o11, o12, o13, o14, o15, o16, o17, o18, o19, o20, o21, o22, o23, o24, o25, o26, o28, o30, o31, o32, o33, o34, o35, o36, o37, o38, o39, o41, o42, o43, o44, o45, o46, o47, o48, o49, o50, o51, o52, o53, o54, o55, o57, o59, o60, o62, o63, o64, o65, o66, o67, o68, o69, o70, o71, o72, o73, o74, o75, o76, o77, o78, o79, o80, o81, o82, o84, o85, o86, o87, o88, o89, o90, o91, o92, o93, o94, o95, o96, o97, o98, o99, o101, o102, o103, o104, o105, o107, o108, o109, o110, o111, o112, o113, o114, o115, o116, o117, o118, o119, o120, o121, o122, o123, o124, o125, o126, o127⟩)
attribute [push_cast] d1 d2 d3 d4 d5 d6 d7 d8 d9 d10 d11 d12 d13 d14 d15 d16 d17 d18 d19 d20 d21 d22 d23 d24 d25 d26 d28 d30 d31 d32 d33 d34 d35 d36 d37 d38 d39 d41 d42 d43 d44 d45 d46 d47 d48 d49 d50 d51 d52 d53 d54 d55 d57 d59 d60 d62 d63 d64 d65 d66 d67 d68 d69 d70 d71 d72 d73 d74 d75 d76 d77 d78 d79 d80 d81 d82 d84 d85 d86 d87 d88 d89 d90 d91 d92 d93 d94 d95 d96 d97 d98 d99 d101 d102 d103 d104 d105 d107 d108 d109 d110 d111 d112 d113 d114 d115 d116 d117 d118 d119 d120 d121 d122 d123 d124 d125 d126 d127
theorem fok {P : Program} : ∀ l : List (Nat × Func), (∀ p ∈ l, P.funcs[p.1]? = some p.2 ∧ (p.2.name == "runtime.NumGoroutine") = false ∧ p.2.body.isSome = true) → ∀ f fn, l.lookup f = some fn → P.funcs[f]? = some fn ∧ (fn.name == "runtime.NumGoroutine") = false ∧ fn.body.isSome = true
  | [], _, f, fn, h => by simp at h
  | (i, x) :: l, hl, f, fn, h => by
    simp only [List.lookup_cons] at h
    split at h
    · rename_i he; cases h; have hfi : f = i := by simpa using he
      subst hfi
      exact hl (f, x) (by simp)
    · exact fok l (fun p hp => hl p (by simp [hp])) f fn h
noncomputable def fl : List (Nat × Func) := [(2, Tryd.f2), (3, Tryd.f3), (4, Tryd.f4), (5, Tryd.f5), (6, Tryd.f6), (7, Tryd.f7), (8, Tryd.f8), (9, Tryd.f9), (10, Tryd.f10), (11, Tryd.f11), (12, Tryd.f12), (13, Tryd.f13), (14, Tryd.f14), (15, Tryd.f15), (16, Tryd.f16), (17, Tryd.f17), (18, Tryd.f18), (19, Tryd.f19), (20, Tryd.f20), (21, Tryd.f21), (22, Tryd.f22), (23, Tryd.f23), (24, Tryd.f24), (25, Tryd.f25), (26, Tryd.f26), (27, Tryd.f27), (28, Tryd.f28), (29, Tryd.f29), (30, Tryd.f30), (31, Tryd.f31), (32, Tryd.f32), (33, Tryd.f33), (34, Tryd.f34), (35, Tryd.f35), (36, Tryd.f36), (37, Tryd.f37), (38, Tryd.f38), (39, Tryd.f39), (40, Tryd.f40), (41, Tryd.f41), (42, Tryd.f42), (43, Tryd.f43), (44, Tryd.f44), (45, Tryd.f45), (46, Tryd.f46), (47, Tryd.f47), (48, Tryd.f48), (49, Tryd.f49), (50, Tryd.f50), (51, Tryd.f51), (52, Tryd.f52), (53, Tryd.f53), (54, Tryd.f54), (55, Tryd.f55), (56, Tryd.f56), (57, Tryd.f57), (58, Tryd.f58), (59, Tryd.f59), (60, Tryd.f60), (61, Tryd.f61), (62, Tryd.f62), (63, Tryd.f63), (64, Tryd.f64), (65, Tryd.f65), (66, Tryd.f66), (67, Tryd.f67), (68, Tryd.f68), (69, Tryd.f69), (70, Tryd.f70), (71, Tryd.f71), (72, Tryd.f72), (73, Tryd.f73), (74, Tryd.f74), (75, Tryd.f75), (76, Tryd.f76), (77, Tryd.f77), (78, Tryd.f78), (79, Tryd.f79), (80, Tryd.f80), (81, Tryd.f81), (82, Tryd.f82), (83, Tryd.f83), (84, Tryd.f84), (85, Tryd.f85), (87, Tryd.f87), (88, Tryd.f88), (111, Tryd.f111)]
noncomputable def F (k : Nat) : Option Func := fl.lookup k
theorem q2 : Tryd.prog.funcs[2]? = some Tryd.f2 ∧ (Tryd.f2.name == "runtime.NumGoroutine") = false ∧ Tryd.f2.body.isSome = true := ⟨Tryd.func2, by decide, rfl⟩
theorem q3 : Tryd.prog.funcs[3]? = some Tryd.f3 ∧ (Tryd.f3.name == "runtime.NumGoroutine") = false ∧ Tryd.f3.body.isSome = true := ⟨Tryd.func3, by decide, rfl⟩
theorem q4 : Tryd.prog.funcs[4]? = some Tryd.f4 ∧ (Tryd.f4.name == "runtime.NumGoroutine") = false ∧ Tryd.f4.body.isSome = true := ⟨Tryd.func4, by decide, rfl⟩
theorem q5 : Tryd.prog.funcs[5]? = some Tryd.f5 ∧ (Tryd.f5.name == "runtime.NumGoroutine") = false ∧ Tryd.f5.body.isSome = true := ⟨Tryd.func5, by decide, rfl⟩
theorem q6 : Tryd.prog.funcs[6]? = some Tryd.f6 ∧ (Tryd.f6.name == "runtime.NumGoroutine") = false ∧ Tryd.f6.body.isSome = true := ⟨Tryd.func6, by decide, rfl⟩
theorem q7 : Tryd.prog.funcs[7]? = some Tryd.f7 ∧ (Tryd.f7.name == "runtime.NumGoroutine") = false ∧ Tryd.f7.body.isSome = true := ⟨Tryd.func7, by decide, rfl⟩
theorem q8 : Tryd.prog.funcs[8]? = some Tryd.f8 ∧ (Tryd.f8.name == "runtime.NumGoroutine") = false ∧ Tryd.f8.body.isSome = true := ⟨Tryd.func8, by decide, rfl⟩
theorem q9 : Tryd.prog.funcs[9]? = some Tryd.f9 ∧ (Tryd.f9.name == "runtime.NumGoroutine") = false ∧ Tryd.f9.body.isSome = true := ⟨Tryd.func9, by decide, rfl⟩
theorem q10 : Tryd.prog.funcs[10]? = some Tryd.f10 ∧ (Tryd.f10.name == "runtime.NumGoroutine") = false ∧ Tryd.f10.body.isSome = true := ⟨Tryd.func10, by decide, rfl⟩
theorem q11 : Tryd.prog.funcs[11]? = some Tryd.f11 ∧ (Tryd.f11.name == "runtime.NumGoroutine") = false ∧ Tryd.f11.body.isSome = true := ⟨Tryd.func11, by decide, rfl⟩
theorem q12 : Tryd.prog.funcs[12]? = some Tryd.f12 ∧ (Tryd.f12.name == "runtime.NumGoroutine") = false ∧ Tryd.f12.body.isSome = true := ⟨Tryd.func12, by decide, rfl⟩
theorem q13 : Tryd.prog.funcs[13]? = some Tryd.f13 ∧ (Tryd.f13.name == "runtime.NumGoroutine") = false ∧ Tryd.f13.body.isSome = true := ⟨Tryd.func13, by decide, rfl⟩
theorem q14 : Tryd.prog.funcs[14]? = some Tryd.f14 ∧ (Tryd.f14.name == "runtime.NumGoroutine") = false ∧ Tryd.f14.body.isSome = true := ⟨Tryd.func14, by decide, rfl⟩
theorem q15 : Tryd.prog.funcs[15]? = some Tryd.f15 ∧ (Tryd.f15.name == "runtime.NumGoroutine") = false ∧ Tryd.f15.body.isSome = true := ⟨Tryd.func15, by decide, rfl⟩
theorem q16 : Tryd.prog.funcs[16]? = some Tryd.f16 ∧ (Tryd.f16.name == "runtime.NumGoroutine") = false ∧ Tryd.f16.body.isSome = true := ⟨Tryd.func16, by decide, rfl⟩
theorem q17 : Tryd.prog.funcs[17]? = some Tryd.f17 ∧ (Tryd.f17.name == "runtime.NumGoroutine") = false ∧ Tryd.f17.body.isSome = true := ⟨Tryd.func17, by decide, rfl⟩
theorem q18 : Tryd.prog.funcs[18]? = some Tryd.f18 ∧ (Tryd.f18.name == "runtime.NumGoroutine") = false ∧ Tryd.f18.body.isSome = true := ⟨Tryd.func18, by decide, rfl⟩
theorem q19 : Tryd.prog.funcs[19]? = some Tryd.f19 ∧ (Tryd.f19.name == "runtime.NumGoroutine") = false ∧ Tryd.f19.body.isSome = true := ⟨Tryd.func19, by decide, rfl⟩
theorem q20 : Tryd.prog.funcs[20]? = some Tryd.f20 ∧ (Tryd.f20.name == "runtime.NumGoroutine") = false ∧ Tryd.f20.body.isSome = true := ⟨Tryd.func20, by decide, rfl⟩
theorem q21 : Tryd.prog.funcs[21]? = some Tryd.f21 ∧ (Tryd.f21.name == "runtime.NumGoroutine") = false ∧ Tryd.f21.body.isSome = true := ⟨Tryd.func21, by decide, rfl⟩
theorem q22 : Tryd.prog.funcs[22]? = some Tryd.f22 ∧ (Tryd.f22.name == "runtime.NumGoroutine") = false ∧ Tryd.f22.body.isSome = true := ⟨Tryd.func22, by decide, rfl⟩
theorem q23 : Tryd.prog.funcs[23]? = some Tryd.f23 ∧ (Tryd.f23.name == "runtime.NumGoroutine") = false ∧ Tryd.f23.body.isSome = true := ⟨Tryd.func23, by decide, rfl⟩
theorem q24 : Tryd.prog.funcs[24]? = some Tryd.f24 ∧ (Tryd.f24.name == "runtime.NumGoroutine") = false ∧ Tryd.f24.body.isSome = true := ⟨Tryd.func24, by decide, rfl⟩
theorem q25 : Tryd.prog.funcs[25]? = some Tryd.f25 ∧ (Tryd.f25.name == "runtime.NumGoroutine") = false ∧ Tryd.f25.body.isSome = true := ⟨Tryd.func25, by decide, rfl⟩
theorem q26 : Tryd.prog.funcs[26]? = some Tryd.f26 ∧ (Tryd.f26.name == "runtime.NumGoroutine") = false ∧ Tryd.f26.body.isSome = true := ⟨Tryd.func26, by decide, rfl⟩
theorem q27 : Tryd.prog.funcs[27]? = some Tryd.f27 ∧ (Tryd.f27.name == "runtime.NumGoroutine") = false ∧ Tryd.f27.body.isSome = true := ⟨Tryd.func27, by decide, rfl⟩
theorem q28 : Tryd.prog.funcs[28]? = some Tryd.f28 ∧ (Tryd.f28.name == "runtime.NumGoroutine") = false ∧ Tryd.f28.body.isSome = true := ⟨Tryd.func28, by decide, rfl⟩
theorem q29 : Tryd.prog.funcs[29]? = some Tryd.f29 ∧ (Tryd.f29.name == "runtime.NumGoroutine") = false ∧ Tryd.f29.body.isSome = true := ⟨Tryd.func29, by decide, rfl⟩
theorem q30 : Tryd.prog.funcs[30]? = some Tryd.f30 ∧ (Tryd.f30.name == "runtime.NumGoroutine") = false ∧ Tryd.f30.body.isSome = true := ⟨Tryd.func30, by decide, rfl⟩
theorem q31 : Tryd.prog.funcs[31]? = some Tryd.f31 ∧ (Tryd.f31.name == "runtime.NumGoroutine") = false ∧ Tryd.f31.body.isSome = true := ⟨Tryd.func31, by decide, rfl⟩
theorem q32 : Tryd.prog.funcs[32]? = some Tryd.f32 ∧ (Tryd.f32.name == "runtime.NumGoroutine") = false ∧ Tryd.f32.body.isSome = true := ⟨Tryd.func32, by decide, rfl⟩
theorem q33 : Tryd.prog.funcs[33]? = some Tryd.f33 ∧ (Tryd.f33.name == "runtime.NumGoroutine") = false ∧ Tryd.f33.body.isSome = true := ⟨Tryd.func33, by decide, rfl⟩
theorem q34 : Tryd.prog.funcs[34]? = some Tryd.f34 ∧ (Tryd.f34.name == "runtime.NumGoroutine") = false ∧ Tryd.f34.body.isSome = true := ⟨Tryd.func34, by decide, rfl⟩
theorem q35 : Tryd.prog.funcs[35]? = some Tryd.f35 ∧ (Tryd.f35.name == "runtime.NumGoroutine") = false ∧ Tryd.f35.body.isSome = true := ⟨Tryd.func35, by decide, rfl⟩
theorem q36 : Tryd.prog.funcs[36]? = some Tryd.f36 ∧ (Tryd.f36.name == "runtime.NumGoroutine") = false ∧ Tryd.f36.body.isSome = true := ⟨Tryd.func36, by decide, rfl⟩
theorem q37 : Tryd.prog.funcs[37]? = some Tryd.f37 ∧ (Tryd.f37.name == "runtime.NumGoroutine") = false ∧ Tryd.f37.body.isSome = true := ⟨Tryd.func37, by decide, rfl⟩
theorem q38 : Tryd.prog.funcs[38]? = some Tryd.f38 ∧ (Tryd.f38.name == "runtime.NumGoroutine") = false ∧ Tryd.f38.body.isSome = true := ⟨Tryd.func38, by decide, rfl⟩
theorem q39 : Tryd.prog.funcs[39]? = some Tryd.f39 ∧ (Tryd.f39.name == "runtime.NumGoroutine") = false ∧ Tryd.f39.body.isSome = true := ⟨Tryd.func39, by decide, rfl⟩
theorem q40 : Tryd.prog.funcs[40]? = some Tryd.f40 ∧ (Tryd.f40.name == "runtime.NumGoroutine") = false ∧ Tryd.f40.body.isSome = true := ⟨Tryd.func40, by decide, rfl⟩
theorem q41 : Tryd.prog.funcs[41]? = some Tryd.f41 ∧ (Tryd.f41.name == "runtime.NumGoroutine") = false ∧ Tryd.f41.body.isSome = true := ⟨Tryd.func41, by decide, rfl⟩
theorem q42 : Tryd.prog.funcs[42]? = some Tryd.f42 ∧ (Tryd.f42.name == "runtime.NumGoroutine") = false ∧ Tryd.f42.body.isSome = true := ⟨Tryd.func42, by decide, rfl⟩
theorem q43 : Tryd.prog.funcs[43]? = some Tryd.f43 ∧ (Tryd.f43.name == "runtime.NumGoroutine") = false ∧ Tryd.f43.body.isSome = true := ⟨Tryd.func43, by decide, rfl⟩
theorem q44 : Tryd.prog.funcs[44]? = some Tryd.f44 ∧ (Tryd.f44.name == "runtime.NumGoroutine") = false ∧ Tryd.f44.body.isSome = true := ⟨Tryd.func44, by decide, rfl⟩
theorem q45 : Tryd.prog.funcs[45]? = some Tryd.f45 ∧ (Tryd.f45.name == "runtime.NumGoroutine") = false ∧ Tryd.f45.body.isSome = true := ⟨Tryd.func45, by decide, rfl⟩
theorem q46 : Tryd.prog.funcs[46]? = some Tryd.f46 ∧ (Tryd.f46.name == "runtime.NumGoroutine") = false ∧ Tryd.f46.body.isSome = true := ⟨Tryd.func46, by decide, rfl⟩
theorem q47 : Tryd.prog.funcs[47]? = some Tryd.f47 ∧ (Tryd.f47.name == "runtime.NumGoroutine") = false ∧ Tryd.f47.body.isSome = true := ⟨Tryd.func47, by decide, rfl⟩
theorem q48 : Tryd.prog.funcs[48]? = some Tryd.f48 ∧ (Tryd.f48.name == "runtime.NumGoroutine") = false ∧ Tryd.f48.body.isSome = true := ⟨Tryd.func48, by decide, rfl⟩
theorem q49 : Tryd.prog.funcs[49]? = some Tryd.f49 ∧ (Tryd.f49.name == "runtime.NumGoroutine") = false ∧ Tryd.f49.body.isSome = true := ⟨Tryd.func49, by decide, rfl⟩
theorem q50 : Tryd.prog.funcs[50]? = some Tryd.f50 ∧ (Tryd.f50.name == "runtime.NumGoroutine") = false ∧ Tryd.f50.body.isSome = true := ⟨Tryd.func50, by decide, rfl⟩
theorem q51 : Tryd.prog.funcs[51]? = some Tryd.f51 ∧ (Tryd.f51.name == "runtime.NumGoroutine") = false ∧ Tryd.f51.body.isSome = true := ⟨Tryd.func51, by decide, rfl⟩
theorem q52 : Tryd.prog.funcs[52]? = some Tryd.f52 ∧ (Tryd.f52.name == "runtime.NumGoroutine") = false ∧ Tryd.f52.body.isSome = true := ⟨Tryd.func52, by decide, rfl⟩
theorem q53 : Tryd.prog.funcs[53]? = some Tryd.f53 ∧ (Tryd.f53.name == "runtime.NumGoroutine") = false ∧ Tryd.f53.body.isSome = true := ⟨Tryd.func53, by decide, rfl⟩
theorem q54 : Tryd.prog.funcs[54]? = some Tryd.f54 ∧ (Tryd.f54.name == "runtime.NumGoroutine") = false ∧ Tryd.f54.body.isSome = true := ⟨Tryd.func54, by decide, rfl⟩
theorem q55 : Tryd.prog.funcs[55]? = some Tryd.f55 ∧ (Tryd.f55.name == "runtime.NumGoroutine") = false ∧ Tryd.f55.body.isSome = true := ⟨Tryd.func55, by decide, rfl⟩
theorem q56 : Tryd.prog.funcs[56]? = some Tryd.f56 ∧ (Tryd.f56.name == "runtime.NumGoroutine") = false ∧ Tryd.f56.body.isSome = true := ⟨Tryd.func56, by decide, rfl⟩
theorem q57 : Tryd.prog.funcs[57]? = some Tryd.f57 ∧ (Tryd.f57.name == "runtime.NumGoroutine") = false ∧ Tryd.f57.body.isSome = true := ⟨Tryd.func57, by decide, rfl⟩
theorem q58 : Tryd.prog.funcs[58]? = some Tryd.f58 ∧ (Tryd.f58.name == "runtime.NumGoroutine") = false ∧ Tryd.f58.body.isSome = true := ⟨Tryd.func58, by decide, rfl⟩
theorem q59 : Tryd.prog.funcs[59]? = some Tryd.f59 ∧ (Tryd.f59.name == "runtime.NumGoroutine") = false ∧ Tryd.f59.body.isSome = true := ⟨Tryd.func59, by decide, rfl⟩
theorem q60 : Tryd.prog.funcs[60]? = some Tryd.f60 ∧ (Tryd.f60.name == "runtime.NumGoroutine") = false ∧ Tryd.f60.body.isSome = true := ⟨Tryd.func60, by decide, rfl⟩
theorem q61 : Tryd.prog.funcs[61]? = some Tryd.f61 ∧ (Tryd.f61.name == "runtime.NumGoroutine") = false ∧ Tryd.f61.body.isSome = true := ⟨Tryd.func61, by decide, rfl⟩
theorem q62 : Tryd.prog.funcs[62]? = some Tryd.f62 ∧ (Tryd.f62.name == "runtime.NumGoroutine") = false ∧ Tryd.f62.body.isSome = true := ⟨Tryd.func62, by decide, rfl⟩
theorem q63 : Tryd.prog.funcs[63]? = some Tryd.f63 ∧ (Tryd.f63.name == "runtime.NumGoroutine") = false ∧ Tryd.f63.body.isSome = true := ⟨Tryd.func63, by decide, rfl⟩
theorem q64 : Tryd.prog.funcs[64]? = some Tryd.f64 ∧ (Tryd.f64.name == "runtime.NumGoroutine") = false ∧ Tryd.f64.body.isSome = true := ⟨Tryd.func64, by decide, rfl⟩
theorem q65 : Tryd.prog.funcs[65]? = some Tryd.f65 ∧ (Tryd.f65.name == "runtime.NumGoroutine") = false ∧ Tryd.f65.body.isSome = true := ⟨Tryd.func65, by decide, rfl⟩
theorem q66 : Tryd.prog.funcs[66]? = some Tryd.f66 ∧ (Tryd.f66.name == "runtime.NumGoroutine") = false ∧ Tryd.f66.body.isSome = true := ⟨Tryd.func66, by decide, rfl⟩
theorem q67 : Tryd.prog.funcs[67]? = some Tryd.f67 ∧ (Tryd.f67.name == "runtime.NumGoroutine") = false ∧ Tryd.f67.body.isSome = true := ⟨Tryd.func67, by decide, rfl⟩
theorem q68 : Tryd.prog.funcs[68]? = some Tryd.f68 ∧ (Tryd.f68.name == "runtime.NumGoroutine") = false ∧ Tryd.f68.body.isSome = true := ⟨Tryd.func68, by decide, rfl⟩
theorem q69 : Tryd.prog.funcs[69]? = some Tryd.f69 ∧ (Tryd.f69.name == "runtime.NumGoroutine") = false ∧ Tryd.f69.body.isSome = true := ⟨Tryd.func69, by decide, rfl⟩
theorem q70 : Tryd.prog.funcs[70]? = some Tryd.f70 ∧ (Tryd.f70.name == "runtime.NumGoroutine") = false ∧ Tryd.f70.body.isSome = true := ⟨Tryd.func70, by decide, rfl⟩
theorem q71 : Tryd.prog.funcs[71]? = some Tryd.f71 ∧ (Tryd.f71.name == "runtime.NumGoroutine") = false ∧ Tryd.f71.body.isSome = true := ⟨Tryd.func71, by decide, rfl⟩
theorem q72 : Tryd.prog.funcs[72]? = some Tryd.f72 ∧ (Tryd.f72.name == "runtime.NumGoroutine") = false ∧ Tryd.f72.body.isSome = true := ⟨Tryd.func72, by decide, rfl⟩
theorem q73 : Tryd.prog.funcs[73]? = some Tryd.f73 ∧ (Tryd.f73.name == "runtime.NumGoroutine") = false ∧ Tryd.f73.body.isSome = true := ⟨Tryd.func73, by decide, rfl⟩
theorem q74 : Tryd.prog.funcs[74]? = some Tryd.f74 ∧ (Tryd.f74.name == "runtime.NumGoroutine") = false ∧ Tryd.f74.body.isSome = true := ⟨Tryd.func74, by decide, rfl⟩
theorem q75 : Tryd.prog.funcs[75]? = some Tryd.f75 ∧ (Tryd.f75.name == "runtime.NumGoroutine") = false ∧ Tryd.f75.body.isSome = true := ⟨Tryd.func75, by decide, rfl⟩
theorem q76 : Tryd.prog.funcs[76]? = some Tryd.f76 ∧ (Tryd.f76.name == "runtime.NumGoroutine") = false ∧ Tryd.f76.body.isSome = true := ⟨Tryd.func76, by decide, rfl⟩
theorem q77 : Tryd.prog.funcs[77]? = some Tryd.f77 ∧ (Tryd.f77.name == "runtime.NumGoroutine") = false ∧ Tryd.f77.body.isSome = true := ⟨Tryd.func77, by decide, rfl⟩
theorem q78 : Tryd.prog.funcs[78]? = some Tryd.f78 ∧ (Tryd.f78.name == "runtime.NumGoroutine") = false ∧ Tryd.f78.body.isSome = true := ⟨Tryd.func78, by decide, rfl⟩
theorem q79 : Tryd.prog.funcs[79]? = some Tryd.f79 ∧ (Tryd.f79.name == "runtime.NumGoroutine") = false ∧ Tryd.f79.body.isSome = true := ⟨Tryd.func79, by decide, rfl⟩
theorem q80 : Tryd.prog.funcs[80]? = some Tryd.f80 ∧ (Tryd.f80.name == "runtime.NumGoroutine") = false ∧ Tryd.f80.body.isSome = true := ⟨Tryd.func80, by decide, rfl⟩
theorem q81 : Tryd.prog.funcs[81]? = some Tryd.f81 ∧ (Tryd.f81.name == "runtime.NumGoroutine") = false ∧ Tryd.f81.body.isSome = true := ⟨Tryd.func81, by decide, rfl⟩
theorem q82 : Tryd.prog.funcs[82]? = some Tryd.f82 ∧ (Tryd.f82.name == "runtime.NumGoroutine") = false ∧ Tryd.f82.body.isSome = true := ⟨Tryd.func82, by decide, rfl⟩
theorem q83 : Tryd.prog.funcs[83]? = some Tryd.f83 ∧ (Tryd.f83.name == "runtime.NumGoroutine") = false ∧ Tryd.f83.body.isSome = true := ⟨Tryd.func83, by decide, rfl⟩
theorem q84 : Tryd.prog.funcs[84]? = some Tryd.f84 ∧ (Tryd.f84.name == "runtime.NumGoroutine") = false ∧ Tryd.f84.body.isSome = true := ⟨Tryd.func84, by decide, rfl⟩
theorem q85 : Tryd.prog.funcs[85]? = some Tryd.f85 ∧ (Tryd.f85.name == "runtime.NumGoroutine") = false ∧ Tryd.f85.body.isSome = true := ⟨Tryd.func85, by decide, rfl⟩
theorem q87 : Tryd.prog.funcs[87]? = some Tryd.f87 ∧ (Tryd.f87.name == "runtime.NumGoroutine") = false ∧ Tryd.f87.body.isSome = true := ⟨Tryd.func87, by decide, rfl⟩
theorem q88 : Tryd.prog.funcs[88]? = some Tryd.f88 ∧ (Tryd.f88.name == "runtime.NumGoroutine") = false ∧ Tryd.f88.body.isSome = true := ⟨Tryd.func88, by decide, rfl⟩
theorem q111 : Tryd.prog.funcs[111]? = some Tryd.f111 ∧ (Tryd.f111.name == "runtime.NumGoroutine") = false ∧ Tryd.f111.body.isSome = true := ⟨Tryd.func111, by decide, rfl⟩
theorem hF : ∀ f fn, F f = some fn → Tryd.prog.funcs[f]? = some fn ∧ (fn.name == "runtime.NumGoroutine") = false ∧ fn.body.isSome = true := fok _ (by
  simp only [fl, List.forall_mem_cons, List.not_mem_nil, false_imp_iff, implies_true, and_true]
  exact ⟨q2, q3, q4, q5, q6, q7, q8, q9, q10, q11, q12, q13, q14, q15, q16, q17, q18, q19, q20, q21, q22, q23, q24, q25, q26, q27, q28, q29, q30, q31, q32, q33, q34, q35, q36, q37, q38, q39, q40, q41, q42, q43, q44, q45, q46, q47, q48, q49, q50, q51, q52, q53, q54, q55, q56, q57, q58, q59, q60, q61, q62, q63, q64, q65, q66, q67, q68, q69, q70, q71, q72, q73, q74, q75, q76, q77, q78, q79, q80, q81, q82, q83, q84, q85, q87, q88, q111⟩)
theorem mo : Tryd.prog.follows .mixedOrders = true := by kernel_rfl
end Seat
end Go.Proofs.YteimebpgmfhgjaaDoor
namespace Go.Proofs.YteimebpgmfhgjaaDoor
open Go.AS Go.RowKit
set_option linter.unusedVariables false
namespace Seat
def g3 : List PV := [.int .u8 0, .int .u8 1, .int .u8 28, .int .u8 2, .int .u8 29, .int .u8 14, .int .u8 24, .int .u8 3, .int .u8 30, .int .u8 22, .int .u8 20, .int .u8 15, .int .u8 25, .int .u8 17, .int .u8 4, .int .u8 8, .int .u8 31, .int .u8 27, .int .u8 13, .int .u8 23, .int .u8 21, .int .u8 19, .int .u8 16, .int .u8 7, .int .u8 26, .int .u8 12, .int .u8 18, .int .u8 6, .int .u8 11, .int .u8 5, .int .u8 10, .int .u8 9]
def g4 : List PV := [.int .u8 0, .int .u8 1, .int .u8 56, .int .u8 2, .int .u8 57, .int .u8 49, .int .u8 28, .int .u8 3, .int .u8 61, .int .u8 58, .int .u8 42, .int .u8 50, .int .u8 38, .int .u8 29, .int .u8 17, .int .u8 4, .int .u8 62, .int .u8 47, .int .u8 59, .int .u8 36, .int .u8 45, .int .u8 43, .int .u8 51, .int .u8 22, .int .u8 53, .int .u8 39, .int .u8 33, .int .u8 30, .int .u8 24, .int .u8 18, .int .u8 12, .int .u8 5, .int .u8 63, .int .u8 55, .int .u8 48, .int .u8 27, .int .u8 60, .int .u8 41, .int .u8 37, .int .u8 16, .int .u8 46, .int .u8 35, .int .u8 44, .int .u8 21, .int .u8 52, .int .u8 32, .int .u8 23, .int .u8 11, .int .u8 54, .int .u8 26, .int .u8 40, .int .u8 15, .int .u8 34, .int .u8 20, .int .u8 31, .int .u8 10, .int .u8 25, .int .u8 14, .int .u8 19, .int .u8 9, .int .u8 13, .int .u8 8, .int .u8 7, .int .u8 6]
def g1 : List PV := [.int .u64 1, .int .u64 10, .int .u64 100, .int .u64 1000, .int .u64 10000, .int .u64 100000, .int .u64 1000000, .int .u64 10000000, .int .u64 100000000, .int .u64 1000000000, .int .u64 10000000000, .int .u64 100000000000, .int .u64 1000000000000, .int .u64 10000000000000, .int .u64 100000000000000, .int .u64 1000000000000000, .int .u64 10000000000000000, .int .u64 100000000000000000, .int .u64 1000000000000000000, .int .u64 10000000000000000000]
def g0 : List PV := [.slice 16 [.str ⟨#[43]⟩, .int .i64 2, .str ⟨#[45]⟩, .int .i64 2, .str ⟨#[42]⟩, .int .i64 2, .str ⟨#[113, 117, 111, 116]⟩, .int .i64 2, .str ⟨#[114, 101, 109]⟩, .int .i64 2, .str ⟨#[60]⟩, .int .i64 2, .str ⟨#[61]⟩, .int .i64 2, .str ⟨#[99, 111, 110, 115]⟩, .int .i64 2, .str ⟨#[102, 105, 114, 115, 116]⟩, .int .i64 1, .str ⟨#[114, 101, 115, 116]⟩, .int .i64 1, .str ⟨#[99, 111, 117, 110, 116]⟩, .int .i64 1, .str ⟨#[108, 105, 115, 116, 63]⟩, .int .i64 1, .str ⟨#[110, 117, 109, 63]⟩, .int .i64 1, .str ⟨#[115, 121, 109, 63]⟩, .int .i64 1, .str ⟨#[109, 97, 114, 107]⟩, .int .i64 2, .str ⟨#[115, 116, 111, 112]⟩, .int .i64 1]]
def Γl : List (Nat × List PV) := [(3, g3), (4, g4), (1, g1), (0, g0)]
def Γ0 : Glob := ⟨fun g => Γl.lookup g, 0⟩
noncomputable def G0 : Prg := ⟨Tryd.prog, T, hT, Γ0, mo⟩
noncomputable def S0 : Cfg G0 := { F := F, hF := hF, S := fun _ _ => none, hS := fun _ _ _ _ h => by cases h }
theorem mem_lookup {α : Type} : ∀ {l : List (Nat × α)} {k : Nat} {x : α}, l.lookup k = some x → (k, x) ∈ l
  | [], k, x, h => by simp at h
  | (i, y) :: l, k, x, h => by
    simp only [List.lookup_cons] at h
    split at h
    · rename_i he; cases h; have hk : k = i := by simpa using he
      subst hk; simp
    · exact List.mem_cons_of_mem _ (mem_lookup h)
theorem l3 {W : World} (h : laidMet Tryd.prog Rows.primDoesRow.laid W) : GRep (old W) W g3 3 :=
  laid_glob (G := G0) (n := 9) (name := "math/bits.deBruijn32tab") (d := Rows.laid_math_bits_deBruijn32tab) h (List.Mem.head _) (by kernel_rfl) (t := 111) (by kernel_rfl) (by kernel_rfl)
theorem l4 {W : World} (h : laidMet Tryd.prog Rows.primDoesRow.laid W) : GRep (old W) W g4 4 :=
  laid_glob (G := G0) (n := 9) (name := "math/bits.deBruijn64tab") (d := Rows.laid_math_bits_deBruijn64tab) h (List.Mem.tail _ (List.Mem.head _)) (by kernel_rfl) (t := 112) (by kernel_rfl) (by kernel_rfl)
theorem l1 {W : World} (h : laidMet Tryd.prog Rows.primDoesRow.laid W) : GRep (old W) W g1 1 :=
  laid_glob (G := G0) (n := 9) (name := "internal/strconv.uint64pow10") (d := Rows.laid_internal_strconv_uint64pow10) h (List.Mem.tail _ (List.Mem.tail _ (List.Mem.head _))) (by kernel_rfl) (t := 104) (by kernel_rfl) (by kernel_rfl)
theorem l0 {W : World} (h : laidMet Tryd.prog Rows.primDoesRow.laid W) : GRep (old W) W g0 0 :=
  laid_glob (G := G0) (n := 9) (name := "pagoda/prim.names") (d := Rows.laid_pagoda_prim_names) h (List.Mem.tail _ (List.Mem.tail _ (List.Mem.tail _ (List.Mem.head _)))) (by kernel_rfl) (t := 75) (by kernel_rfl) (by kernel_rfl)
theorem glob {W : World} (h : laidMet Tryd.prog Rows.primDoesRow.laid W) : ∀ g cs, Γ0 g = some cs → GRep (old W) W cs g := fun g cs hg => by
  have hm := mem_lookup (l := Γl) hg
  simp only [Γl, List.mem_cons, List.not_mem_nil, or_false, Prod.mk.injEq] at hm
  rcases hm with ⟨rfl, rfl⟩ | ⟨rfl, rfl⟩ | ⟨rfl, rfl⟩ | ⟨rfl, rfl⟩
  · exact l3 h
  · exact l4 h
  · exact l1 h
  · exact l0 h
end Seat
end Go.Proofs.YteimebpgmfhgjaaDoor
/- pagodaref01.Parts: how many parts a datum has. -/
namespace Go.Proofs.YteimebpgmfhgjaaDoor
open Go.AS
set_option linter.unusedVariables false
set_option linter.unusedSimpArgs false
set_option maxRecDepth 100000
namespace Seat
abbrev w64 (n : Int) : Int := IntKind.i64.wrap n
mutual
def parts : Dat → Nat
  | .mk _ _ _ ks => partsL ks + 1
def partsL : Dats → Nat
  | .nil => 0
  | .cons d ds => parts d + partsL ds
end
def psum (ks : Dats) : Nat → Nat
  | 0 => 0
  | j + 1 => psum ks j + parts (ks.get j)
theorem psum_len : ∀ ks : Dats, psum ks ks.len = partsL ks := by
  have shift : ∀ (d : Dat) (ds : Dats) (j : Nat), psum (.cons d ds) (j + 1) = parts d + psum ds j := by
    intro d ds j
    induction j with
    | zero => simp [psum, Dats.get]
    | succ j ih => rw [psum, ih]; simp only [psum, Dats.get]; omega
  intro ks
  induction ks using Dats.rec (motive_1 := fun _ => True) with
  | mk => trivial
  | nil => rfl
  | cons d ds _ ih => simp only [Dats.len, partsL]; rw [shift, ih]
noncomputable def partsC (cs : List PV) : Int := ofCells (fun d => w64 (parts d)) 0 cs
noncomputable def partsS (N : Nat) : Nat → List PV → Option (PV × Ob)
  | 42, [.agg cs] => some (.int .i64 (partsC cs), [(isDat N cs, true)])
  | _, _ => none
theorem partsS_ok {N : Nat} (ih : ∀ d : Dat, d.size < N → d.ok → Pure G0 42 [.agg d.cells] (fun r => r = .int .i64 (w64 (parts d)))) (f : Nat) (args : List PV) (r : PV) (o : Ob) (h : partsS N f args = some (r, o)) (ho : okO o) (_ : pureL args = true) : Pure G0 f args (fun x => x = r) := by
  unfold partsS at h
  split at h
  · rename_i cs
    cases h
    obtain ⟨d, rfl, h1, h2⟩ := isDat_of (ho _ (List.mem_singleton.2 rfl))
    simp only [partsC, ofCells_at]
    exact ih d h1 h2
  · cases h
def partsO (b : Bool) (nt k : Nat) : Option Bool := match Nat.beq nt 21 with
  | true => match k with
    | 9 => some b
    | 16 => some true
    | 17 => some true
    | _ => none
  | false => none
theorem wrap_in (n : Int) (h : -9223372036854775808 ≤ n ∧ n ≤ 9223372036854775807) : w64 n = n := by unfold w64; rw [IntKind.wrap_i64]; omega
theorem wrap_add (a b : Int) : w64 (w64 a + w64 b) = w64 (a + b) := by unfold w64; simp only [IntKind.wrap_i64]; omega
theorem parts_ok (N : Nat) : ∀ d : Dat, d.size < N → d.ok → Pure G0 42 [.agg d.cells] (fun r => r = .int .i64 (w64 (parts d))) := by
  induction N with
  | zero => intro d h; omega
  | succ N ih =>
    intro d hN hok
    obtain ⟨k, n, s, ks⟩ := d
    let S (b : Bool) : Cfg G0 := { F := F, hF := hF, S := partsS N, hS := partsS_ok ih, orc := partsO b }
    let H : Hp := ⟨[⟨[.int .i64 k, .int .i64 n, .str s, .slice ks.len ks.cells], 24⟩], []⟩
    refine Fn.enterN Tryd.func42 Tryd.ntmps42 rfl (Nat.le_of_ble_eq_true rfl) fun C fr fp hnt hp hfr hfp => ?_
    refine Q.runSeq (S true) 50 21 hnt [1] (z := ⟨[(1, .ptr 0 0)], H⟩) (o := []) (by kernel_rfl) (fun p h => by cases h) ?_
    refine Q.runSeq (S true) 50 21 hnt [1, 3] (z := ⟨[(1, .ptr 0 0), (3, .int .i64 1)], H⟩) (o := []) (by kernel_rfl) (fun p h => by cases h) ?_
    refine Q.seq fun K hK => ?_
    refine Q.runSeq (S true) 50 21 hnt [1, 3, 4] (z := ⟨[(1, .ptr 0 0), (3, .int .i64 1), (4, .int .i64 0)], H⟩) (o := []) (by kernel_rfl) (fun p h => by cases h) ?_
    refine Q.block ?_
    refine Q.loopI (σ := { j : Nat // j ≤ ks.len }) [1, 3, 4] (fun j => ⟨[(1, .ptr 0 0), (3, .int .i64 (w64 (1 + psum ks j.1))), (4, .int .i64 j.1)], H⟩) (fun j => ks.len - j.1) ⟨0, Nat.zero_le _⟩ rfl fun ⟨j, hj⟩ => ?_
    rcases Nat.lt_or_ge j ks.len with hlt | hge
    · refine SWP.runQ (S true) 60 21 hnt [1, 3, 4] (e := .normal) (z := ⟨[(1, .ptr 0 0), (3, .int .i64 (w64 (w64 (1 + psum ks j) + partsC ((ks.cells.drop ((j : Int).toNat * 4)).take 4)))), (4, .int .i64 (w64 ((j : Int) + 1)))], H⟩)
        (o := [(decide ((j : Int) < (ks.len : Int)), true), (true, true), (decide (0 ≤ (j : Int) ∧ (j : Int) < (ks.len : Int)), true), (decide (4 ≤ (ks.cells.drop ((j : Int).toNat * 4)).length), true), (pureL [.agg ((ks.cells.drop ((j : Int).toNat * 4)).take 4)], true), (isDat N ((ks.cells.drop ((j : Int).toNat * 4)).take 4), true)]) (by kernel_rfl) ?_ ?_
      · intro p hm
        simp only [List.mem_cons, List.not_mem_nil, or_false, Int.toNat_natCast, Dats.get_cells ks j hlt] at hm
        have := Dats.get_size ks j hlt
        rcases hm with rfl | rfl | rfl | rfl | rfl | rfl
        · simpa using hlt
        · rfl
        · simpa using hlt
        · simp only [List.length_drop, Dats.cells_len, decide_eq_true_eq]; omega
        · exact Dat.pure1 _
        · exact isDat_at (by simp only [Dat.size] at hN; omega) (Dats.get_ok ks j hlt hok.2)
      · intro s' hs
        refine ⟨⟨j + 1, hlt⟩, Nat.sub_lt_sub_left hlt (Nat.lt_succ_self j), ?_⟩
        rw [hs]
        simp only [Int.toNat_natCast, Dats.get_cells ks j hlt, partsC, ofCells_at, wrap_add, psum]
        rw [wrap_in ((j : Int) + 1) (by have := hok.1; omega)]
        have e : (1 + (psum ks j : Int) + (parts (ks.get j) : Int)) = 1 + ((psum ks j + parts (ks.get j) : Nat) : Int) := by push_cast; omega
        rw [e]
        rfl
    · have hje : j = ks.len := by omega
      subst hje
      refine SWP.runQ (S false) 60 21 hnt [1, 3, 4] (e := .exit 0) (z := ⟨[(1, .ptr 0 0), (3, .int .i64 (w64 (1 + psum ks ks.len))), (4, .int .i64 ks.len)], H⟩) (o := [(decide ((ks.len : Int) < (ks.len : Int)), false), (false, false)]) (by kernel_rfl) ?_ ?_
      · intro p hm
        simp only [List.mem_cons, List.not_mem_nil, or_false] at hm
        rcases hm with rfl | rfl
        · simp
        · rfl
      · intro s' hs
        refine hK s' (.norm [1, 3, 4] ?_)
        rw [hs]
        refine Q.runSeq (S true) 50 21 hnt [2] (z := ⟨[(2, .int .i64 (w64 (1 + psum ks ks.len)))], H⟩) (o := []) (by kernel_rfl) (fun p h => by cases h) ?_
        refine Q.ret (hfr _ [2] (FinR.pure (r := .int .i64 (w64 (1 + psum ks ks.len))) (by kernel_rfl) rfl ?_))
        simp only [psum_len, parts]
        congr 1
        push_cast
        congr 1
        omega
end Seat
end Go.Proofs.YteimebpgmfhgjaaDoor
/- pagodaref01.Deep: how deep a datum is. -/
namespace Go.Proofs.YteimebpgmfhgjaaDoor
open Go.AS
set_option linter.unusedVariables false
set_option linter.unusedSimpArgs false
set_option maxRecDepth 100000
namespace Seat
abbrev w64' (n : Int) : Int := IntKind.i64.wrap n
def mx (x y : Int) : Int := if y > x then y else x
mutual
def deep : Dat → Int
  | .mk _ _ _ ks => w64' (deepL ks 0 + 1)
def deepL : Dats → Int → Int
  | .nil, acc => acc
  | .cons d ds, acc => deepL ds (mx acc (deep d))
end
def dmax (ks : Dats) (acc : Int) : Nat → Int
  | 0 => acc
  | j + 1 => mx (dmax ks acc j) (deep (ks.get j))
theorem dmax_len : ∀ (ks : Dats) (acc : Int), dmax ks acc ks.len = deepL ks acc := by
  have shift : ∀ (d : Dat) (ds : Dats) (acc : Int) (j : Nat), dmax (.cons d ds) acc (j + 1) = dmax ds (mx acc (deep d)) j := by
    intro d ds acc j
    induction j with
    | zero => simp [dmax, Dats.get]
    | succ j ih => rw [dmax, ih]; simp only [dmax, Dats.get]
  intro ks
  induction ks using Dats.rec (motive_1 := fun _ => True) with
  | mk => trivial
  | nil => intro acc; rfl
  | cons d ds _ ih => intro acc; simp only [Dats.len, deepL]; rw [shift, ih]
noncomputable def deepC (cs : List PV) : Int := ofCells deep 0 cs
noncomputable def deepS (N : Nat) : Nat → List PV → Option (PV × Ob)
  | 43, [.agg cs] => some (.int .i64 (deepC cs), [(isDat N cs, true)])
  | _, _ => none
theorem deepS_ok {N : Nat} (ih : ∀ d : Dat, d.size < N → d.ok → Pure G0 43 [.agg d.cells] (fun r => r = .int .i64 (deep d))) (f : Nat) (args : List PV) (r : PV) (o : Ob) (h : deepS N f args = some (r, o)) (ho : okO o) (_ : pureL args = true) : Pure G0 f args (fun x => x = r) := by
  unfold deepS at h
  split at h
  · rename_i cs
    cases h
    obtain ⟨d, rfl, h1, h2⟩ := isDat_of (ho _ (List.mem_singleton.2 rfl))
    simp only [deepC, ofCells_at]
    exact ih d h1 h2
  · cases h
def deepO (b : Bool) (nt k : Nat) : Option Bool := match Nat.beq nt 22 with
  | true => match k with
    | 9 => some b
    | 16 => some true
    | 17 => some true
    | _ => none
  | false => none
theorem wrap_in' (n : Int) (h : -9223372036854775808 ≤ n ∧ n ≤ 9223372036854775807) : w64' n = n := by unfold w64'; rw [IntKind.wrap_i64]; omega
theorem deep_ok (N : Nat) : ∀ d : Dat, d.size < N → d.ok → Pure G0 43 [.agg d.cells] (fun r => r = .int .i64 (deep d)) := by
  induction N with
  | zero => intro d h; omega
  | succ N ih =>
    intro d hN hok
    obtain ⟨k, n, s, ks⟩ := d
    let S (b : Bool) : Cfg G0 := { F := F, hF := hF, S := deepS N, hS := deepS_ok ih, orc := deepO b }
    let H : Hp := ⟨[⟨[.int .i64 k, .int .i64 n, .str s, .slice ks.len ks.cells], 24⟩], []⟩
    refine Fn.enterN Tryd.func43 Tryd.ntmps43 rfl (Nat.le_of_ble_eq_true rfl) fun C fr fp hnt hp hfr hfp => ?_
    refine Q.runSeq (S true) 50 22 hnt [1] (z := ⟨[(1, .ptr 0 0)], H⟩) (o := []) (by kernel_rfl) (fun p h => by cases h) ?_
    refine Q.runSeq (S true) 50 22 hnt [1, 3] (z := ⟨[(1, .ptr 0 0), (3, .int .i64 0)], H⟩) (o := []) (by kernel_rfl) (fun p h => by cases h) ?_
    refine Q.seq fun K hK => ?_
    refine Q.runSeq (S true) 50 22 hnt [1, 3, 4] (z := ⟨[(1, .ptr 0 0), (3, .int .i64 0), (4, .int .i64 0)], H⟩) (o := []) (by kernel_rfl) (fun p h => by cases h) ?_
    refine Q.block ?_
    refine Q.loopI (σ := { j : Nat // j ≤ ks.len }) [1, 3, 4] (fun j => ⟨[(1, .ptr 0 0), (3, .int .i64 (dmax ks 0 j.1)), (4, .int .i64 j.1)], H⟩) (fun j => ks.len - j.1) ⟨0, Nat.zero_le _⟩ rfl fun ⟨j, hj⟩ => ?_
    rcases Nat.lt_or_ge j ks.len with hlt | hge
    · refine SWP.runQ (S true) 60 22 hnt [1, 3, 4] (e := .normal) (z := ⟨[(1, .ptr 0 0), (3, .int .i64 (mx (dmax ks 0 j) (deepC ((ks.cells.drop ((j : Int).toNat * 4)).take 4)))), (4, .int .i64 (w64' ((j : Int) + 1)))], H⟩)
        (o := [(decide ((j : Int) < (ks.len : Int)), true), (true, true), (decide (0 ≤ (j : Int) ∧ (j : Int) < (ks.len : Int)), true), (decide (4 ≤ (ks.cells.drop ((j : Int).toNat * 4)).length), true), (pureL [.agg ((ks.cells.drop ((j : Int).toNat * 4)).take 4)], true), (isDat N ((ks.cells.drop ((j : Int).toNat * 4)).take 4), true)]) (by kernel_rfl) ?_ ?_
      · intro p hm
        simp only [List.mem_cons, List.not_mem_nil, or_false, Int.toNat_natCast, Dats.get_cells ks j hlt] at hm
        have := Dats.get_size ks j hlt
        rcases hm with rfl | rfl | rfl | rfl | rfl | rfl
        · simpa using hlt
        · rfl
        · simpa using hlt
        · simp only [List.length_drop, Dats.cells_len, decide_eq_true_eq]; omega
        · exact Dat.pure1 _
        · exact isDat_at (by simp only [Dat.size] at hN; omega) (Dats.get_ok ks j hlt hok.2)
      · intro s' hs
        refine ⟨⟨j + 1, hlt⟩, Nat.sub_lt_sub_left hlt (Nat.lt_succ_self j), ?_⟩
        rw [hs]
        simp only [Int.toNat_natCast, Dats.get_cells ks j hlt, deepC, ofCells_at, dmax]
        rw [wrap_in' ((j : Int) + 1) (by have := hok.1; omega)]
        rfl
    · have hje : j = ks.len := by omega
      subst hje
      refine SWP.runQ (S false) 60 22 hnt [1, 3, 4] (e := .exit 0) (z := ⟨[(1, .ptr 0 0), (3, .int .i64 (dmax ks 0 ks.len)), (4, .int .i64 ks.len)], H⟩) (o := [(decide ((ks.len : Int) < (ks.len : Int)), false), (false, false)]) (by kernel_rfl) ?_ ?_
      · intro p hm
        simp only [List.mem_cons, List.not_mem_nil, or_false] at hm
        rcases hm with rfl | rfl
        · simp
        · rfl
      · intro s' hs
        refine hK s' (.norm [1, 3, 4] ?_)
        rw [hs]
        refine Q.runSeq (S true) 50 22 hnt [2] (z := ⟨[(2, .int .i64 (w64' (dmax ks 0 ks.len + 1)))], H⟩) (o := []) (by kernel_rfl) (fun p h => by cases h) ?_
        refine Q.ret (hfr _ [2] (FinR.pure (r := .int .i64 (w64' (dmax ks 0 ks.len + 1))) (by kernel_rfl) rfl ?_))
        simp only [dmax_len, deep]
end Seat
end Go.Proofs.YteimebpgmfhgjaaDoor
/- datum.each: what its yields do: Parts$1 counts, Deep$1 keeps the greatest length. -/
namespace Go.Proofs.YteimebpgmfhgjaaDoor
open Go.AS
set_option linter.unusedVariables false
set_option linter.unusedSimpArgs false
set_option maxRecDepth 100000
namespace Seat
def ctr (n : Int) : Box := ⟨[.int .i64 n], 3⟩
def scr (m : Nat) : Box := ⟨List.replicate m .junk, 3⟩
theorem scL_rep (k m : Nat) : scL k (List.replicate m PV.junk) = true := by
  induction m with
  | zero => rfl
  | succ m ih => rw [List.replicate_succ]; simp only [scL, ih, Bool.and_true]; rfl
def yOf (Y : Nat) : PV := .func (.func Y) [.ptr 0 0]
structure Yok (Y : Nat) (f : Int → Nat → Int) : Prop where
  fn : ∃ q, F Y = some q
  nil : ∀ (k n : Int) (s : ByteArray) (m : Nat) (cs : List PV) (cnt : Int), PCalls G0 Y [.agg [.int .i64 k, .int .i64 n, .str s, .slice m cs], .nil, .ptr 0 0] [ctr cnt] (fun o b => o = .ret (.bool true) ∧ b = [ctr (f cnt 0)])
  scr : ∀ (k n : Int) (s : ByteArray) (m : Nat) (cs : List PV) (cnt : Int) (pl pm : Nat), pl ≤ pm → PCalls G0 Y [.agg [.int .i64 k, .int .i64 n, .str s, .slice m cs], .bsl 1 pl pm, .ptr 0 0] [ctr cnt, scr pm] (fun o b => o = .ret (.bool true) ∧ b = [ctr (f cnt pl), scr pm])
def fParts (c : Int) (_ : Nat) : Int := IntKind.i64.wrap (c + 1)
def mxi (x y : Int) : Int := if y > x then y else x
def fDeep (c : Int) (n : Nat) : Int := mxi c (IntKind.i64.wrap ((n : Int) + 1))
theorem yParts : Yok 65 fParts where
  fn := ⟨_, rfl⟩
  nil := fun k n s m cs cnt => PCalls.run (S := S0) (o := []) 100 (by kernel_rfl) (fun p h => by cases h)
  scr := fun k n s m cs cnt pl pm h => by
    refine Fn.enterN Tryd.func65 Tryd.ntmps65 rfl (Nat.le_of_ble_eq_true rfl) fun C fr fp hnt hp hfr hfp => ?_
    refine SWP.runQ S0 60 8 hnt [5] (e := .ret) (z := ⟨[(5, .bool true)], ⟨[ctr (fParts cnt pl), Seat.scr pm, ⟨[.int .i64 k, .int .i64 n, .str s, .slice m cs], 24⟩], []⟩⟩) (o := []) (by kernel_rfl) (fun p h => by cases h) (fun s hs => hfr s [5] ?_)
    rw [hs]
    exact ⟨2, .bool true, Nat.le_of_ble_eq_true rfl, Nat.le_of_ble_eq_true rfl, rfl, rfl, by simp only [Seat.scr, ctr, List.take, List.all_cons, List.all_nil, scL_rep]; rfl, rfl, rfl⟩
theorem yDeep : Yok 66 fDeep where
  fn := ⟨_, rfl⟩
  nil := fun k n s m cs cnt => PCalls.run (S := S0) (o := []) 100 (by kernel_rfl) (fun p h => by cases h)
  scr := fun k n s m cs cnt pl pm h => by
    refine Fn.enterN Tryd.func66 Tryd.ntmps66 rfl (Nat.le_of_ble_eq_true rfl) fun C fr fp hnt hp hfr hfp => ?_
    refine SWP.runQ S0 60 11 hnt [5] (e := .ret) (z := ⟨[(5, .bool true)], ⟨[ctr (fDeep cnt pl), Seat.scr pm, ⟨[.int .i64 k, .int .i64 n, .str s, .slice m cs], 24⟩], []⟩⟩) (o := []) (by kernel_rfl) (fun p h => by cases h) (fun s hs => hfr s [5] ?_)
    rw [hs]
    exact ⟨2, .bool true, Nat.le_of_ble_eq_true rfl, Nat.le_of_ble_eq_true rfl, rfl, rfl, by simp only [Seat.scr, ctr, List.take, List.all_cons, List.all_nil, scL_rep]; rfl, rfl, rfl⟩
end Seat
end Go.Proofs.YteimebpgmfhgjaaDoor
/- datum.each: what it comes to; the yield's call. -/
namespace Go.Proofs.YteimebpgmfhgjaaDoor
open Go.AS
set_option linter.unusedVariables false
set_option linter.unusedSimpArgs false
set_option maxRecDepth 100000
namespace Seat
mutual
def eachF (f : Int → Nat → Int) : Dat → Int → Nat → Int
  | .mk _ _ _ ks, c, n => eachL f ks (f c n) (n + 1)
def eachL (f : Int → Nat → Int) : Dats → Int → Nat → Int
  | .nil, c, _ => c
  | .cons d ds, c, n => eachL f ds (eachF f d c n) n
end
def eachP (f : Int → Nat → Int) (ks : Dats) (c : Int) (n : Nat) : Nat → Int
  | 0 => c
  | j + 1 => eachF f (ks.get j) (eachP f ks c n j) n
theorem eachP_len (f : Int → Nat → Int) (n : Nat) : ∀ (ks : Dats) (c : Int), eachP f ks c n ks.len = eachL f ks c n := by
  have shift : ∀ (d : Dat) (ds : Dats) (c : Int) (j : Nat), eachP f (.cons d ds) c n (j + 1) = eachP f ds (eachF f d c n) n j := by
    intro d ds c j
    induction j with
    | zero => simp [eachP, Dats.get]
    | succ j ih => rw [eachP, ih]; simp only [eachP, Dats.get]
  intro ks
  induction ks using Dats.rec (motive_1 := fun _ => True) with
  | mk => trivial
  | nil => intro c; rfl
  | cons d ds _ ih => intro c; simp only [Dats.len, eachL]; rw [shift, ih]
mutual
def deepN : Dat → Nat
  | .mk _ _ _ ks => deepNL ks + 1
def deepNL : Dats → Nat
  | .nil => 0
  | .cons d ds => max (deepN d) (deepNL ds)
end
theorem deepN_get : ∀ (ks : Dats) (j : Nat), j < ks.len → deepN (ks.get j) ≤ deepNL ks
  | .nil, j, h => by simp [Dats.len] at h
  | .cons d ds, 0, h => by simp only [Dats.get, deepNL]; omega
  | .cons d ds, j + 1, h => by
    have := deepN_get ds j (by simp only [Dats.len] at h; omega)
    simp only [Dats.get, deepNL]; omega
theorem wrapN (n : Nat) (h : n ≤ 9223372036854775807) : IntKind.i64.wrap (n : Int) = n := by rw [IntKind.wrap_i64]; omega
section
variable {Y : Nat} {f : Int → Nat → Int}
theorem yield_scr (hY : Yok Y f) (k n : Int) (s : ByteArray) (m : Nat) (cs : List PV) (cnt : Int) (pl pm : Nat) (hp : pl ≤ pm) {C : Ctx} {Q : AEx → AS → Prop} {K : AS → Prop} (hnt : C.nt = 31) (st : AS) (h3 : lk st.t 9 = yOf Y) (h4 : lk st.t 10 = .agg [.int .i64 k, .int .i64 n, .str s, .slice m cs]) (h5 : lk st.t 11 = .bsl 1 pl pm) (hb : st.h.bx[0]? = some (ctr cnt)) (hb1 : st.h.bx[1]? = some (scr pm))
    (hK : K (({ st with h := ⟨st.h.bx.set 0 (ctr (f cnt pl)), st.h.rw⟩ } : AS).put (some 12) (.bool true))) :
    SOne G0 C (some 12) (.call ⟨.value (.tmp 9), #[.tmp 10, .tmp 11], #[24, 78]⟩) Q K st := fun o h1 h2 => by
  obtain ⟨q, hq⟩ := hY.fn
  obtain ⟨a1, a2, a3⟩ := hF _ _ hq
  refine SOp.callF (f := Y) (ys := [.agg [.int .i64 k, .int .i64 n, .str s, .slice m cs], .bsl 1 pl pm, .ptr 0 0]) (xs := [.agg [.int .i64 k, .int .i64 n, .str s, .slice m cs], .bsl 1 pl pm, .ptr 0 0]) (fun i => i) [ctr cnt, scr pm] h2 ?_ a1 a2 a3 rfl ?_ ?_ ?_ ?_ ?_ (hY.scr k n s m cs cnt pl pm hp) ?_
  · simp only [target, AS.ev, h3, yOf, List.map_cons, List.map_nil, h4, h5, List.cons_append, List.nil_append]
  · intro j y x hy hx
    match j with
    | 0 => simp at hy hx; subst hy; subst hx; exact .pure rfl
    | 1 => simp at hy hx; subst hy; subst hx; exact .bsl (by simp)
    | 2 => simp at hy hx; subst hy; subst hx; exact .ptr (by simp)
    | j + 3 => simp at hy
  · intro i b hi
    match i with
    | 0 => simp at hi; subst hi; exact hb
    | 1 => simp at hi; subst hi; exact hb1
    | i + 2 => simp at hi
  · simp only [List.all_cons, List.all_nil, scr, ctr, scL_rep]; rfl
  · intro i j hi hj h; exact h
  · rw [h1, hnt]; rfl
  · rintro o' b ⟨rfl, rfl⟩
    refine ⟨_, _, rfl, rfl, by simp only [List.take, List.length_cons, List.length_nil, List.all_cons, List.all_nil, scr, ctr, scL_rep]; rfl, List.length_set .., fun i hi => ?_, fun j hj => ?_, by rw [h1]; exact hK⟩
    · match i with
      | 0 => rw [List.getElem?_set_self (List.getElem?_eq_some_iff.1 hb).1]; rfl
      | 1 => rw [List.getElem?_set_ne (by simp)]; exact hb1
      | i + 2 => exact absurd hi (by simp only [List.length_cons, List.length_nil]; omega)
    · rw [List.getElem?_set_ne (hj 0 (by simp))]
theorem yield_nil (hY : Yok Y f) (k n : Int) (s : ByteArray) (m : Nat) (cs : List PV) (cnt : Int) {C : Ctx} {Q : AEx → AS → Prop} {K : AS → Prop} (hnt : C.nt = 31) (st : AS) (h3 : lk st.t 9 = yOf Y) (h4 : lk st.t 10 = .agg [.int .i64 k, .int .i64 n, .str s, .slice m cs]) (h5 : lk st.t 11 = .nil) (hb : st.h.bx[0]? = some (ctr cnt))
    (hK : K (({ st with h := ⟨st.h.bx.set 0 (ctr (f cnt 0)), st.h.rw⟩ } : AS).put (some 12) (.bool true))) :
    SOne G0 C (some 12) (.call ⟨.value (.tmp 9), #[.tmp 10, .tmp 11], #[24, 78]⟩) Q K st := fun o h1 h2 => by
  obtain ⟨q, hq⟩ := hY.fn
  obtain ⟨a1, a2, a3⟩ := hF _ _ hq
  refine SOp.callF (f := Y) (ys := [.agg [.int .i64 k, .int .i64 n, .str s, .slice m cs], .nil, .ptr 0 0]) (xs := [.agg [.int .i64 k, .int .i64 n, .str s, .slice m cs], .nil, .ptr 0 0]) (fun i => i) [ctr cnt] h2 ?_ a1 a2 a3 rfl ?_ ?_ rfl ?_ ?_ (hY.nil k n s m cs cnt) ?_
  · simp only [target, AS.ev, h3, yOf, List.map_cons, List.map_nil, h4, h5, List.cons_append, List.nil_append]
  · intro j y x hy hx
    match j with
    | 0 => simp at hy hx; subst hy; subst hx; exact .pure rfl
    | 1 => simp at hy hx; subst hy; subst hx; exact .pure rfl
    | 2 => simp at hy hx; subst hy; subst hx; exact .ptr (by simp)
    | j + 3 => simp at hy
  · intro i b hi
    match i with
    | 0 => simp at hi; subst hi; exact hb
    | i + 1 => simp at hi
  · intro i j hi hj h; exact h
  · rw [h1, hnt]; rfl
  · rintro o' b ⟨rfl, rfl⟩
    refine ⟨_, _, rfl, rfl, rfl, List.length_set .., fun i hi => ?_, fun j hj => ?_, by rw [h1]; exact hK⟩
    · have : i = 0 := by simp at hi; exact hi
      subst this
      rw [List.getElem?_set_self (List.getElem?_eq_some_iff.1 hb).1]
      rfl
    · rw [List.getElem?_set_ne (hj 0 (by simp))]
def EachAt (Y : Nat) (f : Int → Nat → Int) (N : Nat) : Prop := ∀ d : Dat, d.size < N → d.ok → ∀ (cnt : Int) (n m : Nat), n ≤ m → n + deepN d ≤ 17592186044415 → PCalls G0 64 [.agg d.cells, .bsl 1 n m, yOf Y] [ctr cnt, scr m] (fun o b => o = .ret (.bool true) ∧ b = [ctr (eachF f d cnt n), scr m])
theorem each_call {N : Nat} (hN : EachAt Y f N) (d : Dat) (hd : d.size < N) (hok : d.ok) (cnt : Int) (q n m : Nat) (hq : q ≠ 0) (hnm : n ≤ m) (hdeep : n + deepN d ≤ 17592186044415) {C : Ctx} {Q : AEx → AS → Prop} {K : AS → Prop} (hnt : C.nt = 31) (st : AS) (h3 : lk st.t 22 = .agg d.cells) (h4 : lk st.t 26 = .bsl q n m) (h5 : lk st.t 27 = yOf Y) (hb : st.h.bx[0]? = some (ctr cnt)) (hb1 : st.h.bx[q]? = some (scr m))
    (hK : K (({ st with h := ⟨st.h.bx.set 0 (ctr (eachF f d cnt n)), st.h.rw⟩ } : AS).put (some 28) (.bool true))) :
    SOne G0 C (some 28) (.call ⟨.value (.func 64), #[.tmp 22, .tmp 26, .tmp 27], #[24, 78, 89]⟩) Q K st := fun o h1 h2 => by
  obtain ⟨a1, a2, a3⟩ := hF 64 _ rfl
  refine SOp.callF (f := 64) (ys := [.agg d.cells, .bsl q n m, yOf Y]) (xs := [.agg d.cells, .bsl 1 n m, yOf Y]) (fun i => match i with | 0 => 0 | _ => q) [ctr cnt, scr m] h2 ?_ a1 a2 a3 rfl ?_ ?_ ?_ ?_ ?_ (hN d hd hok cnt n m hnm hdeep) ?_
  · simp only [target, AS.ev, h3, yOf, List.map_cons, List.map_nil, h4, h5, List.cons_append, List.nil_append, List.append_nil]
  · intro j y x hy hx
    match j with
    | 0 => simp at hy hx; subst hy; subst hx; exact .pure (by simp only [PV.pure, Dat.pure])
    | 1 => simp at hy hx; subst hy; subst hx; exact .bsl (pos := fun i => match i with | 0 => 0 | _ => q) (b := 1) (by simp)
    | 2 =>
      simp [yOf] at hy hx; subst hy; subst hx
      refine .func rfl fun j y x hy hx => ?_
      match j with
      | 0 => simp at hy hx; subst hy; subst hx; exact .ptr (pos := fun i => match i with | 0 => 0 | _ => q) (b := 0) (by simp)
      | j + 1 => simp at hy
    | j + 3 => simp at hy
  · intro i b hi
    match i with
    | 0 => simp at hi; subst hi; exact hb
    | 1 => simp at hi; subst hi; exact hb1
    | i + 2 => simp at hi
  · simp only [List.all_cons, List.all_nil, scr, ctr, scL_rep]; rfl
  · intro i j hi hj h
    match i, j with
    | 0, 0 => rfl
    | 0, 1 => exact absurd h.symm hq
    | 1, 0 => exact absurd h hq
    | 1, 1 => rfl
    | i + 2, _ => exact absurd hi (by simp only [List.length_cons, List.length_nil]; omega)
    | _, j + 2 => exact absurd hj (by simp only [List.length_cons, List.length_nil]; omega)
  · rw [h1, hnt]; rfl
  · rintro o' b ⟨rfl, rfl⟩
    refine ⟨_, _, rfl, rfl, by simp only [List.take, List.length_cons, List.length_nil, List.all_cons, List.all_nil, scr, ctr, scL_rep]; rfl, List.length_set .., fun i hi => ?_, fun j hj => ?_, by rw [h1]; exact hK⟩
    · match i with
      | 0 => exact (List.getElem?_set_self (List.getElem?_eq_some_iff.1 hb).1).trans rfl
      | 1 => exact (List.getElem?_set_ne (Ne.symm hq)).trans hb1
      | i + 2 => exact absurd hi (by simp only [List.length_cons, List.length_nil]; omega)
    · have := hj 0 (by simp)
      exact List.getElem?_set_ne this
end
end Seat
end Go.Proofs.YteimebpgmfhgjaaDoor
/- datum.each, of a path that is a box's: the walk. -/
namespace Go.Proofs.YteimebpgmfhgjaaDoor
open Go.AS
set_option linter.unusedVariables false
set_option linter.unusedSimpArgs false
set_option maxRecDepth 100000
namespace Seat
def eachO (b : Bool) (nt k : Nat) : Option Bool := match Nat.beq nt 31 with
  | true => match k with
    | 18 => some b
    | 20 => some true
    | 21 => some true
    | _ => none
  | false => none
def eachV (v : PV) (nt k : Nat) : Option PV := match Nat.beq nt 31 with
  | true => match k with
    | 21 => some v
    | _ => none
  | false => none
theorem eachAt {Y : Nat} {f : Int → Nat → Int} (hY : Yok Y f) (N : Nat) : EachAt Y f N := by
  induction N with
  | zero => intro d h; omega
  | succ N ih =>
    intro d hN hok cnt n m hnm hdeep
    obtain ⟨dk, dn, ds, ks⟩ := d
    let D : Box := ⟨[.int .i64 dk, .int .i64 dn, .str ds, .slice ks.len ks.cells], 24⟩
    let S (b : Bool) (v : PV) : Cfg G0 := { F := F, hF := hF, S := fun _ _ => none, hS := fun _ _ _ _ h => (by cases h), orc := eachO b, val := eachV v }
    refine Fn.enterB Tryd.func64 Tryd.ntmps64 rfl (Nat.le_of_ble_eq_true rfl) fun C fr fp hnt hnb hp hfr hfp => ?_
    refine Q.runSeq S0 50 31 hnt [1, 2, 3] (z := ⟨[(1, .bsl 1 n m), (2, yOf Y), (3, .ptr 2 0)], ⟨[ctr cnt, scr m, D], []⟩⟩) (o := []) (by kernel_rfl) (fun p h => by cases h) ?_
    refine Q.seq fun K hK => ?_
    refine Q.seq fun K2 hK2 => ?_
    (with_reducible refine Q.region (l := ?_) ?_ ?_); rotate_left; focus (simp only [strip, SO.of, List.toList_toArray, List.getElem?_cons_zero, List.getElem?_cons_succ, Option.bind_some]; rfl)
    refine SRun.step _ (by simp only [push_cast, hnt, Nat.reduceEqDiff, reduceIte, Nat.reduceAdd, Nat.reduceSub, Nat.reduceMul, Nat.reduceLeDiff, Nat.reduceLT, Nat.reduceBEq, Nat.reduceBNe, decide_true, decide_false, Nat.le_refl, Bool.not_true, Bool.not_false, Bool.false_eq_true, reduceCtorEq, Bool.true_and, Bool.and_true, ge_iff_le, Nat.lt_irrefl, Nat.zero_le]; rfl) ?_
    refine SRun.step _ (by simp only [push_cast, hnt, Nat.reduceEqDiff, reduceIte, Nat.reduceAdd, Nat.reduceSub, Nat.reduceMul, Nat.reduceLeDiff, Nat.reduceLT, Nat.reduceBEq, Nat.reduceBNe, decide_true, decide_false, Nat.le_refl, Bool.not_true, Bool.not_false, Bool.false_eq_true, reduceCtorEq, Bool.true_and, Bool.and_true, ge_iff_le, Nat.lt_irrefl, Nat.zero_le]; rfl) ?_
    refine SRun.step _ (by simp only [push_cast, hnt, Nat.reduceEqDiff, reduceIte, Nat.reduceAdd, Nat.reduceSub, Nat.reduceMul, Nat.reduceLeDiff, Nat.reduceLT, Nat.reduceBEq, Nat.reduceBNe, decide_true, decide_false, Nat.le_refl, Bool.not_true, Bool.not_false, Bool.false_eq_true, reduceCtorEq, Bool.true_and, Bool.and_true, ge_iff_le, Nat.lt_irrefl, Nat.zero_le]; rfl) ?_
    refine SRun.cons (yield_scr hY dk dn ds ks.len ks.cells cnt n m hnm hnt _ rfl rfl rfl rfl rfl ?_)
    refine SRun.step _ (by simp only [push_cast, hnt, Nat.reduceEqDiff, reduceIte, Nat.reduceAdd, Nat.reduceSub, Nat.reduceMul, Nat.reduceLeDiff, Nat.reduceLT, Nat.reduceBEq, Nat.reduceBNe, decide_true, decide_false, Nat.le_refl, Bool.not_true, Bool.not_false, Bool.false_eq_true, reduceCtorEq, Bool.true_and, Bool.and_true, ge_iff_le, Nat.lt_irrefl, Nat.zero_le]; rfl) ?_
    refine Q.nil (hK2 _ ?_)
    refine Q.cond (b := false) rfl (fun h => by cases h) (fun _ => ?_)
    refine Q.skip (hK _ (.norm [1, 2, 3] ?_))
    have e1 : ∀ (a : Int) t, nrm [1, 2, 3] ⟨t, ⟨[ctr cnt, scr m, D].set 0 (ctr a), []⟩⟩ = nrm [1, 2, 3] ⟨t, ⟨[ctr a, scr m, D], []⟩⟩ := fun _ _ => rfl
    refine Q.seq fun K3 hK3 => ?_
    refine Q.runSeq S0 50 31 hnt [1, 2, 3, 15, 16, 17] (z := ⟨[(1, .bsl 1 n m), (2, yOf Y), (3, .ptr 2 0), (15, .slice ks.len ks.cells), (16, .int .i64 ks.len), (17, .int .i64 0)], ⟨[ctr (f cnt n), scr m, D], []⟩⟩) (o := []) (by kernel_rfl) (fun p h => by cases h) ?_
    refine Q.block ?_
    let T (j : Nat) : AS := ⟨[(1, .bsl 1 n m), (2, yOf Y), (3, .ptr 2 0), (15, .slice ks.len ks.cells), (16, .int .i64 ks.len), (17, .int .i64 j)], ⟨[ctr (eachP f ks (f cnt n) (n + 1) j), scr m, D], []⟩⟩
    refine Q.loopI (σ := { j : Nat // j ≤ ks.len }) [1, 2, 3, 15, 16, 17] (fun j => T j.1) (fun j => ks.len - j.1) ⟨0, Nat.zero_le _⟩ rfl fun ⟨j, hj⟩ => ?_
    rcases Nat.lt_or_ge j ks.len with hlt | hge
    · refine Q.runSeq (S true .nil) 50 31 hnt [1, 2, 3, 15, 16, 17, 18] (z := ⟨(T j).t ++ [(18, .bool true)], (T j).h⟩) (o := [(decide ((j : Int) < (ks.len : Int)), true)]) (by kernel_rfl) (fun p hm => ?_) ?_
      · simp only [List.mem_cons, List.not_mem_nil, or_false] at hm
        subst hm
        simpa using hlt
      refine Q.runSeq S0 50 31 hnt [1, 2, 3, 15, 16, 17] (z := T j) (o := []) (by kernel_rfl) (fun p h => by cases h) ?_
      refine Q.seq fun K4 hK4 => ?_
      refine Q.block ?_
      obtain ⟨k', n', s', ks', hget⟩ : ∃ k' n' s' ks', ks.get j = .mk k' n' s' ks' := by cases h : ks.get j with | mk k n s ks => exact ⟨k, n, s, ks, rfl⟩
      let Kb : Box := ⟨[.int .i64 k', .int .i64 n', .str s', .slice ks'.len ks'.cells], 24⟩
      refine Q.runSeq (S true (.agg Kb.cs)) 50 31 hnt [1, 2, 3, 7, 8, 15, 16, 17] (z := ⟨[(1, .bsl 1 n m), (2, yOf Y), (3, .ptr 2 0), (7, .int .i64 j), (8, .ptr 3 0), (15, .slice ks.len ks.cells), (16, .int .i64 ks.len), (17, .int .i64 j)], ⟨[ctr (eachP f ks (f cnt n) (n + 1) j), scr m, D, Kb], []⟩⟩)
        (o := [(decide (0 ≤ (j : Int) ∧ (j : Int) < (ks.len : Int)), true), (decide (4 ≤ (ks.cells.drop ((j : Int).toNat * 4)).length), true), (same (.agg ((ks.cells.drop ((j : Int).toNat * 4)).take 4)) (.agg Kb.cs), true)]) (by kernel_rfl) (fun p hm => ?_) ?_
      · simp only [List.mem_cons, List.not_mem_nil, or_false, Int.toNat_natCast, Dats.get_cells ks j hlt] at hm
        rcases hm with rfl | rfl | rfl
        · simpa using hlt
        · simp only [List.length_drop, Dats.cells_len, decide_eq_true_eq]; omega
        · exact same_of (by rw [hget]; rfl)
      refine Q.seq fun K6 hK6 => ?_
      have hsz : (ks.get j).size < N := by have := Dats.get_size ks j hlt; simp only [Dat.size] at hN; omega
      have hokj : (ks.get j).ok := Dats.get_ok ks j hlt hok.2
      have hdp : n + 1 + deepN (ks.get j) ≤ 17592186044415 := by have := deepN_get ks j hlt; simp only [deepN] at hdeep; omega
      have hcs : (ks.get j).cells = Kb.cs := by rw [hget]; rfl
      have fin6 : ∀ (s : AS) (more : List Box), nrm [1, 2, 3, 15, 16, 17, 29] s = ⟨(T j).t ++ [(29, .bool false)], ⟨ctr (eachP f ks (f cnt n) (n + 1) (j + 1)) :: scr m :: D :: more, []⟩⟩ → K6 s := fun s more hs => by
        refine hK6 s (.norm [1, 2, 3, 15, 16, 17, 29] ?_)
        rw [hs]
        refine .drop 3 (by rw [hnb]; exact Nat.le_of_ble_eq_true rfl) (by simp) (by simp only [Seat.scr, ctr, List.take, List.all_cons, List.all_nil, scL_rep]; rfl) rfl rfl ?_
        refine SWP.runQ S0 50 31 hnt [1, 2, 3, 15, 16, 17] (e := .normal) (z := ⟨(T j).t, ⟨[ctr (eachP f ks (f cnt n) (n + 1) (j + 1)), scr m, D], []⟩⟩) (o := []) (by kernel_rfl) (fun p h => by cases h) (fun s hs => hK4 s (.norm [1, 2, 3, 15, 16, 17] ?_))
        rw [hs]
        refine SWP.runQ S0 50 31 hnt [1, 2, 3, 15, 16, 17] (e := .normal) (z := ⟨[(1, .bsl 1 n m), (2, yOf Y), (3, .ptr 2 0), (15, .slice ks.len ks.cells), (16, .int .i64 ks.len), (17, .int .i64 (IntKind.i64.wrap ((j : Int) + 1)))], ⟨[ctr (eachP f ks (f cnt n) (n + 1) (j + 1)), scr m, D], []⟩⟩) (o := []) (by kernel_rfl) (fun p h => by cases h) (fun s hs => ⟨⟨j + 1, hlt⟩, Nat.sub_lt_sub_left hlt (Nat.lt_succ_self j), ?_⟩)
        rw [hs]
        have := hok.1
        have e := wrapN (j + 1) (by omega)
        push_cast at e
        rw [e]
        rfl
      refine SWP.draw [4, 6] #[false, false, false, false, false, false, false, false] rfl ?_
      refine SAny.with 2 #[true, true, true, true, true, true, false, false] (fun s => ∃ (q c : Nat) (more : List Box), q ≠ 0 ∧ n + 1 ≤ c ∧ (scr m :: D :: Kb :: more)[q - 1]? = some (scr c) ∧ nrm [1, 2, 3, 15, 16, 17, 22, 26, 27] s = ⟨(T j).t ++ [(22, .agg Kb.cs), (26, .bsl q (n + 1) c), (27, yOf Y)], ⟨ctr (eachP f ks (f cnt n) (n + 1) j) :: scr m :: D :: Kb :: more, []⟩⟩) ?_ ?_
      · rintro s ⟨q, c, more, hq, hc, hbq, hs⟩
        refine SAny.norm [1, 2, 3, 15, 16, 17, 22, 26, 27] ?_
        rw [hs]
        refine SAny.last (i := 6) #[true, true, true, true, true, true, true, false] rfl rfl (by kernel_rfl) rfl ?_
        refine each_call ih (ks.get j) hsz hokj (eachP f ks (f cnt n) (n + 1) j) q (n + 1) c hq hc hdp hnt _ ?_ rfl rfl rfl ?_ ?_ _ rfl rfl
        · rw [hcs]; rfl
        · cases q with
          | zero => exact absurd rfl hq
          | succ q => simpa using hbq
        refine SAny.one (i := 7) #[true, true, true, true, true, true, true, true] rfl rfl (by kernel_rfl) ?_
        refine SOpG.val (x := .bool false) rfl (by rw [hnt]; rfl) ?_
        exact SAny.done (by kernel_rfl) (fin6 _ (Kb :: more) rfl)
      intro tail
      refine SAny.free (i := 1) (l' := #[false, true, false, false, false, false, false, false]) (x := .bsl 1 n m) rfl rfl rfl (by rw [hnt]; rfl) (by kernel_rfl) hp.q ?_
      refine SAny.free (i := 2) (l' := #[false, true, true, false, false, false, false, false]) (x := .int .i64 j) rfl rfl rfl (by rw [hnt]; rfl) (by kernel_rfl) hp.q ?_
      refine SAny.free (i := 5) (l' := #[false, true, true, false, false, true, false, false]) (x := yOf Y) rfl rfl rfl (by rw [hnt]; rfl) (by kernel_rfl) hp.q ?_
      have app : ∀ (Q : AEx → AS → Prop) (K : AS → Prop) (s : AS) (o : Oper), o.op = .call ⟨.builtin .append, #[.tmp 23, .tmp 25], #[78, 78]⟩ → o.dst = some 26 → lk s.t 23 = .bsl 1 n m → lk s.t 25 = .slice 1 [.int .i64 j] → s.h = ⟨[ctr (eachP f ks (f cnt n) (n + 1) j), scr m, D, Kb], []⟩ →
          (∀ (q c : Nat) (more : List Box), q ≠ 0 → n + 1 ≤ c → (scr m :: D :: Kb :: more)[q - 1]? = some (scr c) → K (({ s with h := ⟨ctr (eachP f ks (f cnt n) (n + 1) j) :: scr m :: D :: Kb :: more, []⟩ } : AS).put (some 26) (.bsl q (n + 1) c))) → SOp G0 C o Q K s := fun Q K s o ho hd h23 h25 hh h => by
        have hdo : dstOk C.nt o.dst = true := by rw [hd, hnt]; rfl
        rcases Nat.lt_or_ge m (n + 1) with hm | hm
        · refine SOp.scrGrow (b := 1) (n := n) (m := m) (k := 1) (cs := [.int .i64 j]) (e := 3) (td := d3) (tdt := d78) ho h23 h25 (by rw [hh]; rfl) rfl rfl rfl rfl rfl rfl (by omega) hm ?_ (by omega) hdo fun c hc => ?_
          · show (n + 1) * 8 ≤ _
            omega
          · rw [hd, hh]
            exact h 4 c [scr c] (by omega) hc rfl
        · refine SOp.scrRoom (b := 1) (n := n) (m := m) (k := 1) (cs := [.int .i64 j]) (e := 3) (td := d3) (tdt := d78) ho h23 h25 (by rw [hh]; rfl) rfl rfl rfl rfl rfl (by omega) hm hdo ?_
          rw [hd]
          have := h 1 m [] (by omega) hm rfl
          rw [← hh] at this
          exact this
      refine SAny.two (i := 0) (j := 3) #[true, true, true, false, false, true, false, false] #[false, true, true, true, false, true, false, false] rfl rfl rfl rfl (by kernel_rfl) ?_ ?_
      · refine SOpG.val (x := .agg Kb.cs) rfl (by rw [hnt]; rfl) ?_
        refine SAny.one (i := 3) #[true, true, true, true, false, true, false, false] rfl rfl (by kernel_rfl) ?_
        refine SOpG.buildSlice (e := 3) (td := d3) (tdt := d78) (out := [.int .i64 j]) rfl rfl rfl rfl rfl (by decide) rfl rfl (by rw [hnt]; rfl) ?_
        refine SAny.last (i := 4) #[true, true, true, true, true, true, false, false] rfl rfl (by kernel_rfl) rfl ?_
        refine app _ _ _ _ rfl rfl rfl rfl rfl fun q c more hq hc hb => ?_
        exact tail _ ⟨q, c, more, hq, hc, hb, rfl⟩
      · refine SOpG.buildSlice (e := 3) (td := d3) (tdt := d78) (out := [.int .i64 j]) rfl rfl rfl rfl rfl (by decide) rfl rfl (by rw [hnt]; rfl) ?_
        refine SAny.twoL (i := 0) (j := 4) #[true, true, true, true, false, true, false, false] #[false, true, true, true, true, true, false, false] rfl rfl rfl rfl (by kernel_rfl) rfl ?_ ?_
        · refine SOpG.val (x := .agg Kb.cs) rfl (by rw [hnt]; rfl) ?_
          refine SAny.last (i := 4) #[true, true, true, true, true, true, false, false] rfl rfl (by kernel_rfl) rfl ?_
          refine app _ _ _ _ rfl rfl rfl rfl rfl fun q c more hq hc hb => ?_
          exact tail _ ⟨q, c, more, hq, hc, hb, rfl⟩
        · refine app _ _ _ _ rfl rfl rfl rfl rfl fun q c more hq hc hb => ?_
          refine SAny.one (i := 0) #[true, true, true, true, true, true, false, false] rfl rfl (by kernel_rfl) ?_
          refine SOpG.val (x := .agg Kb.cs) rfl (by rw [hnt]; rfl) ?_
          exact tail _ ⟨q, c, more, hq, hc, hb, rfl⟩
    · have hje : j = ks.len := by omega
      subst hje
      refine SWP.runQ (S false .nil) 60 31 hnt [1, 2, 3, 15, 16, 17] (e := .exit 0) (z := T ks.len) (o := [(decide ((ks.len : Int) < (ks.len : Int)), false), (false, false)]) (by kernel_rfl) ?_ ?_
      · intro p hm
        simp only [List.mem_cons, List.not_mem_nil, or_false] at hm
        rcases hm with rfl | rfl
        · simp
        · rfl
      · intro s' hs
        refine hK3 s' (.norm [1, 2, 3, 15, 16, 17] ?_)
        rw [hs]
        refine SWP.runQ S0 50 31 hnt [6] (e := .ret) (z := ⟨[(6, .bool true)], ⟨[ctr (eachP f ks (f cnt n) (n + 1) ks.len), scr m, D], []⟩⟩) (o := []) (by kernel_rfl) (fun p h => by cases h) (fun s hs => hfr s [6] ?_)
        rw [hs]
        refine ⟨2, .bool true, Nat.le_of_ble_eq_true rfl, Nat.le_of_ble_eq_true rfl, rfl, rfl, by simp only [Seat.scr, ctr, List.take, List.all_cons, List.all_nil, scL_rep]; rfl, rfl, ?_⟩
        rw [eachP_len]
        rfl
end Seat
end Go.Proofs.YteimebpgmfhgjaaDoor
/- datum.each, of no path: the walk. -/
namespace Go.Proofs.YteimebpgmfhgjaaDoor
open Go.AS
set_option linter.unusedVariables false
set_option linter.unusedSimpArgs false
set_option maxRecDepth 100000
namespace Seat
theorem each_nil {Y : Nat} {f : Int → Nat → Int} (hY : Yok Y f) (d : Dat) (hok : d.ok) (cnt : Int) (hdeep : deepN d ≤ 17592186044415) : PCalls G0 64 [.agg d.cells, .nil, yOf Y] [ctr cnt] (fun o b => o = .ret (.bool true) ∧ b = [ctr (eachF f d cnt 0)]) := by
  have ih := eachAt hY
  have hZ : True := trivial
  ·
    obtain ⟨dk, dn, ds, ks⟩ := d
    let D : Box := ⟨[.int .i64 dk, .int .i64 dn, .str ds, .slice ks.len ks.cells], 24⟩
    let S (b : Bool) (v : PV) : Cfg G0 := { F := F, hF := hF, S := fun _ _ => none, hS := fun _ _ _ _ h => (by cases h), orc := eachO b, val := eachV v }
    refine Fn.enterB Tryd.func64 Tryd.ntmps64 rfl (Nat.le_of_ble_eq_true rfl) fun C fr fp hnt hnb hp hfr hfp => ?_
    refine Q.runSeq S0 50 31 hnt [1, 2, 3] (z := ⟨[(1, .nil), (2, yOf Y), (3, .ptr 1 0)], ⟨[ctr cnt, D], []⟩⟩) (o := []) (by kernel_rfl) (fun p h => by cases h) ?_
    refine Q.seq fun K hK => ?_
    refine Q.seq fun K2 hK2 => ?_
    (with_reducible refine Q.region (l := ?_) ?_ ?_); rotate_left; focus (simp only [strip, SO.of, List.toList_toArray, List.getElem?_cons_zero, List.getElem?_cons_succ, Option.bind_some]; rfl)
    refine SRun.step _ (by simp only [push_cast, hnt, Nat.reduceEqDiff, reduceIte, Nat.reduceAdd, Nat.reduceSub, Nat.reduceMul, Nat.reduceLeDiff, Nat.reduceLT, Nat.reduceBEq, Nat.reduceBNe, decide_true, decide_false, Nat.le_refl, Bool.not_true, Bool.not_false, Bool.false_eq_true, reduceCtorEq, Bool.true_and, Bool.and_true, ge_iff_le, Nat.lt_irrefl, Nat.zero_le]; rfl) ?_
    refine SRun.step _ (by simp only [push_cast, hnt, Nat.reduceEqDiff, reduceIte, Nat.reduceAdd, Nat.reduceSub, Nat.reduceMul, Nat.reduceLeDiff, Nat.reduceLT, Nat.reduceBEq, Nat.reduceBNe, decide_true, decide_false, Nat.le_refl, Bool.not_true, Bool.not_false, Bool.false_eq_true, reduceCtorEq, Bool.true_and, Bool.and_true, ge_iff_le, Nat.lt_irrefl, Nat.zero_le]; rfl) ?_
    refine SRun.step _ (by simp only [push_cast, hnt, Nat.reduceEqDiff, reduceIte, Nat.reduceAdd, Nat.reduceSub, Nat.reduceMul, Nat.reduceLeDiff, Nat.reduceLT, Nat.reduceBEq, Nat.reduceBNe, decide_true, decide_false, Nat.le_refl, Bool.not_true, Bool.not_false, Bool.false_eq_true, reduceCtorEq, Bool.true_and, Bool.and_true, ge_iff_le, Nat.lt_irrefl, Nat.zero_le]; rfl) ?_
    refine SRun.cons (yield_nil hY dk dn ds ks.len ks.cells cnt hnt _ rfl rfl rfl rfl ?_)
    refine SRun.step _ (by simp only [push_cast, hnt, Nat.reduceEqDiff, reduceIte, Nat.reduceAdd, Nat.reduceSub, Nat.reduceMul, Nat.reduceLeDiff, Nat.reduceLT, Nat.reduceBEq, Nat.reduceBNe, decide_true, decide_false, Nat.le_refl, Bool.not_true, Bool.not_false, Bool.false_eq_true, reduceCtorEq, Bool.true_and, Bool.and_true, ge_iff_le, Nat.lt_irrefl, Nat.zero_le]; rfl) ?_
    refine Q.nil (hK2 _ ?_)
    refine Q.cond (b := false) rfl (fun h => by cases h) (fun _ => ?_)
    refine Q.skip (hK _ (.norm [1, 2, 3] ?_))
    have e1 : ∀ (a : Int) t, nrm [1, 2, 3] ⟨t, ⟨[ctr cnt, D].set 0 (ctr a), []⟩⟩ = nrm [1, 2, 3] ⟨t, ⟨[ctr a, D], []⟩⟩ := fun _ _ => rfl
    refine Q.seq fun K3 hK3 => ?_
    refine Q.runSeq S0 50 31 hnt [1, 2, 3, 15, 16, 17] (z := ⟨[(1, .nil), (2, yOf Y), (3, .ptr 1 0), (15, .slice ks.len ks.cells), (16, .int .i64 ks.len), (17, .int .i64 0)], ⟨[ctr (f cnt 0), D], []⟩⟩) (o := []) (by kernel_rfl) (fun p h => by cases h) ?_
    refine Q.block ?_
    let T (j : Nat) : AS := ⟨[(1, .nil), (2, yOf Y), (3, .ptr 1 0), (15, .slice ks.len ks.cells), (16, .int .i64 ks.len), (17, .int .i64 j)], ⟨[ctr (eachP f ks (f cnt 0) (0 + 1) j), D], []⟩⟩
    refine Q.loopI (σ := { j : Nat // j ≤ ks.len }) [1, 2, 3, 15, 16, 17] (fun j => T j.1) (fun j => ks.len - j.1) ⟨0, Nat.zero_le _⟩ rfl fun ⟨j, hj⟩ => ?_
    rcases Nat.lt_or_ge j ks.len with hlt | hge
    · refine Q.runSeq (S true .nil) 50 31 hnt [1, 2, 3, 15, 16, 17, 18] (z := ⟨(T j).t ++ [(18, .bool true)], (T j).h⟩) (o := [(decide ((j : Int) < (ks.len : Int)), true)]) (by kernel_rfl) (fun p hm => ?_) ?_
      · simp only [List.mem_cons, List.not_mem_nil, or_false] at hm
        subst hm
        simpa using hlt
      refine Q.runSeq S0 50 31 hnt [1, 2, 3, 15, 16, 17] (z := T j) (o := []) (by kernel_rfl) (fun p h => by cases h) ?_
      refine Q.seq fun K4 hK4 => ?_
      refine Q.block ?_
      obtain ⟨k', n', s', ks', hget⟩ : ∃ k' n' s' ks', ks.get j = .mk k' n' s' ks' := by cases h : ks.get j with | mk k n s ks => exact ⟨k, n, s, ks, rfl⟩
      let Kb : Box := ⟨[.int .i64 k', .int .i64 n', .str s', .slice ks'.len ks'.cells], 24⟩
      refine Q.runSeq (S true (.agg Kb.cs)) 50 31 hnt [1, 2, 3, 7, 8, 15, 16, 17] (z := ⟨[(1, .nil), (2, yOf Y), (3, .ptr 1 0), (7, .int .i64 j), (8, .ptr 2 0), (15, .slice ks.len ks.cells), (16, .int .i64 ks.len), (17, .int .i64 j)], ⟨[ctr (eachP f ks (f cnt 0) (0 + 1) j), D, Kb], []⟩⟩)
        (o := [(decide (0 ≤ (j : Int) ∧ (j : Int) < (ks.len : Int)), true), (decide (4 ≤ (ks.cells.drop ((j : Int).toNat * 4)).length), true), (same (.agg ((ks.cells.drop ((j : Int).toNat * 4)).take 4)) (.agg Kb.cs), true)]) (by kernel_rfl) (fun p hm => ?_) ?_
      · simp only [List.mem_cons, List.not_mem_nil, or_false, Int.toNat_natCast, Dats.get_cells ks j hlt] at hm
        rcases hm with rfl | rfl | rfl
        · simpa using hlt
        · simp only [List.length_drop, Dats.cells_len, decide_eq_true_eq]; omega
        · exact same_of (by rw [hget]; rfl)
      refine Q.seq fun K6 hK6 => ?_
      have hsz : (ks.get j).size < (ks.get j).size + 1 := Nat.lt_succ_self _
      have hokj : (ks.get j).ok := Dats.get_ok ks j hlt hok.2
      have hdp : 0 + 1 + deepN (ks.get j) ≤ 17592186044415 := by have := deepN_get ks j hlt; simp only [deepN] at hdeep; omega
      have hcs : (ks.get j).cells = Kb.cs := by rw [hget]; rfl
      have fin6 : ∀ (s : AS) (more : List Box), nrm [1, 2, 3, 15, 16, 17, 29] s = ⟨(T j).t ++ [(29, .bool false)], ⟨ctr (eachP f ks (f cnt 0) (0 + 1) (j + 1)) :: D :: more, []⟩⟩ → K6 s := fun s more hs => by
        refine hK6 s (.norm [1, 2, 3, 15, 16, 17, 29] ?_)
        rw [hs]
        refine .drop 2 (by rw [hnb]; exact Nat.le_of_ble_eq_true rfl) (by simp) (by simp only [Seat.scr, ctr, List.take, List.all_cons, List.all_nil, scL_rep]; rfl) rfl rfl ?_
        refine SWP.runQ S0 50 31 hnt [1, 2, 3, 15, 16, 17] (e := .normal) (z := ⟨(T j).t, ⟨[ctr (eachP f ks (f cnt 0) (0 + 1) (j + 1)), D], []⟩⟩) (o := []) (by kernel_rfl) (fun p h => by cases h) (fun s hs => hK4 s (.norm [1, 2, 3, 15, 16, 17] ?_))
        rw [hs]
        refine SWP.runQ S0 50 31 hnt [1, 2, 3, 15, 16, 17] (e := .normal) (z := ⟨[(1, .nil), (2, yOf Y), (3, .ptr 1 0), (15, .slice ks.len ks.cells), (16, .int .i64 ks.len), (17, .int .i64 (IntKind.i64.wrap ((j : Int) + 1)))], ⟨[ctr (eachP f ks (f cnt 0) (0 + 1) (j + 1)), D], []⟩⟩) (o := []) (by kernel_rfl) (fun p h => by cases h) (fun s hs => ⟨⟨j + 1, hlt⟩, Nat.sub_lt_sub_left hlt (Nat.lt_succ_self j), ?_⟩)
        rw [hs]
        have := hok.1
        have e := wrapN (j + 1) (by omega)
        push_cast at e
        rw [e]
        rfl
      refine SWP.draw [4, 6] #[false, false, false, false, false, false, false, false] rfl ?_
      refine SAny.with 2 #[true, true, true, true, true, true, false, false] (fun s => ∃ (q c : Nat) (more : List Box), q ≠ 0 ∧ 0 + 1 ≤ c ∧ (D :: Kb :: more)[q - 1]? = some (scr c) ∧ nrm [1, 2, 3, 15, 16, 17, 22, 26, 27] s = ⟨(T j).t ++ [(22, .agg Kb.cs), (26, .bsl q (0 + 1) c), (27, yOf Y)], ⟨ctr (eachP f ks (f cnt 0) (0 + 1) j) :: D :: Kb :: more, []⟩⟩) ?_ ?_
      · rintro s ⟨q, c, more, hq, hc, hbq, hs⟩
        refine SAny.norm [1, 2, 3, 15, 16, 17, 22, 26, 27] ?_
        rw [hs]
        refine SAny.last (i := 6) #[true, true, true, true, true, true, true, false] rfl rfl (by kernel_rfl) rfl ?_
        refine each_call (ih ((ks.get j).size + 1)) (ks.get j) hsz hokj (eachP f ks (f cnt 0) (0 + 1) j) q (0 + 1) c hq hc hdp hnt _ ?_ rfl rfl rfl ?_ ?_ _ rfl rfl
        · rw [hcs]; rfl
        · cases q with
          | zero => exact absurd rfl hq
          | succ q => simpa using hbq
        refine SAny.one (i := 7) #[true, true, true, true, true, true, true, true] rfl rfl (by kernel_rfl) ?_
        refine SOpG.val (x := .bool false) rfl (by rw [hnt]; rfl) ?_
        exact SAny.done (by kernel_rfl) (fin6 _ (Kb :: more) rfl)
      intro tail
      refine SAny.free (i := 1) (l' := #[false, true, false, false, false, false, false, false]) (x := .nil) rfl rfl rfl (by rw [hnt]; rfl) (by kernel_rfl) hp.q ?_
      refine SAny.free (i := 2) (l' := #[false, true, true, false, false, false, false, false]) (x := .int .i64 j) rfl rfl rfl (by rw [hnt]; rfl) (by kernel_rfl) hp.q ?_
      refine SAny.free (i := 5) (l' := #[false, true, true, false, false, true, false, false]) (x := yOf Y) rfl rfl rfl (by rw [hnt]; rfl) (by kernel_rfl) hp.q ?_
      have app : ∀ (Q : AEx → AS → Prop) (K : AS → Prop) (s : AS) (o : Oper), o.op = .call ⟨.builtin .append, #[.tmp 23, .tmp 25], #[78, 78]⟩ → o.dst = some 26 → lk s.t 23 = .nil → lk s.t 25 = .slice 1 [.int .i64 j] → s.h = ⟨[ctr (eachP f ks (f cnt 0) (0 + 1) j), D, Kb], []⟩ →
          (∀ (q c : Nat) (more : List Box), q ≠ 0 → 0 + 1 ≤ c → (D :: Kb :: more)[q - 1]? = some (scr c) → K (({ s with h := ⟨ctr (eachP f ks (f cnt 0) (0 + 1) j) :: D :: Kb :: more, []⟩ } : AS).put (some 26) (.bsl q (0 + 1) c))) → SOp G0 C o Q K s := fun Q K s o ho hd h23 h25 hh h => by
        have hdo : dstOk C.nt o.dst = true := by rw [hd, hnt]; rfl
        refine SOp.scrNil (k := 1) (cs := [.int .i64 j]) (e := 3) (td := d3) (tdt := d78) ho h23 h25 rfl rfl rfl rfl rfl rfl (by omega) (by show 1 * 8 ≤ _; omega) (by omega) hdo fun c hc => ?_
        rw [hd, hh]
        exact h 3 c [scr c] (by omega) hc rfl
      refine SAny.two (i := 0) (j := 3) #[true, true, true, false, false, true, false, false] #[false, true, true, true, false, true, false, false] rfl rfl rfl rfl (by kernel_rfl) ?_ ?_
      · refine SOpG.val (x := .agg Kb.cs) rfl (by rw [hnt]; rfl) ?_
        refine SAny.one (i := 3) #[true, true, true, true, false, true, false, false] rfl rfl (by kernel_rfl) ?_
        refine SOpG.buildSlice (e := 3) (td := d3) (tdt := d78) (out := [.int .i64 j]) rfl rfl rfl rfl rfl (by decide) rfl rfl (by rw [hnt]; rfl) ?_
        refine SAny.last (i := 4) #[true, true, true, true, true, true, false, false] rfl rfl (by kernel_rfl) rfl ?_
        refine app _ _ _ _ rfl rfl rfl rfl rfl fun q c more hq hc hb => ?_
        exact tail _ ⟨q, c, more, hq, hc, hb, rfl⟩
      · refine SOpG.buildSlice (e := 3) (td := d3) (tdt := d78) (out := [.int .i64 j]) rfl rfl rfl rfl rfl (by decide) rfl rfl (by rw [hnt]; rfl) ?_
        refine SAny.twoL (i := 0) (j := 4) #[true, true, true, true, false, true, false, false] #[false, true, true, true, true, true, false, false] rfl rfl rfl rfl (by kernel_rfl) rfl ?_ ?_
        · refine SOpG.val (x := .agg Kb.cs) rfl (by rw [hnt]; rfl) ?_
          refine SAny.last (i := 4) #[true, true, true, true, true, true, false, false] rfl rfl (by kernel_rfl) rfl ?_
          refine app _ _ _ _ rfl rfl rfl rfl rfl fun q c more hq hc hb => ?_
          exact tail _ ⟨q, c, more, hq, hc, hb, rfl⟩
        · refine app _ _ _ _ rfl rfl rfl rfl rfl fun q c more hq hc hb => ?_
          refine SAny.one (i := 0) #[true, true, true, true, true, true, false, false] rfl rfl (by kernel_rfl) ?_
          refine SOpG.val (x := .agg Kb.cs) rfl (by rw [hnt]; rfl) ?_
          exact tail _ ⟨q, c, more, hq, hc, hb, rfl⟩
    · have hje : j = ks.len := by omega
      subst hje
      refine SWP.runQ (S false .nil) 60 31 hnt [1, 2, 3, 15, 16, 17] (e := .exit 0) (z := T ks.len) (o := [(decide ((ks.len : Int) < (ks.len : Int)), false), (false, false)]) (by kernel_rfl) ?_ ?_
      · intro p hm
        simp only [List.mem_cons, List.not_mem_nil, or_false] at hm
        rcases hm with rfl | rfl
        · simp
        · rfl
      · intro s' hs
        refine hK3 s' (.norm [1, 2, 3, 15, 16, 17] ?_)
        rw [hs]
        refine SWP.runQ S0 50 31 hnt [6] (e := .ret) (z := ⟨[(6, .bool true)], ⟨[ctr (eachP f ks (f cnt 0) (0 + 1) ks.len), D], []⟩⟩) (o := []) (by kernel_rfl) (fun p h => by cases h) (fun s hs => hfr s [6] ?_)
        rw [hs]
        refine ⟨1, .bool true, Nat.le_of_ble_eq_true rfl, Nat.le_of_ble_eq_true rfl, rfl, rfl, by simp only [Seat.scr, ctr, List.take, List.all_cons, List.all_nil, scL_rep]; rfl, rfl, ?_⟩
        rw [eachP_len]
        rfl
end Seat
end Go.Proofs.YteimebpgmfhgjaaDoor
/- datum.Parts, datum.Deep. -/
namespace Go.Proofs.YteimebpgmfhgjaaDoor
open Go.AS
set_option linter.unusedVariables false
set_option linter.unusedSimpArgs false
set_option maxRecDepth 100000
namespace Seat
mutual
theorem eachF_parts : ∀ (d : Dat) (c : Int) (n : Nat), eachF fParts d c n = w64 (c + parts d)
  | .mk k n' s ks, c, n => by
    simp only [eachF, parts, fParts]
    rw [eachL_parts ks]
    congr 1
    push_cast
    omega
theorem eachL_parts : ∀ (ks : Dats) (c : Int) (n : Nat), eachL fParts ks (w64 c) n = w64 (c + partsL ks)
  | .nil, c, n => by simp [eachL, partsL]
  | .cons d ds, c, n => by
    simp only [eachL, partsL]
    rw [eachF_parts d]
    have e : w64 (w64 c + (parts d : Int)) = w64 (c + parts d) := by unfold w64; simp only [IntKind.wrap_i64]; omega
    rw [e, eachL_parts ds]
    congr 1
    push_cast
    omega
end
mutual
theorem eachF_deep : ∀ (d : Dat) (c : Int) (n : Nat), n + deepN d ≤ 17592186044415 → eachF fDeep d c n = max c ((n + deepN d : Nat) : Int)
  | .mk k n' s ks, c, n, h => by
    simp only [deepN] at h
    have e : fDeep c n = max c ((n + 1 : Nat) : Int) := by
      unfold fDeep mxi
      have := wrapN (n + 1) (by omega)
      push_cast at this ⊢
      rw [this]
      split <;> omega
    simp only [eachF, deepN]
    rw [eachL_deep ks _ _ (by omega) (by rw [e]; omega), e]
    omega
theorem eachL_deep : ∀ (ks : Dats) (c : Int) (n : Nat), n + deepNL ks ≤ 17592186044415 → (n : Int) ≤ c → eachL fDeep ks c n = max c ((n + deepNL ks : Nat) : Int)
  | .nil, c, n, h, hc => by simp only [eachL, deepNL]; omega
  | .cons d ds, c, n, h, hc => by
    simp only [deepNL] at h
    simp only [eachL, deepNL]
    rw [eachF_deep d _ _ (by omega), eachL_deep ds _ _ (by omega) (by omega)]
    omega
end
def Good (d : Dat) : Prop := d.ok ∧ deepN d ≤ 17592186044415
open Classical in
noncomputable def isGood (cs : List PV) : Bool := decide (∃ d : Dat, d.cells = cs ∧ Good d)
theorem isGood_at {d : Dat} (h : Good d) : isGood d.cells = true := by
  unfold isGood
  classical exact decide_eq_true ⟨d, rfl, h⟩
theorem isGood_of {cs : List PV} (h : isGood cs = true) : ∃ d : Dat, d.cells = cs ∧ Good d := by
  unfold isGood at h
  classical exact of_decide_eq_true h
noncomputable def eachB (f : Nat) (args : List PV) (x : Box) : Option (PV × Box × Ob) := match f, args, x with
  | 64, [.agg cs, .nil, .func (.func Y) [.ptr 0 0]], ⟨[.int .i64 cnt], 3⟩ => match Y with
      | 65 => some (.bool true, ctr (ofCells (fun d => eachF fParts d cnt 0) 0 cs), [(isGood cs, true)])
      | 66 => some (.bool true, ctr (ofCells (fun d => eachF fDeep d cnt 0) 0 cs), [(isGood cs, true)])
      | _ => none
  | _, _, _ => none
theorem eachB_ok : ∀ f xs x r x' o, eachB f xs x = some (r, x', o) → (∀ p ∈ o, p.1 = p.2) → PCalls G0 f xs [x] (fun o' b' => o' = .ret r ∧ b' = [x']) ∧ r.sc 0 = true ∧ scL 0 x.cs = true ∧ scL 0 x'.cs = true := by
  intro f args x r b o h ho
  unfold eachB at h
  split at h
  · rename_i cs Y cnt
    split at h
    · cases h
      obtain ⟨d, rfl, h1⟩ := isGood_of (ho _ (List.mem_singleton.2 rfl))
      simp only [ofCells_at]
      exact ⟨each_nil yParts d h1.1 cnt h1.2, rfl, rfl, rfl⟩
    · cases h
      obtain ⟨d, rfl, h1⟩ := isGood_of (ho _ (List.mem_singleton.2 rfl))
      simp only [ofCells_at]
      exact ⟨each_nil yDeep d h1.1 cnt h1.2, rfl, rfl, rfl⟩
    · cases h
  · cases h
noncomputable def SE : Cfg G0 := { F := F, hF := hF, S := fun _ _ => none, hS := fun _ _ _ _ h => (by cases h), B := eachB, hB := eachB_ok }
theorem dparts_ok (d : Dat) (hd : Good d) : Pure G0 46 [.agg d.cells] (fun r => r = .int .i64 (w64 (parts d))) := by
  have e : w64 (parts d) = ofCells (fun d => eachF fParts d 0 0) 0 d.cells := by rw [ofCells_at, eachF_parts, Int.zero_add]
  rw [e]
  obtain ⟨k, n, s, ks⟩ := d
  exact Pure.runO (S := SE) 100 (o := [(isGood (Dat.mk k n s ks).cells, true)]) (by kernel_rfl) (fun p hp => by
    rw [List.mem_singleton.1 hp]; exact isGood_at hd)
theorem ddeep_ok (d : Dat) (hd : Good d) : Pure G0 47 [.agg d.cells] (fun r => r = .int .i64 (deepN d)) := by
  have e : (deepN d : Int) = ofCells (fun d => eachF fDeep d 0 0) 0 d.cells := by rw [ofCells_at, eachF_deep _ _ _ (by have := hd.2; omega)]; omega
  rw [e]
  obtain ⟨k, n, s, ks⟩ := d
  exact Pure.runO (S := SE) 100 (o := [(isGood (Dat.mk k n s ks).cells, true)]) (by kernel_rfl) (fun p hp => by
    rw [List.mem_singleton.1 hp]; exact isGood_at hd)
end Seat
end Go.Proofs.YteimebpgmfhgjaaDoor
/- pagodaref01.Cut: what it comes to. -/
namespace Go.Proofs.YteimebpgmfhgjaaDoor
open Go.AS
set_option linter.unusedVariables false
set_option linter.unusedSimpArgs false
namespace Seat
def Dats.snoc : Dats → Dat → Dats
  | .nil, e => .cons e .nil
  | .cons d ds, e => .cons d (Dats.snoc ds e)
theorem snoc_cells : ∀ (ds : Dats) (e : Dat), (Dats.snoc ds e).cells = ds.cells ++ e.cells
  | .nil, e => by simp [Dats.snoc, Dats.cells]
  | .cons d ds, e => by simp only [Dats.snoc, Dats.cells, snoc_cells ds e, List.append_assoc]
theorem snoc_len : ∀ (ds : Dats) (e : Dat), (Dats.snoc ds e).len = ds.len + 1
  | .nil, e => rfl
  | .cons d ds, e => by simp only [Dats.snoc, Dats.len, snoc_len ds e]
def cutS (s : ByteArray) : ByteArray := s.extract 0 (min (s.size : Int) 42).toNat
mutual
def cutD : Dat → Int → Int → Dat × Int
  | .mk k n s ks, deep, left =>
    let r := cutL ks deep (left - 1)
    (.mk k n (cutS s) r.1, r.2)
def cutL : Dats → Int → Int → Dats × Int
  | .nil, _, left => (.nil, left)
  | .cons d ds, deep, left => if 1 < deep ∧ 0 < left then
      let r := cutD d (deep - 1) left
      let q := cutL ds deep r.2
      (.cons r.1 q.1, q.2)
    else (.nil, left)
end
def cutN (ks : Dats) (deep left : Int) : Nat → Dats × Int
  | 0 => (.nil, left)
  | j + 1 => (Dats.snoc (cutN ks deep left j).1 (cutD (ks.get j) (deep - 1) (cutN ks deep left j).2).1, (cutD (ks.get j) (deep - 1) (cutN ks deep left j).2).2)
theorem cutN_cons (d : Dat) (ds : Dats) (deep left : Int) (j : Nat) : cutN (.cons d ds) deep left (j + 1) = (.cons (cutD d (deep - 1) left).1 (cutN ds deep (cutD d (deep - 1) left).2 j).1, (cutN ds deep (cutD d (deep - 1) left).2 j).2) := by
  induction j with
  | zero => simp [cutN, Dats.get, Dats.snoc]
  | succ j ih =>
    rw [cutN, ih]
    simp only [cutN, Dats.get, Dats.snoc]
theorem cutN_stop : ∀ (ks : Dats) (deep left : Int) (m : Nat), m ≤ ks.len → (∀ i, i < m → 1 < deep ∧ 0 < (cutN ks deep left i).2) → (m = ks.len ∨ ¬ (1 < deep ∧ 0 < (cutN ks deep left m).2)) → cutL ks deep left = cutN ks deep left m
  | .nil, deep, left, m, hm, hl, hs => by
    simp only [Dats.len] at hm
    obtain rfl : m = 0 := by omega
    rfl
  | .cons d ds, deep, left, 0, hm, hl, hs => by
    rcases hs with h | h
    · simp [Dats.len] at h
    · simp only [cutN] at h
      simp only [cutL, if_neg h, cutN]
  | .cons d ds, deep, left, m + 1, hm, hl, hs => by
    have h0 := hl 0 (by omega)
    simp only [cutN] at h0
    have ih := cutN_stop ds deep (cutD d (deep - 1) left).2 m (by simp only [Dats.len] at hm; omega) (fun i hi => by have := hl (i + 1) (by omega); rw [cutN_cons] at this; exact this) (by
      rcases hs with h | h
      · left; simp only [Dats.len] at h; omega
      · right; rw [cutN_cons] at h; exact h)
    rw [cutN_cons]
    simp only [cutL, if_pos h0, ih]
theorem cutN_len (ks : Dats) (deep left : Int) (j : Nat) : (cutN ks deep left j).1.len = j := by
  induction j with
  | zero => rfl
  | succ j ih => simp only [cutN, snoc_len, ih]
mutual
theorem cutD_parts : ∀ (d : Dat) (deep left : Int), 1 ≤ left → 0 ≤ (cutD d deep left).2 ∧ (cutD d deep left).2 + parts (cutD d deep left).1 = left
  | .mk k n s ks, deep, left, h => by
    have := cutL_parts ks deep (left - 1) (by omega)
    simp only [cutD, parts]
    omega
theorem cutL_parts : ∀ (ks : Dats) (deep left : Int), 0 ≤ left → 0 ≤ (cutL ks deep left).2 ∧ (cutL ks deep left).2 + partsL (cutL ks deep left).1 = left
  | .nil, deep, left, h => by simp only [cutL, partsL]; omega
  | .cons d ds, deep, left, h => by
    simp only [cutL]
    split
    · have h1 := cutD_parts d (deep - 1) left (by omega)
      have h2 := cutL_parts ds deep (cutD d (deep - 1) left).2 h1.1
      simp only [partsL]
      omega
    · simp only [partsL]; omega
end
end Seat
end Go.Proofs.YteimebpgmfhgjaaDoor
/- room.cut: the law that the interpreter takes. -/
namespace Go.Proofs.YteimebpgmfhgjaaDoor
open Go.AS
set_option linter.unusedVariables false
set_option linter.unusedSimpArgs false
set_option maxRecDepth 100000
namespace Seat
def room (n : Int) : Box := ⟨[.int .i64 n], 72⟩
def CutAt (N : Nat) : Prop := ∀ d : Dat, d.size < N → d.ok → ∀ deep left : Int, 1 ≤ deep → deep ≤ 4611686018427387904 → 1 ≤ left → left ≤ 1000000 → PCalls G0 44 [.ptr 0 0, .agg d.cells, .int .i64 deep] [room left] (fun o b => o = .ret (.agg (cutD d deep left).1.cells) ∧ b = [room (cutD d deep left).2])
noncomputable def cutB (N : Nat) (f : Nat) (args : List PV) (x : Box) : Option (PV × Box × Ob) := match f, args, x with
  | 44, [.ptr 0 0, .agg cs, .int .i64 deep], ⟨[.int .i64 left], 72⟩ => some (.agg (ofCells (fun d => (cutD d deep left).1.cells) [] cs), room (ofCells (fun d => (cutD d deep left).2) 0 cs), [(isDat N cs, true), (decide (1 ≤ deep ∧ deep ≤ 4611686018427387904 ∧ 1 ≤ left ∧ left ≤ 1000000), true)])
  | _, _, _ => none
theorem cutB_ok {N : Nat} (ih : CutAt N) : ∀ f xs x r x' o, cutB N f xs x = some (r, x', o) → (∀ p ∈ o, p.1 = p.2) → PCalls G0 f xs [x] (fun o' b' => o' = .ret r ∧ b' = [x']) ∧ r.sc 0 = true ∧ scL 0 x.cs = true ∧ scL 0 x'.cs = true := by
  intro f args x r b o h ho
  unfold cutB at h
  split at h
  · rename_i cs deep left
    cases h
    obtain ⟨d, rfl, h1, h2⟩ := isDat_of (ho _ (List.mem_cons_self ..))
    have h3 : 1 ≤ deep ∧ deep ≤ 4611686018427387904 ∧ 1 ≤ left ∧ left ≤ 1000000 := of_decide_eq_true (ho (decide _, true) (List.mem_cons_of_mem _ (List.mem_cons_self ..)))
    simp only [ofCells_at]
    refine ⟨ih d h1 h2 deep left h3.1 h3.2.1 h3.2.2.1 h3.2.2.2, ?_, rfl, rfl⟩
    cases (cutD d deep left).1; rfl
  · cases h
noncomputable def SC {N : Nat} (ih : CutAt N) (l : List (Nat × List (Nat × Bool))) (v : List (Nat × List (Nat × PV))) : Cfg G0 := { F := F, hF := hF, S := fun _ _ => none, hS := fun _ _ _ _ h => (by cases h), orc := orcM l, val := valM v, B := cutB N, hB := cutB_ok ih, D := fun f => Nat.beq f 44 }
end Seat
end Go.Proofs.YteimebpgmfhgjaaDoor
/- room.cut: the walk. -/
namespace Go.Proofs.YteimebpgmfhgjaaDoor
open Go.AS
set_option linter.unusedVariables false
set_option linter.unusedSimpArgs false
set_option maxRecDepth 100000
namespace Seat
theorem cutN_left (ks : Dats) (deep left : Int) (m : Nat) : (∀ i, i < m → 1 < deep ∧ 0 < (cutN ks deep left i).2) → (cutN ks deep left m).2 + m ≤ left ∧ (0 ≤ left → 0 ≤ (cutN ks deep left m).2) := by
  induction m with
  | zero => intro _; simp [cutN]
  | succ m ih =>
    intro h
    have h1 := ih fun i hi => h i (by omega)
    have h2 := h m (by omega)
    have h3 := cutD_parts (ks.get m) (deep - 1) (cutN ks deep left m).2 (by omega)
    have h4 : 1 ≤ parts (cutD (ks.get m) (deep - 1) (cutN ks deep left m).2).1 := by
      obtain ⟨k, n, s, ks', e⟩ := Dat.is_mk (cutD (ks.get m) (deep - 1) (cutN ks deep left m).2).1
      rw [e]; simp only [parts]; omega
    simp only [cutN]
    omega
theorem cutAt (N : Nat) : CutAt N := by
  induction N with
  | zero => intro d h; omega
  | succ N ih =>
    intro d hN hok deep left hd1 hd2 hl1 hl2
    obtain ⟨k, n, s, ks⟩ := d
    let D : Box := ⟨[.int .i64 k, .int .i64 n, .str s, .slice ks.len ks.cells], 24⟩
    let Z : Box := ⟨[.int .i64 0, .int .i64 0, .str ⟨#[]⟩, .nil], 24⟩
    have w1 : ∀ x : Int, 1 ≤ x → x ≤ 4611686018427387904 → IntKind.i64.wrap (x - 1) = x - 1 := fun x h1 h2 => by rw [IntKind.wrap_i64]; omega
    refine Fn.enterN Tryd.func44 Tryd.ntmps44 rfl (Nat.le_of_ble_eq_true rfl) fun C fr fp hnt hp hfr hfp => ?_
    refine Q.runSeq S0 50 61 hnt [0, 2, 4, 6] (z := ⟨[(0, .ptr 0 0), (2, .int .i64 deep), (4, .ptr 1 0), (6, .ptr 2 0)], ⟨[room left, D, Z], []⟩⟩) (o := []) (by kernel_rfl) okO_nil ?_
    refine Q.runSeq (SC ih [] [(61, [(13, .int .i64 (left - 1))])]) 50 61 hnt [0, 2, 4, 6] (z := ⟨[(0, .ptr 0 0), (2, .int .i64 deep), (4, .ptr 1 0), (6, .ptr 2 0)], ⟨[room (left - 1), D, Z], []⟩⟩) (o := [(same (.int .i64 (IntKind.i64.wrap (left - 1))) (.int .i64 (left - 1)), true)]) (by kernel_rfl) (fun p hm => by rw [List.mem_singleton.1 hm]; exact same_of (by rw [w1 left hl1 (by omega)])) ?_
    refine Q.runSeq (SC ih [(61, [(26, true)])] [(61, [(26, .str (cutS s))])]) 60 61 hnt [0, 2, 4, 6, 7] (z := ⟨[(0, .ptr 0 0), (2, .int .i64 deep), (4, .ptr 1 0), (6, .ptr 2 0), (7, .ptr 3 0)], ⟨[room (left - 1), D, Z, ⟨[.int .i64 k, .int .i64 n, .str (cutS s), .nil], 24⟩], []⟩⟩)
      (o := [(decide ((0 : Int) ≤ 0 ∧ (0 : Int) ≤ (if (42 : Int) < (s.size : Int) then 42 else (s.size : Int)) ∧ (if (42 : Int) < (s.size : Int) then 42 else (s.size : Int)) ≤ (s.size : Int)), true), (same (.str (s.extract (0 : Int).toNat (if (42 : Int) < (s.size : Int) then 42 else (s.size : Int)).toNat)) (.str (cutS s)), true)]) (by kernel_rfl) (fun p hm => ?_) ?_
    · simp only [List.mem_cons, List.not_mem_nil, or_false] at hm
      have e : (if (42 : Int) < (s.size : Int) then 42 else (s.size : Int)) = min (s.size : Int) 42 := by split <;> omega
      rcases hm with rfl | rfl
      · simp only [decide_eq_true_eq]; rw [e]; omega
      · refine same_of ?_
        rw [e]
        rfl
    refine SWP.adoptB 3 3 24 4 rfl rfl ?_
    refine Q.seq fun K hK => ?_
    let T (j : Nat) : AS := ⟨[(0, .ptr 0 0), (2, .int .i64 deep), (4, .ptr 1 0), (6, .ptr 2 0), (7, .ptr 3 0), (8, .int .i64 j)], ⟨[room (cutN ks deep (left - 1) j).2, D, Z, ⟨[.int .i64 k, .int .i64 n, .str (cutS s), .own 0 j], 24⟩], [some ⟨(cutN ks deep (left - 1) j).1.cells, j, 24, 4⟩]⟩⟩
    refine Q.runSeq S0 50 61 hnt [0, 2, 4, 6, 7, 8] (z := T 0) (o := []) (by kernel_rfl) okO_nil ?_
    refine Q.block ?_
    refine Q.loopI (σ := { j : Nat // j ≤ ks.len ∧ ∀ i, i < j → 1 < deep ∧ 0 < (cutN ks deep (left - 1) i).2 }) [0, 2, 4, 6, 7, 8] (fun j => T j.1) (fun j => ks.len - j.1) ⟨0, Nat.zero_le _, fun i h => absurd h (Nat.not_lt_zero _)⟩ rfl fun ⟨j, hj, hl⟩ => ?_
    have hleft := cutN_left ks deep (left - 1) j hl
    have fin : (j = ks.len ∨ ¬ (1 < deep ∧ 0 < (cutN ks deep (left - 1) j).2)) → ∀ st, nrm [0, 2, 4, 6, 7, 8] st = T j → K st := fun hs st hst => by
      have hc := cutN_stop ks deep (left - 1) j hj hl hs
      have hcl := cutN_len ks deep (left - 1) j
      refine hK st (.norm [0, 2, 4, 6, 7, 8] ?_)
      rw [hst]
      refine SWP.frz [0] ?_
      refine SWP.runQ S0 50 61 hnt [6] (e := .ret) (z := ⟨[(6, .ptr 2 0)], ⟨[room (cutN ks deep (left - 1) j).2, D, ⟨[.int .i64 k, .int .i64 n, .str (cutS s), .slice j (cutN ks deep (left - 1) j).1.cells], 24⟩, ⟨[.int .i64 k, .int .i64 n, .str (cutS s), .slice j (cutN ks deep (left - 1) j).1.cells], 24⟩], [none]⟩⟩) (o := []) (by kernel_rfl) okO_nil (fun st hs => hfr st [6] ?_)
      rw [hs]
      refine ⟨1, .agg [.int .i64 k, .int .i64 n, .str (cutS s), .slice j (cutN ks deep (left - 1) j).1.cells], Nat.le_of_ble_eq_true rfl, Nat.le_of_ble_eq_true rfl, rfl, rfl, rfl, ?_, ?_⟩
      · simp only [cutD, hc, Dat.cells, hcl]
      · simp only [cutD, hc, List.take]
    let z43 (b : Bool) : AS := ⟨(T j).t ++ [(43, .bool b)], (T j).h⟩
    rcases Nat.lt_or_ge j ks.len with hlt | hge
    · by_cases hdp : 1 < deep
      · by_cases hl0 : 0 < (cutN ks deep (left - 1) j).2
        · refine Q.runSeq (SC ih [(61, [(32, true), (35, true), (42, true)])] []) 60 61 hnt [0, 2, 4, 6, 7, 8] (z := T j) (o := [(decide ((j : Int) < (ks.len : Int)), true), (decide ((1 : Int) < deep), true), (decide ((0 : Int) < (cutN ks deep (left - 1) j).2), true)]) (by kernel_rfl) (fun p hm => ?_) ?_
          · simp only [List.mem_cons, List.not_mem_nil, or_false] at hm
            rcases hm with rfl | rfl | rfl
            · simpa using hlt
            · simpa using hdp
            · simpa using hl0
          refine Q.seq fun K4 hK4 => ?_
          refine Q.block ?_
          obtain ⟨k', n', s', ks', hget⟩ := Dats.get_mk ks j
          obtain ⟨k2, n2, s2, ks2, hcut⟩ := Dat.is_mk (cutD (ks.get j) (deep - 1) (cutN ks deep (left - 1) j).2).1
          have hsz := Dats.get_size ks j hlt
          have hokj := Dats.get_ok ks j hlt hok.2
          have hcl : (ks.get j).cells = [.int .i64 k', .int .i64 n', .str s', .slice ks'.len ks'.cells] := by rw [hget]; rfl
          simp only [Dat.size] at hN
          let P : Ob := [(isDat N [.int .i64 k', .int .i64 n', .str s', .slice ks'.len ks'.cells], true), (decide (1 ≤ deep - 1 ∧ deep - 1 ≤ 4611686018427387904 ∧ 1 ≤ (cutN ks deep (left - 1) j).2 ∧ (cutN ks deep (left - 1) j).2 ≤ 1000000), true), (same (.agg (ofCells (fun d => (cutD d (deep - 1) (cutN ks deep (left - 1) j).2).1.cells) [] [.int .i64 k', .int .i64 n', .str s', .slice ks'.len ks'.cells])) (.agg [.int .i64 k2, .int .i64 n2, .str s2, .slice ks2.len ks2.cells]), true), (true, true), (Nat.ble ((j + 1) * 56) 140737488355328, true), (Nat.ble (j + 1) 9223372036854775807, true)]
          have okP : okO P := fun p hm => by
            simp only [P, List.mem_cons, List.not_mem_nil, or_false] at hm
            rcases hm with rfl | rfl | rfl | rfl | rfl | rfl
            · rw [← hcl]; exact isDat_at (by omega) hokj
            · simp only [decide_eq_true_eq]; omega
            · exact same_of (by rw [← hcl, ofCells_at, hcut]; rfl)
            · rfl
            · simp only [Nat.ble_eq]; omega
            · simp only [Nat.ble_eq]; omega
          refine SWP.runLQ (SC ih [(61, [(52, true), (53, true), (58, true)])] [(61, [(53, .agg [.int .i64 k', .int .i64 n', .str s', .slice ks'.len ks'.cells]), (55, .int .i64 (deep - 1)), (56, .agg [.int .i64 k2, .int .i64 n2, .str s2, .slice ks2.len ks2.cells])])]) 60 61 hnt [0, 2, 4, 6, 7, 8]
            (l := List.replicate 3 ⟨(T j).t, ⟨[room (ofCells (fun d => (cutD d (deep - 1) (cutN ks deep (left - 1) j).2).2) 0 [.int .i64 k', .int .i64 n', .str s', .slice ks'.len ks'.cells]), D, Z, ⟨[.int .i64 k, .int .i64 n, .str (cutS s), .own 0 (j + 1)], 24⟩], [some ⟨(cutN ks deep (left - 1) j).1.cells ++ [.int .i64 k2, .int .i64 n2, .str s2, .slice ks2.len ks2.cells], j + 1, 24, 4⟩]⟩⟩)
            (o := [(decide (0 ≤ (j : Int) ∧ (j : Int) < (ks.len : Int)), true), (decide (4 ≤ (ks.cells.drop ((j : Int).toNat * 4)).length), true), (same (.agg ((ks.cells.drop ((j : Int).toNat * 4)).take 4)) (.agg [.int .i64 k', .int .i64 n', .str s', .slice ks'.len ks'.cells]), true), (same (.int .i64 (IntKind.i64.wrap (deep - 1))) (.int .i64 (deep - 1)), true)] ++ (P ++ (P ++ P))) (by kernel_rfl) (okO_app (fun p hm => ?_) (okO_app okP (okO_app okP okP))) (fun st hs => ?_)
          · simp only [List.mem_cons, List.not_mem_nil, or_false, Int.toNat_natCast, Dats.get_cells ks j hlt] at hm
            rcases hm with rfl | rfl | rfl | rfl
            · simpa using hlt
            · simp only [List.length_drop, Dats.cells_len, decide_eq_true_eq]; omega
            · exact same_of (by rw [hcl])
            · exact same_of (by rw [w1 deep hd1 hd2])
          · refine hK4 st (.norm [0, 2, 4, 6, 7, 8] ?_)
            rw [List.eq_of_mem_replicate hs, ← hcl, ofCells_at]
            refine SWP.runQ (SC ih [] [(61, [(45, .int .i64 ((j + 1 : Nat) : Int))])]) 60 61 hnt [0, 2, 4, 6, 7, 8] (e := .normal) (z := ⟨[(0, .ptr 0 0), (2, .int .i64 deep), (4, .ptr 1 0), (6, .ptr 2 0), (7, .ptr 3 0), (8, .int .i64 ((j + 1 : Nat) : Int))], ⟨[room (cutD (ks.get j) (deep - 1) (cutN ks deep (left - 1) j).2).2, D, Z, ⟨[.int .i64 k, .int .i64 n, .str (cutS s), .own 0 (j + 1)], 24⟩], [some ⟨(cutN ks deep (left - 1) j).1.cells ++ [.int .i64 k2, .int .i64 n2, .str s2, .slice ks2.len ks2.cells], j + 1, 24, 4⟩]⟩⟩) (o := [(same (.int .i64 (IntKind.i64.wrap ((j : Int) + 1))) (.int .i64 ((j + 1 : Nat) : Int)), true)]) (by kernel_rfl) (fun p hm => by rw [List.mem_singleton.1 hm]; exact same_of (by rw [wrap1 j (by have := hok.1; omega)])) (fun st hs => ⟨⟨j + 1, hlt, fun i hi => ?_⟩, Nat.sub_lt_sub_left hlt (Nat.lt_succ_self j), ?_⟩)
            · rcases Nat.lt_succ_iff_lt_or_eq.1 hi with h | h
              · exact hl i h
              · rw [h]; exact ⟨hdp, hl0⟩
            · rw [hs]
              simp only [T, cutN, snoc_cells, hcut]
              rfl
        · refine SWP.runQ (SC ih [(61, [(32, true), (35, true), (42, false)])] []) 60 61 hnt [0, 2, 4, 6, 7, 8] (e := .exit 0) (z := T j) (o := [(decide ((j : Int) < (ks.len : Int)), true), (decide ((1 : Int) < deep), true), (decide ((0 : Int) < (cutN ks deep (left - 1) j).2), false)]) (by kernel_rfl) (fun p hm => ?_) (fin (.inr fun h => hl0 h.2))
          simp only [List.mem_cons, List.not_mem_nil, or_false] at hm
          rcases hm with rfl | rfl | rfl
          · simpa using hlt
          · simpa using hdp
          · simpa using hl0
      · refine SWP.runQ (SC ih [(61, [(32, true), (35, false)])] []) 60 61 hnt [0, 2, 4, 6, 7, 8] (e := .exit 0) (z := T j) (o := [(decide ((j : Int) < (ks.len : Int)), true), (decide ((1 : Int) < deep), false)]) (by kernel_rfl) (fun p hm => ?_) (fin (.inr fun h => hdp h.1))
        simp only [List.mem_cons, List.not_mem_nil, or_false] at hm
        rcases hm with rfl | rfl
        · simpa using hlt
        · simpa using hdp
    · refine SWP.runQ (SC ih [(61, [(32, false)])] []) 60 61 hnt [0, 2, 4, 6, 7, 8] (e := .exit 0) (z := T j) (o := [(decide ((j : Int) < (ks.len : Int)), false)]) (by kernel_rfl) (fun p hm => ?_) (fin (.inl (by omega)))
      rw [List.mem_singleton.1 hm]
      simp; omega
end Seat
end Go.Proofs.YteimebpgmfhgjaaDoor
/- Data and lists of data, told by their cells. -/
namespace Go.Proofs.YteimebpgmfhgjaaDoor
open Go.AS
set_option linter.unusedVariables false
set_option linter.unusedSimpArgs false
set_option maxRecDepth 100000
namespace Seat
def DropTo (sl : List Nat) (m : Nat) (s t : AS) : Prop := m ≤ s.h.bx.length ∧ ((s.h.bx.take m).all fun b => scL m b.cs) = true ∧ ((nrm sl s).t.all fun p => p.2.sc m) = true ∧ s.h.rw = [] ∧ (⟨(nrm sl s).t, ⟨s.h.bx.take m, []⟩⟩ : AS) = t
theorem dropTo {C : Ctx} {c : Code} {Q : AEx → AS → Prop} {s t : AS} {sl : List Nat} {m : Nat} (hm : C.nb ≤ m) (h : DropTo sl m s t) (hc : SWP G0 C c Q t) : SWP G0 C c Q s := by
  obtain ⟨h1, h2, h3, h4, rfl⟩ := h
  refine .norm sl (.drop m hm h1 h2 h3 h4 ?_)
  exact hc
theorem loopD {C : Ctx} {st : AS} {n : AS → Prop} {xs : List (Nat × (AS → Prop))} {r : AS → Prop} {p : PV → AS → Prop} {c : Code} {σ : Type} (sl : List Nat) (m : Nat) (hm : C.nb ≤ m) (T : σ → AS) (μ : σ → Nat) (x : σ) (h0 : DropTo sl m st (T x))
    (hr : ∀ x, SWP G0 C c (QT (fun s => ∃ y, μ y < μ x ∧ DropTo sl m s (T y)) xs r p) (T x)) : SWP G0 C (.loop c) (QT n xs r p) st :=
  Q.loop (fun x s => DropTo sl m s (T x)) μ x h0 fun x s hs K hK => dropTo hm hs ((hr x).mono fun e s' q => by
    cases e with
    | normal => obtain ⟨y, h1, h2⟩ := q; exact hK y s' h2 h1
    | exit i => exact q
    | ret => exact q
    | panic x => exact q)
theorem okO_cons {a b : Bool} {o : Ob} (h : a = b) (ho : okO o) : okO ((a, b) :: o) := fun p hp => by
  rcases List.mem_cons.1 hp with rfl | hp
  · exact h
  · exact ho p hp
theorem lt_at {j n : Nat} (h : j < n) : decide ((j : Int) < (n : Int)) = true := by simpa using h
theorem ge_at {j n : Nat} (h : n ≤ j) : decide ((j : Int) < (n : Int)) = false := by simpa using h
theorem in_at {j n : Nat} (h : j < n) : decide (0 ≤ (j : Int) ∧ (j : Int) < (n : Int)) = true := by simpa using h
theorem kid_len {ks : Dats} {j : Nat} (h : j < ks.len) : decide (4 ≤ (ks.cells.drop ((j : Int).toNat * 4)).length) = true := by
  simp only [Int.toNat_natCast, List.length_drop, Dats.cells_len, decide_eq_true_eq]; omega
theorem kid_same {ks : Dats} {j : Nat} (h : j < ks.len) : same (.agg ((ks.cells.drop ((j : Int).toNat * 4)).take 4)) (.agg (ks.get j).cells) = true := same_of (by rw [Int.toNat_natCast, Dats.get_cells ks j h])
theorem kid_same' {ks : Dats} {j : Nat} {k n : Int} {s : ByteArray} {ls : Dats} (h : j < ks.len) (e : ks.get j = .mk k n s ls) : same (.agg ((ks.cells.drop ((j : Int).toNat * 4)).take 4)) (.agg [.int .i64 k, .int .i64 n, .str s, .slice ls.len ls.cells]) = true := by
  have := kid_same h
  rw [e] at this
  exact this
open Classical in
noncomputable def isDats (N n : Nat) (cs : List PV) : Bool := decide (∃ ks : Dats, ks.cells = cs ∧ ks.len = n ∧ ks.size < N ∧ ks.len ≤ 9223372036854775807 ∧ ks.ok)
open Classical in
noncomputable def ofCellsL {α : Type} (f : Dats → α) (z : α) (cs : List PV) : α := if h : ∃ ks : Dats, ks.cells = cs then f h.choose else z
theorem ofCellsL_at {α : Type} (f : Dats → α) (z : α) (ks : Dats) : ofCellsL f z ks.cells = f ks := by
  have h : ∃ e : Dats, e.cells = ks.cells := ⟨ks, rfl⟩
  unfold ofCellsL
  rw [dif_pos h, Dats.inj _ _ h.choose_spec]
theorem isDats_at {N : Nat} {ks : Dats} (h : ks.size < N) (hl : ks.len ≤ 9223372036854775807) (ho : ks.ok) : isDats N ks.len ks.cells = true := by
  unfold isDats
  classical exact decide_eq_true ⟨ks, rfl, rfl, h, hl, ho⟩
theorem isDats_of {N n : Nat} {cs : List PV} (h : isDats N n cs = true) : ∃ ks : Dats, ks.cells = cs ∧ ks.len = n ∧ ks.size < N ∧ ks.len ≤ 9223372036854775807 ∧ ks.ok := by
  unfold isDats at h
  classical exact of_decide_eq_true h
noncomputable def ofCells2 {α : Type} (f : Dat → Dat → α) (z : α) (a b : List PV) : α := ofCells (fun d => ofCells (fun e => f d e) z b) z a
theorem ofCells2_at {α : Type} (f : Dat → Dat → α) (z : α) (d e : Dat) : ofCells2 f z d.cells e.cells = f d e := by unfold ofCells2; rw [ofCells_at, ofCells_at]
noncomputable def ofCellsL2 {α : Type} (f : Dats → Dats → α) (z : α) (a b : List PV) : α := ofCellsL (fun d => ofCellsL (fun e => f d e) z b) z a
theorem ofCellsL2_at {α : Type} (f : Dats → Dats → α) (z : α) (d e : Dats) : ofCellsL2 f z d.cells e.cells = f d e := by unfold ofCellsL2; rw [ofCellsL_at, ofCellsL_at]
open Classical in
noncomputable def isOk (cs : List PV) : Bool := decide (∃ d : Dat, d.cells = cs ∧ d.ok)
theorem isOk_at {d : Dat} (h : d.ok) : isOk d.cells = true := by
  unfold isOk
  classical exact decide_eq_true ⟨d, rfl, h⟩
theorem isOk_of {cs : List PV} (h : isOk cs = true) : ∃ d : Dat, d.cells = cs ∧ d.ok := by
  unfold isOk at h
  classical exact of_decide_eq_true h
open Classical in
noncomputable def isOkL (n : Nat) (cs : List PV) : Bool := decide (∃ ks : Dats, ks.cells = cs ∧ ks.len = n ∧ ks.len ≤ 9223372036854775807 ∧ ks.ok)
theorem isOkL_at {ks : Dats} (hl : ks.len ≤ 9223372036854775807) (h : ks.ok) : isOkL ks.len ks.cells = true := by
  unfold isOkL
  classical exact decide_eq_true ⟨ks, rfl, rfl, hl, h⟩
theorem isOkL_of {n : Nat} {cs : List PV} (h : isOkL n cs = true) : ∃ ks : Dats, ks.cells = cs ∧ ks.len = n ∧ ks.len ≤ 9223372036854775807 ∧ ks.ok := by
  unfold isOkL at h
  classical exact of_decide_eq_true h
end Seat
end Go.Proofs.YteimebpgmfhgjaaDoor
/- Which data are the same: what it says. -/
namespace Go.Proofs.YteimebpgmfhgjaaDoor
open Go.AS
set_option linter.unusedVariables false
set_option linter.unusedSimpArgs false
set_option maxRecDepth 100000
namespace Seat
mutual
def eqD : Dat → Dat → Bool
  | .mk k n s ks, .mk k' n' s' ks' => decide (k = k') && decide (n = n') && (s.toList == s'.toList) && eqL ks ks'
def eqL : Dats → Dats → Bool
  | .nil, .nil => true
  | .cons d ds, .cons e es => eqD d e && eqL ds es
  | .nil, .cons _ _ => false
  | .cons _ _, .nil => false
end
theorem eqL_iff : ∀ ks ls : Dats, eqL ks ls = true ↔ ks.len = ls.len ∧ ∀ j, j < ks.len → eqD (ks.get j) (ls.get j) = true
  | .nil, .nil => by simp [eqL, Dats.len]
  | .nil, .cons _ _ => by simp [eqL, Dats.len]
  | .cons _ _, .nil => by simp [eqL, Dats.len]
  | .cons d ds, .cons e es => by
    simp only [eqL, Bool.and_eq_true, eqL_iff ds es, Dats.len]
    constructor
    · rintro ⟨h1, h2, h3⟩
      refine ⟨by omega, fun j hj => ?_⟩
      cases j with
      | zero => exact h1
      | succ j => exact h3 j (by omega)
    · rintro ⟨h1, h2⟩
      exact ⟨h2 0 (by omega), by omega, fun j hj => h2 (j + 1) (by omega)⟩
theorem eqL_len {ks ls : Dats} (h : ks.len ≠ ls.len) : eqL ks ls = false := by
  cases hf : eqL ks ls with
  | false => rfl
  | true => exact absurd ((eqL_iff ks ls).1 hf).1 h
theorem eqL_not {ks ls : Dats} {j : Nat} (hj : j < ks.len) (h : eqD (ks.get j) (ls.get j) = false) : eqL ks ls = false := by
  cases hf : eqL ks ls with
  | false => rfl
  | true => rw [((eqL_iff ks ls).1 hf).2 j hj] at h; cases h
def EqAt (f : Nat) (N : Nat) : Prop := ∀ d e : Dat, d.size < N → d.ok → e.ok → Pure G0 f [.agg d.cells, .agg e.cells] (fun r => r = .bool (eqD d e))
def EqFAt (N : Nat) : Prop := ∀ ks ls : Dats, ks.size < N → ks.len ≤ 9223372036854775807 → ks.ok → ls.len ≤ 9223372036854775807 → ls.ok → Pure G0 48 [.slice ks.len ks.cells, .slice ls.len ls.cells, .func (.func 26) []] (fun r => r = .bool (eqL ks ls))
noncomputable def eqS (g N : Nat) (f : Nat) (args : List PV) : Option (PV × Ob) := match Nat.beq f g, args with
  | true, [.agg a, .agg b] => some (.bool (ofCells2 eqD false a b), [(isDat N a, true), (isOk b, true)])
  | _, _ => none
theorem eqS_ok {g N : Nat} (ih : EqAt g N) (f : Nat) (args : List PV) (r : PV) (o : Ob) (h : eqS g N f args = some (r, o)) (ho : ∀ p ∈ o, p.1 = p.2) (hpu : pureL args = true) : Pure G0 f args (fun x => x = r) := by
  clear hpu
  unfold eqS at h
  split at h
  · rename_i a b hf
    cases h
    obtain rfl := Nat.eq_of_beq_eq_true hf
    obtain ⟨d, rfl, h1, h2⟩ := isDat_of (ho _ (List.mem_cons_self ..))
    obtain ⟨e, rfl, h3⟩ := isOk_of (ho (isOk b, true) (List.mem_cons_of_mem _ (List.mem_cons_self ..)))
    rw [ofCells2_at]
    exact ih d e h1 h2 h3
  · cases h
noncomputable def eqFS (N : Nat) (f : Nat) (args : List PV) : Option (PV × Ob) := match f, args with
  | 48, [.slice n a, .slice m b, .func (.func 26) []] => some (.bool (ofCellsL2 eqL false a b), [(isDats N n a, true), (isOkL m b, true)])
  | _, _ => none
theorem eqFS_ok {N : Nat} (ih : EqFAt N) (f : Nat) (args : List PV) (r : PV) (o : Ob) (h : eqFS N f args = some (r, o)) (ho : ∀ p ∈ o, p.1 = p.2) (hpu : pureL args = true) : Pure G0 f args (fun x => x = r) := by
  clear hpu
  unfold eqFS at h
  split at h
  · rename_i n a m b
    cases h
    obtain ⟨ks, rfl, rfl, h1, h2, h3⟩ := isDats_of (ho _ (List.mem_cons_self ..))
    obtain ⟨ls, rfl, rfl, h4, h5⟩ := isOkL_of (ho (isOkL m b, true) (List.mem_cons_of_mem _ (List.mem_cons_self ..)))
    rw [ofCellsL2_at]
    exact ih ks ls h1 h2 h3 h4 h5
  · cases h
noncomputable def SQ {g N : Nat} (ih : EqAt g N) (l : List (Nat × List (Nat × Bool))) (v : List (Nat × List (Nat × PV))) : Cfg G0 := { F := F, hF := hF, S := eqS g N, hS := eqS_ok ih, orc := orcM l, val := valM v }
noncomputable def SQF {N : Nat} (ih : EqFAt N) (l : List (Nat × List (Nat × Bool))) : Cfg G0 := { F := F, hF := hF, S := eqFS N, hS := eqFS_ok ih, orc := orcM l }
end Seat
end Go.Proofs.YteimebpgmfhgjaaDoor
/- slices.EqualFunc of Equal; datum.Equal; pagodaref01.Same. -/
namespace Go.Proofs.YteimebpgmfhgjaaDoor
open Go.AS
set_option linter.unusedVariables false
set_option linter.unusedSimpArgs false
set_option maxRecDepth 100000
namespace Seat
theorem eqFAt {N : Nat} (ih : EqAt 26 N) : EqFAt (N + 1) := fun ks ls hN hlen hok llen lok => by
  refine Fn.enterB Tryd.func48 Tryd.ntmps48 rfl (Nat.le_of_ble_eq_true rfl) fun C fr fp hnt hnb hp hfr hfp => ?_
  let T0 : List (Nat × PV) := [(0, .slice ks.len ks.cells), (1, .slice ls.len ls.cells), (2, .func (.func 26) [])]
  refine Q.runSeq S0 50 32 hnt [0, 1, 2] (z := ⟨T0, ⟨[], []⟩⟩) (o := []) (by kernel_rfl) okO_nil ?_
  refine Q.seq fun K hK => ?_
  have len_ne : ∀ b, (ks.len == ls.len) = b → okO [(!((ks.len : Int) == (ls.len : Int)), !b), (!b, !b)] := fun b h => by
    have e : ((ks.len : Int) == (ls.len : Int)) = (ks.len == ls.len) := Bool.eq_iff_iff.2 (by simp only [beq_iff_eq]; omega)
    refine okO_cons (by rw [e, h]) (okO_cons rfl okO_nil)
  by_cases hl : ks.len = ls.len
  rotate_left
  · refine SWP.runQ (SQ ih [(32, [(14, true)])] []) 60 32 hnt [6] (e := .ret) (z := ⟨[(6, .bool false)], ⟨[], []⟩⟩) (by kernel_rfl) (len_ne false (by simpa using hl)) (fun st hs => hfr st [6] ?_)
    rw [hs]
    exact FinR.pure (r := .bool false) (by kernel_rfl) rfl (by rw [eqL_len hl])
  refine SWP.runQ (SQ ih [(32, [(14, false)])] []) 60 32 hnt [0, 1, 2] (e := .normal) (z := ⟨T0, ⟨[], []⟩⟩) (by kernel_rfl) (len_ne true (by simpa using hl)) (fun st hs => hK st (.norm [0, 1, 2] ?_))
  rw [hs]
  refine Q.seq fun K3 hK3 => ?_
  let T (j : Int) : List (Nat × PV) := T0 ++ [(15, .slice ks.len ks.cells), (16, .int .i64 ks.len), (17, .int .i64 j)]
  refine Q.runSeq S0 50 32 hnt [0, 1, 2, 15, 16, 17] (z := ⟨T 0, ⟨[], []⟩⟩) (o := []) (by kernel_rfl) okO_nil ?_
  refine Q.block ?_
  refine loopD (σ := { j : Nat // j ≤ ks.len ∧ ∀ i, i < j → eqD (ks.get i) (ls.get i) = true }) [0, 1, 2, 15, 16, 17] 0 (by rw [hnb]; exact Nat.le_refl _) (fun j => ⟨T j.1, ⟨[], []⟩⟩) (fun j => ks.len - j.1) ⟨0, Nat.zero_le _, fun i h => absurd h (Nat.not_lt_zero _)⟩ ⟨Nat.zero_le _, rfl, rfl, rfl, rfl⟩ fun ⟨j, hj, hall⟩ => ?_
  rcases Nat.lt_or_ge j ks.len with hlt | hge
  · have hlt2 : j < ls.len := by omega
    obtain ⟨k', n', s', ks', hget⟩ := Dats.get_mk ks j
    obtain ⟨k2, n2, s2, ls', hget2⟩ := Dats.get_mk ls j
    have hsz := Dats.get_size ks j hlt
    have hokj := Dats.get_ok ks j hlt hok
    have lokj := Dats.get_ok ls j hlt2 lok
    rw [hget] at hsz hokj
    rw [hget2] at lokj
    have d1 : isDat N [.int .i64 k', .int .i64 n', .str s', .slice ks'.len ks'.cells] = true := isDat_at (d := .mk k' n' s' ks') (by omega) hokj
    have d2 : isOk [.int .i64 k2, .int .i64 n2, .str s2, .slice ls'.len ls'.cells] = true := isOk_at (d := .mk k2 n2 s2 ls') lokj
    have d3 : ofCells2 eqD false [.int .i64 k', .int .i64 n', .str s', .slice ks'.len ks'.cells] [.int .i64 k2, .int .i64 n2, .str s2, .slice ls'.len ls'.cells] = eqD (ks.get j) (ls.get j) := by
      rw [hget, hget2]; exact ofCells2_at eqD false (.mk k' n' s' ks') (.mk k2 n2 s2 ls')
    cases hf : eqD (ks.get j) (ls.get j) with
    | true =>
      refine SWP.runQ (SQ ih [(32, [(18, true), (20, true), (21, true), (24, true), (25, true), (29, true)])] [(32, [(21, .agg [.int .i64 k', .int .i64 n', .str s', .slice ks'.len ks'.cells]), (25, .agg [.int .i64 k2, .int .i64 n2, .str s2, .slice ls'.len ls'.cells])])]) 100 32 hnt [0, 1, 2, 15, 16, 17] (e := .normal) (z := ⟨[(0, .slice (Dats.len ks) (Dats.cells ks)), (1, .slice (Dats.len ls) (Dats.cells ls)), (2, PV.func (Fn.func 26) []), (15, .slice (Dats.len ks) (Dats.cells ks)), (16, .int .i64 (Int.ofNat (Dats.len ks))), (17, .int .i64 (IntKind.wrap IntKind.i64 (Int.ofNat (j + 1))))], ⟨[⟨[.int .i64 k', .int .i64 n', .str s', .slice (Dats.len ks') (Dats.cells ks')], 24⟩, ⟨[.int .i64 k2, .int .i64 n2, .str s2, .slice (Dats.len ls') (Dats.cells ls')], 24⟩], []⟩⟩) (o := [(decide ((↑j : Int) < (↑(Dats.len ks) : Int)), true), (true, true), (decide (0 ≤ (↑j : Int) ∧ (↑j : Int) < (↑(Dats.len ks) : Int)), true), (decide (TD.size d24 ≤ List.length (List.drop (Int.toNat (↑j : Int) * TD.size d24) (Dats.cells ks))), true), (same (PV.agg (List.take (TD.size d24) (List.drop (Int.toNat (↑j : Int) * TD.size d24) (Dats.cells ks)))) (PV.agg [PV.int IntKind.i64 k', PV.int IntKind.i64 n', PV.str s', PV.slice (Dats.len ks') (Dats.cells ks')]), true), (decide (0 ≤ (↑j : Int) ∧ (↑j : Int) < (↑(Dats.len ls) : Int)), true), (decide (TD.size d24 ≤ List.length (List.drop (Int.toNat (↑j : Int) * TD.size d24) (Dats.cells ls))), true), (same (PV.agg (List.take (TD.size d24) (List.drop (Int.toNat (↑j : Int) * TD.size d24) (Dats.cells ls)))) (PV.agg [PV.int IntKind.i64 k2, PV.int IntKind.i64 n2, PV.str s2, PV.slice (Dats.len ls') (Dats.cells ls')]), true), (true, true), (isDat N [PV.int IntKind.i64 k', PV.int IntKind.i64 n', PV.str s', PV.slice (Dats.len ks') (Dats.cells ks')], true), (isOk [PV.int IntKind.i64 k2, PV.int IntKind.i64 n2, PV.str s2, PV.slice (Dats.len ls') (Dats.cells ls')], true), (ofCells2 eqD false [PV.int IntKind.i64 k', PV.int IntKind.i64 n', PV.str s', PV.slice (Dats.len ks') (Dats.cells ks')] [PV.int IntKind.i64 k2, PV.int IntKind.i64 n2, PV.str s2, PV.slice (Dats.len ls') (Dats.cells ls')], true)]) (by kernel_rfl)
        (okO_cons (lt_at hlt) (okO_cons (rfl) (okO_cons (in_at hlt) (okO_cons (kid_len hlt) (okO_cons (kid_same' hlt hget) (okO_cons (in_at hlt2) (okO_cons (kid_len hlt2) (okO_cons (kid_same' hlt2 hget2) (okO_cons (rfl) (okO_cons (d1) (okO_cons (d2) (okO_cons (d3.trans hf) okO_nil)))))))))))) (fun st hs => ⟨⟨j + 1, hlt, fun i hi => ?_⟩, Nat.sub_lt_sub_left hlt (Nat.lt_succ_self j), ?_⟩)
      · rcases Nat.lt_succ_iff_lt_or_eq.1 hi with h | h
        · exact hall i h
        · rw [h]; exact hf
      · have e2 := congrArg AS.h hs
        change st.h = _ at e2
        refine ⟨Nat.zero_le _, rfl, ?_, ?_, ?_⟩
        · rw [hs]; rfl
        · rw [e2]
        · rw [hs]
          have := wrap1 j (by omega)
          push_cast at this
          simp only [List.take, T, T0, List.cons_append, List.nil_append]
          rw [show ((j + 1 : Nat) : Int) = (j : Int) + 1 from rfl, ← this]
          rfl
    | false =>
      refine SWP.runQ (SQ ih [(32, [(18, true), (20, true), (21, true), (24, true), (25, true), (29, false)])] [(32, [(21, .agg [.int .i64 k', .int .i64 n', .str s', .slice ks'.len ks'.cells]), (25, .agg [.int .i64 k2, .int .i64 n2, .str s2, .slice ls'.len ls'.cells])])]) 100 32 hnt [6] (e := .ret) (z := ⟨[(6, .bool false)], ⟨[⟨[.int .i64 k', .int .i64 n', .str s', .slice (Dats.len ks') (Dats.cells ks')], 24⟩, ⟨[.int .i64 k2, .int .i64 n2, .str s2, .slice (Dats.len ls') (Dats.cells ls')], 24⟩], []⟩⟩) (o := [(decide ((↑j : Int) < (↑(Dats.len ks) : Int)), true), (true, true), (decide (0 ≤ (↑j : Int) ∧ (↑j : Int) < (↑(Dats.len ks) : Int)), true), (decide (TD.size d24 ≤ List.length (List.drop (Int.toNat (↑j : Int) * TD.size d24) (Dats.cells ks))), true), (same (PV.agg (List.take (TD.size d24) (List.drop (Int.toNat (↑j : Int) * TD.size d24) (Dats.cells ks)))) (PV.agg [PV.int IntKind.i64 k', PV.int IntKind.i64 n', PV.str s', PV.slice (Dats.len ks') (Dats.cells ks')]), true), (decide (0 ≤ (↑j : Int) ∧ (↑j : Int) < (↑(Dats.len ls) : Int)), true), (decide (TD.size d24 ≤ List.length (List.drop (Int.toNat (↑j : Int) * TD.size d24) (Dats.cells ls))), true), (same (PV.agg (List.take (TD.size d24) (List.drop (Int.toNat (↑j : Int) * TD.size d24) (Dats.cells ls)))) (PV.agg [PV.int IntKind.i64 k2, PV.int IntKind.i64 n2, PV.str s2, PV.slice (Dats.len ls') (Dats.cells ls')]), true), (true, true), (isDat N [PV.int IntKind.i64 k', PV.int IntKind.i64 n', PV.str s', PV.slice (Dats.len ks') (Dats.cells ks')], true), (isOk [PV.int IntKind.i64 k2, PV.int IntKind.i64 n2, PV.str s2, PV.slice (Dats.len ls') (Dats.cells ls')], true), (ofCells2 eqD false [PV.int IntKind.i64 k', PV.int IntKind.i64 n', PV.str s', PV.slice (Dats.len ks') (Dats.cells ks')] [PV.int IntKind.i64 k2, PV.int IntKind.i64 n2, PV.str s2, PV.slice (Dats.len ls') (Dats.cells ls')], false)]) (by kernel_rfl)
        (okO_cons (lt_at hlt) (okO_cons (rfl) (okO_cons (in_at hlt) (okO_cons (kid_len hlt) (okO_cons (kid_same' hlt hget) (okO_cons (in_at hlt2) (okO_cons (kid_len hlt2) (okO_cons (kid_same' hlt2 hget2) (okO_cons (rfl) (okO_cons (d1) (okO_cons (d2) (okO_cons (d3.trans hf) okO_nil)))))))))))) (fun st hs => hfr st [6] ?_)
      rw [hs]
      exact ⟨0, .bool false, Nat.le_refl _, Nat.zero_le _, rfl, rfl, rfl, rfl, _, rfl, by rw [eqL_not hlt hf]⟩
  · refine SWP.runQ (SQ ih [(32, [(18, false)])] []) 60 32 hnt [0] (e := .exit 0) (z := ⟨[(0, .slice ks.len ks.cells)], ⟨[], []⟩⟩) (o := [(decide ((j : Int) < (ks.len : Int)), false), (false, false)]) (by kernel_rfl) (okO_cons (ge_at hge) (okO_cons (rfl) okO_nil)) (fun st hs => hK3 st (.norm [0] ?_))
    rw [hs]
    refine SWP.runQ S0 50 32 hnt [6] (e := .ret) (z := ⟨[(6, .bool true)], ⟨[], []⟩⟩) (o := []) (by kernel_rfl) okO_nil (fun st hs => hfr st [6] ?_)
    rw [hs]
    exact FinR.pure (r := .bool true) (by kernel_rfl) rfl (by rw [(eqL_iff ks ls).2 ⟨hl, fun i hi => hall i (by omega)⟩])
end Seat
end Go.Proofs.YteimebpgmfhgjaaDoor
/- datum.Equal; pagodaref01.Same: the laws. -/
namespace Go.Proofs.YteimebpgmfhgjaaDoor
open Go.AS
set_option linter.unusedVariables false
set_option linter.unusedSimpArgs false
set_option maxRecDepth 100000
namespace Seat
theorem equalAt (N : Nat) : EqAt 26 N := by
  induction N with
  | zero => intro d e h; omega
  | succ N ih =>
    intro d e hN hok lok
    have hI := eqFAt ih
    obtain ⟨k, n, s, ks⟩ := d
    obtain ⟨k2, n2, s2, ls⟩ := e
    have hks : ks.size < N + 1 := by simp only [Dat.size] at hN; omega
    have run : ∀ (l : List (Nat × Bool)) (r : Bool) (o : Ob), call (SQF hI [(31, l)]) 100 26 [.agg [.int .i64 k, .int .i64 n, .str s, .slice ks.len ks.cells], .agg [.int .i64 k2, .int .i64 n2, .str s2, .slice ls.len ls.cells]] = some (.bool r, o) → okO o → r = eqD (.mk k n s ks) (.mk k2 n2 s2 ls) → Pure G0 26 [.agg (Dat.mk k n s ks).cells, .agg (Dat.mk k2 n2 s2 ls).cells] (fun r => r = .bool (eqD (.mk k n s ks) (.mk k2 n2 s2 ls))) := fun l r o h ho hr => by
      rw [← hr]
      exact Pure.runO 100 h ho
    have d1 := isDats_at (N := N + 1) hks hok.1 hok.2
    have d2 := isOkL_at lok.1 lok.2
    by_cases h1 : k = k2
    · by_cases h2 : n = n2
      · cases h3 : (s.toList == s2.toList) with
        | true => exact run [(9, true), (15, true), (22, true)] (ofCellsL2 eqL false ks.cells ls.cells) [(k == k2, true), (n == n2, true), (s.toList == s2.toList, true), (true, true), (isDats (N + 1) ks.len ks.cells, true), (isOkL ls.len ls.cells, true)] (by kernel_rfl) (okO_cons (by simp [h1]) (okO_cons (by simp [h2]) (okO_cons (h3) (okO_cons (rfl) (okO_cons (d1) (okO_cons (d2) okO_nil)))))) (by rw [ofCellsL2_at]; simp [eqD, h1, h2, h3])
        | false => exact run [(9, true), (15, true), (22, false)] false [(k == k2, true), (n == n2, true), (s.toList == s2.toList, false)] (by kernel_rfl) (okO_cons (by simp [h1]) (okO_cons (by simp [h2]) (okO_cons (h3) okO_nil))) (by simp [eqD, h3])
      · exact run [(9, true), (15, false)] false [(k == k2, true), (n == n2, false)] (by kernel_rfl) (okO_cons (by simp [h1]) (okO_cons (by simp [h2]) okO_nil)) (by simp [eqD, h2])
    · exact run [(9, false)] false [(k == k2, false)] (by kernel_rfl) (okO_cons (by simp [h1]) okO_nil) (by simp [eqD, h1])
theorem equal_ok (d e : Dat) (hd : d.ok) (he : e.ok) : Pure G0 26 [.agg d.cells, .agg e.cells] (fun r => r = .bool (eqD d e)) := equalAt (d.size + 1) d e (Nat.lt_succ_self _) hd he
theorem sameAt (N : Nat) : EqAt 14 N := by
  induction N with
  | zero => intro d e h; omega
  | succ N ih =>
    intro d e hN hok lok
    obtain ⟨k, n, s, ks⟩ := d
    obtain ⟨k2, n2, s2, ls⟩ := e
    have hks : ks.size < N + 1 := by simp only [Dat.size] at hN; omega
    let H : Hp := ⟨[⟨[.int .i64 k, .int .i64 n, .str s, .slice ks.len ks.cells], 24⟩, ⟨[.int .i64 k2, .int .i64 n2, .str s2, .slice ls.len ls.cells], 24⟩], []⟩
    refine Fn.enterN Tryd.func14 Tryd.ntmps14 rfl (Nat.le_of_ble_eq_true rfl) fun C fr fp hnt hp hfr hfp => ?_
    refine Q.runSeq S0 50 53 hnt [2, 3] (z := ⟨[(2, .ptr 0 0), (3, .ptr 1 0)], H⟩) (o := []) (by kernel_rfl) okO_nil ?_
    refine Q.seq fun K hK => ?_
    have no : ∀ (st : AS), nrm [4] st = ⟨[(4, .bool false)], H⟩ → eqD (.mk k n s ks) (.mk k2 n2 s2 ls) = false → fr st := fun st hs h => hfr st [4] (by
      rw [hs]
      exact ⟨0, .bool false, Nat.le_refl _, Nat.zero_le _, rfl, rfl, rfl, rfl, _, rfl, by rw [h]⟩)
    by_cases h1 : k = k2
    rotate_left
    · exact SWP.runQ (SQ ih [(53, [(10, true)])] []) 100 53 hnt [4] (e := .ret) (z := ⟨[(4, .bool false)], H⟩) (o := [(k != k2, true)]) (by kernel_rfl) (okO_cons (by simp [h1]) okO_nil) (fun st hs => no st hs (by simp [eqD, h1]))
    by_cases h2 : n = n2
    rotate_left
    · exact SWP.runQ (SQ ih [(53, [(10, false), (16, true)])] []) 100 53 hnt [4] (e := .ret) (z := ⟨[(4, .bool false)], H⟩) (o := [(k != k2, false), (n != n2, true)]) (by kernel_rfl) (okO_cons (by simp [h1]) (okO_cons (by simp [h2]) okO_nil)) (fun st hs => no st hs (by simp [eqD, h2]))
    cases h3 : (s.toList == s2.toList) with
    | false => exact SWP.runQ (SQ ih [(53, [(10, false), (16, false), (23, true)])] []) 100 53 hnt [4] (e := .ret) (z := ⟨[(4, .bool false)], H⟩) (o := [(k != k2, false), (n != n2, false), (!(s.toList == s2.toList), true)]) (by kernel_rfl) (okO_cons (by simp [h1]) (okO_cons (by simp [h2]) (okO_cons (by rw [h3]; rfl) okO_nil))) (fun st hs => no st hs (by simp [eqD, h3]))
    | true =>
      by_cases h4 : ks.len = ls.len
      rotate_left
      · exact SWP.runQ (SQ ih [(53, [(10, false), (16, false), (23, false), (32, true)])] []) 100 53 hnt [4] (e := .ret) (z := ⟨[(4, .bool false)], H⟩) (o := [(k != k2, false), (n != n2, false), (!(s.toList == s2.toList), false), ((ks.len : Int) != (ls.len : Int), true)]) (by kernel_rfl) (okO_cons (by simp [h1]) (okO_cons (by simp [h2]) (okO_cons (by rw [h3]; rfl) (okO_cons (by simp; omega) okO_nil)))) (fun st hs => no st hs (by simp [eqD, eqL_len h4]))
      refine SWP.runQ (SQ ih [(53, [(10, false), (16, false), (23, false), (32, false)])] []) 100 53 hnt [2, 3] (e := .normal) (z := ⟨[(2, .ptr 0 0), (3, .ptr 1 0)], H⟩) (o := [(k != k2, false), (n != n2, false), (!(s.toList == s2.toList), false), ((ks.len : Int) != (ls.len : Int), false)]) (by kernel_rfl) (okO_cons (by simp [h1]) (okO_cons (by simp [h2]) (okO_cons (by rw [h3]; rfl) (okO_cons (by simp; omega) okO_nil)))) (fun st hs => hK st (.norm [2, 3] ?_))
      rw [hs]
      have heq : eqD (.mk k n s ks) (.mk k2 n2 s2 ls) = eqL ks ls := by simp [eqD, h1, h2, h3]
      refine Q.seq fun K3 hK3 => ?_
      refine Q.runSeq S0 50 53 hnt [2, 3, 5] (z := ⟨[(2, .ptr 0 0), (3, .ptr 1 0), (5, .int .i64 0)], H⟩) (o := []) (by kernel_rfl) okO_nil ?_
      refine Q.block ?_
      refine Q.loopI (σ := { j : Nat // j ≤ ks.len ∧ ∀ i, i < j → eqD (ks.get i) (ls.get i) = true }) [2, 3, 5] (fun j => ⟨[(2, .ptr 0 0), (3, .ptr 1 0), (5, .int .i64 j.1)], H⟩) (fun j => ks.len - j.1) ⟨0, Nat.zero_le _, fun i h => absurd h (Nat.not_lt_zero _)⟩ rfl fun ⟨j, hj, hall⟩ => ?_
      rcases Nat.lt_or_ge j ks.len with hlt | hge
      · have hlt2 : j < ls.len := by omega
        obtain ⟨k', n', s', ks', hget⟩ := Dats.get_mk ks j
        obtain ⟨k3, n3, s3, ls', hget2⟩ := Dats.get_mk ls j
        have hsz := Dats.get_size ks j hlt
        have hokj := Dats.get_ok ks j hlt hok.2
        have lokj := Dats.get_ok ls j hlt2 lok.2
        have hlen := hok.1
        rw [hget] at hsz hokj
        rw [hget2] at lokj
        have d1 : isDat N [.int .i64 k', .int .i64 n', .str s', .slice ks'.len ks'.cells] = true := isDat_at (d := .mk k' n' s' ks') (by omega) hokj
        have d2 : isOk [.int .i64 k3, .int .i64 n3, .str s3, .slice ls'.len ls'.cells] = true := isOk_at (d := .mk k3 n3 s3 ls') lokj
        have d3 : ofCells2 eqD false [.int .i64 k', .int .i64 n', .str s', .slice ks'.len ks'.cells] [.int .i64 k3, .int .i64 n3, .str s3, .slice ls'.len ls'.cells] = eqD (ks.get j) (ls.get j) := by
          rw [hget, hget2]; exact ofCells2_at eqD false (.mk k' n' s' ks') (.mk k3 n3 s3 ls')
        cases hf : eqD (ks.get j) (ls.get j) with
        | true =>
          refine SWP.runQ (SQ ih [(53, [(38, true), (44, true), (45, true), (49, true), (50, true), (51, true)])] [(53, [(45, .agg [.int .i64 k', .int .i64 n', .str s', .slice ks'.len ks'.cells]), (50, .agg [.int .i64 k3, .int .i64 n3, .str s3, .slice ls'.len ls'.cells])])]) 100 53 hnt [2, 3, 5] (e := .normal) (z := ⟨[(2, .ptr 0 0), (3, .ptr 1 0), (5, .int .i64 (IntKind.wrap IntKind.i64 (Int.ofNat (j + 1))))], ⟨[⟨[.int .i64 k, .int .i64 n, .str s, .slice (Dats.len ks) (Dats.cells ks)], 24⟩, ⟨[.int .i64 k2, .int .i64 n2, .str s2, .slice (Dats.len ls) (Dats.cells ls)], 24⟩], []⟩⟩) (o := [(decide ((↑j : Int) < (↑(Dats.len ks) : Int)), true), (true, true), (decide (0 ≤ (↑j : Int) ∧ (↑j : Int) < (↑(Dats.len ks) : Int)), true), (decide (TD.size d24 ≤ List.length (List.drop (Int.toNat (↑j : Int) * TD.size d24) (Dats.cells ks))), true), (same (PV.agg (List.take (TD.size d24) (List.drop (Int.toNat (↑j : Int) * TD.size d24) (Dats.cells ks)))) (PV.agg [PV.int IntKind.i64 k', PV.int IntKind.i64 n', PV.str s', PV.slice (Dats.len ks') (Dats.cells ks')]), true), (decide (0 ≤ (↑j : Int) ∧ (↑j : Int) < (↑(Dats.len ls) : Int)), true), (decide (TD.size d24 ≤ List.length (List.drop (Int.toNat (↑j : Int) * TD.size d24) (Dats.cells ls))), true), (same (PV.agg (List.take (TD.size d24) (List.drop (Int.toNat (↑j : Int) * TD.size d24) (Dats.cells ls)))) (PV.agg [PV.int IntKind.i64 k3, PV.int IntKind.i64 n3, PV.str s3, PV.slice (Dats.len ls') (Dats.cells ls')]), true), (true, true), (isDat N [PV.int IntKind.i64 k', PV.int IntKind.i64 n', PV.str s', PV.slice (Dats.len ks') (Dats.cells ks')], true), (isOk [PV.int IntKind.i64 k3, PV.int IntKind.i64 n3, PV.str s3, PV.slice (Dats.len ls') (Dats.cells ls')], true), (ofCells2 eqD false [PV.int IntKind.i64 k', PV.int IntKind.i64 n', PV.str s', PV.slice (Dats.len ks') (Dats.cells ks')] [PV.int IntKind.i64 k3, PV.int IntKind.i64 n3, PV.str s3, PV.slice (Dats.len ls') (Dats.cells ls')], true)]) (by kernel_rfl)
            (okO_cons (lt_at hlt) (okO_cons (rfl) (okO_cons (in_at hlt) (okO_cons (kid_len hlt) (okO_cons (kid_same' hlt hget) (okO_cons (in_at hlt2) (okO_cons (kid_len hlt2) (okO_cons (kid_same' hlt2 hget2) (okO_cons (rfl) (okO_cons (d1) (okO_cons (d2) (okO_cons (d3.trans hf) okO_nil)))))))))))) (fun st hs => ⟨⟨j + 1, hlt, fun i hi => ?_⟩, Nat.sub_lt_sub_left hlt (Nat.lt_succ_self j), ?_⟩)
          · rcases Nat.lt_succ_iff_lt_or_eq.1 hi with h | h
            · exact hall i h
            · rw [h]; exact hf
          · rw [hs]
            have := wrap1 j (by omega)
            push_cast at this
            simp only []
            rw [show ((j + 1 : Nat) : Int) = (j : Int) + 1 from rfl, ← this]
            rfl
        | false =>
          exact SWP.runQ (SQ ih [(53, [(38, true), (44, true), (45, true), (49, true), (50, true), (51, false)])] [(53, [(45, .agg [.int .i64 k', .int .i64 n', .str s', .slice ks'.len ks'.cells]), (50, .agg [.int .i64 k3, .int .i64 n3, .str s3, .slice ls'.len ls'.cells])])]) 100 53 hnt [4] (e := .ret) (z := ⟨[(4, .bool false)], ⟨[⟨[.int .i64 k, .int .i64 n, .str s, .slice (Dats.len ks) (Dats.cells ks)], 24⟩, ⟨[.int .i64 k2, .int .i64 n2, .str s2, .slice (Dats.len ls) (Dats.cells ls)], 24⟩], []⟩⟩) (o := [(decide ((↑j : Int) < (↑(Dats.len ks) : Int)), true), (true, true), (decide (0 ≤ (↑j : Int) ∧ (↑j : Int) < (↑(Dats.len ks) : Int)), true), (decide (TD.size d24 ≤ List.length (List.drop (Int.toNat (↑j : Int) * TD.size d24) (Dats.cells ks))), true), (same (PV.agg (List.take (TD.size d24) (List.drop (Int.toNat (↑j : Int) * TD.size d24) (Dats.cells ks)))) (PV.agg [PV.int IntKind.i64 k', PV.int IntKind.i64 n', PV.str s', PV.slice (Dats.len ks') (Dats.cells ks')]), true), (decide (0 ≤ (↑j : Int) ∧ (↑j : Int) < (↑(Dats.len ls) : Int)), true), (decide (TD.size d24 ≤ List.length (List.drop (Int.toNat (↑j : Int) * TD.size d24) (Dats.cells ls))), true), (same (PV.agg (List.take (TD.size d24) (List.drop (Int.toNat (↑j : Int) * TD.size d24) (Dats.cells ls)))) (PV.agg [PV.int IntKind.i64 k3, PV.int IntKind.i64 n3, PV.str s3, PV.slice (Dats.len ls') (Dats.cells ls')]), true), (true, true), (isDat N [PV.int IntKind.i64 k', PV.int IntKind.i64 n', PV.str s', PV.slice (Dats.len ks') (Dats.cells ks')], true), (isOk [PV.int IntKind.i64 k3, PV.int IntKind.i64 n3, PV.str s3, PV.slice (Dats.len ls') (Dats.cells ls')], true), (ofCells2 eqD false [PV.int IntKind.i64 k', PV.int IntKind.i64 n', PV.str s', PV.slice (Dats.len ks') (Dats.cells ks')] [PV.int IntKind.i64 k3, PV.int IntKind.i64 n3, PV.str s3, PV.slice (Dats.len ls') (Dats.cells ls')], false)]) (by kernel_rfl)
            (okO_cons (lt_at hlt) (okO_cons (rfl) (okO_cons (in_at hlt) (okO_cons (kid_len hlt) (okO_cons (kid_same' hlt hget) (okO_cons (in_at hlt2) (okO_cons (kid_len hlt2) (okO_cons (kid_same' hlt2 hget2) (okO_cons (rfl) (okO_cons (d1) (okO_cons (d2) (okO_cons (d3.trans hf) okO_nil)))))))))))) (fun st hs => no st hs (by rw [heq, eqL_not hlt hf]))
      · refine SWP.runQ (SQ ih [(53, [(38, false)])] []) 60 53 hnt [2] (e := .exit 0) (z := ⟨[(2, .ptr 0 0)], H⟩) (o := [(decide ((j : Int) < (ks.len : Int)), false), (false, false)]) (by kernel_rfl) (okO_cons (ge_at hge) (okO_cons (rfl) okO_nil)) (fun st hs => hK3 st (.norm [2] ?_))
        rw [hs]
        refine SWP.runQ S0 50 53 hnt [4] (e := .ret) (z := ⟨[(4, .bool true)], H⟩) (o := []) (by kernel_rfl) okO_nil (fun st hs => hfr st [4] ?_)
        rw [hs]
        exact ⟨0, .bool true, Nat.le_refl _, Nat.zero_le _, rfl, rfl, rfl, rfl, _, rfl, by rw [heq, (eqL_iff ks ls).2 ⟨h4, fun i hi => hall i (by omega)⟩]⟩
theorem same_ok (d e : Dat) (hd : d.ok) (he : e.ok) : Pure G0 14 [.agg d.cells, .agg e.cells] (fun r => r = .bool (eqD d e)) := sameAt (d.size + 1) d e (Nat.lt_succ_self _) hd he
end Seat
end Go.Proofs.YteimebpgmfhgjaaDoor
namespace Go.Proofs.YteimebpgmfhgjaaDoor
open Go.AS
set_option linter.unusedVariables false
set_option linter.unusedSimpArgs false
set_option maxRecDepth 100000
namespace Seat
mutual
def smallD : Dat → Prop
  | .mk _ _ _ ks => ks.len ≤ 2000000 ∧ smallL ks
def smallL : Dats → Prop
  | .nil => True
  | .cons d ds => smallD d ∧ smallL ds
end
mutual
theorem smallD_of : ∀ d : Dat, parts d ≤ 2000000 → smallD d
  | .mk k n s ks, h => by
    simp only [parts] at h
    have := smallL_of ks (by omega)
    exact ⟨by omega, this.2⟩
theorem smallL_of : ∀ ks : Dats, partsL ks ≤ 2000000 → ks.len ≤ partsL ks ∧ smallL ks
  | .nil, h => ⟨Nat.le_refl _, trivial⟩
  | .cons d ds, h => by
    simp only [partsL] at h
    have h1 := smallD_of d (by omega)
    have h2 := smallL_of ds (by omega)
    have h3 : 1 ≤ parts d := by cases d; simp only [parts]; omega
    exact ⟨by simp only [Dats.len, partsL]; omega, h1, h2.2⟩
end
mutual
theorem smallD_ok : ∀ d : Dat, smallD d → d.ok
  | .mk k n s ks, h => ⟨by have := h.1; omega, smallL_ok ks h.2⟩
theorem smallL_ok : ∀ ks : Dats, smallL ks → ks.ok
  | .nil, _ => trivial
  | .cons d ds, h => ⟨smallD_ok d h.1, smallL_ok ds h.2⟩
end
theorem smallL_get : ∀ (ks : Dats) (j : Nat), j < ks.len → smallL ks → smallD (ks.get j)
  | .nil, j, h, _ => by simp [Dats.len] at h
  | .cons d ds, 0, h, ho => ho.1
  | .cons d ds, j + 1, h, ho => smallL_get ds j (by simp only [Dats.len] at h; omega) ho.2
open Classical in
noncomputable def isSmall (N : Nat) (cs : List PV) : Bool := decide (∃ d : Dat, d.cells = cs ∧ d.size < N ∧ smallD d)
theorem isSmall_at {N : Nat} {d : Dat} (h : d.size < N) (ho : smallD d) : isSmall N d.cells = true := by
  unfold isSmall
  classical exact decide_eq_true ⟨d, rfl, h, ho⟩
theorem isSmall_of {N : Nat} {cs : List PV} (h : isSmall N cs = true) : ∃ d : Dat, d.cells = cs ∧ d.size < N ∧ smallD d := by
  unfold isSmall at h
  classical exact of_decide_eq_true h
open Classical in
noncomputable def isSmallL (n : Nat) (cs : List PV) : Bool := decide (∃ ks : Dats, ks.cells = cs ∧ ks.len = n ∧ ks.len ≤ 2000000)
theorem isSmallL_at {ks : Dats} (h : ks.len ≤ 2000000) : isSmallL ks.len ks.cells = true := by
  unfold isSmallL
  classical exact decide_eq_true ⟨ks, rfl, rfl, h⟩
theorem isSmallL_of {n : Nat} {cs : List PV} (h : isSmallL n cs = true) : ∃ ks : Dats, ks.cells = cs ∧ ks.len = n ∧ ks.len ≤ 2000000 := by
  unfold isSmallL at h
  classical exact of_decide_eq_true h
theorem set_same {α : Type} {l : List α} {i : Nat} {a : α} (h : l[i]? = some a) : l.set i a = l := by
  apply List.ext_getElem?
  intro j
  by_cases hj : i = j
  · subst hj; rw [List.getElem?_set_self (List.getElem?_eq_some_iff.1 h).1, h]
  · rw [List.getElem?_set_ne hj]
theorem splice_same {α : Type} (l : List α) : ∀ (vs : List α) (o : Nat), (∀ (i : Nat) (v : α), vs[i]? = some v → l[o + i]? = some v) → splice l o vs = l
  | [], o, h => rfl
  | v :: vs, o, h => by
    have h0 := h 0 v rfl
    show splice (l.set o v) (o + 1) vs = l
    rw [set_same (by simpa using h0)]
    exact splice_same l vs (o + 1) fun i u hu => by
      have := h (i + 1) u (by simpa using hu)
      rw [show o + 1 + i = o + (i + 1) from by omega]
      exact this
theorem splice_kid (ks : Dats) (j : Nat) (h : j < ks.len) : splice ks.cells (j * 4) (ks.get j).cells = ks.cells := splice_same _ _ _ fun i v hv => by
  rw [← Dats.get_cells ks j h] at hv
  rw [List.getElem?_take] at hv
  split at hv
  · rw [List.getElem?_drop] at hv; exact hv
  · cases hv
theorem sclone_ok (ks : Dats) (hlen : ks.len ≤ 2000000) : Fresh G0 68 [.slice ks.len ks.cells] ⟨ks.cells, ks.len, 24, 4⟩ := by
  refine Fn.enterF Tryd.func68 Tryd.ntmps68 rfl (Nat.le_of_ble_eq_true rfl) fun C fr hnt hfr => ?_
  refine Q.runSeq S0 50 8 hnt [0] (z := ⟨[(0, .slice ks.len ks.cells)], ⟨[], []⟩⟩) (o := []) (by kernel_rfl) okO_nil ?_
  refine Q.seq fun K hK => ?_
  have rest : ∀ st, nrm [0] st = ⟨[(0, .slice ks.len ks.cells)], ⟨[], []⟩⟩ → K st := fun st hst => by
    refine hK st (.norm [0] ?_)
    rw [hst]
    refine SWP.runQ { S0 with orc := orcM [(8, [(7, true)])] } 60 8 hnt [2] (e := .ret) (z := ⟨[(2, .own 0 (0 + ks.len))], ⟨[], [some ⟨[] ++ ks.cells, 0 + ks.len, 24, 4⟩]⟩⟩) (o := [(Nat.beq ks.cells.length (ks.len * 4), true), (Nat.ble ((0 + ks.len) * 56) 140737488355328, true), (Nat.ble (0 + ks.len) 9223372036854775807, true)]) (by kernel_rfl) (okO_cons (by rw [Nat.beq_eq]; exact Dats.cells_len ks) (okO_cons (by rw [Nat.ble_eq]; omega) (okO_cons (by rw [Nat.ble_eq]; omega) okO_nil))) (fun st hs => hfr st [2] ?_)
    rw [hs, Nat.zero_add]
    exact ⟨0, rfl, rfl⟩
  refine Q.seq fun K1 hK1 => ?_
  cases ks with
  | cons d ds =>
    refine SWP.runQ S0 60 8 hnt [0, 4] (e := .normal) (z := ⟨[(0, .slice (Dats.cons d ds).len (Dats.cons d ds).cells), (4, .bool false)], ⟨[], []⟩⟩) (o := []) (by kernel_rfl) okO_nil (fun st hs => hK1 st (.norm [0, 4] ?_))
    rw [hs]
    exact SWP.runQ S0 60 8 hnt [0] (e := .normal) (z := ⟨[(0, .slice (Dats.cons d ds).len (Dats.cons d ds).cells)], ⟨[], []⟩⟩) (o := []) (by kernel_rfl) okO_nil rest
  | nil =>
    (with_reducible refine Q.region (l := ?_) ?_ ?_); rotate_left; focus (simp only [strip, SO.of, List.toList_toArray, List.getElem?_cons_zero, List.getElem?_cons_succ, Option.bind_some]; rfl)
    refine SRun.step _ (by simp only [push_cast, hnt, Nat.reduceEqDiff, reduceIte, Nat.reduceAdd, Nat.reduceSub, Nat.reduceMul, Nat.reduceLeDiff, Nat.reduceLT, Nat.reduceBEq, Nat.reduceBNe, decide_true, decide_false, Nat.le_refl, Bool.not_true, Bool.not_false, Bool.false_eq_true, reduceCtorEq, Bool.true_and, Bool.and_true, ge_iff_le, Nat.lt_irrefl, Nat.zero_le]; rfl) ?_
    refine SRun.cons (SOneG.one fun o h1 h2 => SOpG.isNil0 (e := 24) (td := d22) h2 rfl rfl rfl rfl (by rw [h1, hnt]; rfl) fun b => ?_)
    rw [h1]
    refine Q.nil (hK1 _ (.norm [0, 4] ?_))
    cases b with
    | false => exact SWP.runQ S0 60 8 hnt [0] (e := .normal) (z := ⟨[(0, .slice 0 [])], ⟨[], []⟩⟩) (o := []) (by kernel_rfl) okO_nil rest
    | true =>
      refine Q.cond (b := true) rfl (fun _ => ?_) (fun h => by cases h)
      refine Q.runSeq S0 60 8 hnt [2] (z := ⟨[(2, .nil)], ⟨[], []⟩⟩) (o := []) (by kernel_rfl) okO_nil ?_
      intro E a w hr
      obtain ⟨E', hr'⟩ := hr.adopt (s := 2) rfl 24 4
      exact (Q.ret (n := fun _ => False) (xs := []) (p := fun _ _ => False) (hfr _ [2] ⟨0, rfl, rfl⟩) : SWP G0 C .ret _ _).mono (fun e s q => by
        cases e with
        | normal => exact q.elim
        | exit i => exact q.elim
        | ret => exact q
        | panic x => exact q.elim) E' a w hr'
noncomputable def sclW (f : Nat) (args : List PV) : Option (Row × Ob) := match f, args with
  | 68, [.slice n cs] => some (⟨cs, n, 24, 4⟩, [(isSmallL n cs, true)])
  | _, _ => none
theorem sclW_ok : ∀ f args row o, sclW f args = some (row, o) → (∀ p ∈ o, p.1 = p.2) → Fresh G0 f args row := by
  intro f args row o h ho
  unfold sclW at h
  split at h
  · cases h
    obtain ⟨ks, rfl, rfl, h1⟩ := isSmallL_of (ho _ (List.mem_singleton.2 rfl))
    exact sclone_ok ks h1
  · cases h
def CloneAt (N : Nat) : Prop := ∀ d : Dat, d.size < N → smallD d → Pure G0 56 [.agg d.cells] (fun r => r = .agg d.cells)
noncomputable def cloS (N : Nat) (f : Nat) (args : List PV) : Option (PV × Ob) := match f, args with
  | 56, [.agg cs] => some (.agg cs, [(isSmall N cs, true)])
  | _, _ => none
theorem cloS_ok {N : Nat} (ih : CloneAt N) (f : Nat) (args : List PV) (r : PV) (o : Ob) (h : cloS N f args = some (r, o)) (ho : ∀ p ∈ o, p.1 = p.2) (hpu : pureL args = true) : Pure G0 f args (fun x => x = r) := by
  clear hpu
  unfold cloS at h
  split at h
  · cases h
    obtain ⟨d, rfl, h1, h2⟩ := isSmall_of (ho _ (List.mem_singleton.2 rfl))
    exact ih d h1 h2
  · cases h
noncomputable def SZ {N : Nat} (ih : CloneAt N) (l : List (Nat × List (Nat × Bool))) (v : List (Nat × List (Nat × PV))) : Cfg G0 := { F := F, hF := hF, S := cloS N, hS := cloS_ok ih, orc := orcM l, val := valM v, W := sclW, hW := sclW_ok, tst := true }
end Seat
end Go.Proofs.YteimebpgmfhgjaaDoor
namespace Go.Proofs.YteimebpgmfhgjaaDoor
open Go.AS
set_option linter.unusedVariables false
namespace Seat
def OwnN (N : Nat) (S : Nat → Prop) (w : World) (v : Value) : Prop := Own w N S v
def tagD (N : Nat) (S : Nat → Prop) : Dat → List PV
  | .mk k n s ks => [.int .i64 k, .int .i64 n, .str s, .sl (OwnN N S) ks.len ks.cells]
def mix (N : Nat) (Ss : Nat → Nat → Prop) : Dats → Nat → Nat → List PV
  | .nil, _, _ => []
  | .cons d ds, i, 0 => d.cells ++ mix N Ss ds (i + 1) 0
  | .cons d ds, i, j + 1 => tagD N (Ss i) d ++ mix N Ss ds (i + 1) j
theorem tagD_len (N : Nat) (S : Nat → Prop) (d : Dat) : (tagD N S d).length = 4 := by cases d; rfl
theorem mix_zero (N : Nat) (Ss : Nat → Nat → Prop) : ∀ (ks : Dats) (i : Nat), mix N Ss ks i 0 = ks.cells
  | .nil, _ => rfl
  | .cons d ds, i => by simp only [mix, Dats.cells, mix_zero N Ss ds]
theorem mix_len (N : Nat) (Ss : Nat → Nat → Prop) : ∀ (ks : Dats) (i j : Nat), (mix N Ss ks i j).length = ks.len * 4
  | .nil, _, _ => by simp [mix, Dats.len]
  | .cons d ds, i, 0 => by simp only [mix, List.length_append, Dat.cells_len, mix_len N Ss ds, Dats.len]; omega
  | .cons d ds, i, j + 1 => by simp only [mix, List.length_append, tagD_len, mix_len N Ss ds, Dats.len]; omega
theorem mix_at (N : Nat) (Ss : Nat → Nat → Prop) : ∀ (ks : Dats) (i j : Nat), j < ks.len → ((mix N Ss ks i j).drop (j * 4)).take 4 = (ks.get j).cells
  | .nil, _, _, h => by simp [Dats.len] at h
  | .cons d ds, i, 0, _ => by
    simp only [mix, Nat.zero_mul, List.drop_zero, Dats.get]
    rw [List.take_append_of_le_length (by rw [Dat.cells_len]; exact Nat.le_refl _), List.take_of_length_le (by rw [Dat.cells_len]; exact Nat.le_refl _)]
  | .cons d ds, i, j + 1, h => by
    simp only [mix, Dats.get]
    rw [List.drop_append, tagD_len, List.drop_eq_nil_of_le (by rw [tagD_len]; omega), List.nil_append, show (j + 1) * 4 - 4 = j * 4 from by omega]
    exact mix_at N Ss ds (i + 1) j (by simp only [Dats.len] at h; omega)
theorem splice_app {α : Type} : ∀ (vs a b : List α) (o : Nat), splice (a ++ b) (a.length + o) vs = a ++ splice b o vs
  | [], a, b, o => rfl
  | v :: vs, a, b, o => by
    simp only [splice]
    rw [List.set_append_right _ _ (by omega), Nat.add_sub_cancel_left, Nat.add_assoc, splice_app vs a (b.set o v) (o + 1)]
theorem mix_ext (N : Nat) {Ss Ts : Nat → Nat → Prop} : ∀ (ks : Dats) (i j : Nat), (∀ m, i ≤ m → m < i + j → Ss m = Ts m) → mix N Ss ks i j = mix N Ts ks i j
  | .nil, _, _, _ => rfl
  | .cons d ds, i, 0, _ => by simp only [mix, mix_zero]
  | .cons d ds, i, j + 1, h => by
    simp only [mix, h i (Nat.le_refl _) (by omega)]
    rw [mix_ext N ds (i + 1) j fun m h1 h2 => h m (by omega) (by omega)]
theorem mix_splice (N : Nat) (Ss : Nat → Nat → Prop) : ∀ (ks : Dats) (i j : Nat), j < ks.len → splice (mix N Ss ks i j) (j * 4) (tagD N (Ss (i + j)) (ks.get j)) = mix N Ss ks i (j + 1)
  | .nil, _, _, h => by simp [Dats.len] at h
  | .cons (.mk k n s ls) ds, i, 0, _ => by
    simp only [mix, Dats.get, Dat.cells, tagD, Nat.zero_mul, Nat.add_zero, splice, List.cons_append, List.nil_append, List.set_cons_zero, List.set_cons_succ, Nat.zero_add, mix_zero]
  | .cons d ds, i, j + 1, h => by
    simp only [mix, Dats.get]
    have := splice_app (tagD N (Ss (i + (j + 1))) (ds.get j)) (tagD N (Ss i) d) (mix N Ss ds (i + 1) j) (j * 4)
    rw [tagD_len] at this
    rw [show (j + 1) * 4 = 4 + j * 4 from by omega, this, show i + (j + 1) = i + 1 + j from by omega, mix_splice N Ss ds (i + 1) j (by simp only [Dats.len] at h; omega)]
theorem mix_get (N : Nat) (Ss : Nat → Nat → Prop) : ∀ (ks : Dats) (i j m : Nat), m < j → m < ks.len → ((mix N Ss ks i j)[m * 4 + 3]? : Option PV) = some (.sl (OwnN N (Ss (i + m))) ((match ks.get m with | .mk _ _ _ ls => ls.len)) ((match ks.get m with | .mk _ _ _ ls => ls.cells)))
  | .nil, _, _, _, _, h => by simp [Dats.len] at h
  | .cons _ _, _, 0, _, h, _ => by omega
  | .cons (.mk k n s ls) ds, i, j + 1, 0, _, _ => rfl
  | .cons d ds, i, j + 1, m + 1, h, h2 => by
    simp only [mix, Dats.get]
    rw [List.getElem?_append_right (by rw [tagD_len]; omega), tagD_len, show (m + 1) * 4 + 3 - 4 = m * 4 + 3 from by omega, mix_get N Ss ds (i + 1) j m (by omega) (by simp only [Dats.len] at h2; omega), show i + 1 + m = i + (m + 1) from by omega]
def kidsD : Dat → Dats
  | .mk _ _ _ ks => ks
theorem cells_kid (ks : Dats) (i : Nat) (h : i < ks.len) : (ks.cells[i * 4 + 3]? : Option PV) = some (.slice (kidsD (ks.get i)).len (kidsD (ks.get i)).cells) := by
  have e := congrArg (fun l : List PV => l[3]?) (Dats.get_cells ks i h)
  simp only [List.getElem?_take, List.getElem?_drop] at e
  rw [if_pos (by omega)] at e
  rw [e]
  cases ks.get i; rfl
theorem own_im {im : Nat → Prop} {w : World} : ∀ (N : Nat) (ks : Dats) (S : Nat → Prop) (v : Value), IRep im w (.slice ks.len ks.cells) v → Own w N S v → Own w N (fun k => S k ∧ im k) v
  | 0, _, _, _, _, h => h
  | N + 1, ks, S, v, hi, ⟨A, n, c, hv, h⟩ => by
    refine ⟨A, n, c, hv, ?_⟩
    rcases h with h | ⟨b, vs, ty, h1, h2, h3, h4, Sf, h5, h6, h7⟩
    · exact .inl h
    by_cases hn0 : n = 0
    · exact .inl ⟨hn0, fun e => by rw [h1] at e; cases e⟩
    refine .inr ⟨b, vs, ty, h1, ?_⟩
    subst h1; subst hv
    obtain ⟨e, hb, us, hul, hcell, hrep⟩ : n = ks.len ∧ im b ∧ ∃ us : List Value, us.length = ks.cells.length ∧ (∀ (j : Nat) (u : Value), us[j]? = some u → w.cell? ((⟨b, 0, none⟩ : Addr).add j) = some u) ∧ ∀ (j : Nat) (x : PV) (u : Value), ks.cells[j]? = some x → us[j]? = some u → IRep im w x u := by
      generalize hx : PV.slice ks.len ks.cells = x at hi
      generalize hy : Value.slice (some ⟨b, 0, none⟩) n c = y at hi
      cases hi <;> first | (cases hx; done) | (cases hy; done) | skip
      rename_i hl hb hc h1 hr
      cases hx; cases hy
      rename_i us _
      refine ⟨rfl, hb (by rw [hl, Dats.cells_len]; omega), us, hl, hc, hr⟩
    subst e
    refine ⟨⟨h2, hb⟩, h3, h4, fun i k => Sf i k ∧ im k, fun i k hk => ⟨⟨(h5 i k hk.1).1, hk.2⟩, (h5 i k hk.1).2⟩, fun i j k hik hjk => h6 i j k hik.1 hjk.1, fun i hi => ?_⟩
    obtain ⟨u, hu, ho⟩ := h7 i hi
    have hlt : i * 4 + 3 < us.length := by rw [hul, Dats.cells_len]; omega
    have hu2 : us[i * 4 + 3]? = some u := by
      have e1 := hcell (i * 4 + 3) us[i * 4 + 3] (List.getElem?_eq_getElem hlt)
      rw [cell_of_blk h3, Nat.zero_add, hu] at e1
      rw [List.getElem?_eq_getElem hlt, ← Option.some.inj e1]
    exact ⟨u, hu, own_im N _ _ u (hrep _ _ u (cells_kid ks i hi) hu2) ho⟩
theorem sl_inv {im : Nat → Prop} {w : World} {F : World → Value → Prop} {n : Nat} {cs : List PV} {v : Value} (h : IRep im w (.sl F n cs) v) : IRep im w (.slice n cs) v ∧ v.oneCell' = true ∧ ∀ w' : World, (∀ k, im k → w'.heap[k]? = w.heap[k]?) → F w' v := by
  cases h with
  | sl h h1 hF => exact ⟨h, h1, hF⟩
theorem own_row {im : Nat → Prop} {w : World} {lo lo0 N : Nat} {ty : TypeId} {ks : Dats} {v : Value} {xs : List Value} {Ss : Nat → Nat → Prop} (ho : w.ownsRow lo ty 4 v ks.len xs) (hx : IReps im w (mix N Ss ks 0 ks.len) xs)
    (hd : ∀ i j k, i < ks.len → j < ks.len → Ss i k → Ss j k → i = j) (hl : ∀ i k, i < ks.len → Ss i k → lo0 ≤ k) (hb : ∀ k, v.ownBlock = some k → ¬ im k) (hlo : lo0 ≤ lo)
    (w' : World) (hw : ∀ k, im k ∨ v.ownBlock = some k → w'.heap[k]? = w.heap[k]?) : Own w' (N + 1) (fun k => lo0 ≤ k) v := by
  obtain ⟨hxl, h | ⟨g, cap, cur, rfl, hg, hh, hnc, hcm, hs, ht⟩⟩ := ho
  · exact ⟨none, 0, 0, h.1, .inl ⟨rfl, fun _ => rfl⟩⟩
  have hbl : (Value.slice (some ⟨g, 0, none⟩) ks.len cap).ownBlock = some g := rfl
  refine ⟨_, _, _, rfl, .inr ⟨g, cur.toList, ty, rfl, Nat.le_trans hlo hg, by rw [hw g (.inr hbl)]; simpa using hh, ⟨hnc, by simpa [maxLen] using hcm, by have := Nat.mul_le_mul_right 4 hnc; simp only [Array.length_toList]; omega⟩, fun i k => i < ks.len ∧ Ss i k ∧ im k, fun i k ⟨h1, h2, h3⟩ => ⟨hl i k h1 h2, fun e => hb g hbl (e ▸ h3)⟩, fun i j k h1 h2 => hd i j k h1.1 h2.1 h1.2.1 h2.2.1, fun i hi => ?_⟩⟩
  have hlt : i * 4 + 3 < xs.length := by rw [hxl]; omega
  obtain ⟨u, hu⟩ : ∃ u, xs[i * 4 + 3]? = some u := ⟨_, List.getElem?_eq_getElem hlt⟩
  have hr := hx.2 (i * 4 + 3) _ u (mix_get N Ss ks 0 ks.len i hi hi) hu
  obtain ⟨k1, k2, k3⟩ := sl_inv hr
  refine ⟨u, ?_, ?_⟩
  · rw [← ht, List.getElem?_take] at hu
    split at hu
    · exact hu
    · cases hu
  · have h1 := k3 w' fun k hk => hw k (.inl hk)
    rw [Nat.zero_add] at h1
    have h2 : IRep im w' (.slice (kidsD (ks.get i)).len (kidsD (ks.get i)).cells) u := by
      have : IRep im w (.slice (kidsD (ks.get i)).len (kidsD (ks.get i)).cells) u := by
        revert k1; cases ks.get i; exact id
      exact this.move (fun _ h => h) fun k hk => hw k (.inl hk)
    exact (own_im N _ _ _ h2 h1).move (fun k hk => ⟨hi, hk.1, hk.2⟩) fun _ _ => rfl
def newS (lo : Nat) : Nat → Prop := fun k => lo ≤ k
def CloneT (N : Nat) : Prop := ∀ d : Dat, d.size < N → smallD d → ∀ lo, Pure (G0.at lo) 56 [.agg d.cells] (fun r => r = .agg (tagD N (newS lo) d))
noncomputable def cltS (N lo : Nat) (f : Nat) (args : List PV) : Option (PV × Ob) := match f, args with
  | 56, [.agg [.int .i64 k, .int .i64 n, .str s, .slice m cs]] => some (.agg [.int .i64 k, .int .i64 n, .str s, .sl (OwnN N (newS lo)) m cs], [(isSmall N [.int .i64 k, .int .i64 n, .str s, .slice m cs], true)])
  | _, _ => none
theorem cltS_ok {N : Nat} (ih : CloneT N) (lo : Nat) (f : Nat) (args : List PV) (r : PV) (o : Ob) (h : cltS N lo f args = some (r, o)) (ho : ∀ p ∈ o, p.1 = p.2) (hpu : pureL args = true) : Pure (G0.at lo) f args (fun x => x = r) := by
  clear hpu
  unfold cltS at h
  split at h
  · cases h
    obtain ⟨⟨k', n', s', ks'⟩, hc, h1, h2⟩ := isSmall_of (ho _ (List.mem_singleton.2 rfl))
    simp only [Dat.cells, List.cons.injEq, PV.int.injEq, PV.str.injEq, PV.slice.injEq, true_and, and_true] at hc
    obtain ⟨rfl, rfl, rfl, rfl, rfl⟩ := hc
    exact ih (.mk k' n' s' ks') h1 h2 lo
  · cases h
noncomputable def ST {N : Nat} (ih : CloneT N) (lo : Nat) (l : List (Nat × List (Nat × Bool))) (v : List (Nat × List (Nat × PV))) : Cfg (G0.at lo) := { F := F, hF := hF, S := cltS N lo, hS := cltS_ok ih lo, orc := orcM l, val := valM v, W := sclW, hW := fun f args row o h ho => (sclW_ok f args row o h ho).at rfl lo, tst := true }
noncomputable def S0t (lo : Nat) : Cfg (G0.at lo) := S0.at rfl lo
theorem mix_retag {im : Nat → Prop} {w : World} {N b : Nat} {Ss Ts : Nat → Nat → Prop} (hb : ∀ k, im k → k < b) : ∀ (ks : Dats) (i j : Nat), (∀ m, i ≤ m → m < i + j → ∀ k, Ss m k → k < b → Ts m k) →
    ∀ (m : Nat) (x : PV), (mix N Ts ks i j)[m]? = some x → ∃ y, (mix N Ss ks i j)[m]? = some y ∧ ∀ v, IRep im w y v → IRep im w x v
  | .nil, _, _, _, m, x, h => by simp [mix] at h
  | .cons d ds, i, 0, _, m, x, h => ⟨x, by rw [mix_zero] at h ⊢; exact h, fun _ h => h⟩
  | .cons (.mk k n s ls) ds, i, j + 1, hT, m, x, h => by
    simp only [mix] at h ⊢
    by_cases hm : m < 4
    · rw [List.getElem?_append_left (by rw [tagD_len]; exact hm)] at h ⊢
      match m, hm with
      | 0, _ => exact ⟨x, h, fun _ h => h⟩
      | 1, _ => exact ⟨x, h, fun _ h => h⟩
      | 2, _ => exact ⟨x, h, fun _ h => h⟩
      | 3, _ =>
        refine ⟨_, rfl, fun v hv => ?_⟩
        simp only [tagD, List.getElem?_cons_succ, List.getElem?_cons_zero, Option.some.injEq] at h
        subst h
        obtain ⟨k1, k2, k3⟩ := sl_inv hv
        exact .sl k1 k2 fun w' hw' => (own_im N _ _ _ (k1.move (fun _ h => h) hw') (k3 w' hw')).move (fun k hk => hT i (Nat.le_refl _) (by omega) k hk.1 (hb k hk.2)) fun _ _ => rfl
    · rw [List.getElem?_append_right (by rw [tagD_len]; omega), tagD_len] at h ⊢
      exact mix_retag hb ds (i + 1) j (fun m h1 h2 => hT m (by omega) (by omega)) (m - 4) x h
theorem mix_untag {im : Nat → Prop} {w : World} {N : Nat} {Ss : Nat → Nat → Prop} : ∀ (ks : Dats) (i j : Nat) (m : Nat) (x : PV), (ks.cells[m]? : Option PV) = some x → ∃ y, (mix N Ss ks i j)[m]? = some y ∧ ∀ v, IRep im w y v → IRep im w x v
  | .nil, _, _, m, x, h => by simp [Dats.cells] at h
  | .cons d ds, i, 0, m, x, h => ⟨x, by rw [mix_zero]; exact h, fun _ h => h⟩
  | .cons (.mk k n s ls) ds, i, j + 1, m, x, h => by
    simp only [mix, Dats.cells] at h ⊢
    by_cases hm : m < 4
    · rw [List.getElem?_append_left (by rw [Dat.cells_len]; exact hm)] at h
      rw [List.getElem?_append_left (by rw [tagD_len]; exact hm)]
      match m, hm with
      | 0, _ => exact ⟨x, h, fun _ h => h⟩
      | 1, _ => exact ⟨x, h, fun _ h => h⟩
      | 2, _ => exact ⟨x, h, fun _ h => h⟩
      | 3, _ =>
        refine ⟨_, rfl, fun v hv => ?_⟩
        simp only [Dat.cells, List.getElem?_cons_succ, List.getElem?_cons_zero, Option.some.injEq] at h
        subst h
        exact (sl_inv hv).1
    · rw [List.getElem?_append_right (by rw [Dat.cells_len]; omega), Dat.cells_len] at h
      rw [List.getElem?_append_right (by rw [tagD_len]; omega), tagD_len]
      exact mix_untag ds (i + 1) j (m - 4) x h
theorem slice_by {im : Nat → Prop} {w : World} {n : Nat} {cs cs' : List PV} {v : Value} (hl : cs.length = cs'.length) (h : IRep im w (.slice n cs) v) (hc : ∀ (m : Nat) (x : PV), cs'[m]? = some x → ∃ y, cs[m]? = some y ∧ ∀ v, IRep im w y v → IRep im w x v) : IRep im w (.slice n cs') v := by
  cases h with
  | slice0 =>
    have : cs' = [] := List.eq_nil_of_length_eq_zero (by simpa using hl.symm)
    subst this
    exact .slice0
  | slice hn hl' hb hc' h1 hr =>
    exact .slice hn (hl'.trans hl) hb hc' h1 fun j x v hx hv => by
      obtain ⟨y, hy, hv'⟩ := hc j x hx
      exact hv' v (hr j y v hy hv)
theorem mix_reps {im : Nat → Prop} {w : World} {N b : Nat} {Ss Ts : Nat → Nat → Prop} (hb : ∀ k, im k → k < b) (ks : Dats) (j : Nat) (hT : ∀ m, m < j → ∀ k, Ss m k → k < b → Ts m k) {vs : List Value} (h : IReps im w (mix N Ss ks 0 j) vs) : IReps im w (mix N Ts ks 0 j) vs :=
  ⟨by rw [mix_len, h.1, mix_len], fun m x v hx hv => by
    obtain ⟨y, hy, hv'⟩ := mix_retag (w := w) hb ks 0 j (fun m _ h2 => hT m (by omega)) m x hx
    exact hv' v (h.2 m y v hy hv)⟩
end Seat
end Go.Proofs.YteimebpgmfhgjaaDoor
namespace Go.Proofs.YteimebpgmfhgjaaDoor
open Go.AS
set_option linter.unusedVariables false
set_option linter.unusedSimpArgs false
set_option maxRecDepth 100000
namespace Seat
theorem cloneAt (N : Nat) : CloneAt N := by
  induction N with
  | zero => intro d h; omega
  | succ N ih =>
    intro d hN hsm
    obtain ⟨k, n, s, ks⟩ := d
    have hks : ks.size < N + 1 := by simp only [Dat.size] at hN; omega
    have hlen := hsm.1
    let Z : Box := ⟨[.int .i64 0, .int .i64 0, .str ⟨#[]⟩, .nil], 24⟩
    let X : Box := ⟨[.int .i64 k, .int .i64 n, .str s, .own 0 ks.len], 24⟩
    let H : Hp := ⟨[X, Z], [some ⟨ks.cells, ks.len, 24, 4⟩]⟩
    refine Fn.enterN Tryd.func56 Tryd.ntmps56 rfl (Nat.le_of_ble_eq_true rfl) fun C fr fp hnt hp hfr hfp => ?_
    refine Q.runSeq S0 50 26 hnt [1, 2] (z := ⟨[(1, .ptr 0 0), (2, .ptr 1 0)], ⟨[⟨[.int .i64 k, .int .i64 n, .str s, .slice ks.len ks.cells], 24⟩, Z], []⟩⟩) (o := []) (by kernel_rfl) okO_nil ?_
    refine Q.runSeq (SZ ih [] []) 50 26 hnt [1, 2] (z := ⟨[(1, .ptr 0 0), (2, .ptr 1 0)], H⟩) (o := [(true, true), (isSmallL (Dats.len ks) (Dats.cells ks), true)]) (by kernel_rfl) (okO_cons (rfl) (okO_cons (isSmallL_at hlen) okO_nil)) ?_
    refine Q.seq fun K hK => ?_
    let T (j : Nat) : AS := ⟨[(1, .ptr 0 0), (2, .ptr 1 0), (10, .int .i64 ks.len), (11, .int .i64 j)], H⟩
    refine Q.runSeq S0 50 26 hnt [1, 2, 10, 11] (z := T 0) (o := []) (by kernel_rfl) okO_nil ?_
    refine Q.block ?_
    refine Q.loopI (σ := { j : Nat // j ≤ ks.len }) [1, 2, 10, 11] (fun j => T j.1) (fun j => ks.len - j.1) ⟨0, Nat.zero_le _⟩ rfl fun ⟨j, hj⟩ => ?_
    rcases Nat.lt_or_ge j ks.len with hlt | hge
    · obtain ⟨k', n', s', ks', hget⟩ := Dats.get_mk ks j
      have hsz := Dats.get_size ks j hlt
      have hsj := smallL_get ks j hlt hsm.2
      have hspl := splice_kid ks j hlt
      rw [hget] at hsz hsj hspl
      have hsp2 : splice ks.cells ((j : Int).toNat * 4) [.int .i64 k', .int .i64 n', .str s', .slice ks'.len ks'.cells] = ks.cells := by rw [Int.toNat_natCast]; exact hspl
      have c1 : isSmall N [.int .i64 k', .int .i64 n', .str s', .slice ks'.len ks'.cells] = true := isSmall_at (d := .mk k' n' s' ks') (by omega) hsj
      have c2 : Nat.ble ((j : Int).toNat * 4 + 4) ks.cells.length = true := by rw [Nat.ble_eq, Int.toNat_natCast, Dats.cells_len]; omega
      refine SWP.runQ (SZ ih [(26, [(12, true), (20, true), (21, true), (23, true)])] [(26, [(21, .agg [.int .i64 k', .int .i64 n', .str s', .slice ks'.len ks'.cells])])]) 100 26 hnt [1, 2, 10, 11] (e := .normal) (z := ⟨[(1, .ptr 0 0), (2, .ptr 1 0), (10, .int .i64 ks.len), (11, .int .i64 (IntKind.i64.wrap ((j : Int) + 1)))], ⟨[X, Z], [some ⟨splice ks.cells ((j : Int).toNat * 4) [.int .i64 k', .int .i64 n', .str s', .slice ks'.len ks'.cells], ks.len, 24, 4⟩]⟩⟩) (o := [(decide ((j : Int) < (ks.len : Int)), true), (true, true), (decide (0 ≤ (j : Int) ∧ (j : Int) < (ks.len : Int)), true), (decide (4 ≤ (ks.cells.drop ((j : Int).toNat * 4)).length), true), (same (.agg ((ks.cells.drop ((j : Int).toNat * 4)).take 4)) (.agg [.int .i64 k', .int .i64 n', .str s', .slice ks'.len ks'.cells]), true), (true, true), (isSmall N [.int .i64 k', .int .i64 n', .str s', .slice ks'.len ks'.cells], true), (decide (0 ≤ (j : Int) ∧ (j : Int) < (ks.len : Int)), true), (Nat.ble ((j : Int).toNat * 4 + 4) ks.cells.length, true)]) (by kernel_rfl) (okO_cons (lt_at hlt) (okO_cons (rfl) (okO_cons (in_at hlt) (okO_cons (kid_len hlt) (okO_cons (kid_same' hlt hget) (okO_cons (rfl) (okO_cons (c1) (okO_cons (in_at hlt) (okO_cons (c2) okO_nil))))))))) (fun st hs => ⟨⟨j + 1, hlt⟩, Nat.sub_lt_sub_left hlt (Nat.lt_succ_self j), ?_⟩)
      rw [hs, hsp2, wrap1 j (by omega)]
    · refine SWP.runQ (SZ ih [(26, [(12, false)])] []) 60 26 hnt [1, 2] (e := .exit 0) (z := ⟨[(1, .ptr 0 0), (2, .ptr 1 0)], H⟩) (o := [(decide ((↑j : Int) < (↑(Dats.len ks) : Int)), false), (false, false)]) (by kernel_rfl) (okO_cons (ge_at hge) (okO_cons (rfl) okO_nil)) (fun st hs => hK st (.norm [1, 2] ?_))
      rw [hs]
      refine SWP.frz [0] ?_
      refine SWP.runQ S0 50 26 hnt [2] (e := .ret) (z := ⟨[(2, .ptr 1 0)], ⟨[⟨[.int .i64 k, .int .i64 n, .str s, .slice ks.len ks.cells], 24⟩, ⟨[.int .i64 k, .int .i64 n, .str s, .slice ks.len ks.cells], 24⟩], [none]⟩⟩) (o := []) (by kernel_rfl) okO_nil (fun st hs => hfr st [2] ?_)
      rw [hs]
      exact ⟨0, .agg [.int .i64 k, .int .i64 n, .str s, .slice ks.len ks.cells], Nat.le_refl _, Nat.zero_le _, rfl, rfl, rfl, rfl, _, rfl, rfl⟩
theorem clone_ok (d : Dat) (h : smallD d) : Pure G0 56 [.agg d.cells] (fun r => r = .agg d.cells) := cloneAt (d.size + 1) d (Nat.lt_succ_self _) h
end Seat
end Go.Proofs.YteimebpgmfhgjaaDoor
namespace Go.Proofs.YteimebpgmfhgjaaDoor
open Go.AS
set_option linter.unusedVariables false
set_option linter.unusedSimpArgs false
set_option maxRecDepth 100000
namespace Seat
theorem cloneT (N : Nat) : CloneT N := by
  induction N with
  | zero => intro d h; omega
  | succ N ih =>
    intro d hN hsm lo0
    obtain ⟨k, n, s, ks⟩ := d
    have hks : ks.size < N + 1 := by simp only [Dat.size] at hN; omega
    have hlen := hsm.1
    let Z : Box := ⟨[.int .i64 0, .int .i64 0, .str ⟨#[]⟩, .nil], 24⟩
    let X : Box := ⟨[.int .i64 k, .int .i64 n, .str s, .own 0 ks.len], 24⟩
    let W (cs : List PV) : Hp := ⟨[X, Z], [some ⟨cs, ks.len, 24, 4⟩]⟩
    refine Fn.enterL Tryd.func56 Tryd.ntmps56 rfl (Nat.le_of_ble_eq_true rfl) fun C fr fp hnt hnb hlo hp hfr hfp => ?_
    refine Q.runSeq (S0t lo0) 50 26 hnt [1, 2] (z := ⟨[(1, .ptr 0 0), (2, .ptr 1 0)], ⟨[⟨[.int .i64 k, .int .i64 n, .str s, .slice ks.len ks.cells], 24⟩, Z], []⟩⟩) (o := []) (by kernel_rfl) okO_nil ?_
    refine Q.runSeq (ST ih lo0 [] []) 100 26 hnt [1, 2] (z := ⟨[(1, .ptr 0 0), (2, .ptr 1 0)], W ks.cells⟩) (o := [(true, true), (isSmallL ks.len ks.cells, true)]) (by kernel_rfl) (okO_cons (rfl) (okO_cons (isSmallL_at hlen) okO_nil)) ?_
    refine Q.seq fun K hK => ?_
    let T (cs : List PV) (j : Nat) : AS := ⟨[(1, .ptr 0 0), (2, .ptr 1 0), (10, .int .i64 ks.len), (11, .int .i64 j)], W cs⟩
    refine Q.runSeq (S0t lo0) 50 26 hnt [1, 2, 10, 11] (z := T ks.cells 0) (o := []) (by kernel_rfl) okO_nil ?_
    refine Q.block ?_
    refine Q.loopI (σ := { x : Nat × (Nat → Nat → Prop) // x.1 ≤ ks.len ∧ (∀ i j k, i < x.1 → j < x.1 → x.2 i k → x.2 j k → i = j) ∧ ∀ i k, i < x.1 → x.2 i k → lo0 ≤ k }) [1, 2, 10, 11] (fun x => T (mix N x.1.2 ks 0 x.1.1) x.1.1) (fun x => ks.len - x.1.1) ⟨(0, fun _ _ => False), Nat.zero_le _, fun i j k h => absurd h (Nat.not_lt_zero _), fun i k h => absurd h (Nat.not_lt_zero _)⟩ (by simp only [mix_zero]; rfl) fun ⟨⟨j, Ss⟩, hj, hd, hl⟩ => ?_
    simp only [] at hj hd hl ⊢
    refine SWP.here (G := G0) rfl fun E a w hr => ?_
    generalize hlw : w.heap.size = lw
    have h0w : lo0 ≤ lw := hlw ▸ hr.hp.gl.1
    let Ts : Nat → Nat → Prop := fun i k => Ss i k ∧ k < lw
    have hdT : ∀ i j' k, i < j → j' < j → Ts i k → Ts j' k → i = j' := fun i j' k h1 h2 h3 h4 => hd i j' k h1 h2 h3.1 h4.1
    have hlT : ∀ i k, i < j → Ts i k → lo0 ≤ k := fun i k h1 h2 => hl i k h1 h2.1
    refine ⟨T (mix N Ts ks 0 j) j, hr.rerow (i := 0) (x := ⟨mix N Ss ks 0 j, ks.len, 24, 4⟩) rfl (fun vs hvs => mix_reps (b := lw) (fun k hk => hlw ▸ hr.hp.im_lt k hk) ks j (fun m hm k h1 h2 => ⟨h1, h2⟩) hvs), ?_⟩
    have hnt' : (C.at E (T (mix N Ts ks 0 j) j) w).nt = 26 := hnt
    have mlen := mix_len N Ts ks 0 j
    have hTb : ∀ i k, Ts i k → k < lw := fun i k h => h.2
    clear_value Ts
    rcases Nat.lt_or_ge j ks.len with hlt | hge
    · obtain ⟨k', n', s', ks', hget⟩ := Dats.get_mk ks j
      have hsz := Dats.get_size ks j hlt
      have hsj := smallL_get ks j hlt hsm.2
      have hat := mix_at N Ts ks 0 j hlt
      have hspl := mix_splice N (fun i => if i = j then newS lw else Ts i) ks 0 j hlt
      have hext : mix N (fun i => if i = j then newS lw else Ts i) ks 0 j = mix N Ts ks 0 j := mix_ext N ks 0 j fun m _ h2 => by show (if m = j then newS lw else Ts m) = Ts m; rw [if_neg (by omega)]
      rw [hext, Nat.zero_add] at hspl
      simp only [if_true] at hspl
      rw [hget] at hsz hsj hat hspl
      generalize hcs : mix N Ts ks 0 j = cs at *
      have c0 : same (.agg ((cs.drop ((j : Int).toNat * 4)).take 4)) (.agg [.int .i64 k', .int .i64 n', .str s', .slice ks'.len ks'.cells]) = true := same_of (by rw [Int.toNat_natCast, hat]; rfl)
      have c1 : isSmall N [.int .i64 k', .int .i64 n', .str s', .slice ks'.len ks'.cells] = true := isSmall_at (d := .mk k' n' s' ks') (by omega) hsj
      have c2 : Nat.ble ((j : Int).toNat * 4 + 4) cs.length = true := by rw [Nat.ble_eq, Int.toNat_natCast, mlen]; omega
      have c3 : decide (4 ≤ (cs.drop ((j : Int).toNat * 4)).length) = true := by rw [decide_eq_true_eq, List.length_drop, Int.toNat_natCast, mlen]; omega
      refine SWP.runQ (ST ih lw [(26, [(12, true), (20, true), (21, true), (23, true)])] [(26, [(21, .agg [.int .i64 k', .int .i64 n', .str s', .slice ks'.len ks'.cells])])]) 100 26 hnt' [1, 2, 10, 11] (e := .normal) (z := ⟨[(1, .ptr 0 0), (2, .ptr 1 0), (10, .int .i64 ks.len), (11, .int .i64 (IntKind.i64.wrap ((j : Int) + 1)))], W (splice cs ((j : Int).toNat * 4) [.int .i64 k', .int .i64 n', .str s', .sl (OwnN N (newS lw)) ks'.len ks'.cells])⟩) (o := [(decide ((j : Int) < (ks.len : Int)), true), (true, true), (decide (0 ≤ (j : Int) ∧ (j : Int) < (ks.len : Int)), true), (decide (4 ≤ (cs.drop ((j : Int).toNat * 4)).length), true), (same (.agg ((cs.drop ((j : Int).toNat * 4)).take 4)) (.agg [.int .i64 k', .int .i64 n', .str s', .slice ks'.len ks'.cells]), true), (true, true), (isSmall N [.int .i64 k', .int .i64 n', .str s', .slice ks'.len ks'.cells], true), (decide (0 ≤ (j : Int) ∧ (j : Int) < (ks.len : Int)), true), (Nat.ble ((j : Int).toNat * 4 + 4) cs.length, true)]) (by kernel_rfl) (okO_cons (lt_at hlt) (okO_cons (rfl) (okO_cons (in_at hlt) (okO_cons (c3) (okO_cons (c0) (okO_cons (rfl) (okO_cons (c1) (okO_cons (in_at hlt) (okO_cons (c2) okO_nil))))))))) (fun st hs => ⟨⟨(j + 1, fun i => if i = j then newS lw else Ts i), hlt, fun i i' k h1 h2 h3 h4 => ?_, fun i k h1 h2 => ?_⟩, Nat.sub_lt_sub_left hlt (Nat.lt_succ_self j), ?_⟩)
      · simp only [] at h1 h2 h3 h4
        by_cases e1 : i = j
        · by_cases e2 : i' = j
          · omega
          · rw [if_pos e1] at h3; rw [if_neg e2] at h4
            exact absurd (hTb i' k h4) (Nat.not_lt.2 h3)
        · by_cases e2 : i' = j
          · rw [if_neg e1] at h3; rw [if_pos e2] at h4
            exact absurd (hTb i k h3) (Nat.not_lt.2 h4)
          · rw [if_neg e1] at h3; rw [if_neg e2] at h4
            exact hdT i i' k (by omega) (by omega) h3 h4
      · simp only [] at h1 h2
        by_cases e1 : i = j
        · rw [if_pos e1] at h2; exact Nat.le_trans h0w h2
        · rw [if_neg e1] at h2; exact hlT i k (by omega) h2
      · rw [hs, ← hspl, wrap1 j (by omega)]
        simp only [Int.toNat_natCast]
        rfl
    · obtain rfl : j = ks.len := Nat.le_antisymm hj hge
      refine SWP.runQ (ST ih lw [(26, [(12, false)])] []) 60 26 hnt' [1, 2] (e := .exit 0) (z := ⟨[(1, .ptr 0 0), (2, .ptr 1 0)], W (mix N Ts ks 0 ks.len)⟩) (o := [(decide ((ks.len : Int) < (ks.len : Int)), false), (false, false)]) (by kernel_rfl) (okO_cons (ge_at hge) (okO_cons (rfl) okO_nil)) (fun st hs => hK st (.norm [1, 2] ?_))
      rw [hs]
      refine SWP.conv fun E2 a2 w2 hr2 => ?_
      have hrow := hr2.hp.row 0 _ rfl
      obtain ⟨xs, ho, hxs, h1⟩ := hrow
      have hfz := hr2.freezeE (r := 0) (x := ⟨mix N Ts ks 0 ks.len, ks.len, 24, 4⟩) rfl
      obtain ⟨vs0, hv0, hvr0⟩ := hr2.hp.box 0 X rfl
      refine ⟨_, _, hfz.rebox (i := 0) (b := ⟨[.int .i64 k, .int .i64 n, .str s, .slice ks.len (mix N Ts ks 0 ks.len)], 24⟩) rfl (cs := [.int .i64 k, .int .i64 n, .str s, .sl (OwnN (N + 1) (newS lo0)) ks.len ks.cells]) (fun vs hv hvr => ?_), ?_⟩
      · have e : vs = vs0 := by
          have := (show w2.heap[E2.β 0]? = some (.cells vs.toArray _ _) from hv).symm.trans hv0
          exact (by simpa using this : vs = vs0 ∧ _).1
        subst e
        refine ⟨hvr.1, fun m x v hx hv => ?_⟩
        match m with
        | 0 => exact hvr.2 0 x v hx hv
        | 1 => exact hvr.2 1 x v hx hv
        | 2 => exact hvr.2 2 x v hx hv
        | 3 =>
          simp only [List.getElem?_cons_succ, List.getElem?_cons_zero, Option.some.injEq] at hx
          subst hx
          have h3 := (hvr.2 3 _ v rfl hv).pure rfl
          obtain ⟨_, h4, _⟩ := (hvr0.2 3 _ v rfl hv).own_inv
          exact .imm (.sl (slice_by (by rw [mix_len, Dats.cells_len]) h3 (mix_untag ks 0 ks.len)) ((hvr.2 3 _ v rfl hv).one rfl) fun w' hw' => h4 ▸ own_row ho hxs hdT (fun i k h1 h2 => hlT i k h1 h2) (fun k hk him => hr2.hp.im_r k 0 _ rfl him hk) (by rw [hr2.lo]; exact hlo) w' hw')
        | m + 4 => simp at hx
      · refine SWP.runQ (S0t lo0) 50 26 hnt [2] (e := .ret) (z := ⟨[(2, .ptr 1 0)], ⟨[⟨[.int .i64 k, .int .i64 n, .str s, .sl (OwnN (N + 1) (newS lo0)) ks.len ks.cells], 24⟩, ⟨[.int .i64 k, .int .i64 n, .str s, .sl (OwnN (N + 1) (newS lo0)) ks.len ks.cells], 24⟩], [none]⟩⟩) (o := []) (by kernel_rfl) okO_nil (fun st hs => hfr st [2] ?_)
        rw [hs]
        exact ⟨0, .agg [.int .i64 k, .int .i64 n, .str s, .sl (OwnN (N + 1) (newS lo0)) ks.len ks.cells], Nat.le_refl _, Nat.zero_le _, rfl, rfl, rfl, rfl, _, rfl, rfl⟩
end Seat
end Go.Proofs.YteimebpgmfhgjaaDoor
namespace Go.Proofs.YteimebpgmfhgjaaDoor
open Go.AS
set_option linter.unusedVariables false
set_option linter.unusedSimpArgs false
set_option maxRecDepth 100000
namespace Seat
theorem drop4 {α : Type} (l : List α) (o : Nat) (x : α) (h : l[o + 3]? = some x) : ∃ a b c r, l.drop o = a :: b :: c :: x :: r := by
  have h2 : (l.drop o)[3]? = some x := by rw [List.getElem?_drop]; exact h
  match hm : l.drop o, h2 with
  | [], h2 => simp at h2
  | [_], h2 => simp at h2
  | [_, _], h2 => simp at h2
  | [_, _, _], h2 => simp at h2
  | a :: b :: c :: d :: r, h2 => exact ⟨a, b, c, r, by simp at h2; rw [h2]⟩
theorem splice_ne {α : Type} : ∀ (xs l : List α) (o m : Nat), m < o ∨ o + xs.length ≤ m → (splice l o xs)[m]? = l[m]?
  | [], l, o, m, _ => rfl
  | x :: xs, l, o, m, h => by
    simp only [splice]
    simp only [List.length_cons] at h
    rw [splice_ne xs (l.set o x) (o + 1) m (by omega), List.getElem?_set_ne (by omega)]
theorem splice_mem {α : Type} {P : α → Prop} : ∀ (xs l : List α) (o : Nat), (∀ x ∈ l, P x) → (∀ x ∈ xs, P x) → ∀ x ∈ splice l o xs, P x
  | [], l, o, h, _ => h
  | x :: xs, l, o, h, h2 => splice_mem xs (l.set o x) (o + 1) (fun y hy => by
      rcases List.mem_or_eq_of_mem_set hy with hy | rfl
      · exact h y hy
      · exact h2 _ (List.mem_cons_self ..)) fun y hy => h2 y (List.mem_cons_of_mem _ hy)
def FreeX (x : PV) : Prop := ∀ (E : Env) (w : World) (v : Value) (im' : Nat → Prop) (w' : World), VRep E w x v → VRep { E with im := im' } w' x v
theorem FreeX.junk : FreeX .junk := fun _ _ v _ _ _ => .junk v
theorem FreeX.lone {x : PV} (h : x.lone = true) : FreeX x := fun _ _ _ _ _ hv => hv.lone h
theorem FreeX.exact (v : Value) : FreeX (.exact v) := fun _ _ _ _ _ hv => by
  have h := hv.pure rfl
  cases h with
  | exact h => exact .imm (.exact h)
theorem FreeX.bsl (b n m : Nat) : FreeX (.bsl b n m) := fun _ _ _ _ _ hv => by
  cases hv with
  | imm h => cases h
  | bsl h1 h2 => exact .bsl h1 h2
theorem FreeX.ptr (b o : Nat) : FreeX (.ptr b o) := fun _ _ _ _ _ hv => by
  cases hv with
  | imm h => cases h
  | ptr o h1 => exact .ptr o h1
def exC (v : Value) : PV := if v.oneCell' = true then .exact v else .junk
theorem exC_rep (E : Env) (w : World) (v : Value) : VRep E w (exC v) v := by
  unfold exC; split
  · rename_i h; exact .imm (.exact h)
  · exact .junk v
theorem exC_free (v : Value) : FreeX (exC v) := by
  unfold exC; split
  · exact .exact v
  · exact .junk
theorem own_one {w : World} {N : Nat} {S : Nat → Prop} {v : Value} (h : Own w N S v) : v.oneCell' = true := by
  cases N with
  | zero => exact h.elim
  | succ N => obtain ⟨A, n, c, rfl, _⟩ := h; rfl
theorem rel_spoilt {G : Prg} {C : Ctx} {E : Env} {st : AS} {a : Act} {w w3 : World} {S im0 : Nat → Prop} (hr : Rel G C E st a w) (hrw : st.h.rw = []) (hfs : ∀ s, FreeX (lk st.t s)) (hfb : ∀ b ∈ st.h.bx, ∀ x ∈ b.cs, FreeX x)
    (hS : ∀ k, S k → C.wr k) (hSb : ∀ i, i < E.nb → ¬ S (E.β i)) (hi : ∀ k, im0 k → ¬ S k ∧ k < w.heap.size ∧ ∀ i, i < E.nb → E.β i ≠ k) (hg : ∀ g cs, G.Γ g = some cs → GRep im0 w3 cs g) (he : C.E0.im = im0)
    (hsz : w.heap.size ≤ w3.heap.size) (hos : w3.os = w.os) (htp : w3.tape = w.tape) (hou : w3.output = w.output) (hk : ∀ k, k < w.heap.size → ¬ S k → w3.heap[k]? = w.heap[k]?) : Rel G C { E with im := im0 } st a w3 := by
  have hb : ∀ i, i < E.nb → w3.heap[E.β i]? = w.heap[E.β i]? := fun i hi => hk _ (hr.hp.bx_lt hi) (hSb i hi)
  refine ⟨hr.defers, hr.size, fun s => hfs s E w _ _ _ (hr.fr s), ⟨hr.hp.nb, hr.hp.nr, Nat.le_trans hr.hp.lo hsz, fun i b hb' => ?_, fun i s hs => by rw [hrw] at hs; simp at hs, hr.hp.inj, fun i j s t k hs => by rw [hrw] at hs; simp at hs, fun i j s _ hs => by rw [hrw] at hs; simp at hs, fun k hk' => Nat.lt_of_lt_of_le (hi k hk').2.1 hsz, fun k i hi' hk' => (hi k hk').2.2 i hi', fun k j s hs => by rw [hrw] at hs; simp at hs, ⟨Nat.le_trans hr.hp.gl.1 hsz, hg⟩⟩, hr.lo, hr.nb, hr.β, hr.own, fun k h => by rw [he] at h; exact h, fun k h => .inl (by rw [he]; exact h), fun k h1 h2 h3 => (hk k (Nat.lt_of_lt_of_le h1 hr.sz) fun hs => h3 (hS k hs)).trans (hr.keep k h1 h2 h3), hos.trans hr.os, htp.trans hr.tape, hou.trans hr.out, Nat.le_trans hr.sz hsz, fun j s k hs => by rw [hrw] at hs; simp at hs⟩
  obtain ⟨vs, h1, h2⟩ := hr.hp.box i b hb'
  have hlt : i < E.nb := by rw [hr.hp.nb]; exact (List.getElem?_eq_some_iff.1 hb').1
  exact ⟨vs, (hb i hlt).trans h1, h2.1, fun j x v hx hv => hfb b (List.mem_of_getElem? hb') x (List.mem_of_getElem? hx) E w _ _ _ (h2.2 j x v hx hv)⟩
theorem spoil_own : ∀ (N : Nat) (S im0 : Nat → Prop) (w : World) (x0 x1 x2 v : Value), Own w N S v → (∀ k, S k → k < w.heap.size) → (∀ k, im0 k → ¬ S k ∧ k < w.heap.size) → (∀ g cs, G0.Γ g = some cs → GRep im0 w cs g) →
    Calls G0.P 17 #[.agg #[x0, x1, x2, v]] w fun e w' => e = .returned (.tuple #[]) ∧ w.heap.size ≤ w'.heap.size ∧ w'.os = w.os ∧ w'.tape = w.tape ∧ w'.output = w.output ∧ ∀ k, k < w.heap.size → ¬ S k → w'.heap[k]? = w.heap[k]? := by
  intro N
  induction N with
  | zero => intro S im0 w x0 x1 x2 v h; exact h.elim
  | succ N ih =>
    intro S im0 w x0 x1 x2 v ⟨A, n, c, hv, h⟩ hS hi hg
    subst hv
    rcases h with ⟨rfl, hA⟩ | ⟨b, vs, ty, rfl, hSb, hb, ⟨hnc, hcm, hlen⟩, Sf, hSf, hdis, hkids⟩
    · have hp : Pure G0 17 [.agg [.junk, .junk, .junk, .slice 0 []]] (fun r => r = .tup []) := Pure.run (S := S0) 100 (by kernel_rfl)
      have hh : HRep G0.Γ ⟨fun _ => 0, fun _ => undef, im0, w.heap.size, 0, 0⟩ w ⟨[], []⟩ := ⟨rfl, rfl, Nat.le_refl _, fun i b hb => by simp at hb, fun i r hr => by simp at hr, fun i j h => by simp at h, fun i j r s k h => by simp at h, fun i j r h => by simp at h, fun k h => (hi k h).2, fun k i h => by simp at h, fun k j r h => by simp at h, ⟨Nat.zero_le _, hg⟩⟩
      have hsl : IRep im0 w (.slice 0 []) (.slice A 0 c) := by
        cases A with
        | none => rw [hA rfl]; exact .slice0
        | some a => exact .slice (vs := []) (Nat.zero_le _) rfl (fun h => absurd h (Nat.lt_irrefl 0)) (fun j v h => by simp at h) (fun u h => by simp at h) (fun j x v h => by simp at h)
      have hv : VReps ⟨fun _ => 0, fun _ => undef, im0, w.heap.size, 0, 0⟩ w [.agg [.junk, .junk, .junk, .slice 0 []]] [.agg #[x0, x1, x2, .slice A 0 c]] :=
        .cons (.agg (vs := [x0, x1, x2, .slice A 0 c]) rfl (VReps.cons (.junk x0) (.cons (.junk x1) (.cons (.junk x2) (.cons (.imm hsl) (.nil _ _))))).2) (.nil _ _)
      refine (hp _ w _ hh hv).mono ?_
      rintro e w' ⟨o, bx, E', ⟨rfl, r, rfl, rfl⟩, ⟨u, rfl, hu⟩, hh', hx⟩
      obtain ⟨us, rfl, hus⟩ := hu.tup_inv
      obtain rfl := hus.nil_inv
      exact ⟨rfl, hx.sz, hx.os, hx.tape, hx.out, fun k hk _ => hx.keep k hk (fun i hi => by simp at hi)⟩
    · have hbl : b < w.heap.size := lt_of_some hb
      let B (cs : List PV) : Box := ⟨cs, ty⟩
      let D : Box := ⟨[.junk, .junk, .junk, .bsl 0 n c], 24⟩
      have hh : HRep G0.Γ ⟨fun _ => b, fun _ => undef, im0, w.heap.size, 1, 0⟩ w ⟨[B (vs.map exC)], []⟩ := ⟨rfl, rfl, Nat.le_refl _, fun i b' hb' => by
          have : i = 0 := by
            have := (List.getElem?_eq_some_iff.1 hb').1
            simp at this; exact this
          subst this
          simp only [List.getElem?_cons_zero, Option.some.injEq] at hb'
          subst hb'
          refine ⟨vs, hb, by simp [B], fun j x v hx hv => ?_⟩
          simp only [B, List.getElem?_map, hv, Option.map_some, Option.some.injEq] at hx
          subst hx; exact exC_rep _ _ v, fun i r hr => by simp at hr, fun i j h1 h2 _ => by simp at h1 h2; omega, fun i j r s k h => by simp at h, fun i j r _ h => by simp at h, fun k h => (hi k h).2, fun k i _ hk e => (hi k hk).1 (by rw [← e]; exact hSb), fun k j r h => by simp at h, ⟨Nat.zero_le _, hg⟩⟩
      have hv : VReps ⟨fun _ => b, fun _ => undef, im0, w.heap.size, 1, 0⟩ w [.agg [.junk, .junk, .junk, .bsl 0 n c]] [.agg #[x0, x1, x2, .slice (some ⟨b, 0, none⟩) n c]] :=
        .cons (.agg (vs := [x0, x1, x2, .slice (some ⟨b, 0, none⟩) n c]) rfl (VReps.cons (.junk x0) (.cons (.junk x1) (.cons (.junk x2) (.cons (.bsl (E := ⟨fun _ => b, fun _ => undef, im0, w.heap.size, 1, 0⟩) (b := 0) Nat.zero_lt_one hnc) (.nil _ _))))).2) (.nil _ _)
      refine enterW (G := G0) S Tryd.func17 rfl (Nat.le_of_ble_eq_true rfl) hh hv fun a hr => ?_
      generalize hC : (⟨w, ⟨fun _ => b, fun _ => undef, im0, w.heap.size, 1, 0⟩, [B (vs.map exC)].length, Tryd.f17.ntmps, w.heap.size, S, []⟩ : Ctx) = C at hr ⊢
      have Cnt : C.nt = 21 := by rw [← hC]; exact Tryd.ntmps17
      have Cnb : C.nb = 1 := by rw [← hC]; rfl
      have Cw : C.w0 = w := by rw [← hC]
      have Cwr : C.wr = S := by rw [← hC]
      have Cim : C.E0.im = im0 := by rw [← hC]
      have Cβ : ∀ i, C.E0.β i = b := fun i => by rw [← hC]
      clear hC
      let T (cs : List PV) (i : Nat) : AS := ⟨[(1, .ptr 1 0), (2, .int .i64 i)], ⟨[B cs, D], []⟩⟩
      have hSw : ∀ j k, Sf j k → k < w.heap.size := fun j k h => hS k (hSf j k h).1
      have nS : ∀ {E : Env} {st : AS} {a : Act} {w' : World}, Rel G0 C E st a w' → ∀ j i, i < E.nb → ¬ Sf j (E.β i) := fun {E st a w'} h j i hi hs => by
        rcases Nat.lt_or_ge i 1 with h1 | h1
        · obtain rfl : i = 0 := by omega
          rw [h.β 0 (by omega), Cβ] at hs
          exact (hSf j b hs).2 rfl
        · have := h.own i (by omega) hi
          rw [Cw] at this
          exact absurd (hSw j _ hs) (Nat.not_lt.2 this)
      have keepS : ∀ {E : Env} {st : AS} {a : Act} {w1 : World} {E' : Env} {st' : AS} {a' : Act} {w2 : World}, Rel G0 C E st a w1 → st.h.rw = [] → Rel G0 (C.at E st w1) E' st' a' w2 → ∀ j k, Sf j k → w2.heap[k]? = w1.heap[k]? := fun {E st a w1 E' st' a' w2} h1 h2 h3 j k hk =>
        h3.keep k (Nat.lt_of_lt_of_le (hSw j k hk) (Cw ▸ h1.sz)) (fun i hi e => nS h1 j i hi (e ▸ hk)) (fun ⟨j, s, hs, _⟩ => by rw [h2] at hs; simp at hs)
      refine WPw.seq (WPw.runQ hr S0 50 21 Cnt [1] (e := .normal) (z := ⟨[(1, .ptr 1 0)], ⟨[B (vs.map exC), D], []⟩⟩) (by kernel_rfl) okO_nil fun E2 w2 a2 hk2 hr2 => ?_)
      intro a3 hr3
      refine WPw.seq (WPw.runQ hr3 S0 50 21 Cnt [1, 2] (e := .normal) (z := T (vs.map exC) 0) (by kernel_rfl) okO_nil fun E4 w4 a4 hk4 hr4 => ?_)
      intro a5 hr5
      refine WPw.block ?_
      refine WPw.loop (σ := Nat) (fun i s E' w' => i ≤ n ∧ ∃ cs, s = T cs i ∧ cs.length = vs.length ∧ (∀ x ∈ cs, FreeX x) ∧ ∀ j, i ≤ j → j < n → ∃ u, cs[j * 4 + 3]? = some (.exact u) ∧ Own w' N (Sf j) u) (fun i => n - i) 0 hr5 ⟨Nat.zero_le _, vs.map exC, rfl, by simp, fun x hx => ?_, fun j _ hj => ?_⟩ ?_
      · obtain ⟨v, _, rfl⟩ := List.mem_map.1 hx; exact exC_free v
      · obtain ⟨u, hu, ho⟩ := hkids j hj
        exact ⟨u, by simp [hu, exC, own_one ho], ho.move (fun _ h => h) fun k hk => (keepS hr3 rfl hk4 j k hk).trans (keepS hr rfl hk2 j k hk)⟩
      · rintro i s E6 a6 w6 hr6 ⟨hin, cs, rfl, hcl, hfree, hk6⟩
        rcases Nat.lt_or_ge i n with hlt | hge
        · obtain ⟨u, hu, hou⟩ := hk6 i (Nat.le_refl _) hlt
          obtain ⟨c0, c1, c2, rest, hd⟩ := drop4 cs (i * 4) _ hu
          have hlen4 : i * 4 + 4 ≤ cs.length := by omega
          refine WPw.seq (WPw.runQ hr6 { S0 with orc := orcM [(21, [(7, true)])] } 50 21 Cnt [1, 2] (e := .normal) (z := T cs i) (o := [(decide ((i : Int) < (n : Int)), true), (true, true)]) (by kernel_rfl) (okO_cons (lt_at hlt) (okO_cons (rfl) okO_nil)) fun E7 w7 a7 hk7 hr7 => ?_)
          intro a8 hr8
          refine WPw.seq (WPw.block (WPw.seq (WPw.region ?_)))
          refine WLw.val (x := .ptr 1 3) hr8 rfl (by kernel_rfl) (by rw [Cnt]; rfl) fun a9 hr9 => ?_
          refine WLw.val (x := .bsl 0 n c) hr9 rfl (by kernel_rfl) (by rw [Cnt]; rfl) fun a10 hr10 => ?_
          refine WLw.val (x := .int .i64 i) hr10 rfl (by kernel_rfl) (by rw [Cnt]; rfl) fun a11 hr11 => ?_
          refine WLw.tval (x := .ptr 0 ((i : Int).toNat * 4)) (ob := [(decide (0 ≤ (i : Int) ∧ (i : Int) < (n : Int)), true)]) hr11 rfl (by kernel_rfl) (okO_cons (in_at hlt) okO_nil) (by rw [Cnt]; rfl) fun a12 hr12 => ?_
          refine WLw.tval (x := .agg ((cs.drop ((i : Int).toNat * 4)).take 4)) (ob := [(decide (4 ≤ (cs.drop ((i : Int).toNat * 4)).length), true)]) hr12 rfl (by kernel_rfl) (okO_cons (by rw [decide_eq_true_eq, Int.toNat_natCast, hd]; simp) okO_nil) (by rw [Cnt]; rfl) fun a13 hr13 => ?_
          have hl4 : (cs.drop ((i : Int).toNat * 4)).take 4 = [c0, c1, c2, .exact u] := by rw [Int.toNat_natCast, hd]; rfl
          rw [hl4] at hr13
          have hβ0 : ∀ i, i < C.nb → C.E0.β i = b := fun i _ => Cβ i
          have im7 : ∀ k, im0 k → w7.heap[k]? = w.heap[k]? := fun k hk => by
            have := hr13.keep k (by rw [Cw]; exact (hi k hk).2) (fun i' _ e => (hi k hk).1 (by rw [← e, Cβ]; exact hSb)) (by rw [Cwr]; exact (hi k hk).1)
            rwa [Cw] at this
          have sz7 : w.heap.size ≤ w7.heap.size := Cw ▸ hr13.sz
          refine WLw.call (args := [.agg [c0, c1, c2, .exact u]]) hr13 rfl rfl (by kernel_rfl) Tryd.func17 (by decide) rfl fun vs' hvs' => ?_
          obtain ⟨v', us', rfl, hv', hus'⟩ := hvs'.cons_inv
          obtain rfl := hus'.nil_inv
          obtain ⟨ys, rfl, hys⟩ := hv'.agg_inv
          obtain ⟨y0, ys, rfl, _, hys⟩ := hys.cons_inv
          obtain ⟨y1, ys, rfl, _, hys⟩ := hys.cons_inv
          obtain ⟨y2, ys, rfl, _, hys⟩ := hys.cons_inv
          obtain ⟨y3, ys, rfl, hy3, hys⟩ := hys.cons_inv
          obtain rfl := hys.nil_inv
          obtain rfl : y3 = u := by
            have h := hy3.pure rfl
            cases h; rfl
          have hou7 : Own w7 N (Sf i) y3 := hou.move (fun _ h => h) (keepS hr6 rfl hk7 i)
          refine (ih (Sf i) im0 w7 y0 y1 y2 y3 hou7 (fun k hk => Nat.lt_of_lt_of_le (hSw i k hk) sz7) (fun k hk => ⟨fun h => (hi k hk).1 (hSf i k h).1, Nat.lt_of_lt_of_le (hi k hk).2 sz7⟩) (fun g cs hg' => (hg g cs hg').move (fun _ h => h) im7)).mono ?_
          rintro e w8 ⟨rfl, hsz, hos, htp, hou8, hkp⟩
          refine ⟨_, rfl, ?_⟩
          have hrn : Rel G0 C E7 (T cs i) a13 w7 := hr13.norm [1, 2]
          have hr14 := rel_spoilt (S := Sf i) (im0 := im0) (w3 := w8) hrn rfl (fun s => ?_) (fun bb hbb x hx => ?_) (fun k hk => by rw [Cwr]; exact (hSf i k hk).1) (nS hrn i) (fun k hk => ⟨fun h => (hi k hk).1 (hSf i k h).1, Nat.lt_of_lt_of_le (hi k hk).2 sz7, fun i' hi' e => ?_⟩) (fun g cs hg' => (hg g cs hg').move (fun _ h => h) fun k hk => (hkp k (Nat.lt_of_lt_of_le (hi k hk).2 sz7) fun h => (hi k hk).1 (hSf i k h).1).trans (im7 k hk)) Cim hsz hos htp hou8 hkp
          · have hr15 := hr14.put (d := some 15) (by rw [Cnt]; rfl) (VRep.junk (.tuple #[]))
            refine WLw.nil hr15 ?_
            intro a16 hr16
            refine WPw.runQ hr16 { S0 with orc := orcM [(21, [(20, true)])], tsb := true } 50 21 Cnt [1, 2] (e := .normal) (z := T (splice cs ((i : Int).toNat * 4) [.int .i64 77, .int .i64 0, .str ⟨#[]⟩, .nil]) i) (o := [(decide (0 ≤ (i : Int) ∧ (i : Int) < (n : Int)), true), (Nat.ble ((i : Int).toNat * 4 + 4) cs.length, true)]) (by kernel_rfl) (okO_cons (in_at hlt) (okO_cons (by rw [Nat.ble_eq, Int.toNat_natCast]; exact hlen4) okO_nil)) fun E9 w9 a9 hk9 hr9 => ?_
            intro a17 hr17
            refine WPw.runQ hr17 S0 50 21 Cnt [1, 2] (e := .normal) (z := ⟨[(1, .ptr 1 0), (2, .int .i64 (IntKind.i64.wrap ((i : Int) + 1)))], (T (splice cs ((i : Int).toNat * 4) [.int .i64 77, .int .i64 0, .str ⟨#[]⟩, .nil]) i).h⟩) (by kernel_rfl) okO_nil fun E10 w10 a10 hk10 hr10' => ?_
            refine ⟨i + 1, ⟨hlt, splice cs (i * 4) [.int .i64 77, .int .i64 0, .str ⟨#[]⟩, .nil], ?_, by rw [splice_length]; exact hcl, splice_mem _ _ _ hfree fun x hx => ?_, fun j h1 h2 => ?_⟩, by omega⟩
            · rw [wrap1 i (by omega), Int.toNat_natCast]
            · simp only [List.mem_cons, List.not_mem_nil, or_false] at hx
              rcases hx with rfl | rfl | rfl | rfl <;> exact .lone rfl
            · obtain ⟨u', hu', ho'⟩ := hk6 j (by omega) h2
              refine ⟨u', by rw [splice_ne _ _ _ _ (.inr (by simp only [List.length_cons, List.length_nil]; omega))]; exact hu', ho'.move (fun _ h => h) fun k hk => ?_⟩
              exact (keepS hr17 rfl hk10 j k hk).trans ((keepS hr16 rfl hk9 j k hk).trans ((hkp k (Nat.lt_of_lt_of_le (hSw j k hk) sz7) fun h => absurd (hdis i j k h hk) (by omega)).trans (keepS hr6 rfl hk7 j k hk)))
          · simp only [T, lk]
            split
            · exact .ptr 1 0
            · split
              · exact .lone rfl
              · exact .junk
          · simp only [T, List.mem_cons, List.not_mem_nil, or_false] at hbb
            rcases hbb with rfl | rfl
            · exact hfree x hx
            · simp only [D, List.mem_cons, List.not_mem_nil, or_false] at hx
              rcases hx with rfl | rfl | rfl | rfl
              · exact .junk
              · exact .junk
              · exact .junk
              · exact .bsl 0 n c
          · rcases Nat.lt_or_ge i' 1 with h1 | h1
            · obtain rfl : i' = 0 := by omega
              rw [hrn.β 0 (by omega), Cβ] at e
              exact (hi k hk).1 (e ▸ hSb)
            · have := hrn.own i' (by omega) hi'
              rw [Cw] at this
              have := (hi k hk).2
              omega
        · refine WPw.seq (WPw.runQ hr6 { S0 with orc := orcM [(21, [(7, false)])] } 50 21 Cnt [1, 2] (e := .exit 0) (z := T cs i) (o := [(decide ((i : Int) < (n : Int)), false), (false, false)]) (by kernel_rfl) (okO_cons (ge_at hge) (okO_cons (rfl) okO_nil)) fun E7 w7 a7 hk7 hr7 => ?_)
          simp only [thenW, blockW, if_true]
          refine ⟨.inl trivial, .tup [], rfl, fun v a' r hv => ?_⟩
          obtain ⟨us, rfl, hus⟩ := hv.tup_inv
          obtain rfl := hus.nil_inv
          refine ⟨rfl, Cw ▸ r.sz, Cw ▸ r.os, Cw ▸ r.tape, Cw ▸ r.out, fun k hk hns => ?_⟩
          have := r.keep k (by rw [Cw]; exact hk) (fun i' _ e => hns (by rw [← e, Cβ]; exact hSb)) (by rw [Cwr]; exact hns)
          rwa [Cw] at this
end Seat
end Go.Proofs.YteimebpgmfhgjaaDoor
namespace Go.Proofs.YteimebpgmfhgjaaDoor
open Go.AS
set_option linter.unusedVariables false
set_option linter.unusedSimpArgs false
set_option maxRecDepth 100000
namespace Seat
theorem okN {b c : Bool} {l : Ob} (h : b = c) (t : okO l) : okO ((b, c) :: l) := fun p hp => by
  rcases List.mem_cons.1 hp with rfl | hp
  · exact h
  · exact t p hp
theorem lit_ne {s l : ByteArray} (h : s ≠ l) : (l.toList == s.toList) = false := by
  rw [beq_eq_false_iff_ne]
  intro he
  rw [ByteArray.toList_eq, ByteArray.toList_eq] at he
  exact h (Go.WideShapes.bytes_inj he.symm)
theorem lit_ne' {s l : ByteArray} (h : s ≠ l) : (s.toList == l.toList) = false := by
  rw [beq_eq_false_iff_ne]
  intro he
  rw [ByteArray.toList_eq, ByteArray.toList_eq] at he
  exact h (Go.WideShapes.bytes_inj he)
end Seat
end Go.Proofs.YteimebpgmfhgjaaDoor
