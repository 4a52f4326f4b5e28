/- The program's types, as the engine wants them. Printed by gen.py (this session's). -/
import Derived.Test.YteimebpgmfhgjaaDoorProg
import Derived.Test.YteimebpgmfhgjaaDoorEngO
namespace Go.Proofs.YteimebpgmfhgjaaDoor
open Go.AS
set_option linter.unusedVariables false
namespace Seat
def d1 : TD := ⟨.func, 1, 8, [.nilfunc]⟩
theorem o1 : d1.ok Tryd.prog 1 := TD.ok_of Tryd.underlying1 ⟨_, _, _, rfl⟩ (by kernel_rfl)
def d2 : TD := ⟨.int .i64, 1, 8, [.int .i64 0]⟩
theorem o2 : d2.ok Tryd.prog 2 := TD.ok_of Tryd.underlying2 rfl (by kernel_rfl)
def d3 : TD := ⟨.int .i64, 1, 8, [.int .i64 0]⟩
theorem o3 : d3.ok Tryd.prog 3 := TD.ok_of Tryd.underlying3 rfl (by kernel_rfl)
def d4 : TD := ⟨.bool, 1, 1, [.bool false]⟩
theorem o4 : d4.ok Tryd.prog 4 := TD.ok_of Tryd.underlying4 rfl (by kernel_rfl)
def d5 : TD := ⟨.int .u8, 1, 1, [.int .u8 0]⟩
theorem o5 : d5.ok Tryd.prog 5 := TD.ok_of Tryd.underlying5 rfl (by kernel_rfl)
def d6 : TD := ⟨.int .u8, 1, 1, [.int .u8 0]⟩
theorem o6 : d6.ok Tryd.prog 6 := TD.ok_of Tryd.underlying6 rfl (by kernel_rfl)
def d7 : TD := ⟨.struct [(0, 2), (1, 3), (2, 4), (3, 6)], 4, 24, [.int .i64 0, .int .i64 0, .bool false, .int .u8 0]⟩
theorem o7 : d7.ok Tryd.prog 7 := TD.ok_of Tryd.underlying7 ⟨_, rfl, rfl⟩ (by kernel_rfl)
def d8 : TD := ⟨.struct [(0, 2), (1, 3), (2, 4), (3, 6)], 4, 24, [.int .i64 0, .int .i64 0, .bool false, .int .u8 0]⟩
theorem o8 : d8.ok Tryd.prog 8 := TD.ok_of Tryd.underlying8 ⟨_, rfl, rfl⟩ (by kernel_rfl)
def d9 : TD := ⟨.str, 1, 16, [.str ⟨#[]⟩]⟩
theorem o9 : d9.ok Tryd.prog 9 := TD.ok_of Tryd.underlying9 rfl (by kernel_rfl)
def d10 : TD := ⟨.str, 1, 16, [.str ⟨#[]⟩]⟩
theorem o10 : d10.ok Tryd.prog 10 := TD.ok_of Tryd.underlying10 rfl (by kernel_rfl)
def d11 : TD := ⟨.str, 1, 16, [.str ⟨#[]⟩]⟩
theorem o11 : d11.ok Tryd.prog 11 := TD.ok_of Tryd.underlying11 rfl (by kernel_rfl)
def d12 : TD := ⟨.int .u64, 1, 8, [.int .u64 0]⟩
theorem o12 : d12.ok Tryd.prog 12 := TD.ok_of Tryd.underlying12 rfl (by kernel_rfl)
def d13 : TD := ⟨.struct [(0, 9), (1, 12)], 2, 24, [.str ⟨#[]⟩, .int .u64 0]⟩
theorem o13 : d13.ok Tryd.prog 13 := TD.ok_of Tryd.underlying13 ⟨_, rfl, rfl⟩ (by kernel_rfl)
def d14 : TD := ⟨.struct [(0, 9), (1, 12)], 2, 24, [.str ⟨#[]⟩, .int .u64 0]⟩
theorem o14 : d14.ok Tryd.prog 14 := TD.ok_of Tryd.underlying14 ⟨_, rfl, rfl⟩ (by kernel_rfl)
def d15 : TD := ⟨.ptr 115, 1, 8, [.nilptr]⟩
theorem o15 : d15.ok Tryd.prog 15 := TD.ok_of Tryd.underlying15 rfl (by kernel_rfl)
def d16 : TD := ⟨.ptr 118, 1, 8, [.nilptr]⟩
theorem o16 : d16.ok Tryd.prog 16 := TD.ok_of Tryd.underlying16 rfl (by kernel_rfl)
def d17 : TD := ⟨.ptr 127, 1, 8, [.nilptr]⟩
theorem o17 : d17.ok Tryd.prog 17 := TD.ok_of Tryd.underlying17 rfl (by kernel_rfl)
def d18 : TD := ⟨.struct [(0, 17)], 1, 8, [.nilptr]⟩
theorem o18 : d18.ok Tryd.prog 18 := TD.ok_of Tryd.underlying18 ⟨_, rfl, rfl⟩ (by kernel_rfl)
def d19 : TD := ⟨.struct [(0, 17)], 1, 8, [.nilptr]⟩
theorem o19 : d19.ok Tryd.prog 19 := TD.ok_of Tryd.underlying19 ⟨_, rfl, rfl⟩ (by kernel_rfl)
def d20 : TD := ⟨.iface, 1, 16, [.niliface]⟩
theorem o20 : d20.ok Tryd.prog 20 := TD.ok_of Tryd.underlying20 ⟨_, rfl⟩ (by kernel_rfl)
def d21 : TD := ⟨.int .i32, 1, 4, [.int .i32 0]⟩
theorem o21 : d21.ok Tryd.prog 21 := TD.ok_of Tryd.underlying21 rfl (by kernel_rfl)
def d22 : TD := ⟨.slice 24, 1, 24, [.nil]⟩
theorem o22 : d22.ok Tryd.prog 22 := TD.ok_of Tryd.underlying22 rfl (by kernel_rfl)
def d23 : TD := ⟨.struct [(0, 3), (1, 2), (2, 9), (3, 22)], 4, 56, [.int .i64 0, .int .i64 0, .str ⟨#[]⟩, .nil]⟩
theorem o23 : d23.ok Tryd.prog 23 := TD.ok_of Tryd.underlying23 ⟨_, rfl, rfl⟩ (by kernel_rfl)
def d24 : TD := ⟨.struct [(0, 3), (1, 2), (2, 9), (3, 22)], 4, 56, [.int .i64 0, .int .i64 0, .str ⟨#[]⟩, .nil]⟩
theorem o24 : d24.ok Tryd.prog 24 := TD.ok_of Tryd.underlying24 ⟨_, rfl, rfl⟩ (by kernel_rfl)
def d25 : TD := ⟨.func, 1, 8, [.nilfunc]⟩
theorem o25 : d25.ok Tryd.prog 25 := TD.ok_of Tryd.underlying25 ⟨_, _, _, rfl⟩ (by kernel_rfl)
def d26 : TD := ⟨.int .i64, 1, 8, [.int .i64 0]⟩
theorem o26 : d26.ok Tryd.prog 26 := TD.ok_of Tryd.underlying26 rfl (by kernel_rfl)
def d28 : TD := ⟨.func, 1, 8, [.nilfunc]⟩
theorem o28 : d28.ok Tryd.prog 28 := TD.ok_of Tryd.underlying28 ⟨_, _, _, rfl⟩ (by kernel_rfl)
def d30 : TD := ⟨.func, 1, 8, [.nilfunc]⟩
theorem o30 : d30.ok Tryd.prog 30 := TD.ok_of Tryd.underlying30 ⟨_, _, _, rfl⟩ (by kernel_rfl)
def d31 : TD := ⟨.func, 1, 8, [.nilfunc]⟩
theorem o31 : d31.ok Tryd.prog 31 := TD.ok_of Tryd.underlying31 ⟨_, _, _, rfl⟩ (by kernel_rfl)
def d32 : TD := ⟨.func, 1, 8, [.nilfunc]⟩
theorem o32 : d32.ok Tryd.prog 32 := TD.ok_of Tryd.underlying32 ⟨_, _, _, rfl⟩ (by kernel_rfl)
def d33 : TD := ⟨.func, 1, 8, [.nilfunc]⟩
theorem o33 : d33.ok Tryd.prog 33 := TD.ok_of Tryd.underlying33 ⟨_, _, _, rfl⟩ (by kernel_rfl)
def d34 : TD := ⟨.func, 1, 8, [.nilfunc]⟩
theorem o34 : d34.ok Tryd.prog 34 := TD.ok_of Tryd.underlying34 ⟨_, _, _, rfl⟩ (by kernel_rfl)
def d35 : TD := ⟨.func, 1, 8, [.nilfunc]⟩
theorem o35 : d35.ok Tryd.prog 35 := TD.ok_of Tryd.underlying35 ⟨_, _, _, rfl⟩ (by kernel_rfl)
def d36 : TD := ⟨.func, 1, 8, [.nilfunc]⟩
theorem o36 : d36.ok Tryd.prog 36 := TD.ok_of Tryd.underlying36 ⟨_, _, _, rfl⟩ (by kernel_rfl)
def d37 : TD := ⟨.func, 1, 8, [.nilfunc]⟩
theorem o37 : d37.ok Tryd.prog 37 := TD.ok_of Tryd.underlying37 ⟨_, _, _, rfl⟩ (by kernel_rfl)
def d38 : TD := ⟨.func, 1, 8, [.nilfunc]⟩
theorem o38 : d38.ok Tryd.prog 38 := TD.ok_of Tryd.underlying38 ⟨_, _, _, rfl⟩ (by kernel_rfl)
def d39 : TD := ⟨.func, 1, 8, [.nilfunc]⟩
theorem o39 : d39.ok Tryd.prog 39 := TD.ok_of Tryd.underlying39 ⟨_, _, _, rfl⟩ (by kernel_rfl)
def d41 : TD := ⟨.func, 1, 8, [.nilfunc]⟩
theorem o41 : d41.ok Tryd.prog 41 := TD.ok_of Tryd.underlying41 ⟨_, _, _, rfl⟩ (by kernel_rfl)
def d42 : TD := ⟨.func, 1, 8, [.nilfunc]⟩
theorem o42 : d42.ok Tryd.prog 42 := TD.ok_of Tryd.underlying42 ⟨_, _, _, rfl⟩ (by kernel_rfl)
def d43 : TD := ⟨.func, 1, 8, [.nilfunc]⟩
theorem o43 : d43.ok Tryd.prog 43 := TD.ok_of Tryd.underlying43 ⟨_, _, _, rfl⟩ (by kernel_rfl)
def d44 : TD := ⟨.int .u64, 1, 8, [.int .u64 0]⟩
theorem o44 : d44.ok Tryd.prog 44 := TD.ok_of Tryd.underlying44 rfl (by kernel_rfl)
def d45 : TD := ⟨.func, 1, 8, [.nilfunc]⟩
theorem o45 : d45.ok Tryd.prog 45 := TD.ok_of Tryd.underlying45 ⟨_, _, _, rfl⟩ (by kernel_rfl)
def d46 : TD := ⟨.func, 1, 8, [.nilfunc]⟩
theorem o46 : d46.ok Tryd.prog 46 := TD.ok_of Tryd.underlying46 ⟨_, _, _, rfl⟩ (by kernel_rfl)
def d47 : TD := ⟨.func, 1, 8, [.nilfunc]⟩
theorem o47 : d47.ok Tryd.prog 47 := TD.ok_of Tryd.underlying47 ⟨_, _, _, rfl⟩ (by kernel_rfl)
def d48 : TD := ⟨.struct [(0, 2), (1, 2), (2, 2), (3, 24), (7, 24)], 11, 136, [.int .i64 0, .int .i64 0, .int .i64 0, .int .i64 0, .int .i64 0, .str ⟨#[]⟩, .nil, .int .i64 0, .int .i64 0, .str ⟨#[]⟩, .nil]⟩
theorem o48 : d48.ok Tryd.prog 48 := TD.ok_of Tryd.underlying48 ⟨_, rfl, rfl⟩ (by kernel_rfl)
def d49 : TD := ⟨.struct [(0, 2), (1, 2), (2, 2), (3, 24), (7, 24)], 11, 136, [.int .i64 0, .int .i64 0, .int .i64 0, .int .i64 0, .int .i64 0, .str ⟨#[]⟩, .nil, .int .i64 0, .int .i64 0, .str ⟨#[]⟩, .nil]⟩
theorem o49 : d49.ok Tryd.prog 49 := TD.ok_of Tryd.underlying49 ⟨_, rfl, rfl⟩ (by kernel_rfl)
def d50 : TD := ⟨.slice 2, 1, 24, [.nil]⟩
theorem o50 : d50.ok Tryd.prog 50 := TD.ok_of Tryd.underlying50 rfl (by kernel_rfl)
def d51 : TD := ⟨.func, 1, 8, [.nilfunc]⟩
theorem o51 : d51.ok Tryd.prog 51 := TD.ok_of Tryd.underlying51 ⟨_, _, _, rfl⟩ (by kernel_rfl)
def d52 : TD := ⟨.slice 9, 1, 24, [.nil]⟩
theorem o52 : d52.ok Tryd.prog 52 := TD.ok_of Tryd.underlying52 rfl (by kernel_rfl)
def d53 : TD := ⟨.func, 1, 8, [.nilfunc]⟩
theorem o53 : d53.ok Tryd.prog 53 := TD.ok_of Tryd.underlying53 ⟨_, _, _, rfl⟩ (by kernel_rfl)
def d54 : TD := ⟨.func, 1, 8, [.nilfunc]⟩
theorem o54 : d54.ok Tryd.prog 54 := TD.ok_of Tryd.underlying54 ⟨_, _, _, rfl⟩ (by kernel_rfl)
def d55 : TD := ⟨.func, 1, 8, [.nilfunc]⟩
theorem o55 : d55.ok Tryd.prog 55 := TD.ok_of Tryd.underlying55 ⟨_, _, _, rfl⟩ (by kernel_rfl)
def d57 : TD := ⟨.func, 1, 8, [.nilfunc]⟩
theorem o57 : d57.ok Tryd.prog 57 := TD.ok_of Tryd.underlying57 ⟨_, _, _, rfl⟩ (by kernel_rfl)
def d59 : TD := ⟨.func, 1, 8, [.nilfunc]⟩
theorem o59 : d59.ok Tryd.prog 59 := TD.ok_of Tryd.underlying59 ⟨_, _, _, rfl⟩ (by kernel_rfl)
def d60 : TD := ⟨.func, 1, 8, [.nilfunc]⟩
theorem o60 : d60.ok Tryd.prog 60 := TD.ok_of Tryd.underlying60 ⟨_, _, _, rfl⟩ (by kernel_rfl)
def d62 : TD := ⟨.func, 1, 8, [.nilfunc]⟩
theorem o62 : d62.ok Tryd.prog 62 := TD.ok_of Tryd.underlying62 ⟨_, _, _, rfl⟩ (by kernel_rfl)
def d63 : TD := ⟨.func, 1, 8, [.nilfunc]⟩
theorem o63 : d63.ok Tryd.prog 63 := TD.ok_of Tryd.underlying63 ⟨_, _, _, rfl⟩ (by kernel_rfl)
def d64 : TD := ⟨.func, 1, 8, [.nilfunc]⟩
theorem o64 : d64.ok Tryd.prog 64 := TD.ok_of Tryd.underlying64 ⟨_, _, _, rfl⟩ (by kernel_rfl)
def d65 : TD := ⟨.func, 1, 8, [.nilfunc]⟩
theorem o65 : d65.ok Tryd.prog 65 := TD.ok_of Tryd.underlying65 ⟨_, _, _, rfl⟩ (by kernel_rfl)
def d66 : TD := ⟨.func, 1, 8, [.nilfunc]⟩
theorem o66 : d66.ok Tryd.prog 66 := TD.ok_of Tryd.underlying66 ⟨_, _, _, rfl⟩ (by kernel_rfl)
def d67 : TD := ⟨.func, 1, 8, [.nilfunc]⟩
theorem o67 : d67.ok Tryd.prog 67 := TD.ok_of Tryd.underlying67 ⟨_, _, _, rfl⟩ (by kernel_rfl)
def d68 : TD := ⟨.func, 1, 8, [.nilfunc]⟩
theorem o68 : d68.ok Tryd.prog 68 := TD.ok_of Tryd.underlying68 ⟨_, _, _, rfl⟩ (by kernel_rfl)
def d69 : TD := ⟨.slice 4, 1, 24, [.nil]⟩
theorem o69 : d69.ok Tryd.prog 69 := TD.ok_of Tryd.underlying69 rfl (by kernel_rfl)
def d70 : TD := ⟨.ptr 72, 1, 8, [.nilptr]⟩
theorem o70 : d70.ok Tryd.prog 70 := TD.ok_of Tryd.underlying70 rfl (by kernel_rfl)
def d71 : TD := ⟨.struct [(0, 3)], 1, 8, [.int .i64 0]⟩
theorem o71 : d71.ok Tryd.prog 71 := TD.ok_of Tryd.underlying71 ⟨_, rfl, rfl⟩ (by kernel_rfl)
def d72 : TD := ⟨.struct [(0, 3)], 1, 8, [.int .i64 0]⟩
theorem o72 : d72.ok Tryd.prog 72 := TD.ok_of Tryd.underlying72 ⟨_, rfl, rfl⟩ (by kernel_rfl)
def d73 : TD := ⟨.func, 1, 8, [.nilfunc]⟩
theorem o73 : d73.ok Tryd.prog 73 := TD.ok_of Tryd.underlying73 ⟨_, _, _, rfl⟩ (by kernel_rfl)
def d74 : TD := ⟨.func, 1, 8, [.nilfunc]⟩
theorem o74 : d74.ok Tryd.prog 74 := TD.ok_of Tryd.underlying74 ⟨_, _, _, rfl⟩ (by kernel_rfl)
def d75 : TD := ⟨.slice 76, 1, 24, [.nil]⟩
theorem o75 : d75.ok Tryd.prog 75 := TD.ok_of Tryd.underlying75 rfl (by kernel_rfl)
def d76 : TD := ⟨.struct [(0, 9), (1, 3)], 2, 24, [.str ⟨#[]⟩, .int .i64 0]⟩
theorem o76 : d76.ok Tryd.prog 76 := TD.ok_of Tryd.underlying76 ⟨_, rfl, rfl⟩ (by kernel_rfl)
def d77 : TD := ⟨.func, 1, 8, [.nilfunc]⟩
theorem o77 : d77.ok Tryd.prog 77 := TD.ok_of Tryd.underlying77 ⟨_, _, _, rfl⟩ (by kernel_rfl)
def d78 : TD := ⟨.slice 3, 1, 24, [.nil]⟩
theorem o78 : d78.ok Tryd.prog 78 := TD.ok_of Tryd.underlying78 rfl (by kernel_rfl)
def d79 : TD := ⟨.func, 1, 8, [.nilfunc]⟩
theorem o79 : d79.ok Tryd.prog 79 := TD.ok_of Tryd.underlying79 ⟨_, _, _, rfl⟩ (by kernel_rfl)
def d80 : TD := ⟨.func, 1, 8, [.nilfunc]⟩
theorem o80 : d80.ok Tryd.prog 80 := TD.ok_of Tryd.underlying80 ⟨_, _, _, rfl⟩ (by kernel_rfl)
def d81 : TD := ⟨.func, 1, 8, [.nilfunc]⟩
theorem o81 : d81.ok Tryd.prog 81 := TD.ok_of Tryd.underlying81 ⟨_, _, _, rfl⟩ (by kernel_rfl)
def d82 : TD := ⟨.func, 1, 8, [.nilfunc]⟩
theorem o82 : d82.ok Tryd.prog 82 := TD.ok_of Tryd.underlying82 ⟨_, _, _, rfl⟩ (by kernel_rfl)
def d84 : TD := ⟨.func, 1, 8, [.nilfunc]⟩
theorem o84 : d84.ok Tryd.prog 84 := TD.ok_of Tryd.underlying84 ⟨_, _, _, rfl⟩ (by kernel_rfl)
def d85 : TD := ⟨.func, 1, 8, [.nilfunc]⟩
theorem o85 : d85.ok Tryd.prog 85 := TD.ok_of Tryd.underlying85 ⟨_, _, _, rfl⟩ (by kernel_rfl)
def d86 : TD := ⟨.func, 1, 8, [.nilfunc]⟩
theorem o86 : d86.ok Tryd.prog 86 := TD.ok_of Tryd.underlying86 ⟨_, _, _, rfl⟩ (by kernel_rfl)
def d87 : TD := ⟨.func, 1, 8, [.nilfunc]⟩
theorem o87 : d87.ok Tryd.prog 87 := TD.ok_of Tryd.underlying87 ⟨_, _, _, rfl⟩ (by kernel_rfl)
def d88 : TD := ⟨.func, 1, 8, [.nilfunc]⟩
theorem o88 : d88.ok Tryd.prog 88 := TD.ok_of Tryd.underlying88 ⟨_, _, _, rfl⟩ (by kernel_rfl)
def d89 : TD := ⟨.func, 1, 8, [.nilfunc]⟩
theorem o89 : d89.ok Tryd.prog 89 := TD.ok_of Tryd.underlying89 ⟨_, _, _, rfl⟩ (by kernel_rfl)
def d90 : TD := ⟨.func, 1, 8, [.nilfunc]⟩
theorem o90 : d90.ok Tryd.prog 90 := TD.ok_of Tryd.underlying90 ⟨_, _, _, rfl⟩ (by kernel_rfl)
def d91 : TD := ⟨.func, 1, 8, [.nilfunc]⟩
theorem o91 : d91.ok Tryd.prog 91 := TD.ok_of Tryd.underlying91 ⟨_, _, _, rfl⟩ (by kernel_rfl)
def d92 : TD := ⟨.slice 5, 1, 24, [.nil]⟩
theorem o92 : d92.ok Tryd.prog 92 := TD.ok_of Tryd.underlying92 rfl (by kernel_rfl)
def d93 : TD := ⟨.func, 1, 8, [.nilfunc]⟩
theorem o93 : d93.ok Tryd.prog 93 := TD.ok_of Tryd.underlying93 ⟨_, _, _, rfl⟩ (by kernel_rfl)
def d94 : TD := ⟨.func, 1, 8, [.nilfunc]⟩
theorem o94 : d94.ok Tryd.prog 94 := TD.ok_of Tryd.underlying94 ⟨_, _, _, rfl⟩ (by kernel_rfl)
def d95 : TD := ⟨.func, 1, 8, [.nilfunc]⟩
theorem o95 : d95.ok Tryd.prog 95 := TD.ok_of Tryd.underlying95 ⟨_, _, _, rfl⟩ (by kernel_rfl)
def d96 : TD := ⟨.func, 1, 8, [.nilfunc]⟩
theorem o96 : d96.ok Tryd.prog 96 := TD.ok_of Tryd.underlying96 ⟨_, _, _, rfl⟩ (by kernel_rfl)
def d97 : TD := ⟨.array 24 5, 24, 24, [.int .u8 0, .int .u8 0, .int .u8 0, .int .u8 0, .int .u8 0, .int .u8 0, .int .u8 0, .int .u8 0, .int .u8 0, .int .u8 0, .int .u8 0, .int .u8 0, .int .u8 0, .int .u8 0, .int .u8 0, .int .u8 0, .int .u8 0, .int .u8 0, .int .u8 0, .int .u8 0, .int .u8 0, .int .u8 0, .int .u8 0, .int .u8 0]⟩
theorem o97 : d97.ok Tryd.prog 97 := TD.ok_of Tryd.underlying97 rfl (by kernel_rfl)
def d98 : TD := ⟨.func, 1, 8, [.nilfunc]⟩
theorem o98 : d98.ok Tryd.prog 98 := TD.ok_of Tryd.underlying98 ⟨_, _, _, rfl⟩ (by kernel_rfl)
def d99 : TD := ⟨.func, 1, 8, [.nilfunc]⟩
theorem o99 : d99.ok Tryd.prog 99 := TD.ok_of Tryd.underlying99 ⟨_, _, _, rfl⟩ (by kernel_rfl)
def d101 : TD := ⟨.func, 1, 8, [.nilfunc]⟩
theorem o101 : d101.ok Tryd.prog 101 := TD.ok_of Tryd.underlying101 ⟨_, _, _, rfl⟩ (by kernel_rfl)
def d102 : TD := ⟨.func, 1, 8, [.nilfunc]⟩
theorem o102 : d102.ok Tryd.prog 102 := TD.ok_of Tryd.underlying102 ⟨_, _, _, rfl⟩ (by kernel_rfl)
def d103 : TD := ⟨.func, 1, 8, [.nilfunc]⟩
theorem o103 : d103.ok Tryd.prog 103 := TD.ok_of Tryd.underlying103 ⟨_, _, _, rfl⟩ (by kernel_rfl)
def d104 : TD := ⟨.array 20 44, 20, 160, [.int .u64 0, .int .u64 0, .int .u64 0, .int .u64 0, .int .u64 0, .int .u64 0, .int .u64 0, .int .u64 0, .int .u64 0, .int .u64 0, .int .u64 0, .int .u64 0, .int .u64 0, .int .u64 0, .int .u64 0, .int .u64 0, .int .u64 0, .int .u64 0, .int .u64 0, .int .u64 0]⟩
theorem o104 : d104.ok Tryd.prog 104 := TD.ok_of Tryd.underlying104 rfl (by kernel_rfl)
def d105 : TD := ⟨.int .u32, 1, 4, [.int .u32 0]⟩
theorem o105 : d105.ok Tryd.prog 105 := TD.ok_of Tryd.underlying105 rfl (by kernel_rfl)
def d107 : TD := ⟨.func, 1, 8, [.nilfunc]⟩
theorem o107 : d107.ok Tryd.prog 107 := TD.ok_of Tryd.underlying107 ⟨_, _, _, rfl⟩ (by kernel_rfl)
def d108 : TD := ⟨.int .u64, 1, 8, [.int .u64 0]⟩
theorem o108 : d108.ok Tryd.prog 108 := TD.ok_of Tryd.underlying108 rfl (by kernel_rfl)
def d109 : TD := ⟨.func, 1, 8, [.nilfunc]⟩
theorem o109 : d109.ok Tryd.prog 109 := TD.ok_of Tryd.underlying109 ⟨_, _, _, rfl⟩ (by kernel_rfl)
def d110 : TD := ⟨.func, 1, 8, [.nilfunc]⟩
theorem o110 : d110.ok Tryd.prog 110 := TD.ok_of Tryd.underlying110 ⟨_, _, _, rfl⟩ (by kernel_rfl)
def d111 : TD := ⟨.array 32 5, 32, 32, [.int .u8 0, .int .u8 0, .int .u8 0, .int .u8 0, .int .u8 0, .int .u8 0, .int .u8 0, .int .u8 0, .int .u8 0, .int .u8 0, .int .u8 0, .int .u8 0, .int .u8 0, .int .u8 0, .int .u8 0, .int .u8 0, .int .u8 0, .int .u8 0, .int .u8 0, .int .u8 0, .int .u8 0, .int .u8 0, .int .u8 0, .int .u8 0, .int .u8 0, .int .u8 0, .int .u8 0, .int .u8 0, .int .u8 0, .int .u8 0, .int .u8 0, .int .u8 0]⟩
theorem o111 : d111.ok Tryd.prog 111 := TD.ok_of Tryd.underlying111 rfl (by kernel_rfl)
def d112 : TD := ⟨.array 64 5, 64, 64, [.int .u8 0, .int .u8 0, .int .u8 0, .int .u8 0, .int .u8 0, .int .u8 0, .int .u8 0, .int .u8 0, .int .u8 0, .int .u8 0, .int .u8 0, .int .u8 0, .int .u8 0, .int .u8 0, .int .u8 0, .int .u8 0, .int .u8 0, .int .u8 0, .int .u8 0, .int .u8 0, .int .u8 0, .int .u8 0, .int .u8 0, .int .u8 0, .int .u8 0, .int .u8 0, .int .u8 0, .int .u8 0, .int .u8 0, .int .u8 0, .int .u8 0, .int .u8 0, .int .u8 0, .int .u8 0, .int .u8 0, .int .u8 0, .int .u8 0, .int .u8 0, .int .u8 0, .int .u8 0, .int .u8 0, .int .u8 0, .int .u8 0, .int .u8 0, .int .u8 0, .int .u8 0, .int .u8 0, .int .u8 0, .int .u8 0, .int .u8 0, .int .u8 0, .int .u8 0, .int .u8 0, .int .u8 0, .int .u8 0, .int .u8 0, .int .u8 0, .int .u8 0, .int .u8 0, .int .u8 0, .int .u8 0, .int .u8 0, .int .u8 0, .int .u8 0]⟩
theorem o112 : d112.ok Tryd.prog 112 := TD.ok_of Tryd.underlying112 rfl (by kernel_rfl)
def d113 : TD := ⟨.func, 1, 8, [.nilfunc]⟩
theorem o113 : d113.ok Tryd.prog 113 := TD.ok_of Tryd.underlying113 ⟨_, _, _, rfl⟩ (by kernel_rfl)
def d114 : TD := ⟨.struct [(0, 17), (1, 17), (2, 17), (3, 9)], 4, 40, [.nilptr, .nilptr, .nilptr, .str ⟨#[]⟩]⟩
theorem o114 : d114.ok Tryd.prog 114 := TD.ok_of Tryd.underlying114 ⟨_, rfl, rfl⟩ (by kernel_rfl)
def d115 : TD := ⟨.struct [(0, 17), (1, 17), (2, 17), (3, 9)], 4, 40, [.nilptr, .nilptr, .nilptr, .str ⟨#[]⟩]⟩
theorem o115 : d115.ok Tryd.prog 115 := TD.ok_of Tryd.underlying115 ⟨_, rfl, rfl⟩ (by kernel_rfl)
def d116 : TD := ⟨.array 0 16, 0, 0, []⟩
theorem o116 : d116.ok Tryd.prog 116 := TD.ok_of Tryd.underlying116 rfl (by kernel_rfl)
def d117 : TD := ⟨.struct [(0, 116)], 0, 0, []⟩
theorem o117 : d117.ok Tryd.prog 117 := TD.ok_of Tryd.underlying117 ⟨_, rfl, rfl⟩ (by kernel_rfl)
def d118 : TD := ⟨.struct [(0, 116)], 0, 0, []⟩
theorem o118 : d118.ok Tryd.prog 118 := TD.ok_of Tryd.underlying118 ⟨_, rfl, rfl⟩ (by kernel_rfl)
def d119 : TD := ⟨.func, 1, 8, [.nilfunc]⟩
theorem o119 : d119.ok Tryd.prog 119 := TD.ok_of Tryd.underlying119 ⟨_, _, _, rfl⟩ (by kernel_rfl)
def d120 : TD := ⟨.int .u8, 1, 1, [.int .u8 0]⟩
theorem o120 : d120.ok Tryd.prog 120 := TD.ok_of Tryd.underlying120 rfl (by kernel_rfl)
def d121 : TD := ⟨.int .u8, 1, 1, [.int .u8 0]⟩
theorem o121 : d121.ok Tryd.prog 121 := TD.ok_of Tryd.underlying121 rfl (by kernel_rfl)
def d122 : TD := ⟨.func, 1, 8, [.nilfunc]⟩
theorem o122 : d122.ok Tryd.prog 122 := TD.ok_of Tryd.underlying122 ⟨_, _, _, rfl⟩ (by kernel_rfl)
def d123 : TD := ⟨.ptr 5, 1, 8, [.nilptr]⟩
theorem o123 : d123.ok Tryd.prog 123 := TD.ok_of Tryd.underlying123 rfl (by kernel_rfl)
def d124 : TD := ⟨.int .i32, 1, 4, [.int .i32 0]⟩
theorem o124 : d124.ok Tryd.prog 124 := TD.ok_of Tryd.underlying124 rfl (by kernel_rfl)
def d125 : TD := ⟨.int .i32, 1, 4, [.int .i32 0]⟩
theorem o125 : d125.ok Tryd.prog 125 := TD.ok_of Tryd.underlying125 rfl (by kernel_rfl)
def d126 : TD := ⟨.struct [(0, 12), (1, 12), (2, 105), (3, 120), (4, 5), (5, 5), (6, 121), (7, 122), (8, 123), (9, 124), (10, 125)], 11, 48, [.int .u64 0, .int .u64 0, .int .u32 0, .int .u8 0, .int .u8 0, .int .u8 0, .int .u8 0, .nilfunc, .nilptr, .int .i32 0, .int .i32 0]⟩
theorem o126 : d126.ok Tryd.prog 126 := TD.ok_of Tryd.underlying126 ⟨_, rfl, rfl⟩ (by kernel_rfl)
def d127 : TD := ⟨.struct [(0, 12), (1, 12), (2, 105), (3, 120), (4, 5), (5, 5), (6, 121), (7, 122), (8, 123), (9, 124), (10, 125)], 11, 48, [.int .u64 0, .int .u64 0, .int .u32 0, .int .u8 0, .int .u8 0, .int .u8 0, .int .u8 0, .nilfunc, .nilptr, .int .i32 0, .int .i32 0]⟩
theorem o127 : d127.ok Tryd.prog 127 := TD.ok_of Tryd.underlying127 ⟨_, rfl, rfl⟩ (by kernel_rfl)
def tl : List (Nat × TD) := [(1, d1), (2, d2), (3, d3), (4, d4), (5, d5), (6, d6), (7, d7), (8, d8), (9, d9), (10, d10), (11, d11), (12, d12), (13, d13), (14, d14), (15, d15), (16, d16), (17, d17), (18, d18), (19, d19), (20, d20), (21, d21), (22, d22), (23, d23), (24, d24), (25, d25), (26, d26), (28, d28), (30, d30), (31, d31), (32, d32), (33, d33), (34, d34), (35, d35), (36, d36), (37, d37), (38, d38), (39, d39), (41, d41), (42, d42), (43, d43), (44, d44), (45, d45), (46, d46), (47, d47), (48, d48), (49, d49), (50, d50), (51, d51), (52, d52), (53, d53), (54, d54), (55, d55), (57, d57), (59, d59), (60, d60), (62, d62), (63, d63), (64, d64), (65, d65), (66, d66), (67, d67), (68, d68), (69, d69), (70, d70), (71, d71), (72, d72), (73, d73), (74, d74), (75, d75), (76, d76), (77, d77), (78, d78), (79, d79), (80, d80), (81, d81), (82, d82), (84, d84), (85, d85), (86, d86), (87, d87), (88, d88), (89, d89), (90, d90), (91, d91), (92, d92), (93, d93), (94, d94), (95, d95), (96, d96), (97, d97), (98, d98), (99, d99), (101, d101), (102, d102), (103, d103), (104, d104), (105, d105), (107, d107), (108, d108), (109, d109), (110, d110), (111, d111), (112, d112), (113, d113), (114, d114), (115, d115), (116, d116), (117, d117), (118, d118), (119, d119), (120, d120), (121, d121), (122, d122), (123, d123), (124, d124), (125, d125), (126, d126), (127, d127)]
def T (t : TypeId) : Option TD := tl.lookup t
theorem hT : ∀ t td, T t = some td → td.ok Tryd.prog t := lookup_ok (by
  simp only [tl, List.forall_mem_cons, List.not_mem_nil, false_imp_iff, implies_true, and_true]
  exact ⟨o1, o2, o3, o4, o5, o6, o7, o8, o9, o10, o11, o12, o13, o14, o15, o16, o17, o18, o19, o20, o21, o22, o23, o24, o25, o26, o28, o30, o31, o32, o33, o34, o35, o36, o37, o38, o39, o41, o42, o43, o44, o45, o46, o47, o48, o49, o50, o51, o52, o53, o54, o55, o57, o59, o60, o62, o63, o64, o65, o66, o67, o68, o69, o70, o71, o72, o73, o74, o75, o76, o77, o78, o79, o80, o81, o82, o84, o85, o86, o87, o88, o89, o90, o91, o92, o93, o94, o95, o96, o97, o98, o99, o101, o102, o103, o104, o105, o107, o108, o109, o110, o111, o112, o113, o114, o115, o116, o117, o118, o119, o120, o121, o122, o123, o124, o125, o126, o127⟩)
@[push_cast] theorem T1 : T 1 = some d1 := rfl
@[push_cast] theorem T2 : T 2 = some d2 := rfl
@[push_cast] theorem T3 : T 3 = some d3 := rfl
@[push_cast] theorem T4 : T 4 = some d4 := rfl
@[push_cast] theorem T5 : T 5 = some d5 := rfl
@[push_cast] theorem T6 : T 6 = some d6 := rfl
@[push_cast] theorem T7 : T 7 = some d7 := rfl
@[push_cast] theorem T8 : T 8 = some d8 := rfl
@[push_cast] theorem T9 : T 9 = some d9 := rfl
@[push_cast] theorem T10 : T 10 = some d10 := rfl
@[push_cast] theorem T11 : T 11 = some d11 := rfl
@[push_cast] theorem T12 : T 12 = some d12 := rfl
@[push_cast] theorem T13 : T 13 = some d13 := rfl
@[push_cast] theorem T14 : T 14 = some d14 := rfl
@[push_cast] theorem T15 : T 15 = some d15 := rfl
@[push_cast] theorem T16 : T 16 = some d16 := rfl
@[push_cast] theorem T17 : T 17 = some d17 := rfl
@[push_cast] theorem T18 : T 18 = some d18 := rfl
@[push_cast] theorem T19 : T 19 = some d19 := rfl
@[push_cast] theorem T20 : T 20 = some d20 := rfl
@[push_cast] theorem T21 : T 21 = some d21 := rfl
@[push_cast] theorem T22 : T 22 = some d22 := rfl
@[push_cast] theorem T23 : T 23 = some d23 := rfl
@[push_cast] theorem T24 : T 24 = some d24 := rfl
@[push_cast] theorem T25 : T 25 = some d25 := rfl
@[push_cast] theorem T26 : T 26 = some d26 := rfl
@[push_cast] theorem T28 : T 28 = some d28 := rfl
@[push_cast] theorem T30 : T 30 = some d30 := rfl
@[push_cast] theorem T31 : T 31 = some d31 := rfl
@[push_cast] theorem T32 : T 32 = some d32 := rfl
@[push_cast] theorem T33 : T 33 = some d33 := rfl
@[push_cast] theorem T34 : T 34 = some d34 := rfl
@[push_cast] theorem T35 : T 35 = some d35 := rfl
@[push_cast] theorem T36 : T 36 = some d36 := rfl
@[push_cast] theorem T37 : T 37 = some d37 := rfl
@[push_cast] theorem T38 : T 38 = some d38 := rfl
@[push_cast] theorem T39 : T 39 = some d39 := rfl
@[push_cast] theorem T41 : T 41 = some d41 := rfl
@[push_cast] theorem T42 : T 42 = some d42 := rfl
@[push_cast] theorem T43 : T 43 = some d43 := rfl
@[push_cast] theorem T44 : T 44 = some d44 := rfl
@[push_cast] theorem T45 : T 45 = some d45 := rfl
@[push_cast] theorem T46 : T 46 = some d46 := rfl
@[push_cast] theorem T47 : T 47 = some d47 := rfl
@[push_cast] theorem T48 : T 48 = some d48 := rfl
@[push_cast] theorem T49 : T 49 = some d49 := rfl
@[push_cast] theorem T50 : T 50 = some d50 := rfl
@[push_cast] theorem T51 : T 51 = some d51 := rfl
@[push_cast] theorem T52 : T 52 = some d52 := rfl
@[push_cast] theorem T53 : T 53 = some d53 := rfl
@[push_cast] theorem T54 : T 54 = some d54 := rfl
@[push_cast] theorem T55 : T 55 = some d55 := rfl
@[push_cast] theorem T57 : T 57 = some d57 := rfl
@[push_cast] theorem T59 : T 59 = some d59 := rfl
@[push_cast] theorem T60 : T 60 = some d60 := rfl
@[push_cast] theorem T62 : T 62 = some d62 := rfl
@[push_cast] theorem T63 : T 63 = some d63 := rfl
@[push_cast] theorem T64 : T 64 = some d64 := rfl
@[push_cast] theorem T65 : T 65 = some d65 := rfl
@[push_cast] theorem T66 : T 66 = some d66 := rfl
@[push_cast] theorem T67 : T 67 = some d67 := rfl
@[push_cast] theorem T68 : T 68 = some d68 := rfl
@[push_cast] theorem T69 : T 69 = some d69 := rfl
@[push_cast] theorem T70 : T 70 = some d70 := rfl
@[push_cast] theorem T71 : T 71 = some d71 := rfl
@[push_cast] theorem T72 : T 72 = some d72 := rfl
@[push_cast] theorem T73 : T 73 = some d73 := rfl
@[push_cast] theorem T74 : T 74 = some d74 := rfl
@[push_cast] theorem T75 : T 75 = some d75 := rfl
@[push_cast] theorem T76 : T 76 = some d76 := rfl
@[push_cast] theorem T77 : T 77 = some d77 := rfl
@[push_cast] theorem T78 : T 78 = some d78 := rfl
@[push_cast] theorem T79 : T 79 = some d79 := rfl
@[push_cast] theorem T80 : T 80 = some d80 := rfl
@[push_cast] theorem T81 : T 81 = some d81 := rfl
@[push_cast] theorem T82 : T 82 = some d82 := rfl
@[push_cast] theorem T84 : T 84 = some d84 := rfl
@[push_cast] theorem T85 : T 85 = some d85 := rfl
@[push_cast] theorem T86 : T 86 = some d86 := rfl
@[push_cast] theorem T87 : T 87 = some d87 := rfl
@[push_cast] theorem T88 : T 88 = some d88 := rfl
@[push_cast] theorem T89 : T 89 = some d89 := rfl
@[push_cast] theorem T90 : T 90 = some d90 := rfl
@[push_cast] theorem T91 : T 91 = some d91 := rfl
@[push_cast] theorem T92 : T 92 = some d92 := rfl
@[push_cast] theorem T93 : T 93 = some d93 := rfl
@[push_cast] theorem T94 : T 94 = some d94 := rfl
@[push_cast] theorem T95 : T 95 = some d95 := rfl
@[push_cast] theorem T96 : T 96 = some d96 := rfl
@[push_cast] theorem T97 : T 97 = some d97 := rfl
@[push_cast] theorem T98 : T 98 = some d98 := rfl
@[push_cast] theorem T99 : T 99 = some d99 := rfl
@[push_cast] theorem T101 : T 101 = some d101 := rfl
@[push_cast] theorem T102 : T 102 = some d102 := rfl
@[push_cast] theorem T103 : T 103 = some d103 := rfl
@[push_cast] theorem T104 : T 104 = some d104 := rfl
@[push_cast] theorem T105 : T 105 = some d105 := rfl
@[push_cast] theorem T107 : T 107 = some d107 := rfl
@[push_cast] theorem T108 : T 108 = some d108 := rfl
@[push_cast] theorem T109 : T 109 = some d109 := rfl
@[push_cast] theorem T110 : T 110 = some d110 := rfl
@[push_cast] theorem T111 : T 111 = some d111 := rfl
@[push_cast] theorem T112 : T 112 = some d112 := rfl
@[push_cast] theorem T113 : T 113 = some d113 := rfl
@[push_cast] theorem T114 : T 114 = some d114 := rfl
@[push_cast] theorem T115 : T 115 = some d115 := rfl
@[push_cast] theorem T116 : T 116 = some d116 := rfl
@[push_cast] theorem T117 : T 117 = some d117 := rfl
@[push_cast] theorem T118 : T 118 = some d118 := rfl
@[push_cast] theorem T119 : T 119 = some d119 := rfl
@[push_cast] theorem T120 : T 120 = some d120 := rfl
@[push_cast] theorem T121 : T 121 = some d121 := rfl
@[push_cast] theorem T122 : T 122 = some d122 := rfl
@[push_cast] theorem T123 : T 123 = some d123 := rfl
@[push_cast] theorem T124 : T 124 = some d124 := rfl
@[push_cast] theorem T125 : T 125 = some d125 := rfl
@[push_cast] theorem T126 : T 126 = some d126 := rfl
@[push_cast] theorem T127 : T 127 = some d127 := rfl
attribute [push_cast] d1 d2 d3 d4 d5 d6 d7 d8 d9 d10 d11 d12 d13 d14 d15 d16 d17 d18 d19 d20 d21 d22 d23 d24 d25 d26 d28 d30 d31 d32 d33 d34 d35 d36 d37 d38 d39 d41 d42 d43 d44 d45 d46 d47 d48 d49 d50 d51 d52 d53 d54 d55 d57 d59 d60 d62 d63 d64 d65 d66 d67 d68 d69 d70 d71 d72 d73 d74 d75 d76 d77 d78 d79 d80 d81 d82 d84 d85 d86 d87 d88 d89 d90 d91 d92 d93 d94 d95 d96 d97 d98 d99 d101 d102 d103 d104 d105 d107 d108 d109 d110 d111 d112 d113 d114 d115 d116 d117 d118 d119 d120 d121 d122 d123 d124 d125 d126 d127
theorem fok {P : Program} : ∀ l : List (Nat × Func), (∀ p ∈ l, P.funcs[p.1]? = some p.2 ∧ (p.2.name == "runtime.NumGoroutine") = false ∧ p.2.body.isSome = true) → ∀ f fn, l.lookup f = some fn → P.funcs[f]? = some fn ∧ (fn.name == "runtime.NumGoroutine") = false ∧ fn.body.isSome = true
  | [], _, f, fn, h => by simp at h
  | (i, x) :: l, hl, f, fn, h => by
    simp only [List.lookup_cons] at h
    split at h
    · rename_i he; cases h; have hfi : f = i := by simpa using he
      subst hfi
      exact hl (f, x) (by simp)
    · exact fok l (fun p hp => hl p (by simp [hp])) f fn h
noncomputable def fl : List (Nat × Func) := [(2, Tryd.f2), (3, Tryd.f3), (4, Tryd.f4), (5, Tryd.f5), (6, Tryd.f6), (7, Tryd.f7), (8, Tryd.f8), (9, Tryd.f9), (10, Tryd.f10), (11, Tryd.f11), (12, Tryd.f12), (13, Tryd.f13), (14, Tryd.f14), (15, Tryd.f15), (16, Tryd.f16), (17, Tryd.f17), (18, Tryd.f18), (19, Tryd.f19), (20, Tryd.f20), (21, Tryd.f21), (22, Tryd.f22), (23, Tryd.f23), (24, Tryd.f24), (25, Tryd.f25), (26, Tryd.f26), (27, Tryd.f27), (28, Tryd.f28), (29, Tryd.f29), (30, Tryd.f30), (31, Tryd.f31), (32, Tryd.f32), (33, Tryd.f33), (34, Tryd.f34), (35, Tryd.f35), (36, Tryd.f36), (37, Tryd.f37), (38, Tryd.f38), (39, Tryd.f39), (40, Tryd.f40), (41, Tryd.f41), (42, Tryd.f42), (43, Tryd.f43), (44, Tryd.f44), (45, Tryd.f45), (46, Tryd.f46), (47, Tryd.f47), (48, Tryd.f48), (49, Tryd.f49), (50, Tryd.f50), (51, Tryd.f51), (52, Tryd.f52), (53, Tryd.f53), (54, Tryd.f54), (55, Tryd.f55), (56, Tryd.f56), (57, Tryd.f57), (58, Tryd.f58), (59, Tryd.f59), (60, Tryd.f60), (61, Tryd.f61), (62, Tryd.f62), (63, Tryd.f63), (64, Tryd.f64), (65, Tryd.f65), (66, Tryd.f66), (67, Tryd.f67), (68, Tryd.f68), (69, Tryd.f69), (70, Tryd.f70), (71, Tryd.f71), (72, Tryd.f72), (73, Tryd.f73), (74, Tryd.f74), (75, Tryd.f75), (76, Tryd.f76), (77, Tryd.f77), (78, Tryd.f78), (79, Tryd.f79), (80, Tryd.f80), (81, Tryd.f81), (82, Tryd.f82), (83, Tryd.f83), (84, Tryd.f84), (85, Tryd.f85), (87, Tryd.f87), (88, Tryd.f88), (111, Tryd.f111)]
noncomputable def F (k : Nat) : Option Func := fl.lookup k
theorem q2 : Tryd.prog.funcs[2]? = some Tryd.f2 ∧ (Tryd.f2.name == "runtime.NumGoroutine") = false ∧ Tryd.f2.body.isSome = true := ⟨Tryd.func2, by decide, rfl⟩
theorem q3 : Tryd.prog.funcs[3]? = some Tryd.f3 ∧ (Tryd.f3.name == "runtime.NumGoroutine") = false ∧ Tryd.f3.body.isSome = true := ⟨Tryd.func3, by decide, rfl⟩
theorem q4 : Tryd.prog.funcs[4]? = some Tryd.f4 ∧ (Tryd.f4.name == "runtime.NumGoroutine") = false ∧ Tryd.f4.body.isSome = true := ⟨Tryd.func4, by decide, rfl⟩
theorem q5 : Tryd.prog.funcs[5]? = some Tryd.f5 ∧ (Tryd.f5.name == "runtime.NumGoroutine") = false ∧ Tryd.f5.body.isSome = true := ⟨Tryd.func5, by decide, rfl⟩
theorem q6 : Tryd.prog.funcs[6]? = some Tryd.f6 ∧ (Tryd.f6.name == "runtime.NumGoroutine") = false ∧ Tryd.f6.body.isSome = true := ⟨Tryd.func6, by decide, rfl⟩
theorem q7 : Tryd.prog.funcs[7]? = some Tryd.f7 ∧ (Tryd.f7.name == "runtime.NumGoroutine") = false ∧ Tryd.f7.body.isSome = true := ⟨Tryd.func7, by decide, rfl⟩
theorem q8 : Tryd.prog.funcs[8]? = some Tryd.f8 ∧ (Tryd.f8.name == "runtime.NumGoroutine") = false ∧ Tryd.f8.body.isSome = true := ⟨Tryd.func8, by decide, rfl⟩
theorem q9 : Tryd.prog.funcs[9]? = some Tryd.f9 ∧ (Tryd.f9.name == "runtime.NumGoroutine") = false ∧ Tryd.f9.body.isSome = true := ⟨Tryd.func9, by decide, rfl⟩
theorem q10 : Tryd.prog.funcs[10]? = some Tryd.f10 ∧ (Tryd.f10.name == "runtime.NumGoroutine") = false ∧ Tryd.f10.body.isSome = true := ⟨Tryd.func10, by decide, rfl⟩
theorem q11 : Tryd.prog.funcs[11]? = some Tryd.f11 ∧ (Tryd.f11.name == "runtime.NumGoroutine") = false ∧ Tryd.f11.body.isSome = true := ⟨Tryd.func11, by decide, rfl⟩
theorem q12 : Tryd.prog.funcs[12]? = some Tryd.f12 ∧ (Tryd.f12.name == "runtime.NumGoroutine") = false ∧ Tryd.f12.body.isSome = true := ⟨Tryd.func12, by decide, rfl⟩
theorem q13 : Tryd.prog.funcs[13]? = some Tryd.f13 ∧ (Tryd.f13.name == "runtime.NumGoroutine") = false ∧ Tryd.f13.body.isSome = true := ⟨Tryd.func13, by decide, rfl⟩
theorem q14 : Tryd.prog.funcs[14]? = some Tryd.f14 ∧ (Tryd.f14.name == "runtime.NumGoroutine") = false ∧ Tryd.f14.body.isSome = true := ⟨Tryd.func14, by decide, rfl⟩
theorem q15 : Tryd.prog.funcs[15]? = some Tryd.f15 ∧ (Tryd.f15.name == "runtime.NumGoroutine") = false ∧ Tryd.f15.body.isSome = true := ⟨Tryd.func15, by decide, rfl⟩
theorem q16 : Tryd.prog.funcs[16]? = some Tryd.f16 ∧ (Tryd.f16.name == "runtime.NumGoroutine") = false ∧ Tryd.f16.body.isSome = true := ⟨Tryd.func16, by decide, rfl⟩
theorem q17 : Tryd.prog.funcs[17]? = some Tryd.f17 ∧ (Tryd.f17.name == "runtime.NumGoroutine") = false ∧ Tryd.f17.body.isSome = true := ⟨Tryd.func17, by decide, rfl⟩
theorem q18 : Tryd.prog.funcs[18]? = some Tryd.f18 ∧ (Tryd.f18.name == "runtime.NumGoroutine") = false ∧ Tryd.f18.body.isSome = true := ⟨Tryd.func18, by decide, rfl⟩
theorem q19 : Tryd.prog.funcs[19]? = some Tryd.f19 ∧ (Tryd.f19.name == "runtime.NumGoroutine") = false ∧ Tryd.f19.body.isSome = true := ⟨Tryd.func19, by decide, rfl⟩
theorem q20 : Tryd.prog.funcs[20]? = some Tryd.f20 ∧ (Tryd.f20.name == "runtime.NumGoroutine") = false ∧ Tryd.f20.body.isSome = true := ⟨Tryd.func20, by decide, rfl⟩
theorem q21 : Tryd.prog.funcs[21]? = some Tryd.f21 ∧ (Tryd.f21.name == "runtime.NumGoroutine") = false ∧ Tryd.f21.body.isSome = true := ⟨Tryd.func21, by decide, rfl⟩
theorem q22 : Tryd.prog.funcs[22]? = some Tryd.f22 ∧ (Tryd.f22.name == "runtime.NumGoroutine") = false ∧ Tryd.f22.body.isSome = true := ⟨Tryd.func22, by decide, rfl⟩
theorem q23 : Tryd.prog.funcs[23]? = some Tryd.f23 ∧ (Tryd.f23.name == "runtime.NumGoroutine") = false ∧ Tryd.f23.body.isSome = true := ⟨Tryd.func23, by decide, rfl⟩
theorem q24 : Tryd.prog.funcs[24]? = some Tryd.f24 ∧ (Tryd.f24.name == "runtime.NumGoroutine") = false ∧ Tryd.f24.body.isSome = true := ⟨Tryd.func24, by decide, rfl⟩
theorem q25 : Tryd.prog.funcs[25]? = some Tryd.f25 ∧ (Tryd.f25.name == "runtime.NumGoroutine") = false ∧ Tryd.f25.body.isSome = true := ⟨Tryd.func25, by decide, rfl⟩
theorem q26 : Tryd.prog.funcs[26]? = some Tryd.f26 ∧ (Tryd.f26.name == "runtime.NumGoroutine") = false ∧ Tryd.f26.body.isSome = true := ⟨Tryd.func26, by decide, rfl⟩
theorem q27 : Tryd.prog.funcs[27]? = some Tryd.f27 ∧ (Tryd.f27.name == "runtime.NumGoroutine") = false ∧ Tryd.f27.body.isSome = true := ⟨Tryd.func27, by decide, rfl⟩
theorem q28 : Tryd.prog.funcs[28]? = some Tryd.f28 ∧ (Tryd.f28.name == "runtime.NumGoroutine") = false ∧ Tryd.f28.body.isSome = true := ⟨Tryd.func28, by decide, rfl⟩
theorem q29 : Tryd.prog.funcs[29]? = some Tryd.f29 ∧ (Tryd.f29.name == "runtime.NumGoroutine") = false ∧ Tryd.f29.body.isSome = true := ⟨Tryd.func29, by decide, rfl⟩
theorem q30 : Tryd.prog.funcs[30]? = some Tryd.f30 ∧ (Tryd.f30.name == "runtime.NumGoroutine") = false ∧ Tryd.f30.body.isSome = true := ⟨Tryd.func30, by decide, rfl⟩
theorem q31 : Tryd.prog.funcs[31]? = some Tryd.f31 ∧ (Tryd.f31.name == "runtime.NumGoroutine") = false ∧ Tryd.f31.body.isSome = true := ⟨Tryd.func31, by decide, rfl⟩
theorem q32 : Tryd.prog.funcs[32]? = some Tryd.f32 ∧ (Tryd.f32.name == "runtime.NumGoroutine") = false ∧ Tryd.f32.body.isSome = true := ⟨Tryd.func32, by decide, rfl⟩
theorem q33 : Tryd.prog.funcs[33]? = some Tryd.f33 ∧ (Tryd.f33.name == "runtime.NumGoroutine") = false ∧ Tryd.f33.body.isSome = true := ⟨Tryd.func33, by decide, rfl⟩
theorem q34 : Tryd.prog.funcs[34]? = some Tryd.f34 ∧ (Tryd.f34.name == "runtime.NumGoroutine") = false ∧ Tryd.f34.body.isSome = true := ⟨Tryd.func34, by decide, rfl⟩
theorem q35 : Tryd.prog.funcs[35]? = some Tryd.f35 ∧ (Tryd.f35.name == "runtime.NumGoroutine") = false ∧ Tryd.f35.body.isSome = true := ⟨Tryd.func35, by decide, rfl⟩
theorem q36 : Tryd.prog.funcs[36]? = some Tryd.f36 ∧ (Tryd.f36.name == "runtime.NumGoroutine") = false ∧ Tryd.f36.body.isSome = true := ⟨Tryd.func36, by decide, rfl⟩
theorem q37 : Tryd.prog.funcs[37]? = some Tryd.f37 ∧ (Tryd.f37.name == "runtime.NumGoroutine") = false ∧ Tryd.f37.body.isSome = true := ⟨Tryd.func37, by decide, rfl⟩
theorem q38 : Tryd.prog.funcs[38]? = some Tryd.f38 ∧ (Tryd.f38.name == "runtime.NumGoroutine") = false ∧ Tryd.f38.body.isSome = true := ⟨Tryd.func38, by decide, rfl⟩
theorem q39 : Tryd.prog.funcs[39]? = some Tryd.f39 ∧ (Tryd.f39.name == "runtime.NumGoroutine") = false ∧ Tryd.f39.body.isSome = true := ⟨Tryd.func39, by decide, rfl⟩
theorem q40 : Tryd.prog.funcs[40]? = some Tryd.f40 ∧ (Tryd.f40.name == "runtime.NumGoroutine") = false ∧ Tryd.f40.body.isSome = true := ⟨Tryd.func40, by decide, rfl⟩
theorem q41 : Tryd.prog.funcs[41]? = some Tryd.f41 ∧ (Tryd.f41.name == "runtime.NumGoroutine") = false ∧ Tryd.f41.body.isSome = true := ⟨Tryd.func41, by decide, rfl⟩
theorem q42 : Tryd.prog.funcs[42]? = some Tryd.f42 ∧ (Tryd.f42.name == "runtime.NumGoroutine") = false ∧ Tryd.f42.body.isSome = true := ⟨Tryd.func42, by decide, rfl⟩
theorem q43 : Tryd.prog.funcs[43]? = some Tryd.f43 ∧ (Tryd.f43.name == "runtime.NumGoroutine") = false ∧ Tryd.f43.body.isSome = true := ⟨Tryd.func43, by decide, rfl⟩
theorem q44 : Tryd.prog.funcs[44]? = some Tryd.f44 ∧ (Tryd.f44.name == "runtime.NumGoroutine") = false ∧ Tryd.f44.body.isSome = true := ⟨Tryd.func44, by decide, rfl⟩
theorem q45 : Tryd.prog.funcs[45]? = some Tryd.f45 ∧ (Tryd.f45.name == "runtime.NumGoroutine") = false ∧ Tryd.f45.body.isSome = true := ⟨Tryd.func45, by decide, rfl⟩
theorem q46 : Tryd.prog.funcs[46]? = some Tryd.f46 ∧ (Tryd.f46.name == "runtime.NumGoroutine") = false ∧ Tryd.f46.body.isSome = true := ⟨Tryd.func46, by decide, rfl⟩
theorem q47 : Tryd.prog.funcs[47]? = some Tryd.f47 ∧ (Tryd.f47.name == "runtime.NumGoroutine") = false ∧ Tryd.f47.body.isSome = true := ⟨Tryd.func47, by decide, rfl⟩
theorem q48 : Tryd.prog.funcs[48]? = some Tryd.f48 ∧ (Tryd.f48.name == "runtime.NumGoroutine") = false ∧ Tryd.f48.body.isSome = true := ⟨Tryd.func48, by decide, rfl⟩
theorem q49 : Tryd.prog.funcs[49]? = some Tryd.f49 ∧ (Tryd.f49.name == "runtime.NumGoroutine") = false ∧ Tryd.f49.body.isSome = true := ⟨Tryd.func49, by decide, rfl⟩
theorem q50 : Tryd.prog.funcs[50]? = some Tryd.f50 ∧ (Tryd.f50.name == "runtime.NumGoroutine") = false ∧ Tryd.f50.body.isSome = true := ⟨Tryd.func50, by decide, rfl⟩
theorem q51 : Tryd.prog.funcs[51]? = some Tryd.f51 ∧ (Tryd.f51.name == "runtime.NumGoroutine") = false ∧ Tryd.f51.body.isSome = true := ⟨Tryd.func51, by decide, rfl⟩
theorem q52 : Tryd.prog.funcs[52]? = some Tryd.f52 ∧ (Tryd.f52.name == "runtime.NumGoroutine") = false ∧ Tryd.f52.body.isSome = true := ⟨Tryd.func52, by decide, rfl⟩
theorem q53 : Tryd.prog.funcs[53]? = some Tryd.f53 ∧ (Tryd.f53.name == "runtime.NumGoroutine") = false ∧ Tryd.f53.body.isSome = true := ⟨Tryd.func53, by decide, rfl⟩
theorem q54 : Tryd.prog.funcs[54]? = some Tryd.f54 ∧ (Tryd.f54.name == "runtime.NumGoroutine") = false ∧ Tryd.f54.body.isSome = true := ⟨Tryd.func54, by decide, rfl⟩
theorem q55 : Tryd.prog.funcs[55]? = some Tryd.f55 ∧ (Tryd.f55.name == "runtime.NumGoroutine") = false ∧ Tryd.f55.body.isSome = true := ⟨Tryd.func55, by decide, rfl⟩
theorem q56 : Tryd.prog.funcs[56]? = some Tryd.f56 ∧ (Tryd.f56.name == "runtime.NumGoroutine") = false ∧ Tryd.f56.body.isSome = true := ⟨Tryd.func56, by decide, rfl⟩
theorem q57 : Tryd.prog.funcs[57]? = some Tryd.f57 ∧ (Tryd.f57.name == "runtime.NumGoroutine") = false ∧ Tryd.f57.body.isSome = true := ⟨Tryd.func57, by decide, rfl⟩
theorem q58 : Tryd.prog.funcs[58]? = some Tryd.f58 ∧ (Tryd.f58.name == "runtime.NumGoroutine") = false ∧ Tryd.f58.body.isSome = true := ⟨Tryd.func58, by decide, rfl⟩
theorem q59 : Tryd.prog.funcs[59]? = some Tryd.f59 ∧ (Tryd.f59.name == "runtime.NumGoroutine") = false ∧ Tryd.f59.body.isSome = true := ⟨Tryd.func59, by decide, rfl⟩
theorem q60 : Tryd.prog.funcs[60]? = some Tryd.f60 ∧ (Tryd.f60.name == "runtime.NumGoroutine") = false ∧ Tryd.f60.body.isSome = true := ⟨Tryd.func60, by decide, rfl⟩
theorem q61 : Tryd.prog.funcs[61]? = some Tryd.f61 ∧ (Tryd.f61.name == "runtime.NumGoroutine") = false ∧ Tryd.f61.body.isSome = true := ⟨Tryd.func61, by decide, rfl⟩
theorem q62 : Tryd.prog.funcs[62]? = some Tryd.f62 ∧ (Tryd.f62.name == "runtime.NumGoroutine") = false ∧ Tryd.f62.body.isSome = true := ⟨Tryd.func62, by decide, rfl⟩
theorem q63 : Tryd.prog.funcs[63]? = some Tryd.f63 ∧ (Tryd.f63.name == "runtime.NumGoroutine") = false ∧ Tryd.f63.body.isSome = true := ⟨Tryd.func63, by decide, rfl⟩
theorem q64 : Tryd.prog.funcs[64]? = some Tryd.f64 ∧ (Tryd.f64.name == "runtime.NumGoroutine") = false ∧ Tryd.f64.body.isSome = true := ⟨Tryd.func64, by decide, rfl⟩
theorem q65 : Tryd.prog.funcs[65]? = some Tryd.f65 ∧ (Tryd.f65.name == "runtime.NumGoroutine") = false ∧ Tryd.f65.body.isSome = true := ⟨Tryd.func65, by decide, rfl⟩
theorem q66 : Tryd.prog.funcs[66]? = some Tryd.f66 ∧ (Tryd.f66.name == "runtime.NumGoroutine") = false ∧ Tryd.f66.body.isSome = true := ⟨Tryd.func66, by decide, rfl⟩
theorem q67 : Tryd.prog.funcs[67]? = some Tryd.f67 ∧ (Tryd.f67.name == "runtime.NumGoroutine") = false ∧ Tryd.f67.body.isSome = true := ⟨Tryd.func67, by decide, rfl⟩
theorem q68 : Tryd.prog.funcs[68]? = some Tryd.f68 ∧ (Tryd.f68.name == "runtime.NumGoroutine") = false ∧ Tryd.f68.body.isSome = true := ⟨Tryd.func68, by decide, rfl⟩
theorem q69 : Tryd.prog.funcs[69]? = some Tryd.f69 ∧ (Tryd.f69.name == "runtime.NumGoroutine") = false ∧ Tryd.f69.body.isSome = true := ⟨Tryd.func69, by decide, rfl⟩
theorem q70 : Tryd.prog.funcs[70]? = some Tryd.f70 ∧ (Tryd.f70.name == "runtime.NumGoroutine") = false ∧ Tryd.f70.body.isSome = true := ⟨Tryd.func70, by decide, rfl⟩
theorem q71 : Tryd.prog.funcs[71]? = some Tryd.f71 ∧ (Tryd.f71.name == "runtime.NumGoroutine") = false ∧ Tryd.f71.body.isSome = true := ⟨Tryd.func71, by decide, rfl⟩
theorem q72 : Tryd.prog.funcs[72]? = some Tryd.f72 ∧ (Tryd.f72.name == "runtime.NumGoroutine") = false ∧ Tryd.f72.body.isSome = true := ⟨Tryd.func72, by decide, rfl⟩
theorem q73 : Tryd.prog.funcs[73]? = some Tryd.f73 ∧ (Tryd.f73.name == "runtime.NumGoroutine") = false ∧ Tryd.f73.body.isSome = true := ⟨Tryd.func73, by decide, rfl⟩
theorem q74 : Tryd.prog.funcs[74]? = some Tryd.f74 ∧ (Tryd.f74.name == "runtime.NumGoroutine") = false ∧ Tryd.f74.body.isSome = true := ⟨Tryd.func74, by decide, rfl⟩
theorem q75 : Tryd.prog.funcs[75]? = some Tryd.f75 ∧ (Tryd.f75.name == "runtime.NumGoroutine") = false ∧ Tryd.f75.body.isSome = true := ⟨Tryd.func75, by decide, rfl⟩
theorem q76 : Tryd.prog.funcs[76]? = some Tryd.f76 ∧ (Tryd.f76.name == "runtime.NumGoroutine") = false ∧ Tryd.f76.body.isSome = true := ⟨Tryd.func76, by decide, rfl⟩
theorem q77 : Tryd.prog.funcs[77]? = some Tryd.f77 ∧ (Tryd.f77.name == "runtime.NumGoroutine") = false ∧ Tryd.f77.body.isSome = true := ⟨Tryd.func77, by decide, rfl⟩
theorem q78 : Tryd.prog.funcs[78]? = some Tryd.f78 ∧ (Tryd.f78.name == "runtime.NumGoroutine") = false ∧ Tryd.f78.body.isSome = true := ⟨Tryd.func78, by decide, rfl⟩
theorem q79 : Tryd.prog.funcs[79]? = some Tryd.f79 ∧ (Tryd.f79.name == "runtime.NumGoroutine") = false ∧ Tryd.f79.body.isSome = true := ⟨Tryd.func79, by decide, rfl⟩
theorem q80 : Tryd.prog.funcs[80]? = some Tryd.f80 ∧ (Tryd.f80.name == "runtime.NumGoroutine") = false ∧ Tryd.f80.body.isSome = true := ⟨Tryd.func80, by decide, rfl⟩
theorem q81 : Tryd.prog.funcs[81]? = some Tryd.f81 ∧ (Tryd.f81.name == "runtime.NumGoroutine") = false ∧ Tryd.f81.body.isSome = true := ⟨Tryd.func81, by decide, rfl⟩
theorem q82 : Tryd.prog.funcs[82]? = some Tryd.f82 ∧ (Tryd.f82.name == "runtime.NumGoroutine") = false ∧ Tryd.f82.body.isSome = true := ⟨Tryd.func82, by decide, rfl⟩
theorem q83 : Tryd.prog.funcs[83]? = some Tryd.f83 ∧ (Tryd.f83.name == "runtime.NumGoroutine") = false ∧ Tryd.f83.body.isSome = true := ⟨Tryd.func83, by decide, rfl⟩
theorem q84 : Tryd.prog.funcs[84]? = some Tryd.f84 ∧ (Tryd.f84.name == "runtime.NumGoroutine") = false ∧ Tryd.f84.body.isSome = true := ⟨Tryd.func84, by decide, rfl⟩
theorem q85 : Tryd.prog.funcs[85]? = some Tryd.f85 ∧ (Tryd.f85.name == "runtime.NumGoroutine") = false ∧ Tryd.f85.body.isSome = true := ⟨Tryd.func85, by decide, rfl⟩
theorem q87 : Tryd.prog.funcs[87]? = some Tryd.f87 ∧ (Tryd.f87.name == "runtime.NumGoroutine") = false ∧ Tryd.f87.body.isSome = true := ⟨Tryd.func87, by decide, rfl⟩
theorem q88 : Tryd.prog.funcs[88]? = some Tryd.f88 ∧ (Tryd.f88.name == "runtime.NumGoroutine") = false ∧ Tryd.f88.body.isSome = true := ⟨Tryd.func88, by decide, rfl⟩
theorem q111 : Tryd.prog.funcs[111]? = some Tryd.f111 ∧ (Tryd.f111.name == "runtime.NumGoroutine") = false ∧ Tryd.f111.body.isSome = true := ⟨Tryd.func111, by decide, rfl⟩
theorem hF : ∀ f fn, F f = some fn → Tryd.prog.funcs[f]? = some fn ∧ (fn.name == "runtime.NumGoroutine") = false ∧ fn.body.isSome = true := fok _ (by
  simp only [fl, List.forall_mem_cons, List.not_mem_nil, false_imp_iff, implies_true, and_true]
  exact ⟨q2, q3, q4, q5, q6, q7, q8, q9, q10, q11, q12, q13, q14, q15, q16, q17, q18, q19, q20, q21, q22, q23, q24, q25, q26, q27, q28, q29, q30, q31, q32, q33, q34, q35, q36, q37, q38, q39, q40, q41, q42, q43, q44, q45, q46, q47, q48, q49, q50, q51, q52, q53, q54, q55, q56, q57, q58, q59, q60, q61, q62, q63, q64, q65, q66, q67, q68, q69, q70, q71, q72, q73, q74, q75, q76, q77, q78, q79, q80, q81, q82, q83, q84, q85, q87, q88, q111⟩)
theorem mo : Tryd.prog.follows .mixedOrders = true := by kernel_rfl
end Seat
end Go.Proofs.YteimebpgmfhgjaaDoor
