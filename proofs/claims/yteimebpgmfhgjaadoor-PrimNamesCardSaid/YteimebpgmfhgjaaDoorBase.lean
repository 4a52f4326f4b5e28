/- The seat: its tables, as the engine holds them; that they are laid. Printed by gen.py (this session's). -/
import Derived.Test.YteimebpgmfhgjaaDoorEngZ
import Derived.Test.YteimebpgmfhgjaaDoorEngS
import Derived.Test.YteimebpgmfhgjaaDoorRows
namespace Go.Proofs.YteimebpgmfhgjaaDoor
open Go.AS Go.RowKit
set_option linter.unusedVariables false
namespace Seat
def g3 : List PV := [.int .u8 0, .int .u8 1, .int .u8 28, .int .u8 2, .int .u8 29, .int .u8 14, .int .u8 24, .int .u8 3, .int .u8 30, .int .u8 22, .int .u8 20, .int .u8 15, .int .u8 25, .int .u8 17, .int .u8 4, .int .u8 8, .int .u8 31, .int .u8 27, .int .u8 13, .int .u8 23, .int .u8 21, .int .u8 19, .int .u8 16, .int .u8 7, .int .u8 26, .int .u8 12, .int .u8 18, .int .u8 6, .int .u8 11, .int .u8 5, .int .u8 10, .int .u8 9]
def g4 : List PV := [.int .u8 0, .int .u8 1, .int .u8 56, .int .u8 2, .int .u8 57, .int .u8 49, .int .u8 28, .int .u8 3, .int .u8 61, .int .u8 58, .int .u8 42, .int .u8 50, .int .u8 38, .int .u8 29, .int .u8 17, .int .u8 4, .int .u8 62, .int .u8 47, .int .u8 59, .int .u8 36, .int .u8 45, .int .u8 43, .int .u8 51, .int .u8 22, .int .u8 53, .int .u8 39, .int .u8 33, .int .u8 30, .int .u8 24, .int .u8 18, .int .u8 12, .int .u8 5, .int .u8 63, .int .u8 55, .int .u8 48, .int .u8 27, .int .u8 60, .int .u8 41, .int .u8 37, .int .u8 16, .int .u8 46, .int .u8 35, .int .u8 44, .int .u8 21, .int .u8 52, .int .u8 32, .int .u8 23, .int .u8 11, .int .u8 54, .int .u8 26, .int .u8 40, .int .u8 15, .int .u8 34, .int .u8 20, .int .u8 31, .int .u8 10, .int .u8 25, .int .u8 14, .int .u8 19, .int .u8 9, .int .u8 13, .int .u8 8, .int .u8 7, .int .u8 6]
def g1 : List PV := [.int .u64 1, .int .u64 10, .int .u64 100, .int .u64 1000, .int .u64 10000, .int .u64 100000, .int .u64 1000000, .int .u64 10000000, .int .u64 100000000, .int .u64 1000000000, .int .u64 10000000000, .int .u64 100000000000, .int .u64 1000000000000, .int .u64 10000000000000, .int .u64 100000000000000, .int .u64 1000000000000000, .int .u64 10000000000000000, .int .u64 100000000000000000, .int .u64 1000000000000000000, .int .u64 10000000000000000000]
def g0 : List PV := [.slice 16 [.str ⟨#[43]⟩, .int .i64 2, .str ⟨#[45]⟩, .int .i64 2, .str ⟨#[42]⟩, .int .i64 2, .str ⟨#[113, 117, 111, 116]⟩, .int .i64 2, .str ⟨#[114, 101, 109]⟩, .int .i64 2, .str ⟨#[60]⟩, .int .i64 2, .str ⟨#[61]⟩, .int .i64 2, .str ⟨#[99, 111, 110, 115]⟩, .int .i64 2, .str ⟨#[102, 105, 114, 115, 116]⟩, .int .i64 1, .str ⟨#[114, 101, 115, 116]⟩, .int .i64 1, .str ⟨#[99, 111, 117, 110, 116]⟩, .int .i64 1, .str ⟨#[108, 105, 115, 116, 63]⟩, .int .i64 1, .str ⟨#[110, 117, 109, 63]⟩, .int .i64 1, .str ⟨#[115, 121, 109, 63]⟩, .int .i64 1, .str ⟨#[109, 97, 114, 107]⟩, .int .i64 2, .str ⟨#[115, 116, 111, 112]⟩, .int .i64 1]]
def Γl : List (Nat × List PV) := [(3, g3), (4, g4), (1, g1), (0, g0)]
def Γ0 : Glob := fun g => Γl.lookup g
noncomputable def G0 : Prg := ⟨Tryd.prog, T, hT, Γ0, mo⟩
noncomputable def S0 : Cfg G0 := { F := F, hF := hF, S := fun _ _ => none, hS := fun _ _ _ _ h => by cases h }
@[push_cast] theorem G0_T (t : TypeId) : G0.T t = T t := rfl
@[push_cast] theorem G0_Γ : G0.Γ = Γ0 := rfl
theorem mem_lookup {α : Type} : ∀ {l : List (Nat × α)} {k : Nat} {x : α}, l.lookup k = some x → (k, x) ∈ l
  | [], k, x, h => by simp at h
  | (i, y) :: l, k, x, h => by
    simp only [List.lookup_cons] at h
    split at h
    · rename_i he; cases h; have hk : k = i := by simpa using he
      subst hk; simp
    · exact List.mem_cons_of_mem _ (mem_lookup h)
theorem l3 {W : World} (h : laidMet Tryd.prog Rows.primDoesRow.laid W) : IRep (old W) W (.epos g3) (.pointer (some ⟨3, 0, none⟩)) :=
  laid_glob (G := G0) (n := 9) (name := "math/bits.deBruijn32tab") (d := Rows.laid_math_bits_deBruijn32tab) h (List.Mem.head _) (by kernel_rfl) (t := 111) (by kernel_rfl) (by kernel_rfl)
theorem l4 {W : World} (h : laidMet Tryd.prog Rows.primDoesRow.laid W) : IRep (old W) W (.epos g4) (.pointer (some ⟨4, 0, none⟩)) :=
  laid_glob (G := G0) (n := 9) (name := "math/bits.deBruijn64tab") (d := Rows.laid_math_bits_deBruijn64tab) h (List.Mem.tail _ (List.Mem.head _)) (by kernel_rfl) (t := 112) (by kernel_rfl) (by kernel_rfl)
theorem l1 {W : World} (h : laidMet Tryd.prog Rows.primDoesRow.laid W) : IRep (old W) W (.epos g1) (.pointer (some ⟨1, 0, none⟩)) :=
  laid_glob (G := G0) (n := 9) (name := "internal/strconv.uint64pow10") (d := Rows.laid_internal_strconv_uint64pow10) h (List.Mem.tail _ (List.Mem.tail _ (List.Mem.head _))) (by kernel_rfl) (t := 104) (by kernel_rfl) (by kernel_rfl)
theorem l0 {W : World} (h : laidMet Tryd.prog Rows.primDoesRow.laid W) : IRep (old W) W (.epos g0) (.pointer (some ⟨0, 0, none⟩)) :=
  laid_glob (G := G0) (n := 9) (name := "pagoda/prim.names") (d := Rows.laid_pagoda_prim_names) h (List.Mem.tail _ (List.Mem.tail _ (List.Mem.tail _ (List.Mem.head _)))) (by kernel_rfl) (t := 75) (by kernel_rfl) (by kernel_rfl)
theorem glob {W : World} (h : laidMet Tryd.prog Rows.primDoesRow.laid W) : ∀ g cs, Γ0 g = some cs → IRep (old W) W (.epos cs) (.pointer (some ⟨g, 0, none⟩)) := fun g cs hg => by
  have hm := mem_lookup (l := Γl) hg
  simp only [Γl, List.mem_cons, List.not_mem_nil, or_false, Prod.mk.injEq] at hm
  rcases hm with ⟨rfl, rfl⟩ | ⟨rfl, rfl⟩ | ⟨rfl, rfl⟩ | ⟨rfl, rfl⟩
  · exact l3 h
  · exact l4 h
  · exact l1 h
  · exact l0 h
end Seat
end Go.Proofs.YteimebpgmfhgjaaDoor
