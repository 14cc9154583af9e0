/- Parts of the proof, joined: each theorem says what it shows. -/
import Derived.Test.YtgjkgkgieeoalaaGreatE01
import Derived.Shelf.Small.Bits
import Derived.Shelf.Small.Wraps
import Derived.Shelf.Strconv.Itoa0
import Derived.Shelf.Bits.Mul64
import Derived.Shelf.Slices.Reverse
import Derived.Ground.Names2Prog
import Derived.Shelf.Slices.SearchI
import Derived.Shelf.Slices.Cells
import Derived.Ground.SlgnProg
import Derived.Shelf.SlicesE.Clone
import Derived.Test.YtgjkgkgieeoalaaGreatProg
import Derived.Lib.BitFns
import Derived.Ground.SlsfProg
import Derived.Shelf.SlSortCmp.InsertionK
import Derived.Shelf.SlSortCmp.SiftDownK
import Derived.Shelf.SlSortCmp.HeapSortK
import Derived.Shelf.SlSortCmp.MedianK
import Derived.Shelf.SlSortCmp.PivotK
import Derived.Shelf.SlSortCmp.ReverseRangeK
import Derived.Shelf.SlSortCmp.PartialInsertionK
import Derived.Shelf.SlSortCmp.PartitionEqualK
import Derived.Shelf.SlSortCmp.PartitionK
import Derived.Shelf.SlSortCmp.PdqK
import Derived.Shelf.SlSortCmp.WholeK
import Derived.Shelf.SlicesE.Delete
import Derived.Ground.SlgfProg
import Derived.Shelf.SlicesE.IndexFunc
import Derived.Shelf.SlicesE.DeleteFunc
import Derived.Shelf.SlSortCmp.Insertion
import Derived.Shelf.SlSortCmp.Insertion1
set_option linter.unusedVariables false
set_option linter.unusedSimpArgs false
set_option maxHeartbeats 24000000
set_option maxRecDepth 100000
namespace Go.Proofs
open Go.Shelf
def Tryz.lays125_ren : Go.Shelf.Ren := ⟨fun | 125 => 191 | 128 => 252 | 129 => 136 | n => n, fun | 46 => 211 | 3 => 3 | 51 => 278 | 53 => 112 | 4 => 4 | 5 => 5 | 9 => 9 | n => n, fun | n => n⟩
theorem Tryz.lays125 : Go.Proofs.Lays.n125 Tryz.prog Tryz.lays125_ren := {
 mixed := by kernel_rfl
 f125 := Tryz.func191.trans (congrArg some (by kernel_rfl))
 f128 := Tryz.func252.trans (congrArg some (by kernel_rfl))
 f129 := Tryz.func136.trans (congrArg some (by kernel_rfl))
 t3 := Tryz.underlying3
 a3 := Tryz.isAgg3
 z3 := Tryz.sizeOf3
 v3 := Tryz.zeroValue3
 t4 := Tryz.underlying4
 a4 := Tryz.isAgg4
 z4 := Tryz.sizeOf4
 v4 := Tryz.zeroValue4
 t5 := Tryz.underlying5
 a5 := Tryz.isAgg5
 z5 := Tryz.sizeOf5
 v5 := Tryz.zeroValue5
 t9 := Tryz.underlying9
 a9 := Tryz.isAgg9
 z9 := Tryz.sizeOf9
 v9 := Tryz.zeroValue9
 t46 := Tryz.underlying211
 a46 := Tryz.isAgg211
 z46 := Tryz.sizeOf211
 v46 := Tryz.zeroValue211
 t51 := Tryz.underlying278
 a51 := Tryz.isAgg278
 z51 := Tryz.sizeOf278
 v51 := Tryz.zeroValue278
 t53 := Tryz.underlying112
 a53 := Tryz.isAgg112
 z53 := Tryz.sizeOf112
 v53 := Tryz.zeroValue112 }
theorem Tryz.bits_Len (x : Int) (w : World) (h0 : 0 ≤ x) (h1 : x ≤ 18446744073709551615) :
    Calls Tryz.prog 191 #[.int .u64 x] w fun e w' => e = .returned (.int .i64 (Lib.bitLen x.toNat)) ∧ w' = w := Any.bits_Len Tryz.lays125 x w h0 h1
def Tryz.lays134_ren : Go.Shelf.Ren := ⟨fun | 134 => 277 | 129 => 136 | n => n, fun | 53 => 112 | 3 => 3 | 4 => 4 | 46 => 211 | 5 => 5 | 9 => 9 | n => n, fun | n => n⟩
theorem Tryz.lays134 : Go.Proofs.Lays.n134 Tryz.prog Tryz.lays134_ren := {
 mixed := by kernel_rfl
 f129 := Tryz.func136.trans (congrArg some (by kernel_rfl))
 f134 := Tryz.func277.trans (congrArg some (by kernel_rfl))
 t3 := Tryz.underlying3
 a3 := Tryz.isAgg3
 z3 := Tryz.sizeOf3
 v3 := Tryz.zeroValue3
 t4 := Tryz.underlying4
 a4 := Tryz.isAgg4
 z4 := Tryz.sizeOf4
 v4 := Tryz.zeroValue4
 t5 := Tryz.underlying5
 a5 := Tryz.isAgg5
 z5 := Tryz.sizeOf5
 v5 := Tryz.zeroValue5
 t9 := Tryz.underlying9
 a9 := Tryz.isAgg9
 z9 := Tryz.sizeOf9
 v9 := Tryz.zeroValue9
 t46 := Tryz.underlying211
 a46 := Tryz.isAgg211
 z46 := Tryz.sizeOf211
 v46 := Tryz.zeroValue211
 t53 := Tryz.underlying112
 a53 := Tryz.isAgg112
 z53 := Tryz.sizeOf112
 v53 := Tryz.zeroValue112 }
theorem Tryz.bits_LeadingZeros64 (x : Int) (w : World) (h0 : 0 ≤ x) (h1 : x ≤ 18446744073709551615) :
    Calls Tryz.prog 277 #[.int .u64 x] w fun e w' => e = .returned (.int .i64 (64 - (Lib.bitLen x.toNat : Int))) ∧ w' = w := Any.bits_LeadingZeros64 Tryz.lays134 x w h0 h1
def Tryz.lays215_ren : Go.Shelf.Ren := ⟨fun | 215 => 253 | n => n, fun | 3 => 3 | 4 => 4 | n => n, fun | n => n⟩
theorem Tryz.lays215 : Go.Proofs.Lays.n215 Tryz.prog Tryz.lays215_ren := {
 mixed := by kernel_rfl
 f215 := Tryz.func253.trans (congrArg some (by kernel_rfl))
 t3 := Tryz.underlying3
 a3 := Tryz.isAgg3
 z3 := Tryz.sizeOf3
 v3 := Tryz.zeroValue3
 t4 := Tryz.underlying4
 a4 := Tryz.isAgg4
 z4 := Tryz.sizeOf4
 v4 := Tryz.zeroValue4 }
open Go.RowKit in
theorem Tryz.cmp_isNaN_int (x : Int) (w : World) :
    Calls Tryz.prog 253 #[.int .i64 x] w fun e w' => e = .returned (.bool false) ∧ w' = w := Any.cmp_isNaN_int Tryz.lays215 x w
def Tryz.lays264_ren : Go.Shelf.Ren := ⟨fun | 264 => 228 | n => n, fun | 53 => 112 | 46 => 211 | n => n, fun | n => n⟩
theorem Tryz.lays264 : Go.Proofs.Lays.n264 Tryz.prog Tryz.lays264_ren := {
 mixed := by kernel_rfl
 f264 := Tryz.func228.trans (congrArg some (by kernel_rfl))
 t46 := Tryz.underlying211
 a46 := Tryz.isAgg211
 z46 := Tryz.sizeOf211
 v46 := Tryz.zeroValue211
 t53 := Tryz.underlying112
 a53 := Tryz.isAgg112
 z53 := Tryz.sizeOf112
 v53 := Tryz.zeroValue112 }
open Go.RowKit Go.Lib in
theorem Tryz.bits_Mul64 (x y : Nat) (hx : x < 18446744073709551616) (hy : y < 18446744073709551616) (w : World) :
    Calls Tryz.prog 228 #[.int .u64 x, .int .u64 y] w fun e w' => e = .returned (.tuple #[.int .u64 ((x * y / 18446744073709551616 : Nat) : Int), .int .u64 ((x * y % 18446744073709551616 : Nat) : Int)]) ∧ w' = w := Any.bits_Mul64 Tryz.lays264 x y hx hy w
def Tryz.lays112_ren : Go.Shelf.Ren := ⟨fun | 112 => 200 | n => n, fun | 28 => 171 | 3 => 3 | 4 => 4 | 0 => 0 | n => n, fun | n => n⟩
theorem Tryz.lays112 : Go.Proofs.Lays.n112 Tryz.prog Tryz.lays112_ren := {
 mixed := by kernel_rfl
 f112 := Tryz.func200.trans (congrArg some (by kernel_rfl))
 t0 := Tryz.underlying0
 a0 := Tryz.isAgg0
 z0 := Tryz.sizeOf0
 v0 := Tryz.zeroValue0
 t3 := Tryz.underlying3
 a3 := Tryz.isAgg3
 z3 := Tryz.sizeOf3
 v3 := Tryz.zeroValue3
 t4 := Tryz.underlying4
 a4 := Tryz.isAgg4
 z4 := Tryz.sizeOf4
 v4 := Tryz.zeroValue4
 t28 := Tryz.underlying171
 a28 := Tryz.isAgg171
 z28 := Tryz.sizeOf171
 v28 := Tryz.zeroValue171 }
open Go.RowKit Go.Lib Go.Sort in
theorem Tryz.slices_Reverse_int_cells (b off n c : Nat) (zs : List Int) (w : World) (hz : n ≤ zs.length) (hbig : n ≤ 9223372036854775807) (hc : ∀ j, j < zs.length → w.cell? ⟨b, off + j, none⟩ = some (.int .i64 (zs.getD j 0))) (hf : ∀ j, j < n → w.frozen? ⟨b, off + j, none⟩ = false) :
    Calls Tryz.prog 200 #[.slice (some ⟨b, off, none⟩) n c] w fun e w' => e = .returned (.tuple #[]) ∧ ∃ q, w' = (w.drewN q).setCells b off ((zs.take n).reverse.map (Value.int .i64)) := Any.slices_Reverse_int_cells Tryz.lays112 b off n c zs w hz hbig hc hf
end Go.Proofs
namespace Go.Proofs.YtgjkgkgieeoalaaGreat
open Go.RowKit
structure Kn (y1 y0 U u1 q r : Int) : Prop where
 e : q * y1 + r = U
 y1l : 2147483648 ≤ y1
 y1u : y1 < 4294967296
 y0l : 0 ≤ y0
 y0u : y0 < 4294967296
 u1l : 0 ≤ u1
 u1u : u1 < 4294967296
 Ul : 0 ≤ U
 Uu : U < y1 * 4294967296 + y0
 ql : (U * 4294967296 + u1) / (y1 * 4294967296 + y0) ≤ q
 qu : q ≤ 4294967297
 rl : 0 ≤ r
 ru : r < 4294967296
section
variable {y1 y0 U u1 q r : Int}
theorem Kn.Y (h : Kn y1 y0 U u1 q r) : q * (y1 * 4294967296 + y0) = (U - r) * 4294967296 + q * y0 := by
 rw [Int.mul_add, ← Int.mul_assoc, show q * y1 = U - r by have := h.e; omega]
theorem Kn.qt (h : Kn y1 y0 U u1 q r) : (U * 4294967296 + u1) / (y1 * 4294967296 + y0) < 4294967296 ∧ 0 ≤ (U * 4294967296 + u1) / (y1 * 4294967296 + y0) := by
 have := h.y1l; have := h.y0l; have := h.u1l; have := h.u1u; have := h.Ul; have := h.Uu
 exact ⟨Int.ediv_lt_of_lt_mul (by omega) (by omega), Int.ediv_nonneg (by omega) (by omega)⟩
theorem Kn.big (h : Kn y1 y0 U u1 q r) (hc : 4294967296 ≤ q ∨ 4294967296 * r + u1 < q * y0) : (U * 4294967296 + u1) / (y1 * 4294967296 + y0) ≤ q - 1 := by
 rcases hc with hc | hc
 ·have := h.qt; omega
 ·have hY := h.Y
  have := h.y1l; have := h.y0l
  have h1 : U * 4294967296 + u1 < q * (y1 * 4294967296 + y0) := by omega
  have := Int.ediv_lt_of_lt_mul (by omega) h1
  omega
theorem Kn.fits (h : Kn y1 y0 U u1 q r) (h1 : q < 4294967296) (hc : q * y0 ≤ 4294967296 * r + u1) : q = (U * 4294967296 + u1) / (y1 * 4294967296 + y0) := by
 have hY := h.Y
 have := h.y1l; have := h.y0l; have := h.ql
 have h1 : q * (y1 * 4294967296 + y0) ≤ U * 4294967296 + u1 := by omega
 have := (Int.le_ediv_iff_mul_le (by omega)).2 h1
 omega
theorem Kn.py (h : Kn y1 y0 U u1 q r) : 0 ≤ q * y0 ∧ q * y0 < 18446744073709551616 := by
 have h1 := h.qt; have h2 := h.ql; have h3 := h.y0l; have h4 := h.y0u; have h5 := h.qu
 have h6 : q * y0 ≤ 4294967297 * y0 := Int.mul_le_mul_of_nonneg_right h5 h3
 exact ⟨Int.mul_nonneg (by omega) h3, by omega⟩
theorem Kn.next (h : Kn y1 y0 U u1 q r) (hc : 4294967296 ≤ q ∨ 4294967296 * r + u1 < q * y0) (hr : r + y1 < 4294967296) : Kn y1 y0 U u1 (q - 1) (r + y1) := by
 refine { h with e := ?_, ql := h.big hc, qu := by have := h.qu; omega, rl := by have := h.rl; have := h.y1l; omega, ru := hr }
 rw [Int.sub_mul]; have := h.e; omega
theorem Kn.stop (h : Kn y1 y0 U u1 q r) (hc : 4294967296 ≤ q ∨ 4294967296 * r + u1 < q * y0) (hr : 4294967296 ≤ r + y1) : q - 1 = (U * 4294967296 + u1) / (y1 * 4294967296 + y0) := by
 have hY := h.Y
 have h1 := h.y1l; have h2 := h.y0l; have h3 := h.big hc; have h4 := h.qu; have h5 := h.y0u; have h6 := h.u1l
 have h7 : (q - 1) * (y1 * 4294967296 + y0) = (U - r) * 4294967296 + q * y0 - (y1 * 4294967296 + y0) := by rw [Int.sub_mul, hY]; omega
 have h8 : (q - 1) * y0 ≤ 4294967296 * y0 := Int.mul_le_mul_of_nonneg_right (by omega) h2
 rw [Int.sub_mul] at h8
 have h9 : (q - 1) * (y1 * 4294967296 + y0) ≤ U * 4294967296 + u1 := by omega
 have := (Int.le_ediv_iff_mul_le (by omega)).2 h9
 omega
theorem Kn.start (y1l : 2147483648 ≤ y1) (y1u : y1 < 4294967296) (y0l : 0 ≤ y0) (y0u : y0 < 4294967296) (u1l : 0 ≤ u1) (u1u : u1 < 4294967296) (Ul : 0 ≤ U) (Uu : U < y1 * 4294967296 + y0) :
    Kn y1 y0 U u1 (U / y1) (U - U / y1 * y1) := by
 have h1 := Int.mul_ediv_add_emod U y1
 have h2 := Int.emod_nonneg U (show y1 ≠ 0 by omega)
 have h3 := Int.emod_lt_of_pos U (show 0 < y1 by omega)
 rw [Int.mul_comm] at h1
 refine ⟨by omega, y1l, y1u, y0l, y0u, u1l, u1u, Ul, Uu, ?_, ?_, by omega, by omega⟩
 ·have h4 : U * 4294967296 + u1 < (U / y1 + 1) * (y1 * 4294967296 + y0) := by
    have h5 : 0 ≤ (U / y1 + 1) * y0 := Int.mul_nonneg (by have := Int.ediv_nonneg Ul (show 0 ≤ y1 by omega); omega) y0l
    rw [Int.mul_add, ← Int.mul_assoc, Int.add_mul, Int.one_mul]
    omega
  have := Int.ediv_lt_of_lt_mul (by omega) h4
  omega
 ·have h4 : U < 4294967298 * y1 := by omega
  have := Int.ediv_lt_of_lt_mul (by omega) h4
  omega
end
theorem bl_pow (f x : Nat) (hx : x < 2 ^ f) (h0 : x ≠ 0) : 2 ^ (Lib.bitLenAux f x - 1) ≤ x ∧ x < 2 ^ Lib.bitLenAux f x ∧ 1 ≤ Lib.bitLenAux f x ∧ Lib.bitLenAux f x ≤ f := by
 induction f generalizing x with
 | zero => omega
 | succ f ih =>
   rw [Lib.bitLenAux, if_neg h0]
   rcases Nat.eq_zero_or_pos (x / 2) with h | h
   ·rw [h]
    have : Lib.bitLenAux f 0 = 0 := by cases f <;> simp [Lib.bitLenAux]
    rw [this]
    simp; omega
   ·obtain ⟨h1, h2, h3, h4⟩ := ih (x / 2) (by rw [Nat.pow_succ] at hx; omega) (by omega)
    generalize Lib.bitLenAux f (x / 2) = b at *
    obtain ⟨b, rfl⟩ : ∃ c, b = c + 1 := ⟨b - 1, by omega⟩
    rw [show 1 + (b + 1) - 1 = b + 1 by omega, show 1 + (b + 1) = b + 2 by omega, Nat.pow_succ, Nat.pow_succ 2 (b + 1), Nat.pow_succ]
    rw [Nat.add_sub_cancel] at h1
    rw [Nat.pow_succ] at h2
    omega
theorem lead0 (y : Int) (w : World) (h0 : 0 < y) (h1 : y < 18446744073709551616) :
    Calls Tryz.prog 277 #[.int .u64 y] w fun e w' => (∃ s : Nat, s ≤ 63 ∧ 9223372036854775808 ≤ y * 2 ^ s ∧ y * 2 ^ s < 18446744073709551616 ∧ e = .returned (.int .i64 s)) ∧ w' = w := by
 refine (Tryz.bits_LeadingZeros64 y w (by omega) (by omega)).mono ?_
 rintro e w' ⟨rfl, rfl⟩
 refine ⟨?_, rfl⟩
 obtain ⟨x, rfl⟩ := Int.eq_ofNat_of_zero_le (show 0 ≤ y by omega)
 obtain ⟨h1, h2, h3, h4⟩ := bl_pow 64 x (by omega) (by omega)
 rw [Int.toNat_natCast]
 show ∃ s : Nat, _ ∧ _ ∧ _ ∧ Ending.returned (.int .i64 (64 - (Lib.bitLenAux 64 x : Int))) = _
 generalize Lib.bitLenAux 64 x = b at *
 have e1 : 2 ^ (b - 1) * 2 ^ (64 - b) = 9223372036854775808 := by rw [← Nat.pow_add, show b - 1 + (64 - b) = 63 by omega]
 have e2 : 2 ^ b * 2 ^ (64 - b) = 18446744073709551616 := by rw [← Nat.pow_add, show b + (64 - b) = 64 by omega]
 have e3 := Nat.mul_le_mul_right (2 ^ (64 - b)) h1
 have e4 := Nat.mul_lt_mul_of_pos_right h2 (Nat.pow_pos (n := 64 - b) (show 0 < 2 by omega))
 rw [e1] at e3
 rw [e2] at e4
 have e5 : ((x * 2 ^ (64 - b) : Nat) : Int) = (x : Int) * 2 ^ (64 - b) := by rw [Int.natCast_mul, Int.natCast_pow]; rfl
 refine ⟨64 - b, by omega, by omega, by omega, ?_⟩
 rw [show (64 : Int) - b = ((64 - b : Nat) : Int) by omega]
theorem and_mask (x : Int) (h0 : 0 ≤ x) (h1 : x < 18446744073709551616) : bits .and .u64 x 4294967295 = x % 4294967296 := by
 obtain ⟨n, rfl⟩ := Int.eq_ofNat_of_zero_le h0
 have := bits_and_u64_nat n 4294967295 (by omega) (by omega)
 rw [show ((4294967295 : Nat) : Int) = 4294967295 from rfl] at this
 rw [this]
 have h2 := Nat.and_two_pow_sub_one_eq_mod n 32
 rw [show (2 ^ 32 - 1 : Nat) = 4294967295 from rfl, show (2 ^ 32 : Nat) = 4294967296 from rfl] at h2
 rw [h2]; omega
theorem or_join (a b s : Nat) (hb : b < 2 ^ s) (h : a * 2 ^ s + b < 18446744073709551616) : bits .or .u64 ((a * 2 ^ s : Nat) : Int) (b : Int) = ((a * 2 ^ s + b : Nat) : Int) := by
 rw [bits_or_u64_nat _ _ (by omega) (by omega), Nat.mul_comm a, ← Nat.two_pow_add_eq_or_of_lt hb]
theorem norm_ (h l y : Int) (s : Nat) (hs : s ≤ 63) (h0 : 0 ≤ h) (hy : h < y) (l0 : 0 ≤ l) (l1 : l < 18446744073709551616) (b1 : 9223372036854775808 ≤ y * 2 ^ s) (b2 : y * 2 ^ s < 18446744073709551616) :
    ∃ U L : Int, IntKind.u64.wrap (y * 2 ^ s) = y * 2 ^ s ∧ IntKind.u64.wrap (l * 2 ^ s) = L ∧ bits .or .u64 (IntKind.u64.wrap (h * 2 ^ s)) (l / 2 ^ (64 - s)) = U ∧
     0 ≤ U ∧ U < y * 2 ^ s ∧ 0 ≤ L ∧ L < 18446744073709551616 ∧ (h * 18446744073709551616 + l) * 2 ^ s = U * 18446744073709551616 + L := by
 obtain ⟨H, rfl⟩ := Int.eq_ofNat_of_zero_le h0
 obtain ⟨M, rfl⟩ := Int.eq_ofNat_of_zero_le l0
 obtain ⟨Y, rfl⟩ := Int.eq_ofNat_of_zero_le (show 0 ≤ y by omega)
 have c1 : ((Y * 2 ^ s : Nat) : Int) = (Y : Int) * 2 ^ s := by rw [Int.natCast_mul, Int.natCast_pow]; rfl
 have c2 : ((H * 2 ^ s : Nat) : Int) = (H : Int) * 2 ^ s := by rw [Int.natCast_mul, Int.natCast_pow]; rfl
 have c3 : ((M * 2 ^ s : Nat) : Int) = (M : Int) * 2 ^ s := by rw [Int.natCast_mul, Int.natCast_pow]; rfl
 have c4 : ((M / 2 ^ (64 - s) : Nat) : Int) = (M : Int) / 2 ^ (64 - s) := by rw [Int.natCast_ediv, Int.natCast_pow]; rfl
 have c5 : (((H * 18446744073709551616 + M) * 2 ^ s : Nat) : Int) = ((H : Int) * 18446744073709551616 + M) * 2 ^ s := by rw [Int.natCast_mul, Int.natCast_pow, Int.natCast_add, Int.natCast_mul]; rfl
 rw [← c1] at b1 b2 ⊢
 rw [← c2, ← c3, ← c4, ← c5]
 have p1 : 2 ^ (64 - s) * 2 ^ s = 18446744073709551616 := by rw [← Nat.pow_add, show 64 - s + s = 64 by omega]
 have p2 : 0 < 2 ^ s := Nat.pow_pos (by omega)
 have p3 : M / 2 ^ (64 - s) < 2 ^ s := by rw [Nat.div_lt_iff_lt_mul (Nat.pow_pos (by omega)), Nat.mul_comm, p1]; omega
 have p4 : M * 2 ^ s / 18446744073709551616 = M / 2 ^ (64 - s) := by rw [← p1, Nat.mul_div_mul_right _ _ p2]
 have p5 : (H + 1) * 2 ^ s ≤ Y * 2 ^ s := Nat.mul_le_mul_right _ (by omega)
 rw [Nat.add_mul, Nat.one_mul] at p5
 have p6 := Nat.div_add_mod (M * 2 ^ s) 18446744073709551616
 rw [p4] at p6
 have p7 : (H * 18446744073709551616 + M) * 2 ^ s = H * 2 ^ s * 18446744073709551616 + M * 2 ^ s := by rw [Nat.add_mul, Nat.mul_right_comm]
 rw [p7]
 generalize Y * 2 ^ s = yy at *
 have p8 : IntKind.u64.wrap ((H * 2 ^ s : Nat) : Int) = ((H * 2 ^ s : Nat) : Int) := by rw [IntKind.wrap_u64]; omega
 rw [p8, or_join H (M / 2 ^ (64 - s)) s p3 (by omega)]
 refine ⟨_, _, by rw [IntKind.wrap_u64]; omega, rfl, rfl, by omega, by omega, ?_, ?_, ?_⟩
 ·rw [IntKind.wrap_u64]; omega
 ·rw [IntKind.wrap_u64]; omega
 ·rw [IntKind.wrap_u64]
  generalize H * 2 ^ s = hh at *
  generalize M * 2 ^ s = mm at *
  generalize M / 2 ^ (64 - s) = md at *
  omega
theorem wr3 (a v z t : Int) (h : a + v - z = t) (h0 : 0 ≤ t) (h1 : t < 18446744073709551616) :
    IntKind.u64.wrap (IntKind.u64.wrap (IntKind.u64.wrap a + v) - IntKind.u64.wrap z) = t := by
 rw [IntKind.wrap_u64, IntKind.wrap_u64, IntKind.wrap_u64, IntKind.wrap_u64, Int.emod_add_emod, ← Int.sub_emod, h]
 omega
theorem halves (U L Y q1 q0 u21 : Int) (hY : 0 < Y) (h1 : q1 = (U * 4294967296 + L / 4294967296) / Y) (h2 : u21 = U * 4294967296 + L / 4294967296 - q1 * Y) (h3 : q0 = (u21 * 4294967296 + L % 4294967296) / Y) :
    0 ≤ u21 ∧ u21 < Y ∧ q1 * 4294967296 + q0 = (U * 18446744073709551616 + L) / Y ∧ u21 * 4294967296 + L % 4294967296 - q0 * Y = (U * 18446744073709551616 + L) % Y := by
 have a1 := Int.mul_ediv_add_emod (U * 4294967296 + L / 4294967296) Y
 have a2 := Int.emod_nonneg (U * 4294967296 + L / 4294967296) (show Y ≠ 0 by omega)
 have a3 := Int.emod_lt_of_pos (U * 4294967296 + L / 4294967296) hY
 rw [← h1, Int.mul_comm] at a1
 have b1 := Int.mul_ediv_add_emod (u21 * 4294967296 + L % 4294967296) Y
 have b2 := Int.emod_nonneg (u21 * 4294967296 + L % 4294967296) (show Y ≠ 0 by omega)
 have b3 := Int.emod_lt_of_pos (u21 * 4294967296 + L % 4294967296) hY
 rw [← h3, Int.mul_comm] at b1
 have c : U * 18446744073709551616 + L = (q1 * 4294967296 + q0) * Y + (u21 * 4294967296 + L % 4294967296) % Y := by
  rw [Int.add_mul, show q1 * 4294967296 * Y = q1 * Y * 4294967296 by rw [Int.mul_assoc, Int.mul_comm 4294967296, ← Int.mul_assoc]]
  generalize q1 * Y = z at *
  omega
 refine ⟨by omega, by omega, ?_, ?_⟩
 ·rw [c, Int.add_comm ((q1 * 4294967296 + q0) * Y), Int.add_mul_ediv_right _ _ (by omega), Int.ediv_eq_zero_of_lt b2 b3, Int.zero_add]
 ·rw [c, Int.add_comm ((q1 * 4294967296 + q0) * Y), Int.add_mul_emod_self_right, Int.emod_eq_of_lt b2 b3]
  omega
theorem div64 (h l y : Int) (w : World) (h0 : 0 ≤ h) (hy : h < y) (hy2 : y < 18446744073709551616) (l0 : 0 ≤ l) (l1 : l < 18446744073709551616) :
    Calls Tryz.prog 299 #[.int .u64 h, .int .u64 l, .int .u64 y] w fun e w' => e = .returned (.tuple #[.int .u64 ((h * 18446744073709551616 + l) / y), .int .u64 ((h * 18446744073709551616 + l) % y)]) ∧ Dr w w' := by
 have hy3 : (y == 0) = false := by rw [beq_eq_false_iff_ne]; omega
 by_cases hz : h = 0
 ·subst hz
  go_enter Tryz.func299, Tryz.ntmps299
  go_wp2_with fail
  go_quiet (fail)
  go_wp2_with fail
  go_ret2
  exact ⟨by simp, by repeat (first | exact .refl _ | apply Dr.dn)⟩
 ·have hz2 : (h == 0) = false := by rw [beq_eq_false_iff_ne]; omega
  go_enter Tryz.func299, Tryz.ntmps299
  go_wp2_with fail
  refine (lead0 y w (by omega) (by omega)).mono ?_
  rintro e w' ⟨⟨s, hs, hs1, hs2, rfl⟩, rfl⟩
  obtain ⟨U, L, rY, rL, rU, U0, U1, L0, L1, eUL⟩ := norm_ h l y s hs h0 hy l0 l1 hs1 hs2
  obtain ⟨Y, hY⟩ : ∃ Y, y * 2 ^ s = Y := ⟨_, rfl⟩
  have rYY := rY.trans hY
  rw [hY] at hs1 hs2 U1
  have HY := aa hY
  have EUL := aa eUL
  clear hY eUL
  obtain ⟨y1, ey1⟩ : ∃ y1, Y / 4294967296 = y1 := ⟨_, rfl⟩
  obtain ⟨y0, ey0⟩ : ∃ y0, Y % 4294967296 = y0 := ⟨_, rfl⟩
  obtain ⟨v1, ev1⟩ : ∃ v1, L / 4294967296 = v1 := ⟨_, rfl⟩
  obtain ⟨v0, ev0⟩ : ∃ v0, L % 4294967296 = v0 := ⟨_, rfl⟩
  have rA := and_mask Y (by omega) (by omega)
  have rB := and_mask L L0 L1
  rw [ey0] at rA
  rw [ev0] at rB
  have K0 := aa (Kn.start (y1 := y1) (y0 := y0) (U := U) (u1 := v1) (by omega) (by omega) (by omega) (by omega) (by omega) (by omega) U0 (by omega))
  obtain ⟨q, eq⟩ : ∃ q, U / y1 = q := ⟨_, rfl⟩
  rw [eq] at K0
  obtain ⟨r, er⟩ : ∃ r, U - q * y1 = r := ⟨_, rfl⟩
  rw [er] at K0
  have kr0 := K0.out.rl
  have kr1 := K0.out.ru
  have rQ : IntKind.u64.wrap (U.tdiv y1) = q := by
   rw [Int.tdiv_eq_ediv_of_nonneg U0, eq, IntKind.wrap_u64]
   have := K0.out.qu; have := K0.out.ql; have := K0.out.qt
   omega
  have rP : IntKind.u64.wrap (q * y1) = q * y1 := by rw [IntKind.wrap_u64]; have := K0.out.e; have := Int.mul_nonneg (show 0 ≤ q by have := K0.out.ql; have := K0.out.qt; omega) (show 0 ≤ y1 by omega); omega
  have rR : IntKind.u64.wrap (U - q * y1) = r := by rw [IntKind.wrap_u64, er]; omega
  clear eq er
  have hy1 : (y1 == 0) = false := by rw [beq_eq_false_iff_ne]; omega
  have hy1b : 0 < y1 := by omega
  have HE := aa (af ey1 (af ey0 (af ev1 ev0)))
  have HYb := aa (af hs1 hs2)
  have hs3 : (s : Int) ≤ 63 := by omega
  have hmin : min s 64 = s := by omega
  have hmin2 : min (64 - s) 64 = 64 - s := by omega
  clear rY hs1 hs2 ey0 ev0
  obtain ⟨q1, eq1⟩ : ∃ q1, (U * 4294967296 + v1) / (y1 * 4294967296 + y0) = q1 := ⟨_, rfl⟩
  have EQ1 := aa eq1
  clear eq1
  go_upto_block 0 with (fail)
  go_cut [15, 16] (fun vq _ wx => vq = .int .u64 q1 ∧ Hd (Dr w' wx))
  case first =>
   go_wp2_with fail
   go_loop [15, 16] (fun vq vr => ∃ q r : Int, vq = .int .u64 q ∧ vr = .int .u64 r ∧ Hd (Kn y1 y0 U v1 q r)) (fun vq _ => (intOf vq).toNat)
   case atStart => exact ⟨_, _, rfl, rfl, K0⟩
   case round =>
    obtain ⟨q, r, rfl, rfl, kn⟩ := hrel
    have k1 := kn.out.py.1
    have k2 := kn.out.py.2
    have k3 := kn.out.rl
    have k4 := kn.out.ru
    have k5 : 0 ≤ q := by have := kn.out.ql; have := kn.out.qt; omega
    have k6 := kn.out.qu
    have k7 := kn.out.u1l
    have k8 := kn.out.u1u
    have k9 := kn.out.y1l
    have k10 := kn.out.y1u
    by_cases hc : 4294967296 ≤ q ∨ 4294967296 * r + v1 < q * y0
    ·have HC := aa hc
     have k11 : 1 ≤ q := by have := kn.out.big hc; have := kn.out.qt; omega
     have hq2 : decide (4294967296 ≤ q) = true ∨ (decide (4294967296 ≤ q) = false ∧ decide (4294967296 * r + v1 < q * y0) = true) := by
      by_cases hq : 4294967296 ≤ q
      ·exact .inl (decide_eq_true hq)
      ·exact .inr ⟨decide_eq_false hq, decide_eq_true (by omega)⟩
     clear hc
     by_cases hr : r + y1 < 4294967296
     ·have hr2 : decide (4294967296 ≤ r + y1) = false := decide_eq_false (by omega)
      rcases hq2 with hd | ⟨hd, hd2⟩
      all_goals
       go_wp2_with fail
       go_round
       case rel => exact ⟨_, _, rfl, rfl, ⟨kn.out.next HC.out hr⟩⟩
       case measure => simp [intOf]; omega
     ·have hr2 : decide (4294967296 ≤ r + y1) = true := decide_eq_true (by omega)
      rcases hq2 with hd | ⟨hd, hd2⟩
      all_goals
       go_wp2_with fail
       go_meet
       exact ⟨by rw [kn.out.stop HC.out (by omega), EQ1.out], ⟨.refl _⟩⟩
    ·have hq2 : decide (4294967296 ≤ q) = false := decide_eq_false (by omega)
     have hq3 : decide (4294967296 * r + v1 < q * y0) = false := decide_eq_false (by omega)
     have HF := aa (kn.out.fits (by omega) (by omega))
     clear hc
     go_wp2_with fail
     go_meet
     exact ⟨by rw [HF.out, EQ1.out], ⟨.refl _⟩⟩
  case rest =>
   obtain ⟨rfl, ⟨hdr⟩⟩ := hcut
   have hh1 := aa (halves U L Y q1 _ _ (by omega) (by rw [← EQ1.out]; obtain ⟨e1, e2, e3, e4⟩ := HE.out; rw [e3, show y1 * 4294967296 + y0 = Y by omega]) rfl rfl)
   obtain ⟨u21, eu21⟩ : ∃ u21, U * 4294967296 + L / 4294967296 - q1 * Y = u21 := ⟨_, rfl⟩
   rw [eu21] at hh1
   have hu0 := hh1.out.1
   have hu1 := hh1.out.2.1
   have EU := aa eu21
   have rT : IntKind.u64.wrap (IntKind.u64.wrap (IntKind.u64.wrap (U * 4294967296) + v1) - IntKind.u64.wrap (q1 * Y)) = u21 := by
    obtain ⟨e1, e2, e3, e4⟩ := HE.out
    rw [e3] at eu21
    exact wr3 _ _ _ _ eu21 hu0 (by have := HYb.out.2; omega)
   clear eu21
   have hYs : y1 * 4294967296 + y0 = Y := by obtain ⟨e1, e2, e3, e4⟩ := HE.out; omega
   have HYs := aa hYs
   have K1 := aa (Kn.start (y1 := y1) (y0 := y0) (U := u21) (u1 := v0) K0.out.y1l K0.out.y1u K0.out.y0l K0.out.y0u (by obtain ⟨e1, e2, e3, e4⟩ := HE.out; omega) (by obtain ⟨e1, e2, e3, e4⟩ := HE.out; omega) hu0 (by omega))
   obtain ⟨q, eq⟩ : ∃ q, u21 / y1 = q := ⟨_, rfl⟩
   rw [eq] at K1
   obtain ⟨r, er⟩ : ∃ r, u21 - q * y1 = r := ⟨_, rfl⟩
   rw [er] at K1
   have kr0 := K1.out.rl
   have kr1 := K1.out.ru
   have rQ2 : IntKind.u64.wrap (u21.tdiv y1) = q := by
    rw [Int.tdiv_eq_ediv_of_nonneg hu0, eq, IntKind.wrap_u64]
    have := K1.out.qu; have := K1.out.ql; have := K1.out.qt
    omega
   have rP2 : IntKind.u64.wrap (q * y1) = q * y1 := by rw [IntKind.wrap_u64]; have := K1.out.e; have := HYb.out.2; have := Int.mul_nonneg (show 0 ≤ q by have := K1.out.ql; have := K1.out.qt; omega) (show 0 ≤ y1 by omega); omega
   have rR2 : IntKind.u64.wrap (u21 - q * y1) = r := by rw [IntKind.wrap_u64, er]; omega
   obtain ⟨q0, eq0⟩ : ∃ q0, (u21 * 4294967296 + v0) / (y1 * 4294967296 + y0) = q0 := ⟨_, rfl⟩
   have EQ0 := aa eq0
   clear eq0 eq er hYs
   go_upto_block 2 with (fail)
   go_cut [18, 16] (fun vq _ wx => vq = .int .u64 q0 ∧ Hd (Dr w' wx))
   case first =>
    go_wp2_with fail
    go_loop [18, 16] (fun vq vr => ∃ q r : Int, vq = .int .u64 q ∧ vr = .int .u64 r ∧ Hd (Kn y1 y0 u21 v0 q r)) (fun vq _ => (intOf vq).toNat)
    case atStart => exact ⟨_, _, rfl, rfl, K1⟩
    case round =>
     obtain ⟨q, r, rfl, rfl, kn⟩ := hrel
     have k1 := kn.out.py.1
     have k2 := kn.out.py.2
     have k3 := kn.out.rl
     have k4 := kn.out.ru
     have k5 : 0 ≤ q := by have := kn.out.ql; have := kn.out.qt; omega
     have k6 := kn.out.qu
     have k7 := kn.out.u1l
     have k8 := kn.out.u1u
     have k9 := kn.out.y1l
     have k10 := kn.out.y1u
     by_cases hc : 4294967296 ≤ q ∨ 4294967296 * r + v0 < q * y0
     ·have HC := aa hc
      have k11 : 1 ≤ q := by have := kn.out.big hc; have := kn.out.qt; omega
      have hq2 : decide (4294967296 ≤ q) = true ∨ (decide (4294967296 ≤ q) = false ∧ decide (4294967296 * r + v0 < q * y0) = true) := by
       by_cases hq : 4294967296 ≤ q
       ·exact .inl (decide_eq_true hq)
       ·exact .inr ⟨decide_eq_false hq, decide_eq_true (by omega)⟩
      clear hc
      by_cases hr : r + y1 < 4294967296
      ·have hr2 : decide (4294967296 ≤ r + y1) = false := decide_eq_false (by omega)
       rcases hq2 with hd | ⟨hd, hd2⟩
       all_goals
        go_wp2_with fail
        go_round
        case rel => exact ⟨_, _, rfl, rfl, ⟨kn.out.next HC.out hr⟩⟩
        case measure => simp [intOf]; omega
      ·have hr2 : decide (4294967296 ≤ r + y1) = true := decide_eq_true (by omega)
       rcases hq2 with hd | ⟨hd, hd2⟩
       all_goals
        go_wp2_with fail
        go_meet
        exact ⟨by rw [kn.out.stop HC.out (by omega), EQ0.out], ⟨hdr⟩⟩
     ·have hq2 : decide (4294967296 ≤ q) = false := decide_eq_false (by omega)
      have hq3 : decide (4294967296 * r + v0 < q * y0) = false := decide_eq_false (by omega)
      have HF := aa (kn.out.fits (by omega) (by omega))
      clear hc
      go_wp2_with fail
      go_meet
      exact ⟨by rw [HF.out, EQ0.out], ⟨hdr⟩⟩
   case rest =>
    obtain ⟨rfl, ⟨hdr2⟩⟩ := hcut
    have hh2 := aa (halves U L Y q1 q0 u21 (by omega) (by rw [← EQ1.out]; obtain ⟨e1, e2, e3, e4⟩ := HE.out; rw [e3, HYs.out]) EU.out.symm (by rw [← EQ0.out]; obtain ⟨e1, e2, e3, e4⟩ := HE.out; rw [e4, HYs.out]))
    obtain ⟨R, eR⟩ : ∃ R, (U * 18446744073709551616 + L) % Y = R := ⟨_, rfl⟩
    have hYne : Y ≠ 0 := by omega
    have hR0 : 0 ≤ R := by rw [← eR]; exact Int.emod_nonneg _ hYne
    have hR1 : R < Y := by rw [← eR]; exact Int.emod_lt_of_pos _ (by omega)
    have rU2 : IntKind.u64.wrap (IntKind.u64.wrap (IntKind.u64.wrap (u21 * 4294967296) + v0) - IntKind.u64.wrap (q0 * Y)) = R := by
     refine wr3 _ _ _ _ ?_ hR0 (by have := HYb.out.2; omega)
     obtain ⟨e1, e2, e3, e4⟩ := HE.out
     have h4 := hh2.out.2.2.2
     rw [e4, eR] at h4
     exact h4
    have HER := aa eR
    clear eR
    go_wp2_with fail
    go_ret2
    refine ⟨?_, hdr2⟩
    show Ending.returned (.tuple #[.int .u64 (IntKind.u64.wrap (IntKind.u64.wrap (q1 * 4294967296) + q0)), .int .u64 (R / 2 ^ s)]) = _
    have pp : (0 : Int) < 2 ^ s := Int.pow_pos (by omega)
    have f1 : (U * 18446744073709551616 + L) / Y = (h * 18446744073709551616 + l) / y := by rw [← EUL.out, ← HY.out, Int.mul_ediv_mul_of_pos_left _ _ pp]
    have f2 : R = (h * 18446744073709551616 + l) % y * 2 ^ s := by rw [← HER.out, ← EUL.out, ← HY.out, Int.mul_comm, Int.mul_comm y, Int.mul_emod_mul_of_pos _ _ pp, Int.mul_comm]
    have f3 : R / 2 ^ s = (h * 18446744073709551616 + l) % y := by rw [f2, Int.mul_ediv_cancel _ (by omega)]
    have f4 : (h * 18446744073709551616 + l) / y < 18446744073709551616 := Int.ediv_lt_of_lt_mul (by omega) (by omega)
    have f5 : 0 ≤ (h * 18446744073709551616 + l) / y := Int.ediv_nonneg (by omega) (by omega)
    rw [f3, IntKind.wrap_u64, IntKind.wrap_u64, Int.emod_add_emod, hh2.out.2.2.1, f1, Int.emod_eq_of_lt f5 f4]
end Go.Proofs.YtgjkgkgieeoalaaGreat
namespace Go.Proofs
open Go.Shelf
def Tryz.laysSlF014_f283_ren : Go.Shelf.Ren := ⟨fun | 14 => 283 | 20 => 303 | 21 => 304 | 22 => 305 | 23 => 306 | 24 => 307 | 25 => 308 | 26 => 309 | 27 => 310 | 46 => 318 | 47 => 287 | 48 => 288 | 49 => 319 | 50 => 320 | 15 => 191 | 57 => 323 | 28 => 252 | 29 => 136 | n => n, fun | 24 => 68 | 22 => 24 | 3 => 3 | 25 => 264 | 4 => 4 | 0 => 0 | 46 => 271 | 45 => 270 | 50 => 275 | 66 => 307 | 39 => 211 | 55 => 112 | 70 => 310 | 76 => 326 | 77 => 327 | 53 => 278 | 5 => 5 | 9 => 9 | n => n, fun | n => n⟩
theorem Tryz.laysSlF014_f283 : Go.Proofs.SlLaysF0.n14 Tryz.prog Tryz.laysSlF014_f283_ren := {
 mixed := by kernel_rfl
 f14 := ⟨Tryz.f283.name, by decide, Tryz.func283.trans (congrArg some (by kernel_rfl))⟩
 f15 := Tryz.func191.trans (congrArg some (by kernel_rfl))
 f20 := ⟨Tryz.f303.name, by decide, Tryz.func303.trans (congrArg some (by kernel_rfl))⟩
 f21 := ⟨Tryz.f304.name, by decide, Tryz.func304.trans (congrArg some (by kernel_rfl))⟩
 f22 := ⟨Tryz.f305.name, by decide, Tryz.func305.trans (congrArg some (by kernel_rfl))⟩
 f23 := ⟨Tryz.f306.name, by decide, Tryz.func306.trans (congrArg some (by kernel_rfl))⟩
 f24 := ⟨Tryz.f307.name, by decide, Tryz.func307.trans (congrArg some (by kernel_rfl))⟩
 f25 := ⟨Tryz.f308.name, by decide, Tryz.func308.trans (congrArg some (by kernel_rfl))⟩
 f26 := ⟨Tryz.f309.name, by decide, Tryz.func309.trans (congrArg some (by kernel_rfl))⟩
 f27 := ⟨Tryz.f310.name, by decide, Tryz.func310.trans (congrArg some (by kernel_rfl))⟩
 f28 := Tryz.func252.trans (congrArg some (by kernel_rfl))
 f29 := Tryz.func136.trans (congrArg some (by kernel_rfl))
 f46 := ⟨Tryz.f318.name, by decide, Tryz.func318.trans (congrArg some (by kernel_rfl))⟩
 f47 := Tryz.func287.trans (congrArg some (by kernel_rfl))
 f48 := Tryz.func288.trans (congrArg some (by kernel_rfl))
 f49 := ⟨Tryz.f319.name, by decide, Tryz.func319.trans (congrArg some (by kernel_rfl))⟩
 f50 := ⟨Tryz.f320.name, by decide, Tryz.func320.trans (congrArg some (by kernel_rfl))⟩
 f57 := ⟨Tryz.f323.name, by decide, Tryz.func323.trans (congrArg some (by kernel_rfl))⟩
 t0 := Tryz.underlying0
 a0 := Tryz.isAgg0
 z0 := Tryz.sizeOf0
 v0 := Tryz.zeroValue0
 t3 := Tryz.underlying3
 a3 := Tryz.isAgg3
 z3 := Tryz.sizeOf3
 v3 := Tryz.zeroValue3
 t4 := Tryz.underlying4
 a4 := Tryz.isAgg4
 z4 := Tryz.sizeOf4
 v4 := Tryz.zeroValue4
 t5 := Tryz.underlying5
 a5 := Tryz.isAgg5
 z5 := Tryz.sizeOf5
 v5 := Tryz.zeroValue5
 t9 := Tryz.underlying9
 a9 := Tryz.isAgg9
 z9 := Tryz.sizeOf9
 v9 := Tryz.zeroValue9
 t22 := Tryz.underlying24
 a22 := Tryz.isAgg24
 z22 := Tryz.sizeOf24
 v22 := Tryz.zeroValue24
 t25 := Tryz.underlying264
 a25 := Tryz.isAgg264
 z25 := Tryz.sizeOf264
 v25 := Tryz.zeroValue264
 t39 := Tryz.underlying211
 a39 := Tryz.isAgg211
 z39 := Tryz.sizeOf211
 v39 := Tryz.zeroValue211
 t45 := Tryz.underlying270
 a45 := Tryz.isAgg270
 z45 := Tryz.sizeOf270
 v45 := Tryz.zeroValue270
 t46 := Tryz.underlying271
 a46 := Tryz.isAgg271
 z46 := Tryz.sizeOf271
 v46 := Tryz.zeroValue271
 t50 := Tryz.underlying275
 a50 := Tryz.isAgg275
 z50 := Tryz.sizeOf275
 v50 := Tryz.zeroValue275
 t53 := Tryz.underlying278
 a53 := Tryz.isAgg278
 z53 := Tryz.sizeOf278
 v53 := Tryz.zeroValue278
 t55 := Tryz.underlying112
 a55 := Tryz.isAgg112
 z55 := Tryz.sizeOf112
 v55 := Tryz.zeroValue112
 t66 := Tryz.underlying307
 a66 := Tryz.isAgg307
 z66 := Tryz.sizeOf307
 v66 := Tryz.zeroValue307
 t70 := Tryz.underlying310
 a70 := Tryz.isAgg310
 z70 := Tryz.sizeOf310
 v70 := Tryz.zeroValue310
 t76 := Tryz.underlying326
 a76 := Tryz.isAgg326
 z76 := Tryz.sizeOf326
 v76 := Tryz.zeroValue326
 t77 := Tryz.underlying327
 a77 := Tryz.isAgg327
 z77 := Tryz.sizeOf327
 v77 := Tryz.zeroValue327 }
open Go.RowKit Go.Lib Go.Sort in
theorem Tryz.pdqsortCmpFunc_all {α : Type} [Inhabited α] (k : Nat) (aE : ∀ w, (isAgg 68).run Tryz.prog w = .ok true w) (zE : ∀ w, (Go.sizeOf 68).run Tryz.prog w = .ok k w) (enc : α → List Value) (cf : α → α → Int) (g : Nat) (cb : Array Value) (hO : SWO (ltOf cf)) (blk off cap : Nat) (d0 : Array α) (w0 : World) (eg : ∀ args w, (callFunc g args).run Tryz.prog w = .ok (.enter g args) w) (hcmp : CmpLays Tryz.prog g cb enc k cf blk off d0.size w0) (R : RowK enc k w0 blk off d0) :
    ∀ (N a b limit : Nat) (d : Array α) (w : World), b - a < N → d0.size = d.size → SWK enc k w0 blk off d w → a ≤ b → b ≤ d.size → d.size < 4611686018427387904 → limit < 4611686018427387904 → Below (ltOf cf) a b d →
    Calls Tryz.prog 283 #[.slice (some ⟨blk, off, none⟩) d.size cap, .int .i64 a, .int .i64 b, .int .i64 limit, .func (.func g) #[] cb] w fun e w' => e = .returned (.tuple #[]) ∧ SWK enc k w0 blk off (pdq (ltOf cf) d a b limit true true) w' := AnyQ.pdqsortCmpFunc_all Tryz.laysSlF014_f283 k aE zE enc cf g cb hO blk off cap d0 w0 eg hcmp R
end Go.Proofs
namespace Go.Proofs
open Go.Shelf
def Tryz.laysSlE45_f188_ren : Go.Shelf.Ren := ⟨fun | 45 => 188 | n => n, fun | 22 => 27 | 23 => 25 | 3 => 3 | 4 => 4 | 0 => 0 | n => n, fun | n => n⟩
theorem Tryz.laysSlE45_f188 : Go.Proofs.SlLaysE.n45 Tryz.prog Tryz.laysSlE45_f188_ren := {
 mixed := by kernel_rfl
 f45 := ⟨Tryz.f188.name, by decide, Tryz.func188.trans (congrArg some (by kernel_rfl))⟩
 t0 := Tryz.underlying0
 a0 := Tryz.isAgg0
 z0 := Tryz.sizeOf0
 v0 := Tryz.zeroValue0
 t3 := Tryz.underlying3
 a3 := Tryz.isAgg3
 z3 := Tryz.sizeOf3
 v3 := Tryz.zeroValue3
 t4 := Tryz.underlying4
 a4 := Tryz.isAgg4
 z4 := Tryz.sizeOf4
 v4 := Tryz.zeroValue4
 t22 := Tryz.underlying27
 a22 := Tryz.isAgg27
 z22 := Tryz.sizeOf27
 v22 := Tryz.zeroValue27
 a23 := Tryz.isAgg25
 z23 := Tryz.sizeOf25 }
open Go.RowKit Go.Lib Go.Sort in
theorem Tryz.slices_Delete {α : Type} [Inhabited α] (enc : α → Value) (h1 : OneCell enc) (zr : α) (v23 : ∀ w, (zeroValue 25).run Tryz.prog w = .ok (enc zr) w) (i0 : TypeInfo) (hi0 : Tryz.prog.info? 25 = some i0) (hz1 : i0.size = 1) (blk off cap i j : Nat) (d : Array α) (w : World) (hH : Holds enc w blk off d) (hcap : d.size ≤ cap) (hm : cap ≤ 9223372036854775807) (hij : i ≤ j) (hj : j ≤ d.size) :
    Calls Tryz.prog 188 #[.slice (some ⟨blk, off, none⟩) d.size cap, .int .i64 i, .int .i64 j] w fun e w' => e = .returned (.slice (some ⟨blk, off, none⟩) (d.size - (j - i)) cap) ∧ ∃ q, w' = putRow enc (Sort.ahead w q) blk off (d.toList.take i ++ d.toList.drop j ++ List.replicate (j - i) zr).toArray := AnyE.slices_Delete Tryz.laysSlE45_f188 enc h1 zr v23 i0 hi0 hz1 blk off cap i j d w hH hcap hm hij hj
def Tryz.laysSlE041_f185_ren : Go.Shelf.Ren := ⟨fun | 41 => 185 | n => n, fun | 22 => 27 | 23 => 25 | 4 => 4 | n => n, fun | n => n⟩
theorem Tryz.laysSlE041_f185 : Go.Proofs.SlLaysE0.n41 Tryz.prog Tryz.laysSlE041_f185_ren := {
 mixed := by kernel_rfl
 f41 := ⟨Tryz.f185.name, by decide, Tryz.func185.trans (congrArg some (by kernel_rfl))⟩
 t4 := Tryz.underlying4
 a4 := Tryz.isAgg4
 z4 := Tryz.sizeOf4
 v4 := Tryz.zeroValue4
 t22 := Tryz.underlying27
 a22 := Tryz.isAgg27
 z22 := Tryz.sizeOf27
 v22 := Tryz.zeroValue27 }
open Go.RowKit Go.Lib in
theorem Tryz.slices_Clone_f185 (i0 : TypeInfo) (z : Value) (size bytes : Nat) (hi : Tryz.prog.info? 25 = some i0) (hz0 : i0.zero = some z) (hz1 : i0.size = size) (hz2 : i0.bytes = bytes) (hzs : z.cells.size = size) (hsz : 0 < size) (z23 : ∀ w, (Go.sizeOf 25).run Tryz.prog w = .ok size w) (b off n c : Nat) (news : List Value) (w : World) (hl : news.length = n * size) (hn : n ≤ maxLen) (hbig : n * bytes ≤ 140737488355328) (hc : ∀ j u, news[j]? = some u → w.cell? ⟨b, off + j, none⟩ = some u) (h1 : ∀ u ∈ news, u.oneCell' = true) :
    Calls Tryz.prog 185 #[.slice (some ⟨b, off, none⟩) n c] w fun e w' => ∃ v', e = .returned v' ∧ w'.ownsRow w.heap.size 25 size v' n news ∧ v' ≠ .slice none 0 0 ∧ Below w.heap.size w w' := AnyE.slices_Clone Tryz.laysSlE041_f185 i0 z size bytes hi hz0 hz1 hz2 hzs hsz z23 b off n c news w hl hn hbig hc h1
def Tryz.laysSlH10_f184_ren : Go.Shelf.Ren := ⟨fun | 10 => 184 | 6 => 187 | n => n, fun | 22 => 27 | 23 => 25 | 25 => 159 | 3 => 3 | 4 => 4 | 0 => 0 | n => n, fun | n => n⟩
theorem Tryz.laysSlH10_f184 : Go.Proofs.SlLaysH.n10 Tryz.prog Tryz.laysSlH10_f184_ren := {
 mixed := by kernel_rfl
 f6 := ⟨Tryz.f187.name, by decide, Tryz.func187.trans (congrArg some (by kernel_rfl))⟩
 f10 := ⟨Tryz.f184.name, by decide, Tryz.func184.trans (congrArg some (by kernel_rfl))⟩
 t0 := Tryz.underlying0
 a0 := Tryz.isAgg0
 z0 := Tryz.sizeOf0
 v0 := Tryz.zeroValue0
 t3 := Tryz.underlying3
 a3 := Tryz.isAgg3
 z3 := Tryz.sizeOf3
 v3 := Tryz.zeroValue3
 t4 := Tryz.underlying4
 a4 := Tryz.isAgg4
 z4 := Tryz.sizeOf4
 v4 := Tryz.zeroValue4
 t22 := Tryz.underlying27
 a22 := Tryz.isAgg27
 z22 := Tryz.sizeOf27
 v22 := Tryz.zeroValue27
 a23 := Tryz.isAgg25
 z23 := Tryz.sizeOf25
 t25 := Tryz.underlying159
 a25 := Tryz.isAgg159
 z25 := Tryz.sizeOf159
 v25 := Tryz.zeroValue159 }
open Go.RowKit Go.Lib Go.Sort in
theorem Tryz.slices_DeleteFunc {α : Type} [Inhabited α] (enc : α → Value) (hO : OneCell enc) (p : α → Bool) (g : Nat) (lb : Array Value) (eg : ∀ args w, (callFunc g args).run Tryz.prog w = .ok (.enter g args) w) (zr : α) (v23 : ∀ w, (zeroValue 25).run Tryz.prog w = .ok (enc zr) w) (blk off cap : Nat) (d : Array α) (w : World) (hp : PredAt Tryz.prog g lb enc p w) (hpo : PredOver Tryz.prog g lb enc p blk off d.size w) (hH : Holds enc w blk off d) (hsz : d.size ≤ 9223372036854775807) (hcap : d.size ≤ cap) :
    Calls Tryz.prog 184 #[.slice (some ⟨blk, off, none⟩) d.size cap, .func (.func g) #[] lb] w fun e w' => e = .returned (.slice (some ⟨blk, off, none⟩) (d.toList.filter fun x => !p x).length cap) ∧ ∃ q, w' = putRow enc (Sort.ahead w q) blk off ((d.toList.filter fun x => !p x) ++ List.replicate (d.size - (d.toList.filter fun x => !p x).length) zr).toArray := AnyE.slices_DeleteFunc Tryz.laysSlH10_f184 enc hO p g lb eg zr v23 blk off cap d w hp hpo hH hsz hcap
def Tryz.laysSlF20_f244_ren : Go.Shelf.Ren := ⟨fun | 20 => 244 | n => n, fun | 24 => 25 | 22 => 27 | 3 => 3 | 25 => 163 | 4 => 4 | 0 => 0 | n => n, fun | n => n⟩
theorem Tryz.laysSlF20_f244 : Go.Proofs.SlLaysF.n20 Tryz.prog Tryz.laysSlF20_f244_ren := {
 mixed := by kernel_rfl
 f20 := ⟨Tryz.f244.name, by decide, Tryz.func244.trans (congrArg some (by kernel_rfl))⟩
 t0 := Tryz.underlying0
 a0 := Tryz.isAgg0
 z0 := Tryz.sizeOf0
 v0 := Tryz.zeroValue0
 t3 := Tryz.underlying3
 a3 := Tryz.isAgg3
 z3 := Tryz.sizeOf3
 v3 := Tryz.zeroValue3
 t4 := Tryz.underlying4
 a4 := Tryz.isAgg4
 z4 := Tryz.sizeOf4
 v4 := Tryz.zeroValue4
 t22 := Tryz.underlying27
 a22 := Tryz.isAgg27
 z22 := Tryz.sizeOf27
 v22 := Tryz.zeroValue27
 a24 := Tryz.isAgg25
 z24 := Tryz.sizeOf25
 t25 := Tryz.underlying163
 a25 := Tryz.isAgg163
 z25 := Tryz.sizeOf163
 v25 := Tryz.zeroValue163 }
open Go.RowKit Go.Lib Go.Sort in
theorem Tryz.insertionSortCmpFunc_s {α : Type} [Inhabited α] (enc : α → Value) (cf : α → α → Int) (g : Nat) (cb : Array Value) (blk off cap a b : Nat) (d0 d : Array α) (w0 w : World) (eg : ∀ args w, (callFunc g args).run Tryz.prog w = .ok (.enter g args) w) (hcmp : CmpLays1 Tryz.prog g cb enc cf blk off d0.size w0) (R : Row1 enc w0 blk off d0) (hs : d0.size = d.size) (S : SW enc w0 blk off d w) (hab : a ≤ b) (hb : b ≤ d.size) (hsz : d.size < 4611686018427387904) :
    Calls Tryz.prog 244 #[.slice (some ⟨blk, off, none⟩) d.size cap, .int .i64 a, .int .i64 b, .func (.func g) #[] cb] w fun e w' => e = .returned (.tuple #[]) ∧ SW enc w0 blk off (Sort.insertionSort (ltOf cf) d a b) w' := Any.insertionSortCmpFunc_s Tryz.laysSlF20_f244 enc cf g cb blk off cap a b d0 d w0 w eg hcmp R hs S hab hb hsz
end Go.Proofs
