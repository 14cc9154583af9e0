/- Parts of the proof, joined: what each says stands at its head. -/
import Derived.Test.YtjanagclahkfdaaGreatM01
import Derived.Test.YtjanagclahkfdaaGreatM02
import Derived.Test.YtjanagclahkfdaaGreatM06
import Derived.Lib.BitFns
import Derived.Deep.RegionLaw
set_option linter.unusedVariables false
set_option linter.unusedSimpArgs false
set_option maxHeartbeats 24000000
set_option maxRecDepth 100000
namespace Go.Proofs.YtjanagclahkfdaaGreat
open Go.RowKit
structure Kn (y1 y0 U u1 q r : Int) : Prop where
 e : q * y1 + r = U
 y1l : 2147483648 ≤ y1
 y1u : y1 < 4294967296
 y0l : 0 ≤ y0
 y0u : y0 < 4294967296
 u1l : 0 ≤ u1
 u1u : u1 < 4294967296
 Ul : 0 ≤ U
 Uu : U < y1 * 4294967296 + y0
 ql : (U * 4294967296 + u1) / (y1 * 4294967296 + y0) ≤ q
 qu : q ≤ 4294967297
 rl : 0 ≤ r
 ru : r < 4294967296
section
variable {y1 y0 U u1 q r : Int}
theorem Kn.Y (h : Kn y1 y0 U u1 q r) : q * (y1 * 4294967296 + y0) = (U - r) * 4294967296 + q * y0 := by
 rw [Int.mul_add, ← Int.mul_assoc, show q * y1 = U - r by have := h.e; omega]
theorem Kn.qt (h : Kn y1 y0 U u1 q r) : (U * 4294967296 + u1) / (y1 * 4294967296 + y0) < 4294967296 ∧ 0 ≤ (U * 4294967296 + u1) / (y1 * 4294967296 + y0) := by
 have := h.y1l; have := h.y0l; have := h.u1l; have := h.u1u; have := h.Ul; have := h.Uu
 exact ⟨Int.ediv_lt_of_lt_mul (by omega) (by omega), Int.ediv_nonneg (by omega) (by omega)⟩
theorem Kn.big (h : Kn y1 y0 U u1 q r) (hc : 4294967296 ≤ q ∨ 4294967296 * r + u1 < q * y0) : (U * 4294967296 + u1) / (y1 * 4294967296 + y0) ≤ q - 1 := by
 rcases hc with hc | hc
 ·have := h.qt; omega
 ·have hY := h.Y
  have := h.y1l; have := h.y0l
  have h1 : U * 4294967296 + u1 < q * (y1 * 4294967296 + y0) := by omega
  have := Int.ediv_lt_of_lt_mul (by omega) h1
  omega
theorem Kn.fits (h : Kn y1 y0 U u1 q r) (h1 : q < 4294967296) (hc : q * y0 ≤ 4294967296 * r + u1) : q = (U * 4294967296 + u1) / (y1 * 4294967296 + y0) := by
 have hY := h.Y
 have := h.y1l; have := h.y0l; have := h.ql
 have h1 : q * (y1 * 4294967296 + y0) ≤ U * 4294967296 + u1 := by omega
 have := (Int.le_ediv_iff_mul_le (by omega)).2 h1
 omega
theorem Kn.py (h : Kn y1 y0 U u1 q r) : 0 ≤ q * y0 ∧ q * y0 < 18446744073709551616 := by
 have h1 := h.qt; have h2 := h.ql; have h3 := h.y0l; have h4 := h.y0u; have h5 := h.qu
 have h6 : q * y0 ≤ 4294967297 * y0 := Int.mul_le_mul_of_nonneg_right h5 h3
 exact ⟨Int.mul_nonneg (by omega) h3, by omega⟩
theorem Kn.next (h : Kn y1 y0 U u1 q r) (hc : 4294967296 ≤ q ∨ 4294967296 * r + u1 < q * y0) (hr : r + y1 < 4294967296) : Kn y1 y0 U u1 (q - 1) (r + y1) := by
 refine { h with e := ?_, ql := h.big hc, qu := by have := h.qu; omega, rl := by have := h.rl; have := h.y1l; omega, ru := hr }
 rw [Int.sub_mul]; have := h.e; omega
theorem Kn.stop (h : Kn y1 y0 U u1 q r) (hc : 4294967296 ≤ q ∨ 4294967296 * r + u1 < q * y0) (hr : 4294967296 ≤ r + y1) : q - 1 = (U * 4294967296 + u1) / (y1 * 4294967296 + y0) := by
 have hY := h.Y
 have h1 := h.y1l; have h2 := h.y0l; have h3 := h.big hc; have h4 := h.qu; have h5 := h.y0u; have h6 := h.u1l
 have h7 : (q - 1) * (y1 * 4294967296 + y0) = (U - r) * 4294967296 + q * y0 - (y1 * 4294967296 + y0) := by rw [Int.sub_mul, hY]; omega
 have h8 : (q - 1) * y0 ≤ 4294967296 * y0 := Int.mul_le_mul_of_nonneg_right (by omega) h2
 rw [Int.sub_mul] at h8
 have h9 : (q - 1) * (y1 * 4294967296 + y0) ≤ U * 4294967296 + u1 := by omega
 have := (Int.le_ediv_iff_mul_le (by omega)).2 h9
 omega
theorem Kn.start (y1l : 2147483648 ≤ y1) (y1u : y1 < 4294967296) (y0l : 0 ≤ y0) (y0u : y0 < 4294967296) (u1l : 0 ≤ u1) (u1u : u1 < 4294967296) (Ul : 0 ≤ U) (Uu : U < y1 * 4294967296 + y0) :
    Kn y1 y0 U u1 (U / y1) (U - U / y1 * y1) := by
 have h1 := Int.mul_ediv_add_emod U y1
 have h2 := Int.emod_nonneg U (show y1 ≠ 0 by omega)
 have h3 := Int.emod_lt_of_pos U (show 0 < y1 by omega)
 rw [Int.mul_comm] at h1
 refine ⟨by omega, y1l, y1u, y0l, y0u, u1l, u1u, Ul, Uu, ?_, ?_, by omega, by omega⟩
 ·have h4 : U * 4294967296 + u1 < (U / y1 + 1) * (y1 * 4294967296 + y0) := by
    have h5 : 0 ≤ (U / y1 + 1) * y0 := Int.mul_nonneg (by have := Int.ediv_nonneg Ul (show 0 ≤ y1 by omega); omega) y0l
    rw [Int.mul_add, ← Int.mul_assoc, Int.add_mul, Int.one_mul]
    omega
  have := Int.ediv_lt_of_lt_mul (by omega) h4
  omega
 ·have h4 : U < 4294967298 * y1 := by omega
  have := Int.ediv_lt_of_lt_mul (by omega) h4
  omega
end
theorem bl_pow (f x : Nat) (hx : x < 2 ^ f) (h0 : x ≠ 0) : 2 ^ (Lib.bitLenAux f x - 1) ≤ x ∧ x < 2 ^ Lib.bitLenAux f x ∧ 1 ≤ Lib.bitLenAux f x ∧ Lib.bitLenAux f x ≤ f := by
 induction f generalizing x with
 | zero => omega
 | succ f ih =>
   rw [Lib.bitLenAux, if_neg h0]
   rcases Nat.eq_zero_or_pos (x / 2) with h | h
   ·rw [h]
    have : Lib.bitLenAux f 0 = 0 := by cases f <;> simp [Lib.bitLenAux]
    rw [this]
    simp; omega
   ·obtain ⟨h1, h2, h3, h4⟩ := ih (x / 2) (by rw [Nat.pow_succ] at hx; omega) (by omega)
    generalize Lib.bitLenAux f (x / 2) = b at *
    obtain ⟨b, rfl⟩ : ∃ c, b = c + 1 := ⟨b - 1, by omega⟩
    rw [show 1 + (b + 1) - 1 = b + 1 by omega, show 1 + (b + 1) = b + 2 by omega, Nat.pow_succ, Nat.pow_succ 2 (b + 1), Nat.pow_succ]
    rw [Nat.add_sub_cancel] at h1
    rw [Nat.pow_succ] at h2
    omega
theorem lead0 (y : Int) (w : World) (h0 : 0 < y) (h1 : y < 18446744073709551616) :
    Calls Tryz.prog 164 #[.int .u64 y] w fun e w' => (∃ s : Nat, s ≤ 63 ∧ 9223372036854775808 ≤ y * 2 ^ s ∧ y * 2 ^ s < 18446744073709551616 ∧ e = .returned (.int .i64 s)) ∧ w' = w := by
 refine (Tryz.bits_LeadingZeros64 y w (by omega) (by omega)).mono ?_
 rintro e w' ⟨rfl, rfl⟩
 refine ⟨?_, rfl⟩
 obtain ⟨x, rfl⟩ := Int.eq_ofNat_of_zero_le (show 0 ≤ y by omega)
 obtain ⟨h1, h2, h3, h4⟩ := bl_pow 64 x (by omega) (by omega)
 rw [Int.toNat_natCast]
 show ∃ s : Nat, _ ∧ _ ∧ _ ∧ Ending.returned (.int .i64 (64 - (Lib.bitLenAux 64 x : Int))) = _
 generalize Lib.bitLenAux 64 x = b at *
 have e1 : 2 ^ (b - 1) * 2 ^ (64 - b) = 9223372036854775808 := by rw [← Nat.pow_add, show b - 1 + (64 - b) = 63 by omega]
 have e2 : 2 ^ b * 2 ^ (64 - b) = 18446744073709551616 := by rw [← Nat.pow_add, show b + (64 - b) = 64 by omega]
 have e3 := Nat.mul_le_mul_right (2 ^ (64 - b)) h1
 have e4 := Nat.mul_lt_mul_of_pos_right h2 (Nat.pow_pos (n := 64 - b) (show 0 < 2 by omega))
 rw [e1] at e3
 rw [e2] at e4
 have e5 : ((x * 2 ^ (64 - b) : Nat) : Int) = (x : Int) * 2 ^ (64 - b) := by rw [Int.natCast_mul, Int.natCast_pow]; rfl
 refine ⟨64 - b, by omega, by omega, by omega, ?_⟩
 rw [show (64 : Int) - b = ((64 - b : Nat) : Int) by omega]
theorem and_mask (x : Int) (h0 : 0 ≤ x) (h1 : x < 18446744073709551616) : bits .and .u64 x 4294967295 = x % 4294967296 := by
 obtain ⟨n, rfl⟩ := Int.eq_ofNat_of_zero_le h0
 have := bits_and_u64_nat n 4294967295 (by omega) (by omega)
 rw [show ((4294967295 : Nat) : Int) = 4294967295 from rfl] at this
 rw [this]
 have h2 := Nat.and_two_pow_sub_one_eq_mod n 32
 rw [show (2 ^ 32 - 1 : Nat) = 4294967295 from rfl, show (2 ^ 32 : Nat) = 4294967296 from rfl] at h2
 rw [h2]; omega
theorem or_join (a b s : Nat) (hb : b < 2 ^ s) (h : a * 2 ^ s + b < 18446744073709551616) : bits .or .u64 ((a * 2 ^ s : Nat) : Int) (b : Int) = ((a * 2 ^ s + b : Nat) : Int) := by
 rw [bits_or_u64_nat _ _ (by omega) (by omega), Nat.mul_comm a, ← Nat.two_pow_add_eq_or_of_lt hb]
theorem norm_ (h l y : Int) (s : Nat) (hs : s ≤ 63) (h0 : 0 ≤ h) (hy : h < y) (l0 : 0 ≤ l) (l1 : l < 18446744073709551616) (b1 : 9223372036854775808 ≤ y * 2 ^ s) (b2 : y * 2 ^ s < 18446744073709551616) :
    ∃ U L : Int, IntKind.u64.wrap (y * 2 ^ s) = y * 2 ^ s ∧ IntKind.u64.wrap (l * 2 ^ s) = L ∧ bits .or .u64 (IntKind.u64.wrap (h * 2 ^ s)) (l / 2 ^ (64 - s)) = U ∧
     0 ≤ U ∧ U < y * 2 ^ s ∧ 0 ≤ L ∧ L < 18446744073709551616 ∧ (h * 18446744073709551616 + l) * 2 ^ s = U * 18446744073709551616 + L := by
 obtain ⟨H, rfl⟩ := Int.eq_ofNat_of_zero_le h0
 obtain ⟨M, rfl⟩ := Int.eq_ofNat_of_zero_le l0
 obtain ⟨Y, rfl⟩ := Int.eq_ofNat_of_zero_le (show 0 ≤ y by omega)
 have c1 : ((Y * 2 ^ s : Nat) : Int) = (Y : Int) * 2 ^ s := by rw [Int.natCast_mul, Int.natCast_pow]; rfl
 have c2 : ((H * 2 ^ s : Nat) : Int) = (H : Int) * 2 ^ s := by rw [Int.natCast_mul, Int.natCast_pow]; rfl
 have c3 : ((M * 2 ^ s : Nat) : Int) = (M : Int) * 2 ^ s := by rw [Int.natCast_mul, Int.natCast_pow]; rfl
 have c4 : ((M / 2 ^ (64 - s) : Nat) : Int) = (M : Int) / 2 ^ (64 - s) := by rw [Int.natCast_ediv, Int.natCast_pow]; rfl
 have c5 : (((H * 18446744073709551616 + M) * 2 ^ s : Nat) : Int) = ((H : Int) * 18446744073709551616 + M) * 2 ^ s := by rw [Int.natCast_mul, Int.natCast_pow, Int.natCast_add, Int.natCast_mul]; rfl
 rw [← c1] at b1 b2 ⊢
 rw [← c2, ← c3, ← c4, ← c5]
 have p1 : 2 ^ (64 - s) * 2 ^ s = 18446744073709551616 := by rw [← Nat.pow_add, show 64 - s + s = 64 by omega]
 have p2 : 0 < 2 ^ s := Nat.pow_pos (by omega)
 have p3 : M / 2 ^ (64 - s) < 2 ^ s := by rw [Nat.div_lt_iff_lt_mul (Nat.pow_pos (by omega)), Nat.mul_comm, p1]; omega
 have p4 : M * 2 ^ s / 18446744073709551616 = M / 2 ^ (64 - s) := by rw [← p1, Nat.mul_div_mul_right _ _ p2]
 have p5 : (H + 1) * 2 ^ s ≤ Y * 2 ^ s := Nat.mul_le_mul_right _ (by omega)
 rw [Nat.add_mul, Nat.one_mul] at p5
 have p6 := Nat.div_add_mod (M * 2 ^ s) 18446744073709551616
 rw [p4] at p6
 have p7 : (H * 18446744073709551616 + M) * 2 ^ s = H * 2 ^ s * 18446744073709551616 + M * 2 ^ s := by rw [Nat.add_mul, Nat.mul_right_comm]
 rw [p7]
 generalize Y * 2 ^ s = yy at *
 have p8 : IntKind.u64.wrap ((H * 2 ^ s : Nat) : Int) = ((H * 2 ^ s : Nat) : Int) := by rw [IntKind.wrap_u64]; omega
 rw [p8, or_join H (M / 2 ^ (64 - s)) s p3 (by omega)]
 refine ⟨_, _, by rw [IntKind.wrap_u64]; omega, rfl, rfl, by omega, by omega, ?_, ?_, ?_⟩
 ·rw [IntKind.wrap_u64]; omega
 ·rw [IntKind.wrap_u64]; omega
 ·rw [IntKind.wrap_u64]
  generalize H * 2 ^ s = hh at *
  generalize M * 2 ^ s = mm at *
  generalize M / 2 ^ (64 - s) = md at *
  omega
theorem wr3 (a v z t : Int) (h : a + v - z = t) (h0 : 0 ≤ t) (h1 : t < 18446744073709551616) :
    IntKind.u64.wrap (IntKind.u64.wrap (IntKind.u64.wrap a + v) - IntKind.u64.wrap z) = t := by
 rw [IntKind.wrap_u64, IntKind.wrap_u64, IntKind.wrap_u64, IntKind.wrap_u64, Int.emod_add_emod, ← Int.sub_emod, h]
 omega
theorem halves (U L Y q1 q0 u21 : Int) (hY : 0 < Y) (h1 : q1 = (U * 4294967296 + L / 4294967296) / Y) (h2 : u21 = U * 4294967296 + L / 4294967296 - q1 * Y) (h3 : q0 = (u21 * 4294967296 + L % 4294967296) / Y) :
    0 ≤ u21 ∧ u21 < Y ∧ q1 * 4294967296 + q0 = (U * 18446744073709551616 + L) / Y ∧ u21 * 4294967296 + L % 4294967296 - q0 * Y = (U * 18446744073709551616 + L) % Y := by
 have a1 := Int.mul_ediv_add_emod (U * 4294967296 + L / 4294967296) Y
 have a2 := Int.emod_nonneg (U * 4294967296 + L / 4294967296) (show Y ≠ 0 by omega)
 have a3 := Int.emod_lt_of_pos (U * 4294967296 + L / 4294967296) hY
 rw [← h1, Int.mul_comm] at a1
 have b1 := Int.mul_ediv_add_emod (u21 * 4294967296 + L % 4294967296) Y
 have b2 := Int.emod_nonneg (u21 * 4294967296 + L % 4294967296) (show Y ≠ 0 by omega)
 have b3 := Int.emod_lt_of_pos (u21 * 4294967296 + L % 4294967296) hY
 rw [← h3, Int.mul_comm] at b1
 have c : U * 18446744073709551616 + L = (q1 * 4294967296 + q0) * Y + (u21 * 4294967296 + L % 4294967296) % Y := by
  rw [Int.add_mul, show q1 * 4294967296 * Y = q1 * Y * 4294967296 by rw [Int.mul_assoc, Int.mul_comm 4294967296, ← Int.mul_assoc]]
  generalize q1 * Y = z at *
  omega
 refine ⟨by omega, by omega, ?_, ?_⟩
 ·rw [c, Int.add_comm ((q1 * 4294967296 + q0) * Y), Int.add_mul_ediv_right _ _ (by omega), Int.ediv_eq_zero_of_lt b2 b3, Int.zero_add]
 ·rw [c, Int.add_comm ((q1 * 4294967296 + q0) * Y), Int.add_mul_emod_self_right, Int.emod_eq_of_lt b2 b3]
  omega
theorem div64 (h l y : Int) (w : World) (h0 : 0 ≤ h) (hy : h < y) (hy2 : y < 18446744073709551616) (l0 : 0 ≤ l) (l1 : l < 18446744073709551616) :
    Calls Tryz.prog 175 #[.int .u64 h, .int .u64 l, .int .u64 y] w fun e w' => e = .returned (.tuple #[.int .u64 ((h * 18446744073709551616 + l) / y), .int .u64 ((h * 18446744073709551616 + l) % y)]) ∧ Dr w w' := by
 have hy3 : (y == 0) = false := by rw [beq_eq_false_iff_ne]; omega
 by_cases hz : h = 0
 ·subst hz
  go_enter Tryz.func175, Tryz.ntmps175
  go_wp2_with fail
  go_quiet (fail)
  go_wp2_with fail
  go_ret2
  exact ⟨by simp, by repeat (first | exact .refl _ | apply Dr.dn)⟩
 ·have hz2 : (h == 0) = false := by rw [beq_eq_false_iff_ne]; omega
  go_enter Tryz.func175, Tryz.ntmps175
  go_wp2_with fail
  refine (lead0 y w (by omega) (by omega)).mono ?_
  rintro e w' ⟨⟨s, hs, hs1, hs2, rfl⟩, rfl⟩
  obtain ⟨U, L, rY, rL, rU, U0, U1, L0, L1, eUL⟩ := norm_ h l y s hs h0 hy l0 l1 hs1 hs2
  obtain ⟨Y, hY⟩ : ∃ Y, y * 2 ^ s = Y := ⟨_, rfl⟩
  have rYY := rY.trans hY
  rw [hY] at hs1 hs2 U1
  have HY := Hd.mk hY
  have EUL := Hd.mk eUL
  clear hY eUL
  obtain ⟨y1, ey1⟩ : ∃ y1, Y / 4294967296 = y1 := ⟨_, rfl⟩
  obtain ⟨y0, ey0⟩ : ∃ y0, Y % 4294967296 = y0 := ⟨_, rfl⟩
  obtain ⟨v1, ev1⟩ : ∃ v1, L / 4294967296 = v1 := ⟨_, rfl⟩
  obtain ⟨v0, ev0⟩ : ∃ v0, L % 4294967296 = v0 := ⟨_, rfl⟩
  have rA := and_mask Y (by omega) (by omega)
  have rB := and_mask L L0 L1
  rw [ey0] at rA
  rw [ev0] at rB
  have K0 := Hd.mk (Kn.start (y1 := y1) (y0 := y0) (U := U) (u1 := v1) (by omega) (by omega) (by omega) (by omega) (by omega) (by omega) U0 (by omega))
  obtain ⟨q, eq⟩ : ∃ q, U / y1 = q := ⟨_, rfl⟩
  rw [eq] at K0
  obtain ⟨r, er⟩ : ∃ r, U - q * y1 = r := ⟨_, rfl⟩
  rw [er] at K0
  have kr0 := K0.out.rl
  have kr1 := K0.out.ru
  have rQ : IntKind.u64.wrap (U.tdiv y1) = q := by
   rw [Int.tdiv_eq_ediv_of_nonneg U0, eq, IntKind.wrap_u64]
   have := K0.out.qu; have := K0.out.ql; have := K0.out.qt
   omega
  have rP : IntKind.u64.wrap (q * y1) = q * y1 := by rw [IntKind.wrap_u64]; have := K0.out.e; have := Int.mul_nonneg (show 0 ≤ q by have := K0.out.ql; have := K0.out.qt; omega) (show 0 ≤ y1 by omega); omega
  have rR : IntKind.u64.wrap (U - q * y1) = r := by rw [IntKind.wrap_u64, er]; omega
  clear eq er
  have hy1 : (y1 == 0) = false := by rw [beq_eq_false_iff_ne]; omega
  have hy1b : 0 < y1 := by omega
  have HE := Hd.mk (And.intro ey1 (And.intro ey0 (And.intro ev1 ev0)))
  have HYb := Hd.mk (And.intro hs1 hs2)
  have hs3 : (s : Int) ≤ 63 := by omega
  have hmin : min s 64 = s := by omega
  have hmin2 : min (64 - s) 64 = 64 - s := by omega
  clear rY hs1 hs2 ey0 ev0
  obtain ⟨q1, eq1⟩ : ∃ q1, (U * 4294967296 + v1) / (y1 * 4294967296 + y0) = q1 := ⟨_, rfl⟩
  have EQ1 := Hd.mk eq1
  clear eq1
  go_upto_block 0 with (fail)
  go_cut [15, 16] (fun vq _ wx => vq = .int .u64 q1 ∧ Hd (Dr w' wx))
  case first =>
   go_wp2_with fail
   go_loop [15, 16] (fun vq vr => ∃ q r : Int, vq = .int .u64 q ∧ vr = .int .u64 r ∧ Hd (Kn y1 y0 U v1 q r)) (fun vq _ => (intOf vq).toNat)
   case atStart => exact ⟨_, _, rfl, rfl, K0⟩
   case round =>
    obtain ⟨q, r, rfl, rfl, kn⟩ := hrel
    have k1 := kn.out.py.1
    have k2 := kn.out.py.2
    have k3 := kn.out.rl
    have k4 := kn.out.ru
    have k5 : 0 ≤ q := by have := kn.out.ql; have := kn.out.qt; omega
    have k6 := kn.out.qu
    have k7 := kn.out.u1l
    have k8 := kn.out.u1u
    have k9 := kn.out.y1l
    have k10 := kn.out.y1u
    by_cases hc : 4294967296 ≤ q ∨ 4294967296 * r + v1 < q * y0
    ·have HC := Hd.mk hc
     have k11 : 1 ≤ q := by have := kn.out.big hc; have := kn.out.qt; omega
     have hq2 : decide (4294967296 ≤ q) = true ∨ (decide (4294967296 ≤ q) = false ∧ decide (4294967296 * r + v1 < q * y0) = true) := by
      by_cases hq : 4294967296 ≤ q
      ·exact .inl (decide_eq_true hq)
      ·exact .inr ⟨decide_eq_false hq, decide_eq_true (by omega)⟩
     clear hc
     by_cases hr : r + y1 < 4294967296
     ·have hr2 : decide (4294967296 ≤ r + y1) = false := decide_eq_false (by omega)
      rcases hq2 with hd | ⟨hd, hd2⟩
      all_goals
       go_wp2_with fail
       go_round
       case rel => exact ⟨_, _, rfl, rfl, ⟨kn.out.next HC.out hr⟩⟩
       case measure => simp [intOf]; omega
     ·have hr2 : decide (4294967296 ≤ r + y1) = true := decide_eq_true (by omega)
      rcases hq2 with hd | ⟨hd, hd2⟩
      all_goals
       go_wp2_with fail
       go_meet
       exact ⟨by rw [kn.out.stop HC.out (by omega), EQ1.out], ⟨.refl _⟩⟩
    ·have hq2 : decide (4294967296 ≤ q) = false := decide_eq_false (by omega)
     have hq3 : decide (4294967296 * r + v1 < q * y0) = false := decide_eq_false (by omega)
     have HF := Hd.mk (kn.out.fits (by omega) (by omega))
     clear hc
     go_wp2_with fail
     go_meet
     exact ⟨by rw [HF.out, EQ1.out], ⟨.refl _⟩⟩
  case rest =>
   obtain ⟨rfl, ⟨hdr⟩⟩ := hcut
   have hh1 := Hd.mk (halves U L Y q1 _ _ (by omega) (by rw [← EQ1.out]; obtain ⟨e1, e2, e3, e4⟩ := HE.out; rw [e3, show y1 * 4294967296 + y0 = Y by omega]) rfl rfl)
   obtain ⟨u21, eu21⟩ : ∃ u21, U * 4294967296 + L / 4294967296 - q1 * Y = u21 := ⟨_, rfl⟩
   rw [eu21] at hh1
   have hu0 := hh1.out.1
   have hu1 := hh1.out.2.1
   have EU := Hd.mk eu21
   have rT : IntKind.u64.wrap (IntKind.u64.wrap (IntKind.u64.wrap (U * 4294967296) + v1) - IntKind.u64.wrap (q1 * Y)) = u21 := by
    obtain ⟨e1, e2, e3, e4⟩ := HE.out
    rw [e3] at eu21
    exact wr3 _ _ _ _ eu21 hu0 (by have := HYb.out.2; omega)
   clear eu21
   have hYs : y1 * 4294967296 + y0 = Y := by obtain ⟨e1, e2, e3, e4⟩ := HE.out; omega
   have HYs := Hd.mk hYs
   have K1 := Hd.mk (Kn.start (y1 := y1) (y0 := y0) (U := u21) (u1 := v0) K0.out.y1l K0.out.y1u K0.out.y0l K0.out.y0u (by obtain ⟨e1, e2, e3, e4⟩ := HE.out; omega) (by obtain ⟨e1, e2, e3, e4⟩ := HE.out; omega) hu0 (by omega))
   obtain ⟨q, eq⟩ : ∃ q, u21 / y1 = q := ⟨_, rfl⟩
   rw [eq] at K1
   obtain ⟨r, er⟩ : ∃ r, u21 - q * y1 = r := ⟨_, rfl⟩
   rw [er] at K1
   have kr0 := K1.out.rl
   have kr1 := K1.out.ru
   have rQ2 : IntKind.u64.wrap (u21.tdiv y1) = q := by
    rw [Int.tdiv_eq_ediv_of_nonneg hu0, eq, IntKind.wrap_u64]
    have := K1.out.qu; have := K1.out.ql; have := K1.out.qt
    omega
   have rP2 : IntKind.u64.wrap (q * y1) = q * y1 := by rw [IntKind.wrap_u64]; have := K1.out.e; have := HYb.out.2; have := Int.mul_nonneg (show 0 ≤ q by have := K1.out.ql; have := K1.out.qt; omega) (show 0 ≤ y1 by omega); omega
   have rR2 : IntKind.u64.wrap (u21 - q * y1) = r := by rw [IntKind.wrap_u64, er]; omega
   obtain ⟨q0, eq0⟩ : ∃ q0, (u21 * 4294967296 + v0) / (y1 * 4294967296 + y0) = q0 := ⟨_, rfl⟩
   have EQ0 := Hd.mk eq0
   clear eq0 eq er hYs
   go_upto_block 2 with (fail)
   go_cut [18, 16] (fun vq _ wx => vq = .int .u64 q0 ∧ Hd (Dr w' wx))
   case first =>
    go_wp2_with fail
    go_loop [18, 16] (fun vq vr => ∃ q r : Int, vq = .int .u64 q ∧ vr = .int .u64 r ∧ Hd (Kn y1 y0 u21 v0 q r)) (fun vq _ => (intOf vq).toNat)
    case atStart => exact ⟨_, _, rfl, rfl, K1⟩
    case round =>
     obtain ⟨q, r, rfl, rfl, kn⟩ := hrel
     have k1 := kn.out.py.1
     have k2 := kn.out.py.2
     have k3 := kn.out.rl
     have k4 := kn.out.ru
     have k5 : 0 ≤ q := by have := kn.out.ql; have := kn.out.qt; omega
     have k6 := kn.out.qu
     have k7 := kn.out.u1l
     have k8 := kn.out.u1u
     have k9 := kn.out.y1l
     have k10 := kn.out.y1u
     by_cases hc : 4294967296 ≤ q ∨ 4294967296 * r + v0 < q * y0
     ·have HC := Hd.mk hc
      have k11 : 1 ≤ q := by have := kn.out.big hc; have := kn.out.qt; omega
      have hq2 : decide (4294967296 ≤ q) = true ∨ (decide (4294967296 ≤ q) = false ∧ decide (4294967296 * r + v0 < q * y0) = true) := by
       by_cases hq : 4294967296 ≤ q
       ·exact .inl (decide_eq_true hq)
       ·exact .inr ⟨decide_eq_false hq, decide_eq_true (by omega)⟩
      clear hc
      by_cases hr : r + y1 < 4294967296
      ·have hr2 : decide (4294967296 ≤ r + y1) = false := decide_eq_false (by omega)
       rcases hq2 with hd | ⟨hd, hd2⟩
       all_goals
        go_wp2_with fail
        go_round
        case rel => exact ⟨_, _, rfl, rfl, ⟨kn.out.next HC.out hr⟩⟩
        case measure => simp [intOf]; omega
      ·have hr2 : decide (4294967296 ≤ r + y1) = true := decide_eq_true (by omega)
       rcases hq2 with hd | ⟨hd, hd2⟩
       all_goals
        go_wp2_with fail
        go_meet
        exact ⟨by rw [kn.out.stop HC.out (by omega), EQ0.out], ⟨hdr⟩⟩
     ·have hq2 : decide (4294967296 ≤ q) = false := decide_eq_false (by omega)
      have hq3 : decide (4294967296 * r + v0 < q * y0) = false := decide_eq_false (by omega)
      have HF := Hd.mk (kn.out.fits (by omega) (by omega))
      clear hc
      go_wp2_with fail
      go_meet
      exact ⟨by rw [HF.out, EQ0.out], ⟨hdr⟩⟩
   case rest =>
    obtain ⟨rfl, ⟨hdr2⟩⟩ := hcut
    have hh2 := Hd.mk (halves U L Y q1 q0 u21 (by omega) (by rw [← EQ1.out]; obtain ⟨e1, e2, e3, e4⟩ := HE.out; rw [e3, HYs.out]) EU.out.symm (by rw [← EQ0.out]; obtain ⟨e1, e2, e3, e4⟩ := HE.out; rw [e4, HYs.out]))
    obtain ⟨R, eR⟩ : ∃ R, (U * 18446744073709551616 + L) % Y = R := ⟨_, rfl⟩
    have hYne : Y ≠ 0 := by omega
    have hR0 : 0 ≤ R := by rw [← eR]; exact Int.emod_nonneg _ hYne
    have hR1 : R < Y := by rw [← eR]; exact Int.emod_lt_of_pos _ (by omega)
    have rU2 : IntKind.u64.wrap (IntKind.u64.wrap (IntKind.u64.wrap (u21 * 4294967296) + v0) - IntKind.u64.wrap (q0 * Y)) = R := by
     refine wr3 _ _ _ _ ?_ hR0 (by have := HYb.out.2; omega)
     obtain ⟨e1, e2, e3, e4⟩ := HE.out
     have h4 := hh2.out.2.2.2
     rw [e4, eR] at h4
     exact h4
    have HER := Hd.mk eR
    clear eR
    go_wp2_with fail
    go_ret2
    refine ⟨?_, hdr2⟩
    show Ending.returned (.tuple #[.int .u64 (IntKind.u64.wrap (IntKind.u64.wrap (q1 * 4294967296) + q0)), .int .u64 (R / 2 ^ s)]) = _
    have pp : (0 : Int) < 2 ^ s := Int.pow_pos (by omega)
    have f1 : (U * 18446744073709551616 + L) / Y = (h * 18446744073709551616 + l) / y := by rw [← EUL.out, ← HY.out, Int.mul_ediv_mul_of_pos_left _ _ pp]
    have f2 : R = (h * 18446744073709551616 + l) % y * 2 ^ s := by rw [← HER.out, ← EUL.out, ← HY.out, Int.mul_comm, Int.mul_comm y, Int.mul_emod_mul_of_pos _ _ pp, Int.mul_comm]
    have f3 : R / 2 ^ s = (h * 18446744073709551616 + l) % y := by rw [f2, Int.mul_ediv_cancel _ (by omega)]
    have f4 : (h * 18446744073709551616 + l) / y < 18446744073709551616 := Int.ediv_lt_of_lt_mul (by omega) (by omega)
    have f5 : 0 ≤ (h * 18446744073709551616 + l) / y := Int.ediv_nonneg (by omega) (by omega)
    rw [f3, IntKind.wrap_u64, IntKind.wrap_u64, Int.emod_add_emod, hh2.out.2.2.1, f1, Int.emod_eq_of_lt f5 f4]
theorem step_append_rd {P : Program} (w : World) {ops : Array Oper} {o : Oper} {a : Act} {K : Act → World → Prop} {Q : Exit → Act → World → Prop} {E : Prop} (hgd : o.guard = none) (s x : Operand) (t : TypeId)
    (ho : o.op = .call { callee := .builtin .append, args := #[s, x], argTypes := #[t, t] })
    (base : Nat) (e : TypeId) (i : TypeInfo) (z : Value) (sz bytes : Nat) (ht : P.underlying t = some (.slice e)) (hi : P.info? e = some i) (hz : i.zero = some z)
    (hsize : i.size = sz) (hby : i.bytes = bytes) (hzs : z.cells.size = sz) (hsz : 0 < sz)
    (v : Value) (n : Nat) (xs : List Value) (hs : a.eval s = v) (hown : w.ownsRow base e sz v n xs)
    (B : Nat) (A : Option Addr) (m c : Nat) (news : List Value) (hx : a.eval x = .slice A m c) (hr : Rd w B sz A m news) (h1 : ∀ u ∈ news, u.oneCell' = true)
    (h63 : n + m ≤ maxLen) (hbytes : (n + m) * bytes ≤ 140737488355328) (hbase : base ≤ w.heap.size)
    (h : ∀ v' w', w'.ownsRow base e sz v' (n + m) (xs ++ news) → w.grownBy w' v.ownBlock → (v'.ownBlock = v.ownBlock ∨ v'.ownBlock = some w.heap.size) → K (a.put o.dst v') w') :
    if Region.wanted o (yielded ops a.tmps) = true then Oper.wp P o a w K Q else E := by
 have hw : Region.wanted o (yielded ops a.tmps) = true := by simp [Region.wanted, hgd]
 rw [if_pos hw]
 exact wp_append_rd w s x t ho base e i z sz bytes ht hi hz hsize hby hzs hsz v n xs hs hown B A m c news hx hr h1 h63 hbytes hbase h
theorem alsz (w : World) (o : Obj) : w.heap.size ≤ (w.alloc o).heap.size := by simp
theorem up_limb (x c : Int) (s : Nat) (hs : s ≤ 63) (hx : 0 ≤ x ∧ x < 18446744073709551616) (hc : 0 ≤ c ∧ c < 2 ^ s) :
    ∃ lo hi : Int, bits .or .u64 (IntKind.u64.wrap (x * 2 ^ s)) c = lo ∧ x / 2 ^ (63 - s) / 2 = hi ∧ 0 ≤ lo ∧ lo < 18446744073709551616 ∧ 0 ≤ hi ∧ hi < 2 ^ s ∧ lo + 18446744073709551616 * hi = x * 2 ^ s + c := by
 obtain ⟨X, rfl⟩ := Int.eq_ofNat_of_zero_le hx.1
 obtain ⟨C, rfl⟩ := Int.eq_ofNat_of_zero_le hc.1
 have c2 : ((2 ^ s : Nat) : Int) = (2 : Int) ^ s := by rw [Int.natCast_pow]; rfl
 have c1 : ((X * 2 ^ s : Nat) : Int) = (X : Int) * 2 ^ s := by rw [Int.natCast_mul, c2]
 have c4 : ((X / 2 ^ (63 - s) / 2 : Nat) : Int) = (X : Int) / 2 ^ (63 - s) / 2 := by rw [Int.natCast_ediv, Int.natCast_ediv, Int.natCast_pow]; rfl
 rw [← c1, ← c4, ← c2]
 rw [← c2] at hc
 have p1 : 2 ^ (64 - s) * 2 ^ s = 18446744073709551616 := by rw [← Nat.pow_add, show 64 - s + s = 64 by omega]
 have p2 : 0 < 2 ^ s := Nat.pow_pos (by omega)
 have p3 : 0 < 2 ^ (64 - s) := Nat.pow_pos (by omega)
 have p4 : X / 2 ^ (63 - s) / 2 = X / 2 ^ (64 - s) := by rw [Nat.div_div_eq_div_mul, ← Nat.pow_succ, show (63 - s).succ = 64 - s by omega]
 have p5 : X * 2 ^ s % 18446744073709551616 = X % 2 ^ (64 - s) * 2 ^ s := by rw [← p1, Nat.mul_mod_mul_right]
 have p6 : IntKind.u64.wrap ((X * 2 ^ s : Nat) : Int) = ((X % 2 ^ (64 - s) * 2 ^ s : Nat) : Int) := by rw [IntKind.wrap_u64, ← p5]; omega
 have p7 : (X % 2 ^ (64 - s) + 1) * 2 ^ s ≤ 2 ^ (64 - s) * 2 ^ s := Nat.mul_le_mul_right _ (Nat.mod_lt _ p3)
 rw [p1, Nat.add_mul, Nat.one_mul] at p7
 have p8 := Nat.div_add_mod X (2 ^ (64 - s))
 have p9 : X * 2 ^ s = 18446744073709551616 * (X / 2 ^ (64 - s)) + X % 2 ^ (64 - s) * 2 ^ s := by
  rw [← p1]
  conv => lhs; rw [← p8]
  rw [Nat.add_mul, Nat.mul_right_comm]
 have p10 : X / 2 ^ (64 - s) < 2 ^ s := by rw [Nat.div_lt_iff_lt_mul p3, Nat.mul_comm, p1]; omega
 rw [p6, or_join _ C s (by omega) (by omega), p4]
 refine ⟨_, _, rfl, rfl, by omega, by omega, by omega, by omega, by omega⟩
theorem down_limb (x y : Int) (k : Nat) (hk : 1 ≤ k) (hk2 : k ≤ 63) (hx : 0 ≤ x ∧ x < 18446744073709551616) (hy : 0 ≤ y ∧ y < 18446744073709551616) :
    ∃ o : Int, bits .or .u64 (x / 2 ^ k) (IntKind.u64.wrap (y * 2 ^ (64 - k))) = o ∧ 0 ≤ o ∧ o < 18446744073709551616 ∧ 2 ^ k * o.toNat + x.toNat % 2 ^ k = x.toNat + 18446744073709551616 * (y.toNat % 2 ^ k) := by
 obtain ⟨X, rfl⟩ := Int.eq_ofNat_of_zero_le hx.1
 obtain ⟨Y, rfl⟩ := Int.eq_ofNat_of_zero_le hy.1
 have c1 : ((Y * 2 ^ (64 - k) : Nat) : Int) = (Y : Int) * 2 ^ (64 - k) := by rw [Int.natCast_mul, Int.natCast_pow]; rfl
 have c4 : ((X / 2 ^ k : Nat) : Int) = (X : Int) / 2 ^ k := by rw [Int.natCast_ediv, Int.natCast_pow]; rfl
 rw [← c1, ← c4]
 have p1 : 2 ^ k * 2 ^ (64 - k) = 18446744073709551616 := by rw [← Nat.pow_add, show k + (64 - k) = 64 by omega]
 have p2 : 0 < 2 ^ k := Nat.pow_pos (by omega)
 have p5 : Y * 2 ^ (64 - k) % 18446744073709551616 = Y % 2 ^ k * 2 ^ (64 - k) := by rw [← p1, Nat.mul_mod_mul_right]
 have p6 : IntKind.u64.wrap ((Y * 2 ^ (64 - k) : Nat) : Int) = ((Y % 2 ^ k * 2 ^ (64 - k) : Nat) : Int) := by rw [IntKind.wrap_u64, ← p5]; omega
 have p7 : (Y % 2 ^ k + 1) * 2 ^ (64 - k) ≤ 2 ^ k * 2 ^ (64 - k) := Nat.mul_le_mul_right _ (Nat.mod_lt _ p2)
 rw [p1, Nat.add_mul, Nat.one_mul] at p7
 have p8 := Nat.div_add_mod X (2 ^ k)
 have p10 : X / 2 ^ k < 2 ^ (64 - k) := by rw [Nat.div_lt_iff_lt_mul p2, Nat.mul_comm, p1]; omega
 have p11 : bits .or .u64 ((X / 2 ^ k : Nat) : Int) ((Y % 2 ^ k * 2 ^ (64 - k) : Nat) : Int) = ((Y % 2 ^ k * 2 ^ (64 - k) + X / 2 ^ k : Nat) : Int) := by
  rw [bits_or_u64_nat _ _ (by omega) (by omega), Nat.or_comm, Nat.mul_comm (Y % 2 ^ k), ← Nat.two_pow_add_eq_or_of_lt p10]
 have p12 : 2 ^ k * (Y % 2 ^ k * 2 ^ (64 - k)) = 18446744073709551616 * (Y % 2 ^ k) := by rw [Nat.mul_left_comm, p1, Nat.mul_comm]
 have p13 : Y % 2 ^ k * 2 ^ (64 - k) + X / 2 ^ k < 18446744073709551616 := by omega
 rw [p6, p11]
 refine ⟨_, rfl, Int.natCast_nonneg _, by omega, ?_⟩
 simp only [Int.toNat_natCast]
 rw [Nat.mul_add, p12]
 omega
theorem limb_Shift_up (A : Option Addr) (c s : Nat) (N : Int) (hN : N = s) (l : List Int) (w : World) (h : RdI w .u64 A l) (hn : l.length ≤ c) (hb9 : l.length ≤ 1000000000) (hu : U64 l) (hs : s ≤ 63) :
    Calls Tryz.prog 165 #[.slice A l.length c, .int .i64 N] w fun e w' => ∃ v, e = .returned v ∧ OwnI w' w.heap.size 100 .u64 v (limbs (val l * 2 ^ s)) ∧ Below w.heap.size w w' := by
 subst hN
 obtain ⟨i0, hi, hz0, hz1, hz2⟩ := info_split Tryz.infU64
 have C1 := Hd.mk (limb_trim A c l w h hn (by omega))
 have R1 := Hd.mk h.trim
 have u1 : Hd (U64 (trimL l)) := ⟨by rw [trimL_take]; exact hu.take _⟩
 have v1 := Hd.mk (val_trim l)
 have hl1 := trimL_len l
 rw [← v1.out]
 clear v1 h hu
 generalize trimL l = x at *
 have hmk : ∀ W : World, (Instr.makeSlice 48 (.int .i64 0) (.int .i64 (↑x.length + 1))).run Tryz.prog W = .ok (.slice (some ⟨W.heap.size, 0, none⟩) 0 (x.length + 1)) (W.alloc (.cells (zer (x.length + 1)) 100)) := fun W => by
  have hr := run_make (P := Tryz.prog) W 48 100 i0 (.int .u64 0) Tryz.slU64 hi hz0 .i64 .i64 0 ((x.length : Int) + 1) (by omega) (by omega) (by rw [hz2]; omega) (by omega)
  have e1 : ((x.length : Int) + 1).toNat = x.length + 1 := by omega
  have e : madeCells (Value.int .u64 0).cells (x.length + 1) = zer (x.length + 1) := by
   apply Array.ext'
   show (madeCells #[Value.int .u64 0] (x.length + 1)).toList = _
   rw [toList_madeCells_one]
   simp [zer, ints]
  rw [e1, hz1, Nat.mul_one, e] at hr
  exact hr
 have hs3 : (s : Int) ≤ 63 := by omega
 have hs4 : min (s : Int) 1000 = s := by omega
 have hs5 : (s : Int) / 64 = 0 := by omega
 have hs6 : (s : Int) % 64 = s := by omega
 go_enter Tryz.func165, Tryz.ntmps165
 go_wp2_with fail
 refine C1.out.mono ?_
 rintro e w' ⟨rfl, rfl⟩
 go_wp2_with fail
 go_loopw [8, 9, 86] (fun v8 v9 v86 wr => ∃ (os : List Int) (i : Nat) (cy : Int), v9 = .int .u64 cy ∧ v86 = .int .i64 i ∧ i ≤ x.length ∧ Hd (os.length = i) ∧ Hd (U64 os) ∧ Hd (0 ≤ cy ∧ cy < 2 ^ s) ∧ Hd (OwnI wr w.heap.size 100 .u64 v8 os) ∧ Hd (Below w.heap.size w wr) ∧
  Hd (val os + 18446744073709551616 ^ i * cy.toNat = val (x.take i) * 2 ^ s)) (fun _ _ v _ => x.length - (intOf v).toNat)
 case atStart =>
  have pp : (0 : Int) < 2 ^ s := Int.pow_pos (by omega)
  exact ⟨[], 0, 0, rfl, rfl, by omega, ⟨rfl⟩, ⟨.nil⟩, ⟨by omega⟩, ⟨World.ownsRow_made w _ (x.length + 1) (Nat.le_refl _) (by unfold maxLen; omega) (by rw [zer_size]; omega)⟩, ⟨(Below.refl _ _).alloc (Nat.le_refl _) _⟩, ⟨by simp [val]⟩⟩
 case round =>
  obtain ⟨os, i, cy, rfl, rfl, hi2, hol, hou, hcy, hown, hbel, hval⟩ := hrel
  obtain ⟨A5, c5, rfl, hc5, hm5, hr5⟩ := hown.out.reads
  have HR5 := Hd.mk hr5
  clear hr5 hmk
  by_cases hlt : i < x.length
  ·have RX := Hd.mk (R1.out.up hbel.out)
   obtain ⟨ad, xi, rfl, _, hxi, hcell⟩ := RX.out.get hlt
   have hx0 := u1.out.at_ i
   rw [hxi.out] at hx0
   obtain ⟨lo, hi_, e1, e2, l0, l1, h0, h1, hsum⟩ := up_limb xi cy s hs hx0 hcy.out
   have HSUM := Hd.mk hsum
   have H01 := Hd.mk (And.intro h0 h1)
   clear hsum h0 h1
   have hmin : min s 64 = s := by omega
   have hmin2 : min (63 - s) 64 = 63 - s := by omega
   have g1 : os.length + 1 ≤ maxLen := by have := hol.out; unfold maxLen; omega
   have g2 : (os.length + 1) * 8 ≤ 140737488355328 := by have := hol.out; omega
   have g3 := hbel.out.size
   have G1 := Hd.mk g1
   have G2 := Hd.mk g2
   clear g1 g2
   have s0 : (0 : Int) ≤ s := by omega
   have s1 : (s : Int).tmod 64 = s := by rw [Int.tmod_eq_emod_of_nonneg s0]; omega
   have s2 : IntKind.i64.wrap (63 - (s : Int)) = 63 - s := by rw [IntKind.wrap_i64]; omega
   have s3 : (0 : Int) ≤ 63 - s := by omega
   have s4 : (63 - (s : Int)).toNat = 63 - s := by omega
   go_wp2_with fail
   go_region_law (first | (refine step_append_rd _ rfl _ _ 48 rfl w.heap.size 100 i0 (.int .u64 0) 1 8 Tryz.slU64 hi hz0 hz1 hz2 rfl (by decide) _ _ _ rfl (hown.out.al _).d1 _ _ 1 1 (ints .u64 [lo]) rfl (Rd.new_ wr #[.int .u64 lo] 100 1 1 rfl) (ints_one _ _) G1.out G2.out (Nat.le_trans g3 (alsz _ _)) ?_; intro v' w' ho hg _))
   have HO : Hd (OwnI w' w.heap.size 100 .u64 v' (os ++ [lo])) := ⟨by unfold OwnI; rw [ints_app, List.length_append]; exact ho⟩
   have HB : Hd (Below w.heap.size w w') := ⟨grown_below (hown.out.al _).d1 hg ((hbel.out.alloc g3 _).drew) (Nat.le_trans g3 (alsz _ _))⟩
   clear ho hg
   go_wp2_with fail
   go_roundw
   case measure => first | (simp [intOf]; done) | (simp [intOf]; omega)
   case rel =>
    refine ⟨os ++ [lo], i + 1, hi_, rfl, by go_num, by omega, ⟨by rw [List.length_append, hol.out]; rfl⟩, ⟨hou.out.app (U64.nil.cons l0 l1)⟩, H01, HO, HB, ⟨?_⟩⟩
    rw [val_snoc, hol.out, val_take_succ, hxi.out, Nat.pow_succ, Nat.add_mul, ← hval.out]
    have h01 := H01.out.1
    have e5 : lo.toNat + 18446744073709551616 * hi_.toNat = xi.toNat * 2 ^ s + cy.toNat := by
     have h1 := HSUM.out
     obtain ⟨X, rfl⟩ := Int.eq_ofNat_of_zero_le hx0.1
     have c1 : ((X * 2 ^ s : Nat) : Int) = (X : Int) * 2 ^ s := by rw [Int.natCast_mul, Int.natCast_pow]; rfl
     rw [← c1] at h1
     have := hcy.out.1
     rw [Int.toNat_natCast]
     omega
    have e6 := congrArg (18446744073709551616 ^ i * ·) e5
    simp only [Nat.mul_add] at e6
    rw [Nat.mul_assoc, Nat.mul_assoc]
    omega
  ·have hie : i = x.length := by omega
   have hown2 := Hd.mk (hown.out.al (.cells #[.int .u64 cy] 100))
   have hHB := hbel.out.size
   have hol2 : os.length ≤ 1000000000 := by have := hol.out; omega
   go_wp2_with (at_builtin; refine wpList_append_rd _ rfl _ _ 48 rfl w.heap.size 100 i0 (.int .u64 0) 1 8 Tryz.slU64 hi hz0 hz1 hz2 rfl (by decide) _ _ _ rfl hown2.out _ _ 1 1 (ints .u64 [cy]) rfl (Rd.new_ wr #[.int .u64 cy] 100 1 1 rfl) (ints_one _ _) ?c1 ?c2 ?c3 ?_)
   case c1 => unfold maxLen; omega
   case c2 => omega
   case c3 => simp; omega
   intro v' w' ho hg _
   obtain ⟨z, HZ⟩ : ∃ z, Hd (z = os ++ [cy]) := ⟨_, ⟨rfl⟩⟩
   have HO : Hd (OwnI w' w.heap.size 100 .u64 v' z) := ⟨by rw [HZ.out]; unfold OwnI; rw [ints_app, List.length_append]; exact ho⟩
   have HB : Hd (Below w.heap.size w w') := ⟨grown_below hown2.out hg (hbel.out.alloc hHB _) (by simp; omega)⟩
   clear ho hg
   have pw : (2 : Int) ^ s ≤ 9223372036854775808 := by
    have : 2 ^ s ≤ 2 ^ 63 := Nat.pow_le_pow_right (by omega) hs
    have c2 : ((2 ^ s : Nat) : Int) = (2 : Int) ^ s := by rw [Int.natCast_pow]; rfl
    rw [← c2]; omega
   have hou2 : Hd (U64 z) := ⟨by rw [HZ.out]; exact hou.out.app (U64.nil.cons hcy.out.1 (by have := hcy.out.2; omega))⟩
   have hzl : z.length ≤ 1000000001 := by rw [HZ.out]; simp; omega
   obtain ⟨A7, c7, hv7, hc7, hm7, hr7⟩ := HO.out.reads
   subst hv7
   have HR7 := Hd.mk hr7
   clear hr7 hm7 pw
   have tz := trimL_len z
   have C2 := Hd.mk (limb_trim A7 c7 z w' HR7.out hc7 (by omega))
   go_wp2_with fail
   refine C2.out.mono ?_
   rintro e w2 ⟨rfl, rfl⟩
   go_wp2_with fail
   refine (clone_u64 A7 c7 (trimL z) w' HR7.out.trim (by omega) (by omega)).mono ?_
   rintro e w2 ⟨v, rfl, ho, hb⟩
   have HO2 := Hd.mk ho
   have HB2 := Hd.mk hb
   clear ho hb
   go_wp2_with fail
   go_ret
   refine ⟨_, rfl, ?_, HB.out.trans (HB2.out.mono HB.out.size)⟩
   have h5 := hval.out
   rw [hie, List.take_length] at h5
   have h6 : val z = val x * 2 ^ s := by rw [HZ.out, val_snoc, hol.out, hie]; exact h5
   rw [← h6, ← trim_limbs hou2.out]
   exact HO2.out.low HB.out.size
end Go.Proofs.YtjanagclahkfdaaGreat
