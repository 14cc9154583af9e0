/- Parts of the proof, joined: what each says stands at its head. -/
import Derived.Test.YtjanagclahkfdaaGreatM07
set_option linter.unusedVariables false
set_option linter.unusedSimpArgs false
set_option maxHeartbeats 24000000
set_option maxRecDepth 100000
namespace Go.Proofs.YtjanagclahkfdaaGreat
open Go.RowKit
theorem down_val {x os : List Int} {s i : Nat} {xi y o : Int} (hil : i < os.length) (hil2 : i < x.length) (hxi : x.getD i 0 = xi) (hy : x.getD (i + 1) 0 = y) (hsum : 2 ^ s * o.toNat + xi.toNat % 2 ^ s = xi.toNat + 18446744073709551616 * (y.toNat % 2 ^ s)) (hval : 2 ^ s * val (os.take i) + (x.getD 0 0).toNat % 2 ^ s = val (x.take i) + 18446744073709551616 ^ i * ((x.getD i 0).toNat % 2 ^ s)) :
    2 ^ s * val ((os.set i o).take (i + 1)) + (x.getD 0 0).toNat % 2 ^ s = val (x.take (i + 1)) + 18446744073709551616 ^ (i + 1) * ((x.getD (i + 1) 0).toNat % 2 ^ s) := by
 have e3 : (os.set i o).take (i + 1) = os.take i ++ [o] := by
  rw [take_snoc (by rw [List.length_set]; exact hil), List.take_set_of_le (Nat.le_refl _)]
  rw [List.getD_eq_getElem?_getD, List.getElem?_set_self hil]; rfl
 rw [e3, val_snoc, List.length_take, Nat.min_eq_left (by omega), val_take_succ, hxi, Nat.pow_succ, hy]
 rw [hxi] at hval
 clear e3 hxi hy
 generalize (18446744073709551616 : Nat) ^ i = P at *
 generalize (x.getD 0 0).toNat % 2 ^ s = m0 at *
 generalize xi.toNat % 2 ^ s = m1 at *
 generalize y.toNat % 2 ^ s = m2 at *
 generalize (2 : Nat) ^ s = Q at *
 generalize val (os.take i) = V at *
 generalize val (x.take i) = V2 at *
 have e6 := congrArg (P * ·) hsum
 simp only [Nat.mul_add] at e6
 rw [Nat.mul_add, Nat.mul_left_comm Q, Nat.mul_assoc]
 omega
theorem limb_Shift_down (A : Option Addr) (c s : Nat) (N : Int) (hN : N = -(s : Int)) (l : List Int) (w : World) (h : RdI w .u64 A l) (hn : l.length ≤ c) (hb9 : l.length ≤ 1000000000) (hu : U64 l) (hs1 : 1 ≤ s) (hs : s ≤ 63) :
    Calls Tryz.prog 165 #[.slice A l.length c, .int .i64 N] w fun e w' => ∃ v, e = .returned v ∧ OwnI w' w.heap.size 100 .u64 v (limbs (val l / 2 ^ s)) ∧ Below w.heap.size w w' := by
 have C1 := Hd.mk (limb_trim A c l w h hn (by omega))
 have R1 := Hd.mk h.trim
 have u1 : Hd (U64 (trimL l)) := ⟨by rw [trimL_take]; exact hu.take _⟩
 have v1 := Hd.mk (val_trim l)
 have hl1 := trimL_len l
 rw [← v1.out]
 clear v1 h hu
 generalize trimL l = x at *
 have n0 : N < 0 := by omega
 have n1 : max N (-100001) = N := by omega
 have n2 : (-N) = s := by omega
 have n3 : (s : Int) / 64 = 0 := by omega
 have n4 : (s : Int) % 64 = s := by omega
 have s3 : (s : Int) ≤ 63 := by omega
 have s0 : (0 : Int) < s := by omega
 have n5 : decide ((100000 : Int) < (s : Int)) = false := decide_eq_false (by omega)
 clear hN
 go_enter Tryz.func165, Tryz.ntmps165
 go_wp2_with fail
 refine C1.out.mono ?_
 rintro e w' ⟨rfl, rfl⟩
 by_cases hx : x.length = 0
 ·have hxn : x = [] := List.eq_nil_of_length_eq_zero hx
  subst hxn
  clear hx C1 hl1
  go_wp2_with fail
  go_ret
  refine ⟨_, rfl, ?_, .refl _ _⟩
  rw [val, Nat.zero_div, limbs_zero]
  exact OwnI.nil _ _ _ _
 ·have hx1 : 0 < x.length := by omega
  have hc0 : ¬ c = 0 := by omega
  go_wp2_with fail
  refine (clone_u64 A c x w R1.out (by omega) (by omega)).mono ?_
  rintro e w1 ⟨v, rfl, ho, hb⟩
  have HO := Hd.mk ho
  have HB := Hd.mk hb
  clear ho hb
  obtain ⟨A5, c5, rfl, hc5, hm5, _⟩ := HO.out.reads
  clear hx
  go_wp2_with fail
  simp only [n4]
  go_loopw [37] (fun v37 wr => ∃ (os : List Int) (i : Nat), v37 = .int .i64 i ∧ i ≤ x.length ∧ Hd (os.length = x.length) ∧ Hd (U64 os) ∧ Hd (OwnI wr w.heap.size 100 .u64 (.slice A5 x.length c5) os) ∧ Hd (Below w.heap.size w wr) ∧ Hd (os.drop i = x.drop i) ∧
   Hd (2 ^ s * val (os.take i) + (x.getD 0 0).toNat % 2 ^ s = val (x.take i) + 18446744073709551616 ^ i * ((x.getD i 0).toNat % 2 ^ s))) (fun v _ => x.length - (intOf v).toNat)
  case atStart => exact ⟨x, 0, rfl, by omega, ⟨rfl⟩, u1, HO, HB, ⟨rfl⟩, ⟨by simp [val]⟩⟩
  case round =>
   obtain ⟨os, i, rfl, hi2, hol, hou, hown, hbel, hdr, hval⟩ := hrel
   by_cases hlt : i < x.length
   ·have hil : i < os.length := by have := hol.out; omega
    obtain ⟨g, c6, xi, hv, hg1, hg2, hxi, hcell, hfro, hset⟩ := hown.out.cell hil
    injection hv with hv1 hv2 hv3
    subst hv1 hv3
    have HS := Hd.mk hset
    have hxi2 : Hd (x.getD i 0 = xi) := ⟨by
     have h1 := congrArg (fun t => t.getD 0 0) hdr.out
     simp only [List.getD_eq_getElem?_getD, List.getElem?_drop, Nat.add_zero] at h1
     rw [List.getD_eq_getElem?_getD, ← h1, ← List.getD_eq_getElem?_getD]; exact hxi.out⟩
    have hx0 := u1.out.at_ i
    rw [hxi2.out] at hx0
    have hmin : min s 64 = s := by omega
    have hmin2 : min (64 - s) 64 = 64 - s := by omega
    clear hset hv2
    have hcell' := hcell
    clear hcell'
    by_cases hlt2 : i + 1 < x.length
    ·have hb1 : ((i : Int) + 1 < x.length) := by omega
     obtain ⟨g', c', y, hv, _, _, hy, hcell2, _, _⟩ := hown.out.cell (i := i + 1) (by have := hol.out; omega)
     injection hv with hv1 hv2 hv3
     injection hv1 with hv1
     injection hv1 with hv1
     subst hv1 hv3
     clear hv2
     have hy2 : Hd (x.getD (i + 1) 0 = y) := ⟨by
      have h1 := congrArg (fun t => t.getD 1 0) hdr.out
      simp only [List.getD_eq_getElem?_getD, List.getElem?_drop] at h1
      rw [List.getD_eq_getElem?_getD, ← h1, ← List.getD_eq_getElem?_getD]; exact hy.out⟩
     have hy0 := u1.out.at_ (i + 1)
     rw [hy2.out] at hy0
     obtain ⟨o, e1, o0, o1, hsum⟩ := down_limb xi y s hs1 hs hx0 hy0
     have HSUM := Hd.mk hsum
     clear hsum
     have s5 : IntKind.i64.wrap (64 - (s : Int)) = 64 - s := by rw [IntKind.wrap_i64]; omega
     have s6 : (0 : Int) ≤ 64 - s := by omega
     have s7 : (64 - (s : Int)).toNat = 64 - s := by omega
     have s8 : (0 : Int) ≤ i := by omega
     have s9 : (i : Int) < x.length := by omega
     have s10 : IntKind.i64.wrap ((i : Int) + 1) = i + 1 := by rw [IntKind.wrap_i64]; omega
     have s11 : ((i : Int) + 1).toNat = i + 1 := by omega
     have s12 : (0 : Int) ≤ (i : Int) + 1 := by omega
     go_wp2_with fail
     go_region
     go_wp2_with fail
     go_roundw
     case measure => first | (simp [intOf]; done) | (simp [intOf]; omega)
     case rel =>
      refine ⟨os.set i o, i + 1, by go_num, by omega, ⟨by rw [List.length_set]; exact hol.out⟩, ⟨hou.out.set i o0 o1⟩, ⟨?_⟩, ⟨((hbel.out.setCell hg1 _).setCell hg1 _).drew⟩, ⟨?_⟩, ⟨?_⟩⟩
      ·have h1 := OwnI.put (OwnI.put (hown.out) hil (xi / 2 ^ s)) (i := i) (by rw [List.length_set]; exact hil) o
       rw [List.set_set] at h1
       exact h1.d1
      ·rw [List.drop_set_of_lt (by omega)]
       have := congrArg (List.drop 1) hdr.out
       rw [List.drop_drop, List.drop_drop] at this
       exact this
      ·exact down_val hil hlt hxi2.out hy2.out HSUM.out hval.out
    ·have hb1 : ¬ ((i : Int) + 1 < x.length) := by omega
     have hq0 : 0 ≤ xi / 2 ^ s := Int.ediv_nonneg hx0.1 (Int.le_of_lt (Int.pow_pos (by omega)))
     have hq1 : xi / 2 ^ s < 18446744073709551616 := by
      have := Int.ediv_le_self (2 ^ s : Int) hx0.1
      omega
     have HSUM : Hd (2 ^ s * (xi / 2 ^ s).toNat + xi.toNat % 2 ^ s = xi.toNat + 18446744073709551616 * ((0 : Int).toNat % 2 ^ s)) := ⟨by
      obtain ⟨X, rfl⟩ := Int.eq_ofNat_of_zero_le hx0.1
      have c4 : ((X / 2 ^ s : Nat) : Int) = (X : Int) / 2 ^ s := by rw [Int.natCast_ediv, Int.natCast_pow]; rfl
      rw [← c4, Int.toNat_natCast, Int.toNat_natCast, Nat.div_add_mod]; simp⟩
     go_wp2_with fail
     go_roundw
     case measure => first | (simp [intOf]; done) | (simp [intOf]; omega)
     case rel =>
      refine ⟨os.set i (xi / 2 ^ s), i + 1, by go_num, by omega, ⟨by rw [List.length_set]; exact hol.out⟩, ⟨hou.out.set i hq0 hq1⟩, ⟨?_⟩, ⟨hbel.out.setCell hg1 _⟩, ⟨?_⟩, ⟨?_⟩⟩
      ·exact OwnI.put hown.out hil _
      ·rw [List.drop_set_of_lt (by omega)]
       have := congrArg (List.drop 1) hdr.out
       rw [List.drop_drop, List.drop_drop] at this
       exact this
      ·exact down_val hil hlt hxi2.out (getD_out (show x.length ≤ i + 1 by omega)) HSUM.out hval.out
   ·have hie : i = x.length := by omega
    obtain ⟨A6, c6, hv, hc6, _, hr6⟩ := hown.out.reads
    injection hv with hv1 hv2 hv3
    subst hv1 hv3
    have HR := Hd.mk hr6
    have CC := Hd.mk (limb_trim A5 c5 os wr HR.out hc6 (by have := hol.out; omega))
    rw [hol.out] at CC
    clear hv2 hr6 hc6
    go_wp2_with fail
    refine CC.out.mono ?_
    rintro e w3 ⟨rfl, rfl⟩
    go_wp2_with fail
    go_ret
    refine ⟨_, rfl, ?_, hbel.out⟩
    have h5 := hval.out
    rw [hie, getD_out (Nat.le_refl _), List.take_length, List.take_of_length_le (by rw [hol.out]; exact Nat.le_refl _)] at h5
    have h6 : val x / 2 ^ s = val os := by
     have p2 : 0 < 2 ^ s := Nat.pow_pos (by omega)
     have e8 : val x = 2 ^ s * val os + (x.getD 0 0).toNat % 2 ^ s := by
      simp at h5; simp; omega
     rw [e8, Nat.mul_add_div p2, Nat.div_eq_of_lt (Nat.mod_lt _ p2), Nat.add_zero]
    rw [h6, ← trim_limbs hou.out]
    have h7 := hown.out
    rw [← hol.out] at h7
    have h8 := h7.pre (trimL_len os)
    rw [← trimL_take] at h8
    exact h8
instance (l : List Int) : Decidable (Trim l) := by unfold Trim; infer_instance
def natMay (l : List Int) : Bool := decide (l.length ≤ 8 ∧ Trim l)
theorem natMay_len {l : List Int} (h : natMay l = true) : l.length ≤ 8 := (of_decide_eq_true h).1
theorem natMay_trim {l : List Int} (h : natMay l = true) : Trim l := (of_decide_eq_true h).2
theorem natMay_limbs {l : List Int} (h : natMay l = true) (hu : U64 l) : limbs (val l) = l := limbs_of hu (natMay_trim h)
theorem limbs_may {n : Nat} (h : (limbs n).length ≤ 8) : natMay (limbs n) = true := decide_eq_true ⟨h, limbs_trim n⟩
theorem nat_May (A : Option Addr) (c : Nat) (l : List Int) (w : World) (h : RdI w .u64 A l) (hn : l.length ≤ c) (hb9 : l.length ≤ 1000000000) :
    Calls Tryz.prog 157 #[.slice A l.length c] w fun e w' => e = .returned (.bool (natMay l)) ∧ w = w' := by
 by_cases h8 : l.length ≤ 8
 ·rcases Nat.eq_zero_or_pos l.length with h0 | h0
  ·have hnil := List.eq_nil_of_length_eq_zero h0
   subst hnil
   clear h8 hb9 h0
   go_enter Tryz.func157, Tryz.ntmps157
   go_wp2_with fail
   go_ret
   exact ⟨retBool (by decide), rfl⟩
  ·obtain ⟨ad, x, rfl, _, hx, hc⟩ := h.get (i := l.length - 1) (by omega)
   have e1 : ((l.length : Int) == 0) = false := by rw [beq_eq_false_iff_ne]; omega
   have e2 : decide ((l.length : Int) ≤ 8) = true := decide_eq_true (by omega)
   have e3 : ((l.length : Int) - 1).toNat = l.length - 1 := by omega
   by_cases hz : x = 0
   ·have hm : natMay l = false := decide_eq_false (fun hh => by
      rcases hh.2 with h1 | h1
      ·rw [h1] at h0; exact absurd h0 (by decide)
      ·exact h1 (hx.out.trans hz))
    have HM := Hd.mk hm
    subst hz
    clear hm
    go_enter Tryz.func157, Tryz.ntmps157
    go_wp2_with fail
    go_ret
    exact ⟨retBool HM.out.symm, rfl⟩
   ·have hm : natMay l = true := decide_eq_true ⟨h8, .inr (by rw [hx.out]; exact hz)⟩
    have HM := Hd.mk hm
    have hz2 : (x != 0) = true := by rw [bne_iff_ne]; exact hz
    clear hm
    go_enter Tryz.func157, Tryz.ntmps157
    go_wp2_with fail
    go_ret
    exact ⟨retBool HM.out.symm, rfl⟩
 ·have hm : natMay l = false := decide_eq_false (fun hh => h8 hh.1)
  have HM := Hd.mk hm
  have e2 : decide ((l.length : Int) ≤ 8) = false := decide_eq_false (by omega)
  clear hm
  go_enter Tryz.func157, Tryz.ntmps157
  go_wp2_with fail
  go_ret
  exact ⟨retBool HM.out.symm, rfl⟩
theorem lit1_own (w : World) (x : Int) (base : Nat) (hb : base ≤ w.heap.size) : OwnI (w.alloc (.cells #[.int .u64 x] 100)) base 100 .u64 (.slice (some ⟨w.heap.size, 0, none⟩) 1 1) [x] :=
 World.ownsRow_lit (e := 100) (size := 1) w #[.int .u64 x] 1 hb (by unfold maxLen; omega) rfl
theorem limbs_one {x : Int} (h0 : 0 < x) (h1 : x < 18446744073709551616) : limbs x.toNat = [x] := by
 rw [limbs_pos (by omega), Nat.div_eq_of_lt (by omega), limbs_zero, Nat.mod_eq_of_lt (by omega)]
 congr 1; omega
theorem nat_Of (x : Int) (w : World) (h0 : 0 ≤ x) (h1 : x < 18446744073709551616) :
    Calls Tryz.prog 102 #[.int .u64 x] w fun e w' => ∃ v, e = .returned v ∧ OwnI w' w.heap.size 100 .u64 v (limbs x.toNat) ∧ Below w.heap.size w w' := by
 by_cases hz : x = 0
 ·subst hz
  clear h0 h1
  go_enter Tryz.func102, Tryz.ntmps102
  go_wp2_with fail
  go_ret
  exact ⟨_, rfl, by rw [show (0 : Int).toNat = 0 from rfl, limbs_zero]; exact OwnI.nil _ _ _ _, .refl _ _⟩
 ·have hz2 : (x == 0) = false := by rw [beq_eq_false_iff_ne]; exact hz
  go_enter Tryz.func102, Tryz.ntmps102
  go_wp2_with fail
  go_ret
  exact ⟨_, rfl, by rw [limbs_one (by omega) h1]; exact lit1_own _ _ _ (Nat.le_refl _), (Below.refl _ _).alloc (Nat.le_refl _) _⟩
theorem nat_Cmp (A B : Option Addr) (c d : Nat) (l m : List Int) (w : World) (h : RdI w .u64 A l) (hn : l.length ≤ c) (hb9 : l.length ≤ 1000000000)
    (h' : RdI w .u64 B m) (hn' : m.length ≤ d) (hb9' : m.length ≤ 1000000000) (hu : U64 l) (hu' : U64 m) :
    Calls Tryz.prog 128 #[.slice A l.length c, .slice B m.length d] w fun e w' => e = .returned (.int .i64 (cmpN (val l) (val m))) ∧ Dr w w' := by
 go_enter Tryz.func128, Tryz.ntmps128
 go_wp2_with fail
 refine (limb_Cmp A B c d l m w h hn hb9 h' hn' hb9' hu hu').mono ?_
 rintro e w' ⟨rfl, hd⟩
 have HD := Hd.mk hd
 clear hd
 go_wp2_with fail
 go_ret
 exact ⟨rfl, HD.out⟩
theorem small_step {l os : List Int} {i n r : Nat} (hol : os.length = l.length) (hi : i < l.length) (X : Int) (hX : X = l.getD i 0) (hX0 : 0 ≤ X) (D : Int)
    (hD : D = ((r : Int) * 18446744073709551616 + X) / n) (R : Int) (hR : R = ((r : Int) * 18446744073709551616 + X) % n)
    (hval : val (os.drop (i + 1)) * n + r = val (l.drop (i + 1))) :
    val ((os.set i D).drop i) * n + R.toNat = val (l.drop i) := by
 obtain ⟨x, rfl⟩ := Int.eq_ofNat_of_zero_le hX0
 have hD2 : D = ((r * 18446744073709551616 + x) / n : Nat) := by rw [hD]; simp
 have hR2 : R = ((r * 18446744073709551616 + x) % n : Nat) := by rw [hR]; simp
 rw [drop_at (l := os.set i D) (by rw [List.length_set]; omega), drop_at hi, ← hX, val, val]
 have e1 : (os.set i D).getD i 0 = D := by rw [List.getD_eq_getElem?_getD, List.getElem?_set_self (by omega)]; rfl
 rw [e1, List.drop_set_of_lt (by omega), hD2, hR2, Int.toNat_natCast, Int.toNat_natCast, Int.toNat_natCast, ← hval]
 have := Nat.div_add_mod (r * 18446744073709551616 + x) n
 generalize (r * 18446744073709551616 + x) / n = d at *
 generalize (r * 18446744073709551616 + x) % n = m at *
 generalize val (os.drop (i + 1)) = V at *
 rw [Nat.add_mul, Nat.mul_add, Nat.mul_assoc]
 have := Nat.mul_comm d n
 omega
theorem quot_Small (A : Option Addr) (c : Nat) (l : List Int) (N : Int) (n : Nat) (hN : N = n) (w : World) (h : RdI w .u64 A l) (hn : l.length ≤ c) (hu : U64 l) (hm : natMay l = true) (hn1 : 1 ≤ n) (hn2 : n < 18446744073709551616) :
    Calls Tryz.prog 163 #[.slice A l.length c, .int .u64 N] w fun e w' => ∃ v, e = .returned (.tuple #[v, .int .u64 (val l % n : Nat), .int .i64 0]) ∧ OwnI w' w.heap.size 100 .u64 v (limbs (val l / n)) ∧ Below w.heap.size w w' := by
 have hl8 := natMay_len hm
 have hz : (N == 0) = false := by rw [beq_eq_false_iff_ne]; omega
 have C1 := Hd.mk (nat_May A c l w h hn (by omega))
 rw [hm] at C1
 have R := Hd.mk h
 have HU := Hd.mk hu
 have hmk := fun W => mkU64 l.length (l.length : Int) rfl (by omega) W
 have hown0 := Hd.mk (mkU64_own l.length (by omega) w w.heap.size (Nat.le_refl _))
 have HM := Hd.mk hm
 have HN := Hd.mk hN
 clear h hm hN hu
 go_enter Tryz.func163, Tryz.ntmps163
 go_wp2_with fail
 refine C1.out.mono ?_
 rintro e w' ⟨rfl, rfl⟩
 clear C1
 go_wp2_with fail
 go_loopw [8, 9] (fun v8 v9 wr => ∃ (os : List Int) (k r : Nat), v8 = .int .u64 r ∧ v9 = .int .i64 ((k : Int) - 1) ∧ k ≤ l.length ∧ Hd (os.length = l.length) ∧ Hd (U64 os) ∧ r < n ∧
  Hd (OwnI wr w.heap.size 100 .u64 (.slice (some ⟨w.heap.size, 0, none⟩) l.length l.length) os) ∧ Hd (Below w.heap.size w wr) ∧ Hd (val (os.drop k) * n + r = val (l.drop k))) (fun _ v _ => (intOf v + 1).toNat)
 case atStart => exact ⟨List.replicate l.length 0, l.length, 0, rfl, rfl, Nat.le_refl _, ⟨by simp⟩, ⟨zeros_u64 _⟩, by omega, hown0, ⟨(Below.refl _ _).alloc (Nat.le_refl _) _⟩, ⟨by rw [List.drop_eq_nil_of_le (by simp), List.drop_eq_nil_of_le (Nat.le_refl _)]; simp [val]⟩⟩
 case round =>
  obtain ⟨os, k, r, rfl, rfl, hk, hol, hou, hr, hown, hbel, hval⟩ := hrel
  cases k with
  | zero =>
    obtain ⟨A6, c6, hv, hc6, _, hr6⟩ := hown.out.reads
    injection hv with hv1 hv2 hv3
    subst hv1 hv3
    have HR := Hd.mk hr6
    have CC := Hd.mk (limb_Trim (some ⟨w.heap.size, 0, none⟩) l.length os wr HR.out (by have := hol.out; omega) (by have := hol.out; omega))
    rw [hol.out] at CC
    clear hv2 hr6 hc6
    go_wp2_with fail
    refine CC.out.mono ?_
    rintro e w3 ⟨v, rfl, ho3, hb3⟩
    have HO := Hd.mk ho3
    have HB := Hd.mk hb3
    clear ho3 hb3
    go_wp2_with fail
    go_ret3
    have e1 := hval.out
    simp only [List.drop_zero] at e1
    have e2 : val l / n = val os := by
     rw [← e1, Nat.mul_comm, Nat.mul_add_div (by omega), Nat.div_eq_of_lt hr, Nat.add_zero]
    have e3 : val l % n = r := by
     rw [← e1, Nat.mul_comm, Nat.mul_add_mod, Nat.mod_eq_of_lt hr]
    refine ⟨_, by rw [e3]; rfl, ?_, hbel.out.trans (HB.out.mono hbel.out.size)⟩
    rw [e2, ← trim_limbs hou.out]
    exact HO.out.low hbel.out.size
  | succ i =>
    have e1 : ((i + 1 : Nat) : Int) - 1 = i := by omega
    simp only [e1]
    obtain ⟨ad, x, rfl, _, hx, hc⟩ := (R.out.up hbel.out).get (i := i) (by omega)
    have hx0 := HU.out.at_ i
    rw [hx.out] at hx0
    obtain ⟨g, c6, z, hv6, hg1, hg2, hz6, hcell6, hfro, hset⟩ := hown.out.cell (i := i) (by have := hol.out; omega)
    injection hv6 with hv6a hv6b hv6c
    injection hv6a with hv6a
    injection hv6a with hv6a
    subst hv6a hv6c
    have HS := Hd.mk hset
    clear hset hv6b
    obtain ⟨D, hD⟩ : ∃ D, ((r : Int) * 18446744073709551616 + x) / N = D := ⟨_, rfl⟩
    obtain ⟨M, hM⟩ : ∃ M, ((r : Int) * 18446744073709551616 + x) % N = M := ⟨_, rfl⟩
    have DV := div64 r x N wr (by omega) (by have := HN.out; omega) (by have := HN.out; omega) hx0.1 hx0.2
    rw [hD, hM] at DV
    have DV := Hd.mk DV
    have hN1 : 1 ≤ N := by have := HN.out; omega
    have D0 : 0 ≤ D := by rw [← hD]; exact Int.ediv_nonneg (by omega) (by omega)
    have D1 : D < 18446744073709551616 := by
     rw [← hD]
     apply Int.ediv_lt_of_lt_mul (by omega)
     have := HN.out
     have h1 : (r : Int) + 1 ≤ N := by omega
     have := Int.mul_le_mul_of_nonneg_left h1 (show (0 : Int) ≤ 18446744073709551616 by omega)
     omega
    have M0 : 0 ≤ M := by rw [← hM]; exact Int.emod_nonneg _ (by omega)
    have M1 : M < N := by rw [← hM]; exact Int.emod_lt_of_pos _ (by omega)
    have ST := Hd.mk (small_step (os := os) (n := n) (r := r) hol.out (by omega : i < l.length) x hx.out.symm hx0.1 D (by rw [← hD, HN.out]) M (by rw [← hM, HN.out]) hval.out)
    clear hD hM
    go_wp2_with fail
    refine DV.out.mono ?_
    rintro e w' ⟨rfl, ⟨nq, rfl⟩⟩
    go_wp2_with fail
    go_roundw
    case measure => first | (simp [intOf]; done) | (simp [intOf]; omega)
    case rel =>
     refine ⟨os.set i D, i, M.toNat, by rw [Int.toNat_of_nonneg M0], rfl, by omega, ⟨by rw [List.length_set]; exact hol.out⟩, ⟨hou.out.set i D0 D1⟩, by have := HN.out; omega, ⟨?_⟩, ⟨?_⟩, ST⟩
     ·have := OwnI.put (hown.out.dn nq) (i := i) (by have := hol.out; omega) D
      exact this
     ·exact (Below.dn hbel.out nq).setCell (Nat.le_refl _) _
theorem ref_at (A : Option Addr) (c : Nat) (l : List Int) (I : Int) (i : Nat) (hI : I = i) (w : World) (h : RdI w .u64 A l) (hn : l.length ≤ c) (h9 : l.length ≤ 1000000000) (hi9 : i ≤ 1000000000) :
    Calls Tryz.prog 150 #[.slice A l.length c, .int .i64 I] w fun e w' => e = .returned (.int .u64 (l.getD i 0)) ∧ w = w' := by
 subst hI
 by_cases hlt : i < l.length
 ·obtain ⟨ad, x, rfl, _, hx, hc⟩ := h.get hlt
  have i2 : (i : Int) < l.length := by omega
  have i3 : (0 : Int) ≤ i := by omega
  rw [hx.out]
  clear hx h
  go_enter Tryz.func150, Tryz.ntmps150
  go_wp2_with fail
  go_ret
  exact ⟨rfl, rfl⟩
 ·have i2 : ¬ (i : Int) < l.length := by omega
  have HO := Hd.mk (getD_out (Nat.le_of_not_lt hlt))
  clear h hlt
  go_enter Tryz.func150, Tryz.ntmps150
  go_wp2_with fail
  go_ret
  exact ⟨retInt HO.out.symm, rfl⟩
theorem take_eq_succ' {l m : List Int} {i : Nat} (hl : i < l.length) (hm : i < m.length) (h : l.take i = m.take i) (e : l.getD i 0 = m.getD i 0) : l.take (i + 1) = m.take (i + 1) := by
 rw [take_snoc hl, take_snoc hm, h, e]
theorem ref_Same (A B : Option Addr) (c d : Nat) (l m : List Int) (w : World) (h : RdI w .u64 A l) (hn : l.length ≤ c) (h' : RdI w .u64 B m) (hn' : m.length ≤ d) (h9 : l.length ≤ 1000000000) (h9' : m.length ≤ 1000000000) :
    Calls Tryz.prog 94 #[.slice A l.length c, .slice B m.length d] w fun e w' => e = .returned (.bool (decide (l = m))) ∧ Dr w w' := by
 by_cases hl : l.length = m.length
 ·have hb : ((l.length : Int) != (m.length : Int)) = false := by rw [bne_eq_false_iff_eq]; omega
  have HL := Hd.mk hl
  have H := Hd.mk h
  have H' := Hd.mk h'
  clear h h' hl
  go_enter Tryz.func94, Tryz.ntmps94
  go_wp2_with fail
  go_loopw [5] (fun v wr => ∃ i : Nat, v = .int .i64 i ∧ i ≤ l.length ∧ Hd (l.take i = m.take i) ∧ Hd (Dr w wr)) (fun v _ => l.length - (intOf v).toNat)
  case atStart => exact ⟨0, rfl, by omega, ⟨by simp⟩, ⟨.refl _⟩⟩
  case round =>
   obtain ⟨i, rfl, hi, ht, ⟨⟨nq, rfl⟩⟩⟩ := hrel
   by_cases hlt : i < l.length
   ·have hlt2 : i < m.length := by have := HL.out; omega
    obtain ⟨ad, x, rfl, _, hx, hcx⟩ := H.out.get hlt
    obtain ⟨bd, y, rfl, _, hy, hcy⟩ := H'.out.get hlt2
    have i1 : (i : Int) < m.length := by omega
    have i2 : (i : Int) < l.length := by omega
    have i3 : (0 : Int) ≤ i := by omega
    by_cases hxy : x = y
    ·have hbn : (x != y) = false := by rw [bne_eq_false_iff_eq]; exact hxy
     go_wp2_with fail
     go_quiet (fail)
     go_wp2_with fail
     go_roundw
     case measure => first | (simp [intOf]; done) | (simp [intOf]; omega)
     case rel => exact ⟨i + 1, by go_num, by omega, ⟨take_eq_succ' hlt hlt2 ht.out (by rw [hx.out, hy.out]; exact hxy)⟩, ⟨by repeat (first | exact .refl _ | apply Dr.dn)⟩⟩
    ·have hbn : (x != y) = true := by rw [bne_iff_ne]; exact hxy
     go_wp2_with fail
     go_quiet (fail)
     go_wp2_with fail
     go_ret
     refine ⟨retBool (decide_eq_false ?_).symm, by repeat (first | exact .refl _ | apply Dr.dn)⟩
     intro e
     apply hxy
     rw [← hx.out, ← hy.out, e]
   ·have hie : i = l.length := by omega
    subst hie
    go_wp2_with fail
    go_ret
    refine ⟨retBool (decide_eq_true ?_).symm, by repeat (first | exact .refl _ | apply Dr.dn)⟩
    have := ht.out
    rwa [List.take_length, HL.out, List.take_length] at this
 ·have hb : ((l.length : Int) != (m.length : Int)) = true := by rw [bne_iff_ne]; omega
  have HL := Hd.mk hl
  clear hl
  go_enter Tryz.func94, Tryz.ntmps94
  go_wp2_with fail
  go_ret
  exact ⟨retBool (decide_eq_false (fun e => HL.out (by rw [e]))).symm, .refl _⟩
theorem trimL_zero {l : List Int} {n : Nat} (hn : n < l.length) (h0 : l.getD n 0 = 0) : trimL (l.take (n + 1)) = trimL (l.take n) := by
 rw [take_snoc hn, h0]; exact trimL_snoc0 _
theorem trimL_stop {l : List Int} {n : Nat} (hn : n < l.length) (h0 : l.getD n 0 ≠ 0) : trimL (l.take (n + 1)) = l.take (n + 1) := by
 rw [take_snoc hn]; exact trimL_snoc _ _ h0
theorem ref_Trim (A : Option Addr) (c : Nat) (l : List Int) (w : World) (h : RdI w .u64 A l) (hn : l.length ≤ c) (hb9 : l.length ≤ 1000000000) :
    Calls Tryz.prog 93 #[.slice A l.length c] w fun e w' => ∃ v, e = .returned v ∧ OwnI w' w.heap.size 100 .u64 v (trimL l) ∧ Below w.heap.size w w' := by
 obtain ⟨i0, hi0, hz0, hz1, hz2⟩ := info_split Tryz.infU64
 have H := Hd.mk h
 clear h
 go_enter Tryz.func93, Tryz.ntmps93
 go_wp2_with fail
 go_loop [3] (fun v => ∃ n : Nat, v = .int .i64 n ∧ n ≤ l.length ∧ Hd (trimL l = trimL (l.take n))) (fun v => (intOf v).toNat)
 case atStart => exact ⟨l.length, rfl, Nat.le_refl _, ⟨by rw [List.take_length]⟩⟩
 case round =>
  obtain ⟨n, rfl, hle, ht⟩ := hrel
  rcases Nat.eq_zero_or_pos n with hz | hz
  ·subst hz
   have HT : Hd (trimL l = l.take 0) := ⟨by rw [ht.out]; rfl⟩
   clear ht
   obtain ⟨n, hn0⟩ : ∃ n, n = 0 := ⟨0, rfl⟩
   have g1 : decide ((0 : Int) < (n : Int)) = false := decide_eq_false (by omega)
   have g2 : decide (0 < n) = false := decide_eq_false (by omega)
   have HN := Hd.mk hn0
   rw [← hn0] at HT hle
   rw [show ((0 : Nat) : Int) = (n : Int) by omega]
   clear hn0
   have HO := Hd.mk (show (w.alloc (.cells #[] 100)).ownsRow w.heap.size 100 1 (.slice (some ⟨w.heap.size, 0, none⟩) 0 0) 0 [] from World.ownsRow_lit w #[] 0 (Nat.le_refl _) (by unfold maxLen; omega) rfl)
   have HR := Hd.mk (Rd.up (Rd.pre (m := n) H.out hle) ((Below.refl w.heap.size w).alloc (Nat.le_refl _) (.cells #[] 100)))
   have h1 : ∀ u ∈ (ints .u64 l).take (n * 1), u.oneCell' = true := fun u hu => ints_one _ _ u (List.mem_of_mem_take hu)
   have H1 := Hd.mk h1
   have x63 : 0 + n ≤ maxLen := by unfold maxLen; omega
   have xby : (0 + n) * 8 ≤ 140737488355328 := by omega
   have n5 : (0 : Int) ≤ (n : Int) := by omega
   have n6 : (n : Int) ≤ (c : Int) := by omega
   have XS : Hd (w.heap.size ≤ (w.alloc (.cells #[] 100)).heap.size) := ⟨by simp⟩
   clear h1
   go_wp2_with (at_builtin; refine wpList_append_rd _ rfl _ _ 48 rfl w.heap.size 100 i0 (.int .u64 0) 1 8 Tryz.slU64 hi0 hz0 hz1 hz2 rfl (by decide) _ 0 [] rfl HO.out _ _ n _ _ rfl HR.out H1.out x63 xby XS.out ?_)
   intro v' w' ho hg _
   have HV := Hd.mk ho
   have HB := Hd.mk (grown_below HO.out hg ((Below.refl _ _).alloc (Nat.le_refl _) _) XS.out)
   clear ho hg
   go_wp2_with fail
   go_ret
   refine ⟨_, rfl, ?_, HB.out⟩
   rw [HT.out]
   have hv : w'.ownsRow w.heap.size 100 1 v' n ((ints .u64 l).take n) := by simpa using HV.out
   unfold OwnI
   rw [show (l.take n).length = n by rw [List.length_take]; omega]
   rw [show ints .u64 (l.take n) = (ints .u64 l).take n by simp [ints, List.map_take]]
   exact hv
  ·obtain ⟨m, rfl⟩ : ∃ m, n = m + 1 := ⟨n - 1, by omega⟩
   have hm : m < l.length := by omega
   obtain ⟨ad, x, rfl, _, hx, hcx⟩ := H.out.get hm
   obtain ⟨n, hn1⟩ : ∃ n, n = m + 1 := ⟨_, rfl⟩
   have g1 : decide ((0 : Int) < (n : Int)) = true := decide_eq_true (by omega)
   have n1 : IntKind.i64.wrap ((n : Int) - 1) = m := by rw [IntKind.wrap_i64]; omega
   have n2 : (0 : Int) ≤ m := by omega
   have n3 : (m : Int) < l.length := by omega
   rw [← hn1] at ht hle hz ⊢
   have HN := Hd.mk hn1
   clear hn1
   by_cases h0 : x = 0
   ·have e1 : (x == 0) = true := by rw [beq_iff_eq]; exact h0
    have HT : Hd (trimL l = trimL (l.take m)) := ⟨by rw [ht.out, HN.out, trimL_zero hm (by rw [hx.out]; exact h0)]⟩
    clear h0 ht hx
    go_wp2_with fail
    go_round
    case measure => first | (simp [intOf]; done) | (simp [intOf]; have := HN.out; omega)
    case rel => exact ⟨m, by go_num, by omega, HT⟩
   ·have e1 : (x == 0) = false := by rw [beq_eq_false_iff_ne]; exact h0
    have HT : Hd (trimL l = l.take n) := ⟨by rw [ht.out, HN.out, trimL_stop hm (by rw [hx.out]; exact h0)]⟩
    clear h0 ht hx
    have HO := Hd.mk (show (w.alloc (.cells #[] 100)).ownsRow w.heap.size 100 1 (.slice (some ⟨w.heap.size, 0, none⟩) 0 0) 0 [] from World.ownsRow_lit w #[] 0 (Nat.le_refl _) (by unfold maxLen; omega) rfl)
    have HR := Hd.mk (Rd.up (Rd.pre (m := n) H.out hle) ((Below.refl w.heap.size w).alloc (Nat.le_refl _) (.cells #[] 100)))
    have h1 : ∀ u ∈ (ints .u64 l).take (n * 1), u.oneCell' = true := fun u hu => ints_one _ _ u (List.mem_of_mem_take hu)
    have H1 := Hd.mk h1
    have x63 : 0 + n ≤ maxLen := by unfold maxLen; omega
    have xby : (0 + n) * 8 ≤ 140737488355328 := by omega
    have n5 : (0 : Int) ≤ (n : Int) := by omega
    have n6 : (n : Int) ≤ (c : Int) := by omega
    have XS : Hd (w.heap.size ≤ (w.alloc (.cells #[] 100)).heap.size) := ⟨by simp⟩
    clear h1
    go_wp2_with (at_builtin; refine wpList_append_rd _ rfl _ _ 48 rfl w.heap.size 100 i0 (.int .u64 0) 1 8 Tryz.slU64 hi0 hz0 hz1 hz2 rfl (by decide) _ 0 [] rfl HO.out _ _ n _ _ rfl HR.out H1.out x63 xby XS.out ?_)
    intro v' w' ho hg _
    have HV := Hd.mk ho
    have HB := Hd.mk (grown_below HO.out hg ((Below.refl _ _).alloc (Nat.le_refl _) _) XS.out)
    clear ho hg
    go_wp2_with fail
    go_ret
    refine ⟨_, rfl, ?_, HB.out⟩
    rw [HT.out]
    have hv : w'.ownsRow w.heap.size 100 1 v' n ((ints .u64 l).take n) := by simpa using HV.out
    unfold OwnI
    rw [show (l.take n).length = n by rw [List.length_take]; omega]
    rw [show ints .u64 (l.take n) = (ints .u64 l).take n by simp [ints, List.map_take]]
    exact hv
theorem take_val_lt {l : List Int} (h : U64 l) (k : Nat) : val (l.take k) < 18446744073709551616 ^ k := by
 refine Nat.lt_of_lt_of_le (val_lt (h.take k)) (Nat.pow_le_pow_right (by decide) (List.length_take_le _ _))
theorem cmp_digit {l m : List Int} (hl : U64 l) (hm : U64 m) (k : Nat) :
    (l.getD k 0 < m.getD k 0 → cmpN (val (l.take (k + 1))) (val (m.take (k + 1))) = -1) ∧ (m.getD k 0 < l.getD k 0 → cmpN (val (l.take (k + 1))) (val (m.take (k + 1))) = 1) ∧
    (l.getD k 0 = m.getD k 0 → cmpN (val (l.take (k + 1))) (val (m.take (k + 1))) = cmpN (val (l.take k)) (val (m.take k))) := by
 have h1 := take_val_lt hl k
 have h2 := take_val_lt hm k
 obtain ⟨a0, _⟩ := hl.at_ k
 obtain ⟨b0, _⟩ := hm.at_ k
 rw [val_take_succ, val_take_succ]
 generalize 18446744073709551616 ^ k = P at h1 h2
 generalize val (l.take k) = x at h1
 generalize val (m.take k) = y at h2
 generalize l.getD k 0 = a at a0
 generalize m.getD k 0 = b at b0
 refine ⟨fun h => cmpN_lt ?_, fun h => cmpN_gt ?_, fun h => ?_⟩
 ·obtain ⟨d, hd⟩ : ∃ d, b.toNat = a.toNat + 1 + d := ⟨b.toNat - a.toNat - 1, by omega⟩
  rw [hd, Nat.mul_add, Nat.mul_add, Nat.mul_one]; omega
 ·obtain ⟨d, hd⟩ : ∃ d, a.toNat = b.toNat + 1 + d := ⟨a.toNat - b.toNat - 1, by omega⟩
  rw [hd, Nat.mul_add, Nat.mul_add, Nat.mul_one]; omega
 ·subst h
  unfold cmpN
  by_cases h3 : x < y
  ·rw [if_pos h3, if_pos (by omega)]
  ·rw [if_neg h3, if_neg (by omega)]
   by_cases h4 : y < x
   ·rw [if_pos h4, if_pos (by omega)]
   ·rw [if_neg h4, if_neg (by omega)]
theorem ref_Cmp (A B : Option Addr) (c d : Nat) (l m : List Int) (w : World) (h : RdI w .u64 A l) (hn : l.length ≤ c) (h9 : l.length ≤ 1000000) (h' : RdI w .u64 B m) (hn' : m.length ≤ d) (h9' : m.length ≤ 1000000) (hu : U64 l) (hu' : U64 m) :
    Calls Tryz.prog 153 #[.slice A l.length c, .slice B m.length d] w fun e w' => e = .returned (.int .i64 (cmpN (val l) (val m))) ∧ w = w' := by
 obtain ⟨N, hN⟩ : ∃ N, N = max l.length m.length := ⟨_, rfl⟩
 have hN9 : N ≤ 1000000 := by omega
 have hl1 : l.length ≤ N := by omega
 have hm1 : m.length ≤ N := by omega
 have HN : Hd (max (l.length : Int) (m.length : Int) = N) := ⟨by omega⟩
 have C1 := Hd.mk (fun I i hI hi => ref_at A c l I i hI w h hn (by omega) hi)
 have C2 := Hd.mk (fun I i hI hi => ref_at B d m I i hI w h' hn' (by omega) hi)
 have HU := Hd.mk (And.intro hu hu')
 clear h h' hN hu hu'
 go_enter Tryz.func153, Tryz.ntmps153
 go_wp2_with fail
 go_loop [5] (fun v => ∃ k : Nat, v = .int .i64 ((k : Int) - 1) ∧ k ≤ N ∧ Hd (cmpN (val l) (val m) = cmpN (val (l.take k)) (val (m.take k)))) (fun v => (intOf v + 1).toNat)
 case atStart =>
  refine ⟨N, ?_, Nat.le_refl _, ⟨by rw [List.take_of_length_le hl1, List.take_of_length_le hm1]⟩⟩
  have := HN.out
  first
   | (rw [this])
   | (congr 1; omega)
 case round =>
  obtain ⟨k, rfl, hle, ht⟩ := hrel
  rcases Nat.eq_zero_or_pos k with hz | hz
  ·subst hz
   have HE : Hd (cmpN (val l) (val m) = 0) := ⟨by rw [ht.out]; rfl⟩
   clear ht
   go_wp2_with fail
   go_ret
   exact ⟨retInt HE.out.symm, rfl⟩
  ·obtain ⟨i, hi⟩ : ∃ i, k = i + 1 := ⟨k - 1, by omega⟩
   subst hi
   have e0 : (((i + 1 : Nat) : Int) - 1) = i := by omega
   rw [e0]
   clear e0
   have i3 : (0 : Int) ≤ i := by omega
   obtain ⟨D1, D2, D3⟩ := cmp_digit HU.out.1 HU.out.2 i
   have X1 := C1.out (i : Int) i rfl (by omega)
   have X2 := C2.out (i : Int) i rfl (by omega)
   obtain ⟨x, hx⟩ : ∃ x, l.getD i 0 = x := ⟨_, rfl⟩
   obtain ⟨y, hy⟩ : ∃ y, m.getD i 0 = y := ⟨_, rfl⟩
   rw [hx] at X1 D1 D2 D3
   rw [hy] at X2 D1 D2 D3
   have HX1 := Hd.mk X1
   have HX2 := Hd.mk X2
   have HD := Hd.mk (And.intro D1 (And.intro D2 D3))
   clear X1 X2 D1 D2 D3 hx hy
   by_cases h1 : x < y
   ·have HE : Hd (cmpN (val l) (val m) = -1) := ⟨by rw [ht.out]; exact HD.out.1 h1⟩
    clear ht HD
    go_wp2_with fail
    refine HX1.out.mono ?_
    rintro e w' ⟨rfl, rfl⟩
    go_wp2_with fail
    refine HX2.out.mono ?_
    rintro e w' ⟨rfl, rfl⟩
    go_wp2_with fail
    go_ret
    exact ⟨retInt HE.out.symm, rfl⟩
   ·by_cases h2 : y < x
    ·have HE : Hd (cmpN (val l) (val m) = 1) := ⟨by rw [ht.out]; exact HD.out.2.1 h2⟩
     clear ht HD
     go_wp2_with fail
     refine HX1.out.mono ?_
     rintro e w' ⟨rfl, rfl⟩
     go_wp2_with fail
     refine HX2.out.mono ?_
     rintro e w' ⟨rfl, rfl⟩
     go_wp2_with fail
     refine HX1.out.mono ?_
     rintro e w' ⟨rfl, rfl⟩
     go_wp2_with fail
     refine HX2.out.mono ?_
     rintro e w' ⟨rfl, rfl⟩
     go_wp2_with fail
     go_ret
     exact ⟨retInt HE.out.symm, rfl⟩
    ·have HE : Hd (cmpN (val l) (val m) = cmpN (val (l.take i)) (val (m.take i))) := ⟨by rw [ht.out]; exact HD.out.2.2 (by omega)⟩
     clear ht HD
     go_wp2_with fail
     refine HX1.out.mono ?_
     rintro e w' ⟨rfl, rfl⟩
     go_wp2_with fail
     refine HX2.out.mono ?_
     rintro e w' ⟨rfl, rfl⟩
     go_wp2_with fail
     refine HX1.out.mono ?_
     rintro e w' ⟨rfl, rfl⟩
     go_wp2_with fail
     refine HX2.out.mono ?_
     rintro e w' ⟨rfl, rfl⟩
     go_wp2_with fail
     go_round
     case measure => first | (simp [intOf]; done) | (simp [intOf]; omega)
     case rel => exact ⟨i, by go_num, by omega, HE⟩
end Go.Proofs.YtjanagclahkfdaaGreat
