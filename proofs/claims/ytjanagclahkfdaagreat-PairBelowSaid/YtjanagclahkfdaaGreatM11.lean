/- Parts of the proof, joined: what each says stands at its head. -/
import Derived.Test.YtjanagclahkfdaaGreatM10
set_option linter.unusedVariables false
set_option linter.unusedSimpArgs false
set_option maxHeartbeats 24000000
set_option maxRecDepth 100000
namespace Go.Proofs.YtjanagclahkfdaaGreat
open Go.RowKit
theorem rnat_May (A : Option Addr) (c : Nat) (l : List Int) (w : World) (h : RdI w .u64 A l) (hn : l.length ≤ c) (h9 : l.length ≤ 1000000000) :
    Calls Tryz.prog 121 #[.slice A l.length c] w fun e w' => e = .returned (.bool (natMay l)) ∧ w = w' := by
 by_cases h8 : l.length ≤ 8
 ·rcases Nat.eq_zero_or_pos l.length with h0 | h0
  ·have hl : l = [] := List.eq_nil_of_length_eq_zero h0
   subst hl
   have HE : Hd (natMay [] = true) := ⟨decide_eq_true ⟨by simp, .inl rfl⟩⟩
   clear h h0 h8 h9 hn
   go_enter Tryz.func121, Tryz.ntmps121
   go_wp2_with fail
   go_ret
   exact ⟨retBool HE.out.symm, rfl⟩
  ·obtain ⟨ad, x, rfl, _, hx, hcx⟩ := h.get (i := l.length - 1) (by omega)
   obtain ⟨m, hm⟩ : ∃ m, l.length - 1 = m := ⟨_, rfl⟩
   rw [hm] at hcx hx
   have e1 : ((l.length : Int) == 0) = false := by rw [beq_eq_false_iff_ne]; omega
   have n1 : (l.length : Int) - 1 = m := by omega
   have n2 : (0 : Int) ≤ m := by omega
   have n3 : (m : Int) < l.length := by omega
   have d8 : decide ((l.length : Int) ≤ 8) = true := decide_eq_true (by omega)
   have h8' : (l.length : Int) ≤ 8 := by omega
   by_cases hx0 : x = 0
   ·have e2 : (x != 0) = false := by rw [bne_eq_false_iff_eq]; exact hx0
    have HE : Hd (natMay l = false) := ⟨decide_eq_false fun hh => by
     rcases hh.2 with hh | hh
     ·rw [hh] at h0; simp at h0
     ·rw [hm, hx.out] at hh; exact hh hx0⟩
    clear h h0 hx hx0 hm
    go_enter Tryz.func121, Tryz.ntmps121
    go_wp2_with fail
    go_ret
    exact ⟨retBool HE.out.symm, rfl⟩
   ·have e2 : (x != 0) = true := by rw [bne_iff_ne]; exact hx0
    have HE : Hd (natMay l = true) := ⟨decide_eq_true ⟨h8, .inr (by rw [hm, hx.out]; exact hx0)⟩⟩
    clear h h0 hx hx0 hm
    go_enter Tryz.func121, Tryz.ntmps121
    go_wp2_with fail
    go_ret
    exact ⟨retBool HE.out.symm, rfl⟩
 ·have d8 : decide ((l.length : Int) ≤ 8) = false := decide_eq_false (by omega)
  have h8' : ¬ (l.length : Int) ≤ 8 := by omega
  have HE : Hd (natMay l = false) := ⟨decide_eq_false fun hh => h8 hh.1⟩
  clear h h8
  go_enter Tryz.func121, Tryz.ntmps121
  go_wp2_with fail
  go_ret
  exact ⟨retBool HE.out.symm, rfl⟩
theorem rnat_Of (n : Int) (h0 : 0 ≤ n) (h1 : n < 18446744073709551616) (w : World) :
    Calls Tryz.prog 60 #[.int .u64 n] w fun e w' => ∃ v, e = .returned v ∧ OwnI w' w.heap.size 100 .u64 v (limbs n.toNat) ∧ Below w.heap.size w w' := by
 have RN := Hd.mk (Rd.new_ w #[.int .u64 n] 100 1 1 rfl)
 have hr : RdI (w.alloc (.cells #[.int .u64 n] 100)) .u64 (some ⟨w.heap.size, 0, none⟩) [n] := by
  unfold RdI
  rw [show (w.alloc (.cells #[.int .u64 n] 100)).heap.size = w.heap.size + 1 by simp]
  exact RN.out
 have CT := Hd.mk (ref_Trim (some ⟨w.heap.size, 0, none⟩) 1 [n] _ hr (Nat.le_refl _) (by simp))
 have hu : U64 [n] := U64.nil.cons h0 h1
 have HE : Hd (trimL [n] = limbs n.toNat) := ⟨by rw [trim_limbs hu]; simp [val]⟩
 have hb : Hd (Below w.heap.size w (w.alloc (.cells #[.int .u64 n] 100))) := ⟨(Below.refl _ _).alloc (Nat.le_refl _) _⟩
 rw [HE.out] at CT
 clear hr hu h0 h1
 go_enter Tryz.func60, Tryz.ntmps60
 go_wp2_with fail
 refine CT.out.mono ?_
 rintro e w4 ⟨v, rfl, ho4, hb4⟩
 have O4 := Hd.mk (ho4.low hb.out.size)
 have B4 := Hd.mk (hb.out.trans (hb4.mono hb.out.size))
 clear ho4 hb4
 go_wp2_with fail
 go_ret
 exact ⟨_, rfl, O4.out, B4.out⟩
def heldD (l : List Int) : Int × List Int := if 8 < l.length then (21, []) else (0, l)
theorem rnat_held (A : Option Addr) (c : Nat) (l : List Int) (w : World) :
    Calls Tryz.prog 123 #[.slice A l.length c] w fun e w' => e = .returned (.tuple #[if 8 < l.length then .slice none 0 0 else .slice A l.length c, .int .i64 (heldD l).1]) ∧ w = w' := by
 by_cases h : 8 < l.length
 ·have h8 : (8 : Int) < l.length := by omega
  have HE : Hd ((heldD l).1 = 21) := ⟨by unfold heldD; rw [if_pos h]⟩
  rw [if_pos h, HE.out]
  clear h
  go_enter Tryz.func123, Tryz.ntmps123
  go_wp2_with fail
  go_ret2
  exact ⟨rfl, rfl⟩
 ·have h8 : ¬ (8 : Int) < l.length := by omega
  have HE : Hd ((heldD l).1 = 0) := ⟨by unfold heldD; rw [if_neg h]⟩
  rw [if_neg h, HE.out]
  clear h
  go_enter Tryz.func123, Tryz.ntmps123
  go_wp2_with fail
  go_ret2
  exact ⟨rfl, rfl⟩
theorem rnat_Same (A B : Option Addr) (c d : Nat) (l m : List Int) (w : World) (h : RdI w .u64 A l) (hn : l.length ≤ c) (h' : RdI w .u64 B m) (hn' : m.length ≤ d) (h9 : l.length ≤ 1000000000) (h9' : m.length ≤ 1000000000) :
    Calls Tryz.prog 61 #[.slice A l.length c, .slice B m.length d] w fun e w' => e = .returned (.bool (decide (l = m))) ∧ Dr w w' := by
 have CS := Hd.mk (ref_Same A B c d l m w h hn h' hn' h9 h9')
 obtain ⟨bb, hbb⟩ : ∃ bb, decide (l = m) = bb := ⟨_, rfl⟩
 rw [hbb] at CS ⊢
 clear h h' hbb
 go_enter Tryz.func61, Tryz.ntmps61
 go_wp2_with fail
 refine CS.out.mono ?_
 rintro e w' ⟨rfl, hd⟩
 have HD := Hd.mk hd
 clear hd
 go_wp2_with fail
 go_ret
 exact ⟨rfl, HD.out⟩
def natMulD (l m : List Int) : Int × List Int := if (natMay l && natMay m) = false then (1, []) else heldD (limbs (val l * val m))
theorem rnat_Mul (A B : Option Addr) (c d : Nat) (l m : List Int) (w : World) (h : RdI w .u64 A l) (hn : l.length ≤ c) (h9 : l.length ≤ 100000) (h' : RdI w .u64 B m) (hn' : m.length ≤ d) (h9' : m.length ≤ 100000) (hu : U64 l) (hu' : U64 m) :
    Calls Tryz.prog 90 #[.slice A l.length c, .slice B m.length d] w fun e w' => ∃ v, e = .returned (.tuple #[v, .int .i64 (natMulD l m).1]) ∧ OwnI w' w.heap.size 100 .u64 v (natMulD l m).2 ∧ Below w.heap.size w w' := by
 have M1 := Hd.mk (rnat_May A c l w h hn (by omega))
 have M2 := Hd.mk (rnat_May B d m w h' hn' (by omega))
 have CM := Hd.mk (ref_Mul A B c d l m w h hn h9 h' hn' h9' hu hu')
 clear h h' hu hu'
 cases hm1 : natMay l
 ·rw [hm1] at M1
  have HE : Hd (natMulD l m = (1, [])) := ⟨by unfold natMulD; rw [hm1]; rfl⟩
  clear hm1
  go_enter Tryz.func90, Tryz.ntmps90
  go_wp2_with fail
  refine M1.out.mono ?_
  rintro e w' ⟨rfl, rfl⟩
  go_wp2_with fail
  go_ret2
  rw [HE.out]
  exact ⟨_, rfl, OwnI.nil _ _ _ _, .refl _ _⟩
 ·rw [hm1] at M1
  cases hm2 : natMay m
  ·rw [hm2] at M2
   have HE : Hd (natMulD l m = (1, [])) := ⟨by unfold natMulD; rw [hm1, hm2]; rfl⟩
   clear hm1 hm2
   go_enter Tryz.func90, Tryz.ntmps90
   go_wp2_with fail
   refine M1.out.mono ?_
   rintro e w' ⟨rfl, rfl⟩
   go_wp2_with fail
   refine M2.out.mono ?_
   rintro e w' ⟨rfl, rfl⟩
   go_wp2_with fail
   go_ret2
   rw [HE.out]
   exact ⟨_, rfl, OwnI.nil _ _ _ _, .refl _ _⟩
  ·rw [hm2] at M2
   obtain ⟨R, hR⟩ : ∃ R, limbs (val l * val m) = R := ⟨_, rfl⟩
   rw [hR] at CM
   have HE : Hd (natMulD l m = heldD R) := ⟨by unfold natMulD; rw [hm1, hm2, hR]; rfl⟩
   have HH := Hd.mk (fun A c W => rnat_held A c R W)
   clear hm1 hm2 hR
   go_enter Tryz.func90, Tryz.ntmps90
   go_wp2_with fail
   refine M1.out.mono ?_
   rintro e w' ⟨rfl, rfl⟩
   go_wp2_with fail
   refine M2.out.mono ?_
   rintro e w' ⟨rfl, rfl⟩
   go_wp2_with fail
   refine CM.out.mono ?_
   rintro e w4 ⟨v, rfl, ho4, hb4⟩
   obtain ⟨A4, c4, rfl, hc4, _, _⟩ := ho4.reads
   have O4 := Hd.mk ho4
   have B4 := Hd.mk hb4
   have H4 := Hd.mk (HH.out A4 c4 w4)
   clear ho4 hb4
   by_cases h8 : 8 < R.length
   ·have HV : Hd (heldD R = (21, [])) := ⟨by unfold heldD; rw [if_pos h8]⟩
    rw [if_pos h8, HV.out] at H4
    clear h8
    go_wp2_with fail
    refine H4.out.mono ?_
    rintro e w' ⟨rfl, rfl⟩
    go_wp2_with fail
    go_ret2
    rw [HE.out, HV.out]
    exact ⟨_, rfl, OwnI.nil _ _ _ _, B4.out⟩
   ·have HV : Hd (heldD R = (0, R)) := ⟨by unfold heldD; rw [if_neg h8]⟩
    rw [if_neg h8, HV.out] at H4
    clear h8
    go_wp2_with fail
    refine H4.out.mono ?_
    rintro e w' ⟨rfl, rfl⟩
    go_wp2_with fail
    go_ret2
    rw [HE.out, HV.out]
    exact ⟨_, rfl, O4.out, B4.out⟩
theorem ref_times (A B : Option Addr) (c d : Nat) (l m : List Int) (w : World) (h : RdI w .u64 A l) (hn : l.length ≤ c) (h9 : l.length ≤ 90000) (h' : RdI w .u64 B m) (hn' : m.length ≤ d) (h9' : m.length ≤ 90000) (hu : U64 l) (hu' : U64 m) (hm0 : 0 < val m) (hq : val l < val m * 4294967296) :
    Calls Tryz.prog 154 #[.slice A l.length c, .slice B m.length d] w fun e w' => e = .returned (.int .u64 ((val l / val m : Nat) : Int)) ∧ Below w.heap.size w w' := by
 have HL := Hd.mk h
 have HM := Hd.mk h'
 have HU := Hd.mk (And.intro hu hu')
 have H0 := Hd.mk hm0
 have HQ := Hd.mk hq
 clear h h' hu hu' hm0 hq
 go_enter Tryz.func154, Tryz.ntmps154
 go_wp2_with fail
 go_loopw [5, 6] (fun v5 v6 wr => ∃ lo hi : Nat, v5 = .int .u64 lo ∧ v6 = .int .u64 hi ∧ lo < hi ∧ hi ≤ 4294967296 ∧ Hd (val m * lo ≤ val l ∧ val l < val m * hi) ∧ Hd (Below w.heap.size w wr)) (fun v5 v6 _ => (intOf v6).toNat - (intOf v5).toNat)
 case atStart => exact ⟨0, 4294967296, rfl, rfl, by omega, by omega, ⟨by simp, HQ.out⟩, ⟨.refl _ _⟩⟩
 case round =>
  obtain ⟨lo, hi, rfl, rfl, h1, h2, hv, hb⟩ := hrel
  have j1 : (0 : Int) ≤ lo := by omega
  have j2 : (lo : Int) < hi := by omega
  have j3 : (hi : Int) ≤ 4294967296 := by omega
  by_cases h3 : 1 < hi - lo
  ·have j4 : (1 : Int) < (hi : Int) - lo := by omega
   obtain ⟨k, hk⟩ : ∃ k, (lo + hi) / 2 = k := ⟨_, rfl⟩
   have hk1 : lo < k := by omega
   have hk2 : k < hi := by omega
   have ek : ((lo : Int) + hi) / 2 = (k : Int) := by omega
   have hkv : val [(k : Int)] = k := by simp [val]
   have hbn : Below wr.heap.size wr (wr.alloc (.cells #[.int .u64 (k : Int)] 100)) := (Below.refl _ _).alloc (Nat.le_refl _) _
   have HBN := Hd.mk (hb.out.trans (hbn.mono hb.out.size))
   have hrk : RdI (wr.alloc (.cells #[.int .u64 (k : Int)] 100)) .u64 (some ⟨wr.heap.size, 0, none⟩) [(k : Int)] := by
    unfold RdI
    rw [show (wr.alloc (.cells #[.int .u64 (k : Int)] 100)).heap.size = wr.heap.size + 1 by simp]
    exact Rd.new_ wr #[.int .u64 (k : Int)] 100 1 1 rfl
   have CM := Hd.mk (ref_Mul B (some ⟨wr.heap.size, 0, none⟩) d 1 m [(k : Int)] _ (HM.out.up HBN.out) hn' (by omega) hrk (Nat.le_refl _) (by simp) HU.out.2 (U64.nil.cons (by omega) (by omega)))
   rw [hkv] at CM
   obtain ⟨R, hR⟩ : ∃ R, limbs (val m * k) = R := ⟨_, rfl⟩
   have HR : Hd (val R = val m * k ∧ U64 R) := ⟨by rw [← hR, val_limbs]; exact ⟨rfl, limbs_u64 _⟩⟩
   have hRl : R.length ≤ 90001 := by
    have e3 : R.length ≤ m.length + 1 := by
     rw [← hR]
     refine limbs_len.2 ?_
     rw [Nat.pow_succ]
     exact Nat.mul_lt_mul'' (val_lt HU.out.2) (by omega)
    omega
   rw [hR] at CM
   have CC := Hd.mk (fun A' c' W (hW : RdI W .u64 A' R) (hc' : R.length ≤ c') (hb' : Below w.heap.size w W) => ref_Cmp A' A c' c R l W hW hc' (by omega) (HL.out.up hb') hn (by omega) HR.out.2 HU.out.1)
   rw [HR.out.1] at CC
   clear hbn hrk hR hk hkv
   by_cases h4 : val m * k ≤ val l
   ·have hcv : cmpN (val m * k) (val l) ≤ 0 := by unfold cmpN; split <;> (try split) <;> omega
    obtain ⟨q, hq⟩ : ∃ q, cmpN (val m * k) (val l) = q := ⟨_, rfl⟩
    rw [hq] at CC hcv
    have HV : Hd (val m * k ≤ val l ∧ val l < val m * hi) := ⟨h4, hv.out.2⟩
    clear h4 hq hv
    go_wp2_with fail
    refine CM.out.mono ?_
    rintro e w4 ⟨v, rfl, ho4, hb4⟩
    have B4 := Hd.mk (HBN.out.trans (hb4.mono HBN.out.size))
    obtain ⟨A4, c4, rfl, hc4, _, hr4⟩ := ho4.reads
    have CC4 := Hd.mk (CC.out A4 c4 w4 hr4 hc4 B4.out)
    clear ho4 hb4 hr4 CC CM
    go_wp2_with fail
    refine CC4.out.mono ?_
    rintro e w' ⟨rfl, rfl⟩
    go_wp2_with fail
    go_roundw
    case measure => first | (simp [intOf]; done) | (simp [intOf]; omega)
    case rel => exact ⟨k, hi, rfl, rfl, hk2, h2, HV, B4⟩
   ·have hcv : ¬ cmpN (val m * k) (val l) ≤ 0 := by unfold cmpN; rw [if_neg (by omega), if_pos (by omega)]; omega
    obtain ⟨q, hq⟩ : ∃ q, cmpN (val m * k) (val l) = q := ⟨_, rfl⟩
    rw [hq] at CC hcv
    have HV : Hd (val m * lo ≤ val l ∧ val l < val m * k) := ⟨hv.out.1, by omega⟩
    clear h4 hq hv
    go_wp2_with fail
    refine CM.out.mono ?_
    rintro e w4 ⟨v, rfl, ho4, hb4⟩
    have B4 := Hd.mk (HBN.out.trans (hb4.mono HBN.out.size))
    obtain ⟨A4, c4, rfl, hc4, _, hr4⟩ := ho4.reads
    have CC4 := Hd.mk (CC.out A4 c4 w4 hr4 hc4 B4.out)
    clear ho4 hb4 hr4 CC CM
    go_wp2_with fail
    refine CC4.out.mono ?_
    rintro e w' ⟨rfl, rfl⟩
    go_wp2_with fail
    go_roundw
    case measure => first | (simp [intOf]; done) | (simp [intOf]; omega)
    case rel => exact ⟨lo, k, rfl, rfl, hk1, by omega, HV, B4⟩
  ·have j4 : ¬ (1 : Int) < (hi : Int) - lo := by omega
   have HE : Hd (((val l / val m : Nat) : Int) = lo) := ⟨by
    have e1 : hi = lo + 1 := by omega
    have e := hv.out
    rw [e1] at e
    have : val l / val m = lo := by
     rw [Nat.div_eq_iff H0.out]
     have e2 : val m * (lo + 1) = val m * lo + val m := Nat.mul_succ _ _
     rw [Nat.mul_comm lo]
     omega
    rw [this]⟩
   clear hv
   go_wp2_with fail
   go_ret
   exact ⟨retInt HE.out.symm, hb.out⟩
end Go.Proofs.YtjanagclahkfdaaGreat
