/- Parts of the proof, joined: each theorem says what it shows. -/
import Derived.Test.YtgjkgkgieeoalaaGreatB26
import Derived.Test.YtgjkgkgieeoalaaGreatB16
import Derived.Test.YtgjkgkgieeoalaaGreatB23
set_option linter.unusedVariables false
set_option linter.unusedSimpArgs false
set_option maxHeartbeats 24000000
set_option maxRecDepth 100000
namespace Go.Proofs.YtgjkgkgieeoalaaGreat
open Go.RowKit Go.PlainAid
def digsD (s : ByteArray) (n : Nat) : List Int := (List.range n).map fun i => bt s i - 48
def isDig (s : ByteArray) (i : Nat) : Bool := decide (48 ≤ bt s i) && decide (bt s i ≤ 57)
def numD (s : ByteArray) : Int × List Int :=
 if s.size = 0 ∨ (1 < s.size ∧ bt s 0 = 48) then (40, []) else
 if (List.range s.size).all (isDig s) = false then (40, []) else
 if 200 < s.size then (21, []) else fromF 10 0 (digsD s s.size)
theorem num_parse (s : ByteArray) (w : World) (hs : s.size ≤ maxLen) :
    Calls Tryz.prog 269 #[.string s] w fun e w' => ∃ v, e = .returned (.tuple #[v, .int .i64 (numD s).1]) ∧ OwnI w' w.heap.size 112 .u64 v (numD s).2 ∧ Below w.heap.size w w' := by
 unfold maxLen at hs
 obtain ⟨E, hE⟩ : ∃ E, numD s = E := ⟨_, rfl⟩
 rw [hE]
 have HE := Hd.mk hE
 clear hE
 unfold numD at HE
 obtain ⟨i0, hi0, hz0, hz1, hz2⟩ := info_split Tryz.infU64
 by_cases h0 : s.size = 0
 ·have e0 : ((s.size : Int) == 0) = true := by rw [h0]; rfl
  have HT : Hd (E = (40, [])) := ⟨by rw [← HE.out]; exact if_pos (.inl h0)⟩
  clear h0 HE
  go_enter Tryz.func269, Tryz.ntmps269
  go_wp2_with fail
  go_ret2
  rw [HT.out]
  exact ⟨_, rfl, OwnI.nil _ _ _ _, .refl _ _⟩
 have e0 : ((s.size : Int) == 0) = false := by rw [beq_eq_false_iff_ne]; omega
 have hb0 := get_bt s 0 (by omega)
 have h00 : (0 : Int) < s.size := by omega
 have h01 : 0 < s.size := by omega
 by_cases hz : 1 < s.size ∧ bt s 0 = 48
 ·have e1 : (1 : Int) < s.size := by omega
  have e2 : (bt s 0 == 48) = true := by rw [hz.2]; rfl
  have HT : Hd (E = (40, [])) := ⟨by rw [← HE.out]; exact if_pos (.inr hz)⟩
  clear hz HE
  go_enter Tryz.func269, Tryz.ntmps269
  go_wp2_with fail
  go_ret2
  rw [HT.out]
  exact ⟨_, rfl, OwnI.nil _ _ _ _, .refl _ _⟩
 have HE1 := Hd.mk (HE.out.symm.trans (if_neg (by omega)))
 clear HE
 by_cases h1 : 1 < s.size
 case' pos =>
  have e1 : (1 : Int) < s.size := by omega
  have e2 : (bt s 0 == 48) = false := by rw [beq_eq_false_iff_ne]; exact fun h => hz ⟨h1, h⟩
  clear hz h1
  go_enter Tryz.func269, Tryz.ntmps269
  go_wp2_with fail
 case' neg =>
  have e1 : ¬ (1 : Int) < s.size := by omega
  clear hz h1
  go_enter Tryz.func269, Tryz.ntmps269
  go_wp2_with fail
 all_goals
  clear h0 hb0 h00 h01
  go_loop [4] (fun v => ∃ i : Nat, v = .int .i64 i ∧ i ≤ s.size ∧ Hd ((List.range i).all (isDig s) = true)) (fun v => s.size - (intOf v).toNat)
  case atStart => exact ⟨0, rfl, by omega, ⟨rfl⟩⟩
  case round =>
   obtain ⟨i, rfl, hi, ha⟩ := hrel
   by_cases hlt : i < s.size
   ·have i1 : (i : Int) < s.size := by omega
    have i3 : (0 : Int) ≤ i := by omega
    have hb := get_bt s i hlt
    have HN : Hd (isDig s i = false → E = (40, [])) := ⟨fun h => by
     rw [HE1.out, if_pos]
     rw [List.all_eq_false]
     exact ⟨i, List.mem_range.2 hlt, by rw [h]; simp⟩⟩
    have HY : Hd (isDig s i = true → (List.range (i + 1)).all (isDig s) = true) := ⟨fun h => by rw [List.range_succ, List.all_append, ha.out, List.all_cons, h]; rfl⟩
    unfold isDig at HN HY
    by_cases h48 : bt s i < 48
    ·have HT := Hd.mk (HN.out (by rw [decide_eq_false (by omega)]; rfl))
     go_wp2_with fail
     go_ret2
     rw [HT.out]
     exact ⟨_, rfl, OwnI.nil _ _ _ _, .refl _ _⟩
    by_cases h57 : 57 < bt s i
    ·have HT := Hd.mk (HN.out (by rw [decide_eq_false (show ¬ bt s i ≤ 57 by omega), Bool.and_false]))
     go_wp2_with fail
     go_ret2
     rw [HT.out]
     exact ⟨_, rfl, OwnI.nil _ _ _ _, .refl _ _⟩
    ·have HT := Hd.mk (HY.out (by rw [decide_eq_true (by omega), decide_eq_true (by omega)]; rfl))
     go_wp2_with fail
     go_round
     case measure => first | (simp [intOf]; done) | (simp [intOf]; omega)
     case rel => exact ⟨i + 1, by go_num, by omega, by unfold isDig; exact HT⟩
   have i1 : ¬ (i : Int) < s.size := by omega
   obtain rfl : i = s.size := by omega
   have HE2 := Hd.mk (HE1.out.trans (if_neg (by rw [ha.out]; simp)))
   have HDG : Hd (∀ j, j < s.size → 48 ≤ bt s j ∧ bt s j ≤ 57) := ⟨fun j hj => by
    have h1 := List.all_eq_true.1 ha.out j (List.mem_range.2 hj)
    unfold isDig at h1
    simp only [Bool.and_eq_true, decide_eq_true_eq] at h1
    exact h1⟩
   clear ha HE1
   by_cases h200 : 200 < s.size
   ·have h2 : (200 : Int) < s.size := by omega
    have HT := Hd.mk (HE2.out.trans (if_pos h200))
    clear h200
    go_wp2_with fail
    go_ret2
    rw [HT.out]
    exact ⟨_, rfl, OwnI.nil _ _ _ _, .refl _ _⟩
   have h2 : ¬ (200 : Int) < s.size := by omega
   have HE3 := Hd.mk (HE2.out.trans (if_neg h200))
   clear h200
   go_wp2_with fail
   have HO0 : Hd (OwnI (w.alloc (.cells #[] 112)) w.heap.size 112 .u64 (.slice (some ⟨w.heap.size, 0, none⟩) 0 0) []) := ⟨World.ownsRow_lit (e := 112) (size := 1) w #[] 0 (Nat.le_refl _) (by unfold maxLen; omega) rfl⟩
   obtain ⟨D, hD⟩ : ∃ D, digsD s s.size = D := ⟨_, rfl⟩
   have hDl : D.length = s.size := by rw [← hD]; simp [digsD]
   have HDat : Hd (∀ j, j < s.size → D[j]? = some (bt s j - 48)) := ⟨fun j hj => by rw [← hD]; unfold digsD; rw [List.getElem?_map, List.getElem?_range hj]; rfl⟩
   rw [hD] at HE3
   have HDL := Hd.mk hDl
   clear hD hDl
   go_loopw [5, 6] (fun v5 v6 wr => ∃ (i : Nat) (x : Int) (F : List Int), v6 = .int .i64 x ∧ x = (i : Int) - 1 ∧ i ≤ s.size ∧ Hd (OwnI wr w.heap.size 112 .u64 v5 F) ∧ Hd (Below w.heap.size w wr) ∧ Hd (F = (D.drop i).reverse)) (fun _ v _ => (intOf v + 1).toNat)
   case atStart => exact ⟨s.size, _, [], rfl, rfl, Nat.le_refl _, HO0, ⟨(Below.refl _ _).alloc (Nat.le_refl _) _⟩, ⟨by rw [← HDL.out, List.drop_length]; rfl⟩⟩
   case round =>
    clear HO0 i1
    obtain ⟨i, x, F, rfl, hx, hi, HO, HB, HF⟩ := hrel
    have hFl : F.length ≤ 200 := by rw [HF.out, List.length_reverse, List.length_drop, HDL.out]; omega
    have HFl := Hd.mk hFl
    cases i with
    | zero =>
      have hx0 : ¬ (0 : Int) ≤ x := by omega
      obtain ⟨AF, cF, rfl, hcF, _, hrF⟩ := HO.out.reads
      have HFD : Hd (F.reverse = D) := ⟨by rw [HF.out, List.reverse_reverse]; rfl⟩
      have CF := Hd.mk (ref_From AF cF F 10 wr hrF (by omega) (by omega) (by omega) (fun d hd => by
       rw [HF.out] at hd
       have hd2 : d ∈ D := List.mem_of_mem_drop (List.mem_reverse.1 hd)
       obtain ⟨j, hj⟩ := List.mem_iff_getElem?.1 hd2
       have hjl : j < s.size := by have := (List.getElem?_eq_some_iff.1 hj).1; have := HDL.out; omega
       rw [HDat.out j hjl] at hj
       injection hj with hj
       have := HDG.out j hjl
       omega))
      rw [HFD.out, ← HE3.out] at CF
      clear hrF HO hx
      go_wp2_with fail
      refine CF.out.mono ?_
      rintro e w4 ⟨v, rfl, ho, hb⟩
      have HO4 := Hd.mk (ho.low HB.out.size)
      have HB4 := Hd.mk (HB.out.trans (hb.mono HB.out.size))
      clear ho hb CF
      go_wp2_with fail
      go_ret2
      exact ⟨_, rfl, HO4.out, HB4.out⟩
    | succ j =>
      have hx0 : (0 : Int) ≤ x := by omega
      have hxj : x = j := by omega
      subst hxj
      have hjl : j < s.size := by omega
      have j1 : (j : Int) < s.size := by omega
      have hb := get_bt s j hjl
      have hdg := HDG.out j hjl
      have HAT := HDat.out j hjl
      have HF2 : Hd (F ++ [bt s j - 48] = (D.drop j).reverse) := ⟨by
       have hj2 : j < D.length := by rw [HDL.out]; exact hjl
       rw [HF.out, List.drop_eq_getElem_cons hj2]
       rw [List.getElem?_eq_getElem hj2] at HAT
       injection HAT with HAT
       rw [HAT, List.reverse_cons]⟩
      obtain ⟨X, hX⟩ : ∃ X, bt s j - 48 = X := ⟨_, rfl⟩
      have r1 : IntKind.u8.wrap (bt s j - 48) = X := by rw [IntKind.wrap_u8]; omega
      have r2 : IntKind.u64.wrap X = X := by rw [IntKind.wrap_u64]; omega
      rw [hX] at HF2
      have OO := Hd.mk (HO.out.al (.cells #[.int .u64 X] 112))
      have RN := Hd.mk (Rd.new_ wr #[.int .u64 X] 112 1 1 rfl)
      have BB := Hd.mk (HB.out.alloc HB.out.size (.cells #[.int .u64 X] 112))
      have XS := Hd.mk BB.out.size
      have x63 : F.length + 1 ≤ maxLen := by unfold maxLen; omega
      have xby : (F.length + 1) * 8 ≤ 140737488355328 := by omega
      clear HAT hX hx hdg
      go_wp2_with (at_builtin; refine wpList_append_rd _ rfl _ _ 61 rfl w.heap.size 112 i0 (.int .u64 0) 1 8 Tryz.slU64 hi0 hz0 hz1 hz2 rfl (by decide) _ F.length (ints .u64 F) rfl OO.out _ _ 1 _ (ints .u64 [X]) rfl RN.out (ints_one _ _) x63 xby XS.out ?_)
      intro v' w6 ho6 hg6 _
      have O6 := Hd.mk (show OwnI w6 w.heap.size 112 .u64 v' (F ++ [X]) from by unfold OwnI; rw [List.length_append, ints_app]; exact ho6)
      have B6 := Hd.mk (grown_below OO.out hg6 BB.out XS.out)
      clear ho6 hg6
      go_wp2_with fail
      go_roundw
      case measure => simp [intOf]
      case rel => exact ⟨j, _, _, rfl, rfl, by omega, O6, B6, HF2⟩
def runF (s : ByteArray) : Nat → Nat → Nat
 | 0, k => k
 | n + 1, k => if k < s.size ∧ isDig s k = true then runF s n (k + 1) else k
def runD (s : ByteArray) (k : Nat) : Nat := runF s (s.size - k) k
theorem runF_ge (s : ByteArray) : ∀ (n k : Nat), k ≤ runF s n k ∧ runF s n k ≤ max k s.size
 | 0, k => ⟨Nat.le_refl _, by simp [runF]; omega⟩
 | n + 1, k => by
   unfold runF
   split
   ·rename_i h
    have := runF_ge s n (k + 1)
    omega
   ·omega
theorem runD_le {s : ByteArray} {k : Nat} (h : k ≤ s.size) : k ≤ runD s k ∧ runD s k ≤ s.size := by have := runF_ge s (s.size - k) k; unfold runD; omega
theorem runD_go {s : ByteArray} {k : Nat} (h : k < s.size) (hb : isDig s k = true) : runD s k = runD s (k + 1) := by
 unfold runD
 rw [show s.size - k = (s.size - (k + 1)) + 1 by omega]
 conv => lhs; unfold runF
 rw [if_pos ⟨h, hb⟩]
theorem runD_end {s : ByteArray} {k : Nat} (h : ¬ (k < s.size ∧ isDig s k = true)) : runD s k = k := by
 unfold runD
 cases s.size - k with
 | zero => rfl
 | succ n => exact if_neg h
def numberK (s : ByteArray) (k : Nat) : Nat := runD s (skipD s k)
def numberS (s : ByteArray) (k : Nat) : ByteArray := s.extract (skipD s k) (numberK s k)
theorem numberK_le {s : ByteArray} {k : Nat} (h : k ≤ s.size) : numberK s k ≤ s.size := (runD_le (skipD_le h)).2
theorem text_number (s : ByteArray) (k g : Nat) (bad : Bool) (w : World) (hk : Bk w g 244 (tx s k bad)) (hs : s.size ≤ maxLen) (hks : k ≤ s.size) :
    Calls Tryz.prog 315 #[.pointer (some ⟨g, 0, none⟩)] w fun e w' => e = .returned (.string (numberS s k)) ∧ Bk w' g 244 (tx s (numberK s k) (bad || (numD (numberS s k)).1 == 40)) ∧ w.grownBy w' (some g) := by
 have CS := Hd.mk (text_skip s k g bad w hk hs hks)
 have hle := skipD_le hks
 have CP := Hd.mk (fun W => num_parse (numberS s k) W (by
  unfold numberS
  rw [ByteArray.size_extract]
  have := numberK_le hks
  omega))
 unfold maxLen at hs
 obtain ⟨NS, hNS⟩ : ∃ NS, numberS s k = NS := ⟨_, rfl⟩
 obtain ⟨NK, hNK⟩ : ∃ NK, numberK s k = NK := ⟨_, rfl⟩
 have HNS := Hd.mk hNS
 have HNK := Hd.mk hNK
 unfold numberS at HNS
 rw [hNK] at HNS
 unfold numberK at HNK
 rw [hNS, hNK]
 rw [hNS] at CP
 obtain ⟨f, hf⟩ : ∃ f, skipD s k = f := ⟨_, rfl⟩
 rw [hf] at CS hle HNS HNK
 have hfn : f ≤ NK ∧ NK ≤ s.size := by rw [← HNK.out]; exact runD_le hle
 clear hk hf hks hNS hNK
 go_enter Tryz.func315, Tryz.ntmps315
 go_wp2_with fail
 refine CS.out.mono ?_
 rintro e w2 ⟨rfl, hB, hG⟩
 have HB := Hd.mk hB
 have HG := Hd.mk hG
 obtain ⟨q0, q1, q2⟩ := hB.three
 clear CS hB hG
 go_wp2_with fail
 go_loopg [16] (s.size - f) (fun n _ wr => ∃ i : Nat, n = s.size - i ∧ i ≤ s.size ∧ Hd (Bk wr g 244 (tx s i bad)) ∧ Hd (w.grownBy wr (some g)) ∧ Hd (runD s i = NK))
 case atStart => exact ⟨f, rfl, hle, HB, HG, HNK⟩
 case round =>
  clear q0 q1 q2 HB HG HNK
  obtain ⟨i, hn, hi, HB, HG, HE⟩ := hrel
  obtain ⟨q0, q1, q2⟩ := HB.out.three
  have fz := fun i => HB.out.froz i
  by_cases hlt : i < s.size
  ·have i1 : (i : Int) < s.size := by omega
   have i0 : (0 : Int) ≤ i := by omega
   have hb := get_bt s i hlt
   have CD := Hd.mk (ref_digit (bt s i))
   cases hdg : isDig s i
   ·have HN : Hd (i = NK) := ⟨by rw [← HE.out]; exact (runD_end (fun h => by rw [hdg] at h; exact absurd h.2 (by simp))).symm⟩
    unfold isDig at hdg
    rw [hdg] at CD
    clear hdg
    go_wp2_with fail
    go_quiet ((go_at_call 322; first | exact quiet_two CD.out | exact quiet_one CD.out))
    go_wp2_with fail
    obtain rfl : i = NK := HN.out
    have hx := HNS.out
    have f0 : f ≤ i := by omega
    go_quiet (fail)
    go_wp2_with fail
    refine (CP.out _).mono ?_
    rintro e w5 ⟨v, rfl, ho, hb5⟩
    obtain ⟨Av, cv, rfl, -, -, -⟩ := ho.reads
    have HB5 := Hd.mk ((HB.out.dn _).up hb5)
    have HG5 := Hd.mk (gb_trans (gb_dn HG.out _) (gb_of hb5))
    have fz5 := fun i => HB5.out.froz i
    obtain ⟨p0, p1, p2⟩ := HB5.out.three
    clear ho hb5 CP hx
    by_cases h40 : (numD NS).1 = 40
    ·have e40 : ((numD NS).1 == 40) = true := by rw [h40]; rfl
     have HE40 := Hd.mk e40
     clear h40
     go_wp2_with fail
     go_ret
     rw [HE40.out, Bool.or_true]
     exact ⟨rfl, HB5.out.set_ 2 _, HG5.out.set 2 _⟩
    ·have e40 : ((numD NS).1 == 40) = false := by rw [beq_eq_false_iff_ne]; exact h40
     have HE40 := Hd.mk e40
     clear h40
     go_wp2_with fail
     go_ret
     rw [HE40.out, Bool.or_false]
     exact ⟨rfl, HB5.out, HG5.out⟩
   ·have HN : Hd (runD s (i + 1) = NK) := ⟨by rw [← HE.out]; exact (runD_go hlt hdg).symm⟩
    unfold isDig at hdg
    rw [hdg] at CD
    clear hdg
    go_wp2_with fail
    go_quiet ((go_at_call 322; first | exact quiet_two CD.out | exact quiet_one CD.out))
    go_wp2_with fail
    go_roundg (s.size - (i + 1))
    case measure => omega
    case rel => exact ⟨i + 1, rfl, by omega, ⟨(HB.out.dn _).set_ 1 _⟩, ⟨(gb_dn HG.out _).set 1 _⟩, HN⟩
  ·have i1 : ¬ (i : Int) < s.size := by omega
   have HN : Hd (i = NK) := ⟨by rw [← HE.out]; exact (runD_end (fun h => hlt h.1)).symm⟩
   go_wp2_with fail
   go_quiet (fail)
   go_wp2_with fail
   obtain rfl : i = NK := HN.out
   have hx := HNS.out
   have f0 : f ≤ i := by omega
   go_quiet (fail)
   go_wp2_with fail
   refine (CP.out _).mono ?_
   rintro e w5 ⟨v, rfl, ho, hb5⟩
   obtain ⟨Av, cv, rfl, -, -, -⟩ := ho.reads
   have HB5 := Hd.mk ((HB.out.dn _).up hb5)
   have HG5 := Hd.mk (gb_trans (gb_dn HG.out _) (gb_of hb5))
   have fz5 := fun i => HB5.out.froz i
   obtain ⟨p0, p1, p2⟩ := HB5.out.three
   clear ho hb5 CP hx
   by_cases h40 : (numD NS).1 = 40
   ·have e40 : ((numD NS).1 == 40) = true := by rw [h40]; rfl
    have HE40 := Hd.mk e40
    clear h40
    go_wp2_with fail
    go_ret
    rw [HE40.out, Bool.or_true]
    exact ⟨rfl, HB5.out.set_ 2 _, HG5.out.set 2 _⟩
   ·have e40 : ((numD NS).1 == 40) = false := by rw [beq_eq_false_iff_ne]; exact h40
    have HE40 := Hd.mk e40
    clear h40
    go_wp2_with fail
    go_ret
    rw [HE40.out, Bool.or_false]
    exact ⟨rfl, HB5.out, HG5.out⟩
theorem gb_set {w w' : World} {row : Option Nat} (h : w.grownBy w' row) {g : Nat} (hg : w.heap.size ≤ g) (i : Nat) (u : Value) : w.grownBy (w'.setCell ⟨g, i, none⟩ u) row :=
 ⟨h.os, h.tape, h.output, by simpa using h.size, fun b hb hne => (Below.heap_setCell w' ⟨g, i, none⟩ u b (fun e => by subst e; exact absurd hb (Nat.not_lt.2 hg))).trans (h.block b hb hne)⟩
theorem set3_grown' (w : World) (g : Nat) (x y z : Value) : w.grownBy (((w.setCell ⟨g, 0, none⟩ x).setCell ⟨g, 1, none⟩ y).setCell ⟨g, 2, none⟩ z) (some g) := ((set_grown w ⟨g, 0, none⟩ x).set 1 y).set 2 z
structure FacD where
 var : Int
 up : ByteArray
 down : ByteArray
def FacD.v (f : FacD) : Array Value := #[.int .i64 f.var, .string f.up, .string f.down]
def badN (s : ByteArray) (k : Nat) : Bool := (numD (numberS s k)).1 == 40
def oneS : ByteArray := ⟨#[49]⟩
def factorD (s : ByteArray) (k : Nat) (bad : Bool) : FacD × Nat × Bool :=
 let k1 := skipD s k
 let c := bt s k1
 if 0 ≤ varD c then
  let k2 := eatK s k1 c
  let k3 := eatK s k2 94
  if eatB s k2 94 = true then (⟨varD c, numberS s k3, ⟨#[]⟩⟩, numberK s k3, bad || badN s k3) else (⟨varD c, oneS, ⟨#[]⟩⟩, k3, bad)
 else
  let k2 := numberK s k1
  let b2 := bad || badN s k1
  let k3 := eatK s k2 47
  if eatB s k2 47 = true then (⟨-1, numberS s k1, numberS s k3⟩, numberK s k3, b2 || badN s k3) else (⟨-1, numberS s k1, ⟨#[]⟩⟩, k3, b2)
theorem Tryz.stFac : isStruct (Tryz.prog.underlying 292) = true := by kernel_rfl
theorem Tryz.szFac : (Tryz.prog.info? 292).map (·.size) = some 3 := by kernel_rfl
theorem res_fac {fn : Func} {p : Tmp} (h : fn.results = #[.cell p 292]) (tmps : Array Value) (w : World) (g : Nat) (cs : Array Value) (hp : tmps.getD p undef = .pointer (some ⟨g, 0, none⟩)) (hk : Bk w g 292 cs) (hc : cs.size = 3) :
    (results fn tmps).run Tryz.prog w = .ok (.agg cs) w := by
 obtain ⟨f, h1⟩ := st_of Tryz.stFac
 exact results_cell_row h tmps w g _ cs (0, 0) (.struct f) hp hk h1 rfl (by rw [hc]; exact Tryz.szFac)
theorem text_factor (s : ByteArray) (k g : Nat) (bad : Bool) (w : World) (hk : Bk w g 244 (tx s k bad)) (hs : s.size ≤ maxLen) (hks : k ≤ s.size) :
    Calls Tryz.prog 296 #[.pointer (some ⟨g, 0, none⟩)] w fun e w' => e = .returned (.agg (factorD s k bad).1.v) ∧ Bk w' g 244 (tx s (factorD s k bad).2.1 (factorD s k bad).2.2) ∧ w.grownBy w' (some g) := by
 obtain ⟨E, hE⟩ : ∃ E, factorD s k bad = E := ⟨_, rfl⟩
 rw [hE]
 have HE := Hd.mk hE
 clear hE
 unfold factorD at HE
 dsimp only at HE
 have HK := Hd.mk hk
 have hgl := hk.lt
 have CX := Hd.mk (fun W (hW : Bk W g 244 (tx s k bad)) => text_next s k g bad W hW hs hks)
 have h1 := skipD_le hks
 obtain ⟨k1, hk1⟩ : ∃ k1, skipD s k = k1 := ⟨_, rfl⟩
 rw [hk1] at CX h1 HE
 obtain ⟨c, hc⟩ : ∃ c, bt s k1 = c := ⟨_, rfl⟩
 rw [hc] at CX HE
 have CV := Hd.mk (ref_variable c)
 obtain ⟨V, hV⟩ : ∃ V, varD c = V := ⟨_, rfl⟩
 rw [hV] at CV HE
 clear hk hk1 hc hV
 go_enter Tryz.func296, Tryz.ntmps296
 go_upto_region 1 with (fail)
 refine wp_gen (fun W => Bk W g 244 (tx s k bad) ∧ Bk W w.heap.size 292 #[.int .i64 0, .string ⟨#[]⟩, .string ⟨#[]⟩] ∧ w.grownBy W (some g)) ⟨HK.out.al _, Bk.new_ _ _ _, gb_of ((Below.refl _ _).alloc (Nat.le_refl _) _)⟩ ?_
 intro W hW
 have hne : some w.heap.size ≠ some g := fun e => by injection e with e; omega
 obtain ⟨gr, hgr⟩ : ∃ gr, w.heap.size = gr := ⟨_, rfl⟩
 have HGR : Hd (w.heap.size ≤ gr ∧ some gr ≠ some g) := ⟨by omega, by rw [← hgr]; exact hne⟩
 rw [hgr] at hW ⊢
 have HB := Hd.mk hW.out.1
 have HR := Hd.mk hW.out.2.1
 have HG := Hd.mk hW.out.2.2
 clear hW hgr hne hgl HK
 go_wp2_with fail
 refine (CX.out _ HB.out).mono ?_
 rintro e w2 ⟨rfl, hb2, hg2⟩
 have HB2 := Hd.mk hb2
 have HR2 := Hd.mk (HR.out.grown hg2 HGR.out.2)
 have HG2 := Hd.mk (gb_trans HG.out hg2)
 clear hb2 hg2 HB HR HG CX
 go_wp2_with fail
 refine (CV.out _).mono ?_
 rintro e w3 ⟨rfl, rfl⟩
 by_cases hv : 0 ≤ V
 ·have HE1 := Hd.mk (HE.out.symm.trans (if_pos hv))
  clear HE
  have CE := Hd.mk (text_eat s k1 g bad c w2 HB2.out hs h1)
  have h2 := eatK_le (c := c) h1
  obtain ⟨k2, hk2⟩ : ∃ k2, eatK s k1 c = k2 := ⟨_, rfl⟩
  rw [hk2] at CE h2 HE1
  clear hk2
  go_wp2_with fail
  refine CE.out.mono ?_
  rintro e w4 ⟨rfl, hb4, hg4⟩
  have HB4 := Hd.mk hb4
  have HR4 := Hd.mk (HR2.out.grown hg4 HGR.out.2)
  have HG4 := Hd.mk (gb_trans HG2.out hg4)
  clear hb4 hg4 HB2 HR2 HG2 CE
  have CE := Hd.mk (text_eat s k2 g bad 94 w4 HB4.out hs h2)
  have h3 := eatK_le (c := 94) h2
  obtain ⟨k3, hk3⟩ : ∃ k3, eatK s k2 94 = k3 := ⟨_, rfl⟩
  obtain ⟨B, hB⟩ : ∃ B, eatB s k2 94 = B := ⟨_, rfl⟩
  rw [hk3, hB] at CE
  rw [hk3] at h3
  rw [hk3, hB] at HE1
  clear hk3 hB
  cases B
  ·have HE2 := Hd.mk (HE1.out.trans (if_neg (by simp)))
   clear HE1
   go_wp2_with fail
   refine CE.out.mono ?_
   rintro e w5 ⟨rfl, hb5, hg5⟩
   have HB5 := Hd.mk hb5
   have HR5 := Hd.mk (HR4.out.grown hg5 HGR.out.2)
   have HG5 := Hd.mk (gb_trans HG4.out hg5)
   obtain ⟨r0, r1, r2⟩ := HR5.out.three
   have fz := fun i => HR5.out.froz i
   clear hb5 hg5 HB4 HR4 HG4 CE
   go_wp2_with fail
   refine bodyPost_ret (res_fac rfl _ _ gr _ rfl (HR5.out.set3 _ _ _) rfl) rfl ?_
   rw [HE2.out]
   exact ⟨rfl, HB5.out.grown (set3_grown' _ gr _ _ _) (fun e => HGR.out.2 e.symm), gb_set (gb_set (gb_set HG5.out HGR.out.1 _ _) HGR.out.1 _ _) HGR.out.1 _ _⟩
  ·have HE2 := Hd.mk (HE1.out.trans (if_pos rfl))
   clear HE1
   go_wp2_with fail
   refine CE.out.mono ?_
   rintro e w5 ⟨rfl, hb5, hg5⟩
   have HB5 := Hd.mk hb5
   have HR5 := Hd.mk (HR4.out.grown hg5 HGR.out.2)
   have HG5 := Hd.mk (gb_trans HG4.out hg5)
   clear hb5 hg5 HB4 HR4 HG4 CE
   have CN := Hd.mk (text_number s k3 g bad w5 HB5.out hs h3)
   go_wp2_with fail
   refine CN.out.mono ?_
   rintro e w6 ⟨rfl, hb6, hg6⟩
   have HB6 := Hd.mk hb6
   have HR6 := Hd.mk (HR5.out.grown hg6 HGR.out.2)
   have HG6 := Hd.mk (gb_trans HG5.out hg6)
   obtain ⟨r0, r1, r2⟩ := HR6.out.three
   have fz := fun i => HR6.out.froz i
   clear hb6 hg6 HB5 HR5 HG5 CN
   go_wp2_with fail
   refine bodyPost_ret (res_fac rfl _ _ gr _ rfl (HR6.out.set3 _ _ _) rfl) rfl ?_
   rw [HE2.out]
   exact ⟨rfl, HB6.out.grown (set3_grown' _ gr _ _ _) (fun e => HGR.out.2 e.symm), gb_set (gb_set (gb_set HG6.out HGR.out.1 _ _) HGR.out.1 _ _) HGR.out.1 _ _⟩
 ·have HE1 := Hd.mk (HE.out.symm.trans (if_neg hv))
  clear HE
  have hneg : V < 0 := by omega
  have CN := Hd.mk (text_number s k1 g bad w2 HB2.out hs h1)
  have h2 := numberK_le h1
  obtain ⟨k2, hk2⟩ : ∃ k2, numberK s k1 = k2 := ⟨_, rfl⟩
  obtain ⟨S1, hS1⟩ : ∃ S1, numberS s k1 = S1 := ⟨_, rfl⟩
  obtain ⟨b2, hb2'⟩ : ∃ b2, (bad || badN s k1) = b2 := ⟨_, rfl⟩
  have HB2' := Hd.mk hb2'
  unfold badN at HB2'
  rw [hk2] at CN h2
  rw [HB2'.out, hS1] at CN
  rw [hk2, hb2', hS1] at HE1
  clear hk2 hS1 hb2' HB2'
  go_wp2_with fail
  refine CN.out.mono ?_
  rintro e w4 ⟨rfl, hb4, hg4⟩
  have HB4 := Hd.mk hb4
  have HR4 := Hd.mk (HR2.out.grown hg4 HGR.out.2)
  have HG4 := Hd.mk (gb_trans HG2.out hg4)
  clear hb4 hg4 HB2 HR2 HG2 CN
  have CE := Hd.mk (text_eat s k2 g b2 47 w4 HB4.out hs h2)
  have h3 := eatK_le (c := 47) h2
  obtain ⟨k3, hk3⟩ : ∃ k3, eatK s k2 47 = k3 := ⟨_, rfl⟩
  obtain ⟨B, hB⟩ : ∃ B, eatB s k2 47 = B := ⟨_, rfl⟩
  rw [hk3, hB] at CE
  rw [hk3] at h3
  rw [hk3, hB] at HE1
  clear hk3 hB
  cases B
  ·have HE2 := Hd.mk (HE1.out.trans (if_neg (by simp)))
   clear HE1
   go_wp2_with fail
   refine CE.out.mono ?_
   rintro e w5 ⟨rfl, hb5, hg5⟩
   have HB5 := Hd.mk hb5
   have HR5 := Hd.mk (HR4.out.grown hg5 HGR.out.2)
   have HG5 := Hd.mk (gb_trans HG4.out hg5)
   obtain ⟨r0, r1, r2⟩ := HR5.out.three
   have fz := fun i => HR5.out.froz i
   clear hb5 hg5 HB4 HR4 HG4 CE
   go_wp2_with fail
   refine bodyPost_ret (res_fac rfl _ _ gr _ rfl (HR5.out.set3 _ _ _) rfl) rfl ?_
   rw [HE2.out]
   exact ⟨rfl, HB5.out.grown (set3_grown' _ gr _ _ _) (fun e => HGR.out.2 e.symm), gb_set (gb_set (gb_set HG5.out HGR.out.1 _ _) HGR.out.1 _ _) HGR.out.1 _ _⟩
  ·have HE2 := Hd.mk (HE1.out.trans (if_pos rfl))
   clear HE1
   go_wp2_with fail
   refine CE.out.mono ?_
   rintro e w5 ⟨rfl, hb5, hg5⟩
   have HB5 := Hd.mk hb5
   have HR5 := Hd.mk (HR4.out.grown hg5 HGR.out.2)
   have HG5 := Hd.mk (gb_trans HG4.out hg5)
   clear hb5 hg5 HB4 HR4 HG4 CE
   have CN := Hd.mk (text_number s k3 g b2 w5 HB5.out hs h3)
   go_wp2_with fail
   refine CN.out.mono ?_
   rintro e w6 ⟨rfl, hb6, hg6⟩
   have HB6 := Hd.mk hb6
   have HR6 := Hd.mk (HR5.out.grown hg6 HGR.out.2)
   have HG6 := Hd.mk (gb_trans HG5.out hg6)
   obtain ⟨r0, r1, r2⟩ := HR6.out.three
   have fz := fun i => HR6.out.froz i
   clear hb6 hg6 HB5 HR5 HG5 CN
   go_wp2_with fail
   refine bodyPost_ret (res_fac rfl _ _ gr _ rfl (HR6.out.set3 _ _ _) rfl) rfl ?_
   rw [HE2.out]
   exact ⟨rfl, HB6.out.grown (set3_grown' _ gr _ _ _) (fun e => HGR.out.2 e.symm), gb_set (gb_set (gb_set HG6.out HGR.out.1 _ _) HGR.out.1 _ _) HGR.out.1 _ _⟩
end Go.Proofs.YtgjkgkgieeoalaaGreat
namespace Go.Proofs.YtgjkgkgieeoalaaGreat
open Go.RowKit
section
variable {w w' : World} {b0 base : Nat} {row : Option Nat}
def Rok (w : World) (b0 : Nat) (row : Option Nat) : Prop := ∀ g, row = some g → b0 ≤ g ∧ ∃ t cs, Bk w g t cs ∧ t ≠ 112
theorem OwnT.grown {u : Value} {q : List TermD} (h : OwnT w b0 base u q) (hg : w.grownBy w' row) (hne : u.ownBlock = none ∨ u.ownBlock ≠ row) (hr : Rok w b0 row) : OwnT w' b0 base u q :=
 let ⟨cs, h1, h2⟩ := h; ⟨cs, World.ownsRow.kept h1 hg hne, h2.grown hg hr⟩
theorem OwnT.rok {u : Value} {q : List TermD} (h : OwnT w b0 base u q) (hb : b0 ≤ base) : Rok w b0 u.ownBlock :=
 let ⟨_, h1, _⟩ := h; own_row_ok h1 hb (by decide)
theorem OwnT.lt {u : Value} {q : List TermD} (h : OwnT w b0 base u q) {g : Nat} (e : u.ownBlock = some g) : g < w.heap.size ∧ base ≤ g ∧ ∃ cs, Bk w g 68 cs := by
 obtain ⟨cs, h1, _⟩ := h
 obtain ⟨⟨ds, hk⟩, hb⟩ := own_bk h1 e
 exact ⟨hk.lt, hb, ds, hk⟩
theorem RPol.grown {A : Option Addr} {ts : List TermD} (h : RPol w b0 A ts) (hg : w.grownBy w' row) (hne : ts ≠ [] → ∀ ad, A = some ad → row ≠ some ad.block) (hr : Rok w b0 row) : RPol w' b0 A ts := by
 obtain ⟨cs, h1, h2⟩ := h
 refine ⟨cs, ⟨h1.1, fun hn => ?_⟩, h2.grown hg hr⟩
 obtain ⟨ad, e, hb, hc⟩ := h1.2 hn
 have hne' := hne (fun e0 => by rw [e0] at hn; cases hn) ad e
 exact ⟨ad, e, Nat.lt_of_lt_of_le hb hg.size, fun j u hu => (World.cell?_of_block (by rw [add_block]; exact hg.block _ hb (fun e2 => hne' e2.symm))).trans (hc j u hu)⟩
structure Fam (w : World) (b0 base : Nat) (F : List (Value × List TermD)) : Prop where
 own : ∀ (i : Nat) p, F[i]? = some p → OwnT w b0 base p.1 p.2
 sep : ∀ (i j : Nat) p q, i ≠ j → F[i]? = some p → F[j]? = some q → ∀ g, p.1.ownBlock = some g → q.1.ownBlock ≠ some g
def Off (F : List (Value × List TermD)) (A : Option Addr) : Prop := ∀ (i : Nat) p, F[i]? = some p → ∀ ad, A = some ad → p.1.ownBlock ≠ some ad.block
variable {F : List (Value × List TermD)} {p q : Value × List TermD} {i : Nat} {A : Option Addr}
theorem Fam.up (h : Fam w b0 base F) (hb : Below w.heap.size w w') : Fam w' b0 base F := ⟨fun i p hp => (h.own i p hp).up hb, h.sep⟩
theorem Fam.nil (w : World) (b0 base : Nat) : Fam w b0 base [] := ⟨fun i p h => by simp at h, fun i j p q _ h => by simp at h⟩
theorem Fam.far (h : Fam w b0 base F) (hg : w.grownBy w' row) (hr : Rok w b0 row) (hne : ∀ (i : Nat) p, F[i]? = some p → p.1.ownBlock = none ∨ p.1.ownBlock ≠ row) : Fam w' b0 base F :=
 ⟨fun i p hp => (h.own i p hp).grown hg (hne i p hp) hr, h.sep⟩
theorem set_at {α : Type} {F : List α} {i j : Nat} {q s : α} (hs : (F.set i q)[j]? = some s) : (j = i ∧ s = q) ∨ (j ≠ i ∧ F[j]? = some s) := by
 by_cases e : j = i
 ·subst e
  rw [List.getElem?_set_self'] at hs
  cases h : F[j]? with
  | none => rw [h] at hs; cases hs
  | some x => rw [h] at hs; injection hs with hs; exact .inl ⟨rfl, hs.symm⟩
 ·rw [List.getElem?_set_ne (Ne.symm e)] at hs
  exact .inr ⟨e, hs⟩
theorem Fam.app (h : Fam w b0 base F) (hi : F[i]? = some p) (hb : b0 ≤ base) (hg : w.grownBy w' p.1.ownBlock) (ho : OwnT w' b0 base q.1 q.2) (hat : q.1.ownBlock = p.1.ownBlock ∨ q.1.ownBlock = some w.heap.size) : Fam w' b0 base (F.set i q) := by
 have hr := (h.own i p hi).rok hb
 have hlen : i < F.length := (List.getElem?_eq_some_iff.1 hi).1
 have key : ∀ (j : Nat) s, j ≠ i → F[j]? = some s → ∀ g, s.1.ownBlock = some g → q.1.ownBlock ≠ some g := fun j s hj hs g hg' e => by
  rcases hat with h1 | h1
  ·exact h.sep j i s p hj hs hi g hg' (h1 ▸ e)
  ·rw [h1] at e
   injection e with e
   have := ((h.own j s hs).lt hg').1
   omega
 refine ⟨fun j s hs => ?_, fun j k s t hjk hs ht g hg' => ?_⟩
 ·rcases set_at hs with ⟨_, rfl⟩ | ⟨hne, hs⟩
  ·exact ho
  ·refine (h.own j s hs).grown hg ?_ hr
   cases e : s.1.ownBlock with
   | none => exact .inl rfl
   | some g => exact .inr fun e2 => h.sep j i s p hne hs hi g e e2.symm
 ·rcases set_at hs with ⟨e1, e2⟩ | ⟨hne, hs2⟩
  ·rcases set_at ht with ⟨e, _⟩ | ⟨hne2, ht2⟩
   ·exact absurd (e1.trans e.symm) hjk
   ·intro e3
    exact key k t hne2 ht2 g e3 (e2 ▸ hg')
  ·rcases set_at ht with ⟨e1, e2⟩ | ⟨hne2, ht2⟩
   ·rw [e2]; exact key j s hne hs2 g hg'
   ·exact h.sep j k s t hjk hs2 ht2 g hg'
theorem Off.app (h : Off F A) (hi : F[i]? = some p) (hlt : ∀ ad, A = some ad → ad.block < w.heap.size) (hat : q.1.ownBlock = p.1.ownBlock ∨ q.1.ownBlock = some w.heap.size) : Off (F.set i q) A := fun j s hs ad e => by
 rcases set_at hs with ⟨_, rfl⟩ | ⟨_, hs⟩
 ·rcases hat with h1 | h1
  ·rw [h1]; exact h i p hi ad e
  ·rw [h1]; intro e2; injection e2 with e2; have := hlt ad e; omega
 ·exact h j s hs ad e
theorem Off.old (h : Fam w b0 base F) (hf : ∀ ad, A = some ad → ad.block < base) : Off F A := fun i p hi ad e e2 => by
 have h1 := ((h.own i p hi).lt e2).2.1
 have h2 := hf ad e
 omega
theorem Fam.cons (h : Fam w b0 base F) (ho : OwnT w b0 base p.1 p.2) (hs : ∀ (i : Nat) q, F[i]? = some q → ∀ g, p.1.ownBlock = some g → q.1.ownBlock ≠ some g) : Fam w b0 base (p :: F) :=
 ⟨fun i q hq => by
  cases i with
  | zero => injection hq with hq; subst hq; exact ho
  | succ i => exact h.own i q (by simpa using hq), fun i j q s hij hq hs' g hg => by
  cases i with
  | zero =>
    injection hq with hq
    subst hq
    cases j with
    | zero => exact absurd rfl hij
    | succ j => exact hs j s (by simpa using hs') g hg
  | succ i =>
    cases j with
    | zero =>
      injection hs' with hs'
      subst hs'
      intro e
      exact hs i q (by simpa using hq) g e hg
    | succ j => exact h.sep i j q s (by omega) (by simpa using hq) (by simpa using hs') g hg⟩
structure Mat (w : World) (b0 base : Nat) (V : Value) (vs : List Value) (R : Value) (r : List TermD) (qs : List (List TermD)) : Prop where
 out : w.ownsRow base 25 1 V vs.length vs
 len : vs.length = qs.length
 fam : Fam w b0 base ((R, r) :: vs.zip qs)
variable {V R : Value} {vs : List Value} {r : List TermD} {qs : List (List TermD)}
theorem Mat.up (h : Mat w b0 base V vs R r qs) (hb : Below w.heap.size w w') : Mat w' b0 base V vs R r qs := ⟨own_below h.out hb, h.len, h.fam.up hb⟩
theorem Mat.zip_at (h : Mat w b0 base V vs R r qs) {j : Nat} {v : Value} {qj : List TermD} (hv : vs[j]? = some v) (hq : qs[j]? = some qj) : ((R, r) :: vs.zip qs)[j + 1]? = some (v, qj) := by
 rw [List.getElem?_cons_succ]; exact List.getElem?_zip_eq_some.2 ⟨hv, hq⟩
theorem Mat.get (h : Mat w b0 base V vs R r qs) {j : Nat} (hj : j < qs.length) : ∃ v qj, vs[j]? = some v ∧ qs[j]? = some qj ∧ OwnT w b0 base v qj := by
 have h1 : vs[j]? = some (vs[j]'(by rw [h.len]; exact hj)) := List.getElem?_eq_getElem _
 have h2 : qs[j]? = some qs[j] := List.getElem?_eq_getElem hj
 exact ⟨_, _, h1, h2, h.fam.own (j + 1) _ (h.zip_at h1 h2)⟩
theorem Mat.form (h : Mat w b0 base V vs R r qs) (hl : 0 < qs.length) : ∃ G c, V = .slice (some ⟨G, 0, none⟩) vs.length c ∧ base ≤ G ∧ G < w.heap.size ∧ (∃ cs, Bk w G 25 cs) ∧ ∀ j v, vs[j]? = some v → w.cell? ⟨G, j, none⟩ = some v := by
 obtain ⟨G, c, hv, hb, hg⟩ := World.ownsRow.form h.out (by rw [h.len]; exact hl)
 subst hv
 refine ⟨G, c, rfl, hb, hg, (own_bk h.out rfl).1, fun j v hj => ?_⟩
 have := h.out.cells (g := G) rfl j v hj
 rwa [add_win, Nat.zero_add] at this
end
end Go.Proofs.YtgjkgkgieeoalaaGreat
