/- Parts of the proof, joined: each theorem says what it shows. -/
import Derived.Test.YtgjkgkgieeoalaaGreatF01
import Derived.Test.YtgjkgkgieeoalaaGreatF18
import Derived.Test.YtgjkgkgieeoalaaGreatF11
import Derived.Test.YtgjkgkgieeoalaaGreatF08
import Derived.Test.YtgjkgkgieeoalaaGreatF10
set_option linter.unusedVariables false
set_option linter.unusedSimpArgs false
set_option maxHeartbeats 24000000
set_option maxRecDepth 100000
namespace Go.Proofs.YtgjkgkgieeoalaaGreat
open Go.RowKit
def fromF (b : Int) : Nat → List Int → Int × List Int
 | v, [] => (0, limbs v)
 | v, d :: ds => if 8 < (limbs (v * b.toNat + d.toNat)).length then (21, []) else fromF b (v * b.toNat + d.toNat) ds
theorem fromF_big {b d : Int} {v : Nat} {ds : List Int} (h : 8 < (limbs (v * b.toNat + d.toNat)).length) : fromF b v (d :: ds) = (21, []) := if_pos h
theorem fromF_go {b d : Int} {v : Nat} {ds : List Int} (h : ¬ 8 < (limbs (v * b.toNat + d.toNat)).length) : fromF b v (d :: ds) = fromF b (v * b.toNat + d.toNat) ds := if_neg h
theorem take_rev {l : List Int} {i : Nat} {d : Int} (h : l[i]? = some d) : (l.take (i + 1)).reverse = d :: (l.take i).reverse := by
 rw [List.take_add_one, h]
 simp
theorem RdI.of_bk1 {w : World} {g : Nat} {x : Int} (h : Bk w g 112 #[.int .u64 x]) : RdI w .u64 (some ⟨g, 0, none⟩) [x] := by
 refine ⟨by simp [ints], fun _ => ⟨_, rfl, h.lt, fun j u hu => ?_⟩⟩
 cases j with
 | zero =>
   simp only [ints, List.map_cons, List.map_nil, List.getElem?_cons_zero, Option.some.injEq] at hu
   subst hu
   rw [show ((⟨g, 0, none⟩ : Addr).add 0) = ⟨g, 0, none⟩ by unfold Addr.add; simp]
   exact h.one
 | succ j => simp [ints] at hu
theorem Bk.new2 (w : World) (o : Obj) (t : TypeId) (cs : Array Value) : Bk ((w.alloc o).alloc (.cells cs t)) (w.heap.size + 1) t cs := by
 have := Bk.new_ (w.alloc o) t cs
 rwa [World.size_alloc] at this
theorem u64_one {x : Int} (h0 : 0 ≤ x) (h1 : x < 18446744073709551616) : U64 [x] := U64.nil.cons h0 h1
theorem val_one1 {x : Int} : val [x] = x.toNat := by simp [val]
theorem ref_From (A : Option Addr) (c : Nat) (l : List Int) (b : Int) (w : World) (h : RdI w .u64 A l) (h9 : l.length ≤ 100000) (hb2 : 2 ≤ b) (hb64 : b < 18446744073709551616) (hd : ∀ d ∈ l, 0 ≤ d ∧ d < b) :
    Calls Tryz.prog 298 #[.slice A l.length c, .int .u64 b] w fun e w' => ∃ v, e = .returned (.tuple #[v, .int .i64 (fromF b 0 l.reverse).1]) ∧ OwnI w' w.heap.size 112 .u64 v (fromF b 0 l.reverse).2 ∧ Below w.heap.size w w' := by
 obtain ⟨E, hE⟩ : ∃ E, fromF b 0 l.reverse = E := ⟨_, rfl⟩
 rw [hE]
 have HE := aa hE
 have HP := aa h
 have HDD := aa hd
 clear hE h hd
 have hb3 : ¬ b < 2 := by omega
 go_enter Tryz.func298, Tryz.ntmps298
 go_wp2_with fail
 go_loop [6] (fun v => ∃ i : Nat, v = .int .i64 i ∧ i ≤ l.length) (fun v => l.length - (intOf v).toNat)
 case atStart => exact ⟨0, rfl, by omega⟩
 case round =>
  obtain ⟨i, rfl, hi⟩ := hrel
  by_cases hlt : i < l.length
  ·have i1 : (i : Int) < l.length := by omega
   have i3 : (0 : Int) ≤ i := by omega
   obtain ⟨ad, x, rfl, _, hx, hc⟩ := HP.out.get hlt
   have hxb : 0 ≤ x ∧ x < b := by
    have h1 := HDD.out (l.getD i 0) (by rw [List.getD_eq_getElem?_getD, ai hlt]; exact List.getElem_mem hlt)
    rw [hx.out] at h1
    exact h1
   have hxb2 : ¬ b ≤ x := by omega
   go_wp2_with fail
   go_round
   case measure => first | (simp [intOf]; done) | (simp [intOf]; omega)
   case rel => exact ⟨i + 1, by go_num, by omega⟩
  have i1 : ¬ (i : Int) < l.length := by omega
  go_wp2_with fail
  have HO0 : Hd (OwnI (w.alloc (.cells #[] 112)) w.heap.size 112 .u64 (.slice (some ⟨w.heap.size, 0, none⟩) 0 0) (limbs 0)) := ⟨by
   rw [limbs_zero]
   exact World.ownsRow_lit (e := 112) (size := 1) w #[] 0 (ae _) (by unfold maxLen; omega) rfl⟩
  go_loopw [7, 8] (fun v7 v8 wr => ∃ (v i : Nat) (x : Int), v8 = .int .i64 x ∧ x = (i : Int) - 1 ∧ i ≤ l.length ∧ Hd (OwnI wr w.heap.size 112 .u64 v7 (limbs v)) ∧ Hd (Below w.heap.size w wr) ∧ Hd (fromF b v (l.take i).reverse = E) ∧ Hd ((limbs v).length ≤ 8)) (fun _ v _ => (intOf v + 1).toNat)
  case atStart => exact ⟨0, l.length, _, rfl, rfl, ae _, HO0, ⟨(ag _ _).alloc (ae _) _⟩, ⟨by rw [List.take_length]; exact HE.out⟩, ⟨by rw [limbs_zero]; simp⟩⟩
  case round =>
   clear HO0 i1
   obtain ⟨v, i, x, rfl, hx, hi, HO, HB, HF, H8⟩ := hrel
   obtain ⟨Ax, cx, rfl, hcx, hmx, hrx⟩ := HO.out.reads
   cases i with
   | zero =>
     have hx0 : ¬ (0 : Int) ≤ x := by omega
     have HT : Hd (E = (0, limbs v)) := ⟨by rw [← HF.out]; rfl⟩
     go_wp2_with fail
     go_ret2
     rw [HT.out]
     exact ⟨_, rfl, HO.out, HB.out⟩
   | succ j =>
     have hx0 : (0 : Int) ≤ x := by omega
     have hxl : x < l.length := by omega
     have hjl : j < l.length := by omega
     have hxj : x = j := by omega
     subst hxj
     obtain ⟨ad, d, rfl, _, hd, hcd⟩ := (HP.out.up HB.out).get hjl
     have e1 : l[j]? = some d := by
      have h1 := hd.out
      rw [List.getD_eq_getElem?_getD, ai hjl] at h1
      rw [ai hjl]
      simpa using h1
     have hdb := HDD.out d (List.mem_of_getElem? e1)
     have HF2 : Hd (fromF b v (d :: (l.take j).reverse) = E) := ⟨by rw [← take_rev e1]; exact HF.out⟩
     clear HF e1 hx
     go_wp2_with fail
     obtain ⟨V1, hV1⟩ : ∃ V1, v * b.toNat = V1 := ⟨_, rfl⟩
     obtain ⟨V2, hV2⟩ : ∃ V2, V1 + d.toNat = V2 := ⟨_, rfl⟩
     have h8v := H8.out
     have hbl : (limbs V1).length ≤ 100 := limbs_len.2 (by
      rw [← hV1]
      have h1 := limbs_len.1 h8v
      have h2 : b.toNat ≤ 18446744073709551616 := by omega
      calc v * b.toNat ≤ v * 18446744073709551616 := Nat.mul_le_mul_left _ h2
       _ < 18446744073709551616 ^ 8 * 18446744073709551616 := Nat.mul_lt_mul_of_pos_right h1 (by omega)
       _ ≤ 18446744073709551616 ^ 100 := by rw [← Nat.pow_succ]; exact Nat.pow_le_pow_right (by omega) (by omega))
     have CM := aa (fun W g (hB : Below wr.heap.size wr W) (hk : Bk W g 112 #[.int .u64 b]) => ref_Mul Ax (some ⟨g, 0, none⟩) cx 1 (limbs v) [b] W (hrx.up hB) hcx (by omega) (RdI.of_bk1 hk) (by simp) (by simp) (limbs_u64 _) (u64_one (by omega) hb64))
     have CA := aa (fun W AX cX g (hB : RdI W .u64 AX (limbs V1)) (hcX : (limbs V1).length ≤ cX) (hk : Bk W g 112 #[.int .u64 d]) => ref_Add AX (some ⟨g, 0, none⟩) cX 1 (limbs V1) [d] W hB hcX (by omega) (RdI.of_bk1 hk) (by simp) (by simp) (limbs_u64 _) (u64_one hdb.1 (by omega)))
     simp only [val_limbs, val_one1, hV1, List.length_cons, List.length_nil, Nat.zero_add] at CM
     simp only [val_limbs, val_one1, hV2, List.length_cons, List.length_nil, Nat.zero_add] at CA
     have SO := aa (fun W (hB : Below wr.heap.size wr W) => af (aa hB) (cell_up hcd hB))
     go_region_held3 (fun W => Hd (Below wr.heap.size wr W) ∧ W.cell? (ad.add j) = some (.int .u64 d))
      (first
       | with_reducible exact SO.out _ (.refl _ _)
       | with_reducible exact SO.out _ (ag _ _).drew
       | with_reducible exact SO.out _ ((ag _ _).alloc (ae _) _).drew
       | with_reducible exact SO.out _ (((ag _ _).alloc (ae _) _).alloc (by simp) _).drew
       | with_reducible exact SO.out _ hB6
       | with_reducible exact SO.out _ hB5
       | with_reducible exact SO.out _ (hB5.alloc hB5.size _)
       | fail)
      (first
       | (go_at_call 259; have hB := ‹Hd (Below wr.heap.size wr _) ∧ _›.1; with_reducible refine (CM.out _ _ hB.out (by first | exact (Bk.new_ _ _ _).d1 | exact ((Bk.new_ _ _ _).al _).d1 | exact (Bk.new2 _ _ _ _).d1)).mono ?_; rintro e w5 ⟨x, rfl, hx, hb⟩
          have hB5 := hB.out.trans (hb.mono hB.out.size)
          have hb5 := hb
          obtain ⟨AX, cX, rfl, hcX, _, hrX⟩ := hx.reads
          have HRX := aa hrX)
       | (go_at_call 258; have hB := ‹Hd (Below wr.heap.size wr _) ∧ _›.1; with_reducible refine (CA.out _ _ _ _ (by first | exact HRX.out | exact HRX.out.up ((ag _ _).alloc (ae _) _)) hcX (by first | exact Bk.new_ _ _ _ | exact (((Bk.new_ wr _ _).al _).d1.up hb5) | exact ((Bk.new2 wr _ _ _).d1.up hb5))).mono ?_; rintro e w6 ⟨y, rfl, hy, hb⟩
          have hB6 := hB.out.trans (hb.mono hB.out.size)
          have HY := aa (hy.low (ah HB.out.size hB.out.size))
          obtain ⟨AY, cY, rfl, hcY, _, _⟩ := hy.reads))
     all_goals
      have HB6 := aa (HB.out.trans (hB6.mono HB.out.size))
      clear CM CA SO hbl h8v
      by_cases hbig : 8 < (limbs V2).length
      ·have hbig' : (8 : Int) < (limbs V2).length := by omega
       have HT : Hd (E = (21, [])) := ⟨by rw [← HF2.out]; exact fromF_big (by rw [hV1, hV2]; exact hbig)⟩
       clear hbig hV1 hV2
       go_wp2_with fail
       go_ret2
       rw [HT.out]
       exact ⟨_, rfl, OwnI.nil _ _ _ _, HB6.out⟩
      ·have hbig' : ¬ (8 : Int) < (limbs V2).length := by omega
       have HT : Hd (fromF b V2 (l.take j).reverse = E) := ⟨by rw [← HF2.out, fromF_go (by rw [hV1, hV2]; exact hbig), hV1, hV2]⟩
       have H82 : Hd ((limbs V2).length ≤ 8) := ⟨by omega⟩
       clear hbig hV1 hV2
       go_wp2_with fail
       go_roundw
       case measure => simp [intOf]
       case rel => exact ⟨V2, j, (j : Int) - 1, rfl, rfl, by omega, HY, HB6, HT, H82⟩
end Go.Proofs.YtgjkgkgieeoalaaGreat
namespace Go.Proofs.YtgjkgkgieeoalaaGreat
open Go.RowKit Go.PlainAid
def digsD (s : ByteArray) (n : Nat) : List Int := (List.range n).map fun i => bt s i - 48
def isDig (s : ByteArray) (i : Nat) : Bool := decide (48 ≤ bt s i) && decide (bt s i ≤ 57)
def numD (s : ByteArray) : Int × List Int :=
 if s.size = 0 ∨ (1 < s.size ∧ bt s 0 = 48) then (40, []) else
 if (List.range s.size).all (isDig s) = false then (40, []) else
 if 200 < s.size then (21, []) else fromF 10 0 (digsD s s.size)
theorem num_parse (s : ByteArray) (w : World) (hs : s.size ≤ maxLen) :
    Calls Tryz.prog 269 #[.string s] w fun e w' => ∃ v, e = .returned (.tuple #[v, .int .i64 (numD s).1]) ∧ OwnI w' w.heap.size 112 .u64 v (numD s).2 ∧ Below w.heap.size w w' := by
 unfold maxLen at hs
 obtain ⟨E, hE⟩ : ∃ E, numD s = E := ⟨_, rfl⟩
 rw [hE]
 have HE := aa hE
 clear hE
 unfold numD at HE
 obtain ⟨i0, hi0, hz0, hz1, hz2⟩ := info_split Tryz.infU64
 by_cases h0 : s.size = 0
 ·have e0 : ((s.size : Int) == 0) = true := by rw [h0]; rfl
  have HT : Hd (E = (40, [])) := ⟨by rw [← HE.out]; exact if_pos (.inl h0)⟩
  clear h0 HE
  go_enter Tryz.func269, Tryz.ntmps269
  go_wp2_with fail
  go_ret2
  rw [HT.out]
  exact ⟨_, rfl, OwnI.nil _ _ _ _, .refl _ _⟩
 have e0 : ((s.size : Int) == 0) = false := by rw [beq_eq_false_iff_ne]; omega
 have hb0 := get_bt s 0 (by omega)
 have h00 : (0 : Int) < s.size := by omega
 have h01 : 0 < s.size := by omega
 by_cases hz : 1 < s.size ∧ bt s 0 = 48
 ·have e1 : (1 : Int) < s.size := by omega
  have e2 : (bt s 0 == 48) = true := by rw [hz.2]; rfl
  have HT : Hd (E = (40, [])) := ⟨by rw [← HE.out]; exact if_pos (.inr hz)⟩
  clear hz HE
  go_enter Tryz.func269, Tryz.ntmps269
  go_wp2_with fail
  go_ret2
  rw [HT.out]
  exact ⟨_, rfl, OwnI.nil _ _ _ _, .refl _ _⟩
 have HE1 := aa (HE.out.symm.trans (if_neg (by omega)))
 clear HE
 by_cases h1 : 1 < s.size
 case' pos =>
  have e1 : (1 : Int) < s.size := by omega
  have e2 : (bt s 0 == 48) = false := by rw [beq_eq_false_iff_ne]; exact fun h => hz ⟨h1, h⟩
  clear hz h1
  go_enter Tryz.func269, Tryz.ntmps269
  go_wp2_with fail
 case' neg =>
  have e1 : ¬ (1 : Int) < s.size := by omega
  clear hz h1
  go_enter Tryz.func269, Tryz.ntmps269
  go_wp2_with fail
 all_goals
  clear h0 hb0 h00 h01
  go_loop [4] (fun v => ∃ i : Nat, v = .int .i64 i ∧ i ≤ s.size ∧ Hd ((List.range i).all (isDig s) = true)) (fun v => s.size - (intOf v).toNat)
  case atStart => exact ⟨0, rfl, by omega, ⟨rfl⟩⟩
  case round =>
   obtain ⟨i, rfl, hi, ha⟩ := hrel
   by_cases hlt : i < s.size
   ·have i1 : (i : Int) < s.size := by omega
    have i3 : (0 : Int) ≤ i := by omega
    have hb := get_bt s i hlt
    have HN : Hd (isDig s i = false → E = (40, [])) := ⟨fun h => by
     rw [HE1.out, if_pos]
     rw [List.all_eq_false]
     exact ⟨i, List.mem_range.2 hlt, by rw [h]; simp⟩⟩
    have HY : Hd (isDig s i = true → (List.range (i + 1)).all (isDig s) = true) := ⟨fun h => by rw [List.range_succ, List.all_append, ha.out, List.all_cons, h]; rfl⟩
    unfold isDig at HN HY
    by_cases h48 : bt s i < 48
    ·have HT := aa (HN.out (by rw [decide_eq_false (by omega)]; rfl))
     go_wp2_with fail
     go_ret2
     rw [HT.out]
     exact ⟨_, rfl, OwnI.nil _ _ _ _, .refl _ _⟩
    by_cases h57 : 57 < bt s i
    ·have HT := aa (HN.out (by rw [decide_eq_false (show ¬ bt s i ≤ 57 by omega), Bool.and_false]))
     go_wp2_with fail
     go_ret2
     rw [HT.out]
     exact ⟨_, rfl, OwnI.nil _ _ _ _, .refl _ _⟩
    ·have HT := aa (HY.out (by rw [decide_eq_true (by omega), decide_eq_true (by omega)]; rfl))
     go_wp2_with fail
     go_round
     case measure => first | (simp [intOf]; done) | (simp [intOf]; omega)
     case rel => exact ⟨i + 1, by go_num, by omega, by unfold isDig; exact HT⟩
   have i1 : ¬ (i : Int) < s.size := by omega
   obtain rfl : i = s.size := by omega
   have HE2 := aa (HE1.out.trans (if_neg (by rw [ha.out]; simp)))
   have HDG : Hd (∀ j, j < s.size → 48 ≤ bt s j ∧ bt s j ≤ 57) := ⟨fun j hj => by
    have h1 := List.all_eq_true.1 ha.out j (List.mem_range.2 hj)
    unfold isDig at h1
    simp only [Bool.and_eq_true, decide_eq_true_eq] at h1
    exact h1⟩
   clear ha HE1
   by_cases h200 : 200 < s.size
   ·have h2 : (200 : Int) < s.size := by omega
    have HT := aa (HE2.out.trans (if_pos h200))
    clear h200
    go_wp2_with fail
    go_ret2
    rw [HT.out]
    exact ⟨_, rfl, OwnI.nil _ _ _ _, .refl _ _⟩
   have h2 : ¬ (200 : Int) < s.size := by omega
   have HE3 := aa (HE2.out.trans (if_neg h200))
   clear h200
   go_wp2_with fail
   have HO0 : Hd (OwnI (w.alloc (.cells #[] 112)) w.heap.size 112 .u64 (.slice (some ⟨w.heap.size, 0, none⟩) 0 0) []) := ⟨World.ownsRow_lit (e := 112) (size := 1) w #[] 0 (ae _) (by unfold maxLen; omega) rfl⟩
   obtain ⟨D, hD⟩ : ∃ D, digsD s s.size = D := ⟨_, rfl⟩
   have hDl : D.length = s.size := by rw [← hD]; simp [digsD]
   have HDat : Hd (∀ j, j < s.size → D[j]? = some (bt s j - 48)) := ⟨fun j hj => by rw [← hD]; unfold digsD; rw [List.getElem?_map, List.getElem?_range hj]; rfl⟩
   rw [hD] at HE3
   have HDL := aa hDl
   clear hD hDl
   go_loopw [5, 6] (fun v5 v6 wr => ∃ (i : Nat) (x : Int) (F : List Int), v6 = .int .i64 x ∧ x = (i : Int) - 1 ∧ i ≤ s.size ∧ Hd (OwnI wr w.heap.size 112 .u64 v5 F) ∧ Hd (Below w.heap.size w wr) ∧ Hd (F = (D.drop i).reverse)) (fun _ v _ => (intOf v + 1).toNat)
   case atStart => exact ⟨s.size, _, [], rfl, rfl, ae _, HO0, ⟨(ag _ _).alloc (ae _) _⟩, ⟨by rw [← HDL.out, List.drop_length]; rfl⟩⟩
   case round =>
    clear HO0 i1
    obtain ⟨i, x, F, rfl, hx, hi, HO, HB, HF⟩ := hrel
    have hFl : F.length ≤ 200 := by rw [HF.out, List.length_reverse, List.length_drop, HDL.out]; omega
    have HFl := aa hFl
    cases i with
    | zero =>
      have hx0 : ¬ (0 : Int) ≤ x := by omega
      obtain ⟨AF, cF, rfl, hcF, _, hrF⟩ := HO.out.reads
      have HFD : Hd (F.reverse = D) := ⟨by rw [HF.out, List.reverse_reverse]; rfl⟩
      have CF := aa (ref_From AF cF F 10 wr hrF (by omega) (by omega) (by omega) (fun d hd => by
       rw [HF.out] at hd
       have hd2 : d ∈ D := List.mem_of_mem_drop (List.mem_reverse.1 hd)
       obtain ⟨j, hj⟩ := List.mem_iff_getElem?.1 hd2
       have hjl : j < s.size := by have := (List.getElem?_eq_some_iff.1 hj).1; have := HDL.out; omega
       rw [HDat.out j hjl] at hj
       injection hj with hj
       have := HDG.out j hjl
       omega))
      rw [HFD.out, ← HE3.out] at CF
      clear hrF HO hx
      go_wp2_with fail
      refine CF.out.mono ?_
      rintro e w4 ⟨v, rfl, ho, hb⟩
      have HO4 := aa (ho.low HB.out.size)
      have HB4 := aa (HB.out.trans (hb.mono HB.out.size))
      clear ho hb CF
      go_wp2_with fail
      go_ret2
      exact ⟨_, rfl, HO4.out, HB4.out⟩
    | succ j =>
      have hx0 : (0 : Int) ≤ x := by omega
      have hxj : x = j := by omega
      subst hxj
      have hjl : j < s.size := by omega
      have j1 : (j : Int) < s.size := by omega
      have hb := get_bt s j hjl
      have hdg := HDG.out j hjl
      have HAT := HDat.out j hjl
      have HF2 : Hd (F ++ [bt s j - 48] = (D.drop j).reverse) := ⟨by
       have hj2 : j < D.length := by rw [HDL.out]; exact hjl
       rw [HF.out, List.drop_eq_getElem_cons hj2]
       rw [ai hj2] at HAT
       injection HAT with HAT
       rw [HAT, List.reverse_cons]⟩
      obtain ⟨X, hX⟩ : ∃ X, bt s j - 48 = X := ⟨_, rfl⟩
      have r1 : IntKind.u8.wrap (bt s j - 48) = X := by rw [IntKind.wrap_u8]; omega
      have r2 : IntKind.u64.wrap X = X := by rw [IntKind.wrap_u64]; omega
      rw [hX] at HF2
      have OO := aa (HO.out.al (.cells #[.int .u64 X] 112))
      have RN := aa (Rd.new_ wr #[.int .u64 X] 112 1 1 rfl)
      have BB := aa (HB.out.alloc HB.out.size (.cells #[.int .u64 X] 112))
      have XS := aa BB.out.size
      have x63 : F.length + 1 ≤ maxLen := by unfold maxLen; omega
      have xby : (F.length + 1) * 8 ≤ 140737488355328 := by omega
      clear HAT hX hx hdg
      go_wp2_with (at_builtin; refine wpList_append_rd _ rfl _ _ 61 rfl w.heap.size 112 i0 (.int .u64 0) 1 8 Tryz.slU64 hi0 hz0 hz1 hz2 rfl (by decide) _ F.length (ints .u64 F) rfl OO.out _ _ 1 _ (ints .u64 [X]) rfl RN.out (ints_one _ _) x63 xby XS.out ?_)
      intro v' w6 ho6 hg6 _
      have O6 := aa (show OwnI w6 w.heap.size 112 .u64 v' (F ++ [X]) from by unfold OwnI; rw [List.length_append, ints_app]; exact ho6)
      have B6 := aa (grown_below OO.out hg6 BB.out XS.out)
      clear ho6 hg6
      go_wp2_with fail
      go_roundw
      case measure => simp [intOf]
      case rel => exact ⟨j, _, _, rfl, rfl, by omega, O6, B6, HF2⟩
def runF (s : ByteArray) : Nat → Nat → Nat
 | 0, k => k
 | n + 1, k => if k < s.size ∧ isDig s k = true then runF s n (k + 1) else k
def runD (s : ByteArray) (k : Nat) : Nat := runF s (s.size - k) k
theorem runF_ge (s : ByteArray) : ∀ (n k : Nat), k ≤ runF s n k ∧ runF s n k ≤ max k s.size
 | 0, k => ⟨ae _, by simp [runF]; omega⟩
 | n + 1, k => by
   unfold runF
   split
   ·rename_i h
    have := runF_ge s n (k + 1)
    omega
   ·omega
theorem runD_le {s : ByteArray} {k : Nat} (h : k ≤ s.size) : k ≤ runD s k ∧ runD s k ≤ s.size := by have := runF_ge s (s.size - k) k; unfold runD; omega
theorem runD_go {s : ByteArray} {k : Nat} (h : k < s.size) (hb : isDig s k = true) : runD s k = runD s (k + 1) := by
 unfold runD
 rw [show s.size - k = (s.size - (k + 1)) + 1 by omega]
 conv => lhs; unfold runF
 rw [if_pos ⟨h, hb⟩]
theorem runD_end {s : ByteArray} {k : Nat} (h : ¬ (k < s.size ∧ isDig s k = true)) : runD s k = k := by
 unfold runD
 cases s.size - k with
 | zero => rfl
 | succ n => exact if_neg h
def numberK (s : ByteArray) (k : Nat) : Nat := runD s (skipD s k)
def numberS (s : ByteArray) (k : Nat) : ByteArray := s.extract (skipD s k) (numberK s k)
theorem numberK_le {s : ByteArray} {k : Nat} (h : k ≤ s.size) : numberK s k ≤ s.size := (runD_le (skipD_le h)).2
theorem text_number (s : ByteArray) (k g : Nat) (bad : Bool) (w : World) (hk : Bk w g 244 (tx s k bad)) (hs : s.size ≤ maxLen) (hks : k ≤ s.size) :
    Calls Tryz.prog 315 #[.pointer (some ⟨g, 0, none⟩)] w fun e w' => e = .returned (.string (numberS s k)) ∧ Bk w' g 244 (tx s (numberK s k) (bad || (numD (numberS s k)).1 == 40)) ∧ w.grownBy w' (some g) := by
 have CS := aa (text_skip s k g bad w hk hs hks)
 have hle := skipD_le hks
 have CP := aa (fun W => num_parse (numberS s k) W (by
  unfold numberS
  rw [ByteArray.size_extract]
  have := numberK_le hks
  omega))
 unfold maxLen at hs
 obtain ⟨NS, hNS⟩ : ∃ NS, numberS s k = NS := ⟨_, rfl⟩
 obtain ⟨NK, hNK⟩ : ∃ NK, numberK s k = NK := ⟨_, rfl⟩
 have HNS := aa hNS
 have HNK := aa hNK
 unfold numberS at HNS
 rw [hNK] at HNS
 unfold numberK at HNK
 rw [hNS, hNK]
 rw [hNS] at CP
 obtain ⟨f, hf⟩ : ∃ f, skipD s k = f := ⟨_, rfl⟩
 rw [hf] at CS hle HNS HNK
 have hfn : f ≤ NK ∧ NK ≤ s.size := by rw [← HNK.out]; exact runD_le hle
 clear hk hf hks hNS hNK
 go_enter Tryz.func315, Tryz.ntmps315
 go_wp2_with fail
 refine CS.out.mono ?_
 rintro e w2 ⟨rfl, hB, hG⟩
 have HB := aa hB
 have HG := aa hG
 obtain ⟨q0, q1, q2⟩ := hB.three
 clear CS hB hG
 go_wp2_with fail
 go_loopg [16] (s.size - f) (fun n _ wr => ∃ i : Nat, n = s.size - i ∧ i ≤ s.size ∧ Hd (Bk wr g 244 (tx s i bad)) ∧ Hd (w.grownBy wr (some g)) ∧ Hd (runD s i = NK))
 case atStart => exact ⟨f, rfl, hle, HB, HG, HNK⟩
 case round =>
  clear q0 q1 q2 HB HG HNK
  obtain ⟨i, hn, hi, HB, HG, HE⟩ := hrel
  obtain ⟨q0, q1, q2⟩ := HB.out.three
  have fz := fun i => HB.out.froz i
  by_cases hlt : i < s.size
  ·have i1 : (i : Int) < s.size := by omega
   have i0 : (0 : Int) ≤ i := by omega
   have hb := get_bt s i hlt
   have CD := aa (ref_digit (bt s i))
   cases hdg : isDig s i
   ·have HN : Hd (i = NK) := ⟨by rw [← HE.out]; exact (runD_end (fun h => by rw [hdg] at h; exact absurd h.2 (by simp))).symm⟩
    unfold isDig at hdg
    rw [hdg] at CD
    clear hdg
    go_wp2_with fail
    go_quiet ((go_at_call 322; first | exact quiet_two CD.out | exact quiet_one CD.out))
    go_wp2_with fail
    obtain rfl : i = NK := HN.out
    have hx := HNS.out
    have f0 : f ≤ i := by omega
    go_quiet (fail)
    go_wp2_with fail
    refine (CP.out _).mono ?_
    rintro e w5 ⟨v, rfl, ho, hb5⟩
    obtain ⟨Av, cv, rfl, -, -, -⟩ := ho.reads
    have HB5 := aa ((HB.out.dn _).up hb5)
    have HG5 := aa (gb_trans (gb_dn HG.out _) (gb_of hb5))
    have fz5 := fun i => HB5.out.froz i
    obtain ⟨p0, p1, p2⟩ := HB5.out.three
    clear ho hb5 CP hx
    by_cases h40 : (numD NS).1 = 40
    ·have e40 : ((numD NS).1 == 40) = true := by rw [h40]; rfl
     have HE40 := aa e40
     clear h40
     go_wp2_with fail
     go_ret
     rw [HE40.out, Bool.or_true]
     exact ⟨rfl, HB5.out.set_ 2 _, HG5.out.set 2 _⟩
    ·have e40 : ((numD NS).1 == 40) = false := by rw [beq_eq_false_iff_ne]; exact h40
     have HE40 := aa e40
     clear h40
     go_wp2_with fail
     go_ret
     rw [HE40.out, Bool.or_false]
     exact ⟨rfl, HB5.out, HG5.out⟩
   ·have HN : Hd (runD s (i + 1) = NK) := ⟨by rw [← HE.out]; exact (runD_go hlt hdg).symm⟩
    unfold isDig at hdg
    rw [hdg] at CD
    clear hdg
    go_wp2_with fail
    go_quiet ((go_at_call 322; first | exact quiet_two CD.out | exact quiet_one CD.out))
    go_wp2_with fail
    go_roundg (s.size - (i + 1))
    case measure => omega
    case rel => exact ⟨i + 1, rfl, by omega, ⟨(HB.out.dn _).set_ 1 _⟩, ⟨(gb_dn HG.out _).set 1 _⟩, HN⟩
  ·have i1 : ¬ (i : Int) < s.size := by omega
   have HN : Hd (i = NK) := ⟨by rw [← HE.out]; exact (runD_end (fun h => hlt h.1)).symm⟩
   go_wp2_with fail
   go_quiet (fail)
   go_wp2_with fail
   obtain rfl : i = NK := HN.out
   have hx := HNS.out
   have f0 : f ≤ i := by omega
   go_quiet (fail)
   go_wp2_with fail
   refine (CP.out _).mono ?_
   rintro e w5 ⟨v, rfl, ho, hb5⟩
   obtain ⟨Av, cv, rfl, -, -, -⟩ := ho.reads
   have HB5 := aa ((HB.out.dn _).up hb5)
   have HG5 := aa (gb_trans (gb_dn HG.out _) (gb_of hb5))
   have fz5 := fun i => HB5.out.froz i
   obtain ⟨p0, p1, p2⟩ := HB5.out.three
   clear ho hb5 CP hx
   by_cases h40 : (numD NS).1 = 40
   ·have e40 : ((numD NS).1 == 40) = true := by rw [h40]; rfl
    have HE40 := aa e40
    clear h40
    go_wp2_with fail
    go_ret
    rw [HE40.out, Bool.or_true]
    exact ⟨rfl, HB5.out.set_ 2 _, HG5.out.set 2 _⟩
   ·have e40 : ((numD NS).1 == 40) = false := by rw [beq_eq_false_iff_ne]; exact h40
    have HE40 := aa e40
    clear h40
    go_wp2_with fail
    go_ret
    rw [HE40.out, Bool.or_false]
    exact ⟨rfl, HB5.out, HG5.out⟩
theorem gb_set {w w' : World} {row : Option Nat} (h : w.grownBy w' row) {g : Nat} (hg : w.heap.size ≤ g) (i : Nat) (u : Value) : w.grownBy (w'.setCell ⟨g, i, none⟩ u) row :=
 ⟨h.os, h.tape, h.output, by simpa using h.size, fun b hb hne => (Below.heap_setCell w' ⟨g, i, none⟩ u b (fun e => by subst e; exact absurd hb (Nat.not_lt.2 hg))).trans (h.block b hb hne)⟩
theorem set3_grown' (w : World) (g : Nat) (x y z : Value) : w.grownBy (((w.setCell ⟨g, 0, none⟩ x).setCell ⟨g, 1, none⟩ y).setCell ⟨g, 2, none⟩ z) (some g) := ((set_grown w ⟨g, 0, none⟩ x).set 1 y).set 2 z
structure FacD where
 var : Int
 up : ByteArray
 down : ByteArray
def FacD.v (f : FacD) : Array Value := #[.int .i64 f.var, .string f.up, .string f.down]
def badN (s : ByteArray) (k : Nat) : Bool := (numD (numberS s k)).1 == 40
def oneS : ByteArray := ⟨#[49]⟩
def factorD (s : ByteArray) (k : Nat) (bad : Bool) : FacD × Nat × Bool :=
 let k1 := skipD s k
 let c := bt s k1
 if 0 ≤ varD c then
  let k2 := eatK s k1 c
  let k3 := eatK s k2 94
  if eatB s k2 94 = true then (⟨varD c, numberS s k3, ⟨#[]⟩⟩, numberK s k3, bad || badN s k3) else (⟨varD c, oneS, ⟨#[]⟩⟩, k3, bad)
 else
  let k2 := numberK s k1
  let b2 := bad || badN s k1
  let k3 := eatK s k2 47
  if eatB s k2 47 = true then (⟨-1, numberS s k1, numberS s k3⟩, numberK s k3, b2 || badN s k3) else (⟨-1, numberS s k1, ⟨#[]⟩⟩, k3, b2)
theorem Tryz.stFac : isStruct (Tryz.prog.underlying 292) = true := by kernel_rfl
theorem Tryz.szFac : (Tryz.prog.info? 292).map (·.size) = some 3 := by kernel_rfl
theorem res_fac {fn : Func} {p : Tmp} (h : fn.results = #[.cell p 292]) (tmps : Array Value) (w : World) (g : Nat) (cs : Array Value) (hp : tmps.getD p undef = .pointer (some ⟨g, 0, none⟩)) (hk : Bk w g 292 cs) (hc : cs.size = 3) :
    (results fn tmps).run Tryz.prog w = .ok (.agg cs) w := by
 obtain ⟨f, h1⟩ := st_of Tryz.stFac
 exact results_cell_row h tmps w g _ cs (0, 0) (.struct f) hp hk h1 rfl (by rw [hc]; exact Tryz.szFac)
theorem text_factor (s : ByteArray) (k g : Nat) (bad : Bool) (w : World) (hk : Bk w g 244 (tx s k bad)) (hs : s.size ≤ maxLen) (hks : k ≤ s.size) :
    Calls Tryz.prog 296 #[.pointer (some ⟨g, 0, none⟩)] w fun e w' => e = .returned (.agg (factorD s k bad).1.v) ∧ Bk w' g 244 (tx s (factorD s k bad).2.1 (factorD s k bad).2.2) ∧ w.grownBy w' (some g) := by
 obtain ⟨E, hE⟩ : ∃ E, factorD s k bad = E := ⟨_, rfl⟩
 rw [hE]
 have HE := aa hE
 clear hE
 unfold factorD at HE
 dsimp only at HE
 have HK := aa hk
 have hgl := hk.lt
 have CX := aa (fun W (hW : Bk W g 244 (tx s k bad)) => text_next s k g bad W hW hs hks)
 have h1 := skipD_le hks
 obtain ⟨k1, hk1⟩ : ∃ k1, skipD s k = k1 := ⟨_, rfl⟩
 rw [hk1] at CX h1 HE
 obtain ⟨c, hc⟩ : ∃ c, bt s k1 = c := ⟨_, rfl⟩
 rw [hc] at CX HE
 have CV := aa (ref_variable c)
 obtain ⟨V, hV⟩ : ∃ V, varD c = V := ⟨_, rfl⟩
 rw [hV] at CV HE
 clear hk hk1 hc hV
 go_enter Tryz.func296, Tryz.ntmps296
 go_upto_region 1 with (fail)
 refine wp_gen (fun W => Bk W g 244 (tx s k bad) ∧ Bk W w.heap.size 292 #[.int .i64 0, .string ⟨#[]⟩, .string ⟨#[]⟩] ∧ w.grownBy W (some g)) ⟨HK.out.al _, Bk.new_ _ _ _, gb_of ((ag _ _).alloc (ae _) _)⟩ ?_
 intro W hW
 have hne : some w.heap.size ≠ some g := fun e => by injection e with e; omega
 obtain ⟨gr, hgr⟩ : ∃ gr, w.heap.size = gr := ⟨_, rfl⟩
 have HGR : Hd (w.heap.size ≤ gr ∧ some gr ≠ some g) := ⟨by omega, by rw [← hgr]; exact hne⟩
 rw [hgr] at hW ⊢
 have HB := aa hW.out.1
 have HR := aa hW.out.2.1
 have HG := aa hW.out.2.2
 clear hW hgr hne hgl HK
 go_wp2_with fail
 refine (CX.out _ HB.out).mono ?_
 rintro e w2 ⟨rfl, hb2, hg2⟩
 have HB2 := aa hb2
 have HR2 := aa (HR.out.grown hg2 HGR.out.2)
 have HG2 := aa (gb_trans HG.out hg2)
 clear hb2 hg2 HB HR HG CX
 go_wp2_with fail
 refine (CV.out _).mono ?_
 rintro e w3 ⟨rfl, rfl⟩
 by_cases hv : 0 ≤ V
 ·have HE1 := aa (HE.out.symm.trans (if_pos hv))
  clear HE
  have CE := aa (text_eat s k1 g bad c w2 HB2.out hs h1)
  have h2 := eatK_le (c := c) h1
  obtain ⟨k2, hk2⟩ : ∃ k2, eatK s k1 c = k2 := ⟨_, rfl⟩
  rw [hk2] at CE h2 HE1
  clear hk2
  go_wp2_with fail
  refine CE.out.mono ?_
  rintro e w4 ⟨rfl, hb4, hg4⟩
  have HB4 := aa hb4
  have HR4 := aa (HR2.out.grown hg4 HGR.out.2)
  have HG4 := aa (gb_trans HG2.out hg4)
  clear hb4 hg4 HB2 HR2 HG2 CE
  have CE := aa (text_eat s k2 g bad 94 w4 HB4.out hs h2)
  have h3 := eatK_le (c := 94) h2
  obtain ⟨k3, hk3⟩ : ∃ k3, eatK s k2 94 = k3 := ⟨_, rfl⟩
  obtain ⟨B, hB⟩ : ∃ B, eatB s k2 94 = B := ⟨_, rfl⟩
  rw [hk3, hB] at CE
  rw [hk3] at h3
  rw [hk3, hB] at HE1
  clear hk3 hB
  cases B
  ·have HE2 := aa (HE1.out.trans (if_neg (by simp)))
   clear HE1
   go_wp2_with fail
   refine CE.out.mono ?_
   rintro e w5 ⟨rfl, hb5, hg5⟩
   have HB5 := aa hb5
   have HR5 := aa (HR4.out.grown hg5 HGR.out.2)
   have HG5 := aa (gb_trans HG4.out hg5)
   obtain ⟨r0, r1, r2⟩ := HR5.out.three
   have fz := fun i => HR5.out.froz i
   clear hb5 hg5 HB4 HR4 HG4 CE
   go_wp2_with fail
   refine bodyPost_ret (res_fac rfl _ _ gr _ rfl (HR5.out.set3 _ _ _) rfl) rfl ?_
   rw [HE2.out]
   exact ⟨rfl, HB5.out.grown (set3_grown' _ gr _ _ _) (fun e => HGR.out.2 e.symm), gb_set (gb_set (gb_set HG5.out HGR.out.1 _ _) HGR.out.1 _ _) HGR.out.1 _ _⟩
  ·have HE2 := aa (HE1.out.trans (if_pos rfl))
   clear HE1
   go_wp2_with fail
   refine CE.out.mono ?_
   rintro e w5 ⟨rfl, hb5, hg5⟩
   have HB5 := aa hb5
   have HR5 := aa (HR4.out.grown hg5 HGR.out.2)
   have HG5 := aa (gb_trans HG4.out hg5)
   clear hb5 hg5 HB4 HR4 HG4 CE
   have CN := aa (text_number s k3 g bad w5 HB5.out hs h3)
   go_wp2_with fail
   refine CN.out.mono ?_
   rintro e w6 ⟨rfl, hb6, hg6⟩
   have HB6 := aa hb6
   have HR6 := aa (HR5.out.grown hg6 HGR.out.2)
   have HG6 := aa (gb_trans HG5.out hg6)
   obtain ⟨r0, r1, r2⟩ := HR6.out.three
   have fz := fun i => HR6.out.froz i
   clear hb6 hg6 HB5 HR5 HG5 CN
   go_wp2_with fail
   refine bodyPost_ret (res_fac rfl _ _ gr _ rfl (HR6.out.set3 _ _ _) rfl) rfl ?_
   rw [HE2.out]
   exact ⟨rfl, HB6.out.grown (set3_grown' _ gr _ _ _) (fun e => HGR.out.2 e.symm), gb_set (gb_set (gb_set HG6.out HGR.out.1 _ _) HGR.out.1 _ _) HGR.out.1 _ _⟩
 ·have HE1 := aa (HE.out.symm.trans (if_neg hv))
  clear HE
  have hneg : V < 0 := by omega
  have CN := aa (text_number s k1 g bad w2 HB2.out hs h1)
  have h2 := numberK_le h1
  obtain ⟨k2, hk2⟩ : ∃ k2, numberK s k1 = k2 := ⟨_, rfl⟩
  obtain ⟨S1, hS1⟩ : ∃ S1, numberS s k1 = S1 := ⟨_, rfl⟩
  obtain ⟨b2, hb2'⟩ : ∃ b2, (bad || badN s k1) = b2 := ⟨_, rfl⟩
  have HB2' := aa hb2'
  unfold badN at HB2'
  rw [hk2] at CN h2
  rw [HB2'.out, hS1] at CN
  rw [hk2, hb2', hS1] at HE1
  clear hk2 hS1 hb2' HB2'
  go_wp2_with fail
  refine CN.out.mono ?_
  rintro e w4 ⟨rfl, hb4, hg4⟩
  have HB4 := aa hb4
  have HR4 := aa (HR2.out.grown hg4 HGR.out.2)
  have HG4 := aa (gb_trans HG2.out hg4)
  clear hb4 hg4 HB2 HR2 HG2 CN
  have CE := aa (text_eat s k2 g b2 47 w4 HB4.out hs h2)
  have h3 := eatK_le (c := 47) h2
  obtain ⟨k3, hk3⟩ : ∃ k3, eatK s k2 47 = k3 := ⟨_, rfl⟩
  obtain ⟨B, hB⟩ : ∃ B, eatB s k2 47 = B := ⟨_, rfl⟩
  rw [hk3, hB] at CE
  rw [hk3] at h3
  rw [hk3, hB] at HE1
  clear hk3 hB
  cases B
  ·have HE2 := aa (HE1.out.trans (if_neg (by simp)))
   clear HE1
   go_wp2_with fail
   refine CE.out.mono ?_
   rintro e w5 ⟨rfl, hb5, hg5⟩
   have HB5 := aa hb5
   have HR5 := aa (HR4.out.grown hg5 HGR.out.2)
   have HG5 := aa (gb_trans HG4.out hg5)
   obtain ⟨r0, r1, r2⟩ := HR5.out.three
   have fz := fun i => HR5.out.froz i
   clear hb5 hg5 HB4 HR4 HG4 CE
   go_wp2_with fail
   refine bodyPost_ret (res_fac rfl _ _ gr _ rfl (HR5.out.set3 _ _ _) rfl) rfl ?_
   rw [HE2.out]
   exact ⟨rfl, HB5.out.grown (set3_grown' _ gr _ _ _) (fun e => HGR.out.2 e.symm), gb_set (gb_set (gb_set HG5.out HGR.out.1 _ _) HGR.out.1 _ _) HGR.out.1 _ _⟩
  ·have HE2 := aa (HE1.out.trans (if_pos rfl))
   clear HE1
   go_wp2_with fail
   refine CE.out.mono ?_
   rintro e w5 ⟨rfl, hb5, hg5⟩
   have HB5 := aa hb5
   have HR5 := aa (HR4.out.grown hg5 HGR.out.2)
   have HG5 := aa (gb_trans HG4.out hg5)
   clear hb5 hg5 HB4 HR4 HG4 CE
   have CN := aa (text_number s k3 g b2 w5 HB5.out hs h3)
   go_wp2_with fail
   refine CN.out.mono ?_
   rintro e w6 ⟨rfl, hb6, hg6⟩
   have HB6 := aa hb6
   have HR6 := aa (HR5.out.grown hg6 HGR.out.2)
   have HG6 := aa (gb_trans HG5.out hg6)
   obtain ⟨r0, r1, r2⟩ := HR6.out.three
   have fz := fun i => HR6.out.froz i
   clear hb6 hg6 HB5 HR5 HG5 CN
   go_wp2_with fail
   refine bodyPost_ret (res_fac rfl _ _ gr _ rfl (HR6.out.set3 _ _ _) rfl) rfl ?_
   rw [HE2.out]
   exact ⟨rfl, HB6.out.grown (set3_grown' _ gr _ _ _) (fun e => HGR.out.2 e.symm), gb_set (gb_set (gb_set HG6.out HGR.out.1 _ _) HGR.out.1 _ _) HGR.out.1 _ _⟩
end Go.Proofs.YtgjkgkgieeoalaaGreat
