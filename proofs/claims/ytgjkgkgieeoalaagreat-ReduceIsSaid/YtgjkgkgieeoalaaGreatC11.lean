/- Parts of the proof, joined: each theorem says what it shows. -/
import Derived.Test.YtgjkgkgieeoalaaGreatC10
import Derived.IntWalk
set_option linter.unusedVariables false
set_option linter.unusedSimpArgs false
set_option maxHeartbeats 24000000
set_option maxRecDepth 100000
namespace Go.Proofs.YtgjkgkgieeoalaaGreat
open Go.RowKit
theorem own_form_I {w : World} {base : Nat} {e : TypeId} {k : IntKind} {v : Value} {l : List Int} (h : OwnI w base e k v l) (h0 : 0 < l.length) : ∃ g c, v = .slice (some ⟨g, 0, none⟩) l.length c ∧ base ≤ g ∧ g < w.heap.size := by
 obtain ⟨g, c, x, rfl, h1, h2, _⟩ := h.cell h0
 exact ⟨g, c, rfl, h1, h2⟩
theorem OwnI.cellAt {w : World} {base : Nat} {e : TypeId} {k : IntKind} {g n c : Nat} {l : List Int} (h : OwnI w base e k (.slice (some ⟨g, 0, none⟩) n c) l) {i : Nat} (hi : i < l.length) : w.cell? ⟨g, i, none⟩ = some (.int k (l.getD i 0)) ∧ ∀ j, w.frozen? ⟨g, j, none⟩ = false := by
 obtain ⟨g', c', x, hv, _, _, hx, hc, hf, _⟩ := h.cell hi
 injection hv with hv1 hv2 hv3
 injection hv1 with hv1
 injection hv1 with hv1
 subst hv1 hv2 hv3
 exact ⟨by rw [hx.out]; exact hc, fun j => World.ownsRow.frozenAt h j⟩
theorem ref_Mul (A B : Option Addr) (c d : Nat) (l m : List Int) (w : World) (h : RdI w .u64 A l) (hn : l.length ≤ c) (h9 : l.length ≤ 100000) (h' : RdI w .u64 B m) (hn' : m.length ≤ d) (h9' : m.length ≤ 100000) (hu : U64 l) (hu' : U64 m) :
    Calls Tryz.prog 259 #[.slice A l.length c, .slice B m.length d] w fun e w' => ∃ v, e = .returned v ∧ OwnI w' w.heap.size 112 .u64 v (limbs (val l * val m)) ∧ Below w.heap.size w w' := by
 obtain ⟨i0, hi0, hz0, hz1, hz2⟩ := info_split Tryz.infU64
 have D1 := Hd.mk (ref_Digits A c l w h hn (by omega) hu)
 have D2 := Hd.mk (fun W hW => ref_Digits B d m W (h'.up hW) hn' (by omega) hu')
 have HH : Hd (H32 (digs l) ∧ H32 (digs m)) := ⟨digs_h32 hu, digs_h32 hu'⟩
 have HVV : Hd (v32 (digs l) = val l ∧ v32 (digs m) = val m) := ⟨digs_val hu, digs_val hu'⟩
 have hX1 := digs_len l
 have hY1 := digs_len m
 obtain ⟨X, hX⟩ : ∃ X, digs l = X := ⟨_, rfl⟩
 obtain ⟨Y, hY⟩ : ∃ Y, digs m = Y := ⟨_, rfl⟩
 rw [hX] at D1 HH HVV hX1
 rw [hY] at D2 HH HVV hY1
 have hX9 : X.length ≤ 200000 := by omega
 have hY9 : Y.length ≤ 200000 := by omega
 clear h h' hu hu' hX hY hX1 hY1
 go_enter Tryz.func259, Tryz.ntmps259
 go_wp2_with fail
 refine D1.out.mono ?_
 rintro e w1 ⟨v1, rfl, ho1, hb1⟩
 obtain ⟨A1, c1, rfl, hc1, _, hr1⟩ := ho1.reads
 have HX := Hd.mk hr1
 have D3 := Hd.mk (D2.out w1 hb1)
 have B1 := Hd.mk hb1
 clear ho1 hr1 hb1 D1 D2
 go_wp2_with fail
 refine D3.out.mono ?_
 rintro e w2 ⟨v2, rfl, ho2, hb2⟩
 obtain ⟨A2, c2, rfl, hc2, _, hr2⟩ := ho2.reads
 have HY := Hd.mk hr2
 have BX := Hd.mk hb2
 have BX2 := Hd.mk (B1.out.trans (hb2.mono B1.out.size))
 clear ho2 hr2 hb2 D3
 have HO0 := Hd.mk (show OwnI (w2.alloc (.cells #[] 112)) w2.heap.size 112 .u64 (.slice (some ⟨w2.heap.size, 0, none⟩) 0 0) [] from World.ownsRow_lit w2 #[] 0 (Nat.le_refl _) (by unfold maxLen; omega) rfl)
 obtain ⟨N, hN⟩ : ∃ N, N = X.length + Y.length + 1 := ⟨_, rfl⟩
 have hN9 : N ≤ 400001 := by omega
 have HN := Hd.mk hN
 clear hN
 go_wp2_with fail
 go_loopw [7, 8] (fun v7 v8 wr => ∃ i : Nat, v8 = .int .i64 i ∧ i ≤ N ∧ Hd (OwnI wr w2.heap.size 112 .u64 v7 (List.replicate i 0)) ∧ Hd (Below w2.heap.size w2 wr)) (fun _ v _ => N - (intOf v).toNat)
 case atStart => exact ⟨0, rfl, by omega, HO0, ⟨(Below.refl _ _).alloc (Nat.le_refl _) _⟩⟩
 case round =>
  obtain ⟨i, rfl, hi, ho, hb⟩ := hrel
  by_cases hlt : i < N
  ·have t1 : (i : Int) < (X.length : Int) + Y.length + 1 := by have := HN.out; omega
   obtain ⟨F, hF⟩ : ∃ F, List.replicate i (0 : Int) = F := ⟨_, rfl⟩
   have HF : Hd (F ++ [0] = List.replicate (i + 1) 0) := ⟨by rw [← hF, List.replicate_succ']⟩
   have hFl : F.length ≤ 400001 := by rw [← hF, List.length_replicate]; omega
   rw [hF] at ho
   clear hF
   have OO := Hd.mk (ho.out.al (.cells #[.int .u64 0] 112))
   have RN := Hd.mk (Rd.new_ wr #[.int .u64 0] 112 1 1 rfl)
   have BB := Hd.mk (hb.out.alloc hb.out.size (.cells #[.int .u64 0] 112))
   have XS := Hd.mk BB.out.size
   have x63 : F.length + 1 ≤ maxLen := by unfold maxLen; omega
   have xby : (F.length + 1) * 8 ≤ 140737488355328 := by omega
   go_wp2_with (at_builtin; refine wpList_append_rd _ rfl _ _ 61 rfl w2.heap.size 112 i0 (.int .u64 0) 1 8 Tryz.slU64 hi0 hz0 hz1 hz2 rfl (by decide) _ F.length (ints .u64 F) rfl OO.out _ _ 1 _ (ints .u64 [0]) rfl RN.out (ints_one _ _) x63 xby XS.out ?_)
   intro v' w6 ho6 hg6 _
   have O6 := Hd.mk (show OwnI w6 w2.heap.size 112 .u64 v' (F ++ [0]) from by unfold OwnI; rw [List.length_append, ints_app]; exact ho6)
   have B6 := Hd.mk (grown_below OO.out hg6 BB.out XS.out)
   clear ho6 hg6
   go_wp2_with fail
   go_roundw
   case measure => first | (simp [intOf]; done) | (simp [intOf]; omega)
   case rel => exact ⟨i + 1, by go_num, by omega, ⟨by rw [← HF.out]; exact O6.out⟩, B6⟩
  ·have hie : i = N := by omega
   subst hie
   have t1 : ¬ (i : Int) < (X.length : Int) + Y.length + 1 := by have := HN.out; omega
   obtain ⟨g, cap, rfl, hg1, hg2⟩ := own_form_I ho.out (by rw [List.length_replicate]; have := HN.out; omega)
   rw [List.length_replicate]
   rw [List.length_replicate] at ho
   clear hlt hi
   have B0 := Hd.mk hb.out
   go_wp2_with fail
   go_loopw [9] (fun v9 wr => ∃ (a : Nat) (O : List Int), v9 = .int .i64 a ∧ a ≤ X.length ∧ O.length = i ∧ Hd (OwnI wr w2.heap.size 112 .u64 (.slice (some ⟨g, 0, none⟩) i cap) O) ∧ Hd (H32 O) ∧ Hd (v32 O = v32 (X.take a) * v32 Y) ∧ Hd (Below w2.heap.size w2 wr)) (fun v _ => X.length - (intOf v).toNat)
   case atStart => exact ⟨0, List.replicate i 0, rfl, by omega, by simp, ho, ⟨fun x h => by rw [List.eq_of_mem_replicate h]; omega⟩, ⟨by rw [v32_zeros]; simp [v32]⟩, B0⟩
   case round =>
    obtain ⟨a, O, rfl, ha, hOl, hO, hO32, hOv, hbO⟩ := hrel
    by_cases hax : a < X.length
    ·have a1 : (a : Int) < X.length := by omega
     have a2 : (0 : Int) ≤ a := by omega
     have HOl := Hd.mk hOl
     clear hOl
     go_wp2_with fail
     go_loopw [10, 11] (fun v10 v11 wr => ∃ (k : Nat) (P : List Int) (cy : Int), v11 = .int .i64 k ∧ v10 = .int .u64 cy ∧ k ≤ Y.length + 1 ∧ Hd (P.length = i) ∧ Hd (OwnI wr w2.heap.size 112 .u64 (.slice (some ⟨g, 0, none⟩) i cap) P) ∧ Hd (H32 P) ∧ Hd (0 ≤ cy ∧ cy < 4294967296) ∧
      Hd (v32 P + 4294967296 ^ (a + k) * cy.toNat = v32 (X.take a) * v32 Y + 4294967296 ^ a * ((X.getD a 0).toNat * v32 (Y.take k))) ∧ Hd (Below w2.heap.size w2 wr)) (fun _ v _ => Y.length + 2 - (intOf v).toNat)
     case atStart => exact ⟨0, O, 0, rfl, rfl, by omega, HOl, hO, hO32, ⟨by omega⟩, ⟨by rw [hOv.out]; simp [v32]⟩, hbO⟩
     case round =>
      obtain ⟨k, P, cy, rfl, rfl, hk, hPl, hP, hP32, hcy, hPv, hbP⟩ := hrel
      have k0 : (0 : Int) ≤ k := by omega
      by_cases hky : k < Y.length
      ·have k1 : (k : Int) < Y.length := by omega
       obtain ⟨ad, x, hA, _, hx, hcx⟩ := (HX.out.up (BX.out.trans (hbP.out.mono BX.out.size))).get hax
       subst hA
       have hlt' : a + k < P.length := by have := HN.out; have := hPl.out; omega
       obtain ⟨hco, hfr⟩ := hP.out.cellAt hlt'
       obtain ⟨o, ho'⟩ : ∃ o, P.getD (a + k) 0 = o := ⟨_, rfl⟩
       obtain ⟨y, hy⟩ : ∃ y, Y.getD k 0 = y := ⟨_, rfl⟩
       rw [ho'] at hco
       have K2 := ref_at A2 c2 Y (k : Int) k rfl wr.drew (HY.out.up hbP.out.drew) hc2 (by omega) (by omega)
       rw [hy] at K2
       have K2 := Hd.mk K2
       obtain ⟨M, r1⟩ : ∃ M, IntKind.u64.wrap (x * y) = M := ⟨_, rfl⟩
       obtain ⟨S1, r2⟩ : ∃ S1, IntKind.u64.wrap (o + M) = S1 := ⟨_, rfl⟩
       obtain ⟨S, r3⟩ : ∃ S, IntKind.u64.wrap (S1 + cy) = S := ⟨_, rfl⟩
       obtain ⟨p, r4⟩ : ∃ p, S.tmod 4294967296 = p := ⟨_, rfl⟩
       obtain ⟨C, r5⟩ : ∃ C, IntKind.u64.wrap (S.tdiv 4294967296) = C := ⟨_, rfl⟩
       have hob := hP32.out.at_ (a + k)
       have hxb := HH.out.1.at_ a
       have hyb := HH.out.2.at_ k
       rw [ho'] at hob
       rw [hx.out] at hxb
       rw [hy] at hyb
       have RR := Hd.mk (Prd.mk' hob hxb hyb hcy.out r1 r2 r3 r4 r5)
       have HV : Hd (v32 (P.set (a + k) p) + 4294967296 ^ (a + (k + 1)) * C.toNat = v32 (X.take a) * v32 Y + 4294967296 ^ a * ((X.getD a 0).toNat * v32 (Y.take (k + 1)))) := ⟨by
        rw [hx.out]
        have hv := hPv.out
        rw [hx.out] at hv
        exact mul_step32 RR.out hlt' ho' hy ⟨hob.1, hxb.1, hyb.1, hcy.out.1⟩ hv⟩
       have HP32 : Hd (H32 (P.set (a + k) p)) := ⟨hP32.out.set _ (by have := RR.out.p; omega)⟩
       have HPP := Hd.mk (hP.out.d1.put hlt' p)
       have HPl2 : Hd ((P.set (a + k) p).length = i) := ⟨by rw [List.length_set]; exact hPl.out⟩
       have HBP := Hd.mk (hbP.out.drew.setCell (p := ⟨g, a + k, none⟩) hg1 (.int .u64 p))
       have hai : Hd (a + k < i) := ⟨by have := hPl.out; omega⟩
       have z4 : (a : Int) + k < i := by have := hai.out; omega
       have z3 : (0 : Int) ≤ (a : Int) + k := by omega
       have z5 : ((a : Int) + k).toNat = a + k := by omega
       have z2 : IntKind.i64.wrap ((a : Int) + k) = (a : Int) + k := IntWalk.i64_in _ (by omega)
       clear ho' hy hob hxb hyb hx hlt'
       go_wp2_with fail
       go_region_held3 (fun w' => w'.cell? ⟨g, a + k, none⟩ = some (.int .u64 o) ∧ w'.cell? (ad.add a) = some (.int .u64 x))
        (first
         | exact ⟨hco, hcx⟩
         | assumption)
        (first
         | (go_at_call 295; with_reducible refine K2.out.mono ?_; rintro e w' ⟨rfl, rfl⟩))
       go_wp2_with fail
       go_roundw
       case measure => first | (simp [intOf]; done) | (simp [intOf]; omega)
       case rel => exact ⟨k + 1, P.set (a + k) p, C, by go_num, rfl, by omega, HPl2, HPP, HP32, ⟨RR.out.cb⟩, HV, HBP⟩
      ·have k1 : ¬ (k : Int) < Y.length := by omega
       have HCY : Hd (Y.length < k → cy = 0) := ⟨fun hh => by
        have e := carry_dies (i := a) (k := k) (n := Y.length) (c := cy.toNat) hPv.out (by
         rw [List.take_of_length_le (by omega : Y.length ≤ k)]
         exact mul_lt HH.out.1 HH.out.2 a rfl) hh
        have := hcy.out; omega⟩
       by_cases hcp : 0 < cy
       ·have hk : k ≤ Y.length := by
          rcases Nat.lt_or_ge Y.length k with hh | hh
          ·have := HCY.out hh; omega
          ·exact hh
        obtain ⟨ad, x, hA, _, hx, hcx⟩ := (HX.out.up (BX.out.trans (hbP.out.mono BX.out.size))).get hax
        subst hA
        have hlt' : a + k < P.length := by have := HN.out; have := hPl.out; omega
        obtain ⟨hco, hfr⟩ := hP.out.cellAt hlt'
        obtain ⟨o, ho'⟩ : ∃ o, P.getD (a + k) 0 = o := ⟨_, rfl⟩
        obtain ⟨y, hy⟩ : ∃ y, Y.getD k 0 = y := ⟨_, rfl⟩
        rw [ho'] at hco
        have K2 := ref_at A2 c2 Y (k : Int) k rfl wr.drew (HY.out.up hbP.out.drew) hc2 (by omega) (by omega)
        rw [hy] at K2
        have K2 := Hd.mk K2
        obtain ⟨M, r1⟩ : ∃ M, IntKind.u64.wrap (x * y) = M := ⟨_, rfl⟩
        obtain ⟨S1, r2⟩ : ∃ S1, IntKind.u64.wrap (o + M) = S1 := ⟨_, rfl⟩
        obtain ⟨S, r3⟩ : ∃ S, IntKind.u64.wrap (S1 + cy) = S := ⟨_, rfl⟩
        obtain ⟨p, r4⟩ : ∃ p, S.tmod 4294967296 = p := ⟨_, rfl⟩
        obtain ⟨C, r5⟩ : ∃ C, IntKind.u64.wrap (S.tdiv 4294967296) = C := ⟨_, rfl⟩
        have hob := hP32.out.at_ (a + k)
        have hxb := HH.out.1.at_ a
        have hyb := HH.out.2.at_ k
        rw [ho'] at hob
        rw [hx.out] at hxb
        rw [hy] at hyb
        have RR := Hd.mk (Prd.mk' hob hxb hyb hcy.out r1 r2 r3 r4 r5)
        have HV : Hd (v32 (P.set (a + k) p) + 4294967296 ^ (a + (k + 1)) * C.toNat = v32 (X.take a) * v32 Y + 4294967296 ^ a * ((X.getD a 0).toNat * v32 (Y.take (k + 1)))) := ⟨by
         rw [hx.out]
         have hv := hPv.out
         rw [hx.out] at hv
         exact mul_step32 RR.out hlt' ho' hy ⟨hob.1, hxb.1, hyb.1, hcy.out.1⟩ hv⟩
        have HP32 : Hd (H32 (P.set (a + k) p)) := ⟨hP32.out.set _ (by have := RR.out.p; omega)⟩
        have HPP := Hd.mk (hP.out.d1.put hlt' p)
        have HPl2 : Hd ((P.set (a + k) p).length = i) := ⟨by rw [List.length_set]; exact hPl.out⟩
        have HBP := Hd.mk (hbP.out.drew.setCell (p := ⟨g, a + k, none⟩) hg1 (.int .u64 p))
        have hai : Hd (a + k < i) := ⟨by have := hPl.out; omega⟩
        have z4 : (a : Int) + k < i := by have := hai.out; omega
        have z3 : (0 : Int) ≤ (a : Int) + k := by omega
        have z5 : ((a : Int) + k).toNat = a + k := by omega
        have z2 : IntKind.i64.wrap ((a : Int) + k) = (a : Int) + k := IntWalk.i64_in _ (by omega)
        clear ho' hy hob hxb hyb hx hlt'
        go_wp2_with fail
        go_region_held3 (fun w' => w'.cell? ⟨g, a + k, none⟩ = some (.int .u64 o) ∧ w'.cell? (ad.add a) = some (.int .u64 x))
         (first
          | exact ⟨hco, hcx⟩
          | assumption)
         (first
          | (go_at_call 295; with_reducible refine K2.out.mono ?_; rintro e w' ⟨rfl, rfl⟩))
        go_wp2_with fail
        go_roundw
        case measure => first | (simp [intOf]; done) | (simp [intOf]; omega)
        case rel => exact ⟨k + 1, P.set (a + k) p, C, by go_num, rfl, by omega, HPl2, HPP, HP32, ⟨RR.out.cb⟩, HV, HBP⟩
       ·have HQ : Hd (v32 P = v32 (X.take (a + 1)) * v32 Y) := ⟨by
          have e := hPv.out
          have : cy = 0 := by have := hcy.out; omega
          rw [this, List.take_of_length_le (by omega : Y.length ≤ k)] at e
          rw [v32_take_succ, Nat.add_mul, Nat.mul_assoc]
          simpa using e⟩
        go_wp2_with fail
        go_roundw
        case measure => first | (simp [intOf]; done) | (simp [intOf]; omega)
        case rel => exact ⟨a + 1, P, by go_num, by omega, hPl.out, hP, hP32, HQ, hbP⟩
    ·have HE : Hd (v32 O = val l * val m) := ⟨by rw [hOv.out, List.take_of_length_le (by omega), HVV.out.1, HVV.out.2]⟩
     have hi9 : O.length ≤ 1000000 := by omega
     obtain ⟨A', c', e', hc', _, hr⟩ := hO.out.reads
     injection e' with e1 e2 e3
     have CW := Hd.mk (ref_Whole A' c' O wr hr hc' hi9 hO32.out)
     rw [HE.out, ← e1, ← e3, ← e2] at CW
     clear hr hO hOl e1 e2 e3 hi9
     go_wp2_with fail
     refine CW.out.mono ?_
     rintro e w4 ⟨v, rfl, ho4, hb4⟩
     have B9 := Hd.mk (BX2.out.trans (hbO.out.mono BX2.out.size))
     have O4 := Hd.mk (ho4.low B9.out.size)
     have B4 := Hd.mk (B9.out.trans (hb4.mono B9.out.size))
     clear ho4 hb4
     go_wp2_with fail
     go_ret
     exact ⟨_, rfl, O4.out, B4.out⟩
theorem rnat_May (A : Option Addr) (c : Nat) (l : List Int) (w : World) (h : RdI w .u64 A l) (hn : l.length ≤ c) (h9 : l.length ≤ 1000000000) :
    Calls Tryz.prog 153 #[.slice A l.length c] w fun e w' => e = .returned (.bool (natMay l)) ∧ w = w' := by
 by_cases h8 : l.length ≤ 8
 ·rcases Nat.eq_zero_or_pos l.length with h0 | h0
  ·have hl : l = [] := List.eq_nil_of_length_eq_zero h0
   subst hl
   have HE : Hd (natMay [] = true) := ⟨decide_eq_true ⟨by simp, .inl rfl⟩⟩
   clear h h0 h8 h9 hn
   go_enter Tryz.func153, Tryz.ntmps153
   go_wp2_with fail
   go_ret
   exact ⟨retBool HE.out.symm, rfl⟩
  ·obtain ⟨ad, x, rfl, _, hx, hcx⟩ := h.get (i := l.length - 1) (by omega)
   obtain ⟨m, hm⟩ : ∃ m, l.length - 1 = m := ⟨_, rfl⟩
   rw [hm] at hcx hx
   have e1 : ((l.length : Int) == 0) = false := by rw [beq_eq_false_iff_ne]; omega
   have n1 : (l.length : Int) - 1 = m := by omega
   have n2 : (0 : Int) ≤ m := by omega
   have n3 : (m : Int) < l.length := by omega
   have d8 : decide ((l.length : Int) ≤ 8) = true := decide_eq_true (by omega)
   have h8' : (l.length : Int) ≤ 8 := by omega
   by_cases hx0 : x = 0
   ·have e2 : (x != 0) = false := by rw [bne_eq_false_iff_eq]; exact hx0
    have HE : Hd (natMay l = false) := ⟨decide_eq_false fun hh => by
     rcases hh.2 with hh | hh
     ·rw [hh] at h0; simp at h0
     ·rw [hm, hx.out] at hh; exact hh hx0⟩
    clear h h0 hx hx0 hm
    go_enter Tryz.func153, Tryz.ntmps153
    go_wp2_with fail
    go_ret
    exact ⟨retBool HE.out.symm, rfl⟩
   ·have e2 : (x != 0) = true := by rw [bne_iff_ne]; exact hx0
    have HE : Hd (natMay l = true) := ⟨decide_eq_true ⟨h8, .inr (by rw [hm, hx.out]; exact hx0)⟩⟩
    clear h h0 hx hx0 hm
    go_enter Tryz.func153, Tryz.ntmps153
    go_wp2_with fail
    go_ret
    exact ⟨retBool HE.out.symm, rfl⟩
 ·have d8 : decide ((l.length : Int) ≤ 8) = false := decide_eq_false (by omega)
  have h8' : ¬ (l.length : Int) ≤ 8 := by omega
  have HE : Hd (natMay l = false) := ⟨decide_eq_false fun hh => h8 hh.1⟩
  clear h h8
  go_enter Tryz.func153, Tryz.ntmps153
  go_wp2_with fail
  go_ret
  exact ⟨retBool HE.out.symm, rfl⟩
theorem rnat_Of (n : Int) (h0 : 0 ≤ n) (h1 : n < 18446744073709551616) (w : World) :
    Calls Tryz.prog 120 #[.int .u64 n] w fun e w' => ∃ v, e = .returned v ∧ OwnI w' w.heap.size 112 .u64 v (limbs n.toNat) ∧ Below w.heap.size w w' := by
 have RN := Hd.mk (Rd.new_ w #[.int .u64 n] 112 1 1 rfl)
 have hr : RdI (w.alloc (.cells #[.int .u64 n] 112)) .u64 (some ⟨w.heap.size, 0, none⟩) [n] := by
  unfold RdI
  rw [show (w.alloc (.cells #[.int .u64 n] 112)).heap.size = w.heap.size + 1 by simp]
  exact RN.out
 have CT := Hd.mk (ref_Trim (some ⟨w.heap.size, 0, none⟩) 1 [n] _ hr (Nat.le_refl _) (by simp))
 have hu : U64 [n] := U64.nil.cons h0 h1
 have HE : Hd (trimL [n] = limbs n.toNat) := ⟨by rw [trim_limbs hu]; simp [val]⟩
 have hb : Hd (Below w.heap.size w (w.alloc (.cells #[.int .u64 n] 112))) := ⟨(Below.refl _ _).alloc (Nat.le_refl _) _⟩
 rw [HE.out] at CT
 clear hr hu h0 h1
 go_enter Tryz.func120, Tryz.ntmps120
 go_wp2_with fail
 refine CT.out.mono ?_
 rintro e w4 ⟨v, rfl, ho4, hb4⟩
 have O4 := Hd.mk (ho4.low hb.out.size)
 have B4 := Hd.mk (hb.out.trans (hb4.mono hb.out.size))
 clear ho4 hb4
 go_wp2_with fail
 go_ret
 exact ⟨_, rfl, O4.out, B4.out⟩
def heldD (l : List Int) : Int × List Int := if 8 < l.length then (21, []) else (0, l)
theorem rnat_held (A : Option Addr) (c : Nat) (l : List Int) (w : World) :
    Calls Tryz.prog 284 #[.slice A l.length c] w fun e w' => e = .returned (.tuple #[if 8 < l.length then .slice none 0 0 else .slice A l.length c, .int .i64 (heldD l).1]) ∧ w = w' := by
 by_cases h : 8 < l.length
 ·have h8 : (8 : Int) < l.length := by omega
  have HE : Hd ((heldD l).1 = 21) := ⟨by unfold heldD; rw [if_pos h]⟩
  rw [if_pos h, HE.out]
  clear h
  go_enter Tryz.func284, Tryz.ntmps284
  go_wp2_with fail
  go_ret2
  exact ⟨rfl, rfl⟩
 ·have h8 : ¬ (8 : Int) < l.length := by omega
  have HE : Hd ((heldD l).1 = 0) := ⟨by unfold heldD; rw [if_neg h]⟩
  rw [if_neg h, HE.out]
  clear h
  go_enter Tryz.func284, Tryz.ntmps284
  go_wp2_with fail
  go_ret2
  exact ⟨rfl, rfl⟩
theorem rnat_Same (A B : Option Addr) (c d : Nat) (l m : List Int) (w : World) (h : RdI w .u64 A l) (hn : l.length ≤ c) (h' : RdI w .u64 B m) (hn' : m.length ≤ d) (h9 : l.length ≤ 1000000000) (h9' : m.length ≤ 1000000000) :
    Calls Tryz.prog 155 #[.slice A l.length c, .slice B m.length d] w fun e w' => e = .returned (.bool (decide (l = m))) ∧ Dr w w' := by
 have CS := Hd.mk (ref_Same A B c d l m w h hn h' hn' h9 h9')
 obtain ⟨bb, hbb⟩ : ∃ bb, decide (l = m) = bb := ⟨_, rfl⟩
 rw [hbb] at CS ⊢
 clear h h' hbb
 go_enter Tryz.func155, Tryz.ntmps155
 go_wp2_with fail
 refine CS.out.mono ?_
 rintro e w' ⟨rfl, hd⟩
 have HD := Hd.mk hd
 clear hd
 go_wp2_with fail
 go_ret
 exact ⟨rfl, HD.out⟩
def natMulD (l m : List Int) : Int × List Int := if (natMay l && natMay m) = false then (1, []) else heldD (limbs (val l * val m))
theorem rnat_Mul (A B : Option Addr) (c d : Nat) (l m : List Int) (w : World) (h : RdI w .u64 A l) (hn : l.length ≤ c) (h9 : l.length ≤ 100000) (h' : RdI w .u64 B m) (hn' : m.length ≤ d) (h9' : m.length ≤ 100000) (hu : U64 l) (hu' : U64 m) :
    Calls Tryz.prog 240 #[.slice A l.length c, .slice B m.length d] w fun e w' => ∃ v, e = .returned (.tuple #[v, .int .i64 (natMulD l m).1]) ∧ OwnI w' w.heap.size 112 .u64 v (natMulD l m).2 ∧ Below w.heap.size w w' := by
 have M1 := Hd.mk (rnat_May A c l w h hn (by omega))
 have M2 := Hd.mk (rnat_May B d m w h' hn' (by omega))
 have CM := Hd.mk (ref_Mul A B c d l m w h hn h9 h' hn' h9' hu hu')
 clear h h' hu hu'
 cases hm1 : natMay l
 ·rw [hm1] at M1
  have HE : Hd (natMulD l m = (1, [])) := ⟨by unfold natMulD; rw [hm1]; rfl⟩
  clear hm1
  go_enter Tryz.func240, Tryz.ntmps240
  go_wp2_with fail
  refine M1.out.mono ?_
  rintro e w' ⟨rfl, rfl⟩
  go_wp2_with fail
  go_ret2
  rw [HE.out]
  exact ⟨_, rfl, OwnI.nil _ _ _ _, .refl _ _⟩
 ·rw [hm1] at M1
  cases hm2 : natMay m
  ·rw [hm2] at M2
   have HE : Hd (natMulD l m = (1, [])) := ⟨by unfold natMulD; rw [hm1, hm2]; rfl⟩
   clear hm1 hm2
   go_enter Tryz.func240, Tryz.ntmps240
   go_wp2_with fail
   refine M1.out.mono ?_
   rintro e w' ⟨rfl, rfl⟩
   go_wp2_with fail
   refine M2.out.mono ?_
   rintro e w' ⟨rfl, rfl⟩
   go_wp2_with fail
   go_ret2
   rw [HE.out]
   exact ⟨_, rfl, OwnI.nil _ _ _ _, .refl _ _⟩
  ·rw [hm2] at M2
   obtain ⟨R, hR⟩ : ∃ R, limbs (val l * val m) = R := ⟨_, rfl⟩
   rw [hR] at CM
   have HE : Hd (natMulD l m = heldD R) := ⟨by unfold natMulD; rw [hm1, hm2, hR]; rfl⟩
   have HH := Hd.mk (fun A c W => rnat_held A c R W)
   clear hm1 hm2 hR
   go_enter Tryz.func240, Tryz.ntmps240
   go_wp2_with fail
   refine M1.out.mono ?_
   rintro e w' ⟨rfl, rfl⟩
   go_wp2_with fail
   refine M2.out.mono ?_
   rintro e w' ⟨rfl, rfl⟩
   go_wp2_with fail
   refine CM.out.mono ?_
   rintro e w4 ⟨v, rfl, ho4, hb4⟩
   obtain ⟨A4, c4, rfl, hc4, _, _⟩ := ho4.reads
   have O4 := Hd.mk ho4
   have B4 := Hd.mk hb4
   have H4 := Hd.mk (HH.out A4 c4 w4)
   clear ho4 hb4
   by_cases h8 : 8 < R.length
   ·have HV : Hd (heldD R = (21, [])) := ⟨by unfold heldD; rw [if_pos h8]⟩
    rw [if_pos h8, HV.out] at H4
    clear h8
    go_wp2_with fail
    refine H4.out.mono ?_
    rintro e w' ⟨rfl, rfl⟩
    go_wp2_with fail
    go_ret2
    rw [HE.out, HV.out]
    exact ⟨_, rfl, OwnI.nil _ _ _ _, B4.out⟩
   ·have HV : Hd (heldD R = (0, R)) := ⟨by unfold heldD; rw [if_neg h8]⟩
    rw [if_neg h8, HV.out] at H4
    clear h8
    go_wp2_with fail
    refine H4.out.mono ?_
    rintro e w' ⟨rfl, rfl⟩
    go_wp2_with fail
    go_ret2
    rw [HE.out, HV.out]
    exact ⟨_, rfl, O4.out, B4.out⟩
theorem ref_times (A B : Option Addr) (c d : Nat) (l m : List Int) (w : World) (h : RdI w .u64 A l) (hn : l.length ≤ c) (h9 : l.length ≤ 90000) (h' : RdI w .u64 B m) (hn' : m.length ≤ d) (h9' : m.length ≤ 90000) (hu : U64 l) (hu' : U64 m) (hm0 : 0 < val m) (hq : val l < val m * 4294967296) :
    Calls Tryz.prog 261 #[.slice A l.length c, .slice B m.length d] w fun e w' => e = .returned (.int .u64 ((val l / val m : Nat) : Int)) ∧ Below w.heap.size w w' := by
 have HL := Hd.mk h
 have HM := Hd.mk h'
 have HU := Hd.mk (And.intro hu hu')
 have H0 := Hd.mk hm0
 have HQ := Hd.mk hq
 clear h h' hu hu' hm0 hq
 go_enter Tryz.func261, Tryz.ntmps261
 go_wp2_with fail
 go_loopw [5, 6] (fun v5 v6 wr => ∃ lo hi : Nat, v5 = .int .u64 lo ∧ v6 = .int .u64 hi ∧ lo < hi ∧ hi ≤ 4294967296 ∧ Hd (val m * lo ≤ val l ∧ val l < val m * hi) ∧ Hd (Below w.heap.size w wr)) (fun v5 v6 _ => (intOf v6).toNat - (intOf v5).toNat)
 case atStart => exact ⟨0, 4294967296, rfl, rfl, by omega, by omega, ⟨by simp, HQ.out⟩, ⟨.refl _ _⟩⟩
 case round =>
  obtain ⟨lo, hi, rfl, rfl, h1, h2, hv, hb⟩ := hrel
  have j1 : (0 : Int) ≤ lo := by omega
  have j2 : (lo : Int) < hi := by omega
  have j3 : (hi : Int) ≤ 4294967296 := by omega
  by_cases h3 : 1 < hi - lo
  ·have j4 : (1 : Int) < (hi : Int) - lo := by omega
   obtain ⟨k, hk⟩ : ∃ k, (lo + hi) / 2 = k := ⟨_, rfl⟩
   have hk1 : lo < k := by omega
   have hk2 : k < hi := by omega
   have ek : ((lo : Int) + hi) / 2 = (k : Int) := by omega
   have hkv : val [(k : Int)] = k := by simp [val]
   have hbn : Below wr.heap.size wr (wr.alloc (.cells #[.int .u64 (k : Int)] 112)) := (Below.refl _ _).alloc (Nat.le_refl _) _
   have HBN := Hd.mk (hb.out.trans (hbn.mono hb.out.size))
   have hrk : RdI (wr.alloc (.cells #[.int .u64 (k : Int)] 112)) .u64 (some ⟨wr.heap.size, 0, none⟩) [(k : Int)] := by
    unfold RdI
    rw [show (wr.alloc (.cells #[.int .u64 (k : Int)] 112)).heap.size = wr.heap.size + 1 by simp]
    exact Rd.new_ wr #[.int .u64 (k : Int)] 112 1 1 rfl
   have CM := Hd.mk (ref_Mul B (some ⟨wr.heap.size, 0, none⟩) d 1 m [(k : Int)] _ (HM.out.up HBN.out) hn' (by omega) hrk (Nat.le_refl _) (by simp) HU.out.2 (U64.nil.cons (by omega) (by omega)))
   rw [hkv] at CM
   obtain ⟨R, hR⟩ : ∃ R, limbs (val m * k) = R := ⟨_, rfl⟩
   have HR : Hd (val R = val m * k ∧ U64 R) := ⟨by rw [← hR, val_limbs]; exact ⟨rfl, limbs_u64 _⟩⟩
   have hRl : R.length ≤ 90001 := by
    have e3 : R.length ≤ m.length + 1 := by
     rw [← hR]
     refine limbs_len.2 ?_
     rw [Nat.pow_succ]
     exact Nat.mul_lt_mul'' (val_lt HU.out.2) (by omega)
    omega
   rw [hR] at CM
   have CC := Hd.mk (fun A' c' W (hW : RdI W .u64 A' R) (hc' : R.length ≤ c') (hb' : Below w.heap.size w W) => ref_Cmp A' A c' c R l W hW hc' (by omega) (HL.out.up hb') hn (by omega) HR.out.2 HU.out.1)
   rw [HR.out.1] at CC
   clear hbn hrk hR hk hkv
   by_cases h4 : val m * k ≤ val l
   ·have hcv : cmpN (val m * k) (val l) ≤ 0 := by unfold cmpN; split <;> (try split) <;> omega
    obtain ⟨q, hq⟩ : ∃ q, cmpN (val m * k) (val l) = q := ⟨_, rfl⟩
    rw [hq] at CC hcv
    have HV : Hd (val m * k ≤ val l ∧ val l < val m * hi) := ⟨h4, hv.out.2⟩
    clear h4 hq hv
    go_wp2_with fail
    refine CM.out.mono ?_
    rintro e w4 ⟨v, rfl, ho4, hb4⟩
    have B4 := Hd.mk (HBN.out.trans (hb4.mono HBN.out.size))
    obtain ⟨A4, c4, rfl, hc4, _, hr4⟩ := ho4.reads
    have CC4 := Hd.mk (CC.out A4 c4 w4 hr4 hc4 B4.out)
    clear ho4 hb4 hr4 CC CM
    go_wp2_with fail
    refine CC4.out.mono ?_
    rintro e w' ⟨rfl, rfl⟩
    go_wp2_with fail
    go_roundw
    case measure => first | (simp [intOf]; done) | (simp [intOf]; omega)
    case rel => exact ⟨k, hi, rfl, rfl, hk2, h2, HV, B4⟩
   ·have hcv : ¬ cmpN (val m * k) (val l) ≤ 0 := by unfold cmpN; rw [if_neg (by omega), if_pos (by omega)]; omega
    obtain ⟨q, hq⟩ : ∃ q, cmpN (val m * k) (val l) = q := ⟨_, rfl⟩
    rw [hq] at CC hcv
    have HV : Hd (val m * lo ≤ val l ∧ val l < val m * k) := ⟨hv.out.1, by omega⟩
    clear h4 hq hv
    go_wp2_with fail
    refine CM.out.mono ?_
    rintro e w4 ⟨v, rfl, ho4, hb4⟩
    have B4 := Hd.mk (HBN.out.trans (hb4.mono HBN.out.size))
    obtain ⟨A4, c4, rfl, hc4, _, hr4⟩ := ho4.reads
    have CC4 := Hd.mk (CC.out A4 c4 w4 hr4 hc4 B4.out)
    clear ho4 hb4 hr4 CC CM
    go_wp2_with fail
    refine CC4.out.mono ?_
    rintro e w' ⟨rfl, rfl⟩
    go_wp2_with fail
    go_roundw
    case measure => first | (simp [intOf]; done) | (simp [intOf]; omega)
    case rel => exact ⟨lo, k, rfl, rfl, hk1, by omega, HV, B4⟩
  ·have j4 : ¬ (1 : Int) < (hi : Int) - lo := by omega
   have HE : Hd (((val l / val m : Nat) : Int) = lo) := ⟨by
    have e1 : hi = lo + 1 := by omega
    have e := hv.out
    rw [e1] at e
    have : val l / val m = lo := by
     rw [Nat.div_eq_iff H0.out]
     have e2 : val m * (lo + 1) = val m * lo + val m := Nat.mul_succ _ _
     rw [Nat.mul_comm lo]
     omega
    rw [this]⟩
   clear hv
   go_wp2_with fail
   go_ret
   exact ⟨retInt HE.out.symm, hb.out⟩
end Go.Proofs.YtgjkgkgieeoalaaGreat
