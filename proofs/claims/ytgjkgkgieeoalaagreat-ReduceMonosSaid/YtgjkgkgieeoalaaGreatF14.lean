/- Parts of the proof, joined: each theorem says what it shows. -/
import Derived.Test.YtgjkgkgieeoalaaGreatF01
import Derived.Test.YtgjkgkgieeoalaaGreatF11
set_option linter.unusedVariables false
set_option linter.unusedSimpArgs false
set_option maxHeartbeats 24000000
set_option maxRecDepth 100000
namespace Go.Proofs.YtgjkgkgieeoalaaGreat
open Go.RowKit
theorem own_lo {w : World} {base gp : Nat} {e : TypeId} {sz n : Nat} {v : Value} {xs : List Value} (h : w.ownsRow base e sz v n xs) (hb : v.ownBlock = some gp) : base ≤ gp := by
 rcases h.2 with ⟨rfl, _⟩ | ⟨g', cap, cur, rfl, h2, h3, r⟩
 ·simp [Value.ownBlock] at hb
 ·have : g' = gp := by simpa [Value.ownBlock] using hb
  subst this
  exact h2
theorem rd1 (w : World) (x : Int) (g : Nat) (hg : w.heap.size = g) : RdI (w.alloc (.cells #[.int .u64 x] 112)) .u64 (some ⟨g, 0, none⟩) [x] := by
 subst hg
 unfold RdI
 rw [show (w.alloc (.cells #[.int .u64 x] 112)).heap.size = w.heap.size + 1 by simp]
 exact Rd.new_ w #[.int .u64 x] 112 1 1 rfl
theorem div_step {X Q : List Int} {i R x b q : Nat} {xi : Int} (hx : X.getD i 0 = xi) (hxi : x = xi.toNat) (hi : i < X.length) (hQl : Q.length = X.length) (hz : ∀ j, j ≤ i → Q.getD j 0 = 0)
    (hv : v32 (X.drop (i + 1)) = v32 (Q.drop (i + 1)) * b + R) (hq : q = (R * 4294967296 + x) / b) :
    v32 (X.drop i) = v32 ((Q.set i (q : Int)).drop i) * b + (R * 4294967296 + x) % b := by
 have e1 : X.drop i = xi :: X.drop (i + 1) := by rw [List.drop_eq_getElem_cons hi, ← getD_at hi, hx]
 have hi2 : i < (Q.set i (q : Int)).length := by rw [List.length_set]; omega
 have e2 : (Q.set i (q : Int)).drop i = (q : Int) :: Q.drop (i + 1) := by
  rw [List.drop_eq_getElem_cons hi2]
  simp [List.drop_set]
 rw [e1, e2, v32, v32, hv, ← hxi, Int.toNat_natCast]
 have h := Nat.div_add_mod (R * 4294967296 + x) b
 rw [← hq] at h
 rw [Nat.mul_add, Nat.add_mul, Nat.mul_comm b q] at *
 rw [Nat.mul_assoc] 
 omega
theorem rquot_Div_main (A B : Option Addr) (c d : Nat) (l m : List Int) (w : World) (h : RdI w .u64 A l) (hn : l.length ≤ c) (h' : RdI w .u64 B m) (hn' : m.length ≤ d) (hu : U64 l) (hu' : U64 m)
    (hm : natMay l = true) (hm' : natMay m = true) (h1 : 0 < m.length) (hne : ¬ (l.length = 1 ∧ m.length = 1)) :
    Calls Tryz.prog 219 #[.slice A l.length c, .slice B m.length d] w fun e w' => ∃ v u, e = .returned (.tuple #[v, u, .int .i64 0]) ∧ OwnI w' w.heap.size 112 .u64 v (limbs (val l / val m)) ∧
     OwnI w' w.heap.size 112 .u64 u (limbs (val l % val m)) ∧ Below w.heap.size w w' := by
 obtain ⟨i0, hi0, hz0, hz1, hz2⟩ := info_split Tryz.infU64
 have hl8 := natMay_len hm
 have hm8 := natMay_len hm'
 have M1 := aa (rnat_May A c l w h hn (by omega))
 have M2 := aa (rnat_May B d m w h' hn' (by omega))
 rw [hm] at M1
 rw [hm'] at M2
 have D1 := aa (ref_Digits A c l w h hn (by omega) hu)
 have HH : Hd (H32 (digs l)) := ⟨digs_h32 hu⟩
 have HVV : Hd (v32 (digs l) = val l) := ⟨digs_val hu⟩
 have HM := aa h'
 have HU := aa hu'
 have hX1 := digs_len l
 obtain ⟨X, hX⟩ : ∃ X, digs l = X := ⟨_, rfl⟩
 rw [hX] at D1 HH HVV hX1
 have hX9 : X.length ≤ 16 := by omega
 have z1 : ((m.length : Int) == 0) = false := by rw [beq_eq_false_iff_ne]; omega
 have z2 : ((l.length : Int) == 1 && (m.length : Int) == 1) = false := by
  rw [Bool.and_eq_false_iff]
  rcases Nat.lt_or_ge 1 l.length with hh | hh
  ·left; rw [beq_eq_false_iff_ne]; omega
  ·rcases Nat.eq_zero_or_pos l.length with h0 | h0
   ·left; rw [beq_eq_false_iff_ne]; omega
   ·right; rw [beq_eq_false_iff_ne]; intro e; exact hne ⟨by omega, by omega⟩
 have HZ2 := aa z2
 have HMP : Hd (0 < val m) := ⟨by
  have := natMay_trim hm'
  rcases Nat.eq_zero_or_pos (val m) with h0 | h0
  ·have e := limbs_of hu' this
   rw [h0, limbs_zero] at e
   rw [← e] at h1; simp at h1
  ·exact h0⟩
 clear h h' hu hu' hX hX1 hm hm' z2 hne
 go_enter Tryz.func219, Tryz.ntmps219
 go_wp2_with fail
 refine M1.out.mono ?_
 rintro e w' ⟨rfl, rfl⟩
 go_wp2_with fail
 refine M2.out.mono ?_
 rintro e w' ⟨rfl, rfl⟩
 go_upto_region 5 with (fail)
 go_cut [32] (fun v32 wz => v32 = .bool false ∧ w = wz)
 case first =>
  cases zl : ((l.length : Int) == 1)
  ·go_wp2_with fail
   go_meet
   exact ⟨rfl, rfl⟩
  ·have zm : ((m.length : Int) == 1) = false := by
     have := HZ2.out
     rw [zl] at this
     simpa using this
   go_wp2_with fail
   go_meet
   exact ⟨rfl, rfl⟩
 case rest =>
 obtain ⟨rfl, rfl⟩ := hcut
 go_wp2_with fail
 refine D1.out.mono ?_
 rintro e w2 ⟨v1, rfl, ho1, hb1⟩
 obtain ⟨A1, c1, rfl, hc1, _, hr1⟩ := ho1.reads
 have HX := aa hr1
 have BX2 := aa hb1
 clear ho1 hr1 hb1 D1 M1 M2
 have HO0 := aa (show OwnI (w2.alloc (.cells #[] 112)) w2.heap.size 112 .u64 (.slice (some ⟨w2.heap.size, 0, none⟩) 0 0) [] from World.ownsRow_lit w2 #[] 0 (ae _) (by unfold maxLen; omega) rfl)
 go_wp2_with fail
 go_loopw [8, 9] (fun v8 v9 wr => ∃ i : Nat, v9 = .int .i64 i ∧ i ≤ X.length ∧ Hd (OwnI wr w2.heap.size 112 .u64 v8 (List.replicate i 0)) ∧ Hd (Below w2.heap.size w2 wr)) (fun _ v _ => X.length - (intOf v).toNat)
 case atStart => exact ⟨0, rfl, by omega, HO0, ⟨(ag _ _).alloc (ae _) _⟩⟩
 case round =>
  obtain ⟨i, rfl, hi, ho, hb⟩ := hrel
  by_cases hlt : i < X.length
  ·have t1 : (i : Int) < X.length := by omega
   obtain ⟨F, hF⟩ : ∃ F, List.replicate i (0 : Int) = F := ⟨_, rfl⟩
   have HF : Hd (F ++ [0] = List.replicate (i + 1) 0) := ⟨by rw [← hF, List.replicate_succ']⟩
   have hFl : F.length ≤ 400001 := by rw [← hF, List.length_replicate]; omega
   rw [hF] at ho
   clear hF
   have OO := aa (ho.out.al (.cells #[.int .u64 0] 112))
   have RN := aa (Rd.new_ wr #[.int .u64 0] 112 1 1 rfl)
   have BB := aa (hb.out.alloc hb.out.size (.cells #[.int .u64 0] 112))
   have XS := aa BB.out.size
   have x63 : F.length + 1 ≤ maxLen := by unfold maxLen; omega
   have xby : (F.length + 1) * 8 ≤ 140737488355328 := by omega
   go_wp2_with (at_builtin; refine wpList_append_rd _ rfl _ _ 61 rfl w2.heap.size 112 i0 (.int .u64 0) 1 8 Tryz.slU64 hi0 hz0 hz1 hz2 rfl (by decide) _ F.length (ints .u64 F) rfl OO.out _ _ 1 _ (ints .u64 [0]) rfl RN.out (ints_one _ _) x63 xby XS.out ?_)
   intro v' w6 ho6 hg6 _
   have O6 := aa (show OwnI w6 w2.heap.size 112 .u64 v' (F ++ [0]) from by unfold OwnI; rw [List.length_append, ints_app]; exact ho6)
   have B6 := aa (grown_below OO.out hg6 BB.out XS.out)
   clear ho6 hg6
   go_wp2_with fail
   go_roundw
   case measure => first | (simp [intOf]; done) | (simp [intOf]; omega)
   case rel => exact ⟨i + 1, by go_num, by omega, ⟨by rw [← HF.out]; exact O6.out⟩, B6⟩
  ·have hie : i = X.length := by omega
   subst hie
   clear hlt hi
   have OR0 := aa (show OwnI (wr.alloc (.cells #[] 112)) w2.heap.size 112 .u64 (.slice (some ⟨wr.heap.size, 0, none⟩) 0 0) [] from World.ownsRow_lit wr #[] 0 hb.out.size (by unfold maxLen; omega) rfl)
   have OQ0 := aa (ho.out.al (.cells #[] 112))
   have B0 := aa (hb.out.alloc hb.out.size (.cells #[] 112))
   clear ho hb
   go_wp2_with fail
   go_loopw [10, 11] (fun v10 v11 wr => ∃ (k : Nat) (Q R : List Int), v11 = .int .i64 ((k : Int) - 1) ∧ k ≤ X.length ∧ Hd (Q.length = X.length) ∧ Hd (OwnI wr w2.heap.size 112 .u64 u8 Q) ∧ Hd (H32 Q) ∧ Hd (∀ j, j < k → Q.getD j 0 = 0) ∧
    Hd (OwnI wr w2.heap.size 112 .u64 v10 R) ∧ Hd (R = limbs (val R) ∧ val R < val m) ∧ Hd (v32 (X.drop k) = v32 (Q.drop k) * val m + val R) ∧ Hd (Below w2.heap.size w2 wr)) (fun _ v _ => (intOf v + 1).toNat)
   case atStart =>
    refine ⟨X.length, List.replicate X.length 0, [], ?_, ae _, ⟨by simp⟩, OQ0, ⟨fun x h => by rw [List.eq_of_mem_replicate h]; omega⟩, ⟨fun j hj => by simp [List.getD_eq_getElem?_getD, hj]⟩, OR0, ⟨by simp [val, limbs_zero], ?_⟩, ⟨?_⟩, B0⟩
    ·first | rfl | (congr 1)
    ·exact HMP.out
    ·rw [List.drop_length, List.drop_of_length_le (by simp)]; simp [v32, val]
   case round =>
    obtain ⟨k, Q, R, rfl, hkX, hQl, hQ, hQ32, hQ0, hR, hRv, hv, hb⟩ := hrel
    rcases Nat.eq_zero_or_pos k with hz | hz
    ·subst hz
     have HE : Hd (v32 Q = val l / val m ∧ R = limbs (val l % val m)) := ⟨by
      have e := hv.out
      have hp := HMP.out
      rw [List.drop_zero, List.drop_zero, HVV.out] at e
      have e1 : val l / val m = v32 Q := by
       rw [e, Nat.add_comm, Nat.add_mul_div_right _ _ hp, Nat.div_eq_of_lt hRv.out.2, Nat.zero_add]
      have e2 : val l % val m = val R := by
       rw [e, Nat.add_comm, Nat.add_mul_mod_self_right, Nat.mod_eq_of_lt hRv.out.2]
      exact ⟨e1.symm, by rw [e2]; exact hRv.out.1⟩⟩
     have hQ9 : Q.length ≤ 1000000 := by have := hQl.out; omega
     obtain ⟨A', c', rfl, hc', _, hr⟩ := hQ.out.reads
     have CW := aa (ref_Whole A' c' Q wr hr hc' hQ9 hQ32.out)
     rw [HE.out.1] at CW
     clear hr hQ hv hQ9
     go_wp2_with fail
     refine CW.out.mono ?_
     rintro e w4 ⟨v, rfl, ho4, hb4⟩
     have B9 := aa (BX2.out.trans (hb.out.mono BX2.out.size))
     have O4 := aa (ho4.low B9.out.size)
     have R4 := aa ((hR.out.below hb4).low BX2.out.size)
     have B4 := aa (B9.out.trans (hb4.mono B9.out.size))
     clear ho4 hb4
     go_wp2_with fail
     go_ret3
     exact ⟨_, _, rfl, O4.out, by rw [← HE.out.2]; exact R4.out, B4.out⟩
    ·obtain ⟨i, hki⟩ : ∃ i, k = i + 1 := ⟨k - 1, by omega⟩
     subst hki
     have e0 : (((i + 1 : Nat) : Int) - 1) = i := by omega
     rw [e0]
     clear e0
     have hix : i < X.length := by omega
     have i2 : (i : Int) < X.length := by omega
     have i3 : (0 : Int) ≤ i := by omega
     obtain ⟨g, cap, rfl, hg1, hg2⟩ := own_form_I hQ.out (by have := hQl.out; omega)
     obtain ⟨ad, x, rfl, _, hx, hcx⟩ := (HX.out.up hb.out).get hix
     have hxb := HH.out.at_ i
     rw [hx.out] at hxb
     obtain ⟨Ar, cr, rfl, hcr, _, hrr⟩ := hR.out.reads
     have hR9 : R.length ≤ 9 := by
      have h2 := val_lt HU.out
      rw [hRv.out.1]
      refine limbs_len.2 (Nat.lt_of_lt_of_le (Nat.lt_trans hRv.out.2 h2) (Nat.pow_le_pow_right (by decide) (by omega)))
     have hRu : U64 R := by rw [hRv.out.1]; exact limbs_u64 _
     obtain ⟨M, hM⟩ : ∃ M, limbs (val R * 4294967296) = M := ⟨_, rfl⟩
     obtain ⟨N, hN⟩ : ∃ N, limbs (val R * 4294967296 + x.toNat) = N := ⟨_, rfl⟩
     have HMN : Hd (val M = val R * 4294967296 ∧ U64 M ∧ val N = val R * 4294967296 + x.toNat ∧ U64 N ∧ N = limbs (val N)) := ⟨by rw [← hM, ← hN, val_limbs, val_limbs]; exact ⟨rfl, limbs_u64 _, rfl, limbs_u64 _, rfl⟩⟩
     have hMl : M.length ≤ 10 := by
      rw [← hM]
      refine limbs_len.2 ?_
      have h2 := val_lt hRu
      have h3 : val R < 18446744073709551616 ^ 9 := Nat.lt_of_lt_of_le h2 (Nat.pow_le_pow_right (by decide) hR9)
      omega
     have hNl : N.length ≤ 10 := by
      rw [← hN]
      refine limbs_len.2 ?_
      have h2 := val_lt hRu
      have h3 : val R < 18446744073709551616 ^ 9 := Nat.lt_of_lt_of_le h2 (Nat.pow_le_pow_right (by decide) hR9)
      omega
     have CMul := aa (fun W A32 (hW : RdI W .u64 Ar R) (h32 : RdI W .u64 A32 [4294967296]) => ref_Mul Ar A32 cr 1 R [4294967296] W hW hcr (by omega) h32 (ae _) (by simp) hRu (U64.nil.cons (by omega) (by omega)))
     rw [show val R * val [4294967296] = val R * 4294967296 by simp [val], hM] at CMul
     have CAdd := aa (fun W A5 c5 A6 (hW : RdI W .u64 A5 M) (hc5 : M.length ≤ c5) (h6 : RdI W .u64 A6 [x]) => ref_Add A5 A6 c5 1 M [x] W hW hc5 (by omega) h6 (ae _) (by simp) HMN.out.2.1 (U64.nil.cons (by omega) (by omega)))
     rw [HMN.out.1, show val R * 4294967296 + val [x] = val R * 4294967296 + x.toNat by simp [val], hN] at CAdd
     have HXB := aa hxb
     have HRU := aa hRu
     have bb0 : Hd (Below w2.heap.size w2 wr.drew) := ⟨hb.out.drew⟩
     have bw0 : Hd (Below wr.heap.size wr.drew wr.drew) := ⟨.refl _ _⟩
     have hws : Hd (w2.heap.size ≤ wr.heap.size) := ⟨hb.out.size⟩
     have rr0 : Hd (RdI wr.drew .u64 Ar R) := ⟨hrr⟩
     have qq0 : Hd (OwnI wr.drew w2.heap.size 112 .u64 (.slice (some ⟨g, 0, none⟩) Q.length cap) Q) := ⟨hQ.out.d1⟩
     have hx0 : wr.drew.cell? (ad.add i) = some (.int .u64 x) := hcx
     clear hxb hM hN hR hrr hQ hRu hb
     go_upto_region 17 with (fail)
     go_cut [10] (fun v10 wz => Hd (Below w2.heap.size w2 wz) ∧ Hd (OwnI wz wr.heap.size 112 .u64 v10 N) ∧ Hd (OwnI wz w2.heap.size 112 .u64 (.slice (some ⟨g, 0, none⟩) Q.length cap) Q))
     case first =>
      refine wp_region_any (by kernel_rfl) ?_
      try (change wpAny _ _ _ _ _ _ _ (World.drew _))
      refine takeP 0 69 (v := ?_) rfl rfl (by kernel_rfl) (by kernel_rfl) (by kernel_rfl) (fun _ _ _ h => h) (by kernel_rfl) ?_ ?_
      rotate_left
      ·intro w; first | (go_simp; done) | (go_simp; with_reducible rfl)
      simp only [Act.put, List.setIfInBounds_toArray, List.set_cons_zero, List.set_cons_succ]
      refine takeP 3 72 (v := ?_) rfl rfl (by kernel_rfl) (by kernel_rfl) (by kernel_rfl) (fun _ _ _ h => h) (by kernel_rfl) ?_ ?_
      rotate_left
      ·intro w; first | (go_simp; done) | (go_simp; with_reducible rfl)
      simp only [Act.put, List.setIfInBounds_toArray, List.set_cons_zero, List.set_cons_succ]
      refine takeP 4 73 (v := ?_) rfl rfl (by kernel_rfl) (by kernel_rfl) (by kernel_rfl) (fun _ _ _ h => h) (by kernel_rfl) ?_ ?_
      rotate_left
      ·intro w; first | (go_simp; done) | (go_simp; with_reducible rfl)
      simp only [Act.put, List.setIfInBounds_toArray, List.set_cons_zero, List.set_cons_succ]
      refine takeP 5 74 (v := ?_) rfl rfl (by kernel_rfl) (by kernel_rfl) (by kernel_rfl) (fun _ _ _ h => h) (by kernel_rfl) ?_ ?_
      rotate_left
      ·intro w; first | (go_simp; done) | (go_simp; with_reducible rfl)
      simp only [Act.put, List.setIfInBounds_toArray, List.set_cons_zero, List.set_cons_succ]
      refine wpAny_ready (rs := [1, 6]) (by kernel_rfl) (by simp) ?_
      refine AllReady.cons rfl (fun K hK => ?_) ?_
      go_simp
      obtain ⟨w1, hw1⟩ : ∃ zw : World, zw = ((wr.alloc (Obj.cells #[.int .u64 4294967296] 112)).drew) := ⟨_, rfl⟩
      have e1 := aa (show Below (wr.drew).heap.size (wr.drew) w1 from by rw [hw1]; exact (ag _ _).alloc (ae _) _)
      have bb_1 := aa (bb0.out.trans (e1.out.mono bb0.out.size))
      have bw_1 := aa (bw0.out.trans (e1.out.mono bw0.out.size))
      have rr_1 := aa (rr0.out.up e1.out)
      have qq_1 := aa (qq0.out.below e1.out)
      have hx_1 := cell_up hx0 e1.out
      have m1_1 := aa (show RdI w1 .u64 (some ⟨wr.heap.size, 0, none⟩) [4294967296] from by rw [hw1]; exact rd1 (wr.drew) 4294967296 (wr.heap.size) (by first | rfl | simp))
      rw [← hw1]
      clear hw1
      refine hK _ _ ?_
      clear hK K
      refine wpAny_ready (rs := [2, 6]) (by kernel_rfl) (by simp) ?_
      refine AllReady.cons rfl (fun K hK => ?_) ?_
      go_simp
      refine (CMul.out _ _ rr_1.out m1_1.out).mono ?_
      rintro e w2 ⟨v2, rfl, ho2, hb2⟩
      have e2 := aa hb2
      have bb_2 := aa (bb_1.out.trans (e2.out.mono bb_1.out.size))
      have bw_2 := aa (bw_1.out.trans (e2.out.mono bw_1.out.size))
      have rr_2 := aa (rr_1.out.up e2.out)
      have qq_2 := aa (qq_1.out.below e2.out)
      have hx_2 := cell_up hx_1 e2.out
      have m1_2 := aa (m1_1.out.up e2.out)
      obtain ⟨A2, c2, rfl, hc2, _, hr2⟩ := ho2.reads
      have mm_2 := aa hr2
      clear hb2 ho2 hr2
      dsimp only
      refine hK _ _ ?_
      clear hK K
      refine wpAny_ready (rs := [6]) (by kernel_rfl) (by simp) ?_
      refine AllReady.cons rfl (fun K hK => ?_) AllReady.nil
      go_simp
      refine hK _ _ ?_
      clear hK K
      refine wpAny_ready (rs := [7]) (by kernel_rfl) (by simp) ?_
      refine AllReady.cons rfl (fun K hK => ?_) AllReady.nil
      go_simp
      obtain ⟨w4, hw4⟩ : ∃ zw : World, zw = (w2.alloc (Obj.cells #[.int .u64 x] 112)) := ⟨_, rfl⟩
      have e4 := aa (show Below (w2).heap.size (w2) w4 from by rw [hw4]; exact (ag _ _).alloc (ae _) _)
      have bb_4 := aa (bb_2.out.trans (e4.out.mono bb_2.out.size))
      have bw_4 := aa (bw_2.out.trans (e4.out.mono bw_2.out.size))
      have rr_4 := aa (rr_2.out.up e4.out)
      have qq_4 := aa (qq_2.out.below e4.out)
      have hx_4 := cell_up hx_2 e4.out
      have m1_4 := aa (m1_2.out.up e4.out)
      have mm_4 := aa (mm_2.out.up e4.out)
      have x1_4 := aa (show RdI w4 .u64 (some ⟨w2.heap.size, 0, none⟩) [x] from by rw [hw4]; exact rd1 (w2) x (w2.heap.size) (by first | rfl | simp))
      rw [← hw4]
      clear hw4
      refine hK _ _ ?_
      clear hK K
      refine wpAny_ready (rs := [8]) (by kernel_rfl) (by simp) ?_
      refine AllReady.cons rfl (fun K hK => ?_) AllReady.nil
      go_simp
      refine (CAdd.out _ _ _ _ mm_4.out hc2 x1_4.out).mono ?_
      rintro e w5 ⟨v5, rfl, ho5, hb5⟩
      have e5 := aa hb5
      have bb_5 := aa (bb_4.out.trans (e5.out.mono bb_4.out.size))
      have bw_5 := aa (bw_4.out.trans (e5.out.mono bw_4.out.size))
      have rr_5 := aa (rr_4.out.up e5.out)
      have qq_5 := aa (qq_4.out.below e5.out)
      have hx_5 := cell_up hx_4 e5.out
      have m1_5 := aa (m1_4.out.up e5.out)
      have mm_5 := aa (mm_4.out.up e5.out)
      have x1_5 := aa (x1_4.out.up e5.out)
      have oo_5 := aa (ho5.low bw_4.out.size)
      clear hb5 ho5
      dsimp only
      refine hK _ _ ?_
      clear hK K
      refine takeP 9 10 (v := ?_) rfl rfl (by kernel_rfl) (by kernel_rfl) (by kernel_rfl) (fun _ _ _ h => h) (by kernel_rfl) ?_ ?_
      rotate_left
      ·intro w; first | (go_simp; done) | (go_simp; with_reducible rfl)
      simp only [Act.put, List.setIfInBounds_toArray, List.set_cons_zero, List.set_cons_succ]
      refine wpAny_done (by kernel_rfl) ?_ _
      have FB := bb_5
      have FQ := qq_5
      have FO := oo_5
      rotate_left
      refine AllReady.cons rfl (fun K hK => ?_) ?_
      go_simp
      refine hK _ _ ?_
      clear hK K
      refine wpAny_ready (rs := [2, 7]) (by kernel_rfl) (by simp) ?_
      refine AllReady.cons rfl (fun K hK => ?_) ?_
      go_simp
      refine (CMul.out _ _ rr_1.out m1_1.out).mono ?_
      rintro e w7 ⟨v7, rfl, ho7, hb7⟩
      have e7 := aa hb7
      have bb_7 := aa (bb_1.out.trans (e7.out.mono bb_1.out.size))
      have bw_7 := aa (bw_1.out.trans (e7.out.mono bw_1.out.size))
      have rr_7 := aa (rr_1.out.up e7.out)
      have qq_7 := aa (qq_1.out.below e7.out)
      have hx_7 := cell_up hx_1 e7.out
      have m1_7 := aa (m1_1.out.up e7.out)
      obtain ⟨A7, c7, rfl, hc7, _, hr7⟩ := ho7.reads
      have mm_7 := aa hr7
      clear hb7 ho7 hr7
      dsimp only
      refine hK _ _ ?_
      clear hK K
      refine wpAny_ready (rs := [7]) (by kernel_rfl) (by simp) ?_
      refine AllReady.cons rfl (fun K hK => ?_) AllReady.nil
      go_simp
      obtain ⟨w8, hw8⟩ : ∃ zw : World, zw = (w7.alloc (Obj.cells #[.int .u64 x] 112)) := ⟨_, rfl⟩
      have e8 := aa (show Below (w7).heap.size (w7) w8 from by rw [hw8]; exact (ag _ _).alloc (ae _) _)
      have bb_8 := aa (bb_7.out.trans (e8.out.mono bb_7.out.size))
      have bw_8 := aa (bw_7.out.trans (e8.out.mono bw_7.out.size))
      have rr_8 := aa (rr_7.out.up e8.out)
      have qq_8 := aa (qq_7.out.below e8.out)
      have hx_8 := cell_up hx_7 e8.out
      have m1_8 := aa (m1_7.out.up e8.out)
      have mm_8 := aa (mm_7.out.up e8.out)
      have x1_8 := aa (show RdI w8 .u64 (some ⟨w7.heap.size, 0, none⟩) [x] from by rw [hw8]; exact rd1 (w7) x (w7.heap.size) (by first | rfl | simp))
      rw [← hw8]
      clear hw8
      refine hK _ _ ?_
      clear hK K
      refine wpAny_ready (rs := [8]) (by kernel_rfl) (by simp) ?_
      refine AllReady.cons rfl (fun K hK => ?_) AllReady.nil
      go_simp
      refine (CAdd.out _ _ _ _ mm_8.out hc7 x1_8.out).mono ?_
      rintro e w9 ⟨v9, rfl, ho9, hb9⟩
      have e9 := aa hb9
      have bb_9 := aa (bb_8.out.trans (e9.out.mono bb_8.out.size))
      have bw_9 := aa (bw_8.out.trans (e9.out.mono bw_8.out.size))
      have rr_9 := aa (rr_8.out.up e9.out)
      have qq_9 := aa (qq_8.out.below e9.out)
      have hx_9 := cell_up hx_8 e9.out
      have m1_9 := aa (m1_8.out.up e9.out)
      have mm_9 := aa (mm_8.out.up e9.out)
      have x1_9 := aa (x1_8.out.up e9.out)
      have oo_9 := aa (ho9.low bw_8.out.size)
      clear hb9 ho9
      dsimp only
      refine hK _ _ ?_
      clear hK K
      refine takeP 9 10 (v := ?_) rfl rfl (by kernel_rfl) (by kernel_rfl) (by kernel_rfl) (fun _ _ _ h => h) (by kernel_rfl) ?_ ?_
      rotate_left
      ·intro w; first | (go_simp; done) | (go_simp; with_reducible rfl)
      simp only [Act.put, List.setIfInBounds_toArray, List.set_cons_zero, List.set_cons_succ]
      refine wpAny_done (by kernel_rfl) ?_ _
      have FB := bb_9
      have FQ := qq_9
      have FO := oo_9
      rotate_left
      refine AllReady.cons rfl (fun K hK => ?_) ?_
      go_simp
      obtain ⟨w10, hw10⟩ : ∃ zw : World, zw = (w1.alloc (Obj.cells #[.int .u64 x] 112)) := ⟨_, rfl⟩
      have e10 := aa (show Below (w1).heap.size (w1) w10 from by rw [hw10]; exact (ag _ _).alloc (ae _) _)
      have bb_10 := aa (bb_1.out.trans (e10.out.mono bb_1.out.size))
      have bw_10 := aa (bw_1.out.trans (e10.out.mono bw_1.out.size))
      have rr_10 := aa (rr_1.out.up e10.out)
      have qq_10 := aa (qq_1.out.below e10.out)
      have hx_10 := cell_up hx_1 e10.out
      have m1_10 := aa (m1_1.out.up e10.out)
      have x1_10 := aa (show RdI w10 .u64 (some ⟨w1.heap.size, 0, none⟩) [x] from by rw [hw10]; exact rd1 (w1) x (w1.heap.size) (by first | rfl | simp))
      rw [← hw10]
      clear hw10
      refine hK _ _ ?_
      clear hK K
      refine wpAny_ready (rs := [2]) (by kernel_rfl) (by simp) ?_
      refine AllReady.cons rfl (fun K hK => ?_) AllReady.nil
      go_simp
      refine (CMul.out _ _ rr_10.out m1_10.out).mono ?_
      rintro e w11 ⟨v11, rfl, ho11, hb11⟩
      have e11 := aa hb11
      have bb_11 := aa (bb_10.out.trans (e11.out.mono bb_10.out.size))
      have bw_11 := aa (bw_10.out.trans (e11.out.mono bw_10.out.size))
      have rr_11 := aa (rr_10.out.up e11.out)
      have qq_11 := aa (qq_10.out.below e11.out)
      have hx_11 := cell_up hx_10 e11.out
      have m1_11 := aa (m1_10.out.up e11.out)
      have x1_11 := aa (x1_10.out.up e11.out)
      obtain ⟨A11, c11, rfl, hc11, _, hr11⟩ := ho11.reads
      have mm_11 := aa hr11
      clear hb11 ho11 hr11
      dsimp only
      refine hK _ _ ?_
      clear hK K
      refine wpAny_ready (rs := [8]) (by kernel_rfl) (by simp) ?_
      refine AllReady.cons rfl (fun K hK => ?_) AllReady.nil
      go_simp
      refine (CAdd.out _ _ _ _ mm_11.out hc11 x1_11.out).mono ?_
      rintro e w12 ⟨v12, rfl, ho12, hb12⟩
      have e12 := aa hb12
      have bb_12 := aa (bb_11.out.trans (e12.out.mono bb_11.out.size))
      have bw_12 := aa (bw_11.out.trans (e12.out.mono bw_11.out.size))
      have rr_12 := aa (rr_11.out.up e12.out)
      have qq_12 := aa (qq_11.out.below e12.out)
      have hx_12 := cell_up hx_11 e12.out
      have m1_12 := aa (m1_11.out.up e12.out)
      have x1_12 := aa (x1_11.out.up e12.out)
      have mm_12 := aa (mm_11.out.up e12.out)
      have oo_12 := aa (ho12.low bw_11.out.size)
      clear hb12 ho12
      dsimp only
      refine hK _ _ ?_
      clear hK K
      refine takeP 9 10 (v := ?_) rfl rfl (by kernel_rfl) (by kernel_rfl) (by kernel_rfl) (fun _ _ _ h => h) (by kernel_rfl) ?_ ?_
      rotate_left
      ·intro w; first | (go_simp; done) | (go_simp; with_reducible rfl)
      simp only [Act.put, List.setIfInBounds_toArray, List.set_cons_zero, List.set_cons_succ]
      refine wpAny_done (by kernel_rfl) ?_ _
      have FB := bb_12
      have FQ := qq_12
      have FO := oo_12
      rotate_left
      exact AllReady.nil
      exact AllReady.nil
      refine AllReady.cons rfl (fun K hK => ?_) ?_
      go_simp
      refine hK _ _ ?_
      clear hK K
      refine wpAny_ready (rs := [1, 7]) (by kernel_rfl) (by simp) ?_
      refine AllReady.cons rfl (fun K hK => ?_) ?_
      go_simp
      obtain ⟨w14, hw14⟩ : ∃ zw : World, zw = ((wr.alloc (Obj.cells #[.int .u64 4294967296] 112)).drew) := ⟨_, rfl⟩
      have e14 := aa (show Below (wr.drew).heap.size (wr.drew) w14 from by rw [hw14]; exact (ag _ _).alloc (ae _) _)
      have bb_14 := aa (bb0.out.trans (e14.out.mono bb0.out.size))
      have bw_14 := aa (bw0.out.trans (e14.out.mono bw0.out.size))
      have rr_14 := aa (rr0.out.up e14.out)
      have qq_14 := aa (qq0.out.below e14.out)
      have hx_14 := cell_up hx0 e14.out
      have m1_14 := aa (show RdI w14 .u64 (some ⟨wr.heap.size, 0, none⟩) [4294967296] from by rw [hw14]; exact rd1 (wr.drew) 4294967296 (wr.heap.size) (by first | rfl | simp))
      rw [← hw14]
      clear hw14
      refine hK _ _ ?_
      clear hK K
      refine wpAny_ready (rs := [2, 7]) (by kernel_rfl) (by simp) ?_
      refine AllReady.cons rfl (fun K hK => ?_) ?_
      go_simp
      refine (CMul.out _ _ rr_14.out m1_14.out).mono ?_
      rintro e w15 ⟨v15, rfl, ho15, hb15⟩
      have e15 := aa hb15
      have bb_15 := aa (bb_14.out.trans (e15.out.mono bb_14.out.size))
      have bw_15 := aa (bw_14.out.trans (e15.out.mono bw_14.out.size))
      have rr_15 := aa (rr_14.out.up e15.out)
      have qq_15 := aa (qq_14.out.below e15.out)
      have hx_15 := cell_up hx_14 e15.out
      have m1_15 := aa (m1_14.out.up e15.out)
      obtain ⟨A15, c15, rfl, hc15, _, hr15⟩ := ho15.reads
      have mm_15 := aa hr15
      clear hb15 ho15 hr15
      dsimp only
      refine hK _ _ ?_
      clear hK K
      refine wpAny_ready (rs := [7]) (by kernel_rfl) (by simp) ?_
      refine AllReady.cons rfl (fun K hK => ?_) AllReady.nil
      go_simp
      obtain ⟨w16, hw16⟩ : ∃ zw : World, zw = (w15.alloc (Obj.cells #[.int .u64 x] 112)) := ⟨_, rfl⟩
      have e16 := aa (show Below (w15).heap.size (w15) w16 from by rw [hw16]; exact (ag _ _).alloc (ae _) _)
      have bb_16 := aa (bb_15.out.trans (e16.out.mono bb_15.out.size))
      have bw_16 := aa (bw_15.out.trans (e16.out.mono bw_15.out.size))
      have rr_16 := aa (rr_15.out.up e16.out)
      have qq_16 := aa (qq_15.out.below e16.out)
      have hx_16 := cell_up hx_15 e16.out
      have m1_16 := aa (m1_15.out.up e16.out)
      have mm_16 := aa (mm_15.out.up e16.out)
      have x1_16 := aa (show RdI w16 .u64 (some ⟨w15.heap.size, 0, none⟩) [x] from by rw [hw16]; exact rd1 (w15) x (w15.heap.size) (by first | rfl | simp))
      rw [← hw16]
      clear hw16
      refine hK _ _ ?_
      clear hK K
      refine wpAny_ready (rs := [8]) (by kernel_rfl) (by simp) ?_
      refine AllReady.cons rfl (fun K hK => ?_) AllReady.nil
      go_simp
      refine (CAdd.out _ _ _ _ mm_16.out hc15 x1_16.out).mono ?_
      rintro e w17 ⟨v17, rfl, ho17, hb17⟩
      have e17 := aa hb17
      have bb_17 := aa (bb_16.out.trans (e17.out.mono bb_16.out.size))
      have bw_17 := aa (bw_16.out.trans (e17.out.mono bw_16.out.size))
      have rr_17 := aa (rr_16.out.up e17.out)
      have qq_17 := aa (qq_16.out.below e17.out)
      have hx_17 := cell_up hx_16 e17.out
      have m1_17 := aa (m1_16.out.up e17.out)
      have mm_17 := aa (mm_16.out.up e17.out)
      have x1_17 := aa (x1_16.out.up e17.out)
      have oo_17 := aa (ho17.low bw_16.out.size)
      clear hb17 ho17
      dsimp only
      refine hK _ _ ?_
      clear hK K
      refine takeP 9 10 (v := ?_) rfl rfl (by kernel_rfl) (by kernel_rfl) (by kernel_rfl) (fun _ _ _ h => h) (by kernel_rfl) ?_ ?_
      rotate_left
      ·intro w; first | (go_simp; done) | (go_simp; with_reducible rfl)
      simp only [Act.put, List.setIfInBounds_toArray, List.set_cons_zero, List.set_cons_succ]
      refine wpAny_done (by kernel_rfl) ?_ _
      have FB := bb_17
      have FQ := qq_17
      have FO := oo_17
      rotate_left
      refine AllReady.cons rfl (fun K hK => ?_) ?_
      go_simp
      obtain ⟨w18, hw18⟩ : ∃ zw : World, zw = (w14.alloc (Obj.cells #[.int .u64 x] 112)) := ⟨_, rfl⟩
      have e18 := aa (show Below (w14).heap.size (w14) w18 from by rw [hw18]; exact (ag _ _).alloc (ae _) _)
      have bb_18 := aa (bb_14.out.trans (e18.out.mono bb_14.out.size))
      have bw_18 := aa (bw_14.out.trans (e18.out.mono bw_14.out.size))
      have rr_18 := aa (rr_14.out.up e18.out)
      have qq_18 := aa (qq_14.out.below e18.out)
      have hx_18 := cell_up hx_14 e18.out
      have m1_18 := aa (m1_14.out.up e18.out)
      have x1_18 := aa (show RdI w18 .u64 (some ⟨w14.heap.size, 0, none⟩) [x] from by rw [hw18]; exact rd1 (w14) x (w14.heap.size) (by first | rfl | simp))
      rw [← hw18]
      clear hw18
      refine hK _ _ ?_
      clear hK K
      refine wpAny_ready (rs := [2]) (by kernel_rfl) (by simp) ?_
      refine AllReady.cons rfl (fun K hK => ?_) AllReady.nil
      go_simp
      refine (CMul.out _ _ rr_18.out m1_18.out).mono ?_
      rintro e w19 ⟨v19, rfl, ho19, hb19⟩
      have e19 := aa hb19
      have bb_19 := aa (bb_18.out.trans (e19.out.mono bb_18.out.size))
      have bw_19 := aa (bw_18.out.trans (e19.out.mono bw_18.out.size))
      have rr_19 := aa (rr_18.out.up e19.out)
      have qq_19 := aa (qq_18.out.below e19.out)
      have hx_19 := cell_up hx_18 e19.out
      have m1_19 := aa (m1_18.out.up e19.out)
      have x1_19 := aa (x1_18.out.up e19.out)
      obtain ⟨A19, c19, rfl, hc19, _, hr19⟩ := ho19.reads
      have mm_19 := aa hr19
      clear hb19 ho19 hr19
      dsimp only
      refine hK _ _ ?_
      clear hK K
      refine wpAny_ready (rs := [8]) (by kernel_rfl) (by simp) ?_
      refine AllReady.cons rfl (fun K hK => ?_) AllReady.nil
      go_simp
      refine (CAdd.out _ _ _ _ mm_19.out hc19 x1_19.out).mono ?_
      rintro e w20 ⟨v20, rfl, ho20, hb20⟩
      have e20 := aa hb20
      have bb_20 := aa (bb_19.out.trans (e20.out.mono bb_19.out.size))
      have bw_20 := aa (bw_19.out.trans (e20.out.mono bw_19.out.size))
      have rr_20 := aa (rr_19.out.up e20.out)
      have qq_20 := aa (qq_19.out.below e20.out)
      have hx_20 := cell_up hx_19 e20.out
      have m1_20 := aa (m1_19.out.up e20.out)
      have x1_20 := aa (x1_19.out.up e20.out)
      have mm_20 := aa (mm_19.out.up e20.out)
      have oo_20 := aa (ho20.low bw_19.out.size)
      clear hb20 ho20
      dsimp only
      refine hK _ _ ?_
      clear hK K
      refine takeP 9 10 (v := ?_) rfl rfl (by kernel_rfl) (by kernel_rfl) (by kernel_rfl) (fun _ _ _ h => h) (by kernel_rfl) ?_ ?_
      rotate_left
      ·intro w; first | (go_simp; done) | (go_simp; with_reducible rfl)
      simp only [Act.put, List.setIfInBounds_toArray, List.set_cons_zero, List.set_cons_succ]
      refine wpAny_done (by kernel_rfl) ?_ _
      have FB := bb_20
      have FQ := qq_20
      have FO := oo_20
      rotate_left
      exact AllReady.nil
      refine AllReady.cons rfl (fun K hK => ?_) ?_
      go_simp
      obtain ⟨w21, hw21⟩ : ∃ zw : World, zw = ((wr.alloc (Obj.cells #[.int .u64 x] 112)).drew) := ⟨_, rfl⟩
      have e21 := aa (show Below (wr.drew).heap.size (wr.drew) w21 from by rw [hw21]; exact (ag _ _).alloc (ae _) _)
      have bb_21 := aa (bb0.out.trans (e21.out.mono bb0.out.size))
      have bw_21 := aa (bw0.out.trans (e21.out.mono bw0.out.size))
      have rr_21 := aa (rr0.out.up e21.out)
      have qq_21 := aa (qq0.out.below e21.out)
      have hx_21 := cell_up hx0 e21.out
      have x1_21 := aa (show RdI w21 .u64 (some ⟨wr.heap.size, 0, none⟩) [x] from by rw [hw21]; exact rd1 (wr.drew) x (wr.heap.size) (by first | rfl | simp))
      rw [← hw21]
      clear hw21
      refine hK _ _ ?_
      clear hK K
      refine wpAny_ready (rs := [1]) (by kernel_rfl) (by simp) ?_
      refine AllReady.cons rfl (fun K hK => ?_) AllReady.nil
      go_simp
      obtain ⟨w22, hw22⟩ : ∃ zw : World, zw = (w21.alloc (Obj.cells #[.int .u64 4294967296] 112)) := ⟨_, rfl⟩
      have e22 := aa (show Below (w21).heap.size (w21) w22 from by rw [hw22]; exact (ag _ _).alloc (ae _) _)
      have bb_22 := aa (bb_21.out.trans (e22.out.mono bb_21.out.size))
      have bw_22 := aa (bw_21.out.trans (e22.out.mono bw_21.out.size))
      have rr_22 := aa (rr_21.out.up e22.out)
      have qq_22 := aa (qq_21.out.below e22.out)
      have hx_22 := cell_up hx_21 e22.out
      have x1_22 := aa (x1_21.out.up e22.out)
      have m1_22 := aa (show RdI w22 .u64 (some ⟨w21.heap.size, 0, none⟩) [4294967296] from by rw [hw22]; exact rd1 (w21) 4294967296 (w21.heap.size) (by first | rfl | simp))
      rw [← hw22]
      clear hw22
      refine hK _ _ ?_
      clear hK K
      refine wpAny_ready (rs := [2]) (by kernel_rfl) (by simp) ?_
      refine AllReady.cons rfl (fun K hK => ?_) AllReady.nil
      go_simp
      refine (CMul.out _ _ rr_22.out m1_22.out).mono ?_
      rintro e w23 ⟨v23, rfl, ho23, hb23⟩
      have e23 := aa hb23
      have bb_23 := aa (bb_22.out.trans (e23.out.mono bb_22.out.size))
      have bw_23 := aa (bw_22.out.trans (e23.out.mono bw_22.out.size))
      have rr_23 := aa (rr_22.out.up e23.out)
      have qq_23 := aa (qq_22.out.below e23.out)
      have hx_23 := cell_up hx_22 e23.out
      have x1_23 := aa (x1_22.out.up e23.out)
      have m1_23 := aa (m1_22.out.up e23.out)
      obtain ⟨A23, c23, rfl, hc23, _, hr23⟩ := ho23.reads
      have mm_23 := aa hr23
      clear hb23 ho23 hr23
      dsimp only
      refine hK _ _ ?_
      clear hK K
      refine wpAny_ready (rs := [8]) (by kernel_rfl) (by simp) ?_
      refine AllReady.cons rfl (fun K hK => ?_) AllReady.nil
      go_simp
      refine (CAdd.out _ _ _ _ mm_23.out hc23 x1_23.out).mono ?_
      rintro e w24 ⟨v24, rfl, ho24, hb24⟩
      have e24 := aa hb24
      have bb_24 := aa (bb_23.out.trans (e24.out.mono bb_23.out.size))
      have bw_24 := aa (bw_23.out.trans (e24.out.mono bw_23.out.size))
      have rr_24 := aa (rr_23.out.up e24.out)
      have qq_24 := aa (qq_23.out.below e24.out)
      have hx_24 := cell_up hx_23 e24.out
      have x1_24 := aa (x1_23.out.up e24.out)
      have m1_24 := aa (m1_23.out.up e24.out)
      have mm_24 := aa (mm_23.out.up e24.out)
      have oo_24 := aa (ho24.low bw_23.out.size)
      clear hb24 ho24
      dsimp only
      refine hK _ _ ?_
      clear hK K
      refine takeP 9 10 (v := ?_) rfl rfl (by kernel_rfl) (by kernel_rfl) (by kernel_rfl) (fun _ _ _ h => h) (by kernel_rfl) ?_ ?_
      rotate_left
      ·intro w; first | (go_simp; done) | (go_simp; with_reducible rfl)
      simp only [Act.put, List.setIfInBounds_toArray, List.set_cons_zero, List.set_cons_succ]
      refine wpAny_done (by kernel_rfl) ?_ _
      have FB := bb_24
      have FQ := qq_24
      have FO := oo_24
      rotate_left
      exact AllReady.nil
      exact AllReady.nil
      all_goals (
       go_wp2_with fail
       go_meet
       exact ⟨FB, FO, FQ⟩)
     case rest =>
      obtain ⟨FB, FO, FQ⟩ := hcut
      clear bb0 bw0 rr0 qq0 hx0 CMul CAdd hcx
      have FO2 := aa (FO.out.low hws.out)
      obtain ⟨AN, cN, hvN, hcN, _, hrN⟩ := FO.out.reads
      subst hvN
      have HiQ : Hd (i < Q.length) := ⟨by have := hQl.out; omega⟩
      have CC := aa (ref_Cmp AN B cN d N m wc hrN hcN (by omega) (HM.out.up (BX2.out.trans (FB.out.mono BX2.out.size))) hn' (by omega) HMN.out.2.2.2.1 HU.out)
      have DS := aa (fun q (hq : q = (val R * 4294967296 + x.toNat) / val m) => div_step (X := X) (Q := Q) (i := i) (R := val R) (x := x.toNat) (b := val m) (q := q) hx.out rfl hix hQl.out (fun j hj => hQ0.out j (by omega)) hv.out hq)
      have HNB : Hd (val N < val m * 4294967296) := ⟨by
       have e1 := HMN.out.2.2.1
       have e2 := hRv.out.2
       have e3 := HXB.out
       rw [e1]
       omega⟩
      have hQ02 : Hd (∀ j, j < i → Q.getD j 0 = 0) := ⟨fun j hj => hQ0.out j (by omega)⟩
      have hQi : Hd (Q.getD i 0 = 0) := ⟨hQ0.out i (by omega)⟩
      rcases Nat.lt_or_ge (val N) (val m) with hlt | hge
      ·rw [cmpN_lt hlt] at CC
       have HV : Hd (v32 (X.drop i) = v32 (Q.drop i) * val m + val N) := ⟨by
        have e1 := HMN.out.2.2.1
        have e2 := DS.out 0 (by rw [← e1, Nat.div_eq_of_lt hlt])
        rw [show Q.set i ((0 : Nat) : Int) = Q by
         apply List.ext_getElem?
         intro j
         rw [List.getElem?_set]
         split
         ·rename_i hij
          subst hij
          rw [if_pos HiQ.out, ai HiQ.out, ← getD_at HiQ.out, hQi.out]; rfl
         ·rfl, ← e1, Nat.mod_eq_of_lt hlt] at e2
        exact e2⟩
       have HNl : Hd (N = limbs (val N) ∧ val N < val m) := ⟨HMN.out.2.2.2.2, hlt⟩
       clear hlt hrN
       go_wp2_with fail
       refine CC.out.mono ?_
       rintro e w' ⟨rfl, rfl⟩
       go_wp2_with fail
       go_roundw
       case measure => first | (simp [intOf]; done) | (simp [intOf]; omega)
       case rel => exact ⟨i, Q, N, by go_num, by omega, hQl, FQ, hQ32, hQ02, FO2, HNl, HV, FB⟩
      ·obtain ⟨q0, hq0⟩ : ∃ q0, cmpN (val N) (val m) = q0 := ⟨_, rfl⟩
       have hq1 : 0 ≤ q0 := by
        rw [← hq0]; unfold cmpN
        rw [if_neg (by omega)]
        split <;> omega
       rw [hq0] at CC
       obtain ⟨T, hT⟩ : ∃ T, val N / val m = T := ⟨_, rfl⟩
       have CT := aa (ref_times AN B cN d N m wc hrN hcN (by omega) (HM.out.up (BX2.out.trans (FB.out.mono BX2.out.size))) hn' (by omega) HMN.out.2.2.2.1 HU.out HMP.out HNB.out)
       rw [hT] at CT
       have HTV : Hd (T < 4294967296 ∧ val m * T ≤ val N ∧ val N - val m * T = val N % val m) := ⟨by
        refine ⟨?_, ?_, ?_⟩
        ·rw [← hT]; exact Nat.div_lt_of_lt_mul HNB.out
        ·rw [← hT]; exact Nat.mul_div_le _ _
        ·rw [← hT]; have := Nat.div_add_mod (val N) (val m); omega⟩
       have HV : Hd (v32 (X.drop i) = v32 ((Q.set i (T : Int)).drop i) * val m + val N % val m) := ⟨by
        have e1 := HMN.out.2.2.1
        have e2 := DS.out T (by rw [← e1, hT])
        rw [← e1] at e2
        exact e2⟩
       clear hT hq0 hge hrN
       go_wp2_with fail
       refine CC.out.mono ?_
       rintro e w' ⟨rfl, rfl⟩
       go_wp2_with fail
       refine CT.out.mono ?_
       rintro e w7 ⟨rfl, hb7⟩
       have FB7 := aa (FB.out.trans (hb7.mono FB.out.size))
       have FQ7 := aa (FQ.out.below hb7)
       have FO7 := aa (FO.out.below hb7)
       obtain ⟨hco, fz⟩ := FQ7.out.cellAt HiQ.out
       have i4 : (i : Int) < Q.length := by have := HiQ.out; omega
       have HNE : Hd (Value.ownBlock (.slice AN N.length cN) ≠ some g) := ⟨fun e => by
        have := own_lo (show World.ownsRow _ _ _ _ _ _ _ from FO7.out) e
        omega⟩
       clear hb7 CC CT
       go_upto_region 20 with (fail)
       refine wp_gen (fun W => Below w2.heap.size w2 W ∧ OwnI W w2.heap.size 112 .u64 (.slice (some ⟨g, 0, none⟩) Q.length cap) (Q.set i (T : Int)) ∧ OwnI W w2.heap.size 112 .u64 (.slice AN N.length cN) N)
        ⟨FB7.out.setCell (p := ⟨g, i, none⟩) hg1 _, FQ7.out.put HiQ.out _, (FO7.out.low hws.out).far HNE.out _⟩ ?_
       intro W8 B8
       clear hco fz FB7 FQ7 FO7 FB FQ FO FO2
       have hkv : val [(T : Int)] = T := by simp [val]
       obtain ⟨hco8, _⟩ := B8.out.2.1.cellAt (i := i) (by rw [List.length_set]; exact HiQ.out)
       rw [show (Q.set i (T : Int)).getD i 0 = T by rw [List.getD_eq_getElem?_getD, List.getElem?_set, if_pos rfl, if_pos HiQ.out]; rfl] at hco8
       have hal8 : Below W8.heap.size W8 (W8.alloc (.cells #[.int .u64 (T : Int)] 112)) := (ag _ _).alloc (ae _) _
       have BA := aa (B8.out.1.trans (hal8.mono B8.out.1.size))
       have CMul := aa (ref_Mul B (some ⟨W8.heap.size, 0, none⟩) d 1 m [(T : Int)] _ (HM.out.up (BX2.out.trans (BA.out.mono BX2.out.size))) hn' (by omega) (rd1 W8 T _ rfl) (ae _) (by simp) HU.out (U64.nil.cons (by omega) (by have := HTV.out.1; omega)))
       rw [hkv] at CMul
       obtain ⟨Pr, hPr⟩ : ∃ Pr, limbs (val m * T) = Pr := ⟨_, rfl⟩
       have HPR : Hd (val Pr = val m * T ∧ U64 Pr) := ⟨by rw [← hPr, val_limbs]; exact ⟨rfl, limbs_u64 _⟩⟩
       have hPl : Pr.length ≤ 9 := by
        rw [← hPr]
        refine limbs_len.2 ?_
        have h2 := val_lt HU.out
        have h3 : 18446744073709551616 ^ m.length ≤ 18446744073709551616 ^ 8 := Nat.pow_le_pow_right (by decide) hm8
        have h4 := HTV.out.1
        calc val m * T < 18446744073709551616 ^ 8 * 18446744073709551616 := Nat.mul_lt_mul'' (by omega) (by omega)
         _ = 18446744073709551616 ^ 9 := (Nat.pow_succ ..).symm
       rw [hPr] at CMul
       obtain ⟨AN', cN', e', hcN', _, hrN⟩ := B8.out.2.2.reads
       injection e' with e1 e2 e3
       subst e1 e3
       have CSub := aa (fun A5 c5 W (hW : Below W8.heap.size W8 W) (h5 : RdI W .u64 A5 Pr) (hc5 : Pr.length ≤ c5) => ref_Sub AN A5 cN c5 N Pr W (hrN.up hW) hcN (by omega) h5 hc5 (by omega) HMN.out.2.2.2.1 HPR.out.2)
       have hsv : limbs (val N - val Pr) = limbs (val N % val m) ∧ decide (val Pr ≤ val N) = true := by
        rw [HPR.out.1, HTV.out.2.2]
        exact ⟨rfl, decide_eq_true HTV.out.2.1⟩
       rw [hsv.1, hsv.2] at CSub
       obtain ⟨R', hR'⟩ : ∃ R', limbs (val N % val m) = R' := ⟨_, rfl⟩
       rw [hR'] at CSub
       have HRR' : Hd (R' = limbs (val R') ∧ val R' < val m ∧ val R' = val N % val m) := ⟨by
        rw [← hR', val_limbs]
        exact ⟨rfl, Nat.mod_lt _ HMP.out, rfl⟩⟩
       have HAL8 := aa hal8
       clear hal8 hrN hsv hPr hR' hkv
       go_wp2_with fail
       refine CMul.out.mono ?_
       rintro e w9 ⟨v9, rfl, ho9, hb9⟩
       obtain ⟨A9, c9, rfl, hc9, _, hr9⟩ := ho9.reads
       have B89 := aa (HAL8.out.trans (hb9.mono HAL8.out.size))
       have B9 := aa (B8.out.1.trans (B89.out.mono B8.out.1.size))
       have CSub9 := aa (CSub.out A9 c9 w9 B89.out hr9 hc9)
       have Q9 := aa (B8.out.2.1.below B89.out)
       clear ho9 hb9 hr9 CMul CSub hco8
       go_wp2_with fail
       refine CSub9.out.mono ?_
       rintro e w10 ⟨v10', rfl, ho10, hb10⟩
       have B10 := aa (B9.out.trans (hb10.mono B9.out.size))
       have O10 := aa (ho10.low B9.out.size)
       have Q10 := aa (Q9.out.below hb10)
       have HQ10 : Hd ((Q.set i (T : Int)).length = X.length) := ⟨by rw [List.length_set]; exact hQl.out⟩
       have H3210 : Hd (H32 (Q.set i (T : Int))) := ⟨hQ32.out.set _ (by have := HTV.out.1; omega)⟩
       have HZ10 : Hd (∀ j, j < i → (Q.set i (T : Int)).getD j 0 = 0) := ⟨fun j hj => by
        rw [List.getD_eq_getElem?_getD, List.getElem?_set, if_neg (by omega), ← List.getD_eq_getElem?_getD]
        exact hQ02.out j hj⟩
       have HV10 : Hd (v32 (X.drop i) = v32 ((Q.set i (T : Int)).drop i) * val m + val R') := ⟨by rw [HRR'.out.2.2]; exact HV.out⟩
       clear ho10 hb10
       go_wp2_with fail
       go_roundw
       case measure => first | (simp [intOf]; done) | (simp [intOf]; omega)
       case rel => exact ⟨i, Q.set i (T : Int), R', by go_num, by omega, HQ10, Q10, H3210, HZ10, O10, ⟨HRR'.out.1, HRR'.out.2.1⟩, HV10, B10⟩
theorem rquot_Div_one (A B : Option Addr) (c d : Nat) (x y : Int) (w : World) (h : RdI w .u64 A [x]) (hn : 1 ≤ c) (h' : RdI w .u64 B [y]) (hn' : 1 ≤ d) (hu : U64 [x]) (hu' : U64 [y])
    (hm : natMay [x] = true) (hm' : natMay [y] = true) :
    Calls Tryz.prog 219 #[.slice A 1 c, .slice B 1 d] w fun e w' => ∃ v u, e = .returned (.tuple #[v, u, .int .i64 0]) ∧ OwnI w' w.heap.size 112 .u64 v (limbs (x.toNat / y.toNat)) ∧
     OwnI w' w.heap.size 112 .u64 u (limbs (x.toNat % y.toNat)) ∧ Below w.heap.size w w' := by
 have M1 := aa (rnat_May A c [x] w h hn (by simp))
 have M2 := aa (rnat_May B d [y] w h' hn' (by simp))
 rw [hm] at M1
 rw [hm'] at M2
 obtain ⟨ad, x', rfl, _, hx, hcx⟩ := RdI.get (i := 0) h (by simp)
 obtain ⟨bd, y', rfl, _, hy, hcy⟩ := RdI.get (i := 0) h' (by simp)
 have e1 : x' = x := by have := hx.out; simpa using this.symm
 have e2 : y' = y := by have := hy.out; simpa using this.symm
 subst e1 e2
 have ea : ad.add 0 = ad := by simp [Addr.add]
 have eb : bd.add 0 = bd := by simp [Addr.add]
 have hca : w.cell? ad = some (.int .u64 x') := by rw [← ea]; exact hcx
 have hcb : w.cell? bd = some (.int .u64 y') := by rw [← eb]; exact hcy
 clear ea eb hcx hcy
 obtain ⟨hx0, hx1⟩ := hu x' (by simp)
 obtain ⟨hy0, hy1⟩ := hu' y' (by simp)
 have hyp : y' ≠ 0 := by
  intro e; subst e
  revert hm'; decide
 obtain ⟨Q, hQ⟩ : ∃ Q, IntKind.u64.wrap (x'.tdiv y') = Q := ⟨_, rfl⟩
 obtain ⟨R, hR⟩ : ∃ R, x'.tmod y' = R := ⟨_, rfl⟩
 obtain ⟨a, ha⟩ : ∃ a, x'.toNat = a := ⟨_, rfl⟩
 obtain ⟨b, hb⟩ : ∃ b, y'.toNat = b := ⟨_, rfl⟩
 have xa : x' = (a : Int) := by omega
 have yb : y' = (b : Int) := by omega
 obtain ⟨p, hp⟩ : ∃ p, a / b = p := ⟨_, rfl⟩
 obtain ⟨q, hq⟩ : ∃ q, a % b = q := ⟨_, rfl⟩
 have lQ : p ≤ a := hp ▸ Nat.div_le_self _ _
 have lR : q ≤ a := hq ▸ Nat.mod_le _ _
 have eQ : Q = (p : Int) := by
  rw [← hQ, Int.tdiv_eq_ediv_of_nonneg hx0, xa, yb, ← Int.natCast_ediv, hp]
  exact IntWalk.u64_in _ (by omega)
 have eR : R = (q : Int) := by
  rw [← hR, Int.tmod_eq_emod_of_nonneg hx0, xa, yb, ← Int.natCast_emod, hq]
 have C1 := aa (fun W (hb : Hd (Below w.heap.size w W)) => rnat_Of Q (by omega) (by omega) W)
 have C2 := aa (fun W (hb : Hd (Below w.heap.size w W)) => rnat_Of R (by omega) (by omega) W)
 rw [show Q.toNat = p by omega, ← hp] at C1
 rw [show R.toNat = q by omega, ← hq] at C2
 rw [ha, hb]
 clear xa yb lQ lR eQ eR hp hq ha hb
 have y0 : (y' == 0) = false := by rw [beq_eq_false_iff_ne]; exact hyp
 have hb0 : Hd (Below w.heap.size w w) := ⟨.refl _ _⟩
 clear h h' hu hu' hm hm' hx hy hx0 hx1 hy0 hy1
 go_enter Tryz.func219, Tryz.ntmps219
 go_wp2_with fail
 refine M1.out.mono ?_
 rintro e w' ⟨rfl, rfl⟩
 go_wp2_with fail
 refine M2.out.mono ?_
 rintro e w' ⟨rfl, rfl⟩
 go_wp2_with fail
 go_region_held3 (fun w' => Hd (Below w.heap.size w w') ∧ w'.cell? ad = some (.int .u64 x') ∧ w'.cell? bd = some (.int .u64 y'))
  (first
   | exact hS
   | exact ⟨hb0, hca, hcb⟩
   | exact ⟨⟨hb0.out.drew⟩, hca, hcb⟩)
  (first
   | (go_at_call 120; obtain ⟨hB, q1, q2⟩ := ‹Hd (Below w.heap.size w _) ∧ _›; with_reducible refine (C1.out _ hB).mono ?_; rintro e w' ⟨x, rfl, ho, hb⟩
      have hS := af (aa (hB.out.trans (hb.mono hB.out.size))) (af (cell_up q1 hb) (cell_up q2 hb))
      have HX := aa (ho.low hB.out.size); clear ho)
   | (go_at_call 120; obtain ⟨hB, q1, q2⟩ := ‹Hd (Below w.heap.size w _) ∧ _›; with_reducible refine (C2.out _ hB).mono ?_; rintro e w2 ⟨y, rfl, ho, hb⟩
      have hS := af (aa (hB.out.trans (hb.mono hB.out.size))) (af (cell_up q1 hb) (cell_up q2 hb))
      have HX2 := aa (HX.out.below hb)
      have HY := aa (ho.low hB.out.size)
      clear ho))
 go_wp2_with fail
 go_ret3
 exact ⟨_, _, rfl, HX2.out, HY.out, hS.1.out⟩
theorem natMay_posN {l : List Int} (h : natMay l = true) (hu : U64 l) (hl : 0 < l.length) : 0 < val l := by
 rcases Nat.eq_zero_or_pos (val l) with h0 | h0
 ·have := natMay_limbs h hu
  rw [h0, limbs_zero] at this
  rw [← this] at hl
  cases hl
 ·exact h0
theorem rquot_Div (A B : Option Addr) (c d : Nat) (l m : List Int) (w : World) (h : RdI w .u64 A l) (hn : l.length ≤ c) (h' : RdI w .u64 B m) (hn' : m.length ≤ d) (hu : U64 l) (hu' : U64 m)
    (hm : natMay l = true) (hm' : natMay m = true) (h1 : 0 < m.length) :
    Calls Tryz.prog 219 #[.slice A l.length c, .slice B m.length d] w fun e w' => ∃ v u, e = .returned (.tuple #[v, u, .int .i64 0]) ∧ OwnI w' w.heap.size 112 .u64 v (limbs (val l / val m)) ∧
     OwnI w' w.heap.size 112 .u64 u (limbs (val l % val m)) ∧ Below w.heap.size w w' := by
 by_cases hh : l.length = 1 ∧ m.length = 1
 ·obtain ⟨x, rfl⟩ := List.length_eq_one_iff.1 hh.1
  obtain ⟨y, rfl⟩ := List.length_eq_one_iff.1 hh.2
  have r := rquot_Div_one A B c d x y w h hn h' hn' hu hu' hm hm'
  rw [show x.toNat = val [x] by simp [val], show y.toNat = val [y] by simp [val]] at r
  exact r
 ·exact rquot_Div_main A B c d l m w h hn h' hn' hu hu' hm hm' h1 hh
theorem rquot_Gcd_bad (A B : Option Addr) (c d : Nat) (l m : List Int) (w : World) (h : RdI w .u64 A l) (hn : l.length ≤ c) (h' : RdI w .u64 B m) (hn' : m.length ≤ d) (h9 : l.length ≤ 1000000000) (h9' : m.length ≤ 1000000000)
    (hm : (natMay l && natMay m) = false) :
    Calls Tryz.prog 154 #[.slice A l.length c, .slice B m.length d] w fun e w' => e = .returned (.tuple #[.slice none 0 0, .int .i64 1]) ∧ w = w' := by
 have C1 := aa (rnat_May A c l w h hn h9)
 have C2 := aa (rnat_May B d m w h' hn' h9')
 clear h h'
 cases hb : natMay l
 ·rw [hb] at C1
  clear hm hb
  go_enter Tryz.func154, Tryz.ntmps154
  go_wp2_with fail
  refine C1.out.mono ?_
  rintro e w' ⟨rfl, rfl⟩
  go_wp2_with fail
  go_ret2
  exact ⟨rfl, rfl⟩
 ·rw [hb] at C1 hm
  rw [Bool.true_and] at hm
  rw [hm] at C2
  clear hm hb
  go_enter Tryz.func154, Tryz.ntmps154
  go_wp2_with fail
  refine C1.out.mono ?_
  rintro e w' ⟨rfl, rfl⟩
  go_wp2_with fail
  refine C2.out.mono ?_
  rintro e w' ⟨rfl, rfl⟩
  go_wp2_with fail
  go_ret2
  exact ⟨rfl, rfl⟩
theorem rquot_Gcd (A B : Option Addr) (c d : Nat) (l m : List Int) (w : World) (h : RdI w .u64 A l) (hn : l.length ≤ c) (h' : RdI w .u64 B m) (hn' : m.length ≤ d) (hu : U64 l) (hu' : U64 m)
    (hm : natMay l = true) (hm' : natMay m = true) :
    Calls Tryz.prog 154 #[.slice A l.length c, .slice B m.length d] w fun e w' => ∃ A' c' G, e = .returned (.tuple #[.slice A' G.length c', .int .i64 0]) ∧ G = limbs (Nat.gcd (val l) (val m)) ∧ G.length ≤ c' ∧ RdI w' .u64 A' G ∧ Below w.heap.size w w' := by
 have hl8 := natMay_len hm
 have hm8 := natMay_len hm'
 have C1 := aa (rnat_May A c l w h hn (by omega))
 have C2 := aa (rnat_May B d m w h' hn' (by omega))
 rw [hm] at C1
 rw [hm'] at C2
 have HL := aa h
 have HM := aa h'
 have HU := aa (af hu (af hu' (af hm hm')))
 have HB0 : Hd (Below w.heap.size w w) := ⟨.refl _ _⟩
 clear h h' hu hu' hm hm'
 go_enter Tryz.func154, Tryz.ntmps154
 go_wp2_with fail
 refine C1.out.mono ?_
 rintro e w' ⟨rfl, rfl⟩
 go_wp2_with fail
 refine C2.out.mono ?_
 rintro e w' ⟨rfl, rfl⟩
 go_wp2_with fail
 go_loopg [0, 1] (val m) (fun k v0 v1 wr => ∃ (x y : List Int) (A1 A2 : Option Addr) (c1 c2 : Nat), v0 = .slice A1 x.length c1 ∧ v1 = .slice A2 y.length c2 ∧ x.length ≤ c1 ∧ y.length ≤ c2 ∧ Hd (k = val y) ∧ Hd (RdI wr .u64 A1 x) ∧
  Hd (RdI wr .u64 A2 y) ∧ Hd (Below w.heap.size w wr) ∧ Hd (U64 x ∧ U64 y ∧ natMay x = true ∧ natMay y = true) ∧ Hd (Nat.gcd (val x) (val y) = Nat.gcd (val l) (val m)))
 case atStart => exact ⟨l, m, A, B, c, d, rfl, rfl, hn, hn', ⟨rfl⟩, HL, HM, HB0, HU, ⟨rfl⟩⟩
 case round =>
  clear HL HM HB0 HU hn hn' hl8 hm8
  obtain ⟨x, y, A1, A2, c1, c2, rfl, rfl, hc1, hc2, hk, ho1, ho2, hb, hu, hg⟩ := hrel
  by_cases hy : 0 < y.length
  ·have hy' : (0 : Int) < y.length := by omega
   have CD := aa (rquot_Div A1 A2 c1 c2 x y wr ho1.out hc1 ho2.out hc2 hu.out.1 hu.out.2.1 hu.out.2.2.1 hu.out.2.2.2 hy)
   have hpos : Hd (0 < val y) := ⟨natMay_posN hu.out.2.2.2 hu.out.2.1 hy⟩
   go_wp2_with fail
   refine CD.out.mono ?_
   rintro e w3 ⟨q, r, rfl, _, hor, hb3⟩
   obtain ⟨A3, c3, rfl, hc3, _, hrr⟩ := hor.reads
   have HOR := aa hrr
   have HB3 := aa hb3
   have hlt : Hd (val x % val y < val y) := ⟨Nat.mod_lt _ hpos.out⟩
   have hz : Hd (natMay (limbs (val x % val y)) = true ∧ val (limbs (val x % val y)) = val x % val y) := ⟨limbs_may (by
    rw [limbs_len]
    have h1 := val_lt hu.out.2.1
    have h2 := natMay_len hu.out.2.2.2
    have h3 : 18446744073709551616 ^ y.length ≤ 18446744073709551616 ^ 8 := Nat.pow_le_pow_right (by decide) h2
    have := hlt.out
    omega), val_limbs _⟩
   clear hor hb3 hrr
   go_wp2_with fail
   go_roundg (val x % val y)
   case measure => rw [hk.out]; exact hlt.out
   case rel =>
    refine ⟨y, limbs (val x % val y), A2, A3, c2, c3, rfl, rfl, hc2, hc3, ⟨hz.out.2.symm⟩, ⟨ho2.out.up HB3.out⟩, HOR, ⟨hb.out.trans (HB3.out.mono hb.out.size)⟩, ⟨hu.out.2.1, limbs_u64 _, hu.out.2.2.2, hz.out.1⟩, ⟨?_⟩⟩
    rw [hz.out.2, ← hg.out, Nat.gcd_comm (val y), ← Nat.gcd_rec, Nat.gcd_comm]
  ·have hy0 : y.length = 0 := by omega
   have hyn := List.eq_nil_of_length_eq_zero hy0
   subst hyn
   clear hy hy0
   go_wp2_with fail
   go_ret2
   refine ⟨_, _, x, rfl, ?_, hc1, ho1.out, hb.out⟩
   have h1 := hg.out
   rw [show val [] = 0 from rfl, Nat.gcd_zero_right] at h1
   rw [← h1, natMay_limbs hu.out.2.2.1 hu.out.1]
end Go.Proofs.YtgjkgkgieeoalaaGreat
