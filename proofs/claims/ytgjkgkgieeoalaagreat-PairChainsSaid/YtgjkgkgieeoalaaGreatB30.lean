/- Parts of the proof, joined: each theorem says what it shows. -/
import Derived.Test.YtgjkgkgieeoalaaGreatB29
import Derived.Test.YtgjkgkgieeoalaaGreatB25
import Derived.Test.YtgjkgkgieeoalaaGreatB24
import Derived.ChangeKeysEq
set_option linter.unusedVariables false
set_option linter.unusedSimpArgs false
set_option maxHeartbeats 24000000
set_option maxRecDepth 100000
namespace Go.Proofs.YtgjkgkgieeoalaaGreat
open Go.RowKit Go.PlainAid
theorem text_sum (s : ByteArray) (g : Nat) (w : World) (hk : Bk w g 244 (tx s 0 false)) (hs : s.size ≤ 1000000) :
    Calls Tryz.prog 222 #[.pointer (some ⟨g, 0, none⟩)] w fun e w' => ∃ v K, e = .returned v ∧ OwnP w' w.heap.size v (sumD s).1 ∧ Bk w' g 244 (tx s K (sumD s).2) ∧ w.grownBy w' (some g) := by
 obtain ⟨E, hE⟩ : ∃ E, sumD s = E := ⟨_, rfl⟩
 rw [hE]
 have HE := Hd.mk hE
 clear hE
 unfold sumD at HE
 dsimp only at HE
 have hsm : s.size ≤ maxLen := by unfold maxLen; omega
 have CE := Hd.mk (text_eat s 0 g false 45 w hk hsm (Nat.zero_le _))
 have h1 := eatK_le (s := s) (c := 45) (Nat.zero_le _)
 obtain ⟨k1, hk1⟩ : ∃ k1, eatK s 0 45 = k1 := ⟨_, rfl⟩
 obtain ⟨B, hB⟩ : ∃ B, eatB s 0 45 = B := ⟨_, rfl⟩
 rw [hk1, hB] at CE HE
 rw [hk1] at h1
 have hY2 := productD_le (bad := false) (neg := B) h1
 have CP := Hd.mk (fun W (hW : Bk W g 244 (tx s k1 false)) => text_product s k1 g false B W hW hs h1)
 obtain ⟨Y, hY⟩ : ∃ Y, productD s k1 false B = Y := ⟨_, rfl⟩
 rw [hY] at CP HE hY2
 obtain ⟨P1, k2, bad2⟩ := Y
 dsimp only at CP HE hY2
 have HY2 := Hd.mk hY2
 have HGL := Hd.mk hk.lt
 clear hk hk1 hB hY hY2
 go_enter Tryz.func222, Tryz.ntmps222
 go_wp2_with fail
 refine CE.out.mono ?_
 rintro e w2 ⟨rfl, hb2, hg2⟩
 have HB2 := Hd.mk hb2
 have HG2 := Hd.mk hg2
 clear hb2 hg2 CE
 go_wp2_with fail
 refine (CP.out _ HB2.out).mono ?_
 rintro e w3 ⟨v, rfl, ho, hb3, hg3⟩
 have HO3 := Hd.mk (ho.low HG2.out.size)
 have HB3 := Hd.mk hb3
 have HG3 := Hd.mk (gb_trans HG2.out hg3)
 clear ho hb3 hg3 CP HB2 HG2
 go_upto_region 2 with (fail)
 obtain ⟨Z, hZ⟩ : ∃ Z, sumF s (s.size + 1) [P1] k2 bad2 = Z := ⟨_, rfl⟩
 rw [hZ] at HE
 have HZ := Hd.mk hZ
 clear hZ
 have HO4 := Hd.mk (OwnP.one (p := P1) HO3.out HG3.out.size)
 have HB4 := Hd.mk (HB3.out.al (.cells #[.bool P1.neg, v] 251))
 have HG4 := Hd.mk (gb_trans HG3.out (gb_of ((Below.refl w3.heap.size w3).alloc (Nat.le_refl _) (.cells #[.bool P1.neg, v] 251))))
 generalize w3.alloc (.cells #[.bool P1.neg, v] 251) = w4 at HO4 HB4 HG4 ⊢
 generalize w3.heap.size = g3 at HO4 ⊢
 clear HO3 HB3 HG3
 go_loopg [3] (s.size + 1) (fun n v3 wr => ∃ (ps : List ProdD) (kk : Nat) (bb : Bool), kk ≤ s.size ∧ Hd (Bk wr g 244 (tx s kk bb)) ∧ Hd (w.grownBy wr (some g)) ∧ Hd (OwnP wr w.heap.size v3 ps) ∧ Hd (sumF s n ps kk bb = Z) ∧ Hd (ps.length + (s.size - kk) ≤ s.size + 1) ∧ Hd (bb = false → s.size - kk < n))
 case atStart => exact ⟨[P1], k2, bad2, HY2.out.2, HB4, HG4, HO4, HZ, ⟨by simp; omega⟩, ⟨fun _ => by omega⟩⟩
 case round =>
  clear HB4 HG4 HO4 HZ
  obtain ⟨ps, kk, bb, hkk, HB, HG, HO, HZ, HL, HN⟩ := hrel
  obtain ⟨Av, cv, rfl, hcv, hcm⟩ := HO.out.reads
  obtain ⟨q0, q1, q2⟩ := HB.out.three
  cases bb
  ·obtain ⟨n, rfl⟩ : ∃ n, gk = n + 1 := ⟨gk - 1, by have := HN.out rfl; omega⟩
   have HNN : Hd (s.size - kk < n + 1) := ⟨HN.out rfl⟩
   have CX := Hd.mk (text_next s kk g false wr HB.out hsm hkk)
   have hk3 := skipD_le hkk
   have hk3g : kk ≤ skipD s kk := (skipF_ge s (s.size - kk) kk).1
   have HZ1 := HZ.out
   unfold sumF at HZ1
   rw [if_neg (by simp)] at HZ1
   dsimp only at HZ1
   obtain ⟨k3, hkk3⟩ : ∃ k3, skipD s kk = k3 := ⟨_, rfl⟩
   rw [hkk3] at CX hk3 hk3g HZ1
   obtain ⟨c, hc⟩ : ∃ c, bt s k3 = c := ⟨_, rfl⟩
   rw [hc] at CX HZ1
   have HZ1 := Hd.mk HZ1
   clear hkk3 hc
   by_cases hc0 : c = 0
   ·have e0 : (c != 0) = false := by rw [hc0]; rfl
    have HT : Hd (Z = (ps, k3, false)) := ⟨by rw [← HZ1.out]; exact if_pos hc0⟩
    clear hc0
    go_wp2_with fail
    refine CX.out.mono ?_
    rintro e w5 ⟨rfl, hb5, hg5⟩
    have HB5 := Hd.mk hb5
    have HG5 := Hd.mk (gb_trans HG.out hg5)
    have HO5 := Hd.mk (HO.out.grown hg5 HB.out (by decide) (by decide))
    obtain ⟨p0, p1, p2⟩ := hb5.three
    clear hb5 hg5 CX q0 q1 q2 HB HG HO
    by_cases hlt : k3 < s.size
    ·have i1 : (k3 : Int) < s.size := by omega
     have HF : Hd (E = (ps, true)) := ⟨by rw [← HE.out, HT.out]; simp [hlt]⟩
     have fz := fun i => HB5.out.froz i
     clear hlt
     go_wp2_with fail
     go_quiet (fail)
     go_wp2_with fail
     go_ret
     rw [HF.out]
     exact ⟨_, k3, rfl, HO5.out.up (Below.dn (Below.refl _ _) _) |>.grown (set_grown _ ⟨g, 2, none⟩ _) (HB5.out.dn _) (by decide) (by decide), (HB5.out.dn _).set_ 2 _, (gb_dn HG5.out _).set 2 _⟩
    ·have i1 : ¬ (k3 : Int) < s.size := by omega
     have HF : Hd (E = (ps, false)) := ⟨by rw [← HE.out, HT.out]; simp [hlt]⟩
     clear hlt
     go_wp2_with fail
     go_quiet (fail)
     go_wp2_with fail
     go_ret
     rw [HF.out]
     exact ⟨_, k3, rfl, HO5.out.up (Below.dn (Below.refl _ _) _), HB5.out.dn _, gb_dn HG5.out _⟩
   ·have e0 : (c != 0) = true := by rw [bne_iff_ne]; exact hc0
    have HZ2 := Hd.mk (HZ1.out.symm.trans (if_neg hc0)).symm
    clear hc0 HZ1
    go_wp2_with fail
    refine CX.out.mono ?_
    rintro e w5 ⟨rfl, hb5, hg5⟩
    have HB5 := Hd.mk hb5
    have HG5 := Hd.mk (gb_trans HG.out hg5)
    have HO5 := Hd.mk (HO.out.grown hg5 HB.out (by decide) (by decide))
    clear hb5 hg5 CX q0 q1 q2 HB HG HO
    have CE := Hd.mk (text_eat s k3 g false 43 w5 HB5.out hsm hk3)
    have h7 := eatK_le (c := 43) hk3
    have h7g := eatK_ge s k3 43
    cases he : eatB s k3 43
    ·have HZ3' := HZ2.out
     rw [if_neg (by rw [he]; simp)] at HZ3'
     rw [he] at CE
     obtain ⟨k7, hk7⟩ : ∃ k7, eatK s k3 43 = k7 := ⟨_, rfl⟩
     rw [hk7] at CE h7 h7g HZ3'
     have HZ4 := Hd.mk HZ3'
     clear he hk7 HZ3'
     go_wp2_with fail
     refine CE.out.mono ?_
     rintro e w7 ⟨rfl, hb7, hg7⟩
     have HB6 := Hd.mk hb7
     have HG6 := Hd.mk (gb_trans HG5.out hg7)
     have HO6 := Hd.mk (HO5.out.grown hg7 HB5.out (by decide) (by decide))
     clear hb7 hg7 CE HB5 HG5 HO5 HZ2
     have CE := Hd.mk (text_eat s k7 g false 45 w7 HB6.out hsm h7)
     have h6 := h7
     have h7 := eatK_le (c := 45) h6
     have h9g := eatK_ge s k7 45
     cases he : eatB s k7 45
     ·have HT : Hd (Z = (ps, eatK s k7 45, true)) := ⟨by rw [← HZ4.out, if_neg (by rw [he]; simp)]⟩
      rw [he] at CE
      clear he
      go_wp2_with fail
      refine CE.out.mono ?_
      rintro e wq ⟨rfl, hb7, hg7⟩
      have HB7 := Hd.mk hb7
      have HG7 := Hd.mk (gb_trans HG6.out hg7)
      have HO7 := Hd.mk (HO6.out.grown hg7 HB6.out (by decide) (by decide))
      have fz := fun i => HB7.out.froz i
      obtain ⟨p0, p1, p2⟩ := HB7.out.three
      obtain ⟨kz, hkz⟩ : ∃ kz, eatK s k7 45 = kz := ⟨_, rfl⟩
      rw [hkz] at HT HB7 h7 h9g p1
      clear hb7 hg7 CE hkz
      go_wp2_with fail
      go_roundg n
      case measure => omega
      case rel => exact ⟨ps, kz, true, h7, ⟨HB7.out.set_ 2 _⟩, ⟨HG7.out.set 2 _⟩, ⟨HO7.out.grown (set_grown _ ⟨g, 2, none⟩ _) HB7.out (by decide) (by decide)⟩, ⟨by rw [HT.out]; cases n <;> rfl⟩, ⟨by have := HL.out; omega⟩, ⟨fun h => by cases h⟩⟩
     ·have hgt := eatK_gt he
      have HZ3 := HZ4.out
      rw [if_pos he] at HZ3
      rw [he] at CE
      obtain ⟨k9, hk9⟩ : ∃ k9, eatK s k7 45 = k9 := ⟨_, rfl⟩
      rw [hk9] at CE h7 h9g HZ3 hgt
      clear he hk9
      go_wp2_with fail
      refine CE.out.mono ?_
      rintro e wq ⟨rfl, hb7, hg7⟩
      have HB7 := Hd.mk hb7
      have HG7 := Hd.mk (gb_trans HG6.out hg7)
      have HO7 := Hd.mk (HO6.out.grown hg7 HB6.out (by decide) (by decide))
      clear hb7 hg7 CE HB6 HG6 HO6 HZ4
      have CP := Hd.mk (text_product s k9 g false true wq HB7.out hs h7)
      have hY2 := productD_le (bad := false) (neg := true) h7
      obtain ⟨Y, hY⟩ : ∃ Y, productD s k9 false true = Y := ⟨_, rfl⟩
      rw [hY] at CP HZ3 hY2
      obtain ⟨P2, k8, bad8⟩ := Y
      dsimp only at CP HZ3 hY2
      have HYY := Hd.mk hY2
      clear hY hY2
      go_wp2_with fail
      refine CP.out.mono ?_
      rintro e w8 ⟨v8, rfl, ho8, hb8, hg8⟩
      have HOF := Hd.mk (ho8.low HG7.out.size)
      have HB8 := Hd.mk hb8
      have HG8 := Hd.mk (gb_trans HG7.out hg8)
      have HO8 := Hd.mk (HO7.out.grown hg8 HB7.out (by decide) (by decide))
      clear ho8 hb8 hg8 CP HB7 HG7 HO7
      obtain ⟨cs, hc1, hc2⟩ := (HO8.out.up ((Below.refl w8.heap.size w8).alloc (Nat.le_refl _) (.cells #[.bool P2.neg, v8] 251)))
      have HC1 := Hd.mk hc1
      have HC2 := Hd.mk hc2
      have RN := Hd.mk (Rd.new_ w8 #[.bool P2.neg, v8] 251 1 2 rfl)
      have H1 : Hd (∀ u ∈ [Value.bool P2.neg, v8], u.oneCell' = true) := ⟨fun u hu => by
       simp only [List.mem_cons, List.not_mem_nil, or_false] at hu
       obtain ⟨A9, c9, e9, _⟩ := HOF.out.reads
       rcases hu with rfl | rfl
       ·rfl
       ·rw [e9]; rfl⟩
      obtain ⟨i0, hi0, hz0, hz1, hz2⟩ := info_split Tryz.infPro
      have hpl : ps.length ≤ 1000001 := by have := HL.out; omega
      have HX1 : Hd (ps.length + 1 ≤ maxLen ∧ (ps.length + 1) * 32 ≤ 140737488355328) := ⟨by unfold maxLen; omega, by omega⟩
      clear hc1 hc2
      go_wp2_with (at_builtin; refine wpList_append_rd _ rfl _ _ 245 rfl w.heap.size 251 i0 _ 2 32 Tryz.slPro hi0 hz0 hz1 hz2 rfl (by decide) _ ps.length cs rfl HC1.out _ _ 1 1 _ rfl RN.out H1.out HX1.out.1 HX1.out.2 (by have := HG8.out.size; simp; omega) ?_)
      intro v9 w9 ho9 hg9 _
      have hrow : ∀ b, (Value.slice Av ps.length cv).ownBlock = some b → ∃ t bs, Bk (w8.alloc (.cells #[.bool P2.neg, v8] 251)) b t bs ∧ t ≠ 292 := fun b hb => by
       obtain ⟨⟨ds, hk⟩, _⟩ := own_bk HC1.out hb
       exact ⟨_, ds, hk, by decide⟩
      have hpr : ∀ b, (Value.slice Av ps.length cv).ownBlock = some b → w.heap.size ≤ b := fun b hb => (own_bk HC1.out hb).2
      have hne : some g ≠ (Value.slice Av ps.length cv).ownBlock := fun e => by
       obtain ⟨⟨ds, hk⟩, _⟩ := own_bk HC1.out e.symm
       exact Bk.ne_ (HB8.out.al _) hk (by decide) rfl
      have HO9 : Hd (OwnP w9 w.heap.size v9 (ps ++ [P2])) := ⟨_, by rw [List.length_append]; exact ho9, (HC2.out.grownR hg9 hrow).app (.cons ((HOF.out.up ((Below.refl w8.heap.size w8).alloc (Nat.le_refl _) _)).grownR hg9 hrow) .nil)⟩
      have HB9 := Hd.mk ((HB8.out.al (.cells #[.bool P2.neg, v8] 251)).grown hg9 hne)
      have HG9 := Hd.mk (gb_new (gb_trans HG8.out (gb_of ((Below.refl w8.heap.size w8).alloc (Nat.le_refl _) _))) hg9 hpr)
      have HZ9 := Hd.mk HZ3
      clear HC1 HC2 RN H1 ho9 hg9 hrow hpr hne HO8 HB8 HG8 HOF hi0 hz0 hz1 hz2 HZ3
      go_wp2_with fail
      go_roundg n
      case measure => omega
      case rel => exact ⟨_, k8, bad8, HYY.out.2, HB9, HG9, HO9, HZ9, ⟨by have := HL.out; have := HYY.out; simp; omega⟩, ⟨fun _ => by have := HNN.out; have := HYY.out; omega⟩⟩
    ·have hgt := eatK_gt he
     have HZ3 := HZ2.out
     rw [if_pos he] at HZ3
     rw [he] at CE
     obtain ⟨k7, hk7⟩ : ∃ k7, eatK s k3 43 = k7 := ⟨_, rfl⟩
     rw [hk7] at CE h7 h7g HZ3 hgt
     clear he hk7
     go_wp2_with fail
     refine CE.out.mono ?_
     rintro e w7 ⟨rfl, hb7, hg7⟩
     have HB7 := Hd.mk hb7
     have HG7 := Hd.mk (gb_trans HG5.out hg7)
     have HO7 := Hd.mk (HO5.out.grown hg7 HB5.out (by decide) (by decide))
     clear hb7 hg7 CE HB5 HG5 HO5 HZ2
     have CP := Hd.mk (text_product s k7 g false false w7 HB7.out hs h7)
     have hY2 := productD_le (bad := false) (neg := false) h7
     obtain ⟨Y, hY⟩ : ∃ Y, productD s k7 false false = Y := ⟨_, rfl⟩
     rw [hY] at CP HZ3 hY2
     obtain ⟨P2, k8, bad8⟩ := Y
     dsimp only at CP HZ3 hY2
     have HYY := Hd.mk hY2
     clear hY hY2
     go_wp2_with fail
     refine CP.out.mono ?_
     rintro e w8 ⟨v8, rfl, ho8, hb8, hg8⟩
     have HOF := Hd.mk (ho8.low HG7.out.size)
     have HB8 := Hd.mk hb8
     have HG8 := Hd.mk (gb_trans HG7.out hg8)
     have HO8 := Hd.mk (HO7.out.grown hg8 HB7.out (by decide) (by decide))
     clear ho8 hb8 hg8 CP HB7 HG7 HO7
     obtain ⟨cs, hc1, hc2⟩ := (HO8.out.up ((Below.refl w8.heap.size w8).alloc (Nat.le_refl _) (.cells #[.bool P2.neg, v8] 251)))
     have HC1 := Hd.mk hc1
     have HC2 := Hd.mk hc2
     have RN := Hd.mk (Rd.new_ w8 #[.bool P2.neg, v8] 251 1 2 rfl)
     have H1 : Hd (∀ u ∈ [Value.bool P2.neg, v8], u.oneCell' = true) := ⟨fun u hu => by
      simp only [List.mem_cons, List.not_mem_nil, or_false] at hu
      obtain ⟨A9, c9, e9, _⟩ := HOF.out.reads
      rcases hu with rfl | rfl
      ·rfl
      ·rw [e9]; rfl⟩
     obtain ⟨i0, hi0, hz0, hz1, hz2⟩ := info_split Tryz.infPro
     have hpl : ps.length ≤ 1000001 := by have := HL.out; omega
     have HX1 : Hd (ps.length + 1 ≤ maxLen ∧ (ps.length + 1) * 32 ≤ 140737488355328) := ⟨by unfold maxLen; omega, by omega⟩
     clear hc1 hc2
     go_wp2_with (at_builtin; refine wpList_append_rd _ rfl _ _ 245 rfl w.heap.size 251 i0 _ 2 32 Tryz.slPro hi0 hz0 hz1 hz2 rfl (by decide) _ ps.length cs rfl HC1.out _ _ 1 1 _ rfl RN.out H1.out HX1.out.1 HX1.out.2 (by have := HG8.out.size; simp; omega) ?_)
     intro v9 w9 ho9 hg9 _
     have hrow : ∀ b, (Value.slice Av ps.length cv).ownBlock = some b → ∃ t bs, Bk (w8.alloc (.cells #[.bool P2.neg, v8] 251)) b t bs ∧ t ≠ 292 := fun b hb => by
      obtain ⟨⟨ds, hk⟩, _⟩ := own_bk HC1.out hb
      exact ⟨_, ds, hk, by decide⟩
     have hpr : ∀ b, (Value.slice Av ps.length cv).ownBlock = some b → w.heap.size ≤ b := fun b hb => (own_bk HC1.out hb).2
     have hne : some g ≠ (Value.slice Av ps.length cv).ownBlock := fun e => by
      obtain ⟨⟨ds, hk⟩, _⟩ := own_bk HC1.out e.symm
      exact Bk.ne_ (HB8.out.al _) hk (by decide) rfl
     have HO9 : Hd (OwnP w9 w.heap.size v9 (ps ++ [P2])) := ⟨_, by rw [List.length_append]; exact ho9, (HC2.out.grownR hg9 hrow).app (.cons ((HOF.out.up ((Below.refl w8.heap.size w8).alloc (Nat.le_refl _) _)).grownR hg9 hrow) .nil)⟩
     have HB9 := Hd.mk ((HB8.out.al (.cells #[.bool P2.neg, v8] 251)).grown hg9 hne)
     have HG9 := Hd.mk (gb_new (gb_trans HG8.out (gb_of ((Below.refl w8.heap.size w8).alloc (Nat.le_refl _) _))) hg9 hpr)
     have HZ9 := Hd.mk HZ3
     clear HC1 HC2 RN H1 ho9 hg9 hrow hpr hne HO8 HB8 HG8 HOF hi0 hz0 hz1 hz2 HZ3
     go_wp2_with fail
     go_roundg n
     case measure => omega
     case rel => exact ⟨_, k8, bad8, HYY.out.2, HB9, HG9, HO9, HZ9, ⟨by have := HL.out; have := HYY.out; simp; omega⟩, ⟨fun _ => by have := HNN.out; have := HYY.out; omega⟩⟩
  ·have HT : Hd (Z = (ps, kk, true)) := ⟨by rw [← HZ.out]; cases gk <;> rfl⟩
   by_cases hlt : kk < s.size
   ·have i1 : (kk : Int) < s.size := by omega
    have HF : Hd (E = (ps, true)) := ⟨by rw [← HE.out, HT.out]; simp [hlt]⟩
    have fz := fun i => HB.out.froz i
    clear hlt
    go_wp2_with fail
    go_quiet (fail)
    go_wp2_with fail
    go_ret
    rw [HF.out]
    exact ⟨_, kk, rfl, HO.out.up (Below.dn (Below.refl _ _) _) |>.grown (set_grown _ ⟨g, 2, none⟩ _) (HB.out.dn _) (by decide) (by decide), (HB.out.dn _).set_ 2 _, (gb_dn HG.out _).set 2 _⟩
   ·have i1 : ¬ (kk : Int) < s.size := by omega
    have HF : Hd (E = (ps, true)) := ⟨by rw [← HE.out, HT.out]; simp [hlt]⟩
    clear hlt
    go_wp2_with fail
    go_quiet (fail)
    go_wp2_with fail
    go_ret
    rw [HF.out]
    exact ⟨_, kk, rfl, HO.out.up (Below.dn (Below.refl _ _) _), HB.out.dn _, gb_dn HG.out _⟩
end Go.Proofs.YtgjkgkgieeoalaaGreat
namespace Go.Proofs.YtgjkgkgieeoalaaGreat
open Go.RowKit
theorem putD_short {o : Int} {al : List TermD} {t : TermD} (h : ∀ s ∈ al, s.c.short) (ht : t.c.short) : (∀ s ∈ (putD o al t).2, s.c.short) ∧ (putD o al t).2.length ≤ al.length + 1 := by
 unfold putD
 split
 ·split
  ·exact ⟨fun s (hs : s ∈ []) => (by cases hs), Nat.zero_le _⟩
  ·refine ⟨fun s hs => ?_, by unfold setM; simp⟩
   unfold setM at hs
   rw [List.mem_map] at hs
   obtain ⟨p, hp, e⟩ := hs
   split at e
   ·subst e; exact addD_short _ _
   ·subst e; exact h p hp
 ·refine ⟨fun s hs => ?_, by rw [insD_len]; exact Nat.le_refl _⟩
  rcases mem_insD.1 hs with rfl | hs
  ·exact ht
  ·exact h s hs
theorem polMake_odd {o : Int} {ts : List TermD} {i : Nat} {t : TermD} (h : ts[i]? = some t) (hr : right t = false) : polMake o ts = (1, []) := by
 unfold polMake
 rw [if_pos]
 have : anyOdd ts = true := by
  unfold anyOdd
  rw [List.any_eq_true]
  exact ⟨t, List.mem_of_getElem? h, by rw [hr]; rfl⟩
 rw [this]; simp
theorem rpol_MakeF (b0 : Nat) (order : Int) (A : Option Addr) (c : Nat) (ts : List TermD) (w : World) (hb0 : b0 ≤ w.heap.size) (h : RPol w b0 A ts) (hc : ts.length ≤ c) (h9 : ts.length ≤ 50000) (hs : shortP ts) :
    Calls Tryz.prog 87 #[.int .i64 order, .slice A ts.length c] w fun e w' => ∃ A' c', e = .returned (.tuple #[.slice A' (polMake order ts).2.length c', .int .i64 (polMake order ts).1]) ∧
     (polMake order ts).2.length ≤ c' ∧ RPol w' b0 A' (polMake order ts).2 ∧ Below w.heap.size w w' ∧ Fr w.heap.size A' := by
 have HP := Hd.mk h
 have HS := Hd.mk hs
 have HB0 := Hd.mk hb0
 have CO := Hd.mk (rpol_ordered order w)
 clear h hs hb0
 obtain ⟨E, hE⟩ : ∃ E, polMake order ts = E := ⟨_, rfl⟩
 rw [hE]
 have HE := Hd.mk hE
 clear hE
 obtain ⟨ob, hob⟩ : ∃ ob, ordered order = ob := ⟨_, rfl⟩
 rw [hob] at CO
 have HO := Hd.mk hob
 clear hob
 cases ob
 ·have HF : Hd (E = (1, [])) := ⟨by rw [← HE.out]; unfold polMake; rw [HO.out]; rfl⟩
  go_enter Tryz.func87, Tryz.ntmps87
  go_wp2_with fail
  refine CO.out.mono ?_
  rintro e w2 ⟨rfl, rfl⟩
  go_wp2_with fail
  go_ret2
  rw [HF.out]
  exact ⟨none, 0, rfl, Nat.le_refl _, RPol.nil _ _ _, .refl _ _, Fr.none _⟩
 go_enter Tryz.func87, Tryz.ntmps87
 go_wp2_with fail
 refine CO.out.mono ?_
 rintro e w2 ⟨rfl, rfl⟩
 clear CO
 go_wp2_with fail
 go_loopw [6] (fun v wr => ∃ i : Nat, v = .int .i64 i ∧ i ≤ ts.length ∧ Hd (Below w.heap.size w wr) ∧ Hd (∀ s ∈ ts.take i, right s = true)) (fun v _ => ts.length - (intOf v).toNat)
 case atStart => exact ⟨0, rfl, by omega, ⟨.refl _ _⟩, ⟨by simp⟩⟩
 case round =>
  obtain ⟨i, rfl, hi, hb, ha⟩ := hrel
  by_cases hlt : i < ts.length
  ·have i1 : (i : Int) < ts.length := by omega
   have i3 : (0 : Int) ≤ i := by omega
   obtain ⟨ad, B1, c1, B2, c2, t, rfl, hab, ht, hrt, q0, q1, q2, q3, q4, q5, q6⟩ := (HP.out.up hb.out).get hlt
   obtain ⟨k0, k1, k2, k3, k4, k5, k6⟩ := Wd.at7 q0 q1 q2 q3 q4 q5 q6
   have hst := HS.out.2 t (List.mem_of_getElem? ht.out)
   have C1 := Hd.mk (rrat_May b0 _ t.c wr hrt.out.rat hst)
   have C2 := Hd.mk (rmon_May t.m)
   have HR : Hd (right t = (ratMay t.c && monMay t.m)) := ⟨rfl⟩
   have HG : Hd (right t = true → ∀ s ∈ ts.take (i + 1), right s = true) := ⟨fun hr s hs => by
    have e1 : ts[i] = t := by have := ht.out; rw [List.getElem?_eq_getElem hlt] at this; injection this
    rw [List.take_succ_eq_append_getElem hlt, e1, List.mem_append, List.mem_singleton] at hs
    rcases hs with hs | rfl
    ·exact ha.out s hs
    ·exact hr⟩
   have HN := Hd.mk (fun hr => HE.out.symm.trans (polMake_odd (o := order) ht.out hr))
   clear hst ht q3 q4 q5 q6
   cases hm1 : ratMay t.c
   ·rw [hm1] at C1
    have HF := Hd.mk (HN.out (by rw [HR.out, hm1]; rfl))
    clear hm1
    go_wp2_with fail
    refine C1.out.mono ?_
    rintro e w3 ⟨rfl, hb3⟩
    have HB3 := Hd.mk (goes hb.out hb3)
    clear hb3
    go_wp2_with fail
    go_ret2
    rw [HF.out]
    exact ⟨none, 0, rfl, Nat.le_refl _, RPol.nil _ _ _, HB3.out, Fr.none _⟩
   rw [hm1] at C1 HR
   clear hm1
   go_wp2_with fail
   refine C1.out.mono ?_
   rintro e w3 ⟨rfl, hb3⟩
   have HB3 := Hd.mk (goes hb.out hb3)
   have k3 := k3 ⟨w3, hb3⟩
   have k4 := k4 ⟨w3, hb3⟩
   have k5 := k5 ⟨w3, hb3⟩
   have k6 := k6 ⟨w3, hb3⟩
   simp only [Wd.w] at k3 k4 k5 k6
   clear hb3 k0 k1 k2 C1 q0 q1 q2
   cases hm2 : monMay t.m
   ·rw [hm2] at C2
    have HF := Hd.mk (HN.out (by rw [HR.out, hm2]; rfl))
    clear hm2
    go_wp2_with fail
    refine (C2.out _).mono ?_
    rintro e w4 ⟨rfl, hb4⟩
    have HB4 := Hd.mk (goes HB3.out hb4)
    clear hb4
    go_wp2_with fail
    go_ret2
    rw [HF.out]
    exact ⟨none, 0, rfl, Nat.le_refl _, RPol.nil _ _ _, HB4.out, Fr.none _⟩
   ·rw [hm2] at C2
    have HF := Hd.mk (HG.out (by rw [HR.out, hm2]; rfl))
    clear hm2
    go_wp2_with fail
    refine (C2.out _).mono ?_
    rintro e w4 ⟨rfl, hb4⟩
    have HB4 := Hd.mk (goes HB3.out hb4)
    clear hb4
    go_wp2_with fail
    go_roundw
    case measure => first | (simp [intOf]; done) | (simp [intOf]; omega)
    case rel => exact ⟨i + 1, by go_num, by omega, HB4, HF⟩
  ·obtain rfl : i = ts.length := by omega
   have HR : Hd (∀ s ∈ ts, right s = true) := ⟨by have := ha.out; rwa [List.take_length] at this⟩
   have HE2 : Hd (E = if (putAll order [] ts).1 ≠ 0 then ((putAll order [] ts).1, []) else if 60 < ((putAll order [] ts).2.filter nz).length then (90, []) else (0, (putAll order [] ts).2.filter nz)) := ⟨by
    rw [← HE.out]
    unfold polMake
    have : anyOdd ts = false := by
     unfold anyOdd
     rw [List.any_eq_false]
     intro s hs
     rw [HR.out s hs]; simp
    rw [HO.out, this, if_neg (by simp)]⟩
   have HOK := Hd.mk (ordered_ok.1 HO.out)
   clear ha HE
   go_upto_region 9 with (fail)
   refine wp_gen (fun W => Below w.heap.size w W ∧ RPol W b0 (some ⟨wr.heap.size, 0, none⟩) []) ⟨hb.out.alloc hb.out.size _, RPol.nil _ _ _⟩ ?_
   intro W0 hW
   have HB := Hd.mk hW.out.1
   have H0 := Hd.mk hW.out.2
   clear hW hb
   generalize wr.heap.size = g0 at H0 ⊢
   go_wp2_with fail
   go_loopw [7, 8] (fun v7 v8 wr => ∃ (i : Nat) (al : List TermD) (A' : Option Addr) (c' : Nat), v8 = .int .i64 i ∧ v7 = .slice A' al.length c' ∧ i ≤ ts.length ∧ al.length ≤ i ∧ al.length ≤ c' ∧ Hd (RPol wr b0 A' al) ∧ Hd (Sta order al ∧ ∀ s ∈ al, s.c.short) ∧ Hd (putAll order al (ts.drop i) = putAll order [] ts) ∧ Hd (Below w.heap.size w wr)) (fun _ v _ => ts.length - (intOf v).toNat)
   case atStart => exact ⟨0, [], _, _, rfl, rfl, by omega, by simp, Nat.le_refl _, H0, ⟨.nil HOK.out, fun s h => by cases h⟩, ⟨rfl⟩, HB⟩
   case round =>
    clear H0 HB
    obtain ⟨i, al, A', c', rfl, rfl, hi, hal, hac, HA, HST, HQ, HB⟩ := hrel
    by_cases hlt : i < ts.length
    ·have i1 : (i : Int) < ts.length := by omega
     have i3 : (0 : Int) ≤ i := by omega
     obtain ⟨ad, B1, c1, B2, c2, t, rfl, hab, ht, hrt, q0, q1, q2, q3, q4, q5, q6⟩ := (HP.out.up HB.out).get hlt
     have hst := HS.out.2 t (List.mem_of_getElem? ht.out)
     have hmt : monMay t.m = true := by
      have := HR.out t (List.mem_of_getElem? ht.out)
      unfold right at this
      rw [Bool.and_eq_true] at this
      exact this.2
     have CP := Hd.mk (rpol_put b0 order A' c' al _ t wr (Nat.le_trans HB0.out HB.out.size) HA.out hac (by omega) ⟨by omega, HST.out.2⟩ hrt.out hst hmt HST.out.1)
     have HD : Hd (putAll order [] ts = if (putD order al t).1 ≠ 0 then ((putD order al t).1, []) else putAll order (putD order al t).2 (ts.drop (i + 1))) := ⟨by
      have e1 : ts[i] = t := by have := ht.out; rw [List.getElem?_eq_getElem hlt] at this; injection this
      rw [← HQ.out, List.drop_eq_getElem_cons hlt, e1]; rfl⟩
     have HN : Hd ((putD order al t).1 = 0 → Sta order (putD order al t).2) := ⟨fun he => HST.out.1.putD hmt he⟩
     have HSH := Hd.mk (putD_short (o := order) (al := al) (t := t) HST.out.2 hst)
     obtain ⟨X1, X2, hX⟩ : ∃ X1 X2, putD order al t = (X1, X2) := ⟨_, _, rfl⟩
     rw [hX] at CP HD HN HSH
     clear hst hmt ht hX hrt
     go_wp2_with fail
     refine CP.out.mono ?_
     rintro e w3 ⟨A3, c3, rfl, hc3, hr3, hb3⟩
     have HB3 := Hd.mk (goes HB.out hb3)
     have HA3 := Hd.mk hr3
     have hl3 : X2.length ≤ i + 1 := Nat.le_trans HSH.out.2 (by omega)
     clear hb3 hr3 q0 q1 q2 q3 q4 q5 q6 CP
     by_cases he : X1 = 0
     ·have e1 : (X1 != 0) = false := by rw [bne_eq_false_iff_eq]; exact he
      have HD2 : Hd (putAll order X2 (ts.drop (i + 1)) = putAll order [] ts) := ⟨by rw [HD.out, if_neg (by simpa using he)]⟩
      have HST2 : Hd (Sta order X2 ∧ ∀ s ∈ X2, s.c.short) := ⟨HN.out he, HSH.out.1⟩
      clear he
      go_wp2_with fail
      go_roundw
      case measure => first | (simp [intOf]; done) | (simp [intOf]; omega)
      case rel => exact ⟨i + 1, X2, A3, c3, by go_num, rfl, by omega, hl3, hc3, HA3, HST2, HD2, HB3⟩
     ·have e1 : (X1 != 0) = true := by rw [bne_iff_ne]; exact he
      have HF : Hd (E = (X1, [])) := ⟨by
       have hp : putAll order [] ts = (X1, []) := HD.out.trans (if_pos he)
       rw [HE2.out, hp]; exact if_pos he⟩
      clear he
      go_wp2_with fail
      go_ret2
      rw [HF.out]
      exact ⟨none, 0, rfl, Nat.le_refl _, RPol.nil _ _ _, HB3.out, Fr.none _⟩
    ·obtain rfl : i = ts.length := by omega
     have HQ2 : Hd (putAll order [] ts = (0, al)) := ⟨by rw [← HQ.out, List.drop_eq_nil_of_le (Nat.le_refl _)]; rfl⟩
     have HE3 : Hd (E = if 60 < (al.filter nz).length then (90, []) else (0, al.filter nz)) := ⟨by rw [HE2.out, HQ2.out, if_neg (by simp)]⟩
     have HAS := Hd.mk HST.out.2
     obtain ⟨wA, hwA⟩ : ∃ x, x = wr := ⟨wr, rfl⟩
     subst hwA
     have HB0A := Hd.mk (Nat.le_trans HB0.out HB.out.size)
     clear HQ HQ2 HE2 HST
     go_upto_region 17 with (fail)
     refine wp_gen (fun W => Below wA.heap.size wA W ∧ OwnT W b0 wA.heap.size (.slice (some ⟨wA.heap.size, 0, none⟩) 0 0) []) ⟨(Below.refl _ _).alloc (Nat.le_refl _) _, ownT_lit wA b0 wA.heap.size (Nat.le_refl _)⟩ ?_
     intro W1 hW
     have HO1 := Hd.mk hW.out.2
     have HB1 := Hd.mk hW.out.1
     clear hW
     go_wp2_with fail
     go_loopw [11, 12] (fun v11 v12 wr => ∃ (i : Nat) (acc : List TermD), v12 = .int .i64 i ∧ i ≤ al.length ∧ acc.length ≤ i ∧ Hd (OwnT wr b0 wA.heap.size v11 acc) ∧ Hd (acc = (al.take i).filter nz) ∧ Hd (Below wA.heap.size wA wr)) (fun _ v _ => al.length - (intOf v).toNat)
     case atStart => exact ⟨0, [], rfl, by omega, by simp, HO1, ⟨rfl⟩, HB1⟩
     case round =>
      clear HO1 HB1
      obtain ⟨i, acc, rfl, hi, hacc, HO, HQ, HB2⟩ := hrel
      obtain ⟨Av, cv, rfl, hcv, _, hrv⟩ := HO.out.reads
      have HRV := Hd.mk hrv
      clear hrv
      by_cases hlt : i < al.length
      ·have i1 : (i : Int) < al.length := by omega
       have i3 : (0 : Int) ≤ i := by omega
       obtain ⟨ad, B1, c1, B2, c2, t, rfl, hab, ht, hrt, q0, q1, q2, q3, q4, q5, q6⟩ := (HA.out.up HB2.out).get hlt
       have CZ := Hd.mk (rrat_Zero b0 _ t.c wr hrt.out.rat)
       have HT : Hd ((al.take (i + 1)).filter nz = acc ++ [t].filter nz) := ⟨by
        have e1 : al[i] = t := by have := ht.out; rw [List.getElem?_eq_getElem hlt] at this; injection this
        rw [List.take_succ_eq_append_getElem hlt, e1, List.filter_append, HQ.out]⟩
       obtain ⟨zb, hzb⟩ : ∃ zb, decide (t.c.num.length = 0) = zb := ⟨_, rfl⟩
       have HZ : Hd (nz t = !zb) := ⟨by unfold nz; rw [hzb]⟩
       rw [hzb] at CZ
       clear hzb HQ ht
       cases zb
       ·have HT2 : Hd (acc ++ [t] = (al.take (i + 1)).filter nz) := ⟨by rw [HT.out, List.filter_cons, HZ.out]; rfl⟩
        have xl : acc.length + [t].length ≤ 1000000 := by simp; omega
        have XL := Hd.mk xl
        clear HT HZ xl
        go_wp2_with fail
        refine CZ.out.mono ?_
        rintro e w4 ⟨rfl, hb4⟩
        have HB4 := Hd.mk (goes HB2.out hb4)
        have HO4 := Hd.mk (HO.out.up hb4)
        have HT4 := Hd.mk (hrt.out.up hb4)
        have r0 := cell_up q0 hb4
        have r1 := cell_up q1 hb4
        have r2 := cell_up q2 hb4
        have r3 := cell_up q3 hb4
        have r4 := cell_up q4 hb4
        have r5 := cell_up q5 hb4
        have r6 := cell_up q6 hb4
        clear hb4 q0 q1 q2 q3 q4 q5 q6 CZ hrt
        go_wp2_with (at_builtin; refine wpList_append_T (w0 := wA) (us := [t]) rfl _ _ 25 25 rfl Tryz.slPoly Tryz.slPoly rfl rfl rfl (HO4.out.up ((Below.refl _ _).alloc (Nat.le_refl _) _)) (rpol_one HT4.out _) HB0A.out XL.out (goes HB4.out ((Below.refl _ _).alloc (Nat.le_refl _) _)) (Nat.le_refl _) (goes HB4.out ((Below.refl _ _).alloc (Nat.le_refl _) _)).size ?_)
        intro v' w8 AP
        have HAP := Hd.mk AP
        clear AP
        have hl8 : (acc ++ [t]).length ≤ i + 1 := by simp; omega
        go_wp2_with fail
        go_roundw
        case measure => first | (simp [intOf]; done) | (simp [intOf]; omega)
        case rel => exact ⟨i + 1, acc ++ [t], by go_num, by omega, hl8, ⟨HAP.out.own⟩, HT2, ⟨HAP.out.below⟩⟩
       ·have HT2 : Hd (acc = (al.take (i + 1)).filter nz) := ⟨by rw [HT.out, List.filter_cons, HZ.out]; simp⟩
        clear HT HZ
        go_wp2_with fail
        refine CZ.out.mono ?_
        rintro e w4 ⟨rfl, hb4⟩
        have HB4 := Hd.mk (goes HB2.out hb4)
        have HO4 := Hd.mk (HO.out.up hb4)
        clear hb4 CZ hrt
        go_wp2_with fail
        go_roundw
        case measure => first | (simp [intOf]; done) | (simp [intOf]; omega)
        case rel => exact ⟨i + 1, acc, by go_num, by omega, by omega, HO4, HT2, HB4⟩
      ·obtain rfl : i = al.length := by omega
       have HQ2 : Hd (E = if 60 < acc.length then (90, []) else (0, acc)) := ⟨by rw [HE3.out, HQ.out, List.take_length]⟩
       clear HQ
       by_cases h60 : 60 < acc.length
       ·have HF : Hd (E = (90, [])) := ⟨by rw [HQ2.out, if_pos h60]⟩
        clear HQ2
        go_wp2_with fail
        go_ret2
        rw [HF.out]
        exact ⟨none, 0, rfl, Nat.le_refl _, RPol.nil _ _ _, goes HB.out HB2.out, Fr.none _⟩
       ·have HF : Hd (E = (0, acc)) := ⟨by rw [HQ2.out, if_neg h60]⟩
        clear HQ2
        go_wp2_with fail
        go_ret2
        rw [HF.out]
        exact ⟨Av, cv, rfl, hcv, HRV.out, goes HB.out HB2.out, HO.out.fr HB.out.size⟩
theorem rpol_Make (b0 : Nat) (order : Int) (A : Option Addr) (c : Nat) (ts : List TermD) (w : World) (hb0 : b0 ≤ w.heap.size) (h : RPol w b0 A ts) (hc : ts.length ≤ c) (h9 : ts.length ≤ 50000) (hs : shortP ts) :
    Calls Tryz.prog 87 #[.int .i64 order, .slice A ts.length c] w fun e w' => ∃ A' c', e = .returned (.tuple #[.slice A' (polMake order ts).2.length c', .int .i64 (polMake order ts).1]) ∧
     (polMake order ts).2.length ≤ c' ∧ RPol w' b0 A' (polMake order ts).2 ∧ Below w.heap.size w w' :=
 (rpol_MakeF b0 order A c ts w hb0 h hc h9 hs).mono fun _ _ ⟨A', c', h1, h2, h3, h4, _⟩ => ⟨A', c', h1, h2, h3, h4⟩
theorem below_set4 {w0 w : World} {g : Nat} (h : Below w0.heap.size w0 w) (hg : w0.heap.size ≤ g) (x y z u : Value) : Below w0.heap.size w0 ((((w.setCell ⟨g, 0, none⟩ x).setCell ⟨g, 1, none⟩ y).setCell ⟨g, 2, none⟩ z).setCell ⟨g, 3, none⟩ u) :=
 (((h.setCell hg _).setCell hg _).setCell hg _).setCell hg _
end Go.Proofs.YtgjkgkgieeoalaaGreat
namespace Go.Proofs.YtgjkgkgieeoalaaGreat
open Go.RowKit Go.PlainAid
theorem fromF_ok {b : Int} : ∀ {l : List Int} {v : Nat}, (limbs v).length ≤ 8 → U64 (fromF b v l).2 ∧ (fromF b v l).2.length ≤ 8
 | [], v, h => ⟨limbs_u64 _, h⟩
 | d :: ds, v, _ => by
   unfold fromF
   split
   ·exact ⟨U64.nil, by simp⟩
   ·rename_i h
    exact fromF_ok (by omega)
theorem numD_ok (s : ByteArray) : U64 (numD s).2 ∧ (numD s).2.length ≤ 8 := by
 unfold numD
 split
 ·exact ⟨U64.nil, by simp⟩
 ·split
  ·exact ⟨U64.nil, by simp⟩
  ·split
   ·exact ⟨U64.nil, by simp⟩
   ·exact fromF_ok (by rw [limbs_zero]; decide)
theorem nempty {s : ByteArray} (h : ¬ s.size = 0) : s.data.toList.isEmpty = false := by
 obtain ⟨⟨l⟩⟩ := s
 cases l with
 | nil => exact absurd rfl h
 | cons x l => rfl
theorem size_nil {s : ByteArray} (h : s.size = 0) : s = ⟨#[]⟩ := by
 obtain ⟨⟨l⟩⟩ := s
 cases l with
 | nil => rfl
 | cons x l => simp [ByteArray.size] at h
def valueD (f : FacD) : Int × RatD :=
 if (numD f.up).1 ≠ 0 then ((numD f.up).1, zeroD) else
 if f.down.size = 0 then makeD false (numD f.up).2 [1] else
 if (numD f.down).1 ≠ 0 then ((numD f.down).1, zeroD) else makeD false (numD f.up).2 (numD f.down).2
theorem num_value (b0 : Nat) (f : FacD) (w : World) (hb0 : b0 ≤ w.heap.size) (hu : f.up.size ≤ maxLen) (hd : f.down.size ≤ maxLen) :
    Calls Tryz.prog 268 #[.agg f.v] w fun e w' => ∃ v, e = .returned (.tuple #[v, .int .i64 (valueD f).1]) ∧ RRat w' b0 v (valueD f).2 ∧ Below w.heap.size w w' := by
 obtain ⟨vr, up, down⟩ := f
 dsimp only at hu hd
 obtain ⟨E, hE⟩ : ∃ E, valueD ⟨vr, up, down⟩ = E := ⟨_, rfl⟩
 rw [hE]
 have HE := Hd.mk hE
 clear hE
 unfold valueD at HE
 dsimp only at HE
 have HB0 := Hd.mk hb0
 have CU := Hd.mk (fun W => num_parse up W hu)
 have NU := Hd.mk (numD_ok up)
 have CD := Hd.mk (fun W => num_parse down W hd)
 have ND := Hd.mk (numD_ok down)
 obtain ⟨⟨eu, U⟩, hU⟩ : ∃ X, numD up = X := ⟨_, rfl⟩
 obtain ⟨⟨ed, D⟩, hD⟩ : ∃ X, numD down = X := ⟨_, rfl⟩
 rw [hU] at CU NU HE
 rw [hD] at CD ND HE
 dsimp only at CU NU HE CD ND
 unfold maxLen at hu hd
 clear hU hD hb0
 go_enter Tryz.func268, Tryz.ntmps268
 go_upto_region 1 with (fail)
 refine wp_gen (fun W => Bo2 w.heap.size w.heap.size (w.heap.size + 1) w W 292 64 #[.int .i64 vr, .string up, .string down] #[.bool false, .slice none 0 0, .slice none 0 0]) (Bo2.mk2 w _ _ _ _) ?_
 intro W BX
 have HG2 : Hd (w.heap.size ≤ w.heap.size + 1) := ⟨Nat.le_succ _⟩
 generalize w.heap.size + 1 = g2 at BX HG2 ⊢
 obtain ⟨q0, q1, q2⟩ := BX.out.k1.three
 go_wp2_with fail
 refine (CU.out _).mono ?_
 rintro e w2 ⟨v, rfl, ho, hb⟩
 have BX2 := Hd.mk (BX.out.up hb)
 obtain ⟨A1, c1, rfl, hc1, _, hr1⟩ := ho.reads
 have HR1 := Hd.mk hr1
 clear ho hb q0 q1 q2 BX hr1
 by_cases hz : eu = 0
 case neg =>
  have e1 : (eu != 0) = true := by rw [bne_iff_ne]; exact hz
  have HT : Hd (E = (eu, zeroD)) := ⟨by rw [← HE.out]; exact if_pos hz⟩
  obtain ⟨p0, p1, p2⟩ := BX2.out.k2.three
  have fz := fun i => BX2.out.k2.froz i
  clear hz HE
  go_wp2_with fail
  refine bodyPost_ret (res_rat2 rfl _ _ g2 _ rfl (BX2.out.k2.set3 _ _ _) rfl) rfl ?_
  rw [HT.out]
  exact ⟨_, rfl, RRat.zero _ _, ((BX2.out.below.setCell HG2.out _).setCell HG2.out _).setCell HG2.out _⟩
 have e1 : (eu != 0) = false := by rw [hz]; rfl
 have HE1 := Hd.mk (HE.out.symm.trans (if_neg (by simpa using hz)))
 have CO := Hd.mk (fun W => rnat_Of 1 (by omega) (by omega) W)
 rw [show limbs (1 : Int).toNat = [1] from limbs_1] at CO
 obtain ⟨q0, q1, q2⟩ := BX2.out.k1.three
 clear hz HE
 go_wp2_with fail
 refine (CO.out _).mono ?_
 rintro e w3 ⟨v, rfl, ho, hb⟩
 have BX3 := Hd.mk (BX2.out.up hb)
 have HR3 := Hd.mk (HR1.out.up hb)
 obtain ⟨A2, c2, rfl, hc2, _, hr2⟩ := ho.reads
 have HR2 := Hd.mk hr2
 clear ho hb q0 q1 q2 BX2 HR1 hr2
 obtain ⟨q0, q1, q2⟩ := BX3.out.k1.three
 by_cases hd0 : down.size = 0
 ·obtain rfl := size_nil hd0
  have HE2 := Hd.mk (HE1.out.trans (if_pos hd0))
  have CM := Hd.mk (rrat_Make b0 false A1 A2 c1 c2 U [1] w3 (Nat.le_trans HB0.out BX3.out.below.size) HR3.out hc1 HR2.out hc2 NU.out.1 (u64_one (by omega) (by omega)) (by have := NU.out.2; omega) (by simp))
  rw [← HE2.out] at CM
  simp only [List.length_cons, List.length_nil, Nat.zero_add] at CM
  clear HE1 hd0 CD ND CU CO
  go_wp2_with fail
  refine CM.out.mono ?_
  rintro e w5 ⟨v, rfl, hr, hb⟩
  have BX5 := Hd.mk (BX3.out.up hb)
  have HR := Hd.mk hr
  obtain ⟨XA, xc, XB, xd, rfl, _, _, _, _⟩ := hr
  obtain ⟨p0, p1, p2⟩ := BX5.out.k2.three
  have fz := fun i => BX5.out.k2.froz i
  clear hb CM BX3
  go_wp2_with fail
  refine bodyPost_ret (res_rat2 rfl _ _ g2 _ rfl (BX5.out.k2.set3 _ _ _) rfl) rfl ?_
  exact ⟨_, rfl, RRat.set3 HR.out BX5.out.k2 (Nat.le_trans HB0.out HG2.out) _ _ _, ((BX5.out.below.setCell HG2.out _).setCell HG2.out _).setCell HG2.out _⟩
 ·have hdn : down ≠ ⟨#[]⟩ := fun e => hd0 (by rw [e]; rfl)
  have e2 : down.toList.isEmpty = false := by rw [ByteArray.toList_eq]; exact nempty hd0
  have HE2 := Hd.mk (HE1.out.trans (if_neg hd0))
  clear HE1 hd0 hdn
  go_wp2_with fail
  refine (CD.out _).mono ?_
  rintro e w5 ⟨v, rfl, ho, hb⟩
  have BX5 := Hd.mk (BX3.out.up hb)
  have HR5 := Hd.mk (HR3.out.up hb)
  obtain ⟨A4, c4, rfl, hc4, _, hr4⟩ := ho.reads
  have HR4 := Hd.mk hr4
  clear ho hb q0 q1 q2 BX3 HR3 HR2 hr4 CD CU CO e2
  by_cases hz : ed = 0
  case neg =>
   have e1 : (ed != 0) = true := by rw [bne_iff_ne]; exact hz
   have HT : Hd (E = (ed, zeroD)) := ⟨by rw [HE2.out]; exact if_pos hz⟩
   obtain ⟨p0, p1, p2⟩ := BX5.out.k2.three
   have fz := fun i => BX5.out.k2.froz i
   clear hz HE2
   go_wp2_with fail
   refine bodyPost_ret (res_rat2 rfl _ _ g2 _ rfl (BX5.out.k2.set3 _ _ _) rfl) rfl ?_
   rw [HT.out]
   exact ⟨_, rfl, RRat.zero _ _, ((BX5.out.below.setCell HG2.out _).setCell HG2.out _).setCell HG2.out _⟩
  have e1 : (ed != 0) = false := by rw [hz]; rfl
  have HE3 := Hd.mk (HE2.out.trans (if_neg (by simpa using hz)))
  have CM := Hd.mk (rrat_Make b0 false A1 A4 c1 c4 U D w5 (Nat.le_trans HB0.out BX5.out.below.size) HR5.out hc1 HR4.out hc4 NU.out.1 ND.out.1 (by have := NU.out.2; omega) (by have := ND.out.2; omega))
  rw [← HE3.out] at CM
  clear hz HE2
  go_wp2_with fail
  refine CM.out.mono ?_
  rintro e w6 ⟨v, rfl, hr, hb⟩
  have BX6 := Hd.mk (BX5.out.up hb)
  have HR := Hd.mk hr
  obtain ⟨XA, xc, XB, xd, rfl, _, _, _, _⟩ := hr
  obtain ⟨p0, p1, p2⟩ := BX6.out.k2.three
  have fz := fun i => BX6.out.k2.froz i
  clear hb CM BX5
  go_wp2_with fail
  refine bodyPost_ret (res_rat2 rfl _ _ g2 _ rfl (BX6.out.k2.set3 _ _ _) rfl) rfl ?_
  exact ⟨_, rfl, RRat.set3 HR.out BX6.out.k2 (Nat.le_trans HB0.out HG2.out) _ _ _, ((BX6.out.below.setCell HG2.out _).setCell HG2.out _).setCell HG2.out _⟩
end Go.Proofs.YtgjkgkgieeoalaaGreat
