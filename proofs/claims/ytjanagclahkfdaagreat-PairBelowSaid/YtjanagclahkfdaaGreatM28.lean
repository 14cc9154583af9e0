/- Parts of the proof, joined: what each says stands at its head. -/
import Derived.Test.YtjanagclahkfdaaGreatM27
import Derived.Test.YtjanagclahkfdaaGreatM24
set_option linter.unusedVariables false
set_option linter.unusedSimpArgs false
set_option maxHeartbeats 24000000
set_option maxRecDepth 100000
namespace Go.Proofs.YtjanagclahkfdaaGreat
open Go.RowKit
theorem timesL_cons {t s : TermD} {r : List TermD} : timesL t (s :: r) = if (mulD s.c t.c).1 ≠ 0 then ((mulD s.c t.c).1, []) else if (monMul s.m t.m).1 ≠ 0 then ((monMul s.m t.m).1, [])
    else if (timesL t r).1 ≠ 0 then ((timesL t r).1, []) else (0, ⟨(mulD s.c t.c).2, (monMul s.m t.m).2⟩ :: (timesL t r).2) := rfl
theorem below_set4 {w0 w : World} {g : Nat} (h : Below w0.heap.size w0 w) (hg : w0.heap.size ≤ g) (x y z u : Value) : Below w0.heap.size w0 ((((w.setCell ⟨g, 0, none⟩ x).setCell ⟨g, 1, none⟩ y).setCell ⟨g, 2, none⟩ z).setCell ⟨g, 3, none⟩ u) :=
 (((h.setCell hg _).setCell hg _).setCell hg _).setCell hg _
theorem rpol_Times (b0 : Nat) (order : Int) (A : Option Addr) (c : Nat) (ps : List TermD) (v : Value) (t : TermD) (w : World) (hb0 : b0 ≤ w.heap.size) (h : RPol w b0 A ps) (hc : ps.length ≤ c) (hs : shortP ps) (ht : RTerm w b0 v t) (hts : t.c.short) :
    Calls Tryz.prog 53 #[.int .i64 order, .slice A ps.length c, v] w fun e w' => ∃ A' c', e = .returned (.tuple #[.slice A' (polTimes order ps t).2.length c', .int .i64 (polTimes order ps t).1]) ∧
     (polTimes order ps t).2.length ≤ c' ∧ RPol w' b0 A' (polTimes order ps t).2 ∧ Below w.heap.size w w' := by
 have hl := hs.1
 have HP := Hd.mk h
 have HS := Hd.mk hs
 have HB0 := Hd.mk hb0
 have HT := Hd.mk ht
 have HTS := Hd.mk hts
 obtain ⟨E, hE⟩ : ∃ E, polTimes order ps t = E := ⟨_, rfl⟩
 rw [hE]
 have HE := Hd.mk hE
 clear h hs hb0 hts hE
 obtain ⟨TA, tc, TB, td, rfl, _, _, _, _⟩ := ht
 go_enter Tryz.func53, Tryz.ntmps53
 go_upto_region 1 with (fail)
 refine wp_gen (fun W => Below w.heap.size w W ∧ Bk W w.heap.size 53 (t.v TA tc TB td)) ⟨(Below.refl _ _).alloc (Nat.le_refl _) _, Bk.new_ _ _ _⟩ ?_
 intro W0 hW
 have HB := Hd.mk hW.out.1
 have HK := Hd.mk hW.out.2
 have HB01 : Hd (b0 ≤ w.heap.size + 1) := ⟨by have := HB0.out; omega⟩
 have HLT : Hd (w.heap.size < w.heap.size + 1) := ⟨Nat.lt_succ_self _⟩
 have HZ : Hd (w.heap.size + 1 ≤ W0.heap.size) := ⟨HK.out.lt⟩
 clear hW
 obtain ⟨gb, hgb⟩ : ∃ gb, w.heap.size = gb := ⟨_, rfl⟩
 obtain ⟨base, hbase⟩ : ∃ base, w.heap.size + 1 = base := ⟨_, rfl⟩
 rw [hbase] at HZ HB01 HLT
 have HBB : Hd (w.heap.size ≤ base) := ⟨Nat.le_of_lt HLT.out⟩
 rw [hgb] at HK HLT ⊢
 clear hbase hgb
 have CM := Hd.mk (rpol_May b0 order A c ps W0 (HP.out.up HB.out) hc HS.out)
 cases hm : polMay order ps
 ·rw [hm] at CM
  have HF : Hd (E = (1, [])) := ⟨by rw [← HE.out]; unfold polTimes; rw [hm]; rfl⟩
  clear hm
  go_wp2_with fail
  refine CM.out.mono ?_
  rintro e w2 ⟨rfl, hb2⟩
  have HB2 := Hd.mk (goes HB.out hb2)
  clear hb2
  go_wp2_with fail
  go_ret2
  rw [HF.out]
  exact ⟨none, 0, rfl, Nat.le_refl _, RPol.nil _ _ _, HB2.out⟩
 rw [hm] at CM
 have hl60 := polMay_len hm
 cases hr1 : ratMay t.c
 ·have HF : Hd (E = (1, [])) := ⟨by rw [← HE.out]; unfold polTimes right; rw [hr1, hm]; rfl⟩
  clear hm
  go_wp2_with fail
  refine CM.out.mono ?_
  rintro e w2 ⟨rfl, hb2⟩
  have HB2 := Hd.mk (goes HB.out hb2)
  obtain ⟨⟨t0, t1, t2⟩, t3, t4, t5, t6⟩ := (HK.out.up hb2).seven
  have CR := Hd.mk (rrat_May b0 _ t.c w2 (HT.out.rat.up HB2.out) HTS.out)
  rw [hr1] at CR
  clear hb2 hr1
  go_wp2_with fail
  refine CR.out.mono ?_
  rintro e w3 ⟨rfl, hb3⟩
  have HB3 := Hd.mk (goes HB2.out hb3)
  clear hb3
  go_wp2_with fail
  go_ret2
  rw [HF.out]
  exact ⟨none, 0, rfl, Nat.le_refl _, RPol.nil _ _ _, HB3.out⟩
 have CRA := Hd.mk (fun W (hB : Hd (Below w.heap.size w W)) => rrat_May b0 _ t.c W (HT.out.rat.up hB.out) HTS.out)
 rw [hr1] at CRA
 cases hr2 : monMay t.m
 ·have HF : Hd (E = (1, [])) := ⟨by rw [← HE.out]; unfold polTimes right; rw [hr1, hr2, hm]; rfl⟩
  have CMM := Hd.mk (rmon_May t.m)
  rw [hr2] at CMM
  clear hm hr1 hr2
  go_wp2_with fail
  refine CM.out.mono ?_
  rintro e w2 ⟨rfl, hb2⟩
  have HB2 := Hd.mk (goes HB.out hb2)
  have HK2 := Hd.mk (HK.out.up hb2)
  obtain ⟨⟨t0, t1, t2⟩, t3, t4, t5, t6⟩ := HK2.out.seven
  clear hb2
  go_wp2_with fail
  refine (CRA.out _ HB2).mono ?_
  rintro e w3 ⟨rfl, hb3⟩
  have HB3 := Hd.mk (goes HB2.out hb3)
  obtain ⟨⟨t0, t1, t2⟩, t3, t4, t5, t6⟩ := (HK2.out.up hb3).seven
  clear hb3
  go_wp2_with fail
  refine (CMM.out _).mono ?_
  rintro e w4 ⟨rfl, hb4⟩
  have HB4 := Hd.mk (goes HB3.out hb4)
  clear hb4
  go_wp2_with fail
  go_ret2
  rw [HF.out]
  exact ⟨none, 0, rfl, Nat.le_refl _, RPol.nil _ _ _, HB4.out⟩
 have HE1 : Hd (E = if t.c.num.length = 0 then (0, []) else timesL t ps) := ⟨by rw [← HE.out]; unfold polTimes right; rw [hr1, hr2, hm]; rfl⟩
 have CMM := Hd.mk (rmon_May t.m)
 rw [hr2] at CMM
 have CZ := Hd.mk (fun W (hB : Hd (Below w.heap.size w W)) => rrat_Zero b0 _ t.c W (HT.out.rat.up hB.out))
 have HM := Hd.mk (And.intro hr1 hr2)
 clear hm hr1 hr2 HE
 go_wp2_with fail
 refine CM.out.mono ?_
 rintro e w2 ⟨rfl, hb2⟩
 have HB2 := Hd.mk (goes HB.out hb2)
 have HK2 := Hd.mk (HK.out.up hb2)
 have HZ2 := Hd.mk (Nat.le_trans HZ.out hb2.size)
 obtain ⟨⟨t0, t1, t2⟩, t3, t4, t5, t6⟩ := HK2.out.seven
 clear hb2 HK HB CM HZ
 go_wp2_with fail
 refine (CRA.out _ HB2).mono ?_
 rintro e w3 ⟨rfl, hb3⟩
 have HB3 := Hd.mk (goes HB2.out hb3)
 have HK3 := Hd.mk (HK2.out.up hb3)
 have HZ3 := Hd.mk (Nat.le_trans HZ2.out hb3.size)
 obtain ⟨⟨t0, t1, t2⟩, t3, t4, t5, t6⟩ := HK3.out.seven
 clear hb3 HK2 HB2 CRA HZ2
 go_wp2_with fail
 refine (CMM.out _).mono ?_
 rintro e w4 ⟨rfl, hb4⟩
 have HB4 := Hd.mk (goes HB3.out hb4)
 have HK4 := Hd.mk (HK3.out.up hb4)
 have HZ4 := Hd.mk (Nat.le_trans HZ3.out hb4.size)
 clear hb4 HK3 HB3 CMM t0 t1 t2 t3 t4 t5 t6 HZ3
 go_upto_region 4 with (fail)
 refine wp_gen (fun W => Below w4.heap.size w4 W ∧ OwnT W b0 base (.slice (some ⟨w4.heap.size, 0, none⟩) 0 0) []) ⟨(Below.refl _ _).alloc (Nat.le_refl _) _, ownT_lit w4 b0 base HZ4.out⟩ ?_
 intro W5 hW
 have HO5 := Hd.mk hW.out.2
 have HB5 := Hd.mk (goes HB4.out hW.out.1)
 have HK5 := Hd.mk (HK4.out.up hW.out.1)
 have HZ5 := Hd.mk (Nat.le_trans HZ4.out hW.out.1.size)
 clear hW HB4 HK4 HZ4
 generalize w4.heap.size = g4 at HO5 ⊢
 obtain ⟨⟨t0, t1, t2⟩, t3, t4, t5, t6⟩ := HK5.out.seven
 by_cases hz : t.c.num.length = 0
 ·have HF : Hd (E = (0, [])) := ⟨by rw [HE1.out, if_pos hz]⟩
  rw [decide_eq_true hz] at CZ
  clear hz
  go_wp2_with fail
  refine (CZ.out _ HB5).mono ?_
  rintro e w6 ⟨rfl, hb6⟩
  have HB6 := Hd.mk (goes HB5.out hb6)
  clear hb6
  go_wp2_with fail
  go_ret2
  rw [HF.out]
  exact ⟨some ⟨g4, 0, none⟩, 0, rfl, Nat.le_refl _, RPol.nil _ _ _, HB6.out⟩
 have HE2 : Hd (E = timesL t ps) := ⟨by rw [HE1.out, if_neg hz]⟩
 rw [decide_eq_false hz] at CZ
 clear hz HE1
 go_wp2_with fail
 refine (CZ.out _ HB5).mono ?_
 rintro e w6 ⟨rfl, hb6⟩
 have HB6 := Hd.mk (goes HB5.out hb6)
 have HK6 := Hd.mk (HK5.out.up hb6)
 have HO6 := Hd.mk (HO5.out.up hb6)
 have HZ6 := Hd.mk (Nat.le_trans HZ5.out hb6.size)
 clear hb6 HB5 HK5 HO5 HZ5 CZ t0 t1 t2 t3 t4 t5 t6
 go_wp2_with fail
 go_loopw [8, 9] (fun v8 v9 wr => ∃ (i : Nat) (ds : List TermD), v9 = .int .i64 i ∧ i ≤ ps.length ∧ ds.length ≤ i ∧ Hd (OwnT wr b0 base v8 ds) ∧ Hd (E = appD ds (timesL t (ps.drop i))) ∧ Hd (Below w.heap.size w wr) ∧ Hd (Bk wr gb 53 (t.v TA tc TB td)) ∧ Hd (base ≤ wr.heap.size)) (fun _ v _ => ps.length - (intOf v).toNat)
 case atStart => exact ⟨0, [], rfl, by omega, by simp, HO6, ⟨by rw [HE2.out]; exact (appD_nil t ps).symm⟩, HB6, HK6, HZ6⟩
 case round =>
  clear HO6 HB6 HK6 HZ6 HE2
  obtain ⟨i, ds, rfl, hi, hds, HO, HQ, HB, HK, HZ⟩ := hrel
  obtain ⟨Av, cv, rfl, hcv, _, hrv⟩ := HO.out.reads
  have HRV := Hd.mk hrv
  clear hrv
  by_cases hlt : i < ps.length
  ·have i1 : (i : Int) < ps.length := by omega
   have i3 : (0 : Int) ≤ i := by omega
   obtain ⟨ad, B1, c1, B2, c2, s, rfl, hab, hsi, hrt, q0, q1, q2, q3, q4, q5, q6⟩ := (HP.out.up HB.out).get hlt
   obtain ⟨⟨t0, t1, t2⟩, t3, t4, t5, t6⟩ := HK.out.seven
   have HSS := HS.out.2 s (List.mem_of_getElem? hsi.out)
   have CA := Hd.mk (fun W (hB : Hd (Below wr.heap.size wr W)) => rrat_Mul b0 _ _ s.c t.c W (Nat.le_trans HB0.out (Nat.le_trans HB.out.size hB.out.size)) (hrt.out.rat.up hB.out) (HT.out.rat.up (goes HB.out hB.out)) HSS HTS.out)
   have CB := Hd.mk (rmon_Mul s.m t.m)
   have HD : Hd (E = appD ds (timesL t (s :: ps.drop (i + 1)))) := ⟨by
    have e1 : ps[i] = s := by have := hsi.out; rw [List.getElem?_eq_getElem hlt] at this; injection this
    rw [HQ.out, List.drop_eq_getElem_cons hlt, e1]⟩
   have HN := Hd.mk (fun h1 h2 => HD.out.trans (appD_step (t := t) (s := s) (ds := ds) (r := ps.drop (i + 1)) h1 h2))
   have HE1 : Hd ((mulD s.c t.c).1 ≠ 0 → E = ((mulD s.c t.c).1, [])) := ⟨fun h => by rw [HD.out, timesL_cons, if_pos h]; unfold appD; rw [if_pos h]⟩
   have HE2 : Hd ((mulD s.c t.c).1 = 0 → (monMul s.m t.m).1 ≠ 0 → E = ((monMul s.m t.m).1, [])) := ⟨fun h1 h => by rw [HD.out, timesL_cons, if_neg (by simpa using h1), if_pos h]; unfold appD; rw [if_pos h]⟩
   obtain ⟨X1, X2, hX⟩ : ∃ X1 X2, mulD s.c t.c = (X1, X2) := ⟨_, _, rfl⟩
   obtain ⟨Y1, Y2, hY⟩ : ∃ Y1 Y2, monMul s.m t.m = (Y1, Y2) := ⟨_, _, rfl⟩
   rw [hX] at CA HN HE1 HE2
   rw [hY] at CB HN HE2
   have SO := Hd.mk (fun W (hB : Below wr.heap.size wr W) => And.intro (Hd.mk hB) (And.intro (cell_up q0 hB) (And.intro (cell_up q1 hB) (And.intro (cell_up q2 hB) (And.intro (cell_up t0 hB) (And.intro (cell_up t1 hB) (cell_up t2 hB)))))))
   clear hX hY HSS hsi HQ HD
   go_wp2_with fail
   go_region_held3 (fun w' => Hd (Below wr.heap.size wr w') ∧ w'.cell? (ad.add (i * 7)) = some (.bool s.c.neg) ∧ w'.cell? ⟨(ad.add (i * 7)).block, (ad.add (i * 7)).off + 1, none⟩ = some (.slice B1 s.c.num.length c1) ∧ w'.cell? ⟨(ad.add (i * 7)).block, (ad.add (i * 7)).off + 2, none⟩ = some (.slice B2 s.c.den.length c2) ∧
       w'.cell? ⟨gb, 0, none⟩ = some (.bool t.c.neg) ∧ w'.cell? ⟨gb, 1, none⟩ = some (.slice TA t.c.num.length tc) ∧ w'.cell? ⟨gb, 2, none⟩ = some (.slice TB t.c.den.length td))
    (first
     | exact SO.out _ (.refl _ _)
     | exact SO.out _ (Below.refl _ _).drew
     | exact SO.out _ ((Below.refl _ _).drew.alloc (Nat.le_refl _) _)
     | exact SO.out _ ((Below.refl _ _).alloc (Nat.le_refl _) _).drew
     | exact SO.out _ hB5
     | exact SO.out _ (hB5.alloc hB5.size _)
     | exact SO.out _ (((hB5.setCell (Nat.le_refl _) _).setCell (Nat.le_refl _) _).setCell (Nat.le_refl _) _)
     | exact SO.out _ ((((hB5.alloc hB5.size _).setCell hB5.size _).setCell hB5.size _).setCell hB5.size _))
    (first
     | (go_at_call 52; have hB := ‹Hd (Below wr.heap.size wr _) ∧ _›.1; with_reducible refine (CA.out ((wr.alloc (Obj.cells #[.bool false, .slice none 0 0, .slice none 0 0] 51)).drew) hB).mono ?_; rintro e w5 ⟨x, rfl, hx, hb⟩
        have hB5 := hB.out.trans (hb.mono hB.out.size)
        have HX := Hd.mk hx
        have hk := Hd.mk ((Bk.new_ wr 51 #[.bool false, .slice none 0 0, .slice none 0 0]).d1.up hb)
        obtain ⟨p6, p7, p8⟩ := hk.out.three
        have fz := fun i => hk.out.froz i
        obtain ⟨XA, xc, XB, xd, rfl, _, _, _, _⟩ := hx)
     | (go_at_call 52; have hB := ‹Hd (Below wr.heap.size wr _) ∧ _›.1; with_reducible refine (CA.out _ hB).mono ?_; rintro e w5 ⟨x, rfl, hx, hb⟩
        have hB5 := hB.out.trans (hb.mono hB.out.size)
        have HX := Hd.mk hx
        obtain ⟨XA, xc, XB, xd, rfl, _, _, _, _⟩ := hx))
   all_goals
    have hB6 := ‹Hd (Below wr.heap.size wr _) ∧ _›.1
    have HX6 := Hd.mk (at_world (v := .agg #[.bool X2.neg, .slice XA X2.num.length xc, .slice XB X2.den.length xd]) hB6.out (by first | exact HX.out.up ((Below.refl _ _).alloc (Nat.le_refl _) _) | exact RRat.set3 HX.out hk.out (Nat.le_trans HB0.out HB.out.size) _ _ _))
    by_cases hx0 : X1 = 0
    ·have e3 : (X1 != 0) = false := by rw [bne_eq_false_iff_eq]; exact hx0
     have HN2 := Hd.mk (HN.out hx0)
     have HE3 := Hd.mk (HE2.out hx0)
     clear hx0 HN HE1 HE2 CA SO
     go_upto_region 12 with (fail)
     first
      | refine wp_gen (fun W => Below wr.heap.size wr W ∧ RRat W b0 (.agg #[.bool X2.neg, .slice XA X2.num.length xc, .slice XB X2.den.length xd]) X2 ∧ ∃ g, g = w5.heap.size ∧ Bk W g 51 #[.bool X2.neg, .slice XA X2.num.length xc, .slice XB X2.den.length xd]) ⟨hB6.out, HX6.out, _, rfl, Bk.new_ _ _ _⟩ ?_
      | refine wp_gen (fun W => Below wr.heap.size wr W ∧ RRat W b0 (.agg #[.bool X2.neg, .slice XA X2.num.length xc, .slice XB X2.den.length xd]) X2 ∧ ∃ g, g = wr.heap.size ∧ Bk W g 51 #[.bool X2.neg, .slice XA X2.num.length xc, .slice XB X2.den.length xd]) ⟨hB6.out, HX6.out, _, rfl, hk.out.set3 _ _ _⟩ ?_
     intro W7 h7
     obtain ⟨hB7, hX7, g10, hg10, hk10⟩ := h7.out
     rw [← hg10]
     obtain ⟨k0, k1, k2, k3, k4, k5, k6⟩ := Wd.at7 q0 q1 q2 q3 q4 q5 q6
     have k3 := k3 ⟨W7, hB7⟩
     have k4 := k4 ⟨W7, hB7⟩
     have k5 := k5 ⟨W7, hB7⟩
     have k6 := k6 ⟨W7, hB7⟩
     simp only [Wd.w] at k3 k4 k5 k6
     obtain ⟨r0, r1, r2⟩ := hk10.three
     have SO2 := Hd.mk (fun W (hB : Below W7.heap.size W7 W) => And.intro (Hd.mk hB) (And.intro (cell_up k3 hB) (And.intro (cell_up k4 hB) (And.intro (cell_up k5 hB) (And.intro (cell_up k6 hB) (And.intro (cell_up (cell_up t3 hB7) hB) (And.intro (cell_up (cell_up t4 hB7) hB) (And.intro (cell_up (cell_up t5 hB7) hB) (And.intro (cell_up (cell_up t6 hB7) hB) (And.intro (cell_up r0 hB) (And.intro (cell_up r1 hB) (cell_up r2 hB))))))))))))
     have HB7 := Hd.mk hB7
     have HX7 := Hd.mk hX7
     have CB2 := Hd.mk (fun W => CB.out W)
     simp only [MonD.v] at CB2
     clear h7 hB7 hX7 hg10 hk10 k0 k1 k2 k3 k4 k5 k6 r0 r1 r2 t0 t1 t2 t3 t4 t5 t6 q0 q1 q2 q3 q4 q5 q6 CB HX6 hB6 hB5
     go_wp2_with fail
     go_region_held3 (fun w' => Hd (Below W7.heap.size W7 w') ∧ w'.cell? ⟨(ad.add (i * 7)).block, (ad.add (i * 7)).off + 3, none⟩ = some (.int .i64 s.m.x0) ∧ w'.cell? ⟨(ad.add (i * 7)).block, (ad.add (i * 7)).off + 3 + 1, none⟩ = some (.int .i64 s.m.x1) ∧ w'.cell? ⟨(ad.add (i * 7)).block, (ad.add (i * 7)).off + 3 + 2, none⟩ = some (.int .i64 s.m.x2) ∧ w'.cell? ⟨(ad.add (i * 7)).block, (ad.add (i * 7)).off + 3 + 3, none⟩ = some (.int .i64 s.m.x3) ∧
         w'.cell? ⟨gb, 3, none⟩ = some (.int .i64 t.m.x0) ∧ w'.cell? ⟨gb, 4, none⟩ = some (.int .i64 t.m.x1) ∧ w'.cell? ⟨gb, 5, none⟩ = some (.int .i64 t.m.x2) ∧ w'.cell? ⟨gb, 6, none⟩ = some (.int .i64 t.m.x3) ∧
         w'.cell? ⟨g10, 0, none⟩ = some (.bool X2.neg) ∧ w'.cell? ⟨g10, 1, none⟩ = some (.slice XA X2.num.length xc) ∧ w'.cell? ⟨g10, 2, none⟩ = some (.slice XB X2.den.length xd))
      (first
       | exact SO2.out _ (.refl _ _)
       | exact SO2.out _ (Below.refl _ _).drew
       | exact SO2.out _ ((Below.refl _ _).drew.alloc (Nat.le_refl _) _)
       | exact SO2.out _ ((Below.refl _ _).alloc (Nat.le_refl _) _).drew
       | exact SO2.out _ hB8
       | exact SO2.out _ (hB8.alloc hB8.size _)
       | exact SO2.out _ (below_set4 hB8 (Nat.le_refl _) _ _ _ _)
       | exact SO2.out _ (below_set4 (hB8.alloc hB8.size _) hB8.size _ _ _ _))
      (first
       | (go_at_call 25; have hB := ‹Hd (Below W7.heap.size W7 _) ∧ _›.1; with_reducible refine (CB2.out ((W7.alloc (Obj.cells #[.int .i64 0, .int .i64 0, .int .i64 0, .int .i64 0] 45)).drew)).mono ?_; rintro e w8 ⟨rfl, hb⟩
          have hB8 := hB.out.trans (hb.mono hB.out.size)
          have hk2 := Hd.mk ((Bk.new_ W7 45 #[.int .i64 0, .int .i64 0, .int .i64 0, .int .i64 0]).d1.up hb)
          obtain ⟨p1, p2, p3, p4⟩ := hk2.out.four
          have fz2 := fun i => hk2.out.froz i)
       | (go_at_call 25; have hB := ‹Hd (Below W7.heap.size W7 _) ∧ _›.1; with_reducible refine (CB2.out _).mono ?_; rintro e w8 ⟨rfl, hb⟩
          have hB8 := hB.out.trans (hb.mono hB.out.size)))
     all_goals
      have hB9 := ‹Hd (Below W7.heap.size W7 _) ∧ _›.1
      by_cases hy0 : Y1 = 0
      ·have e4 : (Y1 != 0) = false := by rw [bne_eq_false_iff_eq]; exact hy0
       have HV2 := Hd.mk (HN2.out hy0)
       have HB9 := Hd.mk (goes HB7.out hB9.out)
       have HX9 := Hd.mk (HX7.out.up hB9.out)
       have T1 := rpol_one (t := ⟨X2, Y2⟩) (rterm_of HX9.out Y2) 53
       dsimp only at T1
       first | rw [World.size_alloc] at T1 | rw [World.size_setCell, World.size_setCell, World.size_setCell, World.size_setCell] at T1
       obtain ⟨tn, htn⟩ : ∃ tn : TermD, tn = ⟨X2, Y2⟩ := ⟨_, rfl⟩
       rw [← htn] at T1
       rw [show (⟨(X1, X2).2, (Y1, Y2).2⟩ : TermD) = tn from htn.symm] at HV2
       have HT1 := Hd.mk T1
       have xl : ds.length + [tn].length ≤ 1000000 := by simp; omega
       have XL := Hd.mk xl
       clear hy0 HN2 HE3 xl T1 htn
       go_wp2_with (at_builtin; refine wpList_append_T (w0 := w) (us := [tn]) rfl _ _ 23 23 rfl Tryz.slPoly Tryz.slPoly rfl rfl rfl (HO.out.up (HB9.out.alloc HB9.out.size _)) HT1.out HB01.out XL.out (goes HB.out (HB9.out.alloc HB9.out.size _)) HBB.out (Nat.le_trans HZ.out (HB9.out.alloc HB9.out.size _).size) ?_)
       intro v' w10 AP
       have HAP := Hd.mk AP
       clear AP
       have HK10 := Hd.mk (HAP.out.bk (HK.out.up (HB9.out.alloc HB9.out.size _)) HLT.out)
       have HZ10 := Hd.mk (Nat.le_trans (Nat.le_trans HZ.out (HB9.out.alloc HB9.out.size _).size) HAP.out.size)
       have hl10 : (ds ++ [tn]).length ≤ i + 1 := by simp; omega
       go_wp2_with fail
       go_roundw
       case measure => first | (simp [intOf]; done) | (simp [intOf]; omega)
       case rel => exact ⟨i + 1, _, by go_num, by omega, hl10, ⟨HAP.out.own⟩, HV2, ⟨HAP.out.below⟩, HK10, HZ10⟩
      ·have e4 : (Y1 != 0) = true := by rw [bne_iff_ne]; exact hy0
       have HV2 := Hd.mk (HE3.out hy0)
       clear HN2 HE3 hy0
       go_wp2_with fail
       go_ret2
       rw [HV2.out]
       exact ⟨none, 0, rfl, Nat.le_refl _, RPol.nil _ _ _, goes HB.out (goes HB7.out hB9.out)⟩
    ·have e3 : (X1 != 0) = true := by rw [bne_iff_ne]; exact hx0
     have HV2 := Hd.mk (HE1.out hx0)
     clear HE1 HE2 HN hx0
     go_wp2_with fail
     go_ret2
     rw [HV2.out]
     exact ⟨none, 0, rfl, Nat.le_refl _, RPol.nil _ _ _, goes HB.out hB6.out⟩
  ·obtain rfl : i = ps.length := by omega
   have HF : Hd (E = (0, ds)) := ⟨by rw [HQ.out, List.drop_eq_nil_of_le (Nat.le_refl _)]; unfold timesL appD; simp⟩
   go_wp2_with fail
   go_ret2
   rw [HF.out]
   exact ⟨Av, cv, rfl, hcv, HRV.out, HB.out⟩
theorem rpol_AddF (b0 : Nat) (order : Int) (A : Option Addr) (c : Nat) (ps : List (List TermD)) (w : World) (hb0 : b0 ≤ w.heap.size) (h : RPols w b0 A ps) (hc : ps.length ≤ c) (h8 : ps.length ≤ 800) (hs : shortPs ps) :
    Calls Tryz.prog 23 #[.int .i64 order, .slice A ps.length c] w fun e w' => ∃ A' c', e = .returned (.tuple #[.slice A' (polAdd order ps).2.length c', .int .i64 (polAdd order ps).1]) ∧
     (polAdd order ps).2.length ≤ c' ∧ RPol w' b0 A' (polAdd order ps).2 ∧ Below w.heap.size w w' ∧ Fr w.heap.size A' := by
 have HP := Hd.mk h
 have HS := Hd.mk hs
 have HB0 := Hd.mk hb0
 obtain ⟨E, hE⟩ : ∃ E, polAdd order ps = E := ⟨_, rfl⟩
 rw [hE]
 have HE := Hd.mk hE
 clear h hs hb0 hE
 go_enter Tryz.func23, Tryz.ntmps23
 go_upto_region 2 with (fail)
 refine wp_gen (fun W => Below w.heap.size w W ∧ OwnT W b0 w.heap.size (.slice (some ⟨w.heap.size, 0, none⟩) 0 0) []) ⟨(Below.refl _ _).alloc (Nat.le_refl _) _, ownT_lit w b0 w.heap.size (Nat.le_refl _)⟩ ?_
 intro W0 hW
 have HB := Hd.mk hW.out.1
 have HO := Hd.mk hW.out.2
 clear hW
 go_wp2_with fail
 go_loopw [6, 7] (fun v6 v7 wr => ∃ (i : Nat) (acc : List TermD), v7 = .int .i64 i ∧ i ≤ ps.length ∧ acc.length ≤ 60 * i ∧ Hd ((ps.take i).all (polMay order) = true) ∧ Hd (acc = (ps.take i).flatten) ∧ Hd (OwnT wr b0 w.heap.size v6 acc) ∧ Hd (Below w.heap.size w wr)) (fun _ v _ => ps.length - (intOf v).toNat)
 case atStart => exact ⟨0, [], rfl, by omega, by simp, ⟨rfl⟩, ⟨rfl⟩, HO, HB⟩
 case round =>
  clear HO HB
  obtain ⟨i, acc, rfl, hi, hfl, HA, HFA, HO, HB⟩ := hrel
  obtain ⟨Av, cv, rfl, hcv, _, hrv⟩ := HO.out.reads
  have HRV := Hd.mk hrv
  clear hrv
  by_cases hlt : i < ps.length
  ·have i1 : (i : Int) < ps.length := by omega
   have i3 : (0 : Int) ≤ i := by omega
   obtain ⟨ad, a, ca, p, rfl, hab, hpi, q0, hpc, hrp⟩ := (HP.out.up HB.out).get hlt
   have CM := Hd.mk (rpol_May b0 order a ca p wr hrp.out hpc (HS.out.2 p (List.mem_of_getElem? hpi.out)))
   have HAL := Hd.mk (all_take (f := polMay order) hpi.out)
   have HFL : Hd (acc ++ p = (ps.take (i + 1)).flatten) := ⟨by rw [flat_take hpi.out, HFA.out]⟩
   cases hm : polMay order p
   ·rw [hm] at CM HAL
    have HF : Hd (E = (1, [])) := ⟨by
     rw [← HE.out]
     unfold polAdd
     rw [if_pos]
     rw [List.all_eq_false]
     exact ⟨p, List.mem_of_getElem? hpi.out, by rw [hm]; simp⟩⟩
    clear hm hpi
    go_wp2_with fail
    refine CM.out.mono ?_
    rintro e w3 ⟨rfl, hb3⟩
    have HB3 := Hd.mk (goes HB.out hb3)
    clear hb3
    go_wp2_with fail
    go_ret2
    rw [HF.out]
    exact ⟨none, 0, rfl, Nat.le_refl _, RPol.nil _ _ _, HB3.out, Fr.none _⟩
   ·rw [hm] at CM HAL
    have hp60 := polMay_len hm
    have xl : acc.length + p.length ≤ 1000000 := by omega
    have XL := Hd.mk xl
    have HAL2 : Hd ((ps.take (i + 1)).all (polMay order) = true) := ⟨by rw [HAL.out, HA.out]; rfl⟩
    have hl2 : (acc ++ p).length ≤ 60 * (i + 1) := by rw [List.length_append]; omega
    clear hm hpi xl hfl HFA
    go_wp2_with fail
    refine CM.out.mono ?_
    rintro e w3 ⟨rfl, hb3⟩
    have HB3 := Hd.mk (goes HB.out hb3)
    have HO3 := Hd.mk (HO.out.up hb3)
    have HR3 := Hd.mk (hrp.out.up hb3)
    have r0 := cell_up q0 hb3
    clear hb3 CM hrp q0
    go_wp2_with (at_builtin; refine wpList_append_T (w0 := w) (us := p) rfl _ _ 22 23 rfl Tryz.slTerms Tryz.slPoly rfl rfl rfl HO3.out HR3.out HB0.out XL.out HB3.out (Nat.le_refl _) HB3.out.size ?_)
    intro v' w8 AP
    have HAP := Hd.mk AP
    clear AP
    go_wp2_with fail
    go_roundw
    case measure => first | (simp [intOf]; done) | (simp [intOf]; omega)
    case rel => exact ⟨i + 1, _, by go_num, by omega, hl2, HAL2, HFL, ⟨HAP.out.own⟩, ⟨HAP.out.below⟩⟩
  ·obtain rfl : i = ps.length := by omega
   rw [List.take_length] at HA HFA
   have HF : Hd (polMake order acc = E) := ⟨by rw [HFA.out, ← HE.out]; unfold polAdd; rw [HA.out, if_neg (by simp)]⟩
   have hsh : shortP acc := ⟨by omega, fun s hs => by
    rw [HFA.out] at hs
    obtain ⟨p, hp, hsp⟩ := List.mem_flatten.1 hs
    exact (HS.out.2 p hp).2 s hsp⟩
   have CMk := Hd.mk (rpol_MakeF b0 order Av cv acc wr (Nat.le_trans HB0.out HB.out.size) HRV.out hcv (by omega) hsh)
   rw [HF.out] at CMk
   clear hfl
   go_wp2_with fail
   refine CMk.out.mono ?_
   rintro e w8 ⟨A8, c8, rfl, hc8, hr8, hb8, hf8⟩
   have HF8 := Hd.mk (hf8.le HB.out.size)
   have HB8 := Hd.mk (goes HB.out hb8)
   have HR8 := Hd.mk hr8
   clear hb8 hr8 hf8
   go_wp2_with fail
   go_ret2
   exact ⟨A8, c8, rfl, hc8, HR8.out, HB8.out, HF8.out⟩
theorem rpol_Add (b0 : Nat) (order : Int) (A : Option Addr) (c : Nat) (ps : List (List TermD)) (w : World) (hb0 : b0 ≤ w.heap.size) (h : RPols w b0 A ps) (hc : ps.length ≤ c) (h8 : ps.length ≤ 800) (hs : shortPs ps) :
    Calls Tryz.prog 23 #[.int .i64 order, .slice A ps.length c] w fun e w' => ∃ A' c', e = .returned (.tuple #[.slice A' (polAdd order ps).2.length c', .int .i64 (polAdd order ps).1]) ∧
     (polAdd order ps).2.length ≤ c' ∧ RPol w' b0 A' (polAdd order ps).2 ∧ Below w.heap.size w w' :=
 (rpol_AddF b0 order A c ps w hb0 h hc h8 hs).mono fun _ _ ⟨A', c', h1, h2, h3, h4, _⟩ => ⟨A', c', h1, h2, h3, h4⟩
theorem rpol_Mul (b0 : Nat) (order : Int) (A B : Option Addr) (c d : Nat) (ps qs : List TermD) (w : World) (hb0 : b0 ≤ w.heap.size) (h : RPol w b0 A ps) (hc : ps.length ≤ c) (hs : shortP ps) (h' : RPol w b0 B qs) (hc' : qs.length ≤ d) (hs' : shortP qs) :
    Calls Tryz.prog 22 #[.int .i64 order, .slice A ps.length c, .slice B qs.length d] w fun e w' => ∃ A' c', e = .returned (.tuple #[.slice A' (polMul order ps qs).2.length c', .int .i64 (polMul order ps qs).1]) ∧
     (polMul order ps qs).2.length ≤ c' ∧ RPol w' b0 A' (polMul order ps qs).2 ∧ Below w.heap.size w w' := by
 have HP := Hd.mk h
 have HS := Hd.mk hs
 have HQ := Hd.mk h'
 have HS' := Hd.mk hs'
 have HB0 := Hd.mk hb0
 have hl := hs.1
 have hl' := hs'.1
 clear h hs h' hs' hb0
 have CM := Hd.mk (rpol_May b0 order A c ps w HP.out hc HS.out)
 have CM2 := Hd.mk (fun W (hW : Below w.heap.size w W) => rpol_May b0 order B d qs W (HQ.out.up hW) hc' HS'.out)
 obtain ⟨E, hE⟩ : ∃ E, polMul order ps qs = E := ⟨_, rfl⟩
 rw [hE]
 have HE := Hd.mk hE
 clear hE
 cases hm : polMay order ps
 ·rw [hm] at CM
  have HF : Hd (E = (1, [])) := ⟨by rw [← HE.out]; unfold polMul; rw [hm]; rfl⟩
  clear hm
  go_enter Tryz.func22, Tryz.ntmps22
  go_wp2_with fail
  refine CM.out.mono ?_
  rintro e w2 ⟨rfl, hb2⟩
  have HB2 := Hd.mk hb2
  clear hb2
  go_wp2_with fail
  go_ret2
  rw [HF.out]
  exact ⟨none, 0, rfl, Nat.le_refl _, RPol.nil _ _ _, HB2.out⟩
 rw [hm] at CM
 have hpl := polMay_len hm
 cases hm2 : polMay order qs
 ·rw [hm2] at CM2
  have HF : Hd (E = (1, [])) := ⟨by rw [← HE.out]; unfold polMul; rw [hm, hm2]; rfl⟩
  clear hm hm2
  go_enter Tryz.func22, Tryz.ntmps22
  go_wp2_with fail
  refine CM.out.mono ?_
  rintro e w2 ⟨rfl, hb2⟩
  have HB2 := Hd.mk hb2
  have CM3 := Hd.mk (CM2.out w2 hb2)
  clear hb2
  go_wp2_with fail
  refine CM3.out.mono ?_
  rintro e w3 ⟨rfl, hb3⟩
  have HB3 := Hd.mk (goes HB2.out hb3)
  clear hb3
  go_wp2_with fail
  go_ret2
  rw [HF.out]
  exact ⟨none, 0, rfl, Nat.le_refl _, RPol.nil _ _ _, HB3.out⟩
 rw [hm2] at CM2
 have hql := polMay_len hm2
 have HE1 : Hd (E = if (mulC order ps qs).1 ≠ 0 then ((mulC order ps qs).1, []) else polMake order (mulC order ps qs).2) := ⟨by rw [← HE.out]; unfold polMul; rw [hm, hm2]; rfl⟩
 clear hm hm2 HE
 go_enter Tryz.func22, Tryz.ntmps22
 go_wp2_with fail
 refine CM.out.mono ?_
 rintro e w2 ⟨rfl, hb2⟩
 have HB2 := Hd.mk hb2
 have CM3 := Hd.mk (CM2.out w2 hb2)
 clear hb2 CM
 go_wp2_with fail
 refine CM3.out.mono ?_
 rintro e w3 ⟨rfl, hb3⟩
 have HB3 := Hd.mk (goes HB2.out hb3)
 clear hb3 CM3 HB2 CM2
 go_upto_region 4 with (fail)
 refine wp_gen (fun W => Below w3.heap.size w3 W ∧ OwnT W b0 w.heap.size (.slice (some ⟨w3.heap.size, 0, none⟩) 0 0) []) ⟨(Below.refl _ _).alloc (Nat.le_refl _) _, ownT_lit w3 b0 w.heap.size HB3.out.size⟩ ?_
 intro W0 hW
 have HB := Hd.mk (goes HB3.out hW.out.1)
 have HO := Hd.mk hW.out.2
 clear hW HB3
 generalize w3.heap.size = g3 at HO ⊢
 go_wp2_with fail
 go_loopw [8, 9] (fun v8 v9 wr => ∃ (i : Nat) (ds : List TermD), v9 = .int .i64 i ∧ i ≤ qs.length ∧ ds.length ≤ 60 * i ∧ Hd (OwnT wr b0 w.heap.size v8 ds) ∧ Hd (mulC order ps qs = appD ds (mulC order ps (qs.drop i))) ∧ Hd (∀ s ∈ ds, s.c.short) ∧ Hd (Below w.heap.size w wr)) (fun _ v _ => qs.length - (intOf v).toNat)
 case atStart => exact ⟨0, [], rfl, by omega, by simp, HO, ⟨(appD_start _ _ _).symm⟩, ⟨fun s h => by cases h⟩, HB⟩
 case round =>
  clear HO HB
  obtain ⟨i, ds, rfl, hi, hdl, HO, HQQ, HSH, HB⟩ := hrel
  obtain ⟨Av, cv, rfl, hcv, _, hrv⟩ := HO.out.reads
  have HRV := Hd.mk hrv
  clear hrv
  by_cases hlt : i < qs.length
  ·have i1 : (i : Int) < qs.length := by omega
   have i3 : (0 : Int) ≤ i := by omega
   obtain ⟨ad, B1, c1, B2, c2, t, rfl, hab, hti, hrt, q0, q1, q2, q3, q4, q5, q6⟩ := (HQ.out.up HB.out).get hlt
   have HD : Hd (mulC order ps qs = appD ds (mulC order ps (t :: qs.drop (i + 1)))) := ⟨by
    have e1 : qs[i] = t := by have := hti.out; rw [List.getElem?_eq_getElem hlt] at this; injection this
    rw [HQQ.out, List.drop_eq_getElem_cons hlt, e1]⟩
   have CT := Hd.mk (rpol_Times b0 order A c ps _ t wr (Nat.le_trans HB0.out HB.out.size) (HP.out.up HB.out) hc HS.out hrt.out (HS'.out.2 t (List.mem_of_getElem? hti.out)))
   have HXF := Hd.mk (polTimes_facts order ps t)
   have HD2 : Hd (mulC order ps qs = appD ds (if (polTimes order ps t).1 ≠ 0 then ((polTimes order ps t).1, []) else appD (polTimes order ps t).2 (mulC order ps (qs.drop (i + 1))))) := ⟨HD.out⟩
   generalize polTimes order ps t = X at CT HXF HD2
   obtain ⟨X1, X2⟩ := X
   dsimp only at CT HXF HD2
   clear hti hrt HD HQQ
   go_wp2_with fail
   refine CT.out.mono ?_
   rintro e w5 ⟨A5, c5, rfl, hc5, hr5, hb5⟩
   have HB5 := Hd.mk (goes HB.out hb5)
   have HO5 := Hd.mk (HO.out.up hb5)
   have HR5 := Hd.mk hr5
   have hxl : X2.length ≤ 60 := by have := HXF.out.1; omega
   clear hb5 hr5 CT q0 q1 q2 q3 q4 q5 q6
   by_cases h0 : X1 = 0
   ·have e1 : (X1 != 0) = false := by rw [bne_eq_false_iff_eq]; exact h0
    have HN : Hd (mulC order ps qs = appD (ds ++ X2) (mulC order ps (qs.drop (i + 1)))) := ⟨by rw [HD2.out, if_neg (by simpa using h0), appD_app]⟩
    have xl : ds.length + X2.length ≤ 1000000 := by omega
    have XL := Hd.mk xl
    have hdl2 : (ds ++ X2).length ≤ 60 * (i + 1) := by rw [List.length_append]; omega
    have HSH2 : Hd (∀ s ∈ ds ++ X2, s.c.short) := ⟨fun s hs => by
     rcases List.mem_append.1 hs with hs | hs
     ·exact HSH.out s hs
     ·exact HXF.out.2 s hs⟩
    clear h0 xl HD2
    go_wp2_with (at_builtin; refine wpList_append_T (w0 := w) (us := X2) rfl _ _ 22 23 rfl Tryz.slTerms Tryz.slPoly rfl rfl rfl HO5.out HR5.out HB0.out XL.out HB5.out (Nat.le_refl _) HB5.out.size ?_)
    intro v' w8 AP
    have HAP := Hd.mk AP
    clear AP
    go_wp2_with fail
    go_roundw
    case measure => first | (simp [intOf]; done) | (simp [intOf]; omega)
    case rel => exact ⟨i + 1, _, by go_num, by omega, hdl2, ⟨HAP.out.own⟩, HN, HSH2, ⟨HAP.out.below⟩⟩
   ·have e1 : (X1 != 0) = true := by rw [bne_iff_ne]; exact h0
    have HF : Hd (E = (X1, [])) := ⟨by
     have hp : mulC order ps qs = (X1, []) := by rw [HD2.out, if_pos h0]; unfold appD; rw [if_pos h0]
     rw [HE1.out, hp]; exact if_pos h0⟩
    clear h0 HD2
    go_wp2_with fail
    go_ret2
    rw [HF.out]
    exact ⟨none, 0, rfl, Nat.le_refl _, RPol.nil _ _ _, HB5.out⟩
  ·obtain rfl : i = qs.length := by omega
   have hp : mulC order ps qs = (0, ds) := by rw [HQQ.out, List.drop_eq_nil_of_le (Nat.le_refl _)]; unfold mulC appD; simp
   have HF : Hd (polMake order ds = E) := ⟨by rw [HE1.out, hp]; rfl⟩
   have CMk := Hd.mk (rpol_Make b0 order Av cv ds wr (Nat.le_trans HB0.out HB.out.size) HRV.out hcv (by omega) ⟨by omega, HSH.out⟩)
   rw [HF.out] at CMk
   clear hp
   go_wp2_with fail
   refine CMk.out.mono ?_
   rintro e w8 ⟨A8, c8, rfl, hc8, hr8, hb8⟩
   have HB8 := Hd.mk (goes HB.out hb8)
   have HR8 := Hd.mk hr8
   clear hb8 hr8
   go_wp2_with fail
   go_ret2
   exact ⟨A8, c8, rfl, hc8, HR8.out, HB8.out⟩
theorem polMay_at {o : Int} {p : List TermD} (h : polMay o p = true) {i : Nat} {t : TermD} (hi : p[i]? = some t) : right t = true ∧ t.c.num.length ≠ 0 := by
 unfold polMay at h
 rw [Bool.and_eq_true, List.all_eq_true] at h
 have hlt : i < p.length := by
  rcases Nat.lt_or_ge i p.length with h1 | h1
  ·exact h1
  ·rw [List.getElem?_eq_none h1] at hi; cases hi
 have h2 := h.1 i (List.mem_range.2 hlt)
 rw [okAt_of hi] at h2
 simp only [Bool.and_eq_true, Bool.not_eq_true', decide_eq_false_iff_not] at h2
 exact ⟨by unfold right; rw [h2.1.1.1, h2.1.1.2]; rfl, h2.1.2⟩
theorem polMay_inv {o : Int} {t : TermD} {r : List TermD} (h : polMay o (t :: r) = true) : (invD t.c).1 = 0 := by
 obtain ⟨h1, h2⟩ := polMay_at h (i := 0) rfl
 unfold right at h1
 rw [Bool.and_eq_true] at h1
 unfold invD
 rw [h1.1, if_neg (by simp), if_neg h2]
def polMinus (p : List TermD) : List TermD := p.map fun t => ⟨negD t.c, t.m⟩
theorem rpol_Minus (b0 : Nat) (A : Option Addr) (c : Nat) (ps : List TermD) (w : World) (hb0 : b0 ≤ w.heap.size) (h : RPol w b0 A ps) (hc : ps.length ≤ c) (h9 : ps.length ≤ 100000) :
    Calls Tryz.prog 32 #[.slice A ps.length c] w fun e w' => ∃ A' c', e = .returned (.slice A' (polMinus ps).length c') ∧
     (polMinus ps).length ≤ c' ∧ RPol w' b0 A' (polMinus ps) ∧ Below w.heap.size w w' := by
 have HP := Hd.mk h
 have HB0 := Hd.mk hb0
 clear h hb0
 go_enter Tryz.func32, Tryz.ntmps32
 go_upto_region 2 with (fail)
 refine wp_gen (fun W => Below w.heap.size w W ∧ OwnT W b0 w.heap.size (.slice (some ⟨w.heap.size, 0, none⟩) 0 0) []) ⟨(Below.refl _ _).alloc (Nat.le_refl _) _, ownT_lit w b0 w.heap.size (Nat.le_refl _)⟩ ?_
 intro W0 hW
 have HB := Hd.mk hW.out.1
 have HO := Hd.mk hW.out.2
 clear hW
 go_wp2_with fail
 go_loopw [3, 4] (fun v3 v4 wr => ∃ (i : Nat) (acc : List TermD), v4 = .int .i64 i ∧ i ≤ ps.length ∧ acc.length = i ∧ Hd (acc = polMinus (ps.take i)) ∧ Hd (OwnT wr b0 w.heap.size v3 acc) ∧ Hd (Below w.heap.size w wr)) (fun _ v _ => ps.length - (intOf v).toNat)
 case atStart => exact ⟨0, [], rfl, by omega, rfl, ⟨rfl⟩, HO, HB⟩
 case round =>
  clear HO HB
  obtain ⟨i, acc, rfl, hi, hfl, HFA, HO, HB⟩ := hrel
  obtain ⟨Av, cv, rfl, hcv, _, hrv⟩ := HO.out.reads
  have HRV := Hd.mk hrv
  have HLN := Hd.mk hfl
  clear hrv hfl
  by_cases hlt : i < ps.length
  ·have i1 : (i : Int) < ps.length := by omega
   have i3 : (0 : Int) ≤ i := by omega
   obtain ⟨ad, B1, c1, B2, c2, s, rfl, hab, hsi, hrt, q0, q1, q2, q3, q4, q5, q6⟩ := HP.out.get hlt
   have HFL : Hd (acc ++ [⟨negD s.c, s.m⟩] = polMinus (ps.take (i + 1))) := ⟨by
    have e1 : ps[i] = s := by have := hsi.out; rw [List.getElem?_eq_getElem hlt] at this; injection this
    rw [List.take_succ_eq_append_getElem hlt, e1, HFA.out]
    unfold polMinus
    simp⟩
   have CN := Hd.mk (fun W (hB : Hd (Below w.heap.size w W)) => rrat_Neg b0 _ s.c W (Nat.le_trans HB0.out hB.out.size) (hrt.out.rat.up hB.out))
   obtain ⟨X2, hX⟩ : ∃ X2, negD s.c = X2 := ⟨_, rfl⟩
   rw [hX] at CN HFL
   have SO := Hd.mk (fun W (hB : Below w.heap.size w W) => And.intro (Hd.mk hB) (And.intro (cell_up q0 hB) (And.intro (cell_up q1 hB) (And.intro (cell_up q2 hB) (And.intro (cell_up q3 hB) (And.intro (cell_up q4 hB) (And.intro (cell_up q5 hB) (cell_up q6 hB))))))))
   clear hX hsi
   go_wp2_with fail
   go_region_held3 (fun w' => Hd (Below w.heap.size w w') ∧ w'.cell? (ad.add (i * 7)) = some (.bool s.c.neg) ∧ w'.cell? ⟨(ad.add (i * 7)).block, (ad.add (i * 7)).off + 1, none⟩ = some (.slice B1 s.c.num.length c1) ∧ w'.cell? ⟨(ad.add (i * 7)).block, (ad.add (i * 7)).off + 2, none⟩ = some (.slice B2 s.c.den.length c2) ∧
       w'.cell? ⟨(ad.add (i * 7)).block, (ad.add (i * 7)).off + 3, none⟩ = some (.int .i64 s.m.x0) ∧ w'.cell? ⟨(ad.add (i * 7)).block, (ad.add (i * 7)).off + 3 + 1, none⟩ = some (.int .i64 s.m.x1) ∧ w'.cell? ⟨(ad.add (i * 7)).block, (ad.add (i * 7)).off + 3 + 2, none⟩ = some (.int .i64 s.m.x2) ∧ w'.cell? ⟨(ad.add (i * 7)).block, (ad.add (i * 7)).off + 3 + 3, none⟩ = some (.int .i64 s.m.x3))
    (first
     | exact SO.out _ HB.out
     | exact SO.out _ HB.out.drew
     | exact SO.out _ (goes HB.out hB5)
     | exact SO.out _ (goes HB.out (hB5.alloc hB5.size _))
     | exact SO.out _ AP.below)
    (first
     | (go_at_call 54; with_reducible refine (CN.out wr.drew ⟨HB.out.drew⟩).mono ?_; rintro e w5 ⟨x, rfl, hx, hb⟩
        have hB5 : Below wr.heap.size wr w5 := (Below.refl wr.heap.size wr).drew.trans hb
        have HX := Hd.mk hx
        obtain ⟨XA, xc, XB, xd, rfl, _, _, _, _⟩ := hx
        have T1 := rpol_one (t := ⟨X2, s.m⟩) (rterm_of HX.out s.m) 53
        dsimp only at T1
        obtain ⟨tn, htn⟩ : ∃ tn : TermD, tn = ⟨X2, s.m⟩ := ⟨_, rfl⟩
        rw [← htn] at T1
        have HT1 := Hd.mk T1
        have HFL2 : Hd (acc ++ [tn] = polMinus (ps.take (i + 1))) := ⟨by rw [htn]; exact HFL.out⟩
        have XL : Hd (acc.length + [tn].length ≤ 1000000) := ⟨by have := HLN.out; simp; omega⟩
        clear T1 htn)
     | (refine step_append_T (w0 := w) (us := [tn]) rfl _ _ 23 rfl Tryz.slPoly rfl rfl rfl (HO.out.up (hB5.alloc hB5.size _)) HT1.out HB0.out XL.out (goes HB.out (hB5.alloc hB5.size _)) (Nat.le_refl _) (goes HB.out (hB5.alloc hB5.size _)).size ?_; intro v' w8 AP))
   all_goals
    have HAP := Hd.mk AP
    have hl2 : (acc ++ [tn]).length = i + 1 := by rw [List.length_append, HLN.out]; rfl
    clear AP
    go_wp2_with fail
    go_roundw
    case measure => first | (simp [intOf]; done) | (simp [intOf]; omega)
    case rel => exact ⟨i + 1, _, by go_num, by omega, hl2, HFL2, ⟨HAP.out.own⟩, ⟨HAP.out.below⟩⟩
  ·obtain rfl : i = ps.length := by omega
   have HF : Hd (acc = polMinus ps) := ⟨by rw [HFA.out, List.take_length]⟩
   go_wp2_with fail
   go_ret
   rw [← HF.out]
   exact ⟨Av, cv, rfl, hcv, HRV.out, HB.out⟩
structure Bo1 (S g : Nat) (w0 w : World) (ty : TypeId) (cs : Array Value) : Prop where
 below : Below S w0 w
 s1 : S ≤ g
 k1 : Bk w g ty cs
section
variable {S g : Nat} {w0 w w' : World} {ty : TypeId} {cs : Array Value}
theorem Bo1.up (h : Bo1 S g w0 w ty cs) (hb : Below w.heap.size w w') : Bo1 S g w0 w' ty cs :=
 ⟨h.below.trans (hb.mono (Nat.le_trans h.s1 (Nat.le_of_lt h.k1.lt))), h.s1, h.k1.up hb⟩
theorem Bo1.al (h : Bo1 S g w0 w ty cs) (o : Obj) : Bo1 S g w0 (w.alloc o) ty cs := h.up ((Below.refl _ _).alloc (Nat.le_refl _) _)
theorem Bo1.d1 (h : Bo1 S g w0 w ty cs) : Bo1 S g w0 w.drew ty cs := ⟨Below.dn h.below 1, h.s1, h.k1⟩
theorem Bo1.mk1 (w : World) (ty : TypeId) (cs : Array Value) : Bo1 w.heap.size w.heap.size w (w.alloc (Obj.cells cs ty)) ty cs := ⟨(Below.refl _ _).alloc (Nat.le_refl _) _, Nat.le_refl _, Bk.new_ _ _ _⟩
end
theorem rpols_bk3 {W : World} {b0 g : Nat} {t : TypeId} {p q r : List TermD} {A B C : Option Addr} {c d e : Nat} (hk : Bk W g t #[.slice A p.length c, .slice B q.length d, .slice C r.length e]) (h : RPol W b0 A p) (h' : RPol W b0 B q) (h'' : RPol W b0 C r) (hc : p.length ≤ c) (hd : q.length ≤ d) (he : r.length ≤ e) : RPols W b0 (some ⟨g, 0, none⟩) [p, q, r] := by
 refine ⟨_, Rd.of_bk hk 3 1 rfl, fun j x hj => ?_⟩
 match j, hj with
 | 0, hj => injection hj with hj; subst hj; exact ⟨_, _, rfl, hc, h⟩
 | 1, hj => injection hj with hj; subst hj; exact ⟨_, _, rfl, hd, h'⟩
 | 2, hj => injection hj with hj; subst hj; exact ⟨_, _, rfl, he, h''⟩
theorem shortP_nil : shortP [] := ⟨by simp, fun s hs => by cases hs⟩
theorem polAdd_short {o : Int} {ps : List (List TermD)} (h : ∀ p ∈ ps, shortP p) : shortP (polAdd o ps).2 := by
 unfold polAdd
 split
 ·exact shortP_nil
 ·exact (polMake_short fun s hs => by
    obtain ⟨p, hp, hs⟩ := List.mem_flatten.1 hs
    exact (h p hp).2 s hs).1
theorem polTimes_short {o : Int} {p : List TermD} (t : TermD) (h : shortP p) : shortP (polTimes o p t).2 :=
 ⟨Nat.le_trans (polTimes_facts o p t).1 h.1, (polTimes_facts o p t).2⟩
theorem mulC_short {o : Int} {p : List TermD} : ∀ {q : List TermD}, ∀ s ∈ (mulC o p q).2, s.c.short
 | [], s, hs => by cases hs
 | t :: q, s, hs => by
   unfold mulC at hs
   split at hs
   ·cases hs
   ·unfold appD at hs
    split at hs
    ·cases hs
    ·rcases List.mem_append.1 hs with hs | hs
     ·exact (polTimes_facts o p t).2 s hs
     ·exact mulC_short s hs
theorem polMul_short {o : Int} {p q : List TermD} : shortP (polMul o p q).2 := by
 unfold polMul
 split
 ·exact shortP_nil
 ·split
  ·exact shortP_nil
  ·exact (polMake_short mulC_short).1
theorem polMonic_short {o : Int} {p : List TermD} (h : shortP p) : shortP (polMonic o p).2 := by
 unfold polMonic
 split
 ·exact shortP_nil
 ·split
  ·exact shortP_nil
  ·split
   ·exact shortP_nil
   ·exact polTimes_short _ h
def AllP (b0 : Nat) (w : World) (l : List (Option Addr × List TermD)) : Prop := ∀ (j : Nat) (p : Option Addr × List TermD), l[j]? = some p → RPol w b0 p.1 p.2
section
variable {b0 : Nat} {w w' : World} {l : List (Option Addr × List TermD)}
theorem AllP.up (h : AllP b0 w l) (hb : Below w.heap.size w w') : AllP b0 w' l := fun j p hp => (h j p hp).up hb
theorem AllP.cons {A : Option Addr} {ts : List TermD} (h : AllP b0 w l) (hr : RPol w b0 A ts) : AllP b0 w ((A, ts) :: l) := fun j p hp => by
 match j, hp with
 | 0, hp => injection hp with hp; subst hp; exact hr
 | j + 1, hp => exact h j p hp
theorem AllP.nil : AllP b0 w [] := fun j p hp => by simp at hp
end
theorem same_call {b0 : Nat} {A B : Option Addr} {c d : Nat} {X : List TermD} {w : World} (h : RPol w b0 A X) (hc : X.length ≤ c) (hs : shortP X) (h' : RPol w b0 B X) (hd : X.length ≤ d) :
    Calls Tryz.prog 20 #[.slice A X.length c, .slice B X.length d] w fun e w' => e = .returned (.bool true) ∧ Below w.heap.size w w' := by
 have := rpol_Same b0 A B c d X X w h hc hs h' hd hs
 rwa [decide_eq_true rfl] at this
end Go.Proofs.YtjanagclahkfdaaGreat
