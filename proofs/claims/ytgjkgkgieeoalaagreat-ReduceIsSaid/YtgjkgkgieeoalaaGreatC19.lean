/- Parts of the proof, joined: each theorem says what it shows. -/
import Derived.Test.YtgjkgkgieeoalaaGreatC18
set_option linter.unusedVariables false
set_option linter.unusedSimpArgs false
set_option maxHeartbeats 24000000
set_option maxRecDepth 100000
namespace Go.Proofs.YtgjkgkgieeoalaaGreat
open Go.RowKit
def tz : TermD := ⟨zeroD, zeroM⟩
def okAt (order : Int) (ts : List TermD) (i : Nat) : Bool := right (ts.getD i tz) && !decide ((ts.getD i tz).c.num.length = 0) && (decide (i = 0) || decide (0 < monCmp order (ts.getD (i - 1) tz).m (ts.getD i tz).m))
def polMay (order : Int) (ts : List TermD) : Bool := (List.range ts.length).all (okAt order ts) && (ordered order && decide (ts.length ≤ 60))
def shortP (ts : List TermD) : Prop := ts.length ≤ 1000000 ∧ ∀ t ∈ ts, t.c.short
theorem polMay_no {order : Int} {ts : List TermD} {i : Nat} (h : i < ts.length) (e : okAt order ts i = false) : polMay order ts = false := by
 unfold polMay
 rw [Bool.and_eq_false_iff]
 left
 rw [List.all_eq_false]
 exact ⟨i, List.mem_range.2 h, by rw [e]; simp⟩
theorem all_succ {f : Nat → Bool} {i : Nat} (h : (List.range i).all f = true) (e : f i = true) : (List.range (i + 1)).all f = true := by
 rw [List.range_succ, List.all_append, h, List.all_cons, e]; rfl
theorem poly_May (b0 : Nat) (order : Int) (A : Option Addr) (c : Nat) (ts : List TermD) (w : World) (h : RPol w b0 A ts) (hc : ts.length ≤ c) (hs : shortP ts) :
    Calls Tryz.prog 91 #[.int .i64 order, .slice A ts.length c] w fun e w' => e = .returned (.bool (polMay order ts)) ∧ Below w.heap.size w w' := by
 have HP := Hd.mk h
 have HS := Hd.mk hs
 have hl := hs.1
 clear h hs
 go_enter Tryz.func91, Tryz.ntmps91
 go_wp2_with fail
 go_loopw [9] (fun v9 wr => ∃ i : Nat, v9 = .int .i64 i ∧ i ≤ ts.length ∧ Hd (Below w.heap.size w wr) ∧ Hd ((List.range i).all (okAt order ts) = true)) (fun v _ => ts.length - (intOf v).toNat)
 case atStart => exact ⟨0, rfl, by omega, ⟨.refl _ _⟩, ⟨rfl⟩⟩
 case round =>
  obtain ⟨i, rfl, hi, hb, ha⟩ := hrel
  by_cases hlt : i < ts.length
  ·have i2 : (i : Int) < ts.length := by omega
   have i3 : (0 : Int) ≤ i := by omega
   obtain ⟨ad, B1, c1, B2, c2, t, rfl, hab, ht, hrt, q0, q1, q2, q3, q4, q5, q6⟩ := (HP.out.up hb.out).get hlt
   go_upto_region 4 with (fail)
   refine wp_gen (fun W => Below wr.heap.size wr W ∧ Bk W wr.heap.size 68 #[.bool t.c.neg, .slice B1 t.c.num.length c1, .slice B2 t.c.den.length c2, .int .i64 t.m.x0, .int .i64 t.m.x1, .int .i64 t.m.x2, .int .i64 t.m.x3]) ⟨(Below.refl _ _).alloc (Nat.le_refl _) _, Bk.new_ _ _ _⟩ ?_
   intro W BK
   obtain ⟨⟨b0_, b1_, b2_⟩, b3_, b4_, b5_, b6_⟩ := BK.out.2.seven
   have KB := Hd.mk BK.out.2
   have BX : Hd (Below wr.heap.size wr W) := ⟨BK.out.1⟩
   clear BK q0 q1 q2 q3 q4 q5 q6
   obtain ⟨gb, hgb⟩ : ∃ gb, wr.heap.size = gb := ⟨_, rfl⟩
   rw [hgb] at b0_ b1_ b2_ b3_ b4_ b5_ b6_ KB ⊢
   clear hgb
   have hst := (HS.out.2 t (List.mem_of_getElem? ht.out))
   have hgt : ts.getD i tz = t := by rw [List.getD_eq_getElem?_getD, ht.out]; rfl
   have HRR : Hd (RRat wr b0 (.agg #[.bool t.c.neg, .slice B1 t.c.num.length c1, .slice B2 t.c.den.length c2]) t.c) := ⟨by
    obtain ⟨x1, x2, x3, x4, e, y1, y2, y3, y4⟩ := hrt.out
    simp only [Value.agg.injEq, Array.mk.injEq, List.cons.injEq, Value.slice.injEq, true_and, and_true] at e
    obtain ⟨⟨rfl, rfl⟩, rfl, rfl⟩ := e
    exact ⟨_, _, _, _, rfl, y1, y2, y3, y4⟩⟩
   have C1 := Hd.mk (fun W (hB : Hd (Below wr.heap.size wr W)) => poly_right b0 _ t W (hrt.out.up hB.out) hst)
   have C2 := Hd.mk (fun W (hB : Hd (Below wr.heap.size wr W)) => ratio_Zero b0 _ t.c W (HRR.out.up hB.out))
   clear hst HRR
   have HO : Hd (okAt order ts i = (right t && !decide (t.c.num.length = 0) && (decide (i = 0) || decide (0 < monCmp order (ts.getD (i - 1) tz).m t.m)))) := ⟨by unfold okAt; rw [hgt]⟩
   clear hgt
   cases hr : right t
   ·rw [hr] at C1
    have HE : Hd (okAt order ts i = false) := ⟨by rw [HO.out, hr]; rfl⟩
    clear hr
    refine wp_region_any (by kernel_rfl) ?_
    try (change wpAny _ _ _ _ _ _ _ (World.drew _))
    refine wpAny_ready (rs := [0]) (by kernel_rfl) (by simp) ?_
    refine AllReady.cons rfl (fun K hK => ?_) AllReady.nil
    go_simp
    refine hK _ _ ?_
    clear hK K
    refine wpAny_ready (rs := [1]) (by kernel_rfl) (by simp) ?_
    refine AllReady.cons rfl (fun K hK => ?_) AllReady.nil
    go_simp
    refine (C1.out _ ?_).mono ?_
    ·exact ⟨BX.out.drew⟩
    rintro e w4 ⟨rfl, hb4⟩
    have BX4 := Hd.mk (BX.out.drew.trans (hb4.mono BX.out.size))
    have K4 := Hd.mk (KB.out.d1.up hb4)
    obtain ⟨⟨b40, b41, b42⟩, b43, b44, b45, b46⟩ := K4.out.seven
    clear hb4
    dsimp only
    refine hK _ _ ?_
    clear hK K
    refine takeP 2 16 (v := ?_) rfl rfl (by kernel_rfl) (by kernel_rfl) (by kernel_rfl) (fun _ _ _ h => h) (by kernel_rfl) ?_ ?_
    rotate_left
    ·intro w; first | (go_simp; done) | (go_simp; with_reducible rfl)
    simp only [Act.put, List.setIfInBounds_toArray, List.set_cons_zero, List.set_cons_succ]
    refine takeP 3 17 (v := ?_) rfl rfl (by kernel_rfl) (by kernel_rfl) (by kernel_rfl) (fun _ _ _ h => h) (by kernel_rfl) ?_ ?_
    rotate_left
    ·intro w; first | (go_simp; done) | (go_simp; with_reducible rfl)
    simp only [Act.put, List.setIfInBounds_toArray, List.set_cons_zero, List.set_cons_succ]
    refine takeO 4 18 rfl rfl (by kernel_rfl) (by kernel_rfl) (by kernel_rfl) (fun _ _ _ h => h) (by kernel_rfl) ?_
    simp only [Act.put, List.setIfInBounds_toArray, List.set_cons_zero, List.set_cons_succ]
    refine takeO 5 19 rfl rfl (by kernel_rfl) (by kernel_rfl) (by kernel_rfl) (fun _ _ _ h => h) (by kernel_rfl) ?_
    simp only [Act.put, List.setIfInBounds_toArray, List.set_cons_zero, List.set_cons_succ]
    refine takeO 6 20 rfl rfl (by kernel_rfl) (by kernel_rfl) (by kernel_rfl) (fun _ _ _ h => h) (by kernel_rfl) ?_
    simp only [Act.put, List.setIfInBounds_toArray, List.set_cons_zero, List.set_cons_succ]
    refine takeP 7 21 (v := ?_) rfl rfl (by kernel_rfl) (by kernel_rfl) (by kernel_rfl) (fun _ _ _ h => h) (by kernel_rfl) ?_ ?_
    rotate_left
    ·intro w; first | (go_simp; done) | (go_simp; with_reducible rfl)
    simp only [Act.put, List.setIfInBounds_toArray, List.set_cons_zero, List.set_cons_succ]
    refine takeP 8 22 (v := ?_) rfl rfl (by kernel_rfl) (by kernel_rfl) (by kernel_rfl) (fun _ _ _ h => h) (by kernel_rfl) ?_ ?_
    rotate_left
    ·intro w; first | (go_simp; done) | (go_simp; with_reducible rfl)
    simp only [Act.put, List.setIfInBounds_toArray, List.set_cons_zero, List.set_cons_succ]
    refine takeO 9 23 rfl rfl (by kernel_rfl) (by kernel_rfl) (by kernel_rfl) (fun _ _ _ h => h) (by kernel_rfl) ?_
    simp only [Act.put, List.setIfInBounds_toArray, List.set_cons_zero, List.set_cons_succ]
    refine takeO 10 24 rfl rfl (by kernel_rfl) (by kernel_rfl) (by kernel_rfl) (fun _ _ _ h => h) (by kernel_rfl) ?_
    simp only [Act.put, List.setIfInBounds_toArray, List.set_cons_zero, List.set_cons_succ]
    refine takeO 11 25 rfl rfl (by kernel_rfl) (by kernel_rfl) (by kernel_rfl) (fun _ _ _ h => h) (by kernel_rfl) ?_
    simp only [Act.put, List.setIfInBounds_toArray, List.set_cons_zero, List.set_cons_succ]
    refine takeO 12 26 rfl rfl (by kernel_rfl) (by kernel_rfl) (by kernel_rfl) (fun _ _ _ h => h) (by kernel_rfl) ?_
    simp only [Act.put, List.setIfInBounds_toArray, List.set_cons_zero, List.set_cons_succ]
    refine takeO 13 27 rfl rfl (by kernel_rfl) (by kernel_rfl) (by kernel_rfl) (fun _ _ _ h => h) (by kernel_rfl) ?_
    simp only [Act.put, List.setIfInBounds_toArray, List.set_cons_zero, List.set_cons_succ]
    refine takeO 14 28 rfl rfl (by kernel_rfl) (by kernel_rfl) (by kernel_rfl) (fun _ _ _ h => h) (by kernel_rfl) ?_
    simp only [Act.put, List.setIfInBounds_toArray, List.set_cons_zero, List.set_cons_succ]
    refine takeO 15 29 rfl rfl (by kernel_rfl) (by kernel_rfl) (by kernel_rfl) (fun _ _ _ h => h) (by kernel_rfl) ?_
    simp only [Act.put, List.setIfInBounds_toArray, List.set_cons_zero, List.set_cons_succ]
    refine takeO 16 30 rfl rfl (by kernel_rfl) (by kernel_rfl) (by kernel_rfl) (fun _ _ _ h => h) (by kernel_rfl) ?_
    simp only [Act.put, List.setIfInBounds_toArray, List.set_cons_zero, List.set_cons_succ]
    refine takeO 17 31 rfl rfl (by kernel_rfl) (by kernel_rfl) (by kernel_rfl) (fun _ _ _ h => h) (by kernel_rfl) ?_
    simp only [Act.put, List.setIfInBounds_toArray, List.set_cons_zero, List.set_cons_succ]
    refine takeO 18 32 rfl rfl (by kernel_rfl) (by kernel_rfl) (by kernel_rfl) (fun _ _ _ h => h) (by kernel_rfl) ?_
    simp only [Act.put, List.setIfInBounds_toArray, List.set_cons_zero, List.set_cons_succ]
    refine takeO 19 33 rfl rfl (by kernel_rfl) (by kernel_rfl) (by kernel_rfl) (fun _ _ _ h => h) (by kernel_rfl) ?_
    simp only [Act.put, List.setIfInBounds_toArray, List.set_cons_zero, List.set_cons_succ]
    refine takeO 20 34 rfl rfl (by kernel_rfl) (by kernel_rfl) (by kernel_rfl) (fun _ _ _ h => h) (by kernel_rfl) ?_
    simp only [Act.put, List.setIfInBounds_toArray, List.set_cons_zero, List.set_cons_succ]
    refine takeO 21 35 rfl rfl (by kernel_rfl) (by kernel_rfl) (by kernel_rfl) (fun _ _ _ h => h) (by kernel_rfl) ?_
    simp only [Act.put, List.setIfInBounds_toArray, List.set_cons_zero, List.set_cons_succ]
    refine takeO 22 36 rfl rfl (by kernel_rfl) (by kernel_rfl) (by kernel_rfl) (fun _ _ _ h => h) (by kernel_rfl) ?_
    simp only [Act.put, List.setIfInBounds_toArray, List.set_cons_zero, List.set_cons_succ]
    refine takeO 23 37 rfl rfl (by kernel_rfl) (by kernel_rfl) (by kernel_rfl) (fun _ _ _ h => h) (by kernel_rfl) ?_
    simp only [Act.put, List.setIfInBounds_toArray, List.set_cons_zero, List.set_cons_succ]
    refine takeP 24 38 (v := ?_) rfl rfl (by kernel_rfl) (by kernel_rfl) (by kernel_rfl) (fun _ _ _ h => h) (by kernel_rfl) ?_ ?_
    rotate_left
    ·intro w; first | (go_simp; done) | (go_simp; with_reducible rfl)
    simp only [Act.put, List.setIfInBounds_toArray, List.set_cons_zero, List.set_cons_succ]
    refine wpAny_done (by kernel_rfl) ?_ _
    all_goals (
     go_wp2_with fail
     go_ret
     refine ⟨retBool (Eq.symm ?_), hb.out.trans (BX4.out.mono hb.out.size)⟩
     exact polMay_no hlt HE.out)
   ·rw [hr] at C1
    cases hz : decide (t.c.num.length = 0)
    ·rw [hz] at C2
     rcases Nat.eq_zero_or_pos i with hi0 | hi0
     ·subst hi0
      have HE : Hd (okAt order ts 0 = true) := ⟨by rw [HO.out, hr, hz]; rfl⟩
      clear hr hz
      refine wp_region_any (by kernel_rfl) ?_
      try (change wpAny _ _ _ _ _ _ _ (World.drew _))
      refine wpAny_ready (rs := [0]) (by kernel_rfl) (by simp) ?_
      refine AllReady.cons rfl (fun K hK => ?_) AllReady.nil
      go_simp
      refine hK _ _ ?_
      clear hK K
      refine wpAny_ready (rs := [1]) (by kernel_rfl) (by simp) ?_
      refine AllReady.cons rfl (fun K hK => ?_) AllReady.nil
      go_simp
      refine (C1.out _ ?_).mono ?_
      ·exact ⟨BX.out.drew⟩
      rintro e w4 ⟨rfl, hb4⟩
      have BX4 := Hd.mk (BX.out.drew.trans (hb4.mono BX.out.size))
      have K4 := Hd.mk (KB.out.d1.up hb4)
      obtain ⟨⟨b40, b41, b42⟩, b43, b44, b45, b46⟩ := K4.out.seven
      clear hb4
      dsimp only
      refine hK _ _ ?_
      clear hK K
      refine takeP 2 16 (v := ?_) rfl rfl (by kernel_rfl) (by kernel_rfl) (by kernel_rfl) (fun _ _ _ h => h) (by kernel_rfl) ?_ ?_
      rotate_left
      ·intro w; first | (go_simp; done) | (go_simp; with_reducible rfl)
      simp only [Act.put, List.setIfInBounds_toArray, List.set_cons_zero, List.set_cons_succ]
      refine takeP 3 17 (v := ?_) rfl rfl (by kernel_rfl) (by kernel_rfl) (by kernel_rfl) (fun _ _ _ h => h) (by kernel_rfl) ?_ ?_
      rotate_left
      ·intro w; first | (go_simp; done) | (go_simp; with_reducible rfl)
      simp only [Act.put, List.setIfInBounds_toArray, List.set_cons_zero, List.set_cons_succ]
      refine takeP 4 18 (v := ?_) rfl rfl (by kernel_rfl) (by kernel_rfl) (by kernel_rfl) (fun _ _ _ h => h) (by kernel_rfl) ?_ ?_
      rotate_left
      ·intro w; first | (go_simp; done) | (go_simp; with_reducible rfl)
      simp only [Act.put, List.setIfInBounds_toArray, List.set_cons_zero, List.set_cons_succ]
      refine wpAny_ready (rs := [5]) (by kernel_rfl) (by simp) ?_
      refine AllReady.cons rfl (fun K hK => ?_) AllReady.nil
      go_simp
      refine hK _ _ ?_
      clear hK K
      refine wpAny_ready (rs := [6]) (by kernel_rfl) (by simp) ?_
      refine AllReady.cons rfl (fun K hK => ?_) AllReady.nil
      go_simp
      refine (C2.out _ ?_).mono ?_
      ·exact BX4
      rintro e w5 ⟨rfl, hb5⟩
      have BX5 := Hd.mk (BX4.out.trans (hb5.mono BX4.out.size))
      have K5 := Hd.mk (K4.out.up hb5)
      obtain ⟨⟨b50, b51, b52⟩, b53, b54, b55, b56⟩ := K5.out.seven
      clear hb5
      dsimp only
      refine hK _ _ ?_
      clear hK K
      refine takeP 7 21 (v := ?_) rfl rfl (by kernel_rfl) (by kernel_rfl) (by kernel_rfl) (fun _ _ _ h => h) (by kernel_rfl) ?_ ?_
      rotate_left
      ·intro w; first | (go_simp; done) | (go_simp; with_reducible rfl)
      simp only [Act.put, List.setIfInBounds_toArray, List.set_cons_zero, List.set_cons_succ]
      refine takeP 8 22 (v := ?_) rfl rfl (by kernel_rfl) (by kernel_rfl) (by kernel_rfl) (fun _ _ _ h => h) (by kernel_rfl) ?_ ?_
      rotate_left
      ·intro w; first | (go_simp; done) | (go_simp; with_reducible rfl)
      simp only [Act.put, List.setIfInBounds_toArray, List.set_cons_zero, List.set_cons_succ]
      refine takeP 9 23 (v := ?_) rfl rfl (by kernel_rfl) (by kernel_rfl) (by kernel_rfl) (fun _ _ _ h => h) (by kernel_rfl) ?_ ?_
      rotate_left
      ·intro w; first | (go_simp; done) | (go_simp; with_reducible rfl)
      simp only [Act.put, List.setIfInBounds_toArray, List.set_cons_zero, List.set_cons_succ]
      refine takeP 10 24 (v := ?_) rfl rfl (by kernel_rfl) (by kernel_rfl) (by kernel_rfl) (fun _ _ _ h => h) (by kernel_rfl) ?_ ?_
      rotate_left
      ·intro w; first | (go_simp; done) | (go_simp; with_reducible rfl)
      simp only [Act.put, List.setIfInBounds_toArray, List.set_cons_zero, List.set_cons_succ]
      refine takeP 11 25 (v := ?_) rfl rfl (by kernel_rfl) (by kernel_rfl) (by kernel_rfl) (fun _ _ _ h => h) (by kernel_rfl) ?_ ?_
      rotate_left
      ·intro w; first | (go_simp; done) | (go_simp; with_reducible rfl)
      simp only [Act.put, List.setIfInBounds_toArray, List.set_cons_zero, List.set_cons_succ]
      refine takeO 12 26 rfl rfl (by kernel_rfl) (by kernel_rfl) (by kernel_rfl) (fun _ _ _ h => h) (by kernel_rfl) ?_
      simp only [Act.put, List.setIfInBounds_toArray, List.set_cons_zero, List.set_cons_succ]
      refine takeO 13 27 rfl rfl (by kernel_rfl) (by kernel_rfl) (by kernel_rfl) (fun _ _ _ h => h) (by kernel_rfl) ?_
      simp only [Act.put, List.setIfInBounds_toArray, List.set_cons_zero, List.set_cons_succ]
      refine takeO 14 28 rfl rfl (by kernel_rfl) (by kernel_rfl) (by kernel_rfl) (fun _ _ _ h => h) (by kernel_rfl) ?_
      simp only [Act.put, List.setIfInBounds_toArray, List.set_cons_zero, List.set_cons_succ]
      refine takeO 15 29 rfl rfl (by kernel_rfl) (by kernel_rfl) (by kernel_rfl) (fun _ _ _ h => h) (by kernel_rfl) ?_
      simp only [Act.put, List.setIfInBounds_toArray, List.set_cons_zero, List.set_cons_succ]
      refine takeO 16 30 rfl rfl (by kernel_rfl) (by kernel_rfl) (by kernel_rfl) (fun _ _ _ h => h) (by kernel_rfl) ?_
      simp only [Act.put, List.setIfInBounds_toArray, List.set_cons_zero, List.set_cons_succ]
      refine takeO 17 31 rfl rfl (by kernel_rfl) (by kernel_rfl) (by kernel_rfl) (fun _ _ _ h => h) (by kernel_rfl) ?_
      simp only [Act.put, List.setIfInBounds_toArray, List.set_cons_zero, List.set_cons_succ]
      refine takeO 18 32 rfl rfl (by kernel_rfl) (by kernel_rfl) (by kernel_rfl) (fun _ _ _ h => h) (by kernel_rfl) ?_
      simp only [Act.put, List.setIfInBounds_toArray, List.set_cons_zero, List.set_cons_succ]
      refine takeO 19 33 rfl rfl (by kernel_rfl) (by kernel_rfl) (by kernel_rfl) (fun _ _ _ h => h) (by kernel_rfl) ?_
      simp only [Act.put, List.setIfInBounds_toArray, List.set_cons_zero, List.set_cons_succ]
      refine takeO 20 34 rfl rfl (by kernel_rfl) (by kernel_rfl) (by kernel_rfl) (fun _ _ _ h => h) (by kernel_rfl) ?_
      simp only [Act.put, List.setIfInBounds_toArray, List.set_cons_zero, List.set_cons_succ]
      refine takeO 21 35 rfl rfl (by kernel_rfl) (by kernel_rfl) (by kernel_rfl) (fun _ _ _ h => h) (by kernel_rfl) ?_
      simp only [Act.put, List.setIfInBounds_toArray, List.set_cons_zero, List.set_cons_succ]
      refine takeO 22 36 rfl rfl (by kernel_rfl) (by kernel_rfl) (by kernel_rfl) (fun _ _ _ h => h) (by kernel_rfl) ?_
      simp only [Act.put, List.setIfInBounds_toArray, List.set_cons_zero, List.set_cons_succ]
      refine takeP 23 37 (v := ?_) rfl rfl (by kernel_rfl) (by kernel_rfl) (by kernel_rfl) (fun _ _ _ h => h) (by kernel_rfl) ?_ ?_
      rotate_left
      ·intro w; first | (go_simp; done) | (go_simp; with_reducible rfl)
      simp only [Act.put, List.setIfInBounds_toArray, List.set_cons_zero, List.set_cons_succ]
      refine takeP 24 38 (v := ?_) rfl rfl (by kernel_rfl) (by kernel_rfl) (by kernel_rfl) (fun _ _ _ h => h) (by kernel_rfl) ?_ ?_
      rotate_left
      ·intro w; first | (go_simp; done) | (go_simp; with_reducible rfl)
      simp only [Act.put, List.setIfInBounds_toArray, List.set_cons_zero, List.set_cons_succ]
      refine wpAny_done (by kernel_rfl) ?_ _
      all_goals (
       go_wp2_with fail
       go_roundw
       case measure => first | (simp [intOf]; done) | (simp [intOf]; omega)
       case rel => exact ⟨0 + 1, by go_num, by omega, ⟨hb.out.trans (BX5.out.mono hb.out.size)⟩, ⟨all_succ ha.out HE.out⟩⟩)
     ·obtain ⟨i1, hi1⟩ : ∃ i1, i = i1 + 1 := ⟨i - 1, by omega⟩
      have n1 : IntKind.i64.wrap ((i : Int) - 1) = i1 := by rw [IntKind.wrap_i64]; omega
      have n2 : (0 : Int) ≤ i1 := by omega
      have n3 : (i1 : Int) < ts.length := by omega
      have n4 : decide ((0 : Int) < i) = true := decide_eq_true (by omega)
      obtain ⟨ad', D1, d1, D2, d2, p, hA, _, hp, _, r0, r1, r2, r3_0, r4_0, r5_0, r6_0⟩ := (HP.out.up (hb.out.trans (BX.out.mono hb.out.size))).get (j := i1) (by omega)
      injection hA with hA
      subst hA
      have C3 := Hd.mk (fun W => mono_Cmp order p.m t.m W)
      have HO2 : Hd (okAt order ts i = decide (0 < monCmp order p.m t.m)) := ⟨by
       rw [HO.out, hr, hz, show i - 1 = i1 by omega, List.getD_eq_getElem?_getD, hp.out, decide_eq_false (show ¬ i = 0 by omega)]; rfl⟩
      obtain ⟨k, hk⟩ : ∃ k, monCmp order p.m t.m = k := ⟨_, rfl⟩
      rw [hk] at C3 HO2
      clear hr hz HO hk hi1 r0 r1 r2
      by_cases hk0 : 0 < k
      ·have HE : Hd (okAt order ts i = true) := ⟨by rw [HO2.out]; exact decide_eq_true hk0⟩
       have n5 : decide (k ≤ 0) = false := decide_eq_false (by omega)
       clear hk0
       refine wp_region_any (by kernel_rfl) ?_
       try (change wpAny _ _ _ _ _ _ _ (World.drew _))
       refine wpAny_ready (rs := [0]) (by kernel_rfl) (by simp) ?_
       refine AllReady.cons rfl (fun K hK => ?_) AllReady.nil
       go_simp
       refine hK _ _ ?_
       clear hK K
       refine wpAny_ready (rs := [1]) (by kernel_rfl) (by simp) ?_
       refine AllReady.cons rfl (fun K hK => ?_) AllReady.nil
       go_simp
       refine (C1.out _ ?_).mono ?_
       ·exact ⟨BX.out.drew⟩
       rintro e w4 ⟨rfl, hb4⟩
       have BX4 := Hd.mk (BX.out.drew.trans (hb4.mono BX.out.size))
       have K4 := Hd.mk (KB.out.d1.up hb4)
       obtain ⟨⟨b40, b41, b42⟩, b43, b44, b45, b46⟩ := K4.out.seven
       have r3_4 := cell_up (w := W.drew) r3_0 hb4
       have r4_4 := cell_up (w := W.drew) r4_0 hb4
       have r5_4 := cell_up (w := W.drew) r5_0 hb4
       have r6_4 := cell_up (w := W.drew) r6_0 hb4
       clear hb4
       dsimp only
       refine hK _ _ ?_
       clear hK K
       refine takeP 2 16 (v := ?_) rfl rfl (by kernel_rfl) (by kernel_rfl) (by kernel_rfl) (fun _ _ _ h => h) (by kernel_rfl) ?_ ?_
       rotate_left
       ·intro w; first | (go_simp; done) | (go_simp; with_reducible rfl)
       simp only [Act.put, List.setIfInBounds_toArray, List.set_cons_zero, List.set_cons_succ]
       refine takeP 3 17 (v := ?_) rfl rfl (by kernel_rfl) (by kernel_rfl) (by kernel_rfl) (fun _ _ _ h => h) (by kernel_rfl) ?_ ?_
       rotate_left
       ·intro w; first | (go_simp; done) | (go_simp; with_reducible rfl)
       simp only [Act.put, List.setIfInBounds_toArray, List.set_cons_zero, List.set_cons_succ]
       refine takeP 4 18 (v := ?_) rfl rfl (by kernel_rfl) (by kernel_rfl) (by kernel_rfl) (fun _ _ _ h => h) (by kernel_rfl) ?_ ?_
       rotate_left
       ·intro w; first | (go_simp; done) | (go_simp; with_reducible rfl)
       simp only [Act.put, List.setIfInBounds_toArray, List.set_cons_zero, List.set_cons_succ]
       refine wpAny_ready (rs := [5]) (by kernel_rfl) (by simp) ?_
       refine AllReady.cons rfl (fun K hK => ?_) AllReady.nil
       go_simp
       refine hK _ _ ?_
       clear hK K
       refine wpAny_ready (rs := [6]) (by kernel_rfl) (by simp) ?_
       refine AllReady.cons rfl (fun K hK => ?_) AllReady.nil
       go_simp
       refine (C2.out _ ?_).mono ?_
       ·exact BX4
       rintro e w5 ⟨rfl, hb5⟩
       have BX5 := Hd.mk (BX4.out.trans (hb5.mono BX4.out.size))
       have K5 := Hd.mk (K4.out.up hb5)
       obtain ⟨⟨b50, b51, b52⟩, b53, b54, b55, b56⟩ := K5.out.seven
       have r3_5 := cell_up r3_4 hb5
       have r4_5 := cell_up r4_4 hb5
       have r5_5 := cell_up r5_4 hb5
       have r6_5 := cell_up r6_4 hb5
       clear hb5
       dsimp only
       refine hK _ _ ?_
       clear hK K
       refine takeP 7 21 (v := ?_) rfl rfl (by kernel_rfl) (by kernel_rfl) (by kernel_rfl) (fun _ _ _ h => h) (by kernel_rfl) ?_ ?_
       rotate_left
       ·intro w; first | (go_simp; done) | (go_simp; with_reducible rfl)
       simp only [Act.put, List.setIfInBounds_toArray, List.set_cons_zero, List.set_cons_succ]
       refine takeP 8 22 (v := ?_) rfl rfl (by kernel_rfl) (by kernel_rfl) (by kernel_rfl) (fun _ _ _ h => h) (by kernel_rfl) ?_ ?_
       rotate_left
       ·intro w; first | (go_simp; done) | (go_simp; with_reducible rfl)
       simp only [Act.put, List.setIfInBounds_toArray, List.set_cons_zero, List.set_cons_succ]
       refine takeP 9 23 (v := ?_) rfl rfl (by kernel_rfl) (by kernel_rfl) (by kernel_rfl) (fun _ _ _ h => h) (by kernel_rfl) ?_ ?_
       rotate_left
       ·intro w; first | (go_simp; done) | (go_simp; with_reducible rfl)
       simp only [Act.put, List.setIfInBounds_toArray, List.set_cons_zero, List.set_cons_succ]
       refine takeP 10 24 (v := ?_) rfl rfl (by kernel_rfl) (by kernel_rfl) (by kernel_rfl) (fun _ _ _ h => h) (by kernel_rfl) ?_ ?_
       rotate_left
       ·intro w; first | (go_simp; done) | (go_simp; with_reducible rfl)
       simp only [Act.put, List.setIfInBounds_toArray, List.set_cons_zero, List.set_cons_succ]
       refine takeP 11 25 (v := ?_) rfl rfl (by kernel_rfl) (by kernel_rfl) (by kernel_rfl) (fun _ _ _ h => h) (by kernel_rfl) ?_ ?_
       rotate_left
       ·intro w; first | (go_simp; done) | (go_simp; with_reducible rfl)
       simp only [Act.put, List.setIfInBounds_toArray, List.set_cons_zero, List.set_cons_succ]
       refine takeP 12 26 (v := ?_) rfl rfl (by kernel_rfl) (by kernel_rfl) (by kernel_rfl) (fun _ _ _ h => h) (by kernel_rfl) ?_ ?_
       rotate_left
       ·intro w; first | (go_simp; done) | (go_simp; with_reducible rfl)
       simp only [Act.put, List.setIfInBounds_toArray, List.set_cons_zero, List.set_cons_succ]
       refine takeP 13 27 (v := ?_) rfl rfl (by kernel_rfl) (by kernel_rfl) (by kernel_rfl) (fun _ _ _ h => h) (by kernel_rfl) ?_ ?_
       rotate_left
       ·intro w; first | (go_simp; done) | (go_simp; with_reducible rfl)
       simp only [Act.put, List.setIfInBounds_toArray, List.set_cons_zero, List.set_cons_succ]
       refine takeP 14 28 (v := ?_) rfl rfl (by kernel_rfl) (by kernel_rfl) (by kernel_rfl) (fun _ _ _ h => h) (by kernel_rfl) ?_ ?_
       rotate_left
       ·intro w; first | (go_simp; done) | (go_simp; with_reducible rfl)
       simp only [Act.put, List.setIfInBounds_toArray, List.set_cons_zero, List.set_cons_succ]
       refine takeP 15 29 (v := ?_) rfl rfl (by kernel_rfl) (by kernel_rfl) (by kernel_rfl) (fun _ _ _ h => h) (by kernel_rfl) ?_ ?_
       rotate_left
       ·intro w; first | (go_simp; done) | (go_simp; with_reducible rfl)
       simp only [Act.put, List.setIfInBounds_toArray, List.set_cons_zero, List.set_cons_succ]
       refine takeP 16 30 (v := ?_) rfl rfl (by kernel_rfl) (by kernel_rfl) (by kernel_rfl) (fun _ _ _ h => h) (by kernel_rfl) ?_ ?_
       rotate_left
       ·intro w; first | (go_simp; done) | (go_simp; with_reducible rfl)
       simp only [Act.put, List.setIfInBounds_toArray, List.set_cons_zero, List.set_cons_succ]
       refine takeP 17 31 (v := ?_) rfl rfl (by kernel_rfl) (by kernel_rfl) (by kernel_rfl) (fun _ _ _ h => h) (by kernel_rfl) ?_ ?_
       rotate_left
       ·intro w; first | (go_simp; done) | (go_simp; with_reducible rfl)
       simp only [Act.put, List.setIfInBounds_toArray, List.set_cons_zero, List.set_cons_succ]
       refine takeP 19 33 (v := ?_) rfl rfl (by kernel_rfl) (by kernel_rfl) (by kernel_rfl) (fun _ _ _ h => h) (by kernel_rfl) ?_ ?_
       rotate_left
       ·intro w; first | (go_simp; done) | (go_simp; with_reducible rfl)
       simp only [Act.put, List.setIfInBounds_toArray, List.set_cons_zero, List.set_cons_succ]
       refine wpAny_ready (rs := [18, 20]) (by kernel_rfl) (by simp) ?_
       refine AllReady.cons rfl (fun K hK => ?_) ?_
       go_simp
       refine hK _ _ ?_
       clear hK K
       refine wpAny_ready (rs := [20]) (by kernel_rfl) (by simp) ?_
       refine AllReady.cons rfl (fun K hK => ?_) AllReady.nil
       go_simp
       refine hK _ _ ?_
       clear hK K
       refine wpAny_ready (rs := [21]) (by kernel_rfl) (by simp) ?_
       refine AllReady.cons rfl (fun K hK => ?_) AllReady.nil
       go_simp
       refine (C3.out _).mono ?_
       rintro e w6 ⟨rfl, hb6⟩
       have BX6 := Hd.mk (BX5.out.trans (hb6.lo.mono BX5.out.size))
       clear hb6
       dsimp only
       refine hK _ _ ?_
       clear hK K
       refine takeP 22 36 (v := ?_) rfl rfl (by kernel_rfl) (by kernel_rfl) (by kernel_rfl) (fun _ _ _ h => h) (by kernel_rfl) ?_ ?_
       rotate_left
       ·intro w; first | (go_simp; done) | (go_simp; with_reducible rfl)
       simp only [Act.put, List.setIfInBounds_toArray, List.set_cons_zero, List.set_cons_succ]
       refine takeP 23 37 (v := ?_) rfl rfl (by kernel_rfl) (by kernel_rfl) (by kernel_rfl) (fun _ _ _ h => h) (by kernel_rfl) ?_ ?_
       rotate_left
       ·intro w; first | (go_simp; done) | (go_simp; with_reducible rfl)
       simp only [Act.put, List.setIfInBounds_toArray, List.set_cons_zero, List.set_cons_succ]
       refine takeP 24 38 (v := ?_) rfl rfl (by kernel_rfl) (by kernel_rfl) (by kernel_rfl) (fun _ _ _ h => h) (by kernel_rfl) ?_ ?_
       rotate_left
       ·intro w; first | (go_simp; done) | (go_simp; with_reducible rfl)
       simp only [Act.put, List.setIfInBounds_toArray, List.set_cons_zero, List.set_cons_succ]
       refine wpAny_done (by kernel_rfl) ?_ _
       rotate_left
       refine AllReady.cons rfl (fun K hK => ?_) ?_
       go_simp
       refine hK _ _ ?_
       clear hK K
       refine wpAny_ready (rs := [18]) (by kernel_rfl) (by simp) ?_
       refine AllReady.cons rfl (fun K hK => ?_) AllReady.nil
       go_simp
       refine hK _ _ ?_
       clear hK K
       refine wpAny_ready (rs := [21]) (by kernel_rfl) (by simp) ?_
       refine AllReady.cons rfl (fun K hK => ?_) AllReady.nil
       go_simp
       refine (C3.out _).mono ?_
       rintro e w6 ⟨rfl, hb6⟩
       have BX6 := Hd.mk (BX5.out.trans (hb6.lo.mono BX5.out.size))
       clear hb6
       dsimp only
       refine hK _ _ ?_
       clear hK K
       refine takeP 22 36 (v := ?_) rfl rfl (by kernel_rfl) (by kernel_rfl) (by kernel_rfl) (fun _ _ _ h => h) (by kernel_rfl) ?_ ?_
       rotate_left
       ·intro w; first | (go_simp; done) | (go_simp; with_reducible rfl)
       simp only [Act.put, List.setIfInBounds_toArray, List.set_cons_zero, List.set_cons_succ]
       refine takeP 23 37 (v := ?_) rfl rfl (by kernel_rfl) (by kernel_rfl) (by kernel_rfl) (fun _ _ _ h => h) (by kernel_rfl) ?_ ?_
       rotate_left
       ·intro w; first | (go_simp; done) | (go_simp; with_reducible rfl)
       simp only [Act.put, List.setIfInBounds_toArray, List.set_cons_zero, List.set_cons_succ]
       refine takeP 24 38 (v := ?_) rfl rfl (by kernel_rfl) (by kernel_rfl) (by kernel_rfl) (fun _ _ _ h => h) (by kernel_rfl) ?_ ?_
       rotate_left
       ·intro w; first | (go_simp; done) | (go_simp; with_reducible rfl)
       simp only [Act.put, List.setIfInBounds_toArray, List.set_cons_zero, List.set_cons_succ]
       refine wpAny_done (by kernel_rfl) ?_ _
       rotate_left
       exact AllReady.nil
       all_goals (
        go_wp2_with fail
        go_roundw
        case measure => first | (simp [intOf]; done) | (simp [intOf]; omega)
        case rel => exact ⟨i + 1, by go_num, by omega, ⟨hb.out.trans (BX6.out.mono hb.out.size)⟩, ⟨all_succ ha.out HE.out⟩⟩)
      ·have HE : Hd (okAt order ts i = false) := ⟨by rw [HO2.out]; exact decide_eq_false hk0⟩
       have n5 : decide (k ≤ 0) = true := decide_eq_true (by omega)
       clear hk0
       refine wp_region_any (by kernel_rfl) ?_
       try (change wpAny _ _ _ _ _ _ _ (World.drew _))
       refine wpAny_ready (rs := [0]) (by kernel_rfl) (by simp) ?_
       refine AllReady.cons rfl (fun K hK => ?_) AllReady.nil
       go_simp
       refine hK _ _ ?_
       clear hK K
       refine wpAny_ready (rs := [1]) (by kernel_rfl) (by simp) ?_
       refine AllReady.cons rfl (fun K hK => ?_) AllReady.nil
       go_simp
       refine (C1.out _ ?_).mono ?_
       ·exact ⟨BX.out.drew⟩
       rintro e w4 ⟨rfl, hb4⟩
       have BX4 := Hd.mk (BX.out.drew.trans (hb4.mono BX.out.size))
       have K4 := Hd.mk (KB.out.d1.up hb4)
       obtain ⟨⟨b40, b41, b42⟩, b43, b44, b45, b46⟩ := K4.out.seven
       have r3_4 := cell_up (w := W.drew) r3_0 hb4
       have r4_4 := cell_up (w := W.drew) r4_0 hb4
       have r5_4 := cell_up (w := W.drew) r5_0 hb4
       have r6_4 := cell_up (w := W.drew) r6_0 hb4
       clear hb4
       dsimp only
       refine hK _ _ ?_
       clear hK K
       refine takeP 2 16 (v := ?_) rfl rfl (by kernel_rfl) (by kernel_rfl) (by kernel_rfl) (fun _ _ _ h => h) (by kernel_rfl) ?_ ?_
       rotate_left
       ·intro w; first | (go_simp; done) | (go_simp; with_reducible rfl)
       simp only [Act.put, List.setIfInBounds_toArray, List.set_cons_zero, List.set_cons_succ]
       refine takeP 3 17 (v := ?_) rfl rfl (by kernel_rfl) (by kernel_rfl) (by kernel_rfl) (fun _ _ _ h => h) (by kernel_rfl) ?_ ?_
       rotate_left
       ·intro w; first | (go_simp; done) | (go_simp; with_reducible rfl)
       simp only [Act.put, List.setIfInBounds_toArray, List.set_cons_zero, List.set_cons_succ]
       refine takeP 4 18 (v := ?_) rfl rfl (by kernel_rfl) (by kernel_rfl) (by kernel_rfl) (fun _ _ _ h => h) (by kernel_rfl) ?_ ?_
       rotate_left
       ·intro w; first | (go_simp; done) | (go_simp; with_reducible rfl)
       simp only [Act.put, List.setIfInBounds_toArray, List.set_cons_zero, List.set_cons_succ]
       refine wpAny_ready (rs := [5]) (by kernel_rfl) (by simp) ?_
       refine AllReady.cons rfl (fun K hK => ?_) AllReady.nil
       go_simp
       refine hK _ _ ?_
       clear hK K
       refine wpAny_ready (rs := [6]) (by kernel_rfl) (by simp) ?_
       refine AllReady.cons rfl (fun K hK => ?_) AllReady.nil
       go_simp
       refine (C2.out _ ?_).mono ?_
       ·exact BX4
       rintro e w5 ⟨rfl, hb5⟩
       have BX5 := Hd.mk (BX4.out.trans (hb5.mono BX4.out.size))
       have K5 := Hd.mk (K4.out.up hb5)
       obtain ⟨⟨b50, b51, b52⟩, b53, b54, b55, b56⟩ := K5.out.seven
       have r3_5 := cell_up r3_4 hb5
       have r4_5 := cell_up r4_4 hb5
       have r5_5 := cell_up r5_4 hb5
       have r6_5 := cell_up r6_4 hb5
       clear hb5
       dsimp only
       refine hK _ _ ?_
       clear hK K
       refine takeP 7 21 (v := ?_) rfl rfl (by kernel_rfl) (by kernel_rfl) (by kernel_rfl) (fun _ _ _ h => h) (by kernel_rfl) ?_ ?_
       rotate_left
       ·intro w; first | (go_simp; done) | (go_simp; with_reducible rfl)
       simp only [Act.put, List.setIfInBounds_toArray, List.set_cons_zero, List.set_cons_succ]
       refine takeP 8 22 (v := ?_) rfl rfl (by kernel_rfl) (by kernel_rfl) (by kernel_rfl) (fun _ _ _ h => h) (by kernel_rfl) ?_ ?_
       rotate_left
       ·intro w; first | (go_simp; done) | (go_simp; with_reducible rfl)
       simp only [Act.put, List.setIfInBounds_toArray, List.set_cons_zero, List.set_cons_succ]
       refine takeP 9 23 (v := ?_) rfl rfl (by kernel_rfl) (by kernel_rfl) (by kernel_rfl) (fun _ _ _ h => h) (by kernel_rfl) ?_ ?_
       rotate_left
       ·intro w; first | (go_simp; done) | (go_simp; with_reducible rfl)
       simp only [Act.put, List.setIfInBounds_toArray, List.set_cons_zero, List.set_cons_succ]
       refine takeP 10 24 (v := ?_) rfl rfl (by kernel_rfl) (by kernel_rfl) (by kernel_rfl) (fun _ _ _ h => h) (by kernel_rfl) ?_ ?_
       rotate_left
       ·intro w; first | (go_simp; done) | (go_simp; with_reducible rfl)
       simp only [Act.put, List.setIfInBounds_toArray, List.set_cons_zero, List.set_cons_succ]
       refine takeP 11 25 (v := ?_) rfl rfl (by kernel_rfl) (by kernel_rfl) (by kernel_rfl) (fun _ _ _ h => h) (by kernel_rfl) ?_ ?_
       rotate_left
       ·intro w; first | (go_simp; done) | (go_simp; with_reducible rfl)
       simp only [Act.put, List.setIfInBounds_toArray, List.set_cons_zero, List.set_cons_succ]
       refine takeP 12 26 (v := ?_) rfl rfl (by kernel_rfl) (by kernel_rfl) (by kernel_rfl) (fun _ _ _ h => h) (by kernel_rfl) ?_ ?_
       rotate_left
       ·intro w; first | (go_simp; done) | (go_simp; with_reducible rfl)
       simp only [Act.put, List.setIfInBounds_toArray, List.set_cons_zero, List.set_cons_succ]
       refine takeP 13 27 (v := ?_) rfl rfl (by kernel_rfl) (by kernel_rfl) (by kernel_rfl) (fun _ _ _ h => h) (by kernel_rfl) ?_ ?_
       rotate_left
       ·intro w; first | (go_simp; done) | (go_simp; with_reducible rfl)
       simp only [Act.put, List.setIfInBounds_toArray, List.set_cons_zero, List.set_cons_succ]
       refine takeP 14 28 (v := ?_) rfl rfl (by kernel_rfl) (by kernel_rfl) (by kernel_rfl) (fun _ _ _ h => h) (by kernel_rfl) ?_ ?_
       rotate_left
       ·intro w; first | (go_simp; done) | (go_simp; with_reducible rfl)
       simp only [Act.put, List.setIfInBounds_toArray, List.set_cons_zero, List.set_cons_succ]
       refine takeP 15 29 (v := ?_) rfl rfl (by kernel_rfl) (by kernel_rfl) (by kernel_rfl) (fun _ _ _ h => h) (by kernel_rfl) ?_ ?_
       rotate_left
       ·intro w; first | (go_simp; done) | (go_simp; with_reducible rfl)
       simp only [Act.put, List.setIfInBounds_toArray, List.set_cons_zero, List.set_cons_succ]
       refine takeP 16 30 (v := ?_) rfl rfl (by kernel_rfl) (by kernel_rfl) (by kernel_rfl) (fun _ _ _ h => h) (by kernel_rfl) ?_ ?_
       rotate_left
       ·intro w; first | (go_simp; done) | (go_simp; with_reducible rfl)
       simp only [Act.put, List.setIfInBounds_toArray, List.set_cons_zero, List.set_cons_succ]
       refine takeP 17 31 (v := ?_) rfl rfl (by kernel_rfl) (by kernel_rfl) (by kernel_rfl) (fun _ _ _ h => h) (by kernel_rfl) ?_ ?_
       rotate_left
       ·intro w; first | (go_simp; done) | (go_simp; with_reducible rfl)
       simp only [Act.put, List.setIfInBounds_toArray, List.set_cons_zero, List.set_cons_succ]
       refine takeP 19 33 (v := ?_) rfl rfl (by kernel_rfl) (by kernel_rfl) (by kernel_rfl) (fun _ _ _ h => h) (by kernel_rfl) ?_ ?_
       rotate_left
       ·intro w; first | (go_simp; done) | (go_simp; with_reducible rfl)
       simp only [Act.put, List.setIfInBounds_toArray, List.set_cons_zero, List.set_cons_succ]
       refine wpAny_ready (rs := [18, 20]) (by kernel_rfl) (by simp) ?_
       refine AllReady.cons rfl (fun K hK => ?_) ?_
       go_simp
       refine hK _ _ ?_
       clear hK K
       refine wpAny_ready (rs := [20]) (by kernel_rfl) (by simp) ?_
       refine AllReady.cons rfl (fun K hK => ?_) AllReady.nil
       go_simp
       refine hK _ _ ?_
       clear hK K
       refine wpAny_ready (rs := [21]) (by kernel_rfl) (by simp) ?_
       refine AllReady.cons rfl (fun K hK => ?_) AllReady.nil
       go_simp
       refine (C3.out _).mono ?_
       rintro e w6 ⟨rfl, hb6⟩
       have BX6 := Hd.mk (BX5.out.trans (hb6.lo.mono BX5.out.size))
       clear hb6
       dsimp only
       refine hK _ _ ?_
       clear hK K
       refine takeP 22 36 (v := ?_) rfl rfl (by kernel_rfl) (by kernel_rfl) (by kernel_rfl) (fun _ _ _ h => h) (by kernel_rfl) ?_ ?_
       rotate_left
       ·intro w; first | (go_simp; done) | (go_simp; with_reducible rfl)
       simp only [Act.put, List.setIfInBounds_toArray, List.set_cons_zero, List.set_cons_succ]
       refine takeP 23 37 (v := ?_) rfl rfl (by kernel_rfl) (by kernel_rfl) (by kernel_rfl) (fun _ _ _ h => h) (by kernel_rfl) ?_ ?_
       rotate_left
       ·intro w; first | (go_simp; done) | (go_simp; with_reducible rfl)
       simp only [Act.put, List.setIfInBounds_toArray, List.set_cons_zero, List.set_cons_succ]
       refine takeP 24 38 (v := ?_) rfl rfl (by kernel_rfl) (by kernel_rfl) (by kernel_rfl) (fun _ _ _ h => h) (by kernel_rfl) ?_ ?_
       rotate_left
       ·intro w; first | (go_simp; done) | (go_simp; with_reducible rfl)
       simp only [Act.put, List.setIfInBounds_toArray, List.set_cons_zero, List.set_cons_succ]
       refine wpAny_done (by kernel_rfl) ?_ _
       rotate_left
       refine AllReady.cons rfl (fun K hK => ?_) ?_
       go_simp
       refine hK _ _ ?_
       clear hK K
       refine wpAny_ready (rs := [18]) (by kernel_rfl) (by simp) ?_
       refine AllReady.cons rfl (fun K hK => ?_) AllReady.nil
       go_simp
       refine hK _ _ ?_
       clear hK K
       refine wpAny_ready (rs := [21]) (by kernel_rfl) (by simp) ?_
       refine AllReady.cons rfl (fun K hK => ?_) AllReady.nil
       go_simp
       refine (C3.out _).mono ?_
       rintro e w6 ⟨rfl, hb6⟩
       have BX6 := Hd.mk (BX5.out.trans (hb6.lo.mono BX5.out.size))
       clear hb6
       dsimp only
       refine hK _ _ ?_
       clear hK K
       refine takeP 22 36 (v := ?_) rfl rfl (by kernel_rfl) (by kernel_rfl) (by kernel_rfl) (fun _ _ _ h => h) (by kernel_rfl) ?_ ?_
       rotate_left
       ·intro w; first | (go_simp; done) | (go_simp; with_reducible rfl)
       simp only [Act.put, List.setIfInBounds_toArray, List.set_cons_zero, List.set_cons_succ]
       refine takeP 23 37 (v := ?_) rfl rfl (by kernel_rfl) (by kernel_rfl) (by kernel_rfl) (fun _ _ _ h => h) (by kernel_rfl) ?_ ?_
       rotate_left
       ·intro w; first | (go_simp; done) | (go_simp; with_reducible rfl)
       simp only [Act.put, List.setIfInBounds_toArray, List.set_cons_zero, List.set_cons_succ]
       refine takeP 24 38 (v := ?_) rfl rfl (by kernel_rfl) (by kernel_rfl) (by kernel_rfl) (fun _ _ _ h => h) (by kernel_rfl) ?_ ?_
       rotate_left
       ·intro w; first | (go_simp; done) | (go_simp; with_reducible rfl)
       simp only [Act.put, List.setIfInBounds_toArray, List.set_cons_zero, List.set_cons_succ]
       refine wpAny_done (by kernel_rfl) ?_ _
       rotate_left
       exact AllReady.nil
       all_goals (
        go_wp2_with fail
        go_ret
        refine ⟨retBool (Eq.symm ?_), hb.out.trans (BX6.out.mono hb.out.size)⟩
        exact polMay_no hlt HE.out)
    ·rw [hz] at C2
     have HE : Hd (okAt order ts i = false) := ⟨by rw [HO.out, hz]; simp⟩
     clear hr hz
     refine wp_region_any (by kernel_rfl) ?_
     try (change wpAny _ _ _ _ _ _ _ (World.drew _))
     refine wpAny_ready (rs := [0]) (by kernel_rfl) (by simp) ?_
     refine AllReady.cons rfl (fun K hK => ?_) AllReady.nil
     go_simp
     refine hK _ _ ?_
     clear hK K
     refine wpAny_ready (rs := [1]) (by kernel_rfl) (by simp) ?_
     refine AllReady.cons rfl (fun K hK => ?_) AllReady.nil
     go_simp
     refine (C1.out _ ?_).mono ?_
     ·exact ⟨BX.out.drew⟩
     rintro e w4 ⟨rfl, hb4⟩
     have BX4 := Hd.mk (BX.out.drew.trans (hb4.mono BX.out.size))
     have K4 := Hd.mk (KB.out.d1.up hb4)
     obtain ⟨⟨b40, b41, b42⟩, b43, b44, b45, b46⟩ := K4.out.seven
     clear hb4
     dsimp only
     refine hK _ _ ?_
     clear hK K
     refine takeP 2 16 (v := ?_) rfl rfl (by kernel_rfl) (by kernel_rfl) (by kernel_rfl) (fun _ _ _ h => h) (by kernel_rfl) ?_ ?_
     rotate_left
     ·intro w; first | (go_simp; done) | (go_simp; with_reducible rfl)
     simp only [Act.put, List.setIfInBounds_toArray, List.set_cons_zero, List.set_cons_succ]
     refine takeP 3 17 (v := ?_) rfl rfl (by kernel_rfl) (by kernel_rfl) (by kernel_rfl) (fun _ _ _ h => h) (by kernel_rfl) ?_ ?_
     rotate_left
     ·intro w; first | (go_simp; done) | (go_simp; with_reducible rfl)
     simp only [Act.put, List.setIfInBounds_toArray, List.set_cons_zero, List.set_cons_succ]
     refine takeP 4 18 (v := ?_) rfl rfl (by kernel_rfl) (by kernel_rfl) (by kernel_rfl) (fun _ _ _ h => h) (by kernel_rfl) ?_ ?_
     rotate_left
     ·intro w; first | (go_simp; done) | (go_simp; with_reducible rfl)
     simp only [Act.put, List.setIfInBounds_toArray, List.set_cons_zero, List.set_cons_succ]
     refine wpAny_ready (rs := [5]) (by kernel_rfl) (by simp) ?_
     refine AllReady.cons rfl (fun K hK => ?_) AllReady.nil
     go_simp
     refine hK _ _ ?_
     clear hK K
     refine wpAny_ready (rs := [6]) (by kernel_rfl) (by simp) ?_
     refine AllReady.cons rfl (fun K hK => ?_) AllReady.nil
     go_simp
     refine (C2.out _ ?_).mono ?_
     ·exact BX4
     rintro e w5 ⟨rfl, hb5⟩
     have BX5 := Hd.mk (BX4.out.trans (hb5.mono BX4.out.size))
     have K5 := Hd.mk (K4.out.up hb5)
     obtain ⟨⟨b50, b51, b52⟩, b53, b54, b55, b56⟩ := K5.out.seven
     clear hb5
     dsimp only
     refine hK _ _ ?_
     clear hK K
     refine takeP 7 21 (v := ?_) rfl rfl (by kernel_rfl) (by kernel_rfl) (by kernel_rfl) (fun _ _ _ h => h) (by kernel_rfl) ?_ ?_
     rotate_left
     ·intro w; first | (go_simp; done) | (go_simp; with_reducible rfl)
     simp only [Act.put, List.setIfInBounds_toArray, List.set_cons_zero, List.set_cons_succ]
     refine takeP 8 22 (v := ?_) rfl rfl (by kernel_rfl) (by kernel_rfl) (by kernel_rfl) (fun _ _ _ h => h) (by kernel_rfl) ?_ ?_
     rotate_left
     ·intro w; first | (go_simp; done) | (go_simp; with_reducible rfl)
     simp only [Act.put, List.setIfInBounds_toArray, List.set_cons_zero, List.set_cons_succ]
     refine takeO 9 23 rfl rfl (by kernel_rfl) (by kernel_rfl) (by kernel_rfl) (fun _ _ _ h => h) (by kernel_rfl) ?_
     simp only [Act.put, List.setIfInBounds_toArray, List.set_cons_zero, List.set_cons_succ]
     refine takeO 10 24 rfl rfl (by kernel_rfl) (by kernel_rfl) (by kernel_rfl) (fun _ _ _ h => h) (by kernel_rfl) ?_
     simp only [Act.put, List.setIfInBounds_toArray, List.set_cons_zero, List.set_cons_succ]
     refine takeO 11 25 rfl rfl (by kernel_rfl) (by kernel_rfl) (by kernel_rfl) (fun _ _ _ h => h) (by kernel_rfl) ?_
     simp only [Act.put, List.setIfInBounds_toArray, List.set_cons_zero, List.set_cons_succ]
     refine takeO 12 26 rfl rfl (by kernel_rfl) (by kernel_rfl) (by kernel_rfl) (fun _ _ _ h => h) (by kernel_rfl) ?_
     simp only [Act.put, List.setIfInBounds_toArray, List.set_cons_zero, List.set_cons_succ]
     refine takeO 13 27 rfl rfl (by kernel_rfl) (by kernel_rfl) (by kernel_rfl) (fun _ _ _ h => h) (by kernel_rfl) ?_
     simp only [Act.put, List.setIfInBounds_toArray, List.set_cons_zero, List.set_cons_succ]
     refine takeO 14 28 rfl rfl (by kernel_rfl) (by kernel_rfl) (by kernel_rfl) (fun _ _ _ h => h) (by kernel_rfl) ?_
     simp only [Act.put, List.setIfInBounds_toArray, List.set_cons_zero, List.set_cons_succ]
     refine takeO 15 29 rfl rfl (by kernel_rfl) (by kernel_rfl) (by kernel_rfl) (fun _ _ _ h => h) (by kernel_rfl) ?_
     simp only [Act.put, List.setIfInBounds_toArray, List.set_cons_zero, List.set_cons_succ]
     refine takeO 16 30 rfl rfl (by kernel_rfl) (by kernel_rfl) (by kernel_rfl) (fun _ _ _ h => h) (by kernel_rfl) ?_
     simp only [Act.put, List.setIfInBounds_toArray, List.set_cons_zero, List.set_cons_succ]
     refine takeO 17 31 rfl rfl (by kernel_rfl) (by kernel_rfl) (by kernel_rfl) (fun _ _ _ h => h) (by kernel_rfl) ?_
     simp only [Act.put, List.setIfInBounds_toArray, List.set_cons_zero, List.set_cons_succ]
     refine takeO 18 32 rfl rfl (by kernel_rfl) (by kernel_rfl) (by kernel_rfl) (fun _ _ _ h => h) (by kernel_rfl) ?_
     simp only [Act.put, List.setIfInBounds_toArray, List.set_cons_zero, List.set_cons_succ]
     refine takeO 19 33 rfl rfl (by kernel_rfl) (by kernel_rfl) (by kernel_rfl) (fun _ _ _ h => h) (by kernel_rfl) ?_
     simp only [Act.put, List.setIfInBounds_toArray, List.set_cons_zero, List.set_cons_succ]
     refine takeO 20 34 rfl rfl (by kernel_rfl) (by kernel_rfl) (by kernel_rfl) (fun _ _ _ h => h) (by kernel_rfl) ?_
     simp only [Act.put, List.setIfInBounds_toArray, List.set_cons_zero, List.set_cons_succ]
     refine takeO 21 35 rfl rfl (by kernel_rfl) (by kernel_rfl) (by kernel_rfl) (fun _ _ _ h => h) (by kernel_rfl) ?_
     simp only [Act.put, List.setIfInBounds_toArray, List.set_cons_zero, List.set_cons_succ]
     refine takeO 22 36 rfl rfl (by kernel_rfl) (by kernel_rfl) (by kernel_rfl) (fun _ _ _ h => h) (by kernel_rfl) ?_
     simp only [Act.put, List.setIfInBounds_toArray, List.set_cons_zero, List.set_cons_succ]
     refine takeO 23 37 rfl rfl (by kernel_rfl) (by kernel_rfl) (by kernel_rfl) (fun _ _ _ h => h) (by kernel_rfl) ?_
     simp only [Act.put, List.setIfInBounds_toArray, List.set_cons_zero, List.set_cons_succ]
     refine takeP 24 38 (v := ?_) rfl rfl (by kernel_rfl) (by kernel_rfl) (by kernel_rfl) (fun _ _ _ h => h) (by kernel_rfl) ?_ ?_
     rotate_left
     ·intro w; first | (go_simp; done) | (go_simp; with_reducible rfl)
     simp only [Act.put, List.setIfInBounds_toArray, List.set_cons_zero, List.set_cons_succ]
     refine wpAny_done (by kernel_rfl) ?_ _
     all_goals (
      go_wp2_with fail
      go_ret
      refine ⟨retBool (Eq.symm ?_), hb.out.trans (BX5.out.mono hb.out.size)⟩
      exact polMay_no hlt HE.out)
  ·have hie : i = ts.length := by omega
   subst hie
   have CO := Hd.mk (poly_ordered order wr)
   have HE : Hd (polMay order ts = (ordered order && decide (ts.length ≤ 60))) := ⟨by unfold polMay; rw [ha.out]; rfl⟩
   cases ho : ordered order
   ·rw [ho] at CO HE
    clear ho
    go_wp2_with fail
    refine CO.out.mono ?_
    rintro e w' ⟨rfl, rfl⟩
    go_wp2_with fail
    go_ret
    exact ⟨retBool HE.out.symm, hb.out⟩
   ·rw [ho] at CO HE
    have n6 : decide ((ts.length : Int) ≤ 60) = decide (ts.length ≤ 60) := by congr 1; apply propext; omega
    clear ho
    go_wp2_with fail
    refine CO.out.mono ?_
    rintro e w' ⟨rfl, rfl⟩
    go_wp2_with fail
    go_ret
    refine ⟨retBool ?_, hb.out⟩
    rw [HE.out]
    first | exact n6 | simp
end Go.Proofs.YtgjkgkgieeoalaaGreat
