/- Parts of the proof, joined: each theorem says what it shows. -/
import Derived.Test.YtgjkgkgieeoalaaGreatA39
import Derived.Test.YtgjkgkgieeoalaaGreatA34
import Derived.Test.YtgjkgkgieeoalaaGreatA37
set_option linter.unusedVariables false
set_option linter.unusedSimpArgs false
set_option maxHeartbeats 24000000
set_option maxRecDepth 100000
namespace Go.Proofs.YtgjkgkgieeoalaaGreat
open Go.RowKit
theorem ref12_Rest (b0 : Nat) (o : Int) (A L : Option Addr) (c cl : Nat) (p : List TermD) (l : List (List TermD)) (w : World) (hb0 : b0 ≤ w.heap.size) (h : RPol w b0 A p) (hc : p.length ≤ c) (hs : shortP p) (hL : RPols w b0 L l) (hcl : l.length ≤ cl) (hsl : shortPs l) :
    Calls Tryz.prog 31 #[.int .i64 o, .slice A p.length c, .slice L l.length cl] w fun e w' => ∃ R rc, e = .returned (.tuple #[.slice R (splitD o p l).2.2.length rc, .int .i64 (splitD o p l).1]) ∧ (splitD o p l).2.2.length ≤ rc ∧ RPol w' b0 R (splitD o p l).2.2 ∧ Below w.heap.size w w' := by
 have CS := Hd.mk (ref_Split b0 o A L c cl p l w hb0 h hc hs hL hcl hsl)
 obtain ⟨D, hD⟩ : ∃ D, splitD o p l = D := ⟨_, rfl⟩
 rw [hD] at CS ⊢
 clear hD h hs hL hsl
 go_enter Tryz.func31, Tryz.ntmps31
 go_wp2_with fail
 refine CS.out.mono ?_
 rintro e w' ⟨Q, qc, R, rc, rfl, -, hrc, -, hR, hB⟩
 have HR := Hd.mk (And.intro hR hB)
 clear hR hB CS
 go_wp2_with fail
 go_ret2
 exact ⟨R, rc, rfl, hrc, HR.out.1, HR.out.2⟩
theorem rmons_two {W : World} {g : Nat} {ty : TypeId} {m m' : MonD} (hk : Bk W g ty #[.int .i64 m.x0, .int .i64 m.x1, .int .i64 m.x2, .int .i64 m.x3, .int .i64 m'.x0, .int .i64 m'.x1, .int .i64 m'.x2, .int .i64 m'.x3]) : RMons W (some ⟨g, 0, none⟩) [m, m'] :=
 Rd.of_bk hk 2 4 rfl
theorem law_PairApart (a0 : Int) (A B C D : Option Addr) (c d k l : Nat) (ns ns' : List Int) (ms ms' : List (Int × Int × Int)) (w : World) (h0 : 0 ≤ a0) (h1 : a0 ≤ 255) (h : RSm w A c B d ns ms) (h' : RSm w C k D l ns' ms') :
    Calls Tryz.prog 7 #[.int .u8 a0, .agg #[.slice A ns.length c, .slice B ms.length d], .agg #[.slice C ns'.length k, .slice D ms'.length l]] w fun e w' => e = .returned (.bool true) ∧ Below w.heap.size w w' := by
 have ho := oOk_mod3' h0
 obtain ⟨o, rO⟩ : ∃ o, a0 % 3 = o := ⟨_, rfl⟩
 rw [rO] at ho
 obtain ⟨P, hP, CM1⟩ := made13_call ho h
 obtain ⟨Q, hQ, CM2⟩ := made13_call ho h'
 have CM1 := Hd.mk CM1
 have CM2 := Hd.mk CM2
 have HP := Hd.mk hP
 have HQ := Hd.mk hQ
 have CS := Hd.mk law13_shown
 clear h h' hP hQ ho
 go_enter Tryz.func7, Tryz.ntmps7
 go_upto_region 1 with (fail)
 refine wp_gen (fun W => Bo2 w.heap.size w.heap.size (w.heap.size + 1) w W 59 59 #[.slice A ns.length c, .slice B ms.length d] #[.slice C ns'.length k, .slice D ms'.length l]) (Bo2.mk2 w _ _ _ _) ?_
 intro W1 BX1
 generalize w.heap.size + 1 = g5 at BX1 ⊢
 obtain ⟨d0, d1⟩ := BX1.out.k1.two'
 go_wp2_with fail
 refine (CM1.out _ BX1.out.below).mono ?_
 rintro e w2 ⟨A2, c2, rfl, hc2, hr, hb⟩
 have BX2 := Hd.mk (BX1.out.up hb)
 have HP2 := Hd.mk hr
 clear hb hr CM1 BX1 d0 d1
 obtain ⟨d0, d1⟩ := BX2.out.k2.two'
 go_wp2_with fail
 refine (CM2.out _ BX2.out.below).mono ?_
 rintro e w3 ⟨A3, c3, rfl, hc3, hr, hb⟩
 have HB3 := Hd.mk (BX2.out.up hb).below
 have HP3 := Hd.mk (HP2.out.up hb)
 have HQ3 := Hd.mk hr
 have SP := Hd.mk (smP_short13 HP.out)
 have SQ := Hd.mk (smP_short13 HQ.out)
 clear hb hr CM2 BX2 d0 d1 HP2
 by_cases hp0 : P.length = 0
 case pos =>
  have e1 : ((P.length : Int) == 0) = true := by rw [hp0]; rfl
  clear hp0
  go_wp2_with fail
  refine (CS.out _).mono ?_
  rintro e w5 ⟨rfl, hb⟩
  have HB5 := Hd.mk (goes HB3.out hb)
  clear hb
  go_wp2_with fail
  go_ret
  exact ⟨rfl, HB5.out⟩
 have e1 : ((P.length : Int) == 0) = false := by rw [beq_eq_false_iff_ne]; omega
 by_cases hq0 : Q.length = 0
 case pos =>
  have e2 : ((Q.length : Int) == 0) = true := by rw [hq0]; rfl
  clear hq0 hp0
  go_wp2_with fail
  refine (CS.out _).mono ?_
  rintro e w5 ⟨rfl, hb⟩
  have HB5 := Hd.mk (goes HB3.out hb)
  clear hb
  go_wp2_with fail
  go_ret
  exact ⟨rfl, HB5.out⟩
 have e2 : ((Q.length : Int) == 0) = false := by rw [beq_eq_false_iff_ne]; omega
 go_wp2_with fail
 refine (CS.out _).mono ?_
 rintro e w4 ⟨rfl, hb⟩
 have HB4 := Hd.mk (goes HB3.out hb)
 have HP4 := Hd.mk (HP3.out.up hb)
 have HQ4 := Hd.mk (HQ3.out.up hb)
 clear hb CS HP3 HQ3
 go_upto_region 6 with (fail)
 have hP1 : 0 < P.length := by omega
 have hQ1 : 0 < Q.length := by omega
 have hP2 : (0 : Int) < P.length := by omega
 have hQ2 : (0 : Int) < Q.length := by omega
 clear hp0 hq0
 obtain ⟨ad, X1, x1, X2, x2, t, rfl, -, hti, -, -, -, -, p3, p4, p5, p6⟩ := HP4.out.get hP1
 obtain ⟨bd, Y1, y1, Y2, y2, u, rfl, -, hui, -, -, -, -, q3, q4, q5, q6⟩ := HQ4.out.get hQ1
 rw [Nat.zero_mul, add_none] at p3 p4 p5 p6 q3 q4 q5 q6
 have SO := Hd.mk (fun W (hB : Below w4.heap.size w4 W) => And.intro (Hd.mk hB) (And.intro (cell_up p3 hB) (And.intro (cell_up p4 hB) (And.intro (cell_up p5 hB) (And.intro (cell_up p6 hB) (And.intro (cell_up q3 hB) (And.intro (cell_up q4 hB) (And.intro (cell_up q5 hB) (cell_up q6 hB)))))))))
 go_cut [10] (fun v10 wx => ∃ g, v10 = .slice (some ⟨g, 0, none⟩) 2 2 ∧ Hd (RMons wx (some ⟨g, 0, none⟩) [t.m, u.m]) ∧ Hd (Below w4.heap.size w4 wx))
 case first =>
  go_region_held3 (fun W => Hd (Below w4.heap.size w4 W) ∧ W.cell? ⟨ad.block, ad.off + 3, none⟩ = some (.int .i64 t.m.x0) ∧ W.cell? ⟨ad.block, ad.off + 3 + 1, none⟩ = some (.int .i64 t.m.x1) ∧ W.cell? ⟨ad.block, ad.off + 3 + 2, none⟩ = some (.int .i64 t.m.x2) ∧ W.cell? ⟨ad.block, ad.off + 3 + 3, none⟩ = some (.int .i64 t.m.x3) ∧
      W.cell? ⟨bd.block, bd.off + 3, none⟩ = some (.int .i64 u.m.x0) ∧ W.cell? ⟨bd.block, bd.off + 3 + 1, none⟩ = some (.int .i64 u.m.x1) ∧ W.cell? ⟨bd.block, bd.off + 3 + 2, none⟩ = some (.int .i64 u.m.x2) ∧ W.cell? ⟨bd.block, bd.off + 3 + 3, none⟩ = some (.int .i64 u.m.x3))
   (first
    | with_reducible exact SO.out _ (.refl _ _)
    | with_reducible exact SO.out _ (Below.refl _ _).drew
    | with_reducible exact SO.out _ ((Below.refl _ _).drew.alloc (Nat.le_refl _) _)
    | with_reducible exact SO.out _ ((Below.refl _ _).alloc (Nat.le_refl _) _).drew
    | fail)
   (fail)
  all_goals
   go_wp2_with fail
   go_meet
   exact ⟨_, rfl, ⟨(rmons_two (m := t.m) (m' := u.m) (Bk.new_ w4 66 #[.int .i64 t.m.x0, .int .i64 t.m.x1, .int .i64 t.m.x2, .int .i64 t.m.x3, .int .i64 u.m.x0, .int .i64 u.m.x1, .int .i64 u.m.x2, .int .i64 u.m.x3])).up (Below.refl _ _).drew⟩, ⟨((Below.refl _ _).alloc (Nat.le_refl _) _).drew⟩⟩
 case rest =>
  obtain ⟨g10, rfl, HM, HB5⟩ := hcut
  have CA := Hd.mk (pair_Apart (some ⟨g10, 0, none⟩) 2 [t.m, u.m] 0 1 wc HM.out (by simp))
  have eap : apartD [t.m, u.m] (0, 1) = monCop t.m u.m := rfl
  rw [eap] at CA
  dsimp only [List.length_cons, List.length_nil] at CA
  have HT := Hd.mk hti.out
  have HU := Hd.mk hui.out
  clear SO hti hui eap
  cases hco : monCop t.m u.m
  case false =>
   rw [hco] at CA
   have CC := Hd.mk (fun W => rmon_Coprime t.m u.m W)
   rw [hco] at CC
   simp only [MonD.v] at CC
   go_wp2_with fail
   refine CA.out.mono ?_
   rintro e w6 ⟨rfl, hb⟩
   have HB6 := Hd.mk (goes HB5.out hb)
   have p3 := Wd.cell (cell_up p3 HB6.out)
   have p4 := Wd.cell (cell_up p4 HB6.out)
   have p5 := Wd.cell (cell_up p5 HB6.out)
   have p6 := Wd.cell (cell_up p6 HB6.out)
   have q3 := Wd.cell (cell_up q3 HB6.out)
   have q4 := Wd.cell (cell_up q4 HB6.out)
   have q5 := Wd.cell (cell_up q5 HB6.out)
   have q6 := Wd.cell (cell_up q6 HB6.out)
   clear hb hco
   go_upto_region 8 with (fail)
   refine wp_region_wd w6 (by kernel_rfl) (by kernel_rfl) (Below.refl _ _).drew ?_
   repeat (go_big_quiet_step ((go_at_call 29; exact Wd.call (CC.out _))))
   refine wd_nil fun nq => ?_
   go_wp2_with fail
   go_ret
   exact ⟨rfl, goes (goes HB4.out HB6.out) nq.lo⟩
  case true =>
   rw [hco] at CA
   have hal : ∃ Z, crossD o P Q = (0, Z) ∧ CP o Z ∧ ((splitD o Z [P, Q]).1 = 0 → (splitD o Z [P, Q]).2.2 = []) := by
    obtain ⟨p', ep⟩ := head_is HT.out
    obtain ⟨q', eq⟩ := head_is HU.out
    have h1 := HP.out
    have h2 := HQ.out
    rw [ep] at h1 ⊢
    rw [eq] at h2 ⊢
    exact apart_law h1 h2 hco
   obtain ⟨Z, z1, z2, z3⟩ := hal
   have SZ := Hd.mk (goodP_short z2.canon.good z2.len)
   have CC := Hd.mk (fun W (hB : Below w4.heap.size w4 W) => pair_Cross w.heap.size o (some ad) (some bd) c2 c3 P Q W (goes HB4.out hB).size (HP4.out.up hB) (HQ4.out.up hB) hc2 hc3 SP.out SQ.out)
   rw [z1] at CC
   dsimp only at CC
   have HZ3 := Hd.mk z3
   clear z1 z2 z3 hco p3 p4 p5 p6 q3 q4 q5 q6
   go_wp2_with fail
   refine CA.out.mono ?_
   rintro e w6 ⟨rfl, hb⟩
   have HB6 := Hd.mk (goes HB5.out hb)
   clear hb CA
   go_wp2_with fail
   refine (CC.out _ HB6.out).mono ?_
   rintro e w7 ⟨A7, c7, rfl, hc7, hr, hb⟩
   have HB7 := Hd.mk (goes HB6.out hb)
   have HR7 := Hd.mk hr
   clear hb hr CC
   have hbn : Below w7.heap.size w7 (w7.alloc (Obj.cells #[.slice (some ad) P.length c2, .slice (some bd) Q.length c3] 25)) := (Below.refl _ _).alloc (Nat.le_refl _) _
   have HB8 := Hd.mk (goes HB7.out hbn)
   have CR := Hd.mk (ref12_Rest w.heap.size o A7 (some ⟨w7.heap.size, 0, none⟩) c7 2 Z [P, Q] _ (goes HB4.out HB8.out).size (HR7.out.up hbn) hc7 SZ.out (rpols_bk2 (p := P) (q := Q) (Bk.new_ w7 25 #[.slice (some ad) P.length c2, .slice (some bd) Q.length c3]) (HP4.out.up HB8.out) (HQ4.out.up HB8.out) hc2 hc3) (Nat.le_refl _) ⟨by simp, fun z hz => by
         simp only [List.mem_cons, List.not_mem_nil, or_false] at hz
         rcases hz with rfl | rfl
         ·exact SP.out
         ·exact SQ.out⟩)
   obtain ⟨D, hD⟩ : ∃ D, splitD o Z [P, Q] = D := ⟨_, rfl⟩
   rw [hD] at CR HZ3
   dsimp only [List.length_cons, List.length_nil] at CR
   clear hD hbn
   go_wp2_with fail
   refine CR.out.mono ?_
   rintro e w9 ⟨R, rc, rfl, -, -, hb⟩
   have HB9 := Hd.mk (goes HB8.out hb)
   clear hb CR
   by_cases h0 : D.1 = 0
   ·have e3 : (D.1 != 0) = false := by rw [bne_eq_false_iff_eq]; exact h0
    have e4 : ((D.2.2.length : Int) == 0) = true := by rw [HZ3.out h0]; rfl
    clear h0
    go_wp2_with fail
    go_ret
    exact ⟨rfl, goes HB4.out HB9.out⟩
   ·have e3 : (D.1 != 0) = true := by rw [bne_iff_ne]; exact h0
    clear h0
    go_wp2_with fail
    go_ret
    exact ⟨rfl, goes HB4.out HB9.out⟩
end Go.Proofs.YtgjkgkgieeoalaaGreat
