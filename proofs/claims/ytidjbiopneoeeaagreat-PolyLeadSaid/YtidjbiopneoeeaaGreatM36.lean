/- Parts of the proof, joined: what each says stands at its head. -/
import Derived.Test.YtidjbiopneoeeaaGreatM34
import Derived.Test.YtidjbiopneoeeaaGreatM29
set_option linter.unusedVariables false
set_option linter.unusedSimpArgs false
/- The walk of the law PolyLead. The condition: the arguments read so. -/
namespace Go.Proofs.YtidjbiopneoeeaaGreat
open Go.RowKit

structure Lp (g : Nat) (w0 w : World) (m : MonD) : Prop where
  below : Below w0.heap.size w0 w
  g0 : w0.heap.size ≤ g
  k : Bk w g 65 m.v
section
variable {g i : Nat} {w0 w : World} {m z : MonD} {s : Int}
theorem Lp.dn (h : Lp g w0 w m) (n : Nat) : Lp g w0 (w.drewN n) m := ⟨Below.dn h.below n, h.g0, h.k.dn n⟩
theorem Lp.set (h : Lp g w0 w (part z i)) (hi : i < 4) (hs : z.l.getD i 0 = s) : Lp g w0 (w.setCell ⟨g, i, none⟩ (.int .i64 s)) (part z (i + 1)) :=
  ⟨h.below.setCell h.g0 _, h.g0, part_set hi h.k hs⟩
end
theorem term_cell {w : World} {b0 i : Nat} {ad : Addr} {ts : List TermD} {t : TermD} (h : RPol w b0 (some ad) ts) (h0 : ts[0]? = some t) (hi : i < 4) : ∃ x, Hd (t.m.l.getD i 0 = x) ∧ w.cell? ⟨ad.block, ad.off + 3 + i, none⟩ = some (.int .i64 x) := by
  have hl : 0 < ts.length := by
    rcases Nat.eq_zero_or_pos ts.length with e | e
    · rw [List.getElem?_eq_none (by omega)] at h0; cases h0
    · exact e
  obtain ⟨ad', B1, d1, B2, d2, t', hA, hab, hti, hrt, q0, q1, q2, q3, q4, q5, q6⟩ := h.get hl
  injection hA with hA
  subst hA
  have ht' : t' = t := by have := hti.out; rw [h0] at this; injection this with this; exact this.symm
  subst ht'
  have ea : ad.add (0 * 7) = ad := by unfold Addr.add; simp
  rw [ea] at q3 q4 q5 q6
  rcases (show i = 0 ∨ i = 1 ∨ i = 2 ∨ i = 3 by omega) with rfl | rfl | rfl | rfl
  · exact ⟨_, ⟨rfl⟩, q3⟩
  · exact ⟨_, ⟨rfl⟩, q4⟩
  · exact ⟨_, ⟨rfl⟩, q5⟩
  · exact ⟨_, ⟨rfl⟩, q6⟩
theorem rpol_some {w : World} {b0 : Nat} {A : Option Addr} {ts : List TermD} (h : RPol w b0 A ts) (hl : 0 < ts.length) : ∃ ad : Addr, A = some ad ∧ ad.block < w.heap.size := by
  obtain ⟨ad, B1, d1, B2, d2, t', hA, hab, _⟩ := h.get hl
  exact ⟨ad, hA, hab⟩

set_option maxHeartbeats 8000000 in
set_option maxRecDepth 100000 in
theorem law_PolyLead (a0 : Int) (A B A' B' : Option Addr) (c d c' d' : Nat) (ns ns' : List Int) (ms ms' : List (Int × Int × Int)) (w : World) (h0 : 0 ≤ a0) (h1 : a0 ≤ 255) (h : RSm w A c B d ns ms) (h' : RSm w A' c' B' d' ns' ms') :
    Calls Tryz.prog 10 #[.int .u8 a0, .agg #[.slice A ns.length c, .slice B ms.length d, .slice A' ns'.length c', .slice B' ms'.length d']] w fun e w' => e = .returned (.bool true) ∧ Below w.heap.size w w' := by
  have ho := oOk_mod h0
  obtain ⟨o, rO⟩ : ∃ o, a0 % 3 = o := ⟨_, rfl⟩
  rw [rO] at ho
  obtain ⟨P, hP, hl, CM⟩ := made_call ho h
  obtain ⟨Q, hQ, hl', CM'⟩ := made_call ho h'
  have hsh := hP.short
  have hsh' := hQ.short
  have CP := Hd.mk CM
  have CQ := Hd.mk CM'
  have CS := Hd.mk law_shown
  obtain ⟨E, X, hEX⟩ : ∃ E X, polMul o P Q = (E, X) := ⟨_, _, rfl⟩
  have CX := Hd.mk (mul_call (b0 := w.heap.size) hsh hsh' hEX)
  have hE : E = 0 ∨ E = 90 := by have := (ring_mul hP hQ).2; rwa [hEX] at this
  clear h h' CM CM' ho
  rcases hE with rfl | rfl
  · by_cases hp : P.length = 0 ∨ Q.length = 0
    · have hX : X = [] := by
        have := lead_nil hP hQ (hp.imp List.eq_nil_of_length_eq_zero List.eq_nil_of_length_eq_zero)
        rw [hEX] at this
        injection this
      subst hX
      simp only [List.length_nil] at CX
      clear hP hQ hsh hsh' hEX
      by_cases hp0 : P.length = 0
      · have z1 : ((P.length : Int) == 0) = true := by rw [beq_iff_eq]; omega
        clear hp hp0
        go_enter Tryz.func10, Tryz.ntmps10
        go_upto_region 1 with (fail)
        refine wp_gen (fun W => Bo1 w.heap.size w.heap.size w W 83 #[.slice A ns.length c, .slice B ms.length d, .slice A' ns'.length c', .slice B' ms'.length d']) (Bo1.mk1 w _ _) ?_
        intro W BX
        obtain ⟨q0, q1, q2, q3⟩ := BX.out.k1.four
        go_wp2_with fail
        clear q0 q1 q2 q3
        refine (CP.out _ BX.out.below).mono ?_
        rintro e w1 ⟨A1, c1, rfl, hc1, hr, hb⟩
        have BX1 := Hd.mk (BX.out.up hb)
        have HP1 := Hd.mk hr
        clear hb hr
        obtain ⟨q0, q1, q2, q3⟩ := BX1.out.k1.four
        go_wp2_with fail
        clear q0 q1 q2 q3
        refine (CQ.out _ BX1.out.below).mono ?_
        rintro e w2 ⟨A2, c2, rfl, hc2, hr, hb⟩
        have BX2 := Hd.mk (BX1.out.up hb)
        have HP2 := Hd.mk (HP1.out.up hb)
        have HQ2 := Hd.mk hr
        clear hb hr
        go_wp2_with fail
        refine (CX.out _ _ _ _ _ BX2.out.below.size HP2.out hc1 HQ2.out hc2).mono ?_
        rintro e w3 ⟨A3, c3, rfl, hc3, hr, hb⟩
        have BX3 := Hd.mk (BX2.out.up hb)
        clear hb hr
        go_wp2_with fail
        refine (CS.out _).mono ?_
        rintro e w4 ⟨rfl, hb⟩
        have BX4 := Hd.mk (BX3.out.up hb)
        clear hb
        go_wp2_with fail
        go_ret
        exact ⟨rfl, BX4.out.below⟩
      · have z1 : ((P.length : Int) == 0) = false := by rw [beq_eq_false_iff_ne]; omega
        have z2 : ((Q.length : Int) == 0) = true := by rw [beq_iff_eq]; omega
        clear hp hp0
        go_enter Tryz.func10, Tryz.ntmps10
        go_upto_region 1 with (fail)
        refine wp_gen (fun W => Bo1 w.heap.size w.heap.size w W 83 #[.slice A ns.length c, .slice B ms.length d, .slice A' ns'.length c', .slice B' ms'.length d']) (Bo1.mk1 w _ _) ?_
        intro W BX
        obtain ⟨q0, q1, q2, q3⟩ := BX.out.k1.four
        go_wp2_with fail
        clear q0 q1 q2 q3
        refine (CP.out _ BX.out.below).mono ?_
        rintro e w1 ⟨A1, c1, rfl, hc1, hr, hb⟩
        have BX1 := Hd.mk (BX.out.up hb)
        have HP1 := Hd.mk hr
        clear hb hr
        obtain ⟨q0, q1, q2, q3⟩ := BX1.out.k1.four
        go_wp2_with fail
        clear q0 q1 q2 q3
        refine (CQ.out _ BX1.out.below).mono ?_
        rintro e w2 ⟨A2, c2, rfl, hc2, hr, hb⟩
        have BX2 := Hd.mk (BX1.out.up hb)
        have HP2 := Hd.mk (HP1.out.up hb)
        have HQ2 := Hd.mk hr
        clear hb hr
        go_wp2_with fail
        refine (CX.out _ _ _ _ _ BX2.out.below.size HP2.out hc1 HQ2.out hc2).mono ?_
        rintro e w3 ⟨A3, c3, rfl, hc3, hr, hb⟩
        have BX3 := Hd.mk (BX2.out.up hb)
        clear hb hr
        go_wp2_with fail
        refine (CS.out _).mono ?_
        rintro e w4 ⟨rfl, hb⟩
        have BX4 := Hd.mk (BX3.out.up hb)
        clear hb
        go_wp2_with fail
        go_ret
        exact ⟨rfl, BX4.out.below⟩
    · have hp0 : 0 < P.length := by omega
      have hq0 : 0 < Q.length := by omega
      have z1 : ((P.length : Int) == 0) = false := by rw [beq_eq_false_iff_ne]; omega
      have z2 : ((Q.length : Int) == 0) = false := by rw [beq_eq_false_iff_ne]; omega
      have z3 : (0 : Int) < P.length := by omega
      have z4 : (0 : Int) < Q.length := by omega
      obtain ⟨t, u, z, H0, H1, HX, HM, HAB, HX0⟩ : ∃ t u z, Hd (P[0]? = some t) ∧ Hd (Q[0]? = some u) ∧ Hd (∃ s, X[0]? = some s ∧ s.m = z) ∧ Hd (monMay t.m = true ∧ monMay u.m = true) ∧ Hd (∀ {i : Nat} {x y : Int}, i < 4 → t.m.l.getD i 0 = x → u.m.l.getD i 0 = y → z.l.getD i 0 = x + y) ∧ 0 < X.length := by
        cases P with
        | nil => exact absurd hp0 (by simp)
        | cons t p =>
          cases Q with
          | nil => exact absurd hq0 (by simp)
          | cons u q =>
            obtain ⟨s, r, e1, e2⟩ := lead hP hQ (by rw [hEX])
            rw [hEX] at e1
            simp only at e1
            subst e1
            exact ⟨t, u, addM t.m u.m, ⟨rfl⟩, ⟨rfl⟩, ⟨s, rfl, e2⟩, ⟨hP.pol.canon.sta.good t (by simp), hQ.pol.canon.sta.good u (by simp)⟩, ⟨fun hi hx hy => addM_at hi hx hy⟩, by simp⟩
      obtain ⟨s, HXs⟩ : ∃ s, Hd (X[0]? = some s ∧ s.m = z) := ⟨_, ⟨HX.out.choose_spec⟩⟩
      have z5 : (0 : Int) < X.length := by omega
      clear hP hQ hsh hsh' hEX hp HX
      go_enter Tryz.func10, Tryz.ntmps10
      go_upto_region 1 with (fail)
      refine wp_gen (fun W => Bo1 w.heap.size w.heap.size w W 83 #[.slice A ns.length c, .slice B ms.length d, .slice A' ns'.length c', .slice B' ms'.length d']) (Bo1.mk1 w _ _) ?_
      intro W BX
      obtain ⟨q0, q1, q2, q3⟩ := BX.out.k1.four
      go_wp2_with fail
      clear q0 q1 q2 q3
      refine (CP.out _ BX.out.below).mono ?_
      rintro e w1 ⟨A1, c1, rfl, hc1, hr, hb⟩
      have BX1 := Hd.mk (BX.out.up hb)
      have HP1 := Hd.mk hr
      clear hb hr
      obtain ⟨q0, q1, q2, q3⟩ := BX1.out.k1.four
      go_wp2_with fail
      clear q0 q1 q2 q3
      refine (CQ.out _ BX1.out.below).mono ?_
      rintro e w2 ⟨A2, c2, rfl, hc2, hr, hb⟩
      have BX2 := Hd.mk (BX1.out.up hb)
      have HP2 := Hd.mk (HP1.out.up hb)
      have HQ2 := Hd.mk hr
      clear hb hr
      go_wp2_with fail
      refine (CX.out _ _ _ _ _ BX2.out.below.size HP2.out hc1 HQ2.out hc2).mono ?_
      rintro e w3 ⟨A3, c3, rfl, hc3, hr, hb⟩
      have BX3 := Hd.mk (BX2.out.up hb)
      have HP3 := Hd.mk (HP2.out.up hb)
      have HQ3 := Hd.mk (HQ2.out.up hb)
      have HX3 := Hd.mk hr
      clear hb hr
      go_wp2_with fail
      refine (CS.out _).mono ?_
      rintro e w4 ⟨rfl, hb⟩
      have BX4 := Hd.mk (BX3.out.up hb)
      have HP4 := Hd.mk (HP3.out.up hb)
      have HQ4 := Hd.mk (HQ3.out.up hb)
      have HX4 := Hd.mk (HX3.out.up hb)
      clear hb HP1 HP2 HP3 HQ2 HQ3 HX3 BX BX1 BX2 BX3 CP CQ CS CX
      obtain ⟨pa, rfl, hpa⟩ := rpol_some HP4.out hp0
      obtain ⟨qa, rfl, hqa⟩ := rpol_some HQ4.out hq0
      obtain ⟨xa, rfl, hxa⟩ := rpol_some HX4.out HX0
      go_upto_region 10 with (fail)
      refine wp_gen (fun W => Lp w4.heap.size w4 W (part z 0)) ⟨(Below.refl _ _).alloc (Nat.le_refl _) _, Nat.le_refl _, Bk.new_ _ _ _⟩ ?_
      intro W5 LP
      have HPA := Hd.mk (show pa.block ≠ w4.heap.size by omega)
      have HQA := Hd.mk (show qa.block ≠ w4.heap.size by omega)
      have HXA := Hd.mk (show xa.block ≠ w4.heap.size by omega)
      clear hpa hqa hxa
      generalize hg : w4.heap.size = g at LP HPA HQA HXA ⊢
      have HG := Hd.mk hg
      clear hg
      go_wp2_with fail
      go_loopw [11] (fun v wr => ∃ i : Nat, v = .int .i64 i ∧ i ≤ 4 ∧ Hd (Lp g w4 wr (part z i))) (fun v _ => 4 - (intOf v).toNat)
      case atStart => exact ⟨0, rfl, by omega, LP⟩
      case round =>
        clear LP
        obtain ⟨i, rfl, hi, LP⟩ := hrel
        by_cases hlt : i < 4
        · obtain ⟨x, HXx, hcx⟩ := term_cell (HP4.out.up LP.out.below) H0.out hlt
          obtain ⟨y, HYy, hcy⟩ := term_cell (HQ4.out.up LP.out.below) H1.out hlt
          obtain ⟨x0, x1⟩ := mon_rng HM.out.1 hlt HXx.out
          obtain ⟨y0, y1⟩ := mon_rng HM.out.2 hlt HYy.out
          have HZ := Hd.mk (HAB.out hlt HXx.out HYy.out)
          have hw : IntKind.i64.wrap (x + y) = x + y := by rw [IntKind.wrap_i64]; omega
          have fz := LP.out.k.froz i
          obtain ⟨u1, HU, hcu⟩ := cellM LP.out.k hlt
          have HN1 := HPA.out
          have HN2 := HQA.out
          have HLP := Hd.mk (fun n => (LP.out.dn n).set hlt HZ.out)
          have i1 : (i : Int) < 4 := by omega
          have i3 : (0 : Int) ≤ i := by omega
          go_wp2_with fail
          go_region_held3 (fun w' => Hd (Below w4.heap.size w4 w') ∧ w'.cell? ⟨pa.block, pa.off + 3 + i, none⟩ = some (.int .i64 x) ∧ w'.cell? ⟨qa.block, qa.off + 3 + i, none⟩ = some (.int .i64 y))
            (first
              | exact ⟨⟨LP.out.below⟩, hcx, hcy⟩
              | exact ⟨⟨(LP.out.dn 1).below⟩, hcx, hcy⟩
              | exact ⟨⟨(LP.out.dn 1).below.setCell LP.out.g0 _⟩, (far1 rfl HN1.symm).trans hcx, (far1 rfl HN2.symm).trans hcy⟩)
            (fail)
          all_goals
            go_wp2_with fail
            go_roundw
            case measure => first | (simp [intOf]; done) | (simp [intOf]; omega)
            case rel => exact ⟨_, by go_num, by omega, ⟨HLP.out 1⟩⟩
        · obtain rfl : i = 4 := by omega
          have LP : Hd (Lp g w4 wr z) := LP
          obtain ⟨r0, r1, r2, r3⟩ := LP.out.k.four
          have HB4 := Hd.mk (BX4.out.up LP.out.below)
          obtain ⟨s0, S0, p0⟩ := term_cell (i := 0) (HX4.out.up LP.out.below) HXs.out.1 (by omega)
          obtain ⟨s1, S1, p1⟩ := term_cell (i := 1) (HX4.out.up LP.out.below) HXs.out.1 (by omega)
          obtain ⟨s2, S2, p2⟩ := term_cell (i := 2) (HX4.out.up LP.out.below) HXs.out.1 (by omega)
          obtain ⟨s3, S3, p3⟩ := term_cell (i := 3) (HX4.out.up LP.out.below) HXs.out.1 (by omega)
          obtain rfl : s0 = z.x0 := by rw [← S0.out, HXs.out.2]; rfl
          obtain rfl : s1 = z.x1 := by rw [← S1.out, HXs.out.2]; rfl
          obtain rfl : s2 = z.x2 := by rw [← S2.out, HXs.out.2]; rfl
          obtain rfl : s3 = z.x3 := by rw [← S3.out, HXs.out.2]; rfl
          have eqm := fun W => eq_mono z z W
          simp only [decide_true] at eqm
          clear S0 S1 S2 S3
          go_wp2_with fail
          go_quiet (fail)
          go_wp2_with fail
          go_ret
          exact ⟨by simp, Below.dn HB4.out.below _⟩
  · clear hP hQ hsh hsh' hEX
    go_enter Tryz.func10, Tryz.ntmps10
    go_upto_region 1 with (fail)
    refine wp_gen (fun W => Bo1 w.heap.size w.heap.size w W 83 #[.slice A ns.length c, .slice B ms.length d, .slice A' ns'.length c', .slice B' ms'.length d']) (Bo1.mk1 w _ _) ?_
    intro W BX
    obtain ⟨q0, q1, q2, q3⟩ := BX.out.k1.four
    go_wp2_with fail
    clear q0 q1 q2 q3
    refine (CP.out _ BX.out.below).mono ?_
    rintro e w1 ⟨A1, c1, rfl, hc1, hr, hb⟩
    have BX1 := Hd.mk (BX.out.up hb)
    have HP1 := Hd.mk hr
    clear hb hr
    obtain ⟨q0, q1, q2, q3⟩ := BX1.out.k1.four
    go_wp2_with fail
    clear q0 q1 q2 q3
    refine (CQ.out _ BX1.out.below).mono ?_
    rintro e w2 ⟨A2, c2, rfl, hc2, hr, hb⟩
    have BX2 := Hd.mk (BX1.out.up hb)
    have HP2 := Hd.mk (HP1.out.up hb)
    have HQ2 := Hd.mk hr
    clear hb hr
    go_wp2_with fail
    refine (CX.out _ _ _ _ _ BX2.out.below.size HP2.out hc1 HQ2.out hc2).mono ?_
    rintro e w3 ⟨A3, c3, rfl, hc3, hr, hb⟩
    have BX3 := Hd.mk (BX2.out.up hb)
    clear hb hr
    go_wp2_with fail
    refine (CS.out _).mono ?_
    rintro e w4 ⟨rfl, hb⟩
    have BX4 := Hd.mk (BX3.out.up hb)
    clear hb
    go_wp2_with fail
    refine (CS.out _).mono ?_
    rintro e w5 ⟨rfl, hb⟩
    have BX5 := Hd.mk (BX4.out.up hb)
    clear hb
    go_wp2_with fail
    go_ret
    exact ⟨rfl, BX5.out.below⟩
end Go.Proofs.YtidjbiopneoeeaaGreat
