/- Parts of the proof, joined: what each says stands at its head. -/
import Derived.Test.YtidjbiopneoeeaaGreatM34
import Derived.Test.YtidjbiopneoeeaaGreatM29
set_option linter.unusedVariables false
set_option linter.unusedSimpArgs false
/- The walk of the law PolyZero. The condition: the arguments read so. -/
namespace Go.Proofs.YtidjbiopneoeeaaGreat
open Go.RowKit

set_option maxHeartbeats 8000000 in
set_option maxRecDepth 100000 in
theorem law_PolyZero (a0 : Int) (A B : Option Addr) (c d : Nat) (ns : List Int) (ms : List (Int × Int × Int)) (w : World) (h0 : 0 ≤ a0) (h1 : a0 ≤ 255) (h : RSm w A c B d ns ms) :
    Calls Tryz.prog 11 #[.int .u8 a0, .agg #[.slice A ns.length c, .slice B ms.length d]] w fun e w' => e = .returned (.bool true) ∧ Below w.heap.size w w' := by
  have ho := oOk_mod h0
  obtain ⟨o, rO⟩ : ∃ o, a0 % 3 = o := ⟨_, rfl⟩
  rw [rO] at ho
  obtain ⟨P, hP, hl, CM⟩ := made_call ho h
  have hsh := hP.short
  have CMade := Hd.mk CM
  have SH := Hd.mk hsh
  have CA := Hd.mk (add_call' (b0 := w.heap.size) (ps := [P, [], []]) ⟨by simp, fun p hp => by
    simp only [List.mem_cons, List.not_mem_nil, or_false] at hp
    rcases hp with rfl | rfl | rfl
    · exact hsh
    · exact shortP_nil
    · exact shortP_nil⟩ (zero_add hP))
  have CM0 := Hd.mk (mul_call (b0 := w.heap.size) hsh shortP_nil (zero_mul hP))
  have C0 := Hd.mk (one_call (b0 := w.heap.size) (n := 0) (m := ⟨3, 0, 0, 0⟩) (by omega) (by omega))
  have C1 := Hd.mk (one_call (b0 := w.heap.size) (n := 1) (m := ⟨0, 0, 0, 0⟩) (by omega) (by omega))
  have CT0 := Hd.mk (times_call (b0 := w.heap.size) (s := ⟨ofD 0, ⟨3, 0, 0, 0⟩⟩) hsh (ofD_short 0 (by decide)) (zero_times hP ⟨3, 0, 0, 0⟩ (by decide)))
  have CT1 := Hd.mk (times_call (b0 := w.heap.size) (s := ⟨ofD 1, ⟨0, 0, 0, 0⟩⟩) hsh (ofD_short 1 (by decide)) (one_times hP))
  have CN := Hd.mk (add_call' (b0 := w.heap.size) (ps := []) ⟨by simp, fun p hp => by cases hp⟩ (zero_none ho))
  have CS := Hd.mk law_shown
  simp only [List.length_nil, List.length_cons, Nat.zero_add] at CA CM0 CT0 CN
  generalize ofD 0 = R0 at C0 CT0
  generalize ofD 1 = R1 at C1 CT1
  simp only [MonD.v] at C0 C1
  clear h hP CM hsh ho
  go_enter Tryz.func11, Tryz.ntmps11
  go_upto_region 1 with (fail)
  refine wp_gen (fun W => Bo1 w.heap.size w.heap.size w W 57 #[.slice A ns.length c, .slice B ms.length d]) (Bo1.mk1 w _ _) ?_
  intro W BX
  obtain ⟨q0, q1⟩ := BX.out.k1.two'
  go_wp2_with fail
  clear q0 q1
  refine (CMade.out _ BX.out.below).mono ?_
  rintro e w1 ⟨A1, c1, rfl, hc1, hr, hb⟩
  have BX1 := Hd.mk (BX.out.up hb)
  have HR1 := Hd.mk hr
  clear hb hr
  go_wp2_with fail
  refine (CA.out _ _ _ (BX1.out.al _).below.size (rpols_bk3 (p := P) (q := []) (r := []) (Bk.new_ _ _ _) (HR1.out.up (below1 _ _)) (RPol.nil _ _ _) (RPol.nil _ _ _) hc1 (Nat.zero_le _) (Nat.zero_le _)) (Nat.le_refl _)).mono ?_
  rintro e w2 ⟨A2, c2, rfl, hc2, hr, hb⟩
  have BX2 := Hd.mk ((BX1.out.al _).up hb)
  have HR2 := Hd.mk (HR1.out.up (goes (below1 _ _) hb))
  have HA2 := Hd.mk hr
  clear hb hr
  go_wp2_with fail
  refine (CM0.out _ _ _ _ _ BX2.out.below.size HR2.out hc1 (RPol.nil _ _ _) (Nat.le_refl _)).mono ?_
  rintro e w3 ⟨A3, c3, rfl, hc3, hr, hb⟩
  have BX3 := Hd.mk (BX2.out.up hb)
  have HR3 := Hd.mk (HR2.out.up hb)
  have HA3 := Hd.mk (HA2.out.up hb)
  clear hb hr
  go_wp2_with fail
  refine (C0.out _ BX3.out.below.size).mono ?_
  rintro e w4 ⟨v4, rfl, hr, hb⟩
  have BX4 := Hd.mk (BX3.out.up hb)
  have HR4 := Hd.mk (HR3.out.up hb)
  have HA4 := Hd.mk (HA3.out.up hb)
  have HV4 := Hd.mk hr
  clear hb hr
  go_wp2_with fail
  refine (CT0.out _ _ _ _ BX4.out.below.size HR4.out hc1 HV4.out).mono ?_
  rintro e w5 ⟨A5, c5, rfl, hc5, hr, hb⟩
  have BX5 := Hd.mk (BX4.out.up hb)
  have HR5 := Hd.mk (HR4.out.up hb)
  have HA5 := Hd.mk (HA4.out.up hb)
  clear hb hr
  go_wp2_with fail
  refine (C1.out _ BX5.out.below.size).mono ?_
  rintro e w6 ⟨v6, rfl, hr, hb⟩
  have BX6 := Hd.mk (BX5.out.up hb)
  have HR6 := Hd.mk (HR5.out.up hb)
  have HA6 := Hd.mk (HA5.out.up hb)
  have HV6 := Hd.mk hr
  clear hb hr
  go_wp2_with fail
  refine (CT1.out _ _ _ _ BX6.out.below.size HR6.out hc1 HV6.out).mono ?_
  rintro e w7 ⟨A7, c7, rfl, hc7, hr, hb⟩
  have BX7 := Hd.mk (BX6.out.up hb)
  have HR7 := Hd.mk (HR6.out.up hb)
  have HA7 := Hd.mk (HA6.out.up hb)
  have HD7 := Hd.mk hr
  clear hb hr
  go_wp2_with fail
  refine (CN.out _ _ _ BX7.out.below.size (RPols.nil _ _ _) (Nat.le_refl _)).mono ?_
  rintro e w8 ⟨A8, c8, rfl, hc8, hr, hb⟩
  have BX8 := Hd.mk (BX7.out.up hb)
  have HR8 := Hd.mk (HR7.out.up hb)
  have HA8 := Hd.mk (HA7.out.up hb)
  have HD8 := Hd.mk (HD7.out.up hb)
  clear hb hr
  go_wp2_with fail
  refine (same_call HA8.out hc2 SH.out HR8.out hc1).mono ?_
  rintro e w9 ⟨rfl, hb⟩
  have BX9 := Hd.mk (BX8.out.up hb)
  have HR9 := Hd.mk (HR8.out.up hb)
  have HD9 := Hd.mk (HD8.out.up hb)
  clear hb
  go_wp2_with fail
  refine (same_call HD9.out hc7 SH.out HR9.out hc1).mono ?_
  rintro e w10 ⟨rfl, hb⟩
  have BX10 := Hd.mk (BX9.out.up hb)
  clear hb
  go_wp2_with fail
  refine (CS.out _).mono ?_
  rintro e w11 ⟨rfl, hb⟩
  have BX11 := Hd.mk (BX10.out.up hb)
  clear hb
  go_wp2_with fail
  go_ret
  exact ⟨by simp, BX11.out.below⟩
end Go.Proofs.YtidjbiopneoeeaaGreat
/- The walk of the law PolyMonic. The condition: the arguments read so. -/
namespace Go.Proofs.YtidjbiopneoeeaaGreat
open Go.RowKit

theorem rsame_call {b0 : Nat} {W : World} {v u : Value} {r : RatD} (h : RRat W b0 v r) (h' : RRat W b0 u r) (hs : r.short) :
    Calls Tryz.prog 43 #[v, u] W fun e w' => e = .returned (.bool true) ∧ Below W.heap.size W w' := by
  have := rrat_Same b0 v u r r W h h' hs hs
  rwa [sameR_iff.2 rfl] at this
theorem of_call {b0 : Nat} {n : Int} (h0 : -1000 ≤ n) (h1 : n ≤ 1000) : ∀ W : World, b0 ≤ W.heap.size → Calls Tryz.prog 44 #[.int .i64 n] W fun e w' => ∃ v, e = .returned v ∧ RRat w' b0 v (ofD n) ∧ Below W.heap.size W w' := fun W hB =>
  rrat_Of b0 n W hB (by omega) (by omega)
theorem polMonic_nil {o : Int} (ho : oOk o) : polMonic o [] = (0, []) := by
  unfold polMonic
  rw [Pol.may (M := 0) ⟨.nil, canon_nil ho, by simp⟩]; rfl

set_option maxHeartbeats 8000000 in
set_option maxRecDepth 100000 in
theorem law_PolyMonic (a0 : Int) (A B : Option Addr) (c d : Nat) (ns : List Int) (ms : List (Int × Int × Int)) (w : World) (h0 : 0 ≤ a0) (h1 : a0 ≤ 255) (h : RSm w A c B d ns ms) :
    Calls Tryz.prog 12 #[.int .u8 a0, .agg #[.slice A ns.length c, .slice B ms.length d]] w fun e w' => e = .returned (.bool true) ∧ Below w.heap.size w w' := by
  have ho := oOk_mod h0
  obtain ⟨o, rO⟩ : ∃ o, a0 % 3 = o := ⟨_, rfl⟩
  rw [rO] at ho
  obtain ⟨P, hP, hl, CM⟩ := made_call ho h
  have hsh := hP.short
  have CMade := Hd.mk CM
  have SH := Hd.mk hsh
  have CS := Hd.mk law_shown
  clear h CM
  cases P with
  | nil =>
    have CN := Hd.mk (monic_call (b0 := w.heap.size) hsh (polMonic_nil ho))
    simp only [List.length_nil] at CMade CN
    clear hP hsh ho
    go_enter Tryz.func12, Tryz.ntmps12
    go_upto_region 1 with (fail)
    refine wp_gen (fun W => Bo1 w.heap.size w.heap.size w W 57 #[.slice A ns.length c, .slice B ms.length d]) (Bo1.mk1 w _ _) ?_
    intro W BX
    obtain ⟨q0, q1⟩ := BX.out.k1.two'
    go_wp2_with fail
    clear q0 q1
    refine (CMade.out _ BX.out.below).mono ?_
    rintro e w1 ⟨A1, c1, rfl, hc1, hr, hb⟩
    have BX1 := Hd.mk (BX.out.up hb)
    have HR1 := Hd.mk hr
    clear hb hr
    go_wp2_with fail
    refine (CN.out _ _ _ BX1.out.below.size HR1.out hc1).mono ?_
    rintro e w2 ⟨A2, c2, rfl, hc2, hr, hb⟩
    have BX2 := Hd.mk (BX1.out.up hb)
    clear hb hr
    go_wp2_with fail
    refine (CS.out _).mono ?_
    rintro e w3 ⟨rfl, hb⟩
    have BX3 := Hd.mk (BX2.out.up hb)
    clear hb
    go_wp2_with fail
    go_ret
    exact ⟨rfl, BX3.out.below⟩
  | cons t p =>
    obtain ⟨u, m, hlm, hM⟩ := monic_law hP
    obtain ⟨N, hN⟩ : ∃ N, N = t :: p := ⟨_, rfl⟩
    obtain ⟨M, hMe⟩ : ∃ M, M = u :: m := ⟨_, rfl⟩
    have H0 : Hd (N[0]? = some t) := ⟨by rw [hN]; rfl⟩
    have H1 : Hd (M[0]? = some u) := ⟨by rw [hMe]; rfl⟩
    have hN0 : 0 < N.length := by rw [hN]; simp
    have hM0 : 0 < M.length := by rw [hMe]; simp
    have hml : M.length = N.length := by rw [hN, hMe, List.length_cons, List.length_cons, hlm]
    rw [← hN] at SH hM hsh hl CMade
    rw [← hMe] at hM
    have shM : shortP M := by have := polMonic_short (o := o) hsh; rwa [hM.monic] at this
    have shT : t.c.short := hsh.2 t (by rw [hN]; simp)
    have hu : u.c = ofD 1 := hM.first
    have SHM := Hd.mk shM
    have CN := Hd.mk (monic_call (b0 := w.heap.size) hsh hM.monic)
    have CB := Hd.mk (times_call (b0 := w.heap.size) (s := ⟨t.c, zeroM⟩) shM shT hM.back)
    have CG := Hd.mk (monic_call (b0 := w.heap.size) shM hM.again)
    have CO := Hd.mk (of_call (b0 := w.heap.size) (n := 1) (by omega) (by omega))
    have HSR := Hd.mk (ofD_short 1 (by decide))
    obtain ⟨R, hR⟩ : ∃ R, ofD 1 = R := ⟨_, rfl⟩
    rw [hR] at CO HSR hu
    obtain ⟨R', um⟩ := u
    dsimp only at hu
    subst hu
    have HM0 := Hd.mk hM0
    rw [hml] at hM0 CB CG CN
    have z1 : ((N.length : Int) == 0) = false := by rw [beq_eq_false_iff_ne]; omega
    have z2 : (0 : Int) < N.length := by omega
    have z3 : ((N.length : Int) != N.length) = false := by simp
    have HML := Hd.mk hml
    clear hN hMe hM hsh hP shM shT hR hlm ho hml hM0
    go_enter Tryz.func12, Tryz.ntmps12
    go_upto_region 1 with (fail)
    refine wp_gen (fun W => Bo1 w.heap.size w.heap.size w W 57 #[.slice A ns.length c, .slice B ms.length d]) (Bo1.mk1 w _ _) ?_
    intro W BX
    obtain ⟨q0, q1⟩ := BX.out.k1.two'
    go_wp2_with fail
    clear q0 q1
    refine (CMade.out _ BX.out.below).mono ?_
    rintro e w1 ⟨A1, c1, rfl, hc1, hr, hb⟩
    have BX1 := Hd.mk (BX.out.up hb)
    have HR1 := Hd.mk hr
    clear hb hr
    go_wp2_with fail
    refine (CN.out _ _ _ BX1.out.below.size HR1.out hc1).mono ?_
    rintro e w2 ⟨A2, c2, rfl, hc2, hr, hb⟩
    have BX2 := Hd.mk (BX1.out.up hb)
    have HR2 := Hd.mk (HR1.out.up hb)
    have HM2 := Hd.mk hr
    clear hb hr
    go_wp2_with fail
    refine (CS.out _).mono ?_
    rintro e w3 ⟨rfl, hb⟩
    have BX3 := Hd.mk (BX2.out.up hb)
    have HR3 := Hd.mk (HR2.out.up hb)
    have HM3 := Hd.mk (HM2.out.up hb)
    clear hb
    obtain ⟨ad, B1, d1, B2, d2, t', hA1, hab, hti, hrt, q0, q1, q2, q3, q4, q5, q6⟩ := HR3.out.get hN0
    have ht' : t' = t := by have := hti.out; rw [H0.out] at this; injection this with this; exact this.symm
    subst ht'
    have ea : ad.add (0 * 7) = ad := by unfold Addr.add; simp
    rw [ea] at q0 q1 q2
    subst hA1
    clear ea H0 hti q3 q4 q5 q6
    go_wp2_with fail
    clear q0 q1 q2
    have CB1 := Hd.mk (CB.out _ A2 c2 _ BX3.out.below.size HM3.out hc2 (rterm_of hrt.out.rat zeroM))
    simp only [zeroM] at CB1
    refine CB1.out.mono ?_
    rintro e w4 ⟨A4, c4, rfl, hc4, hr, hb⟩
    have BX4 := Hd.mk (BX3.out.up hb)
    have HR4 := Hd.mk (HR3.out.up hb)
    have HM4 := Hd.mk (HM3.out.up hb)
    have HQ4 := Hd.mk hr
    clear hb hr CB1
    go_wp2_with fail
    refine (CG.out _ _ _ BX4.out.below.size HM4.out hc2).mono ?_
    rintro e w5 ⟨A5, c5, rfl, hc5, hr, hb⟩
    have BX5 := Hd.mk (BX4.out.up hb)
    have HR5 := Hd.mk (HR4.out.up hb)
    have HM5 := Hd.mk (HM4.out.up hb)
    have HQ5 := Hd.mk (HQ4.out.up hb)
    have HG5 := Hd.mk hr
    clear hb hr
    obtain ⟨md, B3, d3, B4, d4, u', hA2, hmb, huj, hrm, r0, r1, r2, r3, r4, r5, r6⟩ := HM5.out.get HM0.out
    have hu' : u' = ⟨R', um⟩ := by have := huj.out; rw [H1.out] at this; injection this with this; exact this.symm
    subst hu'
    have ea : md.add (0 * 7) = md := by unfold Addr.add; simp
    rw [ea] at r0 r1 r2
    subst hA2
    have HRM := Hd.mk hrm.out.rat
    have CS1 := Hd.mk (fun W (h1 : RPol W w.heap.size (some ad) N) (h2 : RPol W w.heap.size A4 N) => same_call h1 hc1 SH.out h2 hc4)
    have CS2 := Hd.mk (fun W (h1 : RPol W w.heap.size A5 M) (h2 : RPol W w.heap.size (some md) M) => same_call (c := c5) (d := c2) h1 (by rw [HML.out]; exact hc5) SHM.out h2 (by rw [HML.out]; exact hc2))
    rw [HML.out] at CS2
    clear ea H1 huj hrm r3 r4 r5 r6
    have SO := Hd.mk (fun W (hB : Below w5.heap.size w5 W) => And.intro (Hd.mk hB) (And.intro (cell_up r0 hB) (And.intro (cell_up r1 hB) (cell_up r2 hB))))
    go_wp2_with fail
    go_region_held3 (fun w' => Hd (Below w5.heap.size w5 w') ∧ w'.cell? md = some (.bool R'.neg) ∧ w'.cell? ⟨md.block, md.off + 1, none⟩ = some (.slice B3 R'.num.length d3) ∧ w'.cell? ⟨md.block, md.off + 2, none⟩ = some (.slice B4 R'.den.length d4))
      (first
        | with_reducible exact SO.out _ (Below.refl _ _)
        | with_reducible exact SO.out _ (Below.refl _ _).drew
        | with_reducible exact SO.out _ hB9
        | with_reducible exact SO.out _ hB8
        | with_reducible exact SO.out _ hB7
        | with_reducible exact SO.out _ hB6)
      (first
        | (go_at_call 44; with_reducible refine (CO.out w5.drew BX5.out.d1.below.size).mono ?_; rintro e w6 ⟨v6, rfl, hv, hb⟩
           have hB6 : Below w5.heap.size w5 w6 := (Below.refl w5.heap.size w5).drew.trans hb
           have HV6 := Hd.mk hv)
        | (go_at_call 43; with_reducible refine (rsame_call (HRM.out.up hB6) HV6.out HSR.out).mono ?_; rintro e w7 ⟨rfl, hb⟩
           have hB7 : Below w5.heap.size w5 w7 := goes hB6 hb)
        | (go_at_call 31; with_reducible refine (CS1.out w7 (HR5.out.up hB7) (HQ5.out.up hB7)).mono ?_; rintro e w8 ⟨rfl, hb⟩
           have hB8 : Below w5.heap.size w5 w8 := goes hB7 hb)
        | (go_at_call 31; with_reducible refine (CS2.out w8 (HG5.out.up hB8) (HM5.out.up hB8)).mono ?_; rintro e w9 ⟨rfl, hb⟩
           have hB9 : Below w5.heap.size w5 w9 := goes hB8 hb))
    all_goals
      have HB9 := Hd.mk (goes BX5.out.below hB9)
      go_wp2_with fail
      go_ret
      exact ⟨by simp, HB9.out⟩
end Go.Proofs.YtidjbiopneoeeaaGreat
