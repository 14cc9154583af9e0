/- Parts of the proof, joined: each theorem says what it shows. -/
import Derived.Test.YtgjkgkgieeoalaaGreatE01
import Derived.Test.YtgjkgkgieeoalaaGreatE33
import Derived.Test.YtgjkgkgieeoalaaGreatE35
set_option linter.unusedVariables false
set_option linter.unusedSimpArgs false
set_option maxHeartbeats 24000000
set_option maxRecDepth 100000
namespace Go.Proofs.YtgjkgkgieeoalaaGreat
open Go.RowKit
structure In14 (g2 ga : Nat) (w0 w : World) (c2 : Array Value) (P Q : List TermD) : Prop where
 below : Below w0.heap.size w0 w
 k2 : Bk w g2 91 c2
 row : RPols w w0.heap.size (some ⟨ga, 0, none⟩) [P, Q]
theorem In14.up {g2 ga : Nat} {w0 w w' : World} {c2 : Array Value} {P Q : List TermD} (h : In14 g2 ga w0 w c2 P Q) (hb : Below w.heap.size w w') : In14 g2 ga w0 w' c2 P Q := ⟨goes h.below hb, h.k2.up hb, h.row.up hb⟩
theorem Bk.four' {w : World} {g : Nat} {t : TypeId} {v0 v1 v2 v3 : Value} (h : Bk w g t #[v0, v1, v2, v3]) : w.cell? ⟨g, 0, none⟩ = some v0 ∧ w.cell? ⟨g, 1, none⟩ = some v1 ∧ w.cell? ⟨g, 2, none⟩ = some v2 ∧ w.cell? ⟨g, 3, none⟩ = some v3 := by
 refine ⟨?_, ?_, ?_, ?_⟩ <;> (rw [h.cell]; rfl)
theorem law_ReduceIn (a0 : Int) (SA SB SC SD SE SF SG SH : Option Addr) (sa sb sc sd se sf sg sh : Nat) (ns ns' ns'' ns3 : List Int) (ms ms' ms'' ms3 : List (Int × Int × Int)) (w : World) (h0 : 0 ≤ a0) (h1 : a0 ≤ 255) (h : RSm w SA sa SB sb ns ms) (h' : RSm w SC sc SD sd ns' ms') (h'' : RSm w SE se SF sf ns'' ms'') (h3 : RSm w SG sg SH sh ns3 ms3) :
    Calls Tryz.prog 10 #[.int .u8 a0, .agg #[.slice SA ns.length sa, .slice SB ms.length sb, .slice SC ns'.length sc, .slice SD ms'.length sd], .agg #[.slice SE ns''.length se, .slice SF ms''.length sf, .slice SG ns3.length sg, .slice SH ms3.length sh]] w fun e w' => e = .returned (.bool true) ∧ Below w.heap.size w w' := by
 have ho := oOk_mod3 h0
 obtain ⟨o, rO⟩ : ∃ o, a0 % 3 = o := ⟨_, rfl⟩
 rw [rO] at ho
 obtain ⟨P, hP, CM⟩ := made14_call ho h
 obtain ⟨Q, hQ, CM'⟩ := made14_call ho h'
 obtain ⟨R, hR, CM''⟩ := made14_call ho h''
 obtain ⟨S, hS, CM3⟩ := made14_call ho h3
 have CP := aa CM
 have CQ := aa CM'
 have CR := aa CM''
 have CT := aa CM3
 have HP := aa hP
 have HQ := aa hQ
 have HR := aa hR
 have HS := aa hS
 have CS := aa law14_shown
 have HO := aa ho
 clear h h' h'' h3 CM CM' CM'' CM3 hP hQ hR hS ho
 go_enter Tryz.func10, Tryz.ntmps10
 go_upto_region 1 with (fail)
 refine wp_gen (fun W => Bo2 w.heap.size w.heap.size (w.heap.size + 1) w W 91 91 #[.slice SA ns.length sa, .slice SB ms.length sb, .slice SC ns'.length sc, .slice SD ms'.length sd] #[.slice SE ns''.length se, .slice SF ms''.length sf, .slice SG ns3.length sg, .slice SH ms3.length sh]) (Bo2.mk2 w _ _ _ _) ?_
 intro W BX
 generalize w.heap.size + 1 = g2 at BX ⊢
 have SO := aa (fun W' (hB : Bo2 w.heap.size w.heap.size g2 w W' 91 91 #[.slice SA ns.length sa, .slice SB ms.length sb, .slice SC ns'.length sc, .slice SD ms'.length sd] #[.slice SE ns''.length se, .slice SF ms''.length sf, .slice SG ns3.length sg, .slice SH ms3.length sh]) => af (aa hB) hB.k1.four')
 go_wp2_with fail
 go_region_held3 (fun w' => Hd (Bo2 w.heap.size w.heap.size g2 w w' 91 91 #[.slice SA ns.length sa, .slice SB ms.length sb, .slice SC ns'.length sc, .slice SD ms'.length sd] #[.slice SE ns''.length se, .slice SF ms''.length sf, .slice SG ns3.length sg, .slice SH ms3.length sh]) ∧ (w'.cell? ⟨w.heap.size, 0, none⟩ = some (.slice SA ns.length sa) ∧ w'.cell? ⟨w.heap.size, 1, none⟩ = some (.slice SB ms.length sb) ∧ w'.cell? ⟨w.heap.size, 2, none⟩ = some (.slice SC ns'.length sc) ∧ w'.cell? ⟨w.heap.size, 3, none⟩ = some (.slice SD ms'.length sd)))
  (first
   | with_reducible exact SO.out _ BX.out
   | with_reducible exact SO.out _ BX.out.d1
   | with_reducible exact SO.out _ BX2.out
   | with_reducible exact SO.out _ BX3.out
   | with_reducible exact SO.out _ (BX3.out.al _)
   | fail)
  (first
   | (go_at_call 38; with_reducible refine (CP.out _ BX.out.d1.below).mono ?_; rintro e w2 ⟨A2, c2, rfl, hc2, hr, hb⟩
      have BX2 := aa (BX.out.d1.up hb)
      have HP2 := aa hr
      clear hr)
   | (go_at_call 38; with_reducible refine (CQ.out _ BX2.out.below).mono ?_; rintro e w3 ⟨A3, c3, rfl, hc3, hr, hb⟩
      have BX3 := aa (BX2.out.up hb)
      have HP3 := aa (HP2.out.up hb)
      have HQ3 := aa hr
      clear hr)
   | fail)
 all_goals
  go_upto_region 3 with (fail)
  refine wp_gen (fun W => In14 g2 w3.heap.size w W #[.slice SE ns''.length se, .slice SF ms''.length sf, .slice SG ns3.length sg, .slice SH ms3.length sh] P Q) ⟨BX3.out.below.alloc BX3.out.below.size _, (BX3.out.al _).k2, rpols_bk2 (p := P) (q := Q) (Bk.new_ _ _ _) (HP3.out.up (below1 _ _)) (HQ3.out.up (below1 _ _)) hc2 hc3⟩ ?_
  intro W4 I4
  generalize w3.heap.size = ga at I4 ⊢
  clear BX BX2 BX3 HP2 HP3 HQ3 SO CP CQ
  have HCP : Hd (∀ p ∈ [P, Q], CP o p) := ⟨fun z hz => by
   simp only [List.mem_cons, List.not_mem_nil, or_false] at hz
   rcases hz with rfl | rfl
   ·exact HP.out.cp
   ·exact HQ.out.cp⟩
  have HLS : Hd (shortPs [P, Q]) := ⟨by simp, fun p hp => cp_short (HCP.out p hp)⟩
  have CG := aa (reduce_Groebner w.heap.size ga 0 2 o [P, Q] W4 HO.out I4.out.below.size I4.out.row HCP.out (by simp))
  dsimp only [List.length_cons, List.length_nil] at CG
  have HLAW := aa (in_law HP.out HQ.out HR.out HS.out)
  have HU1 := aa (unit_rest HP.out HQ.out)
  have HU2 := aa (fun T => unit_red (R := T) HCP.out)
  obtain ⟨G, hG⟩ : ∃ G, groebD o [P, Q] = G := ⟨_, rfl⟩
  rw [hG] at CG HLAW
  clear hG
  go_wp2_with fail
  refine CG.out.mono ?_
  rintro e w5 ⟨rfl, hb⟩
  have I5 := aa (I4.out.up hb)
  clear hb I4 CG
  go_wp2_with fail
  refine (CS.out _).mono ?_
  rintro e w6 ⟨rfl, hb⟩
  have I6 := aa (I5.out.up hb)
  clear hb I5
  by_cases hE : G.1 = 0
  case neg =>
   have e1 : (G.1 != 0) = true := by rw [bne_iff_ne]; exact hE
   clear hE HLAW
   go_wp2_with fail
   refine (CS.out _).mono ?_
   rintro e w7 ⟨rfl, hb⟩
   have HB7 := aa (goes I6.out.below hb)
   clear hb
   go_wp2_with fail
   go_ret
   exact ⟨rfl, HB7.out⟩
  have e1 : (G.1 != 0) = false := by rw [hE]; rfl
  by_cases hI : G.2 = true
  case neg =>
   have e2 : G.2 = false := by simpa using hI
   clear hE hI HLAW
   go_wp2_with fail
   refine (CS.out _).mono ?_
   rintro e w7 ⟨rfl, hb⟩
   have HB7 := aa (goes I6.out.below hb)
   clear hb
   go_wp2_with fail
   go_ret
   exact ⟨rfl, HB7.out⟩
  have HLAW2 := aa (HLAW.out (Prod.ext hE hI))
  have e2 : (!G.2) = false := by rw [hI]; rfl
  clear hE HLAW
  obtain ⟨e0, e1', e2', e3'⟩ := I6.out.k2.four'
  obtain ⟨ad, a1, ac, p', e, _, hp, ca, hac, har⟩ := I6.out.row.get (show 0 < [P, Q].length by simp)
  obtain rfl : P = p' := by have := hp.out; simpa using this
  injection e with e
  subst e
  obtain ⟨ad, b1, bc, q', e, _, hq, cb, hbc, hbr⟩ := I6.out.row.get (show 1 < [P, Q].length by simp)
  obtain rfl : Q = q' := by have := hq.out; simpa using this
  injection e with e
  subst e
  have ca : w6.cell? ⟨ga, 0, none⟩ = some (.slice a1 P.length ac) := ca
  have cb : w6.cell? ⟨ga, 1, none⟩ = some (.slice b1 Q.length bc) := cb
  clear hp hq
  have SP := aa (smP_short HP.out)
  have SQ := aa (smP_short HQ.out)
  have SR := aa (smP_short HR.out)
  have SS := aa (smP_short HS.out)
  have CX := aa (fun W A c (hB : Below w6.heap.size w6 W) (hr : RPol W w.heap.size A R) (hc : R.length ≤ c) => rpol_Mul w.heap.size o a1 A ac c P R W (goes I6.out.below hB).size (har.out.up hB) hac SP.out hr hc SR.out)
  have CY := aa (fun W A c (hB : Below w6.heap.size w6 W) (hr : RPol W w.heap.size A S) (hc : S.length ≤ c) => rpol_Mul w.heap.size o b1 A bc c Q S W (goes I6.out.below hB).size (hbr.out.up hB) hbc SQ.out hr hc SS.out)
  have HXS : Hd (shortP (polMul o P R).2) := ⟨polMul_short⟩
  have HYS : Hd (shortP (polMul o Q S).2) := ⟨polMul_short⟩
  obtain ⟨X, hX⟩ : ∃ X, polMul o P R = X := ⟨_, rfl⟩
  obtain ⟨Y, hY⟩ : ∃ Y, polMul o Q S = Y := ⟨_, rfl⟩
  rw [hX] at CX HXS HLAW2
  rw [hY] at CY HYS HLAW2
  clear hX hY har hbr
  have SO := aa (fun W (hB : Below w6.heap.size w6 W) => af (aa hB) (af (cell_up ca hB) (af (cell_up cb hB) (af (cell_up e0 hB) (af (cell_up e1' hB) (af (cell_up e2' hB) (cell_up e3' hB)))))))
  clear ca cb e0 e1' e2' e3'
  go_wp2_with fail
  obtain ⟨hB0, ca, cb, e0, e1', e2', e3'⟩ := SO.out w6 (.refl _ _)
  clear hB0
  go_region_held3 (fun w' => Hd (Below w6.heap.size w6 w') ∧ w'.cell? ⟨ga, 0, none⟩ = some (.slice a1 P.length ac) ∧ w'.cell? ⟨ga, 1, none⟩ = some (.slice b1 Q.length bc) ∧ w'.cell? ⟨g2, 0, none⟩ = some (.slice SE ns''.length se) ∧ w'.cell? ⟨g2, 1, none⟩ = some (.slice SF ms''.length sf) ∧ w'.cell? ⟨g2, 2, none⟩ = some (.slice SG ns3.length sg) ∧ w'.cell? ⟨g2, 3, none⟩ = some (.slice SH ms3.length sh))
   (first
    | with_reducible exact SO.out _ (.refl _ _)
    | with_reducible exact SO.out _ (ag _ _).drew
    | with_reducible exact SO.out _ HB7.out
    | with_reducible exact SO.out _ HB8.out
    | fail)
   (first
    | (go_at_call 38; with_reducible refine (CR.out _ (goes I6.out.below (ag _ _).drew)).mono ?_; rintro e w7 ⟨A7, c7, rfl, hc7, hr, hb⟩
       have HB7 := aa (goes (ag _ _).drew hb)
       have HR7 := aa hr
       clear hr)
    | (go_at_call 43; with_reducible refine (CX.out _ A7 c7 HB7.out HR7.out hc7).mono ?_; rintro e w8 ⟨A8, c8, rfl, hc8, hr, hb⟩
       have HB8 := aa (goes HB7.out hb)
       have HX8 := aa hr
       clear hr)
    | fail)
  all_goals
   have HD8 : Hd (Below w6.heap.size w6 w8.drew) := ⟨goes HB8.out (ag _ _).drew⟩
   clear ca cb e0 e1' e2' e3' HR7 HB7 CX CR
   go_wp2_with fail
   obtain ⟨hB0, ca, cb, e0, e1', e2', e3'⟩ := SO.out w8 HB8.out
   clear hB0
   go_region_held3 (fun w' => Hd (Below w6.heap.size w6 w') ∧ w'.cell? ⟨ga, 0, none⟩ = some (.slice a1 P.length ac) ∧ w'.cell? ⟨ga, 1, none⟩ = some (.slice b1 Q.length bc) ∧ w'.cell? ⟨g2, 0, none⟩ = some (.slice SE ns''.length se) ∧ w'.cell? ⟨g2, 1, none⟩ = some (.slice SF ms''.length sf) ∧ w'.cell? ⟨g2, 2, none⟩ = some (.slice SG ns3.length sg) ∧ w'.cell? ⟨g2, 3, none⟩ = some (.slice SH ms3.length sh))
    (first
     | with_reducible exact SO.out _ HB8.out
     | with_reducible exact SO.out _ HD8.out
     | with_reducible exact SO.out _ HB9.out
     | with_reducible exact SO.out _ HB10.out
     | fail)
    (first
     | (go_at_call 38; with_reducible refine (CT.out _ (goes I6.out.below HD8.out)).mono ?_; rintro e w9 ⟨A9, c9, rfl, hc9, hr, hb⟩
        have HB9 := aa (goes HD8.out hb)
        have HX9 := aa (HX8.out.up (goes (ag _ _).drew hb))
        have HS9 := aa hr
        clear hr)
     | (go_at_call 43; with_reducible refine (CY.out _ A9 c9 HB9.out HS9.out hc9).mono ?_; rintro e w10 ⟨A10, c10, rfl, hc10, hr, hb⟩
        have HB10 := aa (goes HB9.out hb)
        have HX10 := aa (HX9.out.up hb)
        have HY10 := aa hr
        clear hr)
     | fail)
   all_goals
    have I10 := aa (I6.out.up HB10.out)
    clear ca cb e0 e1' e2' e3' HS9 HB9 CY CT HB8 HD8 HX8 HX9 I6 SO HB10
    have HSH : Hd (shortPs [X.2, Y.2]) := ⟨by simp, fun z hz => by
     simp only [List.mem_cons, List.not_mem_nil, or_false] at hz
     rcases hz with rfl | rfl
     ·exact HXS.out
     ·exact HYS.out⟩
    have HZS := aa (polAdd_short (o := o) HSH.out.2)
    have hbn : Below w10.heap.size w10 (w10.alloc (Obj.cells #[.slice A8 X.2.length c8, .slice A10 Y.2.length c10] 25)) := below1 _ _
    have I11 := aa (I10.out.up hbn)
    have CA := aa (rpol_Add w.heap.size o (some ⟨w10.heap.size, 0, none⟩) 2 [X.2, Y.2] _ I11.out.below.size (rpols_bk2 (p := X.2) (q := Y.2) (Bk.new_ w10 25 #[.slice A8 X.2.length c8, .slice A10 Y.2.length c10]) (HX10.out.up hbn) (HY10.out.up hbn) hc8 hc10) (by simp) (by simp) HSH.out)
    obtain ⟨Z, hZ⟩ : ∃ Z, polAdd o [X.2, Y.2] = Z := ⟨_, rfl⟩
    rw [hZ] at CA HZS HLAW2
    dsimp only [List.length_cons, List.length_nil] at CA
    clear hZ hbn HX10 HY10 I10 HXS HYS HSH
    go_wp2_with fail
    refine CA.out.mono ?_
    rintro e w12 ⟨A12, c12, rfl, hc12, hr, hb⟩
    have I12 := aa (I11.out.up hb)
    have HZ12 := aa hr
    clear hr hb CA I11
    by_cases hx : X.1 = 0
    case neg =>
     have e3 : (X.1 != 0) = true := by rw [bne_iff_ne]; exact hx
     clear hx HLAW2
     go_wp2_with fail
     go_ret
     exact ⟨rfl, I12.out.below⟩
    have e3 : (X.1 != 0) = false := by rw [hx]; rfl
    by_cases hy : Y.1 = 0
    case neg =>
     have e4 : (Y.1 != 0) = true := by rw [bne_iff_ne]; exact hy
     clear hx hy HLAW2
     go_wp2_with fail
     go_ret
     exact ⟨rfl, I12.out.below⟩
    have e4 : (Y.1 != 0) = false := by rw [hy]; rfl
    by_cases hz : Z.1 = 0
    case neg =>
     have e5 : (Z.1 != 0) = true := by rw [bne_iff_ne]; exact hz
     clear hx hy hz HLAW2
     go_wp2_with fail
     go_ret
     exact ⟨rfl, I12.out.below⟩
    have e5 : (Z.1 != 0) = false := by rw [hz]; rfl
    have HL3 := aa (HLAW2.out hx hy hz)
    clear hx hy hz HLAW2
    have CI := aa (reduce_In w.heap.size o A12 (some ⟨ga, 0, none⟩) c12 2 Z.2 [P, Q] w12 I12.out.below.size HZ12.out hc12 HZS.out I12.out.row (by simp) HLS.out)
    dsimp only [List.length_cons, List.length_nil] at CI
    have hF : ((splitD o Z.2 [P, Q]).1 != 0) = true ∨ ((splitD o Z.2 [P, Q]).1 != 0) = false ∧ inD o Z.2 [P, Q] = true := by
     by_cases h : (splitD o Z.2 [P, Q]).1 = 0
     ·refine .inr ⟨by rw [h]; rfl, ?_⟩
      unfold inD
      rw [decide_eq_true h, decide_eq_true (HL3.out h)]; rfl
     ·exact .inl (by rw [bne_iff_ne]; exact h)
    have HF := aa hF
    generalize inD o Z.2 [P, Q] = v1 at CI HF
    generalize (splitD o Z.2 [P, Q]).1 = E1 at CI HF
    clear hF HL3 HZ12 HZS
    go_wp2_with fail
    refine CI.out.mono ?_
    rintro e w13 ⟨rfl, hb⟩
    have I13 := aa (I12.out.up hb)
    clear hb CI I12
    have CO := aa (fun W hB => rrat_Of w.heap.size 1 W hB (by omega) (by omega))
    have HU : Hd ((splitD o [⟨ofD 1, zeroM⟩] [P, Q]).1 = 0 ∧ ∀ E T, RedIs o [P, Q] E T → E = 0 → decide (T = [[⟨ofD 1, zeroM⟩]]) = inD o [⟨ofD 1, zeroM⟩] [P, Q]) := ⟨HU1.out.1, fun E T hr hE => by
     rw [hE] at hr
     unfold inD
     rw [decide_eq_true HU1.out.1, Bool.true_and]
     exact decide_eq_decide.2 ((HU2.out T hr).trans HU1.out.2.symm)⟩
    have HOS : Hd (shortP [⟨ofD 1, zeroM⟩]) := ⟨by simp, fun s hs => by
     simp only [List.mem_singleton] at hs
     rw [hs]
     exact ofD_short 1 (by decide)⟩
    clear HU1 HU2
    obtain ⟨K, hK⟩ : ∃ K, ofD 1 = K := ⟨_, rfl⟩
    rw [hK] at CO HU HOS
    clear hK
    go_wp2_with fail
    refine (CO.out _ I13.out.below.size).mono ?_
    rintro e w14 ⟨x, rfl, hx, hb⟩
    have I14 := aa (I13.out.up hb)
    obtain ⟨TA, tc, TB, td, rfl, x1, x2, x3, x4⟩ := hx
    have T1 := aa (rpol_one (t := ⟨K, zeroM⟩) (rterm_of (⟨TA, tc, TB, td, rfl, x1, x2, x3, x4⟩ : RRat w14 w.heap.size _ K) zeroM) 68)
    simp only [zeroM] at T1
    clear hb I13 CO x1 x2 x3 x4
    have I15 := aa (I14.out.up (below1 w14 (.cells #[.bool K.neg, .slice TA K.num.length tc, .slice TB K.den.length td, .int .i64 0, .int .i64 0, .int .i64 0, .int .i64 0] 68)))
    clear I14
    have T2 : Hd (RPol (w14.alloc (.cells #[.bool K.neg, .slice TA K.num.length tc, .slice TB K.den.length td, .int .i64 0, .int .i64 0, .int .i64 0, .int .i64 0] 68)) w.heap.size (some ⟨w14.heap.size, 0, none⟩) [⟨K, zeroM⟩]) := ⟨T1.out⟩
    clear T1
    have CI := aa (reduce_In w.heap.size o (some ⟨w14.heap.size, 0, none⟩) (some ⟨ga, 0, none⟩) 1 2 [⟨K, zeroM⟩] [P, Q] _ I15.out.below.size T2.out (by simp) HOS.out I15.out.row (by simp) HLS.out)
    dsimp only [List.length_cons, List.length_nil] at CI
    rw [HU.out.1] at CI
    have HU3 := aa HU.out.2
    clear HU
    generalize inD o [⟨K, zeroM⟩] [P, Q] = v2 at CI HU3
    go_wp2_with fail
    refine CI.out.mono ?_
    rintro e w16 ⟨rfl, hb⟩
    have I16 := aa (I15.out.up hb)
    have T3 := aa (T2.out.up hb)
    clear hb CI I15 T2
    have CD := aa (reduce_Reduced w.heap.size ga 0 2 o [P, Q] w16 HO.out I16.out.below.size I16.out.row HCP.out (by simp))
    dsimp only [List.length_cons, List.length_nil] at CD
    go_wp2_with fail
    refine CD.out.mono ?_
    rintro e w17 ⟨A17, c17, T, E, rfl, hred, -, hr, -, hb⟩
    have HT17 := aa hr
    have T4 := aa (T3.out.up hb)
    have I17 := aa (I16.out.up hb)
    have HU4 := aa (HU3.out E T hred)
    have HRED := aa hred
    clear hr hb hred CD T3 I16 HU3
    rcases HF.out with e6 | ⟨e6, rfl⟩
    all_goals
     by_cases hE : E = 0
     case neg =>
      have e7 : (E != 0) = true := by rw [bne_iff_ne]; exact hE
      clear hE HU4 HF HRED
      go_wp2_with fail
      go_ret
      exact ⟨rfl, I17.out.below⟩
     case pos =>
      have e7 : (E != 0) = false := by rw [hE]; rfl
      have hEQ := HU4.out hE
      have HTS : Hd (shortPs T) := ⟨by
       obtain ⟨tc, tl⟩ := red_cp HCP.out (by rw [← hE]; exact HRED.out)
       exact ⟨ah tl (by simp), fun p hp => cp_short (tc p hp)⟩⟩
      have hbn : Below w17.heap.size w17 (w17.alloc (Obj.cells #[.slice (some ⟨w14.heap.size, 0, none⟩) 1 1] 25)) := below1 _ _
      have CE := aa (same_list w.heap.size A17 (some ⟨w17.heap.size, 0, none⟩) c17 1 T [[⟨K, zeroM⟩]] _ (HT17.out.up hbn) HTS.out (rpols_bk1 (p := [⟨K, zeroM⟩]) (c := 1) (Bk.new_ w17 25 #[.slice (some ⟨w14.heap.size, 0, none⟩) 1 1]) (T4.out.up hbn) (by simp)) HOS.out.one)
      rw [hEQ] at CE
      dsimp only [List.length_cons, List.length_nil] at CE
      have e8 : (v2 == v2) = true := beq_self_eq_true v2
      have HB18 := aa (goes I17.out.below hbn)
      clear hE HU4 HF HRED hEQ hbn
      go_wp2_with fail
      refine CE.out.mono ?_
      rintro e w18 ⟨rfl, hb⟩
      have HB19 := aa (goes HB18.out hb)
      clear hb
      go_wp2_with fail
      go_ret
      exact ⟨rfl, HB19.out⟩
end Go.Proofs.YtgjkgkgieeoalaaGreat
