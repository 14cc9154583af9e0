/- Parts of the proof, joined: what each says stands at its head. -/
import Derived.Test.YtjanagclahkfdaaGreatM47
import Derived.Test.YtjanagclahkfdaaGreatM46
import Derived.Test.YtjanagclahkfdaaGreatM32
import Derived.Test.YtjanagclahkfdaaGreatM04
set_option linter.unusedVariables false
set_option linter.unusedSimpArgs false
set_option maxHeartbeats 24000000
set_option maxRecDepth 100000
namespace Go.Proofs.YtjanagclahkfdaaGreat
open Go.RowKit
theorem head_of {b : List TermD} {u : TermD} (h : b[0]? = some u) : ∃ b', b = u :: b' := by
 cases b with
 | nil => simp at h
 | cons x b' => simp at h; exact ⟨b', by rw [h]⟩
theorem law_DivideLeads (a0 : Int) (SA SB SC SD SE SF SG SH : Option Addr) (sa sb sc sd se sf sg sh : Nat) (ns ns' ns'' ns3 : List Int) (ms ms' ms'' ms3 : List (Int × Int × Int)) (w : World) (h0 : 0 ≤ a0) (h1 : a0 ≤ 255) (h : RSm w SA sa SB sb ns ms) (h' : RSm w SC sc SD sd ns' ms') (h'' : RSm w SE se SF sf ns'' ms'') (h3 : RSm w SG sg SH sh ns3 ms3) :
    Calls Tryz.prog 5 #[.int .u8 a0, .agg #[.slice SA ns.length sa, .slice SB ms.length sb], .agg #[.slice SC ns'.length sc, .slice SD ms'.length sd, .slice SE ns''.length se, .slice SF ms''.length sf, .slice SG ns3.length sg, .slice SH ms3.length sh]] w fun e w' => e = .returned (.bool true) ∧ Below w.heap.size w w' := by
 have ho := oOk_mod3 h0
 obtain ⟨o, rO⟩ : ∃ o, a0 % 3 = o := ⟨_, rfl⟩
 rw [rO] at ho
 obtain ⟨P, hP, CM⟩ := made12_call ho h
 obtain ⟨Q, hQ, CM'⟩ := made12_call ho h'
 obtain ⟨R, hR, CM''⟩ := made12_call ho h''
 obtain ⟨S, hS, CM3⟩ := made12_call ho h3
 have CP := Hd.mk CM
 have CQ := Hd.mk CM'
 have CR := Hd.mk CM''
 have CT := Hd.mk CM3
 have HP := Hd.mk hP
 have HQ := Hd.mk hQ
 have HR := Hd.mk hR
 have HS := Hd.mk hS
 have CS := Hd.mk law12_shown
 have HO := Hd.mk ho
 clear h h' h'' h3 CM CM' CM'' CM3 hP hQ hR hS ho
 go_enter Tryz.func5, Tryz.ntmps5
 go_upto_region 1 with (fail)
 refine wp_gen (fun W => Bo2 w.heap.size w.heap.size (w.heap.size + 1) w W 38 39 #[.slice SA ns.length sa, .slice SB ms.length sb] #[.slice SC ns'.length sc, .slice SD ms'.length sd, .slice SE ns''.length se, .slice SF ms''.length sf, .slice SG ns3.length sg, .slice SH ms3.length sh]) (Bo2.mk2 w _ _ _ _) ?_
 intro W BX
 generalize w.heap.size + 1 = g2 at BX ⊢
 obtain ⟨q0, q1⟩ := BX.out.k1.two'
 go_wp2_with fail
 clear q0 q1
 refine (CP.out _ BX.out.below).mono ?_
 rintro e w1 ⟨A1, c1, rfl, hc1, hr, hb⟩
 have BX1 := Hd.mk (BX.out.up hb)
 have HP1 := Hd.mk hr
 clear hb hr BX CP
 have SO := Hd.mk (fun W' (hB : Bo2 w.heap.size w.heap.size g2 w W' 38 39 #[.slice SA ns.length sa, .slice SB ms.length sb] #[.slice SC ns'.length sc, .slice SD ms'.length sd, .slice SE ns''.length se, .slice SF ms''.length sf, .slice SG ns3.length sg, .slice SH ms3.length sh]) => And.intro (Hd.mk hB) hB.k2.six')
 go_wp2_with fail
 go_region_held3 (fun w' => Hd (Bo2 w.heap.size w.heap.size g2 w w' 38 39 #[.slice SA ns.length sa, .slice SB ms.length sb] #[.slice SC ns'.length sc, .slice SD ms'.length sd, .slice SE ns''.length se, .slice SF ms''.length sf, .slice SG ns3.length sg, .slice SH ms3.length sh]) ∧ (w'.cell? ⟨g2, 0, none⟩ = some (.slice SC ns'.length sc) ∧ w'.cell? ⟨g2, 1, none⟩ = some (.slice SD ms'.length sd) ∧ w'.cell? ⟨g2, 2, none⟩ = some (.slice SE ns''.length se) ∧ w'.cell? ⟨g2, 3, none⟩ = some (.slice SF ms''.length sf) ∧ w'.cell? ⟨g2, 4, none⟩ = some (.slice SG ns3.length sg) ∧ w'.cell? ⟨g2, 5, none⟩ = some (.slice SH ms3.length sh)))
  (first
   | with_reducible exact SO.out _ BX1.out
   | with_reducible exact SO.out _ BX1.out.d1
   | with_reducible exact SO.out _ BX2.out
   | with_reducible exact SO.out _ BX3.out
   | with_reducible exact SO.out _ BX4.out
   | with_reducible exact SO.out _ (BX4.out.al _)
   | fail)
  (first
   | (go_at_call 21; with_reducible refine (CQ.out _ BX1.out.d1.below).mono ?_; rintro e w2 ⟨A2, c2, rfl, hc2, hr, hb⟩
      have BX2 := Hd.mk (BX1.out.d1.up hb)
      have HP2 := Hd.mk (HP1.out.up (goes (Below.refl _ _).drew hb))
      have HQ2 := Hd.mk hr
      clear hr)
   | (go_at_call 21; with_reducible refine (CR.out _ BX2.out.below).mono ?_; rintro e w3 ⟨A3, c3, rfl, hc3, hr, hb⟩
      have BX3 := Hd.mk (BX2.out.up hb)
      have HP3 := Hd.mk (HP2.out.up hb)
      have HQ3 := Hd.mk (HQ2.out.up hb)
      have HR3 := Hd.mk hr
      clear hr)
   | (go_at_call 21; with_reducible refine (CT.out _ BX3.out.below).mono ?_; rintro e w4 ⟨A4, c4, rfl, hc4, hr, hb⟩
      have BX4 := Hd.mk (BX3.out.up hb)
      have HP4 := Hd.mk (HP3.out.up hb)
      have HQ4 := Hd.mk (HQ3.out.up hb)
      have HR4 := Hd.mk (HR3.out.up hb)
      have HS4 := Hd.mk hr
      clear hr)
   | fail)
 all_goals
  go_upto_region 4 with (fail)
  refine wp_gen (fun W => Below w.heap.size w W ∧ RPol W w.heap.size A1 P ∧ RPols W w.heap.size (some ⟨w4.heap.size, 0, none⟩) [Q, R, S]) ⟨BX4.out.below.alloc BX4.out.below.size _, HP4.out.up (below1 _ _), rpols_bk3 (Bk.new_ _ _ _) (HQ4.out.up (below1 _ _)) (HR4.out.up (below1 _ _)) (HS4.out.up (below1 _ _)) hc2 hc3 hc4⟩ ?_
  intro W4 H4
  generalize (⟨w4.heap.size, 0, none⟩ : Addr) = ga at H4 ⊢
  have HB5 := Hd.mk H4.out.1
  have HP5 := Hd.mk H4.out.2.1
  have HL5 := Hd.mk H4.out.2.2
  clear H4 BX1 BX2 BX3 BX4 HP1 HP2 HQ2 HP3 HQ3 HR3 SO CQ CR CT HP4 HQ4 HR4 HS4
  have hcl : ∀ b ∈ [Q, R, S], CP o b := mem3 HQ.out.cp HR.out.cp HS.out.cp
  have hsl : shortPs [Q, R, S] := ⟨by simp, mem3 (smP_short HQ.out) (smP_short HR.out) (smP_short HS.out)⟩
  have HSP := Hd.mk (smP_short HP.out)
  have HPC := Hd.mk HP.out.cp
  have hll : [Q, R, S].length = 3 := rfl
  obtain ⟨l, hL⟩ : ∃ l, [Q, R, S] = l := ⟨_, rfl⟩
  rw [hL] at HL5 hcl hsl hll
  have HG := Hd.mk (splitD_good (o := o) HP.out.cp hcl)
  have HER := Hd.mk (splitD_err (o := o) (p := P) (l := l))
  have HSS := Hd.mk (splitD_short (o := o) HSP.out hsl)
  obtain ⟨⟨E, qs, r⟩, he⟩ : ∃ X, splitD o P l = X := ⟨_, rfl⟩
  have CD := Hd.mk (split_call HSP.out hsl he W4 A1 (some ga) c1 3 HB5.out.size HP5.out hc1 HL5.out (by omega))
  rw [he] at HG HER HSS
  dsimp only at HG HER HSS
  rw [hll] at CD
  have HCL := Hd.mk hcl
  have HSL := Hd.mk hsl
  have HLL := Hd.mk hll
  clear he hL hcl hsl hll HP HQ HR HS
  go_wp2_with fail
  refine CD.out.mono ?_
  rintro e w5 ⟨Q5, q5, A5, c5, rfl, hq5, hc5, hrq, hr, hb⟩
  have HB6 := Hd.mk (goes HB5.out hb)
  have HP6 := Hd.mk (HP5.out.up hb)
  have HL6 := Hd.mk (HL5.out.up hb)
  have HQ6 := Hd.mk hrq
  have HR6 := Hd.mk hr
  clear hb hrq hr CD HB5 HP5 HL5
  go_wp2_with fail
  refine (CS.out _).mono ?_
  rintro e w6 ⟨rfl, hb⟩
  have HB7 := Hd.mk (goes HB6.out hb)
  have HP7 := Hd.mk (HP6.out.up hb)
  have HL7 := Hd.mk (HL6.out.up hb)
  have HQ7 := Hd.mk (HQ6.out.up hb)
  have HR7 := Hd.mk (HR6.out.up hb)
  clear hb HB6 HP6 HL6 HQ6 HR6
  by_cases hE : E = 0
  case neg =>
   have e1 : (E != 0) = true := by rw [bne_iff_ne]; exact hE
   clear hE HG HER
   go_wp2_with fail
   refine (CS.out _).mono ?_
   rintro e w7 ⟨rfl, hb⟩
   have HB8 := Hd.mk (goes HB7.out hb)
   clear hb
   go_wp2_with fail
   go_ret
   exact ⟨rfl, HB8.out⟩
  have e1 : (E != 0) = false := by rw [hE]; rfl
  obtain ⟨qs', r', e2, I⟩ := HG.out hE
  obtain ⟨rfl, rfl⟩ : qs' = qs ∧ r' = r := by
   have h1 := congrArg Prod.snd e2
   simp only [Prod.mk.injEq] at h1
   exact ⟨h1.1.symm, h1.2.symm⟩
  have HI := Hd.mk I
  have hql : qs'.length = 3 := I.ql.trans HLL.out
  have e3 : ((qs'.length : Int) != 3) = false := by rw [bne_eq_false_iff_eq]; omega
  have HQL := Hd.mk hql
  have hl3 := HLL.out
  have hrl : r'.length ≤ 60 := I.cr.len
  clear hE HG HER e2 I hql HSS CS
  go_upto_region 9 with (fail)
  go_wp2_with fail
  go_loopw [13] (fun v13 wr => ∃ i : Nat, v13 = .int .i64 i ∧ i ≤ 3 ∧ Hd (Below w6.heap.size w6 wr)) (fun v _ => 3 - (intOf v).toNat)
  case atStart => exact ⟨0, rfl, by omega, ⟨.refl _ _⟩⟩
  case round =>
   obtain ⟨i, rfl, hi, HB⟩ := hrel
   by_cases hlt : i < 3
   case neg =>
    have i1 : ¬ (i : Int) < 3 := by omega
    go_wp2_with fail
    go_ret
    exact ⟨rfl, goes HB7.out HB.out⟩
   have i1 : (i : Int) < 3 := by omega
   have i0 : (0 : Int) ≤ i := by omega
   have i4 : (i : Int) < qs'.length := by have := HQL.out; omega
   have i5 : i < qs'.length := by have := HQL.out; omega
   obtain ⟨la, ba, bc, b, ela, _, hbi, hbcell, hbc, hbr⟩ := (HL7.out.up HB.out).get (show i < l.length by omega)
   obtain ⟨qa, ka, kc, q, eqa, _, hqi, hqcell, hqc, hqr⟩ := (HQ7.out.up HB.out).get i5
   injection ela with ela
   subst ela eqa
   by_cases hb0 : b.length = 0
   ·have e5 : ((b.length : Int) == 0) = true := by rw [hb0]; rfl
    clear hb0
    go_wp2_with fail
    go_roundw
    case measure => first | (simp [intOf]; done) | (simp [intOf]; omega)
    case rel => exact ⟨i + 1, by go_num, by omega, HB⟩
   have e5 : ((b.length : Int) == 0) = false := by rw [beq_eq_false_iff_ne]; omega
   have b1 : (0 : Int) < b.length := by omega
   have b2 : 0 < b.length := by omega
   obtain ⟨bd, B1, d1, B2, d2, u, rfl, _, hui, -, -, -, -, u3, u4, u5, u6⟩ := hbr.out.get b2
   rw [Nat.zero_mul, add_0] at u3 u4 u5 u6
   obtain ⟨b', hbu⟩ := head_of hui.out
   have HBI := Hd.mk (show l[i]? = some (u :: b') by rw [← hbu]; exact hbi.out)
   have HQI := Hd.mk hqi.out
   have HQR := Hd.mk hqr.out
   have HLR := Hd.mk (fun s hs => leads_rest (s := s) HI.out HBI.out hs)
   have HBC := Hd.mk hbcell
   have HQC := Hd.mk hqcell
   have HU := Hd.mk (And.intro u3 (And.intro u4 (And.intro u5 u6)))
   clear hb0 hui hbi hqi hqr hbr hqcell u3 u4 u5 u6 hbu
   go_upto_region 13 with (fail)
   clear hbcell
   go_wp2_with fail
   go_loopw [14] (fun v14 wx => ∃ k : Nat, v14 = .int .i64 k ∧ k ≤ r'.length ∧ Hd (Below wr.heap.size wr wx)) (fun v _ => r'.length - (intOf v).toNat)
   case atStart => exact ⟨0, rfl, by omega, ⟨.refl _ _⟩⟩
   case round =>
    obtain ⟨k, rfl, hk, HX⟩ := hrel
    by_cases hkr : k < r'.length
    ·have k1 : (k : Int) < r'.length := by omega
     have k0 : (0 : Int) ≤ k := by omega
     obtain ⟨rd, C1, f1, C2, f2, s, rfl, _, hsi, -, -, -, -, s3, s4, s5, s6⟩ := (HR7.out.up (goes HB.out HX.out)).get hkr
     have hno := HLR.out s (List.mem_of_getElem? hsi.out)
     have CD := Hd.mk (rmon_Div s.m u.m)
     obtain ⟨⟨mb, mm⟩, hM⟩ : ∃ X, monDiv s.m u.m = X := ⟨_, rfl⟩
     rw [hM] at CD hno
     dsimp only at CD hno
     subst hno
     simp only [MonD.v] at CD
     have hbcell := cell_up HBC.out HX.out
     have u3 := cell_up HU.out.1 HX.out
     have u4 := cell_up HU.out.2.1 HX.out
     have u5 := cell_up HU.out.2.2.1 HX.out
     have u6 := cell_up HU.out.2.2.2 HX.out
     have SO := Hd.mk (fun W (hB : Below wr.heap.size wr W) => And.intro (Hd.mk hB) (And.intro (cell_up hbcell hB) (And.intro (cell_up s3 hB) (And.intro (cell_up s4 hB) (And.intro (cell_up s5 hB) (And.intro (cell_up s6 hB) (And.intro (cell_up u3 hB) (And.intro (cell_up u4 hB) (And.intro (cell_up u5 hB) (cell_up u6 hB))))))))))
     clear hM hsi
     go_wp2_with fail
     go_region_held3 (fun W => Hd (Below wr.heap.size wr W) ∧ W.cell? (ga.add i) = some (.slice (some bd) b.length bc) ∧
         W.cell? ⟨(rd.add (k * 7)).block, (rd.add (k * 7)).off + 3, none⟩ = some (.int .i64 s.m.x0) ∧ W.cell? ⟨(rd.add (k * 7)).block, (rd.add (k * 7)).off + 3 + 1, none⟩ = some (.int .i64 s.m.x1) ∧ W.cell? ⟨(rd.add (k * 7)).block, (rd.add (k * 7)).off + 3 + 2, none⟩ = some (.int .i64 s.m.x2) ∧ W.cell? ⟨(rd.add (k * 7)).block, (rd.add (k * 7)).off + 3 + 3, none⟩ = some (.int .i64 s.m.x3) ∧
         W.cell? ⟨bd.block, bd.off + 3, none⟩ = some (.int .i64 u.m.x0) ∧ W.cell? ⟨bd.block, bd.off + 3 + 1, none⟩ = some (.int .i64 u.m.x1) ∧ W.cell? ⟨bd.block, bd.off + 3 + 2, none⟩ = some (.int .i64 u.m.x2) ∧ W.cell? ⟨bd.block, bd.off + 3 + 3, none⟩ = some (.int .i64 u.m.x3))
      (first
       | with_reducible exact SO.out _ (.refl _ _)
       | with_reducible exact SO.out _ (Below.refl _ _).drew
       | with_reducible exact SO.out _ ((Below.refl _ _).drew.alloc (Nat.le_refl _) _)
       | with_reducible exact SO.out _ ((Below.refl _ _).alloc (Nat.le_refl _) _).drew
       | with_reducible exact SO.out _ hB5
       | with_reducible exact SO.out _ (hB5.alloc hB5.size _)
       | with_reducible exact SO.out _ (below_set4 hB5 (Nat.le_refl _) _ _ _ _)
       | with_reducible exact SO.out _ (below_set4 (hB5.alloc hB5.size _) hB5.size _ _ _ _)
       | fail)
      (first
       | (go_at_call 24; have hB := ‹Hd (Below wr.heap.size wr _) ∧ _›.1; with_reducible refine (CD.out ((wr.alloc (Obj.cells #[.int .i64 0, .int .i64 0, .int .i64 0, .int .i64 0] 45)).drew)).mono ?_; rintro e w8 ⟨rfl, hb⟩
          have hB5 := hB.out.trans (hb.mono hB.out.size)
          have hk := Hd.mk ((Bk.new_ wr 45 #[.int .i64 0, .int .i64 0, .int .i64 0, .int .i64 0]).d1.up hb)
          obtain ⟨p6, p7, p8, p9⟩ := hk.out.four
          have fz := fun i => hk.out.froz i)
       | (go_at_call 24; have hB := ‹Hd (Below wr.heap.size wr _) ∧ _›.1; with_reducible refine (CD.out _).mono ?_; rintro e w8 ⟨rfl, hb⟩
          have hB5 := hB.out.trans (hb.mono hB.out.size)))
     all_goals
      have hB9 := ‹Hd (Below wr.heap.size wr _) ∧ _›.1
      have HX9 := Hd.mk (goes HX.out hB9.out)
      go_wp2_with fail
      go_roundw
      case measure => first | (simp [intOf]; done) | (simp [intOf]; omega)
      case rel => exact ⟨k + 1, by go_num, by omega, HX9⟩
    ·have k1 : ¬ (k : Int) < r'.length := by omega
     have HBX := Hd.mk (goes HB.out HX.out)
     have hqcell := cell_up HQC.out HX.out
     by_cases hq0 : q.length = 0
     ·have e6 : ¬ (0 : Int) < q.length := by omega
      clear hq0
      go_wp2_with fail
      go_roundw
      case measure => first | (simp [intOf]; done) | (simp [intOf]; omega)
      case rel => exact ⟨i + 1, by go_num, by omega, HBX⟩
     ·have e6 : (0 : Int) < q.length := by omega
      have e7 : 0 < q.length := by omega
      obtain ⟨qd, B3, d3, B4, d4, x, rfl, _, hxi, -, -, -, -, x3, x4, x5, x6⟩ := (HQR.out.up HX.out).get e7
      rw [Nat.zero_mul, add_0] at x3 x4 x5 x6
      have hqx : ∃ q'', q = x :: q'' := head_of hxi.out
      have HLQ : Hd (monMul x.m u.m = (0, addM x.m u.m) ∧ ∃ t0 ps0, P = t0 :: ps0 ∧ monCmp o (addM x.m u.m) t0.m ≤ 0) := ⟨by
       obtain ⟨q'', e⟩ := hqx
       exact leads_quot HPC.out HCL.out HI.out HBI.out (q := q'') (by rw [← e]; exact HQI.out)⟩
      have hbcell := cell_up HBC.out HX.out
      have u3 := cell_up HU.out.1 HX.out
      have u4 := cell_up HU.out.2.1 HX.out
      have u5 := cell_up HU.out.2.2.1 HX.out
      have u6 := cell_up HU.out.2.2.2 HX.out
      have CM := Hd.mk (rmon_Mul x.m u.m)
      rw [HLQ.out.1] at CM
      obtain ⟨z, hz⟩ : ∃ z, addM x.m u.m = z := ⟨_, rfl⟩
      have HLZ := HLQ.out.2
      rw [hz] at CM HLZ
      dsimp only at CM
      simp only [MonD.v] at CM
      have HLZ := Hd.mk HLZ
      have SO := Hd.mk (fun W (hB : Below wr.heap.size wr W) => And.intro (Hd.mk hB) (And.intro (cell_up hqcell hB) (And.intro (cell_up hbcell hB) (And.intro (cell_up x3 hB) (And.intro (cell_up x4 hB) (And.intro (cell_up x5 hB) (And.intro (cell_up x6 hB) (And.intro (cell_up u3 hB) (And.intro (cell_up u4 hB) (And.intro (cell_up u5 hB) (cell_up u6 hB)))))))))))
      clear hz HLQ hqx hxi hq0
      go_wp2_with fail
      go_region_held3 (fun W => Hd (Below wr.heap.size wr W) ∧ W.cell? (qa.add i) = some (.slice (some qd) q.length kc) ∧ W.cell? (ga.add i) = some (.slice (some bd) b.length bc) ∧
          W.cell? ⟨qd.block, qd.off + 3, none⟩ = some (.int .i64 x.m.x0) ∧ W.cell? ⟨qd.block, qd.off + 3 + 1, none⟩ = some (.int .i64 x.m.x1) ∧ W.cell? ⟨qd.block, qd.off + 3 + 2, none⟩ = some (.int .i64 x.m.x2) ∧ W.cell? ⟨qd.block, qd.off + 3 + 3, none⟩ = some (.int .i64 x.m.x3) ∧
          W.cell? ⟨bd.block, bd.off + 3, none⟩ = some (.int .i64 u.m.x0) ∧ W.cell? ⟨bd.block, bd.off + 3 + 1, none⟩ = some (.int .i64 u.m.x1) ∧ W.cell? ⟨bd.block, bd.off + 3 + 2, none⟩ = some (.int .i64 u.m.x2) ∧ W.cell? ⟨bd.block, bd.off + 3 + 3, none⟩ = some (.int .i64 u.m.x3))
       (first
        | with_reducible exact SO.out _ (.refl _ _)
        | with_reducible exact SO.out _ (Below.refl _ _).drew
        | with_reducible exact SO.out _ ((Below.refl _ _).drew.alloc (Nat.le_refl _) _)
        | with_reducible exact SO.out _ ((Below.refl _ _).alloc (Nat.le_refl _) _).drew
        | with_reducible exact SO.out _ hB5
        | with_reducible exact SO.out _ (hB5.alloc hB5.size _)
        | with_reducible exact SO.out _ (below_set4 hB5 (Nat.le_refl _) _ _ _ _)
        | with_reducible exact SO.out _ (below_set4 (hB5.alloc hB5.size _) hB5.size _ _ _ _)
        | fail)
       (first
        | (go_at_call 25; have hB := ‹Hd (Below wr.heap.size wr _) ∧ _›.1; with_reducible refine (CM.out ((wr.alloc (Obj.cells #[.int .i64 0, .int .i64 0, .int .i64 0, .int .i64 0] 45)).drew)).mono ?_; rintro e w8 ⟨rfl, hb⟩
           have hB5 := hB.out.trans (hb.mono hB.out.size)
           have hk := Hd.mk ((Bk.new_ wr 45 #[.int .i64 0, .int .i64 0, .int .i64 0, .int .i64 0]).d1.up hb)
           obtain ⟨p6, p7, p8, p9⟩ := hk.out.four
           have fz := fun i => hk.out.froz i)
        | (go_at_call 25; have hB := ‹Hd (Below wr.heap.size wr _) ∧ _›.1; with_reducible refine (CM.out _).mono ?_; rintro e w8 ⟨rfl, hb⟩
           have hB5 := hB.out.trans (hb.mono hB.out.size)))
      all_goals
       have hB9 := ‹Hd (Below wr.heap.size wr _) ∧ _›.1
       go_upto_region 21 with (fail)
       first
        | refine wp_gen (fun W => Below wr.heap.size wr W ∧ ∃ g, g = w8.heap.size ∧ Bk W g 45 #[.int .i64 z.x0, .int .i64 z.x1, .int .i64 z.x2, .int .i64 z.x3]) ⟨hB9.out, _, rfl, Bk.new_ _ _ _⟩ ?_
        | refine wp_gen (fun W => Below wr.heap.size wr W ∧ ∃ g, g = wr.heap.size ∧ Bk W g 45 #[.int .i64 z.x0, .int .i64 z.x1, .int .i64 z.x2, .int .i64 z.x3]) ⟨hB9.out, _, rfl, hk.out.set4 _ _ _ _⟩ ?_
       intro W9 h9
       obtain ⟨hB9, g9, hg9, hk9⟩ := h9.out
       rw [← hg9]
       obtain ⟨t0, ps0, hP0, hle⟩ := HLZ.out
       have hpl : 0 < P.length := by rw [hP0]; simp
       obtain ⟨pd, B5, d5, B6, d6, t1, epd, _, hti, -, -, -, -, y3, y4, y5, y6⟩ := (HP7.out.up (goes HBX.out hB9)).get hpl
       subst epd
       rw [Nat.zero_mul, add_0] at y3 y4 y5 y6
       obtain rfl : t0 = t1 := by have := hti.out; rw [hP0] at this; simpa using this
       have hp1 : (0 : Int) < P.length := by omega
       have hp0 : ((P.length : Int) == 0) = false := by rw [beq_eq_false_iff_ne]; omega
       have CC := Hd.mk (rmon_Cmp o z t0.m)
       obtain ⟨C, hC⟩ : ∃ C, monCmp o z t0.m = C := ⟨_, rfl⟩
       rw [hC] at CC hle
       simp only [MonD.v] at CC
       have hle2 : ¬ (0 : Int) < C := by omega
       obtain ⟨r0, r1, r2, r3⟩ := hk9.four
       have HBZ := Hd.mk (goes HBX.out hB9)
       have SO2 := Hd.mk (fun W (hB : Below W9.heap.size W9 W) => And.intro (Hd.mk hB) (And.intro (cell_up r0 hB) (And.intro (cell_up r1 hB) (And.intro (cell_up r2 hB) (And.intro (cell_up r3 hB) (And.intro (cell_up y3 hB) (And.intro (cell_up y4 hB) (And.intro (cell_up y5 hB) (cell_up y6 hB)))))))))
       clear hP0 hle hti hC h9 hB9 hg9 hk9 hbcell hqcell x3 x4 x5 x6 u3 u4 u5 u6 CM SO hB5
       go_wp2_with fail
       go_region_held3 (fun W => Hd (Below W9.heap.size W9 W) ∧ W.cell? ⟨g9, 0, none⟩ = some (.int .i64 z.x0) ∧ W.cell? ⟨g9, 1, none⟩ = some (.int .i64 z.x1) ∧ W.cell? ⟨g9, 2, none⟩ = some (.int .i64 z.x2) ∧ W.cell? ⟨g9, 3, none⟩ = some (.int .i64 z.x3) ∧
           W.cell? ⟨pd.block, pd.off + 3, none⟩ = some (.int .i64 t0.m.x0) ∧ W.cell? ⟨pd.block, pd.off + 3 + 1, none⟩ = some (.int .i64 t0.m.x1) ∧ W.cell? ⟨pd.block, pd.off + 3 + 2, none⟩ = some (.int .i64 t0.m.x2) ∧ W.cell? ⟨pd.block, pd.off + 3 + 3, none⟩ = some (.int .i64 t0.m.x3))
        (first
         | with_reducible exact SO2.out _ (.refl _ _)
         | with_reducible exact SO2.out _ (Below.refl _ _).drew
         | with_reducible exact SO2.out _ hB10
         | fail)
        (first
         | (go_at_call 26; have hB := ‹Hd (Below W9.heap.size W9 _) ∧ _›.1; with_reducible refine (CC.out _).mono ?_; rintro e w10 ⟨rfl, hb⟩
            have hB10 := hB.out.trans (hb.mono hB.out.size))
         | fail)
       all_goals
        have HB11 := Hd.mk (goes HBZ.out hB10)
        go_wp2_with fail
        go_roundw
        case measure => first | (simp [intOf]; done) | (simp [intOf]; omega)
        case rel => exact ⟨i + 1, by go_num, by omega, HB11⟩
end Go.Proofs.YtjanagclahkfdaaGreat
