/- Parts of the proof, joined: what each says stands at its head. -/
import Derived.Test.YtjanagclahkfdaaGreatM43
import Derived.Test.YtjanagclahkfdaaGreatM28
set_option linter.unusedVariables false
set_option linter.unusedSimpArgs false
set_option maxHeartbeats 24000000
set_option maxRecDepth 100000
namespace Go.Proofs.YtjanagclahkfdaaGreat
open Go.RowKit
theorem same_of {b0 : Nat} {R T : Option Addr} {rc tc : Nat} {r t : List TermD} {w : World} (e : r = t) (h : RPol w b0 R r) (hc : r.length ≤ rc) (hs : shortP r) (h' : RPol w b0 T t) (hd : t.length ≤ tc) :
    Calls Tryz.prog 20 #[.slice R r.length rc, .slice T t.length tc] w fun e w' => e = .returned (.bool true) ∧ Below w.heap.size w w' := by
 subst e
 exact same_call' h hc hs h' hd
theorem mem3 {α : Type} {p : α → Prop} {a b c : α} (ha : p a) (hb : p b) (hc : p c) : ∀ x ∈ [a, b, c], p x := fun x hx => by
 simp only [List.mem_cons, List.not_mem_nil, or_false] at hx
 rcases hx with rfl | rfl | rfl
 ·exact ha
 ·exact hb
 ·exact hc
theorem linQ_drop (f : MonD → Rat) {l qs : List (List TermD)} {i : Nat} {b q : List TermD} (hb : l[i]? = some b) (hq : qs[i]? = some q) : linQ f (l.drop i) (qs.drop i) = linP f b q + linQ f (l.drop (i + 1)) (qs.drop (i + 1)) := by
 obtain ⟨h1, e1⟩ := List.getElem?_eq_some_iff.1 hb
 obtain ⟨h2, e2⟩ := List.getElem?_eq_some_iff.1 hq
 rw [List.drop_eq_getElem_cons h1, List.drop_eq_getElem_cons h2, e1, e2]
 rfl
theorem law_DivideBack (a0 : Int) (SA SB SC SD SE SF SG SH : Option Addr) (sa sb sc sd se sf sg sh : Nat) (ns ns' ns'' ns3 : List Int) (ms ms' ms'' ms3 : List (Int × Int × Int)) (w : World) (h0 : 0 ≤ a0) (h1 : a0 ≤ 255) (h : RSm w SA sa SB sb ns ms) (h' : RSm w SC sc SD sd ns' ms') (h'' : RSm w SE se SF sf ns'' ms'') (h3 : RSm w SG sg SH sh ns3 ms3) :
    Calls Tryz.prog 4 #[.int .u8 a0, .agg #[.slice SA ns.length sa, .slice SB ms.length sb], .agg #[.slice SC ns'.length sc, .slice SD ms'.length sd, .slice SE ns''.length se, .slice SF ms''.length sf, .slice SG ns3.length sg, .slice SH ms3.length sh]] w fun e w' => e = .returned (.bool true) ∧ Below w.heap.size w w' := by
 have ho := oOk_mod3 h0
 obtain ⟨o, rO⟩ : ∃ o, a0 % 3 = o := ⟨_, rfl⟩
 rw [rO] at ho
 obtain ⟨P, hP, CM⟩ := made12_call ho h
 obtain ⟨Q, hQ, CM'⟩ := made12_call ho h'
 obtain ⟨R, hR, CM''⟩ := made12_call ho h''
 obtain ⟨S, hS, CM3⟩ := made12_call ho h3
 have CP := Hd.mk CM
 have CQ := Hd.mk CM'
 have CR := Hd.mk CM''
 have CT := Hd.mk CM3
 have HP := Hd.mk hP
 have HQ := Hd.mk hQ
 have HR := Hd.mk hR
 have HS := Hd.mk hS
 have CS := Hd.mk law12_shown
 have HO := Hd.mk ho
 clear h h' h'' h3 CM CM' CM'' CM3 hP hQ hR hS ho
 go_enter Tryz.func4, Tryz.ntmps4
 go_upto_region 1 with (fail)
 refine wp_gen (fun W => Bo2 w.heap.size w.heap.size (w.heap.size + 1) w W 38 39 #[.slice SA ns.length sa, .slice SB ms.length sb] #[.slice SC ns'.length sc, .slice SD ms'.length sd, .slice SE ns''.length se, .slice SF ms''.length sf, .slice SG ns3.length sg, .slice SH ms3.length sh]) (Bo2.mk2 w _ _ _ _) ?_
 intro W BX
 generalize w.heap.size + 1 = g2 at BX ⊢
 obtain ⟨q0, q1⟩ := BX.out.k1.two'
 go_wp2_with fail
 clear q0 q1
 refine (CP.out _ BX.out.below).mono ?_
 rintro e w1 ⟨A1, c1, rfl, hc1, hr, hb⟩
 have BX1 := Hd.mk (BX.out.up hb)
 have HP1 := Hd.mk hr
 clear hb hr BX CP
 have SO := Hd.mk (fun W' (hB : Bo2 w.heap.size w.heap.size g2 w W' 38 39 #[.slice SA ns.length sa, .slice SB ms.length sb] #[.slice SC ns'.length sc, .slice SD ms'.length sd, .slice SE ns''.length se, .slice SF ms''.length sf, .slice SG ns3.length sg, .slice SH ms3.length sh]) => And.intro (Hd.mk hB) hB.k2.six')
 go_wp2_with fail
 go_region_held3 (fun w' => Hd (Bo2 w.heap.size w.heap.size g2 w w' 38 39 #[.slice SA ns.length sa, .slice SB ms.length sb] #[.slice SC ns'.length sc, .slice SD ms'.length sd, .slice SE ns''.length se, .slice SF ms''.length sf, .slice SG ns3.length sg, .slice SH ms3.length sh]) ∧ (w'.cell? ⟨g2, 0, none⟩ = some (.slice SC ns'.length sc) ∧ w'.cell? ⟨g2, 1, none⟩ = some (.slice SD ms'.length sd) ∧ w'.cell? ⟨g2, 2, none⟩ = some (.slice SE ns''.length se) ∧ w'.cell? ⟨g2, 3, none⟩ = some (.slice SF ms''.length sf) ∧ w'.cell? ⟨g2, 4, none⟩ = some (.slice SG ns3.length sg) ∧ w'.cell? ⟨g2, 5, none⟩ = some (.slice SH ms3.length sh)))
  (first
   | with_reducible exact SO.out _ BX1.out
   | with_reducible exact SO.out _ BX1.out.d1
   | with_reducible exact SO.out _ BX2.out
   | with_reducible exact SO.out _ BX3.out
   | with_reducible exact SO.out _ BX4.out
   | with_reducible exact SO.out _ (BX4.out.al _)
   | fail)
  (first
   | (go_at_call 21; with_reducible refine (CQ.out _ BX1.out.d1.below).mono ?_; rintro e w2 ⟨A2, c2, rfl, hc2, hr, hb⟩
      have BX2 := Hd.mk (BX1.out.d1.up hb)
      have HP2 := Hd.mk (HP1.out.up (goes (Below.refl _ _).drew hb))
      have HQ2 := Hd.mk hr
      clear hr)
   | (go_at_call 21; with_reducible refine (CR.out _ BX2.out.below).mono ?_; rintro e w3 ⟨A3, c3, rfl, hc3, hr, hb⟩
      have BX3 := Hd.mk (BX2.out.up hb)
      have HP3 := Hd.mk (HP2.out.up hb)
      have HQ3 := Hd.mk (HQ2.out.up hb)
      have HR3 := Hd.mk hr
      clear hr)
   | (go_at_call 21; with_reducible refine (CT.out _ BX3.out.below).mono ?_; rintro e w4 ⟨A4, c4, rfl, hc4, hr, hb⟩
      have BX4 := Hd.mk (BX3.out.up hb)
      have HP4 := Hd.mk (HP3.out.up hb)
      have HQ4 := Hd.mk (HQ3.out.up hb)
      have HR4 := Hd.mk (HR3.out.up hb)
      have HS4 := Hd.mk hr
      clear hr)
   | fail)
 all_goals
  go_upto_region 4 with (fail)
  refine wp_gen (fun W => Below w.heap.size w W ∧ RPol W w.heap.size A1 P ∧ RPols W w.heap.size (some ⟨w4.heap.size, 0, none⟩) [Q, R, S]) ⟨BX4.out.below.alloc BX4.out.below.size _, HP4.out.up (below1 _ _), rpols_bk3 (Bk.new_ _ _ _) (HQ4.out.up (below1 _ _)) (HR4.out.up (below1 _ _)) (HS4.out.up (below1 _ _)) hc2 hc3 hc4⟩ ?_
  intro W4 H4
  generalize (⟨w4.heap.size, 0, none⟩ : Addr) = ga at H4 ⊢
  have HB5 := Hd.mk H4.out.1
  have HP5 := Hd.mk H4.out.2.1
  have HL5 := Hd.mk H4.out.2.2
  clear H4 BX1 BX2 BX3 BX4 HP1 HP2 HQ2 HP3 HQ3 HR3 SO CQ CR CT HP4 HQ4 HR4 HS4
  have hcl : ∀ b ∈ [Q, R, S], CP o b := mem3 HQ.out.cp HR.out.cp HS.out.cp
  have hsl : shortPs [Q, R, S] := ⟨by simp, mem3 (smP_short HQ.out) (smP_short HR.out) (smP_short HS.out)⟩
  have HSP := Hd.mk (smP_short HP.out)
  have HPC := Hd.mk HP.out.cp
  have hll : [Q, R, S].length = 3 := rfl
  obtain ⟨l, hL⟩ : ∃ l, [Q, R, S] = l := ⟨_, rfl⟩
  rw [hL] at HL5 hcl hsl hll
  have HG := Hd.mk (splitD_good (o := o) HP.out.cp hcl)
  have HER := Hd.mk (splitD_err (o := o) (p := P) (l := l))
  have HSS := Hd.mk (splitD_short (o := o) HSP.out hsl)
  obtain ⟨⟨E, qs, r⟩, he⟩ : ∃ X, splitD o P l = X := ⟨_, rfl⟩
  have CD := Hd.mk (split_call HSP.out hsl he W4 A1 (some ga) c1 3 HB5.out.size HP5.out hc1 HL5.out (by omega))
  rw [he] at HG HER HSS
  dsimp only at HG HER HSS
  rw [hll] at CD
  have HCL := Hd.mk hcl
  have HSL := Hd.mk hsl
  have HLL := Hd.mk hll
  clear he hL hcl hsl hll HP HQ HR HS
  go_wp2_with fail
  refine CD.out.mono ?_
  rintro e w5 ⟨Q5, q5, A5, c5, rfl, hq5, hc5, hrq, hr, hb⟩
  have HB6 := Hd.mk (goes HB5.out hb)
  have HP6 := Hd.mk (HP5.out.up hb)
  have HL6 := Hd.mk (HL5.out.up hb)
  have HQ6 := Hd.mk hrq
  have HR6 := Hd.mk hr
  clear hb hrq hr CD HB5 HP5 HL5
  go_wp2_with fail
  refine (CS.out _).mono ?_
  rintro e w6 ⟨rfl, hb⟩
  have HB7 := Hd.mk (goes HB6.out hb)
  have HP7 := Hd.mk (HP6.out.up hb)
  have HL7 := Hd.mk (HL6.out.up hb)
  have HQ7 := Hd.mk (HQ6.out.up hb)
  have HR7 := Hd.mk (HR6.out.up hb)
  clear hb HB6 HP6 HL6 HQ6 HR6
  by_cases hE : E = 0
  case neg =>
   have e1 : (E != 0) = true := by rw [bne_iff_ne]; exact hE
   have e2 : ((qs.length : Int) == 0) = true := by have := congrArg Prod.fst (HER.out hE); dsimp only at this; rw [this]; rfl
   have e3 : ((r.length : Int) == 0) = true := by have := congrArg Prod.snd (HER.out hE); dsimp only at this; rw [this]; rfl
   clear hE HG HER
   go_wp2_with fail
   refine (CS.out _).mono ?_
   rintro e w7 ⟨rfl, hb⟩
   have HB8 := Hd.mk (goes HB7.out hb)
   clear hb
   go_wp2_with fail
   go_ret
   exact ⟨rfl, HB8.out⟩
  have e1 : (E != 0) = false := by rw [hE]; rfl
  obtain ⟨qs', r', e2, I⟩ := HG.out hE
  obtain ⟨rfl, rfl⟩ : qs' = qs ∧ r' = r := by
   have h1 := congrArg Prod.snd e2
   simp only [Prod.mk.injEq] at h1
   exact ⟨h1.1.symm, h1.2.symm⟩
  have HI := Hd.mk I
  have hql : qs'.length = 3 := I.ql.trans HLL.out
  have e3 : ((qs'.length : Int) != 3) = false := by rw [bne_eq_false_iff_eq]; omega
  have HQL := Hd.mk hql
  have hl3 := HLL.out
  have HIN : Hd (CP o r' ∧ shortP r' ∧ ∀ f, lin f r' + linQ f (l.drop 0) (qs'.drop 0) = lin f P) := ⟨I.cr, HSS.out.2, fun f => by
   have := I.sum f
   simp only [lin, List.drop_zero] at this ⊢
   rw [← this]
   grind⟩
  clear hE HG HER e2 I hql
  go_upto_region 10 with (fail)
  go_wp2_with fail
  go_loopw [13, 14] (fun v13 v14 wr => ∃ (i : Nat) (s : List TermD) (As : Option Addr) (cs : Nat), v13 = .slice As s.length cs ∧ v14 = .int .i64 i ∧ i ≤ 3 ∧ s.length ≤ cs ∧ Hd (Below w6.heap.size w6 wr) ∧ Hd (RPol wr w.heap.size As s) ∧ Hd (CP o s ∧ shortP s ∧ ∀ f, lin f s + linQ f (l.drop i) (qs'.drop i) = lin f P)) (fun _ v _ => 3 - (intOf v).toNat)
  case atStart => exact ⟨0, r', _, _, rfl, rfl, by omega, hc5, ⟨.refl _ _⟩, HR7, HIN⟩
  case round =>
   clear HIN HR7
   obtain ⟨i, s, As, cs, rfl, rfl, hi, hcs, HB, HRS, HC⟩ := hrel
   by_cases hlt : i < 3
   ·have i1 : (i : Int) < 3 := by omega
    have i0 : (0 : Int) ≤ i := by omega
    have i4 : (i : Int) < qs'.length := by have := HQL.out; omega
    have i5 : i < qs'.length := by have := HQL.out; omega
    obtain ⟨la, ba, bc, b, ela, _, hbi, hbcell, hbc, hbr⟩ := (HL7.out.up HB.out).get (show i < l.length by omega)
    obtain ⟨qa, ka, kc, q, eqa, _, hqi, hqcell, hqc, hqr⟩ := (HQ7.out.up HB.out).get i5
    injection ela with ela
    subst ela eqa
    have hq3 := HI.out.cq hbi.out hqi.out
    have hbc' := HCL.out b (List.mem_of_getElem? hbi.out)
    have sb := HSL.out.2 b (List.mem_of_getElem? hbi.out)
    have sq := HSS.out.1.2 q (List.mem_of_getElem? hqi.out)
    have HST := Hd.mk (back_step HC.out.1 hbc' hq3.1 hq3.2)
    have HLQ := Hd.mk (fun f => linQ_drop f hbi.out hqi.out)
    have CM := Hd.mk (fun W (hB : Below wr.heap.size wr W) => rpol_Mul w.heap.size o ba ka bc kc b q W (Nat.le_trans HB7.out.size (Nat.le_trans HB.out.size hB.size)) (hbr.out.up hB) hbc sb (hqr.out.up hB) hqc sq)
    have HXS : Hd (shortP (polMul o b q).2) := ⟨polMul_short⟩
    obtain ⟨⟨X1, X⟩, hX⟩ : ∃ X, polMul o b q = X := ⟨_, rfl⟩
    rw [hX] at HST CM HXS
    dsimp only at HST CM HXS
    have SO := Hd.mk (fun W (hB : Below wr.heap.size wr W) => And.intro (Hd.mk hB) (And.intro (cell_up hbcell hB) (cell_up hqcell hB)))
    clear hX hq3 hbc' sb sq hbi hqi hbr hqr hbcell hqcell
    go_wp2_with fail
    go_region_held3 (fun w' => Hd (Below wr.heap.size wr w') ∧ w'.cell? (ga.add i) = some (.slice ba b.length bc) ∧ w'.cell? (qa.add i) = some (.slice ka q.length kc))
     (first
      | with_reducible exact SO.out _ (.refl _ _)
      | with_reducible exact SO.out _ (Below.refl _ _).drew
      | with_reducible exact SO.out _ hB8
      | fail)
     (first
      | (go_at_call 22; have hB := ‹Hd (Below wr.heap.size wr _) ∧ _›.1; with_reducible refine (CM.out _ hB.out).mono ?_; rintro e w8 ⟨A8, c8, rfl, hc8, hr, hb⟩
         have hB8 := hB.out.trans (hb.mono hB.out.size)
         have HX8 := Hd.mk hr)
      | fail)
    all_goals
     have HB8 := Hd.mk hB8
     have HRS8 := Hd.mk (HRS.out.up hB8)
     have HPS := Hd.mk (rpols_bk2 (p := s) (q := X) (Bk.new_ w8 23 _) (HRS8.out.up (below1 _ _)) (HX8.out.up (below1 _ _)) hcs hc8)
     have hss : shortPs [s, X] := ⟨by simp, fun p hp => by
      simp only [List.mem_cons, List.not_mem_nil, or_false] at hp
      rcases hp with rfl | rfl
      ·exact HC.out.2.1
      ·exact HXS.out⟩
     have HYS := Hd.mk (polAdd_short (o := o) hss.2)
     have CA := Hd.mk (rpol_Add w.heap.size o (some ⟨w8.heap.size, 0, none⟩) 2 [s, X] _ (Nat.le_trans HB7.out.size (Nat.le_trans HB.out.size (Nat.le_trans HB8.out.size (below1 _ _).size))) HPS.out (by simp) (by simp) hss)
     obtain ⟨⟨Y1, Y⟩, hY⟩ : ∃ Y, polAdd o [s, X] = Y := ⟨_, rfl⟩
     rw [hY] at CA HYS HST
     dsimp only at CA HYS HST
     simp only [List.length_cons, List.length_nil, Nat.zero_add] at CA
     clear hY hss HPS SO CM
     go_wp2_with fail
     refine CA.out.mono ?_
     rintro e w9 ⟨A9, c9, rfl, hc9, hr, hb⟩
     have HB9 := Hd.mk (goes (goes HB.out HB8.out) (goes (below1 _ _) hb))
     have HY9 := Hd.mk hr
     clear hr hb CA HB8 HRS8
     by_cases hx : X1 = 0
     ·have e4 : (X1 != 0) = false := by rw [hx]; rfl
      have e5 : (X1 == 0) = true := by rw [hx]; rfl
      by_cases hy : Y1 = 0
      ·have e6 : (Y1 != 0) = false := by rw [hy]; rfl
       obtain ⟨y1, y2⟩ := HST.out.2 hx hy
       have HN : Hd (CP o Y ∧ shortP Y ∧ ∀ f, lin f Y + linQ f (l.drop (i + 1)) (qs'.drop (i + 1)) = lin f P) := ⟨y1, HYS.out, fun f => by
        rw [y2 f, ← HC.out.2.2 f, HLQ.out f]
        grind⟩
       clear hx hy y1 y2
       go_wp2_with fail
       go_roundw
       case measure => first | (simp [intOf]; done) | (simp [intOf]; omega)
       case rel => exact ⟨i + 1, Y, _, _, rfl, by go_num, by omega, hc9, HB9, HY9, HN⟩
      ·have e6 : (Y1 != 0) = true := by rw [bne_iff_ne]; exact hy
       clear hx hy
       go_wp2_with fail
       go_ret
       exact ⟨rfl, goes HB7.out HB9.out⟩
     ·have e4 : (X1 != 0) = true := by rw [bne_iff_ne]; exact hx
      have e5 : (X1 == 0) = false := by rw [beq_eq_false_iff_ne]; exact hx
      rcases HST.out.1 with h | h | h
      ·exact absurd h hx
      ·have e6 : (X1 == 90) = true := by rw [h]; rfl
       clear hx h HST
       go_wp2_with fail
       go_ret
       exact ⟨rfl, goes HB7.out HB9.out⟩
      ·have e6 : (X1 == 90) = false := by rw [h]; rfl
       have e7 : (X1 == 21) = true := by rw [h]; rfl
       clear hx h HST
       go_wp2_with fail
       go_ret
       exact ⟨rfl, goes HB7.out HB9.out⟩
   ·obtain rfl : i = 3 := by omega
    have hsp : s = P := HC.out.1.eq HPC.out fun f => by
     have := HC.out.2.2 f
     rw [List.drop_eq_nil_of_le (by omega)] at this
     simp only [linQ] at this
     rw [← this]
     grind
    have CC := Hd.mk (same_of hsp HRS.out hcs HC.out.2.1 (HP7.out.up HB.out) hc1)
    clear hsp
    go_wp2_with fail
    refine CC.out.mono ?_
    rintro e w8 ⟨rfl, hb⟩
    have HB8 := Hd.mk (goes (goes HB7.out HB.out) hb)
    clear hb
    go_wp2_with fail
    go_ret
    exact ⟨rfl, HB8.out⟩
end Go.Proofs.YtjanagclahkfdaaGreat
