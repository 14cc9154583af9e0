/- Parts of the proof, joined: each theorem says what it shows. -/
import Derived.Test.YtgjkgkgieeoalaaGreatE01
import Derived.Test.YtgjkgkgieeoalaaGreatE35
import Derived.Test.YtgjkgkgieeoalaaGreatE31
import Derived.Test.YtgjkgkgieeoalaaGreatE23
import Derived.Test.YtgjkgkgieeoalaaGreatE34
import Derived.Test.YtgjkgkgieeoalaaGreatE06
set_option linter.unusedVariables false
set_option linter.unusedSimpArgs false
set_option maxHeartbeats 24000000
set_option maxRecDepth 100000
namespace Go.Proofs.YtgjkgkgieeoalaaGreat
open Go.RowKit
theorem raise_short {o : Int} {m : MonD} {p : List TermD} {s : Int} (h : shortP p) : shortP (raiseD o m p s).2 := by
 unfold raiseD
 split
 ·exact shortP_nil
 ·split
  ·exact shortP_nil
  ·split
   ·exact shortP_nil
   ·exact polTimes_shortP o h
theorem cross_short {o : Int} {p q : List TermD} (hp : shortP p) (hq : shortP q) : shortP (crossD o p q).2 := by
 unfold crossD
 split
 ·exact shortP_nil
 ·split
  ·split
   ·exact shortP_nil
   ·split
    ·exact shortP_nil
    ·refine polAdd_short fun r hr => ?_
     simp only [List.mem_cons, List.not_mem_nil, or_false] at hr
     rcases hr with rfl | rfl
     ·exact raise_short hp
     ·exact raise_short hq
  ·exact shortP_nil
theorem crossAll_cons (o : Int) (b : List (List TermD)) (x : Int × Int) (r : List (Int × Int)) : crossAll o b (x :: r) =
    if (crossD o (b.getD x.1.toNat []) (b.getD x.2.toNat [])).1 ≠ 0 then ((crossD o (b.getD x.1.toNat []) (b.getD x.2.toNat [])).1, false) else
    if (splitD o (crossD o (b.getD x.1.toNat []) (b.getD x.2.toNat [])).2 b).1 ≠ 0 then ((splitD o (crossD o (b.getD x.1.toNat []) (b.getD x.2.toNat [])).2 b).1, false) else
    if (splitD o (crossD o (b.getD x.1.toNat []) (b.getD x.2.toNat [])).2 b).2.2.length ≠ 0 then (0, false) else crossAll o b r := rfl
theorem reduce_Groebner (b0 b off c : Nat) (o : Int) (ps : List (List TermD)) (w : World) (ho : oOk o) (hb0 : b0 ≤ w.heap.size) (h : RPols w b0 (some ⟨b, off, none⟩) ps) (hcp : ∀ p ∈ ps, CP o p) (hl : ps.length ≤ 12) :
    Calls Tryz.prog 42 #[.int .i64 o, .slice (some ⟨b, off, none⟩) ps.length c] w fun e w' => e = .returned (.tuple #[.bool (groebD o ps).2, .int .i64 (groebD o ps).1]) ∧ Below w.heap.size w w' := by
 have hbs : basisD o ps = true := by simpa using basis_of ho hcp (by omega)
 have CB := aa (fun W (hB : Below w.heap.size w W) => reduce_basis b0 o (some ⟨b, off, none⟩) c ps W (h.up hB) (by omega) fun p hp => cp_short (hcp p hp))
 have CF := aa (fun W (hB : Below w.heap.size w W) => reduce_full b0 b off c ps W (ah hb0 hB.size) (h.up hB) (by omega))
 rw [hbs] at CB
 have HPZ := aa (full_pz hcp)
 have HB0 := aa hb0
 have hfl : (fullD ps).length ≤ 12 := ah (List.length_filter_le _ _) hl
 have HGR : Hd (groebD o ps = crossAll o (fullD ps) (allP (fullD ps).length)) := ⟨by unfold groebD; rw [if_neg (by rw [hbs]; simp)]⟩
 clear h hbs hcp hl hb0
 generalize groebD o ps = GR at HGR ⊢
 go_enter Tryz.func42, Tryz.ntmps42
 go_wp2_with fail
 refine (CB.out _ (.refl _ _)).mono ?_
 rintro e w2 ⟨rfl, hb⟩
 have HB2 := aa hb
 clear hb CB
 go_wp2_with fail
 refine (CF.out _ HB2.out).mono ?_
 rintro e w3 ⟨g, cap, S, rfl, hr, hb⟩
 have HS3 := aa hr.all
 have HB3 := aa (goes HB2.out hb)
 obtain ⟨M0, hM0⟩ : ∃ M0, fullD ps = M0 := ⟨_, rfl⟩
 rw [hM0] at HS3 HPZ HGR hfl ⊢
 have HSP : Hd (shortPs M0) := ⟨by omega, fun p hp => cp_short (HPZ.out p hp).cp⟩
 have HLE : Hd (M0.length ≤ cap) := ⟨by rw [← hM0]; exact hr.le⟩
 clear hb hr CF HB2 hM0
 generalize (⟨g, 0, none⟩ : Addr) = ga at HS3 ⊢
 have CN := aa (pair_All M0.length)
 have HA := aa (fun {i : Nat} {x y : Int} => allP_at (k := M0.length) (by omega) (i := i) (x := x) (y := y))
 have HFL := aa hfl
 have hlen : ((allP M0.length).length : Int) < 1000 := by
  have h1 := allP_len (k := M0.length) (by omega)
  have h2 := Nat.mul_le_mul hfl (show M0.length - 1 ≤ 12 by omega)
  omega
 generalize allP M0.length = ps2 at CN HA HGR hlen
 go_wp2_with fail
 refine (CN.out w3).mono ?_
 rintro e w4 ⟨A4, c4, rfl, hr, hb⟩
 have HP4 := aa hr
 have HS4 := aa (HS3.out.up hb)
 have HB4 := aa (goes HB3.out hb)
 clear hr hb CN HS3 HB3
 go_wp2_with fail
 go_loopw [20] (fun v wr => ∃ i : Nat, v = .int .i64 i ∧ i ≤ ps2.length ∧ Hd (Below w4.heap.size w4 wr) ∧ Hd (GR = crossAll o M0 (ps2.drop i))) (fun v _ => ps2.length - (intOf v).toNat)
 case atStart => exact ⟨0, rfl, by omega, ⟨.refl _ _⟩, HGR⟩
 case round =>
  clear HGR
  obtain ⟨i, rfl, hi, HBi, HG⟩ := hrel
  by_cases hlt : i < ps2.length
  ·have i1 : (i : Int) < ps2.length := by omega
   have i3 : (0 : Int) ≤ i := by omega
   obtain ⟨ad, x, y, rfl, -, hx, c0, c1⟩ := (HP4.out.up HBi.out).get hlt
   obtain ⟨x0, xy, yk⟩ := HA.out hx.out
   obtain ⟨a, rfl⟩ : ∃ a : Nat, x = a := ⟨x.toNat, by omega⟩
   obtain ⟨b, rfl⟩ : ∃ b : Nat, y = b := ⟨y.toNat, by omega⟩
   have a1 : (a : Int) < M0.length := by omega
   have b1 : (b : Int) < M0.length := by omega
   have a0 : (0 : Int) ≤ a := by omega
   have b00 : (0 : Int) ≤ b := by omega
   have HX : Hd (crossAll o M0 (ps2.drop i) = crossAll o M0 (((a : Int), (b : Int)) :: ps2.drop (i + 1))) := ⟨by
    obtain ⟨h1, h2⟩ := List.getElem?_eq_some_iff.1 hx.out
    rw [List.drop_eq_getElem_cons h1, h2]⟩
   clear x0 xy yk hx
   go_upto_region 7 with (fail)
   refine wp_gen (fun W => Below wr.heap.size wr W ∧ Bk W wr.heap.size 23 #[.int .i64 a, .int .i64 b]) ⟨(ag _ _).alloc (ae _) _, Bk.new_ _ _ _⟩ ?_
   intro W1 H1
   obtain ⟨d0, d1⟩ := Bk.two' H1.out.2
   have HB1 := aa (goes HBi.out H1.out.1)
   have HS1 := aa (HS4.out.up HB1.out)
   clear H1
   obtain ⟨ga', pa, pc, p, e, _, hp, ca, hpc, hpr⟩ := HS1.out.get (show a < M0.length by omega)
   obtain rfl : ga = ga' := by injection e
   obtain ⟨ga', qa, qc, q, e', _, hq, cb, hqc, hqr⟩ := HS1.out.get (show b < M0.length by omega)
   obtain rfl : ga = ga' := by injection e'
   clear e e'
   have hps := HSP.out.2 p (List.mem_of_getElem? hp.out)
   have hqs := HSP.out.2 q (List.mem_of_getElem? hq.out)
   have CX := aa (fun W (hB : Below W1.heap.size W1 W) => pair_Cross b0 o pa qa pc qc p q W (ah HB0.out (goes (goes HB4.out HB1.out) hB).size) (hpr.out.up hB) (hqr.out.up hB) hpc hqc hps hqs)
   have HCS := aa (cross_short (o := o) hps hqs)
   have HX2 : Hd (GR = if (crossD o p q).1 ≠ 0 then ((crossD o p q).1, false) else
       if (splitD o (crossD o p q).2 M0).1 ≠ 0 then ((splitD o (crossD o p q).2 M0).1, false) else
       if (splitD o (crossD o p q).2 M0).2.2.length ≠ 0 then (0, false) else crossAll o M0 (ps2.drop (i + 1))) := ⟨by
    rw [HG.out, HX.out, crossAll_cons]
    have h1 : M0.getD a [] = p := by rw [List.getD_eq_getElem?_getD, hp.out]; rfl
    have h2 : M0.getD b [] = q := by rw [List.getD_eq_getElem?_getD, hq.out]; rfl
    simp only [Int.toNat_natCast, h1, h2]⟩
   obtain ⟨C, hC⟩ : ∃ C, crossD o p q = C := ⟨_, rfl⟩
   rw [hC] at CX HCS HX2
   clear hC hp hq hpr hqr hps hqs HX HG
   have SO := aa (fun W (hB : Below W1.heap.size W1 W) => af (aa hB) (af (cell_up d0 hB) (af (cell_up d1 hB) (af (cell_up ca hB) (cell_up cb hB)))))
   go_region_held3 (fun w' => Hd (Below W1.heap.size W1 w') ∧ w'.cell? ⟨wr.heap.size, 0, none⟩ = some (.int .i64 a) ∧ w'.cell? ⟨wr.heap.size, 1, none⟩ = some (.int .i64 b) ∧ w'.cell? (ga.add a) = some (.slice pa p.length pc) ∧ w'.cell? (ga.add b) = some (.slice qa q.length qc))
    (first
     | with_reducible exact SO.out _ (.refl _ _)
     | with_reducible exact SO.out _ (ag _ _).drew
     | with_reducible exact SO.out _ hB8
     | fail)
    (first
     | (go_at_call 30; have hB := ‹Hd (Below W1.heap.size W1 _) ∧ _›.1; with_reducible refine (CX.out _ hB.out).mono ?_; rintro e w8 ⟨A8, c8, rfl, hc8, hr, hb⟩
        have hB8 := hB.out.trans (hb.mono hB.out.size)
        have HX8 := aa hr)
     | fail)
   all_goals
    have HB8 := aa (goes HB1.out hB8)
    have HS8 := aa (HS1.out.up hB8)
    clear SO CX hB8 d0 d1 ca cb HS1
    by_cases hC0 : C.1 = 0
    case neg =>
     have e1 : (C.1 == 0) = false := by rw [beq_eq_false_iff_ne]; exact hC0
     have e2 : (C.1 != 0) = true := by rw [bne_iff_ne]; exact hC0
     have HE : Hd (GR = (C.1, false)) := ⟨by rw [HX2.out, if_pos hC0]⟩
     clear hC0 HX2
     go_wp2_with fail
     go_ret2
     rw [HE.out]
     exact ⟨rfl, goes HB4.out HB8.out⟩
    have e1 : (C.1 == 0) = true := by rw [hC0]; rfl
    have HX3 := aa (HX2.out.trans (if_neg (by simpa using hC0)))
    have CR := aa (div_Rest b0 o A8 (some ga) c8 cap C.2 M0 w8 (ah HB0.out (goes HB4.out HB8.out).size) HX8.out hc8 HCS.out HS8.out HLE.out HSP.out)
    obtain ⟨D, hD⟩ : ∃ D, splitD o C.2 M0 = D := ⟨_, rfl⟩
    rw [hD] at CR HX3
    clear hD hC0 HX2 HX8 HS8 HCS
    go_wp2_with fail
    refine CR.out.mono ?_
    rintro e w9 ⟨A9, c9, rfl, -, -, hb⟩
    have HB9 := aa (goes HB8.out hb)
    clear hb CR
    by_cases hD0 : D.1 = 0
    case neg =>
     have e2 : (D.1 != 0) = true := by rw [bne_iff_ne]; exact hD0
     have HE : Hd (GR = (D.1, false)) := ⟨by rw [HX3.out, if_pos hD0]⟩
     clear hD0 HX3
     go_wp2_with fail
     go_ret2
     rw [HE.out]
     exact ⟨rfl, goes HB4.out HB9.out⟩
    have e2 : (D.1 != 0) = false := by rw [hD0]; rfl
    have HX4 := aa (HX3.out.trans (if_neg (by simpa using hD0)))
    by_cases hL : D.2.2.length = 0
    case neg =>
     have l3 : 0 < D.2.2.length := by omega
     have HE : Hd (GR = (0, false)) := ⟨by rw [HX4.out, if_pos hL]⟩
     have HD0 := aa hD0
     clear hD0 HX3 hL HX4
     go_wp2_with fail
     go_ret2
     rw [HE.out, HD0.out]
     exact ⟨rfl, goes HB4.out HB9.out⟩
    have l3 : ¬ 0 < D.2.2.length := by omega
    have HX5 := aa (HX4.out.trans (if_neg (by simpa using hL)))
    clear hL hD0 HX3 HX4
    go_wp2_with fail
    go_roundw
    case measure => first | (simp [intOf]; done) | (simp [intOf]; omega)
    case rel => exact ⟨i + 1, by go_num, by omega, HB9, HX5⟩
  ·have i1 : ¬ (i : Int) < ps2.length := by omega
   have HE : Hd (GR = (0, true)) := ⟨by rw [HG.out, List.drop_of_length_le (by omega)]; rfl⟩
   go_wp2_with fail
   go_ret2
   rw [HE.out]
   exact ⟨rfl, goes HB4.out HBi.out⟩
theorem red_is {o : Int} {l R : List (List TermD)} (ho : oOk o) (h : ∀ p ∈ l, CP o p) (hR : RedIs o l 0 R) : ∀ i p, R[i]? = some p → IsOk o R i p := by
 obtain ⟨e1, _, e2⟩ := hR
 obtain ⟨p1, s1⟩ := e2 rfl
 obtain ⟨F, _, _, _⟩ := red_form h e1.symm
 exact fun i p hp => form_is ho (F.perm p1) s1 hp
theorem red_empty {o E : Int} {l R : List (List TermD)} (h : RedIs o l E R) (hr : redD o l = (0, [])) : E = 0 ∧ R = [] := by
 obtain ⟨e1, -, e2⟩ := h
 rw [hr] at e1 e2
 exact ⟨e1, List.perm_nil.1 (e2 e1).1⟩
theorem law_ReduceOne (a0 : Int) (SA SB : Option Addr) (sa sb : Nat) (ns : List Int) (ms : List (Int × Int × Int)) (w : World) (h0 : 0 ≤ a0) (h1 : a0 ≤ 255) (h : RSm w SA sa SB sb ns ms) :
    Calls Tryz.prog 11 #[.int .u8 a0, .agg #[.slice SA ns.length sa, .slice SB ms.length sb]] w fun e w' => e = .returned (.bool true) ∧ Below w.heap.size w w' := by
 have ho := oOk_mod3 h0
 obtain ⟨o, rO⟩ : ∃ o, a0 % 3 = o := ⟨_, rfl⟩
 rw [rO] at ho
 obtain ⟨P, hP, CM⟩ := made14_call ho h
 have CPM := aa CM
 have HP := aa hP
 have CS := aa law14_shown
 have HO := aa ho
 have SP := aa (smP_short hP)
 have HCP : Hd (∀ p ∈ [P], CP o p) := ⟨fun p hp => by
  simp only [List.mem_cons, List.not_mem_nil, or_false] at hp
  rw [hp]; exact hP.cp⟩
 have HG := aa (groeb_one hP)
 clear h CM hP ho
 go_enter Tryz.func11, Tryz.ntmps11
 go_upto_region 1 with (fail)
 refine wp_gen (fun W => Bo1 w.heap.size w.heap.size w W 83 #[.slice SA ns.length sa, .slice SB ms.length sb]) (Bo1.mk1 w _ _) ?_
 intro W BX
 obtain ⟨q0, q1⟩ := BX.out.k1.two'
 go_wp2_with fail
 refine (CPM.out _ BX.out.below).mono ?_
 rintro e w1 ⟨A1, c1, rfl, hc1, hr, hb⟩
 have HB1 := aa (goes BX.out.below hb)
 have HP1 := aa hr
 clear q0 q1 hb hr BX CPM
 have hbn : Below w1.heap.size w1 (w1.alloc (Obj.cells #[.slice A1 P.length c1] 25)) := below1 _ _
 have HB2 := aa (goes HB1.out hbn)
 have CG := aa (reduce_Groebner w.heap.size w1.heap.size 0 1 o [P] _ HO.out HB2.out.size (rpols_bk1 (p := P) (Bk.new_ w1 25 #[.slice A1 P.length c1]) (HP1.out.up hbn) hc1) HCP.out (by simp))
 rw [HG.out] at CG
 dsimp only [List.length_cons, List.length_nil] at CG
 have HP2 := aa (HP1.out.up hbn)
 clear hbn HP1 HB1
 go_wp2_with fail
 refine CG.out.mono ?_
 rintro e w3 ⟨rfl, hb⟩
 have HB3 := aa (goes HB2.out hb)
 have HP3 := aa (HP2.out.up hb)
 clear hb CG HP2 HB2
 have hbn : Below w3.heap.size w3 (w3.alloc (Obj.cells #[.slice A1 P.length c1] 25)) := below1 _ _
 have HB4 := aa (goes HB3.out hbn)
 have CD := aa (reduce_Reduced w.heap.size w3.heap.size 0 1 o [P] _ HO.out HB4.out.size (rpols_bk1 (p := P) (Bk.new_ w3 25 #[.slice A1 P.length c1]) (HP3.out.up hbn) hc1) HCP.out (by simp))
 dsimp only [List.length_cons, List.length_nil] at CD
 have HP4 := aa (HP3.out.up hbn)
 clear hbn HP3 HB3
 go_wp2_with fail
 refine CD.out.mono ?_
 rintro e w5 ⟨A5, c5, R, E, rfl, hred, -, hr, hg, hb⟩
 have HB5 := aa (goes HB4.out hb)
 have HP5 := aa (HP4.out.up hb)
 have HR5 := aa hr
 by_cases hne : P = []
 case pos =>
  subst hne
  obtain ⟨rfl, rfl⟩ := red_empty hred (red_none HO.out)
  clear hred hr hg hb CD HP4 HB4 HR5
  go_wp2_with fail
  refine (CS.out _).mono ?_
  rintro e w6 ⟨rfl, hb⟩
  have HB6 := aa (goes HB5.out hb)
  clear hb
  go_wp2_with fail
  go_ret
  exact ⟨rfl, HB6.out⟩
 have e1 : ((P.length : Int) == 0) = false := by have := List.length_pos_iff.2 hne; rw [beq_eq_false_iff_ne]; omega
 obtain ⟨rfl, hR⟩ := red_one hred (red_single HP.out hne)
 have HM0 := aa (monic_sm HP.out hne)
 have HOK := aa (red_is HO.out HCP.out hred)
 have HRC := aa (red_cp HCP.out hred).1
 obtain ⟨g, rfl⟩ := hg rfl
 have CMo := aa (fun W (hB : Below w5.heap.size w5 W) => rpol_Monic w.heap.size o A1 c1 P W (goes HB5.out hB).size (HP5.out.up hB) hc1 SP.out)
 rw [HM0.out] at CMo
 obtain ⟨M, hM⟩ : ∃ M, (polMonic o P).2 = M := ⟨_, rfl⟩
 rw [hM] at CMo hR
 subst hR
 have HMS := aa (cp_short (HRC.out M (by simp)))
 clear hred hr hb CD HP4 HB4 hne HM0 hM hg
 go_wp2_with fail
 refine (CS.out _).mono ?_
 rintro e w6 ⟨rfl, hb⟩
 have HB6 := aa (goes HB5.out hb)
 have HR6 := aa (HR5.out.up hb)
 have CM6 := aa (CMo.out w6 hb)
 clear hb CMo HR5 HB5
 go_wp2_with fail
 refine CM6.out.mono ?_
 rintro e w7 ⟨A7, c7, rfl, hc7, hr, hb⟩
 have HB7 := aa (goes HB6.out hb)
 have HR7 := aa (HR6.out.up hb)
 have HM7 := aa hr
 clear hb hr CM6 HR6 HB6
 have hbn : Below w7.heap.size w7 (w7.alloc (Obj.cells #[.slice A7 M.length c7] 25)) := below1 _ _
 have HB8 := aa (goes HB7.out hbn)
 have HR8 := aa (HR7.out.up hbn)
 have CE := aa (same_14 (c := c5) (d := 1) HR8.out HMS.out (rpols_bk1 (p := M) (Bk.new_ w7 25 #[.slice A7 M.length c7]) (HM7.out.up hbn) hc7))
 clear hbn
 go_wp2_with fail
 refine CE.out.mono ?_
 rintro e w9 ⟨rfl, hb⟩
 have HB9 := aa (goes HB8.out hb)
 have CI := aa (reduce_Is w.heap.size g 0 c5 o [M] w9 HO.out HB9.out.size (HR8.out.up hb) HRC.out (by simp) HOK.out)
 dsimp only [List.length_cons, List.length_nil] at CI
 clear hb CE
 go_wp2_with fail
 refine CI.out.mono ?_
 rintro e w10 ⟨rfl, hb⟩
 have HB10 := aa (goes HB9.out hb)
 clear hb
 go_wp2_with fail
 go_ret
 exact ⟨rfl, HB10.out⟩
end Go.Proofs.YtgjkgkgieeoalaaGreat
