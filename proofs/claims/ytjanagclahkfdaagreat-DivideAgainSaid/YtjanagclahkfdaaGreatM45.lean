/- Parts of the proof, joined: what each says stands at its head. -/
import Derived.Test.YtjanagclahkfdaaGreatM43
import Derived.Test.YtjanagclahkfdaaGreatM28
set_option linter.unusedVariables false
set_option linter.unusedSimpArgs false
set_option maxHeartbeats 24000000
set_option maxRecDepth 100000
namespace Go.Proofs.YtjanagclahkfdaaGreat
open Go.RowKit
theorem RPols.one {w : World} {b0 : Nat} {A : Option Addr} {q : List TermD} {l : List (List TermD)} (h : RPols w b0 A (q :: l)) : RPols w b0 A [q] := by
 obtain ⟨cs, h1, h2⟩ := h
 refine ⟨cs.take 1, by simpa using h1.pre (m := 1) (by simp), fun j p hj => ?_⟩
 match j, hj with
 | 0, hj =>
   obtain ⟨a, c, e, h3, h4⟩ := h2 0 p hj
   exact ⟨a, c, by rw [List.getElem?_take, if_pos (by omega)]; exact e, h3, h4⟩
 | n + 1, hj => cases hj
structure By2 (b0 g : Nat) (w0 w : World) (A1 : Option Addr) (P : List TermD) (A2 : Option Addr) (c2 : Nat) (Q : List TermD) (A3 : Option Addr) (c3 : Nat) (R : List TermD) : Prop where
 below : Below b0 w0 w
 sz : b0 ≤ w.heap.size
 kb : Bk w g 23 #[.slice A2 Q.length c2, .slice A3 R.length c3]
 p : RPol w b0 A1 P
 q : RPol w b0 A2 Q
 r : RPol w b0 A3 R
 hq : Q.length ≤ c2
 hr : R.length ≤ c3
theorem By2.up {b0 g c2 c3 : Nat} {w0 w w' : World} {A1 A2 A3 : Option Addr} {P Q R : List TermD} (h : By2 b0 g w0 w A1 P A2 c2 Q A3 c3 R) (hb : Below w.heap.size w w') : By2 b0 g w0 w' A1 P A2 c2 Q A3 c3 R :=
 ⟨h.below.trans (hb.mono h.sz), Nat.le_trans h.sz hb.size, h.kb.up hb, h.p.up hb, h.q.up hb, h.r.up hb, h.hq, h.hr⟩
theorem By2.pols {b0 g c2 c3 : Nat} {w0 w : World} {A1 A2 A3 : Option Addr} {P Q R : List TermD} (h : By2 b0 g w0 w A1 P A2 c2 Q A3 c3 R) : RPols w b0 (some ⟨g, 0, none⟩) [Q, R] := rpols_bk2 h.kb h.q h.r h.hq h.hr
theorem law_DivideAgain (a0 : Int) (SA SB SC SD SE SF : Option Addr) (sa sb sc sd se sf : Nat) (ns ns' ns'' : List Int) (ms ms' ms'' : List (Int × Int × Int)) (w : World) (h0 : 0 ≤ a0) (h1 : a0 ≤ 255) (h : RSm w SA sa SB sb ns ms) (h' : RSm w SC sc SD sd ns' ms') (h'' : RSm w SE se SF sf ns'' ms'') :
    Calls Tryz.prog 6 #[.int .u8 a0, .agg #[.slice SA ns.length sa, .slice SB ms.length sb], .agg #[.slice SC ns'.length sc, .slice SD ms'.length sd, .slice SE ns''.length se, .slice SF ms''.length sf]] w fun e w' => e = .returned (.bool true) ∧ Below w.heap.size w w' := by
 have ho := oOk_mod3 h0
 obtain ⟨o, rO⟩ : ∃ o, a0 % 3 = o := ⟨_, rfl⟩
 rw [rO] at ho
 obtain ⟨P, hP, CM⟩ := made12_call ho h
 obtain ⟨Q, hQ, CM'⟩ := made12_call ho h'
 obtain ⟨R, hR, CM''⟩ := made12_call ho h''
 have CP := Hd.mk CM
 have CQ := Hd.mk CM'
 have CR := Hd.mk CM''
 have HP := Hd.mk hP
 have HQ := Hd.mk hQ
 have HR := Hd.mk hR
 have CS := Hd.mk law12_shown
 have HO := Hd.mk ho
 clear h h' h'' CM CM' CM'' hP hQ hR ho
 go_enter Tryz.func6, Tryz.ntmps6
 go_upto_region 1 with (fail)
 refine wp_gen (fun W => Bo2 w.heap.size w.heap.size (w.heap.size + 1) w W 38 57 #[.slice SA ns.length sa, .slice SB ms.length sb] #[.slice SC ns'.length sc, .slice SD ms'.length sd, .slice SE ns''.length se, .slice SF ms''.length sf]) (Bo2.mk2 w _ _ _ _) ?_
 intro W BX
 generalize w.heap.size + 1 = g2 at BX ⊢
 obtain ⟨q0, q1⟩ := BX.out.k1.two'
 go_wp2_with fail
 clear q0 q1
 refine (CP.out _ BX.out.below).mono ?_
 rintro e w1 ⟨A1, c1, rfl, hc1, hr, hb⟩
 have BX1 := Hd.mk (BX.out.up hb)
 have HP1 := Hd.mk hr
 clear hb hr BX CP
 have SO := Hd.mk (fun W' (hB : Bo2 w.heap.size w.heap.size g2 w W' 38 57 #[.slice SA ns.length sa, .slice SB ms.length sb] #[.slice SC ns'.length sc, .slice SD ms'.length sd, .slice SE ns''.length se, .slice SF ms''.length sf]) => And.intro (Hd.mk hB) hB.k2.four)
 go_wp2_with fail
 go_region_held3 (fun w' => Hd (Bo2 w.heap.size w.heap.size g2 w w' 38 57 #[.slice SA ns.length sa, .slice SB ms.length sb] #[.slice SC ns'.length sc, .slice SD ms'.length sd, .slice SE ns''.length se, .slice SF ms''.length sf]) ∧ (w'.cell? ⟨g2, 0, none⟩ = some (.slice SC ns'.length sc) ∧ w'.cell? ⟨g2, 1, none⟩ = some (.slice SD ms'.length sd) ∧ w'.cell? ⟨g2, 2, none⟩ = some (.slice SE ns''.length se) ∧ w'.cell? ⟨g2, 3, none⟩ = some (.slice SF ms''.length sf)))
  (first
   | with_reducible exact SO.out _ BX1.out
   | with_reducible exact SO.out _ BX1.out.d1
   | with_reducible exact SO.out _ BX2.out
   | with_reducible exact SO.out _ BX3.out
   | with_reducible exact SO.out _ (BX3.out.al _)
   | fail)
  (first
   | (go_at_call 21; with_reducible refine (CQ.out _ BX1.out.d1.below).mono ?_; rintro e w2 ⟨A2, c2, rfl, hc2, hr, hb⟩
      have BX2 := Hd.mk (BX1.out.d1.up hb)
      have HP2 := Hd.mk (HP1.out.up (goes (Below.refl _ _).drew hb))
      have HQ2 := Hd.mk hr
      clear hr)
   | (go_at_call 21; with_reducible refine (CR.out _ BX2.out.below).mono ?_; rintro e w3 ⟨A3, c3, rfl, hc3, hr, hb⟩
      have BX3 := Hd.mk (BX2.out.up hb)
      have HP3 := Hd.mk (HP2.out.up hb)
      have HQ3 := Hd.mk (HQ2.out.up hb)
      have HR3 := Hd.mk hr
      clear hr)
   | fail)
 all_goals
  go_upto_region 4 with (fail)
  refine wp_gen (fun W => By2 w.heap.size w3.heap.size w W A1 P A2 c2 Q A3 c3 R) ⟨BX3.out.below.alloc BX3.out.below.size _, Nat.le_trans BX3.out.below.size ((Below.refl _ _).alloc (Nat.le_refl _) _).size, Bk.new_ _ _ _, HP3.out.up (below1 _ _), HQ3.out.up (below1 _ _), HR3.out.up (below1 _ _), hc2, hc3⟩ ?_
  intro W4 H4
  generalize w3.heap.size = g4 at H4 ⊢
  clear BX1 BX2 BX3 HP1 HP2 HQ2 HP3 HQ3 HR3 SO CQ CR
  have sP := smP_short HP.out
  have sQ := smP_short HQ.out
  have sR := smP_short HR.out
  have hsl : shortPs [Q, R] := ⟨by simp, fun p hp => by
   simp only [List.mem_cons, List.not_mem_nil, or_false] at hp
   rcases hp with rfl | rfl
   ·exact sQ
   ·exact sR⟩
  have hcl : ∀ b ∈ [Q, R], CP o b := fun p hp => by
   simp only [List.mem_cons, List.not_mem_nil, or_false] at hp
   rcases hp with rfl | rfl
   ·exact HQ.out.cp
   ·exact HR.out.cp
  have HG := Hd.mk (splitD_good (o := o) HP.out.cp hcl)
  have HSR := Hd.mk (splitD_short (o := o) sP hsl).2
  obtain ⟨⟨E, qs, r⟩, he⟩ : ∃ X, splitD o P [Q, R] = X := ⟨_, rfl⟩
  rw [he] at HG HSR
  dsimp only at HG HSR
  have CD := Hd.mk (rest_call sP hsl he W4 A1 (some ⟨g4, 0, none⟩) c1 2 H4.out.sz H4.out.p hc1 H4.out.pols (by simp))
  have HE := Hd.mk he
  have HSL := Hd.mk (And.intro hsl (And.intro sP sQ))
  have HCL := Hd.mk hcl
  simp only [List.length_cons, List.length_nil, Nat.zero_add] at CD
  clear he sP sQ sR hsl hcl
  go_wp2_with fail
  refine CD.out.mono ?_
  rintro e w5 ⟨A5, c5, rfl, hc5, hr, hb⟩
  have H5 := Hd.mk (H4.out.up hb)
  have HR5 := Hd.mk hr
  clear hr hb CD H4
  go_wp2_with fail
  refine (CS.out _).mono ?_
  rintro e w6 ⟨rfl, hb⟩
  have H6 := Hd.mk (H5.out.up hb)
  have HR6 := Hd.mk (HR5.out.up hb)
  clear hb H5 HR5
  by_cases hE : E = 0
  case neg =>
   have e1 : (E != 0) = true := by rw [bne_iff_ne]; exact hE
   clear hE HG
   go_wp2_with fail
   refine (CS.out _).mono ?_
   rintro e w7 ⟨rfl, hb⟩
   have H7 := Hd.mk (H6.out.up hb)
   clear hb
   go_wp2_with fail
   go_ret
   exact ⟨rfl, H7.out.below⟩
  have e1 : (E != 0) = false := by rw [hE]; rfl
  obtain ⟨qs', r', e2, I⟩ := HG.out hE
  obtain ⟨_, rfl, rfl⟩ : 0 = 0 ∧ qs' = qs ∧ r' = r := by
   have h1 := congrArg Prod.snd e2
   simp only [Prod.mk.injEq] at h1
   exact ⟨rfl, h1.1.symm, h1.2.symm⟩
  have he2 := splitD_rest I.cr HCL.out (by simp) I.rd
  have CD := Hd.mk (rest_call HSR.out HSL.out.1 he2 w6 A5 (some ⟨g4, 0, none⟩) c5 2 H6.out.sz HR6.out hc5 H6.out.pols (by simp))
  simp only [List.length_cons, List.length_nil, Nat.zero_add] at CD
  clear hE HG e2 I he2 HE
  go_wp2_with fail
  refine CD.out.mono ?_
  rintro e w7 ⟨A7, c7, rfl, hc7, hr, hb⟩
  have H7 := Hd.mk (H6.out.up hb)
  have CC := Hd.mk (same_call' hr hc7 HSR.out (HR6.out.up hb) hc5)
  clear hr hb CD H6 HR6
  go_wp2_with fail
  refine CC.out.mono ?_
  rintro e w8 ⟨rfl, hb⟩
  have H8 := Hd.mk (H7.out.up hb)
  clear hb CC H7
  obtain ⟨k0, k1⟩ := H8.out.kb.two'
  by_cases hq : Q.length = 0
  case pos =>
   have e3 : ((Q.length : Int) == 0) = true := by rw [hq]; rfl
   clear hq
   go_wp2_with fail
   go_ret
   exact ⟨rfl, H8.out.below⟩
  have e3 : ((Q.length : Int) == 0) = false := by rw [beq_eq_false_iff_ne]; omega
  have HAL := Hd.mk (again_law HQ.out.cp (fun e => hq (by rw [e]; rfl)) HP.out.cp)
  have HXS : Hd (shortP (polMul o Q P).2) := ⟨polMul_short⟩
  have CM := Hd.mk (rpol_Mul w.heap.size o A2 A1 c2 c1 Q P w8 H8.out.sz H8.out.q H8.out.hq HSL.out.2.2 H8.out.p hc1 HSL.out.2.1)
  obtain ⟨⟨X1, X⟩, hX⟩ : ∃ X, polMul o Q P = X := ⟨_, rfl⟩
  rw [hX] at HAL HXS CM
  dsimp only at HAL HXS CM
  clear hX hq
  go_wp2_with fail
  refine CM.out.mono ?_
  rintro e w9 ⟨A9, c9, rfl, hc9, hr, hb⟩
  have H9 := Hd.mk (H8.out.up hb)
  have HX9 := Hd.mk hr
  clear hr hb CM H8 k0 k1
  by_cases hx : X1 = 0
  case neg =>
   have e4 : (X1 != 0) = true := by rw [bne_iff_ne]; exact hx
   clear hx
   go_wp2_with fail
   go_ret
   exact ⟨rfl, H9.out.below⟩
  have e4 : (X1 != 0) = false := by rw [hx]; rfl
  have HAL2 := Hd.mk (HAL.out hx)
  have hs1 : shortPs [Q] := ⟨by simp, fun p hp => by simp only [List.mem_singleton] at hp; subst hp; exact HSL.out.2.2⟩
  obtain ⟨⟨E3, qs3, r3⟩, he3⟩ : ∃ Y, splitD o X [Q] = Y := ⟨_, rfl⟩
  rw [he3] at HAL2
  dsimp only at HAL2
  have CD := Hd.mk (rest_call HXS.out hs1 he3 w9 A9 (some ⟨g4, 0, none⟩) c9 2 H9.out.sz HX9.out hc9 H9.out.pols.one (by simp))
  simp only [List.length_cons, List.length_nil, Nat.zero_add] at CD
  clear hx HAL hs1 he3
  go_wp2_with fail
  refine CD.out.mono ?_
  rintro e w10 ⟨A10, c10, rfl, hc10, hr, hb⟩
  have H10 := Hd.mk (H9.out.up hb)
  clear hr hb CD H9
  by_cases hE3 : E3 = 0
  ·have e5 : (E3 != 0) = false := by rw [hE3]; rfl
   have e6 : ((r3.length : Int) == 0) = true := by rw [HAL2.out hE3]; rfl
   clear hE3
   go_wp2_with fail
   go_ret
   exact ⟨rfl, H10.out.below⟩
  ·have e5 : (E3 != 0) = true := by rw [bne_iff_ne]; exact hE3
   clear hE3
   go_wp2_with fail
   go_ret
   exact ⟨rfl, H10.out.below⟩
end Go.Proofs.YtjanagclahkfdaaGreat
