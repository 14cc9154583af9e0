/- Parts of the proof, joined: what each says stands at its head. -/
import Derived.Test.YtjanagclahkfdaaGreatM64
import Derived.Test.YtjanagclahkfdaaGreatM63
import Derived.Test.YtjanagclahkfdaaGreatM56
import Derived.Test.YtjanagclahkfdaaGreatM53
set_option linter.unusedVariables false
set_option linter.unusedSimpArgs false
set_option maxHeartbeats 24000000
set_option maxRecDepth 100000
namespace Go.Proofs.YtjanagclahkfdaaGreat
open Go.RowKit
theorem smP_short13 {o : Int} {p : List TermD} (h : SmP o p) : shortP p := h.pol.ints.short (by decide) (by have := h.len; omega)
theorem goodP_short {p : List TermD} (h : GoodP p) (hl : p.length ≤ 60) : shortP p := ⟨by omega, fun t ht => by
 obtain ⟨h1, h2, _⟩ := ratMay_of (h t ht).c.may
 have := natMay_len h1
 have := natMay_len h2
 exact ⟨by omega, by omega⟩⟩
theorem oOk_mod3' {a : Int} (h : 0 ≤ a) : oOk (a % 3) := ⟨by omega, by omega⟩
theorem made13_call {o : Int} (ho : oOk o) {w : World} {A B : Option Addr} {c d : Nat} {ns : List Int} {ms : List (Int × Int × Int)} (h : RSm w A c B d ns ms) :
    ∃ P, SmP o P ∧ ∀ W, Below w.heap.size w W → Calls Tryz.prog 29 #[.int .i64 o, .agg #[.slice A ns.length c, .slice B ms.length d]] W fun e w' => ∃ A' c', e = .returned (.slice A' P.length c') ∧
     P.length ≤ c' ∧ RPol w' w.heap.size A' P ∧ Below W.heap.size W w' :=
 ⟨_, madeE_sm ho h, fun W hB => law13_made w.heap.size o A B c d ns ms W hB.size (h.up hB)⟩
theorem cross_none {o : Int} {p q : List TermD} (hp : CP o p) (hq : CP o q) (h : p = [] ∨ q = []) : crossD o p q = (1, []) := by
 unfold crossD
 rw [hp.may, hq.may, if_neg (by simp)]
 rcases h with rfl | rfl
 ·rfl
 ·cases p <;> rfl
theorem law_PairBelow (a0 : Int) (A B C D : Option Addr) (c d k l : Nat) (ns ns' : List Int) (ms ms' : List (Int × Int × Int)) (w : World) (h0 : 0 ≤ a0) (h1 : a0 ≤ 255) (h : RSm w A c B d ns ms) (h' : RSm w C k D l ns' ms') :
    Calls Tryz.prog 9 #[.int .u8 a0, .agg #[.slice A ns.length c, .slice B ms.length d], .agg #[.slice C ns'.length k, .slice D ms'.length l]] w fun e w' => e = .returned (.bool true) ∧ Below w.heap.size w w' := by
 have ho := oOk_mod3' h0
 obtain ⟨o, rO⟩ : ∃ o, a0 % 3 = o := ⟨_, rfl⟩
 rw [rO] at ho
 obtain ⟨P, hP, CM1⟩ := made13_call ho h
 obtain ⟨Q, hQ, CM2⟩ := made13_call ho h'
 have CM1 := Hd.mk CM1
 have CM2 := Hd.mk CM2
 have HP := Hd.mk hP
 have HQ := Hd.mk hQ
 have CS := Hd.mk law13_shown
 clear h h' hP hQ ho
 go_enter Tryz.func9, Tryz.ntmps9
 go_upto_region 1 with (fail)
 refine wp_gen (fun W => Bo2 w.heap.size w.heap.size (w.heap.size + 1) w W 64 64 #[.slice A ns.length c, .slice B ms.length d] #[.slice C ns'.length k, .slice D ms'.length l]) (Bo2.mk2 w _ _ _ _) ?_
 intro W1 BX1
 generalize w.heap.size + 1 = g5 at BX1 ⊢
 obtain ⟨d0, d1⟩ := BX1.out.k1.two'
 go_wp2_with fail
 refine (CM1.out _ BX1.out.below).mono ?_
 rintro e w2 ⟨A2, c2, rfl, hc2, hr, hb⟩
 have BX2 := Hd.mk (BX1.out.up hb)
 have HP2 := Hd.mk hr
 clear hb hr CM1 BX1 d0 d1
 obtain ⟨d0, d1⟩ := BX2.out.k2.two'
 go_wp2_with fail
 refine (CM2.out _ BX2.out.below).mono ?_
 rintro e w3 ⟨A3, c3, rfl, hc3, hr, hb⟩
 have HB3 := Hd.mk (BX2.out.up hb).below
 have HP3 := Hd.mk (HP2.out.up hb)
 have HQ3 := Hd.mk hr
 have SP := Hd.mk (smP_short13 HP.out)
 have SQ := Hd.mk (smP_short13 HQ.out)
 clear hb hr CM2 BX2 d0 d1 HP2
 have CC1 := Hd.mk (pair_Cross w.heap.size o A2 A3 c2 c3 P Q w3 HB3.out.size HP3.out HQ3.out hc2 hc3 SP.out SQ.out)
 by_cases hz : P = [] ∨ Q = []
 case pos =>
  rw [cross_none HP.out.cp HQ.out.cp hz] at CC1
  dsimp only at CC1
  have hlen : (P.length = 0) ∨ (Q.length = 0) := by
   rcases hz with rfl | rfl
   ·exact .inl rfl
   ·exact .inr rfl
  have HL := Hd.mk hlen
  clear hz hlen
  go_wp2_with fail
  refine CC1.out.mono ?_
  rintro e w4 ⟨A4, c4, rfl, -, -, hb⟩
  have HB4 := Hd.mk (goes HB3.out hb)
  clear hb CC1
  by_cases hp0 : P.length = 0
  ·have e1 : ((P.length : Int) == 0) = true := by rw [hp0]; rfl
   clear hp0
   go_wp2_with fail
   refine (CS.out _).mono ?_
   rintro e w5 ⟨rfl, hb⟩
   have HB5 := Hd.mk (goes HB4.out hb)
   clear hb
   go_wp2_with fail
   go_ret
   exact ⟨rfl, HB5.out⟩
  ·have hq0 : Q.length = 0 := HL.out.resolve_left hp0
   have e1 : ((P.length : Int) == 0) = false := by rw [beq_eq_false_iff_ne]; omega
   have e2 : ((Q.length : Int) == 0) = true := by rw [hq0]; rfl
   clear hp0 hq0
   go_wp2_with fail
   refine (CS.out _).mono ?_
   rintro e w5 ⟨rfl, hb⟩
   have HB5 := Hd.mk (goes HB4.out hb)
   clear hb
   go_wp2_with fail
   go_ret
   exact ⟨rfl, HB5.out⟩
 have hpq : ∃ t p u q, P = t :: p ∧ Q = u :: q := by
  cases hP2 : P with
  | nil => exact absurd (.inl hP2) hz
  | cons t p =>
    cases hQ2 : Q with
    | nil => exact absurd (.inr hQ2) hz
    | cons u q => exact ⟨t, p, u, q, rfl, rfl⟩
 obtain ⟨t, p, u, q, eP, eQ⟩ := hpq
 have hbl := below_law (o := o) (t := t) (u := u) (p := p) (q := q) (by rw [← eP]; exact HP.out) (by rw [← eQ]; exact HQ.out)
 rw [← eP, ← eQ] at hbl
 obtain ⟨Z, Z', z1, z2, z3, ⟨z4, z5⟩, z6, z7, z8⟩ := hbl
 have hP1 : 0 < P.length := by rw [eP]; simp
 have hQ1 : 0 < Q.length := by rw [eQ]; simp
 have HP0 : Hd (P[0]? = some t) := ⟨by rw [eP]; rfl⟩
 have HQ0 : Hd (Q[0]? = some u) := ⟨by rw [eQ]; rfl⟩
 have e1 : ((P.length : Int) == 0) = false := by rw [beq_eq_false_iff_ne]; omega
 have e2 : ((Q.length : Int) == 0) = false := by rw [beq_eq_false_iff_ne]; omega
 have hP2 : (0 : Int) < P.length := by omega
 have hQ2 : (0 : Int) < Q.length := by omega
 rw [z1] at CC1
 dsimp only at CC1
 have SZ := Hd.mk (goodP_short z7 z4)
 have SZ' := Hd.mk (goodP_short z8 z5)
 have HZ3 := Hd.mk z3
 have HZ6 := Hd.mk z6
 have HZ4 := Hd.mk (And.intro z4 z5)
 have CC2 := Hd.mk (fun W (hB : Below w3.heap.size w3 W) => pair_Cross w.heap.size o A3 A2 c3 c2 Q P W (goes HB3.out hB).size (HQ3.out.up hB) (HP3.out.up hB) hc3 hc2 SQ.out SP.out)
 rw [z2] at CC2
 dsimp only at CC2
 clear z1 z2 z3 z4 z5 z6 z7 z8 eP eQ hz
 go_wp2_with fail
 refine CC1.out.mono ?_
 rintro e w4 ⟨A4, c4, rfl, hc4, hr, hb⟩
 have HB34 := Hd.mk hb
 have HR4 := Hd.mk hr
 clear hb hr CC1
 go_wp2_with fail
 refine (CC2.out _ HB34.out).mono ?_
 rintro e w5 ⟨A5, c5, rfl, hc5, hr, hb⟩
 have HB35 := Hd.mk (goes HB34.out hb)
 have HR5 := Hd.mk (HR4.out.up hb)
 have HS5 := Hd.mk hr
 clear hb hr CC2 HB34 HR4
 go_wp2_with fail
 refine (CS.out _).mono ?_
 rintro e w6 ⟨rfl, hb⟩
 have HB36 := Hd.mk (goes HB35.out hb)
 have HR6 := Hd.mk (HR5.out.up hb)
 have HS6 := Hd.mk (HS5.out.up hb)
 clear hb CS HB35 HR5 HS5
 have CM := Hd.mk (rpol_Minus w.heap.size A5 c5 Z' w6 (goes HB3.out HB36.out).size HS6.out hc5 (by have := HZ4.out; omega))
 rw [← HZ3.out] at CM
 go_wp2_with fail
 refine CM.out.mono ?_
 rintro e w7 ⟨A7, c7, rfl, hc7, hr, hb⟩
 have HB37 := Hd.mk (goes HB36.out hb)
 have HR7 := Hd.mk (HR6.out.up hb)
 have HS7 := Hd.mk hr
 clear hb hr CM HB36 HR6 HS6
 have CE := Hd.mk (same_13 HR7.out hc4 SZ.out HS7.out hc7)
 go_wp2_with fail
 refine CE.out.mono ?_
 rintro e w8 ⟨rfl, hb⟩
 have HB38 := Hd.mk (goes HB37.out hb)
 have HR8 := Hd.mk (HR7.out.up hb)
 clear hb CE HB37 HR7 HS7
 go_upto_region 10 with (fail)
 by_cases hz0 : Z.length = 0
 ·have e3 : ((Z.length : Int) == 0) = true := by rw [hz0]; rfl
  clear hz0
  refine wp_region_wd w8 (by kernel_rfl) (by kernel_rfl) (Below.refl _ _).drew ?_
  repeat (go_big_quiet_step (fail))
  refine wd_nil fun nq => ?_
  go_wp2_with fail
  go_ret
  exact ⟨rfl, goes (goes HB3.out HB38.out) nq.lo⟩
 ·have e3 : ((Z.length : Int) == 0) = false := by rw [beq_eq_false_iff_ne]; omega
  have hZ1 : 0 < Z.length := by omega
  have hZ2 : (0 : Int) < Z.length := by omega
  obtain ⟨xd, X1, x1, X2, x2, v, rfl, -, hvi, -, k0, k1, k2, k3, k4, k5, k6⟩ := HR8.out.get hZ1
  obtain ⟨pd, Y1, y1, Y2, y2, t', rfl, -, hti, -, p0, p1, p2, p3, p4, p5, p6⟩ := (HP3.out.up HB38.out).get hP1
  obtain ⟨qd, U1, u1, U2, u2, u', rfl, -, hui, -, q0, q1, q2, q3, q4, q5, q6⟩ := (HQ3.out.up HB38.out).get hQ1
  have et : t' = t := by have := hti.out; rw [HP0.out] at this; injection this with this; exact this.symm
  have eu : u' = u := by have := hui.out; rw [HQ0.out] at this; injection this with this; exact this.symm
  subst et eu
  rw [Nat.zero_mul, add_none] at k0 k1 k2 k3 k4 k5 k6 p0 p1 p2 p3 p4 p5 p6 q0 q1 q2 q3 q4 q5 q6
  have hlt := HZ6.out v (List.mem_of_getElem? hvi.out)
  have CL := Hd.mk (fun W => rmon_Lcm t'.m u'.m W)
  obtain ⟨m, hm⟩ : ∃ m, monLcm t'.m u'.m = m := ⟨_, rfl⟩
  rw [hm] at CL hlt
  have CC := Hd.mk (fun W => rmon_Cmp o v.m m W)
  obtain ⟨z, hzc⟩ : ∃ z, monCmp o v.m m = z := ⟨_, rfl⟩
  rw [hzc] at CC hlt
  simp only [MonD.v] at CL CC
  have e4 : decide (z < 0) = true := decide_eq_true hlt
  obtain ⟨-, -, -, k3, k4, k5, k6⟩ := Wd.at7 k0 k1 k2 k3 k4 k5 k6
  obtain ⟨-, -, -, p3, p4, p5, p6⟩ := Wd.at7 p0 p1 p2 p3 p4 p5 p6
  obtain ⟨-, -, -, q3, q4, q5, q6⟩ := Wd.at7 q0 q1 q2 q3 q4 q5 q6
  clear hm hzc hz0 k0 k1 k2 p0 p1 p2 q0 q1 q2 hvi hti hui hlt
  refine wp_region_wd w8 (by kernel_rfl) (by kernel_rfl) (Below.refl _ _).drew ?_
  repeat (go_big_quiet_step ((first
   | (go_at_call 33; exact Wd.call (CL.out _))
   | (go_at_call 26; exact Wd.call (CC.out _)))))
  refine wd_nil fun nq => ?_
  go_wp2_with fail
  go_ret
  exact ⟨rfl, goes (goes HB3.out HB38.out) nq.lo⟩
end Go.Proofs.YtjanagclahkfdaaGreat
