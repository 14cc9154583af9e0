/- Parts of the proof, joined: each theorem says what it shows. -/
import Derived.Test.YtgjkgkgieeoalaaGreatC24
import Derived.Test.YtgjkgkgieeoalaaGreatC17
import Derived.Test.YtgjkgkgieeoalaaGreatC23
import Derived.Test.YtgjkgkgieeoalaaGreatC21
import Derived.Test.YtgjkgkgieeoalaaGreatC20
import Derived.Test.YtgjkgkgieeoalaaGreatC22
import Derived.Deep.Slices
import Derived.Deep.Strs
import Derived.OpenShut
import Derived.ChangeSlices
import Derived.ChangeSame
set_option linter.unusedVariables false
set_option linter.unusedSimpArgs false
set_option maxHeartbeats 24000000
set_option maxRecDepth 100000
namespace Go.Proofs.YtgjkgkgieeoalaaGreat
open Go.RowKit
theorem rrat_Mul (b0 : Nat) (v u : Value) (r s : RatD) (w : World) (hb0 : b0 ≤ w.heap.size) (h : RRat w b0 v r) (h' : RRat w b0 u s) (hr : r.short) (hs : s.short) :
    Calls Tryz.prog 179 #[v, u] w fun e w' => ∃ x, e = .returned (.tuple #[x, .int .i64 (mulD r s).1]) ∧ RRat w' b0 x (mulD r s).2 ∧ Below w.heap.size w w' := by
 obtain ⟨E, hE⟩ : ∃ E, mulD r s = E := ⟨_, rfl⟩
 rw [hE]
 have HEQ := Hd.mk hE
 clear hE
 have M1 := Hd.mk (fun W hW => rrat_May b0 v r W hW hr)
 have M2 := Hd.mk (fun W hW => rrat_May b0 u s W hW hs)
 have HR := Hd.mk h
 have HS := Hd.mk h'
 have HB0 := Hd.mk hb0
 obtain ⟨A, c, B, d, rfl, h1, h2, h3, h4⟩ := h
 obtain ⟨A', c', B', d', rfl, h1', h2', h3', h4'⟩ := h'
 have HRW := Hd.mk (And.intro (And.intro h3 h4) (And.intro h3' h4'))
 obtain ⟨nb, hnb⟩ : ∃ nb, (!(r.neg == s.neg)) = nb := ⟨_, rfl⟩
 have HNB : Hd ((r.neg != s.neg) = nb) := ⟨hnb⟩
 clear h3 h4 h3' h4' hb0 hr hs
 go_enter Tryz.func179, Tryz.ntmps179
 go_upto_region 1 with (fail)
 refine wp_gen (fun W => Bx3 w.heap.size w.heap.size (w.heap.size + 1) (w.heap.size + 1 + 1) w W (.bool r.neg) (.slice A r.num.length c) (.slice B r.den.length d) (.bool s.neg) (.slice A' s.num.length c') (.slice B' s.den.length d') (.bool false) (.slice none 0 0) (.slice none 0 0)) (Bx3.mk3 w _ _ _ _ _ _ _ _ _) ?_
 intro W BX
 generalize w.heap.size + 1 + 1 = g3 at BX ⊢
 generalize w.heap.size + 1 = g2 at BX ⊢
 obtain ⟨p0, p1, p2⟩ := BX.out.k1.three
 obtain ⟨p3, p4, p5⟩ := BX.out.k2.three
 obtain ⟨p6, p7, p8⟩ := BX.out.k3.three
 have fz := fun i => BX.out.k3.froz i
 have ML := Hd.mk (M1.out W (HR.out.up BX.out.below))
 cases hm1 : ratMay r
 ·rw [hm1] at ML
  have HE : Hd (mulD r s = (1, zeroD)) := ⟨by unfold mulD; rw [hm1]; rfl⟩
  go_wp2_with fail
  refine ML.out.mono ?_
  rintro e w2 ⟨rfl, hb⟩
  have BX2 := Hd.mk (BX.out.up hb)
  obtain ⟨p6, p7, p8⟩ := BX2.out.k3.three
  have fz := fun i => BX2.out.k3.froz i
  go_wp2_with fail
  obtain ⟨d1, d2, d3⟩ := BX2.out.done (.bool false) (.slice none 0 0) (.slice none 0 0)
  refine bodyPost_ret (res_rat2 rfl _ _ g3 #[.bool false, .slice none 0 0, .slice none 0 0] rfl d1 rfl) rfl ?_
  have h5 := HEQ.out.symm.trans HE.out
  subst h5
  exact ⟨_, rfl, RRat.zero _ _, d2⟩
 rw [hm1] at ML
 cases hm2 : ratMay s
 ·have HE : Hd (mulD r s = (1, zeroD)) := ⟨by unfold mulD; rw [hm1, hm2]; rfl⟩
  go_wp2_with fail
  refine ML.out.mono ?_
  rintro e w2 ⟨rfl, hb⟩
  have BX2 := Hd.mk (BX.out.up hb)
  have ML2 := Hd.mk (M2.out w2 (HS.out.up BX2.out.below))
  rw [hm2] at ML2
  obtain ⟨p3, p4, p5⟩ := BX2.out.k2.three
  clear hb
  go_wp2_with fail
  refine ML2.out.mono ?_
  rintro e w3 ⟨rfl, hb⟩
  have BX3 := Hd.mk (BX2.out.up hb)
  obtain ⟨p6, p7, p8⟩ := BX3.out.k3.three
  have fz := fun i => BX3.out.k3.froz i
  go_wp2_with fail
  obtain ⟨d1, d2, d3⟩ := BX3.out.done (.bool false) (.slice none 0 0) (.slice none 0 0)
  refine bodyPost_ret (res_rat2 rfl _ _ g3 #[.bool false, .slice none 0 0, .slice none 0 0] rfl d1 rfl) rfl ?_
  have h5 := HEQ.out.symm.trans HE.out
  subst h5
  exact ⟨_, rfl, RRat.zero _ _, d2⟩
 obtain ⟨m1, m2, _, _, _⟩ := ratMay_of hm1
 obtain ⟨m1', m2', _, _, _⟩ := ratMay_of hm2
 have l1 := natMay_len m1
 have l2 := natMay_len m2
 have l1' := natMay_len m1'
 have l2' := natMay_len m2'
 have HE : Hd (mulD r s = if isBig [limbs (val r.num * val s.num), limbs (val r.den * val s.den)] then (21, zeroD)
  else makeD nb (limbs (val r.num * val s.num)) (limbs (val r.den * val s.den))) := ⟨by unfold mulD; rw [hm1, hm2, HNB.out]; rfl⟩
 have hx : natMulD r.num s.num = heldD (limbs (val r.num * val s.num)) := by unfold natMulD; rw [m1, m1']; rfl
 have hd : natMulD r.den s.den = heldD (limbs (val r.den * val s.den)) := by unfold natMulD; rw [m2, m2']; rfl
 generalize val r.num * val s.num = X at hx HE
 generalize val r.den * val s.den = D at hd HE
 have C1 := Hd.mk (fun W (hb : Hd (Below w.heap.size w W)) => rnat_Mul A A' c c' r.num s.num W (HRW.out.1.1.rd.up hb.out) h1 (by omega) (HRW.out.2.1.rd.up hb.out) h1' (by omega) HRW.out.1.1.u HRW.out.2.1.u)
 have C3 := Hd.mk (fun W (hb : Hd (Below w.heap.size w W)) => rnat_Mul B B' d d' r.den s.den W (HRW.out.1.2.rd.up hb.out) h2 (by omega) (HRW.out.2.2.rd.up hb.out) h2' (by omega) HRW.out.1.2.u HRW.out.2.2.u)
 obtain ⟨ox1, ox2⟩ := natMulD_ok r.num s.num
 obtain ⟨od1, od2⟩ := natMulD_ok r.den s.den
 generalize natMulD r.num s.num = Ex at hx C1 ox1 ox2
 generalize natMulD r.den s.den = Ed at hd C3 od1 od2
 obtain ⟨ex, P⟩ := Ex
 obtain ⟨ed, R⟩ := Ed
 dsimp only at C1 C3 ox1 ox2 od1 od2
 have hcase : ((ex = 21 ∨ (ex = 0 ∧ ed = 21)) ∧ mulD r s = (21, zeroD)) ∨
     (ex = 0 ∧ ed = 0 ∧ P = limbs X ∧ R = limbs D ∧ mulD r s = makeD nb (limbs X) (limbs D)) := by
  rw [HE.out]
  rcases held_cases (limbs X) with ⟨bx, hx'⟩ | ⟨bx, hx'⟩
  ·have := hx.trans hx'; injection this with e1 e2
   exact .inl ⟨.inl e1, by rw [isBig_yes (r := limbs X) (by simp) bx, if_pos rfl]⟩
  have hX := hx.trans hx'; injection hX with e1 e2
  rcases held_cases (limbs D) with ⟨bD, hd'⟩ | ⟨bD, hd'⟩
  ·have := hd.trans hd'; injection this with e5 e6
   exact .inl ⟨.inr ⟨e1, e5⟩, by rw [isBig_yes (r := limbs D) (by simp) bD, if_pos rfl]⟩
  have hD := hd.trans hd'; injection hD with e5 e6
  refine .inr ⟨e1, e5, e2, e6, ?_⟩
  rw [isBig_all (rs := [limbs X, limbs D]) (fun r hr => by
   simp only [List.mem_cons, List.not_mem_nil, or_false] at hr
   rcases hr with rfl | rfl <;> omega)]
  rfl
 have HC := Hd.mk hcase
 clear m1 m2 m1' m2' l1 l2 l1' l2' hx hd hm1 ox1 od1 HE hcase
 go_wp2_with fail
 refine ML.out.mono ?_
 rintro e w2 ⟨rfl, hb⟩
 have BX2 := Hd.mk (BX.out.up hb)
 have ML2 := Hd.mk (M2.out w2 (HS.out.up BX2.out.below))
 rw [hm2] at ML2
 obtain ⟨p3, p4, p5⟩ := BX2.out.k2.three
 clear hb hm2 p0 p1 p2 p6 p7 p8
 go_wp2_with fail
 refine ML2.out.mono ?_
 rintro e w3 ⟨rfl, hb⟩
 have BX3 := Hd.mk (BX2.out.up hb)
 obtain ⟨p0, p1, p2⟩ := BX3.out.k1.three
 obtain ⟨p3, p4, p5⟩ := BX3.out.k2.three
 clear hb ML ML2 M1 M2 BX BX2
 go_wp2_with fail
 refine (C1.out _ ⟨BX3.out.below⟩).mono ?_
 rintro e w4 ⟨x, rfl, ho, hb⟩
 obtain ⟨Ax, cx, rfl, hcx, _, hrx⟩ := ho.reads
 have BX4 := Hd.mk (BX3.out.up hb)
 have HRX := Hd.mk hrx
 obtain ⟨p0, p1, p2⟩ := BX4.out.k1.three
 obtain ⟨p3, p4, p5⟩ := BX4.out.k2.three
 clear hb ho hrx BX3 C1
 go_wp2_with fail
 refine (C3.out _ ⟨BX4.out.below⟩).mono ?_
 rintro e w6 ⟨z, rfl, ho, hb⟩
 obtain ⟨Ad, cd, rfl, hcd, _, hrd⟩ := ho.reads
 have BX6 := Hd.mk (BX4.out.up hb)
 have HRX6 := Hd.mk (HRX.out.up hb)
 have HRD := Hd.mk hrd
 obtain ⟨p0, p1, p2⟩ := BX6.out.k1.three
 obtain ⟨p3, p4, p5⟩ := BX6.out.k2.three
 obtain ⟨p6, p7, p8⟩ := BX6.out.k3.three
 have fz := fun i => BX6.out.k3.froz i
 clear hb ho hrd BX4 C3 HRX
 rcases HC.out with ⟨hc, he⟩ | ⟨rfl, rfl, rfl, rfl, he⟩
 ·have HE := Hd.mk he
  clear he
  rcases hc with rfl | ⟨rfl, rfl⟩
  all_goals
   go_wp2_with fail
   obtain ⟨d1, d2, d3⟩ := BX6.out.done (.bool false) (.slice none 0 0) (.slice none 0 0)
   refine bodyPost_ret (res_rat2 rfl _ _ g3 #[.bool false, .slice none 0 0, .slice none 0 0] rfl d1 rfl) rfl ?_
   have h5 := HEQ.out.symm.trans HE.out
   subst h5
   exact ⟨_, rfl, RRat.zero _ _, d2⟩
 ·have CMk := Hd.mk (rrat_Make b0 nb Ax Ad cx cd (limbs X) (limbs D) w6 (Nat.le_trans HB0.out BX6.out.below.size) HRX6.out hcx HRD.out hcd (limbs_u64 _) (limbs_u64 _) (by omega) (by omega))
  have HE2 : Hd (makeD nb (limbs X) (limbs D) = E) := ⟨he.symm.trans HEQ.out⟩
  rw [HE2.out] at CMk
  clear he
  go_wp2_with fail
  refine CMk.out.mono ?_
  rintro e w9 ⟨v, rfl, hr, hb⟩
  have BX9 := Hd.mk (BX6.out.up hb)
  obtain ⟨p6, p7, p8⟩ := BX9.out.k3.three
  have fz := fun i => BX9.out.k3.froz i
  have HR9 := Hd.mk hr
  obtain ⟨A9, c9, B9, d9, rfl, _, _, _, _⟩ := hr
  clear hb
  go_wp2_with fail
  obtain ⟨d1, d2, d3⟩ := BX9.out.done (.bool E.2.neg) (.slice A9 E.2.num.length c9) (.slice B9 E.2.den.length d9)
  refine bodyPost_ret (res_rat2 rfl _ _ g3 #[.bool E.2.neg, .slice A9 E.2.num.length c9, .slice B9 E.2.den.length d9] rfl d1 rfl) rfl ?_
  exact ⟨_, rfl, d3 _ _ _ HB0.out HR9.out, d2⟩
def TermD.v (t : TermD) (A : Option Addr) (c : Nat) (B : Option Addr) (d : Nat) : Array Value := #[.bool t.c.neg, .slice A t.c.num.length c, .slice B t.c.den.length d, .int .i64 t.m.x0, .int .i64 t.m.x1, .int .i64 t.m.x2, .int .i64 t.m.x3]
theorem ownT_lit (w : World) (b0 base : Nat) (hb : base ≤ w.heap.size) : OwnT (w.alloc (.cells #[] 68)) b0 base (.slice (some ⟨w.heap.size, 0, none⟩) 0 0) [] :=
 ⟨[], World.ownsRow_lit (e := 68) (size := 7) w #[] 0 hb (by unfold maxLen; omega) rfl, .nil⟩
theorem rpol_put (b0 : Nat) (order : Int) (A : Option Addr) (c : Nat) (al : List TermD) (v : Value) (t : TermD) (w : World) (hb0 : b0 ≤ w.heap.size) (h : RPol w b0 A al) (hc : al.length ≤ c) (h9 : al.length ≤ 100000) (hs : shortP al) (ht : RTerm w b0 v t) (hts : t.c.short) (hm : monMay t.m = true) (hst : Sta order al) :
    Calls Tryz.prog 159 #[.int .i64 order, .slice A al.length c, v] w fun e w' => ∃ A' c', e = .returned (.tuple #[.slice A' (putD order al t).2.length c', .int .i64 (putD order al t).1]) ∧
     (putD order al t).2.length ≤ c' ∧ RPol w' b0 A' (putD order al t).2 ∧ Below w.heap.size w w' := by
 have HP := Hd.mk h
 have HS := Hd.mk hs
 have HB0 := Hd.mk hb0
 have HT := Hd.mk ht
 have HTS := Hd.mk hts
 have HW : Hd (putW order t false [] al = putD order al t) := ⟨by
  rw [putW_putD hm hst]
  unfold appD
  by_cases he : (putD order al t).1 = 0
  ·rw [if_neg (by simpa using he)]; simp; exact Prod.ext he.symm rfl
  ·rw [if_pos (by simpa using he)]
   have : (putD order al t).2 = [] := by
    revert he
    unfold putD
    split
    ·split
     ·intro _; rfl
     ·intro h; exact absurd rfl h
    ·intro h; exact absurd rfl h
   exact Prod.ext rfl this.symm⟩
 obtain ⟨E, hE⟩ : ∃ E, putD order al t = E := ⟨_, rfl⟩
 rw [hE] at HW ⊢
 clear h hs hb0 hts hm hst hE
 obtain ⟨TA, tc, TB, td, rfl, _, _, _, _⟩ := ht
 go_enter Tryz.func159, Tryz.ntmps159
 go_upto_region 3 with (fail)
 refine wp_gen (fun W => Below w.heap.size w W ∧ Bk W w.heap.size 68 (t.v TA tc TB td) ∧ OwnT W b0 (w.heap.size + 1) (.slice (some ⟨w.heap.size + 1, 0, none⟩) 0 0) [] ∧ w.heap.size + 1 ≤ W.heap.size) ⟨((Below.refl _ _).alloc (Nat.le_refl _) _).alloc (by simp) _, (Bk.new_ _ _ _).al _, by
  have := ownT_lit (w.alloc (.cells (t.v TA tc TB td) 68)) b0 (w.heap.size + 1) (by simp)
  simpa [TermD.v] using this, by simp⟩ ?_
 intro W0 hW
 have HB := Hd.mk hW.out.1
 have HK := Hd.mk hW.out.2.1
 have HO := Hd.mk hW.out.2.2.1
 have HZ := Hd.mk hW.out.2.2.2
 have HB01 : Hd (b0 ≤ w.heap.size + 1) := ⟨by have := HB0.out; omega⟩
 have HLT : Hd (w.heap.size < w.heap.size + 1) := ⟨Nat.lt_succ_self _⟩
 have HLE : Hd (w.heap.size ≤ w.heap.size + 1) := ⟨Nat.le_succ _⟩
 clear hW
 obtain ⟨gb, hgb⟩ : ∃ gb, w.heap.size = gb := ⟨_, rfl⟩
 obtain ⟨base, hbase⟩ : ∃ base, w.heap.size + 1 = base := ⟨_, rfl⟩
 rw [hbase] at HO HZ HB01 HLT HLE ⊢
 have HGB := Hd.mk hgb
 rw [hgb] at HK HLT HLE ⊢
 clear hbase hgb
 go_wp2_with fail
 go_loopw [8, 9, 10] (fun v8 v9 v10 wr => ∃ (i : Nat) (d : Bool) (acc : List TermD), v10 = .int .i64 i ∧ v9 = .bool d ∧ i ≤ al.length ∧ acc.length ≤ 2 * i ∧ Hd (OwnT wr b0 base v8 acc) ∧ Hd (putW order t d acc (al.drop i) = E) ∧ Hd (Below w.heap.size w wr) ∧ Hd (Bk wr gb 68 (t.v TA tc TB td)) ∧ Hd (base ≤ wr.heap.size)) (fun _ _ v _ => al.length - (intOf v).toNat)
 case atStart => exact ⟨0, false, [], rfl, rfl, by omega, by simp, HO, HW, HB, HK, HZ⟩
 case round =>
  clear HO HW HB HK HZ
  obtain ⟨i, d, acc, rfl, rfl, hi, hacc, HO, HQ, HB, HK, HZ⟩ := hrel
  obtain ⟨Av, cv, rfl, hcv, _, _⟩ := HO.out.reads
  by_cases hlt : i < al.length
  ·have i1 : (i : Int) < al.length := by omega
   have i3 : (0 : Int) ≤ i := by omega
   obtain ⟨ad, B1, c1, B2, c2, s, rfl, hab, hsi, hrt, q0, q1, q2, q3, q4, q5, q6⟩ := (HP.out.up HB.out).get hlt
   obtain ⟨k0, k1, k2, k3, k4, k5, k6⟩ := Wd.at7 q0 q1 q2 q3 q4 q5 q6
   obtain ⟨⟨t0, t1, t2⟩, t3, t4, t5, t6⟩ := HK.out.seven
   have u3 := Wd.cell t3
   have u4 := Wd.cell t4
   have u5 := Wd.cell t5
   have u6 := Wd.cell t6
   have HSS := Hd.mk (HS.out.2 s (List.mem_of_getElem? hsi.out))
   have C4 := Hd.mk (fun n : Wd wr => rmon_Cmp order s.m t.m n.w)
   have HD : Hd (al.drop i = s :: al.drop (i + 1)) := ⟨by
    have e1 : al[i] = s := by have := hsi.out; rw [List.getElem?_eq_getElem hlt] at this; injection this
    rw [List.drop_eq_getElem_cons hlt, e1]⟩
   have HU : Hd (E = putW order t d acc (s :: al.drop (i + 1))) := ⟨by rw [← HQ.out, HD.out]⟩
   obtain ⟨r, hr⟩ : ∃ r, al.drop (i + 1) = r := ⟨_, rfl⟩
   rw [hr] at HU
   have HR := Hd.mk hr
   clear hr
   have HV : Hd (E = if monCmp order s.m t.m = 0 then (if (addD s.c t.c).1 ≠ 0 then ((addD s.c t.c).1, []) else putW order t true (acc ++ [⟨(addD s.c t.c).2, t.m⟩]) r)
    else if monCmp order s.m t.m < 0 ∧ d = false then putW order t true (acc ++ [t, s]) r else putW order t d (acc ++ [s]) r) := ⟨HU.out⟩
   generalize monCmp order s.m t.m = K at C4 HV
   clear HU HQ q0 q1 q2 q3 q4 q5 q6 t0 t1 t2 t3 t4 t5 t6
   go_wp2_with fail
   refine wp_region_wd wr (by kernel_rfl) (by kernel_rfl) (Below.refl _ _).drew ?_
   repeat (go_big_quiet_step ((go_at_call 86; exact Wd.call (C4.out _))))
   refine wd_nil fun nq => ?_
   have HBn := Hd.mk (goes HB.out nq.lo)
   have On := Hd.mk (HO.out.up nq.lo)
   have Kn := Hd.mk (HK.out.up nq.lo)
   have Zn := Hd.mk (Nat.le_trans HZ.out nq.lo.size)
   have HRS := Hd.mk (hrt.out.up nq.lo)
   have HTn := Hd.mk (HT.out.up HBn.out)
   have k0 := k0 nq
   have k1 := k1 nq
   have k2 := k2 nq
   have k3 := k3 nq
   have k4 := k4 nq
   have k5 := k5 nq
   have k6 := k6 nq
   obtain ⟨⟨t0, t1, t2⟩, t3, t4, t5, t6⟩ := Kn.out.seven
   clear u3 u4 u5 u6 HB HO HK HZ hrt C4 hab
   generalize nq.w = wn at HBn On Kn Zn HRS HTn k0 k1 k2 k3 k4 k5 k6 t0 t1 t2 t3 t4 t5 t6 ⊢
   by_cases h0 : K = 0
   ·have e0 : (K == 0) = true := by rw [beq_iff_eq]; exact h0
    have HV0 : Hd (E = if (addD s.c t.c).1 ≠ 0 then ((addD s.c t.c).1, []) else putW order t true (acc ++ [⟨(addD s.c t.c).2, t.m⟩]) r) := ⟨by rw [HV.out, if_pos h0]⟩
    clear HV h0
    have CA := Hd.mk (fun W (hB : Hd (Below wn.heap.size wn W)) => rrat_Add b0 _ _ s.c t.c W (Nat.le_trans HB0.out (Nat.le_trans HBn.out.size hB.out.size)) (HRS.out.rat.up hB.out) (HTn.out.rat.up hB.out) HSS.out HTS.out)
    obtain ⟨X1, X2, hX⟩ : ∃ X1 X2, addD s.c t.c = (X1, X2) := ⟨_, _, rfl⟩
    rw [hX] at CA HV0
    have SO := Hd.mk (fun W (hB : Below wn.heap.size wn W) => And.intro (Hd.mk hB) (And.intro (cell_up k0 hB) (And.intro (cell_up k1 hB) (And.intro (cell_up k2 hB) (And.intro (cell_up t0 hB) (And.intro (cell_up t1 hB) (And.intro (cell_up t2 hB) (And.intro (cell_up t3 hB) (And.intro (cell_up t4 hB) (And.intro (cell_up t5 hB) (cell_up t6 hB)))))))))))
    clear hX
    go_wp2_with fail
    go_region_held3 (fun w' => Hd (Below wn.heap.size wn w') ∧ w'.cell? (ad.add (i * 7)) = some (.bool s.c.neg) ∧ w'.cell? ⟨(ad.add (i * 7)).block, (ad.add (i * 7)).off + 1, none⟩ = some (.slice B1 s.c.num.length c1) ∧ w'.cell? ⟨(ad.add (i * 7)).block, (ad.add (i * 7)).off + 2, none⟩ = some (.slice B2 s.c.den.length c2) ∧
        w'.cell? ⟨gb, 0, none⟩ = some (.bool t.c.neg) ∧ w'.cell? ⟨gb, 1, none⟩ = some (.slice TA t.c.num.length tc) ∧ w'.cell? ⟨gb, 2, none⟩ = some (.slice TB t.c.den.length td) ∧ w'.cell? ⟨gb, 3, none⟩ = some (.int .i64 t.m.x0) ∧ w'.cell? ⟨gb, 4, none⟩ = some (.int .i64 t.m.x1) ∧ w'.cell? ⟨gb, 5, none⟩ = some (.int .i64 t.m.x2) ∧ w'.cell? ⟨gb, 6, none⟩ = some (.int .i64 t.m.x3))
     (first
      | exact SO.out _ (.refl _ _)
      | exact SO.out _ (Below.refl _ _).drew
      | exact SO.out _ ((Below.refl _ _).drew.alloc (Nat.le_refl _) _)
      | exact SO.out _ ((Below.refl _ _).alloc (Nat.le_refl _) _).drew
      | exact SO.out _ hB5
      | exact SO.out _ (hB5.alloc hB5.size _)
      | exact SO.out _ (((hB5.setCell (Nat.le_refl _) _).setCell (Nat.le_refl _) _).setCell (Nat.le_refl _) _)
      | exact SO.out _ ((((hB5.alloc hB5.size _).setCell hB5.size _).setCell hB5.size _).setCell hB5.size _))
     (first
      | (go_at_call 221; have hB := ‹Hd (Below wn.heap.size wn _) ∧ _›.1; with_reducible refine (CA.out ((wn.alloc (Obj.cells #[.bool false, .slice none 0 0, .slice none 0 0] 64)).drew) hB).mono ?_; rintro e w5 ⟨x, rfl, hx, hb⟩
         have hB5 := hB.out.trans (hb.mono hB.out.size)
         have HX := Hd.mk hx
         have hk := Hd.mk ((Bk.new_ wn 64 #[.bool false, .slice none 0 0, .slice none 0 0]).d1.up hb)
         obtain ⟨p6, p7, p8⟩ := hk.out.three
         have fz := fun i => hk.out.froz i
         obtain ⟨XA, xc, XB, xd, rfl, _, _, _, _⟩ := hx)
      | (go_at_call 221; have hB := ‹Hd (Below wn.heap.size wn _) ∧ _›.1; with_reducible refine (CA.out _ hB).mono ?_; rintro e w5 ⟨x, rfl, hx, hb⟩
         have hB5 := hB.out.trans (hb.mono hB.out.size)
         have HX := Hd.mk hx
         obtain ⟨XA, xc, XB, xd, rfl, _, _, _, _⟩ := hx))
    all_goals
     have hB6 := ‹Hd (Below wn.heap.size wn _) ∧ _›.1
     have HX6 := Hd.mk (at_world (v := .agg #[.bool X2.neg, .slice XA X2.num.length xc, .slice XB X2.den.length xd]) hB6.out (by first | exact HX.out.up ((Below.refl _ _).alloc (Nat.le_refl _) _) | exact RRat.set3 HX.out hk.out (Nat.le_trans HB0.out HBn.out.size) _ _ _))
     by_cases hx0 : X1 = 0
     ·have e3 : (X1 != 0) = false := by rw [bne_eq_false_iff_eq]; exact hx0
      have HV2 : Hd (putW order t true (acc ++ [⟨X2, t.m⟩]) (al.drop (i + 1)) = E) := ⟨by rw [HV0.out, if_neg (by simpa using hx0), HR.out]⟩
      have xl : acc.length + ([⟨X2, t.m⟩] : List TermD).length ≤ 1000000 := by simp; omega
      have XL := Hd.mk xl
      have T1 := rpol_one (t := ⟨X2, t.m⟩) (rterm_of HX6.out t.m) 68
      dsimp only at T1
      first | rw [World.size_alloc] at T1 | rw [World.size_setCell, World.size_setCell, World.size_setCell] at T1
      obtain ⟨tn, htn⟩ : ∃ tn : TermD, tn = ⟨X2, t.m⟩ := ⟨_, rfl⟩
      rw [← htn] at T1 HV2 XL
      have HT1 := Hd.mk T1
      clear hx0 HV0 xl T1 htn
      go_wp2_with (at_builtin; refine wpList_append_T (w0 := w) (us := [tn]) rfl _ _ 25 25 rfl Tryz.slPoly Tryz.slPoly rfl rfl rfl (On.out.up (hB6.out.alloc hB6.out.size _)) HT1.out HB01.out XL.out (goes HBn.out (hB6.out.alloc hB6.out.size _)) (Nat.le_of_lt (by rw [HGB.out]; exact HLT.out)) (Nat.le_trans Zn.out (hB6.out.alloc hB6.out.size _).size) ?_)
      intro v' w8 AP
      have HAP := Hd.mk AP
      clear AP
      have HK8 := Hd.mk (HAP.out.bk (Kn.out.up (hB6.out.alloc hB6.out.size _)) HLT.out)
      have HZ8 := Hd.mk (Nat.le_trans (Nat.le_trans Zn.out (hB6.out.alloc hB6.out.size _).size) HAP.out.size)
      go_wp2_with fail
      go_roundw
      case measure => first | (simp [intOf]; done) | (simp [intOf]; omega)
      case rel => exact ⟨i + 1, true, _, by go_num, rfl, by omega, by simp; omega, ⟨HAP.out.own⟩, HV2, ⟨HAP.out.below⟩, HK8, HZ8⟩
     ·have e3 : (X1 != 0) = true := by rw [bne_iff_ne]; exact hx0
      have HV2 : Hd (E = (X1, [])) := ⟨by rw [HV0.out, if_pos (by simpa using hx0)]⟩
      clear HV0 hx0
      go_wp2_with fail
      go_ret2
      rw [HV2.out]
      exact ⟨none, 0, rfl, Nat.le_refl _, RPol.nil _ _ _, goes HBn.out hB6.out⟩
   ·have e0 : (K == 0) = false := by rw [beq_eq_false_iff_ne]; exact h0
    have HV1 : Hd (E = if K < 0 ∧ d = false then putW order t true (acc ++ [t, s]) r else putW order t d (acc ++ [s]) r) := ⟨by rw [HV.out, if_neg h0]⟩
    clear HV h0 k0 k1 k2 k3 k4 k5 k6
    have hcase : (K < 0 ∧ d = false) ∨ (((K < 0 ∧ d = true) ∨ ¬ K < 0) ∧ E = putW order t d (acc ++ [s]) r) := by
     rw [HV1.out]
     by_cases hk : K < 0
     ·cases d
      ·exact .inl ⟨hk, rfl⟩
      ·exact .inr ⟨.inl ⟨hk, rfl⟩, by rw [if_neg (by simp)]⟩
     ·exact .inr ⟨.inr hk, by rw [if_neg (fun h => hk h.1)]⟩
    have step : ∀ {dd : Bool} {acct : List TermD}, acct.length ≤ 2 * i + 1 → E = putW order t dd (acct ++ [s]) r → Hd (acct.length + [s].length ≤ 1000000 ∧ (acct ++ [s]).length ≤ 2 * (i + 1) ∧ putW order t dd (acct ++ [s]) (al.drop (i + 1)) = E) := fun h1 h2 => ⟨by simp; omega, by simp; omega, by rw [HR.out, h2]⟩
    rcases hcase with ⟨hk, rfl⟩ | ⟨hk, hv⟩
    ·have HST := step (dd := true) (acct := acc ++ [t]) (by simp; omega) (by rw [HV1.out, if_pos ⟨hk, rfl⟩]; simp)
     have xl : acc.length + [t].length ≤ 1000000 := by simp; omega
     have XL := Hd.mk xl
     clear HV1 step xl
     go_wp2_with (at_builtin; refine wpList_append_T (w0 := w) (us := [t]) rfl _ _ 25 25 rfl Tryz.slPoly Tryz.slPoly rfl rfl rfl (On.out.up ((Below.refl _ _).alloc (Nat.le_refl _) _)) (rpol_one HTn.out _) HB01.out XL.out (goes HBn.out ((Below.refl _ _).alloc (Nat.le_refl _) _)) (Nat.le_of_lt (by rw [HGB.out]; exact HLT.out)) (Nat.le_trans Zn.out (by simp)) ?_)
     intro v' w8 AP
     have HAP := Hd.mk AP
     clear AP
     have HK8 := Hd.mk (HAP.out.bk (Kn.out.up ((Below.refl _ _).alloc (Nat.le_refl _) _)) HLT.out)
     have HZ8 := Hd.mk (Nat.le_trans (Nat.le_trans Zn.out (by simp)) HAP.out.size)
     obtain ⟨A8, c8, rfl, hc8, _, _⟩ := HAP.out.own.reads
     have HB8 := Hd.mk HAP.out.below
     obtain ⟨ad2, B1', c1', B2', c2', s', e, _, hs', hrt', q0, q1, q2, q3, q4, q5, q6⟩ := (HP.out.up HB8.out).get hlt
     cases e
     obtain rfl : s' = s := by have := hs'.out; rw [hsi.out] at this; injection this with this; exact this.symm
     go_wp2_with (at_builtin; refine wpList_append_T (w0 := w) (us := [s']) rfl _ _ 25 25 rfl Tryz.slPoly Tryz.slPoly rfl rfl rfl (HAP.out.own.up ((Below.refl _ _).alloc (Nat.le_refl _) _)) (rpol_one hrt'.out _) HB01.out HST.out.1 (goes HB8.out ((Below.refl _ _).alloc (Nat.le_refl _) _)) (Nat.le_of_lt (by rw [HGB.out]; exact HLT.out)) (Nat.le_trans HZ8.out (by simp)) ?_)
     intro v' w9 AP
     have HAP9 := Hd.mk AP
     clear AP
     have HK9 := Hd.mk (HAP9.out.bk (HK8.out.up ((Below.refl _ _).alloc (Nat.le_refl _) _)) HLT.out)
     have HZ9 := Hd.mk (Nat.le_trans (Nat.le_trans HZ8.out (by simp)) HAP9.out.size)
     go_wp2_with fail
     go_roundw
     case measure => first | (simp [intOf]; done) | (simp [intOf]; omega)
     case rel => exact ⟨i + 1, true, _, by go_num, rfl, by omega, HST.out.2.1, ⟨HAP9.out.own⟩, ⟨HST.out.2.2⟩, ⟨HAP9.out.below⟩, HK9, HZ9⟩
    have HST := step (dd := d) (acct := acc) (by omega) hv
    clear HV1 step hv
    rcases hk with ⟨hk, rfl⟩ | hk
    all_goals
     obtain ⟨ad2, B1', c1', B2', c2', s', e, _, hs', hrt', q0, q1, q2, q3, q4, q5, q6⟩ := (HP.out.up HBn.out).get hlt
     cases e
     obtain rfl : s' = s := by have := hs'.out; rw [hsi.out] at this; injection this with this; exact this.symm
     go_wp2_with (at_builtin; refine wpList_append_T (w0 := w) (us := [s']) rfl _ _ 25 25 rfl Tryz.slPoly Tryz.slPoly rfl rfl rfl (On.out.up ((Below.refl _ _).alloc (Nat.le_refl _) _)) (rpol_one hrt'.out _) HB01.out HST.out.1 (goes HBn.out ((Below.refl _ _).alloc (Nat.le_refl _) _)) (Nat.le_of_lt (by rw [HGB.out]; exact HLT.out)) (Nat.le_trans Zn.out (by simp)) ?_)
     intro v' w9 AP
     have HAP9 := Hd.mk AP
     clear AP
     have HK9 := Hd.mk (HAP9.out.bk (Kn.out.up ((Below.refl _ _).alloc (Nat.le_refl _) _)) HLT.out)
     have HZ9 := Hd.mk (Nat.le_trans (Nat.le_trans Zn.out (by simp)) HAP9.out.size)
     go_wp2_with fail
     go_roundw
     case measure => first | (simp [intOf]; done) | (simp [intOf]; omega)
     case rel => exact ⟨i + 1, _, _, by go_num, rfl, by omega, HST.out.2.1, ⟨HAP9.out.own⟩, ⟨HST.out.2.2⟩, ⟨HAP9.out.below⟩, HK9, HZ9⟩
  ·obtain rfl : i = al.length := by omega
   have HE : Hd (E = (0, if d = true then acc else acc ++ [t])) := ⟨by rw [← HQ.out, List.drop_eq_nil_of_le (Nat.le_refl _)]; rfl⟩
   cases d
   ·have HTn := Hd.mk (HT.out.up HB.out)
    obtain ⟨⟨t0, t1, t2⟩, t3, t4, t5, t6⟩ := HK.out.seven
    have xl : acc.length + [t].length ≤ 1000000 := by simp; omega
    have XL := Hd.mk xl
    clear HQ xl
    go_wp2_with (at_builtin; refine wpList_append_T (w0 := w) (us := [t]) rfl _ _ 25 25 rfl Tryz.slPoly Tryz.slPoly rfl rfl rfl (HO.out.up ((Below.refl _ _).alloc (Nat.le_refl _) _)) (rpol_one HTn.out _) HB01.out XL.out (goes HB.out ((Below.refl _ _).alloc (Nat.le_refl _) _)) (Nat.le_of_lt (by rw [HGB.out]; exact HLT.out)) (Nat.le_trans HZ.out (by simp)) ?_)
    intro v' w8 AP
    have HAP := Hd.mk AP
    clear AP
    obtain ⟨A8, c8, rfl, hc8, _, hr8⟩ := HAP.out.own.reads
    have HR8 := Hd.mk hr8
    clear hr8
    go_wp2_with fail
    go_ret2
    rw [HE.out]
    exact ⟨A8, c8, rfl, hc8, HR8.out, HAP.out.below⟩
   ·obtain ⟨_, _, e, _, _, hr8⟩ := HO.out.reads
    cases e
    have HR8 := Hd.mk hr8
    clear hr8 HQ
    go_wp2_with fail
    go_ret2
    rw [HE.out]
    exact ⟨_, _, rfl, hcv, HR8.out, HB.out⟩
theorem Tryz.stTerm : isStruct (Tryz.prog.underlying 68) = true := by kernel_rfl
theorem Tryz.szTerm : (Tryz.prog.info? 68).map (·.size) = some 7 := by kernel_rfl
def set7 (w : World) (g : Nat) (v0 v1 v2 v3 v4 v5 v6 : Value) : World := ((((((w.setCell ⟨g, 0, none⟩ v0).setCell ⟨g, 1, none⟩ v1).setCell ⟨g, 2, none⟩ v2).setCell ⟨g, 3, none⟩ v3).setCell ⟨g, 4, none⟩ v4).setCell ⟨g, 5, none⟩ v5).setCell ⟨g, 6, none⟩ v6
section
variable {w w0 : World} {g b0 B : Nat} {t : TypeId} {a0 a1 a2 a3 a4 a5 a6 : Value}
theorem Bk.set7 (h : Bk w g t #[a0, a1, a2, a3, a4, a5, a6]) (v0 v1 v2 v3 v4 v5 v6 : Value) : Bk (set7 w g v0 v1 v2 v3 v4 v5 v6) g t #[v0, v1, v2, v3, v4, v5, v6] := by
 have h1 : Bk _ g t #[v0, a1, a2, a3, a4, a5, a6] := h.set_ 0 v0
 have h2 : Bk _ g t #[v0, v1, a2, a3, a4, a5, a6] := h1.set_ 1 v1
 have h3 : Bk _ g t #[v0, v1, v2, a3, a4, a5, a6] := h2.set_ 2 v2
 have h4 : Bk _ g t #[v0, v1, v2, v3, a4, a5, a6] := h3.set_ 3 v3
 have h5 : Bk _ g t #[v0, v1, v2, v3, v4, a5, a6] := h4.set_ 4 v4
 have h6 : Bk _ g t #[v0, v1, v2, v3, v4, v5, a6] := h5.set_ 5 v5
 have h7 : Bk _ g t #[v0, v1, v2, v3, v4, v5, v6] := h6.set_ 6 v6
 exact h7
theorem Below.set7 (h : Below B w0 w) (hg : B ≤ g) (v0 v1 v2 v3 v4 v5 v6 : Value) : Below B w0 (set7 w g v0 v1 v2 v3 v4 v5 v6) :=
 ((((((h.setCell hg _).setCell hg _).setCell hg _).setCell hg _).setCell hg _).setCell hg _).setCell hg _
theorem RTerm.set7 {v : Value} {s : TermD} {cs : Array Value} (h : RTerm w b0 v s) (hk : Bk w g 68 cs) (hb : b0 ≤ g) (v0 v1 v2 v3 v4 v5 v6 : Value) : RTerm (set7 w g v0 v1 v2 v3 v4 v5 v6) b0 v s :=
 h.grown ((((((set_grown w ⟨g, 0, none⟩ v0).set 1 v1).set 2 v2).set 3 v3).set 4 v4).set 5 v5 |>.set 6 v6) (fun g' e => by cases e; exact ⟨hb, _, _, hk, by decide⟩)
end
end Go.Proofs.YtgjkgkgieeoalaaGreat
namespace Go.Proofs.YtgjkgkgieeoalaaGreat
open Go.ChangeShapes Go.WideShapes Go.RowKit
def fieldsAt : Option TypeDesc → List (TypeId × Nat)
 | some (.struct fs) => fs.toList.map fun f => (f.type, f.offset)
 | _ => []
theorem fields_of {o : Option TypeDesc} {x : TypeId × Nat} {l : List (TypeId × Nat)} (h : fieldsAt o = x :: l) : ∃ fs : Array Field, o = some (.struct fs) ∧ fs.toList.map (fun f => (f.type, f.offset)) = x :: l := by
 unfold fieldsAt at h
 split at h
 ·exact ⟨_, rfl, h⟩
 ·cases h
theorem two_of {o : Option TypeDesc} {x y : TypeId × Nat} (h : fieldsAt o = [x, y]) : ∃ f g : Field, o = some (.struct #[f, g]) ∧ f.type = x.1 ∧ f.offset = x.2 ∧ g.type = y.1 ∧ g.offset = y.2 := by
 obtain ⟨⟨l⟩, e, h2⟩ := fields_of h
 match l, h2 with
 | [f, g], h2 =>
   simp only [List.map_cons, List.map_nil, List.cons.injEq, and_true] at h2
   exact ⟨f, g, e, by rw [← h2.1], by rw [← h2.1], by rw [← h2.2], by rw [← h2.2]⟩
end Go.Proofs.YtgjkgkgieeoalaaGreat
namespace Go.Proofs.YtgjkgkgieeoalaaGreat
structure GoodT (t : TermD) : Prop where
 c : GoodR t.c
 m : monMay t.m = true
def GoodP (ts : List TermD) : Prop := ∀ t ∈ ts, GoodT t
def U64T (ts : List TermD) : Prop := ∀ t ∈ ts, U64 t.c.num ∧ U64 t.c.den
theorem GoodP.tl {t : TermD} {ts : List TermD} (h : GoodP (t :: ts)) : GoodP ts := fun s hs => h s (List.mem_cons_of_mem _ hs)
theorem GoodP.hd {t : TermD} {ts : List TermD} (h : GoodP (t :: ts)) : GoodT t := h t List.mem_cons_self
theorem GoodP.nil : GoodP [] := fun _ h => by cases h
theorem GoodP.cons {t : TermD} {ts : List TermD} (h : GoodT t) (hs : GoodP ts) : GoodP (t :: ts) := fun s hm => by
 rcases List.mem_cons.1 hm with rfl | hm
 ·exact h
 ·exact hs s hm
theorem GoodP.app {a b : List TermD} (h : GoodP a) (h' : GoodP b) : GoodP (a ++ b) := fun s hm => by
 rcases List.mem_append.1 hm with hm | hm
 ·exact h s hm
 ·exact h' s hm
theorem GoodP.goodM {ts : List TermD} (h : GoodP ts) : GoodM ts := fun t ht => (h t ht).m
theorem GoodP.u {ts : List TermD} (h : GoodP ts) : U64T ts := fun t ht => ⟨(h t ht).c.un, (h t ht).c.ud⟩
theorem goodT_right {t : TermD} (h : right t = true) (hu : U64 t.c.num ∧ U64 t.c.den) : GoodT t := by
 unfold right at h
 rw [Bool.and_eq_true] at h
 exact ⟨⟨h.1, hu.1, hu.2⟩, h.2⟩
theorem GoodT.right {t : TermD} (h : GoodT t) : right t = true := by
 unfold Proofs.YtgjkgkgieeoalaaGreat.right
 rw [h.c.may, h.m]; rfl
def lin (f : MonD → Rat) : List TermD → Rat
 | [] => 0
 | t :: ts => qv t.c * f t.m + lin f ts
section
variable (f : MonD → Rat)
theorem lin_app (a b : List TermD) : lin f (a ++ b) = lin f a + lin f b := by
 induction a with
 | nil => simp [lin, Rat.zero_add]
 | cons t a ih => simp only [List.cons_append, lin, ih]; grind
theorem lin_perm {a b : List TermD} (h : a.Perm b) : lin f a = lin f b := by
 induction h with
 | nil => rfl
 | cons t _ ih => simp only [lin, ih]
 | swap s t l => simp only [lin]; grind
 | trans _ _ h1 h2 => exact h1.trans h2
theorem lin_nz {ts : List TermD} (h : GoodP ts) : lin f (ts.filter nz) = lin f ts := by
 induction ts with
 | nil => rfl
 | cons t ts ih =>
   rw [List.filter_cons]
   split
   ·simp only [lin, ih h.tl]
   ·rename_i hz
    have h0 : t.c.num.length = 0 := by unfold nz at hz; simpa using hz
    simp only [lin, ih h.tl, h.hd.c.nil_iff.1 h0]
    grind
theorem setM_far {al : List TermD} {m : MonD} (h : ∀ p ∈ al, p.m ≠ m) (c : RatD) : setM al m c = al := by
 unfold setM
 induction al with
 | nil => rfl
 | cons p al ih => rw [List.map_cons, if_neg (h p (by simp)), ih (fun q hq => h q (by simp [hq]))]
theorem lin_setM {al : List TermD} (hk : al.Pairwise fun p q => p.m ≠ q.m) {p : TermD} (hp : p ∈ al) (c : RatD) : lin f (setM al p.m c) + qv p.c * f p.m = lin f al + qv c * f p.m := by
 induction al with
 | nil => cases hp
 | cons q r ih =>
   obtain ⟨h1, h2⟩ := List.pairwise_cons.1 hk
   have e : setM (q :: r) p.m c = (if q.m = p.m then ⟨c, p.m⟩ else q) :: setM r p.m c := rfl
   rcases List.mem_cons.1 hp with rfl | hp
   ·rw [e, if_pos rfl, setM_far (fun s hs => fun h => h1 s hs h.symm)]
    simp only [lin]
    grind
   ·rw [e, if_neg (h1 p hp)]
    simp only [lin]
    have := ih h2 hp
    grind
end
theorem Sta.keys {o : Int} {al : List TermD} (h : Sta o al) : al.Pairwise fun p q => p.m ≠ q.m := by
 refine List.Pairwise.imp_of_mem ?_ h.fall
 intro p q hp hq hpq e
 have := (monCmp_zero h.ord (h.good p hp) (h.good q hq)).2 e
 omega
theorem putD_ok {o : Int} {al : List TermD} {t : TermD} (h : Sta o al) (hg : GoodP al) (ht : GoodT t) (he : (putD o al t).1 = 0) :
    GoodP (putD o al t).2 ∧ ∀ f, lin f (putD o al t).2 = lin f al + qv t.c * f t.m := by
 unfold putD at he ⊢
 by_cases hm : hasM al t.m = true
 ·rw [if_pos hm] at he ⊢
  obtain ⟨p, hp, em, ec⟩ := getM_of hm
  rw [ec] at he ⊢
  rcases addD_q (hg p hp).c ht.c with h1 | ⟨h1, h2⟩
  ·rw [h1] at he; simp at he
  ·rw [h1]
   simp only [ne_eq, not_true, if_false]
   refine ⟨fun s hs => ?_, fun f => ?_⟩
   ·rcases (mem_setM hm).1 hs with rfl | ⟨hs, _⟩
    ·exact ⟨ofQ_good h2, ht.m⟩
    ·exact hg s hs
   ·have := lin_setM f h.keys hp (ofQ (qv p.c + qv t.c))
    rw [← em]
    rw [qv_ofQ] at this
    grind
 ·rw [if_neg hm] at he ⊢
  refine ⟨fun s hs => ?_, fun f => ?_⟩
  ·rcases mem_insD.1 hs with rfl | hs
   ·exact ht
   ·exact hg s hs
  ·rw [lin_perm f (insD_perm o t al)]
   simp only [lin]
   grind
theorem putAll_ok {o : Int} : ∀ (ts al : List TermD), Sta o al → GoodP al → GoodP ts → (putAll o al ts).1 = 0 →
    Sta o (putAll o al ts).2 ∧ GoodP (putAll o al ts).2 ∧ ∀ f, lin f (putAll o al ts).2 = lin f al + lin f ts
 | [], al, h, hg, _, _ => ⟨h, hg, fun f => by simp only [putAll, lin]; grind⟩
 | t :: ts, al, h, hg, ht, he => by
   unfold putAll at he ⊢
   by_cases h1 : (putD o al t).1 = 0
   ·rw [if_neg (by simpa using h1)] at he ⊢
    obtain ⟨g1, g2⟩ := putD_ok h hg ht.hd h1
    obtain ⟨a1, a2, a3⟩ := putAll_ok ts _ (h.putD ht.hd.m h1) g1 ht.tl he
    refine ⟨a1, a2, fun f => ?_⟩
    rw [a3, g2]
    simp only [lin]
    grind
   ·rw [if_pos (by simpa using h1)] at he
    exact absurd he h1
structure Canon (o : Int) (ps : List TermD) : Prop where
 sta : Sta o ps
 good : GoodP ps
 nz : ∀ t ∈ ps, nz t = true
theorem Sta.filter {o : Int} {al : List TermD} (h : Sta o al) (p : TermD → Bool) : Sta o (al.filter p) :=
 ⟨h.ord, fun t ht => h.good t (List.mem_filter.1 ht).1, h.fall.filter p⟩
theorem canon_nz {o : Int} {al : List TermD} (h : Sta o al) (hg : GoodP al) : Canon o (al.filter Proofs.YtgjkgkgieeoalaaGreat.nz) :=
 ⟨h.filter _, fun t ht => hg t (List.mem_filter.1 ht).1, fun t ht => (List.mem_filter.1 ht).2⟩
theorem canon_nil {o : Int} (h : oOk o) : Canon o [] := ⟨.nil h, .nil, fun _ h => by cases h⟩
theorem GoodT.ne {t : TermD} (h : GoodT t) (hz : nz t = true) : qv t.c ≠ 0 := fun e => by
 have := h.c.nil_iff.2 e
 unfold nz at hz
 rw [decide_eq_true this] at hz
 cases hz
theorem polMake_ok {o : Int} {ts : List TermD} (hu : U64T ts) (h : (polMake o ts).1 = 0) :
    Canon o (polMake o ts).2 ∧ (polMake o ts).2.length ≤ 60 ∧ GoodP ts ∧ ∀ f, lin f (polMake o ts).2 = lin f ts := by
 unfold polMake at h ⊢
 split at h
 ·cases h
 ·rename_i h1
  rw [if_neg h1]
  split at h
  ·rename_i h2; exact absurd h h2
  ·rename_i h2
   rw [if_neg h2]
   split at h
   ·cases h
   ·rename_i h3
    rw [if_neg h3]
    rw [Bool.not_eq_false, Bool.and_eq_true, Bool.not_eq_true'] at h1
    have ho := ordered_ok.1 h1.1
    have hg : GoodP ts := fun t ht => by
     refine goodT_right ?_ (hu t ht)
     have := h1.2
     unfold anyOdd at this
     rw [List.any_eq_false] at this
     simpa using this t ht
    obtain ⟨a1, a2, a3⟩ := putAll_ok ts [] (.nil ho) .nil hg (by simpa using h2)
    refine ⟨canon_nz a1 a2, Nat.le_of_not_lt h3, hg, fun f => ?_⟩
    rw [lin_nz f a2, a3]
    simp only [lin]
    grind
def ind (m : MonD) : MonD → Rat := fun x => if x = m then 1 else 0
theorem lin_ind_not {al : List TermD} {m : MonD} (h : ∀ p ∈ al, p.m ≠ m) : lin (ind m) al = 0 := by
 induction al with
 | nil => rfl
 | cons p al ih =>
   simp only [lin]
   rw [ih (fun q hq => h q (by simp [hq]))]
   unfold ind
   rw [if_neg (h p (by simp))]
   grind
theorem lin_ind_mem {al : List TermD} (hk : al.Pairwise fun p q => p.m ≠ q.m) {t : TermD} (ht : t ∈ al) : lin (ind t.m) al = qv t.c := by
 induction al with
 | nil => cases ht
 | cons p al ih =>
   obtain ⟨h1, h2⟩ := List.pairwise_cons.1 hk
   simp only [lin]
   rcases List.mem_cons.1 ht with rfl | ht
   ·rw [lin_ind_not (fun q hq => fun e => h1 q hq e.symm)]
    unfold ind
    rw [if_pos rfl]
    grind
   ·rw [ih h2 ht]
    unfold ind
    rw [if_neg (h1 t ht)]
    grind
theorem canon_sub {o : Int} {p q : List TermD} (hp : Canon o p) (hq : Canon o q) (h : ∀ f, lin f p = lin f q) {t : TermD} (ht : t ∈ p) : t ∈ q := by
 have h1 := lin_ind_mem hp.sta.keys ht
 rw [h] at h1
 have h2 : ∃ s ∈ q, s.m = t.m := by
  refine Classical.byContradiction fun hn => ?_
  rw [lin_ind_not (fun s hs e => hn ⟨s, hs, e⟩)] at h1
  exact (hp.good t ht).ne (hp.nz t ht) h1.symm
 obtain ⟨s, hs, e⟩ := h2
 have h3 := lin_ind_mem hq.sta.keys hs
 rw [e, h1] at h3
 have : t.c = s.c := (hp.good t ht).c.inj (hq.good s hs).c h3
 have : t = s := by cases t; cases s; simp_all
 rw [this]; exact hs
theorem Sta.nodup' {o : Int} {al : List TermD} (h : Sta o al) : al.Nodup := h.keys.imp (fun hne e => hne (by rw [e]))
theorem canon_ext {o : Int} {p q : List TermD} (hp : Canon o p) (hq : Canon o q) (h : ∀ f, lin f p = lin f q) : p = q :=
 fall_eq hp.sta.ord hp.good.goodM hp.sta.fall hq.sta.fall ((List.perm_ext_iff_of_nodup hp.sta.nodup' hq.sta.nodup').2 fun _ => ⟨canon_sub hp hq h, canon_sub hq hp fun f => (h f).symm⟩)
end Go.Proofs.YtgjkgkgieeoalaaGreat
namespace Go.Proofs.YtgjkgkgieeoalaaGreat
open Go.RowKit
theorem ofD_small {n : Int} (h : n.natAbs < 18446744073709551616) : GoodR (ofD n) := ofD_good (Nat.lt_of_lt_of_le h (by decide))
theorem ofD_short (n : Int) (h : n.natAbs < 18446744073709551616) : (ofD n).short := by
 obtain ⟨h1, h2, _⟩ := ratMay_of (ofD_small h).may
 have := natMay_len h1
 have := natMay_len h2
 exact ⟨by omega, by omega⟩
section
variable {W : World} {b0 g : Nat}
theorem Rd.of_bk {t : TypeId} {cs : Array Value} (h : Bk W g t cs) (n sz : Nat) (hs : cs.size = n * sz) : Rd W W.heap.size sz (some ⟨g, 0, none⟩) n cs.toList := by
 refine ⟨by simpa using hs, fun _ => ⟨_, rfl, h.lt, fun j u hu => ?_⟩⟩
 rw [show ((⟨g, 0, none⟩ : Addr).add j) = ⟨g, j, none⟩ by rw [add_win, Nat.zero_add], h.cell]
 simpa using hu
theorem rpols_bk2 {t : TypeId} {p q : List TermD} {A B : Option Addr} {c d : Nat} (hk : Bk W g t #[.slice A p.length c, .slice B q.length d]) (h : RPol W b0 A p) (h' : RPol W b0 B q) (hc : p.length ≤ c) (hd : q.length ≤ d) : RPols W b0 (some ⟨g, 0, none⟩) [p, q] := by
 refine ⟨_, Rd.of_bk hk 2 1 rfl, fun j r hj => ?_⟩
 match j, hj with
 | 0, hj => injection hj with hj; subst hj; exact ⟨_, _, rfl, hc, h⟩
 | 1, hj => injection hj with hj; subst hj; exact ⟨_, _, rfl, hd, h'⟩
 | n + 2, hj => cases hj
end
theorem Bo2.al {S g1 g2 : Nat} {w0 w : World} {t1 t2 : TypeId} {c1 c2 : Array Value} (h : Bo2 S g1 g2 w0 w t1 t2 c1 c2) (o : Obj) : Bo2 S g1 g2 w0 (w.alloc o) t1 t2 c1 c2 := h.up ((Below.refl _ _).alloc (Nat.le_refl _) _)
theorem below1 (w : World) (o : Obj) : Below w.heap.size w (w.alloc o) := (Below.refl _ _).alloc (Nat.le_refl _) _
end Go.Proofs.YtgjkgkgieeoalaaGreat
