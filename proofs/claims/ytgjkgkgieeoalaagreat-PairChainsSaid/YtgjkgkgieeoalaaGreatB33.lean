/- Parts of the proof, joined: each theorem says what it shows. -/
import Derived.Test.YtgjkgkgieeoalaaGreatB28
import Derived.Test.YtgjkgkgieeoalaaGreatB21
import Derived.Test.YtgjkgkgieeoalaaGreatB32
set_option linter.unusedVariables false
set_option linter.unusedSimpArgs false
set_option maxHeartbeats 24000000
set_option maxRecDepth 100000
namespace Go.Proofs.YtgjkgkgieeoalaaGreat
open Go.RowKit
def maxM (a b : MonD) : MonD := ⟨max a.x0 b.x0, max a.x1 b.x1, max a.x2 b.x2, max a.x3 b.x3⟩
def monLcm (a b : MonD) : MonD := if (monMay a && monMay b) = false then zeroM else maxM a b
theorem lcm_1 (x y : Int) (w : World) : Calls Tryz.prog 167 #[.int .i64 x, .int .i64 y] w fun e w' => e = .returned (.int .i64 (max x y)) ∧ w = w' := by
 go_enter Tryz.func167, Tryz.ntmps167
 go_wp2_with fail
 go_ret
 exact ⟨rfl, rfl⟩
theorem zip_lcm (a b z : MonD) (hz : z = ⟨max a.x0 b.x0, max a.x1 b.x1, max a.x2 b.x2, max a.x3 b.x3⟩) (w : World) (hma : monMay a = true) (hmb : monMay b = true) :
    Calls Tryz.prog 162 #[.agg #[.int .i64 a.x0, .int .i64 a.x1, .int .i64 a.x2, .int .i64 a.x3], .agg #[.int .i64 b.x0, .int .i64 b.x1, .int .i64 b.x2, .int .i64 b.x3], .func (.func 167) #[] #[]] w fun e w' => e = .returned (.agg #[.int .i64 (z).x0, .int .i64 (z).x1, .int .i64 (z).x2, .int .i64 (z).x3]) ∧ Blw w.heap.size w w' := by
 obtain ⟨ra0, ra1, ra2, ra3⟩ := monMay_of hma
 obtain ⟨rb0, rb1, rb2, rb3⟩ := monMay_of hmb
 have F0 := Hd.mk (fun W => lcm_1 a.x0 b.x0 W)
 have F1 := Hd.mk (fun W => lcm_1 a.x1 b.x1 W)
 have F2 := Hd.mk (fun W => lcm_1 a.x2 b.x2 W)
 have F3 := Hd.mk (fun W => lcm_1 a.x3 b.x3 W)
 have z0 : max a.x0 b.x0 = z.x0 := by rw [hz]
 have z1 : max a.x1 b.x1 = z.x1 := by rw [hz]
 have z2 : max a.x2 b.x2 = z.x2 := by rw [hz]
 have z3 : max a.x3 b.x3 = z.x3 := by rw [hz]
 rw [z0] at F0; rw [z1] at F1; rw [z2] at F2; rw [z3] at F3
 clear hz z0 z1 z2 z3 ra0 ra1 ra2 ra3 rb0 rb1 rb2 rb3 hma hmb
 go_enter Tryz.func162, Tryz.ntmps162
 go_upto_region 1 with (fail)
 refine wp_gen (fun W => ∃ g3, g3 = w.heap.size + 1 + 1 ∧ Bm2 w.heap.size w.heap.size (w.heap.size + 1) w W a b ∧ Bk W g3 66 #[.int .i64 (part z 0).x0, .int .i64 (part z 0).x1, .int .i64 (part z 0).x2, .int .i64 (part z 0).x3]) ⟨_, rfl, (Bm2.mk2 w a b).up ((Blw.refl _ _).alloc (Nat.le_refl _) _), by
  have := Bk.new_ ((w.alloc (Obj.cells #[.int .i64 a.x0, .int .i64 a.x1, .int .i64 a.x2, .int .i64 a.x3] 66)).alloc (Obj.cells #[.int .i64 b.x0, .int .i64 b.x1, .int .i64 b.x2, .int .i64 b.x3] 66)) 66 #[.int .i64 (part z 0).x0, .int .i64 (part z 0).x1, .int .i64 (part z 0).x2, .int .i64 (part z 0).x3]
  simpa [part] using this⟩ ?_
 rintro W ⟨⟨g3, hg3, BX, K3⟩⟩
 have n3 : w.heap.size ≤ g3 ∧ g3 ≠ w.heap.size ∧ g3 ≠ w.heap.size + 1 := by omega
 rw [← hg3]
 have BX := Hd.mk BX
 have K3 := Hd.mk K3
 clear hg3
 generalize w.heap.size + 1 = g2 at BX n3 ⊢
 obtain ⟨n3a, n3b, n3c⟩ := n3
 go_wp2_with fail
 go_loopw [8] (fun v8 wr => ∃ i : Nat, v8 = .int .i64 i ∧ i ≤ 4 ∧ Hd (Bm2 w.heap.size w.heap.size g2 w wr a b) ∧ Hd (Bk wr g3 66 #[.int .i64 (part z i).x0, .int .i64 (part z i).x1, .int .i64 (part z i).x2, .int .i64 (part z i).x3])) (fun v _ => 4 - (intOf v).toNat)
 case atStart => exact ⟨0, rfl, by omega, BX, K3⟩
 case round =>
  clear BX K3
  obtain ⟨i, rfl, hi, BX, K3⟩ := hrel
  obtain ⟨c0, c1, c2, c3⟩ := BX.out.k1.four
  obtain ⟨d0, d1, d2, d3⟩ := BX.out.k2.four
  rcases (show i = 0 ∨ i = 1 ∨ i = 2 ∨ i = 3 ∨ i = 4 by omega) with rfl | rfl | rfl | rfl | rfl
  ·have k3 : Bk wr g3 66 #[.int .i64 (part z 0).x0, .int .i64 (part z 0).x1, .int .i64 (part z 0).x2, .int .i64 (part z 0).x3] := K3.out
   obtain ⟨e0, e1, e2, e3⟩ := k3.four
   have fz := k3.froz 0
   clear k3
   go_wp2_with fail
   go_region_held3 (fun w' => Hd (Blw w.heap.size w w') ∧ w'.cell? ⟨w.heap.size, 0, none⟩ = some (.int .i64 a.x0) ∧ w'.cell? ⟨g2, 0, none⟩ = some (.int .i64 b.x0))
    (first
     | exact ⟨⟨BX.out.below⟩, c0, d0⟩
     | exact ⟨⟨(BX.out.dn 1).below⟩, c0, d0⟩
     | exact ⟨⟨(BX.out.dn 1).below.setCell n3a _⟩, (far1 rfl n3b).trans c0, (far1 rfl n3c).trans d0⟩)
    (first | (go_at_call 167; with_reducible refine (F0.out _).mono ?_; rintro e w4 ⟨rfl, rfl⟩))
   all_goals (
    go_wp2_with fail
    go_roundw
    case measure => first | (simp [intOf]; done) | (simp [intOf]; omega)
    case rel =>
     refine ⟨1, rfl, by omega, ⟨⟨(BX.out.dn 1).below.setCell n3a _, BX.out.s1, BX.out.s2, BX.out.n12, (BX.out.dn 1).k1.far n3b.symm _, (BX.out.dn 1).k2.far n3c.symm _⟩⟩, ⟨?_⟩⟩
     exact (show Bk wr.drew g3 66 #[.int .i64 (part z 0).x0, .int .i64 (part z 0).x1, .int .i64 (part z 0).x2, .int .i64 (part z 0).x3] from K3.out).set_ 0 (.int .i64 z.x0))
  ·have k3 : Bk wr g3 66 #[.int .i64 (part z 1).x0, .int .i64 (part z 1).x1, .int .i64 (part z 1).x2, .int .i64 (part z 1).x3] := K3.out
   obtain ⟨e0, e1, e2, e3⟩ := k3.four
   have fz := k3.froz 1
   clear k3
   go_wp2_with fail
   go_region_held3 (fun w' => Hd (Blw w.heap.size w w') ∧ w'.cell? ⟨w.heap.size, 1, none⟩ = some (.int .i64 a.x1) ∧ w'.cell? ⟨g2, 1, none⟩ = some (.int .i64 b.x1))
    (first
     | exact ⟨⟨BX.out.below⟩, c1, d1⟩
     | exact ⟨⟨(BX.out.dn 1).below⟩, c1, d1⟩
     | exact ⟨⟨(BX.out.dn 1).below.setCell n3a _⟩, (far1 rfl n3b).trans c1, (far1 rfl n3c).trans d1⟩)
    (first | (go_at_call 167; with_reducible refine (F1.out _).mono ?_; rintro e w4 ⟨rfl, rfl⟩))
   all_goals (
    go_wp2_with fail
    go_roundw
    case measure => first | (simp [intOf]; done) | (simp [intOf]; omega)
    case rel =>
     refine ⟨2, rfl, by omega, ⟨⟨(BX.out.dn 1).below.setCell n3a _, BX.out.s1, BX.out.s2, BX.out.n12, (BX.out.dn 1).k1.far n3b.symm _, (BX.out.dn 1).k2.far n3c.symm _⟩⟩, ⟨?_⟩⟩
     exact (show Bk wr.drew g3 66 #[.int .i64 (part z 1).x0, .int .i64 (part z 1).x1, .int .i64 (part z 1).x2, .int .i64 (part z 1).x3] from K3.out).set_ 1 (.int .i64 z.x1))
  ·have k3 : Bk wr g3 66 #[.int .i64 (part z 2).x0, .int .i64 (part z 2).x1, .int .i64 (part z 2).x2, .int .i64 (part z 2).x3] := K3.out
   obtain ⟨e0, e1, e2, e3⟩ := k3.four
   have fz := k3.froz 2
   clear k3
   go_wp2_with fail
   go_region_held3 (fun w' => Hd (Blw w.heap.size w w') ∧ w'.cell? ⟨w.heap.size, 2, none⟩ = some (.int .i64 a.x2) ∧ w'.cell? ⟨g2, 2, none⟩ = some (.int .i64 b.x2))
    (first
     | exact ⟨⟨BX.out.below⟩, c2, d2⟩
     | exact ⟨⟨(BX.out.dn 1).below⟩, c2, d2⟩
     | exact ⟨⟨(BX.out.dn 1).below.setCell n3a _⟩, (far1 rfl n3b).trans c2, (far1 rfl n3c).trans d2⟩)
    (first | (go_at_call 167; with_reducible refine (F2.out _).mono ?_; rintro e w4 ⟨rfl, rfl⟩))
   all_goals (
    go_wp2_with fail
    go_roundw
    case measure => first | (simp [intOf]; done) | (simp [intOf]; omega)
    case rel =>
     refine ⟨3, rfl, by omega, ⟨⟨(BX.out.dn 1).below.setCell n3a _, BX.out.s1, BX.out.s2, BX.out.n12, (BX.out.dn 1).k1.far n3b.symm _, (BX.out.dn 1).k2.far n3c.symm _⟩⟩, ⟨?_⟩⟩
     exact (show Bk wr.drew g3 66 #[.int .i64 (part z 2).x0, .int .i64 (part z 2).x1, .int .i64 (part z 2).x2, .int .i64 (part z 2).x3] from K3.out).set_ 2 (.int .i64 z.x2))
  ·have k3 : Bk wr g3 66 #[.int .i64 (part z 3).x0, .int .i64 (part z 3).x1, .int .i64 (part z 3).x2, .int .i64 (part z 3).x3] := K3.out
   obtain ⟨e0, e1, e2, e3⟩ := k3.four
   have fz := k3.froz 3
   clear k3
   go_wp2_with fail
   go_region_held3 (fun w' => Hd (Blw w.heap.size w w') ∧ w'.cell? ⟨w.heap.size, 3, none⟩ = some (.int .i64 a.x3) ∧ w'.cell? ⟨g2, 3, none⟩ = some (.int .i64 b.x3))
    (first
     | exact ⟨⟨BX.out.below⟩, c3, d3⟩
     | exact ⟨⟨(BX.out.dn 1).below⟩, c3, d3⟩
     | exact ⟨⟨(BX.out.dn 1).below.setCell n3a _⟩, (far1 rfl n3b).trans c3, (far1 rfl n3c).trans d3⟩)
    (first | (go_at_call 167; with_reducible refine (F3.out _).mono ?_; rintro e w4 ⟨rfl, rfl⟩))
   all_goals (
    go_wp2_with fail
    go_roundw
    case measure => first | (simp [intOf]; done) | (simp [intOf]; omega)
    case rel =>
     refine ⟨4, rfl, by omega, ⟨⟨(BX.out.dn 1).below.setCell n3a _, BX.out.s1, BX.out.s2, BX.out.n12, (BX.out.dn 1).k1.far n3b.symm _, (BX.out.dn 1).k2.far n3c.symm _⟩⟩, ⟨?_⟩⟩
     exact (show Bk wr.drew g3 66 #[.int .i64 (part z 3).x0, .int .i64 (part z 3).x1, .int .i64 (part z 3).x2, .int .i64 (part z 3).x3] from K3.out).set_ 3 (.int .i64 z.x3))
  ·have k3 : Bk wr g3 66 #[.int .i64 (z).x0, .int .i64 (z).x1, .int .i64 (z).x2, .int .i64 (z).x3] := K3.out
   obtain ⟨e0, e1, e2, e3⟩ := k3.four
   have fz := fun i => k3.froz i
   have K4 := Hd.mk k3
   clear k3 K3
   go_wp2_with fail
   refine bodyPost_ret (res_mono rfl _ _ g3 _ rfl (K4.out.set4 _ _ _ _) rfl) rfl ?_
   exact ⟨rfl, (((BX.out.below.setCell n3a _).setCell n3a _).setCell n3a _).setCell n3a _⟩
theorem mono_Lcm (a b : MonD) (w : World) :
    Calls Tryz.prog 92 #[.agg #[.int .i64 a.x0, .int .i64 a.x1, .int .i64 a.x2, .int .i64 a.x3], .agg #[.int .i64 b.x0, .int .i64 b.x1, .int .i64 b.x2, .int .i64 b.x3]] w fun e w' =>
     e = .returned (.agg #[.int .i64 (monLcm a b).x0, .int .i64 (monLcm a b).x1, .int .i64 (monLcm a b).x2, .int .i64 (monLcm a b).x3]) ∧ Blw w.heap.size w w' := by
 obtain ⟨E, hE⟩ : ∃ E, monLcm a b = E := ⟨_, rfl⟩
 rw [hE]
 have HEQ := Hd.mk hE
 clear hE
 go_enter Tryz.func92, Tryz.ntmps92
 go_upto_region 1 with (fail)
 refine wp_gen (fun W => Bm3 w.heap.size w.heap.size (w.heap.size + 1) (w.heap.size + 1 + 1) w W a b zeroM) (Bm3.mk3 w a b zeroM) ?_
 intro W BX
 generalize w.heap.size + 1 + 1 = g3 at BX ⊢
 generalize w.heap.size + 1 = g2 at BX ⊢
 obtain ⟨c0, c1, c2, c3⟩ := BX.out.bm.k1.four
 have CA := Hd.mk (mono_May a W)
 cases hma : monMay a
 ·have HE : Hd (monLcm a b = zeroM) := ⟨by unfold monLcm; rw [hma]; rfl⟩
  rw [hma] at CA
  go_wp2_with fail
  refine CA.out.mono ?_
  rintro e w4 ⟨rfl, hb⟩
  have BX4 := Hd.mk (BX.out.up hb)
  obtain ⟨e0, e1, e2, e3⟩ := BX4.out.k3.four
  have fz := fun i => BX4.out.k3.froz i
  clear hb
  go_wp2_with fail
  obtain ⟨d1, d2⟩ := BX4.out.done (.int .i64 0) (.int .i64 0) (.int .i64 0) (.int .i64 0)
  refine bodyPost_ret (res_mono rfl _ _ g3 _ rfl d1 rfl) rfl ?_
  have h5 := HEQ.out.symm.trans HE.out
  subst h5
  exact ⟨rfl, d2⟩
 ·rw [hma] at CA
  go_wp2_with fail
  refine CA.out.mono ?_
  rintro e w4 ⟨rfl, hb⟩
  have BX4 := Hd.mk (BX.out.up hb)
  obtain ⟨p0, p1, p2, p3⟩ := BX4.out.bm.k2.four
  have CB := Hd.mk (mono_May b w4)
  clear hb c0 c1 c2 c3 BX CA
  cases hmb : monMay b
  ·have HE : Hd (monLcm a b = zeroM) := ⟨by unfold monLcm; rw [hmb]; simp⟩
   rw [hmb] at CB
   go_wp2_with fail
   refine CB.out.mono ?_
   rintro e w5 ⟨rfl, hb⟩
   have BX5 := Hd.mk (BX4.out.up hb)
   obtain ⟨e0, e1, e2, e3⟩ := BX5.out.k3.four
   have fz := fun i => BX5.out.k3.froz i
   clear hb
   go_wp2_with fail
   obtain ⟨d1, d2⟩ := BX5.out.done (.int .i64 0) (.int .i64 0) (.int .i64 0) (.int .i64 0)
   refine bodyPost_ret (res_mono rfl _ _ g3 _ rfl d1 rfl) rfl ?_
   have h5 := HEQ.out.symm.trans HE.out
   subst h5
   exact ⟨rfl, d2⟩
  ·rw [hmb] at CB
   have HE : Hd (monLcm a b = maxM a b) := ⟨by unfold monLcm; rw [hma, hmb]; rfl⟩
   obtain ⟨z, hz⟩ : ∃ z, z = maxM a b := ⟨_, rfl⟩
   rw [← hz] at HE
   have ZP := Hd.mk (fun W => zip_lcm a b z hz W hma hmb)
   clear hma hmb hz
   go_wp2_with fail
   refine CB.out.mono ?_
   rintro e w5 ⟨rfl, hb⟩
   have BX5 := Hd.mk (BX4.out.up hb)
   obtain ⟨c0, c1, c2, c3⟩ := BX5.out.bm.k1.four
   obtain ⟨p0, p1, p2, p3⟩ := BX5.out.bm.k2.four
   clear hb CB
   go_wp2_with fail
   refine (ZP.out w5).mono ?_
   rintro e w6 ⟨rfl, hb⟩
   have BX6 := Hd.mk (BX5.out.up hb)
   obtain ⟨e0, e1, e2, e3⟩ := BX6.out.k3.four
   have fz := fun i => BX6.out.k3.froz i
   clear hb ZP
   go_wp2_with fail
   obtain ⟨d1, d2⟩ := BX6.out.done (.int .i64 z.x0) (.int .i64 z.x1) (.int .i64 z.x2) (.int .i64 z.x3)
   refine bodyPost_ret (res_mono rfl _ _ g3 _ rfl d1 rfl) rfl ?_
   have h5 := HEQ.out.symm.trans HE.out
   subst h5
   exact ⟨rfl, d2⟩
theorem maxM_at {a b : MonD} {i : Nat} {x y : Int} (hi : i < 4) (hx : a.l.getD i 0 = x) (hy : b.l.getD i 0 = y) : (maxM a b).l.getD i 0 = max x y := by
 subst hx hy
 rcases (show i = 0 ∨ i = 1 ∨ i = 2 ∨ i = 3 by omega) with rfl | rfl | rfl | rfl <;> rfl
theorem rmon_Lcm (a b : MonD) (w : World) :
    Calls Tryz.prog 33 #[.agg a.v, .agg b.v] w fun e w' => e = .returned (.agg (monLcm a b).v) ∧ Below w.heap.size w w' := by
 obtain ⟨E, hE⟩ : ∃ E, monLcm a b = E := ⟨_, rfl⟩
 rw [hE]
 have HEQ := Hd.mk hE
 clear hE
 go_enter Tryz.func33, Tryz.ntmps33
 go_upto_region 2 with (fail)
 refine wp_gen (fun W => Mu w.heap.size w.heap.size (w.heap.size + 1) (w.heap.size + 1 + 1) (w.heap.size + 1 + 1 + 1) w W a b zeroM) ⟨((Bo2.mk2 w _ _ _ _).up ((Below.refl _ _).alloc (Nat.le_refl _) _)).up ((Below.refl _ _).alloc (Nat.le_refl _) _), by omega, by omega, by omega, by omega, by omega, by
  have := (Bk.new_ ((w.alloc (Obj.cells a.v 66)).alloc (Obj.cells b.v 66)) 66 zeroM.v).al (Obj.cells zeroM.v 66)
  simpa [MonD.v, zeroM] using this, by
  have := Bk.new_ (((w.alloc (Obj.cells a.v 66)).alloc (Obj.cells b.v 66)).alloc (Obj.cells zeroM.v 66)) 66 zeroM.v
  simpa [MonD.v, zeroM] using this⟩ ?_
 intro W MU
 generalize w.heap.size + 1 + 1 + 1 = g4 at MU ⊢
 generalize w.heap.size + 1 + 1 = g3 at MU ⊢
 generalize w.heap.size + 1 = g2 at MU ⊢
 obtain ⟨p0, p1, p2, p3⟩ := MU.out.bo.k1.four
 have CA := Hd.mk (rmon_May a W)
 cases hma : monMay a
 ·rw [hma] at CA
  have HE : Hd (E = zeroM) := ⟨by rw [← HEQ.out]; unfold monLcm; rw [hma]; rfl⟩
  clear hma
  go_wp2_with fail
  refine CA.out.mono ?_
  rintro e w2 ⟨rfl, hb⟩
  have MU2 := Hd.mk (MU.out.up hb)
  obtain ⟨q0, q1, q2, q3⟩ := MU2.out.k4.four
  obtain ⟨r0, r1, r2, r3⟩ := MU2.out.k3.four
  have fz := fun i => MU2.out.k3.froz i
  clear hb
  go_wp2_with fail
  obtain ⟨d1, d2⟩ := MU2.out.res (.int .i64 0) (.int .i64 0) (.int .i64 0) (.int .i64 0)
  refine bodyPost_ret (res_mono rfl _ _ g3 _ rfl d1 rfl) rfl ?_
  rw [HE.out]
  exact ⟨rfl, d2⟩
 rw [hma] at CA
 have CB := Hd.mk (rmon_May b)
 cases hmb : monMay b
 ·rw [hmb] at CB
  have HE : Hd (E = zeroM) := ⟨by rw [← HEQ.out]; unfold monLcm; rw [hma, hmb]; rfl⟩
  clear hma hmb
  go_wp2_with fail
  refine CA.out.mono ?_
  rintro e w2 ⟨rfl, hb⟩
  have MU2 := Hd.mk (MU.out.up hb)
  obtain ⟨s0, s1, s2, s3⟩ := MU2.out.bo.k2.four
  clear hb p0 p1 p2 p3
  go_wp2_with fail
  clear s0 s1 s2 s3
  refine (CB.out _).mono ?_
  rintro e w3 ⟨rfl, hb⟩
  have MU3 := Hd.mk (MU2.out.up hb)
  obtain ⟨q0, q1, q2, q3⟩ := MU3.out.k4.four
  obtain ⟨r0, r1, r2, r3⟩ := MU3.out.k3.four
  have fz := fun i => MU3.out.k3.froz i
  clear hb
  go_wp2_with fail
  obtain ⟨d1, d2⟩ := MU3.out.res (.int .i64 0) (.int .i64 0) (.int .i64 0) (.int .i64 0)
  refine bodyPost_ret (res_mono rfl _ _ g3 _ rfl d1 rfl) rfl ?_
  rw [HE.out]
  exact ⟨rfl, d2⟩
 rw [hmb] at CB
 have HAB := Hd.mk (fun {i : Nat} {x y : Int} => maxM_at (a := a) (b := b) (i := i) (x := x) (y := y))
 have HYES : Hd (E = maxM a b) := ⟨by rw [← HEQ.out]; unfold monLcm; rw [hma, hmb]; rfl⟩
 have HM := Hd.mk (And.intro hma hmb)
 generalize maxM a b = z at HAB HYES
 clear hma hmb
 go_wp2_with fail
 refine CA.out.mono ?_
 rintro e w2 ⟨rfl, hb⟩
 have MU2 := Hd.mk (MU.out.up hb)
 obtain ⟨s0, s1, s2, s3⟩ := MU2.out.bo.k2.four
 clear hb p0 p1 p2 p3 CA
 go_wp2_with fail
 clear s0 s1 s2 s3
 refine (CB.out _).mono ?_
 rintro e w3 ⟨rfl, hb⟩
 have MU3 : Hd (Mu w.heap.size w.heap.size g2 g3 g4 w w3 a b (part z 0)) := ⟨MU2.out.up hb⟩
 clear hb CB MU MU2
 go_wp2_with fail
 go_loopw [6] (fun v wr => ∃ i : Nat, v = .int .i64 i ∧ i ≤ 4 ∧ Hd (Mu w.heap.size w.heap.size g2 g3 g4 w wr a b (part z i))) (fun v _ => 4 - (intOf v).toNat)
 case atStart => exact ⟨0, rfl, by omega, MU3⟩
 case round =>
  clear MU3
  obtain ⟨i, rfl, hi, MU⟩ := hrel
  by_cases hlt : i < 4
  ·obtain ⟨x, HX, hcx⟩ := cellM MU.out.bo.k1 hlt
   obtain ⟨y, HY, hcy⟩ := cellM MU.out.bo.k2 hlt
   have i1 : (i : Int) < 4 := by omega
   have i3 : (0 : Int) ≤ i := by omega
   have HZ := Hd.mk (HAB.out hlt HX.out HY.out)
   have fz := MU.out.k4.froz i
   obtain ⟨u, HU, hcu⟩ := cellM MU.out.k4 hlt
   have HN1 := MU.out.n1
   have HN2 := MU.out.n2
   have HMU := Hd.mk (fun n => (MU.out.dn n).set hlt HZ.out)
   clear HAB
   go_wp2_with fail
   go_region_held3 (fun w' => Hd (Below w.heap.size w w') ∧ w'.cell? ⟨w.heap.size, i, none⟩ = some (.int .i64 x) ∧ w'.cell? ⟨g2, i, none⟩ = some (.int .i64 y))
    (first
     | exact ⟨⟨MU.out.bo.below⟩, hcx, hcy⟩
     | exact ⟨⟨(MU.out.dn 1).bo.below⟩, hcx, hcy⟩
     | exact ⟨⟨(MU.out.dn 1).bo.below.setCell MU.out.s4 _⟩, (far1 rfl HN1).trans hcx, (far1 rfl HN2).trans hcy⟩)
    (fail)
   all_goals
    go_wp2_with fail
    go_roundw
    case measure => first | (simp [intOf]; done) | (simp [intOf]; omega)
    case rel => exact ⟨_, by go_num, by omega, ⟨HMU.out 1⟩⟩
  ·obtain rfl : i = 4 := by omega
   have MU : Hd (Mu w.heap.size w.heap.size g2 g3 g4 w wr a b z) := MU
   have HE := HYES
   obtain ⟨q0, q1, q2, q3⟩ := MU.out.k4.four
   obtain ⟨r0, r1, r2, r3⟩ := MU.out.k3.four
   have fz := fun i => MU.out.k3.froz i
   clear HAB
   go_wp2_with fail
   obtain ⟨d1, d2⟩ := MU.out.res (.int .i64 z.x0) (.int .i64 z.x1) (.int .i64 z.x2) (.int .i64 z.x3)
   refine bodyPost_ret (res_mono rfl _ _ g3 _ rfl d1 rfl) rfl ?_
   rw [HE.out]
   exact ⟨rfl, d2⟩
def minM (a b : MonD) : MonD := ⟨min a.x0 b.x0, min a.x1 b.x1, min a.x2 b.x2, min a.x3 b.x3⟩
def monCop (a b : MonD) : Bool := monMay a && monMay b && decide (minM a b = zeroM)
theorem cop_1 (x y : Int) (w : World) : Calls Tryz.prog 163 #[.int .i64 x, .int .i64 y] w fun e w' => e = .returned (.int .i64 (min x y)) ∧ w = w' := by
 go_enter Tryz.func163, Tryz.ntmps163
 go_wp2_with fail
 go_ret
 exact ⟨rfl, rfl⟩
theorem zip_cop (a b z : MonD) (hz : z = ⟨min a.x0 b.x0, min a.x1 b.x1, min a.x2 b.x2, min a.x3 b.x3⟩) (w : World) (hma : monMay a = true) (hmb : monMay b = true) :
    Calls Tryz.prog 162 #[.agg #[.int .i64 a.x0, .int .i64 a.x1, .int .i64 a.x2, .int .i64 a.x3], .agg #[.int .i64 b.x0, .int .i64 b.x1, .int .i64 b.x2, .int .i64 b.x3], .func (.func 163) #[] #[]] w fun e w' => e = .returned (.agg #[.int .i64 (z).x0, .int .i64 (z).x1, .int .i64 (z).x2, .int .i64 (z).x3]) ∧ Blw w.heap.size w w' := by
 obtain ⟨ra0, ra1, ra2, ra3⟩ := monMay_of hma
 obtain ⟨rb0, rb1, rb2, rb3⟩ := monMay_of hmb
 have F0 := Hd.mk (fun W => cop_1 a.x0 b.x0 W)
 have F1 := Hd.mk (fun W => cop_1 a.x1 b.x1 W)
 have F2 := Hd.mk (fun W => cop_1 a.x2 b.x2 W)
 have F3 := Hd.mk (fun W => cop_1 a.x3 b.x3 W)
 have z0 : min a.x0 b.x0 = z.x0 := by rw [hz]
 have z1 : min a.x1 b.x1 = z.x1 := by rw [hz]
 have z2 : min a.x2 b.x2 = z.x2 := by rw [hz]
 have z3 : min a.x3 b.x3 = z.x3 := by rw [hz]
 rw [z0] at F0; rw [z1] at F1; rw [z2] at F2; rw [z3] at F3
 clear hz z0 z1 z2 z3 ra0 ra1 ra2 ra3 rb0 rb1 rb2 rb3 hma hmb
 go_enter Tryz.func162, Tryz.ntmps162
 go_upto_region 1 with (fail)
 refine wp_gen (fun W => ∃ g3, g3 = w.heap.size + 1 + 1 ∧ Bm2 w.heap.size w.heap.size (w.heap.size + 1) w W a b ∧ Bk W g3 66 #[.int .i64 (part z 0).x0, .int .i64 (part z 0).x1, .int .i64 (part z 0).x2, .int .i64 (part z 0).x3]) ⟨_, rfl, (Bm2.mk2 w a b).up ((Blw.refl _ _).alloc (Nat.le_refl _) _), by
  have := Bk.new_ ((w.alloc (Obj.cells #[.int .i64 a.x0, .int .i64 a.x1, .int .i64 a.x2, .int .i64 a.x3] 66)).alloc (Obj.cells #[.int .i64 b.x0, .int .i64 b.x1, .int .i64 b.x2, .int .i64 b.x3] 66)) 66 #[.int .i64 (part z 0).x0, .int .i64 (part z 0).x1, .int .i64 (part z 0).x2, .int .i64 (part z 0).x3]
  simpa [part] using this⟩ ?_
 rintro W ⟨⟨g3, hg3, BX, K3⟩⟩
 have n3 : w.heap.size ≤ g3 ∧ g3 ≠ w.heap.size ∧ g3 ≠ w.heap.size + 1 := by omega
 rw [← hg3]
 have BX := Hd.mk BX
 have K3 := Hd.mk K3
 clear hg3
 generalize w.heap.size + 1 = g2 at BX n3 ⊢
 obtain ⟨n3a, n3b, n3c⟩ := n3
 go_wp2_with fail
 go_loopw [8] (fun v8 wr => ∃ i : Nat, v8 = .int .i64 i ∧ i ≤ 4 ∧ Hd (Bm2 w.heap.size w.heap.size g2 w wr a b) ∧ Hd (Bk wr g3 66 #[.int .i64 (part z i).x0, .int .i64 (part z i).x1, .int .i64 (part z i).x2, .int .i64 (part z i).x3])) (fun v _ => 4 - (intOf v).toNat)
 case atStart => exact ⟨0, rfl, by omega, BX, K3⟩
 case round =>
  clear BX K3
  obtain ⟨i, rfl, hi, BX, K3⟩ := hrel
  obtain ⟨c0, c1, c2, c3⟩ := BX.out.k1.four
  obtain ⟨d0, d1, d2, d3⟩ := BX.out.k2.four
  rcases (show i = 0 ∨ i = 1 ∨ i = 2 ∨ i = 3 ∨ i = 4 by omega) with rfl | rfl | rfl | rfl | rfl
  ·have k3 : Bk wr g3 66 #[.int .i64 (part z 0).x0, .int .i64 (part z 0).x1, .int .i64 (part z 0).x2, .int .i64 (part z 0).x3] := K3.out
   obtain ⟨e0, e1, e2, e3⟩ := k3.four
   have fz := k3.froz 0
   clear k3
   go_wp2_with fail
   go_region_held3 (fun w' => Hd (Blw w.heap.size w w') ∧ w'.cell? ⟨w.heap.size, 0, none⟩ = some (.int .i64 a.x0) ∧ w'.cell? ⟨g2, 0, none⟩ = some (.int .i64 b.x0))
    (first
     | exact ⟨⟨BX.out.below⟩, c0, d0⟩
     | exact ⟨⟨(BX.out.dn 1).below⟩, c0, d0⟩
     | exact ⟨⟨(BX.out.dn 1).below.setCell n3a _⟩, (far1 rfl n3b).trans c0, (far1 rfl n3c).trans d0⟩)
    (first | (go_at_call 163; with_reducible refine (F0.out _).mono ?_; rintro e w4 ⟨rfl, rfl⟩))
   all_goals (
    go_wp2_with fail
    go_roundw
    case measure => first | (simp [intOf]; done) | (simp [intOf]; omega)
    case rel =>
     refine ⟨1, rfl, by omega, ⟨⟨(BX.out.dn 1).below.setCell n3a _, BX.out.s1, BX.out.s2, BX.out.n12, (BX.out.dn 1).k1.far n3b.symm _, (BX.out.dn 1).k2.far n3c.symm _⟩⟩, ⟨?_⟩⟩
     exact (show Bk wr.drew g3 66 #[.int .i64 (part z 0).x0, .int .i64 (part z 0).x1, .int .i64 (part z 0).x2, .int .i64 (part z 0).x3] from K3.out).set_ 0 (.int .i64 z.x0))
  ·have k3 : Bk wr g3 66 #[.int .i64 (part z 1).x0, .int .i64 (part z 1).x1, .int .i64 (part z 1).x2, .int .i64 (part z 1).x3] := K3.out
   obtain ⟨e0, e1, e2, e3⟩ := k3.four
   have fz := k3.froz 1
   clear k3
   go_wp2_with fail
   go_region_held3 (fun w' => Hd (Blw w.heap.size w w') ∧ w'.cell? ⟨w.heap.size, 1, none⟩ = some (.int .i64 a.x1) ∧ w'.cell? ⟨g2, 1, none⟩ = some (.int .i64 b.x1))
    (first
     | exact ⟨⟨BX.out.below⟩, c1, d1⟩
     | exact ⟨⟨(BX.out.dn 1).below⟩, c1, d1⟩
     | exact ⟨⟨(BX.out.dn 1).below.setCell n3a _⟩, (far1 rfl n3b).trans c1, (far1 rfl n3c).trans d1⟩)
    (first | (go_at_call 163; with_reducible refine (F1.out _).mono ?_; rintro e w4 ⟨rfl, rfl⟩))
   all_goals (
    go_wp2_with fail
    go_roundw
    case measure => first | (simp [intOf]; done) | (simp [intOf]; omega)
    case rel =>
     refine ⟨2, rfl, by omega, ⟨⟨(BX.out.dn 1).below.setCell n3a _, BX.out.s1, BX.out.s2, BX.out.n12, (BX.out.dn 1).k1.far n3b.symm _, (BX.out.dn 1).k2.far n3c.symm _⟩⟩, ⟨?_⟩⟩
     exact (show Bk wr.drew g3 66 #[.int .i64 (part z 1).x0, .int .i64 (part z 1).x1, .int .i64 (part z 1).x2, .int .i64 (part z 1).x3] from K3.out).set_ 1 (.int .i64 z.x1))
  ·have k3 : Bk wr g3 66 #[.int .i64 (part z 2).x0, .int .i64 (part z 2).x1, .int .i64 (part z 2).x2, .int .i64 (part z 2).x3] := K3.out
   obtain ⟨e0, e1, e2, e3⟩ := k3.four
   have fz := k3.froz 2
   clear k3
   go_wp2_with fail
   go_region_held3 (fun w' => Hd (Blw w.heap.size w w') ∧ w'.cell? ⟨w.heap.size, 2, none⟩ = some (.int .i64 a.x2) ∧ w'.cell? ⟨g2, 2, none⟩ = some (.int .i64 b.x2))
    (first
     | exact ⟨⟨BX.out.below⟩, c2, d2⟩
     | exact ⟨⟨(BX.out.dn 1).below⟩, c2, d2⟩
     | exact ⟨⟨(BX.out.dn 1).below.setCell n3a _⟩, (far1 rfl n3b).trans c2, (far1 rfl n3c).trans d2⟩)
    (first | (go_at_call 163; with_reducible refine (F2.out _).mono ?_; rintro e w4 ⟨rfl, rfl⟩))
   all_goals (
    go_wp2_with fail
    go_roundw
    case measure => first | (simp [intOf]; done) | (simp [intOf]; omega)
    case rel =>
     refine ⟨3, rfl, by omega, ⟨⟨(BX.out.dn 1).below.setCell n3a _, BX.out.s1, BX.out.s2, BX.out.n12, (BX.out.dn 1).k1.far n3b.symm _, (BX.out.dn 1).k2.far n3c.symm _⟩⟩, ⟨?_⟩⟩
     exact (show Bk wr.drew g3 66 #[.int .i64 (part z 2).x0, .int .i64 (part z 2).x1, .int .i64 (part z 2).x2, .int .i64 (part z 2).x3] from K3.out).set_ 2 (.int .i64 z.x2))
  ·have k3 : Bk wr g3 66 #[.int .i64 (part z 3).x0, .int .i64 (part z 3).x1, .int .i64 (part z 3).x2, .int .i64 (part z 3).x3] := K3.out
   obtain ⟨e0, e1, e2, e3⟩ := k3.four
   have fz := k3.froz 3
   clear k3
   go_wp2_with fail
   go_region_held3 (fun w' => Hd (Blw w.heap.size w w') ∧ w'.cell? ⟨w.heap.size, 3, none⟩ = some (.int .i64 a.x3) ∧ w'.cell? ⟨g2, 3, none⟩ = some (.int .i64 b.x3))
    (first
     | exact ⟨⟨BX.out.below⟩, c3, d3⟩
     | exact ⟨⟨(BX.out.dn 1).below⟩, c3, d3⟩
     | exact ⟨⟨(BX.out.dn 1).below.setCell n3a _⟩, (far1 rfl n3b).trans c3, (far1 rfl n3c).trans d3⟩)
    (first | (go_at_call 163; with_reducible refine (F3.out _).mono ?_; rintro e w4 ⟨rfl, rfl⟩))
   all_goals (
    go_wp2_with fail
    go_roundw
    case measure => first | (simp [intOf]; done) | (simp [intOf]; omega)
    case rel =>
     refine ⟨4, rfl, by omega, ⟨⟨(BX.out.dn 1).below.setCell n3a _, BX.out.s1, BX.out.s2, BX.out.n12, (BX.out.dn 1).k1.far n3b.symm _, (BX.out.dn 1).k2.far n3c.symm _⟩⟩, ⟨?_⟩⟩
     exact (show Bk wr.drew g3 66 #[.int .i64 (part z 3).x0, .int .i64 (part z 3).x1, .int .i64 (part z 3).x2, .int .i64 (part z 3).x3] from K3.out).set_ 3 (.int .i64 z.x3))
  ·have k3 : Bk wr g3 66 #[.int .i64 (z).x0, .int .i64 (z).x1, .int .i64 (z).x2, .int .i64 (z).x3] := K3.out
   obtain ⟨e0, e1, e2, e3⟩ := k3.four
   have fz := fun i => k3.froz i
   have K4 := Hd.mk k3
   clear k3 K3
   go_wp2_with fail
   refine bodyPost_ret (res_mono rfl _ _ g3 _ rfl (K4.out.set4 _ _ _ _) rfl) rfl ?_
   exact ⟨rfl, (((BX.out.below.setCell n3a _).setCell n3a _).setCell n3a _).setCell n3a _⟩
theorem mono_Coprime (a b : MonD) (w : World) :
    Calls Tryz.prog 90 #[.agg #[.int .i64 a.x0, .int .i64 a.x1, .int .i64 a.x2, .int .i64 a.x3], .agg #[.int .i64 b.x0, .int .i64 b.x1, .int .i64 b.x2, .int .i64 b.x3]] w fun e w' =>
     e = .returned (.bool (monCop a b)) ∧ Blw w.heap.size w w' := by
 obtain ⟨E, hE⟩ : ∃ E, monCop a b = E := ⟨_, rfl⟩
 rw [hE]
 have HEQ := Hd.mk hE
 clear hE
 go_enter Tryz.func90, Tryz.ntmps90
 go_upto_region 1 with (fail)
 refine wp_gen (fun W => Bm2 w.heap.size w.heap.size (w.heap.size + 1) w W a b) (Bm2.mk2 w a b) ?_
 intro W BX
 generalize w.heap.size + 1 = g2 at BX ⊢
 obtain ⟨c0, c1, c2, c3⟩ := BX.out.k1.four
 have CA := Hd.mk (mono_May a W)
 cases hma : monMay a
 ·have HE : Hd (monCop a b = false) := ⟨by unfold monCop; rw [hma]; rfl⟩
  rw [hma] at CA
  go_wp2_with fail
  refine CA.out.mono ?_
  rintro e w4 ⟨rfl, hb⟩
  have BX4 := Hd.mk (BX.out.up hb)
  clear hb
  go_wp2_with fail
  go_ret
  have h5 := HEQ.out.symm.trans HE.out
  subst h5
  exact ⟨rfl, BX4.out.below⟩
 ·rw [hma] at CA
  go_wp2_with fail
  refine CA.out.mono ?_
  rintro e w4 ⟨rfl, hb⟩
  have BX4 := Hd.mk (BX.out.up hb)
  obtain ⟨p0, p1, p2, p3⟩ := BX4.out.k2.four
  have CB := Hd.mk (mono_May b w4)
  clear hb c0 c1 c2 c3 BX CA
  cases hmb : monMay b
  ·have HE : Hd (monCop a b = false) := ⟨by unfold monCop; rw [hmb]; simp⟩
   rw [hmb] at CB
   go_wp2_with fail
   refine CB.out.mono ?_
   rintro e w5 ⟨rfl, hb⟩
   have BX5 := Hd.mk (BX4.out.up hb)
   clear hb
   go_wp2_with fail
   go_ret
   have h5 := HEQ.out.symm.trans HE.out
   subst h5
   exact ⟨rfl, BX5.out.below⟩
  ·rw [hmb] at CB
   have HE : Hd (monCop a b = decide (minM a b = zeroM)) := ⟨by unfold monCop; rw [hma, hmb]; rfl⟩
   obtain ⟨z, hz⟩ : ∃ z, z = minM a b := ⟨_, rfl⟩
   rw [← hz] at HE
   have ZP := Hd.mk (fun W => zip_cop a b z hz W hma hmb)
   clear hma hmb hz
   go_wp2_with fail
   refine CB.out.mono ?_
   rintro e w5 ⟨rfl, hb⟩
   have BX5 := Hd.mk (BX4.out.up hb)
   obtain ⟨c0, c1, c2, c3⟩ := BX5.out.k1.four
   obtain ⟨p0, p1, p2, p3⟩ := BX5.out.k2.four
   clear hb CB
   go_wp2_with fail
   refine (ZP.out w5).mono ?_
   rintro e w6 ⟨rfl, hb⟩
   have BX6 := Hd.mk (BX5.out.up hb)
   clear hb ZP
   have QE := fun W => eq_mono z zeroM W
   simp only [MonD.v, zeroM] at QE
   cases hz : decide (z = zeroM)
   all_goals
    simp only [zeroM] at hz
    rw [hz] at QE
    go_wp2_with fail
    go_ret
    have h5 := HEQ.out.symm.trans (HE.out.trans hz)
    subst h5
    exact ⟨rfl, BX6.out.below⟩
def atM (ls : List MonD) (x : Int) : MonD := ls.getD x.toNat zeroM
def apartD (ls : List MonD) (x : Int × Int) : Bool := rightD ls.length x && monCop (atM ls x.1) (atM ls x.2)
theorem atM_of {ls : List MonD} {i : Nat} {m : MonD} (h : ls[i]? = some m) : atM ls i = m := by
 unfold atM
 rw [Int.toNat_natCast, List.getD_eq_getElem?_getD, h]
 rfl
theorem mono_Coprime' (a b : MonD) (w : World) :
    Calls Tryz.prog 90 #[.agg #[.int .i64 a.x0, .int .i64 a.x1, .int .i64 a.x2, .int .i64 a.x3], .agg #[.int .i64 b.x0, .int .i64 b.x1, .int .i64 b.x2, .int .i64 b.x3]] w fun e w' =>
     e = .returned (.bool (monCop a b)) ∧ Below w.heap.size w w' := (mono_Coprime a b w).mono fun _ _ ⟨h1, h2⟩ => ⟨h1, h2.lo⟩
theorem pair_Apart (A : Option Addr) (c : Nat) (ls : List MonD) (x y : Int) (w : World) (h : RMons w A ls) (hl : ls.length ≤ 1000000) :
    Calls Tryz.prog 28 #[.slice A ls.length c, .agg #[.int .i64 x, .int .i64 y]] w fun e w' => e = .returned (.bool (apartD ls (x, y))) ∧ Below w.heap.size w w' := by
 obtain ⟨E, hE⟩ : ∃ E, apartD ls (x, y) = E := ⟨_, rfl⟩
 rw [hE]
 have HEQ := Hd.mk hE
 clear hE
 have HR := Hd.mk h
 clear h
 have CR := Hd.mk (fun W => pair_right A ls.length c x y W)
 cases hr : rightD ls.length (x, y)
 case false =>
  rw [hr] at CR
  have HE : Hd (E = false) := ⟨by rw [← HEQ.out]; unfold apartD; rw [hr]; rfl⟩
  clear hr
  go_enter Tryz.func28, Tryz.ntmps28
  go_upto_region 1 with (fail)
  refine wp_gen (fun W => Bk W w.heap.size 23 #[.int .i64 x, .int .i64 y] ∧ Below w.heap.size w W) ⟨Bk.new_ w 23 #[.int .i64 x, .int .i64 y], (Below.refl _ _).alloc (Nat.le_refl _) _⟩ ?_
  intro W1 H1
  obtain ⟨d0, d1⟩ := H1.out.1.pair
  have HB1 := Hd.mk H1.out.2
  have d0 := Wd.cell d0
  have d1 := Wd.cell d1
  clear H1
  refine wp_region_wd W1 (by kernel_rfl) (by kernel_rfl) (Below.refl _ _).drew ?_
  repeat (go_big_quiet_step ((go_at_call 89; exact Wd.call (CR.out _))))
  refine wd_nil fun nq => ?_
  go_wp2_with fail
  go_ret
  exact ⟨retBool HE.out.symm, goes HB1.out nq.lo⟩
 rw [hr] at CR
 obtain ⟨x0, xy, yn⟩ := rightD_of hr
 obtain ⟨i, rfl⟩ : ∃ i : Nat, x = i := ⟨x.toNat, by omega⟩
 obtain ⟨j, rfl⟩ : ∃ j : Nat, y = j := ⟨y.toNat, by omega⟩
 have hi : i < ls.length := by omega
 have hj : j < ls.length := by omega
 have i1 : (i : Int) < ls.length := by omega
 have j1 : (j : Int) < ls.length := by omega
 have i3 : (0 : Int) ≤ i := by omega
 have j3 : (0 : Int) ≤ j := by omega
 go_enter Tryz.func28, Tryz.ntmps28
 go_upto_region 1 with (fail)
 refine wp_gen (fun W => Bk W w.heap.size 23 #[.int .i64 i, .int .i64 j] ∧ Below w.heap.size w W) ⟨Bk.new_ w 23 #[.int .i64 i, .int .i64 j], (Below.refl _ _).alloc (Nat.le_refl _) _⟩ ?_
 intro W1 H1
 obtain ⟨d0, d1⟩ := H1.out.1.pair
 have HB1 := Hd.mk H1.out.2
 have d0 := Wd.cell d0
 have d1 := Wd.cell d1
 obtain ⟨ad, m, rfl, -, hm, c0, c1, c2, c3⟩ := (HR.out.up HB1.out).get hi
 obtain ⟨ad', m', e, -, hm', e0, e1, e2, e3⟩ := (HR.out.up HB1.out).get hj
 injection e with e
 subst e
 have c0 := Wd.cell c0
 have c1 := Wd.cell c1
 have c2 := Wd.cell c2
 have c3 := Wd.cell c3
 have e0 := Wd.cell e0
 have e1 := Wd.cell e1
 have e2 := Wd.cell e2
 have e3 := Wd.cell e3
 have HE : Hd (E = monCop m m') := ⟨by rw [← HEQ.out]; unfold apartD; rw [hr, atM_of hm.out, atM_of hm'.out]; rfl⟩
 have CC := Hd.mk (fun W => mono_Coprime' m m' W)
 generalize monCop m m' = b at HE CC
 clear H1 hr hm hm' x0 xy yn
 refine wp_region_wd W1 (by kernel_rfl) (by kernel_rfl) (Below.refl _ _).drew ?_
 repeat (go_big_quiet_step ((first
  | (go_at_call 89; exact Wd.call (CR.out _))
  | (go_at_call 90; exact Wd.call (CC.out _)))))
 refine wd_nil fun nq => ?_
 go_wp2_with fail
 go_ret
 exact ⟨retBool HE.out.symm, goes HB1.out nq.lo⟩
end Go.Proofs.YtgjkgkgieeoalaaGreat
