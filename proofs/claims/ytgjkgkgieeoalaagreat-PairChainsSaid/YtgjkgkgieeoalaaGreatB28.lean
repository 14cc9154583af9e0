/- Parts of the proof, joined: each theorem says what it shows. -/
import Derived.Test.YtgjkgkgieeoalaaGreatB04
import Derived.Test.YtgjkgkgieeoalaaGreatB05
import Derived.Test.YtgjkgkgieeoalaaGreatB23
import Derived.Test.YtgjkgkgieeoalaaGreatB27
set_option linter.unusedVariables false
set_option linter.unusedSimpArgs false
set_option maxHeartbeats 24000000
set_option maxRecDepth 100000
namespace Go.Proofs.YtgjkgkgieeoalaaGreat
open Go.RowKit
def subM (a b : MonD) : MonD := ⟨a.x0 - b.x0, a.x1 - b.x1, a.x2 - b.x2, a.x3 - b.x3⟩
def monDiv (a b : MonD) : Bool × MonD := if (monMay a && monMay b) = false then (false, zeroM) else if monMay (subM a b) = false then (false, zeroM) else (true, subM a b)
theorem div_1 (x y : Int) (w : World) (hx : 0 ≤ x ∧ x ≤ 40) (hy : 0 ≤ y ∧ y ≤ 40) : Calls Tryz.prog 168 #[.int .i64 x, .int .i64 y] w fun e w' => e = .returned (.int .i64 (x - y)) ∧ w = w' := by
 have h : IntKind.i64.wrap (x - y) = x - y := by rw [IntKind.wrap_i64]; omega
 go_enter Tryz.func168, Tryz.ntmps168
 go_wp2_with fail
 go_ret
 exact ⟨rfl, rfl⟩
theorem zip_div (a b z : MonD) (hz : z = ⟨a.x0 - b.x0, a.x1 - b.x1, a.x2 - b.x2, a.x3 - b.x3⟩) (w : World) (hma : monMay a = true) (hmb : monMay b = true) :
    Calls Tryz.prog 162 #[.agg #[.int .i64 a.x0, .int .i64 a.x1, .int .i64 a.x2, .int .i64 a.x3], .agg #[.int .i64 b.x0, .int .i64 b.x1, .int .i64 b.x2, .int .i64 b.x3], .func (.func 168) #[] #[]] w fun e w' => e = .returned (.agg #[.int .i64 (z).x0, .int .i64 (z).x1, .int .i64 (z).x2, .int .i64 (z).x3]) ∧ Blw w.heap.size w w' := by
 obtain ⟨ra0, ra1, ra2, ra3⟩ := monMay_of hma
 obtain ⟨rb0, rb1, rb2, rb3⟩ := monMay_of hmb
 have F0 := Hd.mk (fun W => div_1 a.x0 b.x0 W (by omega) (by omega))
 have F1 := Hd.mk (fun W => div_1 a.x1 b.x1 W (by omega) (by omega))
 have F2 := Hd.mk (fun W => div_1 a.x2 b.x2 W (by omega) (by omega))
 have F3 := Hd.mk (fun W => div_1 a.x3 b.x3 W (by omega) (by omega))
 have z0 : a.x0 - b.x0 = z.x0 := by rw [hz]
 have z1 : a.x1 - b.x1 = z.x1 := by rw [hz]
 have z2 : a.x2 - b.x2 = z.x2 := by rw [hz]
 have z3 : a.x3 - b.x3 = z.x3 := by rw [hz]
 rw [z0] at F0; rw [z1] at F1; rw [z2] at F2; rw [z3] at F3
 clear hz z0 z1 z2 z3 ra0 ra1 ra2 ra3 rb0 rb1 rb2 rb3 hma hmb
 go_enter Tryz.func162, Tryz.ntmps162
 go_upto_region 1 with (fail)
 refine wp_gen (fun W => ∃ g3, g3 = w.heap.size + 1 + 1 ∧ Bm2 w.heap.size w.heap.size (w.heap.size + 1) w W a b ∧ Bk W g3 66 #[.int .i64 (part z 0).x0, .int .i64 (part z 0).x1, .int .i64 (part z 0).x2, .int .i64 (part z 0).x3]) ⟨_, rfl, (Bm2.mk2 w a b).up ((Blw.refl _ _).alloc (Nat.le_refl _) _), by
  have := Bk.new_ ((w.alloc (Obj.cells #[.int .i64 a.x0, .int .i64 a.x1, .int .i64 a.x2, .int .i64 a.x3] 66)).alloc (Obj.cells #[.int .i64 b.x0, .int .i64 b.x1, .int .i64 b.x2, .int .i64 b.x3] 66)) 66 #[.int .i64 (part z 0).x0, .int .i64 (part z 0).x1, .int .i64 (part z 0).x2, .int .i64 (part z 0).x3]
  simpa [part] using this⟩ ?_
 rintro W ⟨⟨g3, hg3, BX, K3⟩⟩
 have n3 : w.heap.size ≤ g3 ∧ g3 ≠ w.heap.size ∧ g3 ≠ w.heap.size + 1 := by omega
 rw [← hg3]
 have BX := Hd.mk BX
 have K3 := Hd.mk K3
 clear hg3
 generalize w.heap.size + 1 = g2 at BX n3 ⊢
 obtain ⟨n3a, n3b, n3c⟩ := n3
 go_wp2_with fail
 go_loopw [8] (fun v8 wr => ∃ i : Nat, v8 = .int .i64 i ∧ i ≤ 4 ∧ Hd (Bm2 w.heap.size w.heap.size g2 w wr a b) ∧ Hd (Bk wr g3 66 #[.int .i64 (part z i).x0, .int .i64 (part z i).x1, .int .i64 (part z i).x2, .int .i64 (part z i).x3])) (fun v _ => 4 - (intOf v).toNat)
 case atStart => exact ⟨0, rfl, by omega, BX, K3⟩
 case round =>
  clear BX K3
  obtain ⟨i, rfl, hi, BX, K3⟩ := hrel
  obtain ⟨c0, c1, c2, c3⟩ := BX.out.k1.four
  obtain ⟨d0, d1, d2, d3⟩ := BX.out.k2.four
  rcases (show i = 0 ∨ i = 1 ∨ i = 2 ∨ i = 3 ∨ i = 4 by omega) with rfl | rfl | rfl | rfl | rfl
  ·have k3 : Bk wr g3 66 #[.int .i64 (part z 0).x0, .int .i64 (part z 0).x1, .int .i64 (part z 0).x2, .int .i64 (part z 0).x3] := K3.out
   obtain ⟨e0, e1, e2, e3⟩ := k3.four
   have fz := k3.froz 0
   clear k3
   go_wp2_with fail
   go_region_held3 (fun w' => Hd (Blw w.heap.size w w') ∧ w'.cell? ⟨w.heap.size, 0, none⟩ = some (.int .i64 a.x0) ∧ w'.cell? ⟨g2, 0, none⟩ = some (.int .i64 b.x0))
    (first
     | exact ⟨⟨BX.out.below⟩, c0, d0⟩
     | exact ⟨⟨(BX.out.dn 1).below⟩, c0, d0⟩
     | exact ⟨⟨(BX.out.dn 1).below.setCell n3a _⟩, (far1 rfl n3b).trans c0, (far1 rfl n3c).trans d0⟩)
    (first | (go_at_call 168; with_reducible refine (F0.out _).mono ?_; rintro e w4 ⟨rfl, rfl⟩))
   all_goals (
    go_wp2_with fail
    go_roundw
    case measure => first | (simp [intOf]; done) | (simp [intOf]; omega)
    case rel =>
     refine ⟨1, rfl, by omega, ⟨⟨(BX.out.dn 1).below.setCell n3a _, BX.out.s1, BX.out.s2, BX.out.n12, (BX.out.dn 1).k1.far n3b.symm _, (BX.out.dn 1).k2.far n3c.symm _⟩⟩, ⟨?_⟩⟩
     exact (show Bk wr.drew g3 66 #[.int .i64 (part z 0).x0, .int .i64 (part z 0).x1, .int .i64 (part z 0).x2, .int .i64 (part z 0).x3] from K3.out).set_ 0 (.int .i64 z.x0))
  ·have k3 : Bk wr g3 66 #[.int .i64 (part z 1).x0, .int .i64 (part z 1).x1, .int .i64 (part z 1).x2, .int .i64 (part z 1).x3] := K3.out
   obtain ⟨e0, e1, e2, e3⟩ := k3.four
   have fz := k3.froz 1
   clear k3
   go_wp2_with fail
   go_region_held3 (fun w' => Hd (Blw w.heap.size w w') ∧ w'.cell? ⟨w.heap.size, 1, none⟩ = some (.int .i64 a.x1) ∧ w'.cell? ⟨g2, 1, none⟩ = some (.int .i64 b.x1))
    (first
     | exact ⟨⟨BX.out.below⟩, c1, d1⟩
     | exact ⟨⟨(BX.out.dn 1).below⟩, c1, d1⟩
     | exact ⟨⟨(BX.out.dn 1).below.setCell n3a _⟩, (far1 rfl n3b).trans c1, (far1 rfl n3c).trans d1⟩)
    (first | (go_at_call 168; with_reducible refine (F1.out _).mono ?_; rintro e w4 ⟨rfl, rfl⟩))
   all_goals (
    go_wp2_with fail
    go_roundw
    case measure => first | (simp [intOf]; done) | (simp [intOf]; omega)
    case rel =>
     refine ⟨2, rfl, by omega, ⟨⟨(BX.out.dn 1).below.setCell n3a _, BX.out.s1, BX.out.s2, BX.out.n12, (BX.out.dn 1).k1.far n3b.symm _, (BX.out.dn 1).k2.far n3c.symm _⟩⟩, ⟨?_⟩⟩
     exact (show Bk wr.drew g3 66 #[.int .i64 (part z 1).x0, .int .i64 (part z 1).x1, .int .i64 (part z 1).x2, .int .i64 (part z 1).x3] from K3.out).set_ 1 (.int .i64 z.x1))
  ·have k3 : Bk wr g3 66 #[.int .i64 (part z 2).x0, .int .i64 (part z 2).x1, .int .i64 (part z 2).x2, .int .i64 (part z 2).x3] := K3.out
   obtain ⟨e0, e1, e2, e3⟩ := k3.four
   have fz := k3.froz 2
   clear k3
   go_wp2_with fail
   go_region_held3 (fun w' => Hd (Blw w.heap.size w w') ∧ w'.cell? ⟨w.heap.size, 2, none⟩ = some (.int .i64 a.x2) ∧ w'.cell? ⟨g2, 2, none⟩ = some (.int .i64 b.x2))
    (first
     | exact ⟨⟨BX.out.below⟩, c2, d2⟩
     | exact ⟨⟨(BX.out.dn 1).below⟩, c2, d2⟩
     | exact ⟨⟨(BX.out.dn 1).below.setCell n3a _⟩, (far1 rfl n3b).trans c2, (far1 rfl n3c).trans d2⟩)
    (first | (go_at_call 168; with_reducible refine (F2.out _).mono ?_; rintro e w4 ⟨rfl, rfl⟩))
   all_goals (
    go_wp2_with fail
    go_roundw
    case measure => first | (simp [intOf]; done) | (simp [intOf]; omega)
    case rel =>
     refine ⟨3, rfl, by omega, ⟨⟨(BX.out.dn 1).below.setCell n3a _, BX.out.s1, BX.out.s2, BX.out.n12, (BX.out.dn 1).k1.far n3b.symm _, (BX.out.dn 1).k2.far n3c.symm _⟩⟩, ⟨?_⟩⟩
     exact (show Bk wr.drew g3 66 #[.int .i64 (part z 2).x0, .int .i64 (part z 2).x1, .int .i64 (part z 2).x2, .int .i64 (part z 2).x3] from K3.out).set_ 2 (.int .i64 z.x2))
  ·have k3 : Bk wr g3 66 #[.int .i64 (part z 3).x0, .int .i64 (part z 3).x1, .int .i64 (part z 3).x2, .int .i64 (part z 3).x3] := K3.out
   obtain ⟨e0, e1, e2, e3⟩ := k3.four
   have fz := k3.froz 3
   clear k3
   go_wp2_with fail
   go_region_held3 (fun w' => Hd (Blw w.heap.size w w') ∧ w'.cell? ⟨w.heap.size, 3, none⟩ = some (.int .i64 a.x3) ∧ w'.cell? ⟨g2, 3, none⟩ = some (.int .i64 b.x3))
    (first
     | exact ⟨⟨BX.out.below⟩, c3, d3⟩
     | exact ⟨⟨(BX.out.dn 1).below⟩, c3, d3⟩
     | exact ⟨⟨(BX.out.dn 1).below.setCell n3a _⟩, (far1 rfl n3b).trans c3, (far1 rfl n3c).trans d3⟩)
    (first | (go_at_call 168; with_reducible refine (F3.out _).mono ?_; rintro e w4 ⟨rfl, rfl⟩))
   all_goals (
    go_wp2_with fail
    go_roundw
    case measure => first | (simp [intOf]; done) | (simp [intOf]; omega)
    case rel =>
     refine ⟨4, rfl, by omega, ⟨⟨(BX.out.dn 1).below.setCell n3a _, BX.out.s1, BX.out.s2, BX.out.n12, (BX.out.dn 1).k1.far n3b.symm _, (BX.out.dn 1).k2.far n3c.symm _⟩⟩, ⟨?_⟩⟩
     exact (show Bk wr.drew g3 66 #[.int .i64 (part z 3).x0, .int .i64 (part z 3).x1, .int .i64 (part z 3).x2, .int .i64 (part z 3).x3] from K3.out).set_ 3 (.int .i64 z.x3))
  ·have k3 : Bk wr g3 66 #[.int .i64 (z).x0, .int .i64 (z).x1, .int .i64 (z).x2, .int .i64 (z).x3] := K3.out
   obtain ⟨e0, e1, e2, e3⟩ := k3.four
   have fz := fun i => k3.froz i
   have K4 := Hd.mk k3
   clear k3 K3
   go_wp2_with fail
   refine bodyPost_ret (res_mono rfl _ _ g3 _ rfl (K4.out.set4 _ _ _ _) rfl) rfl ?_
   exact ⟨rfl, (((BX.out.below.setCell n3a _).setCell n3a _).setCell n3a _).setCell n3a _⟩
theorem mono_Div (a b : MonD) (w : World) :
    Calls Tryz.prog 94 #[.agg #[.int .i64 a.x0, .int .i64 a.x1, .int .i64 a.x2, .int .i64 a.x3], .agg #[.int .i64 b.x0, .int .i64 b.x1, .int .i64 b.x2, .int .i64 b.x3]] w fun e w' =>
     e = .returned (.tuple #[.agg #[.int .i64 (monDiv a b).2.x0, .int .i64 (monDiv a b).2.x1, .int .i64 (monDiv a b).2.x2, .int .i64 (monDiv a b).2.x3], .bool (monDiv a b).1]) ∧ Blw w.heap.size w w' := by
 obtain ⟨E, hE⟩ : ∃ E, monDiv a b = E := ⟨_, rfl⟩
 rw [hE]
 have HEQ := Hd.mk hE
 clear hE
 go_enter Tryz.func94, Tryz.ntmps94
 go_upto_region 1 with (fail)
 refine wp_gen (fun W => Bm3 w.heap.size w.heap.size (w.heap.size + 1) (w.heap.size + 1 + 1) w W a b zeroM) (Bm3.mk3 w a b zeroM) ?_
 intro W BX
 generalize w.heap.size + 1 + 1 = g3 at BX ⊢
 generalize w.heap.size + 1 = g2 at BX ⊢
 obtain ⟨c0, c1, c2, c3⟩ := BX.out.bm.k1.four
 have CA := Hd.mk (mono_May a W)
 cases hma : monMay a
 ·have HE : Hd (monDiv a b = (false, zeroM)) := ⟨by unfold monDiv; rw [hma]; rfl⟩
  rw [hma] at CA
  go_wp2_with fail
  refine CA.out.mono ?_
  rintro e w4 ⟨rfl, hb⟩
  have BX4 := Hd.mk (BX.out.up hb)
  obtain ⟨e0, e1, e2, e3⟩ := BX4.out.k3.four
  have fz := fun i => BX4.out.k3.froz i
  clear hb
  go_wp2_with fail
  obtain ⟨d1, d2⟩ := BX4.out.done (.int .i64 0) (.int .i64 0) (.int .i64 0) (.int .i64 0)
  refine bodyPost_ret (res_mono2 rfl _ _ g3 _ rfl d1 rfl) rfl ?_
  have h5 := HEQ.out.symm.trans HE.out
  subst h5
  exact ⟨rfl, d2⟩
 ·rw [hma] at CA
  go_wp2_with fail
  refine CA.out.mono ?_
  rintro e w4 ⟨rfl, hb⟩
  have BX4 := Hd.mk (BX.out.up hb)
  obtain ⟨p0, p1, p2, p3⟩ := BX4.out.bm.k2.four
  have CB := Hd.mk (mono_May b w4)
  clear hb c0 c1 c2 c3 BX CA
  cases hmb : monMay b
  ·have HE : Hd (monDiv a b = (false, zeroM)) := ⟨by unfold monDiv; rw [hmb]; simp⟩
   rw [hmb] at CB
   go_wp2_with fail
   refine CB.out.mono ?_
   rintro e w5 ⟨rfl, hb⟩
   have BX5 := Hd.mk (BX4.out.up hb)
   obtain ⟨e0, e1, e2, e3⟩ := BX5.out.k3.four
   have fz := fun i => BX5.out.k3.froz i
   clear hb
   go_wp2_with fail
   obtain ⟨d1, d2⟩ := BX5.out.done (.int .i64 0) (.int .i64 0) (.int .i64 0) (.int .i64 0)
   refine bodyPost_ret (res_mono2 rfl _ _ g3 _ rfl d1 rfl) rfl ?_
   have h5 := HEQ.out.symm.trans HE.out
   subst h5
   exact ⟨rfl, d2⟩
  ·rw [hmb] at CB
   have HE : Hd (monDiv a b = if monMay (subM a b) = false then (false, zeroM) else (true, subM a b)) := ⟨by unfold monDiv; rw [hma, hmb]; rfl⟩
   obtain ⟨z, hz⟩ : ∃ z, z = subM a b := ⟨_, rfl⟩
   rw [← hz] at HE
   have ZP := Hd.mk (fun W => zip_div a b z hz W hma hmb)
   clear hma hmb hz
   go_wp2_with fail
   refine CB.out.mono ?_
   rintro e w5 ⟨rfl, hb⟩
   have BX5 := Hd.mk (BX4.out.up hb)
   obtain ⟨c0, c1, c2, c3⟩ := BX5.out.bm.k1.four
   obtain ⟨p0, p1, p2, p3⟩ := BX5.out.bm.k2.four
   clear hb CB
   go_wp2_with fail
   refine (ZP.out w5).mono ?_
   rintro e w6 ⟨rfl, hb⟩
   have BX6 := Hd.mk (BX5.out.up hb)
   clear hb ZP
   go_upto_region 4 with (fail)
   refine wp_gen (fun W => Bm3 w.heap.size w.heap.size g2 g3 w W a b zeroM ∧ Bk W w6.heap.size 66 #[.int .i64 z.x0, .int .i64 z.x1, .int .i64 z.x2, .int .i64 z.x3]) ⟨BX6.out.up ((Blw.refl _ _).alloc (Nat.le_refl _) _), Bk.new_ _ _ _⟩ ?_
   intro W7 BY
   generalize w6.heap.size = g4 at BY ⊢
   obtain ⟨q0, q1, q2, q3⟩ := BY.out.2.four
   have CM := Hd.mk (mono_May z W7)
   cases hmz : monMay z
   ·rw [hmz] at CM HE
    go_wp2_with fail
    refine CM.out.mono ?_
    rintro e w8 ⟨rfl, hb⟩
    have BX8 := Hd.mk (BY.out.1.up hb)
    obtain ⟨e0, e1, e2, e3⟩ := BX8.out.k3.four
    have fz := fun i => BX8.out.k3.froz i
    clear hb
    go_wp2_with fail
    obtain ⟨d1, d2⟩ := BX8.out.done (.int .i64 0) (.int .i64 0) (.int .i64 0) (.int .i64 0)
    refine bodyPost_ret (res_mono2 rfl _ _ g3 _ rfl d1 rfl) rfl ?_
    have h5 := HEQ.out.symm.trans HE.out
    simp only [if_pos] at h5
    subst h5
    exact ⟨rfl, d2⟩
   ·rw [hmz] at CM HE
    go_wp2_with fail
    refine CM.out.mono ?_
    rintro e w8 ⟨rfl, hb⟩
    have BX8 := Hd.mk (BY.out.1.up hb)
    have K8 := Hd.mk (BY.out.2.up hb.lo)
    obtain ⟨q0, q1, q2, q3⟩ := K8.out.four
    obtain ⟨e0, e1, e2, e3⟩ := BX8.out.k3.four
    have fz := fun i => BX8.out.k3.froz i
    clear hb
    go_wp2_with fail
    obtain ⟨d1, d2⟩ := BX8.out.done (.int .i64 z.x0) (.int .i64 z.x1) (.int .i64 z.x2) (.int .i64 z.x3)
    refine bodyPost_ret (res_mono2 rfl _ _ g3 _ rfl d1 rfl) rfl ?_
    have h5 := HEQ.out.symm.trans HE.out
    simp at h5
    subst h5
    exact ⟨rfl, d2⟩
theorem subM_at {a b : MonD} {i : Nat} {x y : Int} (hi : i < 4) (hx : a.l.getD i 0 = x) (hy : b.l.getD i 0 = y) : (subM a b).l.getD i 0 = x - y := by
 subst hx hy
 rcases (show i = 0 ∨ i = 1 ∨ i = 2 ∨ i = 3 by omega) with rfl | rfl | rfl | rfl <;> rfl
theorem Mu.up {S g1 g2 g3 g4 : Nat} {w0 w w' : World} {a b m : MonD} (h : Mu S g1 g2 g3 g4 w0 w a b m) (hb : Below w.heap.size w w') : Mu S g1 g2 g3 g4 w0 w' a b m :=
 ⟨h.bo.up hb, h.s3, h.s4, h.n1, h.n2, h.n3, h.k3.up hb, h.k4.up hb⟩
theorem Mu.res {S g1 g2 g3 g4 : Nat} {w0 w : World} {a b m : MonD} (h : Mu S g1 g2 g3 g4 w0 w a b m) (v0 v1 v2 v3 : Value) : Bk ((((w.setCell ⟨g3, 0, none⟩ v0).setCell ⟨g3, 1, none⟩ v1).setCell ⟨g3, 2, none⟩ v2).setCell ⟨g3, 3, none⟩ v3) g3 66 #[v0, v1, v2, v3] ∧
    Below S w0 ((((w.setCell ⟨g3, 0, none⟩ v0).setCell ⟨g3, 1, none⟩ v1).setCell ⟨g3, 2, none⟩ v2).setCell ⟨g3, 3, none⟩ v3) :=
 ⟨h.k3.set4 _ _ _ _, Below.set4 h.bo.below h.s3 _ _ _ _⟩
theorem monDiv_no {a b : MonD} {i : Nat} {x y : Int} (hi : i < 4) (hx : a.l.getD i 0 = x) (hy : b.l.getD i 0 = y) (h : x < y) : monDiv a b = (false, zeroM) := by
 unfold monDiv
 split
 ·rfl
 ·rw [mon_bad hi (subM_at hi hx hy) (.inl (by omega)), if_pos rfl]
theorem subM_may {a b : MonD} (ha : monMay a = true) (hb : monMay b = true) (h : ∀ i, i < 4 → b.l.getD i 0 ≤ a.l.getD i 0) : monMay (subM a b) = true := by
 obtain ⟨a0, a1, a2, a3⟩ := monMay_of ha
 obtain ⟨b0, b1, b2, b3⟩ := monMay_of hb
 have h0 := h 0 (by omega)
 have h1 := h 1 (by omega)
 have h2 := h 2 (by omega)
 have h3 := h 3 (by omega)
 simp only [MonD.l, List.getD_cons_zero, List.getD_cons_succ] at h0 h1 h2 h3
 unfold monMay MonD.l subM
 simp only [List.any_cons, List.any_nil, badE]
 simp
 omega
theorem rmon_Div (a b : MonD) (w : World) :
    Calls Tryz.prog 34 #[.agg a.v, .agg b.v] w fun e w' => e = .returned (.tuple #[.agg (monDiv a b).2.v, .bool (monDiv a b).1]) ∧ Below w.heap.size w w' := by
 obtain ⟨E, hE⟩ : ∃ E, monDiv a b = E := ⟨_, rfl⟩
 rw [hE]
 have HEQ := Hd.mk hE
 clear hE
 go_enter Tryz.func34, Tryz.ntmps34
 go_upto_region 2 with (fail)
 refine wp_gen (fun W => Mu w.heap.size w.heap.size (w.heap.size + 1) (w.heap.size + 1 + 1) (w.heap.size + 1 + 1 + 1) w W a b zeroM) ⟨((Bo2.mk2 w _ _ _ _).up ((Below.refl _ _).alloc (Nat.le_refl _) _)).up ((Below.refl _ _).alloc (Nat.le_refl _) _), by omega, by omega, by omega, by omega, by omega, by
  have := (Bk.new_ ((w.alloc (Obj.cells a.v 66)).alloc (Obj.cells b.v 66)) 66 zeroM.v).al (Obj.cells zeroM.v 66)
  simpa [MonD.v, zeroM] using this, by
  have := Bk.new_ (((w.alloc (Obj.cells a.v 66)).alloc (Obj.cells b.v 66)).alloc (Obj.cells zeroM.v 66)) 66 zeroM.v
  simpa [MonD.v, zeroM] using this⟩ ?_
 intro W MU
 generalize w.heap.size + 1 + 1 + 1 = g4 at MU ⊢
 generalize w.heap.size + 1 + 1 = g3 at MU ⊢
 generalize w.heap.size + 1 = g2 at MU ⊢
 obtain ⟨p0, p1, p2, p3⟩ := MU.out.bo.k1.four
 have CA := Hd.mk (rmon_May a W)
 cases hma : monMay a
 ·rw [hma] at CA
  have HE : Hd (E = (false, zeroM)) := ⟨by rw [← HEQ.out]; unfold monDiv; rw [hma]; rfl⟩
  clear hma
  go_wp2_with fail
  refine CA.out.mono ?_
  rintro e w2 ⟨rfl, hb⟩
  have MU2 := Hd.mk (MU.out.up hb)
  obtain ⟨q0, q1, q2, q3⟩ := MU2.out.k4.four
  obtain ⟨r0, r1, r2, r3⟩ := MU2.out.k3.four
  have fz := fun i => MU2.out.k3.froz i
  clear hb
  go_wp2_with fail
  obtain ⟨d1, d2⟩ := MU2.out.res (.int .i64 0) (.int .i64 0) (.int .i64 0) (.int .i64 0)
  refine bodyPost_ret (res_mono2 rfl _ _ g3 _ rfl d1 rfl) rfl ?_
  rw [HE.out]
  exact ⟨rfl, d2⟩
 rw [hma] at CA
 have CB := Hd.mk (rmon_May b)
 cases hmb : monMay b
 ·rw [hmb] at CB
  have HE : Hd (E = (false, zeroM)) := ⟨by rw [← HEQ.out]; unfold monDiv; rw [hma, hmb]; rfl⟩
  clear hma hmb
  go_wp2_with fail
  refine CA.out.mono ?_
  rintro e w2 ⟨rfl, hb⟩
  have MU2 := Hd.mk (MU.out.up hb)
  obtain ⟨s0, s1, s2, s3⟩ := MU2.out.bo.k2.four
  clear hb p0 p1 p2 p3
  go_wp2_with fail
  clear s0 s1 s2 s3
  refine (CB.out _).mono ?_
  rintro e w3 ⟨rfl, hb⟩
  have MU3 := Hd.mk (MU2.out.up hb)
  obtain ⟨q0, q1, q2, q3⟩ := MU3.out.k4.four
  obtain ⟨r0, r1, r2, r3⟩ := MU3.out.k3.four
  have fz := fun i => MU3.out.k3.froz i
  clear hb
  go_wp2_with fail
  obtain ⟨d1, d2⟩ := MU3.out.res (.int .i64 0) (.int .i64 0) (.int .i64 0) (.int .i64 0)
  refine bodyPost_ret (res_mono2 rfl _ _ g3 _ rfl d1 rfl) rfl ?_
  rw [HE.out]
  exact ⟨rfl, d2⟩
 rw [hmb] at CB
 have HNO := Hd.mk (fun {i : Nat} {x y : Int} => monDiv_no (a := a) (b := b) (i := i) (x := x) (y := y))
 have HAB := Hd.mk (fun {i : Nat} {x y : Int} => subM_at (a := a) (b := b) (i := i) (x := x) (y := y))
 have HYES : Hd ((∀ i, i < 4 → b.l.getD i 0 ≤ a.l.getD i 0) → E = (true, subM a b)) := ⟨fun h => by rw [← HEQ.out]; unfold monDiv; rw [hma, hmb, if_neg (by simp), subM_may hma hmb h, if_neg (by simp)]⟩
 rw [HEQ.out] at HNO
 have HM := Hd.mk (And.intro hma hmb)
 generalize subM a b = z at HAB HYES
 clear hma hmb
 go_wp2_with fail
 refine CA.out.mono ?_
 rintro e w2 ⟨rfl, hb⟩
 have MU2 := Hd.mk (MU.out.up hb)
 obtain ⟨s0, s1, s2, s3⟩ := MU2.out.bo.k2.four
 clear hb p0 p1 p2 p3 CA
 go_wp2_with fail
 clear s0 s1 s2 s3
 refine (CB.out _).mono ?_
 rintro e w3 ⟨rfl, hb⟩
 have MU3 : Hd (Mu w.heap.size w.heap.size g2 g3 g4 w w3 a b (part z 0)) := ⟨MU2.out.up hb⟩
 clear hb CB MU MU2
 go_wp2_with fail
 go_loopw [7] (fun v wr => ∃ i : Nat, v = .int .i64 i ∧ i ≤ 4 ∧ Hd (Mu w.heap.size w.heap.size g2 g3 g4 w wr a b (part z i)) ∧ Hd (∀ j, j < i → b.l.getD j 0 ≤ a.l.getD j 0)) (fun v _ => 4 - (intOf v).toNat)
 case atStart => exact ⟨0, rfl, by omega, MU3, ⟨fun j h => absurd h (by omega)⟩⟩
 case round =>
  clear MU3
  obtain ⟨i, rfl, hi, MU, HLE⟩ := hrel
  by_cases hlt : i < 4
  ·obtain ⟨x, HX, hcx⟩ := cellM MU.out.bo.k1 hlt
   obtain ⟨y, HY, hcy⟩ := cellM MU.out.bo.k2 hlt
   obtain ⟨x0, x1⟩ := mon_rng HM.out.1 hlt HX.out
   obtain ⟨y0, y1⟩ := mon_rng HM.out.2 hlt HY.out
   have i1 : (i : Int) < 4 := by omega
   have i3 : (0 : Int) ≤ i := by omega
   by_cases hxy : x < y
   ·have HE := Hd.mk (HNO.out hlt HX.out HY.out hxy)
    obtain ⟨r0, r1, r2, r3⟩ := MU.out.k3.four
    have fz := fun i => MU.out.k3.froz i
    clear HNO HAB
    go_wp2_with fail
    go_quiet (fail)
    go_wp2_with fail
    obtain ⟨d1, d2⟩ := (MU.out.dn nq).res (.int .i64 0) (.int .i64 0) (.int .i64 0) (.int .i64 0)
    refine bodyPost_ret (res_mono2 rfl _ _ g3 _ rfl d1 rfl) rfl ?_
    rw [HE.out]
    exact ⟨rfl, d2⟩
   ·have HZ := Hd.mk (HAB.out hlt HX.out HY.out)
    have HL2 : Hd (∀ j, j < i + 1 → b.l.getD j 0 ≤ a.l.getD j 0) := ⟨fun j hj => by
     rcases Nat.lt_or_ge j i with h | h
     ·exact HLE.out j h
     ·obtain rfl : j = i := by omega
      rw [HX.out, HY.out]; omega⟩
    have hw : IntKind.i64.wrap (x - y) = x - y := by rw [IntKind.wrap_i64]; omega
    have fz := MU.out.k4.froz i
    obtain ⟨u, HU, hcu⟩ := cellM MU.out.k4 hlt
    have HN1 := MU.out.n1
    have HN2 := MU.out.n2
    clear HNO HAB
    go_wp2_with fail
    go_quiet (fail)
    have MUq := Hd.mk (MU.out.dn nq)
    have hcx' : (wr.drewN nq).cell? ⟨w.heap.size, i, none⟩ = some (.int .i64 x) := hcx
    have hcy' : (wr.drewN nq).cell? ⟨g2, i, none⟩ = some (.int .i64 y) := hcy
    have hcu' : (wr.drewN nq).cell? ⟨g4, i, none⟩ = some (.int .i64 u) := hcu
    have fz' : (wr.drewN nq).frozen? ⟨g4, i, none⟩ = false := fz
    generalize wr.drewN nq = wq at MUq hcx' hcy' hcu' fz' ⊢
    have HMU := Hd.mk (fun n => (MUq.out.dn n).set hlt HZ.out)
    clear hcx hcy hcu fz MU
    go_wp2_with fail
    go_region_held3 (fun w' => Hd (Below w.heap.size w w') ∧ w'.cell? ⟨w.heap.size, i, none⟩ = some (.int .i64 x) ∧ w'.cell? ⟨g2, i, none⟩ = some (.int .i64 y))
     (first
      | exact ⟨⟨MUq.out.bo.below⟩, hcx', hcy'⟩
      | exact ⟨⟨(MUq.out.dn 1).bo.below⟩, hcx', hcy'⟩
      | exact ⟨⟨(MUq.out.dn 1).bo.below.setCell MUq.out.s4 _⟩, (far1 rfl HN1).trans hcx', (far1 rfl HN2).trans hcy'⟩)
     (fail)
    all_goals
     go_wp2_with fail
     go_roundw
     case measure => first | (simp [intOf]; done) | (simp [intOf]; omega)
     case rel => exact ⟨_, by go_num, by omega, ⟨HMU.out 1⟩, HL2⟩
  ·obtain rfl : i = 4 := by omega
   have MU : Hd (Mu w.heap.size w.heap.size g2 g3 g4 w wr a b z) := MU
   have HE := Hd.mk (HYES.out HLE.out)
   obtain ⟨q0, q1, q2, q3⟩ := MU.out.k4.four
   obtain ⟨r0, r1, r2, r3⟩ := MU.out.k3.four
   have fz := fun i => MU.out.k3.froz i
   clear HNO HAB
   go_wp2_with fail
   obtain ⟨d1, d2⟩ := MU.out.res (.int .i64 z.x0) (.int .i64 z.x1) (.int .i64 z.x2) (.int .i64 z.x3)
   refine bodyPost_ret (res_mono2 rfl _ _ g3 _ rfl d1 rfl) rfl ?_
   rw [HE.out]
   exact ⟨rfl, d2⟩
theorem invD_short {r : RatD} (h : r.short) : (invD r).2.short := by
 unfold invD
 split
 ·exact zeroD_short
 ·split
  ·exact zeroD_short
  ·exact ⟨h.2, h.1⟩
structure Apg (b0 base : Nat) (w w' : World) (v v' : Value) (ds us : List TermD) : Prop where
 own : OwnT w' b0 base v' (ds ++ us)
 grow : w.grownBy w' v.ownBlock
 at_ : v'.ownBlock = v.ownBlock ∨ v'.ownBlock = some w.heap.size
theorem Apg.below {b0 base B : Nat} {w w' w0 : World} {v v' : Value} {ds us : List TermD} (h : Apg b0 base w w' v v' ds us) (hO : OwnT w b0 base v ds) (hB : Below B w0 w) (hb : B ≤ base) (hbase : base ≤ w.heap.size) : Below B w0 w' :=
 hB.grown h.grow (Nat.le_trans hb hbase) fun k hk => Nat.le_trans hb (hO.lt hk).2.1
end Go.Proofs.YtgjkgkgieeoalaaGreat
