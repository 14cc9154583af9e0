/- Parts of the proof, joined: what each says stands at its head. -/
import Derived.Test.YtjanagclahkfdaaGreatM24
import Derived.Test.YtjanagclahkfdaaGreatM52
set_option linter.unusedVariables false
set_option linter.unusedSimpArgs false
set_option maxHeartbeats 24000000
set_option maxRecDepth 100000
namespace Go.Proofs.YtjanagclahkfdaaGreat
open Go.RowKit
theorem maxM_at {a b : MonD} {i : Nat} {x y : Int} (hi : i < 4) (hx : a.l.getD i 0 = x) (hy : b.l.getD i 0 = y) : (maxM a b).l.getD i 0 = max x y := by
 subst hx hy
 rcases (show i = 0 ∨ i = 1 ∨ i = 2 ∨ i = 3 by omega) with rfl | rfl | rfl | rfl <;> rfl
theorem rmon_Lcm (a b : MonD) (w : World) :
    Calls Tryz.prog 33 #[.agg a.v, .agg b.v] w fun e w' => e = .returned (.agg (monLcm a b).v) ∧ Below w.heap.size w w' := by
 obtain ⟨E, hE⟩ : ∃ E, monLcm a b = E := ⟨_, rfl⟩
 rw [hE]
 have HEQ := Hd.mk hE
 clear hE
 go_enter Tryz.func33, Tryz.ntmps33
 go_upto_region 2 with (fail)
 refine wp_gen (fun W => Mu w.heap.size w.heap.size (w.heap.size + 1) (w.heap.size + 1 + 1) (w.heap.size + 1 + 1 + 1) w W a b zeroM) ⟨((Bo2.mk2 w _ _ _ _).up ((Below.refl _ _).alloc (Nat.le_refl _) _)).up ((Below.refl _ _).alloc (Nat.le_refl _) _), by omega, by omega, by omega, by omega, by omega, by
  have := (Bk.new_ ((w.alloc (Obj.cells a.v 45)).alloc (Obj.cells b.v 45)) 45 zeroM.v).al (Obj.cells zeroM.v 45)
  simpa [MonD.v, zeroM] using this, by
  have := Bk.new_ (((w.alloc (Obj.cells a.v 45)).alloc (Obj.cells b.v 45)).alloc (Obj.cells zeroM.v 45)) 45 zeroM.v
  simpa [MonD.v, zeroM] using this⟩ ?_
 intro W MU
 generalize w.heap.size + 1 + 1 + 1 = g4 at MU ⊢
 generalize w.heap.size + 1 + 1 = g3 at MU ⊢
 generalize w.heap.size + 1 = g2 at MU ⊢
 obtain ⟨p0, p1, p2, p3⟩ := MU.out.bo.k1.four
 have CA := Hd.mk (rmon_May a W)
 cases hma : monMay a
 ·rw [hma] at CA
  have HE : Hd (E = zeroM) := ⟨by rw [← HEQ.out]; unfold monLcm; rw [hma]; rfl⟩
  clear hma
  go_wp2_with fail
  refine CA.out.mono ?_
  rintro e w2 ⟨rfl, hb⟩
  have MU2 := Hd.mk (MU.out.up hb)
  obtain ⟨q0, q1, q2, q3⟩ := MU2.out.k4.four
  obtain ⟨r0, r1, r2, r3⟩ := MU2.out.k3.four
  have fz := fun i => MU2.out.k3.froz i
  clear hb
  go_wp2_with fail
  obtain ⟨d1, d2⟩ := MU2.out.res (.int .i64 0) (.int .i64 0) (.int .i64 0) (.int .i64 0)
  refine bodyPost_ret (res_mono rfl _ _ g3 _ rfl d1 rfl) rfl ?_
  rw [HE.out]
  exact ⟨rfl, d2⟩
 rw [hma] at CA
 have CB := Hd.mk (rmon_May b)
 cases hmb : monMay b
 ·rw [hmb] at CB
  have HE : Hd (E = zeroM) := ⟨by rw [← HEQ.out]; unfold monLcm; rw [hma, hmb]; rfl⟩
  clear hma hmb
  go_wp2_with fail
  refine CA.out.mono ?_
  rintro e w2 ⟨rfl, hb⟩
  have MU2 := Hd.mk (MU.out.up hb)
  obtain ⟨s0, s1, s2, s3⟩ := MU2.out.bo.k2.four
  clear hb p0 p1 p2 p3
  go_wp2_with fail
  clear s0 s1 s2 s3
  refine (CB.out _).mono ?_
  rintro e w3 ⟨rfl, hb⟩
  have MU3 := Hd.mk (MU2.out.up hb)
  obtain ⟨q0, q1, q2, q3⟩ := MU3.out.k4.four
  obtain ⟨r0, r1, r2, r3⟩ := MU3.out.k3.four
  have fz := fun i => MU3.out.k3.froz i
  clear hb
  go_wp2_with fail
  obtain ⟨d1, d2⟩ := MU3.out.res (.int .i64 0) (.int .i64 0) (.int .i64 0) (.int .i64 0)
  refine bodyPost_ret (res_mono rfl _ _ g3 _ rfl d1 rfl) rfl ?_
  rw [HE.out]
  exact ⟨rfl, d2⟩
 rw [hmb] at CB
 have HAB := Hd.mk (fun {i : Nat} {x y : Int} => maxM_at (a := a) (b := b) (i := i) (x := x) (y := y))
 have HYES : Hd (E = maxM a b) := ⟨by rw [← HEQ.out]; unfold monLcm; rw [hma, hmb]; rfl⟩
 have HM := Hd.mk (And.intro hma hmb)
 generalize maxM a b = z at HAB HYES
 clear hma hmb
 go_wp2_with fail
 refine CA.out.mono ?_
 rintro e w2 ⟨rfl, hb⟩
 have MU2 := Hd.mk (MU.out.up hb)
 obtain ⟨s0, s1, s2, s3⟩ := MU2.out.bo.k2.four
 clear hb p0 p1 p2 p3 CA
 go_wp2_with fail
 clear s0 s1 s2 s3
 refine (CB.out _).mono ?_
 rintro e w3 ⟨rfl, hb⟩
 have MU3 : Hd (Mu w.heap.size w.heap.size g2 g3 g4 w w3 a b (part z 0)) := ⟨MU2.out.up hb⟩
 clear hb CB MU MU2
 go_wp2_with fail
 go_loopw [6] (fun v wr => ∃ i : Nat, v = .int .i64 i ∧ i ≤ 4 ∧ Hd (Mu w.heap.size w.heap.size g2 g3 g4 w wr a b (part z i))) (fun v _ => 4 - (intOf v).toNat)
 case atStart => exact ⟨0, rfl, by omega, MU3⟩
 case round =>
  clear MU3
  obtain ⟨i, rfl, hi, MU⟩ := hrel
  by_cases hlt : i < 4
  ·obtain ⟨x, HX, hcx⟩ := cellM MU.out.bo.k1 hlt
   obtain ⟨y, HY, hcy⟩ := cellM MU.out.bo.k2 hlt
   have i1 : (i : Int) < 4 := by omega
   have i3 : (0 : Int) ≤ i := by omega
   have HZ := Hd.mk (HAB.out hlt HX.out HY.out)
   have fz := MU.out.k4.froz i
   obtain ⟨u, HU, hcu⟩ := cellM MU.out.k4 hlt
   have HN1 := MU.out.n1
   have HN2 := MU.out.n2
   have HMU := Hd.mk (fun n => (MU.out.dn n).set hlt HZ.out)
   clear HAB
   go_wp2_with fail
   go_region_held3 (fun w' => Hd (Below w.heap.size w w') ∧ w'.cell? ⟨w.heap.size, i, none⟩ = some (.int .i64 x) ∧ w'.cell? ⟨g2, i, none⟩ = some (.int .i64 y))
    (first
     | exact ⟨⟨MU.out.bo.below⟩, hcx, hcy⟩
     | exact ⟨⟨(MU.out.dn 1).bo.below⟩, hcx, hcy⟩
     | exact ⟨⟨(MU.out.dn 1).bo.below.setCell MU.out.s4 _⟩, (far1 rfl HN1).trans hcx, (far1 rfl HN2).trans hcy⟩)
    (fail)
   all_goals
    go_wp2_with fail
    go_roundw
    case measure => first | (simp [intOf]; done) | (simp [intOf]; omega)
    case rel => exact ⟨_, by go_num, by omega, ⟨HMU.out 1⟩⟩
  ·obtain rfl : i = 4 := by omega
   have MU : Hd (Mu w.heap.size w.heap.size g2 g3 g4 w wr a b z) := MU
   have HE := HYES
   obtain ⟨q0, q1, q2, q3⟩ := MU.out.k4.four
   obtain ⟨r0, r1, r2, r3⟩ := MU.out.k3.four
   have fz := fun i => MU.out.k3.froz i
   clear HAB
   go_wp2_with fail
   obtain ⟨d1, d2⟩ := MU.out.res (.int .i64 z.x0) (.int .i64 z.x1) (.int .i64 z.x2) (.int .i64 z.x3)
   refine bodyPost_ret (res_mono rfl _ _ g3 _ rfl d1 rfl) rfl ?_
   rw [HE.out]
   exact ⟨rfl, d2⟩
end Go.Proofs.YtjanagclahkfdaaGreat
