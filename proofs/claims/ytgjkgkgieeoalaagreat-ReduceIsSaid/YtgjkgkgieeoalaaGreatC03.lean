/- Parts of the proof, joined: each theorem says what it shows. -/
import Derived.Test.YtgjkgkgieeoalaaGreatC02
import Derived.Laws.EntriesVeiled
import Derived.WideLaws
set_option linter.unusedVariables false
set_option linter.unusedSimpArgs false
set_option maxHeartbeats 24000000
set_option maxRecDepth 100000
namespace Go.Proofs.YtgjkgkgieeoalaaGreat
open Go.RowKit
theorem Cmp_2 (F : FuncId) (cap : Array Value) (w : World) :
    Calls Tryz.prog 194 #[.func (.func F) #[] cap] w fun e w' => ∃ g, e = .returned (.func (.func 195) #[] #[.pointer (some ⟨g, 0, none⟩)]) ∧ w.heap.size ≤ g ∧ Bk w' g 189 #[.func (.func F) #[] cap] ∧ Blw w.heap.size w w' := by
 go_enter Tryz.func194, Tryz.ntmps194
 go_wp2_with fail
 go_ret
 exact ⟨_, rfl, Nat.le_refl _, Bk.new_ _ _ _, (Blw.refl _ _).alloc (Nat.le_refl _) _⟩
def monCmp (order : Int) (a b : MonD) : Int :=
 if (!monMay a || !monMay b || decide (order < 0) || decide (3 ≤ order)) = true then 0
 else if order = 0 then lexC a.l b.l else if order = 1 then orI (cmpI (monDeg a) (monDeg b)) (lexC a.l b.l) else orI (cmpI (monDeg a) (monDeg b)) (lexC (rev b).l (rev a).l)
structure Mq (S g1 g2 gl gA gB g10 : Nat) (w0 w : World) (a b : MonD) : Prop where
 bm : Bm2 S g1 g2 w0 w a b
 kl : Bk w gl 189 #[(.func (.func 192) #[] #[])]
 kA : Bk w gA 189 #[(.func (.func 192) #[] #[])]
 kB : Bk w gB 189 #[(.func (.func 199) #[] #[.pointer (some ⟨gl, 0, none⟩)])]
 k10 : Bk w g10 216 #[(.func (.func 192) #[] #[]), (.func (.func 195) #[] #[.pointer (some ⟨gA, 0, none⟩)]), (.func (.func 195) #[] #[.pointer (some ⟨gB, 0, none⟩)])]
theorem Mq.up {S g1 g2 gl gA gB g10 : Nat} {w0 w w' : World} {a b : MonD} (h : Mq S g1 g2 gl gA gB g10 w0 w a b) (hb : Blw w.heap.size w w') : Mq S g1 g2 gl gA gB g10 w0 w' a b :=
 ⟨h.bm.up hb, h.kl.up hb.lo, h.kA.up hb.lo, h.kB.up hb.lo, h.k10.up hb.lo⟩
theorem Mq.dn {S g1 g2 gl gA gB g10 : Nat} {w0 w : World} {a b : MonD} (h : Mq S g1 g2 gl gA gB g10 w0 w a b) (n : Nat) : Mq S g1 g2 gl gA gB g10 w0 (w.drewN n) a b :=
 ⟨h.bm.dn n, h.kl, h.kA, h.kB, h.k10⟩
theorem mono_Cmp (order : Int) (a b : MonD) (w : World) :
    Calls Tryz.prog 115 #[.int .i64 order, .agg #[.int .i64 a.x0, .int .i64 a.x1, .int .i64 a.x2, .int .i64 a.x3], .agg #[.int .i64 b.x0, .int .i64 b.x1, .int .i64 b.x2, .int .i64 b.x3]] w fun e w' => e = .returned (.int .i64 (monCmp order a b)) ∧ Blw w.heap.size w w' := by
 go_enter Tryz.func115, Tryz.ntmps115
 go_upto_region 1 with (fail)
 refine wp_gen (fun W => Bm2 w.heap.size w.heap.size (w.heap.size + 1) w W a b) (Bm2.mk2 w a b) ?_
 intro W BX
 generalize w.heap.size + 1 = g2 at BX ⊢
 go_upto_region 4 with (fail)
 refine wp_gen (fun W2 => Bm2 w.heap.size w.heap.size g2 w W2 a b ∧ w.heap.size ≤ W.heap.size ∧ Bk W2 W.heap.size 189 #[.func (.func 192) #[] #[]]) ⟨BX.out.up ((Blw.refl _ _).alloc (Nat.le_refl _) _), BX.out.below.size, Bk.new_ _ _ _⟩ ?_
 intro W2 BY
 generalize W.heap.size = gl at BY ⊢
 clear BX
 have l0 := BY.out.2.2.one
 have hgl : W2.heap.size ≠ gl := fun e => by have := BY.out.2.2.lt; omega
 have hgl4 : ¬ (W2.heap.size ≤ gl) := fun e => by have := BY.out.2.2.lt; omega
 have C1 := Hd.mk (fun W => Cmp_2 192 #[] W)
 have C2 := Hd.mk (fun W => Cmp_2 199 #[.pointer (some ⟨gl, 0, none⟩)] W)
 go_cut [10] (fun v10 wx => ∃ g10 gA gB : Nat, v10 = .pointer (some ⟨g10, 0, none⟩) ∧ Hd (Blw W2.heap.size W2 wx) ∧ Hd (Bk wx g10 216 #[(.func (.func 192) #[] #[]), (.func (.func 195) #[] #[.pointer (some ⟨gA, 0, none⟩)]), (.func (.func 195) #[] #[.pointer (some ⟨gB, 0, none⟩)])]) ∧ Hd (Bk wx gA 189 #[(.func (.func 192) #[] #[])]) ∧ Hd (Bk wx gB 189 #[(.func (.func 199) #[] #[.pointer (some ⟨gl, 0, none⟩)])]))
 case first =>
  go_region_held3 (fun w' => Hd (Blw W2.heap.size W2 w') ∧ w'.cell? ⟨gl, 0, none⟩ = some (.func (.func 192) #[] #[]))
   (first
    | exact hS
    | exact ⟨⟨Blw.refl _ _⟩, l0⟩
    | exact ⟨⟨Blw.dn (Blw.refl W2.heap.size W2) 1⟩, l0⟩
    | exact sal' hS _
    | exact sal' ⟨⟨Blw.refl W2.heap.size W2⟩, l0⟩ _
    | exact sal' ⟨⟨Blw.dn (Blw.refl W2.heap.size W2) 1⟩, l0⟩ _
    | exact ⟨⟨((hS.1.out.setCell HR2.out.1 _).setCell HR2.out.1 _).setCell HR2.out.1 _⟩, (far1 rfl hnl).trans ((far1 rfl hnl).trans ((far1 rfl hnl).trans hS.2))⟩)
   (first
   | (go_at_call 194; obtain ⟨hB, q1⟩ := ‹Hd (Blw W2.heap.size W2 _) ∧ _›; with_reducible refine (C1.out (W2.drew)).mono ?_; rintro e w4 ⟨gA, rfl, hgA, hkA, hb⟩
      have hS := And.intro (Hd.mk (hB.out.trans (hb.mono hB.out.size))) (cellUp q1 hb)
      have HA := Hd.mk (And.intro (Nat.le_trans hB.out.size hgA) hkA)
      clear hgA hkA)
   | (go_at_call 194; obtain ⟨hB, q1⟩ := ‹Hd (Blw W2.heap.size W2 _) ∧ _›; with_reducible refine (C1.out ((W2.alloc (Obj.cells #[.nilFunc, .nilFunc, .nilFunc] 216)).drew)).mono ?_; rintro e w4 ⟨gA, rfl, hgA, hkA, hb⟩
      have hS := And.intro (Hd.mk (hB.out.trans (hb.mono hB.out.size))) (cellUp q1 hb)
      have HA := Hd.mk (And.intro (Nat.le_trans hB.out.size hgA) hkA)
      have HR := Hd.mk (And.intro (Nat.le_refl W2.heap.size) (Bk.up (Bk.dn (Bk.new_ W2 216 #[.nilFunc, .nilFunc, .nilFunc]) 1) hb.lo))
      clear hgA hkA)
   | (go_at_call 194; obtain ⟨hB, q1⟩ := ‹Hd (Blw W2.heap.size W2 _) ∧ _›; with_reducible refine (C2.out (w4)).mono ?_; rintro e w5 ⟨gB, rfl, hgB, hkB, hb⟩
      have hS := And.intro (Hd.mk (hB.out.trans (hb.mono hB.out.size))) (cellUp q1 hb)
      have HA2 := Hd.mk (And.intro HA.out.1 (Bk.up HA.out.2 hb.lo))
      have HBB := Hd.mk (And.intro (Nat.le_trans (Blw.size hB.out) hgB) hkB)
      have HR2 := Hd.mk (And.intro HR.out.1 (Bk.up HR.out.2 hb.lo))
      have hnl : W2.heap.size ≠ gl := hgl
      obtain ⟨p6, p7, p8⟩ := HR2.out.2.three
      have fz := fun i => HR2.out.2.froz i
      clear hgB hkB)
   | (go_at_call 194; obtain ⟨hB, q1⟩ := ‹Hd (Blw W2.heap.size W2 _) ∧ _›; with_reducible refine (C2.out (w4)).mono ?_; rintro e w5 ⟨gB, rfl, hgB, hkB, hb⟩
      have hS := And.intro (Hd.mk (hB.out.trans (hb.mono hB.out.size))) (cellUp q1 hb)
      have HA2 := Hd.mk (And.intro HA.out.1 (Bk.up HA.out.2 hb.lo))
      have HBB := Hd.mk (And.intro (Nat.le_trans (Blw.size hB.out) hgB) hkB)
      clear hgB hkB)
   | (go_at_call 194; obtain ⟨hB, q1⟩ := ‹Hd (Blw W2.heap.size W2 _) ∧ _›; with_reducible refine (C2.out (w4.alloc (Obj.cells #[.nilFunc, .nilFunc, .nilFunc] 216))).mono ?_; rintro e w5 ⟨gB, rfl, hgB, hkB, hb⟩
      have hS := And.intro (Hd.mk (hB.out.trans (hb.mono hB.out.size))) (cellUp q1 hb)
      have HA2 := Hd.mk (And.intro HA.out.1 (Bk.up (Bk.al HA.out.2 (Obj.cells #[.nilFunc, .nilFunc, .nilFunc] 216)) hb.lo))
      have HBB := Hd.mk (And.intro (Nat.le_trans (Blw.size hB.out) hgB) hkB)
      have HR2 := Hd.mk (And.intro (Nat.le_trans HA.out.1 (Nat.le_of_lt HA.out.2.lt)) (Bk.up (Bk.new_ w4 216 #[.nilFunc, .nilFunc, .nilFunc]) hb.lo))
      have hnl : w4.heap.size ≠ gl := fun e => hgl4 (e ▸ (Nat.le_trans HA.out.1 (Nat.le_of_lt HA.out.2.lt)))
      obtain ⟨p6, p7, p8⟩ := HR2.out.2.three
      have fz := fun i => HR2.out.2.froz i
      clear hgB hkB))
  ·go_wp2_with fail
   go_meet
   exact ⟨w5.heap.size, gA, gB, rfl, ⟨hS.1.out.trans (((Blw.refl _ _).alloc (Nat.le_refl _) _).mono hS.1.out.size)⟩, ⟨Bk.new_ _ _ _⟩, ⟨HA2.out.2.al _⟩, ⟨HBB.out.2.al _⟩⟩
  all_goals (
   go_wp2_with fail
   go_meet
   have nA := Bk.ne_ HA2.out.2 HR2.out.2 (by decide)
   have nB := Bk.ne_ HBB.out.2 HR2.out.2 (by decide)
   exact ⟨_, gA, gB, rfl, ⟨((hS.1.out.setCell HR2.out.1 _).setCell HR2.out.1 _).setCell HR2.out.1 _⟩, ⟨HR2.out.2.set3 _ _ _⟩, ⟨((HA2.out.2.far nA _).far nA _).far nA _⟩, ⟨((HBB.out.2.far nB _).far nB _).far nB _⟩⟩)
 case rest =>
  obtain ⟨g10, gA, gB, rfl, hB, k10, kA, kB⟩ := hcut
  have BQ : Hd (Mq w.heap.size w.heap.size g2 gl gA gB g10 w wc a b) := ⟨BY.out.1.up hB.out, BY.out.2.2.up hB.out, kA.out, kB.out, k10.out⟩
  clear BY hB k10 kA kB C1 C2 l0 hgl hgl4
  obtain ⟨c0, c1, c2, c3⟩ := BQ.out.bm.k1.four
  have CA := Hd.mk (mono_May a wc)
  cases hma : monMay a
  ·have HE : Hd (monCmp order a b = 0) := ⟨by unfold monCmp; rw [hma]; rfl⟩
   rw [hma] at CA
   go_wp2_with fail
   refine CA.out.mono ?_
   rintro e w4 ⟨rfl, hb⟩
   have BQ4 := Hd.mk (BQ.out.up hb)
   clear hb
   go_wp2_with fail
   go_ret
   exact ⟨retInt HE.out.symm, BQ4.out.bm.below⟩
  ·rw [hma] at CA
   go_wp2_with fail
   refine CA.out.mono ?_
   rintro e w4 ⟨rfl, hb⟩
   have BQ4 := Hd.mk (BQ.out.up hb)
   obtain ⟨d0, d1, d2, d3⟩ := BQ4.out.bm.k2.four
   have CB := Hd.mk (mono_May b w4)
   clear hb c0 c1 c2 c3 BQ CA
   cases hmb : monMay b
   ·have HE : Hd (monCmp order a b = 0) := ⟨by unfold monCmp; rw [hmb]; simp⟩
    rw [hmb] at CB
    go_wp2_with fail
    refine CB.out.mono ?_
    rintro e w5 ⟨rfl, hb⟩
    have BQ5 := Hd.mk (BQ4.out.up hb)
    clear hb
    go_wp2_with fail
    go_ret
    exact ⟨retInt HE.out.symm, BQ5.out.bm.below⟩
   ·rw [hmb] at CB
    by_cases ho1 : order < 0
    ·have HE : Hd (monCmp order a b = 0) := ⟨by unfold monCmp; rw [decide_eq_true ho1]; simp⟩
     have e1 : decide (order < 0) = true := decide_eq_true ho1
     clear ho1
     go_wp2_with fail
     refine CB.out.mono ?_
     rintro e w5 ⟨rfl, hb⟩
     have BQ5 := Hd.mk (BQ4.out.up hb)
     clear hb
     go_wp2_with fail
     go_ret
     exact ⟨retInt HE.out.symm, BQ5.out.bm.below⟩
    ·by_cases ho2 : 3 ≤ order
     ·have HE : Hd (monCmp order a b = 0) := ⟨by unfold monCmp; rw [decide_eq_true ho2]; simp⟩
      have e1 : decide (order < 0) = false := decide_eq_false ho1
      have e2 : decide (3 ≤ order) = true := decide_eq_true ho2
      clear ho1 ho2
      go_wp2_with fail
      refine CB.out.mono ?_
      rintro e w5 ⟨rfl, hb⟩
      have BQ5 := Hd.mk (BQ4.out.up hb)
      clear hb
      go_wp2_with fail
      go_ret
      exact ⟨retInt HE.out.symm, BQ5.out.bm.below⟩
     ·have HE : Hd (monCmp order a b = if order = 0 then lexC a.l b.l else if order = 1 then orI (cmpI (monDeg a) (monDeg b)) (lexC a.l b.l) else orI (cmpI (monDeg a) (monDeg b)) (lexC (rev b).l (rev a).l)) := ⟨by
        unfold monCmp; rw [hma, hmb, decide_eq_false ho1, decide_eq_false ho2]; rfl⟩
      have F1 := Hd.mk (fun W => Cmp_lex a b W)
      have F2 := Hd.mk (fun W h => graded_lex a b gA W h)
      have F3 := Hd.mk (fun W h h' => graded_rev a b gB gl W h h')
      clear hma hmb
      rcases (show order = 0 ∨ order = 1 ∨ order = 2 by omega) with rfl | rfl | rfl
      ·clear ho1 ho2
       go_wp2_with fail
       refine CB.out.mono ?_
       rintro e w5 ⟨rfl, hb⟩
       have BQ5 := Hd.mk (BQ4.out.up hb)
       obtain ⟨c0, c1, c2, c3⟩ := BQ5.out.bm.k1.four
       obtain ⟨d0, d1, d2, d3⟩ := BQ5.out.bm.k2.four
       obtain ⟨t0, t1, t2⟩ := BQ5.out.k10.three
       clear hb
       go_wp2_with fail
       go_region_held3 (fun w' => Hd (Mq w.heap.size w.heap.size g2 gl gA gB g10 w w' a b) ∧ w'.cell? ⟨g10, 0, none⟩ = some (.func (.func 192) #[] #[]) ∧
           w'.cell? ⟨w.heap.size, 0, none⟩ = some (.int .i64 a.x0) ∧ w'.cell? ⟨w.heap.size, 1, none⟩ = some (.int .i64 a.x1) ∧ w'.cell? ⟨w.heap.size, 2, none⟩ = some (.int .i64 a.x2) ∧ w'.cell? ⟨w.heap.size, 3, none⟩ = some (.int .i64 a.x3) ∧
           w'.cell? ⟨g2, 0, none⟩ = some (.int .i64 b.x0) ∧ w'.cell? ⟨g2, 1, none⟩ = some (.int .i64 b.x1) ∧ w'.cell? ⟨g2, 2, none⟩ = some (.int .i64 b.x2) ∧ w'.cell? ⟨g2, 3, none⟩ = some (.int .i64 b.x3))
        (first
         | exact hS
         | exact ⟨BQ5, t0, c0, c1, c2, c3, d0, d1, d2, d3⟩
         | exact ⟨⟨BQ5.out.dn 1⟩, t0, c0, c1, c2, c3, d0, d1, d2, d3⟩)
        (first
         | (go_at_call 192; obtain ⟨hB, q0, q1, q2, q3, q4, q5, q6, q7, q8⟩ := ‹Hd (Mq w.heap.size w.heap.size g2 gl gA gB g10 w _ a b) ∧ _›; with_reducible refine (F1.out _).mono ?_; rintro e w6 ⟨rfl, hb⟩
            have BQ6 := Hd.mk (hB.out.up hb)
            have hS := And.intro BQ6 (And.intro (cellUp q0 hb) (And.intro (cellUp q1 hb) (And.intro (cellUp q2 hb) (And.intro (cellUp q3 hb) (And.intro (cellUp q4 hb) (And.intro (cellUp q5 hb) (And.intro (cellUp q6 hb) (And.intro (cellUp q7 hb) (cellUp q8 hb)))))))))))
       all_goals (
        go_wp2_with fail
        go_ret
        exact ⟨retInt HE.out.symm, hS.1.out.bm.below⟩)
      ·clear ho1 ho2
       go_wp2_with fail
       refine CB.out.mono ?_
       rintro e w5 ⟨rfl, hb⟩
       have BQ5 := Hd.mk (BQ4.out.up hb)
       obtain ⟨c0, c1, c2, c3⟩ := BQ5.out.bm.k1.four
       obtain ⟨d0, d1, d2, d3⟩ := BQ5.out.bm.k2.four
       obtain ⟨t0, t1, t2⟩ := BQ5.out.k10.three
       clear hb
       go_wp2_with fail
       go_region_held3 (fun w' => Hd (Mq w.heap.size w.heap.size g2 gl gA gB g10 w w' a b) ∧ w'.cell? ⟨g10, 1, none⟩ = some (.func (.func 195) #[] #[.pointer (some ⟨gA, 0, none⟩)]) ∧
           w'.cell? ⟨w.heap.size, 0, none⟩ = some (.int .i64 a.x0) ∧ w'.cell? ⟨w.heap.size, 1, none⟩ = some (.int .i64 a.x1) ∧ w'.cell? ⟨w.heap.size, 2, none⟩ = some (.int .i64 a.x2) ∧ w'.cell? ⟨w.heap.size, 3, none⟩ = some (.int .i64 a.x3) ∧
           w'.cell? ⟨g2, 0, none⟩ = some (.int .i64 b.x0) ∧ w'.cell? ⟨g2, 1, none⟩ = some (.int .i64 b.x1) ∧ w'.cell? ⟨g2, 2, none⟩ = some (.int .i64 b.x2) ∧ w'.cell? ⟨g2, 3, none⟩ = some (.int .i64 b.x3))
        (first
         | exact hS
         | exact ⟨BQ5, t1, c0, c1, c2, c3, d0, d1, d2, d3⟩
         | exact ⟨⟨BQ5.out.dn 1⟩, t1, c0, c1, c2, c3, d0, d1, d2, d3⟩)
        (first
         | (go_at_call 195; obtain ⟨hB, q0, q1, q2, q3, q4, q5, q6, q7, q8⟩ := ‹Hd (Mq w.heap.size w.heap.size g2 gl gA gB g10 w _ a b) ∧ _›; with_reducible refine (F2.out _ hB.out.kA.one).mono ?_; rintro e w6 ⟨rfl, hb⟩
            have BQ6 := Hd.mk (hB.out.up hb)
            have hS := And.intro BQ6 (And.intro (cellUp q0 hb) (And.intro (cellUp q1 hb) (And.intro (cellUp q2 hb) (And.intro (cellUp q3 hb) (And.intro (cellUp q4 hb) (And.intro (cellUp q5 hb) (And.intro (cellUp q6 hb) (And.intro (cellUp q7 hb) (cellUp q8 hb)))))))))))
       all_goals (
        go_wp2_with fail
        go_ret
        exact ⟨retInt HE.out.symm, hS.1.out.bm.below⟩)
      ·clear ho1 ho2
       go_wp2_with fail
       refine CB.out.mono ?_
       rintro e w5 ⟨rfl, hb⟩
       have BQ5 := Hd.mk (BQ4.out.up hb)
       obtain ⟨c0, c1, c2, c3⟩ := BQ5.out.bm.k1.four
       obtain ⟨d0, d1, d2, d3⟩ := BQ5.out.bm.k2.four
       obtain ⟨t0, t1, t2⟩ := BQ5.out.k10.three
       clear hb
       go_wp2_with fail
       go_region_held3 (fun w' => Hd (Mq w.heap.size w.heap.size g2 gl gA gB g10 w w' a b) ∧ w'.cell? ⟨g10, 2, none⟩ = some (.func (.func 195) #[] #[.pointer (some ⟨gB, 0, none⟩)]) ∧
           w'.cell? ⟨w.heap.size, 0, none⟩ = some (.int .i64 a.x0) ∧ w'.cell? ⟨w.heap.size, 1, none⟩ = some (.int .i64 a.x1) ∧ w'.cell? ⟨w.heap.size, 2, none⟩ = some (.int .i64 a.x2) ∧ w'.cell? ⟨w.heap.size, 3, none⟩ = some (.int .i64 a.x3) ∧
           w'.cell? ⟨g2, 0, none⟩ = some (.int .i64 b.x0) ∧ w'.cell? ⟨g2, 1, none⟩ = some (.int .i64 b.x1) ∧ w'.cell? ⟨g2, 2, none⟩ = some (.int .i64 b.x2) ∧ w'.cell? ⟨g2, 3, none⟩ = some (.int .i64 b.x3))
        (first
         | exact hS
         | exact ⟨BQ5, t2, c0, c1, c2, c3, d0, d1, d2, d3⟩
         | exact ⟨⟨BQ5.out.dn 1⟩, t2, c0, c1, c2, c3, d0, d1, d2, d3⟩)
        (first
         | (go_at_call 195; obtain ⟨hB, q0, q1, q2, q3, q4, q5, q6, q7, q8⟩ := ‹Hd (Mq w.heap.size w.heap.size g2 gl gA gB g10 w _ a b) ∧ _›; with_reducible refine (F3.out _ hB.out.kB.one hB.out.kl.one).mono ?_; rintro e w6 ⟨rfl, hb⟩
            have BQ6 := Hd.mk (hB.out.up hb)
            have hS := And.intro BQ6 (And.intro (cellUp q0 hb) (And.intro (cellUp q1 hb) (And.intro (cellUp q2 hb) (And.intro (cellUp q3 hb) (And.intro (cellUp q4 hb) (And.intro (cellUp q5 hb) (And.intro (cellUp q6 hb) (And.intro (cellUp q7 hb) (cellUp q8 hb)))))))))))
       all_goals (
        go_wp2_with fail
        go_ret
        exact ⟨retInt HE.out.symm, hS.1.out.bm.below⟩)
def part (z : MonD) : Nat → MonD
 | 0 => ⟨0, 0, 0, 0⟩
 | 1 => ⟨z.x0, 0, 0, 0⟩
 | 2 => ⟨z.x0, z.x1, 0, 0⟩
 | 3 => ⟨z.x0, z.x1, z.x2, 0⟩
 | _ => z
def isArr : Option TypeDesc → Bool
 | some (.array _ _) => true
 | _ => false
theorem arr_of {o : Option TypeDesc} (h : isArr o = true) : ∃ n e, o = some (.array n e) := by
 unfold isArr at h
 split at h
 ·exact ⟨_, _, rfl⟩
 ·cases h
theorem Tryz.arMono : isArr (Tryz.prog.underlying 66) = true := by kernel_rfl
theorem Tryz.szMono : (Tryz.prog.info? 66).map (·.size) = some 4 := by kernel_rfl
theorem res_mono {fn : Func} {p : Tmp} (h : fn.results = #[.cell p 66]) (tmps : Array Value) (w : World) (g : Nat) (cs : Array Value) (hp : tmps.getD p undef = .pointer (some ⟨g, 0, none⟩)) (hk : Bk w g 66 cs) (hc : cs.size = 4) :
    (results fn tmps).run Tryz.prog w = .ok (.agg cs) w := by
 obtain ⟨n, e, h1⟩ := arr_of Tryz.arMono
 exact results_cell_row h tmps w g _ cs (0, 0) (.array n e) hp hk h1 rfl (by rw [hc]; exact Tryz.szMono)
theorem res_mono2 {fn : Func} {p u : Tmp} (h : fn.results = #[.cell p 66, .tmp u]) (tmps : Array Value) (w : World) (g : Nat) (cs : Array Value) (hp : tmps.getD p undef = .pointer (some ⟨g, 0, none⟩)) (hk : Bk w g 66 cs) (hc : cs.size = 4) :
    (results fn tmps).run Tryz.prog w = .ok (.tuple #[.agg cs, tmps.getD u undef]) w := by
 obtain ⟨n, e, h1⟩ := arr_of Tryz.arMono
 rw [results_cell_tmp h, hp]
 have hl := run_loadVar_row (P := Tryz.prog) w g 66 66 cs (0, 0) (.array n e) hk h1 rfl (by rw [hc]; exact Tryz.szMono)
 simp [asAddr, hl, Result.andThen]
theorem Bk.set4 {w : World} {g : Nat} {t : TypeId} {a0 a1 a2 a3 : Value} (h : Bk w g t #[a0, a1, a2, a3]) (v0 v1 v2 v3 : Value) : Bk ((((w.setCell ⟨g, 0, none⟩ v0).setCell ⟨g, 1, none⟩ v1).setCell ⟨g, 2, none⟩ v2).setCell ⟨g, 3, none⟩ v3) g t #[v0, v1, v2, v3] :=
 (((h.set_ 0 v0).set_ 1 v1).set_ 2 v2).set_ 3 v3
theorem mul_1 (x y : Int) (w : World) (hx : 0 ≤ x ∧ x ≤ 40) (hy : 0 ≤ y ∧ y ≤ 40) : Calls Tryz.prog 234 #[.int .i64 x, .int .i64 y] w fun e w' => e = .returned (.int .i64 (x + y)) ∧ w = w' := by
 have h : IntKind.i64.wrap (x + y) = x + y := by rw [IntKind.wrap_i64]; omega
 go_enter Tryz.func234, Tryz.ntmps234
 go_wp2_with fail
 go_ret
 exact ⟨rfl, rfl⟩
theorem zip_mul (a b z : MonD) (hz : z = ⟨a.x0 + b.x0, a.x1 + b.x1, a.x2 + b.x2, a.x3 + b.x3⟩) (w : World) (hma : monMay a = true) (hmb : monMay b = true) :
    Calls Tryz.prog 162 #[.agg #[.int .i64 a.x0, .int .i64 a.x1, .int .i64 a.x2, .int .i64 a.x3], .agg #[.int .i64 b.x0, .int .i64 b.x1, .int .i64 b.x2, .int .i64 b.x3], .func (.func 234) #[] #[]] w fun e w' => e = .returned (.agg #[.int .i64 (z).x0, .int .i64 (z).x1, .int .i64 (z).x2, .int .i64 (z).x3]) ∧ Blw w.heap.size w w' := by
 obtain ⟨ra0, ra1, ra2, ra3⟩ := monMay_of hma
 obtain ⟨rb0, rb1, rb2, rb3⟩ := monMay_of hmb
 have F0 := Hd.mk (fun W => mul_1 a.x0 b.x0 W (by omega) (by omega))
 have F1 := Hd.mk (fun W => mul_1 a.x1 b.x1 W (by omega) (by omega))
 have F2 := Hd.mk (fun W => mul_1 a.x2 b.x2 W (by omega) (by omega))
 have F3 := Hd.mk (fun W => mul_1 a.x3 b.x3 W (by omega) (by omega))
 have z0 : a.x0 + b.x0 = z.x0 := by rw [hz]
 have z1 : a.x1 + b.x1 = z.x1 := by rw [hz]
 have z2 : a.x2 + b.x2 = z.x2 := by rw [hz]
 have z3 : a.x3 + b.x3 = z.x3 := by rw [hz]
 rw [z0] at F0; rw [z1] at F1; rw [z2] at F2; rw [z3] at F3
 clear hz z0 z1 z2 z3 ra0 ra1 ra2 ra3 rb0 rb1 rb2 rb3 hma hmb
 go_enter Tryz.func162, Tryz.ntmps162
 go_upto_region 1 with (fail)
 refine wp_gen (fun W => ∃ g3, g3 = w.heap.size + 1 + 1 ∧ Bm2 w.heap.size w.heap.size (w.heap.size + 1) w W a b ∧ Bk W g3 66 #[.int .i64 (part z 0).x0, .int .i64 (part z 0).x1, .int .i64 (part z 0).x2, .int .i64 (part z 0).x3]) ⟨_, rfl, (Bm2.mk2 w a b).up ((Blw.refl _ _).alloc (Nat.le_refl _) _), by
  have := Bk.new_ ((w.alloc (Obj.cells #[.int .i64 a.x0, .int .i64 a.x1, .int .i64 a.x2, .int .i64 a.x3] 66)).alloc (Obj.cells #[.int .i64 b.x0, .int .i64 b.x1, .int .i64 b.x2, .int .i64 b.x3] 66)) 66 #[.int .i64 (part z 0).x0, .int .i64 (part z 0).x1, .int .i64 (part z 0).x2, .int .i64 (part z 0).x3]
  simpa [part] using this⟩ ?_
 rintro W ⟨⟨g3, hg3, BX, K3⟩⟩
 have n3 : w.heap.size ≤ g3 ∧ g3 ≠ w.heap.size ∧ g3 ≠ w.heap.size + 1 := by omega
 rw [← hg3]
 have BX := Hd.mk BX
 have K3 := Hd.mk K3
 clear hg3
 generalize w.heap.size + 1 = g2 at BX n3 ⊢
 obtain ⟨n3a, n3b, n3c⟩ := n3
 go_wp2_with fail
 go_loopw [8] (fun v8 wr => ∃ i : Nat, v8 = .int .i64 i ∧ i ≤ 4 ∧ Hd (Bm2 w.heap.size w.heap.size g2 w wr a b) ∧ Hd (Bk wr g3 66 #[.int .i64 (part z i).x0, .int .i64 (part z i).x1, .int .i64 (part z i).x2, .int .i64 (part z i).x3])) (fun v _ => 4 - (intOf v).toNat)
 case atStart => exact ⟨0, rfl, by omega, BX, K3⟩
 case round =>
  clear BX K3
  obtain ⟨i, rfl, hi, BX, K3⟩ := hrel
  obtain ⟨c0, c1, c2, c3⟩ := BX.out.k1.four
  obtain ⟨d0, d1, d2, d3⟩ := BX.out.k2.four
  rcases (show i = 0 ∨ i = 1 ∨ i = 2 ∨ i = 3 ∨ i = 4 by omega) with rfl | rfl | rfl | rfl | rfl
  ·have k3 : Bk wr g3 66 #[.int .i64 (part z 0).x0, .int .i64 (part z 0).x1, .int .i64 (part z 0).x2, .int .i64 (part z 0).x3] := K3.out
   obtain ⟨e0, e1, e2, e3⟩ := k3.four
   have fz := k3.froz 0
   clear k3
   go_wp2_with fail
   go_region_held3 (fun w' => Hd (Blw w.heap.size w w') ∧ w'.cell? ⟨w.heap.size, 0, none⟩ = some (.int .i64 a.x0) ∧ w'.cell? ⟨g2, 0, none⟩ = some (.int .i64 b.x0))
    (first
     | exact ⟨⟨BX.out.below⟩, c0, d0⟩
     | exact ⟨⟨(BX.out.dn 1).below⟩, c0, d0⟩
     | exact ⟨⟨(BX.out.dn 1).below.setCell n3a _⟩, (far1 rfl n3b).trans c0, (far1 rfl n3c).trans d0⟩)
    (first | (go_at_call 234; with_reducible refine (F0.out _).mono ?_; rintro e w4 ⟨rfl, rfl⟩))
   all_goals (
    go_wp2_with fail
    go_roundw
    case measure => first | (simp [intOf]; done) | (simp [intOf]; omega)
    case rel =>
     refine ⟨1, rfl, by omega, ⟨⟨(BX.out.dn 1).below.setCell n3a _, BX.out.s1, BX.out.s2, BX.out.n12, (BX.out.dn 1).k1.far n3b.symm _, (BX.out.dn 1).k2.far n3c.symm _⟩⟩, ⟨?_⟩⟩
     exact (show Bk wr.drew g3 66 #[.int .i64 (part z 0).x0, .int .i64 (part z 0).x1, .int .i64 (part z 0).x2, .int .i64 (part z 0).x3] from K3.out).set_ 0 (.int .i64 z.x0))
  ·have k3 : Bk wr g3 66 #[.int .i64 (part z 1).x0, .int .i64 (part z 1).x1, .int .i64 (part z 1).x2, .int .i64 (part z 1).x3] := K3.out
   obtain ⟨e0, e1, e2, e3⟩ := k3.four
   have fz := k3.froz 1
   clear k3
   go_wp2_with fail
   go_region_held3 (fun w' => Hd (Blw w.heap.size w w') ∧ w'.cell? ⟨w.heap.size, 1, none⟩ = some (.int .i64 a.x1) ∧ w'.cell? ⟨g2, 1, none⟩ = some (.int .i64 b.x1))
    (first
     | exact ⟨⟨BX.out.below⟩, c1, d1⟩
     | exact ⟨⟨(BX.out.dn 1).below⟩, c1, d1⟩
     | exact ⟨⟨(BX.out.dn 1).below.setCell n3a _⟩, (far1 rfl n3b).trans c1, (far1 rfl n3c).trans d1⟩)
    (first | (go_at_call 234; with_reducible refine (F1.out _).mono ?_; rintro e w4 ⟨rfl, rfl⟩))
   all_goals (
    go_wp2_with fail
    go_roundw
    case measure => first | (simp [intOf]; done) | (simp [intOf]; omega)
    case rel =>
     refine ⟨2, rfl, by omega, ⟨⟨(BX.out.dn 1).below.setCell n3a _, BX.out.s1, BX.out.s2, BX.out.n12, (BX.out.dn 1).k1.far n3b.symm _, (BX.out.dn 1).k2.far n3c.symm _⟩⟩, ⟨?_⟩⟩
     exact (show Bk wr.drew g3 66 #[.int .i64 (part z 1).x0, .int .i64 (part z 1).x1, .int .i64 (part z 1).x2, .int .i64 (part z 1).x3] from K3.out).set_ 1 (.int .i64 z.x1))
  ·have k3 : Bk wr g3 66 #[.int .i64 (part z 2).x0, .int .i64 (part z 2).x1, .int .i64 (part z 2).x2, .int .i64 (part z 2).x3] := K3.out
   obtain ⟨e0, e1, e2, e3⟩ := k3.four
   have fz := k3.froz 2
   clear k3
   go_wp2_with fail
   go_region_held3 (fun w' => Hd (Blw w.heap.size w w') ∧ w'.cell? ⟨w.heap.size, 2, none⟩ = some (.int .i64 a.x2) ∧ w'.cell? ⟨g2, 2, none⟩ = some (.int .i64 b.x2))
    (first
     | exact ⟨⟨BX.out.below⟩, c2, d2⟩
     | exact ⟨⟨(BX.out.dn 1).below⟩, c2, d2⟩
     | exact ⟨⟨(BX.out.dn 1).below.setCell n3a _⟩, (far1 rfl n3b).trans c2, (far1 rfl n3c).trans d2⟩)
    (first | (go_at_call 234; with_reducible refine (F2.out _).mono ?_; rintro e w4 ⟨rfl, rfl⟩))
   all_goals (
    go_wp2_with fail
    go_roundw
    case measure => first | (simp [intOf]; done) | (simp [intOf]; omega)
    case rel =>
     refine ⟨3, rfl, by omega, ⟨⟨(BX.out.dn 1).below.setCell n3a _, BX.out.s1, BX.out.s2, BX.out.n12, (BX.out.dn 1).k1.far n3b.symm _, (BX.out.dn 1).k2.far n3c.symm _⟩⟩, ⟨?_⟩⟩
     exact (show Bk wr.drew g3 66 #[.int .i64 (part z 2).x0, .int .i64 (part z 2).x1, .int .i64 (part z 2).x2, .int .i64 (part z 2).x3] from K3.out).set_ 2 (.int .i64 z.x2))
  ·have k3 : Bk wr g3 66 #[.int .i64 (part z 3).x0, .int .i64 (part z 3).x1, .int .i64 (part z 3).x2, .int .i64 (part z 3).x3] := K3.out
   obtain ⟨e0, e1, e2, e3⟩ := k3.four
   have fz := k3.froz 3
   clear k3
   go_wp2_with fail
   go_region_held3 (fun w' => Hd (Blw w.heap.size w w') ∧ w'.cell? ⟨w.heap.size, 3, none⟩ = some (.int .i64 a.x3) ∧ w'.cell? ⟨g2, 3, none⟩ = some (.int .i64 b.x3))
    (first
     | exact ⟨⟨BX.out.below⟩, c3, d3⟩
     | exact ⟨⟨(BX.out.dn 1).below⟩, c3, d3⟩
     | exact ⟨⟨(BX.out.dn 1).below.setCell n3a _⟩, (far1 rfl n3b).trans c3, (far1 rfl n3c).trans d3⟩)
    (first | (go_at_call 234; with_reducible refine (F3.out _).mono ?_; rintro e w4 ⟨rfl, rfl⟩))
   all_goals (
    go_wp2_with fail
    go_roundw
    case measure => first | (simp [intOf]; done) | (simp [intOf]; omega)
    case rel =>
     refine ⟨4, rfl, by omega, ⟨⟨(BX.out.dn 1).below.setCell n3a _, BX.out.s1, BX.out.s2, BX.out.n12, (BX.out.dn 1).k1.far n3b.symm _, (BX.out.dn 1).k2.far n3c.symm _⟩⟩, ⟨?_⟩⟩
     exact (show Bk wr.drew g3 66 #[.int .i64 (part z 3).x0, .int .i64 (part z 3).x1, .int .i64 (part z 3).x2, .int .i64 (part z 3).x3] from K3.out).set_ 3 (.int .i64 z.x3))
  ·have k3 : Bk wr g3 66 #[.int .i64 (z).x0, .int .i64 (z).x1, .int .i64 (z).x2, .int .i64 (z).x3] := K3.out
   obtain ⟨e0, e1, e2, e3⟩ := k3.four
   have fz := fun i => k3.froz i
   have K4 := Hd.mk k3
   clear k3 K3
   go_wp2_with fail
   refine bodyPost_ret (res_mono rfl _ _ g3 _ rfl (K4.out.set4 _ _ _ _) rfl) rfl ?_
   exact ⟨rfl, (((BX.out.below.setCell n3a _).setCell n3a _).setCell n3a _).setCell n3a _⟩
def zeroM : MonD := ⟨0, 0, 0, 0⟩
def addM (a b : MonD) : MonD := ⟨a.x0 + b.x0, a.x1 + b.x1, a.x2 + b.x2, a.x3 + b.x3⟩
def monMul (a b : MonD) : Int × MonD := if (monMay a && monMay b) = false then (1, zeroM) else if monMay (addM a b) = false then (80, zeroM) else (0, addM a b)
structure Bm3 (S g1 g2 g3 : Nat) (w0 w : World) (a b c : MonD) : Prop where
 bm : Bm2 S g1 g2 w0 w a b
 s3 : S ≤ g3
 n13 : g3 ≠ g1
 n23 : g3 ≠ g2
 k3 : Bk w g3 66 #[.int .i64 c.x0, .int .i64 c.x1, .int .i64 c.x2, .int .i64 c.x3]
section
variable {S g1 g2 g3 : Nat} {w0 w w' : World} {a b c : MonD}
theorem Bm3.up (h : Bm3 S g1 g2 g3 w0 w a b c) (hb : Blw w.heap.size w w') : Bm3 S g1 g2 g3 w0 w' a b c := ⟨h.bm.up hb, h.s3, h.n13, h.n23, h.k3.up hb.lo⟩
theorem Bm3.dn (h : Bm3 S g1 g2 g3 w0 w a b c) (n : Nat) : Bm3 S g1 g2 g3 w0 (w.drewN n) a b c := ⟨h.bm.dn n, h.s3, h.n13, h.n23, h.k3⟩
theorem Bm3.mk3 (w : World) (a b c : MonD) : Bm3 w.heap.size w.heap.size (w.heap.size + 1) (w.heap.size + 1 + 1) w (((w.alloc (Obj.cells #[.int .i64 a.x0, .int .i64 a.x1, .int .i64 a.x2, .int .i64 a.x3] 66)).alloc (Obj.cells #[.int .i64 b.x0, .int .i64 b.x1, .int .i64 b.x2, .int .i64 b.x3] 66)).alloc (Obj.cells #[.int .i64 c.x0, .int .i64 c.x1, .int .i64 c.x2, .int .i64 c.x3] 66)) a b c := by
 refine ⟨(Bm2.mk2 w a b).up ((Blw.refl _ _).alloc (Nat.le_refl _) _), by omega, by omega, by omega, ?_⟩
 have := Bk.new_ ((w.alloc (Obj.cells #[.int .i64 a.x0, .int .i64 a.x1, .int .i64 a.x2, .int .i64 a.x3] 66)).alloc (Obj.cells #[.int .i64 b.x0, .int .i64 b.x1, .int .i64 b.x2, .int .i64 b.x3] 66)) 66 #[.int .i64 c.x0, .int .i64 c.x1, .int .i64 c.x2, .int .i64 c.x3]
 simpa using this
theorem Bm3.done (h : Bm3 S g1 g2 g3 w0 w a b c) (x0 x1 x2 x3 : Value) : Bk ((((w.setCell ⟨g3, 0, none⟩ x0).setCell ⟨g3, 1, none⟩ x1).setCell ⟨g3, 2, none⟩ x2).setCell ⟨g3, 3, none⟩ x3) g3 66 #[x0, x1, x2, x3] ∧
    Blw S w0 ((((w.setCell ⟨g3, 0, none⟩ x0).setCell ⟨g3, 1, none⟩ x1).setCell ⟨g3, 2, none⟩ x2).setCell ⟨g3, 3, none⟩ x3) :=
 ⟨h.k3.set4 _ _ _ _, (((h.bm.below.setCell h.s3 _).setCell h.s3 _).setCell h.s3 _).setCell h.s3 _⟩
end
theorem mono_Mul (a b : MonD) (w : World) :
    Calls Tryz.prog 176 #[.agg #[.int .i64 a.x0, .int .i64 a.x1, .int .i64 a.x2, .int .i64 a.x3], .agg #[.int .i64 b.x0, .int .i64 b.x1, .int .i64 b.x2, .int .i64 b.x3]] w fun e w' =>
     e = .returned (.tuple #[.agg #[.int .i64 (monMul a b).2.x0, .int .i64 (monMul a b).2.x1, .int .i64 (monMul a b).2.x2, .int .i64 (monMul a b).2.x3], .int .i64 (monMul a b).1]) ∧ Blw w.heap.size w w' := by
 obtain ⟨E, hE⟩ : ∃ E, monMul a b = E := ⟨_, rfl⟩
 rw [hE]
 have HEQ := Hd.mk hE
 clear hE
 go_enter Tryz.func176, Tryz.ntmps176
 go_upto_region 1 with (fail)
 refine wp_gen (fun W => Bm3 w.heap.size w.heap.size (w.heap.size + 1) (w.heap.size + 1 + 1) w W a b zeroM) (Bm3.mk3 w a b zeroM) ?_
 intro W BX
 generalize w.heap.size + 1 + 1 = g3 at BX ⊢
 generalize w.heap.size + 1 = g2 at BX ⊢
 obtain ⟨c0, c1, c2, c3⟩ := BX.out.bm.k1.four
 have CA := Hd.mk (mono_May a W)
 cases hma : monMay a
 ·have HE : Hd (monMul a b = (1, zeroM)) := ⟨by unfold monMul; rw [hma]; rfl⟩
  rw [hma] at CA
  go_wp2_with fail
  refine CA.out.mono ?_
  rintro e w4 ⟨rfl, hb⟩
  have BX4 := Hd.mk (BX.out.up hb)
  obtain ⟨e0, e1, e2, e3⟩ := BX4.out.k3.four
  have fz := fun i => BX4.out.k3.froz i
  clear hb
  go_wp2_with fail
  obtain ⟨d1, d2⟩ := BX4.out.done (.int .i64 0) (.int .i64 0) (.int .i64 0) (.int .i64 0)
  refine bodyPost_ret (res_mono2 rfl _ _ g3 _ rfl d1 rfl) rfl ?_
  have h5 := HEQ.out.symm.trans HE.out
  subst h5
  exact ⟨rfl, d2⟩
 ·rw [hma] at CA
  go_wp2_with fail
  refine CA.out.mono ?_
  rintro e w4 ⟨rfl, hb⟩
  have BX4 := Hd.mk (BX.out.up hb)
  obtain ⟨p0, p1, p2, p3⟩ := BX4.out.bm.k2.four
  have CB := Hd.mk (mono_May b w4)
  clear hb c0 c1 c2 c3 BX CA
  cases hmb : monMay b
  ·have HE : Hd (monMul a b = (1, zeroM)) := ⟨by unfold monMul; rw [hmb]; simp⟩
   rw [hmb] at CB
   go_wp2_with fail
   refine CB.out.mono ?_
   rintro e w5 ⟨rfl, hb⟩
   have BX5 := Hd.mk (BX4.out.up hb)
   obtain ⟨e0, e1, e2, e3⟩ := BX5.out.k3.four
   have fz := fun i => BX5.out.k3.froz i
   clear hb
   go_wp2_with fail
   obtain ⟨d1, d2⟩ := BX5.out.done (.int .i64 0) (.int .i64 0) (.int .i64 0) (.int .i64 0)
   refine bodyPost_ret (res_mono2 rfl _ _ g3 _ rfl d1 rfl) rfl ?_
   have h5 := HEQ.out.symm.trans HE.out
   subst h5
   exact ⟨rfl, d2⟩
  ·rw [hmb] at CB
   have HE : Hd (monMul a b = if monMay (addM a b) = false then (80, zeroM) else (0, addM a b)) := ⟨by unfold monMul; rw [hma, hmb]; rfl⟩
   obtain ⟨z, hz⟩ : ∃ z, z = addM a b := ⟨_, rfl⟩
   rw [← hz] at HE
   have ZP := Hd.mk (fun W => zip_mul a b z hz W hma hmb)
   clear hma hmb hz
   go_wp2_with fail
   refine CB.out.mono ?_
   rintro e w5 ⟨rfl, hb⟩
   have BX5 := Hd.mk (BX4.out.up hb)
   obtain ⟨c0, c1, c2, c3⟩ := BX5.out.bm.k1.four
   obtain ⟨p0, p1, p2, p3⟩ := BX5.out.bm.k2.four
   clear hb CB
   go_wp2_with fail
   refine (ZP.out w5).mono ?_
   rintro e w6 ⟨rfl, hb⟩
   have BX6 := Hd.mk (BX5.out.up hb)
   clear hb ZP
   go_upto_region 4 with (fail)
   refine wp_gen (fun W => Bm3 w.heap.size w.heap.size g2 g3 w W a b zeroM ∧ Bk W w6.heap.size 66 #[.int .i64 z.x0, .int .i64 z.x1, .int .i64 z.x2, .int .i64 z.x3]) ⟨BX6.out.up ((Blw.refl _ _).alloc (Nat.le_refl _) _), Bk.new_ _ _ _⟩ ?_
   intro W7 BY
   generalize w6.heap.size = g4 at BY ⊢
   obtain ⟨q0, q1, q2, q3⟩ := BY.out.2.four
   have CM := Hd.mk (mono_May z W7)
   cases hmz : monMay z
   ·rw [hmz] at CM HE
    go_wp2_with fail
    refine CM.out.mono ?_
    rintro e w8 ⟨rfl, hb⟩
    have BX8 := Hd.mk (BY.out.1.up hb)
    obtain ⟨e0, e1, e2, e3⟩ := BX8.out.k3.four
    have fz := fun i => BX8.out.k3.froz i
    clear hb
    go_wp2_with fail
    obtain ⟨d1, d2⟩ := BX8.out.done (.int .i64 0) (.int .i64 0) (.int .i64 0) (.int .i64 0)
    refine bodyPost_ret (res_mono2 rfl _ _ g3 _ rfl d1 rfl) rfl ?_
    have h5 := HEQ.out.symm.trans HE.out
    simp only [if_pos] at h5
    subst h5
    exact ⟨rfl, d2⟩
   ·rw [hmz] at CM HE
    go_wp2_with fail
    refine CM.out.mono ?_
    rintro e w8 ⟨rfl, hb⟩
    have BX8 := Hd.mk (BY.out.1.up hb)
    have K8 := Hd.mk (BY.out.2.up hb.lo)
    obtain ⟨q0, q1, q2, q3⟩ := K8.out.four
    obtain ⟨e0, e1, e2, e3⟩ := BX8.out.k3.four
    have fz := fun i => BX8.out.k3.froz i
    clear hb
    go_wp2_with fail
    obtain ⟨d1, d2⟩ := BX8.out.done (.int .i64 z.x0) (.int .i64 z.x1) (.int .i64 z.x2) (.int .i64 z.x3)
    refine bodyPost_ret (res_mono2 rfl _ _ g3 _ rfl d1 rfl) rfl ?_
    have h5 := HEQ.out.symm.trans HE.out
    simp at h5
    subst h5
    exact ⟨rfl, d2⟩
end Go.Proofs.YtgjkgkgieeoalaaGreat
