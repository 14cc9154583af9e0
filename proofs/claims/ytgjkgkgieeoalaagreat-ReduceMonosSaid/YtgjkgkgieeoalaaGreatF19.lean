/- Parts of the proof, joined: each theorem says what it shows. -/
import Derived.Test.YtgjkgkgieeoalaaGreatF01
import Derived.Test.YtgjkgkgieeoalaaGreatF16
import Derived.Test.YtgjkgkgieeoalaaGreatF13
import Derived.Test.YtgjkgkgieeoalaaGreatF17
import Derived.Test.YtgjkgkgieeoalaaGreatF15
import Derived.Test.YtgjkgkgieeoalaaGreatF06
import Derived.Test.YtgjkgkgieeoalaaGreatF09
import Derived.ChangeKeysEq
set_option linter.unusedVariables false
set_option linter.unusedSimpArgs false
set_option maxHeartbeats 24000000
set_option maxRecDepth 100000
namespace Go.Proofs.YtgjkgkgieeoalaaGreat
open Go.RowKit
def sameR (r s : RatD) : Bool := (r.neg == s.neg) && decide (r.num = s.num) && decide (r.den = s.den)
theorem sameR_iff {r s : RatD} : sameR r s = true ↔ r = s := by
 unfold sameR
 simp only [Bool.and_eq_true, beq_iff_eq, decide_eq_true_eq]
 constructor
 ·rintro ⟨⟨h1, h2⟩, h3⟩
  cases r; cases s; simp_all
 ·rintro rfl; exact ⟨⟨rfl, rfl⟩, rfl⟩
theorem rrat_Same (b0 : Nat) (v u : Value) (r s : RatD) (w : World) (h : RRat w b0 v r) (h' : RRat w b0 u s) (hr : r.short) (hs : s.short) :
    Calls Tryz.prog 117 #[v, u] w fun e w' => e = .returned (.bool (sameR r s)) ∧ Below w.heap.size w w' := by
 obtain ⟨A, c, B, d, rfl, h1, h2, h3, h4⟩ := h
 obtain ⟨A', c', B', d', rfl, h1', h2', h3', h4'⟩ := h'
 obtain ⟨hr1, hr2⟩ := hr
 obtain ⟨hs1, hs2⟩ := hs
 have C1 := aa (fun W (hb : Hd (Below w.heap.size w W)) => rnat_Same A A' c c' r.num s.num W (h3.rd.up hb.out) h1 (h3'.rd.up hb.out) h1' (by omega) (by omega))
 have C2 := aa (fun W (hb : Hd (Below w.heap.size w W)) => rnat_Same B B' d d' r.den s.den W (h4.rd.up hb.out) h2 (h4'.rd.up hb.out) h2' (by omega) (by omega))
 have HE : Hd (sameR r s = ((r.neg == s.neg) && decide (r.num = s.num) && decide (r.den = s.den))) := ⟨rfl⟩
 obtain ⟨E, hE⟩ : ∃ E, sameR r s = E := ⟨_, rfl⟩
 rw [hE] at HE ⊢
 generalize decide (r.num = s.num) = b1 at C1 HE
 generalize decide (r.den = s.den) = b2 at C2 HE
 clear h3 h4 h3' h4' hE
 go_enter Tryz.func117, Tryz.ntmps117
 go_upto_region 1 with (fail)
 refine wp_gen (fun W => Bx2 w.heap.size w.heap.size (w.heap.size + 1) w W 64 #[.bool r.neg, .slice A r.num.length c, .slice B r.den.length d] (.bool s.neg) (.slice A' s.num.length c') (.slice B' s.den.length d')) (Bx2.mk2 w _ _ _ _ _) ?_
 intro W BX
 generalize w.heap.size + 1 = g2 at BX ⊢
 obtain ⟨p0, p1, p2⟩ := BX.out.k1.three
 obtain ⟨p3, p4, p5⟩ := BX.out.k2.three
 cases e0 : r.neg == s.neg
 ·have HF : Hd (E = false) := ⟨by rw [HE.out, e0]; rfl⟩
  go_wp2_with fail
  go_ret
  exact ⟨retBool HF.out.symm, BX.out.below⟩
 cases b1
 ·have HF : Hd (E = false) := ⟨by rw [HE.out, Bool.and_false]; rfl⟩
  go_wp2_with fail
  refine (C1.out _ ⟨BX.out.below⟩).mono ?_
  rintro e w2 ⟨rfl, hd⟩
  have BX2 := aa (BX.out.up hd.below)
  clear hd
  go_wp2_with fail
  go_ret
  exact ⟨retBool HF.out.symm, BX2.out.below⟩
 ·have HF : Hd (E = b2) := ⟨by rw [HE.out, e0]; cases b2 <;> rfl⟩
  go_wp2_with fail
  refine (C1.out _ ⟨BX.out.below⟩).mono ?_
  rintro e w2 ⟨rfl, hd⟩
  have BX2 := aa (BX.out.up hd.below)
  obtain ⟨p0, p1, p2⟩ := BX2.out.k1.three
  obtain ⟨p3, p4, p5⟩ := BX2.out.k2.three
  clear hd
  go_wp2_with fail
  refine (C2.out _ ⟨BX2.out.below⟩).mono ?_
  rintro e w3 ⟨rfl, hd⟩
  have BX3 := aa (BX2.out.up hd.below)
  clear hd
  go_wp2_with fail
  go_ret
  exact ⟨retBool HF.out.symm, BX3.out.below⟩
theorem rrat_Neg (b0 : Nat) (v : Value) (r : RatD) (w : World) (hb0 : b0 ≤ w.heap.size) (h : RRat w b0 v r) :
    Calls Tryz.prog 180 #[v] w fun e w' => ∃ x, e = .returned x ∧ RRat w' b0 x (negD r) ∧ Below w.heap.size w w' := by
 have Z1 := aa (fun W hW => rrat_Zero b0 v r W hW)
 have HR := aa h
 have HB0 := aa hb0
 obtain ⟨A, c, B, d, rfl, h1, h2, h3, h4⟩ := h
 have HRW := aa (af h3 h4)
 clear h3 h4 hb0
 go_enter Tryz.func180, Tryz.ntmps180
 go_upto_region 1 with (fail)
 refine wp_gen (fun W => Bx2 w.heap.size w.heap.size (w.heap.size + 1) w W 64 #[.bool r.neg, .slice A r.num.length c, .slice B r.den.length d] (.bool false) (.slice none 0 0) (.slice none 0 0)) (Bx2.mk2 w _ _ _ _ _) ?_
 intro W BX
 generalize w.heap.size + 1 = g2 at BX ⊢
 obtain ⟨p0, p1, p2⟩ := BX.out.k1.three
 have ZL := aa (Z1.out W (HR.out.up BX.out.below))
 by_cases hz : r.num.length = 0
 ·have HE : Hd (negD r = r) := ⟨by unfold negD; rw [if_pos hz]⟩
  rw [decide_eq_true hz] at ZL
  clear hz
  go_wp2_with fail
  refine ZL.out.mono ?_
  rintro e w2 ⟨rfl, hb⟩
  have BX2 := aa (BX.out.up hb)
  obtain ⟨p0, p1, p2⟩ := BX2.out.k1.three
  obtain ⟨p6, p7, p8⟩ := BX2.out.k2.three
  have fz := fun i => BX2.out.k2.froz i
  clear hb
  go_wp2_with fail
  obtain ⟨d1, d2, d3, _⟩ := BX2.out.done (.bool r.neg) (.slice A r.num.length c) (.slice B r.den.length d)
  refine bodyPost_ret (res_rat rfl _ _ g2 _ rfl d1 rfl) rfl ?_
  rw [HE.out]
  exact ⟨_, rfl, d3 b0 r _ HB0.out ⟨A, c, B, d, rfl, h1, h2, HRW.out.1.up BX2.out.below, HRW.out.2.up BX2.out.below⟩, d2⟩
 ·have HE : Hd (negD r = ⟨!r.neg, r.num, r.den⟩) := ⟨by unfold negD; rw [if_neg hz]⟩
  rw [decide_eq_false hz] at ZL
  clear hz
  go_wp2_with fail
  refine ZL.out.mono ?_
  rintro e w2 ⟨rfl, hb⟩
  have BX2 := aa (BX.out.up hb)
  obtain ⟨p0, p1, p2⟩ := BX2.out.k1.three
  obtain ⟨p6, p7, p8⟩ := BX2.out.k2.three
  have fz := fun i => BX2.out.k2.froz i
  clear hb
  go_wp2_with fail
  obtain ⟨d1, d2, d3, _⟩ := BX2.out.done (.bool (!r.neg)) (.slice A r.num.length c) (.slice B r.den.length d)
  refine bodyPost_ret (res_rat rfl _ _ g2 _ rfl d1 rfl) rfl ?_
  rw [HE.out]
  exact ⟨_, rfl, d3 b0 ⟨!r.neg, r.num, r.den⟩ _ HB0.out ⟨A, c, B, d, rfl, h1, h2, HRW.out.1.up BX2.out.below, HRW.out.2.up BX2.out.below⟩, d2⟩
theorem sal2 {w0 w : World} {g : Nat} {t : TypeId} {cs : Array Value} (h : Hd (Below w0.heap.size w0 w) ∧ Hd (Bk w g t cs)) (o : Obj) : Hd (Below w0.heap.size w0 (w.alloc o)) ∧ Hd (Bk (w.alloc o) g t cs) :=
 ⟨⟨h.1.out.alloc h.1.out.size o⟩, ⟨h.2.out.al o⟩⟩
theorem set3_lo {w0 w : World} {g : Nat} (h : Below w0.heap.size w0 w) (hg : w0.heap.size ≤ g) (x y z : Value) : Below w0.heap.size w0 (((w.setCell ⟨g, 0, none⟩ x).setCell ⟨g, 1, none⟩ y).setCell ⟨g, 2, none⟩ z) :=
 ((h.setCell hg _).setCell hg _).setCell hg _
theorem rrat_Of (b0 : Nat) (n : Int) (w : World) (hb0 : b0 ≤ w.heap.size) (h0 : -9223372036854775808 ≤ n) (h1 : n ≤ 9223372036854775807) :
    Calls Tryz.prog 46 #[.int .i64 n] w fun e w' => ∃ x, e = .returned x ∧ RRat w' b0 x (ofD n) ∧ Below w.heap.size w w' := by
 have HB0 := aa hb0
 clear hb0
 have C2 := aa (fun W => rnat_Of (n.natAbs : Nat) (by omega) (by omega) W)
 rw [Int.toNat_natCast] at C2
 have hcases : (decide (n < 0) = true ∧ IntKind.u64.wrap n = n + 18446744073709551616 ∧ IntKind.u64.wrap (-(n + 18446744073709551616)) = (n.natAbs : Nat) ∧ Hd (ofD n = ⟨true, limbs n.natAbs, [1]⟩)) ∨
     (decide (n < 0) = false ∧ IntKind.u64.wrap n = (n.natAbs : Nat) ∧ True ∧ Hd (ofD n = ⟨false, limbs n.natAbs, [1]⟩)) := by
  by_cases hn : n < 0
  ·exact .inl ⟨decide_eq_true hn, by rw [IntKind.wrap_u64]; omega, by rw [IntKind.wrap_u64]; omega, ⟨by unfold ofD; rw [decide_eq_true hn]⟩⟩
  ·exact .inr ⟨decide_eq_false hn, by rw [IntKind.wrap_u64]; omega, trivial, ⟨by unfold ofD; rw [decide_eq_false hn]⟩⟩
 rcases hcases with ⟨e1, e2, e3, HD⟩ | ⟨e1, e2, -, HD⟩
 all_goals
  go_enter Tryz.func46, Tryz.ntmps46
  go_upto_region 4 with (fail)
  refine wp_gen (fun W => Below w.heap.size w W ∧ Bk W w.heap.size 64 #[.bool false, .slice none 0 0, .slice none 0 0]) ⟨(ag _ _).alloc (ae _) _, Bk.new_ _ _ _⟩ ?_
  intro W hW
  go_wp2_with fail
  refine (C2.out W).mono ?_
  rintro e w5 ⟨x, rfl, ho, hb⟩
  obtain ⟨Ax, cx, rfl, hcx, _, _⟩ := ho.reads
  have hS := af (aa (hW.out.1.trans (hb.mono hW.out.1.size))) (aa (hW.out.2.up hb))
  have hSa := sal2 hS (Obj.cells #[.int .u64 1] 112)
  obtain ⟨p6a, p7a, p8a⟩ := hSa.2.out.three
  have fza := fun i => hSa.2.out.froz i
  have HX := aa ho
  clear ho hb
  go_wp2_with fail
  refine bodyPost_ret (res_rat rfl _ _ w.heap.size _ rfl (hSa.2.out.set3 _ _ _) rfl) rfl ?_
  rw [HD.out]
  have o1 := lit1_own w5 1 w5.heap.size (ae _)
  refine ⟨_, rfl, RRat.set3 ?r hSa.2.out HB0.out _ _ _, set3_lo hSa.1.out (ae _) _ _ _⟩
  case r => exact ⟨Ax, cx, _, 1, rfl, hcx, ae _, (RRow.of_own (HX.out.al _) (limbs_u64 _) b0).1, (RRow.of_own o1 (U64.nil.cons (by omega) (by omega)) b0).1⟩
theorem RTerm.rat {w : World} {b0 : Nat} {t : TermD} {B1 B2 : Option Addr} {c1 c2 : Nat} (h : RTerm w b0 (.agg #[.bool t.c.neg, .slice B1 t.c.num.length c1, .slice B2 t.c.den.length c2, .int .i64 t.m.x0, .int .i64 t.m.x1, .int .i64 t.m.x2, .int .i64 t.m.x3]) t) :
    RRat w b0 (.agg #[.bool t.c.neg, .slice B1 t.c.num.length c1, .slice B2 t.c.den.length c2]) t.c := by
 obtain ⟨x1, x2, x3, x4, e, y1, y2, y3, y4⟩ := h
 simp only [Value.agg.injEq, Array.mk.injEq, List.cons.injEq, Value.slice.injEq, true_and, and_true] at e
 obtain ⟨⟨rfl, rfl⟩, rfl, rfl⟩ := e
 exact ⟨_, _, _, _, rfl, y1, y2, y3, y4⟩
instance : DecidableEq RatD := fun r s => decidable_of_iff (sameR r s = true) sameR_iff
instance : DecidableEq TermD := fun s t => decidable_of_iff (s.c = t.c ∧ s.m = t.m) ⟨fun h => by cases s; cases t; simp at h; simp [h.1, h.2], fun h => by rw [h]; exact ⟨rfl, rfl⟩⟩
theorem Tryz.arM : Tryz.prog.underlying 66 = some (.array 4 3) := by kernel_rfl
theorem Tryz.undI : Tryz.prog.underlying 3 = some (.int .i64) := by kernel_rfl
theorem Tryz.infI : (Tryz.prog.info? 3).map (fun i => (i.zero, i.size, i.bytes)) = some (some (.int .i64 0), 1, 8) := by kernel_rfl
theorem Tryz.cellsI : Tryz.prog.cellsOf 3 = 1 := by kernel_rfl
theorem eq_mono (a b : MonD) (w : World) : (Op.equalIn 10000 66 (.agg a.v) (.agg b.v)).run Tryz.prog w = .ok (decide (a = b)) w := by
 obtain ⟨i, hi, hz, hs, hb⟩ := info_split Tryz.infI
 rw [run_equalIn_array (w := w) 9999 _ _ Tryz.arM hi]
 rw [Tryz.cellsI]
 have hp : Tryz.prog.plainKey 3 = true := by kernel_rfl
 have p : ∀ (m : MonD) (w : World), (Go.part 3 m.v (0 * 1)).run Tryz.prog w = .ok (.int .i64 m.x0) w ∧ (Go.part 3 m.v (1 * 1)).run Tryz.prog w = .ok (.int .i64 m.x1) w ∧
     (Go.part 3 m.v (2 * 1)).run Tryz.prog w = .ok (.int .i64 m.x2) w ∧ (Go.part 3 m.v (3 * 1)).run Tryz.prog w = .ok (.int .i64 m.x3) w := fun m w =>
  ⟨run_part_plain w hp rfl, run_part_plain w hp rfl, run_part_plain w hp rfl, run_part_plain w hp rfl⟩
 have q : ∀ (x y : Int) (w : World), (Op.equalIn 9999 3 (.int .i64 x) (.int .i64 y)).run Tryz.prog w = .ok (x == y) w := fun x y w => run_equalIn_int w 9998 3 .i64 .i64 x y Tryz.undI
 have hd : decide (a = b) = ((a.x0 == b.x0) && (a.x1 == b.x1) && (a.x2 == b.x2) && (a.x3 == b.x3)) := by
  rw [Bool.eq_iff_iff]
  simp only [decide_eq_true_eq, Bool.and_eq_true, beq_iff_eq]
  constructor
  ·rintro rfl; exact ⟨⟨⟨rfl, rfl⟩, rfl⟩, rfl⟩
  ·rintro ⟨⟨⟨h0, h1⟩, h2⟩, h3⟩; cases a; cases b; simp_all
 rw [hd]
 simp only [show List.range 4 = [0, 1, 2, 3] from rfl, Op.eqItems, Sem.run_bind, (p a _).1, (p b _).1, Result.andThen_ok, q]
 cases a.x0 == b.x0
 ·simp
 simp only [Bool.not_true, Bool.false_eq_true, if_false, Sem.run_bind, (p a _).2.1, (p b _).2.1, Result.andThen_ok, q, Bool.true_and]
 cases a.x1 == b.x1
 ·simp
 simp only [Bool.not_true, Bool.false_eq_true, if_false, Sem.run_bind, (p a _).2.2.1, (p b _).2.2.1, Result.andThen_ok, q, Bool.true_and]
 cases a.x2 == b.x2
 ·simp
 simp only [Bool.not_true, Bool.false_eq_true, if_false, Sem.run_bind, (p a _).2.2.2, (p b _).2.2.2, Result.andThen_ok, q, Bool.true_and]
 cases a.x3 == b.x3 <;> simp
theorem rpol_ordered (o : Int) (w : World) : Calls Tryz.prog 82 #[.int .i64 o] w fun e w' => e = .returned (.bool (ordered o)) ∧ w = w' := by
 by_cases h1 : 0 ≤ o
 ·have e1 : decide (0 ≤ o) = true := decide_eq_true h1
  have HE : Hd (ordered o = decide (o ≤ 2)) := ⟨by unfold ordered; rw [e1]; rfl⟩
  go_enter Tryz.func82, Tryz.ntmps82
  go_wp2_with fail
  go_ret
  exact ⟨retBool HE.out.symm, rfl⟩
 ·have e1 : decide (0 ≤ o) = false := decide_eq_false h1
  have HE : Hd (ordered o = false) := ⟨by unfold ordered; rw [e1]; rfl⟩
  go_enter Tryz.func82, Tryz.ntmps82
  go_wp2_with fail
  go_ret
  exact ⟨retBool HE.out.symm, rfl⟩
theorem rpol_Same (b0 : Nat) (A B : Option Addr) (c d : Nat) (ps qs : List TermD) (w : World) (h : RPol w b0 A ps) (hc : ps.length ≤ c) (hs : shortP ps) (h' : RPol w b0 B qs) (hc' : qs.length ≤ d) (hs' : shortP qs) :
    Calls Tryz.prog 80 #[.slice A ps.length c, .slice B qs.length d] w fun e w' => e = .returned (.bool (decide (ps = qs))) ∧ Below w.heap.size w w' := by
 have hl := hs.1
 have hl' := hs'.1
 have HP := aa h
 have HS := aa hs
 have HP' := aa h'
 have HS' := aa hs'
 clear h hs h' hs'
 by_cases hlen : ps.length = qs.length
 ·have e1 : ((ps.length : Int) != (qs.length : Int)) = false := by rw [bne_eq_false_iff_eq]; omega
  have HL := aa hlen
  clear hlen
  go_enter Tryz.func80, Tryz.ntmps80
  go_wp2_with fail
  go_loopw [5] (fun v wr => ∃ i : Nat, v = .int .i64 i ∧ i ≤ ps.length ∧ Hd (Below w.heap.size w wr) ∧ Hd (ps.take i = qs.take i)) (fun v _ => ps.length - (intOf v).toNat)
  case atStart => exact ⟨0, rfl, by omega, ⟨.refl _ _⟩, ⟨rfl⟩⟩
  case round =>
   obtain ⟨i, rfl, hi, hb, ha⟩ := hrel
   by_cases hlt : i < ps.length
   ·have hlt2 : i < qs.length := by have := HL.out; omega
    have i1 : (i : Int) < ps.length := by omega
    have i2 : (i : Int) < qs.length := by omega
    have i3 : (0 : Int) ≤ i := by omega
    obtain ⟨ad, B1, c1, B2, c2, t, rfl, hab, ht, hrt, q0, q1, q2, q3, q4, q5, q6⟩ := (HP.out.up hb.out).get hlt
    obtain ⟨ad', B1', c1', B2', c2', t', rfl, hab', ht', hrt', r0, r1, r2, r3, r4, r5, r6⟩ := (HP'.out.up hb.out).get hlt2
    have hst := (HS.out.2 t (List.mem_of_getElem? ht.out))
    have hst' := (HS'.out.2 t' (List.mem_of_getElem? ht'.out))
    have CS := aa (fun W (hB : Hd (Below wr.heap.size wr W)) => rrat_Same b0 _ _ t.c t'.c W (hrt.out.rat.up hB.out) (hrt'.out.rat.up hB.out) hst hst')
    have HD : Hd (decide (t = t') = (sameR t.c t'.c && decide (t.m = t'.m))) := ⟨by
     rw [Bool.eq_iff_iff]
     simp only [decide_eq_true_eq, Bool.and_eq_true, sameR_iff]
     exact ⟨fun h => by rw [h]; exact ⟨rfl, rfl⟩, fun h => by cases t; cases t'; simp at h; simp [h.1, h.2]⟩⟩
    have HG : Hd (ps[i] = t ∧ qs[i] = t') := ⟨by
     have e1 := ht.out; have e2 := ht'.out
     rw [ai hlt] at e1; rw [ai hlt2] at e2
     exact ⟨Option.some.inj e1, Option.some.inj e2⟩⟩
    have HNE : Hd (t ≠ t' → decide (ps = qs) = false) := ⟨fun hne => decide_eq_false fun e => hne (by rw [← HG.out.1, ← HG.out.2]; subst e; rfl)⟩
    have HEQ : Hd (t = t' → ps.take (i + 1) = qs.take (i + 1)) := ⟨fun e => by
     rw [List.take_succ_eq_append_getElem hlt, List.take_succ_eq_append_getElem hlt2, ha.out, HG.out.1, HG.out.2, e]⟩
    have eqm := fun W => eq_mono t.m t'.m W
    obtain ⟨mb, hmb⟩ : ∃ mb, decide (t.m = t'.m) = mb := ⟨_, rfl⟩
    rw [hmb] at HD
    simp only [hmb] at eqm
    clear hst hst' hrt hrt' hmb ht ht' HG
    obtain ⟨c0, c1, c2, c3, c4, c5, c6⟩ := Wd.at7 q0 q1 q2 q3 q4 q5 q6
    obtain ⟨d0, d1, d2, d3, d4, d5, d6⟩ := Wd.at7 r0 r1 r2 r3 r4 r5 r6
    clear q0 q1 q2 q3 q4 q5 q6 r0 r1 r2 r3 r4 r5 r6
    obtain ⟨sb, hsb⟩ : ∃ sb, sameR t.c t'.c = sb := ⟨_, rfl⟩
    rw [hsb] at CS HD
    clear hsb
    have HF : Hd (decide (t = t') = (sb && mb)) := HD
    by_cases hf : (sb && mb) = false
    ·have HX := aa (HNE.out (fun e => by have := HF.out; rw [decide_eq_true e, hf] at this; cases this))
     have HT : Hd (mb = false ∨ (mb = true ∧ sb = false)) := ⟨by cases mb <;> cases sb <;> simp_all⟩
     clear hf
     rcases HT.out with rfl | ⟨rfl, rfl⟩
     all_goals
      go_wp2_with fail
      refine wp_region_wd wr (by kernel_rfl) (by kernel_rfl) (ag _ _).drew ?_
      repeat (go_big_quiet_step ((go_at_call 117; exact Wd.call (CS.out _ ⟨Wd.lo _⟩))))
      refine wd_nil fun nq => ?_
      go_wp2_with fail
      go_ret
      exact ⟨retBool HX.out.symm, goes hb.out nq.lo⟩
    ·have HX := aa (HEQ.out (of_decide_eq_true (by rw [HF.out]; simpa using hf)))
     obtain ⟨rfl, rfl⟩ : sb = true ∧ mb = true := by simpa using hf
     clear hf
     go_wp2_with fail
     refine wp_region_wd wr (by kernel_rfl) (by kernel_rfl) (ag _ _).drew ?_
     repeat (go_big_quiet_step ((go_at_call 117; exact Wd.call (CS.out _ ⟨Wd.lo _⟩))))
     refine wd_nil fun nq => ?_
     go_wp2_with fail
     go_roundw
     case measure => first | (simp [intOf]; done) | (simp [intOf]; omega)
     case rel => exact ⟨i + 1, by go_num, by omega, ⟨goes hb.out nq.lo⟩, HX⟩
   ·obtain rfl : i = ps.length := by omega
    have HF : Hd (ps = qs) := ⟨by have := ha.out; rwa [List.take_length, HL.out, List.take_length] at this⟩
    go_wp2_with fail
    go_ret
    exact ⟨retBool (decide_eq_true HF.out).symm, hb.out⟩
 ·have e1 : ((ps.length : Int) != (qs.length : Int)) = true := by rw [bne_iff_ne]; omega
  have HL := aa hlen
  clear hlen
  go_enter Tryz.func80, Tryz.ntmps80
  go_wp2_with fail
  go_ret
  exact ⟨retBool (decide_eq_false (fun e => HL.out (by rw [e]))).symm, .refl _ _⟩
theorem okAt_of {order : Int} {ts : List TermD} {i : Nat} {t : TermD} (h : ts[i]? = some t) : okAt order ts i = (ratMay t.c && monMay t.m && !decide (t.c.num.length = 0) && (decide (i = 0) || decide (0 < monCmp order (ts.getD (i - 1) tz).m t.m))) := by
 unfold okAt
 rw [show ts.getD i tz = t by rw [List.getD_eq_getElem?_getD, h]; rfl]
 rfl
theorem ratio_Same (b0 : Nat) (v u : Value) (r s : RatD) (w : World) (h : RRat w b0 v r) (h' : RRat w b0 u s) (hr : r.short) (hs : s.short) :
    Calls Tryz.prog 122 #[v, u] w fun e w' => e = .returned (.bool (sameR r s)) ∧ Below w.heap.size w w' := by
 obtain ⟨A, c, B, d, rfl, h1, h2, h3, h4⟩ := h
 obtain ⟨A', c', B', d', rfl, h1', h2', h3', h4'⟩ := h'
 obtain ⟨hr1, hr2⟩ := hr
 obtain ⟨hs1, hs2⟩ := hs
 have C1 := aa (fun W (hb : Hd (Below w.heap.size w W)) => slices_Equal A A' c c' r.num s.num W (h3.rd.up hb.out) h1 (h3'.rd.up hb.out) h1' (by omega) (by omega))
 have C2 := aa (fun W (hb : Hd (Below w.heap.size w W)) => slices_Equal B B' d d' r.den s.den W (h4.rd.up hb.out) h2 (h4'.rd.up hb.out) h2' (by omega) (by omega))
 have HE : Hd (sameR r s = ((r.neg == s.neg) && decide (r.num = s.num) && decide (r.den = s.den))) := ⟨rfl⟩
 obtain ⟨E, hE⟩ : ∃ E, sameR r s = E := ⟨_, rfl⟩
 rw [hE] at HE ⊢
 generalize decide (r.num = s.num) = b1 at C1 HE
 generalize decide (r.den = s.den) = b2 at C2 HE
 clear h3 h4 h3' h4' hE
 go_enter Tryz.func122, Tryz.ntmps122
 go_upto_region 1 with (fail)
 refine wp_gen (fun W => Bx2 w.heap.size w.heap.size (w.heap.size + 1) w W 64 #[.bool r.neg, .slice A r.num.length c, .slice B r.den.length d] (.bool s.neg) (.slice A' s.num.length c') (.slice B' s.den.length d')) (Bx2.mk2 w _ _ _ _ _) ?_
 intro W BX
 generalize w.heap.size + 1 = g2 at BX ⊢
 obtain ⟨p0, p1, p2⟩ := BX.out.k1.three
 obtain ⟨p3, p4, p5⟩ := BX.out.k2.three
 cases e0 : r.neg == s.neg
 ·have HF : Hd (E = false) := ⟨by rw [HE.out, e0]; rfl⟩
  go_wp2_with fail
  go_ret
  exact ⟨retBool HF.out.symm, BX.out.below⟩
 cases b1
 ·have HF : Hd (E = false) := ⟨by rw [HE.out, Bool.and_false]; rfl⟩
  go_wp2_with fail
  refine (C1.out _ ⟨BX.out.below⟩).mono ?_
  rintro e w2 ⟨rfl, hd⟩
  have BX2 := aa (BX.out.up hd.below)
  clear hd
  go_wp2_with fail
  go_ret
  exact ⟨retBool HF.out.symm, BX2.out.below⟩
 ·have HF : Hd (E = b2) := ⟨by rw [HE.out, e0]; cases b2 <;> rfl⟩
  go_wp2_with fail
  refine (C1.out _ ⟨BX.out.below⟩).mono ?_
  rintro e w2 ⟨rfl, hd⟩
  have BX2 := aa (BX.out.up hd.below)
  obtain ⟨p0, p1, p2⟩ := BX2.out.k1.three
  obtain ⟨p3, p4, p5⟩ := BX2.out.k2.three
  clear hd
  go_wp2_with fail
  refine (C2.out _ ⟨BX2.out.below⟩).mono ?_
  rintro e w3 ⟨rfl, hd⟩
  have BX3 := aa (BX2.out.up hd.below)
  clear hd
  go_wp2_with fail
  go_ret
  exact ⟨retBool HF.out.symm, BX3.out.below⟩
end Go.Proofs.YtgjkgkgieeoalaaGreat
