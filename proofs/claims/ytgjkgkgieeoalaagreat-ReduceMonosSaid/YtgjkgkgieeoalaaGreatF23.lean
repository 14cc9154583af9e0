/- Parts of the proof, joined: each theorem says what it shows. -/
import Derived.Test.YtgjkgkgieeoalaaGreatF01
import Derived.Test.YtgjkgkgieeoalaaGreatF20
import Derived.Test.YtgjkgkgieeoalaaGreatF18
import Derived.Test.YtgjkgkgieeoalaaGreatF12
set_option linter.unusedVariables false
set_option linter.unusedSimpArgs false
set_option maxHeartbeats 24000000
set_option maxRecDepth 100000
namespace Go.Proofs.YtgjkgkgieeoalaaGreat
open Go.RowKit
theorem timesL_cons {t s : TermD} {r : List TermD} : timesL t (s :: r) = if (mulD s.c t.c).1 ≠ 0 then ((mulD s.c t.c).1, []) else if (monMul s.m t.m).1 ≠ 0 then ((monMul s.m t.m).1, [])
    else if (timesL t r).1 ≠ 0 then ((timesL t r).1, []) else (0, ⟨(mulD s.c t.c).2, (monMul s.m t.m).2⟩ :: (timesL t r).2) := rfl
theorem below_set4 {w0 w : World} {g : Nat} (h : Below w0.heap.size w0 w) (hg : w0.heap.size ≤ g) (x y z u : Value) : Below w0.heap.size w0 ((((w.setCell ⟨g, 0, none⟩ x).setCell ⟨g, 1, none⟩ y).setCell ⟨g, 2, none⟩ z).setCell ⟨g, 3, none⟩ u) :=
 (((h.setCell hg _).setCell hg _).setCell hg _).setCell hg _
theorem polMay_at {o : Int} {p : List TermD} (h : polMay o p = true) {i : Nat} {t : TermD} (hi : p[i]? = some t) : right t = true ∧ t.c.num.length ≠ 0 := by
 unfold polMay at h
 rw [Bool.and_eq_true, List.all_eq_true] at h
 have hlt : i < p.length := by
  rcases Nat.lt_or_ge i p.length with h1 | h1
  ·exact h1
  ·rw [List.getElem?_eq_none h1] at hi; cases hi
 have h2 := h.1 i (List.mem_range.2 hlt)
 rw [okAt_of hi] at h2
 simp only [Bool.and_eq_true, Bool.not_eq_true', decide_eq_false_iff_not] at h2
 exact ⟨by unfold right; rw [h2.1.1.1, h2.1.1.2]; rfl, h2.1.2⟩
theorem polMay_inv {o : Int} {t : TermD} {r : List TermD} (h : polMay o (t :: r) = true) : (invD t.c).1 = 0 := by
 obtain ⟨h1, h2⟩ := polMay_at h (i := 0) rfl
 unfold right at h1
 rw [Bool.and_eq_true] at h1
 unfold invD
 rw [h1.1, if_neg (by simp), if_neg h2]
theorem head_is {b : List TermD} {u : TermD} (h : b[0]? = some u) : ∃ b', b = u :: b' := by
 cases b with
 | nil => cases h
 | cons x r => cases h; exact ⟨r, rfl⟩
theorem add_none (p : Addr) : p.add 0 = p := by unfold Addr.add; simp
def raiseD (o : Int) (m : MonD) (p : List TermD) (s : Int) : Int × List TermD :=
 match p with
 | [] => (1, [])
 | t :: _ => if (invD t.c).1 ≠ 0 then ((invD t.c).1, []) else if (mulD (invD t.c).2 (ofD s)).1 ≠ 0 then ((mulD (invD t.c).2 (ofD s)).1, [])
   else polTimes o p ⟨(mulD (invD t.c).2 (ofD s)).2, (monDiv m t.m).2⟩
theorem cross_1 (b0 : Nat) (order : Int) (A : Option Addr) (c : Nat) (ps : List TermD) (gm go : Nat) (m : MonD) (s : Int) (w : World) (hb0 : b0 ≤ w.heap.size) (h : RPol w b0 A ps) (hc : ps.length ≤ c) (hs : shortP ps) (hN0 : 0 < ps.length)
    (h1 : -9223372036854775808 ≤ s) (h2 : s ≤ 9223372036854775807)
    (hm : Bk w gm 66 #[.int .i64 m.x0, .int .i64 m.x1, .int .i64 m.x2, .int .i64 m.x3]) (ho : w.cell? ⟨go, 0, none⟩ = some (.int .i64 order)) :
    Calls Tryz.prog 93 #[.slice A ps.length c, .int .i64 s, .pointer (some ⟨gm, 0, none⟩), .pointer (some ⟨go, 0, none⟩)] w fun e w' => ∃ A' c', e = .returned (.tuple #[.slice A' (raiseD order m ps s).2.length c', .int .i64 (raiseD order m ps s).1]) ∧
     (raiseD order m ps s).2.length ≤ c' ∧ RPol w' b0 A' (raiseD order m ps s).2 ∧ Below w.heap.size w w' := by
 obtain ⟨ad, B1, c1, B2, c2, t, rfl, hab, hti, hrt, q0, q1, q2, q3, q4, q5, q6⟩ := h.get hN0
 have HE : Hd (raiseD order m ps s = if (invD t.c).1 ≠ 0 then ((invD t.c).1, []) else if (mulD (invD t.c).2 (ofD s)).1 ≠ 0 then ((mulD (invD t.c).2 (ofD s)).1, []) else polTimes order ps ⟨(mulD (invD t.c).2 (ofD s)).2, (monDiv m t.m).2⟩) := ⟨by
  obtain ⟨r, hr⟩ := head_is hti.out
  subst hr
  rfl⟩
 have HP := aa h
 have HS := aa hs
 have HB0 := aa hb0
 have hl := hs.1
 have HTS := aa (hs.2 t (List.mem_of_getElem? hti.out))
 have HT := aa hrt.out.rat
 have HAB := aa hab
 rw [Nat.zero_mul, add_none] at q0 q1 q2 q3 q4 q5 q6
 have HQ := aa (af q0 (af q1 q2))
 have z2 : (0 : Int) < ps.length := by omega
 obtain ⟨⟨mb, mm⟩, hM⟩ : ∃ X, monDiv m t.m = X := ⟨_, rfl⟩
 have CD := aa (mono_Div m t.m)
 rw [hM] at CD HE
 dsimp only at CD HE
 have HO := aa ho
 obtain ⟨m0, m1, m2, m3⟩ := hm.four
 have SO := aa (fun W (hB : Below w.heap.size w W) => af (aa hB) (af (cell_up m0 hB) (af (cell_up m1 hB) (af (cell_up m2 hB) (af (cell_up m3 hB) (af (cell_up q3 hB) (af (cell_up q4 hB) (af (cell_up q5 hB) (cell_up q6 hB)))))))))
 clear h hs hb0 hti hrt hab hM ho hm q0 q1 q2
 go_enter Tryz.func93, Tryz.ntmps93
 go_wp2_with fail
 go_cut [8] (fun v8 wx => ∃ g8, v8 = .pointer (some ⟨g8, 0, none⟩) ∧ w.heap.size ≤ g8 ∧ Hd (Bk wx g8 66 #[.int .i64 mm.x0, .int .i64 mm.x1, .int .i64 mm.x2, .int .i64 mm.x3]) ∧ Hd (Below w.heap.size w wx))
 case first =>
  go_region_held3 (fun W => Hd (Below w.heap.size w W) ∧ W.cell? ⟨gm, 0, none⟩ = some (.int .i64 m.x0) ∧ W.cell? ⟨gm, 1, none⟩ = some (.int .i64 m.x1) ∧ W.cell? ⟨gm, 2, none⟩ = some (.int .i64 m.x2) ∧ W.cell? ⟨gm, 3, none⟩ = some (.int .i64 m.x3) ∧
      W.cell? ⟨ad.block, ad.off + 3, none⟩ = some (.int .i64 t.m.x0) ∧ W.cell? ⟨ad.block, ad.off + 3 + 1, none⟩ = some (.int .i64 t.m.x1) ∧ W.cell? ⟨ad.block, ad.off + 3 + 2, none⟩ = some (.int .i64 t.m.x2) ∧ W.cell? ⟨ad.block, ad.off + 3 + 3, none⟩ = some (.int .i64 t.m.x3))
   (first
    | with_reducible exact SO.out _ (.refl _ _)
    | with_reducible exact SO.out _ (ag _ _).drew
    | with_reducible exact SO.out _ ((ag _ _).drew.alloc (ae _) _)
    | with_reducible exact SO.out _ ((ag _ _).alloc (ae _) _).drew
    | with_reducible exact SO.out _ hB5
    | with_reducible exact SO.out _ (hB5.alloc hB5.size _)
    | with_reducible exact SO.out _ (below_set4 hB5 (ae _) _ _ _ _)
    | with_reducible exact SO.out _ (below_set4 (hB5.alloc hB5.size _) hB5.size _ _ _ _)
    | fail)
   (first
    | (go_at_call 94; have hB := ‹Hd (Below w.heap.size w _) ∧ _›.1; with_reducible refine (CD.out ((w.alloc (Obj.cells #[.int .i64 0, .int .i64 0, .int .i64 0, .int .i64 0] 66)).drew)).mono ?_; rintro e w8 ⟨rfl, hb⟩
       have hB5 := hB.out.trans (hb.lo.mono hB.out.size)
       have hk := aa ((Bk.new_ w 66 #[.int .i64 0, .int .i64 0, .int .i64 0, .int .i64 0]).d1.up hb.lo)
       obtain ⟨p6, p7, p8, p9⟩ := hk.out.four
       have fz := fun i => hk.out.froz i)
    | (go_at_call 94; have hB := ‹Hd (Below w.heap.size w _) ∧ _›.1; with_reducible refine (CD.out _).mono ?_; rintro e w8 ⟨rfl, hb⟩
       have hB5 := hB.out.trans (hb.lo.mono hB.out.size)))
  all_goals
   go_wp2_with fail
   go_meet
   first
   | exact ⟨_, rfl, ae _, ⟨hk.out.set4 (.int .i64 mm.x0) (.int .i64 mm.x1) (.int .i64 mm.x2) (.int .i64 mm.x3)⟩, ⟨below_set4 hB5 (ae _) (.int .i64 mm.x0) (.int .i64 mm.x1) (.int .i64 mm.x2) (.int .i64 mm.x3)⟩⟩
   | exact ⟨_, rfl, hB5.size, ⟨Bk.new_ w8 66 #[.int .i64 mm.x0, .int .i64 mm.x1, .int .i64 mm.x2, .int .i64 mm.x3]⟩, ⟨hB5.alloc hB5.size (Obj.cells #[.int .i64 mm.x0, .int .i64 mm.x1, .int .i64 mm.x2, .int .i64 mm.x3] 66)⟩⟩
 case rest =>
  obtain ⟨g8, rfl, N8, K8, HB8⟩ := hcut
  have c0 := cell_up HQ.out.1 HB8.out
  have c1' := cell_up HQ.out.2.1 HB8.out
  have c2' := cell_up HQ.out.2.2 HB8.out
  obtain ⟨I, hI⟩ : ∃ I, invD t.c = I := ⟨_, rfl⟩
  have CI := aa (ratio_Inv b0 _ t.c wc (ah HB0.out HB8.out.size) (HT.out.up HB8.out) HTS.out)
  have HI := aa (invD_short HTS.out)
  have HE2 := HE
  rw [hI] at CI HI HE2
  clear hI q3 q4 q5 q6 m0 m1 m2 m3 SO CD
  go_wp2_with fail
  refine CI.out.mono ?_
  rintro e w9 ⟨x, rfl, hx, hb9⟩
  have HB9 := aa (goes HB8.out hb9)
  have HX := aa hx
  have K9 := aa (K8.out.up hb9)
  obtain ⟨xA, xc, xB, xd, rfl, hxc, hxd, _, _⟩ := hx
  clear hb9 CI K8 c0 c1' c2'
  by_cases h0 : I.1 = 0
  case neg =>
   have e1 : (I.1 == 0) = false := by rw [beq_eq_false_iff_ne]; exact h0
   have e2 : (I.1 != 0) = true := by rw [bne_iff_ne]; exact h0
   have HF : Hd (raiseD order m ps s = (I.1, [])) := ⟨by rw [HE2.out, if_pos h0]⟩
   clear h0
   go_wp2_with fail
   go_ret2
   rw [HF.out]
   exact ⟨none, 0, rfl, ae _, RPol.nil _ _ _, HB9.out.alloc HB9.out.size _⟩
  have e1 : (I.1 == 0) = true := by rw [beq_iff_eq]; exact h0
  have HF : Hd (raiseD order m ps s = if (mulD I.2 (ofD s)).1 ≠ 0 then ((mulD I.2 (ofD s)).1, []) else polTimes order ps ⟨(mulD I.2 (ofD s)).2, mm⟩) := ⟨by rw [HE2.out, if_neg (by rw [h0]; simp)]⟩
  obtain ⟨M, hM⟩ : ∃ M, mulD I.2 (ofD s) = M := ⟨_, rfl⟩
  rw [hM] at HF
  have HM := aa hM
  have HMS : Hd M.2.short := ⟨by rw [← hM]; exact mulD_short _ _⟩
  clear hM h0
  go_upto_region 4 with (fail)
  refine wp_gen (fun W => Bk W _ 64 #[.bool I.2.neg, .slice xA I.2.num.length xc, .slice xB I.2.den.length xd] ∧ Bk W g8 66 #[.int .i64 mm.x0, .int .i64 mm.x1, .int .i64 mm.x2, .int .i64 mm.x3] ∧ RRat W b0 (.agg #[.bool I.2.neg, .slice xA I.2.num.length xc, .slice xB I.2.den.length xd]) I.2 ∧ Below w.heap.size w W)
   ⟨Bk.new_ w9 64 #[.bool I.2.neg, .slice xA I.2.num.length xc, .slice xB I.2.den.length xd], K9.out.al _, HX.out.up ((ag _ _).alloc (ae _) _), HB9.out.alloc HB9.out.size _⟩ ?_
  have N10 := HB9.out.size
  generalize w9.heap.size = g10 at N10 ⊢
  intro W10 H10
  have HB10 := aa H10.out.2.2.2
  have HX10 := aa H10.out.2.2.1
  have K10 := aa H10.out.1
  have K8 := aa H10.out.2.1
  clear K9 HX HB9 H10 HB8
  have HW10 := aa (ah HB0.out HB10.out.size)
  have CO := aa (fun W (hW : b0 ≤ W.heap.size) => ratio_Of b0 s W hW h1 h2)
  have CM := aa (fun v u W hW hv hu => ratio_Mul b0 v u I.2 (ofD s) W hW hv hu HI.out (ofD_short s (by omega)))
  rw [HM.out] at CM
  obtain ⟨S, hS⟩ : ∃ S, ofD s = S := ⟨_, rfl⟩
  rw [hS] at CM CO
  have HSS := aa hS
  clear hS HM
  obtain ⟨r0, r1, r2⟩ := K10.out.three
  have N10 := aa N10
  have N8 := aa N8
  go_wp2_with fail
  go_cut [10, 11] (fun v10 v11 wx => v10 = .pointer (some ⟨g10, 0, none⟩) ∧ v11 = .int .i64 M.1 ∧ Hd (Below w.heap.size w wx) ∧ Hd (Bk wx g8 66 #[.int .i64 mm.x0, .int .i64 mm.x1, .int .i64 mm.x2, .int .i64 mm.x3]) ∧
      ∃ zA zc zB zd, Hd (Bk wx g10 64 #[.bool M.2.neg, .slice zA M.2.num.length zc, .slice zB M.2.den.length zd]) ∧ Hd (RRat wx b0 (.agg #[.bool M.2.neg, .slice zA M.2.num.length zc, .slice zB M.2.den.length zd]) M.2))
  case first =>
   go_region_with (first
    | (go_at_call 97; with_reducible refine (CO.out _ (ah HB0.out HB10.out.drew.size)).mono ?_; rintro e w11 ⟨y, rfl, hy, hb11⟩
       have hB11 := HB10.out.trans ((goes (ag W10.heap.size W10).drew hb11).mono HB10.out.size)
       have HY := aa hy
       obtain ⟨yA, yc, yB, yd, rfl, -, -, -, -⟩ := hy
       have hz := aa (K10.out.d1.up hb11)
       obtain ⟨s0, s1, s2⟩ := hz.out.three
       have HX11 := aa (HX10.out.up (goes (ag _ _).drew hb11))
       have K11 := aa (K8.out.d1.up hb11))
    | (go_at_call 96; with_reducible refine (CM.out _ _ _ (ah HB0.out hB11.size) HX11.out HY.out).mono ?_; rintro e w12 ⟨z, rfl, hz12, hb12⟩
       have hB12 := goes hB11 hb12
       have HZ := aa hz12
       obtain ⟨zA, zc, zB, zd, rfl, -, -, -, -⟩ := hz12
       have hk12 := aa (hz.out.up hb12)
       obtain ⟨t0, t1, t2⟩ := hk12.out.three
       have K12 := aa (K11.out.up hb12)
       have fz := fun i => hk12.out.froz i))
   all_goals
    go_wp2_with fail
    go_meet
    have hgr := ((set_grown w12 ⟨g10, 0, none⟩ (.bool M.2.neg)).set 1 (.slice zA M.2.num.length zc)).set 2 (.slice zB M.2.den.length zd)
    exact ⟨rfl, rfl, ⟨((hB12.setCell N10.out _).setCell N10.out _).setCell N10.out _⟩, ⟨K12.out.grown hgr (fun e => by injection e with e; exact Bk.ne_ K12.out hk12.out (by decide) e)⟩, zA, zc, zB, zd, ⟨hk12.out.set3 _ _ _⟩,
     ⟨HZ.out.grown hgr (fun g e => by injection e with e; subst e; exact ⟨ah HB0.out N10.out, _, _, hk12.out, by decide⟩)⟩⟩
  case rest =>
   obtain ⟨rfl, rfl, HB11, K11, zA, zc, zB, zd, K13, HZ⟩ := hcut
   clear K10 HX10 r0 r1 r2 CO CM K8 HB10 HW10
   by_cases hm0 : M.1 = 0
   case neg =>
    have e2 : (M.1 != 0) = true := by rw [bne_iff_ne]; exact hm0
    have HF2 : Hd (raiseD order m ps s = (M.1, [])) := ⟨by rw [HF.out, if_pos hm0]⟩
    clear hm0
    go_wp2_with fail
    go_ret2
    rw [HF2.out]
    exact ⟨none, 0, rfl, ae _, RPol.nil _ _ _, HB11.out⟩
   have e2 : (M.1 != 0) = false := by rw [bne_eq_false_iff_eq]; exact hm0
   have HF2 : Hd (raiseD order m ps s = polTimes order ps ⟨M.2, mm⟩) := ⟨by rw [HF.out, if_neg (by rw [hm0]; simp)]⟩
   obtain ⟨t0, t1, t2⟩ := K13.out.three
   obtain ⟨u0, u1, u2, u3⟩ := K11.out.four
   have ho := cell_up HO.out HB11.out
   have CT := aa (poly_Times b0 order (some ad) c ps (.agg #[.bool M.2.neg, .slice zA M.2.num.length zc, .slice zB M.2.den.length zd, .int .i64 mm.x0, .int .i64 mm.x1, .int .i64 mm.x2, .int .i64 mm.x3]) ⟨M.2, mm⟩ _ (ah HB0.out HB11.out.size) (HP.out.up HB11.out) hc HS.out (by
       obtain ⟨x1, x2, x3, x4, e, y1, y2, y3, y4⟩ := HZ.out
       simp only [Value.agg.injEq, Array.mk.injEq, List.cons.injEq, Value.slice.injEq, true_and, and_true] at e
       obtain ⟨⟨rfl, rfl⟩, rfl, rfl⟩ := e
       exact ⟨_, _, _, _, rfl, y1, y2, y3, y4⟩) HMS.out)
   clear hm0 hc
   go_wp2_with fail
   refine CT.out.mono ?_
   rintro e w5 ⟨A', c', rfl, hc', hr', hb5⟩
   have HC' := aa hc'
   have HR' := aa hr'
   have HB5 := aa (goes HB11.out hb5)
   clear hb5 hc' hr'
   go_wp2_with fail
   go_ret2
   rw [HF2.out]
   exact ⟨A', c', rfl, HC'.out, HR'.out, HB5.out⟩
def crossD (o : Int) (p q : List TermD) : Int × List TermD :=
 if (polMay o p && polMay o q) = false then (1, []) else match p, q with
 | t :: _, u :: _ => if (raiseD o (monLcm t.m u.m) p 1).1 ≠ 0 then ((raiseD o (monLcm t.m u.m) p 1).1, []) else if (raiseD o (monLcm t.m u.m) q (-1)).1 ≠ 0 then ((raiseD o (monLcm t.m u.m) q (-1)).1, [])
   else polAdd o [(raiseD o (monLcm t.m u.m) p 1).2, (raiseD o (monLcm t.m u.m) q (-1)).2]
 | _, _ => (1, [])
theorem polTimes_shortP (o : Int) {p : List TermD} {t : TermD} (hp : shortP p) : shortP (polTimes o p t).2 := by
 unfold polTimes
 split
 ·exact ⟨by simp, fun t h => by cases h⟩
 ·split
  ·exact ⟨by simp, fun t h => by cases h⟩
  ·exact ⟨ah (timesL_facts t p).1 hp.1, (timesL_facts t p).2⟩
theorem raiseD_short (o : Int) (m : MonD) {p : List TermD} (s : Int) (hp : shortP p) : shortP (raiseD o m p s).2 := by
 have hn : shortP [] := ⟨by simp, fun t h => by cases h⟩
 unfold raiseD
 cases p with
 | nil => exact hn
 | cons t r =>
   dsimp only
   split
   ·exact hn
   ·split
    ·exact hn
    ·exact polTimes_shortP o hp
theorem pair_Cross (b0 : Nat) (order : Int) (A B : Option Addr) (c d : Nat) (p q : List TermD) (w : World) (hb0 : b0 ≤ w.heap.size) (hp : RPol w b0 A p) (hq : RPol w b0 B q) (hc : p.length ≤ c) (hd : q.length ≤ d) (hps : shortP p) (hqs : shortP q) :
    Calls Tryz.prog 30 #[.int .i64 order, .slice A p.length c, .slice B q.length d] w fun e w' => ∃ A' c', e = .returned (.tuple #[.slice A' (crossD order p q).2.length c', .int .i64 (crossD order p q).1]) ∧
     (crossD order p q).2.length ≤ c' ∧ RPol w' b0 A' (crossD order p q).2 ∧ Below w.heap.size w w' := by
 have HP := aa hp
 have HQ := aa hq
 have HPS := aa hps
 have HQS := aa hqs
 have HB0 := aa hb0
 have hlp := hps.1
 have hlq := hqs.1
 clear hp hq hps hqs hb0
 have CMP := aa (fun W (hB : Below w.heap.size w W) => poly_May b0 order A c p W (HP.out.up hB) hc HPS.out)
 have CMQ := aa (fun W (hB : Below w.heap.size w W) => poly_May b0 order B d q W (HQ.out.up hB) hd HQS.out)
 go_enter Tryz.func30, Tryz.ntmps30
 go_upto_region 1 with (fail)
 refine wp_gen (fun W => W.cell? ⟨w.heap.size, 0, none⟩ = some (.int .i64 order) ∧ Below w.heap.size w W) ⟨(Bk.new_ w 3 #[.int .i64 order]).one, (ag _ _).alloc (ae _) _⟩ ?_
 intro W1 H1
 have HO1 := H1.out.1
 have HB1 := aa H1.out.2
 clear H1
 have CMP := aa (CMP.out W1 HB1.out)
 cases hmp : polMay order p
 case false =>
  have HE : Hd (crossD order p q = (1, [])) := ⟨by unfold crossD; rw [hmp]; rfl⟩
  rw [hmp] at CMP
  clear hmp
  go_wp2_with fail
  refine CMP.out.mono ?_
  rintro e w2 ⟨rfl, hb2⟩
  have HB2 := aa (goes HB1.out hb2)
  clear hb2
  go_wp2_with fail
  go_ret2
  rw [HE.out]
  exact ⟨none, 0, rfl, ae _, RPol.nil _ _ _, HB2.out⟩
 rw [hmp] at CMP
 go_wp2_with fail
 refine CMP.out.mono ?_
 rintro e w2 ⟨rfl, hb2⟩
 have HB2 := aa (goes HB1.out hb2)
 have HO2 := cell_up HO1 hb2
 have CMQ := aa (CMQ.out w2 HB2.out)
 clear hb2 HO1 CMP
 cases hmq : polMay order q
 case false =>
  have HE : Hd (crossD order p q = (1, [])) := ⟨by unfold crossD; rw [hmp, hmq]; rfl⟩
  rw [hmq] at CMQ
  clear hmq hmp
  go_wp2_with fail
  refine CMQ.out.mono ?_
  rintro e w3 ⟨rfl, hb3⟩
  have HB3 := aa (goes HB2.out hb3)
  clear hb3
  go_wp2_with fail
  go_ret2
  rw [HE.out]
  exact ⟨none, 0, rfl, ae _, RPol.nil _ _ _, HB3.out⟩
 rw [hmq] at CMQ
 have HMM := aa (af hmp hmq)
 clear hmp hmq
 go_wp2_with fail
 refine CMQ.out.mono ?_
 rintro e w3 ⟨rfl, hb3⟩
 have HB3 := aa (goes HB2.out hb3)
 have HO3 := aa (cell_up HO2 hb3)
 clear hb3 HO2 CMQ
 by_cases hp0 : p.length = 0
 case pos =>
  have HE : Hd (crossD order p q = (1, [])) := ⟨by
   obtain rfl := List.length_eq_zero_iff.1 hp0
   unfold crossD; rw [HMM.out.1, HMM.out.2]; rfl⟩
  have e1 : ((p.length : Int) == 0) = true := by rw [hp0]; rfl
  clear hp0
  go_wp2_with fail
  go_ret2
  rw [HE.out]
  exact ⟨none, 0, rfl, ae _, RPol.nil _ _ _, HB3.out⟩
 have e1 : ((p.length : Int) == 0) = false := by rw [beq_eq_false_iff_ne]; omega
 by_cases hq0 : q.length = 0
 case pos =>
  have HE : Hd (crossD order p q = (1, [])) := ⟨by
   obtain rfl := List.length_eq_zero_iff.1 hq0
   unfold crossD; rw [HMM.out.1, HMM.out.2]; cases p <;> rfl⟩
  have e2 : ((q.length : Int) == 0) = true := by rw [hq0]; rfl
  clear hq0 hp0
  go_wp2_with fail
  go_ret2
  rw [HE.out]
  exact ⟨none, 0, rfl, ae _, RPol.nil _ _ _, HB3.out⟩
 have e2 : ((q.length : Int) == 0) = false := by rw [beq_eq_false_iff_ne]; omega
 have e3 : (0 : Int) < p.length := by omega
 have e4 : (0 : Int) < q.length := by omega
 have hp1 : 0 < p.length := by omega
 have hq1 : 0 < q.length := by omega
 clear hp0 hq0
 obtain ⟨ad, P1, pc1, P2, pc2, t, rfl, -, hti, -, -, -, -, s3, s4, s5, s6⟩ := (HP.out.up HB3.out).get hp1
 obtain ⟨bd, Q1, qc1, Q2, qc2, u, rfl, -, hui, -, -, -, -, u3, u4, u5, u6⟩ := (HQ.out.up HB3.out).get hq1
 rw [Nat.zero_mul, add_none] at s3 s4 s5 s6 u3 u4 u5 u6
 have HE : Hd (crossD order p q = if (raiseD order (monLcm t.m u.m) p 1).1 ≠ 0 then ((raiseD order (monLcm t.m u.m) p 1).1, []) else if (raiseD order (monLcm t.m u.m) q (-1)).1 ≠ 0 then ((raiseD order (monLcm t.m u.m) q (-1)).1, [])
     else polAdd order [(raiseD order (monLcm t.m u.m) p 1).2, (raiseD order (monLcm t.m u.m) q (-1)).2]) := ⟨by
  obtain ⟨p', hp'⟩ := head_is hti.out
  obtain ⟨q', hq'⟩ := head_is hui.out
  subst hp' hq'
  unfold crossD
  rw [HMM.out.1, HMM.out.2]
  rfl⟩
 have CL := aa (mono_Lcm t.m u.m)
 obtain ⟨m, hm⟩ : ∃ m, monLcm t.m u.m = m := ⟨_, rfl⟩
 rw [hm] at CL HE
 have SO := aa (fun W (hB : Below w3.heap.size w3 W) => af (aa hB) (af (cell_up s3 hB) (af (cell_up s4 hB) (af (cell_up s5 hB) (af (cell_up s6 hB) (af (cell_up u3 hB) (af (cell_up u4 hB) (af (cell_up u5 hB) (cell_up u6 hB)))))))))
 clear hm hti hui HMM HB1 HB2
 go_wp2_with fail
 go_cut [8] (fun v8 wx => ∃ g8, v8 = .pointer (some ⟨g8, 0, none⟩) ∧ Hd (Bk wx g8 66 #[.int .i64 m.x0, .int .i64 m.x1, .int .i64 m.x2, .int .i64 m.x3]) ∧ Hd (Below w3.heap.size w3 wx))
 case first =>
  go_region_held3 (fun W => Hd (Below w3.heap.size w3 W) ∧ W.cell? ⟨ad.block, ad.off + 3, none⟩ = some (.int .i64 t.m.x0) ∧ W.cell? ⟨ad.block, ad.off + 3 + 1, none⟩ = some (.int .i64 t.m.x1) ∧ W.cell? ⟨ad.block, ad.off + 3 + 2, none⟩ = some (.int .i64 t.m.x2) ∧ W.cell? ⟨ad.block, ad.off + 3 + 3, none⟩ = some (.int .i64 t.m.x3) ∧
      W.cell? ⟨bd.block, bd.off + 3, none⟩ = some (.int .i64 u.m.x0) ∧ W.cell? ⟨bd.block, bd.off + 3 + 1, none⟩ = some (.int .i64 u.m.x1) ∧ W.cell? ⟨bd.block, bd.off + 3 + 2, none⟩ = some (.int .i64 u.m.x2) ∧ W.cell? ⟨bd.block, bd.off + 3 + 3, none⟩ = some (.int .i64 u.m.x3))
   (first
    | with_reducible exact SO.out _ (.refl _ _)
    | with_reducible exact SO.out _ (ag _ _).drew
    | with_reducible exact SO.out _ ((ag _ _).drew.alloc (ae _) _)
    | with_reducible exact SO.out _ ((ag _ _).alloc (ae _) _).drew
    | with_reducible exact SO.out _ hB5
    | with_reducible exact SO.out _ (hB5.alloc hB5.size _)
    | with_reducible exact SO.out _ (below_set4 hB5 (ae _) _ _ _ _)
    | with_reducible exact SO.out _ (below_set4 (hB5.alloc hB5.size _) hB5.size _ _ _ _)
    | fail)
   (first
    | (go_at_call 92; have hB := ‹Hd (Below w3.heap.size w3 _) ∧ _›.1; with_reducible refine (CL.out ((w3.alloc (Obj.cells #[.int .i64 0, .int .i64 0, .int .i64 0, .int .i64 0] 66)).drew)).mono ?_; rintro e w8 ⟨rfl, hb⟩
       have hB5 := hB.out.trans (hb.lo.mono hB.out.size)
       have hk := aa ((Bk.new_ w3 66 #[.int .i64 0, .int .i64 0, .int .i64 0, .int .i64 0]).d1.up hb.lo)
       obtain ⟨p6, p7, p8, p9⟩ := hk.out.four
       have fz := fun i => hk.out.froz i)
    | (go_at_call 92; have hB := ‹Hd (Below w3.heap.size w3 _) ∧ _›.1; with_reducible refine (CL.out _).mono ?_; rintro e w8 ⟨rfl, hb⟩
       have hB5 := hB.out.trans (hb.lo.mono hB.out.size)))
  all_goals
   go_wp2_with fail
   go_meet
   first
   | exact ⟨_, rfl, ⟨hk.out.set4 (.int .i64 m.x0) (.int .i64 m.x1) (.int .i64 m.x2) (.int .i64 m.x3)⟩, ⟨below_set4 hB5 (ae _) (.int .i64 m.x0) (.int .i64 m.x1) (.int .i64 m.x2) (.int .i64 m.x3)⟩⟩
   | exact ⟨_, rfl, ⟨Bk.new_ w8 66 #[.int .i64 m.x0, .int .i64 m.x1, .int .i64 m.x2, .int .i64 m.x3]⟩, ⟨hB5.alloc hB5.size (Obj.cells #[.int .i64 m.x0, .int .i64 m.x1, .int .i64 m.x2, .int .i64 m.x3] 66)⟩⟩
 case rest =>
  obtain ⟨g8, rfl, K8, HB4⟩ := hcut
  clear SO CL s3 s4 s5 s6 u3 u4 u5 u6
  have HBW := aa (goes HB3.out HB4.out)
  have CP := aa (cross_1 b0 order (some ad) c p g8 w.heap.size m 1 wc (ah HB0.out HBW.out.size) (HP.out.up HBW.out) hc HPS.out hp1 (by decide) (by decide) K8.out (cell_up HO3.out HB4.out))
  have CQ := aa (fun W (hB : Below wc.heap.size wc W) => cross_1 b0 order (some bd) d q g8 w.heap.size m (-1) W (ah HB0.out (goes HBW.out hB).size) (HQ.out.up (goes HBW.out hB)) hd HQS.out hq1 (by decide) (by decide) (K8.out.up hB) (cell_up HO3.out (goes HB4.out hB)))
  have HXS := aa (raiseD_short order m 1 HPS.out)
  have HYS := aa (raiseD_short order m (-1) HQS.out)
  obtain ⟨X, hX⟩ : ∃ X, raiseD order m p 1 = X := ⟨_, rfl⟩
  obtain ⟨Y, hY⟩ : ∃ Y, raiseD order m q (-1) = Y := ⟨_, rfl⟩
  rw [hX] at CP HE HXS
  rw [hY] at CQ HE HYS
  clear hX hY hc hd
  go_wp2_with fail
  refine CP.out.mono ?_
  rintro e w5 ⟨XA, xc, rfl, hxc, hx, hb5⟩
  have HX := aa hx
  have HB5 := aa hb5
  have HXC := aa hxc
  clear hx hb5 hxc CP
  by_cases hx0 : X.1 = 0
  case neg =>
   have e5 : (X.1 != 0) = true := by rw [bne_iff_ne]; exact hx0
   have HF : Hd (crossD order p q = (X.1, [])) := ⟨by rw [HE.out, if_pos hx0]⟩
   clear hx0
   go_wp2_with fail
   go_ret2
   rw [HF.out]
   exact ⟨none, 0, rfl, ae _, RPol.nil _ _ _, goes HBW.out HB5.out⟩
  have e5 : (X.1 != 0) = false := by rw [bne_eq_false_iff_eq]; exact hx0
  have HE2 : Hd (crossD order p q = if Y.1 ≠ 0 then (Y.1, []) else polAdd order [X.2, Y.2]) := ⟨by rw [HE.out, if_neg (by rw [hx0]; simp)]⟩
  have CQ := aa (CQ.out w5 HB5.out)
  clear hx0
  go_wp2_with fail
  refine CQ.out.mono ?_
  rintro e w6 ⟨YA, yc, rfl, hyc, hy, hb6⟩
  have HY := aa hy
  have HX6 := aa (HX.out.up hb6)
  have HB6 := aa (goes HB5.out hb6)
  have HYC := aa hyc
  clear hy hb6 hyc CQ
  by_cases hy0 : Y.1 = 0
  case neg =>
   have e6 : (Y.1 != 0) = true := by rw [bne_iff_ne]; exact hy0
   have HF : Hd (crossD order p q = (Y.1, [])) := ⟨by rw [HE2.out, if_pos hy0]⟩
   clear hy0
   go_wp2_with fail
   go_ret2
   rw [HF.out]
   exact ⟨none, 0, rfl, ae _, RPol.nil _ _ _, goes HBW.out HB6.out⟩
  have e6 : (Y.1 != 0) = false := by rw [bne_eq_false_iff_eq]; exact hy0
  have HF : Hd (crossD order p q = polAdd order [X.2, Y.2]) := ⟨by rw [HE2.out, if_neg (by rw [hy0]; simp)]⟩
  have ho := cell_up HO3.out (goes HB4.out HB6.out)
  have hbn : Below w6.heap.size w6 (w6.alloc (Obj.cells #[.slice XA X.2.length xc, .slice YA Y.2.length yc] 25)) := (ag _ _).alloc (ae _) _
  have ho7 := cell_up ho hbn
  have HB7 := aa (goes (goes HBW.out HB6.out) hbn)
  have CA := aa (poly_Add b0 order (some ⟨w6.heap.size, 0, none⟩) 2 [X.2, Y.2] _ (ah HB0.out HB7.out.size) (rpols_bk2 (p := X.2) (q := Y.2) (Bk.new_ w6 25 #[.slice XA X.2.length xc, .slice YA Y.2.length yc]) (HX6.out.up hbn) (HY.out.up hbn) HXC.out HYC.out) (ae _) ⟨by simp, fun z hz => by
          simp only [List.mem_cons, List.not_mem_nil, or_false] at hz
          rcases hz with rfl | rfl
          ·exact HXS.out
          ·exact HYS.out⟩)
  obtain ⟨Z, hZ⟩ : ∃ Z, polAdd order [X.2, Y.2] = Z := ⟨_, rfl⟩
  rw [hZ] at CA HF
  clear hZ hy0 hbn
  go_wp2_with fail
  refine CA.out.mono ?_
  rintro e w8 ⟨ZA, zc, rfl, hzc, hz, hb8⟩
  have HZ := aa hz
  have HZC := aa hzc
  have HB8 := aa (goes HB7.out hb8)
  clear hz hb8 hzc
  go_wp2_with fail
  go_ret2
  rw [HF.out]
  exact ⟨ZA, zc, rfl, HZC.out, HZ.out, HB8.out⟩
end Go.Proofs.YtgjkgkgieeoalaaGreat
