/- Parts of the proof, joined: each theorem says what it shows. -/
import Derived.Test.YtgjkgkgieeoalaaGreatA31
import Derived.Test.YtgjkgkgieeoalaaGreatA26
import Derived.Test.YtgjkgkgieeoalaaGreatA25
import Derived.Test.YtgjkgkgieeoalaaGreatA27
set_option linter.unusedVariables false
set_option linter.unusedSimpArgs false
set_option maxHeartbeats 24000000
set_option maxRecDepth 100000
namespace Go.Proofs.YtgjkgkgieeoalaaGreat
open Go.RowKit
theorem head_is {b : List TermD} {u : TermD} (h : b[0]? = some u) : ∃ b', b = u :: b' := by
 cases b with
 | nil => cases h
 | cons x r => cases h; exact ⟨r, rfl⟩
theorem add_none (p : Addr) : p.add 0 = p := by unfold Addr.add; simp
def raiseD (o : Int) (m : MonD) (p : List TermD) (s : Int) : Int × List TermD :=
 match p with
 | [] => (1, [])
 | t :: _ => if (invD t.c).1 ≠ 0 then ((invD t.c).1, []) else if (mulD (invD t.c).2 (ofD s)).1 ≠ 0 then ((mulD (invD t.c).2 (ofD s)).1, [])
   else polTimes o p ⟨(mulD (invD t.c).2 (ofD s)).2, (monDiv m t.m).2⟩
theorem cross_1 (b0 : Nat) (order : Int) (A : Option Addr) (c : Nat) (ps : List TermD) (gm go : Nat) (m : MonD) (s : Int) (w : World) (hb0 : b0 ≤ w.heap.size) (h : RPol w b0 A ps) (hc : ps.length ≤ c) (hs : shortP ps) (hN0 : 0 < ps.length)
    (h1 : -9223372036854775808 ≤ s) (h2 : s ≤ 9223372036854775807)
    (hm : Bk w gm 66 #[.int .i64 m.x0, .int .i64 m.x1, .int .i64 m.x2, .int .i64 m.x3]) (ho : w.cell? ⟨go, 0, none⟩ = some (.int .i64 order)) :
    Calls Tryz.prog 93 #[.slice A ps.length c, .int .i64 s, .pointer (some ⟨gm, 0, none⟩), .pointer (some ⟨go, 0, none⟩)] w fun e w' => ∃ A' c', e = .returned (.tuple #[.slice A' (raiseD order m ps s).2.length c', .int .i64 (raiseD order m ps s).1]) ∧
     (raiseD order m ps s).2.length ≤ c' ∧ RPol w' b0 A' (raiseD order m ps s).2 ∧ Below w.heap.size w w' := by
 obtain ⟨ad, B1, c1, B2, c2, t, rfl, hab, hti, hrt, q0, q1, q2, q3, q4, q5, q6⟩ := h.get hN0
 have HE : Hd (raiseD order m ps s = if (invD t.c).1 ≠ 0 then ((invD t.c).1, []) else if (mulD (invD t.c).2 (ofD s)).1 ≠ 0 then ((mulD (invD t.c).2 (ofD s)).1, []) else polTimes order ps ⟨(mulD (invD t.c).2 (ofD s)).2, (monDiv m t.m).2⟩) := ⟨by
  obtain ⟨r, hr⟩ := head_is hti.out
  subst hr
  rfl⟩
 have HP := Hd.mk h
 have HS := Hd.mk hs
 have HB0 := Hd.mk hb0
 have hl := hs.1
 have HTS := Hd.mk (hs.2 t (List.mem_of_getElem? hti.out))
 have HT := Hd.mk hrt.out.rat
 have HAB := Hd.mk hab
 rw [Nat.zero_mul, add_none] at q0 q1 q2 q3 q4 q5 q6
 have HQ := Hd.mk (And.intro q0 (And.intro q1 q2))
 have z2 : (0 : Int) < ps.length := by omega
 obtain ⟨⟨mb, mm⟩, hM⟩ : ∃ X, monDiv m t.m = X := ⟨_, rfl⟩
 have CD := Hd.mk (mono_Div m t.m)
 rw [hM] at CD HE
 dsimp only at CD HE
 have HO := Hd.mk ho
 obtain ⟨m0, m1, m2, m3⟩ := hm.four
 have SO := Hd.mk (fun W (hB : Below w.heap.size w W) => And.intro (Hd.mk hB) (And.intro (cell_up m0 hB) (And.intro (cell_up m1 hB) (And.intro (cell_up m2 hB) (And.intro (cell_up m3 hB) (And.intro (cell_up q3 hB) (And.intro (cell_up q4 hB) (And.intro (cell_up q5 hB) (cell_up q6 hB)))))))))
 clear h hs hb0 hti hrt hab hM ho hm q0 q1 q2
 go_enter Tryz.func93, Tryz.ntmps93
 go_wp2_with fail
 go_cut [8] (fun v8 wx => ∃ g8, v8 = .pointer (some ⟨g8, 0, none⟩) ∧ w.heap.size ≤ g8 ∧ Hd (Bk wx g8 66 #[.int .i64 mm.x0, .int .i64 mm.x1, .int .i64 mm.x2, .int .i64 mm.x3]) ∧ Hd (Below w.heap.size w wx))
 case first =>
  go_region_held3 (fun W => Hd (Below w.heap.size w W) ∧ W.cell? ⟨gm, 0, none⟩ = some (.int .i64 m.x0) ∧ W.cell? ⟨gm, 1, none⟩ = some (.int .i64 m.x1) ∧ W.cell? ⟨gm, 2, none⟩ = some (.int .i64 m.x2) ∧ W.cell? ⟨gm, 3, none⟩ = some (.int .i64 m.x3) ∧
      W.cell? ⟨ad.block, ad.off + 3, none⟩ = some (.int .i64 t.m.x0) ∧ W.cell? ⟨ad.block, ad.off + 3 + 1, none⟩ = some (.int .i64 t.m.x1) ∧ W.cell? ⟨ad.block, ad.off + 3 + 2, none⟩ = some (.int .i64 t.m.x2) ∧ W.cell? ⟨ad.block, ad.off + 3 + 3, none⟩ = some (.int .i64 t.m.x3))
   (first
    | with_reducible exact SO.out _ (.refl _ _)
    | with_reducible exact SO.out _ (Below.refl _ _).drew
    | with_reducible exact SO.out _ ((Below.refl _ _).drew.alloc (Nat.le_refl _) _)
    | with_reducible exact SO.out _ ((Below.refl _ _).alloc (Nat.le_refl _) _).drew
    | with_reducible exact SO.out _ hB5
    | with_reducible exact SO.out _ (hB5.alloc hB5.size _)
    | with_reducible exact SO.out _ (below_set4 hB5 (Nat.le_refl _) _ _ _ _)
    | with_reducible exact SO.out _ (below_set4 (hB5.alloc hB5.size _) hB5.size _ _ _ _)
    | fail)
   (first
    | (go_at_call 94; have hB := ‹Hd (Below w.heap.size w _) ∧ _›.1; with_reducible refine (CD.out ((w.alloc (Obj.cells #[.int .i64 0, .int .i64 0, .int .i64 0, .int .i64 0] 66)).drew)).mono ?_; rintro e w8 ⟨rfl, hb⟩
       have hB5 := hB.out.trans (hb.lo.mono hB.out.size)
       have hk := Hd.mk ((Bk.new_ w 66 #[.int .i64 0, .int .i64 0, .int .i64 0, .int .i64 0]).d1.up hb.lo)
       obtain ⟨p6, p7, p8, p9⟩ := hk.out.four
       have fz := fun i => hk.out.froz i)
    | (go_at_call 94; have hB := ‹Hd (Below w.heap.size w _) ∧ _›.1; with_reducible refine (CD.out _).mono ?_; rintro e w8 ⟨rfl, hb⟩
       have hB5 := hB.out.trans (hb.lo.mono hB.out.size)))
  all_goals
   go_wp2_with fail
   go_meet
   first
   | exact ⟨_, rfl, Nat.le_refl _, ⟨hk.out.set4 (.int .i64 mm.x0) (.int .i64 mm.x1) (.int .i64 mm.x2) (.int .i64 mm.x3)⟩, ⟨below_set4 hB5 (Nat.le_refl _) (.int .i64 mm.x0) (.int .i64 mm.x1) (.int .i64 mm.x2) (.int .i64 mm.x3)⟩⟩
   | exact ⟨_, rfl, hB5.size, ⟨Bk.new_ w8 66 #[.int .i64 mm.x0, .int .i64 mm.x1, .int .i64 mm.x2, .int .i64 mm.x3]⟩, ⟨hB5.alloc hB5.size (Obj.cells #[.int .i64 mm.x0, .int .i64 mm.x1, .int .i64 mm.x2, .int .i64 mm.x3] 66)⟩⟩
 case rest =>
  obtain ⟨g8, rfl, N8, K8, HB8⟩ := hcut
  have c0 := cell_up HQ.out.1 HB8.out
  have c1' := cell_up HQ.out.2.1 HB8.out
  have c2' := cell_up HQ.out.2.2 HB8.out
  obtain ⟨I, hI⟩ : ∃ I, invD t.c = I := ⟨_, rfl⟩
  have CI := Hd.mk (ratio_Inv b0 _ t.c wc (Nat.le_trans HB0.out HB8.out.size) (HT.out.up HB8.out) HTS.out)
  have HI := Hd.mk (invD_short HTS.out)
  have HE2 := HE
  rw [hI] at CI HI HE2
  clear hI q3 q4 q5 q6 m0 m1 m2 m3 SO CD
  go_wp2_with fail
  refine CI.out.mono ?_
  rintro e w9 ⟨x, rfl, hx, hb9⟩
  have HB9 := Hd.mk (goes HB8.out hb9)
  have HX := Hd.mk hx
  have K9 := Hd.mk (K8.out.up hb9)
  obtain ⟨xA, xc, xB, xd, rfl, hxc, hxd, _, _⟩ := hx
  clear hb9 CI K8 c0 c1' c2'
  by_cases h0 : I.1 = 0
  case neg =>
   have e1 : (I.1 == 0) = false := by rw [beq_eq_false_iff_ne]; exact h0
   have e2 : (I.1 != 0) = true := by rw [bne_iff_ne]; exact h0
   have HF : Hd (raiseD order m ps s = (I.1, [])) := ⟨by rw [HE2.out, if_pos h0]⟩
   clear h0
   go_wp2_with fail
   go_ret2
   rw [HF.out]
   exact ⟨none, 0, rfl, Nat.le_refl _, RPol.nil _ _ _, HB9.out.alloc HB9.out.size _⟩
  have e1 : (I.1 == 0) = true := by rw [beq_iff_eq]; exact h0
  have HF : Hd (raiseD order m ps s = if (mulD I.2 (ofD s)).1 ≠ 0 then ((mulD I.2 (ofD s)).1, []) else polTimes order ps ⟨(mulD I.2 (ofD s)).2, mm⟩) := ⟨by rw [HE2.out, if_neg (by rw [h0]; simp)]⟩
  obtain ⟨M, hM⟩ : ∃ M, mulD I.2 (ofD s) = M := ⟨_, rfl⟩
  rw [hM] at HF
  have HM := Hd.mk hM
  have HMS : Hd M.2.short := ⟨by rw [← hM]; exact mulD_short _ _⟩
  clear hM h0
  go_upto_region 4 with (fail)
  refine wp_gen (fun W => Bk W _ 64 #[.bool I.2.neg, .slice xA I.2.num.length xc, .slice xB I.2.den.length xd] ∧ Bk W g8 66 #[.int .i64 mm.x0, .int .i64 mm.x1, .int .i64 mm.x2, .int .i64 mm.x3] ∧ RRat W b0 (.agg #[.bool I.2.neg, .slice xA I.2.num.length xc, .slice xB I.2.den.length xd]) I.2 ∧ Below w.heap.size w W)
   ⟨Bk.new_ w9 64 #[.bool I.2.neg, .slice xA I.2.num.length xc, .slice xB I.2.den.length xd], K9.out.al _, HX.out.up ((Below.refl _ _).alloc (Nat.le_refl _) _), HB9.out.alloc HB9.out.size _⟩ ?_
  have N10 := HB9.out.size
  generalize w9.heap.size = g10 at N10 ⊢
  intro W10 H10
  have HB10 := Hd.mk H10.out.2.2.2
  have HX10 := Hd.mk H10.out.2.2.1
  have K10 := Hd.mk H10.out.1
  have K8 := Hd.mk H10.out.2.1
  clear K9 HX HB9 H10 HB8
  have HW10 := Hd.mk (Nat.le_trans HB0.out HB10.out.size)
  have CO := Hd.mk (fun W (hW : b0 ≤ W.heap.size) => ratio_Of b0 s W hW h1 h2)
  have CM := Hd.mk (fun v u W hW hv hu => ratio_Mul b0 v u I.2 (ofD s) W hW hv hu HI.out (ofD_short s (by omega)))
  rw [HM.out] at CM
  obtain ⟨S, hS⟩ : ∃ S, ofD s = S := ⟨_, rfl⟩
  rw [hS] at CM CO
  have HSS := Hd.mk hS
  clear hS HM
  obtain ⟨r0, r1, r2⟩ := K10.out.three
  have N10 := Hd.mk N10
  have N8 := Hd.mk N8
  go_wp2_with fail
  go_cut [10, 11] (fun v10 v11 wx => v10 = .pointer (some ⟨g10, 0, none⟩) ∧ v11 = .int .i64 M.1 ∧ Hd (Below w.heap.size w wx) ∧ Hd (Bk wx g8 66 #[.int .i64 mm.x0, .int .i64 mm.x1, .int .i64 mm.x2, .int .i64 mm.x3]) ∧
      ∃ zA zc zB zd, Hd (Bk wx g10 64 #[.bool M.2.neg, .slice zA M.2.num.length zc, .slice zB M.2.den.length zd]) ∧ Hd (RRat wx b0 (.agg #[.bool M.2.neg, .slice zA M.2.num.length zc, .slice zB M.2.den.length zd]) M.2))
  case first =>
   go_region_with (first
    | (go_at_call 97; with_reducible refine (CO.out _ (Nat.le_trans HB0.out HB10.out.drew.size)).mono ?_; rintro e w11 ⟨y, rfl, hy, hb11⟩
       have hB11 := HB10.out.trans ((goes (Below.refl W10.heap.size W10).drew hb11).mono HB10.out.size)
       have HY := Hd.mk hy
       obtain ⟨yA, yc, yB, yd, rfl, -, -, -, -⟩ := hy
       have hz := Hd.mk (K10.out.d1.up hb11)
       obtain ⟨s0, s1, s2⟩ := hz.out.three
       have HX11 := Hd.mk (HX10.out.up (goes (Below.refl _ _).drew hb11))
       have K11 := Hd.mk (K8.out.d1.up hb11))
    | (go_at_call 96; with_reducible refine (CM.out _ _ _ (Nat.le_trans HB0.out hB11.size) HX11.out HY.out).mono ?_; rintro e w12 ⟨z, rfl, hz12, hb12⟩
       have hB12 := goes hB11 hb12
       have HZ := Hd.mk hz12
       obtain ⟨zA, zc, zB, zd, rfl, -, -, -, -⟩ := hz12
       have hk12 := Hd.mk (hz.out.up hb12)
       obtain ⟨t0, t1, t2⟩ := hk12.out.three
       have K12 := Hd.mk (K11.out.up hb12)
       have fz := fun i => hk12.out.froz i))
   all_goals
    go_wp2_with fail
    go_meet
    have hgr := ((set_grown w12 ⟨g10, 0, none⟩ (.bool M.2.neg)).set 1 (.slice zA M.2.num.length zc)).set 2 (.slice zB M.2.den.length zd)
    exact ⟨rfl, rfl, ⟨((hB12.setCell N10.out _).setCell N10.out _).setCell N10.out _⟩, ⟨K12.out.grown hgr (fun e => by injection e with e; exact Bk.ne_ K12.out hk12.out (by decide) e)⟩, zA, zc, zB, zd, ⟨hk12.out.set3 _ _ _⟩,
     ⟨HZ.out.grown hgr (fun g e => by injection e with e; subst e; exact ⟨Nat.le_trans HB0.out N10.out, _, _, hk12.out, by decide⟩)⟩⟩
  case rest =>
   obtain ⟨rfl, rfl, HB11, K11, zA, zc, zB, zd, K13, HZ⟩ := hcut
   clear K10 HX10 r0 r1 r2 CO CM K8 HB10 HW10
   by_cases hm0 : M.1 = 0
   case neg =>
    have e2 : (M.1 != 0) = true := by rw [bne_iff_ne]; exact hm0
    have HF2 : Hd (raiseD order m ps s = (M.1, [])) := ⟨by rw [HF.out, if_pos hm0]⟩
    clear hm0
    go_wp2_with fail
    go_ret2
    rw [HF2.out]
    exact ⟨none, 0, rfl, Nat.le_refl _, RPol.nil _ _ _, HB11.out⟩
   have e2 : (M.1 != 0) = false := by rw [bne_eq_false_iff_eq]; exact hm0
   have HF2 : Hd (raiseD order m ps s = polTimes order ps ⟨M.2, mm⟩) := ⟨by rw [HF.out, if_neg (by rw [hm0]; simp)]⟩
   obtain ⟨t0, t1, t2⟩ := K13.out.three
   obtain ⟨u0, u1, u2, u3⟩ := K11.out.four
   have ho := cell_up HO.out HB11.out
   have CT := Hd.mk (poly_Times b0 order (some ad) c ps (.agg #[.bool M.2.neg, .slice zA M.2.num.length zc, .slice zB M.2.den.length zd, .int .i64 mm.x0, .int .i64 mm.x1, .int .i64 mm.x2, .int .i64 mm.x3]) ⟨M.2, mm⟩ _ (Nat.le_trans HB0.out HB11.out.size) (HP.out.up HB11.out) hc HS.out (by
       obtain ⟨x1, x2, x3, x4, e, y1, y2, y3, y4⟩ := HZ.out
       simp only [Value.agg.injEq, Array.mk.injEq, List.cons.injEq, Value.slice.injEq, true_and, and_true] at e
       obtain ⟨⟨rfl, rfl⟩, rfl, rfl⟩ := e
       exact ⟨_, _, _, _, rfl, y1, y2, y3, y4⟩) HMS.out)
   clear hm0 hc
   go_wp2_with fail
   refine CT.out.mono ?_
   rintro e w5 ⟨A', c', rfl, hc', hr', hb5⟩
   have HC' := Hd.mk hc'
   have HR' := Hd.mk hr'
   have HB5 := Hd.mk (goes HB11.out hb5)
   clear hb5 hc' hr'
   go_wp2_with fail
   go_ret2
   rw [HF2.out]
   exact ⟨A', c', rfl, HC'.out, HR'.out, HB5.out⟩
def crossD (o : Int) (p q : List TermD) : Int × List TermD :=
 if (polMay o p && polMay o q) = false then (1, []) else match p, q with
 | t :: _, u :: _ => if (raiseD o (monLcm t.m u.m) p 1).1 ≠ 0 then ((raiseD o (monLcm t.m u.m) p 1).1, []) else if (raiseD o (monLcm t.m u.m) q (-1)).1 ≠ 0 then ((raiseD o (monLcm t.m u.m) q (-1)).1, [])
   else polAdd o [(raiseD o (monLcm t.m u.m) p 1).2, (raiseD o (monLcm t.m u.m) q (-1)).2]
 | _, _ => (1, [])
theorem polTimes_shortP (o : Int) {p : List TermD} {t : TermD} (hp : shortP p) : shortP (polTimes o p t).2 := by
 unfold polTimes
 split
 ·exact ⟨by simp, fun t h => by cases h⟩
 ·split
  ·exact ⟨by simp, fun t h => by cases h⟩
  ·exact ⟨Nat.le_trans (timesL_facts t p).1 hp.1, (timesL_facts t p).2⟩
theorem raiseD_short (o : Int) (m : MonD) {p : List TermD} (s : Int) (hp : shortP p) : shortP (raiseD o m p s).2 := by
 have hn : shortP [] := ⟨by simp, fun t h => by cases h⟩
 unfold raiseD
 cases p with
 | nil => exact hn
 | cons t r =>
   dsimp only
   split
   ·exact hn
   ·split
    ·exact hn
    ·exact polTimes_shortP o hp
theorem pair_Cross (b0 : Nat) (order : Int) (A B : Option Addr) (c d : Nat) (p q : List TermD) (w : World) (hb0 : b0 ≤ w.heap.size) (hp : RPol w b0 A p) (hq : RPol w b0 B q) (hc : p.length ≤ c) (hd : q.length ≤ d) (hps : shortP p) (hqs : shortP q) :
    Calls Tryz.prog 30 #[.int .i64 order, .slice A p.length c, .slice B q.length d] w fun e w' => ∃ A' c', e = .returned (.tuple #[.slice A' (crossD order p q).2.length c', .int .i64 (crossD order p q).1]) ∧
     (crossD order p q).2.length ≤ c' ∧ RPol w' b0 A' (crossD order p q).2 ∧ Below w.heap.size w w' := by
 have HP := Hd.mk hp
 have HQ := Hd.mk hq
 have HPS := Hd.mk hps
 have HQS := Hd.mk hqs
 have HB0 := Hd.mk hb0
 have hlp := hps.1
 have hlq := hqs.1
 clear hp hq hps hqs hb0
 have CMP := Hd.mk (fun W (hB : Below w.heap.size w W) => poly_May b0 order A c p W (HP.out.up hB) hc HPS.out)
 have CMQ := Hd.mk (fun W (hB : Below w.heap.size w W) => poly_May b0 order B d q W (HQ.out.up hB) hd HQS.out)
 go_enter Tryz.func30, Tryz.ntmps30
 go_upto_region 1 with (fail)
 refine wp_gen (fun W => W.cell? ⟨w.heap.size, 0, none⟩ = some (.int .i64 order) ∧ Below w.heap.size w W) ⟨(Bk.new_ w 3 #[.int .i64 order]).one, (Below.refl _ _).alloc (Nat.le_refl _) _⟩ ?_
 intro W1 H1
 have HO1 := H1.out.1
 have HB1 := Hd.mk H1.out.2
 clear H1
 have CMP := Hd.mk (CMP.out W1 HB1.out)
 cases hmp : polMay order p
 case false =>
  have HE : Hd (crossD order p q = (1, [])) := ⟨by unfold crossD; rw [hmp]; rfl⟩
  rw [hmp] at CMP
  clear hmp
  go_wp2_with fail
  refine CMP.out.mono ?_
  rintro e w2 ⟨rfl, hb2⟩
  have HB2 := Hd.mk (goes HB1.out hb2)
  clear hb2
  go_wp2_with fail
  go_ret2
  rw [HE.out]
  exact ⟨none, 0, rfl, Nat.le_refl _, RPol.nil _ _ _, HB2.out⟩
 rw [hmp] at CMP
 go_wp2_with fail
 refine CMP.out.mono ?_
 rintro e w2 ⟨rfl, hb2⟩
 have HB2 := Hd.mk (goes HB1.out hb2)
 have HO2 := cell_up HO1 hb2
 have CMQ := Hd.mk (CMQ.out w2 HB2.out)
 clear hb2 HO1 CMP
 cases hmq : polMay order q
 case false =>
  have HE : Hd (crossD order p q = (1, [])) := ⟨by unfold crossD; rw [hmp, hmq]; rfl⟩
  rw [hmq] at CMQ
  clear hmq hmp
  go_wp2_with fail
  refine CMQ.out.mono ?_
  rintro e w3 ⟨rfl, hb3⟩
  have HB3 := Hd.mk (goes HB2.out hb3)
  clear hb3
  go_wp2_with fail
  go_ret2
  rw [HE.out]
  exact ⟨none, 0, rfl, Nat.le_refl _, RPol.nil _ _ _, HB3.out⟩
 rw [hmq] at CMQ
 have HMM := Hd.mk (And.intro hmp hmq)
 clear hmp hmq
 go_wp2_with fail
 refine CMQ.out.mono ?_
 rintro e w3 ⟨rfl, hb3⟩
 have HB3 := Hd.mk (goes HB2.out hb3)
 have HO3 := Hd.mk (cell_up HO2 hb3)
 clear hb3 HO2 CMQ
 by_cases hp0 : p.length = 0
 case pos =>
  have HE : Hd (crossD order p q = (1, [])) := ⟨by
   obtain rfl := List.length_eq_zero_iff.1 hp0
   unfold crossD; rw [HMM.out.1, HMM.out.2]; rfl⟩
  have e1 : ((p.length : Int) == 0) = true := by rw [hp0]; rfl
  clear hp0
  go_wp2_with fail
  go_ret2
  rw [HE.out]
  exact ⟨none, 0, rfl, Nat.le_refl _, RPol.nil _ _ _, HB3.out⟩
 have e1 : ((p.length : Int) == 0) = false := by rw [beq_eq_false_iff_ne]; omega
 by_cases hq0 : q.length = 0
 case pos =>
  have HE : Hd (crossD order p q = (1, [])) := ⟨by
   obtain rfl := List.length_eq_zero_iff.1 hq0
   unfold crossD; rw [HMM.out.1, HMM.out.2]; cases p <;> rfl⟩
  have e2 : ((q.length : Int) == 0) = true := by rw [hq0]; rfl
  clear hq0 hp0
  go_wp2_with fail
  go_ret2
  rw [HE.out]
  exact ⟨none, 0, rfl, Nat.le_refl _, RPol.nil _ _ _, HB3.out⟩
 have e2 : ((q.length : Int) == 0) = false := by rw [beq_eq_false_iff_ne]; omega
 have e3 : (0 : Int) < p.length := by omega
 have e4 : (0 : Int) < q.length := by omega
 have hp1 : 0 < p.length := by omega
 have hq1 : 0 < q.length := by omega
 clear hp0 hq0
 obtain ⟨ad, P1, pc1, P2, pc2, t, rfl, -, hti, -, -, -, -, s3, s4, s5, s6⟩ := (HP.out.up HB3.out).get hp1
 obtain ⟨bd, Q1, qc1, Q2, qc2, u, rfl, -, hui, -, -, -, -, u3, u4, u5, u6⟩ := (HQ.out.up HB3.out).get hq1
 rw [Nat.zero_mul, add_none] at s3 s4 s5 s6 u3 u4 u5 u6
 have HE : Hd (crossD order p q = if (raiseD order (monLcm t.m u.m) p 1).1 ≠ 0 then ((raiseD order (monLcm t.m u.m) p 1).1, []) else if (raiseD order (monLcm t.m u.m) q (-1)).1 ≠ 0 then ((raiseD order (monLcm t.m u.m) q (-1)).1, [])
     else polAdd order [(raiseD order (monLcm t.m u.m) p 1).2, (raiseD order (monLcm t.m u.m) q (-1)).2]) := ⟨by
  obtain ⟨p', hp'⟩ := head_is hti.out
  obtain ⟨q', hq'⟩ := head_is hui.out
  subst hp' hq'
  unfold crossD
  rw [HMM.out.1, HMM.out.2]
  rfl⟩
 have CL := Hd.mk (mono_Lcm t.m u.m)
 obtain ⟨m, hm⟩ : ∃ m, monLcm t.m u.m = m := ⟨_, rfl⟩
 rw [hm] at CL HE
 have SO := Hd.mk (fun W (hB : Below w3.heap.size w3 W) => And.intro (Hd.mk hB) (And.intro (cell_up s3 hB) (And.intro (cell_up s4 hB) (And.intro (cell_up s5 hB) (And.intro (cell_up s6 hB) (And.intro (cell_up u3 hB) (And.intro (cell_up u4 hB) (And.intro (cell_up u5 hB) (cell_up u6 hB)))))))))
 clear hm hti hui HMM HB1 HB2
 go_wp2_with fail
 go_cut [8] (fun v8 wx => ∃ g8, v8 = .pointer (some ⟨g8, 0, none⟩) ∧ Hd (Bk wx g8 66 #[.int .i64 m.x0, .int .i64 m.x1, .int .i64 m.x2, .int .i64 m.x3]) ∧ Hd (Below w3.heap.size w3 wx))
 case first =>
  go_region_held3 (fun W => Hd (Below w3.heap.size w3 W) ∧ W.cell? ⟨ad.block, ad.off + 3, none⟩ = some (.int .i64 t.m.x0) ∧ W.cell? ⟨ad.block, ad.off + 3 + 1, none⟩ = some (.int .i64 t.m.x1) ∧ W.cell? ⟨ad.block, ad.off + 3 + 2, none⟩ = some (.int .i64 t.m.x2) ∧ W.cell? ⟨ad.block, ad.off + 3 + 3, none⟩ = some (.int .i64 t.m.x3) ∧
      W.cell? ⟨bd.block, bd.off + 3, none⟩ = some (.int .i64 u.m.x0) ∧ W.cell? ⟨bd.block, bd.off + 3 + 1, none⟩ = some (.int .i64 u.m.x1) ∧ W.cell? ⟨bd.block, bd.off + 3 + 2, none⟩ = some (.int .i64 u.m.x2) ∧ W.cell? ⟨bd.block, bd.off + 3 + 3, none⟩ = some (.int .i64 u.m.x3))
   (first
    | with_reducible exact SO.out _ (.refl _ _)
    | with_reducible exact SO.out _ (Below.refl _ _).drew
    | with_reducible exact SO.out _ ((Below.refl _ _).drew.alloc (Nat.le_refl _) _)
    | with_reducible exact SO.out _ ((Below.refl _ _).alloc (Nat.le_refl _) _).drew
    | with_reducible exact SO.out _ hB5
    | with_reducible exact SO.out _ (hB5.alloc hB5.size _)
    | with_reducible exact SO.out _ (below_set4 hB5 (Nat.le_refl _) _ _ _ _)
    | with_reducible exact SO.out _ (below_set4 (hB5.alloc hB5.size _) hB5.size _ _ _ _)
    | fail)
   (first
    | (go_at_call 92; have hB := ‹Hd (Below w3.heap.size w3 _) ∧ _›.1; with_reducible refine (CL.out ((w3.alloc (Obj.cells #[.int .i64 0, .int .i64 0, .int .i64 0, .int .i64 0] 66)).drew)).mono ?_; rintro e w8 ⟨rfl, hb⟩
       have hB5 := hB.out.trans (hb.lo.mono hB.out.size)
       have hk := Hd.mk ((Bk.new_ w3 66 #[.int .i64 0, .int .i64 0, .int .i64 0, .int .i64 0]).d1.up hb.lo)
       obtain ⟨p6, p7, p8, p9⟩ := hk.out.four
       have fz := fun i => hk.out.froz i)
    | (go_at_call 92; have hB := ‹Hd (Below w3.heap.size w3 _) ∧ _›.1; with_reducible refine (CL.out _).mono ?_; rintro e w8 ⟨rfl, hb⟩
       have hB5 := hB.out.trans (hb.lo.mono hB.out.size)))
  all_goals
   go_wp2_with fail
   go_meet
   first
   | exact ⟨_, rfl, ⟨hk.out.set4 (.int .i64 m.x0) (.int .i64 m.x1) (.int .i64 m.x2) (.int .i64 m.x3)⟩, ⟨below_set4 hB5 (Nat.le_refl _) (.int .i64 m.x0) (.int .i64 m.x1) (.int .i64 m.x2) (.int .i64 m.x3)⟩⟩
   | exact ⟨_, rfl, ⟨Bk.new_ w8 66 #[.int .i64 m.x0, .int .i64 m.x1, .int .i64 m.x2, .int .i64 m.x3]⟩, ⟨hB5.alloc hB5.size (Obj.cells #[.int .i64 m.x0, .int .i64 m.x1, .int .i64 m.x2, .int .i64 m.x3] 66)⟩⟩
 case rest =>
  obtain ⟨g8, rfl, K8, HB4⟩ := hcut
  clear SO CL s3 s4 s5 s6 u3 u4 u5 u6
  have HBW := Hd.mk (goes HB3.out HB4.out)
  have CP := Hd.mk (cross_1 b0 order (some ad) c p g8 w.heap.size m 1 wc (Nat.le_trans HB0.out HBW.out.size) (HP.out.up HBW.out) hc HPS.out hp1 (by decide) (by decide) K8.out (cell_up HO3.out HB4.out))
  have CQ := Hd.mk (fun W (hB : Below wc.heap.size wc W) => cross_1 b0 order (some bd) d q g8 w.heap.size m (-1) W (Nat.le_trans HB0.out (goes HBW.out hB).size) (HQ.out.up (goes HBW.out hB)) hd HQS.out hq1 (by decide) (by decide) (K8.out.up hB) (cell_up HO3.out (goes HB4.out hB)))
  have HXS := Hd.mk (raiseD_short order m 1 HPS.out)
  have HYS := Hd.mk (raiseD_short order m (-1) HQS.out)
  obtain ⟨X, hX⟩ : ∃ X, raiseD order m p 1 = X := ⟨_, rfl⟩
  obtain ⟨Y, hY⟩ : ∃ Y, raiseD order m q (-1) = Y := ⟨_, rfl⟩
  rw [hX] at CP HE HXS
  rw [hY] at CQ HE HYS
  clear hX hY hc hd
  go_wp2_with fail
  refine CP.out.mono ?_
  rintro e w5 ⟨XA, xc, rfl, hxc, hx, hb5⟩
  have HX := Hd.mk hx
  have HB5 := Hd.mk hb5
  have HXC := Hd.mk hxc
  clear hx hb5 hxc CP
  by_cases hx0 : X.1 = 0
  case neg =>
   have e5 : (X.1 != 0) = true := by rw [bne_iff_ne]; exact hx0
   have HF : Hd (crossD order p q = (X.1, [])) := ⟨by rw [HE.out, if_pos hx0]⟩
   clear hx0
   go_wp2_with fail
   go_ret2
   rw [HF.out]
   exact ⟨none, 0, rfl, Nat.le_refl _, RPol.nil _ _ _, goes HBW.out HB5.out⟩
  have e5 : (X.1 != 0) = false := by rw [bne_eq_false_iff_eq]; exact hx0
  have HE2 : Hd (crossD order p q = if Y.1 ≠ 0 then (Y.1, []) else polAdd order [X.2, Y.2]) := ⟨by rw [HE.out, if_neg (by rw [hx0]; simp)]⟩
  have CQ := Hd.mk (CQ.out w5 HB5.out)
  clear hx0
  go_wp2_with fail
  refine CQ.out.mono ?_
  rintro e w6 ⟨YA, yc, rfl, hyc, hy, hb6⟩
  have HY := Hd.mk hy
  have HX6 := Hd.mk (HX.out.up hb6)
  have HB6 := Hd.mk (goes HB5.out hb6)
  have HYC := Hd.mk hyc
  clear hy hb6 hyc CQ
  by_cases hy0 : Y.1 = 0
  case neg =>
   have e6 : (Y.1 != 0) = true := by rw [bne_iff_ne]; exact hy0
   have HF : Hd (crossD order p q = (Y.1, [])) := ⟨by rw [HE2.out, if_pos hy0]⟩
   clear hy0
   go_wp2_with fail
   go_ret2
   rw [HF.out]
   exact ⟨none, 0, rfl, Nat.le_refl _, RPol.nil _ _ _, goes HBW.out HB6.out⟩
  have e6 : (Y.1 != 0) = false := by rw [bne_eq_false_iff_eq]; exact hy0
  have HF : Hd (crossD order p q = polAdd order [X.2, Y.2]) := ⟨by rw [HE2.out, if_neg (by rw [hy0]; simp)]⟩
  have ho := cell_up HO3.out (goes HB4.out HB6.out)
  have hbn : Below w6.heap.size w6 (w6.alloc (Obj.cells #[.slice XA X.2.length xc, .slice YA Y.2.length yc] 25)) := (Below.refl _ _).alloc (Nat.le_refl _) _
  have ho7 := cell_up ho hbn
  have HB7 := Hd.mk (goes (goes HBW.out HB6.out) hbn)
  have CA := Hd.mk (poly_Add b0 order (some ⟨w6.heap.size, 0, none⟩) 2 [X.2, Y.2] _ (Nat.le_trans HB0.out HB7.out.size) (rpols_bk2 (p := X.2) (q := Y.2) (Bk.new_ w6 25 #[.slice XA X.2.length xc, .slice YA Y.2.length yc]) (HX6.out.up hbn) (HY.out.up hbn) HXC.out HYC.out) (Nat.le_refl _) ⟨by simp, fun z hz => by
          simp only [List.mem_cons, List.not_mem_nil, or_false] at hz
          rcases hz with rfl | rfl
          ·exact HXS.out
          ·exact HYS.out⟩)
  obtain ⟨Z, hZ⟩ : ∃ Z, polAdd order [X.2, Y.2] = Z := ⟨_, rfl⟩
  rw [hZ] at CA HF
  clear hZ hy0 hbn
  go_wp2_with fail
  refine CA.out.mono ?_
  rintro e w8 ⟨ZA, zc, rfl, hzc, hz, hb8⟩
  have HZ := Hd.mk hz
  have HZC := Hd.mk hzc
  have HB8 := Hd.mk (goes HB7.out hb8)
  clear hz hb8 hzc
  go_wp2_with fail
  go_ret2
  rw [HF.out]
  exact ⟨ZA, zc, rfl, HZC.out, HZ.out, HB8.out⟩
end Go.Proofs.YtgjkgkgieeoalaaGreat
namespace Go.Proofs.YtgjkgkgieeoalaaGreat
theorem addD_lit {r s : RatD} (hr : Lit r) (hs : Lit s) : (addD r s).1 = 0 := by
 obtain ⟨g, a, b⟩ := hr
 obtain ⟨g', a', b'⟩ := hs
 have key : ∀ x y : Nat, x < 18446744073709551616 → y < 18446744073709551616 → x * y ≤ 18446744073709551616 ^ 2 := fun x y hx hy =>
  Nat.le_trans (Nat.mul_le_mul (Nat.le_of_lt hx) (Nat.le_of_lt hy)) (by decide)
 have l1 := key _ _ a b'
 have l2 := key _ _ a' b
 have l3 := key _ _ b b'
 have hp : (plusD r.neg (val r.num * val s.den) s.neg (val s.num * val r.den)).2 ≤ val r.num * val s.den + val s.num * val r.den := by
  have h := sg_plus r.neg (val r.num * val s.den) s.neg (val s.num * val r.den)
  have h2 := congrArg Int.natAbs h
  rw [sg_abs] at h2
  rw [h2]
  refine Nat.le_trans (Int.natAbs_add_le _ _) ?_
  rw [sg_abs, sg_abs]
  exact Nat.le_refl _
 have lim : ∀ n : Nat, n ≤ 18446744073709551616 ^ 2 + 18446744073709551616 ^ 2 → (limbs n).length ≤ 8 := fun n h => limbs_len.2 (Nat.lt_of_le_of_lt h (by decide))
 have hb : isBig [limbs (val r.num * val s.den), limbs (val s.num * val r.den), limbs (plusD r.neg (val r.num * val s.den) s.neg (val s.num * val r.den)).2, limbs (val r.den * val s.den)] = false := isBig_no fun x hx => by
  simp only [List.mem_cons, List.not_mem_nil, or_false] at hx
  rcases hx with rfl | rfl | rfl | rfl
  ·exact lim _ (by omega)
  ·exact lim _ (by omega)
  ·exact lim _ (by omega)
  ·exact lim _ (by omega)
 unfold addD
 rw [g.may, g'.may, if_neg (by simp), hb, if_neg (by simp), makeD_q _ _ _ (Nat.mul_ne_zero g.den g'.den) (lim _ (by omega)) (lim _ (by omega))]
theorem hasM_of {al : List TermD} {m : MonD} (h : hasM al m = true) : ∃ x ∈ al, x.m = m ∧ getM al m = x.c := by
 unfold hasM at h
 unfold getM
 cases e : al.find? fun p => decide (p.m = m) with
 | none =>
   rw [List.find?_eq_none] at e
   obtain ⟨x, hx, h2⟩ := List.any_eq_true.1 h
   exact absurd h2 (e x hx)
 | some x => exact ⟨x, List.mem_of_find?_eq_some e, by simpa using List.find?_some e, rfl⟩
theorem putAll_cons (o : Int) (al : List TermD) (t : TermD) (ts : List TermD) : putAll o al (t :: ts) = if (putD o al t).1 ≠ 0 then ((putD o al t).1, []) else putAll o (putD o al t).2 ts := rfl
theorem putAll_app {o : Int} : ∀ {a b al : List TermD}, (putAll o al a).1 = 0 → putAll o al (a ++ b) = putAll o (putAll o al a).2 b
 | [], b, al, _ => rfl
 | t :: a, b, al, h => by
   rw [List.cons_append, putAll_cons, putAll_cons]
   rw [putAll_cons] at h
   by_cases h1 : (putD o al t).1 = 0
   ·have h2 : ¬ (putD o al t).1 ≠ 0 := fun h => h h1
    rw [if_neg h2] at h
    rw [if_neg h2, if_neg h2, putAll_app h]
   ·rw [if_pos (by simpa using h1)] at h
    exact absurd h h1
theorem putAll_fresh {o : Int} : ∀ {ts al : List TermD}, (ts.Pairwise fun p q => p.m ≠ q.m) → (∀ t ∈ ts, ∀ x ∈ al, x.m ≠ t.m) → (putAll o al ts).1 = 0 ∧ ∀ x ∈ (putAll o al ts).2, x ∈ al ∨ x ∈ ts
 | [], al, _, _ => ⟨rfl, fun x h => .inl h⟩
 | t :: ts, al, hp, hf => by
   obtain ⟨h1, h2⟩ := List.pairwise_cons.1 hp
   have hno : ¬ hasM al t.m = true := fun h => by
    obtain ⟨x, hx, e, _⟩ := hasM_of h
    exact hf t (by simp) x hx e
   have e : putD o al t = (0, insD o t al) := by unfold putD; rw [if_neg hno]
   obtain ⟨a1, a2⟩ := putAll_fresh (o := o) (ts := ts) (al := insD o t al) h2 fun s hs x hx => by
    rcases mem_insD.1 hx with rfl | hx
    ·exact h1 s hs
    ·exact hf s (by simp [hs]) x hx
   rw [putAll_cons, e]
   simp only [ne_eq, not_true_eq_false, if_false]
   refine ⟨a1, fun x hx => ?_⟩
   rcases a2 x hx with h | h
   ·rcases mem_insD.1 h with rfl | h
    ·exact .inr (by simp)
    ·exact .inl h
   ·exact .inr (by simp [h])
theorem putAll_lit {o : Int} : ∀ {ts al : List TermD}, (ts.Pairwise fun p q => p.m ≠ q.m) → (∀ t ∈ ts, Lit t.c) → (∀ x ∈ al, Lit x.c ∨ ∀ t ∈ ts, t.m ≠ x.m) → (putAll o al ts).1 = 0
 | [], al, _, _, _ => rfl
 | t :: ts, al, hp, hl, hf => by
   obtain ⟨h1, h2⟩ := List.pairwise_cons.1 hp
   have hl' : ∀ s ∈ ts, Lit s.c := fun s hs => hl s (by simp [hs])
   by_cases hm : hasM al t.m = true
   ·obtain ⟨x, hx, e, eg⟩ := hasM_of hm
    have hx1 : Lit x.c := by
     rcases hf x hx with h | h
     ·exact h
     ·exact absurd e.symm (h t (by simp))
    have ha := addD_lit hx1 (hl t (by simp))
    have e2 : putD o al t = (0, setM al t.m (addD x.c t.c).2) := by unfold putD; rw [if_pos hm, eg, if_neg (by rw [ha]; simp)]
    rw [putAll_cons, e2]
    simp only [ne_eq, not_true_eq_false, if_false]
    refine putAll_lit h2 hl' fun y hy => ?_
    obtain ⟨z, hz, rfl⟩ := List.mem_map.1 hy
    split
    ·exact .inr fun s hs e => h1 s hs e.symm
    ·rcases hf z hz with h | h
     ·exact .inl h
     ·exact .inr fun s hs => h s (by simp [hs])
   ·have e2 : putD o al t = (0, insD o t al) := by unfold putD; rw [if_neg hm]
    rw [putAll_cons, e2]
    simp only [ne_eq, not_true_eq_false, if_false]
    refine putAll_lit h2 hl' fun y hy => ?_
    rcases mem_insD.1 hy with rfl | hy
    ·exact .inl (hl _ (by simp))
    ·rcases hf y hy with h | h
     ·exact .inl h
     ·exact .inr fun s hs => h s (by simp [hs])
theorem polAdd_lit {o : Int} {X Y : List TermD} (hX : CP o X) (hY : CP o Y) (hl : X.length + Y.length ≤ 60) (lX : ∀ x ∈ X, Lit x.c) (lY : ∀ x ∈ Y, Lit x.c) :
    ∃ Z, polAdd o [X, Y] = (0, Z) ∧ CP o Z ∧ ∀ f, lin f Z = lin f X + lin f Y := by
 have hps : ∀ p ∈ [X, Y], CP o p := fun p hp => by
  simp only [List.mem_cons, List.not_mem_nil, or_false] at hp
  rcases hp with rfl | rfl
  ·exact hX
  ·exact hY
 have ef : [X, Y].flatten = X ++ Y := by simp
 obtain ⟨a1, a2⟩ := putAll_fresh (o := o) (ts := X) (al := []) hX.canon.sta.keys (fun t _ x hx => by cases hx)
 have a3 := putAll_lit (o := o) (ts := Y) (al := (putAll o [] X).2) hY.canon.sta.keys lY fun x hx => by
  rcases a2 x hx with h | h
  ·cases h
  ·exact .inl (lX x h)
 have a4 : (putAll o [] (X ++ Y)).1 = 0 := by rw [putAll_app a1]; exact a3
 have a5 : (putAll o [] (X ++ Y)).2.length ≤ (X ++ Y).length := putAll_len (o := o) (by rw [← a4])
 have hg : GoodP (X ++ Y) := hX.canon.good.app hY.canon.good
 have h0 : (polAdd o [X, Y]).1 = 0 := by
  rw [polAdd_make hps, ef]
  unfold polMake
  rw [anyOdd_good hg, show ordered o = true from hX.may |> fun h => by unfold polMay at h; simp only [Bool.and_eq_true] at h; exact h.2.1, if_neg (by simp), if_neg (by rw [a4]; simp), if_neg (by
   have := List.length_filter_le nz (putAll o [] (X ++ Y)).2
   rw [List.length_append] at a5
   omega)]
 obtain ⟨b1, b2⟩ := polAdd_good hps h0
 refine ⟨_, Prod.ext h0 rfl, b1, fun f => ?_⟩
 rw [b2 f, ef, lin_app]
structure RaiseOk (o : Int) (m by_ : MonD) (s : Int) (t : TermD) (p X : List TermD) : Prop where
 cp : CP o X
 len : X.length = (t :: p).length
 lit : ∀ x ∈ X, Lit x.c
 lin : ∀ f, lin f X = ((s : Rat) * (qv t.c)⁻¹) * lin (fun n => f (addM n by_)) (t :: p)
 head : ∃ x X', X = x :: X' ∧ x.m = m ∧ qv x.c = (s : Rat)
theorem raise_good {o : Int} {m by_ : MonD} {s : Int} {t : TermD} {p : List TermD} (hp : SmP o (t :: p)) (hs : s = 1 ∨ s = -1) (hd : monDiv m t.m = (true, by_)) (hf : Fits (t :: p) by_) :
    ∃ X, raiseD o m (t :: p) s = (0, X) ∧ RaiseOk o m by_ s t p X := by
 have tm : t ∈ t :: p := by simp
 have hcp := hp.cp
 obtain ⟨m1, m2, m3, m4⟩ := monDiv_true hd
 have hint : ∀ x ∈ t :: p, Lit x.c ∧ val x.c.num ≤ 1280 ∧ val x.c.den = 1 := fun x hx => by
  obtain ⟨n, e⟩ := hp.pol.ints.int x hx
  have h1 := Nat.le_trans (mass_mem hx) hp.pol.ints.mass
  have h2 : val x.c.den = 1 := by rw [e]; rfl
  exact ⟨⟨(hp.pol.canon.good x hx).c, by omega, by omega⟩, h1, h2⟩
 obtain ⟨lt, tn, td⟩ := hint t tm
 have tz := hp.pol.canon.nz t tm
 have tz' : t.c.num.length ≠ 0 := by unfold nz at tz; simpa using tz
 have tq := (hp.pol.canon.good t tm).ne tz
 obtain ⟨i1, i2⟩ := invD_q lt.1 tz'
 have ik : invD t.c = (0, ⟨t.c.neg, t.c.den, t.c.num⟩) := by
  unfold invD
  rw [lt.1.may, if_neg (by simp), if_neg tz']
 obtain ⟨r, hr⟩ : ∃ r, (invD t.c).2 = r := ⟨_, rfl⟩
 have r1 : r = ofQ (qv t.c)⁻¹ := by rw [← hr, i1]
 have rq : qv r = (qv t.c)⁻¹ := by rw [r1, qv_ofQ]
 have rn : val r.num = 1 ∧ val r.den = val t.c.num := by
  rw [← hr, ik]; exact ⟨td, rfl⟩
 have rg : GoodR r := by rw [r1]; exact ofQ_good i2
 have rl : Lit r := ⟨rg, by omega, by omega⟩
 have sa : s.natAbs = 1 := by rcases hs with rfl | rfl <;> rfl
 have sl : Lit (ofD s) ∧ val (ofD s).num = 1 ∧ val (ofD s).den = 1 := by
  have h1 : val (ofD s).num = 1 := by rw [val_ofD]; exact sa
  have h2 : val (ofD s).den = 1 := rfl
  exact ⟨⟨ofD_good (by omega), by omega, by omega⟩, h1, h2⟩
 obtain ⟨k1, kg, kq, kn, kd⟩ := mulD_lit rl sl.1
 rw [rn.1, sl.2.1] at kn
 rw [rn.2, sl.2.2] at kd
 obtain ⟨k, hk⟩ : ∃ k, (mulD r (ofD s)).2 = k := ⟨_, rfl⟩
 rw [hk] at kg kq kn kd
 rw [rq, qv_ofD] at kq
 have kl : Lit k := ⟨kg, by omega, by omega⟩
 have sne : (s : Rat) ≠ 0 := by rcases hs with rfl | rfl <;> decide
 have tine : (qv t.c)⁻¹ ≠ 0 := fun h => by
  have := Rat.mul_inv_cancel _ tq
  rw [h, Rat.mul_zero] at this
  exact absurd this (by decide)
 have kne : qv k ≠ 0 := by
  rw [kq]
  intro h
  rcases Rat.mul_eq_zero.1 h with h | h
  ·exact tine h
  ·exact sne h
 have hT : GoodT ⟨k, by_⟩ := ⟨kg, m3⟩
 have hz : nz ⟨k, by_⟩ = true := nz_of kg kne
 have each : ∀ x ∈ t :: p, (mulD x.c k).1 = 0 ∧ monMul x.m by_ = (0, addM x.m by_) := fun x hx => ⟨(mulD_lit (hint x hx).1 kl).1, monMul_of (hcp.canon.good x hx).m m3 (hf x hx)⟩
 have hok : ∀ x ∈ t :: p, TimesOk x ⟨k, by_⟩ := fun x hx => timesOk (hcp.canon.good x hx) hT (each x hx).1 (by rw [(each x hx).2])
 have hX : polTimes o (t :: p) ⟨k, by_⟩ = (0, (t :: p).map fun x => mulT x ⟨k, by_⟩) := by rw [polTimes_timesL hcp hT hz]; exact timesL_map each
 refine ⟨_, ?_, ⟨canon_times hcp.canon hT hz hok, by rw [List.length_map]; exact hcp.len⟩, by rw [List.length_map], fun x hx => ?_, fun f => ?_, ⟨_, _, rfl, m4, ?_⟩⟩
 ·unfold raiseD
  simp only
  rw [hr, show (invD t.c).1 = 0 by rw [i1], if_neg (by simp), k1, if_neg (by simp), hk, hd]
  exact hX
 ·obtain ⟨y, hy, rfl⟩ := List.mem_map.1 hx
  obtain ⟨a1, a2, a3⟩ := hint y hy
  obtain ⟨_, b2, b3, b4, b5⟩ := mulD_lit a1 kl
  rw [a3] at b5
  exact ⟨b2, Nat.lt_of_le_of_lt b4 (Nat.lt_of_le_of_lt (Nat.mul_le_mul a2 kn) (by omega)), Nat.lt_of_le_of_lt b5 (by omega)⟩
 ·rw [lin_timesM f hok, kq]
  congr 1
  exact Rat.mul_comm _ _
 ·rw [(hok t tm).val, kq, ← Rat.mul_assoc, Rat.mul_inv_cancel _ tq, Rat.one_mul]
theorem cross_divs {o : Int} {t u : TermD} {p q : List TermD} (hp : SmP o (t :: p)) (hq : SmP o (u :: q)) :
    ∃ m b1 b2, monLcm t.m u.m = m ∧ monMay m = true ∧ monDiv m t.m = (true, b1) ∧ monDiv m u.m = (true, b2) ∧ Fits (t :: p) b1 ∧ Fits (u :: q) b2 ∧ Low 3 [⟨zeroD, m⟩] ∧ m = maxM t.m u.m := by
 have lt := hp.low t (by simp)
 have lu := hq.low u (by simp)
 have mt := hp.pol.canon.sta.good t (by simp)
 have mu := hq.pol.canon.sta.good u (by simp)
 have e : monLcm t.m u.m = maxM t.m u.m := by unfold monLcm; rw [mt, mu]; rfl
 have hm : monMay (maxM t.m u.m) = true := monMay_low (by simp only [maxM]; omega)
 have d1 : monDiv (maxM t.m u.m) t.m = (true, subM (maxM t.m u.m) t.m) := monDiv_of hm mt (monMay_low (by simp only [maxM, subM]; omega)) (by
  unfold addM subM
  rcases h : maxM t.m u.m with ⟨a, b, c, d⟩
  simp only [MonD.mk.injEq]
  omega)
 have d2 : monDiv (maxM t.m u.m) u.m = (true, subM (maxM t.m u.m) u.m) := monDiv_of hm mu (monMay_low (by simp only [maxM, subM]; omega)) (by
  unfold addM subM
  rcases h : maxM t.m u.m with ⟨a, b, c, d⟩
  simp only [MonD.mk.injEq]
  omega)
 refine ⟨_, _, _, e, hm, d1, d2, fun x hx => ?_, fun x hx => ?_, fun x hx => ?_, rfl⟩
 ·have lx := hp.low x hx
  exact monMay_low (by simp only [addM, maxM, subM]; omega)
 ·have lx := hq.low x hx
  exact monMay_low (by simp only [addM, maxM, subM]; omega)
 ·simp only [List.mem_singleton] at hx
  subst hx
  simp only [maxM]
  omega
structure CrossOk (o : Int) (m b1 b2 : MonD) (t u : TermD) (p q X Y Z : List TermD) : Prop where
 eq : crossD o (t :: p) (u :: q) = (0, Z)
 cp : CP o Z
 x : RaiseOk o m b1 1 t p X
 y : RaiseOk o m b2 (-1) u q Y
 sum : ∀ f, lin f Z = lin f X + lin f Y
theorem cross_good {o : Int} {t u : TermD} {p q : List TermD} (hp : SmP o (t :: p)) (hq : SmP o (u :: q)) {m b1 b2 : MonD} (e : monLcm t.m u.m = m) (d1 : monDiv m t.m = (true, b1)) (d2 : monDiv m u.m = (true, b2)) (f1 : Fits (t :: p) b1) (f2 : Fits (u :: q) b2) :
    ∃ X Y Z, CrossOk o m b1 b2 t u p q X Y Z := by
 obtain ⟨X, eX, hX⟩ := raise_good hp (.inl rfl) d1 f1
 obtain ⟨Y, eY, hY⟩ := raise_good (s := -1) hq (.inr rfl) d2 f2
 have l1 := hp.len
 have l2 := hq.len
 obtain ⟨Z, eZ, cZ, sZ⟩ := polAdd_lit hX.cp hY.cp (by rw [hX.len, hY.len]; omega) hX.lit hY.lit
 refine ⟨X, Y, Z, ?_, cZ, hX, hY, sZ⟩
 unfold crossD
 rw [hp.cp.may, hq.cp.may, if_neg (by simp)]
 simp only
 rw [e, eX, eY, if_neg (by simp), if_neg (by simp)]
 exact eZ
theorem CrossOk.below {o : Int} {m b1 b2 : MonD} {t u : TermD} {p q X Y Z : List TermD} (h : CrossOk o m b1 b2 t u p q X Y Z) (hm : monMay m = true) {v : TermD} (hv : v ∈ Z) : monCmp o v.m m < 0 := by
 have ho := h.cp.ord
 obtain ⟨x, X', rfl, xm, xq⟩ := h.x.head
 obtain ⟨y, Y', rfl, ym, yq⟩ := h.y.head
 have vm := h.cp.canon.sta.good v hv
 have hne := h.cp.ne hv
 have e0 := lin_ind_mem h.cp.canon.sta.keys hv
 have bx : ∀ z ∈ X', monCmp o z.m m < 0 := fun z hz => by
  have h1 := h.x.cp.below z hz
  rw [xm] at h1
  have h2 := monCmp_anti ho hm (h.x.cp.canon.sta.good z (by simp [hz]))
  omega
 have by_ : ∀ z ∈ Y', monCmp o z.m m < 0 := fun z hz => by
  have h1 := h.y.cp.below z hz
  rw [ym] at h1
  have h2 := monCmp_anti ho hm (h.y.cp.canon.sta.good z (by simp [hz]))
  omega
 have far : ∀ (l : List TermD) (k : MonD), (∀ z ∈ l, z.m ≠ k) → lin (ind k) l = 0 := fun l k hl => lin_ind_not hl
 by_cases hvm : v.m = m
 ·exfalso
  have s := h.sum (ind v.m)
  rw [e0, hvm] at s
  have z1 := far X' m fun z hz e => by
   have := bx z hz
   rw [e, (monCmp_zero ho hm hm).2 rfl] at this
   omega
  have z2 := far Y' m fun z hz e => by
   have := by_ z hz
   rw [e, (monCmp_zero ho hm hm).2 rfl] at this
   omega
  simp only [lin, z1, z2, xm, ym, xq, yq, ind, if_true] at s
  apply hne
  rw [s, Rat.intCast_neg]
  grind
 ·have hin : (∃ z ∈ X', z.m = v.m) ∨ ∃ z ∈ Y', z.m = v.m := by
    by_cases h1 : ∃ z ∈ X', z.m = v.m
    ·exact .inl h1
    by_cases h2 : ∃ z ∈ Y', z.m = v.m
    ·exact .inr h2
    exfalso
    have s := h.sum (ind v.m)
    have z1 := far X' v.m fun z hz e => h1 ⟨z, hz, e⟩
    have z2 := far Y' v.m fun z hz e => h2 ⟨z, hz, e⟩
    have i0 : ind v.m m = 0 := by unfold ind; rw [if_neg (Ne.symm hvm)]
    rw [e0] at s
    simp only [lin, z1, z2, xm, ym, i0, Rat.mul_zero, Rat.add_zero] at s
    exact hne s
  rcases hin with ⟨z, hz, e⟩ | ⟨z, hz, e⟩
  ·rw [← e]; exact bx z hz
  ·rw [← e]; exact by_ z hz
end Go.Proofs.YtgjkgkgieeoalaaGreat
