/- Parts of the proof, joined: each theorem says what it shows. -/
import Derived.Test.YtgjkgkgieeoalaaGreatB33
import Derived.Test.YtgjkgkgieeoalaaGreatB30
import Derived.Test.YtgjkgkgieeoalaaGreatB28
import Derived.Test.YtgjkgkgieeoalaaGreatB25
set_option linter.unusedVariables false
set_option linter.unusedSimpArgs false
set_option maxHeartbeats 24000000
set_option maxRecDepth 100000
namespace Go.Proofs.YtgjkgkgieeoalaaGreat
open Go.RowKit
def chainAt (ls : List MonD) (x : Int × Int) (ps : List (Int × Int)) (k : Nat) : Bool :=
 !(decide ((k : Int) = x.1) || decide ((k : Int) = x.2)) && (monDiv (monLcm (atM ls x.1) (atM ls x.2)) (atM ls k)).1 && !hasP ps x.1 k && !hasP ps x.2 k
def chainD (ls : List MonD) (x : Int × Int) (ps : List (Int × Int)) : Bool := rightD ls.length x && (List.range ls.length).any (chainAt ls x ps)
theorem chain_yes {ls : List MonD} {x : Int × Int} {ps : List (Int × Int)} {k : Nat} (hr : rightD ls.length x = true) (hk : k < ls.length) (h : chainAt ls x ps k = true) : chainD ls x ps = true := by
 unfold chainD
 rw [hr, Bool.true_and]
 exact List.any_eq_true.2 ⟨k, List.mem_range.2 hk, h⟩
theorem chain_no {ls : List MonD} {x : Int × Int} {ps : List (Int × Int)} (h : ∀ k, k < ls.length → chainAt ls x ps k = false) : chainD ls x ps = false := by
 unfold chainD
 rw [Bool.and_eq_false_iff]
 right
 rw [List.any_eq_false]
 intro k hk
 rw [h k (List.mem_range.1 hk)]
 simp
theorem upto_step {P : Nat → Bool} {i : Nat} (h : ∀ j, j < i → P j = false) (hi : P i = false) : ∀ j, j < i + 1 → P j = false := fun j hj => by
 rcases Nat.lt_or_ge j i with h' | h'
 ·exact h j h'
 ·obtain rfl : j = i := by omega
  exact hi
theorem pair_Chained (A B : Option Addr) (c d : Nat) (ls : List MonD) (x y : Int) (ps : List (Int × Int)) (w : World) (h : RMons w A ls) (hl : ls.length ≤ 1000000) (hp : RPrs w B ps) (hpl : ps.length ≤ 1000000) :
    Calls Tryz.prog 35 #[.slice A ls.length c, .agg #[.int .i64 x, .int .i64 y], .slice B ps.length d] w fun e w' => e = .returned (.bool (chainD ls (x, y) ps)) ∧ Below w.heap.size w w' := by
 have HR := Hd.mk h
 have HP := Hd.mk hp
 clear h hp
 have CR := Hd.mk (fun W => pair_right A ls.length c x y W)
 go_enter Tryz.func35, Tryz.ntmps35
 go_upto_region 1 with (fail)
 refine wp_gen (fun W => Bo2 w.heap.size w.heap.size (w.heap.size + 1) w W 23 30 #[.int .i64 x, .int .i64 y] #[.slice B ps.length d]) (Bo2.mk2 w _ _ _ _) ?_
 intro W1 BX1
 generalize w.heap.size + 1 = g5 at BX1 ⊢
 obtain ⟨d0, d1⟩ := BX1.out.k1.pair
 cases hr : rightD ls.length (x, y)
 case false =>
  rw [hr] at CR
  have HE : Hd (chainD ls (x, y) ps = false) := ⟨by unfold chainD; rw [hr]; rfl⟩
  clear hr
  go_wp2_with fail
  refine (CR.out _).mono ?_
  rintro e w2 ⟨rfl, hb⟩
  have HB2 := Hd.mk (goes BX1.out.below hb)
  clear hb
  go_wp2_with fail
  go_ret
  exact ⟨retBool HE.out.symm, HB2.out⟩
 rw [hr] at CR
 obtain ⟨x0, xy, yn⟩ := rightD_of hr
 have HRT := Hd.mk hr
 obtain ⟨a, rfl⟩ : ∃ a : Nat, x = a := ⟨x.toNat, by omega⟩
 obtain ⟨b, rfl⟩ : ∃ b : Nat, y = b := ⟨y.toNat, by omega⟩
 have ha : a < ls.length := by omega
 have hb' : b < ls.length := by omega
 have a1 : (a : Int) < ls.length := by omega
 have b1 : (b : Int) < ls.length := by omega
 have a3 : (0 : Int) ≤ a := by omega
 have b3 : (0 : Int) ≤ b := by omega
 clear hr x0 xy yn
 go_wp2_with fail
 refine (CR.out _).mono ?_
 rintro e w2 ⟨rfl, hb⟩
 have BX2 := Hd.mk (BX1.out.up hb)
 clear hb CR BX1 d0 d1
 obtain ⟨d0, d1⟩ := BX2.out.k1.pair
 obtain ⟨ad, m, rfl, -, hm, c0, c1, c2, c3⟩ := (HR.out.up BX2.out.below).get ha
 obtain ⟨ad', m', e, -, hm', e0, e1, e2, e3⟩ := (HR.out.up BX2.out.below).get hb'
 injection e with e
 subst e
 have HLM : Hd (monLcm (atM ls a) (atM ls b) = monLcm m m') := ⟨by rw [atM_of hm.out, atM_of hm'.out]⟩
 have CL := Hd.mk (mono_Lcm m m')
 obtain ⟨z, hz⟩ : ∃ z, monLcm m m' = z := ⟨_, rfl⟩
 rw [hz] at CL HLM
 clear hz hm hm'
 have SO := Hd.mk (fun W (hB : Below w2.heap.size w2 W) => And.intro (Hd.mk hB) (And.intro (cell_up d0 hB) (And.intro (cell_up d1 hB) (And.intro (cell_up c0 hB) (And.intro (cell_up c1 hB) (And.intro (cell_up c2 hB) (And.intro (cell_up c3 hB) (And.intro (cell_up e0 hB) (And.intro (cell_up e1 hB) (And.intro (cell_up e2 hB) (cell_up e3 hB)))))))))))
 go_wp2_with fail
 go_cut [7] (fun v7 wx => ∃ g7, v7 = .pointer (some ⟨g7, 0, none⟩) ∧ Hd (Bk wx g7 66 #[.int .i64 z.x0, .int .i64 z.x1, .int .i64 z.x2, .int .i64 z.x3]) ∧ Hd (Below w2.heap.size w2 wx))
 case first =>
  go_region_held3 (fun W => Hd (Below w2.heap.size w2 W) ∧ W.cell? ⟨w.heap.size, 0, none⟩ = some (.int .i64 a) ∧ W.cell? ⟨w.heap.size, 1, none⟩ = some (.int .i64 b) ∧
      W.cell? (ad.add (a * 4)) = some (.int .i64 m.x0) ∧ W.cell? ⟨(ad.add (a * 4)).block, (ad.add (a * 4)).off + 1, none⟩ = some (.int .i64 m.x1) ∧ W.cell? ⟨(ad.add (a * 4)).block, (ad.add (a * 4)).off + 2, none⟩ = some (.int .i64 m.x2) ∧ W.cell? ⟨(ad.add (a * 4)).block, (ad.add (a * 4)).off + 3, none⟩ = some (.int .i64 m.x3) ∧
      W.cell? (ad.add (b * 4)) = some (.int .i64 m'.x0) ∧ W.cell? ⟨(ad.add (b * 4)).block, (ad.add (b * 4)).off + 1, none⟩ = some (.int .i64 m'.x1) ∧ W.cell? ⟨(ad.add (b * 4)).block, (ad.add (b * 4)).off + 2, none⟩ = some (.int .i64 m'.x2) ∧ W.cell? ⟨(ad.add (b * 4)).block, (ad.add (b * 4)).off + 3, none⟩ = some (.int .i64 m'.x3))
   (first
    | with_reducible exact SO.out _ (.refl _ _)
    | with_reducible exact SO.out _ (Below.refl _ _).drew
    | with_reducible exact SO.out _ ((Below.refl _ _).drew.alloc (Nat.le_refl _) _)
    | with_reducible exact SO.out _ ((Below.refl _ _).alloc (Nat.le_refl _) _).drew
    | with_reducible exact SO.out _ hB5
    | with_reducible exact SO.out _ (hB5.alloc hB5.size _)
    | with_reducible exact SO.out _ (below_set4 hB5 (Nat.le_refl _) _ _ _ _)
    | with_reducible exact SO.out _ (below_set4 (hB5.alloc hB5.size _) hB5.size _ _ _ _)
    | fail)
   (first
    | (go_at_call 92; have hB := ‹Hd (Below w2.heap.size w2 _) ∧ _›.1; with_reducible refine (CL.out ((w2.alloc (Obj.cells #[.int .i64 0, .int .i64 0, .int .i64 0, .int .i64 0] 66)).drew)).mono ?_; rintro e w8 ⟨rfl, hb⟩
       have hB5 := hB.out.trans (hb.lo.mono hB.out.size)
       have hk := Hd.mk ((Bk.new_ w2 66 #[.int .i64 0, .int .i64 0, .int .i64 0, .int .i64 0]).d1.up hb.lo)
       obtain ⟨p6, p7, p8, p9⟩ := hk.out.four
       have fz := fun i => hk.out.froz i)
    | (go_at_call 92; have hB := ‹Hd (Below w2.heap.size w2 _) ∧ _›.1; with_reducible refine (CL.out _).mono ?_; rintro e w8 ⟨rfl, hb⟩
       have hB5 := hB.out.trans (hb.lo.mono hB.out.size)))
  all_goals
   go_wp2_with fail
   go_meet
   first
   | exact ⟨_, rfl, ⟨hk.out.set4 (.int .i64 z.x0) (.int .i64 z.x1) (.int .i64 z.x2) (.int .i64 z.x3)⟩, ⟨below_set4 hB5 (Nat.le_refl _) (.int .i64 z.x0) (.int .i64 z.x1) (.int .i64 z.x2) (.int .i64 z.x3)⟩⟩
   | exact ⟨_, rfl, ⟨Bk.new_ w8 66 #[.int .i64 z.x0, .int .i64 z.x1, .int .i64 z.x2, .int .i64 z.x3]⟩, ⟨hB5.alloc hB5.size (Obj.cells #[.int .i64 z.x0, .int .i64 z.x1, .int .i64 z.x2, .int .i64 z.x3] 66)⟩⟩
 case rest =>
  obtain ⟨g7, rfl, K7, HB3⟩ := hcut
  have BX3 := Hd.mk (BX2.out.up HB3.out)
  clear SO CL c0 c1 c2 c3 e0 e1 e2 e3 d0 d1 BX2 HB3
  go_wp2_with fail
  go_loopw [31] (fun v wr => ∃ i : Nat, v = .int .i64 i ∧ i ≤ ls.length ∧ Hd (Below wc.heap.size wc wr) ∧ Hd (∀ j, j < i → chainAt ls (a, b) ps j = false)) (fun v _ => ls.length - (intOf v).toNat)
  case atStart => exact ⟨0, rfl, by omega, ⟨.refl _ _⟩, ⟨fun j h => absurd h (by omega)⟩⟩
  case round =>
   obtain ⟨i, rfl, hi, HB, HNO⟩ := hrel
   by_cases hlt : i < ls.length
   case neg =>
    have i1 : ¬ (i : Int) < ls.length := by omega
    obtain rfl : i = ls.length := by omega
    have HE := Hd.mk (chain_no HNO.out)
    go_wp2_with fail
    go_ret
    exact ⟨retBool HE.out.symm, goes BX3.out.below HB.out⟩
   have i1 : (i : Int) < ls.length := by omega
   have i3 : (0 : Int) ≤ i := by omega
   have BX4 := Hd.mk (BX3.out.up HB.out)
   obtain ⟨d0, d1⟩ := BX4.out.k1.pair
   obtain ⟨ad', mi, e, -, hmi, c0, c1, c2, c3⟩ := (HR.out.up BX4.out.below).get hlt
   injection e with e
   subst e
   have HMI := Hd.mk (atM_of hmi.out)
   clear hmi
   go_upto_region 8 with (fail)
   refine wp_gen (fun W => Bk W wr.heap.size 66 #[.int .i64 mi.x0, .int .i64 mi.x1, .int .i64 mi.x2, .int .i64 mi.x3] ∧ Below wr.heap.size wr W) ⟨Bk.new_ wr 66 #[.int .i64 mi.x0, .int .i64 mi.x1, .int .i64 mi.x2, .int .i64 mi.x3], (Below.refl _ _).alloc (Nat.le_refl _) _⟩ ?_
   intro W5 H5
   have K10 := Hd.mk H5.out.1
   have HB5 := Hd.mk (goes HB.out H5.out.2)
   have BX5 := Hd.mk (BX4.out.up H5.out.2)
   have K7' := Hd.mk (K7.out.up HB5.out)
   generalize wr.heap.size = g10 at K10 ⊢
   clear H5 c0 c1 c2 c3 d0 d1 BX4
   obtain ⟨d0, d1⟩ := BX5.out.k1.pair
   by_cases hia : i = a
   case pos =>
    have e1 : ((i : Int) == (a : Int)) = true := by rw [beq_iff_eq]; omega
    have e2 : (i == a) = true := by rw [beq_iff_eq]; omega
    have HN2 := Hd.mk (upto_step (P := chainAt ls (a, b) ps) HNO.out (by unfold chainAt; simp [hia]))
    clear hia
    go_wp2_with fail
    exact ⟨⟨i + 1, by go_num, by omega, HB5, HN2⟩, by simp [intOf]; omega⟩
   have e1 : ((i : Int) == (a : Int)) = false := by rw [beq_eq_false_iff_ne]; omega
   have e2 : (i == a) = false := by rw [beq_eq_false_iff_ne]; omega
   by_cases hib : i = b
   case pos =>
    have e3 : ((i : Int) == (b : Int)) = true := by rw [beq_iff_eq]; omega
    have e4 : (i == b) = true := by rw [beq_iff_eq]; omega
    have HN2 := Hd.mk (upto_step (P := chainAt ls (a, b) ps) HNO.out (by unfold chainAt; simp [hib]))
    clear hia hib
    go_wp2_with fail
    exact ⟨⟨i + 1, by go_num, by omega, HB5, HN2⟩, by simp [intOf]; omega⟩
   have e3 : ((i : Int) == (b : Int)) = false := by rw [beq_eq_false_iff_ne]; omega
   have e4 : (i == b) = false := by rw [beq_eq_false_iff_ne]; omega
   have CD := Hd.mk (mono_Div z mi)
   obtain ⟨⟨is, q⟩, hD⟩ : ∃ X, monDiv z mi = X := ⟨_, rfl⟩
   rw [hD] at CD
   dsimp only at CD
   have HAT : Hd (chainAt ls (a, b) ps i = (is && !hasP ps a i && !hasP ps b i)) := ⟨by
    unfold chainAt
    dsimp only
    rw [HLM.out, HMI.out, hD, decide_eq_false (by omega), decide_eq_false (by omega)]
    rfl⟩
   obtain ⟨f0, f1, f2, f3⟩ := K10.out.four
   obtain ⟨k0, k1, k2, k3⟩ := K7'.out.four
   clear hD hia hib
   go_wp2_with fail
   refine (CD.out _).mono ?_
   rintro e w6 ⟨rfl, hb6⟩
   have HB6 := Hd.mk (goes HB5.out hb6.lo)
   have BX6 := Hd.mk (BX5.out.up hb6.lo)
   clear hb6 CD f0 f1 f2 f3 k0 k1 k2 k3 K10 K7' d0 d1 BX5
   go_upto_region 10 with (fail)
   refine wp_gen (fun W => Below w6.heap.size w6 W) ((Below.refl _ _).alloc (Nat.le_refl _) _) ?_
   intro W7 H7
   have HB7 := Hd.mk (goes HB6.out H7.out)
   have BX7 := Hd.mk (BX6.out.up H7.out)
   generalize w6.heap.size = g11 at H7 ⊢
   obtain ⟨d0, d1⟩ := BX7.out.k1.pair
   clear H7 BX6 HB6
   cases is with
   | false =>
     have HN2 := Hd.mk (upto_step (P := chainAt ls (a, b) ps) HNO.out (by rw [HAT.out]; rfl))
     go_wp2_with fail
     exact ⟨⟨i + 1, by go_num, by omega, HB7, HN2⟩, by simp [intOf]; omega⟩
   | true =>
     have CW := Hd.mk (fun W (hB : Below W7.heap.size W7 W) (u : Int) => pair_waits B d g5 ps u i W (HP.out.up (goes BX7.out.below hB)) hpl ((BX7.out.k2.up hB).one))
     have CW1 := Hd.mk (CW.out W7 (.refl _ _) a)
     obtain ⟨h1, hh1⟩ : ∃ h1, hasP ps a i = h1 := ⟨_, rfl⟩
     rw [hh1] at CW1 HAT
     clear hh1
     cases h1 with
     | true =>
       have HN2 := Hd.mk (upto_step (P := chainAt ls (a, b) ps) HNO.out (by rw [HAT.out]; rfl))
       go_wp2_with fail
       refine CW1.out.mono ?_
       rintro e w8 ⟨rfl, hb8⟩
       have HB8 := Hd.mk (goes HB7.out hb8)
       clear hb8
       go_wp2_with fail
       exact ⟨⟨i + 1, by go_num, by omega, HB8, HN2⟩, by simp [intOf]; omega⟩
     | false =>
       have CW2 := Hd.mk (fun W hB => CW.out W hB b)
       obtain ⟨h2, hh2⟩ : ∃ h2, hasP ps b i = h2 := ⟨_, rfl⟩
       rw [hh2] at CW2 HAT
       clear hh2 CW
       go_wp2_with fail
       refine CW1.out.mono ?_
       rintro e w8 ⟨rfl, hb8⟩
       have HB8 := Hd.mk (goes HB7.out hb8)
       have CW3 := Hd.mk (CW2.out w8 hb8)
       obtain ⟨d0, d1⟩ := (BX7.out.up hb8).k1.pair
       clear hb8 CW1 CW2
       cases h2 with
       | true =>
         have HN2 := Hd.mk (upto_step (P := chainAt ls (a, b) ps) HNO.out (by rw [HAT.out]; rfl))
         go_wp2_with fail
         refine CW3.out.mono ?_
         rintro e w9 ⟨rfl, hb9⟩
         have HB9 := Hd.mk (goes HB8.out hb9)
         clear hb9
         go_wp2_with fail
         exact ⟨⟨i + 1, by go_num, by omega, HB9, HN2⟩, by simp [intOf]; omega⟩
       | false =>
         have HE := Hd.mk (chain_yes HRT.out hlt (by rw [HAT.out]; rfl))
         go_wp2_with fail
         refine CW3.out.mono ?_
         rintro e w9 ⟨rfl, hb9⟩
         have HB9 := Hd.mk (goes HB8.out hb9)
         clear hb9
         go_wp2_with fail
         go_ret
         exact ⟨retBool HE.out.symm, goes BX3.out.below HB9.out⟩
theorem head_is {b : List TermD} {u : TermD} (h : b[0]? = some u) : ∃ b', b = u :: b' := by
 cases b with
 | nil => cases h
 | cons x r => cases h; exact ⟨r, rfl⟩
theorem add_none (p : Addr) : p.add 0 = p := by unfold Addr.add; simp
def raiseD (o : Int) (m : MonD) (p : List TermD) (s : Int) : Int × List TermD :=
 match p with
 | [] => (1, [])
 | t :: _ => if (invD t.c).1 ≠ 0 then ((invD t.c).1, []) else if (mulD (invD t.c).2 (ofD s)).1 ≠ 0 then ((mulD (invD t.c).2 (ofD s)).1, [])
   else polTimes o p ⟨(mulD (invD t.c).2 (ofD s)).2, (monDiv m t.m).2⟩
theorem cross_1 (b0 : Nat) (order : Int) (A : Option Addr) (c : Nat) (ps : List TermD) (gm go : Nat) (m : MonD) (s : Int) (w : World) (hb0 : b0 ≤ w.heap.size) (h : RPol w b0 A ps) (hc : ps.length ≤ c) (hs : shortP ps) (hN0 : 0 < ps.length)
    (h1 : -9223372036854775808 ≤ s) (h2 : s ≤ 9223372036854775807)
    (hm : Bk w gm 66 #[.int .i64 m.x0, .int .i64 m.x1, .int .i64 m.x2, .int .i64 m.x3]) (ho : w.cell? ⟨go, 0, none⟩ = some (.int .i64 order)) :
    Calls Tryz.prog 93 #[.slice A ps.length c, .int .i64 s, .pointer (some ⟨gm, 0, none⟩), .pointer (some ⟨go, 0, none⟩)] w fun e w' => ∃ A' c', e = .returned (.tuple #[.slice A' (raiseD order m ps s).2.length c', .int .i64 (raiseD order m ps s).1]) ∧
     (raiseD order m ps s).2.length ≤ c' ∧ RPol w' b0 A' (raiseD order m ps s).2 ∧ Below w.heap.size w w' := by
 obtain ⟨ad, B1, c1, B2, c2, t, rfl, hab, hti, hrt, q0, q1, q2, q3, q4, q5, q6⟩ := h.get hN0
 have HE : Hd (raiseD order m ps s = if (invD t.c).1 ≠ 0 then ((invD t.c).1, []) else if (mulD (invD t.c).2 (ofD s)).1 ≠ 0 then ((mulD (invD t.c).2 (ofD s)).1, []) else polTimes order ps ⟨(mulD (invD t.c).2 (ofD s)).2, (monDiv m t.m).2⟩) := ⟨by
  obtain ⟨r, hr⟩ := head_is hti.out
  subst hr
  rfl⟩
 have HP := Hd.mk h
 have HS := Hd.mk hs
 have HB0 := Hd.mk hb0
 have hl := hs.1
 have HTS := Hd.mk (hs.2 t (List.mem_of_getElem? hti.out))
 have HT := Hd.mk hrt.out.rat
 have HAB := Hd.mk hab
 rw [Nat.zero_mul, add_none] at q0 q1 q2 q3 q4 q5 q6
 have HQ := Hd.mk (And.intro q0 (And.intro q1 q2))
 have z2 : (0 : Int) < ps.length := by omega
 obtain ⟨⟨mb, mm⟩, hM⟩ : ∃ X, monDiv m t.m = X := ⟨_, rfl⟩
 have CD := Hd.mk (mono_Div m t.m)
 rw [hM] at CD HE
 dsimp only at CD HE
 have HO := Hd.mk ho
 obtain ⟨m0, m1, m2, m3⟩ := hm.four
 have SO := Hd.mk (fun W (hB : Below w.heap.size w W) => And.intro (Hd.mk hB) (And.intro (cell_up m0 hB) (And.intro (cell_up m1 hB) (And.intro (cell_up m2 hB) (And.intro (cell_up m3 hB) (And.intro (cell_up q3 hB) (And.intro (cell_up q4 hB) (And.intro (cell_up q5 hB) (cell_up q6 hB)))))))))
 clear h hs hb0 hti hrt hab hM ho hm q0 q1 q2
 go_enter Tryz.func93, Tryz.ntmps93
 go_wp2_with fail
 go_cut [8] (fun v8 wx => ∃ g8, v8 = .pointer (some ⟨g8, 0, none⟩) ∧ w.heap.size ≤ g8 ∧ Hd (Bk wx g8 66 #[.int .i64 mm.x0, .int .i64 mm.x1, .int .i64 mm.x2, .int .i64 mm.x3]) ∧ Hd (Below w.heap.size w wx))
 case first =>
  go_region_held3 (fun W => Hd (Below w.heap.size w W) ∧ W.cell? ⟨gm, 0, none⟩ = some (.int .i64 m.x0) ∧ W.cell? ⟨gm, 1, none⟩ = some (.int .i64 m.x1) ∧ W.cell? ⟨gm, 2, none⟩ = some (.int .i64 m.x2) ∧ W.cell? ⟨gm, 3, none⟩ = some (.int .i64 m.x3) ∧
      W.cell? ⟨ad.block, ad.off + 3, none⟩ = some (.int .i64 t.m.x0) ∧ W.cell? ⟨ad.block, ad.off + 3 + 1, none⟩ = some (.int .i64 t.m.x1) ∧ W.cell? ⟨ad.block, ad.off + 3 + 2, none⟩ = some (.int .i64 t.m.x2) ∧ W.cell? ⟨ad.block, ad.off + 3 + 3, none⟩ = some (.int .i64 t.m.x3))
   (first
    | with_reducible exact SO.out _ (.refl _ _)
    | with_reducible exact SO.out _ (Below.refl _ _).drew
    | with_reducible exact SO.out _ ((Below.refl _ _).drew.alloc (Nat.le_refl _) _)
    | with_reducible exact SO.out _ ((Below.refl _ _).alloc (Nat.le_refl _) _).drew
    | with_reducible exact SO.out _ hB5
    | with_reducible exact SO.out _ (hB5.alloc hB5.size _)
    | with_reducible exact SO.out _ (below_set4 hB5 (Nat.le_refl _) _ _ _ _)
    | with_reducible exact SO.out _ (below_set4 (hB5.alloc hB5.size _) hB5.size _ _ _ _)
    | fail)
   (first
    | (go_at_call 94; have hB := ‹Hd (Below w.heap.size w _) ∧ _›.1; with_reducible refine (CD.out ((w.alloc (Obj.cells #[.int .i64 0, .int .i64 0, .int .i64 0, .int .i64 0] 66)).drew)).mono ?_; rintro e w8 ⟨rfl, hb⟩
       have hB5 := hB.out.trans (hb.lo.mono hB.out.size)
       have hk := Hd.mk ((Bk.new_ w 66 #[.int .i64 0, .int .i64 0, .int .i64 0, .int .i64 0]).d1.up hb.lo)
       obtain ⟨p6, p7, p8, p9⟩ := hk.out.four
       have fz := fun i => hk.out.froz i)
    | (go_at_call 94; have hB := ‹Hd (Below w.heap.size w _) ∧ _›.1; with_reducible refine (CD.out _).mono ?_; rintro e w8 ⟨rfl, hb⟩
       have hB5 := hB.out.trans (hb.lo.mono hB.out.size)))
  all_goals
   go_wp2_with fail
   go_meet
   first
   | exact ⟨_, rfl, Nat.le_refl _, ⟨hk.out.set4 (.int .i64 mm.x0) (.int .i64 mm.x1) (.int .i64 mm.x2) (.int .i64 mm.x3)⟩, ⟨below_set4 hB5 (Nat.le_refl _) (.int .i64 mm.x0) (.int .i64 mm.x1) (.int .i64 mm.x2) (.int .i64 mm.x3)⟩⟩
   | exact ⟨_, rfl, hB5.size, ⟨Bk.new_ w8 66 #[.int .i64 mm.x0, .int .i64 mm.x1, .int .i64 mm.x2, .int .i64 mm.x3]⟩, ⟨hB5.alloc hB5.size (Obj.cells #[.int .i64 mm.x0, .int .i64 mm.x1, .int .i64 mm.x2, .int .i64 mm.x3] 66)⟩⟩
 case rest =>
  obtain ⟨g8, rfl, N8, K8, HB8⟩ := hcut
  have c0 := cell_up HQ.out.1 HB8.out
  have c1' := cell_up HQ.out.2.1 HB8.out
  have c2' := cell_up HQ.out.2.2 HB8.out
  obtain ⟨I, hI⟩ : ∃ I, invD t.c = I := ⟨_, rfl⟩
  have CI := Hd.mk (ratio_Inv b0 _ t.c wc (Nat.le_trans HB0.out HB8.out.size) (HT.out.up HB8.out) HTS.out)
  have HI := Hd.mk (invD_short HTS.out)
  have HE2 := HE
  rw [hI] at CI HI HE2
  clear hI q3 q4 q5 q6 m0 m1 m2 m3 SO CD
  go_wp2_with fail
  refine CI.out.mono ?_
  rintro e w9 ⟨x, rfl, hx, hb9⟩
  have HB9 := Hd.mk (goes HB8.out hb9)
  have HX := Hd.mk hx
  have K9 := Hd.mk (K8.out.up hb9)
  obtain ⟨xA, xc, xB, xd, rfl, hxc, hxd, _, _⟩ := hx
  clear hb9 CI K8 c0 c1' c2'
  by_cases h0 : I.1 = 0
  case neg =>
   have e1 : (I.1 == 0) = false := by rw [beq_eq_false_iff_ne]; exact h0
   have e2 : (I.1 != 0) = true := by rw [bne_iff_ne]; exact h0
   have HF : Hd (raiseD order m ps s = (I.1, [])) := ⟨by rw [HE2.out, if_pos h0]⟩
   clear h0
   go_wp2_with fail
   go_ret2
   rw [HF.out]
   exact ⟨none, 0, rfl, Nat.le_refl _, RPol.nil _ _ _, HB9.out.alloc HB9.out.size _⟩
  have e1 : (I.1 == 0) = true := by rw [beq_iff_eq]; exact h0
  have HF : Hd (raiseD order m ps s = if (mulD I.2 (ofD s)).1 ≠ 0 then ((mulD I.2 (ofD s)).1, []) else polTimes order ps ⟨(mulD I.2 (ofD s)).2, mm⟩) := ⟨by rw [HE2.out, if_neg (by rw [h0]; simp)]⟩
  obtain ⟨M, hM⟩ : ∃ M, mulD I.2 (ofD s) = M := ⟨_, rfl⟩
  rw [hM] at HF
  have HM := Hd.mk hM
  have HMS : Hd M.2.short := ⟨by rw [← hM]; exact mulD_short _ _⟩
  clear hM h0
  go_upto_region 4 with (fail)
  refine wp_gen (fun W => Bk W _ 64 #[.bool I.2.neg, .slice xA I.2.num.length xc, .slice xB I.2.den.length xd] ∧ Bk W g8 66 #[.int .i64 mm.x0, .int .i64 mm.x1, .int .i64 mm.x2, .int .i64 mm.x3] ∧ RRat W b0 (.agg #[.bool I.2.neg, .slice xA I.2.num.length xc, .slice xB I.2.den.length xd]) I.2 ∧ Below w.heap.size w W)
   ⟨Bk.new_ w9 64 #[.bool I.2.neg, .slice xA I.2.num.length xc, .slice xB I.2.den.length xd], K9.out.al _, HX.out.up ((Below.refl _ _).alloc (Nat.le_refl _) _), HB9.out.alloc HB9.out.size _⟩ ?_
  have N10 := HB9.out.size
  generalize w9.heap.size = g10 at N10 ⊢
  intro W10 H10
  have HB10 := Hd.mk H10.out.2.2.2
  have HX10 := Hd.mk H10.out.2.2.1
  have K10 := Hd.mk H10.out.1
  have K8 := Hd.mk H10.out.2.1
  clear K9 HX HB9 H10 HB8
  have HW10 := Hd.mk (Nat.le_trans HB0.out HB10.out.size)
  have CO := Hd.mk (fun W (hW : b0 ≤ W.heap.size) => ratio_Of b0 s W hW h1 h2)
  have CM := Hd.mk (fun v u W hW hv hu => ratio_Mul b0 v u I.2 (ofD s) W hW hv hu HI.out (ofD_short s (by omega)))
  rw [HM.out] at CM
  obtain ⟨S, hS⟩ : ∃ S, ofD s = S := ⟨_, rfl⟩
  rw [hS] at CM CO
  have HSS := Hd.mk hS
  clear hS HM
  obtain ⟨r0, r1, r2⟩ := K10.out.three
  have N10 := Hd.mk N10
  have N8 := Hd.mk N8
  go_wp2_with fail
  go_cut [10, 11] (fun v10 v11 wx => v10 = .pointer (some ⟨g10, 0, none⟩) ∧ v11 = .int .i64 M.1 ∧ Hd (Below w.heap.size w wx) ∧ Hd (Bk wx g8 66 #[.int .i64 mm.x0, .int .i64 mm.x1, .int .i64 mm.x2, .int .i64 mm.x3]) ∧
      ∃ zA zc zB zd, Hd (Bk wx g10 64 #[.bool M.2.neg, .slice zA M.2.num.length zc, .slice zB M.2.den.length zd]) ∧ Hd (RRat wx b0 (.agg #[.bool M.2.neg, .slice zA M.2.num.length zc, .slice zB M.2.den.length zd]) M.2))
  case first =>
   go_region_with (first
    | (go_at_call 97; with_reducible refine (CO.out _ (Nat.le_trans HB0.out HB10.out.drew.size)).mono ?_; rintro e w11 ⟨y, rfl, hy, hb11⟩
       have hB11 := HB10.out.trans ((goes (Below.refl W10.heap.size W10).drew hb11).mono HB10.out.size)
       have HY := Hd.mk hy
       obtain ⟨yA, yc, yB, yd, rfl, -, -, -, -⟩ := hy
       have hz := Hd.mk (K10.out.d1.up hb11)
       obtain ⟨s0, s1, s2⟩ := hz.out.three
       have HX11 := Hd.mk (HX10.out.up (goes (Below.refl _ _).drew hb11))
       have K11 := Hd.mk (K8.out.d1.up hb11))
    | (go_at_call 96; with_reducible refine (CM.out _ _ _ (Nat.le_trans HB0.out hB11.size) HX11.out HY.out).mono ?_; rintro e w12 ⟨z, rfl, hz12, hb12⟩
       have hB12 := goes hB11 hb12
       have HZ := Hd.mk hz12
       obtain ⟨zA, zc, zB, zd, rfl, -, -, -, -⟩ := hz12
       have hk12 := Hd.mk (hz.out.up hb12)
       obtain ⟨t0, t1, t2⟩ := hk12.out.three
       have K12 := Hd.mk (K11.out.up hb12)
       have fz := fun i => hk12.out.froz i))
   all_goals
    go_wp2_with fail
    go_meet
    have hgr := ((set_grown w12 ⟨g10, 0, none⟩ (.bool M.2.neg)).set 1 (.slice zA M.2.num.length zc)).set 2 (.slice zB M.2.den.length zd)
    exact ⟨rfl, rfl, ⟨((hB12.setCell N10.out _).setCell N10.out _).setCell N10.out _⟩, ⟨K12.out.grown hgr (fun e => by injection e with e; exact Bk.ne_ K12.out hk12.out (by decide) e)⟩, zA, zc, zB, zd, ⟨hk12.out.set3 _ _ _⟩,
     ⟨HZ.out.grown hgr (fun g e => by injection e with e; subst e; exact ⟨Nat.le_trans HB0.out N10.out, _, _, hk12.out, by decide⟩)⟩⟩
  case rest =>
   obtain ⟨rfl, rfl, HB11, K11, zA, zc, zB, zd, K13, HZ⟩ := hcut
   clear K10 HX10 r0 r1 r2 CO CM K8 HB10 HW10
   by_cases hm0 : M.1 = 0
   case neg =>
    have e2 : (M.1 != 0) = true := by rw [bne_iff_ne]; exact hm0
    have HF2 : Hd (raiseD order m ps s = (M.1, [])) := ⟨by rw [HF.out, if_pos hm0]⟩
    clear hm0
    go_wp2_with fail
    go_ret2
    rw [HF2.out]
    exact ⟨none, 0, rfl, Nat.le_refl _, RPol.nil _ _ _, HB11.out⟩
   have e2 : (M.1 != 0) = false := by rw [bne_eq_false_iff_eq]; exact hm0
   have HF2 : Hd (raiseD order m ps s = polTimes order ps ⟨M.2, mm⟩) := ⟨by rw [HF.out, if_neg (by rw [hm0]; simp)]⟩
   obtain ⟨t0, t1, t2⟩ := K13.out.three
   obtain ⟨u0, u1, u2, u3⟩ := K11.out.four
   have ho := cell_up HO.out HB11.out
   have CT := Hd.mk (poly_Times b0 order (some ad) c ps (.agg #[.bool M.2.neg, .slice zA M.2.num.length zc, .slice zB M.2.den.length zd, .int .i64 mm.x0, .int .i64 mm.x1, .int .i64 mm.x2, .int .i64 mm.x3]) ⟨M.2, mm⟩ _ (Nat.le_trans HB0.out HB11.out.size) (HP.out.up HB11.out) hc HS.out (by
       obtain ⟨x1, x2, x3, x4, e, y1, y2, y3, y4⟩ := HZ.out
       simp only [Value.agg.injEq, Array.mk.injEq, List.cons.injEq, Value.slice.injEq, true_and, and_true] at e
       obtain ⟨⟨rfl, rfl⟩, rfl, rfl⟩ := e
       exact ⟨_, _, _, _, rfl, y1, y2, y3, y4⟩) HMS.out)
   clear hm0 hc
   go_wp2_with fail
   refine CT.out.mono ?_
   rintro e w5 ⟨A', c', rfl, hc', hr', hb5⟩
   have HC' := Hd.mk hc'
   have HR' := Hd.mk hr'
   have HB5 := Hd.mk (goes HB11.out hb5)
   clear hb5 hc' hr'
   go_wp2_with fail
   go_ret2
   rw [HF2.out]
   exact ⟨A', c', rfl, HC'.out, HR'.out, HB5.out⟩
def crossD (o : Int) (p q : List TermD) : Int × List TermD :=
 if (polMay o p && polMay o q) = false then (1, []) else match p, q with
 | t :: _, u :: _ => if (raiseD o (monLcm t.m u.m) p 1).1 ≠ 0 then ((raiseD o (monLcm t.m u.m) p 1).1, []) else if (raiseD o (monLcm t.m u.m) q (-1)).1 ≠ 0 then ((raiseD o (monLcm t.m u.m) q (-1)).1, [])
   else polAdd o [(raiseD o (monLcm t.m u.m) p 1).2, (raiseD o (monLcm t.m u.m) q (-1)).2]
 | _, _ => (1, [])
theorem polTimes_shortP (o : Int) {p : List TermD} {t : TermD} (hp : shortP p) : shortP (polTimes o p t).2 := by
 unfold polTimes
 split
 ·exact ⟨by simp, fun t h => by cases h⟩
 ·split
  ·exact ⟨by simp, fun t h => by cases h⟩
  ·exact ⟨Nat.le_trans (timesL_facts t p).1 hp.1, (timesL_facts t p).2⟩
theorem raiseD_short (o : Int) (m : MonD) {p : List TermD} (s : Int) (hp : shortP p) : shortP (raiseD o m p s).2 := by
 have hn : shortP [] := ⟨by simp, fun t h => by cases h⟩
 unfold raiseD
 cases p with
 | nil => exact hn
 | cons t r =>
   dsimp only
   split
   ·exact hn
   ·split
    ·exact hn
    ·exact polTimes_shortP o hp
theorem pair_Cross (b0 : Nat) (order : Int) (A B : Option Addr) (c d : Nat) (p q : List TermD) (w : World) (hb0 : b0 ≤ w.heap.size) (hp : RPol w b0 A p) (hq : RPol w b0 B q) (hc : p.length ≤ c) (hd : q.length ≤ d) (hps : shortP p) (hqs : shortP q) :
    Calls Tryz.prog 30 #[.int .i64 order, .slice A p.length c, .slice B q.length d] w fun e w' => ∃ A' c', e = .returned (.tuple #[.slice A' (crossD order p q).2.length c', .int .i64 (crossD order p q).1]) ∧
     (crossD order p q).2.length ≤ c' ∧ RPol w' b0 A' (crossD order p q).2 ∧ Below w.heap.size w w' := by
 have HP := Hd.mk hp
 have HQ := Hd.mk hq
 have HPS := Hd.mk hps
 have HQS := Hd.mk hqs
 have HB0 := Hd.mk hb0
 have hlp := hps.1
 have hlq := hqs.1
 clear hp hq hps hqs hb0
 have CMP := Hd.mk (fun W (hB : Below w.heap.size w W) => poly_May b0 order A c p W (HP.out.up hB) hc HPS.out)
 have CMQ := Hd.mk (fun W (hB : Below w.heap.size w W) => poly_May b0 order B d q W (HQ.out.up hB) hd HQS.out)
 go_enter Tryz.func30, Tryz.ntmps30
 go_upto_region 1 with (fail)
 refine wp_gen (fun W => W.cell? ⟨w.heap.size, 0, none⟩ = some (.int .i64 order) ∧ Below w.heap.size w W) ⟨(Bk.new_ w 3 #[.int .i64 order]).one, (Below.refl _ _).alloc (Nat.le_refl _) _⟩ ?_
 intro W1 H1
 have HO1 := H1.out.1
 have HB1 := Hd.mk H1.out.2
 clear H1
 have CMP := Hd.mk (CMP.out W1 HB1.out)
 cases hmp : polMay order p
 case false =>
  have HE : Hd (crossD order p q = (1, [])) := ⟨by unfold crossD; rw [hmp]; rfl⟩
  rw [hmp] at CMP
  clear hmp
  go_wp2_with fail
  refine CMP.out.mono ?_
  rintro e w2 ⟨rfl, hb2⟩
  have HB2 := Hd.mk (goes HB1.out hb2)
  clear hb2
  go_wp2_with fail
  go_ret2
  rw [HE.out]
  exact ⟨none, 0, rfl, Nat.le_refl _, RPol.nil _ _ _, HB2.out⟩
 rw [hmp] at CMP
 go_wp2_with fail
 refine CMP.out.mono ?_
 rintro e w2 ⟨rfl, hb2⟩
 have HB2 := Hd.mk (goes HB1.out hb2)
 have HO2 := cell_up HO1 hb2
 have CMQ := Hd.mk (CMQ.out w2 HB2.out)
 clear hb2 HO1 CMP
 cases hmq : polMay order q
 case false =>
  have HE : Hd (crossD order p q = (1, [])) := ⟨by unfold crossD; rw [hmp, hmq]; rfl⟩
  rw [hmq] at CMQ
  clear hmq hmp
  go_wp2_with fail
  refine CMQ.out.mono ?_
  rintro e w3 ⟨rfl, hb3⟩
  have HB3 := Hd.mk (goes HB2.out hb3)
  clear hb3
  go_wp2_with fail
  go_ret2
  rw [HE.out]
  exact ⟨none, 0, rfl, Nat.le_refl _, RPol.nil _ _ _, HB3.out⟩
 rw [hmq] at CMQ
 have HMM := Hd.mk (And.intro hmp hmq)
 clear hmp hmq
 go_wp2_with fail
 refine CMQ.out.mono ?_
 rintro e w3 ⟨rfl, hb3⟩
 have HB3 := Hd.mk (goes HB2.out hb3)
 have HO3 := Hd.mk (cell_up HO2 hb3)
 clear hb3 HO2 CMQ
 by_cases hp0 : p.length = 0
 case pos =>
  have HE : Hd (crossD order p q = (1, [])) := ⟨by
   obtain rfl := List.length_eq_zero_iff.1 hp0
   unfold crossD; rw [HMM.out.1, HMM.out.2]; rfl⟩
  have e1 : ((p.length : Int) == 0) = true := by rw [hp0]; rfl
  clear hp0
  go_wp2_with fail
  go_ret2
  rw [HE.out]
  exact ⟨none, 0, rfl, Nat.le_refl _, RPol.nil _ _ _, HB3.out⟩
 have e1 : ((p.length : Int) == 0) = false := by rw [beq_eq_false_iff_ne]; omega
 by_cases hq0 : q.length = 0
 case pos =>
  have HE : Hd (crossD order p q = (1, [])) := ⟨by
   obtain rfl := List.length_eq_zero_iff.1 hq0
   unfold crossD; rw [HMM.out.1, HMM.out.2]; cases p <;> rfl⟩
  have e2 : ((q.length : Int) == 0) = true := by rw [hq0]; rfl
  clear hq0 hp0
  go_wp2_with fail
  go_ret2
  rw [HE.out]
  exact ⟨none, 0, rfl, Nat.le_refl _, RPol.nil _ _ _, HB3.out⟩
 have e2 : ((q.length : Int) == 0) = false := by rw [beq_eq_false_iff_ne]; omega
 have e3 : (0 : Int) < p.length := by omega
 have e4 : (0 : Int) < q.length := by omega
 have hp1 : 0 < p.length := by omega
 have hq1 : 0 < q.length := by omega
 clear hp0 hq0
 obtain ⟨ad, P1, pc1, P2, pc2, t, rfl, -, hti, -, -, -, -, s3, s4, s5, s6⟩ := (HP.out.up HB3.out).get hp1
 obtain ⟨bd, Q1, qc1, Q2, qc2, u, rfl, -, hui, -, -, -, -, u3, u4, u5, u6⟩ := (HQ.out.up HB3.out).get hq1
 rw [Nat.zero_mul, add_none] at s3 s4 s5 s6 u3 u4 u5 u6
 have HE : Hd (crossD order p q = if (raiseD order (monLcm t.m u.m) p 1).1 ≠ 0 then ((raiseD order (monLcm t.m u.m) p 1).1, []) else if (raiseD order (monLcm t.m u.m) q (-1)).1 ≠ 0 then ((raiseD order (monLcm t.m u.m) q (-1)).1, [])
     else polAdd order [(raiseD order (monLcm t.m u.m) p 1).2, (raiseD order (monLcm t.m u.m) q (-1)).2]) := ⟨by
  obtain ⟨p', hp'⟩ := head_is hti.out
  obtain ⟨q', hq'⟩ := head_is hui.out
  subst hp' hq'
  unfold crossD
  rw [HMM.out.1, HMM.out.2]
  rfl⟩
 have CL := Hd.mk (mono_Lcm t.m u.m)
 obtain ⟨m, hm⟩ : ∃ m, monLcm t.m u.m = m := ⟨_, rfl⟩
 rw [hm] at CL HE
 have SO := Hd.mk (fun W (hB : Below w3.heap.size w3 W) => And.intro (Hd.mk hB) (And.intro (cell_up s3 hB) (And.intro (cell_up s4 hB) (And.intro (cell_up s5 hB) (And.intro (cell_up s6 hB) (And.intro (cell_up u3 hB) (And.intro (cell_up u4 hB) (And.intro (cell_up u5 hB) (cell_up u6 hB)))))))))
 clear hm hti hui HMM HB1 HB2
 go_wp2_with fail
 go_cut [8] (fun v8 wx => ∃ g8, v8 = .pointer (some ⟨g8, 0, none⟩) ∧ Hd (Bk wx g8 66 #[.int .i64 m.x0, .int .i64 m.x1, .int .i64 m.x2, .int .i64 m.x3]) ∧ Hd (Below w3.heap.size w3 wx))
 case first =>
  go_region_held3 (fun W => Hd (Below w3.heap.size w3 W) ∧ W.cell? ⟨ad.block, ad.off + 3, none⟩ = some (.int .i64 t.m.x0) ∧ W.cell? ⟨ad.block, ad.off + 3 + 1, none⟩ = some (.int .i64 t.m.x1) ∧ W.cell? ⟨ad.block, ad.off + 3 + 2, none⟩ = some (.int .i64 t.m.x2) ∧ W.cell? ⟨ad.block, ad.off + 3 + 3, none⟩ = some (.int .i64 t.m.x3) ∧
      W.cell? ⟨bd.block, bd.off + 3, none⟩ = some (.int .i64 u.m.x0) ∧ W.cell? ⟨bd.block, bd.off + 3 + 1, none⟩ = some (.int .i64 u.m.x1) ∧ W.cell? ⟨bd.block, bd.off + 3 + 2, none⟩ = some (.int .i64 u.m.x2) ∧ W.cell? ⟨bd.block, bd.off + 3 + 3, none⟩ = some (.int .i64 u.m.x3))
   (first
    | with_reducible exact SO.out _ (.refl _ _)
    | with_reducible exact SO.out _ (Below.refl _ _).drew
    | with_reducible exact SO.out _ ((Below.refl _ _).drew.alloc (Nat.le_refl _) _)
    | with_reducible exact SO.out _ ((Below.refl _ _).alloc (Nat.le_refl _) _).drew
    | with_reducible exact SO.out _ hB5
    | with_reducible exact SO.out _ (hB5.alloc hB5.size _)
    | with_reducible exact SO.out _ (below_set4 hB5 (Nat.le_refl _) _ _ _ _)
    | with_reducible exact SO.out _ (below_set4 (hB5.alloc hB5.size _) hB5.size _ _ _ _)
    | fail)
   (first
    | (go_at_call 92; have hB := ‹Hd (Below w3.heap.size w3 _) ∧ _›.1; with_reducible refine (CL.out ((w3.alloc (Obj.cells #[.int .i64 0, .int .i64 0, .int .i64 0, .int .i64 0] 66)).drew)).mono ?_; rintro e w8 ⟨rfl, hb⟩
       have hB5 := hB.out.trans (hb.lo.mono hB.out.size)
       have hk := Hd.mk ((Bk.new_ w3 66 #[.int .i64 0, .int .i64 0, .int .i64 0, .int .i64 0]).d1.up hb.lo)
       obtain ⟨p6, p7, p8, p9⟩ := hk.out.four
       have fz := fun i => hk.out.froz i)
    | (go_at_call 92; have hB := ‹Hd (Below w3.heap.size w3 _) ∧ _›.1; with_reducible refine (CL.out _).mono ?_; rintro e w8 ⟨rfl, hb⟩
       have hB5 := hB.out.trans (hb.lo.mono hB.out.size)))
  all_goals
   go_wp2_with fail
   go_meet
   first
   | exact ⟨_, rfl, ⟨hk.out.set4 (.int .i64 m.x0) (.int .i64 m.x1) (.int .i64 m.x2) (.int .i64 m.x3)⟩, ⟨below_set4 hB5 (Nat.le_refl _) (.int .i64 m.x0) (.int .i64 m.x1) (.int .i64 m.x2) (.int .i64 m.x3)⟩⟩
   | exact ⟨_, rfl, ⟨Bk.new_ w8 66 #[.int .i64 m.x0, .int .i64 m.x1, .int .i64 m.x2, .int .i64 m.x3]⟩, ⟨hB5.alloc hB5.size (Obj.cells #[.int .i64 m.x0, .int .i64 m.x1, .int .i64 m.x2, .int .i64 m.x3] 66)⟩⟩
 case rest =>
  obtain ⟨g8, rfl, K8, HB4⟩ := hcut
  clear SO CL s3 s4 s5 s6 u3 u4 u5 u6
  have HBW := Hd.mk (goes HB3.out HB4.out)
  have CP := Hd.mk (cross_1 b0 order (some ad) c p g8 w.heap.size m 1 wc (Nat.le_trans HB0.out HBW.out.size) (HP.out.up HBW.out) hc HPS.out hp1 (by decide) (by decide) K8.out (cell_up HO3.out HB4.out))
  have CQ := Hd.mk (fun W (hB : Below wc.heap.size wc W) => cross_1 b0 order (some bd) d q g8 w.heap.size m (-1) W (Nat.le_trans HB0.out (goes HBW.out hB).size) (HQ.out.up (goes HBW.out hB)) hd HQS.out hq1 (by decide) (by decide) (K8.out.up hB) (cell_up HO3.out (goes HB4.out hB)))
  have HXS := Hd.mk (raiseD_short order m 1 HPS.out)
  have HYS := Hd.mk (raiseD_short order m (-1) HQS.out)
  obtain ⟨X, hX⟩ : ∃ X, raiseD order m p 1 = X := ⟨_, rfl⟩
  obtain ⟨Y, hY⟩ : ∃ Y, raiseD order m q (-1) = Y := ⟨_, rfl⟩
  rw [hX] at CP HE HXS
  rw [hY] at CQ HE HYS
  clear hX hY hc hd
  go_wp2_with fail
  refine CP.out.mono ?_
  rintro e w5 ⟨XA, xc, rfl, hxc, hx, hb5⟩
  have HX := Hd.mk hx
  have HB5 := Hd.mk hb5
  have HXC := Hd.mk hxc
  clear hx hb5 hxc CP
  by_cases hx0 : X.1 = 0
  case neg =>
   have e5 : (X.1 != 0) = true := by rw [bne_iff_ne]; exact hx0
   have HF : Hd (crossD order p q = (X.1, [])) := ⟨by rw [HE.out, if_pos hx0]⟩
   clear hx0
   go_wp2_with fail
   go_ret2
   rw [HF.out]
   exact ⟨none, 0, rfl, Nat.le_refl _, RPol.nil _ _ _, goes HBW.out HB5.out⟩
  have e5 : (X.1 != 0) = false := by rw [bne_eq_false_iff_eq]; exact hx0
  have HE2 : Hd (crossD order p q = if Y.1 ≠ 0 then (Y.1, []) else polAdd order [X.2, Y.2]) := ⟨by rw [HE.out, if_neg (by rw [hx0]; simp)]⟩
  have CQ := Hd.mk (CQ.out w5 HB5.out)
  clear hx0
  go_wp2_with fail
  refine CQ.out.mono ?_
  rintro e w6 ⟨YA, yc, rfl, hyc, hy, hb6⟩
  have HY := Hd.mk hy
  have HX6 := Hd.mk (HX.out.up hb6)
  have HB6 := Hd.mk (goes HB5.out hb6)
  have HYC := Hd.mk hyc
  clear hy hb6 hyc CQ
  by_cases hy0 : Y.1 = 0
  case neg =>
   have e6 : (Y.1 != 0) = true := by rw [bne_iff_ne]; exact hy0
   have HF : Hd (crossD order p q = (Y.1, [])) := ⟨by rw [HE2.out, if_pos hy0]⟩
   clear hy0
   go_wp2_with fail
   go_ret2
   rw [HF.out]
   exact ⟨none, 0, rfl, Nat.le_refl _, RPol.nil _ _ _, goes HBW.out HB6.out⟩
  have e6 : (Y.1 != 0) = false := by rw [bne_eq_false_iff_eq]; exact hy0
  have HF : Hd (crossD order p q = polAdd order [X.2, Y.2]) := ⟨by rw [HE2.out, if_neg (by rw [hy0]; simp)]⟩
  have ho := cell_up HO3.out (goes HB4.out HB6.out)
  have hbn : Below w6.heap.size w6 (w6.alloc (Obj.cells #[.slice XA X.2.length xc, .slice YA Y.2.length yc] 25)) := (Below.refl _ _).alloc (Nat.le_refl _) _
  have ho7 := cell_up ho hbn
  have HB7 := Hd.mk (goes (goes HBW.out HB6.out) hbn)
  have CA := Hd.mk (poly_Add b0 order (some ⟨w6.heap.size, 0, none⟩) 2 [X.2, Y.2] _ (Nat.le_trans HB0.out HB7.out.size) (rpols_bk2 (p := X.2) (q := Y.2) (Bk.new_ w6 25 #[.slice XA X.2.length xc, .slice YA Y.2.length yc]) (HX6.out.up hbn) (HY.out.up hbn) HXC.out HYC.out) (Nat.le_refl _) ⟨by simp, fun z hz => by
          simp only [List.mem_cons, List.not_mem_nil, or_false] at hz
          rcases hz with rfl | rfl
          ·exact HXS.out
          ·exact HYS.out⟩)
  obtain ⟨Z, hZ⟩ : ∃ Z, polAdd order [X.2, Y.2] = Z := ⟨_, rfl⟩
  rw [hZ] at CA HF
  clear hZ hy0 hbn
  go_wp2_with fail
  refine CA.out.mono ?_
  rintro e w8 ⟨ZA, zc, rfl, hzc, hz, hb8⟩
  have HZ := Hd.mk hz
  have HZC := Hd.mk hzc
  have HB8 := Hd.mk (goes HB7.out hb8)
  clear hz hb8 hzc
  go_wp2_with fail
  go_ret2
  rw [HF.out]
  exact ⟨ZA, zc, rfl, HZC.out, HZ.out, HB8.out⟩
end Go.Proofs.YtgjkgkgieeoalaaGreat
