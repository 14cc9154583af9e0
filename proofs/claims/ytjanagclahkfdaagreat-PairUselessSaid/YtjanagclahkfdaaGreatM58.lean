/- Parts of the proof, joined: what each says stands at its head. -/
import Derived.Test.YtjanagclahkfdaaGreatM57
import Derived.Test.YtjanagclahkfdaaGreatM28
import Derived.Test.YtjanagclahkfdaaGreatM24
set_option linter.unusedVariables false
set_option linter.unusedSimpArgs false
set_option maxHeartbeats 24000000
set_option maxRecDepth 100000
namespace Go.Proofs.YtjanagclahkfdaaGreat
open Go.RowKit
def chainAt (ls : List MonD) (x : Int × Int) (ps : List (Int × Int)) (k : Nat) : Bool :=
 !(decide ((k : Int) = x.1) || decide ((k : Int) = x.2)) && (monDiv (monLcm (atM ls x.1) (atM ls x.2)) (atM ls k)).1 && !hasP ps x.1 k && !hasP ps x.2 k
def chainD (ls : List MonD) (x : Int × Int) (ps : List (Int × Int)) : Bool := rightD ls.length x && (List.range ls.length).any (chainAt ls x ps)
theorem chain_yes {ls : List MonD} {x : Int × Int} {ps : List (Int × Int)} {k : Nat} (hr : rightD ls.length x = true) (hk : k < ls.length) (h : chainAt ls x ps k = true) : chainD ls x ps = true := by
 unfold chainD
 rw [hr, Bool.true_and]
 exact List.any_eq_true.2 ⟨k, List.mem_range.2 hk, h⟩
theorem chain_no {ls : List MonD} {x : Int × Int} {ps : List (Int × Int)} (h : ∀ k, k < ls.length → chainAt ls x ps k = false) : chainD ls x ps = false := by
 unfold chainD
 rw [Bool.and_eq_false_iff]
 right
 rw [List.any_eq_false]
 intro k hk
 rw [h k (List.mem_range.1 hk)]
 simp
theorem upto_step {P : Nat → Bool} {i : Nat} (h : ∀ j, j < i → P j = false) (hi : P i = false) : ∀ j, j < i + 1 → P j = false := fun j hj => by
 rcases Nat.lt_or_ge j i with h' | h'
 ·exact h j h'
 ·obtain rfl : j = i := by omega
  exact hi
theorem pair_Chained (A B : Option Addr) (c d : Nat) (ls : List MonD) (x y : Int) (ps : List (Int × Int)) (w : World) (h : RMons w A ls) (hl : ls.length ≤ 1000000) (hp : RPrs w B ps) (hpl : ps.length ≤ 1000000) :
    Calls Tryz.prog 39 #[.slice A ls.length c, .agg #[.int .i64 x, .int .i64 y], .slice B ps.length d] w fun e w' => e = .returned (.bool (chainD ls (x, y) ps)) ∧ Below w.heap.size w w' := by
 have HR := Hd.mk h
 have HP := Hd.mk hp
 clear h hp
 have CR := Hd.mk (fun W => pair_right A ls.length c x y W)
 go_enter Tryz.func39, Tryz.ntmps39
 go_upto_region 1 with (fail)
 refine wp_gen (fun W => Bo2 w.heap.size w.heap.size (w.heap.size + 1) w W 72 69 #[.int .i64 x, .int .i64 y] #[.slice B ps.length d]) (Bo2.mk2 w _ _ _ _) ?_
 intro W1 BX1
 generalize w.heap.size + 1 = g5 at BX1 ⊢
 obtain ⟨d0, d1⟩ := BX1.out.k1.pair
 cases hr : rightD ls.length (x, y)
 case false =>
  rw [hr] at CR
  have HE : Hd (chainD ls (x, y) ps = false) := ⟨by unfold chainD; rw [hr]; rfl⟩
  clear hr
  go_wp2_with fail
  refine (CR.out _).mono ?_
  rintro e w2 ⟨rfl, hb⟩
  have HB2 := Hd.mk (goes BX1.out.below hb)
  clear hb
  go_wp2_with fail
  go_ret
  exact ⟨retBool HE.out.symm, HB2.out⟩
 rw [hr] at CR
 obtain ⟨x0, xy, yn⟩ := rightD_of hr
 have HRT := Hd.mk hr
 obtain ⟨a, rfl⟩ : ∃ a : Nat, x = a := ⟨x.toNat, by omega⟩
 obtain ⟨b, rfl⟩ : ∃ b : Nat, y = b := ⟨y.toNat, by omega⟩
 have ha : a < ls.length := by omega
 have hb' : b < ls.length := by omega
 have a1 : (a : Int) < ls.length := by omega
 have b1 : (b : Int) < ls.length := by omega
 have a3 : (0 : Int) ≤ a := by omega
 have b3 : (0 : Int) ≤ b := by omega
 clear hr x0 xy yn
 go_wp2_with fail
 refine (CR.out _).mono ?_
 rintro e w2 ⟨rfl, hb⟩
 have BX2 := Hd.mk (BX1.out.up hb)
 clear hb CR BX1 d0 d1
 obtain ⟨d0, d1⟩ := BX2.out.k1.pair
 obtain ⟨ad, m, rfl, -, hm, c0, c1, c2, c3⟩ := (HR.out.up BX2.out.below).get ha
 obtain ⟨ad', m', e, -, hm', e0, e1, e2, e3⟩ := (HR.out.up BX2.out.below).get hb'
 injection e with e
 subst e
 have HLM : Hd (monLcm (atM ls a) (atM ls b) = monLcm m m') := ⟨by rw [atM_of hm.out, atM_of hm'.out]⟩
 have CL := Hd.mk (mono_Lcm m m')
 obtain ⟨z, hz⟩ : ∃ z, monLcm m m' = z := ⟨_, rfl⟩
 rw [hz] at CL HLM
 clear hz hm hm'
 have SO := Hd.mk (fun W (hB : Below w2.heap.size w2 W) => And.intro (Hd.mk hB) (And.intro (cell_up d0 hB) (And.intro (cell_up d1 hB) (And.intro (cell_up c0 hB) (And.intro (cell_up c1 hB) (And.intro (cell_up c2 hB) (And.intro (cell_up c3 hB) (And.intro (cell_up e0 hB) (And.intro (cell_up e1 hB) (And.intro (cell_up e2 hB) (cell_up e3 hB)))))))))))
 go_wp2_with fail
 go_cut [7] (fun v7 wx => ∃ g7, v7 = .pointer (some ⟨g7, 0, none⟩) ∧ Hd (Bk wx g7 45 #[.int .i64 z.x0, .int .i64 z.x1, .int .i64 z.x2, .int .i64 z.x3]) ∧ Hd (Below w2.heap.size w2 wx))
 case first =>
  go_region_held3 (fun W => Hd (Below w2.heap.size w2 W) ∧ W.cell? ⟨w.heap.size, 0, none⟩ = some (.int .i64 a) ∧ W.cell? ⟨w.heap.size, 1, none⟩ = some (.int .i64 b) ∧
      W.cell? (ad.add (a * 4)) = some (.int .i64 m.x0) ∧ W.cell? ⟨(ad.add (a * 4)).block, (ad.add (a * 4)).off + 1, none⟩ = some (.int .i64 m.x1) ∧ W.cell? ⟨(ad.add (a * 4)).block, (ad.add (a * 4)).off + 2, none⟩ = some (.int .i64 m.x2) ∧ W.cell? ⟨(ad.add (a * 4)).block, (ad.add (a * 4)).off + 3, none⟩ = some (.int .i64 m.x3) ∧
      W.cell? (ad.add (b * 4)) = some (.int .i64 m'.x0) ∧ W.cell? ⟨(ad.add (b * 4)).block, (ad.add (b * 4)).off + 1, none⟩ = some (.int .i64 m'.x1) ∧ W.cell? ⟨(ad.add (b * 4)).block, (ad.add (b * 4)).off + 2, none⟩ = some (.int .i64 m'.x2) ∧ W.cell? ⟨(ad.add (b * 4)).block, (ad.add (b * 4)).off + 3, none⟩ = some (.int .i64 m'.x3))
   (first
    | with_reducible exact SO.out _ (.refl _ _)
    | with_reducible exact SO.out _ (Below.refl _ _).drew
    | with_reducible exact SO.out _ ((Below.refl _ _).drew.alloc (Nat.le_refl _) _)
    | with_reducible exact SO.out _ ((Below.refl _ _).alloc (Nat.le_refl _) _).drew
    | with_reducible exact SO.out _ hB5
    | with_reducible exact SO.out _ (hB5.alloc hB5.size _)
    | with_reducible exact SO.out _ (below_set4 hB5 (Nat.le_refl _) _ _ _ _)
    | with_reducible exact SO.out _ (below_set4 (hB5.alloc hB5.size _) hB5.size _ _ _ _)
    | fail)
   (first
    | (go_at_call 62; have hB := ‹Hd (Below w2.heap.size w2 _) ∧ _›.1; with_reducible refine (CL.out ((w2.alloc (Obj.cells #[.int .i64 0, .int .i64 0, .int .i64 0, .int .i64 0] 45)).drew)).mono ?_; rintro e w8 ⟨rfl, hb⟩
       have hB5 := hB.out.trans (hb.lo.mono hB.out.size)
       have hk := Hd.mk ((Bk.new_ w2 45 #[.int .i64 0, .int .i64 0, .int .i64 0, .int .i64 0]).d1.up hb.lo)
       obtain ⟨p6, p7, p8, p9⟩ := hk.out.four
       have fz := fun i => hk.out.froz i)
    | (go_at_call 62; have hB := ‹Hd (Below w2.heap.size w2 _) ∧ _›.1; with_reducible refine (CL.out _).mono ?_; rintro e w8 ⟨rfl, hb⟩
       have hB5 := hB.out.trans (hb.lo.mono hB.out.size)))
  all_goals
   go_wp2_with fail
   go_meet
   first
   | exact ⟨_, rfl, ⟨hk.out.set4 (.int .i64 z.x0) (.int .i64 z.x1) (.int .i64 z.x2) (.int .i64 z.x3)⟩, ⟨below_set4 hB5 (Nat.le_refl _) (.int .i64 z.x0) (.int .i64 z.x1) (.int .i64 z.x2) (.int .i64 z.x3)⟩⟩
   | exact ⟨_, rfl, ⟨Bk.new_ w8 45 #[.int .i64 z.x0, .int .i64 z.x1, .int .i64 z.x2, .int .i64 z.x3]⟩, ⟨hB5.alloc hB5.size (Obj.cells #[.int .i64 z.x0, .int .i64 z.x1, .int .i64 z.x2, .int .i64 z.x3] 45)⟩⟩
 case rest =>
  obtain ⟨g7, rfl, K7, HB3⟩ := hcut
  have BX3 := Hd.mk (BX2.out.up HB3.out)
  clear SO CL c0 c1 c2 c3 e0 e1 e2 e3 d0 d1 BX2 HB3
  go_wp2_with fail
  go_loopw [31] (fun v wr => ∃ i : Nat, v = .int .i64 i ∧ i ≤ ls.length ∧ Hd (Below wc.heap.size wc wr) ∧ Hd (∀ j, j < i → chainAt ls (a, b) ps j = false)) (fun v _ => ls.length - (intOf v).toNat)
  case atStart => exact ⟨0, rfl, by omega, ⟨.refl _ _⟩, ⟨fun j h => absurd h (by omega)⟩⟩
  case round =>
   obtain ⟨i, rfl, hi, HB, HNO⟩ := hrel
   by_cases hlt : i < ls.length
   case neg =>
    have i1 : ¬ (i : Int) < ls.length := by omega
    obtain rfl : i = ls.length := by omega
    have HE := Hd.mk (chain_no HNO.out)
    go_wp2_with fail
    go_ret
    exact ⟨retBool HE.out.symm, goes BX3.out.below HB.out⟩
   have i1 : (i : Int) < ls.length := by omega
   have i3 : (0 : Int) ≤ i := by omega
   have BX4 := Hd.mk (BX3.out.up HB.out)
   obtain ⟨d0, d1⟩ := BX4.out.k1.pair
   obtain ⟨ad', mi, e, -, hmi, c0, c1, c2, c3⟩ := (HR.out.up BX4.out.below).get hlt
   injection e with e
   subst e
   have HMI := Hd.mk (atM_of hmi.out)
   clear hmi
   go_upto_region 8 with (fail)
   refine wp_gen (fun W => Bk W wr.heap.size 45 #[.int .i64 mi.x0, .int .i64 mi.x1, .int .i64 mi.x2, .int .i64 mi.x3] ∧ Below wr.heap.size wr W) ⟨Bk.new_ wr 45 #[.int .i64 mi.x0, .int .i64 mi.x1, .int .i64 mi.x2, .int .i64 mi.x3], (Below.refl _ _).alloc (Nat.le_refl _) _⟩ ?_
   intro W5 H5
   have K10 := Hd.mk H5.out.1
   have HB5 := Hd.mk (goes HB.out H5.out.2)
   have BX5 := Hd.mk (BX4.out.up H5.out.2)
   have K7' := Hd.mk (K7.out.up HB5.out)
   generalize wr.heap.size = g10 at K10 ⊢
   clear H5 c0 c1 c2 c3 d0 d1 BX4
   obtain ⟨d0, d1⟩ := BX5.out.k1.pair
   by_cases hia : i = a
   case pos =>
    have e1 : ((i : Int) == (a : Int)) = true := by rw [beq_iff_eq]; omega
    have e2 : (i == a) = true := by rw [beq_iff_eq]; omega
    have HN2 := Hd.mk (upto_step (P := chainAt ls (a, b) ps) HNO.out (by unfold chainAt; simp [hia]))
    clear hia
    go_wp2_with fail
    exact ⟨⟨i + 1, by go_num, by omega, HB5, HN2⟩, by simp [intOf]; omega⟩
   have e1 : ((i : Int) == (a : Int)) = false := by rw [beq_eq_false_iff_ne]; omega
   have e2 : (i == a) = false := by rw [beq_eq_false_iff_ne]; omega
   by_cases hib : i = b
   case pos =>
    have e3 : ((i : Int) == (b : Int)) = true := by rw [beq_iff_eq]; omega
    have e4 : (i == b) = true := by rw [beq_iff_eq]; omega
    have HN2 := Hd.mk (upto_step (P := chainAt ls (a, b) ps) HNO.out (by unfold chainAt; simp [hib]))
    clear hia hib
    go_wp2_with fail
    exact ⟨⟨i + 1, by go_num, by omega, HB5, HN2⟩, by simp [intOf]; omega⟩
   have e3 : ((i : Int) == (b : Int)) = false := by rw [beq_eq_false_iff_ne]; omega
   have e4 : (i == b) = false := by rw [beq_eq_false_iff_ne]; omega
   have CD := Hd.mk (mono_Div z mi)
   obtain ⟨⟨is, q⟩, hD⟩ : ∃ X, monDiv z mi = X := ⟨_, rfl⟩
   rw [hD] at CD
   dsimp only at CD
   have HAT : Hd (chainAt ls (a, b) ps i = (is && !hasP ps a i && !hasP ps b i)) := ⟨by
    unfold chainAt
    dsimp only
    rw [HLM.out, HMI.out, hD, decide_eq_false (by omega), decide_eq_false (by omega)]
    rfl⟩
   obtain ⟨f0, f1, f2, f3⟩ := K10.out.four
   obtain ⟨k0, k1, k2, k3⟩ := K7'.out.four
   clear hD hia hib
   go_wp2_with fail
   refine (CD.out _).mono ?_
   rintro e w6 ⟨rfl, hb6⟩
   have HB6 := Hd.mk (goes HB5.out hb6.lo)
   have BX6 := Hd.mk (BX5.out.up hb6.lo)
   clear hb6 CD f0 f1 f2 f3 k0 k1 k2 k3 K10 K7' d0 d1 BX5
   go_upto_region 10 with (fail)
   refine wp_gen (fun W => Below w6.heap.size w6 W) ((Below.refl _ _).alloc (Nat.le_refl _) _) ?_
   intro W7 H7
   have HB7 := Hd.mk (goes HB6.out H7.out)
   have BX7 := Hd.mk (BX6.out.up H7.out)
   generalize w6.heap.size = g11 at H7 ⊢
   obtain ⟨d0, d1⟩ := BX7.out.k1.pair
   clear H7 BX6 HB6
   cases is with
   | false =>
     have HN2 := Hd.mk (upto_step (P := chainAt ls (a, b) ps) HNO.out (by rw [HAT.out]; rfl))
     go_wp2_with fail
     exact ⟨⟨i + 1, by go_num, by omega, HB7, HN2⟩, by simp [intOf]; omega⟩
   | true =>
     have CW := Hd.mk (fun W (hB : Below W7.heap.size W7 W) (u : Int) => pair_waits B d g5 ps u i W (HP.out.up (goes BX7.out.below hB)) hpl ((BX7.out.k2.up hB).one))
     have CW1 := Hd.mk (CW.out W7 (.refl _ _) a)
     obtain ⟨h1, hh1⟩ : ∃ h1, hasP ps a i = h1 := ⟨_, rfl⟩
     rw [hh1] at CW1 HAT
     clear hh1
     cases h1 with
     | true =>
       have HN2 := Hd.mk (upto_step (P := chainAt ls (a, b) ps) HNO.out (by rw [HAT.out]; rfl))
       go_wp2_with fail
       refine CW1.out.mono ?_
       rintro e w8 ⟨rfl, hb8⟩
       have HB8 := Hd.mk (goes HB7.out hb8)
       clear hb8
       go_wp2_with fail
       exact ⟨⟨i + 1, by go_num, by omega, HB8, HN2⟩, by simp [intOf]; omega⟩
     | false =>
       have CW2 := Hd.mk (fun W hB => CW.out W hB b)
       obtain ⟨h2, hh2⟩ : ∃ h2, hasP ps b i = h2 := ⟨_, rfl⟩
       rw [hh2] at CW2 HAT
       clear hh2 CW
       go_wp2_with fail
       refine CW1.out.mono ?_
       rintro e w8 ⟨rfl, hb8⟩
       have HB8 := Hd.mk (goes HB7.out hb8)
       have CW3 := Hd.mk (CW2.out w8 hb8)
       obtain ⟨d0, d1⟩ := (BX7.out.up hb8).k1.pair
       clear hb8 CW1 CW2
       cases h2 with
       | true =>
         have HN2 := Hd.mk (upto_step (P := chainAt ls (a, b) ps) HNO.out (by rw [HAT.out]; rfl))
         go_wp2_with fail
         refine CW3.out.mono ?_
         rintro e w9 ⟨rfl, hb9⟩
         have HB9 := Hd.mk (goes HB8.out hb9)
         clear hb9
         go_wp2_with fail
         exact ⟨⟨i + 1, by go_num, by omega, HB9, HN2⟩, by simp [intOf]; omega⟩
       | false =>
         have HE := Hd.mk (chain_yes HRT.out hlt (by rw [HAT.out]; rfl))
         go_wp2_with fail
         refine CW3.out.mono ?_
         rintro e w9 ⟨rfl, hb9⟩
         have HB9 := Hd.mk (goes HB8.out hb9)
         clear hb9
         go_wp2_with fail
         go_ret
         exact ⟨retBool HE.out.symm, goes BX3.out.below HB9.out⟩
theorem ref13_Chained (A B : Option Addr) (c d : Nat) (ls : List MonD) (x y : Int) (ps : List (Int × Int)) (w : World) (h : RMons w A ls) (hl : ls.length ≤ 1000000) (hp : RPrs w B ps) (hpl : ps.length ≤ 1000000) :
    Calls Tryz.prog 40 #[.slice A ls.length c, .agg #[.int .i64 x, .int .i64 y], .slice B ps.length d] w fun e w' => e = .returned (.bool (chainD ls (x, y) ps)) ∧ Below w.heap.size w w' := by
 have HR := Hd.mk h
 have HP := Hd.mk hp
 clear h hp
 have CR := Hd.mk (fun W => ref13_right A ls.length c x y W)
 go_enter Tryz.func40, Tryz.ntmps40
 go_upto_region 1 with (fail)
 refine wp_gen (fun W => Below w.heap.size w W ∧ Bk W w.heap.size 72 #[.int .i64 x, .int .i64 y]) ⟨(Below.refl _ _).alloc (Nat.le_refl _) _, Bk.new_ _ _ _⟩ ?_
 intro W1 BX1
 obtain ⟨d0, d1⟩ := BX1.out.2.pair
 cases hr : rightD ls.length (x, y)
 case false =>
  rw [hr] at CR
  have HE : Hd (chainD ls (x, y) ps = false) := ⟨by unfold chainD; rw [hr]; rfl⟩
  clear hr
  go_wp2_with fail
  refine (CR.out _).mono ?_
  rintro e w2 ⟨rfl, hb⟩
  have HB2 := Hd.mk (goes BX1.out.1 hb)
  clear hb
  go_wp2_with fail
  go_ret
  exact ⟨retBool HE.out.symm, HB2.out⟩
 rw [hr] at CR
 obtain ⟨x0, xy, yn⟩ := rightD_of hr
 have HRT := Hd.mk hr
 obtain ⟨a, rfl⟩ : ∃ a : Nat, x = a := ⟨x.toNat, by omega⟩
 obtain ⟨b, rfl⟩ : ∃ b : Nat, y = b := ⟨y.toNat, by omega⟩
 have ha : a < ls.length := by omega
 have hb' : b < ls.length := by omega
 have a1 : (a : Int) < ls.length := by omega
 have b1 : (b : Int) < ls.length := by omega
 have a3 : (0 : Int) ≤ a := by omega
 have b3 : (0 : Int) ≤ b := by omega
 clear hr x0 xy yn
 go_wp2_with fail
 refine (CR.out _).mono ?_
 rintro e w2 ⟨rfl, hb⟩
 have BX2 := Hd.mk (And.intro (goes BX1.out.1 hb) (BX1.out.2.up hb))
 clear hb CR BX1 d0 d1
 obtain ⟨d0, d1⟩ := BX2.out.2.pair
 obtain ⟨ad, m, rfl, -, hm, c0, c1, c2, c3⟩ := (HR.out.up BX2.out.1).get ha
 obtain ⟨ad', m', e, -, hm', e0, e1, e2, e3⟩ := (HR.out.up BX2.out.1).get hb'
 injection e with e
 subst e
 have HLM : Hd (monLcm (atM ls a) (atM ls b) = monLcm m m') := ⟨by rw [atM_of hm.out, atM_of hm'.out]⟩
 have CL := Hd.mk (rmon_Lcm m m')
 simp only [MonD.v] at CL
 obtain ⟨z, hz⟩ : ∃ z, monLcm m m' = z := ⟨_, rfl⟩
 rw [hz] at CL HLM
 clear hz hm hm'
 have SO := Hd.mk (fun W (hB : Below w2.heap.size w2 W) => And.intro (Hd.mk hB) (And.intro (cell_up d0 hB) (And.intro (cell_up d1 hB) (And.intro (cell_up c0 hB) (And.intro (cell_up c1 hB) (And.intro (cell_up c2 hB) (And.intro (cell_up c3 hB) (And.intro (cell_up e0 hB) (And.intro (cell_up e1 hB) (And.intro (cell_up e2 hB) (cell_up e3 hB)))))))))))
 go_wp2_with fail
 go_cut [7] (fun v7 wx => ∃ g7, v7 = .pointer (some ⟨g7, 0, none⟩) ∧ Hd (Bk wx g7 45 #[.int .i64 z.x0, .int .i64 z.x1, .int .i64 z.x2, .int .i64 z.x3]) ∧ Hd (Below w2.heap.size w2 wx))
 case first =>
  go_region_held3 (fun W => Hd (Below w2.heap.size w2 W) ∧ W.cell? ⟨w.heap.size, 0, none⟩ = some (.int .i64 a) ∧ W.cell? ⟨w.heap.size, 1, none⟩ = some (.int .i64 b) ∧
      W.cell? (ad.add (a * 4)) = some (.int .i64 m.x0) ∧ W.cell? ⟨(ad.add (a * 4)).block, (ad.add (a * 4)).off + 1, none⟩ = some (.int .i64 m.x1) ∧ W.cell? ⟨(ad.add (a * 4)).block, (ad.add (a * 4)).off + 2, none⟩ = some (.int .i64 m.x2) ∧ W.cell? ⟨(ad.add (a * 4)).block, (ad.add (a * 4)).off + 3, none⟩ = some (.int .i64 m.x3) ∧
      W.cell? (ad.add (b * 4)) = some (.int .i64 m'.x0) ∧ W.cell? ⟨(ad.add (b * 4)).block, (ad.add (b * 4)).off + 1, none⟩ = some (.int .i64 m'.x1) ∧ W.cell? ⟨(ad.add (b * 4)).block, (ad.add (b * 4)).off + 2, none⟩ = some (.int .i64 m'.x2) ∧ W.cell? ⟨(ad.add (b * 4)).block, (ad.add (b * 4)).off + 3, none⟩ = some (.int .i64 m'.x3))
   (first
    | with_reducible exact SO.out _ (.refl _ _)
    | with_reducible exact SO.out _ (Below.refl _ _).drew
    | with_reducible exact SO.out _ ((Below.refl _ _).drew.alloc (Nat.le_refl _) _)
    | with_reducible exact SO.out _ ((Below.refl _ _).alloc (Nat.le_refl _) _).drew
    | with_reducible exact SO.out _ hB5
    | with_reducible exact SO.out _ (hB5.alloc hB5.size _)
    | with_reducible exact SO.out _ (below_set4 hB5 (Nat.le_refl _) _ _ _ _)
    | with_reducible exact SO.out _ (below_set4 (hB5.alloc hB5.size _) hB5.size _ _ _ _)
    | fail)
   (first
    | (go_at_call 33; have hB := ‹Hd (Below w2.heap.size w2 _) ∧ _›.1; with_reducible refine (CL.out ((w2.alloc (Obj.cells #[.int .i64 0, .int .i64 0, .int .i64 0, .int .i64 0] 45)).drew)).mono ?_; rintro e w8 ⟨rfl, hb⟩
       have hB5 := hB.out.trans (hb.mono hB.out.size)
       have hk := Hd.mk ((Bk.new_ w2 45 #[.int .i64 0, .int .i64 0, .int .i64 0, .int .i64 0]).d1.up hb)
       obtain ⟨p6, p7, p8, p9⟩ := hk.out.four
       have fz := fun i => hk.out.froz i)
    | (go_at_call 33; have hB := ‹Hd (Below w2.heap.size w2 _) ∧ _›.1; with_reducible refine (CL.out _).mono ?_; rintro e w8 ⟨rfl, hb⟩
       have hB5 := hB.out.trans (hb.mono hB.out.size)))
  all_goals
   go_wp2_with fail
   go_meet
   first
   | exact ⟨_, rfl, ⟨hk.out.set4 (.int .i64 z.x0) (.int .i64 z.x1) (.int .i64 z.x2) (.int .i64 z.x3)⟩, ⟨below_set4 hB5 (Nat.le_refl _) (.int .i64 z.x0) (.int .i64 z.x1) (.int .i64 z.x2) (.int .i64 z.x3)⟩⟩
   | exact ⟨_, rfl, ⟨Bk.new_ w8 45 #[.int .i64 z.x0, .int .i64 z.x1, .int .i64 z.x2, .int .i64 z.x3]⟩, ⟨hB5.alloc hB5.size (Obj.cells #[.int .i64 z.x0, .int .i64 z.x1, .int .i64 z.x2, .int .i64 z.x3] 45)⟩⟩
 case rest =>
  obtain ⟨g7, rfl, K7, HB3⟩ := hcut
  have BX3 := Hd.mk (And.intro (goes BX2.out.1 HB3.out) (BX2.out.2.up HB3.out))
  clear SO CL c0 c1 c2 c3 e0 e1 e2 e3 d0 d1 BX2 HB3
  go_wp2_with fail
  go_loopw [8] (fun v wr => ∃ i : Nat, v = .int .i64 i ∧ i ≤ ls.length ∧ Hd (Below wc.heap.size wc wr) ∧ Hd (∀ j, j < i → chainAt ls (a, b) ps j = false)) (fun v _ => ls.length - (intOf v).toNat)
  case atStart => exact ⟨0, rfl, by omega, ⟨.refl _ _⟩, ⟨fun j h => absurd h (by omega)⟩⟩
  case round =>
   obtain ⟨i, rfl, hi, HB, HNO⟩ := hrel
   by_cases hlt : i < ls.length
   case neg =>
    have i1 : ¬ (i : Int) < ls.length := by omega
    obtain rfl : i = ls.length := by omega
    have HE := Hd.mk (chain_no HNO.out)
    go_wp2_with fail
    go_ret
    exact ⟨retBool HE.out.symm, goes BX3.out.1 HB.out⟩
   have i1 : (i : Int) < ls.length := by omega
   have i3 : (0 : Int) ≤ i := by omega
   have K4 := Hd.mk (BX3.out.2.up HB.out)
   obtain ⟨k0, k1, k2, k3⟩ := (K7.out.up HB.out).four
   obtain ⟨ad', mi, e, -, hmi, c0, c1, c2, c3⟩ := (HR.out.up (goes BX3.out.1 HB.out)).get hlt
   injection e with e
   subst e
   have HMI := Hd.mk (atM_of hmi.out)
   clear hmi
   have CD := Hd.mk (rmon_Div z mi)
   simp only [MonD.v] at CD
   obtain ⟨⟨is, q⟩, hD⟩ : ∃ X, monDiv z mi = X := ⟨_, rfl⟩
   rw [hD] at CD
   dsimp only at CD
   have HAT : Hd (chainAt ls (a, b) ps i = (!(decide ((i : Int) = a) || decide ((i : Int) = b)) && is && !hasP ps a i && !hasP ps b i)) := ⟨by
    unfold chainAt
    dsimp only
    rw [HLM.out, HMI.out, hD]⟩
   have SO := Hd.mk (fun W (hB : Below wr.heap.size wr W) => And.intro (Hd.mk hB) (And.intro (cell_up k0 hB) (And.intro (cell_up k1 hB) (And.intro (cell_up k2 hB) (And.intro (cell_up k3 hB) (And.intro (cell_up c0 hB) (And.intro (cell_up c1 hB) (And.intro (cell_up c2 hB) (cell_up c3 hB)))))))))
   clear hD
   go_upto_region 7 with (fail)
   go_cut [10] (fun v10 wx => v10 = .bool is ∧ Hd (Below wr.heap.size wr wx))
   case first =>
    go_region_held3 (fun W => Hd (Below wr.heap.size wr W) ∧ W.cell? ⟨g7, 0, none⟩ = some (.int .i64 z.x0) ∧ W.cell? ⟨g7, 1, none⟩ = some (.int .i64 z.x1) ∧ W.cell? ⟨g7, 2, none⟩ = some (.int .i64 z.x2) ∧ W.cell? ⟨g7, 3, none⟩ = some (.int .i64 z.x3) ∧
        W.cell? (ad.add (i * 4)) = some (.int .i64 mi.x0) ∧ W.cell? ⟨(ad.add (i * 4)).block, (ad.add (i * 4)).off + 1, none⟩ = some (.int .i64 mi.x1) ∧ W.cell? ⟨(ad.add (i * 4)).block, (ad.add (i * 4)).off + 2, none⟩ = some (.int .i64 mi.x2) ∧ W.cell? ⟨(ad.add (i * 4)).block, (ad.add (i * 4)).off + 3, none⟩ = some (.int .i64 mi.x3))
     (first
      | with_reducible exact SO.out _ (.refl _ _)
      | with_reducible exact SO.out _ (Below.refl _ _).drew
      | with_reducible exact SO.out _ ((Below.refl _ _).drew.alloc (Nat.le_refl _) _)
      | with_reducible exact SO.out _ ((Below.refl _ _).alloc (Nat.le_refl _) _).drew
      | with_reducible exact SO.out _ hB5
      | with_reducible exact SO.out _ (hB5.alloc hB5.size _)
      | with_reducible exact SO.out _ (below_set4 hB5 (Nat.le_refl _) _ _ _ _)
      | with_reducible exact SO.out _ (below_set4 (hB5.alloc hB5.size _) hB5.size _ _ _ _)
      | fail)
     (first
      | (go_at_call 24; have hB := ‹Hd (Below wr.heap.size wr _) ∧ _›.1; with_reducible refine (CD.out ((wr.alloc (Obj.cells #[.int .i64 0, .int .i64 0, .int .i64 0, .int .i64 0] 45)).drew)).mono ?_; rintro e w8 ⟨rfl, hb⟩
         have hB5 := hB.out.trans (hb.mono hB.out.size)
         have hk := Hd.mk ((Bk.new_ wr 45 #[.int .i64 0, .int .i64 0, .int .i64 0, .int .i64 0]).d1.up hb)
         obtain ⟨p6, p7, p8, p9⟩ := hk.out.four
         have fz := fun i => hk.out.froz i)
      | (go_at_call 24; have hB := ‹Hd (Below wr.heap.size wr _) ∧ _›.1; with_reducible refine (CD.out _).mono ?_; rintro e w8 ⟨rfl, hb⟩
         have hB5 := hB.out.trans (hb.mono hB.out.size)))
    all_goals
     have hB9 := ‹Hd (Below wr.heap.size wr _) ∧ _›.1
     go_wp2_with fail
     go_meet
     exact ⟨rfl, hB9⟩
   case rest =>
    obtain ⟨rfl, HB5⟩ := hcut
    have HB6 := Hd.mk (goes HB.out HB5.out)
    obtain ⟨d0, d1⟩ := (K4.out.up HB5.out).pair
    clear SO CD k0 k1 k2 k3 c0 c1 c2 c3
    cases is with
    | false =>
      have HN2 := Hd.mk (upto_step (P := chainAt ls (a, b) ps) HNO.out (by rw [HAT.out, Bool.and_false]; rfl))
      go_wp2_with fail
      exact ⟨⟨i + 1, by go_num, by omega, HB6, HN2⟩, by simp [intOf]; omega⟩
    | true =>
      by_cases hia : i = a
      case pos =>
       have e1 : ((i : Int) != (a : Int)) = false := by rw [bne_eq_false_iff_eq]; omega
       have e2 : (i != a) = false := by rw [bne_eq_false_iff_eq]; omega
       have HN2 := Hd.mk (upto_step (P := chainAt ls (a, b) ps) HNO.out (by rw [HAT.out, decide_eq_true (show (i : Int) = a by omega)]; rfl))
       clear hia
       go_wp2_with fail
       exact ⟨⟨i + 1, by go_num, by omega, HB6, HN2⟩, by simp [intOf]; omega⟩
      have e1 : ((i : Int) != (a : Int)) = true := by rw [bne_iff_ne]; omega
      have e2 : (i != a) = true := by rw [bne_iff_ne]; omega
      by_cases hib : i = b
      case pos =>
       have e3 : ((i : Int) != (b : Int)) = false := by rw [bne_eq_false_iff_eq]; omega
       have e4 : (i != b) = false := by rw [bne_eq_false_iff_eq]; omega
       have HN2 := Hd.mk (upto_step (P := chainAt ls (a, b) ps) HNO.out (by rw [HAT.out, decide_eq_true (show (i : Int) = b by omega), Bool.or_true]; rfl))
       clear hia hib
       go_wp2_with fail
       exact ⟨⟨i + 1, by go_num, by omega, HB6, HN2⟩, by simp [intOf]; omega⟩
      have e3 : ((i : Int) != (b : Int)) = true := by rw [bne_iff_ne]; omega
      have e4 : (i != b) = true := by rw [bne_iff_ne]; omega
      have HAT2 : Hd (chainAt ls (a, b) ps i = (!hasP ps a i && !hasP ps b i)) := ⟨by rw [HAT.out, decide_eq_false (show ¬ (i : Int) = a by omega), decide_eq_false (show ¬ (i : Int) = b by omega)]; rfl⟩
      have CW := Hd.mk (fun W (hB : Below wr.heap.size wr W) (u : Int) => ref13_In B d ps u i W (HP.out.up (goes (goes BX3.out.1 HB.out) hB)) hpl)
      have CW1 := Hd.mk (CW.out _ HB5.out a)
      obtain ⟨h1, hh1⟩ : ∃ h1, hasP ps a i = h1 := ⟨_, rfl⟩
      rw [hh1] at CW1 HAT2
      clear hh1 hia hib HAT
      cases h1 with
      | true =>
        have HN2 := Hd.mk (upto_step (P := chainAt ls (a, b) ps) HNO.out (by rw [HAT2.out]; rfl))
        go_wp2_with fail
        refine CW1.out.mono ?_
        rintro e w8 ⟨rfl, hb8⟩
        have HB8 := Hd.mk (goes HB6.out hb8)
        clear hb8
        go_wp2_with fail
        exact ⟨⟨i + 1, by go_num, by omega, HB8, HN2⟩, by simp [intOf]; omega⟩
      | false =>
        have CW2 := Hd.mk (fun W hB => CW.out W hB b)
        obtain ⟨h2, hh2⟩ : ∃ h2, hasP ps b i = h2 := ⟨_, rfl⟩
        rw [hh2] at CW2 HAT2
        clear hh2 CW
        go_wp2_with fail
        refine CW1.out.mono ?_
        rintro e w8 ⟨rfl, hb8⟩
        have HB8 := Hd.mk (goes HB6.out hb8)
        have CW3 := Hd.mk (CW2.out w8 (goes HB5.out hb8))
        obtain ⟨d0, d1⟩ := (K4.out.up (goes HB5.out hb8)).pair
        clear hb8 CW1 CW2
        cases h2 with
        | true =>
          have HN2 := Hd.mk (upto_step (P := chainAt ls (a, b) ps) HNO.out (by rw [HAT2.out]; rfl))
          go_wp2_with fail
          refine CW3.out.mono ?_
          rintro e w9 ⟨rfl, hb9⟩
          have HB9 := Hd.mk (goes HB8.out hb9)
          clear hb9
          go_wp2_with fail
          exact ⟨⟨i + 1, by go_num, by omega, HB9, HN2⟩, by simp [intOf]; omega⟩
        | false =>
          have HE := Hd.mk (chain_yes HRT.out hlt (by rw [HAT2.out]; rfl))
          go_wp2_with fail
          refine CW3.out.mono ?_
          rintro e w9 ⟨rfl, hb9⟩
          have HB9 := Hd.mk (goes HB8.out hb9)
          clear hb9
          go_wp2_with fail
          go_ret
          exact ⟨retBool HE.out.symm, goes BX3.out.1 HB9.out⟩
end Go.Proofs.YtjanagclahkfdaaGreat
