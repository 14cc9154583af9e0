/- Parts of the proof, joined: what each says stands at its head. -/
import Derived.Test.YtidjbiopneoeeaaGreatM04
import Derived.Test.YtidjbiopneoeeaaGreatM01
set_option linter.unusedVariables false
set_option linter.unusedSimpArgs false
/- The walk of the eighth reference's Cmp. No condition. -/
namespace Go.Proofs.YtidjbiopneoeeaaGreat
open Go.RowKit

/-- both boxed monomials, as facts that the walk reads -/
def Two (S g1 g2 : Nat) (w0 : World) (a b : MonD) (w : World) : Prop :=
  Hd (Bo2 S g1 g2 w0 w 65 65 a.v b.v) ∧ (w.cell? ⟨g1, 0, none⟩ = some (.int .i64 a.x0) ∧ w.cell? ⟨g1, 1, none⟩ = some (.int .i64 a.x1) ∧ w.cell? ⟨g1, 2, none⟩ = some (.int .i64 a.x2) ∧ w.cell? ⟨g1, 3, none⟩ = some (.int .i64 a.x3)) ∧
    w.cell? ⟨g2, 0, none⟩ = some (.int .i64 b.x0) ∧ w.cell? ⟨g2, 1, none⟩ = some (.int .i64 b.x1) ∧ w.cell? ⟨g2, 2, none⟩ = some (.int .i64 b.x2) ∧ w.cell? ⟨g2, 3, none⟩ = some (.int .i64 b.x3)
theorem Bo2.two {S g1 g2 : Nat} {w0 w : World} {a b : MonD} (h : Bo2 S g1 g2 w0 w 65 65 a.v b.v) : Two S g1 g2 w0 a b w := ⟨⟨h⟩, h.k1.four, h.k2.four⟩

def ivR : Nat → Int
  | 0 => 3
  | 1 => 2
  | 2 => 1
  | 3 => 0
  | _ => -1
theorem cellR {w : World} {g : Nat} {t : TypeId} {m : MonD} (h : Bk w g t m.v) {k : Nat} (hk : k < 4) : ∃ x, Hd ((rev m).l.getD k 0 = x) ∧ w.cell? ⟨g, 3 - k, none⟩ = some (.int .i64 x) := by
  obtain ⟨c0, c1, c2, c3⟩ := h.four
  rcases (show k = 0 ∨ k = 1 ∨ k = 2 ∨ k = 3 by omega) with rfl | rfl | rfl | rfl
  · exact ⟨_, ⟨rfl⟩, c3⟩
  · exact ⟨_, ⟨rfl⟩, c2⟩
  · exact ⟨_, ⟨rfl⟩, c1⟩
  · exact ⟨_, ⟨rfl⟩, c0⟩
theorem rev_may {m : MonD} (h : monMay m = true) : monMay (rev m) = true := by
  apply mon_good
  unfold monMay at h
  rw [Bool.not_eq_true', List.any_eq_false] at h
  intro x hx
  have : x ∈ m.l := by
    simp [rev, MonD.l] at hx ⊢
    rcases hx with h | h | h | h <;> simp [h]
  simpa using h x this

set_option maxHeartbeats 4000000 in
set_option maxRecDepth 100000 in
theorem rmon_Cmp (order : Int) (a b : MonD) (w : World) :
    Calls Tryz.prog 99 #[.int .i64 order, .agg a.v, .agg b.v] w fun e w' => e = .returned (.int .i64 (monCmp order a b)) ∧ Below w.heap.size w w' := by
  obtain ⟨E, hE⟩ : ∃ E, monCmp order a b = E := ⟨_, rfl⟩
  rw [hE]
  have HEQ := Hd.mk hE
  clear hE
  go_enter Tryz.func99, Tryz.ntmps99
  go_upto_region 1 with (fail)
  refine wp_gen (fun W => Bo2 w.heap.size w.heap.size (w.heap.size + 1) w W 65 65 a.v b.v) (Bo2.mk2 w _ _ _ _) ?_
  intro W BX
  generalize w.heap.size + 1 = g2 at BX ⊢
  obtain ⟨p0, p1, p2, p3⟩ := BX.out.k1.four
  cases hma : monMay a
  · have CA := Hd.mk (rmon_May a W)
    rw [hma] at CA
    have HE : Hd (E = 0) := ⟨by rw [← HEQ.out]; unfold monCmp; rw [hma]; rfl⟩
    clear hma
    go_wp2_with fail
    refine CA.out.mono ?_
    rintro e w2 ⟨rfl, hb⟩
    have BX2 := Hd.mk (BX.out.up hb)
    clear hb
    go_wp2_with fail
    go_ret
    exact ⟨retInt HE.out.symm, BX2.out.below⟩
  have CA := Hd.mk (rmon_May a W)
  rw [hma] at CA
  cases hmb : monMay b
  · have CB := Hd.mk (rmon_May b)
    rw [hmb] at CB
    have HE : Hd (E = 0) := ⟨by rw [← HEQ.out]; unfold monCmp; rw [hma, hmb]; rfl⟩
    clear hma hmb
    go_wp2_with fail
    refine CA.out.mono ?_
    rintro e w2 ⟨rfl, hb⟩
    have BX2 := Hd.mk (BX.out.up hb)
    obtain ⟨q0, q1, q2, q3⟩ := BX2.out.k2.four
    clear hb
    go_wp2_with fail
    refine (CB.out _).mono ?_
    rintro e w3 ⟨rfl, hb⟩
    have BX3 := Hd.mk (BX2.out.up hb)
    clear hb
    go_wp2_with fail
    go_ret
    exact ⟨retInt HE.out.symm, BX3.out.below⟩
  have CB := Hd.mk (rmon_May b)
  rw [hmb] at CB
  have DA := Hd.mk (fun W => rmon_Degree a W hma)
  have DB := Hd.mk (fun W => rmon_Degree b W hmb)
  have LX := Hd.mk (fun W => rmon_lex a b W hma hmb)
  have HM := Hd.mk (And.intro hma hmb)
  have HE : Hd (E = if (decide (order < 0) || decide (3 ≤ order)) = true then 0 else if order = 0 then lexC a.l b.l else if order = 1 then orI (cmpI (monDeg a) (monDeg b)) (lexC a.l b.l) else orI (cmpI (monDeg a) (monDeg b)) (lexC (rev b).l (rev a).l)) := ⟨by
    rw [← HEQ.out]; unfold monCmp; rw [hma, hmb]; rfl⟩
  have hda : 0 ≤ monDeg a ∧ monDeg a ≤ 160 := by rw [monDeg_of hma]; obtain ⟨_, _, _, _⟩ := monMay_of hma; omega
  have hdb : 0 ≤ monDeg b ∧ monDeg b ≤ 160 := by rw [monDeg_of hmb]; obtain ⟨_, _, _, _⟩ := monMay_of hmb; omega
  generalize monDeg a = dA at DA HE hda
  generalize monDeg b = dB at DB HE hdb
  clear hma hmb HEQ
  by_cases ho : order < 0 ∨ 2 < order
  · have HF : Hd (E = 0) := ⟨by
      rw [HE.out, if_pos]
      simp only [Bool.or_eq_true, decide_eq_true_eq]; omega⟩
    clear HE
    rcases ho with ho1 | ho1
    all_goals
      go_wp2_with fail
      refine CA.out.mono ?_
      rintro e w2 ⟨rfl, hb⟩
      have BX2 := Hd.mk (BX.out.up hb)
      obtain ⟨q0, q1, q2, q3⟩ := BX2.out.k2.four
      clear hb
      go_wp2_with fail
      refine (CB.out _).mono ?_
      rintro e w3 ⟨rfl, hb⟩
      have BX3 := Hd.mk (BX2.out.up hb)
      clear hb
      go_wp2_with fail
      go_ret
      exact ⟨retInt HF.out.symm, BX3.out.below⟩
  have ho1 : 0 ≤ order ∧ order ≤ 2 := by omega
  have HE2 : Hd (E = if order = 0 then lexC a.l b.l else if order = 1 then orI (cmpI dA dB) (lexC a.l b.l) else orI (cmpI dA dB) (lexC (rev b).l (rev a).l)) := ⟨by
    rw [HE.out, if_neg]
    simp only [Bool.or_eq_true, decide_eq_true_eq]; omega⟩
  obtain ⟨ho2, ho3⟩ := ho1
  clear ho HE
  go_wp2_with fail
  refine CA.out.mono ?_
  rintro e w2 ⟨rfl, hb⟩
  have BX2 := Hd.mk (BX.out.up hb)
  obtain ⟨q0, q1, q2, q3⟩ := BX2.out.k2.four
  clear hb p0 p1 p2 p3 CA
  go_wp2_with fail
  refine (CB.out _).mono ?_
  rintro e w3 ⟨rfl, hb⟩
  have BX3 := Hd.mk (BX2.out.up hb)
  clear hb q0 q1 q2 q3 BX BX2 CB
  obtain ⟨hB3, ⟨p0, p1, p2, p3⟩, q0, q1, q2, q3⟩ := BX3.out.two
  by_cases h0 : order = 0
  · have HF : Hd (E = lexC a.l b.l) := ⟨by rw [HE2.out, if_pos h0]⟩
    have e0 : (order == 0) = true := by rw [beq_iff_eq]; exact h0
    clear HE2 h0
    go_wp2_with fail
    refine (LX.out _).mono ?_
    rintro e w4 ⟨rfl, hb⟩
    have BX4 := Hd.mk (BX3.out.up hb)
    clear hb
    go_wp2_with fail
    go_ret
    exact ⟨retInt HF.out.symm, BX4.out.below⟩
  have e0 : (order == 0) = false := by rw [beq_eq_false_iff_ne]; exact h0
  have HE3 : Hd (E = if order = 1 then orI (cmpI dA dB) (lexC a.l b.l) else orI (cmpI dA dB) (lexC (rev b).l (rev a).l)) := ⟨by rw [HE2.out, if_neg h0]⟩
  clear HE2 h0
  by_cases hd : dA = dB
  · have e1 : (dA != dB) = false := by rw [bne_eq_false_iff_eq]; exact hd
    have HC : Hd (cmpI dA dB = 0) := ⟨cmpI_zero.2 hd⟩
    clear hd
    have HF1 : Hd (E = if order = 1 then lexC a.l b.l else lexC (rev b).l (rev a).l) := ⟨by rw [HE3.out, HC.out]; rfl⟩
    by_cases h1 : order = 1
    · have HF : Hd (E = lexC a.l b.l) := ⟨by rw [HF1.out, if_pos h1]⟩
      have e2 : (order == 1) = true := by rw [beq_iff_eq]; exact h1
      clear HE3 HF1 h1
      go_upto_region 5 with (fail)
      go_wp2_with fail
      go_region_held3 (fun w' => Hd (Bo2 w.heap.size w.heap.size g2 w w' 65 65 a.v b.v) ∧ (w'.cell? ⟨w.heap.size, 0, none⟩ = some (.int .i64 a.x0) ∧ w'.cell? ⟨w.heap.size, 1, none⟩ = some (.int .i64 a.x1) ∧ w'.cell? ⟨w.heap.size, 2, none⟩ = some (.int .i64 a.x2) ∧ w'.cell? ⟨w.heap.size, 3, none⟩ = some (.int .i64 a.x3)) ∧
          w'.cell? ⟨g2, 0, none⟩ = some (.int .i64 b.x0) ∧ w'.cell? ⟨g2, 1, none⟩ = some (.int .i64 b.x1) ∧ w'.cell? ⟨g2, 2, none⟩ = some (.int .i64 b.x2) ∧ w'.cell? ⟨g2, 3, none⟩ = some (.int .i64 b.x3))
        (first
          | exact hS
          | exact BX3.out.two
          | exact BX3.out.d1.two)
        (first
          | (go_at_call 170; obtain ⟨hB, _⟩ := ‹Hd (Bo2 w.heap.size w.heap.size g2 w _ _ _ _ _) ∧ _›; with_reducible refine (DA.out _).mono ?_; rintro e w4 ⟨rfl, hb⟩
             have BX4 := Hd.mk (hB.out.up hb)
             have hS := BX4.out.two)
          | (go_at_call 170; obtain ⟨hB, _⟩ := ‹Hd (Bo2 w.heap.size w.heap.size g2 w _ _ _ _ _) ∧ _›; with_reducible refine (DB.out _).mono ?_; rintro e w4 ⟨rfl, hb⟩
             have BX4 := Hd.mk (hB.out.up hb)
             have hS := BX4.out.two))
      all_goals
        go_wp2_with fail
        refine (LX.out _).mono ?_
        rintro e w6 ⟨rfl, hb⟩
        have BX6 := Hd.mk (hS.1.out.up hb)
        clear hb
        go_wp2_with fail
        go_ret
        exact ⟨retInt HF.out.symm, BX6.out.below⟩
    have HF : Hd (E = lexC (rev b).l (rev a).l) := ⟨by rw [HF1.out, if_neg h1]⟩
    have e2 : (order == 1) = false := by rw [beq_eq_false_iff_ne]; exact h1
    clear HE3 HF1 h1
    go_upto_region 5 with (fail)
    go_wp2_with fail
    go_region_held3 (fun w' => Hd (Bo2 w.heap.size w.heap.size g2 w w' 65 65 a.v b.v) ∧ (w'.cell? ⟨w.heap.size, 0, none⟩ = some (.int .i64 a.x0) ∧ w'.cell? ⟨w.heap.size, 1, none⟩ = some (.int .i64 a.x1) ∧ w'.cell? ⟨w.heap.size, 2, none⟩ = some (.int .i64 a.x2) ∧ w'.cell? ⟨w.heap.size, 3, none⟩ = some (.int .i64 a.x3)) ∧
        w'.cell? ⟨g2, 0, none⟩ = some (.int .i64 b.x0) ∧ w'.cell? ⟨g2, 1, none⟩ = some (.int .i64 b.x1) ∧ w'.cell? ⟨g2, 2, none⟩ = some (.int .i64 b.x2) ∧ w'.cell? ⟨g2, 3, none⟩ = some (.int .i64 b.x3))
      (first
        | exact hS
        | exact BX3.out.two
        | exact BX3.out.d1.two)
      (first
        | (go_at_call 170; obtain ⟨hB, _⟩ := ‹Hd (Bo2 w.heap.size w.heap.size g2 w _ _ _ _ _) ∧ _›; with_reducible refine (DA.out _).mono ?_; rintro e w4 ⟨rfl, hb⟩
           have BX4 := Hd.mk (hB.out.up hb)
           have hS := BX4.out.two)
        | (go_at_call 170; obtain ⟨hB, _⟩ := ‹Hd (Bo2 w.heap.size w.heap.size g2 w _ _ _ _ _) ∧ _›; with_reducible refine (DB.out _).mono ?_; rintro e w4 ⟨rfl, hb⟩
           have BX4 := Hd.mk (hB.out.up hb)
           have hS := BX4.out.two))
    all_goals
      go_wp2_with fail
      refine wp_gen (fun W => Bo2 w.heap.size w.heap.size g2 w W 65 65 a.v b.v) hS.1.out ?_
      intro W5 BX5
      clear hS p0 p1 p2 p3 q0 q1 q2 q3 BX3 BX4
      go_loopw [7] (fun v wr => ∃ k : Nat, v = .int .i64 (ivR k) ∧ k ≤ 4 ∧ Hd (E = lexC ((rev b).l.drop k) ((rev a).l.drop k)) ∧ Hd (Dr W5 wr)) (fun v _ => (intOf v + 1).toNat)
      case atStart => exact ⟨0, rfl, by omega, HF, ⟨.refl _⟩⟩
      case round =>
        obtain ⟨k, rfl, hk, H, ⟨⟨nq, rfl⟩⟩⟩ := hrel
        by_cases hlt : k < 4
        · obtain ⟨x, HX, hcx⟩ := cellR BX5.out.k1 hlt
          obtain ⟨y, HY, hcy⟩ := cellR BX5.out.k2 hlt
          obtain ⟨x0, x1⟩ := mon_rng (rev_may HM.out.1) hlt HX.out
          obtain ⟨y0, y1⟩ := mon_rng (rev_may HM.out.2) hlt HY.out
          have HN := Hd.mk (H.out.trans (lexC_drop (show k < (rev b).l.length from hlt) (show k < (rev a).l.length from hlt) HY.out HX.out))
          clear H
          by_cases hxy : x = y
          · have hbn : (x != y) = false := by rw [bne_eq_false_iff_eq]; exact hxy
            have HM : Hd (E = lexC ((rev b).l.drop (k + 1)) ((rev a).l.drop (k + 1))) := ⟨by rw [HN.out, if_neg (by rw [cmpI_zero.2 hxy.symm]; simp)]⟩
            clear HN hxy
            rcases (show k = 0 ∨ k = 1 ∨ k = 2 ∨ k = 3 by omega) with rfl | rfl | rfl | rfl
            all_goals
              simp only [ivR]
              simp only [Nat.reduceSub, Nat.sub_zero] at hcx hcy
              go_wp2_with fail
              go_quiet (fail)
              go_wp2_with fail
              go_roundw
              case measure => first | (simp [intOf]; done) | (simp [intOf]; omega)
              case rel => exact ⟨_, by first | exact rfl | go_num, by omega, HM, ⟨by repeat (first | exact .refl _ | apply Dr.dn)⟩⟩
          · have hbn : (x != y) = true := by rw [bne_iff_ne]; exact hxy
            have HM : Hd (E = signI (y - x)) := ⟨by rw [HN.out, if_pos (fun h => hxy (cmpI_zero.1 h).symm), sign_cmp]⟩
            have hw : IntKind.i64.wrap (y - x) = y - x := by rw [IntKind.wrap_i64]; omega
            clear HN hxy
            rcases (show k = 0 ∨ k = 1 ∨ k = 2 ∨ k = 3 by omega) with rfl | rfl | rfl | rfl
            all_goals
              simp only [ivR]
              simp only [Nat.reduceSub, Nat.sub_zero] at hcx hcy
              go_wp2_with fail
              go_quiet (fail)
              go_wp2_with fail
              go_quiet ((go_at_call 171; first | exact quiet_two (rmon_sign _) | exact quiet_one (rmon_sign _)))
              go_wp2_with fail
              go_ret
              exact ⟨retInt HM.out.symm, BX5.out.below.trans (Dr.below (by repeat (first | exact .refl _ | apply Dr.dn))|>.mono (Nat.le_trans BX5.out.s1 (Nat.le_of_lt BX5.out.k1.lt)))⟩
        · obtain rfl : k = 4 := by omega
          have HM : Hd (E = 0) := ⟨by rw [H.out]; rfl⟩
          clear H
          simp only [ivR]
          go_wp2_with fail
          go_ret
          exact ⟨retInt HM.out.symm, (BX5.out.dn _).below⟩
  · have e1 : (dA != dB) = true := by rw [bne_iff_ne]; exact hd
    have HC : Hd (cmpI dA dB = signI (dA - dB) ∧ signI (dA - dB) ≠ 0) := ⟨(sign_cmp _ _).symm, by rw [sign_cmp]; exact fun h => hd (cmpI_zero.1 h)⟩
    have hw : IntKind.i64.wrap (dA - dB) = dA - dB := by rw [IntKind.wrap_i64]; omega
    have HF : Hd (E = signI (dA - dB)) := ⟨by
      rw [HE3.out]
      have : ∀ z, orI (cmpI dA dB) z = signI (dA - dB) := fun z => by unfold orI; rw [HC.out.1, if_pos HC.out.2]
      rw [this, this]; exact ite_self _⟩
    clear hd HE3 HC
    go_upto_region 5 with (fail)
    go_wp2_with fail
    go_region_held3 (fun w' => Hd (Bo2 w.heap.size w.heap.size g2 w w' 65 65 a.v b.v) ∧ (w'.cell? ⟨w.heap.size, 0, none⟩ = some (.int .i64 a.x0) ∧ w'.cell? ⟨w.heap.size, 1, none⟩ = some (.int .i64 a.x1) ∧ w'.cell? ⟨w.heap.size, 2, none⟩ = some (.int .i64 a.x2) ∧ w'.cell? ⟨w.heap.size, 3, none⟩ = some (.int .i64 a.x3)) ∧
        w'.cell? ⟨g2, 0, none⟩ = some (.int .i64 b.x0) ∧ w'.cell? ⟨g2, 1, none⟩ = some (.int .i64 b.x1) ∧ w'.cell? ⟨g2, 2, none⟩ = some (.int .i64 b.x2) ∧ w'.cell? ⟨g2, 3, none⟩ = some (.int .i64 b.x3))
      (first
        | exact hS
        | exact BX3.out.two
        | exact BX3.out.d1.two)
      (first
        | (go_at_call 170; obtain ⟨hB, _⟩ := ‹Hd (Bo2 w.heap.size w.heap.size g2 w _ _ _ _ _) ∧ _›; with_reducible refine (DA.out _).mono ?_; rintro e w4 ⟨rfl, hb⟩
           have BX4 := Hd.mk (hB.out.up hb)
           have hS := BX4.out.two)
        | (go_at_call 170; obtain ⟨hB, _⟩ := ‹Hd (Bo2 w.heap.size w.heap.size g2 w _ _ _ _ _) ∧ _›; with_reducible refine (DB.out _).mono ?_; rintro e w4 ⟨rfl, hb⟩
           have BX4 := Hd.mk (hB.out.up hb)
           have hS := BX4.out.two))
    all_goals
      go_wp2_with fail
      go_wp2_with fail
      go_region_held3 (fun w' => Hd (Bo2 w.heap.size w.heap.size g2 w w' 65 65 a.v b.v) ∧ (w'.cell? ⟨w.heap.size, 0, none⟩ = some (.int .i64 a.x0) ∧ w'.cell? ⟨w.heap.size, 1, none⟩ = some (.int .i64 a.x1) ∧ w'.cell? ⟨w.heap.size, 2, none⟩ = some (.int .i64 a.x2) ∧ w'.cell? ⟨w.heap.size, 3, none⟩ = some (.int .i64 a.x3)) ∧
          w'.cell? ⟨g2, 0, none⟩ = some (.int .i64 b.x0) ∧ w'.cell? ⟨g2, 1, none⟩ = some (.int .i64 b.x1) ∧ w'.cell? ⟨g2, 2, none⟩ = some (.int .i64 b.x2) ∧ w'.cell? ⟨g2, 3, none⟩ = some (.int .i64 b.x3))
        (first
          | exact hS
          | exact hS.1.out.d1.two)
        (first
          | (go_at_call 170; obtain ⟨hB, _⟩ := ‹Hd (Bo2 w.heap.size w.heap.size g2 w _ _ _ _ _) ∧ _›; with_reducible refine (DA.out _).mono ?_; rintro e w4 ⟨rfl, hb⟩
             have BX4 := Hd.mk (hB.out.up hb)
             have hS := BX4.out.two)
          | (go_at_call 170; obtain ⟨hB, _⟩ := ‹Hd (Bo2 w.heap.size w.heap.size g2 w _ _ _ _ _) ∧ _›; with_reducible refine (DB.out _).mono ?_; rintro e w4 ⟨rfl, hb⟩
             have BX4 := Hd.mk (hB.out.up hb)
             have hS := BX4.out.two)
          | (go_at_call 171; have hK := ‹Hd (Bo2 w.heap.size w.heap.size g2 w _ _ _ _ _) ∧ _›; with_reducible refine (rmon_sign _ _).mono ?_; rintro e w4 ⟨rfl, rfl⟩
             have hS := hK))
      all_goals
        go_wp2_with fail
        go_ret
        exact ⟨retInt HF.out.symm, hS.1.out.below⟩
end Go.Proofs.YtidjbiopneoeeaaGreat
/- The walk of the eighth reference's Mul. No condition. -/
namespace Go.Proofs.YtidjbiopneoeeaaGreat
open Go.RowKit

/-- both factors' boxes, the result's, and the product's that is being made -/
structure Mu (S g1 g2 g3 g4 : Nat) (w0 w : World) (a b m : MonD) : Prop where
  bo : Bo2 S g1 g2 w0 w 65 65 a.v b.v
  s3 : S ≤ g3
  s4 : S ≤ g4
  n1 : g4 ≠ g1
  n2 : g4 ≠ g2
  n3 : g4 ≠ g3
  k3 : Bk w g3 65 zeroM.v
  k4 : Bk w g4 65 m.v
section
variable {S g1 g2 g3 g4 : Nat} {w0 w w' : World} {a b m : MonD}
theorem Mu.dn (h : Mu S g1 g2 g3 g4 w0 w a b m) (n : Nat) : Mu S g1 g2 g3 g4 w0 (w.drewN n) a b m := ⟨h.bo.dn n, h.s3, h.s4, h.n1, h.n2, h.n3, h.k3, h.k4⟩
theorem part_set {z : MonD} {g i : Nat} {s : Int} {t : TypeId} (hi : i < 4) (h : Bk w g t (part z i).v) (hs : z.l.getD i 0 = s) : Bk (w.setCell ⟨g, i, none⟩ (.int .i64 s)) g t (part z (i + 1)).v := by
  have := h.set_ i (.int .i64 s)
  subst hs
  rcases (show i = 0 ∨ i = 1 ∨ i = 2 ∨ i = 3 by omega) with rfl | rfl | rfl | rfl <;> exact this
theorem Mu.set {z : MonD} {i : Nat} {s : Int} (h : Mu S g1 g2 g3 g4 w0 w a b (part z i)) (hi : i < 4) (hs : z.l.getD i 0 = s) : Mu S g1 g2 g3 g4 w0 (w.setCell ⟨g4, i, none⟩ (.int .i64 s)) a b (part z (i + 1)) :=
  ⟨⟨h.bo.below.setCell h.s4 _, h.bo.s1, h.bo.s2, h.bo.n12, h.bo.k1.far h.n1.symm _, h.bo.k2.far h.n2.symm _⟩, h.s3, h.s4, h.n1, h.n2, h.n3, h.k3.far h.n3.symm _, part_set hi h.k4 hs⟩
theorem Bk.set4' (h : Bk w g4 65 m.v) (v0 v1 v2 v3 : Value) : Bk ((((w.setCell ⟨g4, 0, none⟩ v0).setCell ⟨g4, 1, none⟩ v1).setCell ⟨g4, 2, none⟩ v2).setCell ⟨g4, 3, none⟩ v3) g4 65 #[v0, v1, v2, v3] := h.set4 _ _ _ _
theorem Below.set4 (h : Below S w0 w) (hg : S ≤ g4) (v0 v1 v2 v3 : Value) : Below S w0 ((((w.setCell ⟨g4, 0, none⟩ v0).setCell ⟨g4, 1, none⟩ v1).setCell ⟨g4, 2, none⟩ v2).setCell ⟨g4, 3, none⟩ v3) :=
  (((h.setCell hg _).setCell hg _).setCell hg _).setCell hg _
end
theorem addM_at {a b : MonD} {i : Nat} {x y : Int} (hi : i < 4) (hx : a.l.getD i 0 = x) (hy : b.l.getD i 0 = y) : (addM a b).l.getD i 0 = x + y := by
  subst hx hy
  rcases (show i = 0 ∨ i = 1 ∨ i = 2 ∨ i = 3 by omega) with rfl | rfl | rfl | rfl <;> rfl
/-- the box of a monomial and a number handed back -/
theorem ret_mono {P : World → Prop} {fn : Func} {p u : Tmp} (h : fn.results = #[.cell p 65, .tmp u]) (tmps : Array Value) (w : World) (g : Nat) (m : MonD) (hp : tmps.getD p undef = .pointer (some ⟨g, 0, none⟩)) (hk : Bk w g 65 m.v) :
    (results fn tmps).run Tryz.prog w = .ok (.tuple #[.agg m.v, tmps.getD u undef]) w := res_mono2 h tmps w g m.v hp hk rfl

set_option maxHeartbeats 4000000 in
set_option maxRecDepth 100000 in
theorem rmon_Mul (a b : MonD) (w : World) :
    Calls Tryz.prog 111 #[.agg a.v, .agg b.v] w fun e w' => e = .returned (.tuple #[.agg (monMul a b).2.v, .int .i64 (monMul a b).1]) ∧ Below w.heap.size w w' := by
  obtain ⟨E, hE⟩ : ∃ E, monMul a b = E := ⟨_, rfl⟩
  rw [hE]
  have HEQ := Hd.mk hE
  clear hE
  go_enter Tryz.func111, Tryz.ntmps111
  go_upto_region 1 with (fail)
  refine wp_gen (fun W => Bo2 w.heap.size w.heap.size (w.heap.size + 1) w W 65 65 a.v b.v ∧ Bk W (w.heap.size + 1 + 1) 65 zeroM.v) ⟨(Bo2.mk2 w _ _ _ _).up ((Below.refl _ _).alloc (Nat.le_refl _) _), by
    have := Bk.new_ ((w.alloc (Obj.cells a.v 65)).alloc (Obj.cells b.v 65)) 65 zeroM.v
    simpa [MonD.v, zeroM] using this⟩ ?_
  intro W hW
  have BX := Hd.mk hW.out.1
  have K3 := Hd.mk hW.out.2
  have N3 : Hd (w.heap.size ≤ w.heap.size + 1 + 1) := ⟨by omega⟩
  clear hW
  generalize w.heap.size + 1 + 1 = g3 at K3 N3 ⊢
  generalize w.heap.size + 1 = g2 at BX ⊢
  obtain ⟨p0, p1, p2, p3⟩ := BX.out.k1.four
  obtain ⟨r0, r1, r2, r3⟩ := K3.out.four
  have fz := fun i => K3.out.froz i
  have CA := Hd.mk (rmon_May a W)
  cases hma : monMay a
  · rw [hma] at CA
    have HE : Hd (E = (1, zeroM)) := ⟨by rw [← HEQ.out]; unfold monMul; rw [hma]; rfl⟩
    clear hma
    go_wp2_with fail
    refine CA.out.mono ?_
    rintro e w2 ⟨rfl, hb⟩
    have BX2 := Hd.mk (BX.out.up hb)
    have K32 := Hd.mk (K3.out.up hb)
    obtain ⟨r0, r1, r2, r3⟩ := K32.out.four
    have fz := fun i => K32.out.froz i
    clear hb
    go_wp2_with fail
    refine bodyPost_ret (res_mono2 rfl _ _ g3 _ rfl (K32.out.set4' _ _ _ _) rfl) rfl ?_
    rw [HE.out]
    exact ⟨rfl, Below.set4 BX2.out.below N3.out _ _ _ _⟩
  rw [hma] at CA
  have CB := Hd.mk (rmon_May b)
  cases hmb : monMay b
  · rw [hmb] at CB
    have HE : Hd (E = (1, zeroM)) := ⟨by rw [← HEQ.out]; unfold monMul; rw [hma, hmb]; rfl⟩
    clear hma hmb
    go_wp2_with fail
    refine CA.out.mono ?_
    rintro e w2 ⟨rfl, hb⟩
    have BX2 := Hd.mk (BX.out.up hb)
    have K32 := Hd.mk (K3.out.up hb)
    obtain ⟨q0, q1, q2, q3⟩ := BX2.out.k2.four
    clear hb
    go_wp2_with fail
    refine (CB.out _).mono ?_
    rintro e w3 ⟨rfl, hb⟩
    have BX3 := Hd.mk (BX2.out.up hb)
    have K33 := Hd.mk (K32.out.up hb)
    obtain ⟨r0, r1, r2, r3⟩ := K33.out.four
    have fz := fun i => K33.out.froz i
    clear hb
    go_wp2_with fail
    refine bodyPost_ret (res_mono2 rfl _ _ g3 _ rfl (K33.out.set4' _ _ _ _) rfl) rfl ?_
    rw [HE.out]
    exact ⟨rfl, Below.set4 BX3.out.below N3.out _ _ _ _⟩
  rw [hmb] at CB
  have HE : Hd (E = if monMay (addM a b) = false then (80, zeroM) else (0, addM a b)) := ⟨by rw [← HEQ.out]; unfold monMul; rw [hma, hmb]; rfl⟩
  have HAB := Hd.mk (fun {i : Nat} {x y : Int} => addM_at (a := a) (b := b) (i := i) (x := x) (y := y))
  have CM := Hd.mk (rmon_May (addM a b))
  have HM := Hd.mk (And.intro hma hmb)
  generalize addM a b = z at HE HAB CM
  clear hma hmb
  go_wp2_with fail
  refine CA.out.mono ?_
  rintro e w2 ⟨rfl, hb⟩
  have BX2 := Hd.mk (BX.out.up hb)
  have K32 := Hd.mk (K3.out.up hb)
  obtain ⟨q0, q1, q2, q3⟩ := BX2.out.k2.four
  clear hb p0 p1 p2 p3 CA r0 r1 r2 r3 fz
  go_wp2_with fail
  refine (CB.out _).mono ?_
  rintro e w3 ⟨rfl, hb⟩
  have BX3 := Hd.mk (BX2.out.up hb)
  have K33 := Hd.mk (K32.out.up hb)
  clear hb q0 q1 q2 q3 BX BX2 CB K3 K32
  go_upto_region 4 with (fail)
  refine wp_gen (fun W => Mu w.heap.size w.heap.size g2 g3 w3.heap.size w W a b (part z 0)) ⟨BX3.out.up ((Below.refl _ _).alloc (Nat.le_refl _) _), N3.out, BX3.out.below.size, Nat.ne_of_gt BX3.out.k1.lt, Nat.ne_of_gt BX3.out.k2.lt, Nat.ne_of_gt K33.out.lt, K33.out.al _, Bk.new_ _ _ _⟩ ?_
  intro W4 MU
  have N4 : Hd (w.heap.size ≤ w3.heap.size) := ⟨MU.out.s4⟩
  generalize w3.heap.size = g4 at MU N4 ⊢
  clear BX3 K33
  go_wp2_with fail
  go_loopw [7] (fun v wr => ∃ i : Nat, v = .int .i64 i ∧ i ≤ 4 ∧ Hd (Mu w.heap.size w.heap.size g2 g3 g4 w wr a b (part z i))) (fun v _ => 4 - (intOf v).toNat)
  case atStart => exact ⟨0, rfl, by omega, MU⟩
  case round =>
    clear MU
    obtain ⟨i, rfl, hi, MU⟩ := hrel
    by_cases hlt : i < 4
    · obtain ⟨x, HX, hcx⟩ := cellM MU.out.bo.k1 hlt
      obtain ⟨y, HY, hcy⟩ := cellM MU.out.bo.k2 hlt
      obtain ⟨u, HU, hcu⟩ := cellM MU.out.k4 hlt
      obtain ⟨x0, x1⟩ := mon_rng HM.out.1 hlt HX.out
      obtain ⟨y0, y1⟩ := mon_rng HM.out.2 hlt HY.out
      have HZ := Hd.mk (HAB.out hlt HX.out HY.out)
      have hw : IntKind.i64.wrap (x + y) = x + y := by rw [IntKind.wrap_i64]; omega
      have fz := MU.out.k4.froz i
      have HN1 := MU.out.n1
      have HN2 := MU.out.n2
      have HMU := Hd.mk (fun n => (MU.out.dn n).set hlt HZ.out)
      have i1 : (i : Int) < 4 := by omega
      have i3 : (0 : Int) ≤ i := by omega
      go_wp2_with fail
      go_region_held3 (fun w' => Hd (Below w.heap.size w w') ∧ w'.cell? ⟨w.heap.size, i, none⟩ = some (.int .i64 x) ∧ w'.cell? ⟨g2, i, none⟩ = some (.int .i64 y))
        (first
          | exact ⟨⟨MU.out.bo.below⟩, hcx, hcy⟩
          | exact ⟨⟨(MU.out.dn 1).bo.below⟩, hcx, hcy⟩
          | exact ⟨⟨(MU.out.dn 1).bo.below.setCell MU.out.s4 _⟩, (far1 rfl HN1).trans hcx, (far1 rfl HN2).trans hcy⟩)
        (fail)
      all_goals
        go_wp2_with fail
        go_roundw
        case measure => first | (simp [intOf]; done) | (simp [intOf]; omega)
        case rel => exact ⟨_, by go_num, by omega, ⟨HMU.out 1⟩⟩
    · obtain rfl : i = 4 := by omega
      have MU : Hd (Mu w.heap.size w.heap.size g2 g3 g4 w wr a b z) := MU
      obtain ⟨q0, q1, q2, q3⟩ := MU.out.k4.four
      cases hz : monMay z
      · rw [hz] at CM HE
        have HF : Hd (E = (80, zeroM)) := ⟨by rw [HE.out]; rfl⟩
        clear hz
        go_wp2_with fail
        refine (CM.out _).mono ?_
        rintro e w6 ⟨rfl, hb⟩
        have BB := Hd.mk (MU.out.bo.below.trans (hb.mono MU.out.bo.below.size))
        have K36 := Hd.mk (MU.out.k3.up hb)
        obtain ⟨r0, r1, r2, r3⟩ := K36.out.four
        have fz := fun i => K36.out.froz i
        clear hb
        go_wp2_with fail
        refine bodyPost_ret (res_mono2 rfl _ _ g3 _ rfl (K36.out.set4' _ _ _ _) rfl) rfl ?_
        rw [HF.out]
        exact ⟨rfl, Below.set4 BB.out N3.out _ _ _ _⟩
      · rw [hz] at CM HE
        have HF : Hd (E = (0, z)) := ⟨by rw [HE.out]; rfl⟩
        clear hz
        go_wp2_with fail
        refine (CM.out _).mono ?_
        rintro e w6 ⟨rfl, hb⟩
        have BB := Hd.mk (MU.out.bo.below.trans (hb.mono MU.out.bo.below.size))
        have K36 := Hd.mk (MU.out.k3.up hb)
        obtain ⟨q0, q1, q2, q3⟩ := (MU.out.k4.up hb).four
        obtain ⟨r0, r1, r2, r3⟩ := K36.out.four
        have fz := fun i => K36.out.froz i
        clear hb
        go_wp2_with fail
        refine bodyPost_ret (res_mono2 rfl _ _ g3 _ rfl (K36.out.set4' _ _ _ _) rfl) rfl ?_
        rw [HF.out]
        exact ⟨rfl, Below.set4 BB.out N3.out _ _ _ _⟩
end Go.Proofs.YtidjbiopneoeeaaGreat
/- Walks of limb's functions that only look: trim, Trim (and slices.Clone), Cmp. The condition: rows of at most 1000000000 limbs. -/
namespace Go.Proofs.YtidjbiopneoeeaaGreat
open Go.RowKit

set_option maxHeartbeats 400000 in
theorem limb_trim (A : Option Addr) (c : Nat) (l : List Int) (w : World) (h : RdI w .u64 A l) (hn : l.length ≤ c) (hb9 : l.length ≤ 2000000000) :
    Calls Tryz.prog 212 #[.slice A l.length c] w fun e w' => e = .returned (.slice A (trimL l).length c) ∧ w = w' := by
  go_enter Tryz.func212, Tryz.ntmps212
  go_wp2
  go_loop [0] (fun v => ∃ n : Nat, n ≤ l.length ∧ v = .slice A n c ∧ trimL (l.take n) = trimL l) (fun v => match v with | .slice _ n _ => n | _ => 0)
  case atStart => exact ⟨l.length, Nat.le_refl _, rfl, by rw [List.take_length]⟩
  case round =>
    obtain ⟨n, hnl, rfl, ht⟩ := hrel
    have HT := Hd.mk ht; clear ht
    cases n with
    | zero =>
      go_wp2
      go_ret
      exact ⟨by rw [← HT.out]; rfl, rfl⟩
    | succ n =>
      obtain ⟨ad, rfl, hb, hcell⟩ := h.at_ (i := n) (by omega)
      by_cases hz : l.getD n 0 = 0
      · go_wp2
        · go_round
          case rel => exact ⟨n, by omega, rfl, by rw [← HT.out, take_snoc (by omega), hz, trimL_snoc0]⟩
          case measure => simp
        · simp_all
      · go_wp2
        · simp_all
        · go_ret
          refine ⟨?_, rfl⟩
          rw [← HT.out, take_snoc (by omega), trimL_snoc _ _ hz]; simp; omega

set_option maxHeartbeats 400000 in
theorem clone_u64 (A : Option Addr) (c : Nat) (l : List Int) (w : World) (h : RdI w .u64 A l) (hn : l.length ≤ c) (hb9 : l.length ≤ 2000000000) :
    Calls Tryz.prog 249 #[.slice A l.length c] w fun e w' => ∃ v, e = .returned v ∧ OwnI w' w.heap.size 106 .u64 v l ∧ Below w.heap.size w w' := by
  obtain ⟨i0, hi, hz0, hz1, hz2⟩ := info_split Tryz.infU64
  have hnil := fun (w : World) => Lib.run_eql_slice_nil (P := Tryz.prog) w 60 _ A l.length c 0 0 Tryz.slU64
  have h0 : l.length + 0 ≤ maxLen := by unfold maxLen; omega
  have H := Hd.mk h
  clear h
  cases A with
  | none =>
    have hl : l = [] := by
      cases l with
      | nil => rfl
      | cons x l => obtain ⟨ad, h, _⟩ := H.out.at_ (i := 0) (by simp); cases h
    subst hl
    clear hb9 h0 hn H hnil
    have hnil := fun (w : World) => Lib.run_eql_slice_nil (P := Tryz.prog) w 60 _ none 0 c 0 0 Tryz.slU64
    go_enter Tryz.func249, Tryz.ntmps249
    go_wp2
    go_ret
    exact ⟨_, rfl, OwnI.nil _ _ _ _, Below.refl _ _⟩
  | some ad =>
    have hown : (w.alloc (.cells #[] 106)).ownsRow w.heap.size 106 1 (.slice (some ⟨w.heap.size, 0, none⟩) 0 0) 0 [] :=
      World.ownsRow_lit w #[] 0 (Nat.le_refl _) (by unfold maxLen; omega) rfl
    have HO := Hd.mk hown
    clear hown
    go_enter Tryz.func249, Tryz.ntmps249
    go_wp2_with (at_builtin; refine wpList_append_rd _ rfl _ _ 60 rfl w.heap.size 106 i0 (.int .u64 0) 1 8 Tryz.slU64 hi hz0 hz1 hz2 rfl (by decide) _ _ _ rfl HO.out _ _ _ _ (ints .u64 l) rfl (Rd.up H.out ((Below.refl _ _).alloc (Nat.le_refl _) _)) (ints_one _ _) ?c1 ?c2 ?c3 ?_)
    case c1 => unfold maxLen; omega
    case c2 => omega
    case c3 => simp
    intro v' w' ho hg _
    go_wp2
    go_ret
    have ho2 : OwnI w' w.heap.size 106 .u64 v' l := by simpa [OwnI] using ho
    exact ⟨_, rfl, ho2, grown_below HO.out hg ((Below.refl _ _).alloc (Nat.le_refl _) _) (by simp)⟩

theorem RdI.trim {w : World} {k : IntKind} {A : Option Addr} {l : List Int} (h : RdI w k A l) : RdI w k A (trimL l) := by
  rw [trimL_take]; exact h.pre (trimL_len l)

set_option maxHeartbeats 400000 in
theorem limb_Trim (A : Option Addr) (c : Nat) (l : List Int) (w : World) (h : RdI w .u64 A l) (hn : l.length ≤ c) (hb9 : l.length ≤ 1000000000) :
    Calls Tryz.prog 245 #[.slice A l.length c] w fun e w' => ∃ v, e = .returned v ∧ OwnI w' w.heap.size 106 .u64 v (trimL l) ∧ Below w.heap.size w w' := by
  have ht := trimL_len l
  go_enter Tryz.func245, Tryz.ntmps245
  go_wp2_with fail
  refine (limb_trim A c l w h hn (by omega)).mono ?_
  rintro e w' ⟨rfl, rfl⟩
  go_wp2_with fail
  refine (clone_u64 A c (trimL l) w h.trim (by omega) (by omega)).mono ?_
  rintro e w' ⟨v, rfl, ho, hb⟩
  have HO := Hd.mk ho
  have HB := Hd.mk hb
  clear ho hb
  go_wp2_with fail
  go_ret
  exact ⟨_, rfl, HO.out, HB.out⟩

def cmpN (a b : Nat) : Int := if a < b then -1 else if b < a then 1 else 0
theorem cmpN_lt {a b : Nat} (h : a < b) : cmpN a b = -1 := by simp [cmpN, h]
theorem cmpN_gt {a b : Nat} (h : b < a) : cmpN a b = 1 := by simp [cmpN, h]; omega
theorem cmpN_eq {a b : Nat} (h : a = b) : cmpN a b = 0 := by simp [cmpN, h]

set_option maxHeartbeats 1000000 in
theorem limb_Cmp (A B : Option Addr) (c d : Nat) (l m : List Int) (w : World) (h : RdI w .u64 A l) (hn : l.length ≤ c) (hb9 : l.length ≤ 1000000000)
    (h' : RdI w .u64 B m) (hn' : m.length ≤ d) (hb9' : m.length ≤ 1000000000) (hu : U64 l) (hu' : U64 m) :
    Calls Tryz.prog 210 #[.slice A l.length c, .slice B m.length d] w fun e w' => e = .returned (.int .i64 (cmpN (val l) (val m))) ∧ Dr w w' := by
  have t1 := trimL_len l
  have t2 := trimL_len m
  have e1 := Hd.mk (val_trim l)
  have e2 := Hd.mk (val_trim m)
  have r1 := Hd.mk h.trim
  have r2 := Hd.mk h'.trim
  have T1 := Hd.mk (trim_trimL l)
  have T2 := Hd.mk (trim_trimL m)
  have V1 : Hd (U64 (trimL l)) := ⟨by rw [trimL_take]; exact hu.take _⟩
  have V2 : Hd (U64 (trimL m)) := ⟨by rw [trimL_take]; exact hu'.take _⟩
  rw [← e1.out, ← e2.out]
  have C1 := Hd.mk (fun W h => limb_trim A c l W h hn (by omega))
  have C2 := Hd.mk (fun W h => limb_trim B d m W h hn' (by omega))
  have H := Hd.mk h
  have H' := Hd.mk h'
  clear h h' e1 e2 hu hu'
  generalize trimL l = x at *
  generalize trimL m = y at *
  go_enter Tryz.func210, Tryz.ntmps210
  go_wp2_with fail
  refine (C1.out w H.out).mono ?_
  rintro e w' ⟨rfl, rfl⟩
  go_wp2_with fail
  refine (C2.out w H'.out).mono ?_
  rintro e w' ⟨rfl, rfl⟩
  rcases Nat.lt_trichotomy x.length y.length with hl | hl | hl
  · have hb : ((x.length : Int) != (y.length : Int)) = true := by rw [bne_iff_ne]; omega
    go_wp2
    go_ret
    exact ⟨retInt (cmpN_lt (val_lt_len V1.out V2.out T2.out hl)).symm, .refl _⟩
  · have HL := Hd.mk hl
    have hb : ((x.length : Int) != (y.length : Int)) = false := by rw [bne_eq_false_iff_eq]; omega
    clear hl
    go_wp2
    go_loopw [5] (fun v wr => ∃ i : Int, -1 ≤ i ∧ i < x.length ∧ v = .int .i64 i ∧ Hd (x.drop (i + 1).toNat = y.drop (i + 1).toNat) ∧ Hd (Dr w wr)) (fun v _ => (intOf v + 1).toNat)
    case atStart => exact ⟨_, by omega, by omega, rfl, ⟨by rw [List.drop_eq_nil_of_le (by omega), List.drop_eq_nil_of_le (by have := HL.out; omega)]⟩, ⟨.refl _⟩⟩
    case round =>
      obtain ⟨i, hi1, hi2, rfl, hd, ⟨⟨nq, hw⟩⟩⟩ := hrel
      subst hw
      by_cases hi : 0 ≤ i
      · obtain ⟨k, rfl⟩ := Int.eq_ofNat_of_zero_le hi
        obtain ⟨ad, a, hA, _, ha, hca⟩ := r1.out.get (i := k) (by omega)
        obtain ⟨bd, b, hB, _, hb2, hcb⟩ := r2.out.get (i := k) (by have := HL.out; omega)
        subst hA hB
        have hy : (k : Int) < y.length := by have := HL.out; omega
        have hk : k < x.length := by omega
        have hky : k < y.length := by omega
        go_wp2
        go_quiet (fail)
        go_wp2
        · go_ret
          refine ⟨retInt (cmpN_lt (val_cmp_at V1.out V2.out HL.out hk ?_ ?_)).symm, by repeat (first | exact .refl _ | apply Dr.dn)⟩
          · have := hd.out; simpa using this
          · rw [ha.out, hb2.out]; assumption
        · go_quiet (fail)
          go_wp2
          · go_ret
            refine ⟨retInt (cmpN_gt (val_cmp_at V2.out V1.out HL.out.symm hky ?_ ?_)).symm, by repeat (first | exact .refl _ | apply Dr.dn)⟩
            · have := hd.out; simpa using this.symm
            · rw [ha.out, hb2.out]; assumption
          · go_roundw
            case rel =>
              refine ⟨(k : Int) - 1, by omega, by omega, rfl, ⟨?_⟩, ⟨by repeat (first | exact .refl _ | apply Dr.dn)⟩⟩
              have e3 : ((k : Int) - 1 + 1).toNat = k := by omega
              have h5 := hd.out
              have e4 : ((k : Int) + 1).toNat = k + 1 := by omega
              rw [e4] at h5
              have h6 : x.getD k 0 = y.getD k 0 := by rw [ha.out, hb2.out]; omega
              rw [List.getD_eq_getElem?_getD, List.getD_eq_getElem?_getD, List.getElem?_eq_getElem hk, List.getElem?_eq_getElem hky] at h6
              rw [e3, List.drop_eq_getElem_cons hk, List.drop_eq_getElem_cons hky, h5]
              congr 1
            case measure => first | (simp [intOf]; done) | (simp [intOf]; omega)
      · have hi0 : i = -1 := by omega
        subst hi0
        go_wp2
        go_ret
        refine ⟨retInt (cmpN_eq ?_).symm, ⟨nq, rfl⟩⟩
        have := hd.out
        simp at this
        rw [this]
  · have hb : ((x.length : Int) != (y.length : Int)) = true := by rw [bne_iff_ne]; omega
    have hb2 : decide (x.length < y.length) = false := by rw [decide_eq_false_iff_not]; omega
    go_wp2
    go_ret
    exact ⟨retInt (cmpN_gt (val_lt_len V2.out V1.out T1.out hl)).symm, .refl _⟩
end Go.Proofs.YtidjbiopneoeeaaGreat
