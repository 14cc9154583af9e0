/- Parts of the proof, joined: what each says stands at its head. -/
import Derived.Test.YtidjbiopneoeeaaGreatM26
import Derived.Test.YtidjbiopneoeeaaGreatM17
set_option linter.unusedVariables false
set_option linter.unusedSimpArgs false
/- The walk of the fifth reference's Add. The condition: short rows. -/
namespace Go.Proofs.YtidjbiopneoeeaaGreat
open Go.RowKit

theorem rrat_plus (A B : Option Addr) (c d : Nat) (l m : List Int) (neg too : Bool) (w : World) (h : RdI w .u64 A l) (hn : l.length ≤ c) (h' : RdI w .u64 B m) (hn' : m.length ≤ d) (hu : U64 l) (hu' : U64 m) (h9 : l.length ≤ 100000) (h9' : m.length ≤ 100000) :
    Calls Tryz.prog 230 #[.agg #[.bool neg, .slice A l.length c], .agg #[.bool too, .slice B m.length d]] w fun e w' => ∃ v, e = .returned (.agg #[.bool (plusD neg (val l) too (val m)).1, v]) ∧
      OwnI w' w.heap.size 106 .u64 v (limbs (plusD neg (val l) too (val m)).2) ∧ Below w.heap.size w w' := by
  by_cases hs : neg = too
  · exact rrat_plus_eq A B c d l m neg too w h hn h' hn' hu hu' h9 h9' hs
  · exact rrat_plus_ne A B c d l m neg too w h hn h' hn' hu hu' h9 h9' hs

theorem natMulD_ok (l m : List Int) : U64 (natMulD l m).2 ∧ (natMulD l m).2.length ≤ 8 := by
  unfold natMulD
  split
  · exact ⟨U64.nil, by simp⟩
  · unfold heldD
    split
    · exact ⟨U64.nil, by simp⟩
    · exact ⟨limbs_u64 _, by show (limbs _).length ≤ 8; omega⟩

theorem held_cases (l : List Int) : (8 < l.length ∧ heldD l = (21, [])) ∨ (l.length ≤ 8 ∧ heldD l = (0, l)) := by
  unfold heldD
  by_cases h : 8 < l.length
  · exact .inl ⟨h, if_pos h⟩
  · exact .inr ⟨by omega, if_neg h⟩
theorem isBig_yes {rs : List (List Int)} {r : List Int} (h : r ∈ rs) (hl : 8 < r.length) : isBig rs = true := by
  unfold isBig
  rw [List.any_eq_true]
  exact ⟨r, h, decide_eq_true hl⟩
theorem isBig_all {rs : List (List Int)} (h : ∀ r ∈ rs, r.length ≤ 8) : isBig rs = false := by
  unfold isBig
  rw [List.any_eq_false]
  intro r hr
  have := h r hr
  simp; omega

set_option maxHeartbeats 4000000 in
set_option maxRecDepth 100000 in
theorem rrat_Add (b0 : Nat) (v u : Value) (r s : RatD) (w : World) (hb0 : b0 ≤ w.heap.size) (h : RRat w b0 v r) (h' : RRat w b0 u s) (hr : r.short) (hs : s.short) :
    Calls Tryz.prog 172 #[v, u] w fun e w' => ∃ x, e = .returned (.tuple #[x, .int .i64 (addD r s).1]) ∧ RRat w' b0 x (addD r s).2 ∧ Below w.heap.size w w' := by
  obtain ⟨E, hE⟩ : ∃ E, addD r s = E := ⟨_, rfl⟩
  rw [hE]
  have HEQ := Hd.mk hE
  clear hE
  have M1 := Hd.mk (fun W hW => rrat_May b0 v r W hW hr)
  have M2 := Hd.mk (fun W hW => rrat_May b0 u s W hW hs)
  have HR := Hd.mk h
  have HS := Hd.mk h'
  have HB0 := Hd.mk hb0
  obtain ⟨A, c, B, d, rfl, h1, h2, h3, h4⟩ := h
  obtain ⟨A', c', B', d', rfl, h1', h2', h3', h4'⟩ := h'
  have HRW := Hd.mk (And.intro (And.intro h3 h4) (And.intro h3' h4'))
  clear h3 h4 h3' h4' hb0 hr hs
  go_enter Tryz.func172, Tryz.ntmps172
  go_upto_region 1 with (fail)
  refine wp_gen (fun W => Bx3 w.heap.size w.heap.size (w.heap.size + 1) (w.heap.size + 1 + 1) w W (.bool r.neg) (.slice A r.num.length c) (.slice B r.den.length d) (.bool s.neg) (.slice A' s.num.length c') (.slice B' s.den.length d') (.bool false) (.slice none 0 0) (.slice none 0 0)) (Bx3.mk3 w _ _ _ _ _ _ _ _ _) ?_
  intro W BX
  generalize w.heap.size + 1 + 1 = g3 at BX ⊢
  generalize w.heap.size + 1 = g2 at BX ⊢
  obtain ⟨p0, p1, p2⟩ := BX.out.k1.three
  obtain ⟨p3, p4, p5⟩ := BX.out.k2.three
  obtain ⟨p6, p7, p8⟩ := BX.out.k3.three
  have fz := fun i => BX.out.k3.froz i
  have ML := Hd.mk (M1.out W (HR.out.up BX.out.below))
  cases hm1 : ratMay r
  · rw [hm1] at ML
    have HE : Hd (addD r s = (1, zeroD)) := ⟨by unfold addD; rw [hm1]; rfl⟩
    go_wp2_with fail
    refine ML.out.mono ?_
    rintro e w2 ⟨rfl, hb⟩
    have BX2 := Hd.mk (BX.out.up hb)
    obtain ⟨p6, p7, p8⟩ := BX2.out.k3.three
    have fz := fun i => BX2.out.k3.froz i
    go_wp2_with fail
    obtain ⟨d1, d2, d3⟩ := BX2.out.done (.bool false) (.slice none 0 0) (.slice none 0 0)
    refine bodyPost_ret (res_rat2 rfl _ _ g3 #[.bool false, .slice none 0 0, .slice none 0 0] rfl d1 rfl) rfl ?_
    have h5 := HEQ.out.symm.trans HE.out
    subst h5
    exact ⟨_, rfl, RRat.zero _ _, d2⟩
  rw [hm1] at ML
  cases hm2 : ratMay s
  · have HE : Hd (addD r s = (1, zeroD)) := ⟨by unfold addD; rw [hm1, hm2]; rfl⟩
    go_wp2_with fail
    refine ML.out.mono ?_
    rintro e w2 ⟨rfl, hb⟩
    have BX2 := Hd.mk (BX.out.up hb)
    have ML2 := Hd.mk (M2.out w2 (HS.out.up BX2.out.below))
    rw [hm2] at ML2
    obtain ⟨p3, p4, p5⟩ := BX2.out.k2.three
    clear hb
    go_wp2_with fail
    refine ML2.out.mono ?_
    rintro e w3 ⟨rfl, hb⟩
    have BX3 := Hd.mk (BX2.out.up hb)
    obtain ⟨p6, p7, p8⟩ := BX3.out.k3.three
    have fz := fun i => BX3.out.k3.froz i
    go_wp2_with fail
    obtain ⟨d1, d2, d3⟩ := BX3.out.done (.bool false) (.slice none 0 0) (.slice none 0 0)
    refine bodyPost_ret (res_rat2 rfl _ _ g3 #[.bool false, .slice none 0 0, .slice none 0 0] rfl d1 rfl) rfl ?_
    have h5 := HEQ.out.symm.trans HE.out
    subst h5
    exact ⟨_, rfl, RRat.zero _ _, d2⟩
  obtain ⟨m1, m2, _, _, _⟩ := ratMay_of hm1
  obtain ⟨m1', m2', _, _, _⟩ := ratMay_of hm2
  have l1 := natMay_len m1
  have l2 := natMay_len m2
  have l1' := natMay_len m1'
  have l2' := natMay_len m2'
  have HE : Hd (addD r s = if isBig [limbs (val r.num * val s.den), limbs (val s.num * val r.den), limbs (plusD r.neg (val r.num * val s.den) s.neg (val s.num * val r.den)).2, limbs (val r.den * val s.den)] then (21, zeroD)
    else makeD (plusD r.neg (val r.num * val s.den) s.neg (val s.num * val r.den)).1 (limbs (plusD r.neg (val r.num * val s.den) s.neg (val s.num * val r.den)).2) (limbs (val r.den * val s.den))) := ⟨by unfold addD; rw [hm1, hm2]; rfl⟩
  have hx : natMulD r.num s.den = heldD (limbs (val r.num * val s.den)) := by unfold natMulD; rw [m1, m2']; rfl
  have hy : natMulD s.num r.den = heldD (limbs (val s.num * val r.den)) := by unfold natMulD; rw [m1', m2]; rfl
  have hd : natMulD r.den s.den = heldD (limbs (val r.den * val s.den)) := by unfold natMulD; rw [m2, m2']; rfl
  generalize val r.num * val s.den = X at hx HE
  generalize val s.num * val r.den = Y at hy HE
  generalize val r.den * val s.den = D at hd HE
  have C1 := Hd.mk (fun W (hb : Hd (Below w.heap.size w W)) => rnat_Mul A B' c d' r.num s.den W (HRW.out.1.1.rd.up hb.out) h1 (by omega) (HRW.out.2.2.rd.up hb.out) h2' (by omega) HRW.out.1.1.u HRW.out.2.2.u)
  have C2 := Hd.mk (fun W (hb : Hd (Below w.heap.size w W)) => rnat_Mul A' B c' d s.num r.den W (HRW.out.2.1.rd.up hb.out) h1' (by omega) (HRW.out.1.2.rd.up hb.out) h2 (by omega) HRW.out.2.1.u HRW.out.1.2.u)
  have C3 := Hd.mk (fun W (hb : Hd (Below w.heap.size w W)) => rnat_Mul B B' d d' r.den s.den W (HRW.out.1.2.rd.up hb.out) h2 (by omega) (HRW.out.2.2.rd.up hb.out) h2' (by omega) HRW.out.1.2.u HRW.out.2.2.u)
  obtain ⟨ox1, ox2⟩ := natMulD_ok r.num s.den
  obtain ⟨oy1, oy2⟩ := natMulD_ok s.num r.den
  obtain ⟨od1, od2⟩ := natMulD_ok r.den s.den
  generalize natMulD r.num s.den = Ex at hx C1 ox1 ox2
  generalize natMulD s.num r.den = Ey at hy C2 oy1 oy2
  generalize natMulD r.den s.den = Ed at hd C3 od1 od2
  obtain ⟨ex, P⟩ := Ex
  obtain ⟨ey, Q⟩ := Ey
  obtain ⟨ed, R⟩ := Ed
  dsimp only at C1 C2 C3 ox1 ox2 oy1 oy2 od1 od2
  have HX := Hd.mk hx
  have HY := Hd.mk hy
  have HD := Hd.mk hd
  have HU := Hd.mk (And.intro ox1 (And.intro oy1 od1))
  clear m1 m2 m1' m2' l1 l2 l1' l2' hx hy hd hm1 ox1 oy1 od1
  go_wp2_with fail
  refine ML.out.mono ?_
  rintro e w2 ⟨rfl, hb⟩
  have BX2 := Hd.mk (BX.out.up hb)
  have ML2 := Hd.mk (M2.out w2 (HS.out.up BX2.out.below))
  rw [hm2] at ML2
  obtain ⟨p3, p4, p5⟩ := BX2.out.k2.three
  clear hb hm2 p0 p1 p2 p6 p7 p8
  go_wp2_with fail
  refine ML2.out.mono ?_
  rintro e w3 ⟨rfl, hb⟩
  have BX3 := Hd.mk (BX2.out.up hb)
  obtain ⟨p0, p1, p2⟩ := BX3.out.k1.three
  obtain ⟨p3, p4, p5⟩ := BX3.out.k2.three
  clear hb ML ML2 M1 M2 BX BX2
  go_wp2_with fail
  refine (C1.out _ ⟨BX3.out.below⟩).mono ?_
  rintro e w4 ⟨x, rfl, ho, hb⟩
  obtain ⟨Ax, cx, rfl, hcx, _, hrx⟩ := ho.reads
  have BX4 := Hd.mk (BX3.out.up hb)
  have HRX := Hd.mk hrx
  obtain ⟨p0, p1, p2⟩ := BX4.out.k1.three
  obtain ⟨p3, p4, p5⟩ := BX4.out.k2.three
  clear hb ho hrx BX3 C1
  go_wp2_with fail
  refine (C2.out _ ⟨BX4.out.below⟩).mono ?_
  rintro e w5 ⟨y, rfl, ho, hb⟩
  obtain ⟨Ay, cy, rfl, hcy, _, hry⟩ := ho.reads
  have BX5 := Hd.mk (BX4.out.up hb)
  have HRX5 := Hd.mk (HRX.out.up hb)
  have HRY := Hd.mk hry
  obtain ⟨p0, p1, p2⟩ := BX5.out.k1.three
  obtain ⟨p3, p4, p5⟩ := BX5.out.k2.three
  clear hb ho hry BX4 C2 HRX
  go_wp2_with fail
  refine (C3.out _ ⟨BX5.out.below⟩).mono ?_
  rintro e w6 ⟨z, rfl, ho, hb⟩
  obtain ⟨Ad, cd, rfl, hcd, _, _⟩ := ho.reads
  have BX6 := Hd.mk (BX5.out.up hb)
  obtain ⟨p0, p1, p2⟩ := BX6.out.k1.three
  obtain ⟨p3, p4, p5⟩ := BX6.out.k2.three
  have PC := Hd.mk (rrat_plus Ax Ay cx cy P Q r.neg s.neg w6 (HRX5.out.up hb) hcx (HRY.out.up hb) hcy HU.out.1 HU.out.2.1 (by omega) (by omega))
  obtain ⟨pn, ps, hp⟩ : ∃ pn ps, plusD r.neg (val P) s.neg (val Q) = (pn, ps) := ⟨_, _, rfl⟩
  rw [hp] at PC
  have HP := Hd.mk hp
  have HRD := Hd.mk ho
  clear hb ho BX5 C3 HRX5 HRY hp
  go_wp2_with fail
  refine PC.out.mono ?_
  rintro e w7 ⟨z, rfl, ho, hb⟩
  obtain ⟨As, cs, rfl, hcs, _, _⟩ := ho.reads
  have BX7 := Hd.mk (BX6.out.up hb)
  have HO := Hd.mk ho
  have HRD7 := Hd.mk (HRD.out.below hb)
  clear hb ho BX6 HRD PC
  go_upto_region 7 with (fail)
  refine wp_gen (fun W => Below w7.heap.size w7 W ∧ Bk W w7.heap.size 258 #[.bool pn, .slice As (limbs ps).length cs]) ⟨(Below.refl _ _).alloc (Nat.le_refl _) _, Bk.new_ _ _ _⟩ ?_
  intro W8 hW8
  have BX8 := Hd.mk (BX7.out.up hW8.out.1)
  have HO8 := Hd.mk (HO.out.below hW8.out.1)
  have HRD8 := Hd.mk (HRD7.out.below hW8.out.1)
  have q0 : W8.cell? ⟨w7.heap.size, 0, none⟩ = some (.bool pn) := by rw [hW8.out.2.cell]; rfl
  have q1 : W8.cell? ⟨w7.heap.size, 1, none⟩ = some (.slice As (limbs ps).length cs) := by rw [hW8.out.2.cell]; rfl
  clear BX7 HO HRD7 p0 p1 p2 p3 p4 p5 hW8
  obtain ⟨p6, p7, p8⟩ := BX8.out.k3.three
  have fz := fun i => BX8.out.k3.froz i
  have hcase : (((ex = 21 ∨ (ex = 0 ∧ ey = 21)) ∨ ((ex = 0 ∧ ey = 0 ∧ ed = 21) ∨ (ex = 0 ∧ ey = 0 ∧ ed = 0 ∧ 8 < (limbs ps).length))) ∧ addD r s = (21, zeroD)) ∨
      (ex = 0 ∧ ey = 0 ∧ ed = 0 ∧ (limbs ps).length ≤ 8 ∧ R = limbs D ∧ addD r s = makeD pn (limbs ps) (limbs D)) := by
    rcases held_cases (limbs X) with ⟨bx, hx⟩ | ⟨bx, hx⟩
    · have := HX.out.trans hx; injection this with e1 e2
      exact .inl ⟨.inl (.inl e1), by rw [HE.out, isBig_yes (r := limbs X) (by simp) bx, if_pos rfl]⟩
    have hX := HX.out.trans hx; injection hX with e1 e2
    rcases held_cases (limbs Y) with ⟨bY, hy⟩ | ⟨bY, hy⟩
    · have := HY.out.trans hy; injection this with e3 e4
      exact .inl ⟨.inl (.inr ⟨e1, e3⟩), by rw [HE.out, isBig_yes (r := limbs Y) (by simp) bY, if_pos rfl]⟩
    have hY := HY.out.trans hy; injection hY with e3 e4
    have hp := HP.out
    rw [e2, e4, val_limbs, val_limbs] at hp
    rw [HE.out, hp]
    rcases held_cases (limbs D) with ⟨bD, hd⟩ | ⟨bD, hd⟩
    · have := HD.out.trans hd; injection this with e5 e6
      exact .inl ⟨.inr (.inl ⟨e1, e3, e5⟩), by rw [isBig_yes (r := limbs D) (by simp) bD, if_pos rfl]⟩
    have hD := HD.out.trans hd; injection hD with e5 e6
    by_cases bs : 8 < (limbs ps).length
    · exact .inl ⟨.inr (.inr ⟨e1, e3, e5, bs⟩), by rw [isBig_yes (r := limbs ps) (by simp) bs, if_pos rfl]⟩
    · refine .inr ⟨e1, e3, e5, by omega, e6, ?_⟩
      rw [isBig_all (rs := [limbs X, limbs Y, limbs ps, limbs D]) (fun r hr => by
        simp only [List.mem_cons, List.not_mem_nil, or_false] at hr
        rcases hr with rfl | rfl | rfl | rfl <;> omega)]
      rfl
  clear HX HY HD HP HE
  rcases hcase with ⟨hc, he⟩ | ⟨rfl, rfl, rfl, hl, rfl, he⟩
  · have HE := Hd.mk he
    clear he
    rcases hc with (rfl | ⟨rfl, rfl⟩) | (⟨rfl, rfl, rfl⟩ | ⟨rfl, rfl, rfl, hl⟩)
    all_goals
      go_wp2_with fail
      obtain ⟨d1, d2, d3⟩ := BX8.out.done (.bool false) (.slice none 0 0) (.slice none 0 0)
      refine bodyPost_ret (res_rat2 rfl _ _ g3 #[.bool false, .slice none 0 0, .slice none 0 0] rfl d1 rfl) rfl ?_
      have h5 := HEQ.out.symm.trans HE.out
      subst h5
      exact ⟨_, rfl, RRat.zero _ _, d2⟩
  · have CMk := Hd.mk (rrat_Make b0 pn As Ad cs cd (limbs ps) (limbs D) W8 (Nat.le_trans HB0.out BX8.out.below.size) (by obtain ⟨_, _, e, _, _, hr⟩ := HO8.out.reads; injection e with e1 e2 e3; subst e1; exact hr) hcs (by obtain ⟨_, _, e, _, _, hr⟩ := HRD8.out.reads; injection e with e1 e2 e3; subst e1; exact hr) hcd (limbs_u64 _) (limbs_u64 _) (by omega) (by omega))
    have HE2 : Hd (makeD pn (limbs ps) (limbs D) = E) := ⟨he.symm.trans HEQ.out⟩
    rw [HE2.out] at CMk
    clear he
    go_wp2_with fail
    refine CMk.out.mono ?_
    rintro e w9 ⟨v, rfl, hr, hb⟩
    have BX9 := Hd.mk (BX8.out.up hb)
    obtain ⟨p6, p7, p8⟩ := BX9.out.k3.three
    have fz := fun i => BX9.out.k3.froz i
    have HR9 := Hd.mk hr
    obtain ⟨A9, c9, B9, d9, rfl, _, _, _, _⟩ := hr
    clear hb
    go_wp2_with fail
    obtain ⟨d1, d2, d3⟩ := BX9.out.done (.bool E.2.neg) (.slice A9 E.2.num.length c9) (.slice B9 E.2.den.length d9)
    refine bodyPost_ret (res_rat2 rfl _ _ g3 #[.bool E.2.neg, .slice A9 E.2.num.length c9, .slice B9 E.2.den.length d9] rfl d1 rfl) rfl ?_
    exact ⟨_, rfl, d3 _ _ _ HB0.out HR9.out, d2⟩
end Go.Proofs.YtidjbiopneoeeaaGreat
/- The walk of the fifth reference's Mul. The condition: short rows. -/
namespace Go.Proofs.YtidjbiopneoeeaaGreat
open Go.RowKit

set_option maxHeartbeats 4000000 in
set_option maxRecDepth 100000 in
theorem rrat_Mul (b0 : Nat) (v u : Value) (r s : RatD) (w : World) (hb0 : b0 ≤ w.heap.size) (h : RRat w b0 v r) (h' : RRat w b0 u s) (hr : r.short) (hs : s.short) :
    Calls Tryz.prog 110 #[v, u] w fun e w' => ∃ x, e = .returned (.tuple #[x, .int .i64 (mulD r s).1]) ∧ RRat w' b0 x (mulD r s).2 ∧ Below w.heap.size w w' := by
  obtain ⟨E, hE⟩ : ∃ E, mulD r s = E := ⟨_, rfl⟩
  rw [hE]
  have HEQ := Hd.mk hE
  clear hE
  have M1 := Hd.mk (fun W hW => rrat_May b0 v r W hW hr)
  have M2 := Hd.mk (fun W hW => rrat_May b0 u s W hW hs)
  have HR := Hd.mk h
  have HS := Hd.mk h'
  have HB0 := Hd.mk hb0
  obtain ⟨A, c, B, d, rfl, h1, h2, h3, h4⟩ := h
  obtain ⟨A', c', B', d', rfl, h1', h2', h3', h4'⟩ := h'
  have HRW := Hd.mk (And.intro (And.intro h3 h4) (And.intro h3' h4'))
  obtain ⟨nb, hnb⟩ : ∃ nb, (!(r.neg == s.neg)) = nb := ⟨_, rfl⟩
  have HNB : Hd ((r.neg != s.neg) = nb) := ⟨hnb⟩
  clear h3 h4 h3' h4' hb0 hr hs
  go_enter Tryz.func110, Tryz.ntmps110
  go_upto_region 1 with (fail)
  refine wp_gen (fun W => Bx3 w.heap.size w.heap.size (w.heap.size + 1) (w.heap.size + 1 + 1) w W (.bool r.neg) (.slice A r.num.length c) (.slice B r.den.length d) (.bool s.neg) (.slice A' s.num.length c') (.slice B' s.den.length d') (.bool false) (.slice none 0 0) (.slice none 0 0)) (Bx3.mk3 w _ _ _ _ _ _ _ _ _) ?_
  intro W BX
  generalize w.heap.size + 1 + 1 = g3 at BX ⊢
  generalize w.heap.size + 1 = g2 at BX ⊢
  obtain ⟨p0, p1, p2⟩ := BX.out.k1.three
  obtain ⟨p3, p4, p5⟩ := BX.out.k2.three
  obtain ⟨p6, p7, p8⟩ := BX.out.k3.three
  have fz := fun i => BX.out.k3.froz i
  have ML := Hd.mk (M1.out W (HR.out.up BX.out.below))
  cases hm1 : ratMay r
  · rw [hm1] at ML
    have HE : Hd (mulD r s = (1, zeroD)) := ⟨by unfold mulD; rw [hm1]; rfl⟩
    go_wp2_with fail
    refine ML.out.mono ?_
    rintro e w2 ⟨rfl, hb⟩
    have BX2 := Hd.mk (BX.out.up hb)
    obtain ⟨p6, p7, p8⟩ := BX2.out.k3.three
    have fz := fun i => BX2.out.k3.froz i
    go_wp2_with fail
    obtain ⟨d1, d2, d3⟩ := BX2.out.done (.bool false) (.slice none 0 0) (.slice none 0 0)
    refine bodyPost_ret (res_rat2 rfl _ _ g3 #[.bool false, .slice none 0 0, .slice none 0 0] rfl d1 rfl) rfl ?_
    have h5 := HEQ.out.symm.trans HE.out
    subst h5
    exact ⟨_, rfl, RRat.zero _ _, d2⟩
  rw [hm1] at ML
  cases hm2 : ratMay s
  · have HE : Hd (mulD r s = (1, zeroD)) := ⟨by unfold mulD; rw [hm1, hm2]; rfl⟩
    go_wp2_with fail
    refine ML.out.mono ?_
    rintro e w2 ⟨rfl, hb⟩
    have BX2 := Hd.mk (BX.out.up hb)
    have ML2 := Hd.mk (M2.out w2 (HS.out.up BX2.out.below))
    rw [hm2] at ML2
    obtain ⟨p3, p4, p5⟩ := BX2.out.k2.three
    clear hb
    go_wp2_with fail
    refine ML2.out.mono ?_
    rintro e w3 ⟨rfl, hb⟩
    have BX3 := Hd.mk (BX2.out.up hb)
    obtain ⟨p6, p7, p8⟩ := BX3.out.k3.three
    have fz := fun i => BX3.out.k3.froz i
    go_wp2_with fail
    obtain ⟨d1, d2, d3⟩ := BX3.out.done (.bool false) (.slice none 0 0) (.slice none 0 0)
    refine bodyPost_ret (res_rat2 rfl _ _ g3 #[.bool false, .slice none 0 0, .slice none 0 0] rfl d1 rfl) rfl ?_
    have h5 := HEQ.out.symm.trans HE.out
    subst h5
    exact ⟨_, rfl, RRat.zero _ _, d2⟩
  obtain ⟨m1, m2, _, _, _⟩ := ratMay_of hm1
  obtain ⟨m1', m2', _, _, _⟩ := ratMay_of hm2
  have l1 := natMay_len m1
  have l2 := natMay_len m2
  have l1' := natMay_len m1'
  have l2' := natMay_len m2'
  have HE : Hd (mulD r s = if isBig [limbs (val r.num * val s.num), limbs (val r.den * val s.den)] then (21, zeroD)
    else makeD nb (limbs (val r.num * val s.num)) (limbs (val r.den * val s.den))) := ⟨by unfold mulD; rw [hm1, hm2, HNB.out]; rfl⟩
  have hx : natMulD r.num s.num = heldD (limbs (val r.num * val s.num)) := by unfold natMulD; rw [m1, m1']; rfl
  have hd : natMulD r.den s.den = heldD (limbs (val r.den * val s.den)) := by unfold natMulD; rw [m2, m2']; rfl
  generalize val r.num * val s.num = X at hx HE
  generalize val r.den * val s.den = D at hd HE
  have C1 := Hd.mk (fun W (hb : Hd (Below w.heap.size w W)) => rnat_Mul A A' c c' r.num s.num W (HRW.out.1.1.rd.up hb.out) h1 (by omega) (HRW.out.2.1.rd.up hb.out) h1' (by omega) HRW.out.1.1.u HRW.out.2.1.u)
  have C3 := Hd.mk (fun W (hb : Hd (Below w.heap.size w W)) => rnat_Mul B B' d d' r.den s.den W (HRW.out.1.2.rd.up hb.out) h2 (by omega) (HRW.out.2.2.rd.up hb.out) h2' (by omega) HRW.out.1.2.u HRW.out.2.2.u)
  obtain ⟨ox1, ox2⟩ := natMulD_ok r.num s.num
  obtain ⟨od1, od2⟩ := natMulD_ok r.den s.den
  generalize natMulD r.num s.num = Ex at hx C1 ox1 ox2
  generalize natMulD r.den s.den = Ed at hd C3 od1 od2
  obtain ⟨ex, P⟩ := Ex
  obtain ⟨ed, R⟩ := Ed
  dsimp only at C1 C3 ox1 ox2 od1 od2
  have hcase : ((ex = 21 ∨ (ex = 0 ∧ ed = 21)) ∧ mulD r s = (21, zeroD)) ∨
      (ex = 0 ∧ ed = 0 ∧ P = limbs X ∧ R = limbs D ∧ mulD r s = makeD nb (limbs X) (limbs D)) := by
    rw [HE.out]
    rcases held_cases (limbs X) with ⟨bx, hx'⟩ | ⟨bx, hx'⟩
    · have := hx.trans hx'; injection this with e1 e2
      exact .inl ⟨.inl e1, by rw [isBig_yes (r := limbs X) (by simp) bx, if_pos rfl]⟩
    have hX := hx.trans hx'; injection hX with e1 e2
    rcases held_cases (limbs D) with ⟨bD, hd'⟩ | ⟨bD, hd'⟩
    · have := hd.trans hd'; injection this with e5 e6
      exact .inl ⟨.inr ⟨e1, e5⟩, by rw [isBig_yes (r := limbs D) (by simp) bD, if_pos rfl]⟩
    have hD := hd.trans hd'; injection hD with e5 e6
    refine .inr ⟨e1, e5, e2, e6, ?_⟩
    rw [isBig_all (rs := [limbs X, limbs D]) (fun r hr => by
      simp only [List.mem_cons, List.not_mem_nil, or_false] at hr
      rcases hr with rfl | rfl <;> omega)]
    rfl
  have HC := Hd.mk hcase
  clear m1 m2 m1' m2' l1 l2 l1' l2' hx hd hm1 ox1 od1 HE hcase
  go_wp2_with fail
  refine ML.out.mono ?_
  rintro e w2 ⟨rfl, hb⟩
  have BX2 := Hd.mk (BX.out.up hb)
  have ML2 := Hd.mk (M2.out w2 (HS.out.up BX2.out.below))
  rw [hm2] at ML2
  obtain ⟨p3, p4, p5⟩ := BX2.out.k2.three
  clear hb hm2 p0 p1 p2 p6 p7 p8
  go_wp2_with fail
  refine ML2.out.mono ?_
  rintro e w3 ⟨rfl, hb⟩
  have BX3 := Hd.mk (BX2.out.up hb)
  obtain ⟨p0, p1, p2⟩ := BX3.out.k1.three
  obtain ⟨p3, p4, p5⟩ := BX3.out.k2.three
  clear hb ML ML2 M1 M2 BX BX2
  go_wp2_with fail
  refine (C1.out _ ⟨BX3.out.below⟩).mono ?_
  rintro e w4 ⟨x, rfl, ho, hb⟩
  obtain ⟨Ax, cx, rfl, hcx, _, hrx⟩ := ho.reads
  have BX4 := Hd.mk (BX3.out.up hb)
  have HRX := Hd.mk hrx
  obtain ⟨p0, p1, p2⟩ := BX4.out.k1.three
  obtain ⟨p3, p4, p5⟩ := BX4.out.k2.three
  clear hb ho hrx BX3 C1
  go_wp2_with fail
  refine (C3.out _ ⟨BX4.out.below⟩).mono ?_
  rintro e w6 ⟨z, rfl, ho, hb⟩
  obtain ⟨Ad, cd, rfl, hcd, _, hrd⟩ := ho.reads
  have BX6 := Hd.mk (BX4.out.up hb)
  have HRX6 := Hd.mk (HRX.out.up hb)
  have HRD := Hd.mk hrd
  obtain ⟨p0, p1, p2⟩ := BX6.out.k1.three
  obtain ⟨p3, p4, p5⟩ := BX6.out.k2.three
  obtain ⟨p6, p7, p8⟩ := BX6.out.k3.three
  have fz := fun i => BX6.out.k3.froz i
  clear hb ho hrd BX4 C3 HRX
  rcases HC.out with ⟨hc, he⟩ | ⟨rfl, rfl, rfl, rfl, he⟩
  · have HE := Hd.mk he
    clear he
    rcases hc with rfl | ⟨rfl, rfl⟩
    all_goals
      go_wp2_with fail
      obtain ⟨d1, d2, d3⟩ := BX6.out.done (.bool false) (.slice none 0 0) (.slice none 0 0)
      refine bodyPost_ret (res_rat2 rfl _ _ g3 #[.bool false, .slice none 0 0, .slice none 0 0] rfl d1 rfl) rfl ?_
      have h5 := HEQ.out.symm.trans HE.out
      subst h5
      exact ⟨_, rfl, RRat.zero _ _, d2⟩
  · have CMk := Hd.mk (rrat_Make b0 nb Ax Ad cx cd (limbs X) (limbs D) w6 (Nat.le_trans HB0.out BX6.out.below.size) HRX6.out hcx HRD.out hcd (limbs_u64 _) (limbs_u64 _) (by omega) (by omega))
    have HE2 : Hd (makeD nb (limbs X) (limbs D) = E) := ⟨he.symm.trans HEQ.out⟩
    rw [HE2.out] at CMk
    clear he
    go_wp2_with fail
    refine CMk.out.mono ?_
    rintro e w9 ⟨v, rfl, hr, hb⟩
    have BX9 := Hd.mk (BX6.out.up hb)
    obtain ⟨p6, p7, p8⟩ := BX9.out.k3.three
    have fz := fun i => BX9.out.k3.froz i
    have HR9 := Hd.mk hr
    obtain ⟨A9, c9, B9, d9, rfl, _, _, _, _⟩ := hr
    clear hb
    go_wp2_with fail
    obtain ⟨d1, d2, d3⟩ := BX9.out.done (.bool E.2.neg) (.slice A9 E.2.num.length c9) (.slice B9 E.2.den.length d9)
    refine bodyPost_ret (res_rat2 rfl _ _ g3 #[.bool E.2.neg, .slice A9 E.2.num.length c9, .slice B9 E.2.den.length d9] rfl d1 rfl) rfl ?_
    exact ⟨_, rfl, d3 _ _ _ HB0.out HR9.out, d2⟩
end Go.Proofs.YtidjbiopneoeeaaGreat
/- The walk of the ninth reference's put. The condition: a falling row of good monomials, short rows. -/
namespace Go.Proofs.YtidjbiopneoeeaaGreat
open Go.RowKit

def TermD.v (t : TermD) (A : Option Addr) (c : Nat) (B : Option Addr) (d : Nat) : Array Value := #[.bool t.c.neg, .slice A t.c.num.length c, .slice B t.c.den.length d, .int .i64 t.m.x0, .int .i64 t.m.x1, .int .i64 t.m.x2, .int .i64 t.m.x3]
theorem ownT_lit (w : World) (b0 base : Nat) (hb : base ≤ w.heap.size) : OwnT (w.alloc (.cells #[] 67)) b0 base (.slice (some ⟨w.heap.size, 0, none⟩) 0 0) [] :=
  ⟨[], World.ownsRow_lit (e := 67) (size := 7) w #[] 0 hb (by unfold maxLen; omega) rfl, .nil⟩

set_option maxHeartbeats 8000000 in
set_option maxRecDepth 100000 in
theorem rpol_put (b0 : Nat) (order : Int) (A : Option Addr) (c : Nat) (al : List TermD) (v : Value) (t : TermD) (w : World) (hb0 : b0 ≤ w.heap.size) (h : RPol w b0 A al) (hc : al.length ≤ c) (h9 : al.length ≤ 100000) (hs : shortP al) (ht : RTerm w b0 v t) (hts : t.c.short) (hm : monMay t.m = true) (hst : Sta order al) :
    Calls Tryz.prog 100 #[.int .i64 order, .slice A al.length c, v] w fun e w' => ∃ A' c', e = .returned (.tuple #[.slice A' (putD order al t).2.length c', .int .i64 (putD order al t).1]) ∧
      (putD order al t).2.length ≤ c' ∧ RPol w' b0 A' (putD order al t).2 ∧ Below w.heap.size w w' := by
  have HP := Hd.mk h
  have HS := Hd.mk hs
  have HB0 := Hd.mk hb0
  have HT := Hd.mk ht
  have HTS := Hd.mk hts
  have HW : Hd (putW order t false [] al = putD order al t) := ⟨by
    rw [putW_putD hm hst]
    unfold appD
    by_cases he : (putD order al t).1 = 0
    · rw [if_neg (by simpa using he)]; simp; exact Prod.ext he.symm rfl
    · rw [if_pos (by simpa using he)]
      have : (putD order al t).2 = [] := by
        revert he
        unfold putD
        split
        · split
          · intro _; rfl
          · intro h; exact absurd rfl h
        · intro h; exact absurd rfl h
      exact Prod.ext rfl this.symm⟩
  obtain ⟨E, hE⟩ : ∃ E, putD order al t = E := ⟨_, rfl⟩
  rw [hE] at HW ⊢
  clear h hs hb0 hts hm hst hE
  obtain ⟨TA, tc, TB, td, rfl, _, _, _, _⟩ := ht
  go_enter Tryz.func100, Tryz.ntmps100
  go_upto_region 3 with (fail)
  refine wp_gen (fun W => Below w.heap.size w W ∧ Bk W w.heap.size 67 (t.v TA tc TB td) ∧ OwnT W b0 (w.heap.size + 1) (.slice (some ⟨w.heap.size + 1, 0, none⟩) 0 0) [] ∧ w.heap.size + 1 ≤ W.heap.size) ⟨((Below.refl _ _).alloc (Nat.le_refl _) _).alloc (by simp) _, (Bk.new_ _ _ _).al _, by
    have := ownT_lit (w.alloc (.cells (t.v TA tc TB td) 67)) b0 (w.heap.size + 1) (by simp)
    simpa [TermD.v] using this, by simp⟩ ?_
  intro W0 hW
  have HB := Hd.mk hW.out.1
  have HK := Hd.mk hW.out.2.1
  have HO := Hd.mk hW.out.2.2.1
  have HZ := Hd.mk hW.out.2.2.2
  have HB01 : Hd (b0 ≤ w.heap.size + 1) := ⟨by have := HB0.out; omega⟩
  have HLT : Hd (w.heap.size < w.heap.size + 1) := ⟨Nat.lt_succ_self _⟩
  have HLE : Hd (w.heap.size ≤ w.heap.size + 1) := ⟨Nat.le_succ _⟩
  clear hW
  obtain ⟨gb, hgb⟩ : ∃ gb, w.heap.size = gb := ⟨_, rfl⟩
  obtain ⟨base, hbase⟩ : ∃ base, w.heap.size + 1 = base := ⟨_, rfl⟩
  rw [hbase] at HO HZ HB01 HLT HLE ⊢
  have HGB := Hd.mk hgb
  rw [hgb] at HK HLT HLE ⊢
  clear hbase hgb
  go_wp2_with fail
  go_loopw [8, 9, 10] (fun v8 v9 v10 wr => ∃ (i : Nat) (d : Bool) (acc : List TermD), v10 = .int .i64 i ∧ v9 = .bool d ∧ i ≤ al.length ∧ acc.length ≤ 2 * i ∧ Hd (OwnT wr b0 base v8 acc) ∧ Hd (putW order t d acc (al.drop i) = E) ∧ Hd (Below w.heap.size w wr) ∧ Hd (Bk wr gb 67 (t.v TA tc TB td)) ∧ Hd (base ≤ wr.heap.size)) (fun _ _ v _ => al.length - (intOf v).toNat)
  case atStart => exact ⟨0, false, [], rfl, rfl, by omega, by simp, HO, HW, HB, HK, HZ⟩
  case round =>
    clear HO HW HB HK HZ
    obtain ⟨i, d, acc, rfl, rfl, hi, hacc, HO, HQ, HB, HK, HZ⟩ := hrel
    obtain ⟨Av, cv, rfl, hcv, _, _⟩ := HO.out.reads
    by_cases hlt : i < al.length
    · have i1 : (i : Int) < al.length := by omega
      have i3 : (0 : Int) ≤ i := by omega
      obtain ⟨ad, B1, c1, B2, c2, s, rfl, hab, hsi, hrt, q0, q1, q2, q3, q4, q5, q6⟩ := (HP.out.up HB.out).get hlt
      obtain ⟨k0, k1, k2, k3, k4, k5, k6⟩ := Wd.at7 q0 q1 q2 q3 q4 q5 q6
      obtain ⟨⟨t0, t1, t2⟩, t3, t4, t5, t6⟩ := HK.out.seven
      have u3 := Wd.cell t3
      have u4 := Wd.cell t4
      have u5 := Wd.cell t5
      have u6 := Wd.cell t6
      have HSS := Hd.mk (HS.out.2 s (List.mem_of_getElem? hsi.out))
      have C4 := Hd.mk (fun n : Wd wr => rmon_Cmp order s.m t.m n.w)
      have HD : Hd (al.drop i = s :: al.drop (i + 1)) := ⟨by
        have e1 : al[i] = s := by have := hsi.out; rw [List.getElem?_eq_getElem hlt] at this; injection this
        rw [List.drop_eq_getElem_cons hlt, e1]⟩
      have HU : Hd (E = putW order t d acc (s :: al.drop (i + 1))) := ⟨by rw [← HQ.out, HD.out]⟩
      obtain ⟨r, hr⟩ : ∃ r, al.drop (i + 1) = r := ⟨_, rfl⟩
      rw [hr] at HU
      have HR := Hd.mk hr
      clear hr
      have HV : Hd (E = if monCmp order s.m t.m = 0 then (if (addD s.c t.c).1 ≠ 0 then ((addD s.c t.c).1, []) else putW order t true (acc ++ [⟨(addD s.c t.c).2, t.m⟩]) r)
        else if monCmp order s.m t.m < 0 ∧ d = false then putW order t true (acc ++ [t, s]) r else putW order t d (acc ++ [s]) r) := ⟨HU.out⟩
      generalize monCmp order s.m t.m = K at C4 HV
      clear HU HQ q0 q1 q2 q3 q4 q5 q6 t0 t1 t2 t3 t4 t5 t6
      go_wp2_with fail
      refine wp_region_wd wr (by kernel_rfl) (by kernel_rfl) (Below.refl _ _).drew ?_
      repeat (go_big_quiet_step ((go_at_call 99; exact Wd.call (C4.out _))))
      refine wd_nil fun nq => ?_
      have HBn := Hd.mk (goes HB.out nq.lo)
      have On := Hd.mk (HO.out.up nq.lo)
      have Kn := Hd.mk (HK.out.up nq.lo)
      have Zn := Hd.mk (Nat.le_trans HZ.out nq.lo.size)
      have HRS := Hd.mk (hrt.out.up nq.lo)
      have HTn := Hd.mk (HT.out.up HBn.out)
      have k0 := k0 nq
      have k1 := k1 nq
      have k2 := k2 nq
      have k3 := k3 nq
      have k4 := k4 nq
      have k5 := k5 nq
      have k6 := k6 nq
      obtain ⟨⟨t0, t1, t2⟩, t3, t4, t5, t6⟩ := Kn.out.seven
      clear u3 u4 u5 u6 HB HO HK HZ hrt C4 hab
      generalize nq.w = wn at HBn On Kn Zn HRS HTn k0 k1 k2 k3 k4 k5 k6 t0 t1 t2 t3 t4 t5 t6 ⊢
      by_cases h0 : K = 0
      · have e0 : (K == 0) = true := by rw [beq_iff_eq]; exact h0
        have HV0 : Hd (E = if (addD s.c t.c).1 ≠ 0 then ((addD s.c t.c).1, []) else putW order t true (acc ++ [⟨(addD s.c t.c).2, t.m⟩]) r) := ⟨by rw [HV.out, if_pos h0]⟩
        clear HV h0
        have CA := Hd.mk (fun W (hB : Hd (Below wn.heap.size wn W)) => rrat_Add b0 _ _ s.c t.c W (Nat.le_trans HB0.out (Nat.le_trans HBn.out.size hB.out.size)) (HRS.out.rat.up hB.out) (HTn.out.rat.up hB.out) HSS.out HTS.out)
        obtain ⟨X1, X2, hX⟩ : ∃ X1 X2, addD s.c t.c = (X1, X2) := ⟨_, _, rfl⟩
        rw [hX] at CA HV0
        have SO := Hd.mk (fun W (hB : Below wn.heap.size wn W) => And.intro (Hd.mk hB) (And.intro (cell_up k0 hB) (And.intro (cell_up k1 hB) (And.intro (cell_up k2 hB) (And.intro (cell_up t0 hB) (And.intro (cell_up t1 hB) (And.intro (cell_up t2 hB) (And.intro (cell_up t3 hB) (And.intro (cell_up t4 hB) (And.intro (cell_up t5 hB) (cell_up t6 hB)))))))))))
        clear hX
        go_wp2_with fail
        go_region_held3 (fun w' => Hd (Below wn.heap.size wn w') ∧ w'.cell? (ad.add (i * 7)) = some (.bool s.c.neg) ∧ w'.cell? ⟨(ad.add (i * 7)).block, (ad.add (i * 7)).off + 1, none⟩ = some (.slice B1 s.c.num.length c1) ∧ w'.cell? ⟨(ad.add (i * 7)).block, (ad.add (i * 7)).off + 2, none⟩ = some (.slice B2 s.c.den.length c2) ∧
            w'.cell? ⟨gb, 0, none⟩ = some (.bool t.c.neg) ∧ w'.cell? ⟨gb, 1, none⟩ = some (.slice TA t.c.num.length tc) ∧ w'.cell? ⟨gb, 2, none⟩ = some (.slice TB t.c.den.length td) ∧ w'.cell? ⟨gb, 3, none⟩ = some (.int .i64 t.m.x0) ∧ w'.cell? ⟨gb, 4, none⟩ = some (.int .i64 t.m.x1) ∧ w'.cell? ⟨gb, 5, none⟩ = some (.int .i64 t.m.x2) ∧ w'.cell? ⟨gb, 6, none⟩ = some (.int .i64 t.m.x3))
          (first
            | exact SO.out _ (.refl _ _)
            | exact SO.out _ (Below.refl _ _).drew
            | exact SO.out _ ((Below.refl _ _).drew.alloc (Nat.le_refl _) _)
            | exact SO.out _ ((Below.refl _ _).alloc (Nat.le_refl _) _).drew
            | exact SO.out _ hB5
            | exact SO.out _ (hB5.alloc hB5.size _)
            | exact SO.out _ (((hB5.setCell (Nat.le_refl _) _).setCell (Nat.le_refl _) _).setCell (Nat.le_refl _) _)
            | exact SO.out _ ((((hB5.alloc hB5.size _).setCell hB5.size _).setCell hB5.size _).setCell hB5.size _))
          (first
            | (go_at_call 172; have hB := ‹Hd (Below wn.heap.size wn _) ∧ _›.1; with_reducible refine (CA.out ((wn.alloc (Obj.cells #[.bool false, .slice none 0 0, .slice none 0 0] 63)).drew) hB).mono ?_; rintro e w5 ⟨x, rfl, hx, hb⟩
               have hB5 := hB.out.trans (hb.mono hB.out.size)
               have HX := Hd.mk hx
               have hk := Hd.mk ((Bk.new_ wn 63 #[.bool false, .slice none 0 0, .slice none 0 0]).d1.up hb)
               obtain ⟨p6, p7, p8⟩ := hk.out.three
               have fz := fun i => hk.out.froz i
               obtain ⟨XA, xc, XB, xd, rfl, _, _, _, _⟩ := hx)
            | (go_at_call 172; have hB := ‹Hd (Below wn.heap.size wn _) ∧ _›.1; with_reducible refine (CA.out _ hB).mono ?_; rintro e w5 ⟨x, rfl, hx, hb⟩
               have hB5 := hB.out.trans (hb.mono hB.out.size)
               have HX := Hd.mk hx
               obtain ⟨XA, xc, XB, xd, rfl, _, _, _, _⟩ := hx))
        all_goals
          have hB6 := ‹Hd (Below wn.heap.size wn _) ∧ _›.1
          have HX6 := Hd.mk (at_world (v := .agg #[.bool X2.neg, .slice XA X2.num.length xc, .slice XB X2.den.length xd]) hB6.out (by first | exact HX.out.up ((Below.refl _ _).alloc (Nat.le_refl _) _) | exact RRat.set3 HX.out hk.out (Nat.le_trans HB0.out HBn.out.size) _ _ _))
          by_cases hx0 : X1 = 0
          · have e3 : (X1 != 0) = false := by rw [bne_eq_false_iff_eq]; exact hx0
            have HV2 : Hd (putW order t true (acc ++ [⟨X2, t.m⟩]) (al.drop (i + 1)) = E) := ⟨by rw [HV0.out, if_neg (by simpa using hx0), HR.out]⟩
            have xl : acc.length + ([⟨X2, t.m⟩] : List TermD).length ≤ 1000000 := by simp; omega
            have XL := Hd.mk xl
            have T1 := rpol_one (t := ⟨X2, t.m⟩) (rterm_of HX6.out t.m) 67
            dsimp only at T1
            first | rw [World.size_alloc] at T1 | rw [World.size_setCell, World.size_setCell, World.size_setCell] at T1
            obtain ⟨tn, htn⟩ : ∃ tn : TermD, tn = ⟨X2, t.m⟩ := ⟨_, rfl⟩
            rw [← htn] at T1 HV2 XL
            have HT1 := Hd.mk T1
            clear hx0 HV0 xl T1 htn
            go_wp2_with (at_builtin; refine wpList_append_T (w0 := w) (us := [tn]) rfl _ _ 25 25 rfl Tryz.slPoly Tryz.slPoly rfl rfl rfl (On.out.up (hB6.out.alloc hB6.out.size _)) HT1.out HB01.out XL.out (goes HBn.out (hB6.out.alloc hB6.out.size _)) (Nat.le_of_lt (by rw [HGB.out]; exact HLT.out)) (Nat.le_trans Zn.out (hB6.out.alloc hB6.out.size _).size) ?_)
            intro v' w8 AP
            have HAP := Hd.mk AP
            clear AP
            have HK8 := Hd.mk (HAP.out.bk (Kn.out.up (hB6.out.alloc hB6.out.size _)) HLT.out)
            have HZ8 := Hd.mk (Nat.le_trans (Nat.le_trans Zn.out (hB6.out.alloc hB6.out.size _).size) HAP.out.size)
            go_wp2_with fail
            go_roundw
            case measure => first | (simp [intOf]; done) | (simp [intOf]; omega)
            case rel => exact ⟨i + 1, true, _, by go_num, rfl, by omega, by simp; omega, ⟨HAP.out.own⟩, HV2, ⟨HAP.out.below⟩, HK8, HZ8⟩
          · have e3 : (X1 != 0) = true := by rw [bne_iff_ne]; exact hx0
            have HV2 : Hd (E = (X1, [])) := ⟨by rw [HV0.out, if_pos (by simpa using hx0)]⟩
            clear HV0 hx0
            go_wp2_with fail
            go_ret2
            rw [HV2.out]
            exact ⟨none, 0, rfl, Nat.le_refl _, RPol.nil _ _ _, goes HBn.out hB6.out⟩
      · have e0 : (K == 0) = false := by rw [beq_eq_false_iff_ne]; exact h0
        have HV1 : Hd (E = if K < 0 ∧ d = false then putW order t true (acc ++ [t, s]) r else putW order t d (acc ++ [s]) r) := ⟨by rw [HV.out, if_neg h0]⟩
        clear HV h0 k0 k1 k2 k3 k4 k5 k6
        have hcase : (K < 0 ∧ d = false) ∨ (((K < 0 ∧ d = true) ∨ ¬ K < 0) ∧ E = putW order t d (acc ++ [s]) r) := by
          rw [HV1.out]
          by_cases hk : K < 0
          · cases d
            · exact .inl ⟨hk, rfl⟩
            · exact .inr ⟨.inl ⟨hk, rfl⟩, by rw [if_neg (by simp)]⟩
          · exact .inr ⟨.inr hk, by rw [if_neg (fun h => hk h.1)]⟩
        have step : ∀ {dd : Bool} {acct : List TermD}, acct.length ≤ 2 * i + 1 → E = putW order t dd (acct ++ [s]) r → Hd (acct.length + [s].length ≤ 1000000 ∧ (acct ++ [s]).length ≤ 2 * (i + 1) ∧ putW order t dd (acct ++ [s]) (al.drop (i + 1)) = E) := fun h1 h2 => ⟨by simp; omega, by simp; omega, by rw [HR.out, h2]⟩
        rcases hcase with ⟨hk, rfl⟩ | ⟨hk, hv⟩
        · have HST := step (dd := true) (acct := acc ++ [t]) (by simp; omega) (by rw [HV1.out, if_pos ⟨hk, rfl⟩]; simp)
          have xl : acc.length + [t].length ≤ 1000000 := by simp; omega
          have XL := Hd.mk xl
          clear HV1 step xl
          go_wp2_with (at_builtin; refine wpList_append_T (w0 := w) (us := [t]) rfl _ _ 25 25 rfl Tryz.slPoly Tryz.slPoly rfl rfl rfl (On.out.up ((Below.refl _ _).alloc (Nat.le_refl _) _)) (rpol_one HTn.out _) HB01.out XL.out (goes HBn.out ((Below.refl _ _).alloc (Nat.le_refl _) _)) (Nat.le_of_lt (by rw [HGB.out]; exact HLT.out)) (Nat.le_trans Zn.out (by simp)) ?_)
          intro v' w8 AP
          have HAP := Hd.mk AP
          clear AP
          have HK8 := Hd.mk (HAP.out.bk (Kn.out.up ((Below.refl _ _).alloc (Nat.le_refl _) _)) HLT.out)
          have HZ8 := Hd.mk (Nat.le_trans (Nat.le_trans Zn.out (by simp)) HAP.out.size)
          obtain ⟨A8, c8, rfl, hc8, _, _⟩ := HAP.out.own.reads
          have HB8 := Hd.mk HAP.out.below
          obtain ⟨ad2, B1', c1', B2', c2', s', e, _, hs', hrt', q0, q1, q2, q3, q4, q5, q6⟩ := (HP.out.up HB8.out).get hlt
          cases e
          obtain rfl : s' = s := by have := hs'.out; rw [hsi.out] at this; injection this with this; exact this.symm
          go_wp2_with (at_builtin; refine wpList_append_T (w0 := w) (us := [s']) rfl _ _ 25 25 rfl Tryz.slPoly Tryz.slPoly rfl rfl rfl (HAP.out.own.up ((Below.refl _ _).alloc (Nat.le_refl _) _)) (rpol_one hrt'.out _) HB01.out HST.out.1 (goes HB8.out ((Below.refl _ _).alloc (Nat.le_refl _) _)) (Nat.le_of_lt (by rw [HGB.out]; exact HLT.out)) (Nat.le_trans HZ8.out (by simp)) ?_)
          intro v' w9 AP
          have HAP9 := Hd.mk AP
          clear AP
          have HK9 := Hd.mk (HAP9.out.bk (HK8.out.up ((Below.refl _ _).alloc (Nat.le_refl _) _)) HLT.out)
          have HZ9 := Hd.mk (Nat.le_trans (Nat.le_trans HZ8.out (by simp)) HAP9.out.size)
          go_wp2_with fail
          go_roundw
          case measure => first | (simp [intOf]; done) | (simp [intOf]; omega)
          case rel => exact ⟨i + 1, true, _, by go_num, rfl, by omega, HST.out.2.1, ⟨HAP9.out.own⟩, ⟨HST.out.2.2⟩, ⟨HAP9.out.below⟩, HK9, HZ9⟩
        have HST := step (dd := d) (acct := acc) (by omega) hv
        clear HV1 step hv
        rcases hk with ⟨hk, rfl⟩ | hk
        all_goals
          obtain ⟨ad2, B1', c1', B2', c2', s', e, _, hs', hrt', q0, q1, q2, q3, q4, q5, q6⟩ := (HP.out.up HBn.out).get hlt
          cases e
          obtain rfl : s' = s := by have := hs'.out; rw [hsi.out] at this; injection this with this; exact this.symm
          go_wp2_with (at_builtin; refine wpList_append_T (w0 := w) (us := [s']) rfl _ _ 25 25 rfl Tryz.slPoly Tryz.slPoly rfl rfl rfl (On.out.up ((Below.refl _ _).alloc (Nat.le_refl _) _)) (rpol_one hrt'.out _) HB01.out HST.out.1 (goes HBn.out ((Below.refl _ _).alloc (Nat.le_refl _) _)) (Nat.le_of_lt (by rw [HGB.out]; exact HLT.out)) (Nat.le_trans Zn.out (by simp)) ?_)
          intro v' w9 AP
          have HAP9 := Hd.mk AP
          clear AP
          have HK9 := Hd.mk (HAP9.out.bk (Kn.out.up ((Below.refl _ _).alloc (Nat.le_refl _) _)) HLT.out)
          have HZ9 := Hd.mk (Nat.le_trans (Nat.le_trans Zn.out (by simp)) HAP9.out.size)
          go_wp2_with fail
          go_roundw
          case measure => first | (simp [intOf]; done) | (simp [intOf]; omega)
          case rel => exact ⟨i + 1, _, _, by go_num, rfl, by omega, HST.out.2.1, ⟨HAP9.out.own⟩, ⟨HST.out.2.2⟩, ⟨HAP9.out.below⟩, HK9, HZ9⟩
    · obtain rfl : i = al.length := by omega
      have HE : Hd (E = (0, if d = true then acc else acc ++ [t])) := ⟨by rw [← HQ.out, List.drop_eq_nil_of_le (Nat.le_refl _)]; rfl⟩
      cases d
      · have HTn := Hd.mk (HT.out.up HB.out)
        obtain ⟨⟨t0, t1, t2⟩, t3, t4, t5, t6⟩ := HK.out.seven
        have xl : acc.length + [t].length ≤ 1000000 := by simp; omega
        have XL := Hd.mk xl
        clear HQ xl
        go_wp2_with (at_builtin; refine wpList_append_T (w0 := w) (us := [t]) rfl _ _ 25 25 rfl Tryz.slPoly Tryz.slPoly rfl rfl rfl (HO.out.up ((Below.refl _ _).alloc (Nat.le_refl _) _)) (rpol_one HTn.out _) HB01.out XL.out (goes HB.out ((Below.refl _ _).alloc (Nat.le_refl _) _)) (Nat.le_of_lt (by rw [HGB.out]; exact HLT.out)) (Nat.le_trans HZ.out (by simp)) ?_)
        intro v' w8 AP
        have HAP := Hd.mk AP
        clear AP
        obtain ⟨A8, c8, rfl, hc8, _, hr8⟩ := HAP.out.own.reads
        have HR8 := Hd.mk hr8
        clear hr8
        go_wp2_with fail
        go_ret2
        rw [HE.out]
        exact ⟨A8, c8, rfl, hc8, HR8.out, HAP.out.below⟩
      · obtain ⟨_, _, e, _, _, hr8⟩ := HO.out.reads
        cases e
        have HR8 := Hd.mk hr8
        clear hr8 HQ
        go_wp2_with fail
        go_ret2
        rw [HE.out]
        exact ⟨_, _, rfl, hcv, HR8.out, HB.out⟩
end Go.Proofs.YtidjbiopneoeeaaGreat
