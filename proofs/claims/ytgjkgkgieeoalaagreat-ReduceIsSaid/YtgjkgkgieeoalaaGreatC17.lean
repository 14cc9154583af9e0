/- Parts of the proof, joined: each theorem says what it shows. -/
import Derived.Test.YtgjkgkgieeoalaaGreatC16
import Derived.Test.YtgjkgkgieeoalaaGreatC13
import Derived.Test.YtgjkgkgieeoalaaGreatC15
set_option linter.unusedVariables false
set_option linter.unusedSimpArgs false
set_option maxHeartbeats 24000000
set_option maxRecDepth 100000
namespace Go.Proofs.YtgjkgkgieeoalaaGreat
open Go.RowKit
def mulD (r s : RatD) : Int × RatD :=
 if (ratMay r && ratMay s) = false then (1, zeroD)
 else if isBig [limbs (val r.num * val s.num), limbs (val r.den * val s.den)] then (21, zeroD)
 else makeD (r.neg != s.neg) (limbs (val r.num * val s.num)) (limbs (val r.den * val s.den))
theorem ratio_Mul (b0 : Nat) (v u : Value) (r s : RatD) (w : World) (hb0 : b0 ≤ w.heap.size) (h : RRat w b0 v r) (h' : RRat w b0 u s) (hr : r.short) (hs : s.short) :
    Calls Tryz.prog 96 #[v, u] w fun e w' => ∃ x, e = .returned (.tuple #[x, .int .i64 (mulD r s).1]) ∧ RRat w' b0 x (mulD r s).2 ∧ Below w.heap.size w w' := by
 obtain ⟨E, hE⟩ : ∃ E, mulD r s = E := ⟨_, rfl⟩
 rw [hE]
 have HEQ := Hd.mk hE
 clear hE
 have M1 := Hd.mk (fun W hW => ratio_May b0 v r W hW hr)
 have M2 := Hd.mk (fun W hW => ratio_May b0 u s W hW hs)
 have HR := Hd.mk h
 have HS := Hd.mk h'
 have HB0 := Hd.mk hb0
 obtain ⟨A, c, B, d, rfl, h1, h2, h3, h4⟩ := h
 obtain ⟨A', c', B', d', rfl, h1', h2', h3', h4'⟩ := h'
 have C1 := Hd.mk (fun W (hb : Hd (Below w.heap.size w W)) => limb_Mul A A' c c' r.num s.num W (h3.rd.up hb.out) h1 (by have := hr.1; omega) (h3'.rd.up hb.out) h1' (by have := hs.1; omega) h3.u h3'.u)
 have C2 := Hd.mk (fun W (hb : Hd (Below w.heap.size w W)) => limb_Mul B B' d d' r.den s.den W (h4.rd.up hb.out) h2 (by have := hr.2; omega) (h4'.rd.up hb.out) h2' (by have := hs.2; omega) h4.u h4'.u)
 clear h3 h4 h3' h4' hb0 hr hs
 obtain ⟨X, hX⟩ : ∃ X, val r.num * val s.num = X := ⟨_, rfl⟩
 obtain ⟨D, hD⟩ : ∃ D, val r.den * val s.den = D := ⟨_, rfl⟩
 obtain ⟨nb, hnb⟩ : ∃ nb, (!(r.neg == s.neg)) = nb := ⟨_, rfl⟩
 rw [hX] at C1
 rw [hD] at C2
 have HE : Hd (mulD r s = if (ratMay r && ratMay s) = false then (1, zeroD) else if isBig [limbs X, limbs D] then (21, zeroD) else makeD nb (limbs X) (limbs D)) := ⟨by unfold mulD; rw [hX, hD, show (r.neg != s.neg) = nb from hnb]⟩
 clear hX hD
 go_enter Tryz.func96, Tryz.ntmps96
 go_upto_region 1 with (fail)
 refine wp_gen (fun W => Bx3 w.heap.size w.heap.size (w.heap.size + 1) (w.heap.size + 1 + 1) w W (.bool r.neg) (.slice A r.num.length c) (.slice B r.den.length d) (.bool s.neg) (.slice A' s.num.length c') (.slice B' s.den.length d') (.bool false) (.slice none 0 0) (.slice none 0 0)) (Bx3.mk3 w _ _ _ _ _ _ _ _ _) ?_
 intro W BX
 obtain ⟨S, hS0⟩ : ∃ S, w.heap.size = S := ⟨_, rfl⟩
 generalize w.heap.size + 1 + 1 = g3 at BX ⊢
 generalize w.heap.size + 1 = g2 at BX ⊢
 obtain ⟨p0, p1, p2⟩ := BX.out.k1.three
 obtain ⟨p3, p4, p5⟩ := BX.out.k2.three
 obtain ⟨p6, p7, p8⟩ := BX.out.k3.three
 have fz := fun i => BX.out.k3.froz i
 have ML := Hd.mk (M1.out W (HR.out.up BX.out.below))
 clear hS0
 cases hm1 : ratMay r
 ·rw [hm1] at ML HE
  go_wp2_with fail
  refine ML.out.mono ?_
  rintro e w2 ⟨rfl, hb⟩
  have BX2 := Hd.mk (BX.out.up hb)
  obtain ⟨p6, p7, p8⟩ := BX2.out.k3.three
  have fz := fun i => BX2.out.k3.froz i
  go_wp2_with fail
  obtain ⟨d1, d2, d3⟩ := BX2.out.done (.bool false) (.slice none 0 0) (.slice none 0 0)
  refine bodyPost_ret (res_rat2 rfl _ _ g3 #[.bool false, .slice none 0 0, .slice none 0 0] rfl d1 rfl) rfl ?_
  have h5 := HEQ.out.symm.trans HE.out
  simp only [Bool.false_and, if_pos] at h5
  subst h5
  exact ⟨_, rfl, RRat.zero _ _, d2⟩
 ·rw [hm1] at ML HE
  cases hm2 : ratMay s
  ·rw [hm2] at HE
   go_wp2_with fail
   refine ML.out.mono ?_
   rintro e w2 ⟨rfl, hb⟩
   have BX2 := Hd.mk (BX.out.up hb)
   have ML2 := Hd.mk (M2.out w2 (HS.out.up BX2.out.below))
   rw [hm2] at ML2
   obtain ⟨p3, p4, p5⟩ := BX2.out.k2.three
   clear hb
   go_wp2_with fail
   refine ML2.out.mono ?_
   rintro e w3 ⟨rfl, hb⟩
   have BX3 := Hd.mk (BX2.out.up hb)
   obtain ⟨p6, p7, p8⟩ := BX3.out.k3.three
   have fz := fun i => BX3.out.k3.froz i
   go_wp2_with fail
   obtain ⟨d1, d2, d3⟩ := BX3.out.done (.bool false) (.slice none 0 0) (.slice none 0 0)
   refine bodyPost_ret (res_rat2 rfl _ _ g3 #[.bool false, .slice none 0 0, .slice none 0 0] rfl d1 rfl) rfl ?_
   have h5 := HEQ.out.symm.trans HE.out
   simp only [Bool.and_false, if_pos] at h5
   subst h5
   exact ⟨_, rfl, RRat.zero _ _, d2⟩
  ·rw [hm2] at HE
   clear hm1
   go_wp2_with fail
   refine ML.out.mono ?_
   rintro e w2 ⟨rfl, hb⟩
   have BX2 := Hd.mk (BX.out.up hb)
   have ML2 := Hd.mk (M2.out w2 (HS.out.up BX2.out.below))
   rw [hm2] at ML2
   obtain ⟨p3, p4, p5⟩ := BX2.out.k2.three
   clear hb hm2 p0 p1 p2 p6 p7 p8
   go_wp2_with fail
   refine ML2.out.mono ?_
   rintro e w3 ⟨rfl, hb⟩
   have BX3 := Hd.mk (BX2.out.up hb)
   obtain ⟨p0, p1, p2⟩ := BX3.out.k1.three
   obtain ⟨p3, p4, p5⟩ := BX3.out.k2.three
   clear hb ML ML2 M1 M2 BX BX2
   go_wp2_with fail
   go_region_held3 (fun w' => Hd (Bx3 w.heap.size w.heap.size g2 g3 w w' (.bool r.neg) (.slice A r.num.length c) (.slice B r.den.length d) (.bool s.neg) (.slice A' s.num.length c') (.slice B' s.den.length d') (.bool false) (.slice none 0 0) (.slice none 0 0)) ∧
       w'.cell? ⟨w.heap.size, 1, none⟩ = some (.slice A r.num.length c) ∧ w'.cell? ⟨w.heap.size, 2, none⟩ = some (.slice B r.den.length d) ∧
       w'.cell? ⟨g2, 1, none⟩ = some (.slice A' s.num.length c') ∧ w'.cell? ⟨g2, 2, none⟩ = some (.slice B' s.den.length d'))
    (first
     | exact hS
     | exact ⟨BX3, p1, p2, p4, p5⟩
     | exact ⟨⟨BX3.out.dn 1⟩, p1, p2, p4, p5⟩)
    (first
     | (go_at_call 171; obtain ⟨hB, q1, q2, q3, q4⟩ := ‹Hd (Bx3 w.heap.size w.heap.size g2 g3 w _ _ _ _ _ _ _ _ _ _) ∧ _›; with_reducible refine (C1.out _ ⟨hB.out.below⟩).mono ?_; rintro e w4 ⟨x, rfl, ho, hb⟩
        obtain ⟨Ax, cx, rfl, hcx, _, _⟩ := ho.reads
        have hS := And.intro (Hd.mk (hB.out.up hb)) (And.intro (cell_up q1 hb) (And.intro (cell_up q2 hb) (And.intro (cell_up q3 hb) (cell_up q4 hb))))
        have HX := Hd.mk ho; clear ho)
     | (go_at_call 171; obtain ⟨hB, q1, q2, q3, q4⟩ := ‹Hd (Bx3 w.heap.size w.heap.size g2 g3 w _ _ _ _ _ _ _ _ _ _) ∧ _›; with_reducible refine (C2.out _ ⟨hB.out.below⟩).mono ?_; rintro e w5 ⟨y, rfl, ho, hb⟩
        obtain ⟨Ad, cd, rfl, hcd, _, _⟩ := ho.reads
        have hS := And.intro (Hd.mk (hB.out.up hb)) (And.intro (cell_up q1 hb) (And.intro (cell_up q2 hb) (And.intro (cell_up q3 hb) (cell_up q4 hb))))
        have HX2 := Hd.mk (HX.out.below hb)
        have HY := Hd.mk ho
        clear ho))
   have BX5 := hS.1
   clear hS
   obtain ⟨p0, p1, p2⟩ := BX5.out.k1.three
   obtain ⟨p3, p4, p5⟩ := BX5.out.k2.three
   have hbb : Hd (Below w5.heap.size w5 (w5.alloc (Obj.cells #[.slice Ax (limbs X).length cx, .slice Ad (limbs D).length cd] 61))) := ⟨(Below.refl _ _).alloc (Nat.le_refl _) _⟩
   have RW : Hd (RdRows (w5.alloc (Obj.cells #[.slice Ax (limbs X).length cx, .slice Ad (limbs D).length cd] 61)) (some ⟨w5.heap.size, 0, none⟩) [limbs X, limbs D]) := ⟨by
    refine rows_new (cs := [.slice Ax (limbs X).length cx, .slice Ad (limbs D).length cd]) (fun j r hj => ?_) rfl
    match j, hj with
    | 0, hj => injection hj with hj; subst hj; obtain ⟨_, _, e, _, _, hr⟩ := HX2.out.reads; injection e with e1 e2 e3; subst e1; exact ⟨_, _, rfl, hcx, hr⟩
    | 1, hj => injection hj with hj; subst hj; obtain ⟨_, _, e, _, _, hr⟩ := HY.out.reads; injection e with e1 e2 e3; subst e1; exact ⟨_, _, rfl, hcd, hr⟩
    | n + 2, hj => cases hj⟩
   have CB := Hd.mk (ratio_big (some ⟨w5.heap.size, 0, none⟩) 2 [limbs X, limbs D] _ RW.out (Nat.le_refl _) (by simp))
   have BX7 := Hd.mk (BX5.out.up hbb.out)
   cases hbig : isBig [limbs X, limbs D]
   ·rw [hbig] at CB HE
    have L1 := isBig_not hbig (r := limbs X) (by simp)
    have L2 := isBig_not hbig (r := limbs D) (by simp)
    have CMk := Hd.mk (ratio_Make b0 nb Ax Ad cx cd (limbs X) (limbs D) _ (Nat.le_trans (Nat.le_trans HB0.out BX5.out.below.size) hbb.out.size) (by obtain ⟨_, _, e, _, _, hr⟩ := (HX2.out.below hbb.out).reads; injection e with e1 e2 e3; subst e1; exact hr) hcx (by obtain ⟨_, _, e, _, _, hr⟩ := (HY.out.below hbb.out).reads; injection e with e1 e2 e3; subst e1; exact hr) hcd (limbs_u64 _) (limbs_u64 _) (by omega) (by omega))
    have HE2 : Hd (makeD nb (limbs X) (limbs D) = E) := ⟨by have := HEQ.out; rw [HE.out] at this; simpa using this⟩
    rw [HE2.out] at CMk
    obtain ⟨p0, p1, p2⟩ := BX7.out.k1.three
    obtain ⟨p3, p4, p5⟩ := BX7.out.k2.three
    clear hbig L1 L2
    go_wp2_with fail
    refine CB.out.mono ?_
    rintro e w7 ⟨rfl, rfl⟩
    go_wp2_with fail
    with_reducible refine CMk.out.mono ?_
    rintro e w8 ⟨v, rfl, hr, hb⟩
    have BX8 := Hd.mk (BX7.out.up hb)
    obtain ⟨p6, p7, p8⟩ := BX8.out.k3.three
    have fz := fun i => BX8.out.k3.froz i
    have HR8 := Hd.mk hr
    obtain ⟨A9, c9, B9, d9, rfl, _, _, _, _⟩ := hr
    clear hb
    go_wp2_with fail
    obtain ⟨d1, d2, d3⟩ := BX8.out.done (.bool E.2.neg) (.slice A9 E.2.num.length c9) (.slice B9 E.2.den.length d9)
    refine bodyPost_ret (res_rat2 rfl _ _ g3 #[.bool E.2.neg, .slice A9 E.2.num.length c9, .slice B9 E.2.den.length d9] rfl d1 rfl) rfl ?_
    exact ⟨_, rfl, d3 _ _ _ HB0.out HR8.out, d2⟩
   ·rw [hbig] at CB HE
    obtain ⟨p6, p7, p8⟩ := BX7.out.k3.three
    have fz := fun i => BX7.out.k3.froz i
    clear hbig
    go_wp2_with fail
    refine CB.out.mono ?_
    rintro e w7 ⟨rfl, rfl⟩
    go_wp2_with fail
    obtain ⟨d1, d2, d3⟩ := BX7.out.done (.bool false) (.slice none 0 0) (.slice none 0 0)
    refine bodyPost_ret (res_rat2 rfl _ _ g3 #[.bool false, .slice none 0 0, .slice none 0 0] rfl d1 rfl) rfl ?_
    have h5 := HEQ.out.symm.trans HE.out
    simp at h5
    subst h5
    exact ⟨_, rfl, RRat.zero _ _, d2⟩
structure Bx2 (S g1 g2 : Nat) (w0 w : World) (t1 : TypeId) (c1 : Array Value) (c0 c2 c3 : Value) : Prop where
 below : Below S w0 w
 s1 : S ≤ g1
 s2 : S ≤ g2
 n12 : g1 ≠ g2
 k1 : Bk w g1 t1 c1
 k2 : Bk w g2 64 #[c0, c2, c3]
section
variable {S g1 g2 : Nat} {w0 w w' : World} {t1 : TypeId} {c1 : Array Value} {c0 c2 c3 : Value}
theorem Bx2.up (h : Bx2 S g1 g2 w0 w t1 c1 c0 c2 c3) (hb : Below w.heap.size w w') : Bx2 S g1 g2 w0 w' t1 c1 c0 c2 c3 :=
 ⟨h.below.trans (hb.mono (Nat.le_trans h.s1 (Nat.le_of_lt h.k1.lt))), h.s1, h.s2, h.n12, h.k1.up hb, h.k2.up hb⟩
theorem Bx2.dn (h : Bx2 S g1 g2 w0 w t1 c1 c0 c2 c3) (n : Nat) : Bx2 S g1 g2 w0 (w.drewN n) t1 c1 c0 c2 c3 := ⟨Below.dn h.below n, h.s1, h.s2, h.n12, h.k1, h.k2⟩
theorem Bx2.mk2 (w : World) (t1 : TypeId) (c1 : Array Value) (c0 c2 c3 : Value) : Bx2 w.heap.size w.heap.size (w.heap.size + 1) w ((w.alloc (Obj.cells c1 t1)).alloc (Obj.cells #[c0, c2, c3] 64)) t1 c1 c0 c2 c3 := by
 refine ⟨((Below.refl _ _).alloc (Nat.le_refl _) _).alloc (by simp) _, Nat.le_refl _, by omega, by omega, (Bk.new_ _ _ _).al _, ?_⟩
 have := Bk.new_ (w.alloc (Obj.cells c1 t1)) 64 #[c0, c2, c3]
 simpa using this
theorem Bx2.done (h : Bx2 S g1 g2 w0 w t1 c1 c0 c2 c3) (x y z : Value) : Bk (((w.setCell ⟨g2, 0, none⟩ x).setCell ⟨g2, 1, none⟩ y).setCell ⟨g2, 2, none⟩ z) g2 64 #[x, y, z] ∧
    Below S w0 (((w.setCell ⟨g2, 0, none⟩ x).setCell ⟨g2, 1, none⟩ y).setCell ⟨g2, 2, none⟩ z) ∧ (∀ b r v, b ≤ S → RRat w b v r → RRat (((w.setCell ⟨g2, 0, none⟩ x).setCell ⟨g2, 1, none⟩ y).setCell ⟨g2, 2, none⟩ z) b v r) ∧
    ∀ i, (((w.setCell ⟨g2, 0, none⟩ x).setCell ⟨g2, 1, none⟩ y).setCell ⟨g2, 2, none⟩ z).cell? ⟨g1, i, none⟩ = w.cell? ⟨g1, i, none⟩ :=
 ⟨h.k2.set3 x y z, ((h.below.setCell h.s2 _).setCell h.s2 _).setCell h.s2 _, fun b r v hb hr => hr.grown (((set_grown w ⟨g2, 0, none⟩ x).set _ _).set _ _) (fun g e => by
  injection e with e; subst e; exact ⟨Nat.le_trans hb h.s2, _, _, h.k2, by decide⟩),
  fun i => (far1 rfl h.n12.symm).trans ((far1 rfl h.n12.symm).trans (far1 rfl h.n12.symm))⟩
end
def invD (r : RatD) : Int × RatD := if ratMay r = false then (1, zeroD) else if r.num.length = 0 then (30, zeroD) else (0, ⟨r.neg, r.den, r.num⟩)
theorem ratio_Inv (b0 : Nat) (v : Value) (r : RatD) (w : World) (hb0 : b0 ≤ w.heap.size) (h : RRat w b0 v r) (hr : r.short) :
    Calls Tryz.prog 95 #[v] w fun e w' => ∃ x, e = .returned (.tuple #[x, .int .i64 (invD r).1]) ∧ RRat w' b0 x (invD r).2 ∧ Below w.heap.size w w' := by
 obtain ⟨E, hE⟩ : ∃ E, invD r = E := ⟨_, rfl⟩
 rw [hE]
 have HEQ := Hd.mk hE
 clear hE
 have M1 := Hd.mk (fun W hW => ratio_May b0 v r W hW hr)
 have Z1 := Hd.mk (fun W hW => ratio_Zero b0 v r W hW)
 have HR := Hd.mk h
 have HB0 := Hd.mk hb0
 obtain ⟨A, c, B, d, rfl, h1, h2, h3, h4⟩ := h
 have C1 := Hd.mk (fun W (hb : Hd (Below w.heap.size w W)) => clone_nat B d r.den W (h4.rd.up hb.out) h2 (by have := hr.2; omega))
 have C2 := Hd.mk (fun W (hb : Hd (Below w.heap.size w W)) => clone_nat A c r.num W (h3.rd.up hb.out) h1 (by have := hr.1; omega))
 have UU := Hd.mk (And.intro h3.u h4.u)
 clear h3 h4 hb0 hr
 have HE : Hd (invD r = if ratMay r = false then (1, zeroD) else if r.num.length = 0 then (30, zeroD) else (0, ⟨r.neg, r.den, r.num⟩)) := ⟨rfl⟩
 go_enter Tryz.func95, Tryz.ntmps95
 go_upto_region 1 with (fail)
 refine wp_gen (fun W => Bx2 w.heap.size w.heap.size (w.heap.size + 1) w W 64 #[.bool r.neg, .slice A r.num.length c, .slice B r.den.length d] (.bool false) (.slice none 0 0) (.slice none 0 0)) (Bx2.mk2 w _ _ _ _ _) ?_
 intro W BX
 generalize w.heap.size + 1 = g2 at BX ⊢
 obtain ⟨p0, p1, p2⟩ := BX.out.k1.three
 have ML := Hd.mk (M1.out W (HR.out.up BX.out.below))
 cases hm1 : ratMay r
 ·rw [hm1] at ML HE
  go_wp2_with fail
  refine ML.out.mono ?_
  rintro e w2 ⟨rfl, hb⟩
  have BX2 := Hd.mk (BX.out.up hb)
  obtain ⟨p6, p7, p8⟩ := BX2.out.k2.three
  have fz := fun i => BX2.out.k2.froz i
  go_wp2_with fail
  obtain ⟨d1, d2, d3, _⟩ := BX2.out.done (.bool false) (.slice none 0 0) (.slice none 0 0)
  refine bodyPost_ret (res_rat2 rfl _ _ g2 #[.bool false, .slice none 0 0, .slice none 0 0] rfl d1 rfl) rfl ?_
  have h5 := HEQ.out.symm.trans HE.out
  simp only [if_pos] at h5
  subst h5
  exact ⟨_, rfl, RRat.zero _ _, d2⟩
 ·rw [hm1] at ML HE
  by_cases hz : r.num.length = 0
  ·rw [if_pos hz] at HE
   rw [decide_eq_true hz] at Z1
   clear hz hm1
   go_wp2_with fail
   refine ML.out.mono ?_
   rintro e w2 ⟨rfl, hb⟩
   have BX2 := Hd.mk (BX.out.up hb)
   have ZL := Hd.mk (Z1.out w2 (HR.out.up BX2.out.below))
   obtain ⟨p0, p1, p2⟩ := BX2.out.k1.three
   clear hb
   go_wp2_with fail
   refine ZL.out.mono ?_
   rintro e w3 ⟨rfl, hb⟩
   have BX3 := Hd.mk (BX2.out.up hb)
   obtain ⟨p6, p7, p8⟩ := BX3.out.k2.three
   have fz := fun i => BX3.out.k2.froz i
   go_wp2_with fail
   obtain ⟨d1, d2, d3, _⟩ := BX3.out.done (.bool false) (.slice none 0 0) (.slice none 0 0)
   refine bodyPost_ret (res_rat2 rfl _ _ g2 #[.bool false, .slice none 0 0, .slice none 0 0] rfl d1 rfl) rfl ?_
   have h5 := HEQ.out.symm.trans HE.out
   simp at h5
   subst h5
   exact ⟨_, rfl, RRat.zero _ _, d2⟩
  ·rw [if_neg hz] at HE
   rw [decide_eq_false hz] at Z1
   clear hz hm1
   go_wp2_with fail
   refine ML.out.mono ?_
   rintro e w2 ⟨rfl, hb⟩
   have BX2 := Hd.mk (BX.out.up hb)
   have ZL := Hd.mk (Z1.out w2 (HR.out.up BX2.out.below))
   obtain ⟨p0, p1, p2⟩ := BX2.out.k1.three
   clear hb
   go_wp2_with fail
   refine ZL.out.mono ?_
   rintro e w3 ⟨rfl, hb⟩
   have BX3 := Hd.mk (BX2.out.up hb)
   obtain ⟨p0, p1, p2⟩ := BX3.out.k1.three
   have n12 := BX3.out.n12
   clear hb ML ZL M1 Z1 BX BX2
   go_wp2_with fail
   go_region_held3 (fun w' => Hd (Below w.heap.size w w') ∧ w'.cell? ⟨w.heap.size, 0, none⟩ = some (.bool r.neg) ∧ w'.cell? ⟨w.heap.size, 1, none⟩ = some (.slice A r.num.length c) ∧ w'.cell? ⟨w.heap.size, 2, none⟩ = some (.slice B r.den.length d))
    (first
     | exact hS
     | exact ⟨⟨BX3.out.below⟩, p0, p1, p2⟩
     | exact ⟨⟨(BX3.out.dn 1).below⟩, p0, p1, p2⟩
     | exact ⟨⟨(BXn.out.done _ _ _).2.1⟩, ((BXn.out.done _ _ _).2.2.2 0).trans hS.2.1, ((BXn.out.done _ _ _).2.2.2 1).trans hS.2.2.1, ((BXn.out.done _ _ _).2.2.2 2).trans hS.2.2.2⟩)
    (first
     | (go_at_call 170; obtain ⟨hB, q1, q2, q3⟩ := ‹Hd (Below w.heap.size w _) ∧ _›; with_reducible refine (C1.out _ hB).mono ?_; rintro e w4 ⟨x, rfl, ho, hb⟩
        obtain ⟨Ax, cx, rfl, hcx, _, _⟩ := ho.reads
        have BXm := Hd.mk ((BX3.out.dn 1).up hb)
        have hS := And.intro (Hd.mk BXm.out.below) (And.intro (cell_up q1 hb) (And.intro (cell_up q2 hb) (cell_up q3 hb)))
        have HX := Hd.mk ho; clear ho)
     | (go_at_call 170; obtain ⟨hB, q1, q2, q3⟩ := ‹Hd (Below w.heap.size w _) ∧ _›; with_reducible refine (C2.out _ hB).mono ?_; rintro e w5 ⟨y, rfl, ho, hb⟩
        obtain ⟨Ay, cy, rfl, hcy, _, _⟩ := ho.reads
        have BXn := Hd.mk (BXm.out.up hb)
        have hS := And.intro (Hd.mk BXn.out.below) (And.intro (cell_up q1 hb) (And.intro (cell_up q2 hb) (cell_up q3 hb)))
        obtain ⟨p6, p7, p8⟩ := BXn.out.k2.three
        have fz := fun i => BXn.out.k2.froz i
        have HX2 := Hd.mk (HX.out.below hb)
        have HY := Hd.mk ho
        clear ho))
   go_wp2_with fail
   obtain ⟨d1, d2, d3, _⟩ := BXn.out.done (.bool r.neg) (.slice Ax r.den.length cx) (.slice Ay r.num.length cy)
   refine bodyPost_ret (res_rat2 rfl _ _ g2 #[.bool r.neg, .slice Ax r.den.length cx, .slice Ay r.num.length cy] rfl d1 rfl) rfl ?_
   have h5 := HEQ.out.symm.trans HE.out
   simp at h5
   subst h5
   exact ⟨_, rfl, d3 b0 _ _ HB0.out ⟨Ax, cx, Ay, cy, rfl, hcx, hcy, (RRow.of_own HX2.out UU.out.2 b0).1, (RRow.of_own HY.out UU.out.1 b0).1⟩, d2⟩
def ofD (n : Int) : RatD := ⟨decide (n < 0), limbs n.natAbs, [1]⟩
end Go.Proofs.YtgjkgkgieeoalaaGreat
namespace Go.Proofs.YtgjkgkgieeoalaaGreat
def sg (neg : Bool) (n : Nat) : Int := if neg then -(n : Int) else n
def ofQ (x : Rat) : RatD := ⟨decide (x.num < 0), limbs x.num.natAbs, limbs x.den⟩
def qv (r : RatD) : Rat := mkRat (sg r.neg (val r.num)) (val r.den)
structure GoodR (r : RatD) : Prop where
 may : ratMay r = true
 un : U64 r.num
 ud : U64 r.den
def fitQ (x : Rat) : Prop := (limbs x.num.natAbs).length ≤ 8 ∧ (limbs x.den).length ≤ 8
theorem sg_abs (b : Bool) (n : Nat) : (sg b n).natAbs = n := by unfold sg; cases b <;> simp
theorem sg_mul (a b : Bool) (m n : Nat) : sg a m * sg b n = sg (a != b) (m * n) := by
 unfold sg; cases a <;> cases b <;> simp [Int.neg_mul, Int.mul_neg]
theorem sg_of (x : Int) : sg (decide (x < 0)) x.natAbs = x := by
 unfold sg
 by_cases h : x < 0
 ·rw [decide_eq_true h]; simp; omega
 ·rw [decide_eq_false h]; simp; omega
theorem qv_ofQ (x : Rat) : qv (ofQ x) = x := by
 unfold qv ofQ
 simp only [val_limbs]
 rw [sg_of, Rat.mkRat_self]
theorem mk_num (b : Bool) (n d : Nat) (hd : d ≠ 0) : (mkRat (sg b n) d).num = sg b (n / Nat.gcd n d) := by
 rw [Rat.num_mkRat, if_neg hd, sg_abs, Nat.gcd_comm d n]
 unfold sg
 cases b
 ·simp
 ·simp only [if_true]
  rw [Int.neg_ediv_of_dvd (Int.natCast_dvd_natCast.2 (Nat.gcd_dvd_left n d))]
  simp
theorem mk_den (b : Bool) (n d : Nat) (hd : d ≠ 0) : (mkRat (sg b n) d).den = d / Nat.gcd n d := by
 rw [Rat.den_mkRat, if_neg hd, sg_abs, Nat.gcd_comm d n]
theorem sg_neg (b : Bool) (n : Nat) : decide (sg b n < 0) = (b && decide (n ≠ 0)) := by
 unfold sg
 cases b
 ·simp
 ·simp only [if_true, Bool.true_and, decide_eq_decide]; omega
theorem limbs_le {m n : Nat} (h : m ≤ n) (hn : (limbs n).length ≤ 8) : (limbs m).length ≤ 8 := limbs_len.2 (Nat.lt_of_le_of_lt h (limbs_len.1 hn))
theorem ofQ_mk (b : Bool) (n d : Nat) (hd : d ≠ 0) : ofQ (mkRat (sg b n) d) = ⟨b && decide (n / Nat.gcd n d ≠ 0), limbs (n / Nat.gcd n d), limbs (d / Nat.gcd n d)⟩ := by
 unfold ofQ
 rw [mk_num b n d hd, mk_den b n d hd, sg_neg, sg_abs]
theorem fitQ_mk {b : Bool} {n d : Nat} (hd : d ≠ 0) (h1 : (limbs n).length ≤ 8) (h2 : (limbs d).length ≤ 8) : fitQ (mkRat (sg b n) d) := by
 unfold fitQ
 rw [mk_num b n d hd, mk_den b n d hd, sg_abs]
 exact ⟨limbs_le (Nat.div_le_self _ _) h1, limbs_le (Nat.div_le_self _ _) h2⟩
theorem makeD_q (b : Bool) (n d : Nat) (hd : d ≠ 0) (h1 : (limbs n).length ≤ 8) (h2 : (limbs d).length ≤ 8) : makeD b (limbs n) (limbs d) = (0, ofQ (mkRat (sg b n) d)) := by
 unfold makeD
 have h3 : (limbs d).length ≠ 0 := fun h => hd (limbs_nil.1 (List.eq_nil_of_length_eq_zero h))
 rw [limbs_may h1, limbs_may h2, if_neg (by simp), if_neg h3]
 simp only [val_limbs]
 rw [ofQ_mk b n d hd]
theorem GoodR.den {r : RatD} (h : GoodR r) : val r.den ≠ 0 := by
 obtain ⟨_, h2, h3, _, _⟩ := ratMay_of h.may
 have := natMay_posN h2 h.ud h3
 omega
theorem GoodR.nums {r : RatD} (h : GoodR r) : limbs (val r.num) = r.num ∧ limbs (val r.den) = r.den ∧ Nat.gcd (val r.num) (val r.den) = 1 := by
 obtain ⟨h1, h2, _, h4, _⟩ := ratMay_of h.may
 exact ⟨natMay_limbs h1 h.un, natMay_limbs h2 h.ud, h4⟩
theorem GoodR.zero_iff {r : RatD} (h : GoodR r) : r.num.length = 0 ↔ val r.num = 0 := by
 constructor
 ·intro h0
  rw [List.eq_nil_of_length_eq_zero h0]; rfl
 ·intro h0
  rw [← h.nums.1, h0]; exact congrArg List.length limbs_zero
theorem GoodR.eq {r : RatD} (h : GoodR r) : r = ofQ (qv r) := by
 obtain ⟨h1, h2, h3⟩ := h.nums
 obtain ⟨_, _, _, _, h5⟩ := ratMay_of h.may
 have hz := h.zero_iff
 unfold qv
 rw [ofQ_mk _ _ _ h.den, h3, Nat.div_one, Nat.div_one, h1, h2]
 cases hn : r.neg
 ·cases r; simp at hn; simp [hn]
 ·have := h5 hn
  have h6 : val r.num ≠ 0 := fun e => this (hz.2 e)
  cases r; simp at hn h6; simp [hn, h6]
theorem GoodR.fit {r : RatD} (h : GoodR r) : fitQ (qv r) := by
 obtain ⟨h1, h2, _⟩ := h.nums
 obtain ⟨m1, m2, _⟩ := ratMay_of h.may
 exact fitQ_mk h.den (by rw [h1]; exact natMay_len m1) (by rw [h2]; exact natMay_len m2)
theorem GoodR.inj {r s : RatD} (h : GoodR r) (h' : GoodR s) (e : qv r = qv s) : r = s := by rw [h.eq, h'.eq, e]
theorem ofQ_good {x : Rat} (h : fitQ x) : GoodR (ofQ x) := by
 refine ⟨?_, limbs_u64 _, limbs_u64 _⟩
 unfold ratMay ofQ
 have h3 : 0 < (limbs x.den).length := by
  rcases Nat.eq_zero_or_pos (limbs x.den).length with h0 | h0
  ·exact absurd (limbs_nil.1 (List.eq_nil_of_length_eq_zero h0)) x.den_nz
  ·exact h0
 simp only [val_limbs]
 have hr : Nat.gcd x.num.natAbs x.den = 1 := x.reduced
 rw [limbs_may h.1, limbs_may h.2, decide_eq_true h3, decide_eq_true hr]
 simp only [Bool.true_and, Bool.or_eq_true, Bool.not_eq_true', decide_eq_false_iff_not]
 by_cases hn : x.num < 0
 ·right
  intro h0
  have := limbs_nil.1 (List.eq_nil_of_length_eq_zero h0)
  omega
 ·left
  exact hn
theorem GoodR.nil_iff {r : RatD} (h : GoodR r) : r.num.length = 0 ↔ qv r = 0 := by
 rw [h.zero_iff]
 unfold qv
 rw [Rat.mkRat_eq_zero h.den]
 constructor
 ·intro h0; rw [h0]; unfold sg; cases r.neg <;> rfl
 ·intro h0; rw [← sg_abs r.neg (val r.num), h0]; rfl
theorem isBig_no {rs : List (List Int)} (h : ∀ r ∈ rs, r.length ≤ 8) : isBig rs = false := by
 unfold isBig
 rw [List.any_eq_false]
 intro r hr
 have := h r hr
 simp; omega
theorem sg_plus (a : Bool) (m : Nat) (b : Bool) (n : Nat) : sg (plusD a m b n).1 (plusD a m b n).2 = sg a m + sg b n := by
 unfold plusD
 cases a <;> cases b <;> (simp [sg]; try (split <;> simp <;> omega))
 all_goals omega
theorem addD_q {r s : RatD} (hr : GoodR r) (hs : GoodR s) : addD r s = (21, zeroD) ∨ (addD r s = (0, ofQ (qv r + qv s)) ∧ fitQ (qv r + qv s)) := by
 unfold addD
 rw [hr.may, hs.may, if_neg (by simp)]
 split
 ·left; rfl
 ·right
  rename_i h
  rw [Bool.not_eq_true] at h
  have l1 := isBig_not h (r := limbs (plusD r.neg (val r.num * val s.den) s.neg (val s.num * val r.den)).2) (by simp)
  have l2 := isBig_not h (r := limbs (val r.den * val s.den)) (by simp)
  have hd : val r.den * val s.den ≠ 0 := Nat.mul_ne_zero hr.den hs.den
  have he : mkRat (sg (plusD r.neg (val r.num * val s.den) s.neg (val s.num * val r.den)).1 (plusD r.neg (val r.num * val s.den) s.neg (val s.num * val r.den)).2) (val r.den * val s.den) = qv r + qv s := by
   rw [sg_plus]
   unfold qv
   rw [Rat.mkRat_add_mkRat _ _ hr.den hs.den]
   congr 1
   have a1 : sg r.neg (val r.num * val s.den) = sg r.neg (val r.num) * (val s.den : Int) := by unfold sg; cases r.neg <;> simp [Int.neg_mul]
   have a2 : sg s.neg (val s.num * val r.den) = sg s.neg (val s.num) * (val r.den : Int) := by unfold sg; cases s.neg <;> simp [Int.neg_mul]
   rw [a1, a2]
  rw [makeD_q _ _ _ hd l1 l2, he]
  refine ⟨rfl, ?_⟩
  rw [← he]
  exact fitQ_mk hd l1 l2
theorem mulD_q {r s : RatD} (hr : GoodR r) (hs : GoodR s) : mulD r s = (21, zeroD) ∨ (mulD r s = (0, ofQ (qv r * qv s)) ∧ fitQ (qv r * qv s)) := by
 unfold mulD
 rw [hr.may, hs.may, if_neg (by simp)]
 split
 ·left; rfl
 ·right
  rename_i h
  rw [Bool.not_eq_true] at h
  have l1 := isBig_not h (r := limbs (val r.num * val s.num)) (by simp)
  have l2 := isBig_not h (r := limbs (val r.den * val s.den)) (by simp)
  have hd : val r.den * val s.den ≠ 0 := Nat.mul_ne_zero hr.den hs.den
  have he : mkRat (sg (r.neg != s.neg) (val r.num * val s.num)) (val r.den * val s.den) = qv r * qv s := by
   unfold qv
   rw [Rat.mkRat_mul_mkRat, sg_mul]
  rw [makeD_q _ _ _ hd l1 l2, he]
  refine ⟨rfl, ?_⟩
  rw [← he]
  exact fitQ_mk hd l1 l2
theorem qv_num {r : RatD} (h : GoodR r) : (qv r).num = sg r.neg (val r.num) ∧ (qv r).den = val r.den := by
 unfold qv
 rw [mk_num _ _ _ h.den, mk_den _ _ _ h.den, h.nums.2.2, Nat.div_one, Nat.div_one]
 exact ⟨rfl, rfl⟩
theorem invD_q {r : RatD} (hr : GoodR r) (h0 : r.num.length ≠ 0) : invD r = (0, ofQ (qv r)⁻¹) ∧ fitQ (qv r)⁻¹ := by
 have hn : val r.num ≠ 0 := fun e => h0 (hr.zero_iff.2 e)
 obtain ⟨e1, e2⟩ := qv_num hr
 obtain ⟨h1, h2, h3⟩ := hr.nums
 obtain ⟨m1, m2, _⟩ := ratMay_of hr.may
 have hs : (sg r.neg (val r.num)).sign * ((val r.den : Nat) : Int) = sg r.neg (val r.den) := by
  unfold sg
  cases r.neg
  ·simp only [Bool.false_eq_true, if_false]
   rw [Int.sign_eq_one_of_pos (by omega), Int.one_mul]
  ·simp only [if_true]
   rw [Int.sign_eq_neg_one_of_neg (by omega), Int.neg_one_mul]
 have e3 : ((qv r)⁻¹).num = sg r.neg (val r.den) := by rw [Rat.num_inv, e1, e2, hs]
 have e4 : ((qv r)⁻¹).den = val r.num := by
  rw [Rat.den_inv, e1, if_neg, sg_abs]
  intro h
  have := congrArg Int.natAbs h
  rw [sg_abs] at this
  exact hn this
 refine ⟨?_, ?_⟩
 ·unfold invD ofQ
  rw [hr.may, if_neg (by simp), if_neg h0, e3, e4, sg_neg, sg_abs, h1, h2, decide_eq_true hr.den, Bool.and_true]
 ·unfold fitQ
  rw [e3, e4, sg_abs, h1, h2]
  exact ⟨natMay_len m2, natMay_len m1⟩
def negD (r : RatD) : RatD := if r.num.length = 0 then r else ⟨!r.neg, r.num, r.den⟩
theorem negD_q {r : RatD} (h : GoodR r) : GoodR (negD r) ∧ qv (negD r) = -qv r := by
 unfold negD
 by_cases h0 : r.num.length = 0
 ·rw [if_pos h0]
  refine ⟨h, ?_⟩
  rw [h.nil_iff.1 h0, Rat.neg_zero]
 ·rw [if_neg h0]
  refine ⟨⟨?_, h.un, h.ud⟩, ?_⟩
  ·obtain ⟨h1, h2, h3, h4, h5⟩ := ratMay_of h.may
   unfold ratMay
   rw [h1, h2, decide_eq_true h3, decide_eq_true h4, decide_eq_false h0]
   simp
  ·unfold qv
   rw [Rat.neg_mkRat]
   congr 1
   unfold sg
   cases r.neg <;> simp
theorem limbs_1 : limbs 1 = [1] := limbs_of (l := [1]) (U64.nil.cons (by omega) (by omega)) (by decide)
theorem ofD_q (n : Int) : ofD n = ofQ (n : Rat) := by
 unfold ofD ofQ
 rw [Rat.num_intCast, Rat.den_intCast, limbs_1]
theorem qv_ofD (n : Int) : qv (ofD n) = (n : Rat) := by rw [ofD_q, qv_ofQ]
theorem fitQ_int {n : Int} (h : n.natAbs < 18446744073709551616 ^ 8) : fitQ (n : Rat) := by
 unfold fitQ
 rw [Rat.num_intCast, Rat.den_intCast, limbs_1]
 exact ⟨limbs_len.2 h, by decide⟩
theorem ofD_good {n : Int} (h : n.natAbs < 18446744073709551616 ^ 8) : GoodR (ofD n) := by rw [ofD_q]; exact ofQ_good (fitQ_int h)
theorem addD_int {a b : Int} (ha : a.natAbs < 4611686018427387904) (hb : b.natAbs < 4611686018427387904) : addD (ofD a) (ofD b) = (0, ofD (a + b)) := by
 have p8 : (18446744073709551616 : Nat) ^ 8 = 18446744073709551616 ^ 7 * 18446744073709551616 := Nat.pow_succ ..
 have p7 : 0 < (18446744073709551616 : Nat) ^ 7 := Nat.pow_pos (by omega)
 have big : ∀ n : Nat, n < 18446744073709551616 → n < 18446744073709551616 ^ 8 := fun n h => by rw [p8]; exact Nat.lt_of_lt_of_le h (Nat.le_mul_of_pos_left _ p7)
 have ga := ofD_good (n := a) (big _ (by omega))
 have gb := ofD_good (n := b) (big _ (by omega))
 rcases addD_q ga gb with h | ⟨h, _⟩
 ·exfalso
  have hbig : isBig [limbs (val (ofD a).num * val (ofD b).den), limbs (val (ofD b).num * val (ofD a).den), limbs (plusD (ofD a).neg (val (ofD a).num * val (ofD b).den) (ofD b).neg (val (ofD b).num * val (ofD a).den)).2, limbs (val (ofD a).den * val (ofD b).den)] = false := by
   apply isBig_no
   have e1 : val (ofD a).num = a.natAbs := val_limbs _
   have e2 : val (ofD b).num = b.natAbs := val_limbs _
   have e3 : val (ofD a).den = 1 := rfl
   have e4 : val (ofD b).den = 1 := rfl
   rw [e1, e2, e3, e4]
   intro r hr
   simp only [List.mem_cons, List.not_mem_nil, or_false] at hr
   rcases hr with rfl | rfl | rfl | rfl
   ·exact limbs_len.2 (big _ (by omega))
   ·exact limbs_len.2 (big _ (by omega))
   ·refine limbs_len.2 (big _ ?_)
    unfold plusD
    split
    ·show _ + _ < _; omega
    ·split
     ·show _ - _ < _; omega
     ·show _ - _ < _; omega
   ·exact limbs_len.2 (big _ (by omega))
  unfold addD at h
  rw [ga.may, gb.may, if_neg (by simp), hbig, if_neg (by simp)] at h
  have hz := congrArg Prod.fst h
  have l1 := isBig_not hbig (r := limbs (plusD (ofD a).neg (val (ofD a).num * val (ofD b).den) (ofD b).neg (val (ofD b).num * val (ofD a).den)).2) (by simp)
  have l2 := isBig_not hbig (r := limbs (val (ofD a).den * val (ofD b).den)) (by simp)
  rw [makeD_q _ _ _ (Nat.mul_ne_zero ga.den gb.den) l1 l2] at hz
  cases hz
 ·rw [h, qv_ofD, qv_ofD, ← Rat.intCast_add, ← ofD_q]
theorem mulD_int {a b : Int} (ha : a.natAbs < 4294967296) (hb : b.natAbs < 4294967296) : mulD (ofD a) (ofD b) = (0, ofD (a * b)) := by
 have p8 : (18446744073709551616 : Nat) ^ 8 = 18446744073709551616 ^ 7 * 18446744073709551616 := Nat.pow_succ ..
 have p7 : 0 < (18446744073709551616 : Nat) ^ 7 := Nat.pow_pos (by omega)
 have big : ∀ n : Nat, n < 18446744073709551616 → n < 18446744073709551616 ^ 8 := fun n h => by rw [p8]; exact Nat.lt_of_lt_of_le h (Nat.le_mul_of_pos_left _ p7)
 have ga := ofD_good (n := a) (big _ (by omega))
 have gb := ofD_good (n := b) (big _ (by omega))
 have hm : a.natAbs * b.natAbs < 18446744073709551616 := Nat.lt_of_le_of_lt (Nat.mul_le_mul (Nat.le_of_lt_succ (show a.natAbs < 4294967295 + 1 by omega)) (Nat.le_of_lt_succ (show b.natAbs < 4294967295 + 1 by omega))) (by decide)
 rcases mulD_q ga gb with h | ⟨h, _⟩
 ·exfalso
  have hbig : isBig [limbs (val (ofD a).num * val (ofD b).num), limbs (val (ofD a).den * val (ofD b).den)] = false := by
   apply isBig_no
   have e1 : val (ofD a).num = a.natAbs := val_limbs _
   have e2 : val (ofD b).num = b.natAbs := val_limbs _
   have e3 : val (ofD a).den = 1 := rfl
   have e4 : val (ofD b).den = 1 := rfl
   rw [e1, e2, e3, e4]
   intro r hr
   simp only [List.mem_cons, List.not_mem_nil, or_false] at hr
   rcases hr with rfl | rfl
   ·exact limbs_len.2 (big _ hm)
   ·exact limbs_len.2 (big _ (by omega))
  unfold mulD at h
  rw [ga.may, gb.may, if_neg (by simp), hbig, if_neg (by simp)] at h
  have hz := congrArg Prod.fst h
  have l1 := isBig_not hbig (r := limbs (val (ofD a).num * val (ofD b).num)) (by simp)
  have l2 := isBig_not hbig (r := limbs (val (ofD a).den * val (ofD b).den)) (by simp)
  rw [makeD_q _ _ _ (Nat.mul_ne_zero ga.den gb.den) l1 l2] at hz
  cases hz
 ·rw [h, qv_ofD, qv_ofD, ← Rat.intCast_mul, ← ofD_q]
end Go.Proofs.YtgjkgkgieeoalaaGreat
namespace Go.Proofs.YtgjkgkgieeoalaaGreat
open Go.RowKit
def sameR (r s : RatD) : Bool := (r.neg == s.neg) && decide (r.num = s.num) && decide (r.den = s.den)
theorem sameR_iff {r s : RatD} : sameR r s = true ↔ r = s := by
 unfold sameR
 simp only [Bool.and_eq_true, beq_iff_eq, decide_eq_true_eq]
 constructor
 ·rintro ⟨⟨h1, h2⟩, h3⟩
  cases r; cases s; simp_all
 ·rintro rfl; exact ⟨⟨rfl, rfl⟩, rfl⟩
theorem rrat_Same (b0 : Nat) (v u : Value) (r s : RatD) (w : World) (h : RRat w b0 v r) (h' : RRat w b0 u s) (hr : r.short) (hs : s.short) :
    Calls Tryz.prog 117 #[v, u] w fun e w' => e = .returned (.bool (sameR r s)) ∧ Below w.heap.size w w' := by
 obtain ⟨A, c, B, d, rfl, h1, h2, h3, h4⟩ := h
 obtain ⟨A', c', B', d', rfl, h1', h2', h3', h4'⟩ := h'
 obtain ⟨hr1, hr2⟩ := hr
 obtain ⟨hs1, hs2⟩ := hs
 have C1 := Hd.mk (fun W (hb : Hd (Below w.heap.size w W)) => rnat_Same A A' c c' r.num s.num W (h3.rd.up hb.out) h1 (h3'.rd.up hb.out) h1' (by omega) (by omega))
 have C2 := Hd.mk (fun W (hb : Hd (Below w.heap.size w W)) => rnat_Same B B' d d' r.den s.den W (h4.rd.up hb.out) h2 (h4'.rd.up hb.out) h2' (by omega) (by omega))
 have HE : Hd (sameR r s = ((r.neg == s.neg) && decide (r.num = s.num) && decide (r.den = s.den))) := ⟨rfl⟩
 obtain ⟨E, hE⟩ : ∃ E, sameR r s = E := ⟨_, rfl⟩
 rw [hE] at HE ⊢
 generalize decide (r.num = s.num) = b1 at C1 HE
 generalize decide (r.den = s.den) = b2 at C2 HE
 clear h3 h4 h3' h4' hE
 go_enter Tryz.func117, Tryz.ntmps117
 go_upto_region 1 with (fail)
 refine wp_gen (fun W => Bx2 w.heap.size w.heap.size (w.heap.size + 1) w W 64 #[.bool r.neg, .slice A r.num.length c, .slice B r.den.length d] (.bool s.neg) (.slice A' s.num.length c') (.slice B' s.den.length d')) (Bx2.mk2 w _ _ _ _ _) ?_
 intro W BX
 generalize w.heap.size + 1 = g2 at BX ⊢
 obtain ⟨p0, p1, p2⟩ := BX.out.k1.three
 obtain ⟨p3, p4, p5⟩ := BX.out.k2.three
 cases e0 : r.neg == s.neg
 ·have HF : Hd (E = false) := ⟨by rw [HE.out, e0]; rfl⟩
  go_wp2_with fail
  go_ret
  exact ⟨retBool HF.out.symm, BX.out.below⟩
 cases b1
 ·have HF : Hd (E = false) := ⟨by rw [HE.out, Bool.and_false]; rfl⟩
  go_wp2_with fail
  refine (C1.out _ ⟨BX.out.below⟩).mono ?_
  rintro e w2 ⟨rfl, hd⟩
  have BX2 := Hd.mk (BX.out.up hd.below)
  clear hd
  go_wp2_with fail
  go_ret
  exact ⟨retBool HF.out.symm, BX2.out.below⟩
 ·have HF : Hd (E = b2) := ⟨by rw [HE.out, e0]; cases b2 <;> rfl⟩
  go_wp2_with fail
  refine (C1.out _ ⟨BX.out.below⟩).mono ?_
  rintro e w2 ⟨rfl, hd⟩
  have BX2 := Hd.mk (BX.out.up hd.below)
  obtain ⟨p0, p1, p2⟩ := BX2.out.k1.three
  obtain ⟨p3, p4, p5⟩ := BX2.out.k2.three
  clear hd
  go_wp2_with fail
  refine (C2.out _ ⟨BX2.out.below⟩).mono ?_
  rintro e w3 ⟨rfl, hd⟩
  have BX3 := Hd.mk (BX2.out.up hd.below)
  clear hd
  go_wp2_with fail
  go_ret
  exact ⟨retBool HF.out.symm, BX3.out.below⟩
theorem rrat_Neg (b0 : Nat) (v : Value) (r : RatD) (w : World) (hb0 : b0 ≤ w.heap.size) (h : RRat w b0 v r) :
    Calls Tryz.prog 180 #[v] w fun e w' => ∃ x, e = .returned x ∧ RRat w' b0 x (negD r) ∧ Below w.heap.size w w' := by
 have Z1 := Hd.mk (fun W hW => rrat_Zero b0 v r W hW)
 have HR := Hd.mk h
 have HB0 := Hd.mk hb0
 obtain ⟨A, c, B, d, rfl, h1, h2, h3, h4⟩ := h
 have HRW := Hd.mk (And.intro h3 h4)
 clear h3 h4 hb0
 go_enter Tryz.func180, Tryz.ntmps180
 go_upto_region 1 with (fail)
 refine wp_gen (fun W => Bx2 w.heap.size w.heap.size (w.heap.size + 1) w W 64 #[.bool r.neg, .slice A r.num.length c, .slice B r.den.length d] (.bool false) (.slice none 0 0) (.slice none 0 0)) (Bx2.mk2 w _ _ _ _ _) ?_
 intro W BX
 generalize w.heap.size + 1 = g2 at BX ⊢
 obtain ⟨p0, p1, p2⟩ := BX.out.k1.three
 have ZL := Hd.mk (Z1.out W (HR.out.up BX.out.below))
 by_cases hz : r.num.length = 0
 ·have HE : Hd (negD r = r) := ⟨by unfold negD; rw [if_pos hz]⟩
  rw [decide_eq_true hz] at ZL
  clear hz
  go_wp2_with fail
  refine ZL.out.mono ?_
  rintro e w2 ⟨rfl, hb⟩
  have BX2 := Hd.mk (BX.out.up hb)
  obtain ⟨p0, p1, p2⟩ := BX2.out.k1.three
  obtain ⟨p6, p7, p8⟩ := BX2.out.k2.three
  have fz := fun i => BX2.out.k2.froz i
  clear hb
  go_wp2_with fail
  obtain ⟨d1, d2, d3, _⟩ := BX2.out.done (.bool r.neg) (.slice A r.num.length c) (.slice B r.den.length d)
  refine bodyPost_ret (res_rat rfl _ _ g2 _ rfl d1 rfl) rfl ?_
  rw [HE.out]
  exact ⟨_, rfl, d3 b0 r _ HB0.out ⟨A, c, B, d, rfl, h1, h2, HRW.out.1.up BX2.out.below, HRW.out.2.up BX2.out.below⟩, d2⟩
 ·have HE : Hd (negD r = ⟨!r.neg, r.num, r.den⟩) := ⟨by unfold negD; rw [if_neg hz]⟩
  rw [decide_eq_false hz] at ZL
  clear hz
  go_wp2_with fail
  refine ZL.out.mono ?_
  rintro e w2 ⟨rfl, hb⟩
  have BX2 := Hd.mk (BX.out.up hb)
  obtain ⟨p0, p1, p2⟩ := BX2.out.k1.three
  obtain ⟨p6, p7, p8⟩ := BX2.out.k2.three
  have fz := fun i => BX2.out.k2.froz i
  clear hb
  go_wp2_with fail
  obtain ⟨d1, d2, d3, _⟩ := BX2.out.done (.bool (!r.neg)) (.slice A r.num.length c) (.slice B r.den.length d)
  refine bodyPost_ret (res_rat rfl _ _ g2 _ rfl d1 rfl) rfl ?_
  rw [HE.out]
  exact ⟨_, rfl, d3 b0 ⟨!r.neg, r.num, r.den⟩ _ HB0.out ⟨A, c, B, d, rfl, h1, h2, HRW.out.1.up BX2.out.below, HRW.out.2.up BX2.out.below⟩, d2⟩
end Go.Proofs.YtgjkgkgieeoalaaGreat
