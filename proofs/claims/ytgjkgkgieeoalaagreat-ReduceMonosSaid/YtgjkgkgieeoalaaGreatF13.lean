/- Parts of the proof, joined: each theorem says what it shows. -/
import Derived.Test.YtgjkgkgieeoalaaGreatF01
import Derived.Test.YtgjkgkgieeoalaaGreatF10
import Derived.Test.YtgjkgkgieeoalaaGreatF09
import Derived.Test.YtgjkgkgieeoalaaGreatF06
set_option linter.unusedVariables false
set_option linter.unusedSimpArgs false
set_option maxHeartbeats 24000000
set_option maxRecDepth 100000
namespace Go.Proofs.YtgjkgkgieeoalaaGreat
open Go.RowKit
def mulD (r s : RatD) : Int × RatD :=
 if (ratMay r && ratMay s) = false then (1, zeroD)
 else if isBig [limbs (val r.num * val s.num), limbs (val r.den * val s.den)] then (21, zeroD)
 else makeD (r.neg != s.neg) (limbs (val r.num * val s.num)) (limbs (val r.den * val s.den))
theorem ratio_Mul (b0 : Nat) (v u : Value) (r s : RatD) (w : World) (hb0 : b0 ≤ w.heap.size) (h : RRat w b0 v r) (h' : RRat w b0 u s) (hr : r.short) (hs : s.short) :
    Calls Tryz.prog 96 #[v, u] w fun e w' => ∃ x, e = .returned (.tuple #[x, .int .i64 (mulD r s).1]) ∧ RRat w' b0 x (mulD r s).2 ∧ Below w.heap.size w w' := by
 obtain ⟨E, hE⟩ : ∃ E, mulD r s = E := ⟨_, rfl⟩
 rw [hE]
 have HEQ := aa hE
 clear hE
 have M1 := aa (fun W hW => ratio_May b0 v r W hW hr)
 have M2 := aa (fun W hW => ratio_May b0 u s W hW hs)
 have HR := aa h
 have HS := aa h'
 have HB0 := aa hb0
 obtain ⟨A, c, B, d, rfl, h1, h2, h3, h4⟩ := h
 obtain ⟨A', c', B', d', rfl, h1', h2', h3', h4'⟩ := h'
 have C1 := aa (fun W (hb : Hd (Below w.heap.size w W)) => limb_Mul A A' c c' r.num s.num W (h3.rd.up hb.out) h1 (by have := hr.1; omega) (h3'.rd.up hb.out) h1' (by have := hs.1; omega) h3.u h3'.u)
 have C2 := aa (fun W (hb : Hd (Below w.heap.size w W)) => limb_Mul B B' d d' r.den s.den W (h4.rd.up hb.out) h2 (by have := hr.2; omega) (h4'.rd.up hb.out) h2' (by have := hs.2; omega) h4.u h4'.u)
 clear h3 h4 h3' h4' hb0 hr hs
 obtain ⟨X, hX⟩ : ∃ X, val r.num * val s.num = X := ⟨_, rfl⟩
 obtain ⟨D, hD⟩ : ∃ D, val r.den * val s.den = D := ⟨_, rfl⟩
 obtain ⟨nb, hnb⟩ : ∃ nb, (!(r.neg == s.neg)) = nb := ⟨_, rfl⟩
 rw [hX] at C1
 rw [hD] at C2
 have HE : Hd (mulD r s = if (ratMay r && ratMay s) = false then (1, zeroD) else if isBig [limbs X, limbs D] then (21, zeroD) else makeD nb (limbs X) (limbs D)) := ⟨by unfold mulD; rw [hX, hD, show (r.neg != s.neg) = nb from hnb]⟩
 clear hX hD
 go_enter Tryz.func96, Tryz.ntmps96
 go_upto_region 1 with (fail)
 refine wp_gen (fun W => Bx3 w.heap.size w.heap.size (w.heap.size + 1) (w.heap.size + 1 + 1) w W (.bool r.neg) (.slice A r.num.length c) (.slice B r.den.length d) (.bool s.neg) (.slice A' s.num.length c') (.slice B' s.den.length d') (.bool false) (.slice none 0 0) (.slice none 0 0)) (Bx3.mk3 w _ _ _ _ _ _ _ _ _) ?_
 intro W BX
 obtain ⟨S, hS0⟩ : ∃ S, w.heap.size = S := ⟨_, rfl⟩
 generalize w.heap.size + 1 + 1 = g3 at BX ⊢
 generalize w.heap.size + 1 = g2 at BX ⊢
 obtain ⟨p0, p1, p2⟩ := BX.out.k1.three
 obtain ⟨p3, p4, p5⟩ := BX.out.k2.three
 obtain ⟨p6, p7, p8⟩ := BX.out.k3.three
 have fz := fun i => BX.out.k3.froz i
 have ML := aa (M1.out W (HR.out.up BX.out.below))
 clear hS0
 cases hm1 : ratMay r
 ·rw [hm1] at ML HE
  go_wp2_with fail
  refine ML.out.mono ?_
  rintro e w2 ⟨rfl, hb⟩
  have BX2 := aa (BX.out.up hb)
  obtain ⟨p6, p7, p8⟩ := BX2.out.k3.three
  have fz := fun i => BX2.out.k3.froz i
  go_wp2_with fail
  obtain ⟨d1, d2, d3⟩ := BX2.out.done (.bool false) (.slice none 0 0) (.slice none 0 0)
  refine bodyPost_ret (res_rat2 rfl _ _ g3 #[.bool false, .slice none 0 0, .slice none 0 0] rfl d1 rfl) rfl ?_
  have h5 := HEQ.out.symm.trans HE.out
  simp only [Bool.false_and, if_pos] at h5
  subst h5
  exact ⟨_, rfl, RRat.zero _ _, d2⟩
 ·rw [hm1] at ML HE
  cases hm2 : ratMay s
  ·rw [hm2] at HE
   go_wp2_with fail
   refine ML.out.mono ?_
   rintro e w2 ⟨rfl, hb⟩
   have BX2 := aa (BX.out.up hb)
   have ML2 := aa (M2.out w2 (HS.out.up BX2.out.below))
   rw [hm2] at ML2
   obtain ⟨p3, p4, p5⟩ := BX2.out.k2.three
   clear hb
   go_wp2_with fail
   refine ML2.out.mono ?_
   rintro e w3 ⟨rfl, hb⟩
   have BX3 := aa (BX2.out.up hb)
   obtain ⟨p6, p7, p8⟩ := BX3.out.k3.three
   have fz := fun i => BX3.out.k3.froz i
   go_wp2_with fail
   obtain ⟨d1, d2, d3⟩ := BX3.out.done (.bool false) (.slice none 0 0) (.slice none 0 0)
   refine bodyPost_ret (res_rat2 rfl _ _ g3 #[.bool false, .slice none 0 0, .slice none 0 0] rfl d1 rfl) rfl ?_
   have h5 := HEQ.out.symm.trans HE.out
   simp only [Bool.and_false, if_pos] at h5
   subst h5
   exact ⟨_, rfl, RRat.zero _ _, d2⟩
  ·rw [hm2] at HE
   clear hm1
   go_wp2_with fail
   refine ML.out.mono ?_
   rintro e w2 ⟨rfl, hb⟩
   have BX2 := aa (BX.out.up hb)
   have ML2 := aa (M2.out w2 (HS.out.up BX2.out.below))
   rw [hm2] at ML2
   obtain ⟨p3, p4, p5⟩ := BX2.out.k2.three
   clear hb hm2 p0 p1 p2 p6 p7 p8
   go_wp2_with fail
   refine ML2.out.mono ?_
   rintro e w3 ⟨rfl, hb⟩
   have BX3 := aa (BX2.out.up hb)
   obtain ⟨p0, p1, p2⟩ := BX3.out.k1.three
   obtain ⟨p3, p4, p5⟩ := BX3.out.k2.three
   clear hb ML ML2 M1 M2 BX BX2
   go_wp2_with fail
   go_region_held3 (fun w' => Hd (Bx3 w.heap.size w.heap.size g2 g3 w w' (.bool r.neg) (.slice A r.num.length c) (.slice B r.den.length d) (.bool s.neg) (.slice A' s.num.length c') (.slice B' s.den.length d') (.bool false) (.slice none 0 0) (.slice none 0 0)) ∧
       w'.cell? ⟨w.heap.size, 1, none⟩ = some (.slice A r.num.length c) ∧ w'.cell? ⟨w.heap.size, 2, none⟩ = some (.slice B r.den.length d) ∧
       w'.cell? ⟨g2, 1, none⟩ = some (.slice A' s.num.length c') ∧ w'.cell? ⟨g2, 2, none⟩ = some (.slice B' s.den.length d'))
    (first
     | exact hS
     | exact ⟨BX3, p1, p2, p4, p5⟩
     | exact ⟨⟨BX3.out.dn 1⟩, p1, p2, p4, p5⟩)
    (first
     | (go_at_call 171; obtain ⟨hB, q1, q2, q3, q4⟩ := ‹Hd (Bx3 w.heap.size w.heap.size g2 g3 w _ _ _ _ _ _ _ _ _ _) ∧ _›; with_reducible refine (C1.out _ ⟨hB.out.below⟩).mono ?_; rintro e w4 ⟨x, rfl, ho, hb⟩
        obtain ⟨Ax, cx, rfl, hcx, _, _⟩ := ho.reads
        have hS := af (aa (hB.out.up hb)) (af (cell_up q1 hb) (af (cell_up q2 hb) (af (cell_up q3 hb) (cell_up q4 hb))))
        have HX := aa ho; clear ho)
     | (go_at_call 171; obtain ⟨hB, q1, q2, q3, q4⟩ := ‹Hd (Bx3 w.heap.size w.heap.size g2 g3 w _ _ _ _ _ _ _ _ _ _) ∧ _›; with_reducible refine (C2.out _ ⟨hB.out.below⟩).mono ?_; rintro e w5 ⟨y, rfl, ho, hb⟩
        obtain ⟨Ad, cd, rfl, hcd, _, _⟩ := ho.reads
        have hS := af (aa (hB.out.up hb)) (af (cell_up q1 hb) (af (cell_up q2 hb) (af (cell_up q3 hb) (cell_up q4 hb))))
        have HX2 := aa (HX.out.below hb)
        have HY := aa ho
        clear ho))
   have BX5 := hS.1
   clear hS
   obtain ⟨p0, p1, p2⟩ := BX5.out.k1.three
   obtain ⟨p3, p4, p5⟩ := BX5.out.k2.three
   have hbb : Hd (Below w5.heap.size w5 (w5.alloc (Obj.cells #[.slice Ax (limbs X).length cx, .slice Ad (limbs D).length cd] 61))) := ⟨(ag _ _).alloc (ae _) _⟩
   have RW : Hd (RdRows (w5.alloc (Obj.cells #[.slice Ax (limbs X).length cx, .slice Ad (limbs D).length cd] 61)) (some ⟨w5.heap.size, 0, none⟩) [limbs X, limbs D]) := ⟨by
    refine rows_new (cs := [.slice Ax (limbs X).length cx, .slice Ad (limbs D).length cd]) (fun j r hj => ?_) rfl
    match j, hj with
    | 0, hj => injection hj with hj; subst hj; obtain ⟨_, _, e, _, _, hr⟩ := HX2.out.reads; injection e with e1 e2 e3; subst e1; exact ⟨_, _, rfl, hcx, hr⟩
    | 1, hj => injection hj with hj; subst hj; obtain ⟨_, _, e, _, _, hr⟩ := HY.out.reads; injection e with e1 e2 e3; subst e1; exact ⟨_, _, rfl, hcd, hr⟩
    | n + 2, hj => cases hj⟩
   have CB := aa (ratio_big (some ⟨w5.heap.size, 0, none⟩) 2 [limbs X, limbs D] _ RW.out (ae _) (by simp))
   have BX7 := aa (BX5.out.up hbb.out)
   cases hbig : isBig [limbs X, limbs D]
   ·rw [hbig] at CB HE
    have L1 := isBig_not hbig (r := limbs X) (by simp)
    have L2 := isBig_not hbig (r := limbs D) (by simp)
    have CMk := aa (ratio_Make b0 nb Ax Ad cx cd (limbs X) (limbs D) _ (ah (ah HB0.out BX5.out.below.size) hbb.out.size) (by obtain ⟨_, _, e, _, _, hr⟩ := (HX2.out.below hbb.out).reads; injection e with e1 e2 e3; subst e1; exact hr) hcx (by obtain ⟨_, _, e, _, _, hr⟩ := (HY.out.below hbb.out).reads; injection e with e1 e2 e3; subst e1; exact hr) hcd (limbs_u64 _) (limbs_u64 _) (by omega) (by omega))
    have HE2 : Hd (makeD nb (limbs X) (limbs D) = E) := ⟨by have := HEQ.out; rw [HE.out] at this; simpa using this⟩
    rw [HE2.out] at CMk
    obtain ⟨p0, p1, p2⟩ := BX7.out.k1.three
    obtain ⟨p3, p4, p5⟩ := BX7.out.k2.three
    clear hbig L1 L2
    go_wp2_with fail
    refine CB.out.mono ?_
    rintro e w7 ⟨rfl, rfl⟩
    go_wp2_with fail
    with_reducible refine CMk.out.mono ?_
    rintro e w8 ⟨v, rfl, hr, hb⟩
    have BX8 := aa (BX7.out.up hb)
    obtain ⟨p6, p7, p8⟩ := BX8.out.k3.three
    have fz := fun i => BX8.out.k3.froz i
    have HR8 := aa hr
    obtain ⟨A9, c9, B9, d9, rfl, _, _, _, _⟩ := hr
    clear hb
    go_wp2_with fail
    obtain ⟨d1, d2, d3⟩ := BX8.out.done (.bool E.2.neg) (.slice A9 E.2.num.length c9) (.slice B9 E.2.den.length d9)
    refine bodyPost_ret (res_rat2 rfl _ _ g3 #[.bool E.2.neg, .slice A9 E.2.num.length c9, .slice B9 E.2.den.length d9] rfl d1 rfl) rfl ?_
    exact ⟨_, rfl, d3 _ _ _ HB0.out HR8.out, d2⟩
   ·rw [hbig] at CB HE
    obtain ⟨p6, p7, p8⟩ := BX7.out.k3.three
    have fz := fun i => BX7.out.k3.froz i
    clear hbig
    go_wp2_with fail
    refine CB.out.mono ?_
    rintro e w7 ⟨rfl, rfl⟩
    go_wp2_with fail
    obtain ⟨d1, d2, d3⟩ := BX7.out.done (.bool false) (.slice none 0 0) (.slice none 0 0)
    refine bodyPost_ret (res_rat2 rfl _ _ g3 #[.bool false, .slice none 0 0, .slice none 0 0] rfl d1 rfl) rfl ?_
    have h5 := HEQ.out.symm.trans HE.out
    simp at h5
    subst h5
    exact ⟨_, rfl, RRat.zero _ _, d2⟩
structure Bx2 (S g1 g2 : Nat) (w0 w : World) (t1 : TypeId) (c1 : Array Value) (c0 c2 c3 : Value) : Prop where
 below : Below S w0 w
 s1 : S ≤ g1
 s2 : S ≤ g2
 n12 : g1 ≠ g2
 k1 : Bk w g1 t1 c1
 k2 : Bk w g2 64 #[c0, c2, c3]
section
variable {S g1 g2 : Nat} {w0 w w' : World} {t1 : TypeId} {c1 : Array Value} {c0 c2 c3 : Value}
theorem Bx2.up (h : Bx2 S g1 g2 w0 w t1 c1 c0 c2 c3) (hb : Below w.heap.size w w') : Bx2 S g1 g2 w0 w' t1 c1 c0 c2 c3 :=
 ⟨h.below.trans (hb.mono (ah h.s1 (Nat.le_of_lt h.k1.lt))), h.s1, h.s2, h.n12, h.k1.up hb, h.k2.up hb⟩
theorem Bx2.dn (h : Bx2 S g1 g2 w0 w t1 c1 c0 c2 c3) (n : Nat) : Bx2 S g1 g2 w0 (w.drewN n) t1 c1 c0 c2 c3 := ⟨Below.dn h.below n, h.s1, h.s2, h.n12, h.k1, h.k2⟩
theorem Bx2.mk2 (w : World) (t1 : TypeId) (c1 : Array Value) (c0 c2 c3 : Value) : Bx2 w.heap.size w.heap.size (w.heap.size + 1) w ((w.alloc (Obj.cells c1 t1)).alloc (Obj.cells #[c0, c2, c3] 64)) t1 c1 c0 c2 c3 := by
 refine ⟨((ag _ _).alloc (ae _) _).alloc (by simp) _, ae _, by omega, by omega, (Bk.new_ _ _ _).al _, ?_⟩
 have := Bk.new_ (w.alloc (Obj.cells c1 t1)) 64 #[c0, c2, c3]
 simpa using this
theorem Bx2.done (h : Bx2 S g1 g2 w0 w t1 c1 c0 c2 c3) (x y z : Value) : Bk (((w.setCell ⟨g2, 0, none⟩ x).setCell ⟨g2, 1, none⟩ y).setCell ⟨g2, 2, none⟩ z) g2 64 #[x, y, z] ∧
    Below S w0 (((w.setCell ⟨g2, 0, none⟩ x).setCell ⟨g2, 1, none⟩ y).setCell ⟨g2, 2, none⟩ z) ∧ (∀ b r v, b ≤ S → RRat w b v r → RRat (((w.setCell ⟨g2, 0, none⟩ x).setCell ⟨g2, 1, none⟩ y).setCell ⟨g2, 2, none⟩ z) b v r) ∧
    ∀ i, (((w.setCell ⟨g2, 0, none⟩ x).setCell ⟨g2, 1, none⟩ y).setCell ⟨g2, 2, none⟩ z).cell? ⟨g1, i, none⟩ = w.cell? ⟨g1, i, none⟩ :=
 ⟨h.k2.set3 x y z, ((h.below.setCell h.s2 _).setCell h.s2 _).setCell h.s2 _, fun b r v hb hr => hr.grown (((set_grown w ⟨g2, 0, none⟩ x).set _ _).set _ _) (fun g e => by
  injection e with e; subst e; exact ⟨ah hb h.s2, _, _, h.k2, by decide⟩),
  fun i => (far1 rfl h.n12.symm).trans ((far1 rfl h.n12.symm).trans (far1 rfl h.n12.symm))⟩
end
def invD (r : RatD) : Int × RatD := if ratMay r = false then (1, zeroD) else if r.num.length = 0 then (30, zeroD) else (0, ⟨r.neg, r.den, r.num⟩)
theorem ratio_Inv (b0 : Nat) (v : Value) (r : RatD) (w : World) (hb0 : b0 ≤ w.heap.size) (h : RRat w b0 v r) (hr : r.short) :
    Calls Tryz.prog 95 #[v] w fun e w' => ∃ x, e = .returned (.tuple #[x, .int .i64 (invD r).1]) ∧ RRat w' b0 x (invD r).2 ∧ Below w.heap.size w w' := by
 obtain ⟨E, hE⟩ : ∃ E, invD r = E := ⟨_, rfl⟩
 rw [hE]
 have HEQ := aa hE
 clear hE
 have M1 := aa (fun W hW => ratio_May b0 v r W hW hr)
 have Z1 := aa (fun W hW => ratio_Zero b0 v r W hW)
 have HR := aa h
 have HB0 := aa hb0
 obtain ⟨A, c, B, d, rfl, h1, h2, h3, h4⟩ := h
 have C1 := aa (fun W (hb : Hd (Below w.heap.size w W)) => clone_nat B d r.den W (h4.rd.up hb.out) h2 (by have := hr.2; omega))
 have C2 := aa (fun W (hb : Hd (Below w.heap.size w W)) => clone_nat A c r.num W (h3.rd.up hb.out) h1 (by have := hr.1; omega))
 have UU := aa (af h3.u h4.u)
 clear h3 h4 hb0 hr
 have HE : Hd (invD r = if ratMay r = false then (1, zeroD) else if r.num.length = 0 then (30, zeroD) else (0, ⟨r.neg, r.den, r.num⟩)) := ⟨rfl⟩
 go_enter Tryz.func95, Tryz.ntmps95
 go_upto_region 1 with (fail)
 refine wp_gen (fun W => Bx2 w.heap.size w.heap.size (w.heap.size + 1) w W 64 #[.bool r.neg, .slice A r.num.length c, .slice B r.den.length d] (.bool false) (.slice none 0 0) (.slice none 0 0)) (Bx2.mk2 w _ _ _ _ _) ?_
 intro W BX
 generalize w.heap.size + 1 = g2 at BX ⊢
 obtain ⟨p0, p1, p2⟩ := BX.out.k1.three
 have ML := aa (M1.out W (HR.out.up BX.out.below))
 cases hm1 : ratMay r
 ·rw [hm1] at ML HE
  go_wp2_with fail
  refine ML.out.mono ?_
  rintro e w2 ⟨rfl, hb⟩
  have BX2 := aa (BX.out.up hb)
  obtain ⟨p6, p7, p8⟩ := BX2.out.k2.three
  have fz := fun i => BX2.out.k2.froz i
  go_wp2_with fail
  obtain ⟨d1, d2, d3, _⟩ := BX2.out.done (.bool false) (.slice none 0 0) (.slice none 0 0)
  refine bodyPost_ret (res_rat2 rfl _ _ g2 #[.bool false, .slice none 0 0, .slice none 0 0] rfl d1 rfl) rfl ?_
  have h5 := HEQ.out.symm.trans HE.out
  simp only [if_pos] at h5
  subst h5
  exact ⟨_, rfl, RRat.zero _ _, d2⟩
 ·rw [hm1] at ML HE
  by_cases hz : r.num.length = 0
  ·rw [if_pos hz] at HE
   rw [decide_eq_true hz] at Z1
   clear hz hm1
   go_wp2_with fail
   refine ML.out.mono ?_
   rintro e w2 ⟨rfl, hb⟩
   have BX2 := aa (BX.out.up hb)
   have ZL := aa (Z1.out w2 (HR.out.up BX2.out.below))
   obtain ⟨p0, p1, p2⟩ := BX2.out.k1.three
   clear hb
   go_wp2_with fail
   refine ZL.out.mono ?_
   rintro e w3 ⟨rfl, hb⟩
   have BX3 := aa (BX2.out.up hb)
   obtain ⟨p6, p7, p8⟩ := BX3.out.k2.three
   have fz := fun i => BX3.out.k2.froz i
   go_wp2_with fail
   obtain ⟨d1, d2, d3, _⟩ := BX3.out.done (.bool false) (.slice none 0 0) (.slice none 0 0)
   refine bodyPost_ret (res_rat2 rfl _ _ g2 #[.bool false, .slice none 0 0, .slice none 0 0] rfl d1 rfl) rfl ?_
   have h5 := HEQ.out.symm.trans HE.out
   simp at h5
   subst h5
   exact ⟨_, rfl, RRat.zero _ _, d2⟩
  ·rw [if_neg hz] at HE
   rw [decide_eq_false hz] at Z1
   clear hz hm1
   go_wp2_with fail
   refine ML.out.mono ?_
   rintro e w2 ⟨rfl, hb⟩
   have BX2 := aa (BX.out.up hb)
   have ZL := aa (Z1.out w2 (HR.out.up BX2.out.below))
   obtain ⟨p0, p1, p2⟩ := BX2.out.k1.three
   clear hb
   go_wp2_with fail
   refine ZL.out.mono ?_
   rintro e w3 ⟨rfl, hb⟩
   have BX3 := aa (BX2.out.up hb)
   obtain ⟨p0, p1, p2⟩ := BX3.out.k1.three
   have n12 := BX3.out.n12
   clear hb ML ZL M1 Z1 BX BX2
   go_wp2_with fail
   go_region_held3 (fun w' => Hd (Below w.heap.size w w') ∧ w'.cell? ⟨w.heap.size, 0, none⟩ = some (.bool r.neg) ∧ w'.cell? ⟨w.heap.size, 1, none⟩ = some (.slice A r.num.length c) ∧ w'.cell? ⟨w.heap.size, 2, none⟩ = some (.slice B r.den.length d))
    (first
     | exact hS
     | exact ⟨⟨BX3.out.below⟩, p0, p1, p2⟩
     | exact ⟨⟨(BX3.out.dn 1).below⟩, p0, p1, p2⟩
     | exact ⟨⟨(BXn.out.done _ _ _).2.1⟩, ((BXn.out.done _ _ _).2.2.2 0).trans hS.2.1, ((BXn.out.done _ _ _).2.2.2 1).trans hS.2.2.1, ((BXn.out.done _ _ _).2.2.2 2).trans hS.2.2.2⟩)
    (first
     | (go_at_call 170; obtain ⟨hB, q1, q2, q3⟩ := ‹Hd (Below w.heap.size w _) ∧ _›; with_reducible refine (C1.out _ hB).mono ?_; rintro e w4 ⟨x, rfl, ho, hb⟩
        obtain ⟨Ax, cx, rfl, hcx, _, _⟩ := ho.reads
        have BXm := aa ((BX3.out.dn 1).up hb)
        have hS := af (aa BXm.out.below) (af (cell_up q1 hb) (af (cell_up q2 hb) (cell_up q3 hb)))
        have HX := aa ho; clear ho)
     | (go_at_call 170; obtain ⟨hB, q1, q2, q3⟩ := ‹Hd (Below w.heap.size w _) ∧ _›; with_reducible refine (C2.out _ hB).mono ?_; rintro e w5 ⟨y, rfl, ho, hb⟩
        obtain ⟨Ay, cy, rfl, hcy, _, _⟩ := ho.reads
        have BXn := aa (BXm.out.up hb)
        have hS := af (aa BXn.out.below) (af (cell_up q1 hb) (af (cell_up q2 hb) (cell_up q3 hb)))
        obtain ⟨p6, p7, p8⟩ := BXn.out.k2.three
        have fz := fun i => BXn.out.k2.froz i
        have HX2 := aa (HX.out.below hb)
        have HY := aa ho
        clear ho))
   go_wp2_with fail
   obtain ⟨d1, d2, d3, _⟩ := BXn.out.done (.bool r.neg) (.slice Ax r.den.length cx) (.slice Ay r.num.length cy)
   refine bodyPost_ret (res_rat2 rfl _ _ g2 #[.bool r.neg, .slice Ax r.den.length cx, .slice Ay r.num.length cy] rfl d1 rfl) rfl ?_
   have h5 := HEQ.out.symm.trans HE.out
   simp at h5
   subst h5
   exact ⟨_, rfl, d3 b0 _ _ HB0.out ⟨Ax, cx, Ay, cy, rfl, hcx, hcy, (RRow.of_own HX2.out UU.out.2 b0).1, (RRow.of_own HY.out UU.out.1 b0).1⟩, d2⟩
theorem ratio_Of_1 (g : Nat) (n : Int) (w : World) (hc : w.cell? ⟨g, 0, none⟩ = some (.int .i64 n)) (h0 : -9223372036854775808 ≤ n) (h1 : n ≤ 9223372036854775807) :
    Calls Tryz.prog 174 #[.pointer (some ⟨g, 0, none⟩)] w fun e w' => e = .returned (.int .u64 (n.natAbs : Nat)) ∧ w = w' := by
 by_cases hn : n < 0
 ·have e1 : decide (n < 0) = true := decide_eq_true hn
  have e2 : IntKind.u64.wrap n = n + 18446744073709551616 := by rw [IntKind.wrap_u64]; omega
  have e3 : IntKind.u64.wrap (-(n + 18446744073709551616)) = (n.natAbs : Nat) := by rw [IntKind.wrap_u64]; omega
  go_enter Tryz.func174, Tryz.ntmps174
  go_wp2_with fail
  go_ret
  exact ⟨rfl, rfl⟩
 ·have e1 : decide (n < 0) = false := decide_eq_false hn
  have e2 : IntKind.u64.wrap n = (n.natAbs : Nat) := by rw [IntKind.wrap_u64]; omega
  go_enter Tryz.func174, Tryz.ntmps174
  go_wp2_with fail
  go_ret
  exact ⟨rfl, rfl⟩
def ofD (n : Int) : RatD := ⟨decide (n < 0), limbs n.natAbs, [1]⟩
theorem ratio_Of (b0 : Nat) (n : Int) (w : World) (hb0 : b0 ≤ w.heap.size) (h0 : -9223372036854775808 ≤ n) (h1 : n ≤ 9223372036854775807) :
    Calls Tryz.prog 97 #[.int .i64 n] w fun e w' => ∃ x, e = .returned x ∧ RRat w' b0 x (ofD n) ∧ Below w.heap.size w w' := by
 have HB0 := aa hb0
 clear hb0
 have C2 := aa (fun W => nat_Of (n.natAbs : Nat) W (by omega) (by omega))
 rw [Int.toNat_natCast] at C2
 go_enter Tryz.func97, Tryz.ntmps97
 go_upto_region 1 with (fail)
 refine wp_gen (fun W => Bx2 w.heap.size w.heap.size (w.heap.size + 1) w W 2 #[.int .i64 n] (.bool false) (.slice none 0 0) (.slice none 0 0)) (Bx2.mk2 w _ _ _ _ _) ?_
 intro W BX
 generalize w.heap.size + 1 = g2 at BX ⊢
 have p0 : W.cell? ⟨w.heap.size, 0, none⟩ = some (.int .i64 n) := by rw [BX.out.k1.cell]; rfl
 have n12 := BX.out.n12
 go_wp2_with fail
 go_region_held3 (fun w' => Hd (Below w.heap.size w w') ∧ w'.cell? ⟨w.heap.size, 0, none⟩ = some (.int .i64 n))
  (first
   | exact hS
   | exact ⟨⟨BX.out.below⟩, p0⟩
   | exact ⟨⟨(BX.out.dn 1).below⟩, p0⟩
   | exact sal (by assumption) _
   | assumption
   | exact ⟨⟨(BXm.out.done _ _ _).2.1⟩, ((BXm.out.done _ _ _).2.2.2 0).trans hS.2⟩
   | exact ⟨⟨(BXa.out.done _ _ _).2.1⟩, ((BXa.out.done _ _ _).2.2.2 0).trans hSa.2⟩)
  (first
   | (go_at_call 174; obtain ⟨hB, q1⟩ := ‹Hd (Below w.heap.size w _) ∧ _›; with_reducible refine (ratio_Of_1 _ n _ q1 h0 h1).mono ?_; rintro e w4 ⟨rfl, rfl⟩
      have hS := af hB q1)
   | (go_at_call 175; obtain ⟨hB, q1⟩ := ‹Hd (Below w.heap.size w _) ∧ _›; with_reducible refine (C2.out (W.drew)).mono ?_; rintro e w5 ⟨x, rfl, ho, hb⟩
      obtain ⟨Ax, cx, rfl, hcx, _, _⟩ := ho.reads
      have BXm := aa ((BX.out.dn 1).up hb)
      have hS := af (aa BXm.out.below) (cell_up q1 hb)
      have BXa := aa (BXm.out.up ((ag w5.heap.size w5).alloc (ae _) (Obj.cells #[.int .u64 1] 112)))
      have hSa := sal hS (Obj.cells #[.int .u64 1] 112)
      obtain ⟨p6, p7, p8⟩ := BXm.out.k2.three
      have fz := fun i => BXm.out.k2.froz i
      obtain ⟨p6a, p7a, p8a⟩ := BXa.out.k2.three
      have fza := fun i => BXa.out.k2.froz i
      have HX := aa ho; clear ho)
   | (go_at_call 175; obtain ⟨hB, q1⟩ := ‹Hd (Below w.heap.size w _) ∧ _›; with_reducible refine (C2.out ((W.alloc (Obj.cells #[.int .u64 1] 112)).drew)).mono ?_; rintro e w5 ⟨x, rfl, ho, hb⟩
      obtain ⟨Ax, cx, rfl, hcx, _, _⟩ := ho.reads
      have BXm := aa (((BX.out.up ((ag _ _).alloc (ae _) _)).dn 1).up hb)
      have hS := af (aa BXm.out.below) (cell_up q1 hb)
      have BXa := aa (BXm.out.up ((ag w5.heap.size w5).alloc (ae _) (Obj.cells #[.int .u64 1] 112)))
      have hSa := sal hS (Obj.cells #[.int .u64 1] 112)
      obtain ⟨p6, p7, p8⟩ := BXm.out.k2.three
      have fz := fun i => BXm.out.k2.froz i
      obtain ⟨p6a, p7a, p8a⟩ := BXa.out.k2.three
      have fza := fun i => BXa.out.k2.froz i
      have HX := aa ho; clear ho))
 ·go_wp2_with fail
  obtain ⟨d1, d2, d3, _⟩ := BXa.out.done (.bool (decide (n < 0))) (.slice Ax (limbs n.natAbs).length cx) (.slice (some ⟨w5.heap.size, 0, none⟩) 1 1)
  refine bodyPost_ret (res_rat rfl _ _ g2 _ rfl d1 rfl) rfl ?_
  have o1 := lit1_own w5 1 w5.heap.size (ae _)
  exact ⟨_, rfl, d3 b0 (ofD n) _ HB0.out ⟨Ax, cx, _, 1, rfl, hcx, ae _, (RRow.of_own (HX.out.al _) (limbs_u64 _) b0).1, (RRow.of_own o1 (U64.nil.cons (by omega) (by omega)) b0).1⟩, d2⟩
 all_goals (
  go_wp2_with fail
  obtain ⟨d1, d2, d3, _⟩ := BXm.out.done (.bool (decide (n < 0))) (.slice Ax (limbs n.natAbs).length cx) (.slice (some ⟨W.heap.size, 0, none⟩) 1 1)
  refine bodyPost_ret (res_rat rfl _ _ g2 _ rfl d1 rfl) rfl ?_
  have o1 := (lit1_own W 1 W.heap.size (ae _)).d1.below hb
  exact ⟨_, rfl, d3 b0 (ofD n) _ HB0.out ⟨Ax, cx, _, 1, rfl, hcx, ae _, (RRow.of_own HX.out (limbs_u64 _) b0).1, (RRow.of_own o1 (U64.nil.cons (by omega) (by omega)) b0).1⟩, d2⟩)
structure TermD where
 c : RatD
 m : MonD
def RTerm (w : World) (b0 : Nat) (v : Value) (t : TermD) : Prop :=
 ∃ A c B d, v = .agg #[.bool t.c.neg, .slice A t.c.num.length c, .slice B t.c.den.length d, .int .i64 t.m.x0, .int .i64 t.m.x1, .int .i64 t.m.x2, .int .i64 t.m.x3] ∧
  t.c.num.length ≤ c ∧ t.c.den.length ≤ d ∧ RRow w b0 A t.c.num ∧ RRow w b0 B t.c.den
section
variable {w w' : World} {b0 b1 : Nat} {v : Value} {t : TermD}
theorem RTerm.up (h : RTerm w b0 v t) (hb : Below w.heap.size w w') : RTerm w' b0 v t := let ⟨A, c, B, d, e, h1, h2, h3, h4⟩ := h; ⟨A, c, B, d, e, h1, h2, h3.up hb, h4.up hb⟩
end
def right (t : TermD) : Bool := ratMay t.c && monMay t.m
theorem Bk.seven {w : World} {g : Nat} {t : TypeId} {v0 v1 v2 v3 v4 v5 v6 : Value} (h : Bk w g t #[v0, v1, v2, v3, v4, v5, v6]) : (w.cell? ⟨g, 0, none⟩ = some v0 ∧ w.cell? ⟨g, 1, none⟩ = some v1 ∧ w.cell? ⟨g, 2, none⟩ = some v2) ∧
    w.cell? ⟨g, 3, none⟩ = some v3 ∧ w.cell? ⟨g, 4, none⟩ = some v4 ∧ w.cell? ⟨g, 5, none⟩ = some v5 ∧ w.cell? ⟨g, 6, none⟩ = some v6 := by
 refine ⟨⟨?_, ?_, ?_⟩, ?_, ?_, ?_, ?_⟩ <;> (rw [h.cell]; rfl)
theorem poly_right (b0 : Nat) (v : Value) (t : TermD) (w : World) (h : RTerm w b0 v t) (hs : t.c.short) :
    Calls Tryz.prog 164 #[v] w fun e w' => e = .returned (.bool (right t)) ∧ Below w.heap.size w w' := by
 obtain ⟨A, c, B, d, rfl, h1, h2, h3, h4⟩ := h
 have HR : Hd (RRat w b0 (.agg #[.bool t.c.neg, .slice A t.c.num.length c, .slice B t.c.den.length d]) t.c) := ⟨A, c, B, d, rfl, h1, h2, h3, h4⟩
 clear h3 h4
 have M1 := aa (fun W hW => ratio_May b0 _ t.c W (HR.out.up hW) hs)
 have M2 := aa (fun W => mono_May t.m W)
 go_enter Tryz.func164, Tryz.ntmps164
 go_upto_region 1 with (fail)
 refine wp_gen (fun W => Below w.heap.size w W ∧ Bk W w.heap.size 68 #[.bool t.c.neg, .slice A t.c.num.length c, .slice B t.c.den.length d, .int .i64 t.m.x0, .int .i64 t.m.x1, .int .i64 t.m.x2, .int .i64 t.m.x3]) ⟨(ag _ _).alloc (ae _) _, Bk.new_ _ _ _⟩ ?_
 intro W BX
 obtain ⟨⟨c0, c1, c2⟩, _, _, _, _⟩ := BX.out.2.seven
 have ML := aa (M1.out W BX.out.1)
 cases hm : ratMay t.c
 ·have HE : Hd (right t = false) := ⟨by unfold right; rw [hm]; rfl⟩
  rw [hm] at ML
  go_wp2_with fail
  refine ML.out.mono ?_
  rintro e w2 ⟨rfl, hb⟩
  have HB := aa (BX.out.1.trans (hb.mono BX.out.1.size))
  clear hb
  go_wp2_with fail
  go_ret
  exact ⟨retBool HE.out.symm, HB.out⟩
 ·have HE : Hd (right t = monMay t.m) := ⟨by unfold right; rw [hm]; rfl⟩
  rw [hm] at ML
  go_wp2_with fail
  refine ML.out.mono ?_
  rintro e w2 ⟨rfl, hb⟩
  have HB := aa (BX.out.1.trans (hb.mono BX.out.1.size))
  have k2 := aa (BX.out.2.up hb)
  obtain ⟨_, c3, c4, c5, c6⟩ := k2.out.seven
  clear hb
  go_wp2_with fail
  refine (M2.out w2).mono ?_
  rintro e w3 ⟨rfl, hb⟩
  have HB3 := aa (HB.out.trans (hb.lo.mono HB.out.size))
  clear hb
  go_wp2_with fail
  go_ret
  exact ⟨retBool HE.out.symm, HB3.out⟩
def ordered (o : Int) : Bool := decide (0 ≤ o) && decide (o ≤ 2)
theorem poly_ordered (o : Int) (w : World) : Calls Tryz.prog 166 #[.int .i64 o] w fun e w' => e = .returned (.bool (ordered o)) ∧ w = w' := by
 by_cases h1 : 0 ≤ o
 ·have e1 : decide (0 ≤ o) = true := decide_eq_true h1
  have HE : Hd (ordered o = decide (o ≤ 2)) := ⟨by unfold ordered; rw [e1]; rfl⟩
  go_enter Tryz.func166, Tryz.ntmps166
  go_wp2_with fail
  go_ret
  exact ⟨retBool HE.out.symm, rfl⟩
 ·have e1 : decide (0 ≤ o) = false := decide_eq_false h1
  have HE : Hd (ordered o = false) := ⟨by unfold ordered; rw [e1]; rfl⟩
  go_enter Tryz.func166, Tryz.ntmps166
  go_wp2_with fail
  go_ret
  exact ⟨retBool HE.out.symm, rfl⟩
def TC (w : World) (b0 : Nat) (t : TermD) (cs : List Value) : Prop :=
 ∃ A c B d, cs = [.bool t.c.neg, .slice A t.c.num.length c, .slice B t.c.den.length d, .int .i64 t.m.x0, .int .i64 t.m.x1, .int .i64 t.m.x2, .int .i64 t.m.x3] ∧
  t.c.num.length ≤ c ∧ t.c.den.length ≤ d ∧ RRow w b0 A t.c.num ∧ RRow w b0 B t.c.den
theorem TC.len {w : World} {b0 : Nat} {t : TermD} {cs : List Value} (h : TC w b0 t cs) : cs.length = 7 := by obtain ⟨A, c, B, d, rfl, _⟩ := h; rfl
theorem TC.one {w : World} {b0 : Nat} {t : TermD} {cs : List Value} (h : TC w b0 t cs) : ∀ u ∈ cs, u.oneCell' = true := by
 obtain ⟨A, c, B, d, rfl, _⟩ := h
 intro u hu
 simp at hu
 rcases hu with rfl | rfl | rfl | rfl | rfl | rfl | rfl <;> rfl
theorem TC.up {w w' : World} {b0 : Nat} {t : TermD} {cs : List Value} (h : TC w b0 t cs) (hb : Below w.heap.size w w') : TC w' b0 t cs := let ⟨A, c, B, d, e, h1, h2, h3, h4⟩ := h; ⟨A, c, B, d, e, h1, h2, h3.up hb, h4.up hb⟩
theorem TC.grown {w w' : World} {b0 : Nat} {t : TermD} {cs : List Value} {row : Option Nat} (h : TC w b0 t cs) (hg : w.grownBy w' row) (hr : ∀ g, row = some g → b0 ≤ g ∧ ∃ t cs, Bk w g t cs ∧ t ≠ 112) : TC w' b0 t cs :=
 let ⟨A, c, B, d, e, h1, h2, h3, h4⟩ := h; ⟨A, c, B, d, e, h1, h2, h3.grown hg hr, h4.grown hg hr⟩
inductive TCs (w : World) (b0 : Nat) : List TermD → List Value → Prop
 | nil : TCs w b0 [] []
 | cons {t : TermD} {ts : List TermD} {cs ds : List Value} (h : TC w b0 t cs) (hs : TCs w b0 ts ds) : TCs w b0 (t :: ts) (cs ++ ds)
section
variable {w w' : World} {b0 b1 : Nat} {ts us : List TermD} {cs ds : List Value}
theorem TCs.len (h : TCs w b0 ts cs) : cs.length = ts.length * 7 := by
 induction h with
 | nil => rfl
 | cons h hs ih => rw [List.length_append, h.len, ih, List.length_cons]; omega
theorem TCs.one (h : TCs w b0 ts cs) : ∀ u ∈ cs, u.oneCell' = true := by
 induction h with
 | nil => intro u hu; cases hu
 | cons h hs ih => intro u hu; rcases List.mem_append.1 hu with hu | hu; exact h.one u hu; exact ih u hu
theorem TCs.up (h : TCs w b0 ts cs) (hb : Below w.heap.size w w') : TCs w' b0 ts cs := by
 induction h with
 | nil => exact .nil
 | cons h hs ih => exact .cons (h.up hb) ih
theorem TCs.grown {row : Option Nat} (h : TCs w b0 ts cs) (hg : w.grownBy w' row) (hr : ∀ g, row = some g → b0 ≤ g ∧ ∃ t cs, Bk w g t cs ∧ t ≠ 112) : TCs w' b0 ts cs := by
 induction h with
 | nil => exact .nil
 | cons h hs ih => exact .cons (h.grown hg hr) ih
theorem TCs.app (h : TCs w b0 ts cs) (h' : TCs w b0 us ds) : TCs w b0 (ts ++ us) (cs ++ ds) := by
 induction h with
 | nil => exact h'
 | cons h hs ih => rw [List.cons_append, List.append_assoc]; exact .cons h ih
theorem TCs.at_ (h : TCs w b0 ts cs) {j : Nat} (hj : j < ts.length) : ∃ es, TC w b0 ts[j] es ∧ ∀ k, k < 7 → cs[j * 7 + k]? = es[k]? := by
 induction h generalizing j with
 | nil => cases hj
 | @cons t ts cs ds h hs ih =>
   cases j with
   | zero => exact ⟨cs, h, fun k hk => by rw [Nat.zero_mul, Nat.zero_add, List.getElem?_append_left (by rw [h.len]; exact hk)]⟩
   | succ j =>
     obtain ⟨es, h1, h2⟩ := ih (by simpa using hj)
     refine ⟨es, h1, fun k hk => ?_⟩
     rw [List.getElem?_append_right (by rw [h.len]; omega), h.len, show (j + 1) * 7 + k - 7 = j * 7 + k by omega]
     exact h2 k hk
end
def RPol (w : World) (b0 : Nat) (A : Option Addr) (ts : List TermD) : Prop := ∃ cs, Rd w w.heap.size 7 A ts.length cs ∧ TCs w b0 ts cs
section
variable {w w' : World} {b0 b1 : Nat} {A : Option Addr} {ts : List TermD}
theorem RPol.up (h : RPol w b0 A ts) (hb : Below w.heap.size w w') : RPol w' b0 A ts := let ⟨cs, h1, h2⟩ := h; ⟨cs, h1.up hb, h2.up hb⟩
theorem RPol.nil (w : World) (b0 : Nat) (A : Option Addr) : RPol w b0 A [] := ⟨[], Rd.nil, .nil⟩
theorem RPol.at_ (h : RPol w b0 A ts) {j : Nat} (hj : j < ts.length) : ∃ (ad : Addr) (es : List Value), A = some ad ∧ ad.block < w.heap.size ∧ TC w b0 ts[j] es ∧ ∀ k u, es[k]? = some u → w.cell? (ad.add (j * 7 + k)) = some u := by
 obtain ⟨cs, h1, h2⟩ := h
 obtain ⟨ad, e, hb, hc⟩ := h1.2 (by omega)
 obtain ⟨es, h3, h4⟩ := h2.at_ hj
 refine ⟨ad, es, e, hb, h3, fun k u hu => hc _ _ ?_⟩
 have hk : k < 7 := by
  rcases Nat.lt_or_ge k 7 with h | h
  ·exact h
  ·rw [List.getElem?_eq_none (by rw [h3.len]; exact h)] at hu; cases hu
 rw [h4 k hk, hu]
theorem add_pos (ad : Addr) (n k : Nat) (hk : 0 < k) : ad.add (n + k) = ⟨(ad.add n).block, (ad.add n).off + k, none⟩ := by
 unfold Addr.add
 rw [if_neg (by omega)]
 split
 ·subst_vars; simp
 ·simp [Nat.add_assoc]
theorem RPol.get (h : RPol w b0 A ts) {j : Nat} (hj : j < ts.length) : ∃ (ad : Addr) (B1 : Option Addr) (c1 : Nat) (B2 : Option Addr) (c2 : Nat) (t : TermD), A = some ad ∧ ad.block < w.heap.size ∧ Hd (ts[j]? = some t) ∧
    Hd (RTerm w b0 (.agg #[.bool t.c.neg, .slice B1 t.c.num.length c1, .slice B2 t.c.den.length c2, .int .i64 t.m.x0, .int .i64 t.m.x1, .int .i64 t.m.x2, .int .i64 t.m.x3]) t) ∧
    w.cell? (ad.add (j * 7)) = some (.bool t.c.neg) ∧ w.cell? ⟨(ad.add (j * 7)).block, (ad.add (j * 7)).off + 1, none⟩ = some (.slice B1 t.c.num.length c1) ∧ w.cell? ⟨(ad.add (j * 7)).block, (ad.add (j * 7)).off + 2, none⟩ = some (.slice B2 t.c.den.length c2) ∧
    w.cell? ⟨(ad.add (j * 7)).block, (ad.add (j * 7)).off + 3, none⟩ = some (.int .i64 t.m.x0) ∧ w.cell? ⟨(ad.add (j * 7)).block, (ad.add (j * 7)).off + 4, none⟩ = some (.int .i64 t.m.x1) ∧ w.cell? ⟨(ad.add (j * 7)).block, (ad.add (j * 7)).off + 5, none⟩ = some (.int .i64 t.m.x2) ∧ w.cell? ⟨(ad.add (j * 7)).block, (ad.add (j * 7)).off + 6, none⟩ = some (.int .i64 t.m.x3) := by
 obtain ⟨ad, es, e, hb, ⟨B1, c1, B2, c2, rfl, k1, k2, k3, k4⟩, hc⟩ := h.at_ hj
 refine ⟨ad, B1, c1, B2, c2, ts[j], e, hb, ⟨ai hj⟩, ⟨B1, c1, B2, c2, rfl, k1, k2, k3, k4⟩, hc 0 _ rfl, ?_, ?_, ?_, ?_, ?_, ?_⟩
 ·rw [← add_pos _ _ 1 (by omega)]; exact hc 1 _ rfl
 ·rw [← add_pos _ _ 2 (by omega)]; exact hc 2 _ rfl
 ·rw [← add_pos _ _ 3 (by omega)]; exact hc 3 _ rfl
 ·rw [← add_pos _ _ 4 (by omega)]; exact hc 4 _ rfl
 ·rw [← add_pos _ _ 5 (by omega)]; exact hc 5 _ rfl
 ·rw [← add_pos _ _ 6 (by omega)]; exact hc 6 _ rfl
end
def tz : TermD := ⟨zeroD, zeroM⟩
def okAt (order : Int) (ts : List TermD) (i : Nat) : Bool := right (ts.getD i tz) && !decide ((ts.getD i tz).c.num.length = 0) && (decide (i = 0) || decide (0 < monCmp order (ts.getD (i - 1) tz).m (ts.getD i tz).m))
def polMay (order : Int) (ts : List TermD) : Bool := (List.range ts.length).all (okAt order ts) && (ordered order && decide (ts.length ≤ 60))
def shortP (ts : List TermD) : Prop := ts.length ≤ 1000000 ∧ ∀ t ∈ ts, t.c.short
theorem polMay_no {order : Int} {ts : List TermD} {i : Nat} (h : i < ts.length) (e : okAt order ts i = false) : polMay order ts = false := by
 unfold polMay
 rw [Bool.and_eq_false_iff]
 left
 rw [List.all_eq_false]
 exact ⟨i, List.mem_range.2 h, by rw [e]; simp⟩
theorem all_succ {f : Nat → Bool} {i : Nat} (h : (List.range i).all f = true) (e : f i = true) : (List.range (i + 1)).all f = true := by
 rw [List.range_succ, List.all_append, h, List.all_cons, e]; rfl
theorem poly_May (b0 : Nat) (order : Int) (A : Option Addr) (c : Nat) (ts : List TermD) (w : World) (h : RPol w b0 A ts) (hc : ts.length ≤ c) (hs : shortP ts) :
    Calls Tryz.prog 91 #[.int .i64 order, .slice A ts.length c] w fun e w' => e = .returned (.bool (polMay order ts)) ∧ Below w.heap.size w w' := by
 have HP := aa h
 have HS := aa hs
 have hl := hs.1
 clear h hs
 go_enter Tryz.func91, Tryz.ntmps91
 go_wp2_with fail
 go_loopw [9] (fun v9 wr => ∃ i : Nat, v9 = .int .i64 i ∧ i ≤ ts.length ∧ Hd (Below w.heap.size w wr) ∧ Hd ((List.range i).all (okAt order ts) = true)) (fun v _ => ts.length - (intOf v).toNat)
 case atStart => exact ⟨0, rfl, by omega, ⟨.refl _ _⟩, ⟨rfl⟩⟩
 case round =>
  obtain ⟨i, rfl, hi, hb, ha⟩ := hrel
  by_cases hlt : i < ts.length
  ·have i2 : (i : Int) < ts.length := by omega
   have i3 : (0 : Int) ≤ i := by omega
   obtain ⟨ad, B1, c1, B2, c2, t, rfl, hab, ht, hrt, q0, q1, q2, q3, q4, q5, q6⟩ := (HP.out.up hb.out).get hlt
   go_upto_region 4 with (fail)
   refine wp_gen (fun W => Below wr.heap.size wr W ∧ Bk W wr.heap.size 68 #[.bool t.c.neg, .slice B1 t.c.num.length c1, .slice B2 t.c.den.length c2, .int .i64 t.m.x0, .int .i64 t.m.x1, .int .i64 t.m.x2, .int .i64 t.m.x3]) ⟨(ag _ _).alloc (ae _) _, Bk.new_ _ _ _⟩ ?_
   intro W BK
   obtain ⟨⟨k0, k1, k2⟩, k3, k4, k5, k6⟩ := BK.out.2.seven
   have k0 := Wd.cell k0
   have k1 := Wd.cell k1
   have k2 := Wd.cell k2
   have k3 := Wd.cell k3
   have k4 := Wd.cell k4
   have k5 := Wd.cell k5
   have k6 := Wd.cell k6
   have BX : Hd (Below wr.heap.size wr W) := ⟨BK.out.1⟩
   have HBW := aa (goes hb.out BX.out)
   clear BK q0 q1 q2 q3 q4 q5 q6
   obtain ⟨gb, hgb⟩ : ∃ gb, wr.heap.size = gb := ⟨_, rfl⟩
   rw [hgb] at k0 k1 k2 k3 k4 k5 k6 ⊢
   clear hgb
   have hst := (HS.out.2 t (List.mem_of_getElem? ht.out))
   have hgt : ts.getD i tz = t := by rw [List.getD_eq_getElem?_getD, ht.out]; rfl
   have HRR : Hd (RRat wr b0 (.agg #[.bool t.c.neg, .slice B1 t.c.num.length c1, .slice B2 t.c.den.length c2]) t.c) := ⟨by
    obtain ⟨x1, x2, x3, x4, e, y1, y2, y3, y4⟩ := hrt.out
    simp only [Value.agg.injEq, Array.mk.injEq, List.cons.injEq, Value.slice.injEq, true_and, and_true] at e
    obtain ⟨⟨rfl, rfl⟩, rfl, rfl⟩ := e
    exact ⟨_, _, _, _, rfl, y1, y2, y3, y4⟩⟩
   have C1 := aa (fun n : Wd W => poly_right b0 _ t n.w (hrt.out.up (goes BX.out n.lo)) hst)
   have C2 := aa (fun n : Wd W => ratio_Zero b0 _ t.c n.w (HRR.out.up (goes BX.out n.lo)))
   clear hst HRR hrt
   have HO : Hd (okAt order ts i = (right t && !decide (t.c.num.length = 0) && (decide (i = 0) || decide (0 < monCmp order (ts.getD (i - 1) tz).m t.m)))) := ⟨by unfold okAt; rw [hgt]⟩
   clear hgt ht
   have hcase : ((right t = false ∨ (right t = true ∧ decide (t.c.num.length = 0) = true)) ∧ okAt order ts i = false) ∨ (right t = true ∧ decide (t.c.num.length = 0) = false) := by
    rw [HO.out]
    cases right t <;> cases decide (t.c.num.length = 0) <;> simp
   rcases hcase with ⟨hc1, hbad⟩ | ⟨g1, g2⟩
   ·have HN := aa (polMay_no (order := order) hlt hbad)
    clear hbad HO
    rcases hc1 with g1 | ⟨g1, g2⟩
    all_goals
     rw [g1] at C1
     first | rw [g2] at C2 | skip
     clear g1
     go_wp2_with fail
     refine wp_region_wd W (by kernel_rfl) (by kernel_rfl) (ag _ _).drew ?_
     repeat (go_big_quiet_step ((first
                 | (go_at_call 164; exact Wd.call (C1.out _))
                 | (go_at_call 165; exact Wd.call (C2.out _)))))
     refine wd_nil fun nq => ?_
     go_wp2_with fail
     go_ret
     exact ⟨retBool HN.out.symm, goes HBW.out nq.lo⟩
   rw [g1] at C1 HO
   rw [g2] at C2 HO
   clear g1 g2
   rcases Nat.eq_zero_or_pos i with hi0 | hi0
   ·have HE : Hd (okAt order ts i = true) := ⟨by rw [HO.out, decide_eq_true hi0]; rfl⟩
    have z2 : decide (0 < i) = false := decide_eq_false (by omega)
    clear HO hi0
    go_wp2_with fail
    refine wp_region_wd W (by kernel_rfl) (by kernel_rfl) (ag _ _).drew ?_
    repeat (go_big_quiet_step ((first
                | (go_at_call 164; exact Wd.call (C1.out _))
                | (go_at_call 165; exact Wd.call (C2.out _)))))
    refine wd_nil fun nq => ?_
    go_wp2_with fail
    go_roundw
    case measure => first | (simp [intOf]; done) | (simp [intOf]; omega)
    case rel => exact ⟨i + 1, by go_num, by omega, ⟨goes HBW.out nq.lo⟩, ⟨all_succ ha.out HE.out⟩⟩
   obtain ⟨j, rfl⟩ : ∃ j, i = j + 1 := ⟨i - 1, by omega⟩
   have n1 : IntKind.i64.wrap (((j + 1 : Nat) : Int) - 1) = j := by rw [IntKind.wrap_i64]; omega
   have n2 : (0 : Int) ≤ j := by omega
   have n3 : (j : Int) < ts.length := by omega
   obtain ⟨ad', D1, d1, D2, d2, s, e, _, hs, _, r0, r1, r2, r3, r4, r5, r6⟩ := (HP.out.up HBW.out).get (show j < ts.length by omega)
   cases e
   obtain ⟨m0, m1, m2, m3, m4, m5, m6⟩ := Wd.at7 r0 r1 r2 r3 r4 r5 r6
   have C3 := aa (fun n : Wd W => (mono_Cmp order s.m t.m n.w).mono fun _ _ h => af h.1 h.2.lo)
   have hs' : ts.getD (j + 1 - 1) tz = s := by rw [List.getD_eq_getElem?_getD, show j + 1 - 1 = j from rfl, hs.out]; rfl
   rw [hs'] at HO
   generalize monCmp order s.m t.m = K at C3 HO
   clear r0 r1 r2 r3 r4 r5 r6 hs hs' m0 m1 m2
   by_cases hK : K ≤ 0
   ·have HE := aa (polMay_no (order := order) hlt (by rw [HO.out, decide_eq_false (show ¬ 0 < K by omega)]; simp))
    clear HO
    go_wp2_with fail
    refine wp_region_wd W (by kernel_rfl) (by kernel_rfl) (ag _ _).drew ?_
    repeat (go_big_quiet_step ((first
                | (go_at_call 164; exact Wd.call (C1.out _))
                | (go_at_call 165; exact Wd.call (C2.out _))
                | (go_at_call 115; exact Wd.call (C3.out _)))))
    refine wd_nil fun nq => ?_
    go_wp2_with fail
    go_ret
    exact ⟨retBool HE.out.symm, goes HBW.out nq.lo⟩
   ·have HE : Hd (okAt order ts (j + 1) = true) := ⟨by rw [HO.out, decide_eq_true (show 0 < K by omega)]; simp⟩
    clear HO
    go_wp2_with fail
    refine wp_region_wd W (by kernel_rfl) (by kernel_rfl) (ag _ _).drew ?_
    repeat (go_big_quiet_step ((first
                | (go_at_call 164; exact Wd.call (C1.out _))
                | (go_at_call 165; exact Wd.call (C2.out _))
                | (go_at_call 115; exact Wd.call (C3.out _)))))
    refine wd_nil fun nq => ?_
    go_wp2_with fail
    go_roundw
    case measure => first | (simp [intOf]; done) | (simp [intOf]; omega)
    case rel => exact ⟨j + 1 + 1, by go_num, by omega, ⟨goes HBW.out nq.lo⟩, ⟨all_succ ha.out HE.out⟩⟩
  ·have hie : i = ts.length := by omega
   subst hie
   have CO := aa (poly_ordered order wr)
   have HE : Hd (polMay order ts = (ordered order && decide (ts.length ≤ 60))) := ⟨by unfold polMay; rw [ha.out]; rfl⟩
   cases ho : ordered order
   ·rw [ho] at CO HE
    clear ho
    go_wp2_with fail
    refine CO.out.mono ?_
    rintro e w' ⟨rfl, rfl⟩
    go_wp2_with fail
    go_ret
    exact ⟨retBool HE.out.symm, hb.out⟩
   ·rw [ho] at CO HE
    have n6 : decide ((ts.length : Int) ≤ 60) = decide (ts.length ≤ 60) := by congr 1; apply propext; omega
    clear ho
    go_wp2_with fail
    refine CO.out.mono ?_
    rintro e w' ⟨rfl, rfl⟩
    go_wp2_with fail
    go_ret
    refine ⟨retBool ?_, hb.out⟩
    rw [HE.out]
    first | exact n6 | simp
theorem Make_1 (b0 : Nat) (v : Value) (t : TermD) (w : World) (h : RTerm w b0 v t) (hs : t.c.short) :
    Calls Tryz.prog 235 #[v] w fun e w' => e = .returned (.bool (!right t)) ∧ Below w.heap.size w w' := by
 have C1 := aa (fun W (hB : Hd (Below w.heap.size w W)) => poly_right b0 v t W (h.up hB.out) hs)
 obtain ⟨A, c, B, d, rfl, h1, h2, h3, h4⟩ := h
 clear h3 h4
 go_enter Tryz.func235, Tryz.ntmps235
 go_wp2_with fail
 refine (C1.out _ ⟨(ag _ _).alloc (ae _) _⟩).mono ?_
 rintro e w4 ⟨rfl, hb4⟩
 have HB := aa (((ag w.heap.size w).alloc (ae _) (Obj.cells #[.bool t.c.neg, .slice A t.c.num.length c, .slice B t.c.den.length d, .int .i64 t.m.x0, .int .i64 t.m.x1, .int .i64 t.m.x2, .int .i64 t.m.x3] 68)).trans (hb4.mono (by simp)))
 clear hb4
 go_wp2_with fail
 go_ret
 exact ⟨rfl, HB.out⟩
def anyOdd (ts : List TermD) : Bool := ts.any fun t => !right t
theorem index_odd (b0 : Nat) (A : Option Addr) (c : Nat) (ts : List TermD) (w : World) (h : RPol w b0 A ts) (hn : ts.length ≤ c) (hs : shortP ts) :
    Calls Tryz.prog 280 #[.slice A ts.length c, .func (.func 235) #[] #[]] w fun e w' => ∃ i : Int, e = .returned (.int .i64 i) ∧ decide (0 ≤ i) = anyOdd ts ∧ Below w.heap.size w w' := by
 have H := aa h
 have HS := aa hs
 have hl := hs.1
 clear h hs
 go_enter Tryz.func280, Tryz.ntmps280
 go_wp2_with fail
 go_loopw [8] (fun v wr => ∃ i : Nat, v = .int .i64 i ∧ i ≤ ts.length ∧ Hd (anyOdd (ts.take i) = false) ∧ Hd (Below w.heap.size w wr)) (fun v _ => ts.length - (intOf v).toNat)
 case atStart => exact ⟨0, rfl, by omega, ⟨rfl⟩, ⟨.refl _ _⟩⟩
 case round =>
  obtain ⟨i, rfl, hi, ht, hb⟩ := hrel
  by_cases hlt : i < ts.length
  ·obtain ⟨ad, B1, c1, B2, c2, t, rfl, hab, hti, hrt, q0, q1, q2, q3, q4, q5, q6⟩ := (H.out.up hb.out).get hlt
   have i2 : (i : Int) < ts.length := by omega
   have i3 : (0 : Int) ≤ i := by omega
   have hst := HS.out.2 t (List.mem_of_getElem? hti.out)
   have CB := aa (Make_1 b0 _ t wr hrt.out hst)
   have hsn : Hd (anyOdd (ts.take (i + 1)) = (anyOdd (ts.take i) || !right t)) := ⟨by
    rw [List.take_add_one, hti.out, anyOdd, List.any_append]; simp [anyOdd]⟩
   clear hst hrt
   cases h8 : right t
   ·rw [h8] at CB hsn
    clear h8
    go_wp2_with fail
    refine CB.out.mono ?_
    rintro e w' ⟨rfl, hb2⟩
    have HB := aa (hb.out.trans (hb2.mono hb.out.size))
    clear hb2 q0 q1 q2 q3 q4 q5 q6
    go_wp2_with fail
    go_ret
    refine ⟨_, rfl, ?_, HB.out⟩
    have h1 := hsn.out
    rw [Bool.not_false, Bool.or_true] at h1
    rw [decide_eq_true (by omega : (0 : Int) ≤ i)]
    conv => rhs; rw [← List.take_append_drop (i + 1) ts]
    rw [anyOdd, List.any_append, show (List.take (i + 1) ts).any (fun t => !right t) = true from h1]; rfl
   ·rw [h8] at CB hsn
    clear h8
    go_wp2_with fail
    refine CB.out.mono ?_
    rintro e w' ⟨rfl, hb2⟩
    have HB := aa (hb.out.trans (hb2.mono hb.out.size))
    clear hb2 q0 q1 q2 q3 q4 q5 q6
    go_wp2_with fail
    go_roundw
    case measure => first | (simp [intOf]; done) | (simp [intOf]; omega)
    case rel => exact ⟨i + 1, by go_num, by omega, ⟨by rw [hsn.out, ht.out]; rfl⟩, HB⟩
  ·have hie : i = ts.length := by omega
   subst hie
   go_wp2_with fail
   go_ret
   refine ⟨_, rfl, ?_, hb.out⟩
   have := ht.out
   rw [List.take_length] at this
   rw [this]; rfl
theorem contains_odd (b0 : Nat) (A : Option Addr) (c : Nat) (ts : List TermD) (w : World) (h : RPol w b0 A ts) (hn : ts.length ≤ c) (hs : shortP ts) :
    Calls Tryz.prog 236 #[.slice A ts.length c, .func (.func 235) #[] #[]] w fun e w' => e = .returned (.bool (anyOdd ts)) ∧ Below w.heap.size w w' := by
 have hi := aa (index_odd b0 A c ts w h hn hs)
 clear h hs
 go_enter Tryz.func236, Tryz.ntmps236
 go_wp2_with fail
 refine hi.out.mono ?_
 rintro e w' ⟨i, rfl, hib, hb⟩
 have HIB := aa hib
 have HB := aa hb
 clear hib hb
 go_wp2_with fail
 go_ret
 exact ⟨retBool HIB.out, HB.out⟩
theorem Make_2 (g : Nat) (order : Int) (s t : TermD) (A B A' B' : Option Addr) (c d c' d' : Nat) (w : World) (hg : w.cell? ⟨g, 0, none⟩ = some (.int .i64 order)) :
    Calls Tryz.prog 239 #[.agg #[.bool s.c.neg, .slice A s.c.num.length c, .slice B s.c.den.length d, .int .i64 s.m.x0, .int .i64 s.m.x1, .int .i64 s.m.x2, .int .i64 s.m.x3], .agg #[.bool t.c.neg, .slice A' t.c.num.length c', .slice B' t.c.den.length d', .int .i64 t.m.x0, .int .i64 t.m.x1, .int .i64 t.m.x2, .int .i64 t.m.x3], .pointer (some ⟨g, 0, none⟩)] w fun e w' => e = .returned (.int .i64 (monCmp order t.m s.m)) ∧ Blw w.heap.size w w' := by
 have C1 := aa (fun W => mono_Cmp order t.m s.m W)
 have hg2 := cell_up (cell_up hg ((ag w.heap.size w).alloc (ae _) (Obj.cells #[.bool s.c.neg, .slice A s.c.num.length c, .slice B s.c.den.length d, .int .i64 s.m.x0, .int .i64 s.m.x1, .int .i64 s.m.x2, .int .i64 s.m.x3] 68))) ((ag _ _).alloc (ae _) (Obj.cells #[.bool t.c.neg, .slice A' t.c.num.length c', .slice B' t.c.den.length d', .int .i64 t.m.x0, .int .i64 t.m.x1, .int .i64 t.m.x2, .int .i64 t.m.x3] 68))
 go_enter Tryz.func239, Tryz.ntmps239
 go_wp2_with fail
 refine (C1.out _).mono ?_
 rintro e w4 ⟨rfl, hb4⟩
 have HB := aa ((((Blw.refl w.heap.size w).alloc (ae _) (Obj.cells #[.bool s.c.neg, .slice A s.c.num.length c, .slice B s.c.den.length d, .int .i64 s.m.x0, .int .i64 s.m.x1, .int .i64 s.m.x2, .int .i64 s.m.x3] 68)).alloc (by simp) (Obj.cells #[.bool t.c.neg, .slice A' t.c.num.length c', .slice B' t.c.den.length d', .int .i64 t.m.x0, .int .i64 t.m.x1, .int .i64 t.m.x2, .int .i64 t.m.x3] 68)).trans (hb4.mono (by simp; omega)))
 clear hb4
 go_wp2_with fail
 go_ret
 exact ⟨rfl, HB.out⟩
end Go.Proofs.YtgjkgkgieeoalaaGreat
namespace Go.Proofs.YtgjkgkgieeoalaaGreat
def insD (o : Int) (t : TermD) : List TermD → List TermD
 | [] => [t]
 | p :: r => if monCmp o p.m t.m < 0 then t :: p :: r else p :: insD o t r
def hasM (al : List TermD) (m : MonD) : Bool := al.any fun p => decide (p.m = m)
def getM (al : List TermD) (m : MonD) : RatD := ((al.find? fun p => decide (p.m = m)).map (·.c)).getD zeroD
def setM (al : List TermD) (m : MonD) (c : RatD) : List TermD := al.map fun p => if p.m = m then ⟨c, m⟩ else p
def putD (o : Int) (al : List TermD) (t : TermD) : Int × List TermD :=
 if hasM al t.m = true then (if (addD (getM al t.m) t.c).1 ≠ 0 then ((addD (getM al t.m) t.c).1, []) else (0, setM al t.m (addD (getM al t.m) t.c).2)) else (0, insD o t al)
def putAll (o : Int) : List TermD → List TermD → Int × List TermD
 | al, [] => (0, al)
 | al, t :: ts => if (putD o al t).1 ≠ 0 then ((putD o al t).1, []) else putAll o (putD o al t).2 ts
def nz (t : TermD) : Bool := !decide (t.c.num.length = 0)
def polMake (o : Int) (ts : List TermD) : Int × List TermD :=
 if (ordered o && !anyOdd ts) = false then (1, []) else if (putAll o [] ts).1 ≠ 0 then ((putAll o [] ts).1, []) else if 60 < ((putAll o [] ts).2.filter nz).length then (90, []) else (0, (putAll o [] ts).2.filter nz)
def Fall (o : Int) (al : List TermD) : Prop := al.Pairwise fun p q => 0 < monCmp o p.m q.m
def GoodM (al : List TermD) : Prop := ∀ t ∈ al, monMay t.m = true
structure Sta (o : Int) (al : List TermD) : Prop where
 ord : oOk o
 good : GoodM al
 fall : Fall o al
theorem ordered_ok {o : Int} : ordered o = true ↔ oOk o := by unfold ordered oOk; simp
theorem insD_perm (o : Int) (t : TermD) : ∀ al, (insD o t al).Perm (t :: al)
 | [] => .refl _
 | p :: r => by
   unfold insD
   split
   ·exact .refl _
   ·exact ((insD_perm o t r).cons p).trans (.swap _ _ _)
theorem mem_insD {o : Int} {s t : TermD} {al : List TermD} : s ∈ insD o t al ↔ s = t ∨ s ∈ al := by
 rw [(insD_perm o t al).mem_iff, List.mem_cons]
theorem Sta.ins {o : Int} {al : List TermD} (h : Sta o al) {t : TermD} (ht : monMay t.m = true) (hn : ∀ p ∈ al, p.m ≠ t.m) : Sta o (insD o t al) := by
 refine ⟨h.ord, fun s hs => ?_, ?_⟩
 ·rcases mem_insD.1 hs with rfl | hs
  ·exact ht
  ·exact h.good s hs
 ·obtain ⟨ho, hg, hf⟩ := h
  induction al with
  | nil => exact List.pairwise_singleton _ _
  | cons p r ih =>
    obtain ⟨h1, h2⟩ := List.pairwise_cons.1 hf
    have hp := hg p (by simp)
    unfold insD
    split
    ·rename_i hlt
     refine List.pairwise_cons.2 ⟨fun q hq => ?_, hf⟩
     have h3 : 0 < monCmp o t.m p.m := by have := monCmp_anti ho hp ht; omega
     rcases List.mem_cons.1 hq with rfl | hq
     ·exact h3
     ·exact monCmp_gt ho ht hp (hg q (by simp [hq])) h3 (h1 q hq)
    ·rename_i hlt
     refine List.pairwise_cons.2 ⟨fun q hq => ?_, ih (fun s hs => hn s (by simp [hs])) (fun s hs => hg s (by simp [hs])) h2⟩
     rcases mem_insD.1 hq with rfl | hq
     ·have := (not_congr (monCmp_zero ho hp ht)).2 (hn p (by simp))
      omega
     ·exact h1 q hq
theorem hasM_iff {al : List TermD} {m : MonD} : hasM al m = true ↔ ∃ p ∈ al, p.m = m := by unfold hasM; simp
theorem hasM_not {al : List TermD} {m : MonD} (h : hasM al m = false) : ∀ p ∈ al, p.m ≠ m := fun p hp e => by
 have := hasM_iff.2 ⟨p, hp, e⟩
 rw [h] at this; cases this
theorem getM_of {al : List TermD} {m : MonD} (h : hasM al m = true) : ∃ p ∈ al, p.m = m ∧ getM al m = p.c := by
 unfold getM
 cases hf : al.find? fun p => decide (p.m = m) with
 | none =>
   obtain ⟨p, hp, e⟩ := hasM_iff.1 h
   have := List.find?_eq_none.1 hf p hp
   simp [e] at this
 | some p => exact ⟨p, List.mem_of_find?_eq_some hf, by simpa using List.find?_some hf, rfl⟩
theorem setM_keys (al : List TermD) (m : MonD) (c : RatD) : (setM al m c).map (·.m) = al.map (·.m) := by
 unfold setM
 rw [List.map_map]
 refine List.map_congr_left fun p _ => ?_
 simp only [Function.comp]
 split
 ·rename_i h; exact h.symm
 ·rfl
theorem fall_keys {o : Int} {al bl : List TermD} (h : al.map (·.m) = bl.map (·.m)) (hf : Fall o al) : Fall o bl := by
 unfold Fall at *
 have h1 : (al.map (·.m)).Pairwise fun a b => 0 < monCmp o a b := List.pairwise_map.2 hf
 rw [h] at h1
 exact List.pairwise_map.1 h1
theorem good_keys {al bl : List TermD} (h : al.map (·.m) = bl.map (·.m)) (hg : GoodM al) : GoodM bl := fun t ht => by
 have : t.m ∈ al.map (·.m) := by rw [h]; exact List.mem_map.2 ⟨t, ht, rfl⟩
 obtain ⟨s, hs, e⟩ := List.mem_map.1 this
 rw [← e]; exact hg s hs
theorem Sta.set {o : Int} {al : List TermD} (h : Sta o al) (m : MonD) (c : RatD) : Sta o (setM al m c) :=
 ⟨h.ord, good_keys (setM_keys al m c).symm h.good, fall_keys (setM_keys al m c).symm h.fall⟩
theorem mem_setM {al : List TermD} {m : MonD} {c : RatD} (hh : hasM al m = true) {s : TermD} : s ∈ setM al m c ↔ s = ⟨c, m⟩ ∨ (s ∈ al ∧ s.m ≠ m) := by
 unfold setM
 rw [List.mem_map]
 constructor
 ·rintro ⟨p, hp, rfl⟩
  split
  ·exact .inl rfl
  ·rename_i h; exact .inr ⟨hp, h⟩
 ·rintro (rfl | ⟨hs, hm⟩)
  ·obtain ⟨p, hp, e⟩ := hasM_iff.1 hh
   exact ⟨p, hp, by rw [if_pos e]⟩
  ·exact ⟨s, hs, by rw [if_neg hm]⟩
theorem Sta.nil {o : Int} (h : oOk o) : Sta o [] := ⟨h, (fun _ h => by cases h), List.Pairwise.nil⟩
theorem Sta.inj {o : Int} {al : List TermD} (h : Sta o al) {s t : TermD} (hs : s ∈ al) (ht : t ∈ al) (e : s.m = t.m) : s = t := by
 obtain ⟨ho, hg, hf⟩ := h
 induction al with
 | nil => cases hs
 | cons p r ih =>
   obtain ⟨h1, h2⟩ := List.pairwise_cons.1 hf
   have key : ∀ q ∈ r, q.m ≠ p.m := fun q hq e => by
    have := h1 q hq
    rw [(monCmp_zero ho (hg p (by simp)) (hg q (by simp [hq]))).2 e.symm] at this
    omega
   rcases List.mem_cons.1 hs with es | hs'
   ·rcases List.mem_cons.1 ht with et | ht'
    ·rw [es, et]
    ·exact absurd (by rw [← e, es]) (key _ ht')
   ·rcases List.mem_cons.1 ht with et | ht'
    ·exact absurd (by rw [e, et]) (key _ hs')
    ·exact ih hs' ht' (fun q hq => hg q (by simp [hq])) h2
theorem Sta.putD {o : Int} {al : List TermD} (h : Sta o al) {t : TermD} (ht : monMay t.m = true) (he : (putD o al t).1 = 0) : Sta o (putD o al t).2 := by
 revert he
 unfold Go.Proofs.YtgjkgkgieeoalaaGreat.putD
 by_cases hh : hasM al t.m = true
 ·rw [if_pos hh]
  by_cases h0 : (addD (getM al t.m) t.c).1 ≠ 0
  ·rw [if_pos h0]; intro he; exact absurd he h0
  ·rw [if_neg h0]; intro _; exact h.set _ _
 ·rw [if_neg hh]; intro _; exact h.ins ht (hasM_not (by simpa using hh))
theorem fall_eq {o : Int} : ∀ {l m : List TermD}, oOk o → GoodM l → Fall o l → Fall o m → l.Perm m → l = m
 | [], m, _, _, _, _, hp => (List.nil_perm.1 hp).symm
 | x :: l, [], _, _, _, _, hp => by have := hp.length_eq; simp at this
 | x :: l, y :: m, ho, hg, h1, h2, hp => by
   obtain ⟨a1, a2⟩ := List.pairwise_cons.1 h1
   obtain ⟨b1, b2⟩ := List.pairwise_cons.1 h2
   have hxm : x ∈ y :: m := hp.mem_iff.1 (by simp)
   have hym : y ∈ x :: l := hp.mem_iff.2 (by simp)
   have hgx := hg x (by simp)
   have hgy := hg y hym
   have e : x = y := by
    rcases List.mem_cons.1 hxm with h | h
    ·exact h
    ·rcases List.mem_cons.1 hym with h' | h'
     ·exact h'.symm
     ·have c1 := b1 x h
      have c2 := a1 y h'
      have := monCmp_anti ho hgx hgy
      omega
   subst e
   rw [fall_eq ho (fun t ht => hg t (by simp [ht])) a2 b2 (List.Perm.cons_inv hp)]
theorem Fall.filter {o : Int} {l : List TermD} (h : Fall o l) (p : TermD → Bool) : Fall o (l.filter p) := List.Pairwise.filter p h
theorem insD_len (o : Int) (t : TermD) (al : List TermD) : (insD o t al).length = al.length + 1 := (insD_perm o t al).length_eq
theorem putAll_le (o : Int) : ∀ (ts al bl : List TermD), putAll o al ts = (0, bl) → bl.length ≤ al.length + ts.length
 | [], al, bl, h => by
   unfold putAll at h
   injection h with _ h
   rw [h]; simp
 | t :: ts, al, bl, h => by
   unfold putAll at h
   by_cases h0 : (putD o al t).1 ≠ 0
   ·rw [if_pos h0] at h
    injection h with h _
    exact absurd h h0
   ·rw [if_neg h0] at h
    have h1 := putAll_le o ts _ bl h
    have h2 : (putD o al t).2.length ≤ al.length + 1 := by
     unfold putD
     split
     ·split
      ·simp
      ·simp [setM]
     ·rw [insD_len]; exact ae _
    rw [List.length_cons]
    omega
theorem putAll_len {o : Int} {ts al : List TermD} (h : putAll o [] ts = (0, al)) : al.length ≤ ts.length := by
 have := putAll_le o ts [] al h
 simpa using this
end Go.Proofs.YtgjkgkgieeoalaaGreat
