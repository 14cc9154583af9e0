/- Parts of the proof, joined: each theorem says what it shows. -/
import Derived.Test.YtgjkgkgieeoalaaGreatA30
import Derived.Test.YtgjkgkgieeoalaaGreatA31
import Derived.Test.YtgjkgkgieeoalaaGreatA33
import Derived.Test.YtgjkgkgieeoalaaGreatA32
set_option linter.unusedVariables false
set_option linter.unusedSimpArgs false
set_option maxHeartbeats 24000000
set_option maxRecDepth 100000
namespace Go.Proofs.YtgjkgkgieeoalaaGreat
open Go.RowKit
theorem minM_zero {a b : MonD} (ha : monMay a = true) (hb : monMay b = true) : minM a b = zeroM ↔ ∀ i, i < 4 → ¬ (0 < a.l.getD i 0 ∧ 0 < b.l.getD i 0) := by
 obtain ⟨a0, a1, a2, a3⟩ := monMay_of ha
 obtain ⟨b0, b1, b2, b3⟩ := monMay_of hb
 constructor
 ·intro h i hi
  simp only [minM, zeroM, MonD.mk.injEq] at h
  rcases (show i = 0 ∨ i = 1 ∨ i = 2 ∨ i = 3 by omega) with rfl | rfl | rfl | rfl <;> simp only [MonD.l, List.getD_cons_zero, List.getD_cons_succ] <;> omega
 ·intro h
  have h0 := h 0 (by omega)
  have h1 := h 1 (by omega)
  have h2 := h 2 (by omega)
  have h3 := h 3 (by omega)
  simp only [MonD.l, List.getD_cons_zero, List.getD_cons_succ] at h0 h1 h2 h3
  simp only [minM, zeroM, MonD.mk.injEq]
  omega
theorem monCop_no {a b : MonD} {i : Nat} {x y : Int} (hi : i < 4) (hx : a.l.getD i 0 = x) (hy : b.l.getD i 0 = y) (h : 0 < x ∧ 0 < y) : monCop a b = false := by
 unfold monCop
 cases hma : monMay a
 ·rfl
 cases hmb : monMay b
 ·rfl
 simp only [Bool.true_and, decide_eq_false_iff_not, minM_zero hma hmb]
 intro h'
 exact h' i hi (by rw [hx, hy]; exact h)
theorem rmon_Coprime (a b : MonD) (w : World) :
    Calls Tryz.prog 29 #[.agg a.v, .agg b.v] w fun e w' => e = .returned (.bool (monCop a b)) ∧ Below w.heap.size w w' := by
 obtain ⟨E, hE⟩ : ∃ E, monCop a b = E := ⟨_, rfl⟩
 rw [hE]
 have HEQ := Hd.mk hE
 clear hE
 go_enter Tryz.func29, Tryz.ntmps29
 go_upto_region 1 with (fail)
 refine wp_gen (fun W => Bo2 w.heap.size w.heap.size (w.heap.size + 1) w W 66 66 a.v b.v) (Bo2.mk2 w _ _ _ _) ?_
 intro W MU
 generalize w.heap.size + 1 = g2 at MU ⊢
 obtain ⟨p0, p1, p2, p3⟩ := MU.out.k1.four
 have CA := Hd.mk (rmon_May a W)
 cases hma : monMay a
 ·rw [hma] at CA
  have HE : Hd (E = false) := ⟨by rw [← HEQ.out]; unfold monCop; rw [hma]; rfl⟩
  clear hma
  go_wp2_with fail
  refine CA.out.mono ?_
  rintro e w2 ⟨rfl, hb⟩
  have MU2 := Hd.mk (MU.out.up hb)
  clear hb
  go_wp2_with fail
  go_ret
  rw [HE.out]
  exact ⟨rfl, MU2.out.below⟩
 rw [hma] at CA
 have CB := Hd.mk (rmon_May b)
 cases hmb : monMay b
 ·rw [hmb] at CB
  have HE : Hd (E = false) := ⟨by rw [← HEQ.out]; unfold monCop; rw [hma, hmb]; rfl⟩
  clear hma hmb
  go_wp2_with fail
  refine CA.out.mono ?_
  rintro e w2 ⟨rfl, hb⟩
  have MU2 := Hd.mk (MU.out.up hb)
  obtain ⟨s0, s1, s2, s3⟩ := MU2.out.k2.four
  clear hb p0 p1 p2 p3
  go_wp2_with fail
  clear s0 s1 s2 s3
  refine (CB.out _).mono ?_
  rintro e w3 ⟨rfl, hb⟩
  have MU3 := Hd.mk (MU2.out.up hb)
  clear hb
  go_wp2_with fail
  go_ret
  rw [HE.out]
  exact ⟨rfl, MU3.out.below⟩
 rw [hmb] at CB
 have HNO := Hd.mk (fun {i : Nat} {x y : Int} => monCop_no (a := a) (b := b) (i := i) (x := x) (y := y))
 have HYES : Hd ((∀ i, i < 4 → ¬ (0 < a.l.getD i 0 ∧ 0 < b.l.getD i 0)) → E = true) := ⟨fun h => by rw [← HEQ.out]; unfold monCop; rw [hma, hmb]; simpa using (minM_zero hma hmb).2 h⟩
 rw [HEQ.out] at HNO
 clear hma hmb HEQ
 go_wp2_with fail
 refine CA.out.mono ?_
 rintro e w2 ⟨rfl, hb⟩
 have MU2 := Hd.mk (MU.out.up hb)
 obtain ⟨s0, s1, s2, s3⟩ := MU2.out.k2.four
 clear hb p0 p1 p2 p3 CA
 go_wp2_with fail
 clear s0 s1 s2 s3
 refine (CB.out _).mono ?_
 rintro e w3 ⟨rfl, hb⟩
 have MU3 := Hd.mk (MU2.out.up hb)
 clear hb CB MU MU2
 go_wp2_with fail
 go_loopw [5] (fun v wr => ∃ i : Nat, v = .int .i64 i ∧ i ≤ 4 ∧ Hd (Bo2 w.heap.size w.heap.size g2 w wr 66 66 a.v b.v) ∧ Hd (∀ j, j < i → ¬ (0 < a.l.getD j 0 ∧ 0 < b.l.getD j 0))) (fun v _ => 4 - (intOf v).toNat)
 case atStart => exact ⟨0, rfl, by omega, MU3, ⟨fun j h => absurd h (by omega)⟩⟩
 case round =>
  clear MU3
  obtain ⟨i, rfl, hi, MU, HLE⟩ := hrel
  by_cases hlt : i < 4
  ·obtain ⟨x, HX, hcx⟩ := cellM MU.out.k1 hlt
   obtain ⟨y, HY, hcy⟩ := cellM MU.out.k2 hlt
   have i1 : (i : Int) < 4 := by omega
   have i3 : (0 : Int) ≤ i := by omega
   have HE : Hd (0 < x → 0 < y → E = false) := ⟨fun h1 h2 => HNO.out hlt HX.out HY.out ⟨h1, h2⟩⟩
   have HL2 : Hd (¬ (0 < x ∧ 0 < y) → ∀ j, j < i + 1 → ¬ (0 < a.l.getD j 0 ∧ 0 < b.l.getD j 0)) := ⟨fun hn j hj => by
       rcases Nat.lt_or_ge j i with h | h
       ·exact HLE.out j h
       ·obtain rfl : j = i := by omega
        rw [HX.out, HY.out]; exact hn⟩
   by_cases hx : x > 0
   ·by_cases hy : y > 0
    ·have HE2 := Hd.mk (HE.out hx hy)
     clear HNO HE
     go_wp2_with fail
     go_ret
     rw [HE2.out]
     exact ⟨rfl, MU.out.below⟩
    ·have HL3 := Hd.mk (HL2.out (fun h => hy h.2))
     clear HNO HE
     go_wp2_with fail
     go_roundw
     case measure => first | (simp [intOf]; done) | (simp [intOf]; omega)
     case rel => exact ⟨_, by go_num, by omega, MU, HL3⟩
   ·have HL3 := Hd.mk (HL2.out (fun h => hx h.1))
    clear HNO HE
    go_wp2_with fail
    go_roundw
    case measure => first | (simp [intOf]; done) | (simp [intOf]; omega)
    case rel => exact ⟨_, by go_num, by omega, MU, HL3⟩
  ·obtain rfl : i = 4 := by omega
   have HE := Hd.mk (HYES.out HLE.out)
   clear HNO
   go_wp2_with fail
   go_ret
   rw [HE.out]
   exact ⟨rfl, MU.out.below⟩
end Go.Proofs.YtgjkgkgieeoalaaGreat
namespace Go.Proofs.YtgjkgkgieeoalaaGreat
theorem lexC_nonneg : ∀ {l : List Int}, (∀ a ∈ l, 0 ≤ a) → 0 ≤ lexC l (l.map fun _ => 0)
 | [], _ => by simp [lexC]
 | x :: l, h => by
   have ih := lexC_nonneg (l := l) fun a ha => h a (by simp [ha])
   have hx := h x (by simp)
   simp only [List.map_cons, lexC]
   split
   ·have := cmpI_le (x := 0) (y := x)
    unfold cmpI
    split <;> (try split) <;> omega
   ·exact ih
theorem monCmp_zeroM {o : Int} {x : MonD} (ho : oOk o) (hx : monMay x = true) : 0 ≤ monCmp o x zeroM := by
 obtain ⟨h0, h1, h2, h3⟩ := monMay_of hx
 by_cases e : x = zeroM
 ·rw [(monCmp_zero ho hx monMay_zero).2 e]
  exact Int.le_refl _
 rw [monCmp_key ho hx monMay_zero]
 unfold mkey
 have hd := monDeg_of hx
 have hz : monDeg zeroM = 0 := by rw [monDeg_of monMay_zero]; rfl
 have hpos : 0 < monDeg x := by
  rw [hd]
  refine Classical.byContradiction fun hn => e ?_
  cases x
  simp only [zeroM, MonD.mk.injEq] at *
  omega
 have hc : cmpI (monDeg x) 0 = 1 := by
  unfold cmpI
  split <;> (try split) <;> omega
 split
 ·exact lexC_nonneg (l := x.l) fun a ha => by
    simp only [MonD.l, List.mem_cons, List.not_mem_nil, or_false] at ha
    rcases ha with rfl | rfl | rfl | rfl <;> omega
 ·split
  ·rw [hz]
   simp only [lexC, hc]
   rw [if_pos (by decide)]
   decide
  ·rw [hz]
   simp only [lexC, hc]
   rw [if_pos (by decide)]
   decide
theorem monCmp_up {o : Int} {a x : MonD} (ho : oOk o) (ha : monMay a = true) (hx : monMay x = true) (hax : monMay (addM a x) = true) : 0 ≤ monCmp o (addM a x) a := by
 have h := monCmp_mul ho hx monMay_zero ha (by rw [addM_comm]; exact hax) (by rw [addM_comm, addM_zero]; exact ha)
 rw [addM_comm x, addM_comm zeroM, addM_zero] at h
 rw [h]
 exact monCmp_zeroM ho hx
theorem cop_div {o : Int} {F G w q : MonD} (ho : oOk o) (hw : monMay w = true) (hc : monCop F G = true) (hd : monDiv (addM G w) F = (true, q)) : 0 ≤ monCmp o w F := by
 obtain ⟨_, hF, hq, e⟩ := monDiv_true hd
 unfold monCop at hc
 simp only [Bool.and_eq_true, decide_eq_true_eq] at hc
 obtain ⟨⟨_, hG⟩, hm⟩ := hc
 obtain ⟨f0, f1, f2, f3⟩ := monMay_of hF
 obtain ⟨g0, g1, g2, g3⟩ := monMay_of hG
 obtain ⟨w0, w1, w2, w3⟩ := monMay_of hw
 obtain ⟨q0, q1, q2, q3⟩ := monMay_of hq
 simp only [minM, zeroM, MonD.mk.injEq] at hm
 simp only [addM, MonD.mk.injEq] at e
 have hs : monMay (subM w F) = true := monMay_low (by simp only [subM]; omega)
 have hadd : addM F (subM w F) = w := by
  unfold addM subM
  cases w
  simp only [MonD.mk.injEq]
  omega
 have := monCmp_up ho hF hs (by rw [hadd]; exact hw)
 rwa [hadd] at this
theorem lead_at {o : Int} {K : MonD} {c : Rat} {p : List TermD} (hp : CP o p) (hK : monMay K = true) (hc : c ≠ 0) (hG : lin (ind K) p = c) (h0 : ∀ k, monMay k = true → 0 < monCmp o k K → lin (ind k) p = 0) :
    ∃ t p', p = t :: p' ∧ t.m = K ∧ qv t.c = c := by
 have ho := hp.ord
 have hle : ∀ x ∈ p, monCmp o x.m K ≤ 0 := fun x hx => by
  refine Classical.byContradiction fun hn => ?_
  have h1 := lin_ind_mem hp.canon.sta.keys hx
  rw [h0 x.m (hp.canon.good x hx).m (by omega)] at h1
  exact hp.ne hx h1.symm
 have hex : ∃ x ∈ p, x.m = K := by
  refine Classical.byContradiction fun hn => ?_
  rw [lin_ind_not (fun x hx e => hn ⟨x, hx, e⟩)] at hG
  exact hc hG.symm
 obtain ⟨x, hx, ex⟩ := hex
 match p, hp, hle, hx, hG with
 | y :: r, hp, hle, hx, hG =>
   have em : y.m = K := by
    rcases List.mem_cons.1 hx with rfl | hx
    ·exact ex
    ·have h1 := hp.below x hx
     have h2 := hle y (by simp)
     rw [ex] at h1
     omega
   refine ⟨y, r, rfl, em, ?_⟩
   rw [← hG, ← em]
   exact (lin_ind_mem hp.canon.sta.keys (by simp)).symm
theorem lin_top {o : Int} {u v : TermD} {b s : List TermD} (hb : CP o (u :: b)) (hs : Canon o (v :: s)) (hf : ∀ x ∈ v :: s, Fits (u :: b) x.m) :
    linP (ind (addM u.m v.m)) (u :: b) (v :: s) = qv u.c * qv v.c ∧ ∀ k, monMay k = true → 0 < monCmp o k (addM u.m v.m) → linP (ind k) (u :: b) (v :: s) = 0 := by
 have ho := hb.ord
 have gb := hb.canon.sta.good
 have gs := hs.sta.good
 obtain ⟨fs, _⟩ := List.pairwise_cons.1 hs.sta.fall
 have fb := hb.below
 have W := hf v (by simp) u (by simp)
 have lt1 : ∀ x ∈ b, ∀ y ∈ v :: s, monCmp o (addM x.m y.m) (addM u.m y.m) < 0 := fun x hx y hy =>
  mulM_lt ho (gb u (by simp)) (gb x (by simp [hx])) (gs y hy) (hf y hy u (by simp)) (hf y hy x (by simp [hx])) (fb x hx)
 have lt2 : ∀ y ∈ s, monCmp o (addM u.m y.m) (addM u.m v.m) < 0 := fun y hy => by
  have := mulM_lt ho (gs v (by simp)) (gs y (by simp [hy])) (gb u (by simp)) (by rw [addM_comm]; exact W) (by rw [addM_comm]; exact hf y (by simp [hy]) u (by simp)) (fs y hy)
  rwa [addM_comm y.m, addM_comm v.m] at this
 have lt3 : ∀ x ∈ u :: b, ∀ y ∈ s, monCmp o (addM x.m y.m) (addM u.m v.m) < 0 := fun x hx y hy => by
  have hy' : y ∈ v :: s := by simp [hy]
  rcases List.mem_cons.1 hx with rfl | hx
  ·exact lt2 y hy
  ·exact monCmp_lt ho (hf y hy' x (by simp [hx])) (hf y hy' u (by simp)) W (lt1 x hx y hy') (lt2 y hy)
 have ne : ∀ {m : MonD}, monMay m = true → monCmp o m (addM u.m v.m) < 0 → m ≠ addM u.m v.m := fun hm h e => by
  have := (monCmp_zero ho hm W).2 e
  omega
 constructor
 ·unfold linP
  simp only [lin]
  rw [lin_van (p := s) (fun y hy => ?_), lin_van (p := b) (fun x hx => ?_)]
  ·unfold ind
   rw [if_pos rfl]
   grind
  ·unfold ind
   rw [if_neg (ne (hf v (by simp) x (by simp [hx])) (lt1 x hx v (by simp)))]
  ·show qv u.c * ind (addM u.m v.m) (addM u.m y.m) + lin (fun m => ind (addM u.m v.m) (addM m y.m)) b = 0
   have hy' : y ∈ v :: s := by simp [hy]
   rw [lin_van (p := b) (fun x hx => ?_)]
   ·unfold ind
    rw [if_neg (ne (hf y hy' u (by simp)) (lt3 u (by simp) y hy))]
    grind
   ·unfold ind
    rw [if_neg (ne (hf y hy' x (by simp [hx])) (lt3 x (by simp [hx]) y hy))]
 ·intro k hk hgt
  have an := monCmp_anti ho hk W
  refine lin_van fun y hy => lin_van fun z hz => ?_
  unfold ind
  rw [if_neg]
  intro e
  have hle : monCmp o (addM z.m y.m) (addM u.m v.m) ≤ 0 := by
   rcases List.mem_cons.1 hy with rfl | hy
   ·rcases List.mem_cons.1 hz with rfl | hz
    ·exact Int.le_of_eq ((monCmp_zero ho W W).2 rfl)
    ·exact Int.le_of_lt (lt1 z hz y (by simp))
   ·exact Int.le_of_lt (lt3 z hz y hy)
  rw [e] at hle
  omega
theorem mul_ne {a b : Rat} (ha : a ≠ 0) (hb : b ≠ 0) : a * b ≠ 0 := fun h => by
 rcases Rat.mul_eq_zero.1 h with h | h
 ·exact ha h
 ·exact hb h
theorem lead_two {o : Int} {u1 u2 : TermD} {b1 b2 p s1 s2 : List TermD} (hb1 : CP o (u1 :: b1)) (hb2 : CP o (u2 :: b2)) (hco : monCop u1.m u2.m = true) (hp : CP o p) (hs1 : Canon o s1) (hs2 : Canon o s2)
    (f1 : ∀ x ∈ s1, Fits (u1 :: b1) x.m) (f2 : ∀ x ∈ s2, Fits (u2 :: b2) x.m) (l2 : ∀ x ∈ s2, monCmp o x.m u1.m < 0) (hl : ∀ f, lin f p = linP f (u1 :: b1) s1 + linP f (u2 :: b2) s2) :
    p = [] ∨ (∃ v r t p', s1 = v :: r ∧ p = t :: p' ∧ t.m = addM u1.m v.m ∧ qv t.c = qv u1.c * qv v.c) ∨ ∃ w r t p', s2 = w :: r ∧ p = t :: p' ∧ t.m = addM u2.m w.m ∧ qv t.c = qv u2.c * qv w.c := by
 have ho := hb1.ord
 have m1 := (hb1.canon.good u1 (by simp)).m
 have m2 := (hb2.canon.good u2 (by simp)).m
 have c1 := hb1.ne (t := u1) (by simp)
 have c2 := hb2.ne (t := u2) (by simp)
 cases s1 with
 | nil =>
   have hl' : ∀ f, lin f p = linP f (u2 :: b2) s2 := fun f => by rw [hl]; show 0 + _ = _; grind
   cases s2 with
   | nil => exact .inl (hp.eq (.nil ho) fun f => by rw [hl']; rfl)
   | cons w r =>
     obtain ⟨t, p', e1, e2, e3⟩ := lead_lin hb2 hs2 f2 hp hl'
     exact .inr (.inr ⟨w, r, t, p', rfl, e1, e2, e3⟩)
 | cons v r =>
   cases s2 with
   | nil =>
     obtain ⟨t, p', e1, e2, e3⟩ := lead_lin hb1 hs1 f1 hp fun f => by rw [hl]; show _ + 0 = _; grind
     exact .inr (.inl ⟨v, r, t, p', rfl, e1, e2, e3⟩)
   | cons w r' =>
     obtain ⟨a1, a2⟩ := lin_top hb1 hs1 f1
     obtain ⟨d1, d2⟩ := lin_top hb2 hs2 f2
     have W1 := f1 v (by simp) u1 (by simp)
     have W2 := f2 w (by simp) u2 (by simp)
     have vne := (hs1.good v (by simp)).ne (hs1.nz v (by simp))
     have wne := (hs2.good w (by simp)).ne (hs2.nz w (by simp))
     have an := monCmp_anti ho W1 W2
     rcases Int.lt_trichotomy (monCmp o (addM u1.m v.m) (addM u2.m w.m)) 0 with h | h | h
     ·obtain ⟨t, p', e1, e2, e3⟩ := lead_at hp W2 (mul_ne c2 wne) (by rw [hl, d1, a2 _ W2 (by omega)]; grind) fun k hk hgt => by
        rw [hl, d2 k hk hgt, a2 k hk (monCmp_gt ho hk W2 W1 hgt (by omega))]
        exact Rat.add_zero _
      exact .inr (.inr ⟨w, r', t, p', rfl, e1, e2, e3⟩)
     ·exfalso
      have e := (monCmp_zero ho W1 W2).1 h
      have hd : monDiv (addM u2.m w.m) u1.m = (true, v.m) := monDiv_of W2 m1 (hs1.sta.good v (by simp)) e
      have := cop_div ho (hs2.sta.good w (by simp)) hco hd
      have := l2 w (by simp)
      omega
     ·obtain ⟨t, p', e1, e2, e3⟩ := lead_at hp W1 (mul_ne c1 vne) (by rw [hl, a1, d2 _ W1 h]; grind) fun k hk hgt => by
        rw [hl, a2 k hk hgt, d2 k hk (monCmp_gt ho hk W1 W2 hgt h)]
        exact Rat.add_zero _
      exact .inr (.inl ⟨v, r, t, p', rfl, e1, e2, e3⟩)
theorem apart_F {o : Int} {u1 u2 : TermD} {b1 b2 : List TermD} (hb1 : CP o (u1 :: b1)) (hb2 : CP o (u2 :: b2)) (hco : monCop u1.m u2.m = true) : ∀ (n : Nat) (p s1 s2 : List TermD) (qs : List (List TermD)) (k : Nat), CP o p → Canon o s1 → Canon o s2 →
    (∀ x ∈ s1, Fits (u1 :: b1) x.m) → (∀ x ∈ s2, Fits (u2 :: b2) x.m) → (∀ x ∈ s2, monCmp o x.m u1.m < 0) → (∀ f, lin f p = linP f (u1 :: b1) s1 + linP f (u2 :: b2) s2) → qs.length = 2 →
    (splitF o [u1 :: b1, u2 :: b2] n p qs [] k).1 = 0 → (splitF o [u1 :: b1, u2 :: b2] n p qs [] k).2.2 = []
 | 0, _, _, _, _, _, _, _, _, _, _, _, _, _, _ => rfl
 | n + 1, [], _, _, _, _, _, _, _, _, _, _, _, _, _ => rfl
 | n + 1, t :: p, s1, s2, qs, k, hp, hs1, hs2, f1, f2, l2, hl, hq, h0 => by
   have m1 := (hb1.canon.good u1 (by simp)).m
   have m2 := (hb2.canon.good u2 (by simp)).m
   have tm := (hp.canon.good t (by simp)).m
   obtain ⟨q1, q2, rfl⟩ : ∃ q1 q2, qs = [q1, q2] := by
    match qs, hq with
    | [a, b], _ => exact ⟨a, b, rfl⟩
   rcases lead_two hb1 hb2 hco hp hs1 hs2 f1 f2 l2 hl with e | ⟨v, r, t', p', rfl, e, em, ev⟩ | ⟨v, r, t', p', rfl, e, em, ev⟩
   ·cases e
   ·injection e with e1 e2
    subst e1 e2
    have hd : monDiv t.m u1.m = (true, v.m) := monDiv_of tm m1 (hs1.sta.good v (by simp)) em.symm
    have hdv : dividesD [u1 :: b1, u2 :: b2] t.m = some (0, v.m) := by unfold dividesD; rw [hd]; rfl
    unfold splitF at h0 ⊢
    rw [hdv] at h0 ⊢
    dsimp only at h0 ⊢
    rw [show [u1 :: b1, u2 :: b2].getD 0 [] = u1 :: b1 from rfl, show [q1, q2].getD 0 [] = q1 from rfl] at h0 ⊢
    by_cases hmv : (moveD o (t :: p) (u1 :: b1) q1 k v.m).1 = 0
    case neg => rw [if_pos (by simpa using hmv)] at h0; exact absurd h0 hmv
    rw [if_neg (by simpa using hmv)] at h0 ⊢
    obtain ⟨c, y, e3, M⟩ := moveD_good hp hb1 hd hmv
    rw [e3] at h0 ⊢
    dsimp only at h0 ⊢
    have vc : qv c = qv v.c := by
     have h1 := M.val
     have hu := hb1.ne (t := u1) (by simp)
     rw [ev, Rat.mul_comm (qv u1.c)] at h1
     have h2 : qv c * qv u1.c * (qv u1.c)⁻¹ = qv v.c * qv u1.c * (qv u1.c)⁻¹ := by rw [h1]
     rwa [Rat.mul_assoc, Rat.mul_assoc, Rat.mul_inv_cancel _ hu, Rat.mul_one, Rat.mul_one] at h2
    refine apart_F hb1 hb2 hco n y r s2 _ (k + 1) M.cp hs1.tl hs2 (fun x hx => f1 x (by simp [hx])) f2 l2 (fun f => ?_) (by simp) h0
    have h1 := M.lin f
    rw [hl] at h1
    unfold linP at h1 ⊢
    simp only [lin] at h1 ⊢
    rw [vc] at h1
    grind
   ·injection e with e1 e2
    subst e1 e2
    have hd : monDiv t.m u2.m = (true, v.m) := monDiv_of tm m2 (hs2.sta.good v (by simp)) em.symm
    have hno : (monDiv t.m u1.m).1 = false := by
     rcases h : monDiv t.m u1.m with ⟨is, q⟩
     cases is with
     | false => rfl
     | true =>
       exfalso
       rw [em] at h
       have := cop_div hp.ord (hs2.sta.good v (by simp)) hco h
       have := l2 v (by simp)
       omega
    have hdv : dividesD [u1 :: b1, u2 :: b2] t.m = some (1, v.m) := by
     unfold dividesD
     rw [hno]
     unfold dividesD
     rw [hd]
     rfl
    unfold splitF at h0 ⊢
    rw [hdv] at h0 ⊢
    dsimp only at h0 ⊢
    rw [show [u1 :: b1, u2 :: b2].getD 1 [] = u2 :: b2 from rfl, show [q1, q2].getD 1 [] = q2 from rfl] at h0 ⊢
    by_cases hmv : (moveD o (t :: p) (u2 :: b2) q2 k v.m).1 = 0
    case neg => rw [if_pos (by simpa using hmv)] at h0; exact absurd h0 hmv
    rw [if_neg (by simpa using hmv)] at h0 ⊢
    obtain ⟨c, y, e3, M⟩ := moveD_good hp hb2 hd hmv
    rw [e3] at h0 ⊢
    dsimp only at h0 ⊢
    have vc : qv c = qv v.c := by
     have h1 := M.val
     have hu := hb2.ne (t := u2) (by simp)
     rw [ev, Rat.mul_comm (qv u2.c)] at h1
     have h2 : qv c * qv u2.c * (qv u2.c)⁻¹ = qv v.c * qv u2.c * (qv u2.c)⁻¹ := by rw [h1]
     rwa [Rat.mul_assoc, Rat.mul_assoc, Rat.mul_inv_cancel _ hu, Rat.mul_one, Rat.mul_one] at h2
    refine apart_F hb1 hb2 hco n y s1 r _ (k + 1) M.cp hs1 hs2.tl f1 (fun x hx => f2 x (by simp [hx])) (fun x hx => l2 x (by simp [hx])) (fun f => ?_) (by simp) h0
    have h1 := M.lin f
    rw [hl] at h1
    unfold linP at h1 ⊢
    simp only [lin] at h1 ⊢
    rw [vc] at h1
    grind
theorem linP_cons (f : MonD → Rat) (p q : List TermD) (y : TermD) : linP f p (y :: q) = qv y.c * lin (fun m => f (addM m y.m)) p + linP f p q := rfl
theorem linP_cons' (f : MonD → Rat) (x : TermD) (p : List TermD) : ∀ q : List TermD, linP f (x :: p) q = qv x.c * lin (fun m => f (addM x.m m)) q + linP f p q
 | [] => by simp only [linP, lin]; grind
 | y :: q => by
   rw [linP_cons, linP_cons, linP_cons' f x p q]
   simp only [lin]
   grind
theorem linP_nil (f : MonD → Rat) : ∀ q : List TermD, linP f [] q = 0
 | [] => rfl
 | y :: q => by rw [linP_cons, linP_nil f q]; simp only [lin]; grind
theorem linP_comm (f : MonD → Rat) : ∀ p q : List TermD, linP f p q = linP f q p
 | [], q => by rw [linP_nil]; rfl
 | x :: p, q => by
   rw [linP_cons', linP_comm f p q, linP_cons]
   simp only [addM_comm]
theorem scaled {o M : Int} {p : List TermD} {k : RatD} (hp : Canon o p) (hl : ∀ s ∈ p, Lit s.c) (hk : Lit k) (h0 : qv k ≠ 0) :
    ∃ s, Canon o s ∧ (∀ f, lin f s = qv k * lin f p) ∧ ∀ x ∈ s, ∃ y ∈ p, x.m = y.m := by
 have hT : GoodT ⟨k, zeroM⟩ := ⟨hk.1, monMay_zero⟩
 have hz : nz ⟨k, zeroM⟩ = true := nz_of hk.1 h0
 have hok : ∀ x ∈ p, TimesOk x ⟨k, zeroM⟩ := fun x hx => timesOk (hp.good x hx) hT (mulD_lit (hl x hx) hk).1 (by rw [monMul_zero (hp.good x hx).m])
 refine ⟨_, canon_times hp hT hz hok, fun f => ?_, fun x hx => ?_⟩
 ·rw [lin_timesM f hok]
  simp only [addM_zero]
 ·obtain ⟨y, hy, rfl⟩ := List.mem_map.1 hx
  exact ⟨y, hy, mulT_zm y k⟩
theorem inv_lit {o : Int} {t : TermD} {p : List TermD} (hp : SmP o (t :: p)) : (∀ x ∈ t :: p, Lit x.c) ∧ ∃ r, Lit r ∧ qv r = (qv t.c)⁻¹ ∧ val r.num ≤ 1 ∧ val r.den ≤ 1280 := by
 have hint : ∀ x ∈ t :: p, Lit x.c ∧ val x.c.num ≤ 1280 ∧ val x.c.den = 1 := fun x hx => by
  obtain ⟨n, e⟩ := hp.pol.ints.int x hx
  have h1 := Nat.le_trans (mass_mem hx) hp.pol.ints.mass
  have h2 : val x.c.den = 1 := by rw [e]; rfl
  exact ⟨⟨(hp.pol.canon.good x hx).c, by omega, by omega⟩, h1, h2⟩
 refine ⟨fun x hx => (hint x hx).1, ?_⟩
 obtain ⟨lt, tn, td⟩ := hint t (by simp)
 have tz := hp.pol.canon.nz t (by simp)
 have tz' : t.c.num.length ≠ 0 := by unfold nz at tz; simpa using tz
 obtain ⟨i1, i2⟩ := invD_q lt.1 tz'
 have ik : invD t.c = (0, ⟨t.c.neg, t.c.den, t.c.num⟩) := by
  unfold invD
  rw [lt.1.may, if_neg (by simp), if_neg tz']
 have h1 : ofQ (qv t.c)⁻¹ = ⟨t.c.neg, t.c.den, t.c.num⟩ := by
  rw [i1] at ik
  injection ik
 have hn : val (ofQ (qv t.c)⁻¹).num = 1 ∧ val (ofQ (qv t.c)⁻¹).den = val t.c.num := by rw [h1]; exact ⟨td, rfl⟩
 exact ⟨_, ⟨ofQ_good i2, by omega, by omega⟩, qv_ofQ _, by omega, by omega⟩
theorem apart_law {o : Int} {t u : TermD} {p q : List TermD} (hp : SmP o (t :: p)) (hq : SmP o (u :: q)) (hco : monCop t.m u.m = true) :
    ∃ Z, crossD o (t :: p) (u :: q) = (0, Z) ∧ CP o Z ∧ ((splitD o Z [t :: p, u :: q]).1 = 0 → (splitD o Z [t :: p, u :: q]).2.2 = []) := by
 obtain ⟨m, b1, b2, e, hm, d1, d2, f1, f2, _, emax⟩ := cross_divs hp hq
 obtain ⟨X, Y, Z, h⟩ := cross_good hp hq e d1 d2 f1 f2
 have hb : b1 = u.m ∧ b2 = t.m := by
  obtain ⟨_, _, _, e1⟩ := monDiv_true d1
  obtain ⟨_, _, _, e2⟩ := monDiv_true d2
  unfold monCop at hco
  simp only [Bool.and_eq_true, decide_eq_true_eq, minM, zeroM, MonD.mk.injEq] at hco
  rw [emax] at e1 e2
  simp only [addM, maxM, MonD.mk.injEq] at e1 e2
  constructor
  ·cases b1
   cases hu : u.m
   simp only [hu, MonD.mk.injEq] at *
   omega
  ·cases b2
   cases ht : t.m
   simp only [ht, MonD.mk.injEq] at *
   omega
 obtain ⟨rfl, rfl⟩ := hb
 obtain ⟨lp, r1, l1, e1, n1, dd1⟩ := inv_lit hp
 obtain ⟨lq, r2, l2, e2, n2, dd2⟩ := inv_lit hq
 have ane := hp.cp.ne (t := t) (by simp)
 have cne := hq.cp.ne (t := u) (by simp)
 have ai := Rat.mul_inv_cancel _ ane
 have ci := Rat.mul_inv_cancel _ cne
 have aine : (qv t.c)⁻¹ ≠ 0 := fun h => by rw [h, Rat.mul_zero] at ai; exact absurd ai (by decide)
 have cine : (qv u.c)⁻¹ ≠ 0 := fun h => by rw [h, Rat.mul_zero] at ci; exact absurd ci (by decide)
 obtain ⟨_, kg, kq, kn, kd⟩ := mulD_lit l1 l2
 have kn' := Nat.le_trans kn (Nat.mul_le_mul n1 n2)
 have kd' := Nat.le_trans kd (Nat.mul_le_mul dd1 dd2)
 generalize (mulD r1 r2).2 = k at kg kq kn' kd'
 rw [e1, e2] at kq
 have kl : Lit k := ⟨kg, by omega, by omega⟩
 have k0 : qv k ≠ 0 := by rw [kq]; exact mul_ne aine cine
 have sl : Lit (ofD (-1)) ∧ val (ofD (-1)).num = 1 ∧ val (ofD (-1)).den = 1 := by
  have h1 : val (ofD (-1)).num = 1 := by rw [val_ofD]; rfl
  have h2 : val (ofD (-1)).den = 1 := rfl
  exact ⟨⟨ofD_good (by decide), by omega, by omega⟩, h1, h2⟩
 obtain ⟨_, jg, jq, jn, jd⟩ := mulD_lit kl sl.1
 rw [sl.2.1] at jn
 rw [sl.2.2] at jd
 generalize (mulD k (ofD (-1))).2 = j at jg jq jn jd
 rw [qv_ofD] at jq
 have jl : Lit j := ⟨jg, by omega, by omega⟩
 have j0 : qv j ≠ 0 := by rw [jq]; exact mul_ne k0 (by decide)
 obtain ⟨s1, c1, v1, w1⟩ := scaled (M := 0) hq.cp.tl.canon (fun x hx => lq x (by simp [hx])) jl j0
 obtain ⟨s2, c2, v2, w2⟩ := scaled (M := 0) hp.cp.tl.canon (fun x hx => lp x (by simp [hx])) kl k0
 refine ⟨Z, h.eq, h.cp, ?_⟩
 have hl2 : ∀ b ∈ [t :: p, u :: q], CP o b := fun b hb => by
  simp only [List.mem_cons, List.not_mem_nil, or_false] at hb
  rcases hb with rfl | rfl
  ·exact hp.cp
  ·exact hq.cp
 rw [splitD_F h.cp hl2 (by simp)]
 intro h0
 refine apart_F hp.cp hq.cp hco _ Z s1 s2 _ 0 h.cp c1 c2 (fun x hx => ?_) (fun x hx => ?_) (fun x hx => ?_) (fun f => ?_) (by simp) h0
 ·obtain ⟨y, hy, ey⟩ := w1 x hx
  rw [ey]
  intro z hz
  have a1 := hp.low z hz
  have a2 := hq.low y (by simp [hy])
  exact monMay_low (by simp only [addM]; omega)
 ·obtain ⟨y, hy, ey⟩ := w2 x hx
  rw [ey]
  intro z hz
  have a1 := hq.low z hz
  have a2 := hp.low y (by simp [hy])
  exact monMay_low (by simp only [addM]; omega)
 ·obtain ⟨y, hy, ey⟩ := w2 x hx
  rw [ey]
  have a1 := hp.cp.below y hy
  have a2 := monCmp_anti hp.cp.ord (hp.cp.canon.good t (by simp)).m (hp.cp.canon.good y (by simp [hy])).m
  omega
 ·have g1 : linP f (t :: p) s1 = qv j * linP f (t :: p) q := v1 _
  have g2 : linP f (u :: q) s2 = qv k * linP f (u :: q) p := v2 _
  have g3 := linP_comm f (t :: p) (u :: q)
  rw [linP_cons, linP_cons] at g3
  rw [g1, g2, h.sum, h.x.lin, h.y.lin, jq, kq]
  simp only [Rat.intCast_neg]
  grind
end Go.Proofs.YtgjkgkgieeoalaaGreat
namespace Go.Proofs.YtgjkgkgieeoalaaGreat
open Go.RowKit
theorem law13_made (b0 : Nat) (order : Int) (A B : Option Addr) (c d : Nat) (ns : List Int) (ms : List (Int × Int × Int)) (w : World) (hb0 : b0 ≤ w.heap.size) (h : RSm w A c B d ns ms) :
    Calls Tryz.prog 26 #[.int .i64 order, .agg #[.slice A ns.length c, .slice B ms.length d]] w fun e w' => ∃ A' c', e = .returned (.slice A' (madeE order ns ms).length c') ∧
     (madeE order ns ms).length ≤ c' ∧ RPol w' b0 A' (madeE order ns ms) ∧ Below w.heap.size w w' := by
 obtain ⟨D, hD⟩ : ∃ D, madeE order ns ms = D := ⟨_, rfl⟩
 rw [hD]
 have HD := Hd.mk hD
 clear hD
 have HR := Hd.mk h
 have HB0 := Hd.mk hb0
 clear h hb0
 go_enter Tryz.func26, Tryz.ntmps26
 go_upto_region 2 with (fail)
 refine wp_gen (fun W => Below w.heap.size w W ∧ Bk W w.heap.size 59 #[.slice A ns.length c, .slice B ms.length d] ∧ OwnT W b0 (w.heap.size + 1) (.slice (some ⟨w.heap.size + 1, 0, none⟩) 0 0) []) ?_ ?_
 ·refine ⟨((Below.refl _ _).alloc (Nat.le_refl _) _).alloc (by simp) _, (Bk.new_ _ _ _).al _, ?_⟩
  have := ownT_lit (w.alloc (Obj.cells #[.slice A ns.length c, .slice B ms.length d] 59)) b0 (w.heap.size + 1) (by simp)
  simpa using this
 intro W0 hW
 have HK := Hd.mk (And.intro hW.out.1 hW.out.2.1)
 have HO := Hd.mk hW.out.2.2
 clear hW
 go_wp2_with fail
 go_loopw [5, 6] (fun v5 v6 wr => ∃ (i : Nat) (acc : List TermD), v6 = .int .i64 i ∧ i ≤ 5 ∧ acc.length = i ∧ Hd (acc = (smE ns ms).take i) ∧ Hd (OwnT wr b0 (w.heap.size + 1) v5 acc) ∧ Hd (Below w.heap.size w wr ∧ Bk wr w.heap.size 59 #[.slice A ns.length c, .slice B ms.length d])) (fun _ v _ => 5 - (intOf v).toNat)
 case atStart => exact ⟨0, [], rfl, by omega, rfl, ⟨rfl⟩, HO, HK⟩
 case round =>
  clear HO HK
  obtain ⟨i, acc, rfl, hi, hfl, HFA, HO, HK⟩ := hrel
  obtain ⟨Av, cv, rfl, hcv, _, hrv⟩ := HO.out.reads
  have HRV := Hd.mk hrv
  have HLN := Hd.mk hfl
  obtain ⟨p0, p1⟩ := HK.out.2.two'
  clear hrv hfl
  by_cases h1 : i < ns.length
  ·have i1 : (i : Int) < ns.length := by omega
   by_cases h2 : i < ms.length
   ·have i2 : (i : Int) < ms.length := by omega
    by_cases h3 : i < 5
    ·have i3 : (i : Int) < 5 := by omega
     obtain ⟨n, hn⟩ : ∃ n, ns[i]? = some n := ⟨_, List.getElem?_eq_getElem h1⟩
     obtain ⟨m, hm⟩ : ∃ m, ms[i]? = some m := ⟨_, List.getElem?_eq_getElem h2⟩
     obtain ⟨ad, eA, hab, hca⟩ := (HR.out.n.below HK.out.1).2 (by omega)
     obtain ⟨bd, eB, hbb, hcb⟩ := (HR.out.m.below HK.out.1).2 (by omega)
     have q0 := hca i (.int .i8 n) (by rw [ints_get _ _ _ h1, List.getD_eq_getElem?_getD, hn]; rfl)
     obtain ⟨f0, f1, f2⟩ := flat3_get hm
     have q1 := hcb _ _ f0
     have q2 := hcb _ _ f1
     have q3 := hcb _ _ f2
     rw [add_pos _ _ 1 (by omega)] at q2
     rw [add_pos _ _ 2 (by omega)] at q3
     subst eA eB
     have HN := Hd.mk (And.intro hn hm)
     have HFL : Hd (acc ++ [smT n m] = (smE ns ms).take (i + 1)) := ⟨by rw [HFA.out]; exact smE_take hn hm h3⟩
     have nb := HR.out.nb n (List.mem_of_getElem? hn)
     have mb := HR.out.mb m (List.mem_of_getElem? hm)
     have v0 : IntKind.i64.wrap n = n := by rw [IntKind.wrap_i64]; omega
     have v1 : IntKind.i64.wrap m.1 = m.1 := by rw [IntKind.wrap_i64]; omega
     have v2 : IntKind.i64.wrap m.2.1 = m.2.1 := by rw [IntKind.wrap_i64]; omega
     have v3 : IntKind.i64.wrap m.2.2 = m.2.2 := by rw [IntKind.wrap_i64]; omega
     have CO : Hd (∀ W, Hd (Below wr.heap.size wr W) → Calls Tryz.prog 46 #[.int .i64 (IntKind.i64.wrap n)] W fun e w' => ∃ x, e = .returned x ∧ RRat w' b0 x (ofD n) ∧ Below W.heap.size W w') := ⟨by
      rw [v0]
      exact fun W hB => rrat_Of b0 n W (Nat.le_trans HB0.out (Nat.le_trans HK.out.1.size hB.out.size)) (by omega) (by omega)⟩
     have HFL' : Hd (acc ++ [⟨ofD n, ⟨(IntKind.i64.wrap m.1).tmod 4, (IntKind.i64.wrap m.2.1).tmod 4, (IntKind.i64.wrap m.2.2).tmod 4, 0⟩⟩] = (smE ns ms).take (i + 1)) := ⟨by rw [v1, v2, v3]; exact HFL.out⟩
     generalize ofD n = X at CO HFL'
     clear v0 v1 v2 v3 nb mb
     clear hn hm f0 f1 f2 hca hcb
     go_wp2_with fail
     have b1 : (ad.add i).block < w.heap.size + 1 := by rw [add_block]; omega
     have b2 : (bd.add (i * 3)).block < w.heap.size + 1 := by rw [add_block]; omega
     have SO := Hd.mk (fun W (hB : Below (w.heap.size + 1) wr W) => And.intro (Hd.mk hB) (And.intro ((hB.cell (p := ⟨w.heap.size, 0, none⟩) (Nat.lt_succ_self _)).trans p0) (And.intro ((hB.cell (p := ⟨w.heap.size, 1, none⟩) (Nat.lt_succ_self _)).trans p1) (And.intro ((hB.cell b1).trans q0) (And.intro ((hB.cell b2).trans q1) (And.intro ((hB.cell (p := ⟨(bd.add (i * 3)).block, (bd.add (i * 3)).off + 1, none⟩) b2).trans q2) ((hB.cell (p := ⟨(bd.add (i * 3)).block, (bd.add (i * 3)).off + 2, none⟩) b2).trans q3)))))))
     have HZ : Hd (w.heap.size + 1 ≤ wr.heap.size) := ⟨HK.out.2.lt⟩
     clear b1 b2
     go_region_held3 (fun w' => Hd (Below (w.heap.size + 1) wr w') ∧ w'.cell? ⟨w.heap.size, 0, none⟩ = some (.slice (some ad) ns.length c) ∧ w'.cell? ⟨w.heap.size, 1, none⟩ = some (.slice (some bd) ms.length d) ∧ w'.cell? (ad.add i) = some (.int .i8 n) ∧ w'.cell? (bd.add (i * 3)) = some (.int .u8 m.1) ∧ w'.cell? ⟨(bd.add (i * 3)).block, (bd.add (i * 3)).off + 1, none⟩ = some (.int .u8 m.2.1) ∧ w'.cell? ⟨(bd.add (i * 3)).block, (bd.add (i * 3)).off + 2, none⟩ = some (.int .u8 m.2.2))
      (first
       | with_reducible exact SO.out _ (Below.refl _ _)
       | with_reducible exact SO.out _ (Below.refl _ _).drew
       | with_reducible exact SO.out _ HB6.out
       | with_reducible exact SO.out _ (HB6.out.alloc HB6z.out _)
       | with_reducible exact SO.out _ AP.below
       | fail)
      (first
       | (go_at_call 46; with_reducible refine (CO.out wr.drew ⟨(Below.refl _ _).drew⟩).mono ?_; rintro e w5 ⟨x, rfl, hx, hb⟩
          have hB5 : Below wr.heap.size wr w5 := (Below.refl wr.heap.size wr).drew.trans hb
          have HB5 := Hd.mk hB5
          have hx2 := hx
          obtain ⟨TA, tc, TB, td, rfl, _, _, _, _⟩ := hx2
          have T1 := rpol_one (t := ⟨X, ⟨(IntKind.i64.wrap m.1).tmod 4, (IntKind.i64.wrap m.2.1).tmod 4, (IntKind.i64.wrap m.2.2).tmod 4, 0⟩⟩) (rterm_of hx ⟨(IntKind.i64.wrap m.1).tmod 4, (IntKind.i64.wrap m.2.1).tmod 4, (IntKind.i64.wrap m.2.2).tmod 4, 0⟩) 68
          dsimp only at T1
          obtain ⟨tn, htn⟩ : ∃ tn : TermD, tn = ⟨X, ⟨(IntKind.i64.wrap m.1).tmod 4, (IntKind.i64.wrap m.2.1).tmod 4, (IntKind.i64.wrap m.2.2).tmod 4, 0⟩⟩ := ⟨_, rfl⟩
          rw [← htn] at T1
          have HT1 := Hd.mk T1
          have HFL2 : Hd (acc ++ [tn] = (smE ns ms).take (i + 1)) := ⟨by rw [htn]; exact HFL'.out⟩
          have XL : Hd (acc.length + [tn].length ≤ 1000000) := ⟨by have := HLN.out; simp; omega⟩
          have HB6 := Hd.mk (hB5.mono HZ.out)
          have HB6z : Hd (w.heap.size + 1 ≤ w5.heap.size) := ⟨Nat.le_trans HZ.out hB5.size⟩
          clear T1 htn)
       | (refine step_append_T (w0 := wr) (us := [tn]) (B := w.heap.size + 1) rfl _ _ 24 rfl Tryz.slTerms rfl rfl rfl (HO.out.up (hB5.alloc hB5.size _)) HT1.out (Nat.le_succ_of_le HB0.out) XL.out (HB6.out.alloc HB6z.out _) (Nat.le_refl _) (Nat.le_trans HZ.out (hB5.alloc hB5.size _).size) ?_; intro v' w8 AP))
     all_goals
      have HAP := Hd.mk AP
      have HK8 := Hd.mk (And.intro (HK.out.1.trans (AP.below.mono (Nat.le_succ _))) (AP.bk (HK.out.2.up (hB5.alloc hB5.size _)) (Nat.lt_succ_self _)))
      have hl2 : (acc ++ [tn]).length = i + 1 := by rw [List.length_append, HLN.out]; rfl
      clear AP
      go_wp2_with fail
      go_roundw
      case measure => first | (simp [intOf]; done) | (simp [intOf]; omega)
      case rel => exact ⟨i + 1, _, by go_num, by omega, hl2, HFL2, ⟨HAP.out.own⟩, HK8⟩
    ·have HE : Hd (acc = smE ns ms) := ⟨HFA.out.trans (smE_end (.inr (.inr h3)))⟩
     have i3 : ¬ (i : Int) < 5 := by omega
     have HM : Hd ((polMake order acc).2 = D) := ⟨by rw [HE.out]; exact HD.out⟩
     have CM := Hd.mk (rpol_Make b0 order Av cv acc wr (Nat.le_trans HB0.out HK.out.1.size) HRV.out hcv (by have := HLN.out; omega) (by rw [HE.out]; exact (smE_sm HR.out).ints.short (by decide) (by have := (smE_sm HR.out).len; omega)))
     rw [HM.out] at CM
     go_wp2_with fail
     refine CM.out.mono ?_
     rintro e w6 ⟨A6, c6, rfl, hc6, hr6, hb6⟩
     have HB6 := Hd.mk (goes HK.out.1 hb6)
     have HR6 := Hd.mk hr6
     clear hb6 hr6
     go_wp2_with fail
     go_ret
     exact ⟨A6, c6, rfl, hc6, HR6.out, HB6.out⟩
   ·have HE : Hd (acc = smE ns ms) := ⟨HFA.out.trans (smE_end (.inr (.inl h2)))⟩
    have i2 : ¬ (i : Int) < ms.length := by omega
    have HM : Hd ((polMake order acc).2 = D) := ⟨by rw [HE.out]; exact HD.out⟩
    have CM := Hd.mk (rpol_Make b0 order Av cv acc wr (Nat.le_trans HB0.out HK.out.1.size) HRV.out hcv (by have := HLN.out; omega) (by rw [HE.out]; exact (smE_sm HR.out).ints.short (by decide) (by have := (smE_sm HR.out).len; omega)))
    rw [HM.out] at CM
    go_wp2_with fail
    refine CM.out.mono ?_
    rintro e w6 ⟨A6, c6, rfl, hc6, hr6, hb6⟩
    have HB6 := Hd.mk (goes HK.out.1 hb6)
    have HR6 := Hd.mk hr6
    clear hb6 hr6
    go_wp2_with fail
    go_ret
    exact ⟨A6, c6, rfl, hc6, HR6.out, HB6.out⟩
  ·have HE : Hd (acc = smE ns ms) := ⟨HFA.out.trans (smE_end (.inl h1))⟩
   have i1 : ¬ (i : Int) < ns.length := by omega
   have HM : Hd ((polMake order acc).2 = D) := ⟨by rw [HE.out]; exact HD.out⟩
   have CM := Hd.mk (rpol_Make b0 order Av cv acc wr (Nat.le_trans HB0.out HK.out.1.size) HRV.out hcv (by have := HLN.out; omega) (by rw [HE.out]; exact (smE_sm HR.out).ints.short (by decide) (by have := (smE_sm HR.out).len; omega)))
   rw [HM.out] at CM
   go_wp2_with fail
   refine CM.out.mono ?_
   rintro e w6 ⟨A6, c6, rfl, hc6, hr6, hb6⟩
   have HB6 := Hd.mk (goes HK.out.1 hb6)
   have HR6 := Hd.mk hr6
   clear hb6 hr6
   go_wp2_with fail
   go_ret
   exact ⟨A6, c6, rfl, hc6, HR6.out, HB6.out⟩
end Go.Proofs.YtgjkgkgieeoalaaGreat
