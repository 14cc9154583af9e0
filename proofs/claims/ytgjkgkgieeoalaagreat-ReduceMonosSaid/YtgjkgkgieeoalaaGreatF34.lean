/- Parts of the proof, joined: each theorem says what it shows. -/
import Derived.Test.YtgjkgkgieeoalaaGreatF01
import Derived.Test.YtgjkgkgieeoalaaGreatF30
import Derived.Test.YtgjkgkgieeoalaaGreatF27
import Derived.Test.YtgjkgkgieeoalaaGreatF31
set_option linter.unusedVariables false
set_option linter.unusedSimpArgs false
set_option maxHeartbeats 24000000
set_option maxRecDepth 100000
namespace Go.Proofs.YtgjkgkgieeoalaaGreat
def crossAll (o : Int) (b : List (List TermD)) : List (Int × Int) → Int × Bool
 | [] => (0, true)
 | x :: r =>
   if (crossD o (b.getD x.1.toNat []) (b.getD x.2.toNat [])).1 ≠ 0 then ((crossD o (b.getD x.1.toNat []) (b.getD x.2.toNat [])).1, false) else
   if (splitD o (crossD o (b.getD x.1.toNat []) (b.getD x.2.toNat [])).2 b).1 ≠ 0 then ((splitD o (crossD o (b.getD x.1.toNat []) (b.getD x.2.toNat [])).2 b).1, false) else
   if (splitD o (crossD o (b.getD x.1.toNat []) (b.getD x.2.toNat [])).2 b).2.2.length ≠ 0 then (0, false) else crossAll o b r
def groebD (o : Int) (l : List (List TermD)) : Int × Bool := if basisD o l = false then (1, false) else crossAll o (fullD l) (allP (fullD l).length)
def Mo (p : List TermD) : Prop := ∃ (n : Int) (m : MonD), n ≠ 0 ∧ n.natAbs ≤ 1280 ∧ monMay m = true ∧ p = [⟨ofD n, m⟩]
theorem cp_mono {o n : Int} {m : MonD} (ho : oOk o) (hn : n ≠ 0) (hn1 : n.natAbs ≤ 1280) (hm : monMay m = true) : CP o [⟨ofD n, m⟩] := by
 have g : GoodR (ofD n) := ofD_good (Nat.lt_of_le_of_lt hn1 (by decide))
 refine ⟨⟨⟨ho, fun s hs => ?_, List.pairwise_singleton _ _⟩, GoodP.cons ⟨g, hm⟩ .nil, fun s hs => ?_⟩, by simp⟩
 ·simp only [List.mem_singleton] at hs; subst hs; exact hm
 ·simp only [List.mem_singleton] at hs; subst hs
  refine nz_of g ?_
  rw [qv_ofD]
  intro h
  exact hn (by exact_mod_cast h)
theorem pol_mono {o n : Int} {m : MonD} (ho : oOk o) (hn : n ≠ 0) (hn1 : n.natAbs ≤ 1280) (hm : monMay m = true) : Pol o 1280 [⟨ofD n, m⟩] :=
 ⟨(Ints.one hm).le hn1, (cp_mono ho hn hn1 hm).canon, by simp⟩
theorem Mo.cp {o : Int} {p : List TermD} (h : Mo p) (ho : oOk o) : CP o p := by
 obtain ⟨n, m, h1, h2, h3, rfl⟩ := h
 exact cp_mono ho h1 h2 h3
theorem Mo.ne {p : List TermD} (h : Mo p) : p ≠ [] := by
 obtain ⟨n, m, h1, h2, h3, rfl⟩ := h
 simp
theorem one_head {X : List TermD} (h : X.length = 1) {m : MonD} {q : Rat} (h2 : ∃ x X', X = x :: X' ∧ x.m = m ∧ qv x.c = q) : ∃ c, X = [⟨c, m⟩] ∧ qv c = q := by
 obtain ⟨x, X', rfl, e1, e2⟩ := h2
 simp only [List.length_cons] at h
 have : X' = [] := List.eq_nil_of_length_eq_zero (by omega)
 subst this
 obtain ⟨c, m'⟩ := x
 simp only at e1 e2
 exact ⟨c, by rw [e1], e2⟩
theorem mono_cross {o : Int} {p q : List TermD} (ho : oOk o) (hp : Mo p) (hq : Mo q) : crossD o p q = (0, []) := by
 obtain ⟨a, x, ha, ha1, hx, rfl⟩ := hp
 obtain ⟨b, y, hb, hb1, hy, rfl⟩ := hq
 have X1 := monMay_of hx
 have Y1 := monMay_of hy
 have e : monLcm x y = maxM x y := by unfold monLcm; rw [hx, hy]; rfl
 have hm : monMay (maxM x y) = true := monMay_low (by simp only [maxM]; omega)
 have s1 : addM x (subM (maxM x y) x) = maxM x y := by
  unfold addM subM
  rcases h : maxM x y with ⟨a, b, c, d⟩
  simp only [MonD.mk.injEq]
  omega
 have s2 : addM y (subM (maxM x y) y) = maxM x y := by
  unfold addM subM
  rcases h : maxM x y with ⟨a, b, c, d⟩
  simp only [MonD.mk.injEq]
  omega
 have d1 : monDiv (maxM x y) x = (true, subM (maxM x y) x) := monDiv_of hm hx (monMay_low (by simp only [maxM, subM]; omega)) s1
 have d2 : monDiv (maxM x y) y = (true, subM (maxM x y) y) := monDiv_of hm hy (monMay_low (by simp only [maxM, subM]; omega)) s2
 obtain ⟨X, eX, hX⟩ := raise_pol (t := ⟨ofD a, x⟩) (p := []) (pol_mono ho ha ha1 hx) (.inl rfl) d1 fun s hs => by
  simp only [List.mem_singleton] at hs; subst hs; rw [s1]; exact hm
 obtain ⟨Y, eY, hY⟩ := raise_pol (s := -1) (t := ⟨ofD b, y⟩) (p := []) (pol_mono ho hb hb1 hy) (.inr rfl) d2 fun s hs => by
  simp only [List.mem_singleton] at hs; subst hs; rw [s2]; exact hm
 obtain ⟨Z, eZ, cZ, sZ⟩ := polAdd_lit hX.cp hY.cp (by rw [hX.len, hY.len]; simp) hX.lit hY.lit
 obtain ⟨c, rfl, qc⟩ := one_head hX.len hX.head
 obtain ⟨d, rfl, qd⟩ := one_head hY.len hY.head
 have z0 : Z = [] := cZ.eq (CP.nil ho) fun f => by
  rw [sZ]
  simp only [lin]
  rw [qc, qd]
  have c1 : ((1 : Int) : Rat) = 1 := rfl
  have c2 : ((-1 : Int) : Rat) = -1 := rfl
  rw [c1, c2]
  grind
 subst z0
 unfold crossD
 rw [(cp_mono ho ha ha1 hx).may, (cp_mono ho hb hb1 hy).may, if_neg (by simp)]
 simp only
 rw [e, eX, eY, if_neg (by simp), if_neg (by simp)]
 exact eZ
theorem nil_rest {o : Int} {l : List (List TermD)} (ho : oOk o) (hl : ∀ p ∈ l, Mo p) (h24 : l.length ≤ 24) : splitD o [] l = (0, List.replicate l.length [], []) :=
 splitD_rest (CP.nil ho) (fun b hb => (hl b hb).cp ho) h24 fun t ht => by cases ht
theorem monos_cross {o : Int} {l : List (List TermD)} (ho : oOk o) (hl : ∀ p ∈ l, Mo p) (h24 : l.length ≤ 24) : ∀ r : List (Int × Int), (∀ x ∈ r, x.1.toNat < l.length ∧ x.2.toNat < l.length) → crossAll o l r = (0, true)
 | [], _ => rfl
 | x :: r, h => by
   obtain ⟨h1, h2⟩ := h x (by simp)
   have g : ∀ i, i < l.length → Mo (l.getD i []) := fun i hi => by
    rw [List.getD_eq_getElem?_getD, ai hi]
    exact hl _ (List.getElem_mem hi)
   unfold crossAll
   rw [mono_cross ho (g _ h1) (g _ h2), if_neg (by simp)]
   dsimp only
   rw [nil_rest ho hl h24, if_neg (by simp)]
   dsimp only
   rw [if_neg (by simp)]
   exact monos_cross ho hl h24 r fun y hy => h y (by simp [hy])
theorem monos_full {l : List (List TermD)} (hl : ∀ p ∈ l, Mo p) : fullD l = l := by
 unfold fullD
 rw [List.filter_eq_self]
 intro p hp
 simpa using (hl p hp).ne
theorem monos_groeb {o : Int} {l : List (List TermD)} (ho : oOk o) (hl : ∀ p ∈ l, Mo p) (h5 : l.length = 5) : groebD o l = (0, true) := by
 unfold groebD
 rw [if_neg (basis_of ho (fun p hp => (hl p hp).cp ho) (by omega)), monos_full hl]
 refine monos_cross ho hl (by omega) _ ?_
 rw [h5]
 decide
theorem mono_monic {o n : Int} {m : MonD} (ho : oOk o) (hn : n ≠ 0) (hn1 : n.natAbs ≤ 1280) (hm : monMay m = true) : polMonic o [⟨ofD n, m⟩] = (0, [⟨ofD 1, m⟩]) := by
 have hz : addM m zeroM = m := addM_zero _
 have d1 : monDiv m m = (true, zeroM) := monDiv_of hm hm monMay_zero hz
 obtain ⟨X, eX, hX⟩ := raise_pol (t := ⟨ofD n, m⟩) (p := []) (pol_mono ho hn hn1 hm) (.inl rfl) d1 fun s hs => by
  simp only [List.mem_singleton] at hs; subst hs; rw [hz]; exact hm
 obtain ⟨c, rfl, qc⟩ := one_head hX.len hX.head
 have gc : GoodR c := (hX.cp.canon.good ⟨c, m⟩ (by simp)).c
 have ec : c = ofD 1 := gc.inj good_one (by rw [qc, qv_ofD])
 subst ec
 have gn : GoodR (ofD n) := ofD_good (Nat.lt_of_le_of_lt hn1 (by decide))
 obtain ⟨i1, i2⟩ := invD_q gn (ofD_num hn)
 have gi : GoodR (invD (ofD n)).2 := by rw [i1]; exact ofQ_good i2
 have i0 : (invD (ofD n)).1 = 0 := by rw [i1]
 rw [← eX]
 unfold polMonic raiseD
 rw [(cp_mono ho hn hn1 hm).may, if_neg (by simp)]
 simp only
 rw [mulD_one gi, d1, if_neg (by rw [i0]; simp), if_neg (by rw [i0]; simp), if_neg (by simp)]
theorem monos_monic {o : Int} (ho : oOk o) : ∀ {l : List (List TermD)}, (∀ p ∈ l, Mo p) → ∃ M, monicsD o l = (0, M) ∧ (∀ q ∈ M, Mo q) ∧ M.map hdM = l.map hdM
 | [], _ => ⟨[], rfl, (fun q h => by cases h), rfl⟩
 | p :: l, h => by
   obtain ⟨M, e1, e2, e3⟩ := monos_monic ho (l := l) fun q hq => h q (by simp [hq])
   obtain ⟨n, m, hn, hn1, hm, rfl⟩ := h p (by simp)
   have e := mono_monic ho hn hn1 hm
   refine ⟨[⟨ofD 1, m⟩] :: M, ?_, fun q hq => ?_, ?_⟩
   ·unfold monicsD
    rw [e, e1]
    simp
   ·rcases List.mem_cons.1 hq with rfl | hq
    ·exact ⟨1, m, by decide, by decide, hm, rfl⟩
    ·exact e2 q hq
   ·rw [List.map_cons, List.map_cons, e3]
    rfl
structure MoRed (o : Int) (l F : List (List TermD)) : Prop where
 eq : redD o l = (0, F)
 mo : ∀ p ∈ F, Mo p
 len : F.length ≤ 5
 cov : ∀ p ∈ l, ∃ q ∈ F, dvd q p = true
 back : ∀ q ∈ F, ∃ p ∈ l, dvd p q = true
theorem dvd_heads {p q p' q' : List TermD} (e1 : hdM p = hdM p') (e2 : hdM q = hdM q') : dvd p q = dvd p' q' := by
 unfold dvd; rw [e1, e2]
theorem head_mem {l M : List (List TermD)} (e : M.map hdM = l.map hdM) {p : List TermD} (hp : p ∈ l) : ∃ q ∈ M, hdM q = hdM p := by
 have h : hdM p ∈ M.map hdM := by rw [e]; exact List.mem_map.2 ⟨p, hp, rfl⟩
 obtain ⟨q, hq, e⟩ := List.mem_map.1 h
 exact ⟨q, hq, e⟩
theorem Mo.may {p : List TermD} (h : Mo p) : monMay (hdM p) = true := by
 obtain ⟨n, m, h1, h2, h3, rfl⟩ := h
 exact h3
theorem monos_red {o : Int} {l : List (List TermD)} (ho : oOk o) (hl : ∀ p ∈ l, Mo p) (h5 : l.length = 5) : ∃ F, MoRed o l F := by
 obtain ⟨M, e1, e2, e3⟩ := monos_monic ho hl
 have hml : M.length = 5 := by
  have := congrArg List.length e3
  rw [List.length_map, List.length_map] at this
  omega
 have hpz : ∀ p ∈ M, Pz o p := fun p hp => ⟨(e2 p hp).cp ho, (e2 p hp).ne⟩
 obtain ⟨n1, n2⟩ := inter_nd hpz
 have hs := (inter_sub M []).length_le
 rw [List.nil_append] at hs
 have hc := inter_cover M [] fun p hp => (e2 p hp).may
 generalize hF : interD [] M = F at n1 n2 hs hc
 have hr := rests_id (o := o) F [] (fun p hp => hpz p (n2 p (by simpa using hp))) (by simpa using n1) (fun r hr => by
  simp only [List.nil_append] at hr ⊢
  intro s hs' h hh hne
  obtain ⟨n, m, _, _, hm, er⟩ := e2 r (n2 r hr)
  obtain ⟨x, hx, rfl⟩ := List.mem_map.1 hh
  subst er
  simp only [List.mem_singleton] at hs'
  subst hs'
  unfold Nd at n1
  obtain ⟨i, hi⟩ := List.mem_iff_getElem?.1 hx
  obtain ⟨k, hk⟩ := List.mem_iff_getElem?.1 hr
  obtain ⟨hi1, hi2⟩ := List.getElem?_eq_some_iff.1 hi
  obtain ⟨hk1, hk2⟩ := List.getElem?_eq_some_iff.1 hk
  rw [List.pairwise_iff_getElem] at n1
  rcases Nat.lt_trichotomy i k with h | h | h
  ·have := (n1 i k hi1 hk1 h).1
   rw [hi2, hk2] at this
   exact this
  ·subst h
   rw [hi2] at hk2
   rw [hk2] at hne
   exact absurd rfl hne
  ·have := (n1 k i hk1 hi1 h).2
   rw [hi2, hk2] at this
   exact this) (by simp; omega)
 refine ⟨F, ?_, fun p hp => e2 p (n2 p hp), by omega, fun p hp => ?_, fun q hq => ?_⟩
 ·unfold redD
  rw [if_neg (basis_of ho (fun p hp => (hl p hp).cp ho) (by omega)), monos_full hl, e1, if_neg (by simp)]
  dsimp only
  rw [hF, hr, List.nil_append]
 ·obtain ⟨q, hq, e⟩ := head_mem e3 hp
  obtain ⟨x, hx, hd⟩ := hc q hq
  exact ⟨x, hx, by rw [← dvd_heads rfl e]; exact hd⟩
 ·obtain ⟨p, hp, e⟩ := head_mem e3.symm (n2 q hq)
  refine ⟨p, hp, ?_⟩
  unfold dvd
  rw [e, dvd_self (e2 q (n2 q hq)).may]
theorem mono_move {o z n : Int} {m um qm : MonD} {q : List TermD} {k : Nat} (ho : oOk o) (hz0 : z ≠ 0) (hz : z.natAbs ≤ 1280) (hm : monMay m = true) (hn : n ≠ 0) (hn1 : n.natAbs ≤ 1280) (hum : monMay um = true) (hd : monDiv m um = (true, qm)) (hk : k < 400) (hq : q.length < 60) :
    ∃ c, moveD o [⟨ofD z, m⟩] [⟨ofD n, um⟩] q k qm = (0, [], q ++ [⟨c, qm⟩]) := by
 obtain ⟨_, _, tm, az⟩ := monDiv_true hd
 have hc := cp_mono ho hz0 hz hm
 have hb := cp_mono ho hn hn1 hum
 have gt : GoodR (ofD z) := (hc.canon.good ⟨ofD z, m⟩ (by simp)).c
 obtain ⟨i, e1, gi, vi, ni, di⟩ := inv_int hn (Nat.lt_of_le_of_lt hn1 (by decide))
 have vt : val (ofD z).num = z.natAbs ∧ val (ofD z).den = 1 := ⟨by rw [val_ofD], by rfl⟩
 obtain ⟨m1, m2, m3, m4, m5⟩ := mulD_small gt gi (lit_small (by omega) (by omega)) (lit_small (by omega) (by omega))
 obtain ⟨c, hc'⟩ : ∃ c, (mulD (ofD z) i).2 = c := ⟨_, rfl⟩
 rw [hc'] at m2 m3 m4 m5
 have cn : val c.num ≤ 1280 := ah m4 (ah (Nat.mul_le_mul (show val (ofD z).num ≤ 1280 by omega) ni) (by decide))
 have cd : val c.den ≤ 1000000 := ah m5 (ah (Nat.mul_le_mul (show val (ofD z).den ≤ 1 by omega) (Nat.le_of_lt di)) (by decide))
 have hnq : (n : Rat) ≠ 0 := fun h => hn (by exact_mod_cast h)
 have vc : qv c * (n : Rat) = (z : Rat) := by rw [m3, vi, qv_ofD, Rat.mul_assoc, Rat.inv_mul_cancel _ hnq, Rat.mul_one]
 have vc0 : qv c ≠ 0 := fun h => by
  rw [h, Rat.zero_mul] at vc
  exact hz0 (by exact_mod_cast vc.symm)
 obtain ⟨gn, vn⟩ := negD_q m2
 have zT : nz ⟨negD c, qm⟩ = true := nz_of gn (by rw [vn]; intro h; exact vc0 (by grind))
 have nn : val (negD c).num = val c.num ∧ val (negD c).den = val c.den := by unfold negD; split <;> exact ⟨rfl, rfl⟩
 have gb : GoodR (ofD n) := (hb.canon.good ⟨ofD n, um⟩ (by simp)).c
 obtain ⟨r1, r2, r3, _, _⟩ := mulD_small gb gn (by rw [nn.1, val_ofD]; exact lit_small (by omega) (by omega)) (by rw [nn.2]; exact lit_small (show val (ofD n).den ≤ 1000000 from (by decide : 1 ≤ 1000000)) (by omega))
 have er : (mulD (ofD n) (negD c)).2 = ofD (-z) := by
  refine r2.inj (ofD_good (Nat.lt_of_le_of_lt (show (-z).natAbs ≤ 1280 by rw [Int.natAbs_neg]; exact hz) (by decide))) ?_
  rw [r3, qv_ofD, qv_ofD, vn, Rat.intCast_neg, ← vc]
  grind
 have et : polTimes o [⟨ofD n, um⟩] ⟨negD c, qm⟩ = (0, [⟨ofD (-z), m⟩]) := by
  rw [polTimes_timesL (t := (⟨negD c, qm⟩ : TermD)) hb ⟨gn, tm⟩ zT, timesL_cons, if_neg (by simpa using r1)]
  have e5 : monMul um qm = (0, m) := by rw [monMul_of hum tm (by rw [az]; exact hm), az]
  rw [e5, if_neg (by simp)]
  unfold timesL
  rw [if_neg (by simp), er]
 have cz : CP o [⟨ofD (-z), m⟩] := cp_mono ho (by omega) (by rw [Int.natAbs_neg]; exact hz) hm
 have ea : polAdd o [[⟨ofD z, m⟩], [⟨ofD (-z), m⟩]] = (0, []) := by
  rw [polAdd_make fun x hx => by
   simp only [List.mem_cons, List.not_mem_nil, or_false] at hx
   rcases hx with rfl | rfl
   ·exact hc
   ·exact cz]
  rw [show [[(⟨ofD z, m⟩ : TermD)], [⟨ofD (-z), m⟩]].flatten = [⟨ofD z, m⟩] ++ [⟨ofD (-z), m⟩] by simp]
  have h1 := sum_ok ho ((Ints.one (n := z) hm).app (Ints.one (n := -z) hm)) (by rw [Int.natAbs_neg]; omega)
  refine h1.eq (CP.nil ho).canon (fun f => ?_) (by simp)
  rw [lin_app]
  simp only [lin]
  rw [qv_ofD, qv_ofD, Rat.intCast_neg]
  grind
 refine ⟨c, ?_⟩
 unfold moveD
 dsimp only
 rw [if_neg (by omega), e1]
 dsimp only
 rw [if_neg (by simpa using m1), if_neg (by omega), hc', et]
 dsimp only
 rw [if_neg (by simp), ea]
 rw [if_neg (by simp)]
theorem mono_rest {o : Int} {p : List TermD} {l : List (List TermD)} (ho : oOk o) (hp : Mo p) (hl : ∀ b ∈ l, Mo b) (h24 : l.length ≤ 24) (h : ∃ q ∈ l, dvd q p = true) : (splitD o p l).1 = 0 ∧ (splitD o p l).2.2 = [] := by
 have hcp := hp.cp ho
 obtain ⟨z, m, hz0, hz, hm, rfl⟩ := hp
 cases hd : dividesD l m with
 | none =>
   obtain ⟨q, hq, hdv⟩ := h
   obtain ⟨i, hi⟩ := List.mem_iff_getElem?.1 hq
   obtain ⟨n, u, _, _, _, rfl⟩ := hl q hq
   have h2 := dividesD_none hd hi
   have h3 : (monDiv m u).1 = true := hdv
   rw [h3] at h2
   cases h2
 | some x =>
   obtain ⟨i, qm⟩ := x
   obtain ⟨u, b, hi, hq⟩ := dividesD_lt hd
   obtain ⟨n, um, hn, hn1, hum, e⟩ := hl _ (List.mem_of_getElem? hi)
   rw [e] at hi
   obtain ⟨rfl, rfl⟩ := List.cons.inj e
   have hg : l.getD i [] = [⟨ofD n, um⟩] := by rw [List.getD_eq_getElem?_getD, hi]; rfl
   have hil := (List.getElem?_eq_some_iff.1 hi).1
   have hr : (List.replicate l.length ([] : List TermD)).getD i [] = [] := by
    rw [List.getD_eq_getElem?_getD, List.getElem?_replicate, if_pos hil]; rfl
   obtain ⟨c, ec⟩ := mono_move (o := o) (q := []) (k := 0) ho hz0 hz hm hn hn1 hum hq (by decide) (by simp)
   rw [splitD_F hcp (fun b hb => (hl b hb).cp ho) h24]
   obtain ⟨j, hj⟩ : ∃ n, 400 * 61 + 61 = n + 1 + 1 := ⟨24459, rfl⟩
   have e : splitF o l (j + 1 + 1) [⟨ofD z, m⟩] (List.replicate l.length []) [] 0 = (0, (List.replicate l.length []).set i [⟨c, qm⟩], []) := by
    unfold splitF
    simp only
    rw [hd]
    simp only
    rw [hg, hr, ec, if_neg (by simp)]
    rfl
   rw [hj, e]
   exact ⟨rfl, rfl⟩
end Go.Proofs.YtgjkgkgieeoalaaGreat
