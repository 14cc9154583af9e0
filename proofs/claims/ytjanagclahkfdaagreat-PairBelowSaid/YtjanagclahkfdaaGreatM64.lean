/- Parts of the proof, joined: what each says stands at its head. -/
import Derived.Test.YtjanagclahkfdaaGreatM41
import Derived.Test.YtjanagclahkfdaaGreatM55
import Derived.Test.YtjanagclahkfdaaGreatM28
set_option linter.unusedVariables false
set_option linter.unusedSimpArgs false
set_option maxHeartbeats 24000000
set_option maxRecDepth 100000
namespace Go.Proofs.YtjanagclahkfdaaGreat
theorem addD_lit {r s : RatD} (hr : Lit r) (hs : Lit s) : (addD r s).1 = 0 := by
 obtain ⟨g, a, b⟩ := hr
 obtain ⟨g', a', b'⟩ := hs
 have key : ∀ x y : Nat, x < 18446744073709551616 → y < 18446744073709551616 → x * y ≤ 18446744073709551616 ^ 2 := fun x y hx hy =>
  Nat.le_trans (Nat.mul_le_mul (Nat.le_of_lt hx) (Nat.le_of_lt hy)) (by decide)
 have l1 := key _ _ a b'
 have l2 := key _ _ a' b
 have l3 := key _ _ b b'
 have hp : (plusD r.neg (val r.num * val s.den) s.neg (val s.num * val r.den)).2 ≤ val r.num * val s.den + val s.num * val r.den := by
  have h := sg_plus r.neg (val r.num * val s.den) s.neg (val s.num * val r.den)
  have h2 := congrArg Int.natAbs h
  rw [sg_abs] at h2
  rw [h2]
  refine Nat.le_trans (Int.natAbs_add_le _ _) ?_
  rw [sg_abs, sg_abs]
  exact Nat.le_refl _
 have lim : ∀ n : Nat, n ≤ 18446744073709551616 ^ 2 + 18446744073709551616 ^ 2 → (limbs n).length ≤ 8 := fun n h => limbs_len.2 (Nat.lt_of_le_of_lt h (by decide))
 have hb : isBig [limbs (val r.num * val s.den), limbs (val s.num * val r.den), limbs (plusD r.neg (val r.num * val s.den) s.neg (val s.num * val r.den)).2, limbs (val r.den * val s.den)] = false := isBig_no fun x hx => by
  simp only [List.mem_cons, List.not_mem_nil, or_false] at hx
  rcases hx with rfl | rfl | rfl | rfl
  ·exact lim _ (by omega)
  ·exact lim _ (by omega)
  ·exact lim _ (by omega)
  ·exact lim _ (by omega)
 unfold addD
 rw [g.may, g'.may, if_neg (by simp), hb, if_neg (by simp), makeD_q _ _ _ (Nat.mul_ne_zero g.den g'.den) (lim _ (by omega)) (lim _ (by omega))]
theorem hasM_of {al : List TermD} {m : MonD} (h : hasM al m = true) : ∃ x ∈ al, x.m = m ∧ getM al m = x.c := by
 unfold hasM at h
 unfold getM
 cases e : al.find? fun p => decide (p.m = m) with
 | none =>
   rw [List.find?_eq_none] at e
   obtain ⟨x, hx, h2⟩ := List.any_eq_true.1 h
   exact absurd h2 (e x hx)
 | some x => exact ⟨x, List.mem_of_find?_eq_some e, by simpa using List.find?_some e, rfl⟩
theorem putAll_cons (o : Int) (al : List TermD) (t : TermD) (ts : List TermD) : putAll o al (t :: ts) = if (putD o al t).1 ≠ 0 then ((putD o al t).1, []) else putAll o (putD o al t).2 ts := rfl
theorem putAll_app {o : Int} : ∀ {a b al : List TermD}, (putAll o al a).1 = 0 → putAll o al (a ++ b) = putAll o (putAll o al a).2 b
 | [], b, al, _ => rfl
 | t :: a, b, al, h => by
   rw [List.cons_append, putAll_cons, putAll_cons]
   rw [putAll_cons] at h
   by_cases h1 : (putD o al t).1 = 0
   ·have h2 : ¬ (putD o al t).1 ≠ 0 := fun h => h h1
    rw [if_neg h2] at h
    rw [if_neg h2, if_neg h2, putAll_app h]
   ·rw [if_pos (by simpa using h1)] at h
    exact absurd h h1
theorem putAll_fresh {o : Int} : ∀ {ts al : List TermD}, (ts.Pairwise fun p q => p.m ≠ q.m) → (∀ t ∈ ts, ∀ x ∈ al, x.m ≠ t.m) → (putAll o al ts).1 = 0 ∧ ∀ x ∈ (putAll o al ts).2, x ∈ al ∨ x ∈ ts
 | [], al, _, _ => ⟨rfl, fun x h => .inl h⟩
 | t :: ts, al, hp, hf => by
   obtain ⟨h1, h2⟩ := List.pairwise_cons.1 hp
   have hno : ¬ hasM al t.m = true := fun h => by
    obtain ⟨x, hx, e, _⟩ := hasM_of h
    exact hf t (by simp) x hx e
   have e : putD o al t = (0, insD o t al) := by unfold putD; rw [if_neg hno]
   obtain ⟨a1, a2⟩ := putAll_fresh (o := o) (ts := ts) (al := insD o t al) h2 fun s hs x hx => by
    rcases mem_insD.1 hx with rfl | hx
    ·exact h1 s hs
    ·exact hf s (by simp [hs]) x hx
   rw [putAll_cons, e]
   simp only [ne_eq, not_true_eq_false, if_false]
   refine ⟨a1, fun x hx => ?_⟩
   rcases a2 x hx with h | h
   ·rcases mem_insD.1 h with rfl | h
    ·exact .inr (by simp)
    ·exact .inl h
   ·exact .inr (by simp [h])
theorem putAll_lit {o : Int} : ∀ {ts al : List TermD}, (ts.Pairwise fun p q => p.m ≠ q.m) → (∀ t ∈ ts, Lit t.c) → (∀ x ∈ al, Lit x.c ∨ ∀ t ∈ ts, t.m ≠ x.m) → (putAll o al ts).1 = 0
 | [], al, _, _, _ => rfl
 | t :: ts, al, hp, hl, hf => by
   obtain ⟨h1, h2⟩ := List.pairwise_cons.1 hp
   have hl' : ∀ s ∈ ts, Lit s.c := fun s hs => hl s (by simp [hs])
   by_cases hm : hasM al t.m = true
   ·obtain ⟨x, hx, e, eg⟩ := hasM_of hm
    have hx1 : Lit x.c := by
     rcases hf x hx with h | h
     ·exact h
     ·exact absurd e.symm (h t (by simp))
    have ha := addD_lit hx1 (hl t (by simp))
    have e2 : putD o al t = (0, setM al t.m (addD x.c t.c).2) := by unfold putD; rw [if_pos hm, eg, if_neg (by rw [ha]; simp)]
    rw [putAll_cons, e2]
    simp only [ne_eq, not_true_eq_false, if_false]
    refine putAll_lit h2 hl' fun y hy => ?_
    obtain ⟨z, hz, rfl⟩ := List.mem_map.1 hy
    split
    ·exact .inr fun s hs e => h1 s hs e.symm
    ·rcases hf z hz with h | h
     ·exact .inl h
     ·exact .inr fun s hs => h s (by simp [hs])
   ·have e2 : putD o al t = (0, insD o t al) := by unfold putD; rw [if_neg hm]
    rw [putAll_cons, e2]
    simp only [ne_eq, not_true_eq_false, if_false]
    refine putAll_lit h2 hl' fun y hy => ?_
    rcases mem_insD.1 hy with rfl | hy
    ·exact .inl (hl _ (by simp))
    ·rcases hf y hy with h | h
     ·exact .inl h
     ·exact .inr fun s hs => h s (by simp [hs])
theorem polAdd_lit {o : Int} {X Y : List TermD} (hX : CP o X) (hY : CP o Y) (hl : X.length + Y.length ≤ 60) (lX : ∀ x ∈ X, Lit x.c) (lY : ∀ x ∈ Y, Lit x.c) :
    ∃ Z, polAdd o [X, Y] = (0, Z) ∧ CP o Z ∧ ∀ f, lin f Z = lin f X + lin f Y := by
 have hps : ∀ p ∈ [X, Y], CP o p := fun p hp => by
  simp only [List.mem_cons, List.not_mem_nil, or_false] at hp
  rcases hp with rfl | rfl
  ·exact hX
  ·exact hY
 have ef : [X, Y].flatten = X ++ Y := by simp
 obtain ⟨a1, a2⟩ := putAll_fresh (o := o) (ts := X) (al := []) hX.canon.sta.keys (fun t _ x hx => by cases hx)
 have a3 := putAll_lit (o := o) (ts := Y) (al := (putAll o [] X).2) hY.canon.sta.keys lY fun x hx => by
  rcases a2 x hx with h | h
  ·cases h
  ·exact .inl (lX x h)
 have a4 : (putAll o [] (X ++ Y)).1 = 0 := by rw [putAll_app a1]; exact a3
 have a5 : (putAll o [] (X ++ Y)).2.length ≤ (X ++ Y).length := putAll_len (o := o) (by rw [← a4])
 have hg : GoodP (X ++ Y) := hX.canon.good.app hY.canon.good
 have h0 : (polAdd o [X, Y]).1 = 0 := by
  rw [polAdd_make hps, ef]
  unfold polMake
  rw [anyOdd_good hg, show ordered o = true from hX.may |> fun h => by unfold polMay at h; simp only [Bool.and_eq_true] at h; exact h.2.1, if_neg (by simp), if_neg (by rw [a4]; simp), if_neg (by
   have := List.length_filter_le nz (putAll o [] (X ++ Y)).2
   rw [List.length_append] at a5
   omega)]
 obtain ⟨b1, b2⟩ := polAdd_good hps h0
 refine ⟨_, Prod.ext h0 rfl, b1, fun f => ?_⟩
 rw [b2 f, ef, lin_app]
structure RaiseOk (o : Int) (m by_ : MonD) (s : Int) (t : TermD) (p X : List TermD) : Prop where
 cp : CP o X
 len : X.length = (t :: p).length
 lit : ∀ x ∈ X, Lit x.c
 lin : ∀ f, lin f X = ((s : Rat) * (qv t.c)⁻¹) * lin (fun n => f (addM n by_)) (t :: p)
 head : ∃ x X', X = x :: X' ∧ x.m = m ∧ qv x.c = (s : Rat)
theorem raise_good {o : Int} {m by_ : MonD} {s : Int} {t : TermD} {p : List TermD} (hp : SmP o (t :: p)) (hs : s = 1 ∨ s = -1) (hd : monDiv m t.m = (true, by_)) (hf : Fits (t :: p) by_) :
    ∃ X, raiseD o m (t :: p) s = (0, X) ∧ RaiseOk o m by_ s t p X := by
 have tm : t ∈ t :: p := by simp
 have hcp := hp.cp
 obtain ⟨m1, m2, m3, m4⟩ := monDiv_true hd
 have hint : ∀ x ∈ t :: p, Lit x.c ∧ val x.c.num ≤ 1280 ∧ val x.c.den = 1 := fun x hx => by
  obtain ⟨n, e⟩ := hp.pol.ints.int x hx
  have h1 := Nat.le_trans (mass_mem hx) hp.pol.ints.mass
  have h2 : val x.c.den = 1 := by rw [e]; rfl
  exact ⟨⟨(hp.pol.canon.good x hx).c, by omega, by omega⟩, h1, h2⟩
 obtain ⟨lt, tn, td⟩ := hint t tm
 have tz := hp.pol.canon.nz t tm
 have tz' : t.c.num.length ≠ 0 := by unfold nz at tz; simpa using tz
 have tq := (hp.pol.canon.good t tm).ne tz
 obtain ⟨i1, i2⟩ := invD_q lt.1 tz'
 have ik : invD t.c = (0, ⟨t.c.neg, t.c.den, t.c.num⟩) := by
  unfold invD
  rw [lt.1.may, if_neg (by simp), if_neg tz']
 obtain ⟨r, hr⟩ : ∃ r, (invD t.c).2 = r := ⟨_, rfl⟩
 have r1 : r = ofQ (qv t.c)⁻¹ := by rw [← hr, i1]
 have rq : qv r = (qv t.c)⁻¹ := by rw [r1, qv_ofQ]
 have rn : val r.num = 1 ∧ val r.den = val t.c.num := by
  rw [← hr, ik]; exact ⟨td, rfl⟩
 have rg : GoodR r := by rw [r1]; exact ofQ_good i2
 have rl : Lit r := ⟨rg, by omega, by omega⟩
 have sa : s.natAbs = 1 := by rcases hs with rfl | rfl <;> rfl
 have sl : Lit (ofD s) ∧ val (ofD s).num = 1 ∧ val (ofD s).den = 1 := by
  have h1 : val (ofD s).num = 1 := by rw [val_ofD]; exact sa
  have h2 : val (ofD s).den = 1 := rfl
  exact ⟨⟨ofD_good (by omega), by omega, by omega⟩, h1, h2⟩
 obtain ⟨k1, kg, kq, kn, kd⟩ := mulD_lit rl sl.1
 rw [rn.1, sl.2.1] at kn
 rw [rn.2, sl.2.2] at kd
 obtain ⟨k, hk⟩ : ∃ k, (mulD r (ofD s)).2 = k := ⟨_, rfl⟩
 rw [hk] at kg kq kn kd
 rw [rq, qv_ofD] at kq
 have kl : Lit k := ⟨kg, by omega, by omega⟩
 have sne : (s : Rat) ≠ 0 := by rcases hs with rfl | rfl <;> decide
 have tine : (qv t.c)⁻¹ ≠ 0 := fun h => by
  have := Rat.mul_inv_cancel _ tq
  rw [h, Rat.mul_zero] at this
  exact absurd this (by decide)
 have kne : qv k ≠ 0 := by
  rw [kq]
  intro h
  rcases Rat.mul_eq_zero.1 h with h | h
  ·exact tine h
  ·exact sne h
 have hT : GoodT ⟨k, by_⟩ := ⟨kg, m3⟩
 have hz : nz ⟨k, by_⟩ = true := nz_of kg kne
 have each : ∀ x ∈ t :: p, (mulD x.c k).1 = 0 ∧ monMul x.m by_ = (0, addM x.m by_) := fun x hx => ⟨(mulD_lit (hint x hx).1 kl).1, monMul_of (hcp.canon.good x hx).m m3 (hf x hx)⟩
 have hok : ∀ x ∈ t :: p, TimesOk x ⟨k, by_⟩ := fun x hx => timesOk (hcp.canon.good x hx) hT (each x hx).1 (by rw [(each x hx).2])
 have hX : polTimes o (t :: p) ⟨k, by_⟩ = (0, (t :: p).map fun x => mulT x ⟨k, by_⟩) := by rw [polTimes_timesL hcp hT hz]; exact timesL_map each
 refine ⟨_, ?_, ⟨canon_times hcp.canon hT hz hok, by rw [List.length_map]; exact hcp.len⟩, by rw [List.length_map], fun x hx => ?_, fun f => ?_, ⟨_, _, rfl, m4, ?_⟩⟩
 ·unfold raiseD
  simp only
  rw [hr, show (invD t.c).1 = 0 by rw [i1], if_neg (by simp), k1, if_neg (by simp), hk, hd]
  exact hX
 ·obtain ⟨y, hy, rfl⟩ := List.mem_map.1 hx
  obtain ⟨a1, a2, a3⟩ := hint y hy
  obtain ⟨_, b2, b3, b4, b5⟩ := mulD_lit a1 kl
  rw [a3] at b5
  exact ⟨b2, Nat.lt_of_le_of_lt b4 (Nat.lt_of_le_of_lt (Nat.mul_le_mul a2 kn) (by omega)), Nat.lt_of_le_of_lt b5 (by omega)⟩
 ·rw [lin_timesM f hok, kq]
  congr 1
  exact Rat.mul_comm _ _
 ·rw [(hok t tm).val, kq, ← Rat.mul_assoc, Rat.mul_inv_cancel _ tq, Rat.one_mul]
theorem cross_divs {o : Int} {t u : TermD} {p q : List TermD} (hp : SmP o (t :: p)) (hq : SmP o (u :: q)) :
    ∃ m b1 b2, monLcm t.m u.m = m ∧ monMay m = true ∧ monDiv m t.m = (true, b1) ∧ monDiv m u.m = (true, b2) ∧ Fits (t :: p) b1 ∧ Fits (u :: q) b2 ∧ Low 3 [⟨zeroD, m⟩] ∧ m = maxM t.m u.m := by
 have lt := hp.low t (by simp)
 have lu := hq.low u (by simp)
 have mt := hp.pol.canon.sta.good t (by simp)
 have mu := hq.pol.canon.sta.good u (by simp)
 have e : monLcm t.m u.m = maxM t.m u.m := by unfold monLcm; rw [mt, mu]; rfl
 have hm : monMay (maxM t.m u.m) = true := monMay_low (by simp only [maxM]; omega)
 have d1 : monDiv (maxM t.m u.m) t.m = (true, subM (maxM t.m u.m) t.m) := monDiv_of hm mt (monMay_low (by simp only [maxM, subM]; omega)) (by
  unfold addM subM
  rcases h : maxM t.m u.m with ⟨a, b, c, d⟩
  simp only [MonD.mk.injEq]
  omega)
 have d2 : monDiv (maxM t.m u.m) u.m = (true, subM (maxM t.m u.m) u.m) := monDiv_of hm mu (monMay_low (by simp only [maxM, subM]; omega)) (by
  unfold addM subM
  rcases h : maxM t.m u.m with ⟨a, b, c, d⟩
  simp only [MonD.mk.injEq]
  omega)
 refine ⟨_, _, _, e, hm, d1, d2, fun x hx => ?_, fun x hx => ?_, fun x hx => ?_, rfl⟩
 ·have lx := hp.low x hx
  exact monMay_low (by simp only [addM, maxM, subM]; omega)
 ·have lx := hq.low x hx
  exact monMay_low (by simp only [addM, maxM, subM]; omega)
 ·simp only [List.mem_singleton] at hx
  subst hx
  simp only [maxM]
  omega
theorem lcm_comm (a b : MonD) : monLcm a b = monLcm b a := by
 unfold monLcm
 rw [Bool.and_comm]
 congr 1
 unfold maxM
 simp only [MonD.mk.injEq, Int.max_comm, and_self]
structure CrossOk (o : Int) (m b1 b2 : MonD) (t u : TermD) (p q X Y Z : List TermD) : Prop where
 eq : crossD o (t :: p) (u :: q) = (0, Z)
 cp : CP o Z
 x : RaiseOk o m b1 1 t p X
 y : RaiseOk o m b2 (-1) u q Y
 sum : ∀ f, lin f Z = lin f X + lin f Y
theorem cross_good {o : Int} {t u : TermD} {p q : List TermD} (hp : SmP o (t :: p)) (hq : SmP o (u :: q)) {m b1 b2 : MonD} (e : monLcm t.m u.m = m) (d1 : monDiv m t.m = (true, b1)) (d2 : monDiv m u.m = (true, b2)) (f1 : Fits (t :: p) b1) (f2 : Fits (u :: q) b2) :
    ∃ X Y Z, CrossOk o m b1 b2 t u p q X Y Z := by
 obtain ⟨X, eX, hX⟩ := raise_good hp (.inl rfl) d1 f1
 obtain ⟨Y, eY, hY⟩ := raise_good (s := -1) hq (.inr rfl) d2 f2
 have l1 := hp.len
 have l2 := hq.len
 obtain ⟨Z, eZ, cZ, sZ⟩ := polAdd_lit hX.cp hY.cp (by rw [hX.len, hY.len]; omega) hX.lit hY.lit
 refine ⟨X, Y, Z, ?_, cZ, hX, hY, sZ⟩
 unfold crossD
 rw [hp.cp.may, hq.cp.may, if_neg (by simp)]
 simp only
 rw [e, eX, eY, if_neg (by simp), if_neg (by simp)]
 exact eZ
theorem CrossOk.below {o : Int} {m b1 b2 : MonD} {t u : TermD} {p q X Y Z : List TermD} (h : CrossOk o m b1 b2 t u p q X Y Z) (hm : monMay m = true) {v : TermD} (hv : v ∈ Z) : monCmp o v.m m < 0 := by
 have ho := h.cp.ord
 obtain ⟨x, X', rfl, xm, xq⟩ := h.x.head
 obtain ⟨y, Y', rfl, ym, yq⟩ := h.y.head
 have vm := h.cp.canon.sta.good v hv
 have hne := h.cp.ne hv
 have e0 := lin_ind_mem h.cp.canon.sta.keys hv
 have bx : ∀ z ∈ X', monCmp o z.m m < 0 := fun z hz => by
  have h1 := h.x.cp.below z hz
  rw [xm] at h1
  have h2 := monCmp_anti ho hm (h.x.cp.canon.sta.good z (by simp [hz]))
  omega
 have by_ : ∀ z ∈ Y', monCmp o z.m m < 0 := fun z hz => by
  have h1 := h.y.cp.below z hz
  rw [ym] at h1
  have h2 := monCmp_anti ho hm (h.y.cp.canon.sta.good z (by simp [hz]))
  omega
 have far : ∀ (l : List TermD) (k : MonD), (∀ z ∈ l, z.m ≠ k) → lin (ind k) l = 0 := fun l k hl => lin_ind_not hl
 by_cases hvm : v.m = m
 ·exfalso
  have s := h.sum (ind v.m)
  rw [e0, hvm] at s
  have z1 := far X' m fun z hz e => by
   have := bx z hz
   rw [e, (monCmp_zero ho hm hm).2 rfl] at this
   omega
  have z2 := far Y' m fun z hz e => by
   have := by_ z hz
   rw [e, (monCmp_zero ho hm hm).2 rfl] at this
   omega
  simp only [lin, z1, z2, xm, ym, xq, yq, ind, if_true] at s
  apply hne
  rw [s, Rat.intCast_neg]
  grind
 ·have hin : (∃ z ∈ X', z.m = v.m) ∨ ∃ z ∈ Y', z.m = v.m := by
    by_cases h1 : ∃ z ∈ X', z.m = v.m
    ·exact .inl h1
    by_cases h2 : ∃ z ∈ Y', z.m = v.m
    ·exact .inr h2
    exfalso
    have s := h.sum (ind v.m)
    have z1 := far X' v.m fun z hz e => h1 ⟨z, hz, e⟩
    have z2 := far Y' v.m fun z hz e => h2 ⟨z, hz, e⟩
    have i0 : ind v.m m = 0 := by unfold ind; rw [if_neg (Ne.symm hvm)]
    rw [e0] at s
    simp only [lin, z1, z2, xm, ym, i0, Rat.mul_zero, Rat.add_zero] at s
    exact hne s
  rcases hin with ⟨z, hz, e⟩ | ⟨z, hz, e⟩
  ·rw [← e]; exact bx z hz
  ·rw [← e]; exact by_ z hz
theorem lin_minusQ (f : MonD → Rat) : ∀ {p : List TermD}, GoodP p → lin f (polMinus p) = - lin f p
 | [], _ => by simp [polMinus, lin]
 | t :: p, h => by
   have ih := lin_minusQ f h.tl
   show qv (negD t.c) * f t.m + lin f (polMinus p) = _
   rw [ih, (negD_q h.hd.c).2]
   show _ = -(qv t.c * f t.m + lin f p)
   grind
theorem CP.minus {o : Int} {p : List TermD} (h : CP o p) : CP o (polMinus p) := by
 have hmem : ∀ x ∈ polMinus p, ∃ s ∈ p, (⟨negD s.c, s.m⟩ : TermD) = x := fun x hx => List.mem_map.1 hx
 refine ⟨⟨⟨h.ord, fun x hx => ?_, ?_⟩, fun x hx => ?_, fun x hx => ?_⟩, by unfold polMinus; rw [List.length_map]; exact h.len⟩
 ·obtain ⟨s, hs, rfl⟩ := hmem x hx; exact h.canon.sta.good s hs
 ·unfold Fall polMinus
  rw [List.pairwise_map]
  exact h.canon.sta.fall
 ·obtain ⟨s, hs, rfl⟩ := hmem x hx
  exact ⟨(negD_q (h.canon.good s hs).c).1, h.canon.sta.good s hs⟩
 ·obtain ⟨s, hs, rfl⟩ := hmem x hx
  refine nz_of (negD_q (h.canon.good s hs).c).1 ?_
  rw [(negD_q (h.canon.good s hs).c).2]
  intro e
  have := h.ne hs
  apply this
  grind
theorem cross_swap {o : Int} {t u : TermD} {p q : List TermD} {m b1 b2 : MonD} {X Y Z X' Y' Z' : List TermD} (h : CrossOk o m b1 b2 t u p q X Y Z) (h' : CrossOk o m b2 b1 u t q p X' Y' Z') : Z = polMinus Z' := by
 refine h.cp.eq h'.cp.minus fun f => ?_
 rw [lin_minusQ f h'.cp.canon.good, h.sum, h'.sum, h.x.lin, h.y.lin, h'.x.lin, h'.y.lin]
 simp only [Rat.intCast_neg]
 grind
theorem below_law {o : Int} {t u : TermD} {p q : List TermD} (hp : SmP o (t :: p)) (hq : SmP o (u :: q)) :
    ∃ Z Z', crossD o (t :: p) (u :: q) = (0, Z) ∧ crossD o (u :: q) (t :: p) = (0, Z') ∧ Z = polMinus Z' ∧ (Z.length ≤ 60 ∧ Z'.length ≤ 60) ∧ (∀ v ∈ Z, monCmp o v.m (monLcm t.m u.m) < 0) ∧ GoodP Z ∧ GoodP Z' := by
 obtain ⟨m, b1, b2, e, hm, d1, d2, f1, f2, _⟩ := cross_divs hp hq
 obtain ⟨X, Y, Z, h⟩ := cross_good hp hq e d1 d2 f1 f2
 obtain ⟨X', Y', Z', h'⟩ := cross_good hq hp (by rw [lcm_comm]; exact e) d2 d1 f2 f1
 exact ⟨Z, Z', h.eq, h'.eq, cross_swap h h', ⟨h.cp.len, h'.cp.len⟩, fun v hv => by rw [e]; exact h.below hm hv, h.cp.canon.good, h'.cp.canon.good⟩
end Go.Proofs.YtjanagclahkfdaaGreat
