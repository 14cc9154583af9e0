/- Parts of the proof, joined: each theorem says what it shows. -/
import Derived.Test.YtgjkgkgieeoalaaGreatC27
import Derived.Test.YtgjkgkgieeoalaaGreatC29
import Derived.Test.YtgjkgkgieeoalaaGreatC34
set_option linter.unusedVariables false
set_option linter.unusedSimpArgs false
set_option maxHeartbeats 24000000
set_option maxRecDepth 100000
namespace Go.Proofs.YtgjkgkgieeoalaaGreat
theorem lin_van {g : MonD → Rat} {p : List TermD} (h : ∀ s ∈ p, g s.m = 0) : lin g p = 0 := by
 induction p with
 | nil => rfl
 | cons t p ih =>
   simp only [lin]
   rw [h t (by simp), ih fun s hs => h s (by simp [hs])]
   grind
theorem mulM_lt {o : Int} (ho : oOk o) {a b c : MonD} (ha : monMay a = true) (hb : monMay b = true) (hc : monMay c = true) (hac : monMay (addM a c) = true) (hbc : monMay (addM b c) = true) (h : 0 < monCmp o a b) : monCmp o (addM b c) (addM a c) < 0 := by
 rw [monCmp_mul ho hb ha hc hbc hac, monCmp_anti ho ha hb]
 omega
theorem lead {o : Int} {t u : TermD} {p q : List TermD} (hp : SmP o (t :: p)) (hq : SmP o (u :: q)) (h0 : (polMul o (t :: p) (u :: q)).1 = 0) : ∃ s r, (polMul o (t :: p) (u :: q)).2 = s :: r ∧ s.m = addM t.m u.m := by
 have ho := hp.pol.canon.sta.ord
 obtain ⟨h1, e1⟩ := prods_sum hp hq
 have hf := hp.fits hq
 have gp := hp.pol.canon.sta.good
 have gq := hq.pol.canon.sta.good
 obtain ⟨fp, _⟩ := List.pairwise_cons.1 hp.pol.canon.sta.fall
 obtain ⟨fq, _⟩ := List.pairwise_cons.1 hq.pol.canon.sta.fall
 have tm : t ∈ t :: p := by simp
 have um : u ∈ u :: q := by simp
 have W := hf u um t tm
 have lt1 : ∀ s ∈ p, ∀ v ∈ u :: q, monCmp o (addM s.m v.m) (addM t.m v.m) < 0 := fun s hs v hv =>
  mulM_lt ho (gp t tm) (gp s (by simp [hs])) (gq v hv) (hf v hv t tm) (hf v hv s (by simp [hs])) (fp s hs)
 have lt2 : ∀ v ∈ q, monCmp o (addM t.m v.m) (addM t.m u.m) < 0 := fun v hv => by
  have := mulM_lt ho (gq u um) (gq v (by simp [hv])) (gp t tm) (by rw [addM_comm]; exact W) (by rw [addM_comm]; exact hf v (by simp [hv]) t tm) (fq v hv)
  rwa [addM_comm v.m, addM_comm u.m] at this
 have lt3 : ∀ s ∈ t :: p, ∀ v ∈ q, monCmp o (addM s.m v.m) (addM t.m u.m) < 0 := fun s hs v hv => by
  have hv' : v ∈ u :: q := by simp [hv]
  rcases List.mem_cons.1 hs with rfl | hs
  ·exact lt2 v hv
  ·exact monCmp_lt ho (hf v hv' s (by simp [hs])) (hf v hv' t tm) W (lt1 s hs v hv') (lt2 v hv)
 have ne : ∀ {m : MonD}, monMay m = true → monCmp o m (addM t.m u.m) < 0 → m ≠ addM t.m u.m := fun hm h e => by
  have := (monCmp_zero ho hm W).2 e
  omega
 have hG : lin (ind (addM t.m u.m)) (prods (t :: p) (u :: q)) = qv u.c * qv t.c := by
  rw [lin_prods hp.pol.ints (by decide) _ hq.pol.ints (by decide)]
  simp only [lin]
  rw [lin_van (p := q) (fun v hv => ?_), lin_van (p := p) (fun s hs => ?_)]
  ·unfold ind
   rw [if_pos rfl]
   grind
  ·unfold ind
   rw [if_neg (ne (hf u um s (by simp [hs])) (lt1 s hs u um))]
  ·show qv t.c * ind (addM t.m u.m) (addM t.m v.m) + lin (fun m => ind (addM t.m u.m) (addM m v.m)) p = 0
   have hv' : v ∈ u :: q := by simp [hv]
   rw [lin_van (p := p) (fun s hs => ?_)]
   ·unfold ind
    rw [if_neg (ne (hf v hv' t tm) (lt3 t tm v hv))]
    grind
   ·unfold ind
    rw [if_neg (ne (hf v hv' s (by simp [hs])) (lt3 s (by simp [hs]) v hv))]
 have hne : qv u.c * qv t.c ≠ 0 := by
  have a1 := (hp.pol.canon.good t tm).ne (hp.pol.canon.nz t tm)
  have a2 := (hq.pol.canon.good u um).ne (hq.pol.canon.nz u um)
  intro h
  rcases Rat.mul_eq_zero.1 h with h | h
  ·exact a2 h
  ·exact a1 h
 rw [e1] at h0 ⊢
 obtain ⟨hpol, e2⟩ := h1.pol h0
 have hlin := h1.lin (ind (addM t.m u.m))
 rw [hG] at hlin
 have hcan := h1.canon
 have hmem := h1.mem
 rw [e2]
 show ∃ s r, polSum o (prods (t :: p) (u :: q)) = s :: r ∧ s.m = addM t.m u.m
 generalize polSum o (prods (t :: p) (u :: q)) = x at hlin hcan hmem
 have hle : ∀ s ∈ x, monCmp o s.m (addM t.m u.m) ≤ 0 := fun s hs => by
  obtain ⟨y, hy, e⟩ := hmem s hs
  rw [← e]
  unfold prods at hy
  obtain ⟨v, hv, hy⟩ := List.mem_flatMap.1 hy
  obtain ⟨z, hz, rfl⟩ := List.mem_map.1 hy
  show monCmp o (addM z.m v.m) (addM t.m u.m) ≤ 0
  rcases List.mem_cons.1 hv with rfl | hv
  ·rcases List.mem_cons.1 hz with rfl | hz
   ·exact Int.le_of_eq ((monCmp_zero ho W W).2 rfl)
   ·exact Int.le_of_lt (lt1 z hz v um)
  ·exact Int.le_of_lt (lt3 z hz v hv)
 have hex : ∃ s ∈ x, s.m = addM t.m u.m := by
  refine Classical.byContradiction fun hn => ?_
  rw [lin_ind_not (fun s hs e => hn ⟨s, hs, e⟩)] at hlin
  exact hne hlin.symm
 obtain ⟨s, hs, es⟩ := hex
 match x, hcan, hle, hs with
 | y :: r, hcan, hle, hs =>
   refine ⟨y, r, rfl, ?_⟩
   rcases List.mem_cons.1 hs with rfl | hs
   ·exact es
   ·have h1 := (List.pairwise_cons.1 hcan.sta.fall).1 s hs
    have h2 := hle y (by simp)
    rw [es] at h1
    omega
theorem mulD_small {r s : RatD} (hr : GoodR r) (hs : GoodR s) (h1 : val r.num * val s.num < 18446744073709551616 ^ 8) (h2 : val r.den * val s.den < 18446744073709551616 ^ 8) :
    (mulD r s).1 = 0 ∧ GoodR (mulD r s).2 ∧ qv (mulD r s).2 = qv r * qv s ∧ val (mulD r s).2.num ≤ val r.num * val s.num ∧ val (mulD r s).2.den ≤ val r.den * val s.den := by
 have l1 := limbs_len.2 h1
 have l2 := limbs_len.2 h2
 have hb : isBig [limbs (val r.num * val s.num), limbs (val r.den * val s.den)] = false := isBig_no fun x hx => by
  simp only [List.mem_cons, List.not_mem_nil, or_false] at hx
  rcases hx with rfl | rfl
  ·exact l1
  ·exact l2
 have hd : val r.den * val s.den ≠ 0 := Nat.mul_ne_zero hr.den hs.den
 have e : mulD r s = makeD (r.neg != s.neg) (limbs (val r.num * val s.num)) (limbs (val r.den * val s.den)) := by
  unfold mulD
  rw [hr.may, hs.may, if_neg (by simp), hb, if_neg (by simp)]
 rcases mulD_q hr hs with h | ⟨h, hf⟩
 ·rw [e, makeD_q _ _ _ hd l1 l2] at h
  cases h
 ·rw [h]
  refine ⟨rfl, ofQ_good hf, qv_ofQ _, ?_⟩
  rw [e, makeD_q _ _ _ hd l1 l2, ofQ_mk _ _ _ hd] at h
  have h' := congrArg Prod.snd h
  simp only at h'
  rw [← h']
  simp only [val_limbs]
  exact ⟨Nat.div_le_self _ _, Nat.div_le_self _ _⟩
theorem monMul_zero {m : MonD} (h : monMay m = true) : monMul m zeroM = (0, addM m zeroM) := by
 unfold monMul
 rw [h, monMay_zero, addM_zero, h]; rfl
def Lit (r : RatD) : Prop := GoodR r ∧ val r.num < 18446744073709551616 ∧ val r.den < 18446744073709551616
theorem mulT_zm (s : TermD) (k : RatD) : (mulT s ⟨k, zeroM⟩).m = s.m := by show addM s.m zeroM = s.m; exact addM_zero _
structure MonicOk (o : Int) (p m : List TermD) (t u : TermD) : Prop where
 monic : polMonic o p = (0, m)
 back : polTimes o m ⟨t.c, zeroM⟩ = (0, p)
 again : polMonic o m = (0, m)
 first : u.c = ofD 1
structure CP (o : Int) (p : List TermD) : Prop where
 canon : Canon o p
 len : p.length ≤ 60
theorem CP.may {o : Int} {p : List TermD} (h : CP o p) : polMay o p = true := canon_may h.canon h.len
theorem CP.ord {o : Int} {p : List TermD} (h : CP o p) : oOk o := h.canon.sta.ord
theorem CP.nil {o : Int} (h : oOk o) : CP o [] := ⟨canon_nil h, by simp⟩
theorem Canon.tl {o : Int} {t : TermD} {p : List TermD} (h : Canon o (t :: p)) : Canon o p :=
 ⟨⟨h.sta.ord, fun s hs => h.sta.good s (by simp [hs]), (List.pairwise_cons.1 h.sta.fall).2⟩, h.good.tl, fun s hs => h.nz s (by simp [hs])⟩
theorem CP.tl {o : Int} {t : TermD} {p : List TermD} (h : CP o (t :: p)) : CP o p := ⟨h.canon.tl, by have := h.len; simp only [List.length_cons] at this; omega⟩
theorem CP.below {o : Int} {t : TermD} {p : List TermD} (h : CP o (t :: p)) : ∀ s ∈ p, 0 < monCmp o t.m s.m := (List.pairwise_cons.1 h.canon.sta.fall).1
theorem CP.ne {o : Int} {p : List TermD} (h : CP o p) {t : TermD} (ht : t ∈ p) : qv t.c ≠ 0 := (h.canon.good t ht).ne (h.canon.nz t ht)
theorem CP.eq {o : Int} {p q : List TermD} (h : CP o p) (h' : CP o q) (e : ∀ f, lin f p = lin f q) : p = q := canon_ext h.canon h'.canon e
theorem SmP.cp {o : Int} {p : List TermD} (h : SmP o p) : CP o p := ⟨h.pol.canon, h.pol.len⟩
theorem flat_good {o : Int} : ∀ {ps : List (List TermD)}, (∀ p ∈ ps, CP o p) → GoodP ps.flatten
 | [], _ => .nil
 | p :: ps, h => by rw [List.flatten_cons]; exact (h p (by simp)).canon.good.app (flat_good fun q hq => h q (by simp [hq]))
theorem polAdd_make {o : Int} {ps : List (List TermD)} (h : ∀ p ∈ ps, CP o p) : polAdd o ps = polMake o ps.flatten := polAdd_int fun p hp => ⟨(h p hp).canon, (h p hp).len⟩
theorem polAdd_good {o : Int} {ps : List (List TermD)} (h : ∀ p ∈ ps, CP o p) (h0 : (polAdd o ps).1 = 0) : CP o (polAdd o ps).2 ∧ ∀ f, lin f (polAdd o ps).2 = lin f ps.flatten := by
 rw [polAdd_make h] at h0 ⊢
 obtain ⟨a1, a2, _, a4⟩ := polMake_ok (flat_good h).u h0
 exact ⟨⟨a1, a2⟩, a4⟩
theorem nz_of {t : TermD} (h : GoodR t.c) (h0 : qv t.c ≠ 0) : nz t = true := by
 unfold nz
 rw [decide_eq_false fun e => h0 (h.nil_iff.1 e)]; rfl
theorem nz_len {t : TermD} (h : nz t = true) : ¬ t.c.num.length = 0 := by unfold nz at h; simpa using h
theorem monMul_of {a b : MonD} (ha : monMay a = true) (hb : monMay b = true) (h : monMay (addM a b) = true) : monMul a b = (0, addM a b) := by
 unfold monMul; rw [ha, hb, h]; rfl
theorem monMul_may {a b : MonD} (h : (monMul a b).1 = 0) : monMay (addM a b) = true := by
 unfold monMul at h
 split at h
 ·cases h
 ·split at h
  ·cases h
  ·rename_i h1; simpa using h1
structure TimesOk (s t : TermD) : Prop where
 good : GoodT (mulT s t)
 val : qv (mulT s t).c = qv s.c * qv t.c
 may : monMay (addM s.m t.m) = true
theorem timesOk {s t : TermD} (hs : GoodT s) (ht : GoodT t) (h1 : (mulD s.c t.c).1 = 0) (h2 : (monMul s.m t.m).1 = 0) : TimesOk s t := by
 have hm := monMul_may h2
 rcases mulD_q hs.c ht.c with e | ⟨e, hf⟩
 ·rw [e] at h1; cases h1
 ·exact ⟨⟨by show GoodR (mulD s.c t.c).2; rw [e]; exact ofQ_good hf, hm⟩, by show qv (mulD s.c t.c).2 = _; rw [e]; exact qv_ofQ _, hm⟩
theorem timesL_good {t : TermD} (ht : GoodT t) : ∀ {p : List TermD}, GoodP p → (timesL t p).1 = 0 → (timesL t p).2 = (p.map fun s => mulT s t) ∧ ∀ s ∈ p, TimesOk s t
 | [], _, _ => ⟨rfl, fun s h => by cases h⟩
 | s :: r, hp, h => by
   rw [timesL_cons] at h ⊢
   by_cases h1 : (mulD s.c t.c).1 = 0
   ·rw [if_neg (by simpa using h1)] at h ⊢
    by_cases h2 : (monMul s.m t.m).1 = 0
    ·rw [if_neg (by simpa using h2)] at h ⊢
     by_cases h3 : (timesL t r).1 = 0
     ·rw [if_neg (by simpa using h3)]
      obtain ⟨a1, a2⟩ := timesL_good ht hp.tl h3
      have hk := timesOk hp.hd ht h1 h2
      refine ⟨?_, fun x hx => ?_⟩
      ·rw [List.map_cons, a1, monMul_of hp.hd.m ht.m hk.may]; rfl
      ·rcases List.mem_cons.1 hx with rfl | hx
       ·exact hk
       ·exact a2 x hx
     ·rw [if_pos (by simpa using h3)] at h; exact absurd h h3
    ·rw [if_pos (by simpa using h2)] at h; exact absurd h h2
   ·rw [if_pos (by simpa using h1)] at h; exact absurd h h1
theorem lin_timesM (f : MonD → Rat) {t : TermD} : ∀ {p : List TermD}, (∀ s ∈ p, TimesOk s t) → lin f (p.map fun s => mulT s t) = qv t.c * lin (fun m => f (addM m t.m)) p
 | [], _ => by simp only [List.map_nil, lin]; grind
 | s :: p, h => by
   simp only [List.map_cons, lin]
   rw [lin_timesM f fun x hx => h x (by simp [hx]), (h s (by simp)).val]
   show qv s.c * qv t.c * f (addM s.m t.m) + _ = _
   grind
theorem canon_times {o : Int} {t : TermD} {p : List TermD} (hp : Canon o p) (ht : GoodT t) (hz : nz t = true) (h : ∀ s ∈ p, TimesOk s t) : Canon o (p.map fun s => mulT s t) := by
 have hmem : ∀ x ∈ p.map (fun s => mulT s t), ∃ s ∈ p, mulT s t = x := fun x hx => List.mem_map.1 hx
 refine ⟨⟨hp.sta.ord, fun x hx => ?_, ?_⟩, fun x hx => ?_, fun x hx => ?_⟩
 ·obtain ⟨s, hs, rfl⟩ := hmem x hx; exact (h s hs).good.m
 ·unfold Fall
  rw [List.pairwise_map]
  refine List.Pairwise.imp_of_mem ?_ hp.sta.fall
  intro a b ha hb hab
  show 0 < monCmp o (addM a.m t.m) (addM b.m t.m)
  rwa [monCmp_mul hp.sta.ord (hp.sta.good a ha) (hp.sta.good b hb) ht.m (h a ha).may (h b hb).may]
 ·obtain ⟨s, hs, rfl⟩ := hmem x hx; exact (h s hs).good
 ·obtain ⟨s, hs, rfl⟩ := hmem x hx
  refine nz_of (h s hs).good.c ?_
  rw [(h s hs).val]
  intro e
  rcases Rat.mul_eq_zero.1 e with e | e
  ·exact (hp.good s hs).ne (hp.nz s hs) e
  ·exact ht.ne hz e
theorem polTimes_timesL {o : Int} {t : TermD} {p : List TermD} (hp : CP o p) (ht : GoodT t) (hz : nz t = true) : polTimes o p t = timesL t p := by
 unfold polTimes
 rw [hp.may, ht.right, if_neg (by simp), if_neg (nz_len hz)]
theorem polTimes_good {o : Int} {t : TermD} {p : List TermD} (hp : CP o p) (ht : GoodT t) (hz : nz t = true) (h0 : (polTimes o p t).1 = 0) :
    CP o (polTimes o p t).2 ∧ (∀ f, lin f (polTimes o p t).2 = qv t.c * lin (fun m => f (addM m t.m)) p) ∧ Fits p t.m := by
 rw [polTimes_timesL hp ht hz] at h0 ⊢
 obtain ⟨a1, a2⟩ := timesL_good ht hp.canon.good h0
 rw [a1]
 exact ⟨⟨canon_times hp.canon ht hz a2, by rw [List.length_map]; exact hp.len⟩, fun f => lin_timesM f a2, fun s hs => (a2 s hs).may⟩
def linP (f : MonD → Rat) (p q : List TermD) : Rat := lin (fun m' => lin (fun m => f (addM m m')) p) q
theorem linP_snoc (f : MonD → Rat) (p q : List TermD) (t : TermD) : linP f p (q ++ [t]) = linP f p q + qv t.c * lin (fun m => f (addM m t.m)) p := by
 unfold linP
 rw [lin_app]
 simp only [lin]
 grind
theorem monDiv_true {a b q : MonD} (h : monDiv a b = (true, q)) : monMay a = true ∧ monMay b = true ∧ monMay q = true ∧ addM b q = a := by
 unfold monDiv at h
 split at h
 ·cases h
 ·rename_i h1
  split at h
  ·cases h
  ·rename_i h2
   simp only [Prod.mk.injEq, true_and] at h
   subst h
   have h3 : monMay a = true ∧ monMay b = true := by simpa using h1
   refine ⟨h3.1, h3.2, by simpa using h2, ?_⟩
   obtain ⟨a0, a1, a2, a3⟩ := a
   unfold addM subM
   simp only [MonD.mk.injEq]
   omega
theorem monDiv_of {a b q : MonD} (ha : monMay a = true) (hb : monMay b = true) (hq : monMay q = true) (h : addM b q = a) : monDiv a b = (true, q) := by
 have e : subM a b = q := by
  subst h
  obtain ⟨q0, q1, q2, q3⟩ := q
  unfold addM subM
  simp only [MonD.mk.injEq]
  omega
 unfold monDiv
 rw [ha, hb, e, hq]; rfl
theorem dividesD_none : ∀ {l : List (List TermD)} {m : MonD}, dividesD l m = none → ∀ {i : Nat} {u : TermD} {b : List TermD}, l[i]? = some (u :: b) → (monDiv m u.m).1 = false
 | [], m, _, i, u, b, h => by simp at h
 | [] :: l, m, hn, i, u, b, h => by
   unfold dividesD at hn
   rw [Option.map_eq_none_iff] at hn
   cases i with
   | zero => simp at h
   | succ i => exact dividesD_none hn (by simpa using h)
 | (v :: c) :: l, m, hn, i, u, b, h => by
   unfold dividesD at hn
   split at hn
   ·cases hn
   ·rename_i h1
    rw [Option.map_eq_none_iff] at hn
    cases i with
    | zero =>
      simp only [List.getElem?_cons_zero, Option.some.injEq, List.cons.injEq] at h
      obtain ⟨rfl, _⟩ := h
      simpa using h1
    | succ i => exact dividesD_none hn (by simpa using h)
theorem dividesD_no : ∀ {l : List (List TermD)} {m : MonD}, (∀ u b, u :: b ∈ l → (monDiv m u.m).1 = false) → dividesD l m = none
 | [], _, _ => rfl
 | [] :: l, m, h => by
   unfold dividesD
   rw [dividesD_no fun u b hb => h u b (by simp [hb])]; rfl
 | (v :: c) :: l, m, h => by
   unfold dividesD
   rw [if_neg (by rw [h v c (by simp)]; simp), dividesD_no fun u b hb => h u b (by simp [hb])]; rfl
structure Moved (o : Int) (t u : TermD) (p b q y : List TermD) (k : Nat) (c : RatD) (m : MonD) : Prop where
 good : GoodT ⟨c, m⟩
 nz : nz ⟨c, m⟩ = true
 val : qv c * qv u.c = qv t.c
 k : k < 400
 q : q.length < 60
 cp : CP o y
 fits : Fits (u :: b) m
 lin : ∀ f, lin f y + qv c * lin (fun x => f (addM x m)) (u :: b) = lin f (t :: p)
 below : ∀ s ∈ y, 0 < monCmp o t.m s.m
theorem moveD_good {o : Int} {k : Nat} {p b q : List TermD} {t u : TermD} {m : MonD} (hp : CP o (t :: p)) (hb : CP o (u :: b)) (hd : monDiv t.m u.m = (true, m)) (h0 : (moveD o (t :: p) (u :: b) q k m).1 = 0) :
    ∃ c y, moveD o (t :: p) (u :: b) q k m = (0, y, q ++ [⟨c, m⟩]) ∧ Moved o t u p b q y k c m := by
 obtain ⟨tm, um, mm, e⟩ := monDiv_true hd
 have ho := hp.ord
 have gt := hp.canon.good t (by simp)
 have gu := hb.canon.good u (by simp)
 have hu0 := hb.ne (t := u) (by simp)
 have ht0 := hp.ne (t := t) (by simp)
 obtain ⟨i1, i2⟩ := invD_q gu.c (nz_len (hb.canon.nz u (by simp)))
 unfold moveD at h0 ⊢
 dsimp only at h0 ⊢
 rw [i1] at h0 ⊢
 dsimp only at h0 ⊢
 by_cases hk : 400 ≤ k
 ·rw [if_pos hk] at h0; cases h0
 rw [if_neg hk] at h0 ⊢
 have hm2 := mulD_q gt.c (ofQ_good i2)
 rw [qv_ofQ] at hm2
 rcases hm2 with e1 | ⟨e1, hf⟩
 ·rw [e1, if_pos (by simp)] at h0; cases h0
 rw [e1, if_neg (by simp)] at h0 ⊢
 by_cases hq : 60 ≤ q.length
 ·rw [if_pos hq] at h0; cases h0
 rw [if_neg hq] at h0 ⊢
 have gc : GoodR (ofQ (qv t.c * (qv u.c)⁻¹)) := ofQ_good hf
 have vc : qv (ofQ (qv t.c * (qv u.c)⁻¹)) * qv u.c = qv t.c := by rw [qv_ofQ, Rat.mul_assoc, Rat.inv_mul_cancel _ hu0, Rat.mul_one]
 dsimp only at h0 ⊢
 generalize ofQ (qv t.c * (qv u.c)⁻¹) = c at h0 gc vc ⊢
 have vc0 : qv c ≠ 0 := fun h => ht0 (by rw [← vc, h, Rat.zero_mul])
 obtain ⟨gn, vn⟩ := negD_q gc
 have gT : GoodT ⟨negD c, m⟩ := ⟨gn, mm⟩
 have zT : nz ⟨negD c, m⟩ = true := nz_of gn (by rw [vn]; intro h; exact vc0 (by grind))
 by_cases hx : (polTimes o (u :: b) ⟨negD c, m⟩).1 = 0
 case neg => rw [if_pos (by simpa using hx)] at h0; exact absurd h0 hx
 rw [if_neg (by simpa using hx)] at h0 ⊢
 obtain ⟨x1, x2, x3⟩ := polTimes_good hb gT zT hx
 generalize (polTimes o (u :: b) ⟨negD c, m⟩).2 = X at h0 x1 x2 ⊢
 by_cases hy : (polAdd o [t :: p, X]).1 = 0
 case neg => rw [if_pos (by simpa using hy)] at h0; exact absurd h0 hy
 rw [if_neg (by simpa using hy)]
 obtain ⟨y1, y2⟩ := polAdd_good (o := o) (ps := [t :: p, X]) (fun q hq => by simp at hq; rcases hq with rfl | rfl <;> first | exact hp | exact x1) hy
 generalize (polAdd o [t :: p, X]).2 = y at y1 y2 ⊢
 have HL : ∀ f, lin f y + qv c * lin (fun x => f (addM x m)) (u :: b) = lin f (t :: p) := fun f => by
  rw [y2 f, List.flatten_cons, List.flatten_cons, List.flatten_nil, List.append_nil, lin_app, x2 f]
  show _ + qv (negD c) * _ + _ = _
  rw [vn]
  grind
 refine ⟨c, y, rfl, ⟨gc, mm⟩, nz_of gc vc0, vc, by omega, by omega, y1, x3, HL, fun s hs => ?_⟩
 have sm := (y1.canon.good s hs).m
 have hl := lin_ind_mem y1.canon.sta.keys hs
 have hn := y1.ne hs
 have H := HL (ind s.m)
 rw [hl] at H
 have lo : ∀ x ∈ b, monCmp o (addM x.m m) t.m < 0 := fun x hx => by
  have := mulM_lt ho um (hb.canon.good x (by simp [hx])).m mm (by rw [e]; exact tm) (x3 x (by simp [hx])) (hb.below x hx)
  rwa [e] at this
 rcases Int.lt_trichotomy 0 (monCmp o t.m s.m) with h | h | h
 ·exact h
 ·have es : t.m = s.m := (monCmp_zero ho tm sm).1 h.symm
  refine absurd ?_ hn
  have a1 : lin (ind s.m) (t :: p) = qv t.c := by rw [← es]; exact lin_ind_mem hp.canon.sta.keys (by simp)
  have a2 : lin (fun x => ind s.m (addM x m)) (u :: b) = qv u.c := by
   simp only [lin]
   rw [lin_van (p := b) fun x hx => ?_, e, ← es]
   ·unfold ind; rw [if_pos rfl]; grind
   ·have := lo x hx
    unfold ind
    rw [if_neg]
    intro e2
    rw [e2, ← es, (monCmp_zero ho tm tm).2 rfl] at this
    omega
  rw [a1, a2] at H
  grind
 ·refine absurd ?_ hn
  have a1 : lin (ind s.m) (t :: p) = 0 := lin_ind_not fun x hx e2 => by
   rcases List.mem_cons.1 hx with rfl | hx
   ·rw [e2, (monCmp_zero ho sm sm).2 rfl] at h; omega
   ·have := hp.below x hx; rw [e2] at this; omega
  have a2 : lin (fun x => ind s.m (addM x m)) (u :: b) = 0 := lin_van fun x hx => by
   unfold ind
   rw [if_neg]
   intro e2
   rcases List.mem_cons.1 hx with rfl | hx
   ·rw [← e2, e, (monCmp_zero ho tm tm).2 rfl] at h; omega
   ·have h2 := lo x hx
    rw [e2] at h2
    have h3 := monCmp_anti ho tm sm
    omega
  rw [a1, a2] at H
  grind
def linQ (f : MonD → Rat) : List (List TermD) → List (List TermD) → Rat
 | b :: l, q :: qs => linP f b q + linQ f l qs
 | [], _ => 0
 | _ :: _, [] => 0
theorem linQ_set (f : MonD → Rat) : ∀ {l qs : List (List TermD)} {i : Nat} {b q : List TermD} (t : TermD), l[i]? = some b → qs[i]? = some q → linQ f l (qs.set i (q ++ [t])) = linQ f l qs + qv t.c * lin (fun m => f (addM m t.m)) b
 | [], _, _, _, _, _, h, _ => by simp at h
 | _ :: _, [], _, _, _, _, _, h => by simp at h
 | b :: l, q :: qs, 0, b', q', t, h, h' => by
   simp only [List.getElem?_cons_zero, Option.some.injEq] at h h'
   subst h h'
   simp only [List.set_cons_zero, linQ]
   rw [linP_snoc]
   grind
 | b :: l, q :: qs, i + 1, b', q', t, h, h' => by
   simp only [List.set_cons_succ, linQ]
   rw [linQ_set f t (by simpa using h) (by simpa using h')]
   grind
theorem linQ_nils (f : MonD → Rat) : ∀ l : List (List TermD), linQ f l (List.replicate l.length []) = 0
 | [] => rfl
 | b :: l => by
   rw [List.length_cons, List.replicate_succ]
   simp only [linQ]
   rw [linQ_nils f l]
   show 0 + 0 = (0 : Rat)
   grind
structure QOk (o : Int) (l : List (List TermD)) (P0 p : List TermD) (i : Nat) (q : List TermD) : Prop where
 canon : Canon o q
 len : q.length ≤ 60
 each : ∀ x ∈ q, ∃ u b, l[i]? = some (u :: b) ∧ Fits (u :: b) x.m ∧ (∀ t ∈ p, 0 < monCmp o (addM u.m x.m) t.m) ∧ ∃ t0 ps0, P0 = t0 :: ps0 ∧ 0 ≤ monCmp o t0.m (addM u.m x.m)
structure DivI (o : Int) (l : List (List TermD)) (P0 p : List TermD) (qs : List (List TermD)) (r : List TermD) : Prop where
 cp : CP o p
 cr : CP o r
 rp : ∀ s ∈ r, ∀ t ∈ p, 0 < monCmp o s.m t.m
 rd : ∀ s ∈ r, dividesD l s.m = none
 ql : qs.length = l.length
 q : ∀ i q, qs[i]? = some q → QOk o l P0 p i q
 pl : ∀ t ∈ p, ∃ t0 ps0, P0 = t0 :: ps0 ∧ 0 ≤ monCmp o t0.m t.m
 sum : ∀ f, lin f p + lin f r + linQ f l qs = lin f P0
theorem monCmp_ge {o : Int} {a b c : MonD} (ho : oOk o) (ha : monMay a = true) (hb : monMay b = true) (hc : monMay c = true) (h1 : 0 ≤ monCmp o a b) (h2 : 0 ≤ monCmp o b c) : 0 ≤ monCmp o a c := by
 have a1 := monCmp_anti ho ha hb
 have a2 := monCmp_anti ho hb hc
 have a3 := monCmp_anti ho ha hc
 have := monCmp_le ho hc hb ha (by omega) (by omega)
 omega
theorem DivI.start {o : Int} {l : List (List TermD)} {p : List TermD} (hp : CP o p) : DivI o l p p (List.replicate l.length []) [] := by
 refine ⟨hp, .nil hp.ord, fun s h => (by cases h), fun s h => (by cases h), by simp, fun i q h => ?_, fun t ht => ?_, fun f => ?_⟩
 ·obtain rfl : q = [] := List.eq_of_mem_replicate (List.mem_of_getElem? h)
  exact ⟨canon_nil hp.ord, by simp, fun x hx => by cases hx⟩
 ·cases p with
  | nil => cases ht
  | cons t0 ps0 =>
    refine ⟨t0, ps0, rfl, ?_⟩
    rcases List.mem_cons.1 ht with rfl | ht
    ·have m := (hp.canon.good t (by simp)).m
     exact Int.le_of_eq ((monCmp_zero hp.ord m m).2 rfl).symm
    ·exact Int.le_of_lt (hp.below t ht)
 ·rw [linQ_nils]
  simp only [lin]
  grind
theorem canon_snoc {o : Int} {q : List TermD} {x : TermD} (hq : Canon o q) (hx : GoodT x) (hz : nz x = true) (h : ∀ y ∈ q, 0 < monCmp o y.m x.m) : Canon o (q ++ [x]) := by
 refine ⟨⟨hq.sta.ord, fun y hy => ?_, ?_⟩, hq.good.app (GoodP.cons hx .nil), fun y hy => ?_⟩
 ·rcases List.mem_append.1 hy with hy | hy
  ·exact hq.sta.good y hy
  ·simp only [List.mem_singleton] at hy; subst hy; exact hx.m
 ·unfold Fall
  rw [List.pairwise_append]
  exact ⟨hq.sta.fall, List.pairwise_singleton _ _, fun a ha b hb => by simp only [List.mem_singleton] at hb; subst hb; exact h a ha⟩
 ·rcases List.mem_append.1 hy with hy | hy
  ·exact hq.nz y hy
  ·simp only [List.mem_singleton] at hy; subst hy; exact hz
theorem splitF_good {o : Int} {l : List (List TermD)} {P0 : List TermD} (hP : CP o P0) (hl : ∀ b ∈ l, CP o b) : ∀ (n : Nat) (p : List TermD) (qs : List (List TermD)) (r : List TermD) (k : Nat), DivI o l P0 p qs r → 460 - k - r.length < n → k ≤ 400 → (splitF o l n p qs r k).1 = 0 →
    ∃ qs' r', splitF o l n p qs r k = (0, qs', r') ∧ DivI o l P0 [] qs' r'
 | 0, _, _, _, _, _, h, _, _ => by omega
 | n + 1, [], qs, r, k, hI, _, _, _ => ⟨qs, r, rfl, hI⟩
 | n + 1, t :: p, qs, r, k, hI, hn, hk, h0 => by
   have ho := hI.cp.ord
   have tm := (hI.cp.canon.good t (by simp)).m
   unfold splitF at h0 ⊢
   cases hd : dividesD l t.m with
   | none =>
     rw [hd] at h0
     dsimp only at h0 ⊢
     by_cases hr : 60 ≤ r.length
     ·rw [if_pos hr] at h0; cases h0
     rw [if_neg hr] at h0 ⊢
     refine splitF_good hP hl n p qs (r ++ [t]) k ⟨hI.cp.tl, ⟨canon_snoc hI.cr.canon (hI.cp.canon.good t (by simp)) (hI.cp.canon.nz t (by simp)) fun y hy => hI.rp y hy t (by simp), by simp; omega⟩, fun s hs u hu => ?_, fun s hs => ?_, hI.ql, fun i q hq => ?_, fun s hs => hI.pl s (by simp [hs]), fun f => ?_⟩ (by simp; omega) hk h0
     ·rcases List.mem_append.1 hs with hs | hs
      ·exact hI.rp s hs u (by simp [hu])
      ·simp only [List.mem_singleton] at hs; subst hs; exact hI.cp.below u hu
     ·rcases List.mem_append.1 hs with hs | hs
      ·exact hI.rd s hs
      ·simp only [List.mem_singleton] at hs; subst hs; exact hd
     ·have := hI.q i q hq
      exact ⟨this.canon, this.len, fun x hx => let ⟨u, b, h1, h2, h3, h4⟩ := this.each x hx; ⟨u, b, h1, h2, fun s hs => h3 s (by simp [hs]), h4⟩⟩
     ·have := hI.sum f
      rw [lin_app]
      simp only [lin] at this ⊢
      grind
   | some x =>
     obtain ⟨i, m⟩ := x
     rw [hd] at h0
     dsimp only at h0 ⊢
     obtain ⟨u, b, hi, hm⟩ := dividesD_lt hd
     obtain ⟨q, hq⟩ : ∃ q, qs[i]? = some q := ⟨_, List.getElem?_eq_getElem (by rw [hI.ql]; exact (List.getElem?_eq_some_iff.1 hi).1)⟩
     have e1 : l.getD i [] = u :: b := by rw [List.getD_eq_getElem?_getD, hi]; rfl
     have e2 : qs.getD i [] = q := by rw [List.getD_eq_getElem?_getD, hq]; rfl
     rw [e1, e2] at h0 ⊢
     by_cases hmv : (moveD o (t :: p) (u :: b) q k m).1 = 0
     case neg => rw [if_pos (by simpa using hmv)] at h0; exact absurd h0 hmv
     rw [if_neg (by simpa using hmv)] at h0 ⊢
     obtain ⟨c, y, e3, M⟩ := moveD_good hI.cp (hl _ (List.mem_of_getElem? hi)) hm hmv
     rw [e3] at h0 ⊢
     dsimp only at h0 ⊢
     obtain ⟨_, um, mm, ee⟩ := monDiv_true hm
     have far : ∀ {a : MonD}, monMay a = true → 0 < monCmp o a t.m → ∀ s ∈ y, 0 < monCmp o a s.m := fun ha h s hs => monCmp_gt ho ha tm (M.cp.canon.good s hs).m h (M.below s hs)
     have Q0 := hI.q i q hq
     refine splitF_good hP hl n y _ r (k + 1) ⟨M.cp, hI.cr, fun s hs => far (hI.cr.canon.good s hs).m (hI.rp s hs t (by simp)), hI.rd, by rw [List.length_set]; exact hI.ql, fun j q' hq' => ?_, fun s hs => ?_, fun f => ?_⟩ (by have := M.k; have := hI.cr.len; omega) (by have := M.k; omega) h0
     ·by_cases hj : i = j
      ·subst hj
       rw [List.getElem?_set_self (List.getElem?_eq_some_iff.1 hq).1] at hq'
       injection hq' with hq'
       subst hq'
       refine ⟨canon_snoc Q0.canon M.good M.nz fun x hx => ?_, by rw [List.length_append, List.length_singleton]; exact M.q, fun x hx => ?_⟩
       ·obtain ⟨u', b', h1, h2, h3, _⟩ := Q0.each x hx
        rw [hi] at h1
        injection h1 with h1
        injection h1 with h1 h1'
        subst h1 h1'
        have h4 := h3 t (by simp)
        have xm := (Q0.canon.good x hx).m
        rw [← ee, addM_comm u.m, addM_comm u.m, monCmp_mul ho xm mm um (by rw [addM_comm]; exact h2 u (by simp)) (by rw [addM_comm, ee]; exact tm)] at h4
        exact h4
       ·rcases List.mem_append.1 hx with hx | hx
        ·obtain ⟨u', b', h1, h2, h3, h4⟩ := Q0.each x hx
         exact ⟨u', b', h1, h2, far (h2 u' (by simp)) (h3 t (by simp)), h4⟩
        ·simp only [List.mem_singleton] at hx
         subst hx
         obtain ⟨t0, ps0, g1, g2⟩ := hI.pl t (by simp)
         exact ⟨u, b, hi, M.fits, fun s hs => by rw [ee]; exact M.below s hs, t0, ps0, g1, by rw [ee]; exact g2⟩
      ·rw [List.getElem?_set_ne hj] at hq'
       have Q := hI.q j q' hq'
       exact ⟨Q.canon, Q.len, fun x hx => let ⟨u', b', h1, h2, h3, h4⟩ := Q.each x hx; ⟨u', b', h1, h2, far (h2 u' (by simp)) (h3 t (by simp)), h4⟩⟩
     ·obtain ⟨t0, ps0, g1, g2⟩ := hI.pl t (by simp)
      refine ⟨t0, ps0, g1, ?_⟩
      exact monCmp_ge ho (hP.canon.good t0 (by rw [g1]; simp)).m tm (M.cp.canon.good s hs).m g2 (Int.le_of_lt (M.below s hs))
     ·have h1 := hI.sum f
      have h2 := M.lin f
      rw [linQ_set f _ hi hq]
      dsimp only
      grind
theorem may_all {o : Int} {p : List TermD} {l : List (List TermD)} (hp : CP o p) (hl : ∀ b ∈ l, CP o b) (h : l.length ≤ 24) : ¬ (polMay o p && decide (l.length ≤ 24) && l.all (polMay o)) = false := by
 rw [hp.may, decide_eq_true h, List.all_eq_true.2 fun b hb => (hl b hb).may]
 simp
theorem splitD_F {o : Int} {p : List TermD} {l : List (List TermD)} (hp : CP o p) (hl : ∀ b ∈ l, CP o b) (h : l.length ≤ 24) : splitD o p l = splitF o l (400 * 61 + 61) p (List.replicate l.length []) [] 0 := if_neg (may_all hp hl h)
theorem splitD_good {o : Int} {p : List TermD} {l : List (List TermD)} (hp : CP o p) (hl : ∀ b ∈ l, CP o b) (h0 : (splitD o p l).1 = 0) : ∃ qs r, splitD o p l = (0, qs, r) ∧ DivI o l p [] qs r := by
 by_cases h : l.length ≤ 24
 ·rw [splitD_F hp hl h] at h0 ⊢
  exact splitF_good hp hl _ p _ [] 0 (DivI.start hp) (by simp) (by omega) h0
 ·unfold splitD at h0
  rw [if_pos (by rw [decide_eq_false h]; simp)] at h0
  cases h0
theorem rest_again {o : Int} {l : List (List TermD)} : ∀ (n : Nat) (p : List TermD) (qs : List (List TermD)) (r : List TermD) (k : Nat), (∀ t ∈ p, dividesD l t.m = none) → r.length + p.length ≤ 60 → p.length < n → splitF o l n p qs r k = (0, qs, r ++ p)
 | 0, _, _, _, _, _, _, h => by omega
 | n + 1, [], qs, r, k, _, _, _ => by simp [splitF]
 | n + 1, t :: p, qs, r, k, h, hl, hn => by
   simp only [List.length_cons] at hl hn
   unfold splitF
   rw [h t (by simp)]
   dsimp only
   rw [if_neg (by omega), rest_again n p qs (r ++ [t]) k (fun s hs => h s (by simp [hs])) (by simp; omega) (by omega)]
   simp
theorem splitD_rest {o : Int} {p : List TermD} {l : List (List TermD)} (hp : CP o p) (hl : ∀ b ∈ l, CP o b) (h24 : l.length ≤ 24) (h : ∀ t ∈ p, dividesD l t.m = none) : splitD o p l = (0, List.replicate l.length [], p) := by
 rw [splitD_F hp hl h24, rest_again _ p _ [] 0 h (by have := hp.len; simp; omega) (by have := hp.len; omega)]
 simp
theorem SmP.tl {o : Int} {t : TermD} {p : List TermD} (h : SmP o (t :: p)) : SmP o p := by
 obtain ⟨⟨hi, hc, hl⟩, low, h10⟩ := h
 simp only [List.length_cons] at hl h10
 refine ⟨⟨⟨hi.int.tl, fun s hs => hi.good s (by simp [hs]), ?_⟩, hc.tl, by omega⟩, fun s hs => low s (by simp [hs]), by omega⟩
 have := hi.mass
 unfold mass at this
 omega
end Go.Proofs.YtgjkgkgieeoalaaGreat
