/- Parts of the proof, joined: each theorem says what it shows. -/
import Derived.Test.YtgjkgkgieeoalaaGreatF01
import Derived.Test.YtgjkgkgieeoalaaGreatF25
import Derived.Test.YtgjkgkgieeoalaaGreatF18
import Derived.Test.YtgjkgkgieeoalaaGreatF23
import Derived.Test.YtgjkgkgieeoalaaGreatF12
set_option linter.unusedVariables false
set_option linter.unusedSimpArgs false
set_option maxHeartbeats 24000000
set_option maxRecDepth 100000
namespace Go.Proofs.YtgjkgkgieeoalaaGreat
theorem putD_size (o : Int) (al : List TermD) (t : TermD) : (putD o al t).2.length ≤ al.length + 1 := by
 unfold putD
 split
 ·split
  ·simp
  ·simp [setM]
 ·rw [(insD_perm o t al).length_eq]; simp
theorem putAll_size (o : Int) : ∀ (ts al : List TermD), (putAll o al ts).2.length ≤ al.length + ts.length
 | [], al => by simp [putAll]
 | t :: ts, al => by
   unfold putAll
   split
   ·simp
   ·have h1 := putAll_size o ts (putD o al t).2
    have h2 := putD_size o al t
    simp only [List.length_cons]
    omega
theorem polSum_len (o : Int) (ts : List TermD) : (polSum o ts).length ≤ ts.length := by
 unfold polSum
 have h1 := putAll_size o ts []
 have h2 := List.length_filter_le nz (putAll o [] ts).2
 simp only [List.length_nil] at h1
 omega
structure Sm (ts : List TermD) : Prop where
 ints : Ints 1280 ts
 low : Low 3 ts
 len : ts.length ≤ 10
structure SmP (o : Int) (p : List TermD) : Prop where
 pol : Pol o 1280 p
 low : Low 3 p
 len : p.length ≤ 10
theorem Sm.make {o : Int} (ho : oOk o) {ts : List TermD} (h : Sm ts) : SmP o (polMake o ts).2 ∧ (polMake o ts).1 = 0 := by
 have hs := sum_ok ho h.ints (by decide)
 have hl := polSum_len o ts
 have h10 := h.len
 have e : polMake o ts = (0, polSum o ts) := by rw [hs.make, if_neg (by omega)]
 obtain ⟨h1, _⟩ := hs.pol (by rw [e])
 rw [e] at h1 ⊢
 exact ⟨⟨h1, h.low.sum hs, by show (polSum o ts).length ≤ 10; omega⟩, rfl⟩
theorem SmP.fits {o : Int} {p q : List TermD} (hp : SmP o p) (hq : SmP o q) : ∀ t ∈ q, Fits p t.m := hp.low.fits hq.low (by decide)
section
variable {o : Int} {p q r : List TermD}
theorem prods_sum (hp : SmP o p) (hq : SmP o q) : SumOk o (1280 * 1280) (prods p q) ∧ polMul o p q = polMake o (prods p q) :=
 ⟨sum_ok hp.pol.canon.sta.ord (prods_ints hp.pol.ints (by decide) hq.pol.ints (by decide) (hp.fits hq)) (by decide), polMul_int hp.pol (by decide) hq.pol (by decide) (hp.fits hq)⟩
theorem addM_zero (m : MonD) : addM m zeroM = m := by unfold addM zeroM; simp
theorem monMay_zero : monMay zeroM = true := by decide
end
theorem lin_van {g : MonD → Rat} {p : List TermD} (h : ∀ s ∈ p, g s.m = 0) : lin g p = 0 := by
 induction p with
 | nil => rfl
 | cons t p ih =>
   simp only [lin]
   rw [h t (by simp), ih fun s hs => h s (by simp [hs])]
   grind
theorem mulM_lt {o : Int} (ho : oOk o) {a b c : MonD} (ha : monMay a = true) (hb : monMay b = true) (hc : monMay c = true) (hac : monMay (addM a c) = true) (hbc : monMay (addM b c) = true) (h : 0 < monCmp o a b) : monCmp o (addM b c) (addM a c) < 0 := by
 rw [monCmp_mul ho hb ha hc hbc hac, monCmp_anti ho ha hb]
 omega
theorem lead {o : Int} {t u : TermD} {p q : List TermD} (hp : SmP o (t :: p)) (hq : SmP o (u :: q)) (h0 : (polMul o (t :: p) (u :: q)).1 = 0) : ∃ s r, (polMul o (t :: p) (u :: q)).2 = s :: r ∧ s.m = addM t.m u.m := by
 have ho := hp.pol.canon.sta.ord
 obtain ⟨h1, e1⟩ := prods_sum hp hq
 have hf := hp.fits hq
 have gp := hp.pol.canon.sta.good
 have gq := hq.pol.canon.sta.good
 obtain ⟨fp, _⟩ := List.pairwise_cons.1 hp.pol.canon.sta.fall
 obtain ⟨fq, _⟩ := List.pairwise_cons.1 hq.pol.canon.sta.fall
 have tm : t ∈ t :: p := by simp
 have um : u ∈ u :: q := by simp
 have W := hf u um t tm
 have lt1 : ∀ s ∈ p, ∀ v ∈ u :: q, monCmp o (addM s.m v.m) (addM t.m v.m) < 0 := fun s hs v hv =>
  mulM_lt ho (gp t tm) (gp s (by simp [hs])) (gq v hv) (hf v hv t tm) (hf v hv s (by simp [hs])) (fp s hs)
 have lt2 : ∀ v ∈ q, monCmp o (addM t.m v.m) (addM t.m u.m) < 0 := fun v hv => by
  have := mulM_lt ho (gq u um) (gq v (by simp [hv])) (gp t tm) (by rw [addM_comm]; exact W) (by rw [addM_comm]; exact hf v (by simp [hv]) t tm) (fq v hv)
  rwa [addM_comm v.m, addM_comm u.m] at this
 have lt3 : ∀ s ∈ t :: p, ∀ v ∈ q, monCmp o (addM s.m v.m) (addM t.m u.m) < 0 := fun s hs v hv => by
  have hv' : v ∈ u :: q := by simp [hv]
  rcases List.mem_cons.1 hs with rfl | hs
  ·exact lt2 v hv
  ·exact monCmp_lt ho (hf v hv' s (by simp [hs])) (hf v hv' t tm) W (lt1 s hs v hv') (lt2 v hv)
 have ne : ∀ {m : MonD}, monMay m = true → monCmp o m (addM t.m u.m) < 0 → m ≠ addM t.m u.m := fun hm h e => by
  have := (monCmp_zero ho hm W).2 e
  omega
 have hG : lin (ind (addM t.m u.m)) (prods (t :: p) (u :: q)) = qv u.c * qv t.c := by
  rw [lin_prods hp.pol.ints (by decide) _ hq.pol.ints (by decide)]
  simp only [lin]
  rw [lin_van (p := q) (fun v hv => ?_), lin_van (p := p) (fun s hs => ?_)]
  ·unfold ind
   rw [if_pos rfl]
   grind
  ·unfold ind
   rw [if_neg (ne (hf u um s (by simp [hs])) (lt1 s hs u um))]
  ·show qv t.c * ind (addM t.m u.m) (addM t.m v.m) + lin (fun m => ind (addM t.m u.m) (addM m v.m)) p = 0
   have hv' : v ∈ u :: q := by simp [hv]
   rw [lin_van (p := p) (fun s hs => ?_)]
   ·unfold ind
    rw [if_neg (ne (hf v hv' t tm) (lt3 t tm v hv))]
    grind
   ·unfold ind
    rw [if_neg (ne (hf v hv' s (by simp [hs])) (lt3 s (by simp [hs]) v hv))]
 have hne : qv u.c * qv t.c ≠ 0 := by
  have a1 := (hp.pol.canon.good t tm).ne (hp.pol.canon.nz t tm)
  have a2 := (hq.pol.canon.good u um).ne (hq.pol.canon.nz u um)
  intro h
  rcases Rat.mul_eq_zero.1 h with h | h
  ·exact a2 h
  ·exact a1 h
 rw [e1] at h0 ⊢
 obtain ⟨hpol, e2⟩ := h1.pol h0
 have hlin := h1.lin (ind (addM t.m u.m))
 rw [hG] at hlin
 have hcan := h1.canon
 have hmem := h1.mem
 rw [e2]
 show ∃ s r, polSum o (prods (t :: p) (u :: q)) = s :: r ∧ s.m = addM t.m u.m
 generalize polSum o (prods (t :: p) (u :: q)) = x at hlin hcan hmem
 have hle : ∀ s ∈ x, monCmp o s.m (addM t.m u.m) ≤ 0 := fun s hs => by
  obtain ⟨y, hy, e⟩ := hmem s hs
  rw [← e]
  unfold prods at hy
  obtain ⟨v, hv, hy⟩ := List.mem_flatMap.1 hy
  obtain ⟨z, hz, rfl⟩ := List.mem_map.1 hy
  show monCmp o (addM z.m v.m) (addM t.m u.m) ≤ 0
  rcases List.mem_cons.1 hv with rfl | hv
  ·rcases List.mem_cons.1 hz with rfl | hz
   ·exact Int.le_of_eq ((monCmp_zero ho W W).2 rfl)
   ·exact Int.le_of_lt (lt1 z hz v um)
  ·exact Int.le_of_lt (lt3 z hz v hv)
 have hex : ∃ s ∈ x, s.m = addM t.m u.m := by
  refine Classical.byContradiction fun hn => ?_
  rw [lin_ind_not (fun s hs e => hn ⟨s, hs, e⟩)] at hlin
  exact hne hlin.symm
 obtain ⟨s, hs, es⟩ := hex
 match x, hcan, hle, hs with
 | y :: r, hcan, hle, hs =>
   refine ⟨y, r, rfl, ?_⟩
   rcases List.mem_cons.1 hs with rfl | hs
   ·exact es
   ·have h1 := (List.pairwise_cons.1 hcan.sta.fall).1 s hs
    have h2 := hle y (by simp)
    rw [es] at h1
    omega
theorem mulD_small {r s : RatD} (hr : GoodR r) (hs : GoodR s) (h1 : val r.num * val s.num < 18446744073709551616 ^ 8) (h2 : val r.den * val s.den < 18446744073709551616 ^ 8) :
    (mulD r s).1 = 0 ∧ GoodR (mulD r s).2 ∧ qv (mulD r s).2 = qv r * qv s ∧ val (mulD r s).2.num ≤ val r.num * val s.num ∧ val (mulD r s).2.den ≤ val r.den * val s.den := by
 have l1 := limbs_len.2 h1
 have l2 := limbs_len.2 h2
 have hb : isBig [limbs (val r.num * val s.num), limbs (val r.den * val s.den)] = false := isBig_no fun x hx => by
  simp only [List.mem_cons, List.not_mem_nil, or_false] at hx
  rcases hx with rfl | rfl
  ·exact l1
  ·exact l2
 have hd : val r.den * val s.den ≠ 0 := Nat.mul_ne_zero hr.den hs.den
 have e : mulD r s = makeD (r.neg != s.neg) (limbs (val r.num * val s.num)) (limbs (val r.den * val s.den)) := by
  unfold mulD
  rw [hr.may, hs.may, if_neg (by simp), hb, if_neg (by simp)]
 rcases mulD_q hr hs with h | ⟨h, hf⟩
 ·rw [e, makeD_q _ _ _ hd l1 l2] at h
  cases h
 ·rw [h]
  refine ⟨rfl, ofQ_good hf, qv_ofQ _, ?_⟩
  rw [e, makeD_q _ _ _ hd l1 l2, ofQ_mk _ _ _ hd] at h
  have h' := congrArg Prod.snd h
  simp only at h'
  rw [← h']
  simp only [val_limbs]
  exact ⟨Nat.div_le_self _ _, Nat.div_le_self _ _⟩
theorem timesL_map {t : TermD} : ∀ {p : List TermD}, (∀ s ∈ p, (mulD s.c t.c).1 = 0 ∧ monMul s.m t.m = (0, addM s.m t.m)) → timesL t p = (0, p.map fun s => mulT s t)
 | [], _ => rfl
 | s :: r, h => by
   have ih := timesL_map (t := t) (p := r) fun x hx => h x (by simp [hx])
   obtain ⟨h1, h2⟩ := h s (by simp)
   unfold timesL
   rw [ih, h1, h2]
   simp [mulT]
def Lit (r : RatD) : Prop := GoodR r ∧ val r.num < 18446744073709551616 ∧ val r.den < 18446744073709551616
theorem mulD_lit {r s : RatD} (hr : Lit r) (hs : Lit s) : (mulD r s).1 = 0 ∧ GoodR (mulD r s).2 ∧ qv (mulD r s).2 = qv r * qv s ∧ val (mulD r s).2.num ≤ val r.num * val s.num ∧ val (mulD r s).2.den ≤ val r.den * val s.den := by
 obtain ⟨g, a, b⟩ := hr
 obtain ⟨g', a', b'⟩ := hs
 have key : ∀ x y : Nat, x < 18446744073709551616 → y < 18446744073709551616 → x * y < 18446744073709551616 ^ 8 := fun x y hx hy =>
  Nat.lt_of_lt_of_le (Nat.mul_lt_mul_of_le_of_lt (Nat.le_of_lt hx) hy (by decide)) (by decide)
 exact mulD_small g g' (key _ _ a a') (key _ _ b b')
theorem mulT_zm (s : TermD) (k : RatD) : (mulT s ⟨k, zeroM⟩).m = s.m := by show addM s.m zeroM = s.m; exact addM_zero _
structure CP (o : Int) (p : List TermD) : Prop where
 canon : Canon o p
 len : p.length ≤ 60
theorem CP.may {o : Int} {p : List TermD} (h : CP o p) : polMay o p = true := canon_may h.canon h.len
theorem CP.ord {o : Int} {p : List TermD} (h : CP o p) : oOk o := h.canon.sta.ord
theorem CP.nil {o : Int} (h : oOk o) : CP o [] := ⟨canon_nil h, by simp⟩
theorem Canon.tl {o : Int} {t : TermD} {p : List TermD} (h : Canon o (t :: p)) : Canon o p :=
 ⟨⟨h.sta.ord, fun s hs => h.sta.good s (by simp [hs]), (List.pairwise_cons.1 h.sta.fall).2⟩, h.good.tl, fun s hs => h.nz s (by simp [hs])⟩
theorem CP.tl {o : Int} {t : TermD} {p : List TermD} (h : CP o (t :: p)) : CP o p := ⟨h.canon.tl, by have := h.len; simp only [List.length_cons] at this; omega⟩
theorem CP.below {o : Int} {t : TermD} {p : List TermD} (h : CP o (t :: p)) : ∀ s ∈ p, 0 < monCmp o t.m s.m := (List.pairwise_cons.1 h.canon.sta.fall).1
theorem CP.ne {o : Int} {p : List TermD} (h : CP o p) {t : TermD} (ht : t ∈ p) : qv t.c ≠ 0 := (h.canon.good t ht).ne (h.canon.nz t ht)
theorem CP.eq {o : Int} {p q : List TermD} (h : CP o p) (h' : CP o q) (e : ∀ f, lin f p = lin f q) : p = q := canon_ext h.canon h'.canon e
theorem SmP.cp {o : Int} {p : List TermD} (h : SmP o p) : CP o p := ⟨h.pol.canon, h.pol.len⟩
theorem anyOdd_good {ts : List TermD} (h : GoodP ts) : anyOdd ts = false := by
 unfold anyOdd
 rw [List.any_eq_false]
 intro t ht
 rw [(h t ht).right]
 simp
theorem flat_good {o : Int} : ∀ {ps : List (List TermD)}, (∀ p ∈ ps, CP o p) → GoodP ps.flatten
 | [], _ => .nil
 | p :: ps, h => by rw [List.flatten_cons]; exact (h p (by simp)).canon.good.app (flat_good fun q hq => h q (by simp [hq]))
theorem polAdd_make {o : Int} {ps : List (List TermD)} (h : ∀ p ∈ ps, CP o p) : polAdd o ps = polMake o ps.flatten := polAdd_int fun p hp => ⟨(h p hp).canon, (h p hp).len⟩
theorem polAdd_good {o : Int} {ps : List (List TermD)} (h : ∀ p ∈ ps, CP o p) (h0 : (polAdd o ps).1 = 0) : CP o (polAdd o ps).2 ∧ ∀ f, lin f (polAdd o ps).2 = lin f ps.flatten := by
 rw [polAdd_make h] at h0 ⊢
 obtain ⟨a1, a2, _, a4⟩ := polMake_ok (flat_good h).u h0
 exact ⟨⟨a1, a2⟩, a4⟩
theorem nz_of {t : TermD} (h : GoodR t.c) (h0 : qv t.c ≠ 0) : nz t = true := by
 unfold nz
 rw [decide_eq_false fun e => h0 (h.nil_iff.1 e)]; rfl
theorem nz_len {t : TermD} (h : nz t = true) : ¬ t.c.num.length = 0 := by unfold nz at h; simpa using h
theorem monMul_of {a b : MonD} (ha : monMay a = true) (hb : monMay b = true) (h : monMay (addM a b) = true) : monMul a b = (0, addM a b) := by
 unfold monMul; rw [ha, hb, h]; rfl
theorem monMul_may {a b : MonD} (h : (monMul a b).1 = 0) : monMay (addM a b) = true := by
 unfold monMul at h
 split at h
 ·cases h
 ·split at h
  ·cases h
  ·rename_i h1; simpa using h1
structure TimesOk (s t : TermD) : Prop where
 good : GoodT (mulT s t)
 val : qv (mulT s t).c = qv s.c * qv t.c
 may : monMay (addM s.m t.m) = true
theorem timesOk {s t : TermD} (hs : GoodT s) (ht : GoodT t) (h1 : (mulD s.c t.c).1 = 0) (h2 : (monMul s.m t.m).1 = 0) : TimesOk s t := by
 have hm := monMul_may h2
 rcases mulD_q hs.c ht.c with e | ⟨e, hf⟩
 ·rw [e] at h1; cases h1
 ·exact ⟨⟨by show GoodR (mulD s.c t.c).2; rw [e]; exact ofQ_good hf, hm⟩, by show qv (mulD s.c t.c).2 = _; rw [e]; exact qv_ofQ _, hm⟩
theorem timesL_good {t : TermD} (ht : GoodT t) : ∀ {p : List TermD}, GoodP p → (timesL t p).1 = 0 → (timesL t p).2 = (p.map fun s => mulT s t) ∧ ∀ s ∈ p, TimesOk s t
 | [], _, _ => ⟨rfl, fun s h => by cases h⟩
 | s :: r, hp, h => by
   rw [timesL_cons] at h ⊢
   by_cases h1 : (mulD s.c t.c).1 = 0
   ·rw [if_neg (by simpa using h1)] at h ⊢
    by_cases h2 : (monMul s.m t.m).1 = 0
    ·rw [if_neg (by simpa using h2)] at h ⊢
     by_cases h3 : (timesL t r).1 = 0
     ·rw [if_neg (by simpa using h3)]
      obtain ⟨a1, a2⟩ := timesL_good ht hp.tl h3
      have hk := timesOk hp.hd ht h1 h2
      refine ⟨?_, fun x hx => ?_⟩
      ·rw [List.map_cons, a1, monMul_of hp.hd.m ht.m hk.may]; rfl
      ·rcases List.mem_cons.1 hx with rfl | hx
       ·exact hk
       ·exact a2 x hx
     ·rw [if_pos (by simpa using h3)] at h; exact absurd h h3
    ·rw [if_pos (by simpa using h2)] at h; exact absurd h h2
   ·rw [if_pos (by simpa using h1)] at h; exact absurd h h1
theorem lin_timesM (f : MonD → Rat) {t : TermD} : ∀ {p : List TermD}, (∀ s ∈ p, TimesOk s t) → lin f (p.map fun s => mulT s t) = qv t.c * lin (fun m => f (addM m t.m)) p
 | [], _ => by simp only [List.map_nil, lin]; grind
 | s :: p, h => by
   simp only [List.map_cons, lin]
   rw [lin_timesM f fun x hx => h x (by simp [hx]), (h s (by simp)).val]
   show qv s.c * qv t.c * f (addM s.m t.m) + _ = _
   grind
theorem canon_times {o : Int} {t : TermD} {p : List TermD} (hp : Canon o p) (ht : GoodT t) (hz : nz t = true) (h : ∀ s ∈ p, TimesOk s t) : Canon o (p.map fun s => mulT s t) := by
 have hmem : ∀ x ∈ p.map (fun s => mulT s t), ∃ s ∈ p, mulT s t = x := fun x hx => List.mem_map.1 hx
 refine ⟨⟨hp.sta.ord, fun x hx => ?_, ?_⟩, fun x hx => ?_, fun x hx => ?_⟩
 ·obtain ⟨s, hs, rfl⟩ := hmem x hx; exact (h s hs).good.m
 ·unfold Fall
  rw [List.pairwise_map]
  refine List.Pairwise.imp_of_mem ?_ hp.sta.fall
  intro a b ha hb hab
  show 0 < monCmp o (addM a.m t.m) (addM b.m t.m)
  rwa [monCmp_mul hp.sta.ord (hp.sta.good a ha) (hp.sta.good b hb) ht.m (h a ha).may (h b hb).may]
 ·obtain ⟨s, hs, rfl⟩ := hmem x hx; exact (h s hs).good
 ·obtain ⟨s, hs, rfl⟩ := hmem x hx
  refine nz_of (h s hs).good.c ?_
  rw [(h s hs).val]
  intro e
  rcases Rat.mul_eq_zero.1 e with e | e
  ·exact (hp.good s hs).ne (hp.nz s hs) e
  ·exact ht.ne hz e
theorem polTimes_timesL {o : Int} {t : TermD} {p : List TermD} (hp : CP o p) (ht : GoodT t) (hz : nz t = true) : polTimes o p t = timesL t p := by
 unfold polTimes
 rw [hp.may, ht.right, if_neg (by simp), if_neg (nz_len hz)]
theorem polTimes_good {o : Int} {t : TermD} {p : List TermD} (hp : CP o p) (ht : GoodT t) (hz : nz t = true) (h0 : (polTimes o p t).1 = 0) :
    CP o (polTimes o p t).2 ∧ (∀ f, lin f (polTimes o p t).2 = qv t.c * lin (fun m => f (addM m t.m)) p) ∧ Fits p t.m := by
 rw [polTimes_timesL hp ht hz] at h0 ⊢
 obtain ⟨a1, a2⟩ := timesL_good ht hp.canon.good h0
 rw [a1]
 exact ⟨⟨canon_times hp.canon ht hz a2, by rw [List.length_map]; exact hp.len⟩, fun f => lin_timesM f a2, fun s hs => (a2 s hs).may⟩
def linP (f : MonD → Rat) (p q : List TermD) : Rat := lin (fun m' => lin (fun m => f (addM m m')) p) q
theorem linP_snoc (f : MonD → Rat) (p q : List TermD) (t : TermD) : linP f p (q ++ [t]) = linP f p q + qv t.c * lin (fun m => f (addM m t.m)) p := by
 unfold linP
 rw [lin_app]
 simp only [lin]
 grind
theorem monDiv_true {a b q : MonD} (h : monDiv a b = (true, q)) : monMay a = true ∧ monMay b = true ∧ monMay q = true ∧ addM b q = a := by
 unfold monDiv at h
 split at h
 ·cases h
 ·rename_i h1
  split at h
  ·cases h
  ·rename_i h2
   simp only [Prod.mk.injEq, true_and] at h
   subst h
   have h3 : monMay a = true ∧ monMay b = true := by simpa using h1
   refine ⟨h3.1, h3.2, by simpa using h2, ?_⟩
   obtain ⟨a0, a1, a2, a3⟩ := a
   unfold addM subM
   simp only [MonD.mk.injEq]
   omega
theorem monDiv_of {a b q : MonD} (ha : monMay a = true) (hb : monMay b = true) (hq : monMay q = true) (h : addM b q = a) : monDiv a b = (true, q) := by
 have e : subM a b = q := by
  subst h
  obtain ⟨q0, q1, q2, q3⟩ := q
  unfold addM subM
  simp only [MonD.mk.injEq]
  omega
 unfold monDiv
 rw [ha, hb, e, hq]; rfl
theorem addD_lit {r s : RatD} (hr : Lit r) (hs : Lit s) : (addD r s).1 = 0 := by
 obtain ⟨g, a, b⟩ := hr
 obtain ⟨g', a', b'⟩ := hs
 have key : ∀ x y : Nat, x < 18446744073709551616 → y < 18446744073709551616 → x * y ≤ 18446744073709551616 ^ 2 := fun x y hx hy =>
  ah (Nat.mul_le_mul (Nat.le_of_lt hx) (Nat.le_of_lt hy)) (by decide)
 have l1 := key _ _ a b'
 have l2 := key _ _ a' b
 have l3 := key _ _ b b'
 have hp : (plusD r.neg (val r.num * val s.den) s.neg (val s.num * val r.den)).2 ≤ val r.num * val s.den + val s.num * val r.den := by
  have h := sg_plus r.neg (val r.num * val s.den) s.neg (val s.num * val r.den)
  have h2 := congrArg Int.natAbs h
  rw [sg_abs] at h2
  rw [h2]
  refine ah (Int.natAbs_add_le _ _) ?_
  rw [sg_abs, sg_abs]
  exact ae _
 have lim : ∀ n : Nat, n ≤ 18446744073709551616 ^ 2 + 18446744073709551616 ^ 2 → (limbs n).length ≤ 8 := fun n h => limbs_len.2 (Nat.lt_of_le_of_lt h (by decide))
 have hb : isBig [limbs (val r.num * val s.den), limbs (val s.num * val r.den), limbs (plusD r.neg (val r.num * val s.den) s.neg (val s.num * val r.den)).2, limbs (val r.den * val s.den)] = false := isBig_no fun x hx => by
  simp only [List.mem_cons, List.not_mem_nil, or_false] at hx
  rcases hx with rfl | rfl | rfl | rfl
  ·exact lim _ (by omega)
  ·exact lim _ (by omega)
  ·exact lim _ (by omega)
  ·exact lim _ (by omega)
 unfold addD
 rw [g.may, g'.may, if_neg (by simp), hb, if_neg (by simp), makeD_q _ _ _ (Nat.mul_ne_zero g.den g'.den) (lim _ (by omega)) (lim _ (by omega))]
theorem hasM_of {al : List TermD} {m : MonD} (h : hasM al m = true) : ∃ x ∈ al, x.m = m ∧ getM al m = x.c := by
 unfold hasM at h
 unfold getM
 cases e : al.find? fun p => decide (p.m = m) with
 | none =>
   rw [List.find?_eq_none] at e
   obtain ⟨x, hx, h2⟩ := List.any_eq_true.1 h
   exact absurd h2 (e x hx)
 | some x => exact ⟨x, List.mem_of_find?_eq_some e, by simpa using List.find?_some e, rfl⟩
theorem putAll_cons (o : Int) (al : List TermD) (t : TermD) (ts : List TermD) : putAll o al (t :: ts) = if (putD o al t).1 ≠ 0 then ((putD o al t).1, []) else putAll o (putD o al t).2 ts := rfl
theorem putAll_app {o : Int} : ∀ {a b al : List TermD}, (putAll o al a).1 = 0 → putAll o al (a ++ b) = putAll o (putAll o al a).2 b
 | [], b, al, _ => rfl
 | t :: a, b, al, h => by
   rw [List.cons_append, putAll_cons, putAll_cons]
   rw [putAll_cons] at h
   by_cases h1 : (putD o al t).1 = 0
   ·have h2 : ¬ (putD o al t).1 ≠ 0 := fun h => h h1
    rw [if_neg h2] at h
    rw [if_neg h2, if_neg h2, putAll_app h]
   ·rw [if_pos (by simpa using h1)] at h
    exact absurd h h1
theorem putAll_fresh {o : Int} : ∀ {ts al : List TermD}, (ts.Pairwise fun p q => p.m ≠ q.m) → (∀ t ∈ ts, ∀ x ∈ al, x.m ≠ t.m) → (putAll o al ts).1 = 0 ∧ ∀ x ∈ (putAll o al ts).2, x ∈ al ∨ x ∈ ts
 | [], al, _, _ => ⟨rfl, fun x h => .inl h⟩
 | t :: ts, al, hp, hf => by
   obtain ⟨h1, h2⟩ := List.pairwise_cons.1 hp
   have hno : ¬ hasM al t.m = true := fun h => by
    obtain ⟨x, hx, e, _⟩ := hasM_of h
    exact hf t (by simp) x hx e
   have e : putD o al t = (0, insD o t al) := by unfold putD; rw [if_neg hno]
   obtain ⟨a1, a2⟩ := putAll_fresh (o := o) (ts := ts) (al := insD o t al) h2 fun s hs x hx => by
    rcases mem_insD.1 hx with rfl | hx
    ·exact h1 s hs
    ·exact hf s (by simp [hs]) x hx
   rw [putAll_cons, e]
   simp only [ne_eq, not_true_eq_false, if_false]
   refine ⟨a1, fun x hx => ?_⟩
   rcases a2 x hx with h | h
   ·rcases mem_insD.1 h with rfl | h
    ·exact .inr (by simp)
    ·exact .inl h
   ·exact .inr (by simp [h])
theorem putAll_lit {o : Int} : ∀ {ts al : List TermD}, (ts.Pairwise fun p q => p.m ≠ q.m) → (∀ t ∈ ts, Lit t.c) → (∀ x ∈ al, Lit x.c ∨ ∀ t ∈ ts, t.m ≠ x.m) → (putAll o al ts).1 = 0
 | [], al, _, _, _ => rfl
 | t :: ts, al, hp, hl, hf => by
   obtain ⟨h1, h2⟩ := List.pairwise_cons.1 hp
   have hl' : ∀ s ∈ ts, Lit s.c := fun s hs => hl s (by simp [hs])
   by_cases hm : hasM al t.m = true
   ·obtain ⟨x, hx, e, eg⟩ := hasM_of hm
    have hx1 : Lit x.c := by
     rcases hf x hx with h | h
     ·exact h
     ·exact absurd e.symm (h t (by simp))
    have ha := addD_lit hx1 (hl t (by simp))
    have e2 : putD o al t = (0, setM al t.m (addD x.c t.c).2) := by unfold putD; rw [if_pos hm, eg, if_neg (by rw [ha]; simp)]
    rw [putAll_cons, e2]
    simp only [ne_eq, not_true_eq_false, if_false]
    refine putAll_lit h2 hl' fun y hy => ?_
    obtain ⟨z, hz, rfl⟩ := List.mem_map.1 hy
    split
    ·exact .inr fun s hs e => h1 s hs e.symm
    ·rcases hf z hz with h | h
     ·exact .inl h
     ·exact .inr fun s hs => h s (by simp [hs])
   ·have e2 : putD o al t = (0, insD o t al) := by unfold putD; rw [if_neg hm]
    rw [putAll_cons, e2]
    simp only [ne_eq, not_true_eq_false, if_false]
    refine putAll_lit h2 hl' fun y hy => ?_
    rcases mem_insD.1 hy with rfl | hy
    ·exact .inl (hl _ (by simp))
    ·rcases hf y hy with h | h
     ·exact .inl h
     ·exact .inr fun s hs => h s (by simp [hs])
theorem polAdd_lit {o : Int} {X Y : List TermD} (hX : CP o X) (hY : CP o Y) (hl : X.length + Y.length ≤ 60) (lX : ∀ x ∈ X, Lit x.c) (lY : ∀ x ∈ Y, Lit x.c) :
    ∃ Z, polAdd o [X, Y] = (0, Z) ∧ CP o Z ∧ ∀ f, lin f Z = lin f X + lin f Y := by
 have hps : ∀ p ∈ [X, Y], CP o p := fun p hp => by
  simp only [List.mem_cons, List.not_mem_nil, or_false] at hp
  rcases hp with rfl | rfl
  ·exact hX
  ·exact hY
 have ef : [X, Y].flatten = X ++ Y := by simp
 obtain ⟨a1, a2⟩ := putAll_fresh (o := o) (ts := X) (al := []) hX.canon.sta.keys (fun t _ x hx => by cases hx)
 have a3 := putAll_lit (o := o) (ts := Y) (al := (putAll o [] X).2) hY.canon.sta.keys lY fun x hx => by
  rcases a2 x hx with h | h
  ·cases h
  ·exact .inl (lX x h)
 have a4 : (putAll o [] (X ++ Y)).1 = 0 := by rw [putAll_app a1]; exact a3
 have a5 : (putAll o [] (X ++ Y)).2.length ≤ (X ++ Y).length := putAll_len (o := o) (by rw [← a4])
 have hg : GoodP (X ++ Y) := hX.canon.good.app hY.canon.good
 have h0 : (polAdd o [X, Y]).1 = 0 := by
  rw [polAdd_make hps, ef]
  unfold polMake
  rw [anyOdd_good hg, show ordered o = true from hX.may |> fun h => by unfold polMay at h; simp only [Bool.and_eq_true] at h; exact h.2.1, if_neg (by simp), if_neg (by rw [a4]; simp), if_neg (by
   have := List.length_filter_le nz (putAll o [] (X ++ Y)).2
   rw [List.length_append] at a5
   omega)]
 obtain ⟨b1, b2⟩ := polAdd_good hps h0
 refine ⟨_, Prod.ext h0 rfl, b1, fun f => ?_⟩
 rw [b2 f, ef, lin_app]
structure RaiseOk (o : Int) (m by_ : MonD) (s : Int) (t : TermD) (p X : List TermD) : Prop where
 cp : CP o X
 len : X.length = (t :: p).length
 lit : ∀ x ∈ X, Lit x.c
 lin : ∀ f, lin f X = ((s : Rat) * (qv t.c)⁻¹) * lin (fun n => f (addM n by_)) (t :: p)
 head : ∃ x X', X = x :: X' ∧ x.m = m ∧ qv x.c = (s : Rat)
theorem raise_pol {o : Int} {m by_ : MonD} {s : Int} {t : TermD} {p : List TermD} (hP : Pol o 1280 (t :: p)) (hs : s = 1 ∨ s = -1) (hd : monDiv m t.m = (true, by_)) (hf : Fits (t :: p) by_) :
    ∃ X, raiseD o m (t :: p) s = (0, X) ∧ RaiseOk o m by_ s t p X := by
 have tm : t ∈ t :: p := by simp
 have hcp : CP o (t :: p) := ⟨hP.canon, hP.len⟩
 obtain ⟨m1, m2, m3, m4⟩ := monDiv_true hd
 have hint : ∀ x ∈ t :: p, Lit x.c ∧ val x.c.num ≤ 1280 ∧ val x.c.den = 1 := fun x hx => by
  obtain ⟨n, e⟩ := hP.ints.int x hx
  have h1 := ah (mass_mem hx) hP.ints.mass
  have h2 : val x.c.den = 1 := by rw [e]; rfl
  exact ⟨⟨(hP.canon.good x hx).c, by omega, by omega⟩, h1, h2⟩
 obtain ⟨lt, tn, td⟩ := hint t tm
 have tz := hP.canon.nz t tm
 have tz' : t.c.num.length ≠ 0 := by unfold nz at tz; simpa using tz
 have tq := (hP.canon.good t tm).ne tz
 obtain ⟨i1, i2⟩ := invD_q lt.1 tz'
 have ik : invD t.c = (0, ⟨t.c.neg, t.c.den, t.c.num⟩) := by
  unfold invD
  rw [lt.1.may, if_neg (by simp), if_neg tz']
 obtain ⟨r, hr⟩ : ∃ r, (invD t.c).2 = r := ⟨_, rfl⟩
 have r1 : r = ofQ (qv t.c)⁻¹ := by rw [← hr, i1]
 have rq : qv r = (qv t.c)⁻¹ := by rw [r1, qv_ofQ]
 have rn : val r.num = 1 ∧ val r.den = val t.c.num := by
  rw [← hr, ik]; exact ⟨td, rfl⟩
 have rg : GoodR r := by rw [r1]; exact ofQ_good i2
 have rl : Lit r := ⟨rg, by omega, by omega⟩
 have sa : s.natAbs = 1 := by rcases hs with rfl | rfl <;> rfl
 have sl : Lit (ofD s) ∧ val (ofD s).num = 1 ∧ val (ofD s).den = 1 := by
  have h1 : val (ofD s).num = 1 := by rw [val_ofD]; exact sa
  have h2 : val (ofD s).den = 1 := rfl
  exact ⟨⟨ofD_good (by omega), by omega, by omega⟩, h1, h2⟩
 obtain ⟨k1, kg, kq, kn, kd⟩ := mulD_lit rl sl.1
 rw [rn.1, sl.2.1] at kn
 rw [rn.2, sl.2.2] at kd
 obtain ⟨k, hk⟩ : ∃ k, (mulD r (ofD s)).2 = k := ⟨_, rfl⟩
 rw [hk] at kg kq kn kd
 rw [rq, qv_ofD] at kq
 have kl : Lit k := ⟨kg, by omega, by omega⟩
 have sne : (s : Rat) ≠ 0 := by rcases hs with rfl | rfl <;> decide
 have tine : (qv t.c)⁻¹ ≠ 0 := fun h => by
  have := Rat.mul_inv_cancel _ tq
  rw [h, Rat.mul_zero] at this
  exact absurd this (by decide)
 have kne : qv k ≠ 0 := by
  rw [kq]
  intro h
  rcases Rat.mul_eq_zero.1 h with h | h
  ·exact tine h
  ·exact sne h
 have hT : GoodT ⟨k, by_⟩ := ⟨kg, m3⟩
 have hz : nz ⟨k, by_⟩ = true := nz_of kg kne
 have each : ∀ x ∈ t :: p, (mulD x.c k).1 = 0 ∧ monMul x.m by_ = (0, addM x.m by_) := fun x hx => ⟨(mulD_lit (hint x hx).1 kl).1, monMul_of (hcp.canon.good x hx).m m3 (hf x hx)⟩
 have hok : ∀ x ∈ t :: p, TimesOk x ⟨k, by_⟩ := fun x hx => timesOk (hcp.canon.good x hx) hT (each x hx).1 (by rw [(each x hx).2])
 have hX : polTimes o (t :: p) ⟨k, by_⟩ = (0, (t :: p).map fun x => mulT x ⟨k, by_⟩) := by rw [polTimes_timesL hcp hT hz]; exact timesL_map each
 refine ⟨_, ?_, ⟨canon_times hcp.canon hT hz hok, by rw [List.length_map]; exact hcp.len⟩, by rw [List.length_map], fun x hx => ?_, fun f => ?_, ⟨_, _, rfl, m4, ?_⟩⟩
 ·unfold raiseD
  simp only
  rw [hr, show (invD t.c).1 = 0 by rw [i1], if_neg (by simp), k1, if_neg (by simp), hk, hd]
  exact hX
 ·obtain ⟨y, hy, rfl⟩ := List.mem_map.1 hx
  obtain ⟨a1, a2, a3⟩ := hint y hy
  obtain ⟨_, b2, b3, b4, b5⟩ := mulD_lit a1 kl
  rw [a3] at b5
  exact ⟨b2, Nat.lt_of_le_of_lt b4 (Nat.lt_of_le_of_lt (Nat.mul_le_mul a2 kn) (by omega)), Nat.lt_of_le_of_lt b5 (by omega)⟩
 ·rw [lin_timesM f hok, kq]
  congr 1
  exact Rat.mul_comm _ _
 ·rw [(hok t tm).val, kq, ← Rat.mul_assoc, Rat.mul_inv_cancel _ tq, Rat.one_mul]
structure CrossOk (o : Int) (m b1 b2 : MonD) (t u : TermD) (p q X Y Z : List TermD) : Prop where
 eq : crossD o (t :: p) (u :: q) = (0, Z)
 cp : CP o Z
 x : RaiseOk o m b1 1 t p X
 y : RaiseOk o m b2 (-1) u q Y
 sum : ∀ f, lin f Z = lin f X + lin f Y
end Go.Proofs.YtgjkgkgieeoalaaGreat
