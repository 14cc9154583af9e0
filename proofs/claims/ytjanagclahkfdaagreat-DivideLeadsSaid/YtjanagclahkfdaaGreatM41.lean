/- Parts of the proof, joined: what each says stands at its head. -/
import Derived.Test.YtjanagclahkfdaaGreatM40
import Derived.Test.YtjanagclahkfdaaGreatM30
set_option linter.unusedVariables false
set_option linter.unusedSimpArgs false
set_option maxHeartbeats 24000000
set_option maxRecDepth 100000
namespace Go.Proofs.YtjanagclahkfdaaGreat
structure CP (o : Int) (p : List TermD) : Prop where
 canon : Canon o p
 len : p.length ≤ 60
theorem CP.may {o : Int} {p : List TermD} (h : CP o p) : polMay o p = true := canon_may h.canon h.len
theorem CP.ord {o : Int} {p : List TermD} (h : CP o p) : oOk o := h.canon.sta.ord
theorem CP.nil {o : Int} (h : oOk o) : CP o [] := ⟨canon_nil h, by simp⟩
theorem Canon.tl {o : Int} {t : TermD} {p : List TermD} (h : Canon o (t :: p)) : Canon o p :=
 ⟨⟨h.sta.ord, fun s hs => h.sta.good s (by simp [hs]), (List.pairwise_cons.1 h.sta.fall).2⟩, h.good.tl, fun s hs => h.nz s (by simp [hs])⟩
theorem CP.tl {o : Int} {t : TermD} {p : List TermD} (h : CP o (t :: p)) : CP o p := ⟨h.canon.tl, by have := h.len; simp only [List.length_cons] at this; omega⟩
theorem CP.below {o : Int} {t : TermD} {p : List TermD} (h : CP o (t :: p)) : ∀ s ∈ p, 0 < monCmp o t.m s.m := (List.pairwise_cons.1 h.canon.sta.fall).1
theorem CP.ne {o : Int} {p : List TermD} (h : CP o p) {t : TermD} (ht : t ∈ p) : qv t.c ≠ 0 := (h.canon.good t ht).ne (h.canon.nz t ht)
theorem CP.eq {o : Int} {p q : List TermD} (h : CP o p) (h' : CP o q) (e : ∀ f, lin f p = lin f q) : p = q := canon_ext h.canon h'.canon e
theorem SmP.cp {o : Int} {p : List TermD} (h : SmP o p) : CP o p := ⟨h.pol.canon, h.pol.len⟩
theorem putD_code {o : Int} {al : List TermD} {t : TermD} (hg : GoodP al) (ht : GoodT t) : (putD o al t).1 = 0 ∨ (putD o al t).1 = 21 := by
 unfold putD
 by_cases hm : hasM al t.m = true
 ·rw [if_pos hm]
  obtain ⟨p, hp, em, ec⟩ := getM_of hm
  rw [ec]
  rcases addD_q (hg p hp).c ht.c with h1 | ⟨h1, _⟩
  ·rw [h1]; right; simp
  ·rw [h1]; left; simp
 ·rw [if_neg hm]; exact .inl rfl
theorem putAll_code {o : Int} : ∀ (ts al : List TermD), Sta o al → GoodP al → GoodP ts → (putAll o al ts).1 = 0 ∨ (putAll o al ts).1 = 21
 | [], _, _, _, _ => .inl rfl
 | t :: ts, al, h, hg, ht => by
   unfold putAll
   by_cases h1 : (putD o al t).1 = 0
   ·rw [if_neg (by simpa using h1)]
    exact putAll_code ts _ (h.putD ht.hd.m h1) (putD_ok h hg ht.hd h1).1 ht.tl
   ·rw [if_pos (by simpa using h1)]
    exact (putD_code hg ht.hd)
theorem anyOdd_good {ts : List TermD} (h : GoodP ts) : anyOdd ts = false := by
 unfold anyOdd
 rw [List.any_eq_false]
 intro t ht
 rw [(h t ht).right]
 simp
theorem polMake_code {o : Int} {ts : List TermD} (ho : oOk o) (hg : GoodP ts) : (polMake o ts).1 = 0 ∨ (polMake o ts).1 = 21 ∨ (polMake o ts).1 = 90 := by
 unfold polMake
 rw [anyOdd_good hg, ordered_ok.2 ho, if_neg (by simp)]
 split
 ·exact (putAll_code ts [] (.nil ho) .nil hg).imp id .inl
 ·split
  ·exact .inr (.inr rfl)
  ·exact .inl rfl
theorem flat_good {o : Int} : ∀ {ps : List (List TermD)}, (∀ p ∈ ps, CP o p) → GoodP ps.flatten
 | [], _ => .nil
 | p :: ps, h => by rw [List.flatten_cons]; exact (h p (by simp)).canon.good.app (flat_good fun q hq => h q (by simp [hq]))
theorem polAdd_make {o : Int} {ps : List (List TermD)} (h : ∀ p ∈ ps, CP o p) : polAdd o ps = polMake o ps.flatten := polAdd_int fun p hp => ⟨(h p hp).canon, (h p hp).len⟩
theorem polAdd_good {o : Int} {ps : List (List TermD)} (h : ∀ p ∈ ps, CP o p) (h0 : (polAdd o ps).1 = 0) : CP o (polAdd o ps).2 ∧ ∀ f, lin f (polAdd o ps).2 = lin f ps.flatten := by
 rw [polAdd_make h] at h0 ⊢
 obtain ⟨a1, a2, _, a4⟩ := polMake_ok (flat_good h).u h0
 exact ⟨⟨a1, a2⟩, a4⟩
theorem polAdd_code {o : Int} {ps : List (List TermD)} (ho : oOk o) (h : ∀ p ∈ ps, CP o p) : (polAdd o ps).1 = 0 ∨ (polAdd o ps).1 = 21 ∨ (polAdd o ps).1 = 90 := by
 rw [polAdd_make h]; exact polMake_code ho (flat_good h)
theorem nz_of {t : TermD} (h : GoodR t.c) (h0 : qv t.c ≠ 0) : nz t = true := by
 unfold nz
 rw [decide_eq_false fun e => h0 (h.nil_iff.1 e)]; rfl
theorem nz_len {t : TermD} (h : nz t = true) : ¬ t.c.num.length = 0 := by unfold nz at h; simpa using h
theorem monMul_of {a b : MonD} (ha : monMay a = true) (hb : monMay b = true) (h : monMay (addM a b) = true) : monMul a b = (0, addM a b) := by
 unfold monMul; rw [ha, hb, h]; rfl
theorem monMul_may {a b : MonD} (h : (monMul a b).1 = 0) : monMay (addM a b) = true := by
 unfold monMul at h
 split at h
 ·cases h
 ·split at h
  ·cases h
  ·rename_i h1; simpa using h1
structure TimesOk (s t : TermD) : Prop where
 good : GoodT (mulT s t)
 val : qv (mulT s t).c = qv s.c * qv t.c
 may : monMay (addM s.m t.m) = true
theorem timesOk {s t : TermD} (hs : GoodT s) (ht : GoodT t) (h1 : (mulD s.c t.c).1 = 0) (h2 : (monMul s.m t.m).1 = 0) : TimesOk s t := by
 have hm := monMul_may h2
 rcases mulD_q hs.c ht.c with e | ⟨e, hf⟩
 ·rw [e] at h1; cases h1
 ·exact ⟨⟨by show GoodR (mulD s.c t.c).2; rw [e]; exact ofQ_good hf, hm⟩, by show qv (mulD s.c t.c).2 = _; rw [e]; exact qv_ofQ _, hm⟩
theorem timesL_good {t : TermD} (ht : GoodT t) : ∀ {p : List TermD}, GoodP p → (timesL t p).1 = 0 → (timesL t p).2 = (p.map fun s => mulT s t) ∧ ∀ s ∈ p, TimesOk s t
 | [], _, _ => ⟨rfl, fun s h => by cases h⟩
 | s :: r, hp, h => by
   rw [timesL_cons] at h ⊢
   by_cases h1 : (mulD s.c t.c).1 = 0
   ·rw [if_neg (by simpa using h1)] at h ⊢
    by_cases h2 : (monMul s.m t.m).1 = 0
    ·rw [if_neg (by simpa using h2)] at h ⊢
     by_cases h3 : (timesL t r).1 = 0
     ·rw [if_neg (by simpa using h3)]
      obtain ⟨a1, a2⟩ := timesL_good ht hp.tl h3
      have hk := timesOk hp.hd ht h1 h2
      refine ⟨?_, fun x hx => ?_⟩
      ·rw [List.map_cons, a1, monMul_of hp.hd.m ht.m hk.may]; rfl
      ·rcases List.mem_cons.1 hx with rfl | hx
       ·exact hk
       ·exact a2 x hx
     ·rw [if_pos (by simpa using h3)] at h; exact absurd h h3
    ·rw [if_pos (by simpa using h2)] at h; exact absurd h h2
   ·rw [if_pos (by simpa using h1)] at h; exact absurd h h1
theorem timesL_code {t : TermD} (ht : GoodT t) : ∀ {p : List TermD}, GoodP p → Fits p t.m → (timesL t p).1 = 0 ∨ (timesL t p).1 = 21
 | [], _, _ => .inl rfl
 | s :: r, hp, hf => by
   rw [timesL_cons]
   by_cases h1 : (mulD s.c t.c).1 = 0
   ·rw [if_neg (by simpa using h1)]
    have e := monMul_of hp.hd.m ht.m (hf s (by simp))
    rw [if_neg (by rw [e]; simp)]
    by_cases h3 : (timesL t r).1 = 0
    ·rw [if_neg (by simpa using h3)]; exact .inl rfl
    ·rw [if_pos (by simpa using h3)]
     exact timesL_code ht hp.tl fun x hx => hf x (by simp [hx])
   ·rw [if_pos (by simpa using h1)]
    rcases mulD_q hp.hd.c ht.c with e | ⟨e, _⟩
    ·rw [e]; exact .inr rfl
    ·rw [e] at h1; exact absurd rfl h1
theorem lin_timesM (f : MonD → Rat) {t : TermD} : ∀ {p : List TermD}, (∀ s ∈ p, TimesOk s t) → lin f (p.map fun s => mulT s t) = qv t.c * lin (fun m => f (addM m t.m)) p
 | [], _ => by simp only [List.map_nil, lin]; grind
 | s :: p, h => by
   simp only [List.map_cons, lin]
   rw [lin_timesM f fun x hx => h x (by simp [hx]), (h s (by simp)).val]
   show qv s.c * qv t.c * f (addM s.m t.m) + _ = _
   grind
theorem canon_times {o : Int} {t : TermD} {p : List TermD} (hp : Canon o p) (ht : GoodT t) (hz : nz t = true) (h : ∀ s ∈ p, TimesOk s t) : Canon o (p.map fun s => mulT s t) := by
 have hmem : ∀ x ∈ p.map (fun s => mulT s t), ∃ s ∈ p, mulT s t = x := fun x hx => List.mem_map.1 hx
 refine ⟨⟨hp.sta.ord, fun x hx => ?_, ?_⟩, fun x hx => ?_, fun x hx => ?_⟩
 ·obtain ⟨s, hs, rfl⟩ := hmem x hx; exact (h s hs).good.m
 ·unfold Fall
  rw [List.pairwise_map]
  refine List.Pairwise.imp_of_mem ?_ hp.sta.fall
  intro a b ha hb hab
  show 0 < monCmp o (addM a.m t.m) (addM b.m t.m)
  rwa [monCmp_mul hp.sta.ord (hp.sta.good a ha) (hp.sta.good b hb) ht.m (h a ha).may (h b hb).may]
 ·obtain ⟨s, hs, rfl⟩ := hmem x hx; exact (h s hs).good
 ·obtain ⟨s, hs, rfl⟩ := hmem x hx
  refine nz_of (h s hs).good.c ?_
  rw [(h s hs).val]
  intro e
  rcases Rat.mul_eq_zero.1 e with e | e
  ·exact (hp.good s hs).ne (hp.nz s hs) e
  ·exact ht.ne hz e
theorem polTimes_timesL {o : Int} {t : TermD} {p : List TermD} (hp : CP o p) (ht : GoodT t) (hz : nz t = true) : polTimes o p t = timesL t p := by
 unfold polTimes
 rw [hp.may, ht.right, if_neg (by simp), if_neg (nz_len hz)]
theorem polTimes_good {o : Int} {t : TermD} {p : List TermD} (hp : CP o p) (ht : GoodT t) (hz : nz t = true) (h0 : (polTimes o p t).1 = 0) :
    CP o (polTimes o p t).2 ∧ (∀ f, lin f (polTimes o p t).2 = qv t.c * lin (fun m => f (addM m t.m)) p) ∧ Fits p t.m := by
 rw [polTimes_timesL hp ht hz] at h0 ⊢
 obtain ⟨a1, a2⟩ := timesL_good ht hp.canon.good h0
 rw [a1]
 exact ⟨⟨canon_times hp.canon ht hz a2, by rw [List.length_map]; exact hp.len⟩, fun f => lin_timesM f a2, fun s hs => (a2 s hs).may⟩
theorem polTimes_code {o : Int} {t : TermD} {p : List TermD} (hp : CP o p) (ht : GoodT t) (hz : nz t = true) (hf : Fits p t.m) : (polTimes o p t).1 = 0 ∨ (polTimes o p t).1 = 21 := by
 rw [polTimes_timesL hp ht hz]; exact timesL_code ht hp.canon.good hf
def linP (f : MonD → Rat) (p q : List TermD) : Rat := lin (fun m' => lin (fun m => f (addM m m')) p) q
theorem linP_snoc (f : MonD → Rat) (p q : List TermD) (t : TermD) : linP f p (q ++ [t]) = linP f p q + qv t.c * lin (fun m => f (addM m t.m)) p := by
 unfold linP
 rw [lin_app]
 simp only [lin]
 grind
theorem mulC_good {o : Int} {p : List TermD} (hp : CP o p) : ∀ {q : List TermD}, GoodP q → (∀ t ∈ q, nz t = true) → (mulC o p q).1 = 0 → (mulC o p q).2 = prods p q ∧ ∀ t ∈ q, ∀ s ∈ p, TimesOk s t
 | [], _, _, _ => ⟨rfl, fun s h => by cases h⟩
 | t :: q, hq, hz, h => by
   unfold mulC at h ⊢
   have hzt := hz t (by simp)
   rw [polTimes_timesL hp hq.hd hzt] at h ⊢
   by_cases h1 : (timesL t p).1 = 0
   ·rw [if_neg (by simpa using h1)] at h ⊢
    obtain ⟨a1, a2⟩ := timesL_good hq.hd hp.canon.good h1
    unfold appD at h ⊢
    by_cases h2 : (mulC o p q).1 = 0
    ·rw [if_neg (by simpa using h2)]
     obtain ⟨b1, b2⟩ := mulC_good hp hq.tl (fun x hx => hz x (by simp [hx])) h2
     refine ⟨?_, fun x hx => ?_⟩
     ·rw [a1, b1]; rfl
     ·rcases List.mem_cons.1 hx with rfl | hx
      ·exact a2
      ·exact b2 x hx
    ·rw [if_pos (by simpa using h2)] at h; exact absurd h h2
   ·rw [if_pos (by simpa using h1)] at h; exact absurd h h1
theorem mulC_code {o : Int} {p : List TermD} (hp : CP o p) : ∀ {q : List TermD}, GoodP q → (∀ t ∈ q, nz t = true) → (∀ t ∈ q, Fits p t.m) → (mulC o p q).1 = 0 ∨ (mulC o p q).1 = 21
 | [], _, _, _ => .inl rfl
 | t :: q, hq, hz, hf => by
   unfold mulC
   by_cases h1 : (polTimes o p t).1 = 0
   ·rw [if_neg (by simpa using h1)]
    unfold appD
    by_cases h2 : (mulC o p q).1 = 0
    ·rw [if_neg (by simpa using h2)]; exact .inl rfl
    ·rw [if_pos (by simpa using h2)]
     exact mulC_code hp hq.tl (fun x hx => hz x (by simp [hx])) fun x hx => hf x (by simp [hx])
   ·rw [if_pos (by simpa using h1)]
    exact polTimes_code hp hq.hd (hz t (by simp)) (hf t (by simp))
theorem lin_prodsM (f : MonD → Rat) {p : List TermD} : ∀ {q : List TermD}, (∀ t ∈ q, ∀ s ∈ p, TimesOk s t) → lin f (prods p q) = linP f p q
 | [], _ => rfl
 | t :: q, h => by
   show lin f ((p.map fun s => mulT s t) ++ prods p q) = _
   rw [lin_app, lin_prodsM f fun x hx => h x (by simp [hx]), lin_timesM f (h t (by simp))]
   rfl
theorem prods_good {p q : List TermD} (h : ∀ t ∈ q, ∀ s ∈ p, TimesOk s t) : GoodP (prods p q) := fun x hx => by
 unfold prods at hx
 obtain ⟨t, ht, hx⟩ := List.mem_flatMap.1 hx
 obtain ⟨s, hs, rfl⟩ := List.mem_map.1 hx
 exact (h t ht s hs).good
theorem polMul_good {o : Int} {p q : List TermD} (hp : CP o p) (hq : CP o q) (h0 : (polMul o p q).1 = 0) :
    CP o (polMul o p q).2 ∧ (∀ f, lin f (polMul o p q).2 = linP f p q) ∧ ∀ t ∈ q, Fits p t.m := by
 unfold polMul at h0 ⊢
 rw [hp.may, hq.may, if_neg (by simp)] at h0 ⊢
 by_cases h1 : (mulC o p q).1 = 0
 ·rw [if_neg (by simpa using h1)] at h0 ⊢
  obtain ⟨a1, a2⟩ := mulC_good hp hq.canon.good hq.canon.nz h1
  rw [a1] at h0 ⊢
  obtain ⟨b1, b2, _, b4⟩ := polMake_ok (prods_good a2).u h0
  exact ⟨⟨b1, b2⟩, fun f => (b4 f).trans (lin_prodsM f a2), fun t ht s hs => (a2 t ht s hs).may⟩
 ·rw [if_pos (by simpa using h1)] at h0; exact absurd h0 h1
theorem polMul_code {o : Int} {p q : List TermD} (hp : CP o p) (hq : CP o q) (hf : ∀ t ∈ q, Fits p t.m) : (polMul o p q).1 = 0 ∨ (polMul o p q).1 = 21 ∨ (polMul o p q).1 = 90 := by
 unfold polMul
 rw [hp.may, hq.may, if_neg (by simp)]
 by_cases h1 : (mulC o p q).1 = 0
 ·rw [if_neg (by simpa using h1)]
  obtain ⟨a1, a2⟩ := mulC_good hp hq.canon.good hq.canon.nz h1
  rw [a1]
  exact polMake_code hp.ord (prods_good a2)
 ·rw [if_pos (by simpa using h1)]
  exact (mulC_code hp hq.canon.good hq.canon.nz hf).imp id .inl
theorem monDiv_true {a b q : MonD} (h : monDiv a b = (true, q)) : monMay a = true ∧ monMay b = true ∧ monMay q = true ∧ addM b q = a := by
 unfold monDiv at h
 split at h
 ·cases h
 ·rename_i h1
  split at h
  ·cases h
  ·rename_i h2
   simp only [Prod.mk.injEq, true_and] at h
   subst h
   have h3 : monMay a = true ∧ monMay b = true := by simpa using h1
   refine ⟨h3.1, h3.2, by simpa using h2, ?_⟩
   obtain ⟨a0, a1, a2, a3⟩ := a
   unfold addM subM
   simp only [MonD.mk.injEq]
   omega
theorem monDiv_of {a b q : MonD} (ha : monMay a = true) (hb : monMay b = true) (hq : monMay q = true) (h : addM b q = a) : monDiv a b = (true, q) := by
 have e : subM a b = q := by
  subst h
  obtain ⟨q0, q1, q2, q3⟩ := q
  unfold addM subM
  simp only [MonD.mk.injEq]
  omega
 unfold monDiv
 rw [ha, hb, e, hq]; rfl
theorem dividesD_none : ∀ {l : List (List TermD)} {m : MonD}, dividesD l m = none → ∀ {i : Nat} {u : TermD} {b : List TermD}, l[i]? = some (u :: b) → (monDiv m u.m).1 = false
 | [], m, _, i, u, b, h => by simp at h
 | [] :: l, m, hn, i, u, b, h => by
   unfold dividesD at hn
   rw [Option.map_eq_none_iff] at hn
   cases i with
   | zero => simp at h
   | succ i => exact dividesD_none hn (by simpa using h)
 | (v :: c) :: l, m, hn, i, u, b, h => by
   unfold dividesD at hn
   split at hn
   ·cases hn
   ·rename_i h1
    rw [Option.map_eq_none_iff] at hn
    cases i with
    | zero =>
      simp only [List.getElem?_cons_zero, Option.some.injEq, List.cons.injEq] at h
      obtain ⟨rfl, _⟩ := h
      simpa using h1
    | succ i => exact dividesD_none hn (by simpa using h)
theorem dividesD_no : ∀ {l : List (List TermD)} {m : MonD}, (∀ u b, u :: b ∈ l → (monDiv m u.m).1 = false) → dividesD l m = none
 | [], _, _ => rfl
 | [] :: l, m, h => by
   unfold dividesD
   rw [dividesD_no fun u b hb => h u b (by simp [hb])]; rfl
 | (v :: c) :: l, m, h => by
   unfold dividesD
   rw [if_neg (by rw [h v c (by simp)]; simp), dividesD_no fun u b hb => h u b (by simp [hb])]; rfl
structure Moved (o : Int) (t u : TermD) (p b q y : List TermD) (k : Nat) (c : RatD) (m : MonD) : Prop where
 good : GoodT ⟨c, m⟩
 nz : nz ⟨c, m⟩ = true
 val : qv c * qv u.c = qv t.c
 k : k < 400
 q : q.length < 60
 cp : CP o y
 fits : Fits (u :: b) m
 lin : ∀ f, lin f y + qv c * lin (fun x => f (addM x m)) (u :: b) = lin f (t :: p)
 below : ∀ s ∈ y, 0 < monCmp o t.m s.m
theorem moveD_good {o : Int} {k : Nat} {p b q : List TermD} {t u : TermD} {m : MonD} (hp : CP o (t :: p)) (hb : CP o (u :: b)) (hd : monDiv t.m u.m = (true, m)) (h0 : (moveD o (t :: p) (u :: b) q k m).1 = 0) :
    ∃ c y, moveD o (t :: p) (u :: b) q k m = (0, y, q ++ [⟨c, m⟩]) ∧ Moved o t u p b q y k c m := by
 obtain ⟨tm, um, mm, e⟩ := monDiv_true hd
 have ho := hp.ord
 have gt := hp.canon.good t (by simp)
 have gu := hb.canon.good u (by simp)
 have hu0 := hb.ne (t := u) (by simp)
 have ht0 := hp.ne (t := t) (by simp)
 obtain ⟨i1, i2⟩ := invD_q gu.c (nz_len (hb.canon.nz u (by simp)))
 unfold moveD at h0 ⊢
 dsimp only at h0 ⊢
 rw [i1] at h0 ⊢
 dsimp only at h0 ⊢
 by_cases hk : 400 ≤ k
 ·rw [if_pos hk] at h0; cases h0
 rw [if_neg hk] at h0 ⊢
 have hm2 := mulD_q gt.c (ofQ_good i2)
 rw [qv_ofQ] at hm2
 rcases hm2 with e1 | ⟨e1, hf⟩
 ·rw [e1, if_pos (by simp)] at h0; cases h0
 rw [e1, if_neg (by simp)] at h0 ⊢
 by_cases hq : 60 ≤ q.length
 ·rw [if_pos hq] at h0; cases h0
 rw [if_neg hq] at h0 ⊢
 have gc : GoodR (ofQ (qv t.c * (qv u.c)⁻¹)) := ofQ_good hf
 have vc : qv (ofQ (qv t.c * (qv u.c)⁻¹)) * qv u.c = qv t.c := by rw [qv_ofQ, Rat.mul_assoc, Rat.inv_mul_cancel _ hu0, Rat.mul_one]
 dsimp only at h0 ⊢
 generalize ofQ (qv t.c * (qv u.c)⁻¹) = c at h0 gc vc ⊢
 have vc0 : qv c ≠ 0 := fun h => ht0 (by rw [← vc, h, Rat.zero_mul])
 obtain ⟨gn, vn⟩ := negD_q gc
 have gT : GoodT ⟨negD c, m⟩ := ⟨gn, mm⟩
 have zT : nz ⟨negD c, m⟩ = true := nz_of gn (by rw [vn]; intro h; exact vc0 (by grind))
 by_cases hx : (polTimes o (u :: b) ⟨negD c, m⟩).1 = 0
 case neg => rw [if_pos (by simpa using hx)] at h0; exact absurd h0 hx
 rw [if_neg (by simpa using hx)] at h0 ⊢
 obtain ⟨x1, x2, x3⟩ := polTimes_good hb gT zT hx
 generalize (polTimes o (u :: b) ⟨negD c, m⟩).2 = X at h0 x1 x2 ⊢
 by_cases hy : (polAdd o [t :: p, X]).1 = 0
 case neg => rw [if_pos (by simpa using hy)] at h0; exact absurd h0 hy
 rw [if_neg (by simpa using hy)]
 obtain ⟨y1, y2⟩ := polAdd_good (o := o) (ps := [t :: p, X]) (fun q hq => by simp at hq; rcases hq with rfl | rfl <;> first | exact hp | exact x1) hy
 generalize (polAdd o [t :: p, X]).2 = y at y1 y2 ⊢
 have HL : ∀ f, lin f y + qv c * lin (fun x => f (addM x m)) (u :: b) = lin f (t :: p) := fun f => by
  rw [y2 f, List.flatten_cons, List.flatten_cons, List.flatten_nil, List.append_nil, lin_app, x2 f]
  show _ + qv (negD c) * _ + _ = _
  rw [vn]
  grind
 refine ⟨c, y, rfl, ⟨gc, mm⟩, nz_of gc vc0, vc, by omega, by omega, y1, x3, HL, fun s hs => ?_⟩
 have sm := (y1.canon.good s hs).m
 have hl := lin_ind_mem y1.canon.sta.keys hs
 have hn := y1.ne hs
 have H := HL (ind s.m)
 rw [hl] at H
 have lo : ∀ x ∈ b, monCmp o (addM x.m m) t.m < 0 := fun x hx => by
  have := mulM_lt ho um (hb.canon.good x (by simp [hx])).m mm (by rw [e]; exact tm) (x3 x (by simp [hx])) (hb.below x hx)
  rwa [e] at this
 rcases Int.lt_trichotomy 0 (monCmp o t.m s.m) with h | h | h
 ·exact h
 ·have es : t.m = s.m := (monCmp_zero ho tm sm).1 h.symm
  refine absurd ?_ hn
  have a1 : lin (ind s.m) (t :: p) = qv t.c := by rw [← es]; exact lin_ind_mem hp.canon.sta.keys (by simp)
  have a2 : lin (fun x => ind s.m (addM x m)) (u :: b) = qv u.c := by
   simp only [lin]
   rw [lin_van (p := b) fun x hx => ?_, e, ← es]
   ·unfold ind; rw [if_pos rfl]; grind
   ·have := lo x hx
    unfold ind
    rw [if_neg]
    intro e2
    rw [e2, ← es, (monCmp_zero ho tm tm).2 rfl] at this
    omega
  rw [a1, a2] at H
  grind
 ·refine absurd ?_ hn
  have a1 : lin (ind s.m) (t :: p) = 0 := lin_ind_not fun x hx e2 => by
   rcases List.mem_cons.1 hx with rfl | hx
   ·rw [e2, (monCmp_zero ho sm sm).2 rfl] at h; omega
   ·have := hp.below x hx; rw [e2] at this; omega
  have a2 : lin (fun x => ind s.m (addM x m)) (u :: b) = 0 := lin_van fun x hx => by
   unfold ind
   rw [if_neg]
   intro e2
   rcases List.mem_cons.1 hx with rfl | hx
   ·rw [← e2, e, (monCmp_zero ho tm tm).2 rfl] at h; omega
   ·have h2 := lo x hx
    rw [e2] at h2
    have h3 := monCmp_anti ho tm sm
    omega
  rw [a1, a2] at H
  grind
def linQ (f : MonD → Rat) : List (List TermD) → List (List TermD) → Rat
 | b :: l, q :: qs => linP f b q + linQ f l qs
 | [], _ => 0
 | _ :: _, [] => 0
theorem linQ_set (f : MonD → Rat) : ∀ {l qs : List (List TermD)} {i : Nat} {b q : List TermD} (t : TermD), l[i]? = some b → qs[i]? = some q → linQ f l (qs.set i (q ++ [t])) = linQ f l qs + qv t.c * lin (fun m => f (addM m t.m)) b
 | [], _, _, _, _, _, h, _ => by simp at h
 | _ :: _, [], _, _, _, _, _, h => by simp at h
 | b :: l, q :: qs, 0, b', q', t, h, h' => by
   simp only [List.getElem?_cons_zero, Option.some.injEq] at h h'
   subst h h'
   simp only [List.set_cons_zero, linQ]
   rw [linP_snoc]
   grind
 | b :: l, q :: qs, i + 1, b', q', t, h, h' => by
   simp only [List.set_cons_succ, linQ]
   rw [linQ_set f t (by simpa using h) (by simpa using h')]
   grind
theorem linQ_nils (f : MonD → Rat) : ∀ l : List (List TermD), linQ f l (List.replicate l.length []) = 0
 | [] => rfl
 | b :: l => by
   rw [List.length_cons, List.replicate_succ]
   simp only [linQ]
   rw [linQ_nils f l]
   show 0 + 0 = (0 : Rat)
   grind
structure QOk (o : Int) (l : List (List TermD)) (P0 p : List TermD) (i : Nat) (q : List TermD) : Prop where
 canon : Canon o q
 len : q.length ≤ 60
 each : ∀ x ∈ q, ∃ u b, l[i]? = some (u :: b) ∧ Fits (u :: b) x.m ∧ (∀ t ∈ p, 0 < monCmp o (addM u.m x.m) t.m) ∧ ∃ t0 ps0, P0 = t0 :: ps0 ∧ 0 ≤ monCmp o t0.m (addM u.m x.m)
structure DivI (o : Int) (l : List (List TermD)) (P0 p : List TermD) (qs : List (List TermD)) (r : List TermD) : Prop where
 cp : CP o p
 cr : CP o r
 rp : ∀ s ∈ r, ∀ t ∈ p, 0 < monCmp o s.m t.m
 rd : ∀ s ∈ r, dividesD l s.m = none
 ql : qs.length = l.length
 q : ∀ i q, qs[i]? = some q → QOk o l P0 p i q
 pl : ∀ t ∈ p, ∃ t0 ps0, P0 = t0 :: ps0 ∧ 0 ≤ monCmp o t0.m t.m
 sum : ∀ f, lin f p + lin f r + linQ f l qs = lin f P0
theorem monCmp_ge {o : Int} {a b c : MonD} (ho : oOk o) (ha : monMay a = true) (hb : monMay b = true) (hc : monMay c = true) (h1 : 0 ≤ monCmp o a b) (h2 : 0 ≤ monCmp o b c) : 0 ≤ monCmp o a c := by
 have a1 := monCmp_anti ho ha hb
 have a2 := monCmp_anti ho hb hc
 have a3 := monCmp_anti ho ha hc
 have := monCmp_le ho hc hb ha (by omega) (by omega)
 omega
theorem DivI.start {o : Int} {l : List (List TermD)} {p : List TermD} (hp : CP o p) : DivI o l p p (List.replicate l.length []) [] := by
 refine ⟨hp, .nil hp.ord, fun s h => (by cases h), fun s h => (by cases h), by simp, fun i q h => ?_, fun t ht => ?_, fun f => ?_⟩
 ·obtain rfl : q = [] := List.eq_of_mem_replicate (List.mem_of_getElem? h)
  exact ⟨canon_nil hp.ord, by simp, fun x hx => by cases hx⟩
 ·cases p with
  | nil => cases ht
  | cons t0 ps0 =>
    refine ⟨t0, ps0, rfl, ?_⟩
    rcases List.mem_cons.1 ht with rfl | ht
    ·have m := (hp.canon.good t (by simp)).m
     exact Int.le_of_eq ((monCmp_zero hp.ord m m).2 rfl).symm
    ·exact Int.le_of_lt (hp.below t ht)
 ·rw [linQ_nils]
  simp only [lin]
  grind
theorem canon_snoc {o : Int} {q : List TermD} {x : TermD} (hq : Canon o q) (hx : GoodT x) (hz : nz x = true) (h : ∀ y ∈ q, 0 < monCmp o y.m x.m) : Canon o (q ++ [x]) := by
 refine ⟨⟨hq.sta.ord, fun y hy => ?_, ?_⟩, hq.good.app (GoodP.cons hx .nil), fun y hy => ?_⟩
 ·rcases List.mem_append.1 hy with hy | hy
  ·exact hq.sta.good y hy
  ·simp only [List.mem_singleton] at hy; subst hy; exact hx.m
 ·unfold Fall
  rw [List.pairwise_append]
  exact ⟨hq.sta.fall, List.pairwise_singleton _ _, fun a ha b hb => by simp only [List.mem_singleton] at hb; subst hb; exact h a ha⟩
 ·rcases List.mem_append.1 hy with hy | hy
  ·exact hq.nz y hy
  ·simp only [List.mem_singleton] at hy; subst hy; exact hz
theorem splitF_good {o : Int} {l : List (List TermD)} {P0 : List TermD} (hP : CP o P0) (hl : ∀ b ∈ l, CP o b) : ∀ (n : Nat) (p : List TermD) (qs : List (List TermD)) (r : List TermD) (k : Nat), DivI o l P0 p qs r → 460 - k - r.length < n → k ≤ 400 → (splitF o l n p qs r k).1 = 0 →
    ∃ qs' r', splitF o l n p qs r k = (0, qs', r') ∧ DivI o l P0 [] qs' r'
 | 0, _, _, _, _, _, h, _, _ => by omega
 | n + 1, [], qs, r, k, hI, _, _, _ => ⟨qs, r, rfl, hI⟩
 | n + 1, t :: p, qs, r, k, hI, hn, hk, h0 => by
   have ho := hI.cp.ord
   have tm := (hI.cp.canon.good t (by simp)).m
   unfold splitF at h0 ⊢
   cases hd : dividesD l t.m with
   | none =>
     rw [hd] at h0
     dsimp only at h0 ⊢
     by_cases hr : 60 ≤ r.length
     ·rw [if_pos hr] at h0; cases h0
     rw [if_neg hr] at h0 ⊢
     refine splitF_good hP hl n p qs (r ++ [t]) k ⟨hI.cp.tl, ⟨canon_snoc hI.cr.canon (hI.cp.canon.good t (by simp)) (hI.cp.canon.nz t (by simp)) fun y hy => hI.rp y hy t (by simp), by simp; omega⟩, fun s hs u hu => ?_, fun s hs => ?_, hI.ql, fun i q hq => ?_, fun s hs => hI.pl s (by simp [hs]), fun f => ?_⟩ (by simp; omega) hk h0
     ·rcases List.mem_append.1 hs with hs | hs
      ·exact hI.rp s hs u (by simp [hu])
      ·simp only [List.mem_singleton] at hs; subst hs; exact hI.cp.below u hu
     ·rcases List.mem_append.1 hs with hs | hs
      ·exact hI.rd s hs
      ·simp only [List.mem_singleton] at hs; subst hs; exact hd
     ·have := hI.q i q hq
      exact ⟨this.canon, this.len, fun x hx => let ⟨u, b, h1, h2, h3, h4⟩ := this.each x hx; ⟨u, b, h1, h2, fun s hs => h3 s (by simp [hs]), h4⟩⟩
     ·have := hI.sum f
      rw [lin_app]
      simp only [lin] at this ⊢
      grind
   | some x =>
     obtain ⟨i, m⟩ := x
     rw [hd] at h0
     dsimp only at h0 ⊢
     obtain ⟨u, b, hi, hm⟩ := dividesD_lt hd
     obtain ⟨q, hq⟩ : ∃ q, qs[i]? = some q := ⟨_, List.getElem?_eq_getElem (by rw [hI.ql]; exact (List.getElem?_eq_some_iff.1 hi).1)⟩
     have e1 : l.getD i [] = u :: b := by rw [List.getD_eq_getElem?_getD, hi]; rfl
     have e2 : qs.getD i [] = q := by rw [List.getD_eq_getElem?_getD, hq]; rfl
     rw [e1, e2] at h0 ⊢
     by_cases hmv : (moveD o (t :: p) (u :: b) q k m).1 = 0
     case neg => rw [if_pos (by simpa using hmv)] at h0; exact absurd h0 hmv
     rw [if_neg (by simpa using hmv)] at h0 ⊢
     obtain ⟨c, y, e3, M⟩ := moveD_good hI.cp (hl _ (List.mem_of_getElem? hi)) hm hmv
     rw [e3] at h0 ⊢
     dsimp only at h0 ⊢
     obtain ⟨_, um, mm, ee⟩ := monDiv_true hm
     have far : ∀ {a : MonD}, monMay a = true → 0 < monCmp o a t.m → ∀ s ∈ y, 0 < monCmp o a s.m := fun ha h s hs => monCmp_gt ho ha tm (M.cp.canon.good s hs).m h (M.below s hs)
     have Q0 := hI.q i q hq
     refine splitF_good hP hl n y _ r (k + 1) ⟨M.cp, hI.cr, fun s hs => far (hI.cr.canon.good s hs).m (hI.rp s hs t (by simp)), hI.rd, by rw [List.length_set]; exact hI.ql, fun j q' hq' => ?_, fun s hs => ?_, fun f => ?_⟩ (by have := M.k; have := hI.cr.len; omega) (by have := M.k; omega) h0
     ·by_cases hj : i = j
      ·subst hj
       rw [List.getElem?_set_self (List.getElem?_eq_some_iff.1 hq).1] at hq'
       injection hq' with hq'
       subst hq'
       refine ⟨canon_snoc Q0.canon M.good M.nz fun x hx => ?_, by rw [List.length_append, List.length_singleton]; exact M.q, fun x hx => ?_⟩
       ·obtain ⟨u', b', h1, h2, h3, _⟩ := Q0.each x hx
        rw [hi] at h1
        injection h1 with h1
        injection h1 with h1 h1'
        subst h1 h1'
        have h4 := h3 t (by simp)
        have xm := (Q0.canon.good x hx).m
        rw [← ee, addM_comm u.m, addM_comm u.m, monCmp_mul ho xm mm um (by rw [addM_comm]; exact h2 u (by simp)) (by rw [addM_comm, ee]; exact tm)] at h4
        exact h4
       ·rcases List.mem_append.1 hx with hx | hx
        ·obtain ⟨u', b', h1, h2, h3, h4⟩ := Q0.each x hx
         exact ⟨u', b', h1, h2, far (h2 u' (by simp)) (h3 t (by simp)), h4⟩
        ·simp only [List.mem_singleton] at hx
         subst hx
         obtain ⟨t0, ps0, g1, g2⟩ := hI.pl t (by simp)
         exact ⟨u, b, hi, M.fits, fun s hs => by rw [ee]; exact M.below s hs, t0, ps0, g1, by rw [ee]; exact g2⟩
      ·rw [List.getElem?_set_ne hj] at hq'
       have Q := hI.q j q' hq'
       exact ⟨Q.canon, Q.len, fun x hx => let ⟨u', b', h1, h2, h3, h4⟩ := Q.each x hx; ⟨u', b', h1, h2, far (h2 u' (by simp)) (h3 t (by simp)), h4⟩⟩
     ·obtain ⟨t0, ps0, g1, g2⟩ := hI.pl t (by simp)
      refine ⟨t0, ps0, g1, ?_⟩
      exact monCmp_ge ho (hP.canon.good t0 (by rw [g1]; simp)).m tm (M.cp.canon.good s hs).m g2 (Int.le_of_lt (M.below s hs))
     ·have h1 := hI.sum f
      have h2 := M.lin f
      rw [linQ_set f _ hi hq]
      dsimp only
      grind
theorem splitF_err {o : Int} {l : List (List TermD)} : ∀ (n : Nat) (p : List TermD) (qs : List (List TermD)) (r : List TermD) (k : Nat), (splitF o l n p qs r k).1 ≠ 0 → (splitF o l n p qs r k).2 = ([], [])
 | 0, _, _, _, _, _ => rfl
 | n + 1, [], qs, r, k, h => absurd rfl h
 | n + 1, t :: p, qs, r, k, h => by
   unfold splitF at h ⊢
   cases hd : dividesD l t.m with
   | none =>
     rw [hd] at h
     dsimp only at h ⊢
     split at h
     ·rename_i h1; rw [if_pos h1]
     ·rename_i h1
      rw [if_neg h1]
      exact splitF_err n _ _ _ _ h
   | some x =>
     rw [hd] at h
     dsimp only at h ⊢
     split at h
     ·rename_i h1; rw [if_pos h1]
     ·rename_i h1
      rw [if_neg h1]
      exact splitF_err n _ _ _ _ h
theorem splitD_err {o : Int} {p : List TermD} {l : List (List TermD)} (h : (splitD o p l).1 ≠ 0) : (splitD o p l).2 = ([], []) := by
 unfold splitD at h ⊢
 split at h
 ·rename_i h1; rw [if_pos h1]
 ·rename_i h1; rw [if_neg h1]; exact splitF_err _ _ _ _ _ h
theorem may_all {o : Int} {p : List TermD} {l : List (List TermD)} (hp : CP o p) (hl : ∀ b ∈ l, CP o b) (h : l.length ≤ 24) : ¬ (polMay o p && decide (l.length ≤ 24) && l.all (polMay o)) = false := by
 rw [hp.may, decide_eq_true h, List.all_eq_true.2 fun b hb => (hl b hb).may]
 simp
theorem splitD_F {o : Int} {p : List TermD} {l : List (List TermD)} (hp : CP o p) (hl : ∀ b ∈ l, CP o b) (h : l.length ≤ 24) : splitD o p l = splitF o l (400 * 61 + 61) p (List.replicate l.length []) [] 0 := if_neg (may_all hp hl h)
theorem splitD_good {o : Int} {p : List TermD} {l : List (List TermD)} (hp : CP o p) (hl : ∀ b ∈ l, CP o b) (h0 : (splitD o p l).1 = 0) : ∃ qs r, splitD o p l = (0, qs, r) ∧ DivI o l p [] qs r := by
 by_cases h : l.length ≤ 24
 ·rw [splitD_F hp hl h] at h0 ⊢
  exact splitF_good hp hl _ p _ [] 0 (DivI.start hp) (by simp) (by omega) h0
 ·unfold splitD at h0
  rw [if_pos (by rw [decide_eq_false h]; simp)] at h0
  cases h0
end Go.Proofs.YtjanagclahkfdaaGreat
