/- Parts of the proof, joined: what each says stands at its head. -/
import Derived.Test.YtjanagclahkfdaaGreatM40
import Derived.Test.YtjanagclahkfdaaGreatM24
set_option linter.unusedVariables false
set_option linter.unusedSimpArgs false
set_option maxHeartbeats 24000000
set_option maxRecDepth 100000
namespace Go.Proofs.YtjanagclahkfdaaGreat
structure CP (o : Int) (p : List TermD) : Prop where
 canon : Canon o p
 len : p.length ≤ 60
theorem CP.may {o : Int} {p : List TermD} (h : CP o p) : polMay o p = true := canon_may h.canon h.len
theorem CP.ord {o : Int} {p : List TermD} (h : CP o p) : oOk o := h.canon.sta.ord
theorem CP.nil {o : Int} (h : oOk o) : CP o [] := ⟨canon_nil h, by simp⟩
theorem Canon.tl {o : Int} {t : TermD} {p : List TermD} (h : Canon o (t :: p)) : Canon o p :=
 ⟨⟨h.sta.ord, fun s hs => h.sta.good s (by simp [hs]), (List.pairwise_cons.1 h.sta.fall).2⟩, h.good.tl, fun s hs => h.nz s (by simp [hs])⟩
theorem CP.tl {o : Int} {t : TermD} {p : List TermD} (h : CP o (t :: p)) : CP o p := ⟨h.canon.tl, by have := h.len; simp only [List.length_cons] at this; omega⟩
theorem CP.below {o : Int} {t : TermD} {p : List TermD} (h : CP o (t :: p)) : ∀ s ∈ p, 0 < monCmp o t.m s.m := (List.pairwise_cons.1 h.canon.sta.fall).1
theorem CP.ne {o : Int} {p : List TermD} (h : CP o p) {t : TermD} (ht : t ∈ p) : qv t.c ≠ 0 := (h.canon.good t ht).ne (h.canon.nz t ht)
theorem CP.eq {o : Int} {p q : List TermD} (h : CP o p) (h' : CP o q) (e : ∀ f, lin f p = lin f q) : p = q := canon_ext h.canon h'.canon e
theorem SmP.cp {o : Int} {p : List TermD} (h : SmP o p) : CP o p := ⟨h.pol.canon, h.pol.len⟩
theorem putD_code {o : Int} {al : List TermD} {t : TermD} (hg : GoodP al) (ht : GoodT t) : (putD o al t).1 = 0 ∨ (putD o al t).1 = 21 := by
 unfold putD
 by_cases hm : hasM al t.m = true
 ·rw [if_pos hm]
  obtain ⟨p, hp, em, ec⟩ := getM_of hm
  rw [ec]
  rcases addD_q (hg p hp).c ht.c with h1 | ⟨h1, _⟩
  ·rw [h1]; right; simp
  ·rw [h1]; left; simp
 ·rw [if_neg hm]; exact .inl rfl
theorem putAll_code {o : Int} : ∀ (ts al : List TermD), Sta o al → GoodP al → GoodP ts → (putAll o al ts).1 = 0 ∨ (putAll o al ts).1 = 21
 | [], _, _, _, _ => .inl rfl
 | t :: ts, al, h, hg, ht => by
   unfold putAll
   by_cases h1 : (putD o al t).1 = 0
   ·rw [if_neg (by simpa using h1)]
    exact putAll_code ts _ (h.putD ht.hd.m h1) (putD_ok h hg ht.hd h1).1 ht.tl
   ·rw [if_pos (by simpa using h1)]
    exact (putD_code hg ht.hd)
theorem anyOdd_good {ts : List TermD} (h : GoodP ts) : anyOdd ts = false := by
 unfold anyOdd
 rw [List.any_eq_false]
 intro t ht
 rw [(h t ht).right]
 simp
theorem polMake_code {o : Int} {ts : List TermD} (ho : oOk o) (hg : GoodP ts) : (polMake o ts).1 = 0 ∨ (polMake o ts).1 = 21 ∨ (polMake o ts).1 = 90 := by
 unfold polMake
 rw [anyOdd_good hg, ordered_ok.2 ho, if_neg (by simp)]
 split
 ·exact (putAll_code ts [] (.nil ho) .nil hg).imp id .inl
 ·split
  ·exact .inr (.inr rfl)
  ·exact .inl rfl
theorem flat_good {o : Int} : ∀ {ps : List (List TermD)}, (∀ p ∈ ps, CP o p) → GoodP ps.flatten
 | [], _ => .nil
 | p :: ps, h => by rw [List.flatten_cons]; exact (h p (by simp)).canon.good.app (flat_good fun q hq => h q (by simp [hq]))
theorem polAdd_make {o : Int} {ps : List (List TermD)} (h : ∀ p ∈ ps, CP o p) : polAdd o ps = polMake o ps.flatten := polAdd_int fun p hp => ⟨(h p hp).canon, (h p hp).len⟩
theorem polAdd_good {o : Int} {ps : List (List TermD)} (h : ∀ p ∈ ps, CP o p) (h0 : (polAdd o ps).1 = 0) : CP o (polAdd o ps).2 ∧ ∀ f, lin f (polAdd o ps).2 = lin f ps.flatten := by
 rw [polAdd_make h] at h0 ⊢
 obtain ⟨a1, a2, _, a4⟩ := polMake_ok (flat_good h).u h0
 exact ⟨⟨a1, a2⟩, a4⟩
theorem polAdd_code {o : Int} {ps : List (List TermD)} (ho : oOk o) (h : ∀ p ∈ ps, CP o p) : (polAdd o ps).1 = 0 ∨ (polAdd o ps).1 = 21 ∨ (polAdd o ps).1 = 90 := by
 rw [polAdd_make h]; exact polMake_code ho (flat_good h)
theorem nz_of {t : TermD} (h : GoodR t.c) (h0 : qv t.c ≠ 0) : nz t = true := by
 unfold nz
 rw [decide_eq_false fun e => h0 (h.nil_iff.1 e)]; rfl
theorem nz_len {t : TermD} (h : nz t = true) : ¬ t.c.num.length = 0 := by unfold nz at h; simpa using h
theorem monMul_of {a b : MonD} (ha : monMay a = true) (hb : monMay b = true) (h : monMay (addM a b) = true) : monMul a b = (0, addM a b) := by
 unfold monMul; rw [ha, hb, h]; rfl
theorem monMul_may {a b : MonD} (h : (monMul a b).1 = 0) : monMay (addM a b) = true := by
 unfold monMul at h
 split at h
 ·cases h
 ·split at h
  ·cases h
  ·rename_i h1; simpa using h1
structure TimesOk (s t : TermD) : Prop where
 good : GoodT (mulT s t)
 val : qv (mulT s t).c = qv s.c * qv t.c
 may : monMay (addM s.m t.m) = true
theorem timesOk {s t : TermD} (hs : GoodT s) (ht : GoodT t) (h1 : (mulD s.c t.c).1 = 0) (h2 : (monMul s.m t.m).1 = 0) : TimesOk s t := by
 have hm := monMul_may h2
 rcases mulD_q hs.c ht.c with e | ⟨e, hf⟩
 ·rw [e] at h1; cases h1
 ·exact ⟨⟨by show GoodR (mulD s.c t.c).2; rw [e]; exact ofQ_good hf, hm⟩, by show qv (mulD s.c t.c).2 = _; rw [e]; exact qv_ofQ _, hm⟩
theorem timesL_good {t : TermD} (ht : GoodT t) : ∀ {p : List TermD}, GoodP p → (timesL t p).1 = 0 → (timesL t p).2 = (p.map fun s => mulT s t) ∧ ∀ s ∈ p, TimesOk s t
 | [], _, _ => ⟨rfl, fun s h => by cases h⟩
 | s :: r, hp, h => by
   rw [timesL_cons] at h ⊢
   by_cases h1 : (mulD s.c t.c).1 = 0
   ·rw [if_neg (by simpa using h1)] at h ⊢
    by_cases h2 : (monMul s.m t.m).1 = 0
    ·rw [if_neg (by simpa using h2)] at h ⊢
     by_cases h3 : (timesL t r).1 = 0
     ·rw [if_neg (by simpa using h3)]
      obtain ⟨a1, a2⟩ := timesL_good ht hp.tl h3
      have hk := timesOk hp.hd ht h1 h2
      refine ⟨?_, fun x hx => ?_⟩
      ·rw [List.map_cons, a1, monMul_of hp.hd.m ht.m hk.may]; rfl
      ·rcases List.mem_cons.1 hx with rfl | hx
       ·exact hk
       ·exact a2 x hx
     ·rw [if_pos (by simpa using h3)] at h; exact absurd h h3
    ·rw [if_pos (by simpa using h2)] at h; exact absurd h h2
   ·rw [if_pos (by simpa using h1)] at h; exact absurd h h1
theorem timesL_code {t : TermD} (ht : GoodT t) : ∀ {p : List TermD}, GoodP p → Fits p t.m → (timesL t p).1 = 0 ∨ (timesL t p).1 = 21
 | [], _, _ => .inl rfl
 | s :: r, hp, hf => by
   rw [timesL_cons]
   by_cases h1 : (mulD s.c t.c).1 = 0
   ·rw [if_neg (by simpa using h1)]
    have e := monMul_of hp.hd.m ht.m (hf s (by simp))
    rw [if_neg (by rw [e]; simp)]
    by_cases h3 : (timesL t r).1 = 0
    ·rw [if_neg (by simpa using h3)]; exact .inl rfl
    ·rw [if_pos (by simpa using h3)]
     exact timesL_code ht hp.tl fun x hx => hf x (by simp [hx])
   ·rw [if_pos (by simpa using h1)]
    rcases mulD_q hp.hd.c ht.c with e | ⟨e, _⟩
    ·rw [e]; exact .inr rfl
    ·rw [e] at h1; exact absurd rfl h1
theorem lin_timesM (f : MonD → Rat) {t : TermD} : ∀ {p : List TermD}, (∀ s ∈ p, TimesOk s t) → lin f (p.map fun s => mulT s t) = qv t.c * lin (fun m => f (addM m t.m)) p
 | [], _ => by simp only [List.map_nil, lin]; grind
 | s :: p, h => by
   simp only [List.map_cons, lin]
   rw [lin_timesM f fun x hx => h x (by simp [hx]), (h s (by simp)).val]
   show qv s.c * qv t.c * f (addM s.m t.m) + _ = _
   grind
theorem canon_times {o : Int} {t : TermD} {p : List TermD} (hp : Canon o p) (ht : GoodT t) (hz : nz t = true) (h : ∀ s ∈ p, TimesOk s t) : Canon o (p.map fun s => mulT s t) := by
 have hmem : ∀ x ∈ p.map (fun s => mulT s t), ∃ s ∈ p, mulT s t = x := fun x hx => List.mem_map.1 hx
 refine ⟨⟨hp.sta.ord, fun x hx => ?_, ?_⟩, fun x hx => ?_, fun x hx => ?_⟩
 ·obtain ⟨s, hs, rfl⟩ := hmem x hx; exact (h s hs).good.m
 ·unfold Fall
  rw [List.pairwise_map]
  refine List.Pairwise.imp_of_mem ?_ hp.sta.fall
  intro a b ha hb hab
  show 0 < monCmp o (addM a.m t.m) (addM b.m t.m)
  rwa [monCmp_mul hp.sta.ord (hp.sta.good a ha) (hp.sta.good b hb) ht.m (h a ha).may (h b hb).may]
 ·obtain ⟨s, hs, rfl⟩ := hmem x hx; exact (h s hs).good
 ·obtain ⟨s, hs, rfl⟩ := hmem x hx
  refine nz_of (h s hs).good.c ?_
  rw [(h s hs).val]
  intro e
  rcases Rat.mul_eq_zero.1 e with e | e
  ·exact (hp.good s hs).ne (hp.nz s hs) e
  ·exact ht.ne hz e
theorem polTimes_timesL {o : Int} {t : TermD} {p : List TermD} (hp : CP o p) (ht : GoodT t) (hz : nz t = true) : polTimes o p t = timesL t p := by
 unfold polTimes
 rw [hp.may, ht.right, if_neg (by simp), if_neg (nz_len hz)]
theorem polTimes_good {o : Int} {t : TermD} {p : List TermD} (hp : CP o p) (ht : GoodT t) (hz : nz t = true) (h0 : (polTimes o p t).1 = 0) :
    CP o (polTimes o p t).2 ∧ (∀ f, lin f (polTimes o p t).2 = qv t.c * lin (fun m => f (addM m t.m)) p) ∧ Fits p t.m := by
 rw [polTimes_timesL hp ht hz] at h0 ⊢
 obtain ⟨a1, a2⟩ := timesL_good ht hp.canon.good h0
 rw [a1]
 exact ⟨⟨canon_times hp.canon ht hz a2, by rw [List.length_map]; exact hp.len⟩, fun f => lin_timesM f a2, fun s hs => (a2 s hs).may⟩
theorem polTimes_code {o : Int} {t : TermD} {p : List TermD} (hp : CP o p) (ht : GoodT t) (hz : nz t = true) (hf : Fits p t.m) : (polTimes o p t).1 = 0 ∨ (polTimes o p t).1 = 21 := by
 rw [polTimes_timesL hp ht hz]; exact timesL_code ht hp.canon.good hf
def linP (f : MonD → Rat) (p q : List TermD) : Rat := lin (fun m' => lin (fun m => f (addM m m')) p) q
theorem linP_snoc (f : MonD → Rat) (p q : List TermD) (t : TermD) : linP f p (q ++ [t]) = linP f p q + qv t.c * lin (fun m => f (addM m t.m)) p := by
 unfold linP
 rw [lin_app]
 simp only [lin]
 grind
theorem mulC_good {o : Int} {p : List TermD} (hp : CP o p) : ∀ {q : List TermD}, GoodP q → (∀ t ∈ q, nz t = true) → (mulC o p q).1 = 0 → (mulC o p q).2 = prods p q ∧ ∀ t ∈ q, ∀ s ∈ p, TimesOk s t
 | [], _, _, _ => ⟨rfl, fun s h => by cases h⟩
 | t :: q, hq, hz, h => by
   unfold mulC at h ⊢
   have hzt := hz t (by simp)
   rw [polTimes_timesL hp hq.hd hzt] at h ⊢
   by_cases h1 : (timesL t p).1 = 0
   ·rw [if_neg (by simpa using h1)] at h ⊢
    obtain ⟨a1, a2⟩ := timesL_good hq.hd hp.canon.good h1
    unfold appD at h ⊢
    by_cases h2 : (mulC o p q).1 = 0
    ·rw [if_neg (by simpa using h2)]
     obtain ⟨b1, b2⟩ := mulC_good hp hq.tl (fun x hx => hz x (by simp [hx])) h2
     refine ⟨?_, fun x hx => ?_⟩
     ·rw [a1, b1]; rfl
     ·rcases List.mem_cons.1 hx with rfl | hx
      ·exact a2
      ·exact b2 x hx
    ·rw [if_pos (by simpa using h2)] at h; exact absurd h h2
   ·rw [if_pos (by simpa using h1)] at h; exact absurd h h1
theorem mulC_code {o : Int} {p : List TermD} (hp : CP o p) : ∀ {q : List TermD}, GoodP q → (∀ t ∈ q, nz t = true) → (∀ t ∈ q, Fits p t.m) → (mulC o p q).1 = 0 ∨ (mulC o p q).1 = 21
 | [], _, _, _ => .inl rfl
 | t :: q, hq, hz, hf => by
   unfold mulC
   by_cases h1 : (polTimes o p t).1 = 0
   ·rw [if_neg (by simpa using h1)]
    unfold appD
    by_cases h2 : (mulC o p q).1 = 0
    ·rw [if_neg (by simpa using h2)]; exact .inl rfl
    ·rw [if_pos (by simpa using h2)]
     exact mulC_code hp hq.tl (fun x hx => hz x (by simp [hx])) fun x hx => hf x (by simp [hx])
   ·rw [if_pos (by simpa using h1)]
    exact polTimes_code hp hq.hd (hz t (by simp)) (hf t (by simp))
theorem lin_prodsM (f : MonD → Rat) {p : List TermD} : ∀ {q : List TermD}, (∀ t ∈ q, ∀ s ∈ p, TimesOk s t) → lin f (prods p q) = linP f p q
 | [], _ => rfl
 | t :: q, h => by
   show lin f ((p.map fun s => mulT s t) ++ prods p q) = _
   rw [lin_app, lin_prodsM f fun x hx => h x (by simp [hx]), lin_timesM f (h t (by simp))]
   rfl
theorem prods_good {p q : List TermD} (h : ∀ t ∈ q, ∀ s ∈ p, TimesOk s t) : GoodP (prods p q) := fun x hx => by
 unfold prods at hx
 obtain ⟨t, ht, hx⟩ := List.mem_flatMap.1 hx
 obtain ⟨s, hs, rfl⟩ := List.mem_map.1 hx
 exact (h t ht s hs).good
theorem polMul_good {o : Int} {p q : List TermD} (hp : CP o p) (hq : CP o q) (h0 : (polMul o p q).1 = 0) :
    CP o (polMul o p q).2 ∧ (∀ f, lin f (polMul o p q).2 = linP f p q) ∧ ∀ t ∈ q, Fits p t.m := by
 unfold polMul at h0 ⊢
 rw [hp.may, hq.may, if_neg (by simp)] at h0 ⊢
 by_cases h1 : (mulC o p q).1 = 0
 ·rw [if_neg (by simpa using h1)] at h0 ⊢
  obtain ⟨a1, a2⟩ := mulC_good hp hq.canon.good hq.canon.nz h1
  rw [a1] at h0 ⊢
  obtain ⟨b1, b2, _, b4⟩ := polMake_ok (prods_good a2).u h0
  exact ⟨⟨b1, b2⟩, fun f => (b4 f).trans (lin_prodsM f a2), fun t ht s hs => (a2 t ht s hs).may⟩
 ·rw [if_pos (by simpa using h1)] at h0; exact absurd h0 h1
theorem polMul_code {o : Int} {p q : List TermD} (hp : CP o p) (hq : CP o q) (hf : ∀ t ∈ q, Fits p t.m) : (polMul o p q).1 = 0 ∨ (polMul o p q).1 = 21 ∨ (polMul o p q).1 = 90 := by
 unfold polMul
 rw [hp.may, hq.may, if_neg (by simp)]
 by_cases h1 : (mulC o p q).1 = 0
 ·rw [if_neg (by simpa using h1)]
  obtain ⟨a1, a2⟩ := mulC_good hp hq.canon.good hq.canon.nz h1
  rw [a1]
  exact polMake_code hp.ord (prods_good a2)
 ·rw [if_pos (by simpa using h1)]
  exact (mulC_code hp hq.canon.good hq.canon.nz hf).imp id .inl
theorem monDiv_true {a b q : MonD} (h : monDiv a b = (true, q)) : monMay a = true ∧ monMay b = true ∧ monMay q = true ∧ addM b q = a := by
 unfold monDiv at h
 split at h
 ·cases h
 ·rename_i h1
  split at h
  ·cases h
  ·rename_i h2
   simp only [Prod.mk.injEq, true_and] at h
   subst h
   have h3 : monMay a = true ∧ monMay b = true := by simpa using h1
   refine ⟨h3.1, h3.2, by simpa using h2, ?_⟩
   obtain ⟨a0, a1, a2, a3⟩ := a
   unfold addM subM
   simp only [MonD.mk.injEq]
   omega
theorem monDiv_of {a b q : MonD} (ha : monMay a = true) (hb : monMay b = true) (hq : monMay q = true) (h : addM b q = a) : monDiv a b = (true, q) := by
 have e : subM a b = q := by
  subst h
  obtain ⟨q0, q1, q2, q3⟩ := q
  unfold addM subM
  simp only [MonD.mk.injEq]
  omega
 unfold monDiv
 rw [ha, hb, e, hq]; rfl
end Go.Proofs.YtjanagclahkfdaaGreat
