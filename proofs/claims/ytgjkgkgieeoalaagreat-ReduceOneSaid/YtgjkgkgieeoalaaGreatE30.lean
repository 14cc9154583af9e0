/- Parts of the proof, joined: each theorem says what it shows. -/
import Derived.Test.YtgjkgkgieeoalaaGreatE01
import Derived.Test.YtgjkgkgieeoalaaGreatE27
import Derived.Test.YtgjkgkgieeoalaaGreatE26
set_option linter.unusedVariables false
set_option linter.unusedSimpArgs false
set_option maxHeartbeats 24000000
set_option maxRecDepth 100000
namespace Go.Proofs.YtgjkgkgieeoalaaGreat
theorem dividesD_none : ∀ {l : List (List TermD)} {m : MonD}, dividesD l m = none → ∀ {i : Nat} {u : TermD} {b : List TermD}, l[i]? = some (u :: b) → (monDiv m u.m).1 = false
 | [], m, _, i, u, b, h => by simp at h
 | [] :: l, m, hn, i, u, b, h => by
   unfold dividesD at hn
   rw [Option.map_eq_none_iff] at hn
   cases i with
   | zero => simp at h
   | succ i => exact dividesD_none hn (by simpa using h)
 | (v :: c) :: l, m, hn, i, u, b, h => by
   unfold dividesD at hn
   split at hn
   ·cases hn
   ·rename_i h1
    rw [Option.map_eq_none_iff] at hn
    cases i with
    | zero =>
      simp only [List.getElem?_cons_zero, Option.some.injEq, List.cons.injEq] at h
      obtain ⟨rfl, _⟩ := h
      simpa using h1
    | succ i => exact dividesD_none hn (by simpa using h)
theorem dividesD_no : ∀ {l : List (List TermD)} {m : MonD}, (∀ u b, u :: b ∈ l → (monDiv m u.m).1 = false) → dividesD l m = none
 | [], _, _ => rfl
 | [] :: l, m, h => by
   unfold dividesD
   rw [dividesD_no fun u b hb => h u b (by simp [hb])]; rfl
 | (v :: c) :: l, m, h => by
   unfold dividesD
   rw [if_neg (by rw [h v c (by simp)]; simp), dividesD_no fun u b hb => h u b (by simp [hb])]; rfl
structure Moved (o : Int) (t u : TermD) (p b q y : List TermD) (k : Nat) (c : RatD) (m : MonD) : Prop where
 good : GoodT ⟨c, m⟩
 nz : nz ⟨c, m⟩ = true
 val : qv c * qv u.c = qv t.c
 k : k < 400
 q : q.length < 60
 cp : CP o y
 fits : Fits (u :: b) m
 lin : ∀ f, lin f y + qv c * lin (fun x => f (addM x m)) (u :: b) = lin f (t :: p)
 below : ∀ s ∈ y, 0 < monCmp o t.m s.m
theorem moveD_good {o : Int} {k : Nat} {p b q : List TermD} {t u : TermD} {m : MonD} (hp : CP o (t :: p)) (hb : CP o (u :: b)) (hd : monDiv t.m u.m = (true, m)) (h0 : (moveD o (t :: p) (u :: b) q k m).1 = 0) :
    ∃ c y, moveD o (t :: p) (u :: b) q k m = (0, y, q ++ [⟨c, m⟩]) ∧ Moved o t u p b q y k c m := by
 obtain ⟨tm, um, mm, e⟩ := monDiv_true hd
 have ho := hp.ord
 have gt := hp.canon.good t (by simp)
 have gu := hb.canon.good u (by simp)
 have hu0 := hb.ne (t := u) (by simp)
 have ht0 := hp.ne (t := t) (by simp)
 obtain ⟨i1, i2⟩ := invD_q gu.c (nz_len (hb.canon.nz u (by simp)))
 unfold moveD at h0 ⊢
 dsimp only at h0 ⊢
 rw [i1] at h0 ⊢
 dsimp only at h0 ⊢
 by_cases hk : 400 ≤ k
 ·rw [if_pos hk] at h0; cases h0
 rw [if_neg hk] at h0 ⊢
 have hm2 := mulD_q gt.c (ofQ_good i2)
 rw [qv_ofQ] at hm2
 rcases hm2 with e1 | ⟨e1, hf⟩
 ·rw [e1, if_pos (by simp)] at h0; cases h0
 rw [e1, if_neg (by simp)] at h0 ⊢
 by_cases hq : 60 ≤ q.length
 ·rw [if_pos hq] at h0; cases h0
 rw [if_neg hq] at h0 ⊢
 have gc : GoodR (ofQ (qv t.c * (qv u.c)⁻¹)) := ofQ_good hf
 have vc : qv (ofQ (qv t.c * (qv u.c)⁻¹)) * qv u.c = qv t.c := by rw [qv_ofQ, Rat.mul_assoc, Rat.inv_mul_cancel _ hu0, Rat.mul_one]
 dsimp only at h0 ⊢
 generalize ofQ (qv t.c * (qv u.c)⁻¹) = c at h0 gc vc ⊢
 have vc0 : qv c ≠ 0 := fun h => ht0 (by rw [← vc, h, Rat.zero_mul])
 obtain ⟨gn, vn⟩ := negD_q gc
 have gT : GoodT ⟨negD c, m⟩ := ⟨gn, mm⟩
 have zT : nz ⟨negD c, m⟩ = true := nz_of gn (by rw [vn]; intro h; exact vc0 (by grind))
 by_cases hx : (polTimes o (u :: b) ⟨negD c, m⟩).1 = 0
 case neg => rw [if_pos (by simpa using hx)] at h0; exact absurd h0 hx
 rw [if_neg (by simpa using hx)] at h0 ⊢
 obtain ⟨x1, x2, x3⟩ := polTimes_good hb gT zT hx
 generalize (polTimes o (u :: b) ⟨negD c, m⟩).2 = X at h0 x1 x2 ⊢
 by_cases hy : (polAdd o [t :: p, X]).1 = 0
 case neg => rw [if_pos (by simpa using hy)] at h0; exact absurd h0 hy
 rw [if_neg (by simpa using hy)]
 obtain ⟨y1, y2⟩ := polAdd_good (o := o) (ps := [t :: p, X]) (fun q hq => by simp at hq; rcases hq with rfl | rfl <;> first | exact hp | exact x1) hy
 generalize (polAdd o [t :: p, X]).2 = y at y1 y2 ⊢
 have HL : ∀ f, lin f y + qv c * lin (fun x => f (addM x m)) (u :: b) = lin f (t :: p) := fun f => by
  rw [y2 f, List.flatten_cons, List.flatten_cons, List.flatten_nil, List.append_nil, lin_app, x2 f]
  show _ + qv (negD c) * _ + _ = _
  rw [vn]
  grind
 refine ⟨c, y, rfl, ⟨gc, mm⟩, nz_of gc vc0, vc, by omega, by omega, y1, x3, HL, fun s hs => ?_⟩
 have sm := (y1.canon.good s hs).m
 have hl := lin_ind_mem y1.canon.sta.keys hs
 have hn := y1.ne hs
 have H := HL (ind s.m)
 rw [hl] at H
 have lo : ∀ x ∈ b, monCmp o (addM x.m m) t.m < 0 := fun x hx => by
  have := mulM_lt ho um (hb.canon.good x (by simp [hx])).m mm (by rw [e]; exact tm) (x3 x (by simp [hx])) (hb.below x hx)
  rwa [e] at this
 rcases Int.lt_trichotomy 0 (monCmp o t.m s.m) with h | h | h
 ·exact h
 ·have es : t.m = s.m := (monCmp_zero ho tm sm).1 h.symm
  refine absurd ?_ hn
  have a1 : lin (ind s.m) (t :: p) = qv t.c := by rw [← es]; exact lin_ind_mem hp.canon.sta.keys (by simp)
  have a2 : lin (fun x => ind s.m (addM x m)) (u :: b) = qv u.c := by
   simp only [lin]
   rw [lin_van (p := b) fun x hx => ?_, e, ← es]
   ·unfold ind; rw [if_pos rfl]; grind
   ·have := lo x hx
    unfold ind
    rw [if_neg]
    intro e2
    rw [e2, ← es, (monCmp_zero ho tm tm).2 rfl] at this
    omega
  rw [a1, a2] at H
  grind
 ·refine absurd ?_ hn
  have a1 : lin (ind s.m) (t :: p) = 0 := lin_ind_not fun x hx e2 => by
   rcases List.mem_cons.1 hx with rfl | hx
   ·rw [e2, (monCmp_zero ho sm sm).2 rfl] at h; omega
   ·have := hp.below x hx; rw [e2] at this; omega
  have a2 : lin (fun x => ind s.m (addM x m)) (u :: b) = 0 := lin_van fun x hx => by
   unfold ind
   rw [if_neg]
   intro e2
   rcases List.mem_cons.1 hx with rfl | hx
   ·rw [← e2, e, (monCmp_zero ho tm tm).2 rfl] at h; omega
   ·have h2 := lo x hx
    rw [e2] at h2
    have h3 := monCmp_anti ho tm sm
    omega
  rw [a1, a2] at H
  grind
def linQ (f : MonD → Rat) : List (List TermD) → List (List TermD) → Rat
 | b :: l, q :: qs => linP f b q + linQ f l qs
 | [], _ => 0
 | _ :: _, [] => 0
theorem linQ_set (f : MonD → Rat) : ∀ {l qs : List (List TermD)} {i : Nat} {b q : List TermD} (t : TermD), l[i]? = some b → qs[i]? = some q → linQ f l (qs.set i (q ++ [t])) = linQ f l qs + qv t.c * lin (fun m => f (addM m t.m)) b
 | [], _, _, _, _, _, h, _ => by simp at h
 | _ :: _, [], _, _, _, _, _, h => by simp at h
 | b :: l, q :: qs, 0, b', q', t, h, h' => by
   simp only [List.getElem?_cons_zero, Option.some.injEq] at h h'
   subst h h'
   simp only [List.set_cons_zero, linQ]
   rw [linP_snoc]
   grind
 | b :: l, q :: qs, i + 1, b', q', t, h, h' => by
   simp only [List.set_cons_succ, linQ]
   rw [linQ_set f t (by simpa using h) (by simpa using h')]
   grind
theorem linQ_nils (f : MonD → Rat) : ∀ l : List (List TermD), linQ f l (List.replicate l.length []) = 0
 | [] => rfl
 | b :: l => by
   rw [List.length_cons, List.replicate_succ]
   simp only [linQ]
   rw [linQ_nils f l]
   show 0 + 0 = (0 : Rat)
   grind
structure QOk (o : Int) (l : List (List TermD)) (P0 p : List TermD) (i : Nat) (q : List TermD) : Prop where
 canon : Canon o q
 len : q.length ≤ 60
 each : ∀ x ∈ q, ∃ u b, l[i]? = some (u :: b) ∧ Fits (u :: b) x.m ∧ (∀ t ∈ p, 0 < monCmp o (addM u.m x.m) t.m) ∧ ∃ t0 ps0, P0 = t0 :: ps0 ∧ 0 ≤ monCmp o t0.m (addM u.m x.m)
structure DivI (o : Int) (l : List (List TermD)) (P0 p : List TermD) (qs : List (List TermD)) (r : List TermD) : Prop where
 cp : CP o p
 cr : CP o r
 rp : ∀ s ∈ r, ∀ t ∈ p, 0 < monCmp o s.m t.m
 rd : ∀ s ∈ r, dividesD l s.m = none
 ql : qs.length = l.length
 q : ∀ i q, qs[i]? = some q → QOk o l P0 p i q
 pl : ∀ t ∈ p, ∃ t0 ps0, P0 = t0 :: ps0 ∧ 0 ≤ monCmp o t0.m t.m
 sum : ∀ f, lin f p + lin f r + linQ f l qs = lin f P0
theorem monCmp_ge {o : Int} {a b c : MonD} (ho : oOk o) (ha : monMay a = true) (hb : monMay b = true) (hc : monMay c = true) (h1 : 0 ≤ monCmp o a b) (h2 : 0 ≤ monCmp o b c) : 0 ≤ monCmp o a c := by
 have a1 := monCmp_anti ho ha hb
 have a2 := monCmp_anti ho hb hc
 have a3 := monCmp_anti ho ha hc
 have := monCmp_le ho hc hb ha (by omega) (by omega)
 omega
theorem DivI.start {o : Int} {l : List (List TermD)} {p : List TermD} (hp : CP o p) : DivI o l p p (List.replicate l.length []) [] := by
 refine ⟨hp, .nil hp.ord, fun s h => (by cases h), fun s h => (by cases h), by simp, fun i q h => ?_, fun t ht => ?_, fun f => ?_⟩
 ·obtain rfl : q = [] := List.eq_of_mem_replicate (List.mem_of_getElem? h)
  exact ⟨canon_nil hp.ord, by simp, fun x hx => by cases hx⟩
 ·cases p with
  | nil => cases ht
  | cons t0 ps0 =>
    refine ⟨t0, ps0, rfl, ?_⟩
    rcases List.mem_cons.1 ht with rfl | ht
    ·have m := (hp.canon.good t (by simp)).m
     exact Int.le_of_eq ((monCmp_zero hp.ord m m).2 rfl).symm
    ·exact Int.le_of_lt (hp.below t ht)
 ·rw [linQ_nils]
  simp only [lin]
  grind
theorem canon_snoc {o : Int} {q : List TermD} {x : TermD} (hq : Canon o q) (hx : GoodT x) (hz : nz x = true) (h : ∀ y ∈ q, 0 < monCmp o y.m x.m) : Canon o (q ++ [x]) := by
 refine ⟨⟨hq.sta.ord, fun y hy => ?_, ?_⟩, hq.good.app (GoodP.cons hx .nil), fun y hy => ?_⟩
 ·rcases List.mem_append.1 hy with hy | hy
  ·exact hq.sta.good y hy
  ·simp only [List.mem_singleton] at hy; subst hy; exact hx.m
 ·unfold Fall
  rw [List.pairwise_append]
  exact ⟨hq.sta.fall, List.pairwise_singleton _ _, fun a ha b hb => by simp only [List.mem_singleton] at hb; subst hb; exact h a ha⟩
 ·rcases List.mem_append.1 hy with hy | hy
  ·exact hq.nz y hy
  ·simp only [List.mem_singleton] at hy; subst hy; exact hz
theorem splitF_good {o : Int} {l : List (List TermD)} {P0 : List TermD} (hP : CP o P0) (hl : ∀ b ∈ l, CP o b) : ∀ (n : Nat) (p : List TermD) (qs : List (List TermD)) (r : List TermD) (k : Nat), DivI o l P0 p qs r → 460 - k - r.length < n → k ≤ 400 → (splitF o l n p qs r k).1 = 0 →
    ∃ qs' r', splitF o l n p qs r k = (0, qs', r') ∧ DivI o l P0 [] qs' r'
 | 0, _, _, _, _, _, h, _, _ => by omega
 | n + 1, [], qs, r, k, hI, _, _, _ => ⟨qs, r, rfl, hI⟩
 | n + 1, t :: p, qs, r, k, hI, hn, hk, h0 => by
   have ho := hI.cp.ord
   have tm := (hI.cp.canon.good t (by simp)).m
   unfold splitF at h0 ⊢
   cases hd : dividesD l t.m with
   | none =>
     rw [hd] at h0
     dsimp only at h0 ⊢
     by_cases hr : 60 ≤ r.length
     ·rw [if_pos hr] at h0; cases h0
     rw [if_neg hr] at h0 ⊢
     refine splitF_good hP hl n p qs (r ++ [t]) k ⟨hI.cp.tl, ⟨canon_snoc hI.cr.canon (hI.cp.canon.good t (by simp)) (hI.cp.canon.nz t (by simp)) fun y hy => hI.rp y hy t (by simp), by simp; omega⟩, fun s hs u hu => ?_, fun s hs => ?_, hI.ql, fun i q hq => ?_, fun s hs => hI.pl s (by simp [hs]), fun f => ?_⟩ (by simp; omega) hk h0
     ·rcases List.mem_append.1 hs with hs | hs
      ·exact hI.rp s hs u (by simp [hu])
      ·simp only [List.mem_singleton] at hs; subst hs; exact hI.cp.below u hu
     ·rcases List.mem_append.1 hs with hs | hs
      ·exact hI.rd s hs
      ·simp only [List.mem_singleton] at hs; subst hs; exact hd
     ·have := hI.q i q hq
      exact ⟨this.canon, this.len, fun x hx => let ⟨u, b, h1, h2, h3, h4⟩ := this.each x hx; ⟨u, b, h1, h2, fun s hs => h3 s (by simp [hs]), h4⟩⟩
     ·have := hI.sum f
      rw [lin_app]
      simp only [lin] at this ⊢
      grind
   | some x =>
     obtain ⟨i, m⟩ := x
     rw [hd] at h0
     dsimp only at h0 ⊢
     obtain ⟨u, b, hi, hm⟩ := dividesD_lt hd
     obtain ⟨q, hq⟩ : ∃ q, qs[i]? = some q := ⟨_, ai (by rw [hI.ql]; exact (List.getElem?_eq_some_iff.1 hi).1)⟩
     have e1 : l.getD i [] = u :: b := by rw [List.getD_eq_getElem?_getD, hi]; rfl
     have e2 : qs.getD i [] = q := by rw [List.getD_eq_getElem?_getD, hq]; rfl
     rw [e1, e2] at h0 ⊢
     by_cases hmv : (moveD o (t :: p) (u :: b) q k m).1 = 0
     case neg => rw [if_pos (by simpa using hmv)] at h0; exact absurd h0 hmv
     rw [if_neg (by simpa using hmv)] at h0 ⊢
     obtain ⟨c, y, e3, M⟩ := moveD_good hI.cp (hl _ (List.mem_of_getElem? hi)) hm hmv
     rw [e3] at h0 ⊢
     dsimp only at h0 ⊢
     obtain ⟨_, um, mm, ee⟩ := monDiv_true hm
     have far : ∀ {a : MonD}, monMay a = true → 0 < monCmp o a t.m → ∀ s ∈ y, 0 < monCmp o a s.m := fun ha h s hs => monCmp_gt ho ha tm (M.cp.canon.good s hs).m h (M.below s hs)
     have Q0 := hI.q i q hq
     refine splitF_good hP hl n y _ r (k + 1) ⟨M.cp, hI.cr, fun s hs => far (hI.cr.canon.good s hs).m (hI.rp s hs t (by simp)), hI.rd, by rw [List.length_set]; exact hI.ql, fun j q' hq' => ?_, fun s hs => ?_, fun f => ?_⟩ (by have := M.k; have := hI.cr.len; omega) (by have := M.k; omega) h0
     ·by_cases hj : i = j
      ·subst hj
       rw [List.getElem?_set_self (List.getElem?_eq_some_iff.1 hq).1] at hq'
       injection hq' with hq'
       subst hq'
       refine ⟨canon_snoc Q0.canon M.good M.nz fun x hx => ?_, by rw [List.length_append, List.length_singleton]; exact M.q, fun x hx => ?_⟩
       ·obtain ⟨u', b', h1, h2, h3, _⟩ := Q0.each x hx
        rw [hi] at h1
        injection h1 with h1
        injection h1 with h1 h1'
        subst h1 h1'
        have h4 := h3 t (by simp)
        have xm := (Q0.canon.good x hx).m
        rw [← ee, addM_comm u.m, addM_comm u.m, monCmp_mul ho xm mm um (by rw [addM_comm]; exact h2 u (by simp)) (by rw [addM_comm, ee]; exact tm)] at h4
        exact h4
       ·rcases List.mem_append.1 hx with hx | hx
        ·obtain ⟨u', b', h1, h2, h3, h4⟩ := Q0.each x hx
         exact ⟨u', b', h1, h2, far (h2 u' (by simp)) (h3 t (by simp)), h4⟩
        ·simp only [List.mem_singleton] at hx
         subst hx
         obtain ⟨t0, ps0, g1, g2⟩ := hI.pl t (by simp)
         exact ⟨u, b, hi, M.fits, fun s hs => by rw [ee]; exact M.below s hs, t0, ps0, g1, by rw [ee]; exact g2⟩
      ·rw [List.getElem?_set_ne hj] at hq'
       have Q := hI.q j q' hq'
       exact ⟨Q.canon, Q.len, fun x hx => let ⟨u', b', h1, h2, h3, h4⟩ := Q.each x hx; ⟨u', b', h1, h2, far (h2 u' (by simp)) (h3 t (by simp)), h4⟩⟩
     ·obtain ⟨t0, ps0, g1, g2⟩ := hI.pl t (by simp)
      refine ⟨t0, ps0, g1, ?_⟩
      exact monCmp_ge ho (hP.canon.good t0 (by rw [g1]; simp)).m tm (M.cp.canon.good s hs).m g2 (Int.le_of_lt (M.below s hs))
     ·have h1 := hI.sum f
      have h2 := M.lin f
      rw [linQ_set f _ hi hq]
      dsimp only
      grind
theorem may_all {o : Int} {p : List TermD} {l : List (List TermD)} (hp : CP o p) (hl : ∀ b ∈ l, CP o b) (h : l.length ≤ 24) : ¬ (polMay o p && decide (l.length ≤ 24) && l.all (polMay o)) = false := by
 rw [hp.may, decide_eq_true h, List.all_eq_true.2 fun b hb => (hl b hb).may]
 simp
theorem splitD_F {o : Int} {p : List TermD} {l : List (List TermD)} (hp : CP o p) (hl : ∀ b ∈ l, CP o b) (h : l.length ≤ 24) : splitD o p l = splitF o l (400 * 61 + 61) p (List.replicate l.length []) [] 0 := if_neg (may_all hp hl h)
theorem splitD_good {o : Int} {p : List TermD} {l : List (List TermD)} (hp : CP o p) (hl : ∀ b ∈ l, CP o b) (h0 : (splitD o p l).1 = 0) : ∃ qs r, splitD o p l = (0, qs, r) ∧ DivI o l p [] qs r := by
 by_cases h : l.length ≤ 24
 ·rw [splitD_F hp hl h] at h0 ⊢
  exact splitF_good hp hl _ p _ [] 0 (DivI.start hp) (by simp) (by omega) h0
 ·unfold splitD at h0
  rw [if_pos (by rw [decide_eq_false h]; simp)] at h0
  cases h0
theorem rest_again {o : Int} {l : List (List TermD)} : ∀ (n : Nat) (p : List TermD) (qs : List (List TermD)) (r : List TermD) (k : Nat), (∀ t ∈ p, dividesD l t.m = none) → r.length + p.length ≤ 60 → p.length < n → splitF o l n p qs r k = (0, qs, r ++ p)
 | 0, _, _, _, _, _, _, h => by omega
 | n + 1, [], qs, r, k, _, _, _ => by simp [splitF]
 | n + 1, t :: p, qs, r, k, h, hl, hn => by
   simp only [List.length_cons] at hl hn
   unfold splitF
   rw [h t (by simp)]
   dsimp only
   rw [if_neg (by omega), rest_again n p qs (r ++ [t]) k (fun s hs => h s (by simp [hs])) (by simp; omega) (by omega)]
   simp
theorem splitD_rest {o : Int} {p : List TermD} {l : List (List TermD)} (hp : CP o p) (hl : ∀ b ∈ l, CP o b) (h24 : l.length ≤ 24) (h : ∀ t ∈ p, dividesD l t.m = none) : splitD o p l = (0, List.replicate l.length [], p) := by
 rw [splitD_F hp hl h24, rest_again _ p _ [] 0 h (by have := hp.len; simp; omega) (by have := hp.len; omega)]
 simp
theorem SmP.tl {o : Int} {t : TermD} {p : List TermD} (h : SmP o (t :: p)) : SmP o p := by
 obtain ⟨⟨hi, hc, hl⟩, low, h10⟩ := h
 simp only [List.length_cons] at hl h10
 refine ⟨⟨⟨hi.int.tl, fun s hs => hi.good s (by simp [hs]), ?_⟩, hc.tl, by omega⟩, fun s hs => low s (by simp [hs]), by omega⟩
 have := hi.mass
 unfold mass at this
 omega
def hdT : List TermD → TermD
 | [] => ⟨zeroD, zeroM⟩
 | t :: _ => t
def hdM (p : List TermD) : MonD := (hdT p).m
def dvd (p q : List TermD) : Bool := (monDiv (hdM q) (hdM p)).1
def basisD (o : Int) (l : List (List TermD)) : Bool := polMay o [] && decide (l.length ≤ 24) && l.all (polMay o)
def fullD (l : List (List TermD)) : List (List TermD) := l.filter fun p => !decide (p.length = 0)
def monicsD (o : Int) : List (List TermD) → Int × List (List TermD)
 | [] => (0, [])
 | p :: l => if (polMonic o p).1 ≠ 0 then ((polMonic o p).1, []) else if (monicsD o l).1 ≠ 0 then ((monicsD o l).1, []) else (0, (polMonic o p).2 :: (monicsD o l).2)
def goesD (kept rest : List (List TermD)) (p : List TermD) : Bool := kept.any (fun q => dvd q p) || rest.any fun q => dvd q p && !decide (hdM q = hdM p)
def interD : List (List TermD) → List (List TermD) → List (List TermD)
 | kept, [] => kept
 | kept, p :: rest => if goesD kept rest p = true then interD kept rest else interD (kept ++ [p]) rest
def restsD (o : Int) : List (List TermD) → List (List TermD) → Int × List (List TermD)
 | done, [] => (0, done)
 | done, p :: todo => if (splitD o p (done ++ todo)).1 ≠ 0 then ((splitD o p (done ++ todo)).1, []) else restsD o (done ++ [(splitD o p (done ++ todo)).2.2]) todo
def redD (o : Int) (l : List (List TermD)) : Int × List (List TermD) :=
 if basisD o l = false then (1, []) else if (monicsD o (fullD l)).1 ≠ 0 then ((monicsD o (fullD l)).1, []) else restsD o [] (interD [] (monicsD o (fullD l)).2)
def Srt (o : Int) (l : List (List TermD)) : Prop := l.Pairwise fun p q => 0 ≤ monCmp o (hdM p) (hdM q)
def RedIs (o : Int) (l : List (List TermD)) (e : Int) (R : List (List TermD)) : Prop := e = (redD o l).1 ∧ (e ≠ 0 → R = []) ∧ (e = 0 → R.Perm (redD o l).2 ∧ Srt o R)
structure Pz (o : Int) (p : List TermD) : Prop where
 cp : CP o p
 ne : p ≠ []
theorem Pz.may {o : Int} {p : List TermD} (h : Pz o p) : monMay (hdM p) = true := by
 obtain ⟨h1, h2⟩ := h
 cases p with
 | nil => exact absurd rfl h2
 | cons t p => exact h1.canon.sta.good t (by simp)
theorem Pz.mem {o : Int} {p : List TermD} (h : Pz o p) : hdT p ∈ p := by
 cases p with
 | nil => exact absurd rfl h.ne
 | cons t p => simp [hdT]
theorem dvd_self {m : MonD} (h : monMay m = true) : (monDiv m m).1 = true := by
 rw [monDiv_of h h (q := zeroM) (by decide) (by obtain ⟨a, b, c, d⟩ := m; unfold addM zeroM; simp)]
def Rl (a b : List TermD) : Prop := dvd a b = false ∧ (dvd b a = true → hdM b = hdM a)
theorem inter_rl : ∀ (rest kept : List (List TermD)), kept.Pairwise Rl → (∀ a ∈ kept, ∀ b ∈ rest, dvd b a = true → hdM b = hdM a) → (interD kept rest).Pairwise Rl
 | [], kept, h, _ => h
 | p :: rest, kept, h, h2 => by
   unfold interD
   split
   ·exact inter_rl rest kept h fun a ha b hb => h2 a ha b (by simp [hb])
   ·rename_i hg
    have hg : goesD kept rest p = false := by simpa using hg
    unfold goesD at hg
    rw [Bool.or_eq_false_iff, List.any_eq_false, List.any_eq_false] at hg
    obtain ⟨g1, g2⟩ := hg
    refine inter_rl rest _ ?_ fun a ha b hb hd => ?_
    ·rw [List.pairwise_append]
     refine ⟨h, by simp, fun a ha b hb => ?_⟩
     simp only [List.mem_singleton] at hb
     subst hb
     exact ⟨by simpa using g1 a ha, fun hd => h2 a ha _ (by simp) hd⟩
    ·rcases List.mem_append.1 ha with ha | ha
     ·exact h2 a ha b (by simp [hb]) hd
     ·simp only [List.mem_singleton] at ha
      subst ha
      have := g2 b hb
      rw [hd] at this
      simpa using this
theorem inter_sub : ∀ (rest kept : List (List TermD)), (interD kept rest).Sublist (kept ++ rest)
 | [], kept => by simp [interD]
 | p :: rest, kept => by
   unfold interD
   split
   ·exact (inter_sub rest kept).trans (by simp)
   ·have := inter_sub rest (kept ++ [p])
    simpa using this
def Nd (l : List (List TermD)) : Prop := l.Pairwise fun a b => dvd a b = false ∧ dvd b a = false
theorem inter_nd {o : Int} {l : List (List TermD)} (h : ∀ p ∈ l, Pz o p) : Nd (interD [] l) ∧ ∀ p ∈ interD [] l, p ∈ l := by
 have hs := inter_sub l []
 rw [List.nil_append] at hs
 have hm : ∀ p ∈ interD [] l, p ∈ l := fun p hp => hs.subset hp
 refine ⟨?_, hm⟩
 have h1 := inter_rl l [] .nil fun a ha => by cases ha
 refine List.Pairwise.imp_of_mem ?_ h1
 intro a b ha hb hr
 refine ⟨hr.1, ?_⟩
 cases hd : dvd b a with
 | false => rfl
 | true =>
   have e := hr.2 hd
   have h2 := hr.1
   unfold dvd at h2
   rw [e, dvd_self (h a (hm a ha)).may] at h2
   cases h2
theorem moveD_k {o : Int} {k : Nat} {p b q : List TermD} {t u : TermD} {m : MonD} (h0 : (moveD o (t :: p) (u :: b) q k m).1 = 0) : k < 400 := by
 refine Nat.not_le.1 fun h => ?_
 unfold moveD at h0
 dsimp only at h0
 rw [if_pos h] at h0
 cases h0
theorem splitF_pre {o : Int} {l : List (List TermD)} : ∀ (n : Nat) (p : List TermD) (qs : List (List TermD)) (r : List TermD) (k : Nat), 460 - k - r.length < n → k ≤ 400 → r.length ≤ 60 → (splitF o l n p qs r k).1 = 0 → ∃ r', (splitF o l n p qs r k).2.2 = r ++ r'
 | 0, _, _, _, _, h, _, _, _ => by omega
 | n + 1, [], qs, r, k, _, _, _, _ => ⟨[], by simp [splitF]⟩
 | n + 1, t :: p, qs, r, k, hn, hk, hr, h0 => by
   unfold splitF at h0 ⊢
   cases hd : dividesD l t.m with
   | none =>
     rw [hd] at h0
     dsimp only at h0 ⊢
     by_cases hr2 : 60 ≤ r.length
     ·rw [if_pos hr2] at h0; cases h0
     rw [if_neg hr2] at h0 ⊢
     obtain ⟨r', e⟩ := splitF_pre n p qs (r ++ [t]) k (by simp; omega) hk (by simp; omega) h0
     exact ⟨t :: r', by rw [e]; simp⟩
   | some x =>
     obtain ⟨i, m⟩ := x
     rw [hd] at h0
     dsimp only at h0 ⊢
     obtain ⟨u, b, hi, hm⟩ := dividesD_lt hd
     have e1 : l.getD i [] = u :: b := by rw [List.getD_eq_getElem?_getD, hi]; rfl
     rw [e1] at h0 ⊢
     by_cases hmv : (moveD o (t :: p) (u :: b) (qs.getD i []) k m).1 = 0
     case neg => rw [if_pos (by simpa using hmv)] at h0; exact absurd h0 hmv
     rw [if_neg (by simpa using hmv)] at h0 ⊢
     have := moveD_k hmv
     exact splitF_pre n _ _ r (k + 1) (by omega) (by omega) hr h0
theorem rest_head {o : Int} {p : List TermD} {l : List (List TermD)} (hp : Pz o p) (hl : ∀ b ∈ l, Pz o b) (hd : ∀ b ∈ l, dvd b p = false) (h0 : (splitD o p l).1 = 0) :
    Pz o (splitD o p l).2.2 ∧ hdT (splitD o p l).2.2 = hdT p ∧ ∀ s ∈ (splitD o p l).2.2, ∀ b ∈ l, (monDiv s.m (hdM b)).1 = false := by
 have hc : ∀ b ∈ l, CP o b := fun b hb => (hl b hb).cp
 obtain ⟨qs, r, e, D⟩ := splitD_good hp.cp hc h0
 have hpre : ∃ r', r = hdT p :: r' := by
  have hne := hp.ne
  cases p with
  | nil => exact absurd rfl hne
  | cons t p =>
    by_cases h24 : l.length ≤ 24
    case neg =>
     unfold splitD at e
     rw [if_pos (by rw [decide_eq_false h24]; simp)] at e
     cases e
    rw [splitD_F hp.cp hc h24] at e h0
    have hn : dividesD l t.m = none := dividesD_no fun u b hb => by
     have h1 := hd (u :: b) hb
     unfold dvd at h1
     exact h1
    obtain ⟨n, hN⟩ : ∃ n, 400 * 61 + 61 = n + 1 := ⟨400 * 61 + 60, rfl⟩
    have hN2 : 1000 < n := by omega
    rw [hN] at e h0
    clear hN
    unfold splitF at e h0
    rw [hn] at e h0
    dsimp only at e h0
    rw [if_neg (by simp)] at e h0
    obtain ⟨r', e'⟩ := splitF_pre n p _ ([] ++ [t]) 0 (by simp; omega) (by omega) (by simp) h0
    rw [e] at e'
    exact ⟨r', by simpa [hdT] using e'⟩
 obtain ⟨r', er⟩ := hpre
 rw [e]
 dsimp only
 refine ⟨⟨D.cr, by rw [er]; simp⟩, by rw [er]; rfl, fun s hs b hb => ?_⟩
 have hne := (hl b hb).ne
 obtain ⟨i, hi, rfl⟩ := List.getElem_of_mem hb
 cases e2 : l[i] with
 | nil => exact absurd e2 hne
 | cons u b => exact dividesD_none (D.rd s hs) (show l[i]? = some (u :: b) by rw [ai hi, e2])
theorem Nd.out {a b : List (List TermD)} {p : List TermD} (h : Nd (a ++ p :: b)) : ∀ q ∈ a ++ b, dvd q p = false ∧ dvd p q = false := by
 unfold Nd at h
 rw [List.pairwise_append] at h
 obtain ⟨_, h2, h3⟩ := h
 intro q hq
 rcases List.mem_append.1 hq with hq | hq
 ·exact h3 q hq p (by simp)
 ·exact ((List.pairwise_cons.1 h2).1 q hq).symm
theorem Nd.heads {l l' : List (List TermD)} (h : Nd l) (e : l'.map hdT = l.map hdT) : Nd l' := by
 have key : ∀ x : List (List TermD), Nd x ↔ (x.map hdT).Pairwise fun s t => (monDiv t.m s.m).1 = false ∧ (monDiv s.m t.m).1 = false := fun x => by
  rw [List.pairwise_map]; rfl
 rw [key, e, ← key]; exact h
def Rby (H : List MonD) (r : List TermD) : Prop := ∀ s ∈ r, ∀ h ∈ H, h ≠ hdM r → (monDiv s.m h).1 = false
theorem rests_ok {o : Int} : ∀ (todo done : List (List TermD)), (∀ p ∈ done ++ todo, Pz o p) → Nd (done ++ todo) → (∀ r ∈ done, Rby ((done ++ todo).map hdM) r) → (restsD o done todo).1 = 0 →
    (restsD o done todo).2.map hdT = (done ++ todo).map hdT ∧ (∀ r ∈ (restsD o done todo).2, Pz o r ∧ Rby ((done ++ todo).map hdM) r)
 | [], done, h, _, hr, _ => by
   rw [List.append_nil] at *
   exact ⟨rfl, fun r hm => ⟨h r hm, hr r hm⟩⟩
 | p :: todo, done, h, hn, hr, h0 => by
   have hp := h p (by simp)
   have hl : ∀ b ∈ done ++ todo, Pz o b := fun b hb => h b (by simp only [List.mem_append, List.mem_cons] at hb ⊢; rcases hb with hb | hb <;> simp [hb])
   unfold restsD at h0 ⊢
   by_cases hs : (splitD o p (done ++ todo)).1 = 0
   case neg => rw [if_pos (by simpa using hs)] at h0; exact absurd h0 hs
   rw [if_neg (by simpa using hs)] at h0 ⊢
   obtain ⟨a1, a2, a3⟩ := rest_head hp hl (fun b hb => (hn.out b hb).1) hs
   generalize (splitD o p (done ++ todo)).2.2 = r at a1 a2 a3 h0 ⊢
   have em : (done ++ [r] ++ todo).map hdT = (done ++ p :: todo).map hdT := by simp [a2]
   have em2 : (done ++ [r] ++ todo).map hdM = (done ++ p :: todo).map hdM := by simp [hdM, a2]
   have ih := rests_ok (o := o) todo (done ++ [r]) (fun q hq => ?_) (hn.heads em) (fun q hq => ?_) h0
   ·rw [em, em2] at ih
    exact ih
   ·simp only [List.mem_append, List.mem_singleton] at hq
    rcases hq with (hq | hq) | hq
    ·exact h q (by simp [hq])
    ·rw [hq]; exact a1
    ·exact h q (by simp [hq])
   ·rw [em2]
    simp only [List.mem_append, List.mem_singleton] at hq
    rcases hq with hq | hq
    ·exact hr q hq
    ·subst hq
     intro s hs h hh hne
     obtain ⟨x, hx, rfl⟩ := List.mem_map.1 hh
     have hx2 : x = p ∨ x ∈ done ++ todo := by
      simp only [List.mem_append, List.mem_cons] at hx ⊢
      rcases hx with hx | rfl | hx
      ·exact .inr (.inl hx)
      ·exact .inl rfl
      ·exact .inr (.inr hx)
     rcases hx2 with rfl | hx2
     ·exact absurd (by show (hdT x).m = (hdT q).m; rw [a2]) hne
     ·exact a3 s hs x hx2
theorem good_one : GoodR (ofD 1) := ofD_good (by decide)
structure Mz (o : Int) (p : List TermD) : Prop where
 pz : Pz o p
 one : (hdT p).c = ofD 1
theorem monic_ok {o : Int} {p : List TermD} (h : Pz o p) (h0 : (polMonic o p).1 = 0) : Mz o (polMonic o p).2 ∧ hdM (polMonic o p).2 = hdM p := by
 obtain ⟨hc, hne⟩ := h
 cases p with
 | nil => exact absurd rfl hne
 | cons t p =>
   have gt := hc.canon.good t (by simp)
   have tz := nz_len (hc.canon.nz t (by simp))
   have tq := hc.ne (t := t) (by simp)
   obtain ⟨i1, i2⟩ := invD_q gt.c tz
   have gi : GoodR (invD t.c).2 := by rw [i1]; exact ofQ_good i2
   have vi : qv (invD t.c).2 = (qv t.c)⁻¹ := by rw [i1]; exact qv_ofQ _
   have ine : qv (invD t.c).2 ≠ 0 := by
    rw [vi]
    intro h
    have := Rat.mul_inv_cancel _ tq
    rw [h, Rat.mul_zero] at this
    exact absurd this (by decide)
   have e : polMonic o (t :: p) = polTimes o (t :: p) ⟨(invD t.c).2, zeroM⟩ := by
    unfold polMonic
    rw [hc.may, if_neg (by simp)]
    simp only
    rw [if_neg (by rw [i1]; simp)]
   have zi : nz ⟨(invD t.c).2, zeroM⟩ = true := nz_of gi ine
   have gT : GoodT ⟨(invD t.c).2, zeroM⟩ := ⟨gi, monMay_zero⟩
   rw [e] at h0 ⊢
   obtain ⟨c1, _, _⟩ := polTimes_good hc gT zi h0
   rw [polTimes_timesL hc gT zi] at h0 c1 ⊢
   obtain ⟨a1, a2⟩ := timesL_good gT hc.canon.good h0
   rw [a1] at c1 ⊢
   have tk := a2 t (by simp)
   refine ⟨⟨⟨c1, by simp⟩, ?_⟩, ?_⟩
   ·show (mulT t ⟨(invD t.c).2, zeroM⟩).c = ofD 1
    refine tk.good.c.inj good_one ?_
    rw [tk.val, qv_ofD]
    show qv t.c * qv (invD t.c).2 = _
    rw [vi, Rat.mul_inv_cancel _ tq]; rfl
   ·exact mulT_zm t _
theorem monics_ok {o : Int} : ∀ {l : List (List TermD)}, (∀ p ∈ l, Pz o p) → (monicsD o l).1 = 0 → (∀ q ∈ (monicsD o l).2, Mz o q) ∧ (monicsD o l).2.map hdM = l.map hdM
 | [], _, _ => ⟨fun q h => (by cases h), rfl⟩
 | p :: l, h, h0 => by
   unfold monicsD at h0 ⊢
   by_cases h1 : (polMonic o p).1 = 0
   case neg => rw [if_pos (by simpa using h1)] at h0; exact absurd h0 h1
   rw [if_neg (by simpa using h1)] at h0 ⊢
   by_cases h2 : (monicsD o l).1 = 0
   case neg => rw [if_pos (by simpa using h2)] at h0; exact absurd h0 h2
   rw [if_neg (by simpa using h2)]
   obtain ⟨a1, a2⟩ := monic_ok (h p (by simp)) h1
   obtain ⟨b1, b2⟩ := monics_ok (fun q hq => h q (by simp [hq])) h2
   refine ⟨fun q hq => ?_, ?_⟩
   ·rcases List.mem_cons.1 hq with rfl | hq
    ·exact a1
    ·exact b1 q hq
   ·rw [List.map_cons, List.map_cons, a2, b2]
theorem basis_len {o : Int} {l : List (List TermD)} (h : ¬ basisD o l = false) : l.length ≤ 24 := by
 unfold basisD at h
 simp only [Bool.not_eq_false, Bool.and_eq_true, decide_eq_true_eq] at h
 exact h.1.2
theorem basis_of {o : Int} (ho : oOk o) {l : List (List TermD)} (h : ∀ p ∈ l, CP o p) (hl : l.length ≤ 24) : ¬ basisD o l = false := by
 unfold basisD
 rw [(CP.nil ho).may, decide_eq_true hl, List.all_eq_true.2 fun p hp => (h p hp).may]
 simp
structure Form (o : Int) (l : List (List TermD)) : Prop where
 mz : ∀ p ∈ l, Mz o p
 nd : Nd l
 rby : ∀ r ∈ l, Rby (l.map hdM) r
theorem heads_M {l l' : List (List TermD)} (e : l.map hdT = l'.map hdT) : l.map hdM = l'.map hdM := by
 have := congrArg (List.map TermD.m) e
 rw [List.map_map, List.map_map] at this
 exact this
theorem full_pz {o : Int} {l : List (List TermD)} (h : ∀ p ∈ l, CP o p) : ∀ p ∈ fullD l, Pz o p := fun p hp => by
 unfold fullD at hp
 obtain ⟨h1, h2⟩ := List.mem_filter.1 hp
 exact ⟨h p h1, fun e => by rw [e] at h2; simp at h2⟩
theorem red_form {o : Int} {l : List (List TermD)} (h : ∀ p ∈ l, CP o p) (h0 : (redD o l).1 = 0) : Form o (redD o l).2 ∧ (redD o l).2.length ≤ 24 ∧ (monicsD o (fullD l)).1 = 0 ∧ (redD o l).2.map hdT = (interD [] (monicsD o (fullD l)).2).map hdT := by
 unfold redD at h0 ⊢
 by_cases hb : basisD o l = false
 ·rw [if_pos hb] at h0; cases h0
 rw [if_neg hb] at h0 ⊢
 have hl := basis_len hb
 by_cases hm : (monicsD o (fullD l)).1 = 0
 case neg => rw [if_pos (by simpa using hm)] at h0; exact absurd h0 hm
 rw [if_neg (by simpa using hm)] at h0 ⊢
 obtain ⟨m1, m2⟩ := monics_ok (full_pz h) hm
 have hlen : (monicsD o (fullD l)).2.length ≤ 24 := by
  have := congrArg List.length m2
  rw [List.length_map, List.length_map] at this
  rw [this]
  exact ah (List.length_filter_le _ _) hl
 generalize hM : (monicsD o (fullD l)).2 = M at m1 hlen h0 ⊢
 obtain ⟨n1, n2⟩ := inter_nd (l := M) fun p hp => (m1 p hp).pz
 have hF := (inter_sub M []).length_le
 rw [List.nil_append] at hF
 generalize interD [] M = F at n1 n2 hF h0 ⊢
 have hR := rests_ok F [] (fun p hp => (m1 p (n2 p (by simpa using hp))).pz) (by simpa using n1) (fun r hr => by cases hr) h0
 rw [List.nil_append] at hR
 obtain ⟨r1, r2⟩ := hR
 generalize (restsD o [] F).2 = R at r1 r2
 have e1 := congrArg List.length r1
 rw [List.length_map, List.length_map] at e1
 refine ⟨⟨fun p hp => ⟨(r2 p hp).1, ?_⟩, n1.heads r1, fun r hr => ?_⟩, by omega, hm, r1⟩
 ·have h1 : hdT p ∈ F.map hdT := by rw [← r1]; exact List.mem_map.2 ⟨p, hp, rfl⟩
  obtain ⟨q, hq, e⟩ := List.mem_map.1 h1
  rw [← e]
  exact (m1 q (n2 q hq)).one
 ·rw [heads_M r1]; exact (r2 r hr).2
theorem Form.perm {o : Int} {l l' : List (List TermD)} (h : Form o l) (hp : l'.Perm l) : Form o l' := by
 refine ⟨fun p hm => h.mz p (hp.mem_iff.1 hm), ?_, fun r hr s hs x hx => h.rby r (hp.mem_iff.1 hr) s hs x ((hp.map hdM).mem_iff.1 hx)⟩
 exact (List.Perm.pairwise_iff (fun {x y} hxy => And.symm hxy) hp.symm).1 h.nd
def leadAt (o : Int) (l : List (List TermD)) (i : Nat) : Bool :=
 !decide ((l.getD i []).length = 0) && polMay o (l.getD i []) && sameR (hdT (l.getD i [])).c (ofD 1) && !(decide (0 < i) && decide (monCmp o (hdM (l.getD (i - 1) [])) (hdM (l.getD i [])) ≤ 0)) &&
  (List.range l.length).all fun k => decide (k = i) || decide ((l.getD k []).length = 0) || !dvd (l.getD k []) (l.getD i [])
theorem Form.lead {o : Int} {l : List (List TermD)} (h : Form o l) (ho : oOk o) (hs : Srt o l) {i : Nat} (hi : i < l.length) : leadAt o l i = true := by
 have gd : ∀ {k : Nat} (hk : k < l.length), l.getD k [] = l[k] := fun hk => by rw [List.getD_eq_getElem?_getD, ai hk]; rfl
 have hnd : ∀ {k j : Nat} (hk : k < l.length) (hj : j < l.length), k ≠ j → dvd l[k] l[j] = false := fun {k j} hk hj hkj => by
  rcases Nat.lt_or_ge k j with hlt | hge
  ·exact (List.pairwise_iff_getElem.1 h.nd k j hk hj hlt).1
  ·exact (List.pairwise_iff_getElem.1 h.nd j k hj hk (by omega)).2
 have hm := h.mz l[i] (List.getElem_mem hi)
 unfold leadAt
 rw [gd hi, hm.pz.cp.may, sameR_iff.2 hm.one]
 have h1 : decide (l[i].length = 0) = false := decide_eq_false fun e => hm.pz.ne (List.length_eq_zero_iff.1 e)
 have h2 : (decide (0 < i) && decide (monCmp o (hdM (l.getD (i - 1) [])) (hdM l[i]) ≤ 0)) = false := by
  rcases Nat.eq_zero_or_pos i with h0 | h0
  ·rw [decide_eq_false (by omega)]; rfl
  ·have hi1 : i - 1 < l.length := by omega
   rw [gd hi1]
   have h3 : 0 ≤ monCmp o (hdM l[i - 1]) (hdM l[i]) := List.pairwise_iff_getElem.1 hs (i - 1) i hi1 hi (by omega)
   have m1 := (h.mz l[i - 1] (List.getElem_mem hi1)).pz.may
   have h4 : monCmp o (hdM l[i - 1]) (hdM l[i]) ≠ 0 := fun e => by
    have e := (monCmp_zero ho m1 hm.pz.may).1 e
    have := hnd hi1 hi (by omega)
    unfold dvd at this
    rw [e, dvd_self hm.pz.may] at this
    cases this
   rw [decide_eq_false (show ¬ _ ≤ _ by omega), Bool.and_false]
 rw [h1, h2]
 simp only [Bool.not_false, Bool.true_and, Bool.and_true]
 rw [List.all_eq_true]
 intro k hk
 rw [List.mem_range] at hk
 by_cases e : k = i
 ·simp [e]
 ·rw [gd hk, hnd hk hi e]; simp
def Nn (m : MonD) : Prop := 0 ≤ m.x0 ∧ 0 ≤ m.x1 ∧ 0 ≤ m.x2 ∧ 0 ≤ m.x3
def sumM (m : MonD) : Int := m.x0 + m.x1 + m.x2 + m.x3
def ky (o : Int) (a : MonD) : List Int := if o = 0 then a.l else if o = 1 then sumM a :: a.l else sumM a :: [-a.x3, -a.x2, -a.x1, -a.x0]
def kc (o : Int) (a b : MonD) : Int := lexC (ky o a) (ky o b)
abbrev Cmb := List (Rat × MonD × Nat)
def polAt (l : List (List TermD)) (i : Nat) : List TermD := l.getD i []
def ev (f : MonD → Rat) (l : List (List TermD)) : Cmb → Rat
 | [] => 0
 | x :: G => x.1 * lin (fun m => f (addM m x.2.1)) (polAt l x.2.2) + ev f l G
def ldM (l : List (List TermD)) (i : Nat) : MonD := match polAt l i with
 | [] => ⟨0, 0, 0, 0⟩
 | t :: _ => t.m
structure Gen (l : List (List TermD)) (x : Rat × MonD × Nat) : Prop where
 ne : polAt l x.2.2 ≠ []
 nn : Nn x.2.1
def topM (l : List (List TermD)) (x : Rat × MonD × Nat) : MonD := addM (ldM l x.2.2) x.2.1
def Bel (o : Int) (l : List (List TermD)) (d : MonD) (G : Cmb) : Prop := ∀ x ∈ G, Gen l x ∧ kc o (topM l x) d < 0
theorem Bel.app {o : Int} {l : List (List TermD)} {d : MonD} {G H : Cmb} (h : Bel o l d G) (h' : Bel o l d H) : Bel o l d (G ++ H) := fun x hx => (List.mem_append.1 hx).elim (h x) (h' x)
end Go.Proofs.YtgjkgkgieeoalaaGreat
