/- Parts of the proof, joined: each theorem says what it shows. -/
import Derived.Test.YtgjkgkgieeoalaaGreatE01
import Derived.Test.YtgjkgkgieeoalaaGreatE27
import Derived.Test.YtgjkgkgieeoalaaGreatE26
import Derived.Test.YtgjkgkgieeoalaaGreatE12
import Derived.Test.YtgjkgkgieeoalaaGreatE09
import Derived.Test.YtgjkgkgieeoalaaGreatE19
set_option linter.unusedVariables false
set_option linter.unusedSimpArgs false
set_option maxHeartbeats 24000000
set_option maxRecDepth 100000
namespace Go.Proofs.YtgjkgkgieeoalaaGreat
theorem dividesD_none : ∀ {l : List (List TermD)} {m : MonD}, dividesD l m = none → ∀ {i : Nat} {u : TermD} {b : List TermD}, l[i]? = some (u :: b) → (monDiv m u.m).1 = false
 | [], m, _, i, u, b, h => by simp at h
 | [] :: l, m, hn, i, u, b, h => by
   unfold dividesD at hn
   rw [Option.map_eq_none_iff] at hn
   cases i with
   | zero => simp at h
   | succ i => exact dividesD_none hn (by simpa using h)
 | (v :: c) :: l, m, hn, i, u, b, h => by
   unfold dividesD at hn
   split at hn
   ·cases hn
   ·rename_i h1
    rw [Option.map_eq_none_iff] at hn
    cases i with
    | zero =>
      simp only [List.getElem?_cons_zero, Option.some.injEq, List.cons.injEq] at h
      obtain ⟨rfl, _⟩ := h
      simpa using h1
    | succ i => exact dividesD_none hn (by simpa using h)
theorem dividesD_no : ∀ {l : List (List TermD)} {m : MonD}, (∀ u b, u :: b ∈ l → (monDiv m u.m).1 = false) → dividesD l m = none
 | [], _, _ => rfl
 | [] :: l, m, h => by
   unfold dividesD
   rw [dividesD_no fun u b hb => h u b (by simp [hb])]; rfl
 | (v :: c) :: l, m, h => by
   unfold dividesD
   rw [if_neg (by rw [h v c (by simp)]; simp), dividesD_no fun u b hb => h u b (by simp [hb])]; rfl
structure Moved (o : Int) (t u : TermD) (p b q y : List TermD) (k : Nat) (c : RatD) (m : MonD) : Prop where
 good : GoodT ⟨c, m⟩
 nz : nz ⟨c, m⟩ = true
 val : qv c * qv u.c = qv t.c
 k : k < 400
 q : q.length < 60
 cp : CP o y
 fits : Fits (u :: b) m
 lin : ∀ f, lin f y + qv c * lin (fun x => f (addM x m)) (u :: b) = lin f (t :: p)
 below : ∀ s ∈ y, 0 < monCmp o t.m s.m
theorem moveD_good {o : Int} {k : Nat} {p b q : List TermD} {t u : TermD} {m : MonD} (hp : CP o (t :: p)) (hb : CP o (u :: b)) (hd : monDiv t.m u.m = (true, m)) (h0 : (moveD o (t :: p) (u :: b) q k m).1 = 0) :
    ∃ c y, moveD o (t :: p) (u :: b) q k m = (0, y, q ++ [⟨c, m⟩]) ∧ Moved o t u p b q y k c m := by
 obtain ⟨tm, um, mm, e⟩ := monDiv_true hd
 have ho := hp.ord
 have gt := hp.canon.good t (by simp)
 have gu := hb.canon.good u (by simp)
 have hu0 := hb.ne (t := u) (by simp)
 have ht0 := hp.ne (t := t) (by simp)
 obtain ⟨i1, i2⟩ := invD_q gu.c (nz_len (hb.canon.nz u (by simp)))
 unfold moveD at h0 ⊢
 dsimp only at h0 ⊢
 rw [i1] at h0 ⊢
 dsimp only at h0 ⊢
 by_cases hk : 400 ≤ k
 ·rw [if_pos hk] at h0; cases h0
 rw [if_neg hk] at h0 ⊢
 have hm2 := mulD_q gt.c (ofQ_good i2)
 rw [qv_ofQ] at hm2
 rcases hm2 with e1 | ⟨e1, hf⟩
 ·rw [e1, if_pos (by simp)] at h0; cases h0
 rw [e1, if_neg (by simp)] at h0 ⊢
 by_cases hq : 60 ≤ q.length
 ·rw [if_pos hq] at h0; cases h0
 rw [if_neg hq] at h0 ⊢
 have gc : GoodR (ofQ (qv t.c * (qv u.c)⁻¹)) := ofQ_good hf
 have vc : qv (ofQ (qv t.c * (qv u.c)⁻¹)) * qv u.c = qv t.c := by rw [qv_ofQ, Rat.mul_assoc, Rat.inv_mul_cancel _ hu0, Rat.mul_one]
 dsimp only at h0 ⊢
 generalize ofQ (qv t.c * (qv u.c)⁻¹) = c at h0 gc vc ⊢
 have vc0 : qv c ≠ 0 := fun h => ht0 (by rw [← vc, h, Rat.zero_mul])
 obtain ⟨gn, vn⟩ := negD_q gc
 have gT : GoodT ⟨negD c, m⟩ := ⟨gn, mm⟩
 have zT : nz ⟨negD c, m⟩ = true := nz_of gn (by rw [vn]; intro h; exact vc0 (by grind))
 by_cases hx : (polTimes o (u :: b) ⟨negD c, m⟩).1 = 0
 case neg => rw [if_pos (by simpa using hx)] at h0; exact absurd h0 hx
 rw [if_neg (by simpa using hx)] at h0 ⊢
 obtain ⟨x1, x2, x3⟩ := polTimes_good hb gT zT hx
 generalize (polTimes o (u :: b) ⟨negD c, m⟩).2 = X at h0 x1 x2 ⊢
 by_cases hy : (polAdd o [t :: p, X]).1 = 0
 case neg => rw [if_pos (by simpa using hy)] at h0; exact absurd h0 hy
 rw [if_neg (by simpa using hy)]
 obtain ⟨y1, y2⟩ := polAdd_good (o := o) (ps := [t :: p, X]) (fun q hq => by simp at hq; rcases hq with rfl | rfl <;> first | exact hp | exact x1) hy
 generalize (polAdd o [t :: p, X]).2 = y at y1 y2 ⊢
 have HL : ∀ f, lin f y + qv c * lin (fun x => f (addM x m)) (u :: b) = lin f (t :: p) := fun f => by
  rw [y2 f, List.flatten_cons, List.flatten_cons, List.flatten_nil, List.append_nil, lin_app, x2 f]
  show _ + qv (negD c) * _ + _ = _
  rw [vn]
  grind
 refine ⟨c, y, rfl, ⟨gc, mm⟩, nz_of gc vc0, vc, by omega, by omega, y1, x3, HL, fun s hs => ?_⟩
 have sm := (y1.canon.good s hs).m
 have hl := lin_ind_mem y1.canon.sta.keys hs
 have hn := y1.ne hs
 have H := HL (ind s.m)
 rw [hl] at H
 have lo : ∀ x ∈ b, monCmp o (addM x.m m) t.m < 0 := fun x hx => by
  have := mulM_lt ho um (hb.canon.good x (by simp [hx])).m mm (by rw [e]; exact tm) (x3 x (by simp [hx])) (hb.below x hx)
  rwa [e] at this
 rcases Int.lt_trichotomy 0 (monCmp o t.m s.m) with h | h | h
 ·exact h
 ·have es : t.m = s.m := (monCmp_zero ho tm sm).1 h.symm
  refine absurd ?_ hn
  have a1 : lin (ind s.m) (t :: p) = qv t.c := by rw [← es]; exact lin_ind_mem hp.canon.sta.keys (by simp)
  have a2 : lin (fun x => ind s.m (addM x m)) (u :: b) = qv u.c := by
   simp only [lin]
   rw [lin_van (p := b) fun x hx => ?_, e, ← es]
   ·unfold ind; rw [if_pos rfl]; grind
   ·have := lo x hx
    unfold ind
    rw [if_neg]
    intro e2
    rw [e2, ← es, (monCmp_zero ho tm tm).2 rfl] at this
    omega
  rw [a1, a2] at H
  grind
 ·refine absurd ?_ hn
  have a1 : lin (ind s.m) (t :: p) = 0 := lin_ind_not fun x hx e2 => by
   rcases List.mem_cons.1 hx with rfl | hx
   ·rw [e2, (monCmp_zero ho sm sm).2 rfl] at h; omega
   ·have := hp.below x hx; rw [e2] at this; omega
  have a2 : lin (fun x => ind s.m (addM x m)) (u :: b) = 0 := lin_van fun x hx => by
   unfold ind
   rw [if_neg]
   intro e2
   rcases List.mem_cons.1 hx with rfl | hx
   ·rw [← e2, e, (monCmp_zero ho tm tm).2 rfl] at h; omega
   ·have h2 := lo x hx
    rw [e2] at h2
    have h3 := monCmp_anti ho tm sm
    omega
  rw [a1, a2] at H
  grind
def linQ (f : MonD → Rat) : List (List TermD) → List (List TermD) → Rat
 | b :: l, q :: qs => linP f b q + linQ f l qs
 | [], _ => 0
 | _ :: _, [] => 0
theorem linQ_set (f : MonD → Rat) : ∀ {l qs : List (List TermD)} {i : Nat} {b q : List TermD} (t : TermD), l[i]? = some b → qs[i]? = some q → linQ f l (qs.set i (q ++ [t])) = linQ f l qs + qv t.c * lin (fun m => f (addM m t.m)) b
 | [], _, _, _, _, _, h, _ => by simp at h
 | _ :: _, [], _, _, _, _, _, h => by simp at h
 | b :: l, q :: qs, 0, b', q', t, h, h' => by
   simp only [List.getElem?_cons_zero, Option.some.injEq] at h h'
   subst h h'
   simp only [List.set_cons_zero, linQ]
   rw [linP_snoc]
   grind
 | b :: l, q :: qs, i + 1, b', q', t, h, h' => by
   simp only [List.set_cons_succ, linQ]
   rw [linQ_set f t (by simpa using h) (by simpa using h')]
   grind
theorem linQ_nils (f : MonD → Rat) : ∀ l : List (List TermD), linQ f l (List.replicate l.length []) = 0
 | [] => rfl
 | b :: l => by
   rw [List.length_cons, List.replicate_succ]
   simp only [linQ]
   rw [linQ_nils f l]
   show 0 + 0 = (0 : Rat)
   grind
structure QOk (o : Int) (l : List (List TermD)) (P0 p : List TermD) (i : Nat) (q : List TermD) : Prop where
 canon : Canon o q
 len : q.length ≤ 60
 each : ∀ x ∈ q, ∃ u b, l[i]? = some (u :: b) ∧ Fits (u :: b) x.m ∧ (∀ t ∈ p, 0 < monCmp o (addM u.m x.m) t.m) ∧ ∃ t0 ps0, P0 = t0 :: ps0 ∧ 0 ≤ monCmp o t0.m (addM u.m x.m)
structure DivI (o : Int) (l : List (List TermD)) (P0 p : List TermD) (qs : List (List TermD)) (r : List TermD) : Prop where
 cp : CP o p
 cr : CP o r
 rp : ∀ s ∈ r, ∀ t ∈ p, 0 < monCmp o s.m t.m
 rd : ∀ s ∈ r, dividesD l s.m = none
 ql : qs.length = l.length
 q : ∀ i q, qs[i]? = some q → QOk o l P0 p i q
 pl : ∀ t ∈ p, ∃ t0 ps0, P0 = t0 :: ps0 ∧ 0 ≤ monCmp o t0.m t.m
 sum : ∀ f, lin f p + lin f r + linQ f l qs = lin f P0
theorem monCmp_ge {o : Int} {a b c : MonD} (ho : oOk o) (ha : monMay a = true) (hb : monMay b = true) (hc : monMay c = true) (h1 : 0 ≤ monCmp o a b) (h2 : 0 ≤ monCmp o b c) : 0 ≤ monCmp o a c := by
 have a1 := monCmp_anti ho ha hb
 have a2 := monCmp_anti ho hb hc
 have a3 := monCmp_anti ho ha hc
 have := monCmp_le ho hc hb ha (by omega) (by omega)
 omega
theorem DivI.start {o : Int} {l : List (List TermD)} {p : List TermD} (hp : CP o p) : DivI o l p p (List.replicate l.length []) [] := by
 refine ⟨hp, .nil hp.ord, fun s h => (by cases h), fun s h => (by cases h), by simp, fun i q h => ?_, fun t ht => ?_, fun f => ?_⟩
 ·obtain rfl : q = [] := List.eq_of_mem_replicate (List.mem_of_getElem? h)
  exact ⟨canon_nil hp.ord, by simp, fun x hx => by cases hx⟩
 ·cases p with
  | nil => cases ht
  | cons t0 ps0 =>
    refine ⟨t0, ps0, rfl, ?_⟩
    rcases List.mem_cons.1 ht with rfl | ht
    ·have m := (hp.canon.good t (by simp)).m
     exact Int.le_of_eq ((monCmp_zero hp.ord m m).2 rfl).symm
    ·exact Int.le_of_lt (hp.below t ht)
 ·rw [linQ_nils]
  simp only [lin]
  grind
theorem canon_snoc {o : Int} {q : List TermD} {x : TermD} (hq : Canon o q) (hx : GoodT x) (hz : nz x = true) (h : ∀ y ∈ q, 0 < monCmp o y.m x.m) : Canon o (q ++ [x]) := by
 refine ⟨⟨hq.sta.ord, fun y hy => ?_, ?_⟩, hq.good.app (GoodP.cons hx .nil), fun y hy => ?_⟩
 ·rcases List.mem_append.1 hy with hy | hy
  ·exact hq.sta.good y hy
  ·simp only [List.mem_singleton] at hy; subst hy; exact hx.m
 ·unfold Fall
  rw [List.pairwise_append]
  exact ⟨hq.sta.fall, List.pairwise_singleton _ _, fun a ha b hb => by simp only [List.mem_singleton] at hb; subst hb; exact h a ha⟩
 ·rcases List.mem_append.1 hy with hy | hy
  ·exact hq.nz y hy
  ·simp only [List.mem_singleton] at hy; subst hy; exact hz
theorem splitF_good {o : Int} {l : List (List TermD)} {P0 : List TermD} (hP : CP o P0) (hl : ∀ b ∈ l, CP o b) : ∀ (n : Nat) (p : List TermD) (qs : List (List TermD)) (r : List TermD) (k : Nat), DivI o l P0 p qs r → 460 - k - r.length < n → k ≤ 400 → (splitF o l n p qs r k).1 = 0 →
    ∃ qs' r', splitF o l n p qs r k = (0, qs', r') ∧ DivI o l P0 [] qs' r'
 | 0, _, _, _, _, _, h, _, _ => by omega
 | n + 1, [], qs, r, k, hI, _, _, _ => ⟨qs, r, rfl, hI⟩
 | n + 1, t :: p, qs, r, k, hI, hn, hk, h0 => by
   have ho := hI.cp.ord
   have tm := (hI.cp.canon.good t (by simp)).m
   unfold splitF at h0 ⊢
   cases hd : dividesD l t.m with
   | none =>
     rw [hd] at h0
     dsimp only at h0 ⊢
     by_cases hr : 60 ≤ r.length
     ·rw [if_pos hr] at h0; cases h0
     rw [if_neg hr] at h0 ⊢
     refine splitF_good hP hl n p qs (r ++ [t]) k ⟨hI.cp.tl, ⟨canon_snoc hI.cr.canon (hI.cp.canon.good t (by simp)) (hI.cp.canon.nz t (by simp)) fun y hy => hI.rp y hy t (by simp), by simp; omega⟩, fun s hs u hu => ?_, fun s hs => ?_, hI.ql, fun i q hq => ?_, fun s hs => hI.pl s (by simp [hs]), fun f => ?_⟩ (by simp; omega) hk h0
     ·rcases List.mem_append.1 hs with hs | hs
      ·exact hI.rp s hs u (by simp [hu])
      ·simp only [List.mem_singleton] at hs; subst hs; exact hI.cp.below u hu
     ·rcases List.mem_append.1 hs with hs | hs
      ·exact hI.rd s hs
      ·simp only [List.mem_singleton] at hs; subst hs; exact hd
     ·have := hI.q i q hq
      exact ⟨this.canon, this.len, fun x hx => let ⟨u, b, h1, h2, h3, h4⟩ := this.each x hx; ⟨u, b, h1, h2, fun s hs => h3 s (by simp [hs]), h4⟩⟩
     ·have := hI.sum f
      rw [lin_app]
      simp only [lin] at this ⊢
      grind
   | some x =>
     obtain ⟨i, m⟩ := x
     rw [hd] at h0
     dsimp only at h0 ⊢
     obtain ⟨u, b, hi, hm⟩ := dividesD_lt hd
     obtain ⟨q, hq⟩ : ∃ q, qs[i]? = some q := ⟨_, ai (by rw [hI.ql]; exact (List.getElem?_eq_some_iff.1 hi).1)⟩
     have e1 : l.getD i [] = u :: b := by rw [List.getD_eq_getElem?_getD, hi]; rfl
     have e2 : qs.getD i [] = q := by rw [List.getD_eq_getElem?_getD, hq]; rfl
     rw [e1, e2] at h0 ⊢
     by_cases hmv : (moveD o (t :: p) (u :: b) q k m).1 = 0
     case neg => rw [if_pos (by simpa using hmv)] at h0; exact absurd h0 hmv
     rw [if_neg (by simpa using hmv)] at h0 ⊢
     obtain ⟨c, y, e3, M⟩ := moveD_good hI.cp (hl _ (List.mem_of_getElem? hi)) hm hmv
     rw [e3] at h0 ⊢
     dsimp only at h0 ⊢
     obtain ⟨_, um, mm, ee⟩ := monDiv_true hm
     have far : ∀ {a : MonD}, monMay a = true → 0 < monCmp o a t.m → ∀ s ∈ y, 0 < monCmp o a s.m := fun ha h s hs => monCmp_gt ho ha tm (M.cp.canon.good s hs).m h (M.below s hs)
     have Q0 := hI.q i q hq
     refine splitF_good hP hl n y _ r (k + 1) ⟨M.cp, hI.cr, fun s hs => far (hI.cr.canon.good s hs).m (hI.rp s hs t (by simp)), hI.rd, by rw [List.length_set]; exact hI.ql, fun j q' hq' => ?_, fun s hs => ?_, fun f => ?_⟩ (by have := M.k; have := hI.cr.len; omega) (by have := M.k; omega) h0
     ·by_cases hj : i = j
      ·subst hj
       rw [List.getElem?_set_self (List.getElem?_eq_some_iff.1 hq).1] at hq'
       injection hq' with hq'
       subst hq'
       refine ⟨canon_snoc Q0.canon M.good M.nz fun x hx => ?_, by rw [List.length_append, List.length_singleton]; exact M.q, fun x hx => ?_⟩
       ·obtain ⟨u', b', h1, h2, h3, _⟩ := Q0.each x hx
        rw [hi] at h1
        injection h1 with h1
        injection h1 with h1 h1'
        subst h1 h1'
        have h4 := h3 t (by simp)
        have xm := (Q0.canon.good x hx).m
        rw [← ee, addM_comm u.m, addM_comm u.m, monCmp_mul ho xm mm um (by rw [addM_comm]; exact h2 u (by simp)) (by rw [addM_comm, ee]; exact tm)] at h4
        exact h4
       ·rcases List.mem_append.1 hx with hx | hx
        ·obtain ⟨u', b', h1, h2, h3, h4⟩ := Q0.each x hx
         exact ⟨u', b', h1, h2, far (h2 u' (by simp)) (h3 t (by simp)), h4⟩
        ·simp only [List.mem_singleton] at hx
         subst hx
         obtain ⟨t0, ps0, g1, g2⟩ := hI.pl t (by simp)
         exact ⟨u, b, hi, M.fits, fun s hs => by rw [ee]; exact M.below s hs, t0, ps0, g1, by rw [ee]; exact g2⟩
      ·rw [List.getElem?_set_ne hj] at hq'
       have Q := hI.q j q' hq'
       exact ⟨Q.canon, Q.len, fun x hx => let ⟨u', b', h1, h2, h3, h4⟩ := Q.each x hx; ⟨u', b', h1, h2, far (h2 u' (by simp)) (h3 t (by simp)), h4⟩⟩
     ·obtain ⟨t0, ps0, g1, g2⟩ := hI.pl t (by simp)
      refine ⟨t0, ps0, g1, ?_⟩
      exact monCmp_ge ho (hP.canon.good t0 (by rw [g1]; simp)).m tm (M.cp.canon.good s hs).m g2 (Int.le_of_lt (M.below s hs))
     ·have h1 := hI.sum f
      have h2 := M.lin f
      rw [linQ_set f _ hi hq]
      dsimp only
      grind
theorem may_all {o : Int} {p : List TermD} {l : List (List TermD)} (hp : CP o p) (hl : ∀ b ∈ l, CP o b) (h : l.length ≤ 24) : ¬ (polMay o p && decide (l.length ≤ 24) && l.all (polMay o)) = false := by
 rw [hp.may, decide_eq_true h, List.all_eq_true.2 fun b hb => (hl b hb).may]
 simp
theorem splitD_F {o : Int} {p : List TermD} {l : List (List TermD)} (hp : CP o p) (hl : ∀ b ∈ l, CP o b) (h : l.length ≤ 24) : splitD o p l = splitF o l (400 * 61 + 61) p (List.replicate l.length []) [] 0 := if_neg (may_all hp hl h)
theorem splitD_good {o : Int} {p : List TermD} {l : List (List TermD)} (hp : CP o p) (hl : ∀ b ∈ l, CP o b) (h0 : (splitD o p l).1 = 0) : ∃ qs r, splitD o p l = (0, qs, r) ∧ DivI o l p [] qs r := by
 by_cases h : l.length ≤ 24
 ·rw [splitD_F hp hl h] at h0 ⊢
  exact splitF_good hp hl _ p _ [] 0 (DivI.start hp) (by simp) (by omega) h0
 ·unfold splitD at h0
  rw [if_pos (by rw [decide_eq_false h]; simp)] at h0
  cases h0
theorem rest_again {o : Int} {l : List (List TermD)} : ∀ (n : Nat) (p : List TermD) (qs : List (List TermD)) (r : List TermD) (k : Nat), (∀ t ∈ p, dividesD l t.m = none) → r.length + p.length ≤ 60 → p.length < n → splitF o l n p qs r k = (0, qs, r ++ p)
 | 0, _, _, _, _, _, _, h => by omega
 | n + 1, [], qs, r, k, _, _, _ => by simp [splitF]
 | n + 1, t :: p, qs, r, k, h, hl, hn => by
   simp only [List.length_cons] at hl hn
   unfold splitF
   rw [h t (by simp)]
   dsimp only
   rw [if_neg (by omega), rest_again n p qs (r ++ [t]) k (fun s hs => h s (by simp [hs])) (by simp; omega) (by omega)]
   simp
theorem splitD_rest {o : Int} {p : List TermD} {l : List (List TermD)} (hp : CP o p) (hl : ∀ b ∈ l, CP o b) (h24 : l.length ≤ 24) (h : ∀ t ∈ p, dividesD l t.m = none) : splitD o p l = (0, List.replicate l.length [], p) := by
 rw [splitD_F hp hl h24, rest_again _ p _ [] 0 h (by have := hp.len; simp; omega) (by have := hp.len; omega)]
 simp
theorem ints_of {M : Nat} {p : List TermD} {t : TermD} (h : Ints M p) (ht : t ∈ p) : ∃ z : Int, t.c = ofD z ∧ z.natAbs ≤ M := by
 obtain ⟨z, e⟩ := h.int t ht
 refine ⟨z, e, ?_⟩
 have := ah (mass_mem ht) h.mass
 rwa [e, val_ofD] at this
theorem inv_int {n : Int} (h0 : n ≠ 0) (h : n.natAbs < 1000000) : ∃ r, invD (ofD n) = (0, r) ∧ GoodR r ∧ qv r = (n : Rat)⁻¹ ∧ val r.num ≤ 1 ∧ val r.den < 1000000 := by
 have g : GoodR (ofD n) := ofD_good (Nat.lt_trans h (by decide))
 obtain ⟨e, hf⟩ := invD_q g (ofD_num h0)
 refine ⟨_, e, ofQ_good hf, by rw [qv_ofQ, qv_ofD], ?_⟩
 have e2 : (invD (ofD n)).2 = ⟨(ofD n).neg, (ofD n).den, (ofD n).num⟩ := by
  unfold invD
  rw [g.may, if_neg (by simp), if_neg (ofD_num h0)]
 rw [← show (invD (ofD n)).2 = ofQ (qv (ofD n))⁻¹ by rw [e], e2]
 refine ⟨?_, by rw [val_ofD]; exact h⟩
 show val (ofD n).den ≤ 1
 exact ae 1
theorem lit_small {x y : Nat} (h : x ≤ 1000000) (h' : y ≤ 1000000) : x * y < 18446744073709551616 ^ 8 :=
 Nat.lt_of_le_of_lt (Nat.mul_le_mul h h') (by decide)
theorem one_move {o : Int} {t : TermD} {p q : List TermD} {n : Int} {k : Nat} (hn : n ≠ 0) (hn1 : n.natAbs ≤ 1280) (hp : SmP o (t :: p)) (hb : CP o [⟨ofD n, zeroM⟩]) (hk : k < 400) (hq : q.length < 60) :
    ∃ c, moveD o (t :: p) [⟨ofD n, zeroM⟩] q k t.m = (0, p, q ++ [⟨c, t.m⟩]) := by
 have hc := hp.cp
 have tm := (hc.canon.good t (by simp)).m
 obtain ⟨z, ez, hz⟩ := ints_of hp.pol.ints (t := t) (by simp)
 have hz0 : z ≠ 0 := fun e => hc.ne (t := t) (by simp) (by rw [ez, qv_ofD, e]; rfl)
 have gt := (hc.canon.good t (by simp)).c
 obtain ⟨i, e1, gi, vi, ni, di⟩ := inv_int hn (Nat.lt_of_le_of_lt hn1 (by decide))
 have vt : val t.c.num = z.natAbs ∧ val t.c.den = 1 := ⟨by rw [ez, val_ofD], by rw [ez]; rfl⟩
 obtain ⟨m1, m2, m3, m4, m5⟩ := mulD_small gt gi (lit_small (by omega) (by omega)) (lit_small (by omega) (by omega))
 obtain ⟨c, hc'⟩ : ∃ c, (mulD t.c i).2 = c := ⟨_, rfl⟩
 rw [hc'] at m2 m3 m4 m5
 have cn : val c.num ≤ 1280 := ah m4 (ah (Nat.mul_le_mul (show val t.c.num ≤ 1280 by omega) ni) (by decide))
 have cd : val c.den ≤ 1000000 := ah m5 (ah (Nat.mul_le_mul (show val t.c.den ≤ 1 by omega) (Nat.le_of_lt di)) (by decide))
 have hnq : (n : Rat) ≠ 0 := fun h => hn (by exact_mod_cast h)
 have vc : qv c * (n : Rat) = (z : Rat) := by rw [m3, vi, ez, qv_ofD, Rat.mul_assoc, Rat.inv_mul_cancel _ hnq, Rat.mul_one]
 have vc0 : qv c ≠ 0 := fun h => by
  rw [h, Rat.zero_mul] at vc
  exact hz0 (by exact_mod_cast vc.symm)
 obtain ⟨gn, vn⟩ := negD_q m2
 have zT : nz ⟨negD c, t.m⟩ = true := nz_of gn (by rw [vn]; intro h; exact vc0 (by grind))
 have nn : val (negD c).num = val c.num ∧ val (negD c).den = val c.den := by unfold negD; split <;> exact ⟨rfl, rfl⟩
 have gb : GoodR (ofD n) := (hb.canon.good ⟨ofD n, zeroM⟩ (by simp)).c
 obtain ⟨r1, r2, r3, _, _⟩ := mulD_small gb gn (by rw [nn.1, val_ofD]; exact lit_small (by omega) (by omega)) (by rw [nn.2]; exact lit_small (show val (ofD n).den ≤ 1000000 from (by decide : 1 ≤ 1000000)) (by omega))
 have er : (mulD (ofD n) (negD c)).2 = ofD (-z) := by
  refine r2.inj (ofD_good (Nat.lt_of_le_of_lt (show (-z).natAbs ≤ 1280 by rw [Int.natAbs_neg]; exact hz) (by decide))) ?_
  rw [r3, qv_ofD, qv_ofD, vn, Rat.intCast_neg, ← vc]
  grind
 have az : addM zeroM t.m = t.m := by rw [addM_comm]; exact addM_zero _
 have et : polTimes o [⟨ofD n, zeroM⟩] ⟨negD c, t.m⟩ = (0, [⟨ofD (-z), t.m⟩]) := by
  rw [polTimes_timesL (t := (⟨negD c, t.m⟩ : TermD)) hb ⟨gn, tm⟩ zT, timesL_cons, if_neg (by simpa using r1)]
  have e5 : monMul zeroM t.m = (0, t.m) := by rw [monMul_of monMay_zero tm (by rw [az]; exact tm), az]
  rw [e5, if_neg (by simp)]
  unfold timesL
  rw [if_neg (by simp), er]
 have cz : CP o [⟨ofD (-z), t.m⟩] := by
  have gz : GoodR (ofD (-z)) := ofD_good (Nat.lt_of_le_of_lt (show (-z).natAbs ≤ 1280 by rw [Int.natAbs_neg]; exact hz) (by decide))
  refine ⟨⟨⟨hc.ord, fun s hs => ?_, List.pairwise_singleton _ _⟩, GoodP.cons ⟨gz, tm⟩ .nil, fun s hs => ?_⟩, by simp⟩
  ·simp only [List.mem_singleton] at hs; subst hs; exact tm
  ·simp only [List.mem_singleton] at hs; subst hs
   refine nz_of gz ?_
   rw [qv_ofD]
   intro h
   exact hz0 (by have : -z = 0 := by exact_mod_cast h
                 omega)
 have ea : polAdd o [t :: p, [⟨ofD (-z), t.m⟩]] = (0, p) := by
  rw [polAdd_make fun x hx => by
   simp only [List.mem_cons, List.not_mem_nil, or_false] at hx
   rcases hx with rfl | rfl
   ·exact hc
   ·exact cz]
  rw [show [t :: p, [⟨ofD (-z), t.m⟩]].flatten = t :: p ++ [⟨ofD (-z), t.m⟩] by simp]
  have h1 := sum_ok hc.ord (hp.pol.ints.app (Ints.one (n := -z) tm)) (by rw [Int.natAbs_neg]; omega)
  refine h1.eq hc.canon.tl (fun f => ?_) (by have := hc.tl.len; exact this)
  rw [lin_app]
  simp only [lin]
  rw [ez, qv_ofD, qv_ofD, Rat.intCast_neg]
  grind
 refine ⟨c, ?_⟩
 unfold moveD
 dsimp only
 rw [if_neg (by omega), e1]
 dsimp only
 rw [if_neg (by simpa using m1), if_neg (by omega), hc', et]
 dsimp only
 rw [if_neg (by simp), ea]
 rw [if_neg (by simp)]
theorem cp_num {o n : Int} (ho : oOk o) (hn : n ≠ 0) (hn1 : n.natAbs ≤ 1280) : CP o [⟨ofD n, zeroM⟩] := by
 have g : GoodR (ofD n) := ofD_good (Nat.lt_of_le_of_lt hn1 (by decide))
 refine ⟨⟨⟨ho, fun s hs => ?_, List.pairwise_singleton _ _⟩, GoodP.cons ⟨g, monMay_zero⟩ .nil, fun s hs => ?_⟩, by simp⟩
 ·simp only [List.mem_singleton] at hs; subst hs; exact monMay_zero
 ·simp only [List.mem_singleton] at hs; subst hs
  refine nz_of g ?_
  rw [qv_ofD]
  intro h
  exact hn (by exact_mod_cast h)
def hdT : List TermD → TermD
 | [] => ⟨zeroD, zeroM⟩
 | t :: _ => t
def hdM (p : List TermD) : MonD := (hdT p).m
def dvd (p q : List TermD) : Bool := (monDiv (hdM q) (hdM p)).1
def basisD (o : Int) (l : List (List TermD)) : Bool := polMay o [] && decide (l.length ≤ 24) && l.all (polMay o)
def fullD (l : List (List TermD)) : List (List TermD) := l.filter fun p => !decide (p.length = 0)
def monicsD (o : Int) : List (List TermD) → Int × List (List TermD)
 | [] => (0, [])
 | p :: l => if (polMonic o p).1 ≠ 0 then ((polMonic o p).1, []) else if (monicsD o l).1 ≠ 0 then ((monicsD o l).1, []) else (0, (polMonic o p).2 :: (monicsD o l).2)
def goesD (kept rest : List (List TermD)) (p : List TermD) : Bool := kept.any (fun q => dvd q p) || rest.any fun q => dvd q p && !decide (hdM q = hdM p)
def interD : List (List TermD) → List (List TermD) → List (List TermD)
 | kept, [] => kept
 | kept, p :: rest => if goesD kept rest p = true then interD kept rest else interD (kept ++ [p]) rest
def restsD (o : Int) : List (List TermD) → List (List TermD) → Int × List (List TermD)
 | done, [] => (0, done)
 | done, p :: todo => if (splitD o p (done ++ todo)).1 ≠ 0 then ((splitD o p (done ++ todo)).1, []) else restsD o (done ++ [(splitD o p (done ++ todo)).2.2]) todo
def redD (o : Int) (l : List (List TermD)) : Int × List (List TermD) :=
 if basisD o l = false then (1, []) else if (monicsD o (fullD l)).1 ≠ 0 then ((monicsD o (fullD l)).1, []) else restsD o [] (interD [] (monicsD o (fullD l)).2)
def Srt (o : Int) (l : List (List TermD)) : Prop := l.Pairwise fun p q => 0 ≤ monCmp o (hdM p) (hdM q)
def RedIs (o : Int) (l : List (List TermD)) (e : Int) (R : List (List TermD)) : Prop := e = (redD o l).1 ∧ (e ≠ 0 → R = []) ∧ (e = 0 → R.Perm (redD o l).2 ∧ Srt o R)
structure Pz (o : Int) (p : List TermD) : Prop where
 cp : CP o p
 ne : p ≠ []
theorem Pz.may {o : Int} {p : List TermD} (h : Pz o p) : monMay (hdM p) = true := by
 obtain ⟨h1, h2⟩ := h
 cases p with
 | nil => exact absurd rfl h2
 | cons t p => exact h1.canon.sta.good t (by simp)
theorem dvd_self {m : MonD} (h : monMay m = true) : (monDiv m m).1 = true := by
 rw [monDiv_of h h (q := zeroM) (by decide) (by obtain ⟨a, b, c, d⟩ := m; unfold addM zeroM; simp)]
theorem dvd_trans {a b c : MonD} (h1 : (monDiv b a).1 = true) (h2 : (monDiv c b).1 = true) : (monDiv c a).1 = true := by
 obtain ⟨b1, b2, b3, b4⟩ := monDiv_true (q := (monDiv b a).2) (by rw [← h1])
 obtain ⟨c1, c2, c3, c4⟩ := monDiv_true (q := (monDiv c b).2) (by rw [← h2])
 generalize (monDiv b a).2 = x at b3 b4
 generalize (monDiv c b).2 = y at c3 c4
 have e : addM a (addM x y) = c := by
  rw [← c4, ← b4]
  unfold addM
  simp only [MonD.mk.injEq]
  omega
 rw [monDiv_of c1 b2 (q := addM x y) ?_ e]
 have h3 := monMay_of c1
 have h4 := monMay_of b2
 have h5 := monMay_of b3
 have h6 := monMay_of c3
 rw [← e] at h3
 simp only [addM] at h3
 exact monMay_low (by simp only [addM]; omega)
def Rl (a b : List TermD) : Prop := dvd a b = false ∧ (dvd b a = true → hdM b = hdM a)
theorem inter_rl : ∀ (rest kept : List (List TermD)), kept.Pairwise Rl → (∀ a ∈ kept, ∀ b ∈ rest, dvd b a = true → hdM b = hdM a) → (interD kept rest).Pairwise Rl
 | [], kept, h, _ => h
 | p :: rest, kept, h, h2 => by
   unfold interD
   split
   ·exact inter_rl rest kept h fun a ha b hb => h2 a ha b (by simp [hb])
   ·rename_i hg
    have hg : goesD kept rest p = false := by simpa using hg
    unfold goesD at hg
    rw [Bool.or_eq_false_iff, List.any_eq_false, List.any_eq_false] at hg
    obtain ⟨g1, g2⟩ := hg
    refine inter_rl rest _ ?_ fun a ha b hb hd => ?_
    ·rw [List.pairwise_append]
     refine ⟨h, by simp, fun a ha b hb => ?_⟩
     simp only [List.mem_singleton] at hb
     subst hb
     exact ⟨by simpa using g1 a ha, fun hd => h2 a ha _ (by simp) hd⟩
    ·rcases List.mem_append.1 ha with ha | ha
     ·exact h2 a ha b (by simp [hb]) hd
     ·simp only [List.mem_singleton] at ha
      subst ha
      have := g2 b hb
      rw [hd] at this
      simpa using this
theorem inter_sub : ∀ (rest kept : List (List TermD)), (interD kept rest).Sublist (kept ++ rest)
 | [], kept => by simp [interD]
 | p :: rest, kept => by
   unfold interD
   split
   ·exact (inter_sub rest kept).trans (by simp)
   ·have := inter_sub rest (kept ++ [p])
    simpa using this
theorem inter_kept : ∀ (rest kept : List (List TermD)) {p : List TermD}, p ∈ kept → p ∈ interD kept rest
 | [], kept, p, h => h
 | q :: rest, kept, p, h => by
   unfold interD
   split
   ·exact inter_kept rest kept h
   ·exact inter_kept rest _ (by simp [h])
theorem inter_cover : ∀ (rest kept : List (List TermD)), (∀ p ∈ rest, monMay (hdM p) = true) → ∀ p ∈ rest, ∃ q ∈ interD kept rest, dvd q p = true
 | [], _, _, p, h => by cases h
 | x :: rest, kept, hm, p, hp => by
   have ih := fun k => inter_cover rest k (fun q hq => hm q (by simp [hq]))
   unfold interD
   split
   ·rename_i hg
    rcases List.mem_cons.1 hp with rfl | hp
    ·unfold goesD at hg
     rw [Bool.or_eq_true, List.any_eq_true, List.any_eq_true] at hg
     rcases hg with ⟨q, hq, hd⟩ | ⟨q, hq, hd⟩
     ·exact ⟨q, inter_kept rest kept hq, hd⟩
     ·rw [Bool.and_eq_true] at hd
      obtain ⟨q', hq', hd'⟩ := ih kept q hq
      exact ⟨q', hq', dvd_trans hd' hd.1⟩
    ·exact ih kept p hp
   ·rcases List.mem_cons.1 hp with rfl | hp
    ·exact ⟨p, inter_kept rest _ (by simp), dvd_self (hm p (by simp))⟩
    ·exact ih _ p hp
def Nd (l : List (List TermD)) : Prop := l.Pairwise fun a b => dvd a b = false ∧ dvd b a = false
theorem inter_nd {o : Int} {l : List (List TermD)} (h : ∀ p ∈ l, Pz o p) : Nd (interD [] l) ∧ ∀ p ∈ interD [] l, p ∈ l := by
 have hs := inter_sub l []
 rw [List.nil_append] at hs
 have hm : ∀ p ∈ interD [] l, p ∈ l := fun p hp => hs.subset hp
 refine ⟨?_, hm⟩
 have h1 := inter_rl l [] .nil fun a ha => by cases ha
 refine List.Pairwise.imp_of_mem ?_ h1
 intro a b ha hb hr
 refine ⟨hr.1, ?_⟩
 cases hd : dvd b a with
 | false => rfl
 | true =>
   have e := hr.2 hd
   have h2 := hr.1
   unfold dvd at h2
   rw [e, dvd_self (h a (hm a ha)).may] at h2
   cases h2
theorem moveD_k {o : Int} {k : Nat} {p b q : List TermD} {t u : TermD} {m : MonD} (h0 : (moveD o (t :: p) (u :: b) q k m).1 = 0) : k < 400 := by
 refine Nat.not_le.1 fun h => ?_
 unfold moveD at h0
 dsimp only at h0
 rw [if_pos h] at h0
 cases h0
theorem splitF_pre {o : Int} {l : List (List TermD)} : ∀ (n : Nat) (p : List TermD) (qs : List (List TermD)) (r : List TermD) (k : Nat), 460 - k - r.length < n → k ≤ 400 → r.length ≤ 60 → (splitF o l n p qs r k).1 = 0 → ∃ r', (splitF o l n p qs r k).2.2 = r ++ r'
 | 0, _, _, _, _, h, _, _, _ => by omega
 | n + 1, [], qs, r, k, _, _, _, _ => ⟨[], by simp [splitF]⟩
 | n + 1, t :: p, qs, r, k, hn, hk, hr, h0 => by
   unfold splitF at h0 ⊢
   cases hd : dividesD l t.m with
   | none =>
     rw [hd] at h0
     dsimp only at h0 ⊢
     by_cases hr2 : 60 ≤ r.length
     ·rw [if_pos hr2] at h0; cases h0
     rw [if_neg hr2] at h0 ⊢
     obtain ⟨r', e⟩ := splitF_pre n p qs (r ++ [t]) k (by simp; omega) hk (by simp; omega) h0
     exact ⟨t :: r', by rw [e]; simp⟩
   | some x =>
     obtain ⟨i, m⟩ := x
     rw [hd] at h0
     dsimp only at h0 ⊢
     obtain ⟨u, b, hi, hm⟩ := dividesD_lt hd
     have e1 : l.getD i [] = u :: b := by rw [List.getD_eq_getElem?_getD, hi]; rfl
     rw [e1] at h0 ⊢
     by_cases hmv : (moveD o (t :: p) (u :: b) (qs.getD i []) k m).1 = 0
     case neg => rw [if_pos (by simpa using hmv)] at h0; exact absurd h0 hmv
     rw [if_neg (by simpa using hmv)] at h0 ⊢
     have := moveD_k hmv
     exact splitF_pre n _ _ r (k + 1) (by omega) (by omega) hr h0
theorem rest_head {o : Int} {p : List TermD} {l : List (List TermD)} (hp : Pz o p) (hl : ∀ b ∈ l, Pz o b) (hd : ∀ b ∈ l, dvd b p = false) (h0 : (splitD o p l).1 = 0) :
    Pz o (splitD o p l).2.2 ∧ hdT (splitD o p l).2.2 = hdT p ∧ ∀ s ∈ (splitD o p l).2.2, ∀ b ∈ l, (monDiv s.m (hdM b)).1 = false := by
 have hc : ∀ b ∈ l, CP o b := fun b hb => (hl b hb).cp
 obtain ⟨qs, r, e, D⟩ := splitD_good hp.cp hc h0
 have hpre : ∃ r', r = hdT p :: r' := by
  have hne := hp.ne
  cases p with
  | nil => exact absurd rfl hne
  | cons t p =>
    by_cases h24 : l.length ≤ 24
    case neg =>
     unfold splitD at e
     rw [if_pos (by rw [decide_eq_false h24]; simp)] at e
     cases e
    rw [splitD_F hp.cp hc h24] at e h0
    have hn : dividesD l t.m = none := dividesD_no fun u b hb => by
     have h1 := hd (u :: b) hb
     unfold dvd at h1
     exact h1
    obtain ⟨n, hN⟩ : ∃ n, 400 * 61 + 61 = n + 1 := ⟨400 * 61 + 60, rfl⟩
    have hN2 : 1000 < n := by omega
    rw [hN] at e h0
    clear hN
    unfold splitF at e h0
    rw [hn] at e h0
    dsimp only at e h0
    rw [if_neg (by simp)] at e h0
    obtain ⟨r', e'⟩ := splitF_pre n p _ ([] ++ [t]) 0 (by simp; omega) (by omega) (by simp) h0
    rw [e] at e'
    exact ⟨r', by simpa [hdT] using e'⟩
 obtain ⟨r', er⟩ := hpre
 rw [e]
 dsimp only
 refine ⟨⟨D.cr, by rw [er]; simp⟩, by rw [er]; rfl, fun s hs b hb => ?_⟩
 have hne := (hl b hb).ne
 obtain ⟨i, hi, rfl⟩ := List.getElem_of_mem hb
 cases e2 : l[i] with
 | nil => exact absurd e2 hne
 | cons u b => exact dividesD_none (D.rd s hs) (show l[i]? = some (u :: b) by rw [ai hi, e2])
theorem Nd.out {a b : List (List TermD)} {p : List TermD} (h : Nd (a ++ p :: b)) : ∀ q ∈ a ++ b, dvd q p = false ∧ dvd p q = false := by
 unfold Nd at h
 rw [List.pairwise_append] at h
 obtain ⟨_, h2, h3⟩ := h
 intro q hq
 rcases List.mem_append.1 hq with hq | hq
 ·exact h3 q hq p (by simp)
 ·exact ((List.pairwise_cons.1 h2).1 q hq).symm
theorem Nd.heads {l l' : List (List TermD)} (h : Nd l) (e : l'.map hdT = l.map hdT) : Nd l' := by
 have key : ∀ x : List (List TermD), Nd x ↔ (x.map hdT).Pairwise fun s t => (monDiv t.m s.m).1 = false ∧ (monDiv s.m t.m).1 = false := fun x => by
  rw [List.pairwise_map]; rfl
 rw [key, e, ← key]; exact h
def Rby (H : List MonD) (r : List TermD) : Prop := ∀ s ∈ r, ∀ h ∈ H, h ≠ hdM r → (monDiv s.m h).1 = false
theorem rests_ok {o : Int} : ∀ (todo done : List (List TermD)), (∀ p ∈ done ++ todo, Pz o p) → Nd (done ++ todo) → (∀ r ∈ done, Rby ((done ++ todo).map hdM) r) → (restsD o done todo).1 = 0 →
    (restsD o done todo).2.map hdT = (done ++ todo).map hdT ∧ (∀ r ∈ (restsD o done todo).2, Pz o r ∧ Rby ((done ++ todo).map hdM) r)
 | [], done, h, _, hr, _ => by
   rw [List.append_nil] at *
   exact ⟨rfl, fun r hm => ⟨h r hm, hr r hm⟩⟩
 | p :: todo, done, h, hn, hr, h0 => by
   have hp := h p (by simp)
   have hl : ∀ b ∈ done ++ todo, Pz o b := fun b hb => h b (by simp only [List.mem_append, List.mem_cons] at hb ⊢; rcases hb with hb | hb <;> simp [hb])
   unfold restsD at h0 ⊢
   by_cases hs : (splitD o p (done ++ todo)).1 = 0
   case neg => rw [if_pos (by simpa using hs)] at h0; exact absurd h0 hs
   rw [if_neg (by simpa using hs)] at h0 ⊢
   obtain ⟨a1, a2, a3⟩ := rest_head hp hl (fun b hb => (hn.out b hb).1) hs
   generalize (splitD o p (done ++ todo)).2.2 = r at a1 a2 a3 h0 ⊢
   have em : (done ++ [r] ++ todo).map hdT = (done ++ p :: todo).map hdT := by simp [a2]
   have em2 : (done ++ [r] ++ todo).map hdM = (done ++ p :: todo).map hdM := by simp [hdM, a2]
   have ih := rests_ok (o := o) todo (done ++ [r]) (fun q hq => ?_) (hn.heads em) (fun q hq => ?_) h0
   ·rw [em, em2] at ih
    exact ih
   ·simp only [List.mem_append, List.mem_singleton] at hq
    rcases hq with (hq | hq) | hq
    ·exact h q (by simp [hq])
    ·rw [hq]; exact a1
    ·exact h q (by simp [hq])
   ·rw [em2]
    simp only [List.mem_append, List.mem_singleton] at hq
    rcases hq with hq | hq
    ·exact hr q hq
    ·subst hq
     intro s hs h hh hne
     obtain ⟨x, hx, rfl⟩ := List.mem_map.1 hh
     have hx2 : x = p ∨ x ∈ done ++ todo := by
      simp only [List.mem_append, List.mem_cons] at hx ⊢
      rcases hx with hx | rfl | hx
      ·exact .inr (.inl hx)
      ·exact .inl rfl
      ·exact .inr (.inr hx)
     rcases hx2 with rfl | hx2
     ·exact absurd (by show (hdT x).m = (hdT q).m; rw [a2]) hne
     ·exact a3 s hs x hx2
def Nn (m : MonD) : Prop := 0 ≤ m.x0 ∧ 0 ≤ m.x1 ∧ 0 ≤ m.x2 ∧ 0 ≤ m.x3
def sumM (m : MonD) : Int := m.x0 + m.x1 + m.x2 + m.x3
def ky (o : Int) (a : MonD) : List Int := if o = 0 then a.l else if o = 1 then sumM a :: a.l else sumM a :: [-a.x3, -a.x2, -a.x1, -a.x0]
def kc (o : Int) (a b : MonD) : Int := lexC (ky o a) (ky o b)
theorem ky_len (o : Int) (a b : MonD) : (ky o a).length = (ky o b).length := by unfold ky; split <;> (try split) <;> rfl
theorem ky_inj {o : Int} {a b : MonD} (h : ky o a = ky o b) : a = b := by
 unfold ky at h
 cases a; cases b
 split at h
 ·simpa [MonD.l] using h
 ·split at h
  ·simp [MonD.l] at h; simp [h]
  ·simp at h; simp; omega
theorem ky_add (o : Int) (a c : MonD) : ky o (addM a c) = addL (ky o a) (ky o c) := by
 unfold ky
 split
 ·rfl
 ·split
  ·simp only [MonD.l, addL, sumM, addM, List.cons.injEq, and_true]; omega
  ·simp only [addL, sumM, addM, List.cons.injEq, and_true]; omega
theorem kc_anti (o : Int) (a b : MonD) : kc o b a = - kc o a b := lexC_anti _ _
theorem kc_self (o : Int) (a : MonD) : kc o a a = 0 := lexC_self _
theorem kc_zero {o : Int} {a b : MonD} : kc o a b = 0 ↔ a = b := ⟨fun h => ky_inj (lexC_zero (ky_len _ _ _) h), fun h => by rw [h]; exact kc_self _ _⟩
theorem kc_le {o : Int} {a b c : MonD} (h1 : kc o a b ≤ 0) (h2 : kc o b c ≤ 0) : kc o a c ≤ 0 := lexC_trans (ky_len _ _ _) (ky_len _ _ _) h1 h2
theorem kc_lt_le {o : Int} {a b c : MonD} (h1 : kc o a b < 0) (h2 : kc o b c ≤ 0) : kc o a c < 0 := by
 have h3 := kc_le (o := o) (a := a) (b := b) (c := c) (by omega) h2
 rcases Int.lt_or_eq_of_le h3 with h | h
 ·exact h
 ·have e := kc_zero.1 h
  rw [e] at h1
  have := kc_anti o b c
  omega
theorem kc_le_lt {o : Int} {a b c : MonD} (h1 : kc o a b ≤ 0) (h2 : kc o b c < 0) : kc o a c < 0 := by
 have h3 := kc_le (o := o) (a := a) (b := b) (c := c) h1 (by omega)
 rcases Int.lt_or_eq_of_le h3 with h | h
 ·exact h
 ·have e := kc_zero.1 h
  rw [e] at h1
  have := kc_anti o b c
  omega
theorem kc_add (o : Int) (a b c : MonD) : kc o (addM a c) (addM b c) = kc o a b := by
 unfold kc
 rw [ky_add, ky_add]
 exact lexC_add (ky_len _ _ _) (ky_len _ _ _)
theorem kc_mon {o : Int} {a b : MonD} (ho : oOk o) (ha : monMay a = true) (hb : monMay b = true) : monCmp o a b = kc o a b := by
 rw [monCmp_key ho ha hb]
 unfold kc mkey ky sumM
 rw [monDeg_of ha, monDeg_of hb]
theorem monMay_nn {m : MonD} (h : monMay m = true) : Nn m := by
 have := monMay_of h
 unfold Nn
 omega
theorem Nn.add {a b : MonD} (h : Nn a) (h' : Nn b) : Nn (addM a b) := by
 unfold Nn addM at *
 dsimp only
 omega
theorem lexC_cons {x y : Int} {l m : List Int} (h : lexC (x :: l) (y :: m) < 0) : x < y ∨ (x = y ∧ lexC l m < 0) := by
 simp only [lexC] at h
 by_cases e : cmpI x y = 0
 ·rw [if_neg (by omega)] at h
  exact .inr ⟨cmpI_zero.1 e, h⟩
 ·rw [if_pos e] at h
  exact .inl (cmpI_lt.1 h)
def nk (o : Int) (a : MonD) : Nat × Nat × Nat × Nat :=
 if o = 0 then (a.x0.toNat, a.x1.toNat, a.x2.toNat, a.x3.toNat) else if o = 1 then ((sumM a).toNat, a.x0.toNat, a.x1.toNat, a.x2.toNat) else ((sumM a).toNat, (sumM a - a.x3).toNat, (sumM a - a.x3 - a.x2).toNat, a.x0.toNat)
abbrev lex4 : (Nat × Nat × Nat × Nat) → (Nat × Nat × Nat × Nat) → Prop := Prod.Lex (· < ·) (Prod.Lex (· < ·) (Prod.Lex (· < ·) (· < ·)))
theorem lex4_wf : WellFounded lex4 := (Prod.lex ⟨_, Nat.lt_wfRel.wf⟩ (Prod.lex ⟨_, Nat.lt_wfRel.wf⟩ (Prod.lex ⟨_, Nat.lt_wfRel.wf⟩ ⟨_, Nat.lt_wfRel.wf⟩))).wf
theorem lex4_of {a b c d a' b' c' d' : Nat} (h : a < a' ∨ (a = a' ∧ (b < b' ∨ (b = b' ∧ (c < c' ∨ (c = c' ∧ d < d')))))) : lex4 (a, b, c, d) (a', b', c', d') := by
 rcases h with h | ⟨rfl, h | ⟨rfl, h | ⟨rfl, h⟩⟩⟩
 ·exact .left _ _ h
 ·exact .right _ (.left _ _ h)
 ·exact .right _ (.right _ (.left _ _ h))
 ·exact .right _ (.right _ (.right _ h))
theorem nk_lt {o : Int} {e d : MonD} (he : Nn e) (hd : Nn d) (h : kc o e d < 0) : lex4 (nk o e) (nk o d) := by
 unfold Nn at he hd
 unfold kc ky at h
 unfold nk
 by_cases h0 : o = 0
 ·simp only [h0, if_true, MonD.l] at h ⊢
  apply lex4_of
  rcases lexC_cons h with h | ⟨h1, h⟩
  ·omega
  rcases lexC_cons h with h | ⟨h2, h⟩
  ·omega
  rcases lexC_cons h with h | ⟨h3, h⟩
  ·omega
  rcases lexC_cons h with h | ⟨h4, h⟩
  ·omega
  ·simp [lexC] at h
 ·by_cases h1 : o = 1
  ·simp only [h0, h1, if_false, if_true, MonD.l, Int.one_ne_zero] at h ⊢
   apply lex4_of
   unfold sumM at *
   rcases lexC_cons h with h | ⟨h1, h⟩
   ·omega
   rcases lexC_cons h with h | ⟨h2, h⟩
   ·omega
   rcases lexC_cons h with h | ⟨h3, h⟩
   ·omega
   rcases lexC_cons h with h | ⟨h4, h⟩
   ·omega
   rcases lexC_cons h with h | ⟨h5, h⟩
   ·omega
   ·simp [lexC] at h
  ·simp only [h0, h1, if_false] at h ⊢
   apply lex4_of
   unfold sumM at *
   rcases lexC_cons h with h | ⟨h1, h⟩
   ·omega
   rcases lexC_cons h with h | ⟨h2, h⟩
   ·omega
   rcases lexC_cons h with h | ⟨h3, h⟩
   ·omega
   rcases lexC_cons h with h | ⟨h4, h⟩
   ·omega
   rcases lexC_cons h with h | ⟨h5, h⟩
   ·omega
   ·simp [lexC] at h
theorem kc_ind (o : Int) {P : MonD → Prop} (h : ∀ d, Nn d → (∀ e, Nn e → kc o e d < 0 → P e) → P d) : ∀ d, Nn d → P d := by
 intro d
 induction d using (InvImage.wf (nk o) lex4_wf).induction with
 | _ d ih => exact fun hd => h d hd fun e he hlt => ih e (nk_lt he hd hlt) he
abbrev Cmb := List (Rat × MonD × Nat)
def polAt (l : List (List TermD)) (i : Nat) : List TermD := l.getD i []
def ev (f : MonD → Rat) (l : List (List TermD)) : Cmb → Rat
 | [] => 0
 | x :: G => x.1 * lin (fun m => f (addM m x.2.1)) (polAt l x.2.2) + ev f l G
def ldM (l : List (List TermD)) (i : Nat) : MonD := match polAt l i with
 | [] => ⟨0, 0, 0, 0⟩
 | t :: _ => t.m
def ldC (l : List (List TermD)) (i : Nat) : Rat := match polAt l i with
 | [] => 0
 | t :: _ => qv t.c
def lcS (l : List (List TermD)) : Cmb → Rat
 | [] => 0
 | x :: G => x.1 * ldC l x.2.2 + lcS l G
structure Gen (l : List (List TermD)) (x : Rat × MonD × Nat) : Prop where
 ne : polAt l x.2.2 ≠ []
 nn : Nn x.2.1
def topM (l : List (List TermD)) (x : Rat × MonD × Nat) : MonD := addM (ldM l x.2.2) x.2.1
def Bel (o : Int) (l : List (List TermD)) (d : MonD) (G : Cmb) : Prop := ∀ x ∈ G, Gen l x ∧ kc o (topM l x) d < 0
def Und (o : Int) (l : List (List TermD)) (d : MonD) (G : Cmb) : Prop := ∀ x ∈ G, Gen l x ∧ kc o (topM l x) d ≤ 0
theorem ev_app (f : MonD → Rat) (l : List (List TermD)) (G H : Cmb) : ev f l (G ++ H) = ev f l G + ev f l H := by
 induction G with
 | nil => show _ = 0 + _; rw [Rat.zero_add]; rfl
 | cons x G ih => show _ + ev f l (G ++ H) = _ + ev f l G + _; rw [ih]; grind
theorem Bel.app {o : Int} {l : List (List TermD)} {d : MonD} {G H : Cmb} (h : Bel o l d G) (h' : Bel o l d H) : Bel o l d (G ++ H) := fun x hx => (List.mem_append.1 hx).elim (h x) (h' x)
theorem ev_filter (f : MonD → Rat) (l : List (List TermD)) (P : Rat × MonD × Nat → Bool) (G : Cmb) : ev f l G = ev f l (G.filter P) + ev f l (G.filter fun x => !P x) := by
 induction G with
 | nil => show (0 : Rat) = 0 + 0; grind
 | cons x G ih =>
   cases h : P x
   ·rw [List.filter_cons_of_neg (by rw [h]; simp), List.filter_cons_of_pos (by rw [h]; rfl)]
    show _ + ev f l G = _ + (_ + ev f l _)
    rw [ih]; grind
   ·rw [List.filter_cons_of_pos h, List.filter_cons_of_neg (by rw [h]; simp)]
    show _ + ev f l G = _ + ev f l _ + _
    rw [ih]; grind
def Tst (o : Int) (l : List (List TermD)) : Prop := ∀ (i j : Nat) (u v d : MonD) (a b : Rat), polAt l i ≠ [] → polAt l j ≠ [] → Nn u → Nn v → addM (ldM l i) u = d → addM (ldM l j) v = d → a * ldC l i + b * ldC l j = 0 →
 ∃ G, Bel o l d G ∧ ∀ f, a * lin (fun m => f (addM m u)) (polAt l i) + b * lin (fun m => f (addM m v)) (polAt l j) = ev f l G
theorem addM_inj {a b c : MonD} (h : addM a c = addM b c) : a = b := by
 obtain ⟨a0, a1, a2, a3⟩ := a
 obtain ⟨b0, b1, b2, b3⟩ := b
 unfold addM at h
 simp only [MonD.mk.injEq] at h ⊢
 omega
section
variable {o : Int} {l : List (List TermD)}
theorem polAt_cp (ho : oOk o) (hl : ∀ b ∈ l, CP o b) (i : Nat) : CP o (polAt l i) := by
 unfold polAt
 rw [List.getD_eq_getElem?_getD]
 cases h : l[i]? with
 | none => exact .nil ho
 | some b => exact hl b (List.mem_of_getElem? h)
theorem ldC_ne (ho : oOk o) (hl : ∀ b ∈ l, CP o b) {i : Nat} (h : polAt l i ≠ []) : ldC l i ≠ 0 := by
 have hc := polAt_cp ho hl i
 unfold ldC
 cases e : polAt l i with
 | nil => exact absurd e h
 | cons t p =>
   rw [e] at hc
   exact hc.ne (by simp)
theorem ldM_may (ho : oOk o) (hl : ∀ b ∈ l, CP o b) {i : Nat} (h : polAt l i ≠ []) : monMay (ldM l i) = true := by
 have hc := polAt_cp ho hl i
 unfold ldM
 cases e : polAt l i with
 | nil => exact absurd e h
 | cons t p =>
   rw [e] at hc
   exact hc.canon.sta.good t (by simp)
theorem topM_nn (ho : oOk o) (hl : ∀ b ∈ l, CP o b) {x : Rat × MonD × Nat} (h : Gen l x) : Nn (topM l x) := (monMay_nn (ldM_may ho hl h.ne)).add h.nn
theorem lin_top_at (ho : oOk o) (hl : ∀ b ∈ l, CP o b) {x : Rat × MonD × Nat} (h : Gen l x) {d : MonD} (hd : kc o (topM l x) d ≤ 0) : lin (fun m => ind d (addM m x.2.1)) (polAt l x.2.2) = if topM l x = d then ldC l x.2.2 else 0 := by
 have hc := polAt_cp ho hl x.2.2
 unfold topM ldM ldC at *
 cases e : polAt l x.2.2 with
 | nil => exact absurd e h.ne
 | cons t p =>
   rw [e] at hc hd
   simp only at hd ⊢
   have tm := hc.canon.sta.good t (by simp)
   have tail : lin (fun m => ind d (addM m x.2.1)) p = 0 := by
    have : ∀ q : List TermD, (∀ s ∈ q, s ∈ p) → lin (fun m => ind d (addM m x.2.1)) q = 0 := by
     intro q
     induction q with
     | nil => intro _; rfl
     | cons s q ih =>
       intro hq
       have hs := hq s (by simp)
       have sm := hc.canon.sta.good s (by simp [hs])
       have h1 := hc.below s hs
       rw [kc_mon ho tm sm] at h1
       have h2 := kc_anti o s.m t.m
       have h3 : kc o (addM s.m x.2.1) d < 0 := kc_lt_le (b := addM t.m x.2.1) (by rw [kc_add]; omega) hd
       have h4 : addM s.m x.2.1 ≠ d := fun e => by rw [e, kc_self] at h3; omega
       show qv s.c * ind d (addM s.m x.2.1) + lin _ q = 0
       rw [ih fun y hy => hq y (by simp [hy])]
       unfold ind
       rw [if_neg h4]
       grind
    exact this p fun s hs => hs
   show qv t.c * ind d (addM t.m x.2.1) + lin _ p = _
   rw [tail]
   unfold ind
   split
   ·grind
   ·grind
theorem ev_at (ho : oOk o) (hl : ∀ b ∈ l, CP o b) {d : MonD} : ∀ {G : Cmb}, (∀ x ∈ G, Gen l x ∧ topM l x = d) → ev (ind d) l G = lcS l G
 | [], _ => rfl
 | x :: G, h => by
   obtain ⟨h1, h2⟩ := h x (by simp)
   show x.1 * _ + ev (ind d) l G = x.1 * _ + lcS l G
   rw [ev_at ho hl fun y hy => h y (by simp [hy]), lin_top_at ho hl h1 (by rw [h2, kc_self]; exact Int.le_refl _), if_pos h2]
theorem ev_off (ho : oOk o) (hl : ∀ b ∈ l, CP o b) {d : MonD} : ∀ {G : Cmb}, Bel o l d G → ev (ind d) l G = 0
 | [], _ => rfl
 | x :: G, h => by
   obtain ⟨h1, h2⟩ := h x (by simp)
   show x.1 * _ + ev (ind d) l G = 0
   rw [ev_off ho hl fun y hy => h y (by simp [hy]), lin_top_at ho hl h1 (by omega), if_neg (fun e => by rw [e, kc_self] at h2; omega)]
   grind
theorem gather (ho : oOk o) (hl : ∀ b ∈ l, CP o b) (ht : Tst o l) {d : MonD} : ∀ (n : Nat) (G : Cmb), G.length ≤ n → (∀ x ∈ G, Gen l x ∧ topM l x = d) → lcS l G = 0 → ∃ H, Bel o l d H ∧ ∀ f, ev f l G = ev f l H
 | _, [], _, _, _ => ⟨[], fun _ h => (by cases h), fun _ => rfl⟩
 | _, [x], _, h, h0 => by
   obtain ⟨h1, _⟩ := h x (by simp)
   have hne := ldC_ne ho hl h1.ne
   have e : x.1 = 0 := by
    have h2 : x.1 * ldC l x.2.2 = 0 := by
     have : lcS l [x] = x.1 * ldC l x.2.2 + 0 := rfl
     rw [this] at h0
     grind
    rcases Rat.mul_eq_zero.1 h2 with h3 | h3
    ·exact h3
    ·exact absurd h3 hne
   refine ⟨[], fun _ h => (by cases h), fun f => ?_⟩
   show x.1 * _ + 0 = (0 : Rat)
   rw [e]; grind
 | 0, x :: y :: G, hn, _, _ => by simp at hn
 | n + 1, x :: y :: G, hn, h, h0 => by
   obtain ⟨hx, ex⟩ := h x (by simp)
   obtain ⟨hy, ey⟩ := h y (by simp)
   have nx := ldC_ne ho hl hx.ne
   have ny := ldC_ne ho hl hy.ne
   obtain ⟨k, hk⟩ : ∃ k : Rat, k * ldC l y.2.2 = x.1 * ldC l x.2.2 := ⟨x.1 * ldC l x.2.2 * (ldC l y.2.2)⁻¹, by rw [Rat.mul_assoc, Rat.inv_mul_cancel _ ny, Rat.mul_one]⟩
   obtain ⟨H1, b1, e1⟩ := ht x.2.2 y.2.2 x.2.1 y.2.1 d x.1 (-k) hx.ne hy.ne hx.nn hy.nn ex ey (by rw [Rat.neg_mul, hk]; grind)
   obtain ⟨H2, b2, e2⟩ := gather ho hl ht n ((y.1 + k, y.2.1, y.2.2) :: G) (by simp only [List.length_cons] at hn ⊢; omega) (fun z hz => by
    rcases List.mem_cons.1 hz with rfl | hz
    ·exact ⟨⟨hy.ne, hy.nn⟩, ey⟩
    ·exact h z (by simp [hz])) (by
    have e : lcS l (x :: y :: G) = x.1 * ldC l x.2.2 + (y.1 * ldC l y.2.2 + lcS l G) := rfl
    rw [e, ← hk] at h0
    show (y.1 + k) * ldC l y.2.2 + lcS l G = 0
    grind)
   refine ⟨H1 ++ H2, b1.app b2, fun f => ?_⟩
   rw [ev_app, ← e1, ← e2]
   show x.1 * _ + (y.1 * _ + ev f l G) = _ + ((y.1 + k) * _ + ev f l G)
   grind
theorem Und.max : ∀ {G : Cmb}, G ≠ [] → (∀ x ∈ G, Gen l x) → ∃ x ∈ G, Und o l (topM l x) G
 | [], h, _ => absurd rfl h
 | [x], _, h => ⟨x, by simp, fun y hy => by
   simp only [List.mem_singleton] at hy
   subst hy
   exact ⟨h y (by simp), by rw [kc_self]; exact Int.le_refl _⟩⟩
 | x :: y :: G, _, h => by
   obtain ⟨z, hz, hu⟩ := Und.max (G := y :: G) (by simp) fun s hs => h s (List.mem_cons_of_mem _ hs)
   by_cases hc : kc o (topM l x) (topM l z) ≤ 0
   ·refine ⟨z, List.mem_cons_of_mem _ hz, fun s hs => ?_⟩
    rcases List.mem_cons.1 hs with rfl | hs
    ·exact ⟨h s (by simp), hc⟩
    ·exact hu s hs
   ·have h2 := kc_anti o (topM l x) (topM l z)
    refine ⟨x, by simp, fun s hs => ?_⟩
    rcases List.mem_cons.1 hs with rfl | hs
    ·exact ⟨h s (by simp), by rw [kc_self]; exact Int.le_refl _⟩
    ·exact ⟨(hu s hs).1, kc_le (hu s hs).2 (by omega)⟩
theorem buchberger (ho : oOk o) (hl : ∀ b ∈ l, CP o b) (ht : Tst o l) {t : TermD} {r : List TermD} (hr : Canon o (t :: r)) : ∀ d, Nn d → ∀ G, Und o l d G → (∀ f, lin f (t :: r) = ev f l G) → ∃ i u, polAt l i ≠ [] ∧ Nn u ∧ addM (ldM l i) u = t.m := by
 have tm := hr.sta.good t (by simp)
 have tq : qv t.c ≠ 0 := (hr.good t (by simp)).ne (hr.nz t (by simp))
 have tl := lin_ind_mem hr.sta.keys (show t ∈ t :: r by simp)
 refine kc_ind o fun d hd ih G hG hs => ?_
 have hD : ∀ x ∈ G.filter (fun x => decide (topM l x = d)), Gen l x ∧ topM l x = d := fun x hx => by
  obtain ⟨h1, h2⟩ := List.mem_filter.1 hx
  exact ⟨(hG x h1).1, of_decide_eq_true h2⟩
 have hE : Bel o l d (G.filter fun x => !decide (topM l x = d)) := fun x hx => by
  obtain ⟨h1, h2⟩ := List.mem_filter.1 hx
  obtain ⟨h3, h4⟩ := hG x h1
  refine ⟨h3, ?_⟩
  rcases Int.lt_or_eq_of_le h4 with h | h
  ·exact h
  ·rw [kc_zero.1 h] at h2; simp at h2
 have hsp := fun f => ev_filter f l (fun x => decide (topM l x = d)) G
 by_cases h0 : lcS l (G.filter fun x => decide (topM l x = d)) = 0
 ·obtain ⟨H, bH, eH⟩ := gather ho hl ht _ _ (ae _) hD h0
  have b2 := bH.app hE
  have e2 : ∀ f, lin f (t :: r) = ev f l (H ++ G.filter fun x => !decide (topM l x = d)) := fun f => by rw [hs, hsp, ev_app, eH]
  generalize H ++ G.filter (fun x => !decide (topM l x = d)) = K at b2 e2
  by_cases hK : K = []
  ·exfalso
   rw [hK] at e2
   have := e2 (ind t.m)
   rw [tl] at this
   exact tq this
  ·obtain ⟨x, hx, hu⟩ := Und.max (o := o) hK fun x hx => (b2 x hx).1
   exact ih _ (topM_nn ho hl (b2 x hx).1) (b2 x hx).2 K hu e2
 ·obtain ⟨x, hx⟩ : ∃ x, x ∈ G.filter (fun x => decide (topM l x = d)) := by
    cases e : G.filter (fun x => decide (topM l x = d)) with
    | nil => rw [e] at h0; exact absurd rfl h0
    | cons x _ => exact ⟨x, by simp⟩
  obtain ⟨h1, h2⟩ := hD x hx
  have hat : lin (ind d) (t :: r) ≠ 0 := by
   rw [hs, hsp, ev_at ho hl hD, ev_off ho hl hE]
   intro e
   apply h0
   grind
  obtain ⟨s, hs1, hs2⟩ : ∃ s ∈ t :: r, s.m = d := by
   refine Classical.byContradiction fun hn => hat (lin_ind_not fun p hp e => hn ⟨p, hp, e⟩)
  have le1 : kc o t.m d ≤ 0 := by
   refine Int.not_lt.1 fun hlt => ?_
   have h3 := kc_anti o t.m d
   have hB : Bel o l t.m G := fun y hy => ⟨(hG y hy).1, kc_le_lt (hG y hy).2 (by omega)⟩
   have h4 := hs (ind t.m)
   rw [tl, ev_off ho hl hB] at h4
   exact tq h4
  have le2 : kc o s.m t.m ≤ 0 := by
   rcases List.mem_cons.1 hs1 with rfl | h
   ·rw [kc_self]; exact Int.le_refl _
   ·have h3 := (List.pairwise_cons.1 hr.sta.fall).1 s h
    rw [kc_mon ho tm (hr.sta.good s hs1)] at h3
    have := kc_anti o t.m s.m
    omega
  rw [hs2] at le2
  have h3 := kc_anti o t.m d
  have e : t.m = d := (kc_zero (o := o)).1 (by omega)
  exact ⟨x.2.2, x.2.1, h1.ne, h1.nn, by rw [e]; exact h2⟩
def cmb (i : Nat) (k : Rat) (q : List TermD) : Cmb := q.map fun t => (k * qv t.c, t.m, i)
theorem ev_cmb (f : MonD → Rat) (i : Nat) (k : Rat) : ∀ q : List TermD, ev f l (cmb i k q) = k * linP f (polAt l i) q
 | [] => by show (0 : Rat) = k * 0; grind
 | t :: q => by
   show k * qv t.c * lin (fun m => f (addM m t.m)) (polAt l i) + ev f l (cmb i k q) = k * (qv t.c * lin (fun m => f (addM m t.m)) (polAt l i) + linP f (polAt l i) q)
   rw [ev_cmb f i k q]; grind
theorem linP_nil' (f : MonD → Rat) : ∀ q : List TermD, linP f [] q = 0
 | [] => rfl
 | t :: q => by
   show qv t.c * 0 + linP f [] q = 0
   rw [linP_nil' f q]; grind
theorem cmb_any (i : Nat) (k : Rat) {q : List TermD} (hq : ∀ x ∈ q, Nn x.m) : ∃ G, (∀ x ∈ G, Gen l x) ∧ ∀ f, k * linP f (polAt l i) q = ev f l G := by
 by_cases h : polAt l i = []
 ·exact ⟨[], fun x h => (by cases h), fun f => by rw [h, linP_nil']; show k * 0 = (0 : Rat); grind⟩
 ·refine ⟨cmb i k q, fun x hx => ?_, fun f => (ev_cmb f i k q).symm⟩
  obtain ⟨t, ht, rfl⟩ := List.mem_map.1 hx
  exact ⟨h, hq t ht⟩
end
theorem linQ_ev : ∀ (l qs pre : List (List TermD)), (∀ q ∈ qs, ∀ x ∈ q, Nn x.m) → ∃ G, (∀ x ∈ G, Gen (pre ++ l) x) ∧ ∀ f, linQ f l qs = ev f (pre ++ l) G
 | [], _, _, _ => ⟨[], fun x h => (by cases h), fun _ => rfl⟩
 | _ :: _, [], _, _ => ⟨[], fun x h => (by cases h), fun _ => rfl⟩
 | b :: l, q :: qs, pre, h => by
   obtain ⟨G1, g1, e1⟩ := linQ_ev l qs (pre ++ [b]) fun q hq => h q (by simp [hq])
   rw [List.append_assoc, List.singleton_append] at g1 e1
   obtain ⟨G2, g2, e2⟩ := cmb_any (l := pre ++ b :: l) pre.length 1 (h q (by simp))
   have eb : polAt (pre ++ b :: l) pre.length = b := by unfold polAt; rw [List.getD_eq_getElem?_getD]; simp
   rw [eb] at e2
   refine ⟨G2 ++ G1, fun x hx => (List.mem_append.1 hx).elim (g2 x) (g1 x), fun f => ?_⟩
   rw [ev_app, ← e2, ← e1]
   show linP f b q + linQ f l qs = _
   grind
theorem ev_neg (f : MonD → Rat) (l : List (List TermD)) : ∀ G : Cmb, ∃ H : Cmb, (H = G.map fun x => (-x.1, x.2)) ∧ ev f l H = - ev f l G
 | [] => ⟨[], rfl, by show (0 : Rat) = -0; grind⟩
 | x :: G => by
   obtain ⟨H, e, h⟩ := ev_neg f l G
   refine ⟨_, rfl, ?_⟩
   rw [List.map_cons, ← e]
   show -x.1 * _ + ev f l H = -(x.1 * _ + ev f l G)
   rw [h]; grind
theorem ideal_rest {o : Int} {l : List (List TermD)} (hl : ∀ b ∈ l, CP o b) (ht : Tst o l) {z : List TermD} (hz : CP o z) {G : Cmb} (hG : ∀ x ∈ G, Gen l x) (e : ∀ f, lin f z = ev f l G) (h0 : (splitD o z l).1 = 0) : (splitD o z l).2.2 = [] := by
 obtain ⟨qs, r, es, D⟩ := splitD_good hz hl h0
 rw [es]
 show r = []
 cases r with
 | nil => rfl
 | cons t r =>
   exfalso
   have ho := hz.ord
   obtain ⟨G1, g1, e1⟩ := linQ_ev l qs [] fun q hq x hx => by
    obtain ⟨i, hi, rfl⟩ := List.getElem_of_mem hq
    exact monMay_nn ((D.q i _ (ai hi)).canon.sta.good x hx)
   rw [List.nil_append] at g1 e1
   have e2 : ∀ f, lin f (t :: r) = ev f l (G ++ G1.map fun x => (-x.1, x.2)) := fun f => by
    obtain ⟨H, eH, hH⟩ := ev_neg f l G1
    have h1 := D.sum f
    rw [e, e1] at h1
    rw [ev_app, ← eH, hH]
    have h2 : lin f [] = 0 := rfl
    rw [h2] at h1
    grind
   have g2 : ∀ x ∈ G ++ G1.map (fun x => (-x.1, x.2)), Gen l x := fun x hx => by
    rcases List.mem_append.1 hx with hx | hx
    ·exact hG x hx
    ·obtain ⟨y, hy, rfl⟩ := List.mem_map.1 hx
     exact ⟨(g1 y hy).ne, (g1 y hy).nn⟩
   generalize G ++ G1.map (fun x => (-x.1, x.2)) = K at e2 g2
   have tm := D.cr.canon.sta.good t (by simp)
   by_cases hK : K = []
   ·rw [hK] at e2
    have h1 := e2 (ind t.m)
    rw [lin_ind_mem D.cr.canon.sta.keys (show t ∈ t :: r by simp)] at h1
    exact D.cr.ne (t := t) (by simp) h1
   ·obtain ⟨x, hx, hu⟩ := Und.max (o := o) hK g2
    obtain ⟨i, u, h1, h2, h3⟩ := buchberger ho hl ht D.cr.canon _ (topM_nn ho hl (g2 x hx)) K hu e2
    have hlm := ldM_may ho hl h1
    have hi : ∃ v b, l[i]? = some (v :: b) ∧ ldM l i = v.m := by
     unfold polAt at h1
     rw [List.getD_eq_getElem?_getD] at h1
     cases hh : l[i]? with
     | none => rw [hh] at h1; exact absurd rfl h1
     | some y =>
       rw [hh] at h1
       cases y with
       | nil => exact absurd rfl h1
       | cons v b => exact ⟨v, b, rfl, by unfold ldM polAt; rw [List.getD_eq_getElem?_getD, hh]; rfl⟩
    obtain ⟨v, b, hv, ev'⟩ := hi
    have h4 := dividesD_none (D.rd t (by simp)) hv
    rw [ev'] at h3 hlm
    have hum : monMay u = true := by
     have k1 := monMay_of tm
     have k2 := monMay_of hlm
     rw [← h3] at k1
     unfold Nn at h2
     simp only [addM] at k1
     exact monMay_low (by omega)
    rw [monDiv_of tm hlm hum h3] at h4
    cases h4
theorem lexC_nonneg : ∀ {l : List Int}, (∀ a ∈ l, 0 ≤ a) → 0 ≤ lexC l (l.map fun _ => 0)
 | [], _ => by simp [lexC]
 | x :: l, h => by
   have ih := lexC_nonneg (l := l) fun a ha => h a (by simp [ha])
   have hx := h x (by simp)
   simp only [List.map_cons, lexC]
   split
   ·have := cmpI_le (x := 0) (y := x)
    unfold cmpI
    split <;> (try split) <;> omega
   ·exact ih
theorem monCmp_zeroM {o : Int} {x : MonD} (ho : oOk o) (hx : monMay x = true) : 0 ≤ monCmp o x zeroM := by
 obtain ⟨h0, h1, h2, h3⟩ := monMay_of hx
 by_cases e : x = zeroM
 ·rw [(monCmp_zero ho hx monMay_zero).2 e]
  exact Int.le_refl _
 rw [monCmp_key ho hx monMay_zero]
 unfold mkey
 have hd := monDeg_of hx
 have hz : monDeg zeroM = 0 := by rw [monDeg_of monMay_zero]; rfl
 have hpos : 0 < monDeg x := by
  rw [hd]
  refine Classical.byContradiction fun hn => e ?_
  cases x
  simp only [zeroM, MonD.mk.injEq] at *
  omega
 have hc : cmpI (monDeg x) 0 = 1 := by
  unfold cmpI
  split <;> (try split) <;> omega
 split
 ·exact lexC_nonneg (l := x.l) fun a ha => by
    simp only [MonD.l, List.mem_cons, List.not_mem_nil, or_false] at ha
    rcases ha with rfl | rfl | rfl | rfl <;> omega
 ·split
  ·rw [hz]
   simp only [lexC, hc]
   rw [if_pos (by decide)]
   decide
  ·rw [hz]
   simp only [lexC, hc]
   rw [if_pos (by decide)]
   decide
end Go.Proofs.YtgjkgkgieeoalaaGreat
