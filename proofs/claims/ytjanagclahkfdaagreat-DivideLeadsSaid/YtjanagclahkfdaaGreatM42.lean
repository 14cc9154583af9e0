/- Parts of the proof, joined: what each says stands at its head. -/
import Derived.Test.YtjanagclahkfdaaGreatM41
set_option linter.unusedVariables false
set_option linter.unusedSimpArgs false
set_option maxHeartbeats 24000000
set_option maxRecDepth 100000
namespace Go.Proofs.YtjanagclahkfdaaGreat
theorem polMul_err {o : Int} {p q : List TermD} (h : (polMul o p q).1 ≠ 0) : (polMul o p q).2 = [] := by
 unfold polMul at h ⊢
 split at h
 ·rename_i h1; rw [if_pos h1]
 ·rename_i h1
  rw [if_neg h1]
  split at h
  ·rename_i h2; rw [if_pos h2]
  ·rename_i h2
   rw [if_neg h2]
   unfold polMake at h ⊢
   split at h
   ·rename_i h3; rw [if_pos h3]
   ·rename_i h3
    rw [if_neg h3]
    split at h
    ·rename_i h4; rw [if_pos h4]
    ·rename_i h4
     rw [if_neg h4]
     split at h
     ·rename_i h5; rw [if_pos h5]
     ·exact absurd rfl h
theorem back_step {o : Int} {s b q : List TermD} (hs : CP o s) (hb : CP o b) (hq : CP o q) (hf : ∀ t ∈ q, Fits b t.m) :
    ((polMul o b q).1 = 0 ∨ (polMul o b q).1 = 90 ∨ (polMul o b q).1 = 21) ∧ ((polMul o b q).1 = 0 → (polAdd o [s, (polMul o b q).2]).1 = 0 → CP o (polAdd o [s, (polMul o b q).2]).2 ∧ ∀ f, lin f (polAdd o [s, (polMul o b q).2]).2 = lin f s + linP f b q) := by
 refine ⟨?_, fun h0 h1 => ?_⟩
 ·have := polMul_code hb hq hf
  omega
 ·obtain ⟨a1, a2, _⟩ := polMul_good hb hq h0
  obtain ⟨b1, b2⟩ := polAdd_good (o := o) (ps := [s, (polMul o b q).2]) (fun x hx => by
   simp only [List.mem_cons, List.not_mem_nil, or_false] at hx
   rcases hx with rfl | rfl
   ·exact hs
   ·exact a1) h1
  refine ⟨b1, fun f => ?_⟩
  rw [b2, List.flatten_cons, List.flatten_cons, List.flatten_nil, List.append_nil, lin_app, a2]
theorem DivI.cq {o : Int} {l qs : List (List TermD)} {P0 p r : List TermD} (h : DivI o l P0 p qs r) {i : Nat} {b q : List TermD} (hb : l[i]? = some b) (hq : qs[i]? = some q) : CP o q ∧ ∀ t ∈ q, Fits b t.m := by
 have Q := h.q i q hq
 refine ⟨⟨Q.canon, Q.len⟩, fun t ht => ?_⟩
 obtain ⟨u, b', h1, h2, _⟩ := Q.each t ht
 rw [hb] at h1
 injection h1 with h1
 subst h1
 exact h2
theorem leads_rest {o : Int} {l qs : List (List TermD)} {P0 p r : List TermD} (h : DivI o l P0 p qs r) {i : Nat} {u s : TermD} {b : List TermD} (hi : l[i]? = some (u :: b)) (hs : s ∈ r) : (monDiv s.m u.m).1 = false := dividesD_none (h.rd s hs) hi
theorem leads_quot {o : Int} {l qs : List (List TermD)} {P0 p r : List TermD} (hP : CP o P0) (hl : ∀ b ∈ l, CP o b) (h : DivI o l P0 p qs r) {i : Nat} {u x : TermD} {b q : List TermD} (hi : l[i]? = some (u :: b)) (hq : qs[i]? = some (x :: q)) :
    monMul x.m u.m = (0, addM x.m u.m) ∧ ∃ t0 ps0, P0 = t0 :: ps0 ∧ monCmp o (addM x.m u.m) t0.m ≤ 0 := by
 have Q := h.q i _ hq
 obtain ⟨u', b', h1, h2, _, t0, ps0, h3, h4⟩ := Q.each x (by simp)
 rw [hi] at h1
 injection h1 with h1
 injection h1 with h1 h1'
 subst h1 h1'
 have hm := h2 u (by simp)
 have xm := (Q.canon.good x (by simp)).m
 have um := ((hl _ (List.mem_of_getElem? hi)).canon.good u (by simp)).m
 rw [addM_comm] at hm
 refine ⟨monMul_of xm um hm, t0, ps0, h3, ?_⟩
 have := monCmp_anti hP.ord (hP.canon.good t0 (by rw [h3]; simp)).m hm
 rw [addM_comm u.m] at h4
 omega
theorem rest_again {o : Int} {l : List (List TermD)} : ∀ (n : Nat) (p : List TermD) (qs : List (List TermD)) (r : List TermD) (k : Nat), (∀ t ∈ p, dividesD l t.m = none) → r.length + p.length ≤ 60 → p.length < n → splitF o l n p qs r k = (0, qs, r ++ p)
 | 0, _, _, _, _, _, _, h => by omega
 | n + 1, [], qs, r, k, _, _, _ => by simp [splitF]
 | n + 1, t :: p, qs, r, k, h, hl, hn => by
   simp only [List.length_cons] at hl hn
   unfold splitF
   rw [h t (by simp)]
   dsimp only
   rw [if_neg (by omega), rest_again n p qs (r ++ [t]) k (fun s hs => h s (by simp [hs])) (by simp; omega) (by omega)]
   simp
theorem splitD_rest {o : Int} {p : List TermD} {l : List (List TermD)} (hp : CP o p) (hl : ∀ b ∈ l, CP o b) (h24 : l.length ≤ 24) (h : ∀ t ∈ p, dividesD l t.m = none) : splitD o p l = (0, List.replicate l.length [], p) := by
 rw [splitD_F hp hl h24, rest_again _ p _ [] 0 h (by have := hp.len; simp; omega) (by have := hp.len; omega)]
 simp
theorem lead_lin {o : Int} {u v : TermD} {p b s : List TermD} (hb : CP o (u :: b)) (hs : Canon o (v :: s)) (hf : ∀ x ∈ v :: s, Fits (u :: b) x.m) (hp : CP o p) (hl : ∀ f, lin f p = linP f (u :: b) (v :: s)) :
    ∃ t p', p = t :: p' ∧ t.m = addM u.m v.m ∧ qv t.c = qv u.c * qv v.c := by
 have ho := hb.ord
 have gb := hb.canon.sta.good
 have gs := hs.sta.good
 obtain ⟨fs, _⟩ := List.pairwise_cons.1 hs.sta.fall
 have fb := hb.below
 have W := hf v (by simp) u (by simp)
 have lt1 : ∀ x ∈ b, ∀ y ∈ v :: s, monCmp o (addM x.m y.m) (addM u.m y.m) < 0 := fun x hx y hy =>
  mulM_lt ho (gb u (by simp)) (gb x (by simp [hx])) (gs y hy) (hf y hy u (by simp)) (hf y hy x (by simp [hx])) (fb x hx)
 have lt2 : ∀ y ∈ s, monCmp o (addM u.m y.m) (addM u.m v.m) < 0 := fun y hy => by
  have := mulM_lt ho (gs v (by simp)) (gs y (by simp [hy])) (gb u (by simp)) (by rw [addM_comm]; exact W) (by rw [addM_comm]; exact hf y (by simp [hy]) u (by simp)) (fs y hy)
  rwa [addM_comm y.m, addM_comm v.m] at this
 have lt3 : ∀ x ∈ u :: b, ∀ y ∈ s, monCmp o (addM x.m y.m) (addM u.m v.m) < 0 := fun x hx y hy => by
  have hy' : y ∈ v :: s := by simp [hy]
  rcases List.mem_cons.1 hx with rfl | hx
  ·exact lt2 y hy
  ·exact monCmp_lt ho (hf y hy' x (by simp [hx])) (hf y hy' u (by simp)) W (lt1 x hx y hy') (lt2 y hy)
 have ne : ∀ {m : MonD}, monMay m = true → monCmp o m (addM u.m v.m) < 0 → m ≠ addM u.m v.m := fun hm h e => by
  have := (monCmp_zero ho hm W).2 e
  omega
 have hG : lin (ind (addM u.m v.m)) p = qv u.c * qv v.c := by
  rw [hl]
  unfold linP
  simp only [lin]
  rw [lin_van (p := s) (fun y hy => ?_), lin_van (p := b) (fun x hx => ?_)]
  ·unfold ind
   rw [if_pos rfl]
   grind
  ·unfold ind
   rw [if_neg (ne (hf v (by simp) x (by simp [hx])) (lt1 x hx v (by simp)))]
  ·show qv u.c * ind (addM u.m v.m) (addM u.m y.m) + lin (fun m => ind (addM u.m v.m) (addM m y.m)) b = 0
   have hy' : y ∈ v :: s := by simp [hy]
   rw [lin_van (p := b) (fun x hx => ?_)]
   ·unfold ind
    rw [if_neg (ne (hf y hy' u (by simp)) (lt3 u (by simp) y hy))]
    grind
   ·unfold ind
    rw [if_neg (ne (hf y hy' x (by simp [hx])) (lt3 x (by simp [hx]) y hy))]
 have hne : qv u.c * qv v.c ≠ 0 := by
  have a1 := hb.ne (t := u) (by simp)
  have a2 := (hs.good v (by simp)).ne (hs.nz v (by simp))
  intro h
  rcases Rat.mul_eq_zero.1 h with h | h
  ·exact a1 h
  ·exact a2 h
 have hle : ∀ x ∈ p, monCmp o x.m (addM u.m v.m) ≤ 0 := fun x hx => by
  refine Classical.byContradiction fun hn => ?_
  have xm := (hp.canon.good x hx).m
  have h1 := lin_ind_mem hp.canon.sta.keys hx
  rw [hl] at h1
  refine hp.ne hx (h1.symm.trans ?_)
  refine lin_van fun y hy => lin_van fun z hz => ?_
  unfold ind
  rw [if_neg]
  intro e
  rw [← e] at hn
  refine hn ?_
  rcases List.mem_cons.1 hy with rfl | hy
  ·rcases List.mem_cons.1 hz with rfl | hz
   ·exact Int.le_of_eq ((monCmp_zero ho W W).2 rfl)
   ·exact Int.le_of_lt (lt1 z hz y (by simp))
  ·exact Int.le_of_lt (lt3 z hz y hy)
 have hex : ∃ x ∈ p, x.m = addM u.m v.m := by
  refine Classical.byContradiction fun hn => ?_
  rw [lin_ind_not (fun x hx e => hn ⟨x, hx, e⟩)] at hG
  exact hne hG.symm
 obtain ⟨x, hx, ex⟩ := hex
 match p, hp, hle, hx, hG with
 | y :: r, hp, hle, hx, hG =>
   have em : y.m = addM u.m v.m := by
    rcases List.mem_cons.1 hx with rfl | hx
    ·exact ex
    ·have h1 := hp.below x hx
     have h2 := hle y (by simp)
     rw [ex] at h1
     omega
   refine ⟨y, r, rfl, em, ?_⟩
   rw [← hG, ← em]
   exact (lin_ind_mem hp.canon.sta.keys (by simp)).symm
theorem again_F {o : Int} {u : TermD} {b : List TermD} (hb : CP o (u :: b)) : ∀ (n : Nat) (p s : List TermD) (qs : List (List TermD)) (k : Nat), CP o p → Canon o s → (∀ x ∈ s, Fits (u :: b) x.m) → (∀ f, lin f p = linP f (u :: b) s) →
    qs.length = 1 → (splitF o [u :: b] n p qs [] k).1 = 0 → (splitF o [u :: b] n p qs [] k).2.2 = []
 | 0, _, _, _, _, _, _, _, _, _, _ => rfl
 | n + 1, [], _, _, _, _, _, _, _, _, _ => rfl
 | n + 1, t :: p, [], _, _, hp, _, _, hl, _, _ => by
   have : t :: p = [] := hp.eq (.nil hb.ord) fun f => by rw [hl]; rfl
   cases this
 | n + 1, t :: p, v :: s, qs, k, hp, hs, hf, hl, hq, h0 => by
   obtain ⟨t', p', e, em, ev⟩ := lead_lin hb hs hf hp hl
   injection e with e1 e2
   subst e1 e2
   have tm := (hp.canon.good t (by simp)).m
   have hd : monDiv t.m u.m = (true, v.m) := monDiv_of tm (hb.canon.good u (by simp)).m (hs.sta.good v (by simp)) em.symm
   have hdv : dividesD [u :: b] t.m = some (0, v.m) := by unfold dividesD; rw [hd]; rfl
   obtain ⟨q, rfl⟩ : ∃ q, qs = [q] := by
    match qs, hq with
    | [q], _ => exact ⟨q, rfl⟩
   unfold splitF at h0 ⊢
   rw [hdv] at h0 ⊢
   dsimp only at h0 ⊢
   rw [show [u :: b].getD 0 [] = u :: b from rfl, show [q].getD 0 [] = q from rfl] at h0 ⊢
   by_cases hmv : (moveD o (t :: p) (u :: b) q k v.m).1 = 0
   case neg => rw [if_pos (by simpa using hmv)] at h0; exact absurd h0 hmv
   rw [if_neg (by simpa using hmv)] at h0 ⊢
   obtain ⟨c, y, e3, M⟩ := moveD_good hp hb hd hmv
   rw [e3] at h0 ⊢
   dsimp only at h0 ⊢
   have vc : qv c = qv v.c := by
    have h1 := M.val
    have hu := hb.ne (t := u) (by simp)
    rw [ev, Rat.mul_comm (qv u.c)] at h1
    have h2 : qv c * qv u.c * (qv u.c)⁻¹ = qv v.c * qv u.c * (qv u.c)⁻¹ := by rw [h1]
    rwa [Rat.mul_assoc, Rat.mul_assoc, Rat.mul_inv_cancel _ hu, Rat.mul_one, Rat.mul_one] at h2
   refine again_F hb n y s _ (k + 1) M.cp hs.tl (fun x hx => hf x (by simp [hx])) (fun f => ?_) (by simp) h0
   have h1 := M.lin f
   rw [hl] at h1
   unfold linP at h1 ⊢
   simp only [lin] at h1 ⊢
   rw [vc] at h1
   grind
theorem again_law {o : Int} {b p : List TermD} (hb : CP o b) (hne : b ≠ []) (hp : CP o p) (h0 : (polMul o b p).1 = 0) (h1 : (splitD o (polMul o b p).2 [b]).1 = 0) : (splitD o (polMul o b p).2 [b]).2.2 = [] := by
 obtain ⟨a1, a2, a3⟩ := polMul_good hb hp h0
 match b, hne with
 | u :: b, _ =>
   have e := splitD_F (l := [u :: b]) a1 (fun x hx => by simp only [List.mem_singleton] at hx; subst hx; exact hb) (by simp)
   rw [e] at h1 ⊢
   exact again_F hb _ _ p _ 0 a1 hp.canon a3 a2 (by simp) h1
theorem none_law {o : Int} {p : List TermD} (hp : CP o p) (n : Nat) : splitD o p (List.replicate n []) = if n ≤ 24 then (0, List.replicate n [], p) else (1, [], []) := by
 by_cases h : n ≤ 24
 ·rw [if_pos h]
  have := splitD_rest (l := List.replicate n []) hp (fun b hb => by rw [List.eq_of_mem_replicate hb]; exact .nil hp.ord) (by simpa using h) fun t _ => dividesD_no fun u b hb => by
   have := List.eq_of_mem_replicate hb
   cases this
  simpa using this
 ·rw [if_neg h]
  unfold splitD
  rw [if_pos]
  rw [List.length_replicate, decide_eq_false h]
  simp
theorem ints_of {M : Nat} {p : List TermD} {t : TermD} (h : Ints M p) (ht : t ∈ p) : ∃ z : Int, t.c = ofD z ∧ z.natAbs ≤ M := by
 obtain ⟨z, e⟩ := h.int t ht
 refine ⟨z, e, ?_⟩
 have := Nat.le_trans (mass_mem ht) h.mass
 rwa [e, val_ofD] at this
theorem val_ofQ (x : Rat) : val (ofQ x).num = x.num.natAbs ∧ val (ofQ x).den = x.den := ⟨val_limbs _, val_limbs _⟩
theorem inv_int {n : Int} (h0 : n ≠ 0) (h : n.natAbs < 1000000) : ∃ r, invD (ofD n) = (0, r) ∧ GoodR r ∧ qv r = (n : Rat)⁻¹ ∧ val r.num ≤ 1 ∧ val r.den < 1000000 := by
 have g : GoodR (ofD n) := ofD_good (Nat.lt_trans h (by decide))
 obtain ⟨e, hf⟩ := invD_q g (ofD_num h0)
 refine ⟨_, e, ofQ_good hf, by rw [qv_ofQ, qv_ofD], ?_⟩
 have e2 : (invD (ofD n)).2 = ⟨(ofD n).neg, (ofD n).den, (ofD n).num⟩ := by
  unfold invD
  rw [g.may, if_neg (by simp), if_neg (ofD_num h0)]
 rw [← show (invD (ofD n)).2 = ofQ (qv (ofD n))⁻¹ by rw [e], e2]
 refine ⟨?_, by rw [val_ofD]; exact h⟩
 show val (ofD n).den ≤ 1
 exact Nat.le_refl 1
theorem lit_small {x y : Nat} (h : x ≤ 1000000) (h' : y ≤ 1000000) : x * y < 18446744073709551616 ^ 8 :=
 Nat.lt_of_le_of_lt (Nat.mul_le_mul h h') (by decide)
theorem one_move {o : Int} {t : TermD} {p q : List TermD} {n : Int} {k : Nat} (hn : n ≠ 0) (hn1 : n.natAbs ≤ 1000) (hp : SmP o (t :: p)) (hb : CP o [⟨ofD n, zeroM⟩]) (hk : k < 400) (hq : q.length < 60) :
    ∃ c, moveD o (t :: p) [⟨ofD n, zeroM⟩] q k t.m = (0, p, q ++ [⟨c, t.m⟩]) := by
 have hc := hp.cp
 have tm := (hc.canon.good t (by simp)).m
 obtain ⟨z, ez, hz⟩ := ints_of hp.pol.ints (t := t) (by simp)
 have hz0 : z ≠ 0 := fun e => hc.ne (t := t) (by simp) (by rw [ez, qv_ofD, e]; rfl)
 have gt := (hc.canon.good t (by simp)).c
 obtain ⟨i, e1, gi, vi, ni, di⟩ := inv_int hn (Nat.lt_of_le_of_lt hn1 (by decide))
 have vt : val t.c.num = z.natAbs ∧ val t.c.den = 1 := ⟨by rw [ez, val_ofD], by rw [ez]; rfl⟩
 obtain ⟨m1, m2, m3, m4, m5⟩ := mulD_small gt gi (lit_small (by omega) (by omega)) (lit_small (by omega) (by omega))
 obtain ⟨c, hc'⟩ : ∃ c, (mulD t.c i).2 = c := ⟨_, rfl⟩
 rw [hc'] at m2 m3 m4 m5
 have cn : val c.num ≤ 1280 := Nat.le_trans m4 (Nat.le_trans (Nat.mul_le_mul (show val t.c.num ≤ 1280 by omega) ni) (by decide))
 have cd : val c.den ≤ 1000000 := Nat.le_trans m5 (Nat.le_trans (Nat.mul_le_mul (show val t.c.den ≤ 1 by omega) (Nat.le_of_lt di)) (by decide))
 have hnq : (n : Rat) ≠ 0 := fun h => hn (by exact_mod_cast h)
 have vc : qv c * (n : Rat) = (z : Rat) := by rw [m3, vi, ez, qv_ofD, Rat.mul_assoc, Rat.inv_mul_cancel _ hnq, Rat.mul_one]
 have vc0 : qv c ≠ 0 := fun h => by
  rw [h, Rat.zero_mul] at vc
  exact hz0 (by exact_mod_cast vc.symm)
 obtain ⟨gn, vn⟩ := negD_q m2
 have zT : nz ⟨negD c, t.m⟩ = true := nz_of gn (by rw [vn]; intro h; exact vc0 (by grind))
 have nn : val (negD c).num = val c.num ∧ val (negD c).den = val c.den := by unfold negD; split <;> exact ⟨rfl, rfl⟩
 have gb : GoodR (ofD n) := (hb.canon.good ⟨ofD n, zeroM⟩ (by simp)).c
 obtain ⟨r1, r2, r3, _, _⟩ := mulD_small gb gn (by rw [nn.1, val_ofD]; exact lit_small (by omega) (by omega)) (by rw [nn.2]; exact lit_small (show val (ofD n).den ≤ 1000000 from (by decide : 1 ≤ 1000000)) (by omega))
 have er : (mulD (ofD n) (negD c)).2 = ofD (-z) := by
  refine r2.inj (ofD_good (Nat.lt_of_le_of_lt (show (-z).natAbs ≤ 1280 by rw [Int.natAbs_neg]; exact hz) (by decide))) ?_
  rw [r3, qv_ofD, qv_ofD, vn, Rat.intCast_neg, ← vc]
  grind
 have az : addM zeroM t.m = t.m := by rw [addM_comm]; exact addM_zero _
 have et : polTimes o [⟨ofD n, zeroM⟩] ⟨negD c, t.m⟩ = (0, [⟨ofD (-z), t.m⟩]) := by
  rw [polTimes_timesL (t := (⟨negD c, t.m⟩ : TermD)) hb ⟨gn, tm⟩ zT, timesL_cons, if_neg (by simpa using r1)]
  have e5 : monMul zeroM t.m = (0, t.m) := by rw [monMul_of monMay_zero tm (by rw [az]; exact tm), az]
  rw [e5, if_neg (by simp)]
  unfold timesL
  rw [if_neg (by simp), er]
 have cz : CP o [⟨ofD (-z), t.m⟩] := by
  have gz : GoodR (ofD (-z)) := ofD_good (Nat.lt_of_le_of_lt (show (-z).natAbs ≤ 1280 by rw [Int.natAbs_neg]; exact hz) (by decide))
  refine ⟨⟨⟨hc.ord, fun s hs => ?_, List.pairwise_singleton _ _⟩, GoodP.cons ⟨gz, tm⟩ .nil, fun s hs => ?_⟩, by simp⟩
  ·simp only [List.mem_singleton] at hs; subst hs; exact tm
  ·simp only [List.mem_singleton] at hs; subst hs
   refine nz_of gz ?_
   rw [qv_ofD]
   intro h
   exact hz0 (by have : -z = 0 := by exact_mod_cast h
                 omega)
 have ea : polAdd o [t :: p, [⟨ofD (-z), t.m⟩]] = (0, p) := by
  rw [polAdd_make fun x hx => by
   simp only [List.mem_cons, List.not_mem_nil, or_false] at hx
   rcases hx with rfl | rfl
   ·exact hc
   ·exact cz]
  rw [show [t :: p, [⟨ofD (-z), t.m⟩]].flatten = t :: p ++ [⟨ofD (-z), t.m⟩] by simp]
  have h1 := sum_ok hc.ord (hp.pol.ints.app (Ints.one (n := -z) tm)) (by rw [Int.natAbs_neg]; omega)
  refine h1.eq hc.canon.tl (fun f => ?_) (by have := hc.tl.len; exact this)
  rw [lin_app]
  simp only [lin]
  rw [ez, qv_ofD, qv_ofD, Rat.intCast_neg]
  grind
 refine ⟨c, ?_⟩
 unfold moveD
 dsimp only
 rw [if_neg (by omega), e1]
 dsimp only
 rw [if_neg (by simpa using m1), if_neg (by omega), hc', et]
 dsimp only
 rw [if_neg (by simp), ea]
 rw [if_neg (by simp)]
theorem SmP.tl {o : Int} {t : TermD} {p : List TermD} (h : SmP o (t :: p)) : SmP o p := by
 obtain ⟨⟨hi, hc, hl⟩, low, h10⟩ := h
 simp only [List.length_cons] at hl h10
 refine ⟨⟨⟨hi.int.tl, fun s hs => hi.good s (by simp [hs]), ?_⟩, hc.tl, by omega⟩, fun s hs => low s (by simp [hs]), by omega⟩
 have := hi.mass
 unfold mass at this
 omega
theorem one_F {o : Int} {n : Int} (hn : n ≠ 0) (hn1 : n.natAbs ≤ 1000) (hb : CP o [⟨ofD n, zeroM⟩]) : ∀ (j : Nat) (p q : List TermD) (k : Nat), SmP o p → p.length < j → k + p.length ≤ 400 → q.length + p.length ≤ 60 →
    ∃ Q, splitF o [[⟨ofD n, zeroM⟩]] j p [q] [] k = (0, [Q], []) ∧ Q.length = q.length + p.length
 | 0, _, _, _, _, h, _, _ => by omega
 | j + 1, [], q, k, _, _, _, _ => ⟨q, rfl, rfl⟩
 | j + 1, t :: p, q, k, hp, hj, hk, hq => by
   simp only [List.length_cons] at hj hk hq
   have tm := (hp.cp.canon.good t (by simp)).m
   have hd : monDiv t.m zeroM = (true, t.m) := monDiv_of tm monMay_zero tm (by rw [addM_comm]; exact addM_zero _)
   have hdv : dividesD [[⟨ofD n, zeroM⟩]] t.m = some (0, t.m) := by unfold dividesD; rw [hd]; rfl
   obtain ⟨c, e⟩ := one_move (q := q) hn hn1 hp hb (by omega : k < 400) (by omega)
   unfold splitF
   rw [hdv]
   dsimp only
   rw [show [[(⟨ofD n, zeroM⟩ : TermD)]].getD 0 [] = [⟨ofD n, zeroM⟩] from rfl, show [q].getD 0 [] = q from rfl, e, if_neg (by simp)]
   dsimp only
   obtain ⟨Q, h1, h2⟩ := one_F hn hn1 hb j p (q ++ [⟨c, t.m⟩]) (k + 1) hp.tl (by omega) (by omega) (by simp; omega)
   exact ⟨Q, h1, by rw [h2]; simp; omega⟩
theorem cp_num {o n : Int} (ho : oOk o) (hn : n ≠ 0) (hn1 : n.natAbs ≤ 1000) : CP o [⟨ofD n, zeroM⟩] := by
 have g : GoodR (ofD n) := ofD_good (Nat.lt_of_le_of_lt hn1 (by decide))
 refine ⟨⟨⟨ho, fun s hs => ?_, List.pairwise_singleton _ _⟩, GoodP.cons ⟨g, monMay_zero⟩ .nil, fun s hs => ?_⟩, by simp⟩
 ·simp only [List.mem_singleton] at hs; subst hs; exact monMay_zero
 ·simp only [List.mem_singleton] at hs; subst hs
  refine nz_of g ?_
  rw [qv_ofD]
  intro h
  exact hn (by exact_mod_cast h)
theorem one_num {o n : Int} {p : List TermD} (hp : SmP o p) (hn : n ≠ 0) (hn1 : n.natAbs ≤ 1000) : ∃ Q, splitD o p [[⟨ofD n, zeroM⟩]] = (0, [Q], []) ∧ Q.length = p.length := by
 have hb := cp_num hp.cp.ord hn hn1
 rw [splitD_F hp.cp (fun x hx => by simp only [List.mem_singleton] at hx; subst hx; exact hb) (by simp)]
 have h10 := hp.len
 obtain ⟨Q, h1, h2⟩ := one_F hn hn1 hb (400 * 61 + 61) p [] 0 hp (by omega) (by omega) (by simp; omega)
 exact ⟨Q, h1, by rw [h2]; simp⟩
theorem one_self {o : Int} {t : TermD} {p : List TermD} (hp : SmP o (t :: p)) : splitD o (t :: p) [t :: p] = (0, [[⟨ofD 1, zeroM⟩]], []) := by
 have hc := hp.cp
 have tm := (hc.canon.good t (by simp)).m
 rw [splitD_F hc (fun x hx => by simp only [List.mem_singleton] at hx; subst hx; exact hc) (by simp)]
 have hd : monDiv t.m t.m = (true, zeroM) := monDiv_of tm tm monMay_zero (addM_zero _)
 have hdv : dividesD [t :: p] t.m = some (0, zeroM) := by unfold dividesD; rw [hd]; rfl
 obtain ⟨z, ez, hz⟩ := ints_of hp.pol.ints (t := t) (by simp)
 have hz0 : z ≠ 0 := fun e => hc.ne (t := t) (by simp) (by rw [ez, qv_ofD, e]; rfl)
 have gt := (hc.canon.good t (by simp)).c
 obtain ⟨i, e1, gi, vi, ni, di⟩ := inv_int hz0 (Nat.lt_of_le_of_lt hz (by decide))
 have vt : val t.c.num = z.natAbs ∧ val t.c.den = 1 := ⟨by rw [ez, val_ofD], by rw [ez]; rfl⟩
 obtain ⟨m1, m2, m3, _, _⟩ := mulD_small gt gi (lit_small (by omega) (by omega)) (lit_small (by omega) (by omega))
 have hzq : (z : Rat) ≠ 0 := fun h => hz0 (by exact_mod_cast h)
 have em : (mulD t.c i).2 = ofD 1 := by
  refine m2.inj (ofD_good (by decide)) ?_
  rw [m3, vi, ez, qv_ofD, qv_ofD, Rat.mul_inv_cancel _ hzq]; rfl
 have zT : nz ⟨ofD (-1), zeroM⟩ = true := nz_of (ofD_good (by decide)) (by rw [qv_ofD]; decide)
 have et : polTimes o (t :: p) ⟨ofD (-1), zeroM⟩ = (0, polMinus (t :: p)) := by
  rw [polTimes_int hp.pol (by decide) ⟨-1, rfl⟩ monMay_zero (by rw [val_ofD]; decide) (fun s hs => by rw [addM_zero]; exact (hc.canon.good s hs).m) zT]
  refine congrArg (Prod.mk 0) (List.map_congr_left fun s hs => ?_)
  obtain ⟨x, ex, hx⟩ := ints_of hp.pol.ints hs
  obtain ⟨s1, s2, s3, _, _⟩ := mulD_small (hc.canon.good s hs).c (ofD_good (n := -1) (by decide)) (by rw [ex, val_ofD, val_ofD]; exact lit_small (by omega) (by decide)) (by rw [ex]; exact lit_small (show val (ofD x).den ≤ 1000000 from (by decide : 1 ≤ 1000000)) (show val (ofD (-1)).den ≤ 1000000 from (by decide : 1 ≤ 1000000)))
  show (⟨(mulD s.c (ofD (-1))).2, addM s.m zeroM⟩ : TermD) = ⟨negD s.c, s.m⟩
  rw [addM_zero]
  congr 1
  obtain ⟨g1, g2⟩ := negD_q (hc.canon.good s hs).c
  refine s2.inj g1 ?_
  rw [s3, g2, qv_ofD]
  show _ * ((-1 : Int) : Rat) = _
  rw [Rat.intCast_neg]
  grind
 have mv : moveD o (t :: p) (t :: p) [] 0 zeroM = (0, [], [⟨ofD 1, zeroM⟩]) := by
  unfold moveD
  dsimp only
  rw [if_neg (by omega), show invD t.c = (0, i) by rw [ez]; exact e1]
  dsimp only
  rw [if_neg (by simpa using m1), if_neg (by simp), em, negD_ofD, et]
  dsimp only
  rw [if_neg (by simp), ring_minus hp]
  rw [if_neg (by simp)]
  rfl
 show splitF o [t :: p] (24460 + 1) (t :: p) [[]] [] 0 = _
 unfold splitF
 rw [hdv]
 dsimp only
 rw [show [t :: p].getD 0 [] = t :: p from rfl, show [([] : List TermD)].getD 0 [] = [] from rfl, mv, if_neg (by simp)]
 rfl
end Go.Proofs.YtjanagclahkfdaaGreat
