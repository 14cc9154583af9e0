/- Parts of the proof, joined: each theorem says what it shows. -/
import Derived.Test.YtgjkgkgieeoalaaGreatE01
import Derived.Test.YtgjkgkgieeoalaaGreatE29
import Derived.Test.YtgjkgkgieeoalaaGreatE27
import Derived.Test.YtgjkgkgieeoalaaGreatE31
set_option linter.unusedVariables false
set_option linter.unusedSimpArgs false
set_option maxHeartbeats 24000000
set_option maxRecDepth 100000
namespace Go.Proofs.YtgjkgkgieeoalaaGreat
theorem good_one : GoodR (ofD 1) := ofD_good (by decide)
structure Mz (o : Int) (p : List TermD) : Prop where
 pz : Pz o p
 one : (hdT p).c = ofD 1
theorem monic_ok {o : Int} {p : List TermD} (h : Pz o p) (h0 : (polMonic o p).1 = 0) : Mz o (polMonic o p).2 ∧ hdM (polMonic o p).2 = hdM p := by
 obtain ⟨hc, hne⟩ := h
 cases p with
 | nil => exact absurd rfl hne
 | cons t p =>
   have gt := hc.canon.good t (by simp)
   have tz := nz_len (hc.canon.nz t (by simp))
   have tq := hc.ne (t := t) (by simp)
   obtain ⟨i1, i2⟩ := invD_q gt.c tz
   have gi : GoodR (invD t.c).2 := by rw [i1]; exact ofQ_good i2
   have vi : qv (invD t.c).2 = (qv t.c)⁻¹ := by rw [i1]; exact qv_ofQ _
   have ine : qv (invD t.c).2 ≠ 0 := by
    rw [vi]
    intro h
    have := Rat.mul_inv_cancel _ tq
    rw [h, Rat.mul_zero] at this
    exact absurd this (by decide)
   have e : polMonic o (t :: p) = polTimes o (t :: p) ⟨(invD t.c).2, zeroM⟩ := by
    unfold polMonic
    rw [hc.may, if_neg (by simp)]
    simp only
    rw [if_neg (by rw [i1]; simp)]
   have zi : nz ⟨(invD t.c).2, zeroM⟩ = true := nz_of gi ine
   have gT : GoodT ⟨(invD t.c).2, zeroM⟩ := ⟨gi, monMay_zero⟩
   rw [e] at h0 ⊢
   obtain ⟨c1, _, _⟩ := polTimes_good hc gT zi h0
   rw [polTimes_timesL hc gT zi] at h0 c1 ⊢
   obtain ⟨a1, a2⟩ := timesL_good gT hc.canon.good h0
   rw [a1] at c1 ⊢
   have tk := a2 t (by simp)
   refine ⟨⟨⟨c1, by simp⟩, ?_⟩, ?_⟩
   ·show (mulT t ⟨(invD t.c).2, zeroM⟩).c = ofD 1
    refine tk.good.c.inj good_one ?_
    rw [tk.val, qv_ofD]
    show qv t.c * qv (invD t.c).2 = _
    rw [vi, Rat.mul_inv_cancel _ tq]; rfl
   ·exact mulT_zm t _
theorem monics_ok {o : Int} : ∀ {l : List (List TermD)}, (∀ p ∈ l, Pz o p) → (monicsD o l).1 = 0 → (∀ q ∈ (monicsD o l).2, Mz o q) ∧ (monicsD o l).2.map hdM = l.map hdM
 | [], _, _ => ⟨fun q h => (by cases h), rfl⟩
 | p :: l, h, h0 => by
   unfold monicsD at h0 ⊢
   by_cases h1 : (polMonic o p).1 = 0
   case neg => rw [if_pos (by simpa using h1)] at h0; exact absurd h0 h1
   rw [if_neg (by simpa using h1)] at h0 ⊢
   by_cases h2 : (monicsD o l).1 = 0
   case neg => rw [if_pos (by simpa using h2)] at h0; exact absurd h0 h2
   rw [if_neg (by simpa using h2)]
   obtain ⟨a1, a2⟩ := monic_ok (h p (by simp)) h1
   obtain ⟨b1, b2⟩ := monics_ok (fun q hq => h q (by simp [hq])) h2
   refine ⟨fun q hq => ?_, ?_⟩
   ·rcases List.mem_cons.1 hq with rfl | hq
    ·exact a1
    ·exact b1 q hq
   ·rw [List.map_cons, List.map_cons, a2, b2]
theorem basis_len {o : Int} {l : List (List TermD)} (h : ¬ basisD o l = false) : l.length ≤ 24 := by
 unfold basisD at h
 simp only [Bool.not_eq_false, Bool.and_eq_true, decide_eq_true_eq] at h
 exact h.1.2
theorem basis_of {o : Int} (ho : oOk o) {l : List (List TermD)} (h : ∀ p ∈ l, CP o p) (hl : l.length ≤ 24) : ¬ basisD o l = false := by
 unfold basisD
 rw [(CP.nil ho).may, decide_eq_true hl, List.all_eq_true.2 fun p hp => (h p hp).may]
 simp
structure Form (o : Int) (l : List (List TermD)) : Prop where
 mz : ∀ p ∈ l, Mz o p
 nd : Nd l
 rby : ∀ r ∈ l, Rby (l.map hdM) r
theorem heads_M {l l' : List (List TermD)} (e : l.map hdT = l'.map hdT) : l.map hdM = l'.map hdM := by
 have := congrArg (List.map TermD.m) e
 rw [List.map_map, List.map_map] at this
 exact this
theorem full_pz {o : Int} {l : List (List TermD)} (h : ∀ p ∈ l, CP o p) : ∀ p ∈ fullD l, Pz o p := fun p hp => by
 unfold fullD at hp
 obtain ⟨h1, h2⟩ := List.mem_filter.1 hp
 exact ⟨h p h1, fun e => by rw [e] at h2; simp at h2⟩
theorem red_form {o : Int} {l : List (List TermD)} (h : ∀ p ∈ l, CP o p) (h0 : (redD o l).1 = 0) : Form o (redD o l).2 ∧ (redD o l).2.length ≤ 24 ∧ (monicsD o (fullD l)).1 = 0 ∧ (redD o l).2.map hdT = (interD [] (monicsD o (fullD l)).2).map hdT := by
 unfold redD at h0 ⊢
 by_cases hb : basisD o l = false
 ·rw [if_pos hb] at h0; cases h0
 rw [if_neg hb] at h0 ⊢
 have hl := basis_len hb
 by_cases hm : (monicsD o (fullD l)).1 = 0
 case neg => rw [if_pos (by simpa using hm)] at h0; exact absurd h0 hm
 rw [if_neg (by simpa using hm)] at h0 ⊢
 obtain ⟨m1, m2⟩ := monics_ok (full_pz h) hm
 have hlen : (monicsD o (fullD l)).2.length ≤ 24 := by
  have := congrArg List.length m2
  rw [List.length_map, List.length_map] at this
  rw [this]
  exact ah (List.length_filter_le _ _) hl
 generalize hM : (monicsD o (fullD l)).2 = M at m1 hlen h0 ⊢
 obtain ⟨n1, n2⟩ := inter_nd (l := M) fun p hp => (m1 p hp).pz
 have hF := (inter_sub M []).length_le
 rw [List.nil_append] at hF
 generalize interD [] M = F at n1 n2 hF h0 ⊢
 have hR := rests_ok F [] (fun p hp => (m1 p (n2 p (by simpa using hp))).pz) (by simpa using n1) (fun r hr => by cases hr) h0
 rw [List.nil_append] at hR
 obtain ⟨r1, r2⟩ := hR
 generalize (restsD o [] F).2 = R at r1 r2
 have e1 := congrArg List.length r1
 rw [List.length_map, List.length_map] at e1
 refine ⟨⟨fun p hp => ⟨(r2 p hp).1, ?_⟩, n1.heads r1, fun r hr => ?_⟩, by omega, hm, r1⟩
 ·have h1 : hdT p ∈ F.map hdT := by rw [← r1]; exact List.mem_map.2 ⟨p, hp, rfl⟩
  obtain ⟨q, hq, e⟩ := List.mem_map.1 h1
  rw [← e]
  exact (m1 q (n2 q hq)).one
 ·rw [heads_M r1]; exact (r2 r hr).2
theorem Form.perm {o : Int} {l l' : List (List TermD)} (h : Form o l) (hp : l'.Perm l) : Form o l' := by
 refine ⟨fun p hm => h.mz p (hp.mem_iff.1 hm), ?_, fun r hr s hs x hx => h.rby r (hp.mem_iff.1 hr) s hs x ((hp.map hdM).mem_iff.1 hx)⟩
 exact (List.Perm.pairwise_iff (fun {x y} hxy => And.symm hxy) hp.symm).1 h.nd
def crossAll (o : Int) (b : List (List TermD)) : List (Int × Int) → Int × Bool
 | [] => (0, true)
 | x :: r =>
   if (crossD o (b.getD x.1.toNat []) (b.getD x.2.toNat [])).1 ≠ 0 then ((crossD o (b.getD x.1.toNat []) (b.getD x.2.toNat [])).1, false) else
   if (splitD o (crossD o (b.getD x.1.toNat []) (b.getD x.2.toNat [])).2 b).1 ≠ 0 then ((splitD o (crossD o (b.getD x.1.toNat []) (b.getD x.2.toNat [])).2 b).1, false) else
   if (splitD o (crossD o (b.getD x.1.toNat []) (b.getD x.2.toNat [])).2 b).2.2.length ≠ 0 then (0, false) else crossAll o b r
def groebD (o : Int) (l : List (List TermD)) : Int × Bool := if basisD o l = false then (1, false) else crossAll o (fullD l) (allP (fullD l).length)
theorem addM_assoc (a b c : MonD) : addM (addM a b) c = addM a (addM b c) := by
 unfold addM; simp only [MonD.mk.injEq]; omega
theorem addM_left {a b c : MonD} (h : addM a b = addM a c) : b = c := by
 rw [addM_comm a b, addM_comm a c] at h
 exact addM_inj h
def cmw (i : Nat) (k : Rat) (w : MonD) (q : List TermD) : Cmb := q.map fun t => (k * qv t.c, addM t.m w, i)
theorem ev_cmw (f : MonD → Rat) (l : List (List TermD)) (i : Nat) (k : Rat) (w : MonD) : ∀ q : List TermD, ev f l (cmw i k w q) = k * linP (fun m => f (addM m w)) (polAt l i) q
 | [] => by show (0 : Rat) = k * 0; grind
 | t :: q => by
   show k * qv t.c * lin (fun m => f (addM m (addM t.m w))) (polAt l i) + ev f l (cmw i k w q) = k * (qv t.c * lin (fun m => f (addM (addM m t.m) w)) (polAt l i) + linP (fun m => f (addM m w)) (polAt l i) q)
   rw [ev_cmw f l i k w q]
   simp only [addM_assoc]
   grind
theorem test_two {o : Int} {t u : TermD} {p q : List TermD} (hp : SmP o (t :: p)) (hq : SmP o (u :: q)) (h1 : (splitD o (crossD o (t :: p) (u :: q)).2 [t :: p, u :: q]).1 = 0) (h2 : (splitD o (crossD o (t :: p) (u :: q)).2 [t :: p, u :: q]).2.2 = [])
    {x y d : MonD} {a b : Rat} (hx : Nn x) (hy : Nn y) (ex : addM t.m x = d) (ey : addM u.m y = d) (hab : a * qv t.c + b * qv u.c = 0) :
    ∃ G, Bel o [t :: p, u :: q] d G ∧ ∀ f, a * lin (fun m => f (addM m x)) (t :: p) + b * lin (fun m => f (addM m y)) (u :: q) = ev f [t :: p, u :: q] G := by
 obtain ⟨m, b1, b2, e, hm, d1, d2, f1, f2, _, em⟩ := cross_divs hp hq
 obtain ⟨X, Y, Z, C⟩ := cross_good hp hq e d1 d2 f1 f2
 rw [C.eq] at h1 h2
 dsimp only at h1 h2
 have ho := hp.cp.ord
 have hl : ∀ b ∈ [t :: p, u :: q], CP o b := fun b hb => by
  simp only [List.mem_cons, List.not_mem_nil, or_false] at hb
  rcases hb with rfl | rfl
  ·exact hp.cp
  ·exact hq.cp
 obtain ⟨qs, r, es, D⟩ := splitD_good C.cp hl h1
 rw [es] at h2
 have h2 : r = [] := h2
 subst h2
 obtain ⟨q0, q1, rfl⟩ : ∃ q0 q1, qs = [q0, q1] := by
  have := D.ql
  match qs, this with
  | [q0, q1], _ => exact ⟨q0, q1, rfl⟩
 obtain ⟨_, tm, bm1, eb1⟩ := monDiv_true d1
 obtain ⟨_, um, bm2, eb2⟩ := monDiv_true d2
 obtain ⟨w, hw, ew⟩ : ∃ w, Nn w ∧ addM m w = d := by
  refine ⟨subM d m, ?_, ?_⟩
  ·have k1 := monMay_of tm
   have k2 := monMay_of um
   unfold Nn at hx hy ⊢
   rw [em]
   have e1 := congrArg MonD.x0 ex
   have e2 := congrArg MonD.x1 ex
   have e3 := congrArg MonD.x2 ex
   have e4 := congrArg MonD.x3 ex
   have e5 := congrArg MonD.x0 ey
   have e6 := congrArg MonD.x1 ey
   have e7 := congrArg MonD.x2 ey
   have e8 := congrArg MonD.x3 ey
   simp only [addM] at e1 e2 e3 e4 e5 e6 e7 e8
   simp only [subM, maxM]
   omega
  ·obtain ⟨a0, a1, a2, a3⟩ := d
   unfold addM subM
   simp only [MonD.mk.injEq]
   omega
 have xw : x = addM b1 w := by
  refine addM_left (a := t.m) ?_
  rw [ex, ← addM_assoc, eb1, ew]
 have yw : y = addM b2 w := by
  refine addM_left (a := u.m) ?_
  rw [ey, ← addM_assoc, eb2, ew]
 have tq := hp.cp.ne (t := t) (by simp)
 have uq := hq.cp.ne (t := u) (by simp)
 have key : ∀ f : MonD → Rat, a * lin (fun m => f (addM m x)) (t :: p) + b * lin (fun m => f (addM m y)) (u :: q) = (a * qv t.c) * (linP (fun m => f (addM m w)) (t :: p) q0 + linP (fun m => f (addM m w)) (u :: q) q1) := fun f => by
  have s := D.sum (fun m => f (addM m w))
  have s2 : linQ (fun m => f (addM m w)) [t :: p, u :: q] [q0, q1] = linP (fun m => f (addM m w)) (t :: p) q0 + (linP (fun m => f (addM m w)) (u :: q) q1 + 0) := rfl
  rw [s2, C.sum, C.x.lin, C.y.lin] at s
  have n0 : ∀ g : MonD → Rat, lin g [] = 0 := fun _ => rfl
  rw [n0] at s
  have r1 : lin (fun m => f (addM m x)) (t :: p) = lin (fun n => f (addM (addM n b1) w)) (t :: p) := by rw [xw]; simp only [addM_assoc]
  have r2 : lin (fun m => f (addM m y)) (u :: q) = lin (fun n => f (addM (addM n b2) w)) (u :: q) := by rw [yw]; simp only [addM_assoc]
  rw [r1, r2]
  generalize lin (fun n => f (addM (addM n b1) w)) (t :: p) = L1 at s ⊢
  generalize lin (fun n => f (addM (addM n b2) w)) (u :: q) = L2 at s ⊢
  generalize linP (fun m => f (addM m w)) (t :: p) q0 = P0 at s ⊢
  generalize linP (fun m => f (addM m w)) (u :: q) q1 = P1 at s ⊢
  have i1 := Rat.mul_inv_cancel _ tq
  have i2 := Rat.mul_inv_cancel _ uq
  have eb : b = -(a * qv t.c) * (qv u.c)⁻¹ := by
   have : b * qv u.c = -(a * qv t.c) := by grind
   rw [← this, Rat.mul_assoc, i2, Rat.mul_one]
  have c1 : ((1 : Int) : Rat) = 1 := rfl
  have c2 : ((-1 : Int) : Rat) = -1 := rfl
  rw [c1, c2] at s
  have s' : P0 + P1 = (qv t.c)⁻¹ * L1 - (qv u.c)⁻¹ * L2 := by grind
  rw [s', eb]
  have e3 : a * qv t.c * ((qv t.c)⁻¹ * L1) = a * L1 := by
   rw [show a * qv t.c * ((qv t.c)⁻¹ * L1) = a * (qv t.c * (qv t.c)⁻¹) * L1 by grind, i1, Rat.mul_one]
  grind
 have bel : ∀ (i : Nat) (k : Rat) (v : TermD) (s : List TermD) (qi : List TermD), [t :: p, u :: q][i]? = some (v :: s) → [q0, q1][i]? = some qi → Bel o [t :: p, u :: q] d (cmw i k w qi) := fun i k v s qi hi hqi => by
  intro y hy
  obtain ⟨z, hz, rfl⟩ := List.mem_map.1 hy
  have ep : polAt [t :: p, u :: q] i = v :: s := by unfold polAt; rw [List.getD_eq_getElem?_getD, hi]; rfl
  have Q := D.q i qi hqi
  obtain ⟨u', b', g1, g2, _, t0, ps0, g3, g4⟩ := Q.each z hz
  rw [hi] at g1
  injection g1 with g1
  injection g1 with g1 g1'
  subst g1 g1'
  have zm := Q.canon.sta.good z hz
  refine ⟨⟨by rw [ep]; simp, (monMay_nn zm).add hw⟩, ?_⟩
  have et : topM [t :: p, u :: q] (k * qv z.c, addM z.m w, i) = addM (addM v.m z.m) w := by
   unfold topM ldM
   rw [ep, addM_assoc]
  rw [et, ← ew, kc_add]
  have vz := g2 v (by simp)
  have t0m := C.cp.canon.sta.good t0 (by rw [g3]; simp)
  have h5 := C.below hm (v := t0) (by rw [g3]; simp)
  rw [kc_mon ho t0m hm] at h5
  rw [kc_mon ho t0m vz] at g4
  have h6 := kc_anti o (addM v.m z.m) t0.m
  exact kc_le_lt (by omega) h5
 refine ⟨cmw 0 (a * qv t.c) w q0 ++ cmw 1 (a * qv t.c) w q1, (bel 0 _ t p q0 rfl rfl).app (bel 1 _ u q q1 rfl rfl), fun f => ?_⟩
 rw [key, ev_app, ev_cmw, ev_cmw]
 show _ = a * qv t.c * linP _ (t :: p) q0 + a * qv t.c * linP _ (u :: q) q1
 grind
theorem tst_same {o : Int} {l : List (List TermD)} (ho : oOk o) (hl : ∀ b ∈ l, CP o b) {i : Nat} {u v d : MonD} {a b : Rat} (h : polAt l i ≠ []) (e1 : addM (ldM l i) u = d) (e2 : addM (ldM l i) v = d) (hab : a * ldC l i + b * ldC l i = 0) :
    ∃ G, Bel o l d G ∧ ∀ f, a * lin (fun m => f (addM m u)) (polAt l i) + b * lin (fun m => f (addM m v)) (polAt l i) = ev f l G := by
 have e : u = v := addM_left (e1.trans e2.symm)
 subst e
 have h1 := ldC_ne ho hl h
 have h2 : (a + b) * ldC l i = 0 := by grind
 have h3 : a + b = 0 := by
  rcases Rat.mul_eq_zero.1 h2 with h | h
  ·exact h
  ·exact absurd h h1
 refine ⟨[], fun x h => (by cases h), fun f => ?_⟩
 show _ = (0 : Rat)
 rw [← Rat.add_mul, h3]
 grind
theorem groeb_tst {o : Int} {A B : List TermD} (hA : SmP o A) (hB : SmP o B) (h : groebD o [A, B] = (0, true)) : Tst o [A, B] := by
 have ho := hA.cp.ord
 have hl : ∀ b ∈ [A, B], CP o b := fun b hb => by
  simp only [List.mem_cons, List.not_mem_nil, or_false] at hb
  rcases hb with rfl | rfl
  ·exact hA.cp
  ·exact hB.cp
 intro i j u v d a b hi hj hu hv eu ev' hab
 by_cases hij : i = j
 ·subst hij
  exact tst_same ho hl hi eu ev' hab
 have two : ∀ k, polAt [A, B] k ≠ [] → k = 0 ∨ k = 1 := fun k hk => by
  unfold polAt at hk
  match k with
  | 0 => exact .inl rfl
  | 1 => exact .inr rfl
  | k + 2 => exact absurd rfl hk
 have both : A ≠ [] ∧ B ≠ [] := by
  rcases two i hi with rfl | rfl <;> rcases two j hj with rfl | rfl
  ·exact absurd rfl hij
  ·exact ⟨hi, hj⟩
  ·exact ⟨hj, hi⟩
  ·exact absurd rfl hij
 obtain ⟨t, p, rfl⟩ : ∃ t p, A = t :: p := by cases A with | nil => exact absurd rfl both.1 | cons t p => exact ⟨t, p, rfl⟩
 obtain ⟨s, q, rfl⟩ : ∃ t p, B = t :: p := by cases B with | nil => exact absurd rfl both.2 | cons t p => exact ⟨t, p, rfl⟩
 have hg : (splitD o (crossD o (t :: p) (s :: q)).2 [t :: p, s :: q]).1 = 0 ∧ (splitD o (crossD o (t :: p) (s :: q)).2 [t :: p, s :: q]).2.2 = [] := by
  unfold groebD at h
  split at h
  ·cases h
  rw [show fullD [t :: p, s :: q] = [t :: p, s :: q] from rfl, show allP (([t :: p, s :: q] : List (List TermD)).length : Nat) = [(0, 1)] from rfl] at h
  unfold crossAll at h
  simp only [show ((0 : Int).toNat) = 0 from rfl, show ((1 : Int).toNat) = 1 from rfl, List.getD_cons_zero, List.getD_cons_succ] at h
  split at h
  ·exact absurd (congrArg Prod.snd h) (by simp)
  split at h
  ·exact absurd (congrArg Prod.snd h) (by simp)
  split at h
  ·exact absurd (congrArg Prod.snd h) (by simp)
  rename_i h1 h2 h3
  exact ⟨by simpa using h2, by simpa using h3⟩
 have sw : ∀ (x y : MonD) (a b : Rat), Nn x → Nn y → addM t.m x = d → addM s.m y = d → a * qv t.c + b * qv s.c = 0 → _ := fun x y a b => test_two hA hB hg.1 hg.2 (x := x) (y := y) (d := d) (a := a) (b := b)
 rcases two i hi with rfl | rfl <;> rcases two j hj with rfl | rfl
 ·exact absurd rfl hij
 ·exact sw u v a b hu hv eu ev' hab
 ·obtain ⟨G, g1, g2⟩ := sw v u b a hv hu ev' eu (by
    have : a * qv s.c + b * qv t.c = 0 := hab
    grind)
  refine ⟨G, g1, fun f => ?_⟩
  rw [← g2]
  show a * lin _ (s :: q) + b * lin _ (t :: p) = _
  grind
 ·exact absurd rfl hij
theorem in_law {o : Int} {A B T U : List TermD} (hA : SmP o A) (hB : SmP o B) (hT : SmP o T) (hU : SmP o U) (h : groebD o [A, B] = (0, true)) (h1 : (polMul o A T).1 = 0) (h2 : (polMul o B U).1 = 0) (h3 : (polAdd o [(polMul o A T).2, (polMul o B U).2]).1 = 0)
    (h4 : (splitD o (polAdd o [(polMul o A T).2, (polMul o B U).2]).2 [A, B]).1 = 0) : (splitD o (polAdd o [(polMul o A T).2, (polMul o B U).2]).2 [A, B]).2.2 = [] := by
 have ho := hA.cp.ord
 obtain ⟨a1, a2, _⟩ := polMul_good hA.cp hT.cp h1
 obtain ⟨b1, b2, _⟩ := polMul_good hB.cp hU.cp h2
 have hl : ∀ b ∈ [A, B], CP o b := fun b hb => by
  simp only [List.mem_cons, List.not_mem_nil, or_false] at hb
  rcases hb with rfl | rfl
  ·exact hA.cp
  ·exact hB.cp
 obtain ⟨c1, c2⟩ := polAdd_good (ps := [(polMul o A T).2, (polMul o B U).2]) (fun p hp => by
  simp only [List.mem_cons, List.not_mem_nil, or_false] at hp
  rcases hp with rfl | rfl
  ·exact a1
  ·exact b1) h3
 obtain ⟨G1, g1, e1⟩ := cmb_any (l := [A, B]) 0 1 (q := T) fun x hx => monMay_nn (hT.cp.canon.sta.good x hx)
 obtain ⟨G2, g2, e2⟩ := cmb_any (l := [A, B]) 1 1 (q := U) fun x hx => monMay_nn (hU.cp.canon.sta.good x hx)
 refine ideal_rest hl (groeb_tst hA hB h) c1 (G := G1 ++ G2) (fun x hx => (List.mem_append.1 hx).elim (g1 x) (g2 x)) (fun f => ?_) h4
 rw [c2, ev_app, ← e1, ← e2]
 show lin f ((polMul o A T).2 ++ ((polMul o B U).2 ++ [])) = 1 * linP f A T + 1 * linP f B U
 rw [List.append_nil, lin_app, a2, b2]
 grind
theorem dvd_zero {a : MonD} (h : (monDiv zeroM a).1 = true) : a = zeroM := by
 obtain ⟨_, m1, m2, e⟩ := monDiv_true (q := (monDiv zeroM a).2) (by rw [← h])
 have h1 := monMay_of m1
 have h2 := monMay_of m2
 generalize (monDiv zeroM a).2 = q at e h2
 obtain ⟨a0, a1, a2, a3⟩ := a
 obtain ⟨q0, q1, q2, q3⟩ := q
 unfold addM zeroM at e
 unfold zeroM
 simp only [MonD.mk.injEq] at e h1 h2 ⊢
 omega
theorem zero_dvd {a : MonD} (h : monMay a = true) : (monDiv a zeroM).1 = true := by
 rw [monDiv_of h monMay_zero h (by rw [addM_comm]; exact addM_zero _)]
theorem const_of {o : Int} {u : TermD} {b : List TermD} (h : CP o (u :: b)) (hu : u.m = zeroM) : b = [] := by
 cases b with
 | nil => rfl
 | cons s b =>
   have h1 := h.below s (by simp)
   have ms := h.canon.sta.good s (by simp)
   have h2 := monCmp_zeroM h.ord ms
   have h3 := monCmp_anti h.ord ms monMay_zero
   rw [hu] at h1
   omega
theorem sm_one {o : Int} (ho : oOk o) : SmP o [⟨ofD 1, zeroM⟩] := by
 refine ⟨⟨(Ints.one (n := 1) monMay_zero).le (by decide), (cp_num (n := 1) ho (by decide) (by decide)).canon, by simp⟩, fun s hs => ?_, by simp⟩
 simp only [List.mem_cons, List.not_mem_nil, or_false] at hs
 rw [hs]
 decide
def Unit (l : List (List TermD)) : Prop := ∃ p ∈ l, p ≠ [] ∧ hdM p = zeroM
theorem unit_rest {o : Int} {A B : List TermD} (hA : SmP o A) (hB : SmP o B) : (splitD o [⟨ofD 1, zeroM⟩] [A, B]).1 = 0 ∧ ((splitD o [⟨ofD 1, zeroM⟩] [A, B]).2.2 = [] ↔ Unit [A, B]) := by
 have ho := hA.cp.ord
 have h1 := sm_one ho
 have hl : ∀ b ∈ [A, B], SmP o b := fun b hb => by
  simp only [List.mem_cons, List.not_mem_nil, or_false] at hb
  rcases hb with rfl | rfl
  ·exact hA
  ·exact hB
 have hlc : ∀ b ∈ [A, B], CP o b := fun b hb => (hl b hb).cp
 generalize hL : [A, B] = l at hl hlc ⊢
 have h24 : l.length ≤ 24 := by rw [← hL]; simp
 clear hL hA hB
 cases hd : dividesD l zeroM with
 | none =>
   rw [splitD_rest h1.cp hlc h24 fun t ht => by
    simp only [List.mem_cons, List.not_mem_nil, or_false] at ht
    rw [ht]; exact hd]
   refine ⟨rfl, ⟨fun h => (by cases h), fun ⟨p, hp, hne, hz⟩ => ?_⟩⟩
   obtain ⟨i, hi⟩ := List.mem_iff_getElem?.1 hp
   cases p with
   | nil => exact absurd rfl hne
   | cons u b =>
     have h2 := dividesD_none hd hi
     have hz : u.m = zeroM := hz
     rw [hz, zero_dvd monMay_zero] at h2
     cases h2
 | some x =>
   obtain ⟨i, q⟩ := x
   obtain ⟨u, b, hi, hq⟩ := dividesD_lt hd
   have hu := dvd_zero (a := u.m) (by rw [hq])
   have hm := List.mem_of_getElem? hi
   have hb := const_of (hlc _ hm) hu
   subst hb
   have eq : q = zeroM := by
    obtain ⟨_, _, _, e⟩ := monDiv_true hq
    rw [hu, addM_comm, addM_zero] at e
    exact e
   subst eq
   obtain ⟨z, ez, hz⟩ := ints_of (hl _ hm).pol.ints (t := u) (by simp)
   have hz0 : z ≠ 0 := fun e => (hlc _ hm).ne (t := u) (by simp) (by rw [ez, qv_ofD, e]; rfl)
   have eu : u = ⟨ofD z, zeroM⟩ := by
    obtain ⟨c, m⟩ := u
    simp only at ez hu
    rw [ez, hu]
   have hg : l.getD i [] = [⟨ofD z, zeroM⟩] := by rw [List.getD_eq_getElem?_getD, hi, eu]; rfl
   have hil := (List.getElem?_eq_some_iff.1 hi).1
   have hr : (List.replicate l.length ([] : List TermD)).getD i [] = [] := by
    rw [List.getD_eq_getElem?_getD, List.getElem?_replicate, if_pos hil]; rfl
   obtain ⟨c, ec⟩ := one_move (o := o) (t := ⟨ofD 1, zeroM⟩) (p := []) (q := []) (n := z) (k := 0) hz0 hz h1 (cp_num ho hz0 hz) (by decide) (by simp)
   rw [splitD_F h1.cp hlc h24]
   obtain ⟨n, hn⟩ : ∃ n, 400 * 61 + 61 = n + 1 + 1 := ⟨24459, rfl⟩
   have e : splitF o l (n + 1 + 1) [⟨ofD 1, zeroM⟩] (List.replicate l.length []) [] 0 = (0, (List.replicate l.length []).set i [⟨c, zeroM⟩], []) := by
    unfold splitF
    simp only
    rw [hd]
    simp only
    rw [hg, hr, ec, if_neg (by simp)]
    rfl
   rw [hn, e]
   refine ⟨rfl, ⟨fun _ => ⟨_, hm, by simp, hu⟩, fun _ => rfl⟩⟩
theorem full_unit {l : List (List TermD)} : Unit l ↔ ∃ p ∈ fullD l, hdM p = zeroM := by
 unfold fullD
 constructor
 ·rintro ⟨p, hp, hne, hz⟩
  exact ⟨p, List.mem_filter.2 ⟨hp, by simpa using hne⟩, hz⟩
 ·rintro ⟨p, hp, hz⟩
  obtain ⟨h1, h2⟩ := List.mem_filter.1 hp
  exact ⟨p, h1, by simpa using h2, hz⟩
theorem unit_red {o : Int} {l R : List (List TermD)} (hl : ∀ p ∈ l, CP o p) (hR : RedIs o l 0 R) : R = [[⟨ofD 1, zeroM⟩]] ↔ Unit l := by
 obtain ⟨e1, _, e2⟩ := hR
 obtain ⟨p1, s1⟩ := e2 rfl
 obtain ⟨F, _, hm, eh⟩ := red_form hl e1.symm
 obtain ⟨m1, m2⟩ := monics_ok (full_pz hl) hm
 have eM := heads_M eh
 have sub := inter_sub (monicsD o (fullD l)).2 []
 rw [List.nil_append] at sub
 have hcov := inter_cover (monicsD o (fullD l)).2 [] fun p hp => (m1 p hp).pz.may
 have FR := F.perm p1
 have eR : ∀ x, x ∈ R.map hdM ↔ x ∈ (interD [] (monicsD o (fullD l)).2).map hdM := fun x => by
  rw [← eM]; exact (p1.map hdM).mem_iff
 rw [full_unit]
 constructor
 ·intro h
  have h1 : zeroM ∈ R.map hdM := by rw [h]; simp [hdM, hdT]
  rw [eR] at h1
  have h2 : zeroM ∈ (fullD l).map hdM := by rw [← m2]; exact (sub.map hdM).subset h1
  obtain ⟨p, hp, e⟩ := List.mem_map.1 h2
  exact ⟨p, hp, e⟩
 ·rintro ⟨p, hp, hz⟩
  have h1 : zeroM ∈ (monicsD o (fullD l)).2.map hdM := by rw [m2]; exact List.mem_map.2 ⟨p, hp, hz⟩
  obtain ⟨q, hq, eq⟩ := List.mem_map.1 h1
  obtain ⟨r, hr, hd⟩ := hcov q hq
  unfold dvd at hd
  rw [eq] at hd
  have h2 := (eR zeroM).2 (List.mem_map.2 ⟨r, hr, dvd_zero hd⟩)
  obtain ⟨r, hr, er⟩ := List.mem_map.1 h2
  have one : r = [⟨ofD 1, zeroM⟩] := by
   have h3 := FR.mz r hr
   cases r with
   | nil => exact absurd rfl h3.pz.ne
   | cons u b =>
     have hu : u.m = zeroM := er
     have hc : u.c = ofD 1 := h3.one
     rw [const_of h3.pz.cp hu]
     obtain ⟨c, m⟩ := u
     simp only at hu hc
     rw [hu, hc]
  have all : ∀ x ∈ R, dvd r x = true := fun x hx => by
   unfold dvd
   rw [er]
   exact zero_dvd (FR.mz x hx).pz.may
  have nd := FR.nd
  rw [← one]
  clear one h1 h2 eR FR
  match R, nd, hr, all with
  | [x], _, hr, _ =>
    simp only [List.mem_cons, List.not_mem_nil, or_false] at hr
    rw [hr]
  | x :: y :: R', nd, hr, all =>
    exfalso
    have n1 := (List.pairwise_cons.1 nd).1
    rcases List.mem_cons.1 hr with e | hr
    ·have := (n1 y (by simp)).1
     rw [← e, all y (by simp)] at this
     cases this
    ·have := (n1 r hr).2
     rw [all x (by simp)] at this
     cases this
end Go.Proofs.YtgjkgkgieeoalaaGreat
