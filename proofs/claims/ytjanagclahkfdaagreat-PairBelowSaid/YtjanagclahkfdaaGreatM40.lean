/- Parts of the proof, joined: what each says stands at its head. -/
import Derived.Test.YtjanagclahkfdaaGreatM39
import Derived.Test.YtjanagclahkfdaaGreatM27
import Derived.Test.YtjanagclahkfdaaGreatM28
set_option linter.unusedVariables false
set_option linter.unusedSimpArgs false
set_option maxHeartbeats 24000000
set_option maxRecDepth 100000
namespace Go.Proofs.YtjanagclahkfdaaGreat
theorem lin_van {g : MonD → Rat} {p : List TermD} (h : ∀ s ∈ p, g s.m = 0) : lin g p = 0 := by
 induction p with
 | nil => rfl
 | cons t p ih =>
   simp only [lin]
   rw [h t (by simp), ih fun s hs => h s (by simp [hs])]
   grind
theorem mulM_lt {o : Int} (ho : oOk o) {a b c : MonD} (ha : monMay a = true) (hb : monMay b = true) (hc : monMay c = true) (hac : monMay (addM a c) = true) (hbc : monMay (addM b c) = true) (h : 0 < monCmp o a b) : monCmp o (addM b c) (addM a c) < 0 := by
 rw [monCmp_mul ho hb ha hc hbc hac, monCmp_anti ho ha hb]
 omega
theorem lead {o : Int} {t u : TermD} {p q : List TermD} (hp : SmP o (t :: p)) (hq : SmP o (u :: q)) (h0 : (polMul o (t :: p) (u :: q)).1 = 0) : ∃ s r, (polMul o (t :: p) (u :: q)).2 = s :: r ∧ s.m = addM t.m u.m := by
 have ho := hp.pol.canon.sta.ord
 obtain ⟨h1, e1⟩ := prods_sum hp hq
 have hf := hp.fits hq
 have gp := hp.pol.canon.sta.good
 have gq := hq.pol.canon.sta.good
 obtain ⟨fp, _⟩ := List.pairwise_cons.1 hp.pol.canon.sta.fall
 obtain ⟨fq, _⟩ := List.pairwise_cons.1 hq.pol.canon.sta.fall
 have tm : t ∈ t :: p := by simp
 have um : u ∈ u :: q := by simp
 have W := hf u um t tm
 have lt1 : ∀ s ∈ p, ∀ v ∈ u :: q, monCmp o (addM s.m v.m) (addM t.m v.m) < 0 := fun s hs v hv =>
  mulM_lt ho (gp t tm) (gp s (by simp [hs])) (gq v hv) (hf v hv t tm) (hf v hv s (by simp [hs])) (fp s hs)
 have lt2 : ∀ v ∈ q, monCmp o (addM t.m v.m) (addM t.m u.m) < 0 := fun v hv => by
  have := mulM_lt ho (gq u um) (gq v (by simp [hv])) (gp t tm) (by rw [addM_comm]; exact W) (by rw [addM_comm]; exact hf v (by simp [hv]) t tm) (fq v hv)
  rwa [addM_comm v.m, addM_comm u.m] at this
 have lt3 : ∀ s ∈ t :: p, ∀ v ∈ q, monCmp o (addM s.m v.m) (addM t.m u.m) < 0 := fun s hs v hv => by
  have hv' : v ∈ u :: q := by simp [hv]
  rcases List.mem_cons.1 hs with rfl | hs
  ·exact lt2 v hv
  ·exact monCmp_lt ho (hf v hv' s (by simp [hs])) (hf v hv' t tm) W (lt1 s hs v hv') (lt2 v hv)
 have ne : ∀ {m : MonD}, monMay m = true → monCmp o m (addM t.m u.m) < 0 → m ≠ addM t.m u.m := fun hm h e => by
  have := (monCmp_zero ho hm W).2 e
  omega
 have hG : lin (ind (addM t.m u.m)) (prods (t :: p) (u :: q)) = qv u.c * qv t.c := by
  rw [lin_prods hp.pol.ints (by decide) _ hq.pol.ints (by decide)]
  simp only [lin]
  rw [lin_van (p := q) (fun v hv => ?_), lin_van (p := p) (fun s hs => ?_)]
  ·unfold ind
   rw [if_pos rfl]
   grind
  ·unfold ind
   rw [if_neg (ne (hf u um s (by simp [hs])) (lt1 s hs u um))]
  ·show qv t.c * ind (addM t.m u.m) (addM t.m v.m) + lin (fun m => ind (addM t.m u.m) (addM m v.m)) p = 0
   have hv' : v ∈ u :: q := by simp [hv]
   rw [lin_van (p := p) (fun s hs => ?_)]
   ·unfold ind
    rw [if_neg (ne (hf v hv' t tm) (lt3 t tm v hv))]
    grind
   ·unfold ind
    rw [if_neg (ne (hf v hv' s (by simp [hs])) (lt3 s (by simp [hs]) v hv))]
 have hne : qv u.c * qv t.c ≠ 0 := by
  have a1 := (hp.pol.canon.good t tm).ne (hp.pol.canon.nz t tm)
  have a2 := (hq.pol.canon.good u um).ne (hq.pol.canon.nz u um)
  intro h
  rcases Rat.mul_eq_zero.1 h with h | h
  ·exact a2 h
  ·exact a1 h
 rw [e1] at h0 ⊢
 obtain ⟨hpol, e2⟩ := h1.pol h0
 have hlin := h1.lin (ind (addM t.m u.m))
 rw [hG] at hlin
 have hcan := h1.canon
 have hmem := h1.mem
 rw [e2]
 show ∃ s r, polSum o (prods (t :: p) (u :: q)) = s :: r ∧ s.m = addM t.m u.m
 generalize polSum o (prods (t :: p) (u :: q)) = x at hlin hcan hmem
 have hle : ∀ s ∈ x, monCmp o s.m (addM t.m u.m) ≤ 0 := fun s hs => by
  obtain ⟨y, hy, e⟩ := hmem s hs
  rw [← e]
  unfold prods at hy
  obtain ⟨v, hv, hy⟩ := List.mem_flatMap.1 hy
  obtain ⟨z, hz, rfl⟩ := List.mem_map.1 hy
  show monCmp o (addM z.m v.m) (addM t.m u.m) ≤ 0
  rcases List.mem_cons.1 hv with rfl | hv
  ·rcases List.mem_cons.1 hz with rfl | hz
   ·exact Int.le_of_eq ((monCmp_zero ho W W).2 rfl)
   ·exact Int.le_of_lt (lt1 z hz v um)
  ·exact Int.le_of_lt (lt3 z hz v hv)
 have hex : ∃ s ∈ x, s.m = addM t.m u.m := by
  refine Classical.byContradiction fun hn => ?_
  rw [lin_ind_not (fun s hs e => hn ⟨s, hs, e⟩)] at hlin
  exact hne hlin.symm
 obtain ⟨s, hs, es⟩ := hex
 match x, hcan, hle, hs with
 | y :: r, hcan, hle, hs =>
   refine ⟨y, r, rfl, ?_⟩
   rcases List.mem_cons.1 hs with rfl | hs
   ·exact es
   ·have h1 := (List.pairwise_cons.1 hcan.sta.fall).1 s hs
    have h2 := hle y (by simp)
    rw [es] at h1
    omega
theorem lead_nil {o : Int} {p q : List TermD} (hp : SmP o p) (hq : SmP o q) (h : p = [] ∨ q = []) : polMul o p q = (0, []) := by
 rcases h with rfl | rfl
 ·rw [(ring_mul hp hq).1]; exact zero_mul hq
 ·exact zero_mul hp
theorem one_law {o : Int} {p l : List TermD} {M : Nat} (hp : SmP o p) (hl : Ints M l) (hM : M < 4611686018427387904) (h : ∀ f, lin f l = lin f p) : polMake o l = (0, p) :=
 (sum_ok hp.pol.canon.sta.ord hl hM).eq hp.pol.canon h hp.pol.len
theorem lin_pair (f : MonD → Rat) (n : Int) (m : MonD) (l : List TermD) : lin f (l ++ [⟨ofD n, m⟩, ⟨ofD (-n), m⟩]) = lin f l := by
 rw [lin_app]
 simp only [lin, qv_ofD, Rat.intCast_neg]
 grind
theorem mulD_small {r s : RatD} (hr : GoodR r) (hs : GoodR s) (h1 : val r.num * val s.num < 18446744073709551616 ^ 8) (h2 : val r.den * val s.den < 18446744073709551616 ^ 8) :
    (mulD r s).1 = 0 ∧ GoodR (mulD r s).2 ∧ qv (mulD r s).2 = qv r * qv s ∧ val (mulD r s).2.num ≤ val r.num * val s.num ∧ val (mulD r s).2.den ≤ val r.den * val s.den := by
 have l1 := limbs_len.2 h1
 have l2 := limbs_len.2 h2
 have hb : isBig [limbs (val r.num * val s.num), limbs (val r.den * val s.den)] = false := isBig_no fun x hx => by
  simp only [List.mem_cons, List.not_mem_nil, or_false] at hx
  rcases hx with rfl | rfl
  ·exact l1
  ·exact l2
 have hd : val r.den * val s.den ≠ 0 := Nat.mul_ne_zero hr.den hs.den
 have e : mulD r s = makeD (r.neg != s.neg) (limbs (val r.num * val s.num)) (limbs (val r.den * val s.den)) := by
  unfold mulD
  rw [hr.may, hs.may, if_neg (by simp), hb, if_neg (by simp)]
 rcases mulD_q hr hs with h | ⟨h, hf⟩
 ·rw [e, makeD_q _ _ _ hd l1 l2] at h
  cases h
 ·rw [h]
  refine ⟨rfl, ofQ_good hf, qv_ofQ _, ?_⟩
  rw [e, makeD_q _ _ _ hd l1 l2, ofQ_mk _ _ _ hd] at h
  have h' := congrArg Prod.snd h
  simp only at h'
  rw [← h']
  simp only [val_limbs]
  exact ⟨Nat.div_le_self _ _, Nat.div_le_self _ _⟩
theorem timesL_map {t : TermD} : ∀ {p : List TermD}, (∀ s ∈ p, (mulD s.c t.c).1 = 0 ∧ monMul s.m t.m = (0, addM s.m t.m)) → timesL t p = (0, p.map fun s => mulT s t)
 | [], _ => rfl
 | s :: r, h => by
   have ih := timesL_map (t := t) (p := r) fun x hx => h x (by simp [hx])
   obtain ⟨h1, h2⟩ := h s (by simp)
   unfold timesL
   rw [ih, h1, h2]
   simp [mulT]
theorem monMul_zero {m : MonD} (h : monMay m = true) : monMul m zeroM = (0, addM m zeroM) := by
 unfold monMul
 rw [h, monMay_zero, addM_zero, h]; rfl
def Lit (r : RatD) : Prop := GoodR r ∧ val r.num < 18446744073709551616 ∧ val r.den < 18446744073709551616
theorem mulD_lit {r s : RatD} (hr : Lit r) (hs : Lit s) : (mulD r s).1 = 0 ∧ GoodR (mulD r s).2 ∧ qv (mulD r s).2 = qv r * qv s ∧ val (mulD r s).2.num ≤ val r.num * val s.num ∧ val (mulD r s).2.den ≤ val r.den * val s.den := by
 obtain ⟨g, a, b⟩ := hr
 obtain ⟨g', a', b'⟩ := hs
 have key : ∀ x y : Nat, x < 18446744073709551616 → y < 18446744073709551616 → x * y < 18446744073709551616 ^ 8 := fun x y hx hy =>
  Nat.lt_of_lt_of_le (Nat.mul_lt_mul_of_le_of_lt (Nat.le_of_lt hx) hy (by decide)) (by decide)
 exact mulD_small g g' (key _ _ a a') (key _ _ b b')
theorem polTimes_lit {o : Int} {p : List TermD} {k : RatD} (hp : polMay o p = true) (hg : GoodM p) (hl : ∀ s ∈ p, Lit s.c) (hk : Lit k) (h0 : k.num.length ≠ 0) :
    polTimes o p ⟨k, zeroM⟩ = (0, p.map fun s => mulT s ⟨k, zeroM⟩) := by
 unfold polTimes
 rw [hp, show right ⟨k, zeroM⟩ = true from GoodT.right ⟨hk.1, monMay_zero⟩, if_neg (by simp), if_neg h0]
 exact timesL_map fun s hs => ⟨(mulD_lit (hl s hs) hk).1, monMul_zero (hg s hs)⟩
theorem mulT_zm (s : TermD) (k : RatD) : (mulT s ⟨k, zeroM⟩).m = s.m := by show addM s.m zeroM = s.m; exact addM_zero _
structure MonicOk (o : Int) (p m : List TermD) (t u : TermD) : Prop where
 monic : polMonic o p = (0, m)
 back : polTimes o m ⟨t.c, zeroM⟩ = (0, p)
 again : polMonic o m = (0, m)
 first : u.c = ofD 1
theorem monic_law {o : Int} {t : TermD} {p : List TermD} (hp : SmP o (t :: p)) : ∃ u m, m.length = p.length ∧ MonicOk o (t :: p) (u :: m) t u := by
 have tm : t ∈ t :: p := by simp
 have hmay := hp.pol.may
 have hg := hp.pol.canon.sta.good
 have hint : ∀ s ∈ t :: p, Lit s.c ∧ val s.c.num ≤ 1280 ∧ val s.c.den = 1 := fun s hs => by
  obtain ⟨n, e⟩ := hp.pol.ints.int s hs
  have h1 := Nat.le_trans (mass_mem hs) hp.pol.ints.mass
  have h2 : val s.c.den = 1 := by rw [e]; rfl
  exact ⟨⟨(hp.pol.canon.good s hs).c, by omega, by omega⟩, h1, h2⟩
 obtain ⟨lt, tn, td⟩ := hint t tm
 have tz := hp.pol.canon.nz t tm
 have tz' : t.c.num.length ≠ 0 := by unfold nz at tz; simpa using tz
 have tq := (hp.pol.canon.good t tm).ne tz
 obtain ⟨i1, i2⟩ := invD_q lt.1 tz'
 have ik : invD t.c = (0, ⟨t.c.neg, t.c.den, t.c.num⟩) := by
  unfold invD
  rw [lt.1.may, if_neg (by simp), if_neg tz']
 obtain ⟨k, hk⟩ : ∃ k, (invD t.c).2 = k := ⟨_, rfl⟩
 have k1 : k = ofQ (qv t.c)⁻¹ := by rw [← hk, i1]
 have kq : qv k = (qv t.c)⁻¹ := by rw [k1, qv_ofQ]
 have kn : val k.num = 1 ∧ val k.den = val t.c.num := by
  rw [← hk, ik]; exact ⟨td, rfl⟩
 have kg : GoodR k := by rw [k1]; exact ofQ_good i2
 have kl : Lit k := ⟨kg, by omega, by omega⟩
 have kne : qv k ≠ 0 := by
  rw [kq]
  intro h
  have := Rat.mul_inv_cancel _ tq
  rw [h, Rat.mul_zero] at this
  exact absurd this (by decide)
 have kz : k.num.length ≠ 0 := fun h => kne (kg.nil_iff.1 h)
 have e1 : polMonic o (t :: p) = (0, (t :: p).map fun s => mulT s ⟨k, zeroM⟩) := by
  unfold polMonic
  rw [hmay, if_neg (by simp)]
  simp only
  rw [hk, show (invD t.c).1 = 0 by rw [i1], if_neg (by simp)]
  exact polTimes_lit hmay hg (fun s hs => (hint s hs).1) kl kz
 have hm : ∀ s ∈ t :: p, Lit (mulT s ⟨k, zeroM⟩).c ∧ qv (mulT s ⟨k, zeroM⟩).c = qv s.c * (qv t.c)⁻¹ := fun s hs => by
  obtain ⟨a1, a2, a3⟩ := hint s hs
  obtain ⟨_, b2, b3, b4, b5⟩ := mulD_lit a1 kl
  rw [kn.1] at b4
  rw [a3, kn.2] at b5
  exact ⟨⟨b2, Nat.lt_of_le_of_lt b4 (by omega), Nat.lt_of_le_of_lt b5 (by omega)⟩, by rw [← kq]; exact b3⟩
 have hnz : ∀ s ∈ t :: p, qv (mulT s ⟨k, zeroM⟩).c ≠ 0 := fun s hs h => by
  rw [(hm s hs).2] at h
  rcases Rat.mul_eq_zero.1 h with h | h
  ·exact (hp.pol.canon.good s hs).ne (hp.pol.canon.nz s hs) h
  ·rw [← kq] at h; exact kne h
 have hc : Canon o ((t :: p).map fun s => mulT s ⟨k, zeroM⟩) := by
  refine ⟨⟨hp.pol.canon.sta.ord, fun x hx => ?_, ?_⟩, fun x hx => ?_, fun x hx => ?_⟩
  ·obtain ⟨s, hs, rfl⟩ := List.mem_map.1 hx
   rw [mulT_zm]; exact hg s hs
  ·unfold Fall
   rw [List.pairwise_map]
   exact hp.pol.canon.sta.fall.imp fun h => by rw [mulT_zm, mulT_zm]; exact h
  ·obtain ⟨s, hs, rfl⟩ := List.mem_map.1 hx
   exact ⟨(hm s hs).1.1, by rw [mulT_zm]; exact hg s hs⟩
  ·obtain ⟨s, hs, rfl⟩ := List.mem_map.1 hx
   have := hnz s hs
   unfold nz
   rw [decide_eq_false (fun h => this ((hm s hs).1.1.nil_iff.1 h))]; rfl
 have hmay2 := canon_may hc (by rw [List.length_map]; exact hp.pol.len)
 have e2 : polTimes o ((t :: p).map fun s => mulT s ⟨k, zeroM⟩) ⟨t.c, zeroM⟩ = (0, t :: p) := by
  rw [polTimes_lit hmay2 hc.sta.good (fun x hx => by
   obtain ⟨s, hs, rfl⟩ := List.mem_map.1 hx
   exact (hm s hs).1) lt tz', List.map_map]
  refine congrArg (Prod.mk 0) ?_
  rw [show ((t :: p).map ((fun s => mulT s ⟨t.c, zeroM⟩) ∘ fun s => mulT s ⟨k, zeroM⟩)) = (t :: p).map id from List.map_congr_left fun s hs => ?_, List.map_id]
  obtain ⟨a1, a2⟩ := hm s hs
  obtain ⟨_, b2, b3, _⟩ := mulD_lit a1 lt
  have hcc : (mulD (mulT s ⟨k, zeroM⟩).c t.c).2 = s.c := b2.inj (hint s hs).1.1 (by
   rw [b3, a2, Rat.mul_assoc, Rat.inv_mul_cancel _ tq, Rat.mul_one])
  show (⟨(mulD (mulT s ⟨k, zeroM⟩).c t.c).2, addM (mulT s ⟨k, zeroM⟩).m zeroM⟩ : TermD) = s
  rw [hcc, addM_zero, mulT_zm]
 have hu : (mulT t ⟨k, zeroM⟩).c = ofD 1 := (hm t tm).1.1.inj (ofD_small (n := 1) (by decide)) (by
  rw [(hm t tm).2, Rat.mul_inv_cancel _ tq, qv_ofD]; rfl)
 have l1 : Lit (ofD 1) := ⟨ofD_small (by decide), by rw [val_ofD]; decide, by show val [1] < _; decide⟩
 have z1 : (ofD 1).num.length ≠ 0 := ofD_num (by decide)
 have v1 : invD (ofD 1) = (0, ofD 1) := by
  unfold invD
  rw [l1.1.may, if_neg (by simp), if_neg z1]
  unfold ofD
  rw [show limbs (Int.natAbs 1) = [1] from limbs_1]
 have e3 : polMonic o ((t :: p).map fun s => mulT s ⟨k, zeroM⟩) = (0, (t :: p).map fun s => mulT s ⟨k, zeroM⟩) := by
  have hh : ∀ x ∈ (t :: p).map (fun s => mulT s ⟨k, zeroM⟩), Lit x.c := fun x hx => by
   obtain ⟨s, hs, rfl⟩ := List.mem_map.1 hx
   exact (hm s hs).1
  have h5 : polTimes o ((t :: p).map fun s => mulT s ⟨k, zeroM⟩) ⟨ofD 1, zeroM⟩ = (0, (t :: p).map fun s => mulT s ⟨k, zeroM⟩) := by
   rw [polTimes_lit hmay2 hc.sta.good hh l1 z1]
   refine congrArg (Prod.mk 0) ?_
   rw [show (((t :: p).map fun s => mulT s ⟨k, zeroM⟩).map fun s => mulT s ⟨ofD 1, zeroM⟩) = ((t :: p).map fun s => mulT s ⟨k, zeroM⟩).map id from List.map_congr_left fun x hx => ?_, List.map_id]
   obtain ⟨_, b2, b3, _⟩ := mulD_lit (hh x hx) l1
   have hcc : (mulD x.c (ofD 1)).2 = x.c := b2.inj (hh x hx).1 (by rw [b3, qv_ofD]; exact Rat.mul_one _)
   show (⟨(mulD x.c (ofD 1)).2, addM x.m zeroM⟩ : TermD) = x
   rw [hcc, addM_zero]
  unfold polMonic
  rw [hmay2, if_neg (by simp)]
  simp only [List.map_cons]
  rw [hu, v1, if_neg (by simp)]
  simpa using h5
 exact ⟨mulT t ⟨k, zeroM⟩, p.map fun s => mulT s ⟨k, zeroM⟩, by simp, e1, e2, e3, hu⟩
end Go.Proofs.YtjanagclahkfdaaGreat
namespace Go.Proofs.YtjanagclahkfdaaGreat
open Go.RowKit
def smT (n : Int) (m : Int × Int × Int) : TermD := ⟨ofD n, ⟨m.1.tmod 4, m.2.1.tmod 4, m.2.2.tmod 4, 0⟩⟩
def smL (ns : List Int) (ms : List (Int × Int × Int)) : List TermD := ((ns.zip ms).take 10).map fun x => smT x.1 x.2
def madeD (o : Int) (ns : List Int) (ms : List (Int × Int × Int)) : List TermD := (polMake o (smL ns ms)).2
def flat3 (ms : List (Int × Int × Int)) : List Value := ms.flatMap fun m => [.int .u8 m.1, .int .u8 m.2.1, .int .u8 m.2.2]
structure RSm (w : World) (A : Option Addr) (c : Nat) (B : Option Addr) (d : Nat) (ns : List Int) (ms : List (Int × Int × Int)) : Prop where
 n : Rd w w.heap.size 1 A ns.length (ints .i8 ns)
 m : Rd w w.heap.size 3 B ms.length (flat3 ms)
 nc : ns.length ≤ c
 md : ms.length ≤ d
 nb : ∀ x ∈ ns, -128 ≤ x ∧ x ≤ 127
 mb : ∀ x ∈ ms, (0 ≤ x.1 ∧ x.1 ≤ 255) ∧ (0 ≤ x.2.1 ∧ x.2.1 ≤ 255) ∧ (0 ≤ x.2.2 ∧ x.2.2 ≤ 255)
theorem smT_sm {n : Int} {m : Int × Int × Int} (hn : -128 ≤ n ∧ n ≤ 127) (hm : (0 ≤ m.1 ∧ m.1 ≤ 255) ∧ (0 ≤ m.2.1 ∧ m.2.1 ≤ 255) ∧ (0 ≤ m.2.2 ∧ m.2.2 ≤ 255)) : Ints 128 [smT n m] ∧ Low 3 [smT n m] := by
 have key : ∀ x : Int, 0 ≤ x → 0 ≤ x.tmod 4 ∧ x.tmod 4 ≤ 3 := fun x hx => by
  rw [Int.tmod_eq_emod_of_nonneg hx]; omega
 have k1 := key _ hm.1.1
 have k2 := key _ hm.2.1.1
 have k3 := key _ hm.2.2.1
 refine ⟨(Ints.one (monMay_low ?_)).le (by omega), fun s hs => ?_⟩
 ·simp only []
  omega
 ·simp only [List.mem_cons, List.not_mem_nil, or_false] at hs
  rw [hs]
  simp only [smT]
  omega
theorem smL_sm {w : World} {A B : Option Addr} {c d : Nat} {ns : List Int} {ms : List (Int × Int × Int)} (h : RSm w A c B d ns ms) : Sm (smL ns ms) := by
 have hb : ∀ x ∈ (ns.zip ms).take 10, (-128 ≤ x.1 ∧ x.1 ≤ 127) ∧ (0 ≤ x.2.1 ∧ x.2.1 ≤ 255) ∧ (0 ≤ x.2.2.1 ∧ x.2.2.1 ≤ 255) ∧ (0 ≤ x.2.2.2 ∧ x.2.2.2 ≤ 255) := fun x hx => by
  have hx := List.mem_of_mem_take hx
  have h1 := List.of_mem_zip (a := x.1) (b := x.2) hx
  exact ⟨h.nb _ h1.1, h.mb _ h1.2⟩
 have hl : ((ns.zip ms).take 10).length ≤ 10 := by rw [List.length_take]; omega
 unfold smL
 generalize (ns.zip ms).take 10 = l at hb hl ⊢
 have key : Ints (128 * l.length) (l.map fun x => smT x.1 x.2) ∧ Low 3 (l.map fun x => smT x.1 x.2) := by
  clear hl
  induction l with
  | nil => exact ⟨Ints.nil, fun s hs => by cases hs⟩
  | cons x l ih =>
    obtain ⟨h1, h2⟩ := ih fun y hy => hb y (by simp [hy])
    obtain ⟨h3, h4⟩ := smT_sm (hb x (by simp)).1 (hb x (by simp)).2
    refine ⟨?_, h4.app h2⟩
    have := h3.app h1
    rw [List.length_cons, Nat.mul_add, Nat.add_comm (128 * l.length)]
    exact this
 exact ⟨key.1.le (by omega), key.2, by rw [List.length_map]; exact hl⟩
theorem made_sm {o : Int} (ho : oOk o) {w : World} {A B : Option Addr} {c d : Nat} {ns : List Int} {ms : List (Int × Int × Int)} (h : RSm w A c B d ns ms) : SmP o (madeD o ns ms) := ((smL_sm h).make ho).1
end Go.Proofs.YtjanagclahkfdaaGreat
